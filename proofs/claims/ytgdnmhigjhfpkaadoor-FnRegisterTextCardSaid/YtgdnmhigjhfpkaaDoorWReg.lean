/- Contracts of the functions on registers. -/
import Derived.Test.YtgdnmhigjhfpkaaDoorWPar
import Derived.Deep.QuietTactic
import Derived.BigQuiet
import Derived.StillTailTactics
namespace Go.Proofs.YtgdnmhigjhfpkaaDoor
open Go.RowKit SS
set_option maxRecDepth 100000

theorem bcell {W w1 : World} (hb : Below W.heap.size W w1) : (∀ b o, b < W.heap.size → w1.cell? ⟨b, o, none⟩ = W.cell? ⟨b, o, none⟩) ∧ (∀ b o, b < W.heap.size → w1.frozen? ⟨b, o, none⟩ = W.frozen? ⟨b, o, none⟩) :=
  ⟨fun b o h => hb.cell (p := ⟨b, o, none⟩) h, fun b o h => hb.frozen (p := ⟨b, o, none⟩) h⟩
theorem below_drewN {B : Nat} {a w : World} (h : Below B a w) (n : Nat) : Below B a (w.drewN n) := by
  induction n generalizing w with
  | zero => exact h
  | succ n ih => rw [Nat.add_comm, ← World.drewN_drewN]; exact ih h.drew

theorem quiet_eq {P : Program} {f : FuncId} {args : Array Value} {w : World} {n : Nat} {v : Value}
    (h : Calls P f args (w.drewN n) fun e w' => e = .returned v ∧ w.drewN n = w') : Calls P f args (w.drewN n) fun e w'' => e = .returned v ∧ ∃ m, w'' = w.drewN m :=
  h.mono fun _ _ ⟨he, hm⟩ => ⟨he, n, hm.symm⟩
theorem still_tail {P : Program} {id : Nat} {Q : Exit → Act → World → Prop} {a : Act} {w : World} {l : List Oper} (n : Nat) (hm : P.follows .mixedOrders = true) (hB : Region.lexTailB .any l.toArray n = true)
    (h : ∀ W, Hid (W = w.drew) → wpStill P l.toArray W (fun a' => wpList P l.toArray Q (l.drop n) a' W) (l.take n) a) : (Code.region id l.toArray true).wp P Q a w :=
  wp_region_still_tail n hm hB (h _ rfl)
theorem rv_tv {s t x : Int} (h : rv s t x = true) : tv s t = true ∧ 0 ≤ x ∧ x < 2 ^ s.toNat := by
  unfold rv at h
  simpa using h

set_option maxHeartbeats 1000000 in
theorem valid_impl (s t x : Int) (w : World) :
    Calls Tryd.prog 13 #[.agg #[.int .i64 s, .int .i64 t, .int .i64 x]] w fun e w' => e = .returned (.bool (rv s t x)) ∧ Below w.heap.size w w' := by
  cases ht : tv s t with
  | false =>
    have E : Hid (rv s t x = false) := by show _ = _; simp [rv, ht]
    go_enter Tryd.func13, Tryd.ntmps13
    go_wp2_with fail
    go_quiet ((go_at_call 24; exact quiet_eq (taps_impl _ _ _)))
    go_wp2
    go_ret
    exact ⟨ret_bool E.out.symm, below_drewN ((Below.refl _ _).alloc (Nat.le_refl _) _) _⟩
  | true =>
    have ⟨_, _, _, _, _, _, _⟩ := tv_yes ht
    by_cases h0 : 0 ≤ x
    · have hd0 : decide (0 ≤ x) = true := decide_eq_true h0
      have hw : IntKind.i64.wrap (2 ^ s.toNat) = 2 ^ s.toNat := by rw [IntKind.wrap_i64]; omega
      have E : Hid (rv s t x = decide (x < 2 ^ s.toNat)) := by show _ = _; simp [rv, ht, h0]
      go_enter Tryd.func13, Tryd.ntmps13
      go_wp2_with fail
      go_quiet ((go_at_call 24; exact quiet_eq (taps_impl _ _ _)))
      go_wp2
      go_ret
      exact ⟨ret_bool E.out.symm, below_drewN ((Below.refl _ _).alloc (Nat.le_refl _) _) _⟩
    · have hd0 : decide (0 ≤ x) = false := decide_eq_false h0
      have E : Hid (rv s t x = false) := by show _ = _; simp [rv, h0]
      go_enter Tryd.func13, Tryd.ntmps13
      go_wp2_with fail
      go_quiet ((go_at_call 24; exact quiet_eq (taps_impl _ _ _)))
      go_wp2
      go_ret
      exact ⟨ret_bool E.out.symm, below_drewN ((Below.refl _ _).alloc (Nat.le_refl _) _) _⟩
set_option maxHeartbeats 1000000 in
theorem valid_spec (s t x : Int) (w : World) :
    Calls Tryd.prog 15 #[.agg #[.int .i64 s, .int .i64 t, .int .i64 x]] w fun e w' => e = .returned (.bool (rv s t x)) ∧ Below w.heap.size w w' := by
  cases ht : tv s t with
  | false =>
    have E : Hid (rv s t x = false) := by show _ = _; simp [rv, ht]
    go_enter Tryd.func15, Tryd.ntmps15
    go_wp2_with fail
    go_quiet ((first | (go_at_call 28; exact quiet_eq (taps_spec _ _ _)) | (go_at_call 30; exact quiet_eq (two_spec _ _ (by omega) (by omega))) | (go_at_call 29; exact quiet_eq (in_spec _ _ _ _))))
    go_wp2
    go_ret
    exact ⟨ret_bool E.out.symm, below_drewN ((Below.refl _ _).alloc (Nat.le_refl _) _) _⟩
  | true =>
    have ⟨_, _, _, _, _, _, _⟩ := tv_yes ht
    have hw : IntKind.i64.wrap (2 ^ s.toNat - 1) = 2 ^ s.toNat - 1 := by rw [IntKind.wrap_i64]; omega
    have E : Hid (rv s t x = (decide (0 ≤ x) && decide (x ≤ 2 ^ s.toNat - 1))) := by
      show _ = _
      unfold rv
      rw [ht, Bool.true_and, ← Bool.decide_and, decide_eq_decide]
      omega
    go_enter Tryd.func15, Tryd.ntmps15
    go_wp2_with fail
    go_quiet ((first | (go_at_call 28; exact quiet_eq (taps_spec _ _ _)) | (go_at_call 30; exact quiet_eq (two_spec _ _ (by omega) (by omega))) | (go_at_call 29; exact quiet_eq (in_spec _ _ _ _))))
    go_wp2
    go_ret
    exact ⟨ret_bool E.out.symm, below_drewN ((Below.refl _ _).alloc (Nat.le_refl _) _) _⟩
end Go.Proofs.YtgdnmhigjhfpkaaDoor
