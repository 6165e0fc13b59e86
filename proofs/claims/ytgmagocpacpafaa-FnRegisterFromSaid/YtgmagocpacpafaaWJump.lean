/- Contracts of many steps. -/
import Derived.Test.YtgmagocpacpafaaWNext
import Derived.Test.YtgmagocpacpafaaWBase
namespace Go.Proofs.Ytgmagocpacpafaa
open Go.RowKit SS
set_option maxRecDepth 100000

theorem rv_mk {s t x : Nat} (h : VR s t x) : rv s t x = true := by
  obtain ⟨h1, h2, h3, h4, h5⟩ := h
  have e : (2 : Int) ^ s = ((2 ^ s : Nat) : Int) := by simp
  have ht : tv s t = true := tv_mk (by omega) (by omega) (by omega) (by rw [Int.toNat_natCast, e]; omega)
  unfold rv
  rw [ht, Bool.true_and]
  exact decide_eq_true ⟨by omega, by rw [Int.toNat_natCast, e]; omega⟩
theorem rv_nat {s t x : Int} (h : rv s t x = true) : ∃ s' t' x' : Nat, s = s' ∧ t = t' ∧ x = x' ∧ VR s' t' x' := by
  obtain ⟨ht, h0, h1⟩ := rv_tv h
  obtain ⟨g1, g2, g3, g4, _, _, _⟩ := tv_yes ht
  obtain ⟨s', rfl⟩ := Int.eq_ofNat_of_zero_le (show 0 ≤ s by omega)
  obtain ⟨t', rfl⟩ := Int.eq_ofNat_of_zero_le (show 0 ≤ t by omega)
  obtain ⟨x', rfl⟩ := Int.eq_ofNat_of_zero_le h0
  have e : (2 : Int) ^ s' = ((2 ^ s' : Nat) : Int) := by simp
  rw [Int.toNat_natCast, e] at g4 h1
  exact ⟨s', t', x', rfl, rfl, rfl, by omega, by omega, by omega, by omega, by omega⟩

/-- one call behind the other -/
theorem next {W w1 w2 : World} {B : Nat} (h1 : Below B W w1) (h2 : Below w1.heap.size w1 w2) (hB : B ≤ W.heap.size := by simp) : Below B W w2 :=
  h1.trans (h2.mono (Nat.le_trans hB h1.size))
theorem shutBox {w w2 : World} {o : Obj} (hb : Below (w.alloc o).heap.size (w.alloc o) w2) : Below w.heap.size w w2 :=
  ((Below.refl _ _).alloc (Nat.le_refl _) o).trans (hb.mono (by simp))
theorem shutBox2 {w w2 : World} {o p : Obj} (hb : Below ((w.alloc o).alloc p).heap.size ((w.alloc o).alloc p) w2) : Below w.heap.size w w2 :=
  (((Below.refl _ _).alloc (Nat.le_refl _) o).alloc (by simp) p).trans (hb.mono (by simp; omega))
set_option maxHeartbeats 1000000 in
theorem jump_pos (s t x K : Nat) (w : World) (hv : VR s t x) (hK : K ≤ 5000) :
    Calls Try.prog 21 #[.agg #[.int .i64 s, .int .i64 t, .int .i64 x], .int .i64 K] w fun e w' => e = .returned (.tuple #[.agg #[.int .i64 s, .int .i64 t, .int .i64 (it (nx s t) K x)], .bool true]) ∧ Below w.heap.size w w' := by
  have hr := rv_mk hv
  have HV := Lib.hid hv
  clear hv
  have k1 : decide ((K : Int) < -5000) = false := by simp
  have k2 : decide (5000 < (K : Int)) = false := by simp; omega
  have k3 : decide ((K : Int) < 0) = false := by simp
  go_enter Try.func21, Try.ntmps21
  go_wp2_with fail
  refine (valid_impl _ _ _ _).mono ?_
  rintro e w1 ⟨rfl, hb1⟩
  have b1 := ((B3.new w 24 (.int .i64 s) (.int .i64 t) (.int .i64 x)).alloc (.cells #[.int .i64 0, .int .i64 0, .int .i64 0] 24)).below hb1 (by simp; omega)
  have b2 := (B3.new (w.alloc (.cells #[.int .i64 s, .int .i64 t, .int .i64 x] 24)) 24 (.int .i64 0) (.int .i64 0) (.int .i64 0)).below hb1 (by simp)
  rw [World.size_alloc] at b2
  have hw1 : Below w.heap.size w w1 := shutBox2 hb1
  clear hb1
  obtain ⟨c0, c1, c2, f0, f1, f2, hz⟩ := b1.facts
  go_wp2_with fail
  go_loopw [1] (fun k wr => ∃ j : Nat, j ≤ K ∧ k = .int .i64 ((K - j : Nat) : Int) ∧ B3 wr w.heap.size 24 (.int .i64 s) (.int .i64 t) (.int .i64 (it (nx s t) j x)) ∧ B3 wr (w.heap.size + 1) 24 (.int .i64 0) (.int .i64 0) (.int .i64 0) ∧ Below w.heap.size w wr) (fun k _ => (intOf k).toNat)
  case atStart => exact ⟨0, Nat.zero_le _, rfl, b1, b2, hw1⟩
  case round =>
    clear c0 c1 c2 f0 f1 f2 hz b1 b2 hw1
    obtain ⟨j, hj, rfl, b1, b2, hwr⟩ := hrel
    obtain ⟨c0, c1, c2, f0, f1, f2, hz⟩ := b1.facts
    by_cases hlt : j < K
    · go_wp2_with fail
      obtain ⟨v1, v2, v3, v4, v5⟩ := HV.out.itnx j
      refine (next_impl s t _ _ v1 v2 v5 v4).mono ?_
      rintro e w2 ⟨rfl, hb2⟩
      have b1' := b1.below hb2 hz
      have b2' := b2.below hb2 b2.facts.2.2.2.2.2.2
      have hw2 := next hwr hb2 (Nat.le_refl _)
      clear c0 c1 c2 f0 f1 f2 b1 b2 hwr hb2 v1 v2 v3 v4 v5
      obtain ⟨c0, c1, c2, f0, f1, f2, hz2⟩ := b1'.facts
      go_wp2
      go_roundw
      case rel => exact ⟨j + 1, by omega, by go_num, by rw [it_succ]; exact b1'.set2 _, b2'.other (by simp) _, hw2.setCell (by simp) _⟩
      case measure => simp [intOf]; omega
    · obtain rfl : j = K := by omega
      obtain ⟨c3, c4, c5, f3, f4, f5, hz3⟩ := b2.facts
      rw [Nat.sub_self]
      go_wp2_with fail
      refine wp_loop_rounds 1 ?_
      rw [rounds_succ]
      go_wp2
      refine bodyPost_ret (v := .tuple #[.agg #[.int .i64 s, .int .i64 t, .int .i64 (it (nx s t) j x)], .bool true]) (by simp [results, Try.results21, go_sem, c3, c4, c5]) rfl ⟨rfl, ?_⟩
      exact ((hwr.setCell (by simp) _).setCell (by simp) _).setCell (by simp) _
set_option maxHeartbeats 1000000 in
theorem jump_neg (s t x K : Nat) (w : World) (hv : VR s t x) (hK : K ≤ 5000) (h1 : 1 ≤ K) (ho : t % 2 = 1) :
    Calls Try.prog 21 #[.agg #[.int .i64 s, .int .i64 t, .int .i64 x], (.int .i64 (-(K : Int)))] w fun e w' => e = .returned (.tuple #[.agg #[.int .i64 s, .int .i64 t, .int .i64 (it (bk s t) K x)], .bool true]) ∧ Below w.heap.size w w' := by
  have hr := rv_mk hv
  have HV := Lib.hid hv
  clear hv
  have k1 : decide (-(K : Int) < -5000) = false := by simp; omega
  have k2 : decide (5000 < -(K : Int)) = false := decide_eq_false (by omega)
  have k3 : decide (-(K : Int) < 0) = true := by simp; omega
  have ht : bits .and .i64 (t : Int) 1 = 1 := by
    rw [show (1 : Int) = ((1 : Nat) : Int) from rfl, and_i64 t 1 (by have := lt256 HV.out.2.1 HV.out.2.2.2.1; omega) (by decide), Nat.and_one_is_mod, ho]
  clear ho
  go_enter Try.func21, Try.ntmps21
  go_wp2_with fail
  refine (valid_impl _ _ _ _).mono ?_
  rintro e w1 ⟨rfl, hb1⟩
  have b1 := ((B3.new w 24 (.int .i64 s) (.int .i64 t) (.int .i64 x)).alloc (.cells #[.int .i64 0, .int .i64 0, .int .i64 0] 24)).below hb1 (by simp; omega)
  have b2 := (B3.new (w.alloc (.cells #[.int .i64 s, .int .i64 t, .int .i64 x] 24)) 24 (.int .i64 0) (.int .i64 0) (.int .i64 0)).below hb1 (by simp)
  rw [World.size_alloc] at b2
  have hw1 : Below w.heap.size w w1 := shutBox2 hb1
  clear hb1
  obtain ⟨c0, c1, c2, f0, f1, f2, hz⟩ := b1.facts
  go_wp2_with fail
  refine wp_loop_rounds 1 ?_
  rw [rounds_succ]
  go_wp2_with fail
  go_loopw [1] (fun k wr => ∃ j : Nat, j ≤ K ∧ k = .int .i64 (-((K - j : Nat) : Int)) ∧ B3 wr w.heap.size 24 (.int .i64 s) (.int .i64 t) (.int .i64 (it (bk s t) j x)) ∧ B3 wr (w.heap.size + 1) 24 (.int .i64 0) (.int .i64 0) (.int .i64 0) ∧ Below w.heap.size w wr) (fun k _ => (-(intOf k)).toNat)
  case atStart => exact ⟨0, Nat.zero_le _, rfl, b1, b2, hw1⟩
  case round =>
    clear c0 c1 c2 f0 f1 f2 hz b1 b2 hw1
    obtain ⟨j, hj, rfl, b1, b2, hwr⟩ := hrel
    obtain ⟨c0, c1, c2, f0, f1, f2, hz⟩ := b1.facts
    by_cases hlt : j < K
    · go_wp2_with fail
      obtain ⟨v1, v2, v3, v4, v5⟩ := HV.out.itbk j
      refine (last_impl s t _ _ v1 v2 v5 v4).mono ?_
      rintro e w2 ⟨rfl, hb2⟩
      have b1' := b1.below hb2 hz
      have b2' := b2.below hb2 b2.facts.2.2.2.2.2.2
      have hw2 := next hwr hb2 (Nat.le_refl _)
      clear c0 c1 c2 f0 f1 f2 b1 b2 hwr hb2 v1 v2 v3 v4 v5
      obtain ⟨c0, c1, c2, f0, f1, f2, hz2⟩ := b1'.facts
      go_wp2
      go_roundw
      case rel => exact ⟨j + 1, by omega, by go_num, by rw [it_succ]; exact b1'.set2 _, b2'.other (by simp) _, hw2.setCell (by simp) _⟩
      case measure => simp [intOf]; omega
    · obtain rfl : j = K := by omega
      obtain ⟨c3, c4, c5, f3, f4, f5, hz3⟩ := b2.facts
      rw [Nat.sub_self]
      go_wp2
      refine bodyPost_ret (v := .tuple #[.agg #[.int .i64 s, .int .i64 t, .int .i64 (it (bk s t) j x)], .bool true]) (by simp [results, Try.results21, go_sem, c3, c4, c5]) rfl ⟨rfl, ?_⟩
      exact ((hwr.setCell (by simp) _).setCell (by simp) _).setCell (by simp) _
/-- the arguments at which a jump is made -/
def jv (s t x k : Int) : Bool := rv s t x && decide (-5000 ≤ k ∧ k ≤ 5000 ∧ (0 ≤ k ∨ t % 2 = 1))
set_option maxHeartbeats 1000000 in
theorem jump_no (s t x k : Int) (w : World) (hk : jv s t x k = false) :
    Calls Try.prog 21 #[.agg #[.int .i64 s, .int .i64 t, .int .i64 x], .int .i64 k] w fun e w' => e = .returned (.tuple #[.agg #[.int .i64 0, .int .i64 0, .int .i64 0], .bool false]) ∧ Below w.heap.size w w' := by
  unfold jv at hk
  cases hr : rv s t x with
  | false =>
    clear hk
    go_enter Try.func21, Try.ntmps21
    go_wp2_with fail
    refine (valid_impl _ _ _ _).mono ?_
    rintro e w1 ⟨rfl, hb1⟩
    have b1 := ((B3.new w 24 (.int .i64 s) (.int .i64 t) (.int .i64 x)).alloc (.cells #[.int .i64 0, .int .i64 0, .int .i64 0] 24)).below hb1 (by simp; omega)
    have b2 := (B3.new (w.alloc (.cells #[.int .i64 s, .int .i64 t, .int .i64 x] 24)) 24 (.int .i64 0) (.int .i64 0) (.int .i64 0)).below hb1 (by simp)
    rw [World.size_alloc] at b2
    have hw1 : Below w.heap.size w w1 := shutBox2 hb1
    clear hb1
    obtain ⟨c0, c1, c2, f0, f1, f2, hz⟩ := b1.facts
    obtain ⟨c3, c4, c5, f3, f4, f5, hz3⟩ := b2.facts
    go_wp2
    refine bodyPost_ret (v := .tuple #[.agg #[.int .i64 0, .int .i64 0, .int .i64 0], .bool false]) (by simp [results, Try.results21, go_sem, c3, c4, c5]) rfl ⟨rfl, ?_⟩
    exact ((hw1.setCell (by simp) _).setCell (by simp) _).setCell (by simp) _
  | true =>
    rw [hr, Bool.true_and] at hk
    have hk := of_decide_eq_false hk
    have hb := (tv_yes (rv_tv hr).1)
    by_cases h1 : k < -5000
    · have k1 : decide (k < -5000) = true := decide_eq_true h1
      clear hb hk
      go_enter Try.func21, Try.ntmps21
      go_wp2_with fail
      refine (valid_impl _ _ _ _).mono ?_
      rintro e w1 ⟨rfl, hb1⟩
      have b1 := ((B3.new w 24 (.int .i64 s) (.int .i64 t) (.int .i64 x)).alloc (.cells #[.int .i64 0, .int .i64 0, .int .i64 0] 24)).below hb1 (by simp; omega)
      have b2 := (B3.new (w.alloc (.cells #[.int .i64 s, .int .i64 t, .int .i64 x] 24)) 24 (.int .i64 0) (.int .i64 0) (.int .i64 0)).below hb1 (by simp)
      rw [World.size_alloc] at b2
      have hw1 : Below w.heap.size w w1 := shutBox2 hb1
      clear hb1
      obtain ⟨c0, c1, c2, f0, f1, f2, hz⟩ := b1.facts
      obtain ⟨c3, c4, c5, f3, f4, f5, hz3⟩ := b2.facts
      go_wp2
      refine bodyPost_ret (v := .tuple #[.agg #[.int .i64 0, .int .i64 0, .int .i64 0], .bool false]) (by simp [results, Try.results21, go_sem, c3, c4, c5]) rfl ⟨rfl, ?_⟩
      exact ((hw1.setCell (by simp) _).setCell (by simp) _).setCell (by simp) _
    · have k1 : decide (k < -5000) = false := decide_eq_false h1
      by_cases h2 : 5000 < k
      · have k2 : decide (5000 < k) = true := decide_eq_true h2
        clear hb hk
        go_enter Try.func21, Try.ntmps21
        go_wp2_with fail
        refine (valid_impl _ _ _ _).mono ?_
        rintro e w1 ⟨rfl, hb1⟩
        have b1 := ((B3.new w 24 (.int .i64 s) (.int .i64 t) (.int .i64 x)).alloc (.cells #[.int .i64 0, .int .i64 0, .int .i64 0] 24)).below hb1 (by simp; omega)
        have b2 := (B3.new (w.alloc (.cells #[.int .i64 s, .int .i64 t, .int .i64 x] 24)) 24 (.int .i64 0) (.int .i64 0) (.int .i64 0)).below hb1 (by simp)
        rw [World.size_alloc] at b2
        have hw1 : Below w.heap.size w w1 := shutBox2 hb1
        clear hb1
        obtain ⟨c0, c1, c2, f0, f1, f2, hz⟩ := b1.facts
        obtain ⟨c3, c4, c5, f3, f4, f5, hz3⟩ := b2.facts
        go_wp2
        refine bodyPost_ret (v := .tuple #[.agg #[.int .i64 0, .int .i64 0, .int .i64 0], .bool false]) (by simp [results, Try.results21, go_sem, c3, c4, c5]) rfl ⟨rfl, ?_⟩
        exact ((hw1.setCell (by simp) _).setCell (by simp) _).setCell (by simp) _
      · have k2 : decide (5000 < k) = false := decide_eq_false h2
        have k3 : decide (k < 0) = true := decide_eq_true (by omega)
        have ht : bits .and .i64 t 1 = 0 := by
          obtain ⟨t', rfl⟩ := Int.eq_ofNat_of_zero_le (show 0 ≤ t by omega)
          rw [show (1 : Int) = ((1 : Nat) : Int) from rfl, and_i64 t' 1 (by omega) (by decide), Nat.and_one_is_mod]
          omega
        clear hb hk
        go_enter Try.func21, Try.ntmps21
        go_wp2_with fail
        refine (valid_impl _ _ _ _).mono ?_
        rintro e w1 ⟨rfl, hb1⟩
        have b1 := ((B3.new w 24 (.int .i64 s) (.int .i64 t) (.int .i64 x)).alloc (.cells #[.int .i64 0, .int .i64 0, .int .i64 0] 24)).below hb1 (by simp; omega)
        have b2 := (B3.new (w.alloc (.cells #[.int .i64 s, .int .i64 t, .int .i64 x] 24)) 24 (.int .i64 0) (.int .i64 0) (.int .i64 0)).below hb1 (by simp)
        rw [World.size_alloc] at b2
        have hw1 : Below w.heap.size w w1 := shutBox2 hb1
        clear hb1
        obtain ⟨c0, c1, c2, f0, f1, f2, hz⟩ := b1.facts
        obtain ⟨c3, c4, c5, f3, f4, f5, hz3⟩ := b2.facts
        go_wp2
        refine bodyPost_ret (v := .tuple #[.agg #[.int .i64 0, .int .i64 0, .int .i64 0], .bool false]) (by simp [results, Try.results21, go_sem, c3, c4, c5]) rfl ⟨rfl, ?_⟩
        exact ((hw1.setCell (by simp) _).setCell (by simp) _).setCell (by simp) _
end Go.Proofs.Ytgmagocpacpafaa
