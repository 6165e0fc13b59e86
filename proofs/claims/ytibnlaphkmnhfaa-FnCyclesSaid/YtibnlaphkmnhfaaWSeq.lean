/- Contracts of the functions that ask for sequences, reckon modulo and shift. -/
import Derived.Test.YtibnlaphkmnhfaaWBits
import Derived.Test.YtibnlaphkmnhfaaPlainSeq
import Derived.Deep.QuietTactic
import Derived.BigQuiet
import Derived.WalkLawsBesides
import Derived.WalkSpells
namespace Go.Proofs.Ytibnlaphkmnhfaa
open Go.RowKit SS
set_option maxRecDepth 100000

theorem quiet_same {P : Program} {f : FuncId} {args : Array Value} {w : World} {n : Nat} {v : Value}
    (h : Calls P f args (w.drewN n) fun e w' => e = .returned v ∧ w.drewN n = w') : Calls P f args (w.drewN n) fun e w'' => e = .returned v ∧ ∃ m, w'' = w.drewN m :=
  h.mono fun _ _ ⟨he, hm⟩ => ⟨he, n, hm.symm⟩
theorem below_drews {B : Nat} {a w : World} (h : Below B a w) (n : Nat) : Below B a (w.drewN n) := by
  induction n generalizing w with
  | zero => exact h
  | succ n ih => rw [Nat.add_comm, ← World.drewN_drewN]; exact ih h.drew

theorem seq_impl (s : ByteArray) (w : World) (hs : s.size ≤ maxLen) :
    Calls Try.prog 59 #[.string s] w fun e w' => e = .returned (.bool (sv s.data.toList)) ∧ w = w' := by
  have hl := size_list s
  by_cases h1 : 1 ≤ s.size
  · have k1 : decide ((1 : Int) ≤ (s.size : Int)) = true := decide_eq_true (by omega)
    by_cases h2 : s.size ≤ 255
    · have k2 : decide ((s.size : Int) ≤ 255) = true := decide_eq_true (by omega)
      have E : Hid (bitsB s.data.toList = sv s.data.toList) := by
        show _ = _
        unfold bitsB sv
        rw [hl, decide_eq_true (show s.size ≤ 600 by omega), decide_eq_true (show 1 ≤ s.size ∧ s.size ≤ 255 by omega)]
      clear hl
      go_enter Try.func59, Try.ntmps59
      go_wp2_with fail
      refine (isBits_impl _ _ hs).mono ?_
      rintro e w1 ⟨rfl, rfl⟩
      rw [E.out]
      go_wp2
      go_ret
      exact ⟨rfl, rfl⟩
    · have k2 : decide ((s.size : Int) ≤ 255) = false := decide_eq_false (by omega)
      have E : Hid (sv s.data.toList = false) := by show _ = _; unfold sv; rw [hl, decide_eq_false (show ¬ (1 ≤ s.size ∧ s.size ≤ 255) by omega), Bool.false_and]
      clear hl
      go_enter Try.func59, Try.ntmps59
      go_wp2
      go_ret
      exact ⟨ret_bool E.out.symm, rfl⟩
  · have k1 : decide ((1 : Int) ≤ (s.size : Int)) = false := decide_eq_false (by omega)
    have E : Hid (sv s.data.toList = false) := by show _ = _; unfold sv; rw [hl, decide_eq_false (show ¬ (1 ≤ s.size ∧ s.size ≤ 255) by omega), Bool.false_and]
    clear hl
    go_enter Try.func59, Try.ntmps59
    go_wp2
    go_ret
    exact ⟨ret_bool E.out.symm, rfl⟩
theorem seq_spec (s : ByteArray) (w : World) (hs : s.size ≤ maxLen) :
    Calls Try.prog 58 #[.string s] w fun e w' => e = .returned (.bool (sv s.data.toList)) ∧ w = w' := by
  have hl := size_list s
  cases hb : bitsB s.data.toList with
  | false =>
    have E : Hid (sv s.data.toList = false) := by
      show _ = _
      unfold sv
      unfold bitsB at hb
      rw [hl] at hb ⊢
      rw [Bool.and_eq_false_iff] at hb ⊢
      rcases hb with h | h
      · left; exact decide_eq_false (by have := of_decide_eq_false h; omega)
      · right; exact h
    clear hl
    go_enter Try.func58, Try.ntmps58
    go_wp2_with fail
    refine (bits_spec _ _ hs).mono ?_
    rintro e w1 ⟨rfl, rfl⟩
    go_wp2
    go_ret
    exact ⟨ret_bool E.out.symm, rfl⟩
  | true =>
    have E : Hid (sv s.data.toList = (decide ((1 : Int) ≤ (s.size : Int)) && decide ((s.size : Int) ≤ 255))) := by
      show _ = _
      unfold sv
      unfold bitsB at hb
      rw [Bool.and_eq_true] at hb
      rw [hb.2, hl, Bool.and_true, ← Bool.decide_and, decide_eq_decide]
      omega
    clear hl
    go_enter Try.func58, Try.ntmps58
    go_wp2_with fail
    refine (bits_spec _ _ hs).mono ?_
    rintro e w1 ⟨rfl, rfl⟩
    go_wp2_with fail
    refine (in_spec _ _ _ _).mono ?_
    rintro e w1 ⟨rfl, rfl⟩
    go_wp2
    go_ret
    exact ⟨ret_bool E.out.symm, rfl⟩
theorem tmod_cases (k : Int) (n : Nat) (h : 1 ≤ n) : (0 ≤ k.tmod n ∧ k.tmod n = k % (n : Int)) ∨ (k.tmod n < 0 ∧ k.tmod n + n = k % (n : Int)) := by
  have h1 := Int.emod_nonneg k (show (n : Int) ≠ 0 by omega)
  have h2 := Int.emod_lt_of_pos k (show (0 : Int) < n by omega)
  rw [Int.tmod_eq_emod]
  split
  · left; omega
  · rename_i hc
    right
    rw [Int.natAbs_natCast] at *
    omega
theorem modulo_impl (k : Int) (n : Nat) (w : World) (h1 : 1 ≤ n) (h2 : n ≤ 255) :
    Calls Try.prog 71 #[.int .i64 k, .int .i64 n] w fun e w' => e = .returned (.int .i64 (md k n)) ∧ w = w' := by
  have hz : ((n : Int) == 0) = false := by rw [beq_eq_false_iff_ne]; omega
  have E := Lib.hid (md_int k n h1)
  have hm0 := Int.emod_nonneg k (show (n : Int) ≠ 0 by omega)
  have hm1 := Int.emod_lt_of_pos k (show (0 : Int) < n by omega)
  rcases tmod_cases k n h1 with ⟨hp, he⟩ | ⟨hp, he⟩
  · have EQ := Lib.hid he
    have hb : k.tmod n ≤ 255 := by omega
    clear he hm0 hm1
    go_enter Try.func71, Try.ntmps71
    go_wp2
    all_goals (go_ret; exact ⟨ret_int (by rw [E.out, ← EQ.out]), rfl⟩)
  · have EQ := Lib.hid he
    have hb : -255 ≤ k.tmod n := by omega
    clear he hm0 hm1
    go_enter Try.func71, Try.ntmps71
    go_wp2
    go_ret
    exact ⟨ret_int (by rw [E.out, ← EQ.out]), rfl⟩
theorem mod_spec (k : Int) (n : Nat) (w : World) (h1 : 1 ≤ n) (h2 : n ≤ 255) :
    Calls Try.prog 75 #[.int .i64 k, .int .i64 n] w fun e w' => e = .returned (.int .i64 (md k n)) ∧ w = w' := by
  have hz : ((n : Int) == 0) = false := by rw [beq_eq_false_iff_ne]; omega
  have hm0 := Int.emod_nonneg k (show (n : Int) ≠ 0 by omega)
  have hm1 := Int.emod_lt_of_pos k (show (0 : Int) < n by omega)
  have hb0 : 0 ≤ k.tmod n + n := by rcases tmod_cases k n h1 with ⟨hp, he⟩ | ⟨hp, he⟩ <;> omega
  have hb1 : k.tmod n + n ≤ 1000 := by rcases tmod_cases k n h1 with ⟨hp, he⟩ | ⟨hp, he⟩ <;> omega
  have E : Hid ((k.tmod n + n) % (n : Int) = md k n) := by
    show _ = _
    rw [md_int k n h1]
    rcases tmod_cases k n h1 with ⟨hp, he⟩ | ⟨hp, he⟩
    · rw [he]; simp
    · rw [he, Int.emod_emod_of_dvd _ (Int.dvd_refl _)]
  clear hm0 hm1
  go_enter Try.func75, Try.ntmps75
  go_wp2
  go_ret
  exact ⟨ret_int E.out, rfl⟩
theorem cut_list (s : ByteArray) (k : Nat) (_h : k ≤ s.size) : (s.extract k s.size ++ s.extract 0 k) = ⟨(rot k s.data.toList).toArray⟩ := by
  apply ByteArray.ext
  apply Array.ext'
  simp [rot, ByteArray.data_extract, ByteArray.data_append]
  exact List.take_of_length_le (by simp)
set_option maxHeartbeats 1000000 in
theorem shift_spec (s : ByteArray) (k : Int) (w : World) (h1 : 1 ≤ s.size) (h2 : s.size ≤ 255) :
    Calls Try.prog 76 #[.string s, .int .i64 k] w fun e w' => e = .returned (.string ⟨(rot (md k s.size) s.data.toList).toArray⟩) ∧ ∃ n, w' = w.drewN n := by
  have C := Lib.hid fun w => mod_spec k s.size w h1 h2
  have hm := md_lt k s.size h1
  generalize md k s.size = j at *
  go_enter Try.func76, Try.ntmps76
  go_wp2_with fail
  refine (C.out _).mono ?_
  rintro e w1 ⟨rfl, rfl⟩
  go_wp2_with fail
  go_quiet (fail)
  go_wp2
  go_ret
  exact ⟨by rw [← cut_list s j (by omega)]; rfl, _, rfl⟩
end Go.Proofs.Ytibnlaphkmnhfaa
