/- Contracts of the functions that write the bits of a register. -/
import Derived.Test.YtibnlaphkmnhfaaWJump
import Derived.Test.YtibnlaphkmnhfaaWMake
namespace Go.Proofs.Ytibnlaphkmnhfaa
open Go.RowKit SS
set_option maxRecDepth 100000

/-- the arguments at which bits are written -/
def nv (s t x n : Int) : Bool := rv s t x && decide (0 ≤ n ∧ n ≤ 600)
set_option maxHeartbeats 1000000 in
theorem run_yes (s t x n : Nat) (w : World) (hv : VR s t x) (hn : n ≤ 600) :
    Calls Try.prog 112 #[.agg #[.int .i64 s, .int .i64 t, .int .i64 x], .int .i64 n] w fun e w' => e = .returned (.tuple #[.string ⟨(run s t n x).toArray⟩, .bool true]) ∧ Below w.heap.size w w' := by
  have hr := rv_mk hv
  have HV := Lib.hid hv
  clear hv
  have k1 : decide ((n : Int) < 0) = false := by simp
  have k2 : decide (600 < (n : Int)) = false := by simp; omega
  have hmk := makeBytes n (by omega)
  generalize hM : madeCells #[.int .u8 0] n = M at hmk
  have HM := Lib.hid hM
  clear hM
  go_enter Try.func112, Try.ntmps112
  go_wp2_with fail
  refine (valid_impl _ _ _ _).mono ?_
  rintro e w1 ⟨rfl, hb1⟩
  have b1 := (B3.new w 53 (.int .i64 s) (.int .i64 t) (.int .i64 x)).below hb1 (by simp)
  have hw1 : Below w.heap.size w w1 := shutBox hb1
  clear hb1
  have hz := b1.facts.2.2.2.2.2.2
  have b1 := b1.alloc (.cells M 5)
  have r1 := BB.new w1 5 n
  rw [HM.out] at r1
  have hw2 := hw1.alloc hw1.size (.cells M 5)
  go_wp2_with fail
  go_loopw [23] (fun i wr => ∃ j : Nat, j ≤ n ∧ i = .int .i64 (j : Int) ∧ B3 wr w.heap.size 53 (.int .i64 s) (.int .i64 t) (.int .i64 (it (nx s t) j x)) ∧ BB wr w1.heap.size 5 (fil (fun j => bt (it (nx s t) j x % 2)) n j) ∧ Below w.heap.size w wr) (fun i _ => n - (intOf i).toNat)
  case atStart => exact ⟨0, Nat.zero_le _, rfl, b1, by rw [fil_zero]; exact r1, hw2⟩
  case round =>
    clear b1 r1 hw1 hw2
    obtain ⟨j, hj, rfl, b1, r1, hwr⟩ := hrel
    by_cases hlt : j < n
    · obtain ⟨c0, c1, c2, f0, f1, f2, hzr⟩ := b1.facts
      obtain ⟨v1, v2, v3, v4, v5⟩ := HV.out.itnx j
      have hx' := lt256 v2 v5
      have c3 := r1.cell j (by rw [fil_length _ _ _ hj]; exact hlt)
      have f3 := r1.frozen j
      obtain ⟨old, ho⟩ : ∃ old, wr.cell? ⟨w1.heap.size, j, none⟩ = some old := ⟨_, c3⟩
      clear c3
      have ea : bits .and .i64 ((it (nx s t) j x : Nat) : Int) 1 = ((it (nx s t) j x % 2 : Nat) : Int) := by
        rw [show (1 : Int) = ((1 : Nat) : Int) from rfl, and_i64 _ 1 (by omega) (by decide), Nat.and_one_is_mod]
      go_wp2_with fail
      refine (bitOf_impl _ _ (Nat.mod_lt _ (by decide))).mono ?_
      rintro e w2 ⟨rfl, rfl⟩
      go_wp2_with fail
      have r1' := r1.set j (bt (it (nx s t) j x % 2))
      rw [fil_step (fun j => bt (it (nx s t) j x % 2)) n j hlt] at r1'
      have b1' := b1.other (a := ⟨w1.heap.size, j, none⟩) (show w.heap.size ≠ w1.heap.size by omega) (.int .u8 (bt (it (nx s t) j x % 2)).toNat)
      have hw3 := hwr.setCell (p := ⟨w1.heap.size, j, none⟩) (show w.heap.size ≤ w1.heap.size by omega) (.int .u8 (bt (it (nx s t) j x % 2)).toNat)
      refine (next_impl s t _ _ v1 v2 v5 v4).mono ?_
      rintro e w2 ⟨rfl, hb2⟩
      have b1' := b1'.below hb2 b1'.facts.2.2.2.2.2.2
      have r1' := r1'.below hb2 r1'.lt
      have hw2 := next hw3 hb2 (Nat.le_refl _)
      clear c0 c1 c2 f0 f1 f2 b1 r1 hwr hb2 v1 v2 v3 v4 v5 ho f3 ea hw3 hzr
      obtain ⟨c0, c1, c2, f0, f1, f2, hz2⟩ := b1'.facts
      go_wp2
      go_roundw
      case rel => exact ⟨j + 1, by omega, by go_num, by rw [it_succ]; exact b1'.set2 _, r1'.other (show w1.heap.size ≠ w.heap.size by omega) _, hw2.setCell (by simp) _⟩
      case measure => simp [intOf]; omega
    · obtain rfl : j = n := by omega
      rw [fil_all] at r1
      have hcv := r1.conv (P := Try.prog) 22 9 j j Try.underlying22 Try.underlying5 Try.underlying9 (by simp)
      go_wp2
      go_ret2
      exact ⟨rfl, hwr⟩
set_option maxHeartbeats 1000000 in
theorem run_no (s t x n : Int) (w : World) (hk : nv s t x n = false) :
    Calls Try.prog 112 #[.agg #[.int .i64 s, .int .i64 t, .int .i64 x], .int .i64 n] w fun e w' => e = .returned (.tuple #[.string ⟨#[]⟩, .bool false]) ∧ Below w.heap.size w w' := by
  unfold nv at hk
  cases hr : rv s t x with
  | false =>
    clear hk
    go_enter Try.func112, Try.ntmps112
    go_wp2_with fail
    refine (valid_impl _ _ _ _).mono ?_
    rintro e w1 ⟨rfl, hb1⟩
    go_wp2
    go_ret2
    exact ⟨rfl, shutBox hb1⟩
  | true =>
    rw [hr, Bool.true_and] at hk
    have hk := of_decide_eq_false hk
    by_cases h1 : n < 0
    · have k1 : decide (n < 0) = true := decide_eq_true h1
      clear hk
      go_enter Try.func112, Try.ntmps112
      go_wp2_with fail
      refine (valid_impl _ _ _ _).mono ?_
      rintro e w1 ⟨rfl, hb1⟩
      go_wp2
      go_ret2
      exact ⟨rfl, shutBox hb1⟩
    · have k1 : decide (n < 0) = false := decide_eq_false h1
      have k2 : decide (600 < n) = true := decide_eq_true (by omega)
      clear hk
      go_enter Try.func112, Try.ntmps112
      go_wp2_with fail
      refine (valid_impl _ _ _ _).mono ?_
      rintro e w1 ⟨rfl, hb1⟩
      go_wp2
      go_ret2
      exact ⟨rfl, shutBox hb1⟩
set_option maxHeartbeats 1000000 in
theorem l1run (s t x n : Nat) (w : World) (hv : VR s t x) (hn : n ≤ 600) :
    Calls Try.prog 113 #[.agg #[.int .i64 s, .int .i64 t, .int .i64 x], .int .i64 n] w fun e w' => e = .returned (.string ⟨(run s t n x).toArray⟩) ∧ Below w.heap.size w w' := by
  have HV := Lib.hid hv
  clear hv
  have hmk := makeBytes n (by omega)
  generalize hM : madeCells #[.int .u8 0] n = M at hmk
  have HM := Lib.hid hM
  clear hM
  have b1 := (B3.new w 53 (.int .i64 s) (.int .i64 t) (.int .i64 x)).alloc (.cells M 5)
  have r1 := BB.new (w.alloc (.cells #[.int .i64 s, .int .i64 t, .int .i64 x] 53)) 5 n
  rw [HM.out, World.size_alloc] at r1
  have hw2 := shutBox2 (Below.refl ((w.alloc (.cells #[.int .i64 s, .int .i64 t, .int .i64 x] 53)).alloc (.cells M 5)).heap.size ((w.alloc (.cells #[.int .i64 s, .int .i64 t, .int .i64 x] 53)).alloc (.cells M 5)))
  have B1 := Lib.hid b1
  have R1 := Lib.hid r1
  have HW := Lib.hid hw2
  clear b1 r1 hw2
  go_enter Try.func113, Try.ntmps113
  go_wp2_with fail
  go_loopw [6] (fun i wr => ∃ j : Nat, j ≤ n ∧ i = .int .i64 (j : Int) ∧ B3 wr w.heap.size 53 (.int .i64 s) (.int .i64 t) (.int .i64 (it (nx s t) j x)) ∧ BB wr (w.heap.size + 1) 5 (fil (fun j => bt (it (nx s t) j x % 2)) n j) ∧ Below w.heap.size w wr) (fun i _ => n - (intOf i).toNat)
  case atStart => exact ⟨0, Nat.zero_le _, rfl, B1.out, by rw [fil_zero]; exact R1.out, HW.out⟩
  case round =>
    clear B1 R1 HW
    obtain ⟨j, hj, rfl, b1, r1, hwr⟩ := hrel
    by_cases hlt : j < n
    · obtain ⟨c0, c1, c2, f0, f1, f2, hzr⟩ := b1.facts
      obtain ⟨v1, v2, v3, v4, v5⟩ := HV.out.itnx j
      have hx' := lt256 v2 v5
      have c3 := r1.cell j (by rw [fil_length _ _ _ hj]; exact hlt)
      have f3 := r1.frozen j
      obtain ⟨old, ho⟩ : ∃ old, wr.cell? ⟨w.heap.size + 1, j, none⟩ = some old := ⟨_, c3⟩
      clear c3
      have e8 : ((bt (it (nx s t) j x % 2)).toNat : Int) = 48 + ((it (nx s t) j x : Nat) : Int) % 2 := by rw [bt_toNat _ (Nat.mod_lt _ (by decide))]; omega
      have r1' := r1.set j (bt (it (nx s t) j x % 2))
      rw [fil_step (fun j => bt (it (nx s t) j x % 2)) n j hlt, e8] at r1'
      clear e8
      have b1' := b1.other (a := ⟨w.heap.size + 1, j, none⟩) (show w.heap.size ≠ w.heap.size + 1 by omega) (.int .u8 (48 + ((it (nx s t) j x : Nat) : Int) % 2))
      have hw3 := hwr.setCell (p := ⟨w.heap.size + 1, j, none⟩) (show w.heap.size ≤ w.heap.size + 1 by omega) (.int .u8 (48 + ((it (nx s t) j x : Nat) : Int) % 2))
      go_wp2_with fail
      refine (step_spec s t _ _ v1 v2 v5 v4).mono ?_
      rintro e w2 ⟨rfl, hb2⟩
      have b1' := b1'.below hb2 b1'.facts.2.2.2.2.2.2
      have r1' := r1'.below hb2 r1'.lt
      have hw2 := next hw3 hb2 (Nat.le_refl _)
      clear c0 c1 c2 f0 f1 f2 b1 r1 hwr hb2 v1 v2 v3 v4 v5 ho f3 hw3 hzr
      obtain ⟨c0, c1, c2, f0, f1, f2, hz2⟩ := b1'.facts
      go_wp2
      go_roundw
      case rel => exact ⟨j + 1, by omega, by go_num, by rw [it_succ]; exact b1'.set012 _ _ _, ((r1'.other (show w.heap.size + 1 ≠ w.heap.size by omega) _).other (show w.heap.size + 1 ≠ w.heap.size by omega) _).other (show w.heap.size + 1 ≠ w.heap.size by omega) _, ((hw2.setCell (by simp) _).setCell (by simp) _).setCell (by simp) _⟩
      case measure => simp [intOf]; omega
    · obtain rfl : j = n := by omega
      rw [fil_all] at r1
      have hcv := r1.conv (P := Try.prog) 22 9 j j Try.underlying22 Try.underlying5 Try.underlying9 (by simp)
      go_wp2
      go_ret
      exact ⟨rfl, hwr⟩
end Go.Proofs.Ytibnlaphkmnhfaa
