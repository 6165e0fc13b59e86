/- Contracts of the functions that follow the states of a register. -/
import Derived.Test.YtibnlaphkmnhfaaWJump
import Derived.Test.YtibnlaphkmnhfaaPlainOrb
import Derived.Test.YtibnlaphkmnhfaaWBaseI
import Derived.Deep.OwnRows
namespace Go.Proofs.Ytibnlaphkmnhfaa
open Go.RowKit SS
set_option maxRecDepth 100000

/-- the zero value of the table of visits -/
def Z256 : Array Value := Array.replicate 256 (.int .i64 0)
theorem Z256_list : Z256 = ((List.replicate 256 (0 : Int)).map (Value.int .i64)).toArray := by rw [List.map_replicate, List.toArray_replicate]; rfl
theorem zero256 (w : World) : (zeroValue 90).run Try.prog w = .ok (.agg Z256) w := by kernel_rfl
set_option maxHeartbeats 1000000 in
theorem orbit_impl (s t x : Nat) (w : World) (hv : VR s t x) :
    Calls Try.prog 86 #[.agg #[.int .i64 s, .int .i64 t, .int .i64 x]] w fun e w' => e = .returned (.tuple #[.int .i64 (orbI (nx s t) x), .int .i64 ((orbN (nx s t) x : Int) - orbI (nx s t) x)]) ∧ Below w.heap.size w w' := by
  have b1 := (B3.new w 53 (.int .i64 s) (.int .i64 t) (.int .i64 x)).alloc (.cells Z256 90)
  have r1 : BI ((w.alloc (.cells #[.int .i64 s, .int .i64 t, .int .i64 x] 53)).alloc (.cells Z256 90)) (w.heap.size + 1) 90 (vis 0 1 256 (nx s t) x 0) := by
    have h := heap_alloc_new (w.alloc (.cells #[.int .i64 s, .int .i64 t, .int .i64 x] 53)) (.cells Z256 90)
    rw [World.size_alloc] at h
    unfold BI
    rw [h, Z256_list]
    rfl
  have hw2 := shutBox2 (Below.refl ((w.alloc (.cells #[.int .i64 s, .int .i64 t, .int .i64 x] 53)).alloc (.cells Z256 90)).heap.size _)
  have B1 := Lib.hid b1
  have R1 := Lib.hid r1
  have HW := Lib.hid hw2
  have HV := Lib.hid hv
  clear b1 r1 hw2 hv
  have hz0 := zero256
  go_enter Try.func86, Try.ntmps86
  go_wp2_with fail
  go_loopw [5] (fun st wr => ∃ n : Nat, Dis (nx s t) x n ∧ st = .int .i64 (n : Int) ∧ B3 wr w.heap.size 53 (.int .i64 s) (.int .i64 t) (.int .i64 (it (nx s t) n x)) ∧ BI wr (w.heap.size + 1) 90 (vis 0 1 256 (nx s t) x n) ∧ Below w.heap.size w wr) (fun st _ => 2 ^ s - (intOf st).toNat)
  case atStart => exact ⟨0, Dis.zero _ _, rfl, B1.out, R1.out, HW.out⟩
  case round =>
    clear B1 R1 HW
    obtain ⟨n, hd, rfl, b1, r1, hwr⟩ := hrel
    have HD := Lib.hid hd
    have hnl := hd.le (itnx_lt s t x HV.out)
    clear hd
    obtain ⟨c0, c1, c2, f0, f1, f2, hzr⟩ := b1.facts
    obtain ⟨v1, v2, v3, v4, v5⟩ := HV.out.itnx n
    have hx' := lt256 v2 v5
    have hp8 : 2 ^ s ≤ 256 := by have := Nat.pow_le_pow_right (n := 2) (by decide) v2; simpa using this
    have f3 := r1.frozen (it (nx s t) n x)
    by_cases hc : ∃ i, i < n ∧ it (nx s t) i x = it (nx s t) n x
    · obtain ⟨i, hi, e⟩ := hc
      have c3 := r1.cell _ _ (vis_yes 0 1 256 (nx s t) x n i (by rw [e]; exact hx') HD.out hi)
      rw [e] at c3
      obtain ⟨e1, e2⟩ := Orb.eq ⟨hi, e, HD.out⟩ (by omega)
      have E1 := Lib.hid e1
      have E2 := Lib.hid e2
      clear e e1 e2 v1 v2 v3 v4 v5
      have hz1 : (((i : Int) + 1) == 0) = false := by rw [beq_eq_false_iff_ne]; omega
      go_wp2
      go_ret2
      rw [E1.out, E2.out]
      exact ⟨rfl, hwr⟩
    · have hne : ∀ i, i < n → it (nx s t) i x ≠ it (nx s t) n x := fun i hi e => hc ⟨i, hi, e⟩
      have c3 := r1.cell _ _ (vis_no 0 1 256 (nx s t) x n _ hx' hne)
      have HD' := Lib.hid (HD.out.succ hne)
      have hlt : n + 1 ≤ 2 ^ s := HD'.out.le (itnx_lt s t x HV.out)
      clear hc hne
      go_wp2_with fail
      have r1' := r1.set (it (nx s t) n x) ((n : Int) + 1)
      have b1' := b1.other (a := ⟨w.heap.size + 1, it (nx s t) n x, none⟩) (by simp) (.int .i64 ((n : Int) + 1))
      have hw3 := hwr.setCell (p := ⟨w.heap.size + 1, it (nx s t) n x, none⟩) (by simp) (.int .i64 ((n : Int) + 1))
      refine (next_impl s t _ _ v1 v2 v5 v4).mono ?_
      rintro e w2 ⟨rfl, hb2⟩
      have b1' := b1'.below hb2 b1'.facts.2.2.2.2.2.2
      have r1' := r1'.below hb2 r1'.lt
      have hw2 := next hw3 hb2 (Nat.le_refl _)
      clear c0 c1 c2 f0 f1 f2 b1 r1 hwr hb2 v1 v2 v3 v4 v5 f3 hw3 hzr c3
      obtain ⟨c0, c1, c2, f0, f1, f2, hz2⟩ := b1'.facts
      go_wp2
      go_roundw
      case rel => exact ⟨n + 1, HD'.out, by go_num, by rw [it_succ]; exact b1'.set2 _, r1'.other (by simp) _, hw2.setCell (by simp) _⟩
      case measure => simp [intOf]; omega
set_option maxHeartbeats 1000000 in
theorem period_yes (s t x : Nat) (w : World) (hv : VR s t x) :
    Calls Try.prog 50 #[.agg #[.int .i64 s, .int .i64 t, .int .i64 x]] w fun e w' => e = .returned (.int .i64 ((orbN (nx s t) x : Int) - orbI (nx s t) x)) ∧ Below w.heap.size w w' := by
  have hr := rv_mk hv
  have C := Lib.hid fun w => orbit_impl s t x w hv
  clear hv
  go_enter Try.func50, Try.ntmps50
  go_wp2_with fail
  refine (valid_impl _ _ _ _).mono ?_
  rintro e w1 ⟨rfl, hb1⟩
  have b1 := (B3.new w 53 (.int .i64 s) (.int .i64 t) (.int .i64 x)).below hb1 (by simp)
  have hw1 : Below w.heap.size w w1 := shutBox hb1
  clear hb1
  obtain ⟨c0, c1, c2, f0, f1, f2, hz⟩ := b1.facts
  go_wp2_with fail
  refine (C.out _).mono ?_
  rintro e w2 ⟨rfl, hb2⟩
  have hw2 := next hw1 hb2 (Nat.le_refl _)
  go_wp2
  go_ret
  exact ⟨rfl, hw2⟩
set_option maxHeartbeats 1000000 in
theorem period_no (s t x : Int) (w : World) (hr : rv s t x = false) :
    Calls Try.prog 50 #[.agg #[.int .i64 s, .int .i64 t, .int .i64 x]] w fun e w' => e = .returned (.int .i64 (-1)) ∧ Below w.heap.size w w' := by
  go_enter Try.func50, Try.ntmps50
  go_wp2_with fail
  refine (valid_impl _ _ _ _).mono ?_
  rintro e w1 ⟨rfl, hb1⟩
  go_wp2
  go_ret
  exact ⟨rfl, shutBox hb1⟩
set_option maxHeartbeats 1000000 in
theorem lead_yes (s t x : Nat) (w : World) (hv : VR s t x) :
    Calls Try.prog 49 #[.agg #[.int .i64 s, .int .i64 t, .int .i64 x]] w fun e w' => e = .returned (.int .i64 ((orbI (nx s t) x : Int))) ∧ Below w.heap.size w w' := by
  have hr := rv_mk hv
  have C := Lib.hid fun w => orbit_impl s t x w hv
  clear hv
  go_enter Try.func49, Try.ntmps49
  go_wp2_with fail
  refine (valid_impl _ _ _ _).mono ?_
  rintro e w1 ⟨rfl, hb1⟩
  have b1 := (B3.new w 53 (.int .i64 s) (.int .i64 t) (.int .i64 x)).below hb1 (by simp)
  have hw1 : Below w.heap.size w w1 := shutBox hb1
  clear hb1
  obtain ⟨c0, c1, c2, f0, f1, f2, hz⟩ := b1.facts
  go_wp2_with fail
  refine (C.out _).mono ?_
  rintro e w2 ⟨rfl, hb2⟩
  have hw2 := next hw1 hb2 (Nat.le_refl _)
  go_wp2
  go_ret
  exact ⟨rfl, hw2⟩
set_option maxHeartbeats 1000000 in
theorem lead_no (s t x : Int) (w : World) (hr : rv s t x = false) :
    Calls Try.prog 49 #[.agg #[.int .i64 s, .int .i64 t, .int .i64 x]] w fun e w' => e = .returned (.int .i64 (-1)) ∧ Below w.heap.size w w' := by
  go_enter Try.func49, Try.ntmps49
  go_wp2_with fail
  refine (valid_impl _ _ _ _).mono ?_
  rintro e w1 ⟨rfl, hb1⟩
  go_wp2
  go_ret
  exact ⟨rfl, shutBox hb1⟩
theorem infoInt : (Try.prog.info? 3).map (fun i => (i.zero, i.size, i.bytes)) = some (some (.int .i64 0), 1, 8) := by kernel_rfl
theorem makeInts (n : Nat) (h : n ≤ 1000000) (w : World) : (Instr.makeSlice 35 (.int .i64 (n : Int)) (.int .i64 (n : Int))).run Try.prog w = .ok (.slice (some ⟨w.heap.size, 0, none⟩) n n) (w.alloc (.cells (madeCells #[.int .i64 0] n) 3)) :=
  run_make_row' 35 3 (.int .i64 0) 8 Try.underlying35 infoInt rfl .i64 .i64 n (by omega) (by omega) w
theorem two_size (s p : Nat) (w : World) (h8 : s ≤ 8) (hp : Hid (p = 2 ^ s)) :
    Calls Try.prog 81 #[.int .i64 (s : Int)] w fun e w' => e = .returned (.int .i64 p) ∧ w = w' :=
  (two_spec (s : Int) w (by omega) (by omega)).mono fun e w' ⟨he, hw⟩ => ⟨by rw [he, hp.out, Int.toNat_natCast]; simp, hw⟩
set_option maxHeartbeats 2000000 in
theorem walk_spec (s t x : Nat) (w : World) (hv : VR s t x) :
    Calls Try.prog 107 #[.agg #[.int .i64 s, .int .i64 t, .int .i64 x]] w fun e w' => e = .returned (.tuple #[.slice (some ⟨w.heap.size + 1 + 1, 0, none⟩) (2 ^ s) (2 ^ s), .int .i64 (orbN (nx s t) x), .agg #[.int .i64 s, .int .i64 t, .int .i64 (it (nx s t) (orbN (nx s t) x) x)]]) ∧ BI w' (w.heap.size + 1 + 1) 3 (vis (-1) 0 (2 ^ s) (nx s t) x (orbN (nx s t) x)) ∧ Below w.heap.size w w' := by
  have hp8 : 2 ^ s ≤ 256 := by have := Nat.pow_le_pow_right (n := 2) (by decide) hv.2.1; simpa using this
  obtain ⟨p, HP⟩ : ∃ p, Hid (p = 2 ^ s) := ⟨2 ^ s, Lib.hid rfl⟩
  rw [← HP.out] at hp8 ⊢
  have C := Lib.hid fun w => two_size s p w hv.2.1 HP
  have hmk := makeInts p (by omega)
  generalize hM : madeCells #[.int .i64 0] p = M at hmk
  have b1 := ((B3.new w 53 (.int .i64 s) (.int .i64 t) (.int .i64 x)).alloc (.cells #[.int .i64 0, .int .i64 0, .int .i64 0] 53)).alloc (.cells M 3)
  have b2 := (B3.new (w.alloc (.cells #[.int .i64 s, .int .i64 t, .int .i64 x] 53)) 53 (.int .i64 0) (.int .i64 0) (.int .i64 0)).alloc (.cells M 3)
  have r1 := BI.new ((w.alloc (.cells #[.int .i64 s, .int .i64 t, .int .i64 x] 53)).alloc (.cells #[.int .i64 0, .int .i64 0, .int .i64 0] 53)) 3 p
  rw [hM] at r1
  simp only [World.size_alloc] at b2 r1
  have hw2 := (((Below.refl w.heap.size w).alloc (Nat.le_refl _) (.cells #[.int .i64 s, .int .i64 t, .int .i64 x] 53)).alloc (by simp) (.cells #[.int .i64 0, .int .i64 0, .int .i64 0] 53)).alloc (by simp; omega) (.cells M 3)
  have B1 := Lib.hid b1
  have B2 := Lib.hid b2
  have R1 := Lib.hid r1
  have HW := Lib.hid hw2
  have HV := Lib.hid hv
  clear b1 b2 r1 hw2 hv hM
  go_enter Try.func107, Try.ntmps107
  go_wp2_with fail
  refine (C.out _).mono ?_
  rintro e w1 ⟨rfl, rfl⟩
  go_wp2_with fail
  go_loopw [6] (fun i wr => ∃ k : Nat, k ≤ p ∧ i = .int .i64 (k : Int) ∧ B3 wr w.heap.size 53 (.int .i64 s) (.int .i64 t) (.int .i64 x) ∧ B3 wr (w.heap.size + 1) 53 (.int .i64 0) (.int .i64 0) (.int .i64 0) ∧ BI wr (w.heap.size + 1 + 1) 3 (filI (fun _ => -1) p k) ∧ Below w.heap.size w wr) (fun i _ => p - (intOf i).toNat)
  case atStart => exact ⟨0, Nat.zero_le _, rfl, B1.out, B2.out, by rw [filI_zero]; exact R1.out, HW.out⟩
  case round =>
    clear B1 B2 R1 HW
    obtain ⟨k, hk, rfl, b1, b2, r1, hwr⟩ := hrel
    by_cases hlt : k < p
    · have c3 := r1.cell k 0 (filI_at _ p k hlt)
      have f3 := r1.frozen k
      have r1' := r1.set k (-1)
      rw [filI_step (fun _ => -1) p k hlt] at r1'
      have R1' := Lib.hid r1'
      clear r1'
      go_wp2
      go_roundw
      case rel => exact ⟨k + 1, by omega, by go_num, b1.other (show w.heap.size ≠ w.heap.size + 1 + 1 by omega) _, b2.other (show w.heap.size + 1 ≠ w.heap.size + 1 + 1 by omega) _, R1'.out, hwr.setCell (show w.heap.size ≤ w.heap.size + 1 + 1 by omega) _⟩
      case measure => simp [intOf]; omega
    · obtain rfl : k = p := by omega
      rw [filI_all, List.map_const', List.length_range] at r1
      have R1 := Lib.hid r1
      have B1 := Lib.hid b1
      have B2 := Lib.hid b2
      have HW := Lib.hid hwr
      clear r1 b1 b2 hwr
      obtain ⟨wo, rfl⟩ : ∃ wo : World, wo = wr := ⟨_, rfl⟩
      go_wp2_with fail
      go_loopw [7] (fun st wr => ∃ n : Nat, Dis (nx s t) x n ∧ st = .int .i64 (n : Int) ∧ B3 wr w.heap.size 53 (.int .i64 s) (.int .i64 t) (.int .i64 (it (nx s t) n x)) ∧ B3 wr (w.heap.size + 1) 53 (.int .i64 0) (.int .i64 0) (.int .i64 0) ∧ BI wr (w.heap.size + 1 + 1) 3 (vis (-1) 0 k (nx s t) x n) ∧ Below w.heap.size w wr) (fun st _ => k - (intOf st).toNat)
      case atStart => exact ⟨0, Dis.zero _ _, rfl, B1.out, B2.out, R1.out, HW.out⟩
      case round =>
        clear B1 B2 R1 HW
        obtain ⟨n, hd, rfl, b1, b2, r1, hwr⟩ := hrel
        have HD := Lib.hid hd
        have hnl := hd.le (itnx_lt s t x HV.out)
        clear hd
        rw [← HP.out] at hnl
        obtain ⟨c0, c1, c2, f0, f1, f2, hzr⟩ := b1.facts
        obtain ⟨v1, v2, v3, v4, v5⟩ := HV.out.itnx n
        have V5 := Lib.hid v5
        rw [← HP.out] at v5
        have f3 := r1.frozen (it (nx s t) n x)
        by_cases hc : ∃ i, i < n ∧ it (nx s t) i x = it (nx s t) n x
        · obtain ⟨i, hi, e⟩ := hc
          have c3 := r1.cell _ _ (vis_yes (-1) 0 k (nx s t) x n i (by rw [e]; exact v5) HD.out hi)
          rw [e, Int.add_zero] at c3
          obtain ⟨e1, e2⟩ := Orb.eq ⟨hi, e, HD.out⟩ (by omega)
          have E1 := Lib.hid e1
          clear e e1 e2 v1 v2 v3 v4
          obtain ⟨c4, c5, c6, f4, f5, f6, hzr2⟩ := b2.facts
          have hz1 : decide ((i : Int) < 0) = false := by simp
          go_wp2_with fail
          refine still_tail 5 (by kernel_rfl) (by kernel_rfl) fun W HWW => ?_
          have b1' : B3 W w.heap.size 53 (.int .i64 s) (.int .i64 t) (.int .i64 (it (nx s t) n x)) := by rw [HWW.out]; exact b1
          have b2' : B3 W (w.heap.size + 1) 53 (.int .i64 0) (.int .i64 0) (.int .i64 0) := by rw [HWW.out]; exact b2
          have r1' : BI W (w.heap.size + 1 + 1) 3 (vis (-1) 0 k (nx s t) x n) := by rw [HWW.out]; exact r1
          have hwr' : Below w.heap.size w W := by rw [HWW.out]; exact hwr.drew
          clear HWW b1 b2 r1 hwr c0 c1 c2 f0 f1 f2 c4 c5 c6 f4 f5 f6 hzr hzr2 c3 f3
          obtain ⟨c0, c1, c2, f0, f1, f2, hzr⟩ := b1'.facts
          obtain ⟨c4, c5, c6, f4, f5, f6, hzr2⟩ := b2'.facts
          simp only [List.take_succ_cons, List.take_zero, List.drop_succ_cons, List.drop_zero]
          repeat still_step
          refine wpStill_nil ?_
          go_wp2
          rw [E1.out]
          refine bodyPost_ret (v := .tuple #[.slice (some ⟨w.heap.size + 1 + 1, 0, none⟩) k k, .int .i64 n, .agg #[.int .i64 s, .int .i64 t, .int .i64 (it (nx s t) n x)]]) (by simp [results, Try.results107, go_sem, c4, c5, c6]) rfl ⟨rfl, ?_, ?_⟩
          · exact ((r1'.other (show w.heap.size + 1 + 1 ≠ w.heap.size + 1 by omega) _).other (show w.heap.size + 1 + 1 ≠ w.heap.size + 1 by omega) _).other (show w.heap.size + 1 + 1 ≠ w.heap.size + 1 by omega) _
          · exact ((hwr'.setCell (by simp) _).setCell (by simp) _).setCell (by simp) _
        · have hne : ∀ i, i < n → it (nx s t) i x ≠ it (nx s t) n x := fun i hi e => hc ⟨i, hi, e⟩
          have c3 := r1.cell _ _ (vis_no (-1) 0 k (nx s t) x n _ v5 hne)
          have HD' := Lib.hid (HD.out.succ hne)
          have hlt : n + 1 ≤ k := by have := HD'.out.le (itnx_lt s t x HV.out); rw [← HP.out] at this; exact this
          clear hc hne
          go_wp2_with fail
          have r1' := r1.set (it (nx s t) n x) (n : Int)
          have b1' := b1.other (a := ⟨w.heap.size + 1 + 1, it (nx s t) n x, none⟩) (show w.heap.size ≠ w.heap.size + 1 + 1 by omega) (.int .i64 (n : Int))
          have b2' := b2.other (a := ⟨w.heap.size + 1 + 1, it (nx s t) n x, none⟩) (show w.heap.size + 1 ≠ w.heap.size + 1 + 1 by omega) (.int .i64 (n : Int))
          have hw3 := hwr.setCell (p := ⟨w.heap.size + 1 + 1, it (nx s t) n x, none⟩) (show w.heap.size ≤ w.heap.size + 1 + 1 by omega) (.int .i64 (n : Int))
          refine (step_spec s t _ _ v1 v2 V5.out v4).mono ?_
          rintro e w2 ⟨rfl, hb2⟩
          have b1' := b1'.below hb2 b1'.facts.2.2.2.2.2.2
          have b2' := b2'.below hb2 b2'.facts.2.2.2.2.2.2
          have r1' := r1'.below hb2 r1'.lt
          have hw2 := next hw3 hb2 (Nat.le_refl _)
          have r1' : BI w2 (w.heap.size + 1 + 1) 3 (vis (-1) 0 k (nx s t) x (n + 1)) := by rw [vis, Int.add_zero]; exact r1'
          clear c0 c1 c2 f0 f1 f2 b1 b2 r1 hwr hb2 v1 v2 v3 v4 v5 f3 hw3 hzr c3
          obtain ⟨c0, c1, c2, f0, f1, f2, hz2⟩ := b1'.facts
          go_wp2
          go_roundw
          case rel => exact ⟨n + 1, HD'.out, by go_num, by rw [it_succ]; exact b1'.set012 _ _ _, ((b2'.other (by simp) _).other (by simp) _).other (by simp) _, ((r1'.other (show w.heap.size + 1 + 1 ≠ w.heap.size by omega) _).other (show w.heap.size + 1 + 1 ≠ w.heap.size by omega) _).other (show w.heap.size + 1 + 1 ≠ w.heap.size by omega) _, ((hw2.setCell (by simp) _).setCell (by simp) _).setCell (by simp) _⟩
          case measure => simp [intOf]; omega
set_option maxHeartbeats 1000000 in
theorem speriod_yes (s t x : Nat) (w : World) (hv : VR s t x) :
    Calls Try.prog 83 #[.agg #[.int .i64 s, .int .i64 t, .int .i64 x]] w fun e w' => e = .returned (.int .i64 ((orbN (nx s t) x : Int) - orbI (nx s t) x)) ∧ Below w.heap.size w w' := by
  have hr := rv_mk hv
  have C := Lib.hid fun w => walk_spec s t x w hv
  obtain ⟨ho, hn⟩ := hv.orb
  have hx := (itnx_lt s t x hv) (orbN (nx s t) x)
  have hvis := vis_yes (-1) 0 (2 ^ s) (nx s t) x (orbN (nx s t) x) (orbI (nx s t) x) ((itnx_lt s t x hv) _) ho.2.2 ho.1
  rw [ho.2.1, Int.add_zero] at hvis
  have hp8 : 2 ^ s ≤ 256 := by have := Nat.pow_le_pow_right (n := 2) (by decide) hv.2.1; simpa using this
  have hle := ho.1
  clear ho hv
  generalize it (nx s t) (orbN (nx s t) x) x = y at *
  generalize orbN (nx s t) x = n at *
  generalize orbI (nx s t) x = i at *
  generalize 2 ^ s = p at *
  have HV := Lib.hid hvis
  clear hvis
  go_enter Try.func83, Try.ntmps83
  go_wp2_with fail
  refine (valid_spec _ _ _ _).mono ?_
  rintro e w1 ⟨rfl, hb1⟩
  have b1 := (B3.new w 53 (.int .i64 s) (.int .i64 t) (.int .i64 x)).below hb1 (by simp)
  have hw1 : Below w.heap.size w w1 := shutBox hb1
  clear hb1
  obtain ⟨c0, c1, c2, f0, f1, f2, hz⟩ := b1.facts
  go_wp2_with fail
  refine (C.out _).mono ?_
  rintro e w2 ⟨rfl, r2, hb2⟩
  have hw2 := next hw1 hb2 (Nat.le_refl _)
  have c3 := (r2.alloc (.cells #[.int .i64 s, .int .i64 t, .int .i64 y] 53)).cell _ _ HV.out
  have hs2 := hb2.size
  have hl2 := r2.lt
  clear hb2 hw1 b1 c0 c1 c2 f0 f1 f2
  go_wp2
  go_ret
  exact ⟨rfl, hw2.alloc hw2.size _⟩
set_option maxHeartbeats 1000000 in
theorem speriod_no (s t x : Int) (w : World) (hr : rv s t x = false) :
    Calls Try.prog 83 #[.agg #[.int .i64 s, .int .i64 t, .int .i64 x]] w fun e w' => e = .returned (.int .i64 (-1)) ∧ Below w.heap.size w w' := by
  go_enter Try.func83, Try.ntmps83
  go_wp2_with fail
  refine (valid_spec _ _ _ _).mono ?_
  rintro e w1 ⟨rfl, hb1⟩
  go_wp2
  go_ret
  exact ⟨rfl, shutBox hb1⟩
set_option maxHeartbeats 1000000 in
theorem slead_yes (s t x : Nat) (w : World) (hv : VR s t x) :
    Calls Try.prog 82 #[.agg #[.int .i64 s, .int .i64 t, .int .i64 x]] w fun e w' => e = .returned (.int .i64 ((orbI (nx s t) x : Int))) ∧ Below w.heap.size w w' := by
  have hr := rv_mk hv
  have C := Lib.hid fun w => walk_spec s t x w hv
  obtain ⟨ho, hn⟩ := hv.orb
  have hx := (itnx_lt s t x hv) (orbN (nx s t) x)
  have hvis := vis_yes (-1) 0 (2 ^ s) (nx s t) x (orbN (nx s t) x) (orbI (nx s t) x) ((itnx_lt s t x hv) _) ho.2.2 ho.1
  rw [ho.2.1, Int.add_zero] at hvis
  have hp8 : 2 ^ s ≤ 256 := by have := Nat.pow_le_pow_right (n := 2) (by decide) hv.2.1; simpa using this
  have hle := ho.1
  clear ho hv
  generalize it (nx s t) (orbN (nx s t) x) x = y at *
  generalize orbN (nx s t) x = n at *
  generalize orbI (nx s t) x = i at *
  generalize 2 ^ s = p at *
  have HV := Lib.hid hvis
  clear hvis
  go_enter Try.func82, Try.ntmps82
  go_wp2_with fail
  refine (valid_spec _ _ _ _).mono ?_
  rintro e w1 ⟨rfl, hb1⟩
  have b1 := (B3.new w 53 (.int .i64 s) (.int .i64 t) (.int .i64 x)).below hb1 (by simp)
  have hw1 : Below w.heap.size w w1 := shutBox hb1
  clear hb1
  obtain ⟨c0, c1, c2, f0, f1, f2, hz⟩ := b1.facts
  go_wp2_with fail
  refine (C.out _).mono ?_
  rintro e w2 ⟨rfl, r2, hb2⟩
  have hw2 := next hw1 hb2 (Nat.le_refl _)
  have c3 := (r2.alloc (.cells #[.int .i64 s, .int .i64 t, .int .i64 y] 53)).cell _ _ HV.out
  have hs2 := hb2.size
  have hl2 := r2.lt
  clear hb2 hw1 b1 c0 c1 c2 f0 f1 f2
  go_wp2
  go_ret
  exact ⟨rfl, hw2.alloc hw2.size _⟩
set_option maxHeartbeats 1000000 in
theorem slead_no (s t x : Int) (w : World) (hr : rv s t x = false) :
    Calls Try.prog 82 #[.agg #[.int .i64 s, .int .i64 t, .int .i64 x]] w fun e w' => e = .returned (.int .i64 (-1)) ∧ Below w.heap.size w w' := by
  go_enter Try.func82, Try.ntmps82
  go_wp2_with fail
  refine (valid_spec _ _ _ _).mono ?_
  rintro e w1 ⟨rfl, hb1⟩
  go_wp2
  go_ret
  exact ⟨rfl, shutBox hb1⟩
end Go.Proofs.Ytibnlaphkmnhfaa
