/- A register out of its text: the program's reading and the reference's. -/
import Derived.Test.YtgdnmhigjhfpkaaDoorWNum
import Derived.Test.YtgdnmhigjhfpkaaDoorWCut
import Derived.Test.YtgdnmhigjhfpkaaDoorWFmt
namespace Go.Proofs.YtgdnmhigjhfpkaaDoor
open Go.RowKit SS
set_option maxRecDepth 100000
theorem B3.set0 {w : World} {b : Nat} {T : TypeId} {x y z : Value} (h : B3 w b T x y z) (u : Value) : B3 (w.setCell ⟨b, 0, none⟩ u) b T u y z := by
  have := heap_setCell_same w b 0 _ T u h
  simpa [B3] using this
theorem B3.set1 {w : World} {b : Nat} {T : TypeId} {x y z : Value} (h : B3 w b T x y z) (u : Value) : B3 (w.setCell ⟨b, 1, none⟩ u) b T x u z := by
  have := heap_setCell_same w b 1 _ T u h
  simpa [B3] using this
/-- what a text says as a register -/
def parL (l : List UInt8) : (Int × Int × Int) × Bool :=
  match cutL 32 l with
  | [p, q, r] => if (pn p).2 && (pn q).2 && (pn r).2 && rv (pn p).1 (pn q).1 (pn r).1 then (((pn p).1, (pn q).1, (pn r).1), true) else ((0, 0, 0), false)
  | _ => ((0, 0, 0), false)
theorem parL_three {l p q r : List UInt8} {a b c : Int} {u v x : Bool} (h : cutL 32 l = [p, q, r]) (hp : pn p = (a, u)) (hq : pn q = (b, v)) (hr : pn r = (c, x)) :
    parL l = if u && v && x && rv a b c then ((a, b, c), true) else ((0, 0, 0), false) := by
  unfold parL
  rw [h]
  simp only [hp, hq, hr]
theorem parL_not {l : List UInt8} (h : (cutL 32 l).length ≠ 3) : parL l = ((0, 0, 0), false) := by
  unfold parL
  split
  · rename_i e; rw [e] at h; exact absurd rfl h
  · rfl
/-- what a reading returns -/
def ParR (l : List UInt8) : Ending := .returned (.tuple #[.agg #[.int .i64 (parL l).1.1, .int .i64 (parL l).1.2.1, .int .i64 (parL l).1.2.2], .bool (parL l).2])
theorem ret_par {l : List UInt8} {x y z : Int} {b : Bool} (h : parL l = ((x, y, z), b)) : Ending.returned (.tuple #[.agg #[.int .i64 x, .int .i64 y, .int .i64 z], .bool b]) = ParR l := by unfold ParR; rw [h]
theorem fmt_list (a b c : Nat) : (fmtB a b c).data.toList = Lib.decDigits a ++ 32 :: (Lib.decDigits b ++ 32 :: Lib.decDigits c) := by
  unfold fmtB dcs
  simp
theorem byt_of (l : List UInt8) : (byt l).data.toList = l := rfl
theorem num_l (l : List UInt8) (x : Int) (b : Bool) (w : World) (h : pn l = (x, b)) :
    Calls Tryd.prog 21 #[.string (byt l)] w fun e w' => e = .returned (.tuple #[.int .i64 x, .bool b]) ∧ w' = w := by
  have := num_impl (byt l) w
  rw [byt_of, h] at this
  exact this
theorem numS_l (l : List UInt8) (x : Int) (b : Bool) (w : World) (h : pn l = (x, b)) :
    Calls Tryd.prog 19 #[.string (byt l)] w fun e w' => e = .returned (.tuple #[.int .i64 x, .bool b]) ∧ w' = w := by
  have := num_spec (byt l) w
  rw [byt_of, h] at this
  exact this

set_option maxHeartbeats 2000000 in
theorem parse_impl_not (s : ByteArray) (w : World) (m : Int) (hm : w.cell? ⟨1, 0, none⟩ = some (.int .i64 m)) (hs : s.size ≤ 1048576) (hn : (cutL 32 s.data.toList).length ≠ 3) :
    Calls Tryd.prog 10 #[.string s] w fun e w' => e = ParR s.data.toList ∧ Below w.heap.size w w' := by
  have HF := Lib.hid (parL_not hn)
  have b1 := B3.new w 25 (.int .i64 0) (.int .i64 0) (.int .i64 0)
  have hw := (Below.refl w.heap.size w).alloc (Nat.le_refl _) (.cells #[.int .i64 0, .int .i64 0, .int .i64 0] 25)

  have hlt := World.block_lt_of_cell? w _ hm
  have C := split_impl s (w.alloc (.cells #[.int .i64 0, .int .i64 0, .int .i64 0] 25)) m ((hw.cell (p := ⟨1, 0, none⟩) hlt).trans hm) hs

  obtain ⟨n, hnn⟩ : ∃ n, n = (cutL 32 s.data.toList).length := ⟨_, rfl⟩
  have hn3 : ((n : Int) != 3) = true := by rw [bne_iff_ne]; rw [← hnn] at hn; omega
  unfold CutR at C
  rw [← hnn] at C
  have HC := Lib.hid C
  clear C hn hnn hlt hm
  go_enter Tryd.func10, Tryd.ntmps10
  go_wp2_with fail
  refine HC.out.mono ?_
  rintro e w1 ⟨A, cap, rfl, _, hq⟩
  replace b1 := b1.belowS hq
  have hwk := afterB hw hq hw.size
  clear hq hw
  obtain ⟨f0, f1, f2, _, _, _, _⟩ := b1.facts
  go_wp2
  refine bodyPost_ret (v := .tuple #[.agg #[.int .i64 0, .int .i64 0, .int .i64 0], .bool false]) (by simp [results, Tryd.results10, go_sem, f0, f1, f2]) rfl ⟨ret_par HF.out, ?_⟩
  exact ((hwk.setCell (by simp <;> omega) _).setCell (by simp <;> omega) _).setCell (by simp <;> omega) _

set_option maxHeartbeats 2000000 in
theorem parse_spec_not (s : ByteArray) (w : World) (hs : s.size ≤ 1048576) (hn : (cutL 32 s.data.toList).length ≠ 3) :
    Calls Tryd.prog 9 #[.string s] w fun e w' => e = ParR s.data.toList ∧ Below w.heap.size w w' := by
  have HF := Lib.hid (parL_not hn)
  have b1 := B3.new w 25 (.int .i64 0) (.int .i64 0) (.int .i64 0)
  have hw := (Below.refl w.heap.size w).alloc (Nat.le_refl _) (.cells #[.int .i64 0, .int .i64 0, .int .i64 0] 25)

  have C := cut_spec s (w.alloc (.cells #[.int .i64 0, .int .i64 0, .int .i64 0] 25)) hs

  obtain ⟨n, hnn⟩ : ∃ n, n = (cutL 32 s.data.toList).length := ⟨_, rfl⟩
  have hn3 : ((n : Int) != 3) = true := by rw [bne_iff_ne]; rw [← hnn] at hn; omega
  unfold CutR at C
  rw [← hnn] at C
  have HC := Lib.hid C
  clear C hn hnn
  go_enter Tryd.func9, Tryd.ntmps9
  go_wp2_with fail
  refine HC.out.mono ?_
  rintro e w1 ⟨A, cap, rfl, _, hq⟩
  replace b1 := b1.belowS hq
  have hwk := afterB hw hq hw.size
  clear hq hw
  obtain ⟨f0, f1, f2, _, _, _, _⟩ := b1.facts
  go_wp2
  refine bodyPost_ret (v := .tuple #[.agg #[.int .i64 0, .int .i64 0, .int .i64 0], .bool false]) (by simp [results, Tryd.results9, go_sem, f0, f1, f2]) rfl ⟨ret_par HF.out, ?_⟩
  exact ((hwk.setCell (by simp <;> omega) _).setCell (by simp <;> omega) _).setCell (by simp <;> omega) _

set_option maxHeartbeats 8000000 in
theorem parse_impl_three (s : ByteArray) (w : World) (m : Int) (hm : w.cell? ⟨1, 0, none⟩ = some (.int .i64 m)) (hs : s.size ≤ 1048576) (p q r : List UInt8) (a b c : Int) (u v x : Bool)
    (HL : Hid (cutL 32 s.data.toList = [p, q, r])) (hp : pn p = (a, u)) (hq : pn q = (b, v)) (hr : pn r = (c, x)) :
    Calls Tryd.prog 10 #[.string s] w fun e w' => e = ParR s.data.toList ∧ Below w.heap.size w w' := by
  have HP := Lib.hid (parL_three HL.out hp hq hr)
  have C0 := Lib.hid fun w => num_l p a u w hp
  have C1 := Lib.hid fun w => num_l q b v w hq
  have C2 := Lib.hid fun w => num_l r c x w hr
  have CV := Lib.hid fun w => valid_impl a b c w
  clear hp hq hr
  have b1 := B3.new w 25 (.int .i64 0) (.int .i64 0) (.int .i64 0)
  have hw := (Below.refl w.heap.size w).alloc (Nat.le_refl _) (.cells #[.int .i64 0, .int .i64 0, .int .i64 0] 25)
  have hlt := World.block_lt_of_cell? w _ hm
  have C := split_impl s (w.alloc (.cells #[.int .i64 0, .int .i64 0, .int .i64 0] 25)) m ((hw.cell (p := ⟨1, 0, none⟩) hlt).trans hm) hs
  rw [HL.out] at C
  have HC := Lib.hid C
  clear C hlt hm
  go_enter Tryd.func10, Tryd.ntmps10
  go_wp2_with fail
  refine HC.out.mono ?_
  rintro e w1 ⟨A, cap, rfl, hA, hq⟩
  obtain ⟨g, rfl, hg1, hg2, hpc⟩ := hA (by simp)
  have hc0 := hpc 0 p rfl
  have hc1 := hpc 1 q rfl
  have hc2 := hpc 2 r rfl
  replace b1 := b1.belowS hq
  replace hw := afterB hw hq hw.size
  have h1 := b1.facts.2.2.2.2.2.2
  clear hpc hq hg1 HC hA
  have HB1 := Lib.hid b1
  have HBW := Lib.hid hw
  have HC0 := Lib.hid hc0
  have HC1 := Lib.hid hc1
  have HC2 := Lib.hid hc2
  have HA0 := Lib.hid (B3.new w1 43 (.int .i64 0) (.int .i64 0) (.int .i64 0))
  have HK0 := Lib.hid ((Below.refl w1.heap.size w1).alloc (Nat.le_refl _) (.cells #[.int .i64 0, .int .i64 0, .int .i64 0] 43))
  clear b1 hw hc0 hc1 hc2
  go_wp2_with fail
  go_loopw [19] (fun i wr => ∃ j : Nat, j ≤ 3 ∧ i = .int .i64 (j : Int) ∧ B3 wr w1.heap.size 43 (.int .i64 (if 0 < j then a else 0)) (.int .i64 (if 1 < j then b else 0)) (.int .i64 (if 2 < j then c else 0)) ∧ (0 < j → u = true) ∧ (1 < j → v = true) ∧ (2 < j → x = true) ∧ Below w1.heap.size w1 wr) (fun i _ => 3 - (intOf i).toNat)
  case atStart => exact ⟨0, by omega, rfl, HA0.out, fun h => absurd h (by omega), fun h => absurd h (by omega), fun h => absurd h (by omega), HK0.out⟩
  case round =>
    clear HA0 HK0
    obtain ⟨j, hj, rfl, hA, k0, k1, k2, hk⟩ := hrel
    have hc0 := (hk.cell (p := ⟨g, 0, none⟩) hg2).trans HC0.out
    have hc1 := (hk.cell (p := ⟨g, 1, none⟩) hg2).trans HC1.out
    have hc2 := (hk.cell (p := ⟨g, 2, none⟩) hg2).trans HC2.out
    have bR := HB1.out.below hk h1
    have hwk := afterB HBW.out hk (by omega)
    rcases (by omega : j = 0 ∨ j = 1 ∨ j = 2 ∨ j = 3) with rfl | rfl | rfl | rfl
    · have bA : B3 wr w1.heap.size 43 (.int .i64 0) (.int .i64 0) (.int .i64 0) := by simpa using hA
      clear hA
      cases u with
      | false =>
        have HF : Hid (parL s.data.toList = ((0, 0, 0), false)) := by
          show _ = _
          rw [HP.out]
          simp
        clear k0 k1 k2
        obtain ⟨f0, f1, f2, f3, f4, f5, f6⟩ := bR.facts
        clear bR bA
        go_wp2_with fail
        refine (C0.out _).mono ?_
        rintro e w2 ⟨rfl, rfl⟩
        go_wp2
        refine bodyPost_ret (v := .tuple #[.agg #[.int .i64 0, .int .i64 0, .int .i64 0], .bool false]) (by simp [results, Tryd.results10, go_sem, f0, f1, f2]) rfl ⟨ret_par HF.out, ?_⟩
        exact ((hwk.setCell (by simp <;> omega) _).setCell (by simp <;> omega) _).setCell (by simp <;> omega) _
      | true =>
        clear k0 k1 k2 bR
        obtain ⟨f0, f1, f2, f3, f4, f5, f6⟩ := bA.facts
        have hbs := Lib.hid ((hk.setCell (by simp) (.int .i64 a)) : Below w1.heap.size w1 (wr.setCell ⟨w1.heap.size, 0, none⟩ (.int .i64 a)))
        have hbn := Lib.hid (bA.set0 (.int .i64 a))
        clear bA hk hwk
        go_wp2_with fail
        refine (C0.out _).mono ?_
        rintro e w2 ⟨rfl, rfl⟩
        go_wp2
        go_roundw
        case rel => exact ⟨1, by omega, by go_num, by simpa using hbn.out, fun _ => by simp, fun h => absurd h (by omega), fun h => absurd h (by omega), hbs.out⟩
        case measure => simp [intOf]
    · have bA : B3 wr w1.heap.size 43 (.int .i64 a) (.int .i64 0) (.int .i64 0) := by simpa using hA
      clear hA
      obtain rfl : u = true := k0 (by omega)
      cases v with
      | false =>
        have HF : Hid (parL s.data.toList = ((0, 0, 0), false)) := by
          show _ = _
          rw [HP.out]
          simp
        clear k0 k1 k2
        obtain ⟨f0, f1, f2, f3, f4, f5, f6⟩ := bR.facts
        clear bR bA
        go_wp2_with fail
        refine (C1.out _).mono ?_
        rintro e w2 ⟨rfl, rfl⟩
        go_wp2
        refine bodyPost_ret (v := .tuple #[.agg #[.int .i64 0, .int .i64 0, .int .i64 0], .bool false]) (by simp [results, Tryd.results10, go_sem, f0, f1, f2]) rfl ⟨ret_par HF.out, ?_⟩
        exact ((hwk.setCell (by simp <;> omega) _).setCell (by simp <;> omega) _).setCell (by simp <;> omega) _
      | true =>
        clear k0 k1 k2 bR
        obtain ⟨f0, f1, f2, f3, f4, f5, f6⟩ := bA.facts
        have hbs := Lib.hid ((hk.setCell (by simp) (.int .i64 b)) : Below w1.heap.size w1 (wr.setCell ⟨w1.heap.size, 1, none⟩ (.int .i64 b)))
        have hbn := Lib.hid (bA.set1 (.int .i64 b))
        clear bA hk hwk
        go_wp2_with fail
        refine (C1.out _).mono ?_
        rintro e w2 ⟨rfl, rfl⟩
        go_wp2
        go_roundw
        case rel => exact ⟨2, by omega, by go_num, by simpa using hbn.out, fun _ => by simp, fun _ => by simp, fun h => absurd h (by omega), hbs.out⟩
        case measure => simp [intOf]
    · have bA : B3 wr w1.heap.size 43 (.int .i64 a) (.int .i64 b) (.int .i64 0) := by simpa using hA
      clear hA
      obtain rfl : u = true := k0 (by omega)
      obtain rfl : v = true := k1 (by omega)
      cases x with
      | false =>
        have HF : Hid (parL s.data.toList = ((0, 0, 0), false)) := by
          show _ = _
          rw [HP.out]
          simp
        clear k0 k1 k2
        obtain ⟨f0, f1, f2, f3, f4, f5, f6⟩ := bR.facts
        clear bR bA
        go_wp2_with fail
        refine (C2.out _).mono ?_
        rintro e w2 ⟨rfl, rfl⟩
        go_wp2
        refine bodyPost_ret (v := .tuple #[.agg #[.int .i64 0, .int .i64 0, .int .i64 0], .bool false]) (by simp [results, Tryd.results10, go_sem, f0, f1, f2]) rfl ⟨ret_par HF.out, ?_⟩
        exact ((hwk.setCell (by simp <;> omega) _).setCell (by simp <;> omega) _).setCell (by simp <;> omega) _
      | true =>
        clear k0 k1 k2 bR
        obtain ⟨f0, f1, f2, f3, f4, f5, f6⟩ := bA.facts
        have hbs := Lib.hid ((hk.setCell (by simp) (.int .i64 c)) : Below w1.heap.size w1 (wr.setCell ⟨w1.heap.size, 2, none⟩ (.int .i64 c)))
        have hbn := Lib.hid (bA.set2 (.int .i64 c))
        clear bA hk hwk
        go_wp2_with fail
        refine (C2.out _).mono ?_
        rintro e w2 ⟨rfl, rfl⟩
        go_wp2
        go_roundw
        case rel => exact ⟨3, by omega, by go_num, by simpa using hbn.out, fun _ => by simp, fun _ => by simp, fun _ => by simp, hbs.out⟩
        case measure => simp [intOf]
    · have bA : B3 wr w1.heap.size 43 (.int .i64 a) (.int .i64 b) (.int .i64 c) := by simpa using hA
      obtain rfl : u = true := k0 (by omega)
      obtain rfl : v = true := k1 (by omega)
      obtain rfl : x = true := k2 (by omega)
      clear hA k0 k1 k2
      have bR2 := bR.alloc (.cells #[.int .i64 a, .int .i64 b, .int .i64 c] 25)
      have bN := B3.new wr 25 (.int .i64 a) (.int .i64 b) (.int .i64 c)
      have hwn := hwk.alloc hwk.size (.cells #[.int .i64 a, .int .i64 b, .int .i64 c] 25)
      obtain ⟨f0, f1, f2, f3, f4, f5, f6⟩ := bA.facts
      clear bA bR hk hwk hc0 hc1 hc2
      go_wp2_with fail
      refine (CV.out _).mono ?_
      rintro e w3 ⟨rfl, hb3⟩
      replace bR2 := bR2.belowS hb3
      replace bN := bN.belowS hb3
      have hwk := afterB hwn hb3 hwn.size
      clear hb3 hwn f0 f1 f2 f3 f4 f5 f6
      obtain ⟨f0, f1, f2, f3, f4, f5, f6⟩ := bR2.facts
      obtain ⟨n0, n1, n2, n3, n4, n5, n6⟩ := bN.facts
      have hbw := HBW.out.size
      cases hv : rv a b c with
      | false =>
        have HF : Hid (parL s.data.toList = ((0, 0, 0), false)) := by
          show _ = _
          rw [HP.out, hv]
          simp
        go_wp2
        refine bodyPost_ret (v := .tuple #[.agg #[.int .i64 0, .int .i64 0, .int .i64 0], .bool false]) (by simp [results, Tryd.results10, go_sem, f0, f1, f2]) rfl ⟨ret_par HF.out, ?_⟩
        exact ((hwk.setCell (by simp <;> omega) _).setCell (by simp <;> omega) _).setCell (by simp <;> omega) _
      | true =>
        have HF : Hid (parL s.data.toList = ((a, b, c), true)) := by
          show _ = _
          rw [HP.out, hv]
          simp
        go_wp2
        refine bodyPost_ret (v := .tuple #[.agg #[.int .i64 a, .int .i64 b, .int .i64 c], .bool true]) (by simp [results, Tryd.results10, go_sem, f0, f1, f2]) rfl ⟨ret_par HF.out, ?_⟩
        exact ((hwk.setCell (by simp <;> omega) _).setCell (by simp <;> omega) _).setCell (by simp <;> omega) _

set_option maxHeartbeats 4000000 in
theorem parse_spec_of (s fb : ByteArray) (w : World) (hs : s.size ≤ 1048576) (p q r : List UInt8) (a b c : Int) (u v x z : Bool) (ra rb rc : Int)
    (HL : Hid (cutL 32 s.data.toList = [p, q, r])) (hp : pn p = (a, u)) (hq : pn q = (b, v)) (hr : pn r = (c, x))
    (CF : Hid (∀ w, Calls Tryd.prog 6 #[.agg #[.int .i64 a, .int .i64 b, .int .i64 c]] w fun e w' => e = .returned (.string fb) ∧ Below w.heap.size w w'))
    (hz : (fb.toList == s.toList) = z) (HF : Hid (parL s.data.toList = ((ra, rb, rc), z))) (HR : Hid (z = true → ra = a ∧ rb = b ∧ rc = c)) (HR0 : Hid (z = false → ra = 0 ∧ rb = 0 ∧ rc = 0)) :
    Calls Tryd.prog 9 #[.string s] w fun e w' => e = ParR s.data.toList ∧ Below w.heap.size w w' := by
  have C0 := Lib.hid fun w => numS_l p a u w hp
  have C1 := Lib.hid fun w => numS_l q b v w hq
  have C2 := Lib.hid fun w => numS_l r c x w hr
  clear hp hq hr
  have b1 := B3.new w 25 (.int .i64 0) (.int .i64 0) (.int .i64 0)
  have hw := (Below.refl w.heap.size w).alloc (Nat.le_refl _) (.cells #[.int .i64 0, .int .i64 0, .int .i64 0] 25)
  have C := cut_spec s (w.alloc (.cells #[.int .i64 0, .int .i64 0, .int .i64 0] 25)) hs
  rw [HL.out] at C
  have HC := Lib.hid C
  clear C
  cases z
  all_goals
    go_enter Tryd.func9, Tryd.ntmps9
    go_wp2_with fail
    refine HC.out.mono ?_
    rintro e w1 ⟨A, cap, rfl, hA, hq⟩
    obtain ⟨g, rfl, hg1, hg2, hpc⟩ := hA (by simp)
    have hc0 := hpc 0 p rfl
    have hc1 := hpc 1 q rfl
    have hc2 := hpc 2 r rfl
    replace b1 := b1.belowS hq
    replace hw := afterB hw hq hw.size
    clear hpc hq hg1 HC hA
    go_wp2_with fail
    refine (C0.out _).mono ?_
    rintro e w2 ⟨rfl, rfl⟩
    go_wp2_with fail
    refine (C1.out _).mono ?_
    rintro e w3 ⟨rfl, rfl⟩
    go_wp2_with fail
    refine (C2.out _).mono ?_
    rintro e w4 ⟨rfl, rfl⟩
    have bR := b1.alloc (.cells #[.int .i64 a, .int .i64 b, .int .i64 c] 25)
    have bN := B3.new w4 25 (.int .i64 a) (.int .i64 b) (.int .i64 c)
    have hwn := hw.alloc hw.size (.cells #[.int .i64 a, .int .i64 b, .int .i64 c] 25)
    clear b1 hw hc0 hc1 hc2
    go_wp2_with fail
    refine (CF.out _).mono ?_
    rintro e w5 ⟨rfl, hb⟩
    replace bR := bR.belowS hb
    replace bN := bN.belowS hb
    have hwk := afterB hwn hb hwn.size
    clear hb hwn
    obtain ⟨f0, f1, f2, f3, f4, f5, f6⟩ := bR.facts
    obtain ⟨n0, n1, n2, n3, n4, n5, n6⟩ := bN.facts
  · obtain ⟨rfl, rfl, rfl⟩ := HR0.out (by simp)
    go_wp2
    refine bodyPost_ret (v := .tuple #[.agg #[.int .i64 0, .int .i64 0, .int .i64 0], .bool false]) (by simp [results, Tryd.results9, go_sem, f0, f1, f2]) rfl ⟨ret_par HF.out, ?_⟩
    exact ((hwk.setCell (by simp <;> omega) _).setCell (by simp <;> omega) _).setCell (by simp <;> omega) _
  · obtain ⟨rfl, rfl, rfl⟩ := HR.out (by simp)
    go_wp2
    refine bodyPost_ret (v := .tuple #[.agg #[.int .i64 _, .int .i64 _, .int .i64 _], .bool true]) (by simp [results, Tryd.results9, go_sem, f0, f1, f2]) rfl ⟨ret_par HF.out, ?_⟩
    exact ((hwk.setCell (by simp <;> omega) _).setCell (by simp <;> omega) _).setCell (by simp <;> omega) _

theorem ba_ne {a b : ByteArray} (h : a.data.toList ≠ b.data.toList) : (a.toList == b.toList) = false := ba_no fun e => h (by rw [e])
theorem ba_eq {a b : ByteArray} (h : a.data.toList = b.data.toList) : (a.toList == b.toList) = true := ba_yes (ByteArray.ext (Array.toList_inj.1 h))
theorem parse_spec (s : ByteArray) (w : World) (hs : s.size ≤ 1048576) :
    Calls Tryd.prog 9 #[.string s] w fun e w' => e = ParR s.data.toList ∧ Below w.heap.size w w' := by
  by_cases hn : (cutL 32 s.data.toList).length = 3
  · obtain ⟨p, q, r, HL⟩ : ∃ p q r, cutL 32 s.data.toList = [p, q, r] := by
      match h : cutL 32 s.data.toList, hn with
      | [p, q, r], _ => exact ⟨p, q, r, rfl⟩
    obtain ⟨a, u, hp⟩ : ∃ a u, pn p = (a, u) := ⟨_, _, rfl⟩
    obtain ⟨b, v, hq⟩ : ∃ b v, pn q = (b, v) := ⟨_, _, rfl⟩
    obtain ⟨c, x, hr⟩ : ∃ c x, pn r = (c, x) := ⟨_, _, rfl⟩
    have HP := parL_three HL hp hq hr
    cases hv : rv a b c with
    | false =>
      rw [hv] at HP
      simp at HP
      refine parse_spec_of s ⟨#[]⟩ w hs p q r a b c u v x false 0 0 0 (Lib.hid HL) hp hq hr (Lib.hid fun w => fmt_spec_no a b c w hv) ?_ (Lib.hid HP) (Lib.hid fun h => by cases h) (Lib.hid fun _ => ⟨rfl, rfl, rfl⟩)
      refine ba_ne fun e => ?_
      rw [← e] at HL
      simp [cutL] at HL
    | true =>
      obtain ⟨a', b', c', rfl, rfl, rfl, hV⟩ := rv_nat hv
      rw [hv] at HP
      obtain ⟨l1, l2, l3⟩ : a' < 256 ∧ b' < 256 ∧ c' < 256 := by
        obtain ⟨_, h2, _, h4, h5⟩ := hV
        have : 2 ^ a' ≤ 2 ^ 8 := Nat.pow_le_pow_right (by decide) h2
        omega
      have hi := text_iff s.data.toList p q r HL a' b' c' l1 l2 l3 (by rw [hp]) (by rw [hq]) (by rw [hr])
      rw [hp, hq, hr] at hi
      by_cases hk : u = true ∧ v = true ∧ x = true
      · obtain ⟨rfl, rfl, rfl⟩ := hk
        simp at HP
        refine parse_spec_of s (fmtB a' b' c') w hs p q r a' b' c' true true true true a' b' c' (Lib.hid HL) hp hq hr (Lib.hid fun w => fmt_spec a' b' c' w hV) ?_ (Lib.hid HP) (Lib.hid fun _ => ⟨rfl, rfl, rfl⟩) (Lib.hid fun h => by cases h)
        refine ba_eq ?_
        rw [fmt_list]
        exact hi.2 ⟨rfl, rfl, rfl⟩
      · have hf : (u && v && x && true) = false := by
          cases u <;> cases v <;> cases x <;> simp at hk ⊢
        rw [hf] at HP
        simp at HP
        refine parse_spec_of s (fmtB a' b' c') w hs p q r a' b' c' u v x false 0 0 0 (Lib.hid HL) hp hq hr (Lib.hid fun w => fmt_spec a' b' c' w hV) ?_ (Lib.hid HP) (Lib.hid fun h => by cases h) (Lib.hid fun _ => ⟨rfl, rfl, rfl⟩)
        refine ba_ne fun e => hk ?_
        rw [fmt_list] at e
        exact hi.1 e
  · exact parse_spec_not s w hs hn
theorem parse_impl (s : ByteArray) (w : World) (m : Int) (hm : w.cell? ⟨1, 0, none⟩ = some (.int .i64 m)) (hs : s.size ≤ 1048576) :
    Calls Tryd.prog 10 #[.string s] w fun e w' => e = ParR s.data.toList ∧ Below w.heap.size w w' := by
  by_cases hn : (cutL 32 s.data.toList).length = 3
  · obtain ⟨p, q, r, HL⟩ : ∃ p q r, cutL 32 s.data.toList = [p, q, r] := by
      match h : cutL 32 s.data.toList, hn with
      | [p, q, r], _ => exact ⟨p, q, r, rfl⟩
    exact parse_impl_three s w m hm hs p q r _ _ _ _ _ _ (Lib.hid HL) rfl rfl rfl
  · exact parse_impl_not s w m hm hs hn
end Go.Proofs.YtgdnmhigjhfpkaaDoor
