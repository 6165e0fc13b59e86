/- Texts of this claim, joined: WParse, WText, WStep, WTail, LawFnRegisterText. -/
import Derived.Test.YtgdnmhigjhfpkaaDoorWNum
import Derived.Test.YtgdnmhigjhfpkaaDoorWCut
import Derived.Test.YtgdnmhigjhfpkaaDoorWFmt
import Derived.Test.YtgdnmhigjhfpkaaDoorWDrawR
import Derived.Test.YtgdnmhigjhfpkaaDoorWDrawS
import Derived.Test.YtgdnmhigjhfpkaaDoorWJump
import Derived.Test.YtgdnmhigjhfpkaaDoorWAfter
import Derived.Laws.StructEq
namespace Go.Proofs.YtgdnmhigjhfpkaaDoor
open Go.RowKit SS
set_option maxRecDepth 100000
theorem B3.set0 {w : World} {b : Nat} {T : TypeId} {x y z : Value} (h : B3 w b T x y z) (u : Value) : B3 (w.setCell ⟨b, 0, none⟩ u) b T u y z := by
  have := heap_setCell_same w b 0 _ T u h
  simpa [B3] using this
theorem B3.set1 {w : World} {b : Nat} {T : TypeId} {x y z : Value} (h : B3 w b T x y z) (u : Value) : B3 (w.setCell ⟨b, 1, none⟩ u) b T x u z := by
  have := heap_setCell_same w b 1 _ T u h
  simpa [B3] using this
/-- what a text says as a register -/
def parL (l : List UInt8) : (Int × Int × Int) × Bool :=
  match cutL 32 l with
  | [p, q, r] => if (pn p).2 && (pn q).2 && (pn r).2 && rv (pn p).1 (pn q).1 (pn r).1 then (((pn p).1, (pn q).1, (pn r).1), true) else ((0, 0, 0), false)
  | _ => ((0, 0, 0), false)
theorem parL_three {l p q r : List UInt8} {a b c : Int} {u v x : Bool} (h : cutL 32 l = [p, q, r]) (hp : pn p = (a, u)) (hq : pn q = (b, v)) (hr : pn r = (c, x)) :
    parL l = if u && v && x && rv a b c then ((a, b, c), true) else ((0, 0, 0), false) := by
  unfold parL
  rw [h]
  simp only [hp, hq, hr]
theorem parL_not {l : List UInt8} (h : (cutL 32 l).length ≠ 3) : parL l = ((0, 0, 0), false) := by
  unfold parL
  split
  · rename_i e; rw [e] at h; exact absurd rfl h
  · rfl
/-- what a reading returns -/
def ParR (l : List UInt8) : Ending := .returned (.tuple #[.agg #[.int .i64 (parL l).1.1, .int .i64 (parL l).1.2.1, .int .i64 (parL l).1.2.2], .bool (parL l).2])
theorem ret_par {l : List UInt8} {x y z : Int} {b : Bool} (h : parL l = ((x, y, z), b)) : Ending.returned (.tuple #[.agg #[.int .i64 x, .int .i64 y, .int .i64 z], .bool b]) = ParR l := by unfold ParR; rw [h]
theorem fmt_list (a b c : Nat) : (fmtB a b c).data.toList = Lib.decDigits a ++ 32 :: (Lib.decDigits b ++ 32 :: Lib.decDigits c) := by
  unfold fmtB dcs
  simp
theorem byt_of (l : List UInt8) : (byt l).data.toList = l := rfl
theorem num_l (l : List UInt8) (x : Int) (b : Bool) (w : World) (h : pn l = (x, b)) :
    Calls Tryd.prog 21 #[.string (byt l)] w fun e w' => e = .returned (.tuple #[.int .i64 x, .bool b]) ∧ w' = w := by
  have := num_impl (byt l) w
  rw [byt_of, h] at this
  exact this
theorem numS_l (l : List UInt8) (x : Int) (b : Bool) (w : World) (h : pn l = (x, b)) :
    Calls Tryd.prog 19 #[.string (byt l)] w fun e w' => e = .returned (.tuple #[.int .i64 x, .bool b]) ∧ w' = w := by
  have := num_spec (byt l) w
  rw [byt_of, h] at this
  exact this

set_option maxHeartbeats 2000000 in
theorem parse_impl_not (s : ByteArray) (w : World) (m : Int) (hm : w.cell? ⟨1, 0, none⟩ = some (.int .i64 m)) (hs : s.size ≤ 1048576) (hn : (cutL 32 s.data.toList).length ≠ 3) :
    Calls Tryd.prog 10 #[.string s] w fun e w' => e = ParR s.data.toList ∧ Below w.heap.size w w' := by
  have HF := Lib.hid (parL_not hn)
  have b1 := B3.new w 25 (.int .i64 0) (.int .i64 0) (.int .i64 0)
  have hw := (Below.refl w.heap.size w).alloc (Nat.le_refl _) (.cells #[.int .i64 0, .int .i64 0, .int .i64 0] 25)

  have hlt := World.block_lt_of_cell? w _ hm
  have C := split_impl s (w.alloc (.cells #[.int .i64 0, .int .i64 0, .int .i64 0] 25)) m ((hw.cell (p := ⟨1, 0, none⟩) hlt).trans hm) hs

  obtain ⟨n, hnn⟩ : ∃ n, n = (cutL 32 s.data.toList).length := ⟨_, rfl⟩
  have hn3 : ((n : Int) != 3) = true := by rw [bne_iff_ne]; rw [← hnn] at hn; omega
  unfold CutR at C
  rw [← hnn] at C
  have HC := Lib.hid C
  clear C hn hnn hlt hm
  go_enter Tryd.func10, Tryd.ntmps10
  go_wp2_with fail
  refine HC.out.mono ?_
  rintro e w1 ⟨A, cap, rfl, _, hq⟩
  replace b1 := b1.belowS hq
  have hwk := afterB hw hq hw.size
  clear hq hw
  obtain ⟨f0, f1, f2, _, _, _, _⟩ := b1.facts
  go_wp2
  refine bodyPost_ret (v := .tuple #[.agg #[.int .i64 0, .int .i64 0, .int .i64 0], .bool false]) (by simp [results, Tryd.results10, go_sem, f0, f1, f2]) rfl ⟨ret_par HF.out, ?_⟩
  exact ((hwk.setCell (by simp <;> omega) _).setCell (by simp <;> omega) _).setCell (by simp <;> omega) _

set_option maxHeartbeats 2000000 in
theorem parse_spec_not (s : ByteArray) (w : World) (hs : s.size ≤ 1048576) (hn : (cutL 32 s.data.toList).length ≠ 3) :
    Calls Tryd.prog 9 #[.string s] w fun e w' => e = ParR s.data.toList ∧ Below w.heap.size w w' := by
  have HF := Lib.hid (parL_not hn)
  have b1 := B3.new w 25 (.int .i64 0) (.int .i64 0) (.int .i64 0)
  have hw := (Below.refl w.heap.size w).alloc (Nat.le_refl _) (.cells #[.int .i64 0, .int .i64 0, .int .i64 0] 25)

  have C := cut_spec s (w.alloc (.cells #[.int .i64 0, .int .i64 0, .int .i64 0] 25)) hs

  obtain ⟨n, hnn⟩ : ∃ n, n = (cutL 32 s.data.toList).length := ⟨_, rfl⟩
  have hn3 : ((n : Int) != 3) = true := by rw [bne_iff_ne]; rw [← hnn] at hn; omega
  unfold CutR at C
  rw [← hnn] at C
  have HC := Lib.hid C
  clear C hn hnn
  go_enter Tryd.func9, Tryd.ntmps9
  go_wp2_with fail
  refine HC.out.mono ?_
  rintro e w1 ⟨A, cap, rfl, _, hq⟩
  replace b1 := b1.belowS hq
  have hwk := afterB hw hq hw.size
  clear hq hw
  obtain ⟨f0, f1, f2, _, _, _, _⟩ := b1.facts
  go_wp2
  refine bodyPost_ret (v := .tuple #[.agg #[.int .i64 0, .int .i64 0, .int .i64 0], .bool false]) (by simp [results, Tryd.results9, go_sem, f0, f1, f2]) rfl ⟨ret_par HF.out, ?_⟩
  exact ((hwk.setCell (by simp <;> omega) _).setCell (by simp <;> omega) _).setCell (by simp <;> omega) _

set_option maxHeartbeats 8000000 in
theorem parse_impl_three (s : ByteArray) (w : World) (m : Int) (hm : w.cell? ⟨1, 0, none⟩ = some (.int .i64 m)) (hs : s.size ≤ 1048576) (p q r : List UInt8) (a b c : Int) (u v x : Bool)
    (HL : Hid (cutL 32 s.data.toList = [p, q, r])) (hp : pn p = (a, u)) (hq : pn q = (b, v)) (hr : pn r = (c, x)) :
    Calls Tryd.prog 10 #[.string s] w fun e w' => e = ParR s.data.toList ∧ Below w.heap.size w w' := by
  have HP := Lib.hid (parL_three HL.out hp hq hr)
  have C0 := Lib.hid fun w => num_l p a u w hp
  have C1 := Lib.hid fun w => num_l q b v w hq
  have C2 := Lib.hid fun w => num_l r c x w hr
  have CV := Lib.hid fun w => valid_impl a b c w
  clear hp hq hr
  have b1 := B3.new w 25 (.int .i64 0) (.int .i64 0) (.int .i64 0)
  have hw := (Below.refl w.heap.size w).alloc (Nat.le_refl _) (.cells #[.int .i64 0, .int .i64 0, .int .i64 0] 25)
  have hlt := World.block_lt_of_cell? w _ hm
  have C := split_impl s (w.alloc (.cells #[.int .i64 0, .int .i64 0, .int .i64 0] 25)) m ((hw.cell (p := ⟨1, 0, none⟩) hlt).trans hm) hs
  rw [HL.out] at C
  have HC := Lib.hid C
  clear C hlt hm
  go_enter Tryd.func10, Tryd.ntmps10
  go_wp2_with fail
  refine HC.out.mono ?_
  rintro e w1 ⟨A, cap, rfl, hA, hq⟩
  obtain ⟨g, rfl, hg1, hg2, hpc⟩ := hA (by simp)
  have hc0 := hpc 0 p rfl
  have hc1 := hpc 1 q rfl
  have hc2 := hpc 2 r rfl
  replace b1 := b1.belowS hq
  replace hw := afterB hw hq hw.size
  have h1 := b1.facts.2.2.2.2.2.2
  clear hpc hq hg1 HC hA
  have HB1 := Lib.hid b1
  have HBW := Lib.hid hw
  have HC0 := Lib.hid hc0
  have HC1 := Lib.hid hc1
  have HC2 := Lib.hid hc2
  have HA0 := Lib.hid (B3.new w1 43 (.int .i64 0) (.int .i64 0) (.int .i64 0))
  have HK0 := Lib.hid ((Below.refl w1.heap.size w1).alloc (Nat.le_refl _) (.cells #[.int .i64 0, .int .i64 0, .int .i64 0] 43))
  clear b1 hw hc0 hc1 hc2
  go_wp2_with fail
  go_loopw [19] (fun i wr => ∃ j : Nat, j ≤ 3 ∧ i = .int .i64 (j : Int) ∧ B3 wr w1.heap.size 43 (.int .i64 (if 0 < j then a else 0)) (.int .i64 (if 1 < j then b else 0)) (.int .i64 (if 2 < j then c else 0)) ∧ (0 < j → u = true) ∧ (1 < j → v = true) ∧ (2 < j → x = true) ∧ Below w1.heap.size w1 wr) (fun i _ => 3 - (intOf i).toNat)
  case atStart => exact ⟨0, by omega, rfl, HA0.out, fun h => absurd h (by omega), fun h => absurd h (by omega), fun h => absurd h (by omega), HK0.out⟩
  case round =>
    clear HA0 HK0
    obtain ⟨j, hj, rfl, hA, k0, k1, k2, hk⟩ := hrel
    have hc0 := (hk.cell (p := ⟨g, 0, none⟩) hg2).trans HC0.out
    have hc1 := (hk.cell (p := ⟨g, 1, none⟩) hg2).trans HC1.out
    have hc2 := (hk.cell (p := ⟨g, 2, none⟩) hg2).trans HC2.out
    have bR := HB1.out.below hk h1
    have hwk := afterB HBW.out hk (by omega)
    rcases (by omega : j = 0 ∨ j = 1 ∨ j = 2 ∨ j = 3) with rfl | rfl | rfl | rfl
    · have bA : B3 wr w1.heap.size 43 (.int .i64 0) (.int .i64 0) (.int .i64 0) := by simpa using hA
      clear hA
      cases u with
      | false =>
        have HF : Hid (parL s.data.toList = ((0, 0, 0), false)) := by
          show _ = _
          rw [HP.out]
          simp
        clear k0 k1 k2
        obtain ⟨f0, f1, f2, f3, f4, f5, f6⟩ := bR.facts
        clear bR bA
        go_wp2_with fail
        refine (C0.out _).mono ?_
        rintro e w2 ⟨rfl, rfl⟩
        go_wp2
        refine bodyPost_ret (v := .tuple #[.agg #[.int .i64 0, .int .i64 0, .int .i64 0], .bool false]) (by simp [results, Tryd.results10, go_sem, f0, f1, f2]) rfl ⟨ret_par HF.out, ?_⟩
        exact ((hwk.setCell (by simp <;> omega) _).setCell (by simp <;> omega) _).setCell (by simp <;> omega) _
      | true =>
        clear k0 k1 k2 bR
        obtain ⟨f0, f1, f2, f3, f4, f5, f6⟩ := bA.facts
        have hbs := Lib.hid ((hk.setCell (by simp) (.int .i64 a)) : Below w1.heap.size w1 (wr.setCell ⟨w1.heap.size, 0, none⟩ (.int .i64 a)))
        have hbn := Lib.hid (bA.set0 (.int .i64 a))
        clear bA hk hwk
        go_wp2_with fail
        refine (C0.out _).mono ?_
        rintro e w2 ⟨rfl, rfl⟩
        go_wp2
        go_roundw
        case rel => exact ⟨1, by omega, by go_num, by simpa using hbn.out, fun _ => by simp, fun h => absurd h (by omega), fun h => absurd h (by omega), hbs.out⟩
        case measure => simp [intOf]
    · have bA : B3 wr w1.heap.size 43 (.int .i64 a) (.int .i64 0) (.int .i64 0) := by simpa using hA
      clear hA
      obtain rfl : u = true := k0 (by omega)
      cases v with
      | false =>
        have HF : Hid (parL s.data.toList = ((0, 0, 0), false)) := by
          show _ = _
          rw [HP.out]
          simp
        clear k0 k1 k2
        obtain ⟨f0, f1, f2, f3, f4, f5, f6⟩ := bR.facts
        clear bR bA
        go_wp2_with fail
        refine (C1.out _).mono ?_
        rintro e w2 ⟨rfl, rfl⟩
        go_wp2
        refine bodyPost_ret (v := .tuple #[.agg #[.int .i64 0, .int .i64 0, .int .i64 0], .bool false]) (by simp [results, Tryd.results10, go_sem, f0, f1, f2]) rfl ⟨ret_par HF.out, ?_⟩
        exact ((hwk.setCell (by simp <;> omega) _).setCell (by simp <;> omega) _).setCell (by simp <;> omega) _
      | true =>
        clear k0 k1 k2 bR
        obtain ⟨f0, f1, f2, f3, f4, f5, f6⟩ := bA.facts
        have hbs := Lib.hid ((hk.setCell (by simp) (.int .i64 b)) : Below w1.heap.size w1 (wr.setCell ⟨w1.heap.size, 1, none⟩ (.int .i64 b)))
        have hbn := Lib.hid (bA.set1 (.int .i64 b))
        clear bA hk hwk
        go_wp2_with fail
        refine (C1.out _).mono ?_
        rintro e w2 ⟨rfl, rfl⟩
        go_wp2
        go_roundw
        case rel => exact ⟨2, by omega, by go_num, by simpa using hbn.out, fun _ => by simp, fun _ => by simp, fun h => absurd h (by omega), hbs.out⟩
        case measure => simp [intOf]
    · have bA : B3 wr w1.heap.size 43 (.int .i64 a) (.int .i64 b) (.int .i64 0) := by simpa using hA
      clear hA
      obtain rfl : u = true := k0 (by omega)
      obtain rfl : v = true := k1 (by omega)
      cases x with
      | false =>
        have HF : Hid (parL s.data.toList = ((0, 0, 0), false)) := by
          show _ = _
          rw [HP.out]
          simp
        clear k0 k1 k2
        obtain ⟨f0, f1, f2, f3, f4, f5, f6⟩ := bR.facts
        clear bR bA
        go_wp2_with fail
        refine (C2.out _).mono ?_
        rintro e w2 ⟨rfl, rfl⟩
        go_wp2
        refine bodyPost_ret (v := .tuple #[.agg #[.int .i64 0, .int .i64 0, .int .i64 0], .bool false]) (by simp [results, Tryd.results10, go_sem, f0, f1, f2]) rfl ⟨ret_par HF.out, ?_⟩
        exact ((hwk.setCell (by simp <;> omega) _).setCell (by simp <;> omega) _).setCell (by simp <;> omega) _
      | true =>
        clear k0 k1 k2 bR
        obtain ⟨f0, f1, f2, f3, f4, f5, f6⟩ := bA.facts
        have hbs := Lib.hid ((hk.setCell (by simp) (.int .i64 c)) : Below w1.heap.size w1 (wr.setCell ⟨w1.heap.size, 2, none⟩ (.int .i64 c)))
        have hbn := Lib.hid (bA.set2 (.int .i64 c))
        clear bA hk hwk
        go_wp2_with fail
        refine (C2.out _).mono ?_
        rintro e w2 ⟨rfl, rfl⟩
        go_wp2
        go_roundw
        case rel => exact ⟨3, by omega, by go_num, by simpa using hbn.out, fun _ => by simp, fun _ => by simp, fun _ => by simp, hbs.out⟩
        case measure => simp [intOf]
    · have bA : B3 wr w1.heap.size 43 (.int .i64 a) (.int .i64 b) (.int .i64 c) := by simpa using hA
      obtain rfl : u = true := k0 (by omega)
      obtain rfl : v = true := k1 (by omega)
      obtain rfl : x = true := k2 (by omega)
      clear hA k0 k1 k2
      have bR2 := bR.alloc (.cells #[.int .i64 a, .int .i64 b, .int .i64 c] 25)
      have bN := B3.new wr 25 (.int .i64 a) (.int .i64 b) (.int .i64 c)
      have hwn := hwk.alloc hwk.size (.cells #[.int .i64 a, .int .i64 b, .int .i64 c] 25)
      obtain ⟨f0, f1, f2, f3, f4, f5, f6⟩ := bA.facts
      clear bA bR hk hwk hc0 hc1 hc2
      go_wp2_with fail
      refine (CV.out _).mono ?_
      rintro e w3 ⟨rfl, hb3⟩
      replace bR2 := bR2.belowS hb3
      replace bN := bN.belowS hb3
      have hwk := afterB hwn hb3 hwn.size
      clear hb3 hwn f0 f1 f2 f3 f4 f5 f6
      obtain ⟨f0, f1, f2, f3, f4, f5, f6⟩ := bR2.facts
      obtain ⟨n0, n1, n2, n3, n4, n5, n6⟩ := bN.facts
      have hbw := HBW.out.size
      cases hv : rv a b c with
      | false =>
        have HF : Hid (parL s.data.toList = ((0, 0, 0), false)) := by
          show _ = _
          rw [HP.out, hv]
          simp
        go_wp2
        refine bodyPost_ret (v := .tuple #[.agg #[.int .i64 0, .int .i64 0, .int .i64 0], .bool false]) (by simp [results, Tryd.results10, go_sem, f0, f1, f2]) rfl ⟨ret_par HF.out, ?_⟩
        exact ((hwk.setCell (by simp <;> omega) _).setCell (by simp <;> omega) _).setCell (by simp <;> omega) _
      | true =>
        have HF : Hid (parL s.data.toList = ((a, b, c), true)) := by
          show _ = _
          rw [HP.out, hv]
          simp
        go_wp2
        refine bodyPost_ret (v := .tuple #[.agg #[.int .i64 a, .int .i64 b, .int .i64 c], .bool true]) (by simp [results, Tryd.results10, go_sem, f0, f1, f2]) rfl ⟨ret_par HF.out, ?_⟩
        exact ((hwk.setCell (by simp <;> omega) _).setCell (by simp <;> omega) _).setCell (by simp <;> omega) _

set_option maxHeartbeats 4000000 in
theorem parse_spec_of (s fb : ByteArray) (w : World) (hs : s.size ≤ 1048576) (p q r : List UInt8) (a b c : Int) (u v x z : Bool) (ra rb rc : Int)
    (HL : Hid (cutL 32 s.data.toList = [p, q, r])) (hp : pn p = (a, u)) (hq : pn q = (b, v)) (hr : pn r = (c, x))
    (CF : Hid (∀ w, Calls Tryd.prog 6 #[.agg #[.int .i64 a, .int .i64 b, .int .i64 c]] w fun e w' => e = .returned (.string fb) ∧ Below w.heap.size w w'))
    (hz : (fb.toList == s.toList) = z) (HF : Hid (parL s.data.toList = ((ra, rb, rc), z))) (HR : Hid (z = true → ra = a ∧ rb = b ∧ rc = c)) (HR0 : Hid (z = false → ra = 0 ∧ rb = 0 ∧ rc = 0)) :
    Calls Tryd.prog 9 #[.string s] w fun e w' => e = ParR s.data.toList ∧ Below w.heap.size w w' := by
  have C0 := Lib.hid fun w => numS_l p a u w hp
  have C1 := Lib.hid fun w => numS_l q b v w hq
  have C2 := Lib.hid fun w => numS_l r c x w hr
  clear hp hq hr
  have b1 := B3.new w 25 (.int .i64 0) (.int .i64 0) (.int .i64 0)
  have hw := (Below.refl w.heap.size w).alloc (Nat.le_refl _) (.cells #[.int .i64 0, .int .i64 0, .int .i64 0] 25)
  have C := cut_spec s (w.alloc (.cells #[.int .i64 0, .int .i64 0, .int .i64 0] 25)) hs
  rw [HL.out] at C
  have HC := Lib.hid C
  clear C
  cases z
  all_goals
    go_enter Tryd.func9, Tryd.ntmps9
    go_wp2_with fail
    refine HC.out.mono ?_
    rintro e w1 ⟨A, cap, rfl, hA, hq⟩
    obtain ⟨g, rfl, hg1, hg2, hpc⟩ := hA (by simp)
    have hc0 := hpc 0 p rfl
    have hc1 := hpc 1 q rfl
    have hc2 := hpc 2 r rfl
    replace b1 := b1.belowS hq
    replace hw := afterB hw hq hw.size
    clear hpc hq hg1 HC hA
    go_wp2_with fail
    refine (C0.out _).mono ?_
    rintro e w2 ⟨rfl, rfl⟩
    go_wp2_with fail
    refine (C1.out _).mono ?_
    rintro e w3 ⟨rfl, rfl⟩
    go_wp2_with fail
    refine (C2.out _).mono ?_
    rintro e w4 ⟨rfl, rfl⟩
    have bR := b1.alloc (.cells #[.int .i64 a, .int .i64 b, .int .i64 c] 25)
    have bN := B3.new w4 25 (.int .i64 a) (.int .i64 b) (.int .i64 c)
    have hwn := hw.alloc hw.size (.cells #[.int .i64 a, .int .i64 b, .int .i64 c] 25)
    clear b1 hw hc0 hc1 hc2
    go_wp2_with fail
    refine (CF.out _).mono ?_
    rintro e w5 ⟨rfl, hb⟩
    replace bR := bR.belowS hb
    replace bN := bN.belowS hb
    have hwk := afterB hwn hb hwn.size
    clear hb hwn
    obtain ⟨f0, f1, f2, f3, f4, f5, f6⟩ := bR.facts
    obtain ⟨n0, n1, n2, n3, n4, n5, n6⟩ := bN.facts
  · obtain ⟨rfl, rfl, rfl⟩ := HR0.out (by simp)
    go_wp2
    refine bodyPost_ret (v := .tuple #[.agg #[.int .i64 0, .int .i64 0, .int .i64 0], .bool false]) (by simp [results, Tryd.results9, go_sem, f0, f1, f2]) rfl ⟨ret_par HF.out, ?_⟩
    exact ((hwk.setCell (by simp <;> omega) _).setCell (by simp <;> omega) _).setCell (by simp <;> omega) _
  · obtain ⟨rfl, rfl, rfl⟩ := HR.out (by simp)
    go_wp2
    refine bodyPost_ret (v := .tuple #[.agg #[.int .i64 _, .int .i64 _, .int .i64 _], .bool true]) (by simp [results, Tryd.results9, go_sem, f0, f1, f2]) rfl ⟨ret_par HF.out, ?_⟩
    exact ((hwk.setCell (by simp <;> omega) _).setCell (by simp <;> omega) _).setCell (by simp <;> omega) _

theorem ba_ne {a b : ByteArray} (h : a.data.toList ≠ b.data.toList) : (a.toList == b.toList) = false := ba_no fun e => h (by rw [e])
theorem ba_eq {a b : ByteArray} (h : a.data.toList = b.data.toList) : (a.toList == b.toList) = true := ba_yes (ByteArray.ext (Array.toList_inj.1 h))
theorem parse_spec (s : ByteArray) (w : World) (hs : s.size ≤ 1048576) :
    Calls Tryd.prog 9 #[.string s] w fun e w' => e = ParR s.data.toList ∧ Below w.heap.size w w' := by
  by_cases hn : (cutL 32 s.data.toList).length = 3
  · obtain ⟨p, q, r, HL⟩ : ∃ p q r, cutL 32 s.data.toList = [p, q, r] := by
      match h : cutL 32 s.data.toList, hn with
      | [p, q, r], _ => exact ⟨p, q, r, rfl⟩
    obtain ⟨a, u, hp⟩ : ∃ a u, pn p = (a, u) := ⟨_, _, rfl⟩
    obtain ⟨b, v, hq⟩ : ∃ b v, pn q = (b, v) := ⟨_, _, rfl⟩
    obtain ⟨c, x, hr⟩ : ∃ c x, pn r = (c, x) := ⟨_, _, rfl⟩
    have HP := parL_three HL hp hq hr
    cases hv : rv a b c with
    | false =>
      rw [hv] at HP
      simp at HP
      refine parse_spec_of s ⟨#[]⟩ w hs p q r a b c u v x false 0 0 0 (Lib.hid HL) hp hq hr (Lib.hid fun w => fmt_spec_no a b c w hv) ?_ (Lib.hid HP) (Lib.hid fun h => by cases h) (Lib.hid fun _ => ⟨rfl, rfl, rfl⟩)
      refine ba_ne fun e => ?_
      rw [← e] at HL
      simp [cutL] at HL
    | true =>
      obtain ⟨a', b', c', rfl, rfl, rfl, hV⟩ := rv_nat hv
      rw [hv] at HP
      obtain ⟨l1, l2, l3⟩ : a' < 256 ∧ b' < 256 ∧ c' < 256 := by
        obtain ⟨_, h2, _, h4, h5⟩ := hV
        have : 2 ^ a' ≤ 2 ^ 8 := Nat.pow_le_pow_right (by decide) h2
        omega
      have hi := text_iff s.data.toList p q r HL a' b' c' l1 l2 l3 (by rw [hp]) (by rw [hq]) (by rw [hr])
      rw [hp, hq, hr] at hi
      by_cases hk : u = true ∧ v = true ∧ x = true
      · obtain ⟨rfl, rfl, rfl⟩ := hk
        simp at HP
        refine parse_spec_of s (fmtB a' b' c') w hs p q r a' b' c' true true true true a' b' c' (Lib.hid HL) hp hq hr (Lib.hid fun w => fmt_spec a' b' c' w hV) ?_ (Lib.hid HP) (Lib.hid fun _ => ⟨rfl, rfl, rfl⟩) (Lib.hid fun h => by cases h)
        refine ba_eq ?_
        rw [fmt_list]
        exact hi.2 ⟨rfl, rfl, rfl⟩
      · have hf : (u && v && x && true) = false := by
          cases u <;> cases v <;> cases x <;> simp at hk ⊢
        rw [hf] at HP
        simp at HP
        refine parse_spec_of s (fmtB a' b' c') w hs p q r a' b' c' u v x false 0 0 0 (Lib.hid HL) hp hq hr (Lib.hid fun w => fmt_spec a' b' c' w hV) ?_ (Lib.hid HP) (Lib.hid fun h => by cases h) (Lib.hid fun _ => ⟨rfl, rfl, rfl⟩)
        refine ba_ne fun e => hk ?_
        rw [fmt_list] at e
        exact hi.1 e
  · exact parse_spec_not s w hs hn
theorem parse_impl (s : ByteArray) (w : World) (m : Int) (hm : w.cell? ⟨1, 0, none⟩ = some (.int .i64 m)) (hs : s.size ≤ 1048576) :
    Calls Tryd.prog 10 #[.string s] w fun e w' => e = ParR s.data.toList ∧ Below w.heap.size w w' := by
  by_cases hn : (cutL 32 s.data.toList).length = 3
  · obtain ⟨p, q, r, HL⟩ : ∃ p q r, cutL 32 s.data.toList = [p, q, r] := by
      match h : cutL 32 s.data.toList, hn with
      | [p, q, r], _ => exact ⟨p, q, r, rfl⟩
    exact parse_impl_three s w m hm hs p q r _ _ _ _ _ _ (Lib.hid HL) rfl rfl rfl
  · exact parse_impl_not s w m hm hs hn
end Go.Proofs.YtgdnmhigjhfpkaaDoor

namespace Go.Proofs.YtgdnmhigjhfpkaaDoor
open Go.RowKit SS
set_option maxRecDepth 100000
/-- a drawing call that returns some text -/
def SomeQ (w : World) (e : Ending) (w' : World) : Prop := ∃ q : ByteArray, e = .returned (.string q) ∧ q.size ≤ 10000 ∧ Below w.heap.size w w'
theorem dcs_pos (n : Nat) : 1 ≤ (dcs n).size := by
  unfold dcs
  rw [bytes_size]
  by_cases h : n < 10
  · rw [Lib.decDigits, dif_pos h]; simp
  · rw [digits_more n h]; simp
theorem fmt_size {s t x : Nat} (h : VR s t x) : 2 ≤ (fmtB s t x).size ∧ (fmtB s t x).size ≤ 4000 := by
  obtain ⟨k1, k2, k3⟩ := vr_small h
  have a1 := dcs_size s
  have a2 := dcs_size t
  have a3 := dcs_size x
  have hsp : (⟨#[32]⟩ : ByteArray).size = 1 := rfl
  unfold fmtB
  simp only [ByteArray.size_append, hsp]
  omega
theorem fmt_par {s t x : Nat} (h : VR s t x) : parL (fmtB s t x).data.toList = (((s : Int), (t : Int), (x : Int)), true) := by
  have hr := rv_mk h
  obtain ⟨l1, l2, l3⟩ : s < 256 ∧ t < 256 ∧ x < 256 := by
    obtain ⟨_, h2, _, h4, h5⟩ := h
    have : 2 ^ s ≤ 2 ^ 8 := Nat.pow_le_pow_right (by decide) h2
    omega
  have hc : cutL 32 (fmtB s t x).data.toList = [Lib.decDigits s, Lib.decDigits t, Lib.decDigits x] := by
    rw [fmt_list, cutL_app _ _ _ (pn_of_dec s l1).2, cutL_app _ _ _ (pn_of_dec t l2).2, cutL_one _ _ (pn_of_dec x l3).2]
  rw [parL_three hc (pn_of_dec s l1).1 (pn_of_dec t l2).1 (pn_of_dec x l3).1, hr]
  simp
theorem par_fmt {l : List UInt8} {a b c : Int} (h : parL l = ((a, b, c), true)) : ∃ a' b' c' : Nat, a = a' ∧ b = b' ∧ c = c' ∧ VR a' b' c' ∧ (fmtB a' b' c').data.toList = l := by
  by_cases hn : (cutL 32 l).length = 3
  · obtain ⟨p, q, r, HL⟩ : ∃ p q r, cutL 32 l = [p, q, r] := by
      match h : cutL 32 l, hn with
      | [p, q, r], _ => exact ⟨p, q, r, rfl⟩
    obtain ⟨a1, u, hp⟩ : ∃ a u, pn p = (a, u) := ⟨_, _, rfl⟩
    obtain ⟨b1, v, hq⟩ : ∃ b v, pn q = (b, v) := ⟨_, _, rfl⟩
    obtain ⟨c1, x, hr⟩ : ∃ c x, pn r = (c, x) := ⟨_, _, rfl⟩
    rw [parL_three HL hp hq hr] at h
    split at h
    · rename_i hk
      simp only [Bool.and_eq_true] at hk
      obtain ⟨⟨⟨rfl, rfl⟩, rfl⟩, hv⟩ := hk
      simp only [Prod.mk.injEq, and_true] at h
      obtain ⟨rfl, rfl, rfl⟩ := h
      obtain ⟨a', b', c', rfl, rfl, rfl, hV⟩ := rv_nat hv
      obtain ⟨l1, l2, l3⟩ : a' < 256 ∧ b' < 256 ∧ c' < 256 := by
        obtain ⟨_, h2, _, h4, h5⟩ := hV
        have : 2 ^ a' ≤ 2 ^ 8 := Nat.pow_le_pow_right (by decide) h2
        omega
      have hi := text_iff l p q r HL a' b' c' l1 l2 l3 (by rw [hp]) (by rw [hq]) (by rw [hr])
      rw [hp, hq, hr] at hi
      exact ⟨a', b', c', rfl, rfl, rfl, hV, by rw [fmt_list]; exact hi.2 ⟨rfl, rfl, rfl⟩⟩
    · cases h
  · rw [parL_not hn] at h
    cases h
set_option maxHeartbeats 1000000 in
theorem drawFmt (A : Option Addr) (len cap : Nat) (w : World) (h : CodeB w w.heap.size A len) (hl : len ≤ cap) (hm : len ≤ maxLen) :
    Calls Tryd.prog 12 #[.slice A len cap] w (SomeR w) := by
  have hw0 := (Below.refl w.heap.size w).alloc (Nat.le_refl _) (.cells #[.int .i64 0, .int .i64 0, .int .i64 0] 25)
  have C := Lib.hid (open_any A len cap w.heap.size _ (h.below hw0) (by simp) hl hm)
  rw [World.size_alloc] at C
  have HW := Lib.hid hw0
  have HB := Lib.hid (B3.new w 25 (.int .i64 0) (.int .i64 0) (.int .i64 0))
  clear h hl hm hw0
  go_enter Tryd.func12, Tryd.ntmps12
  go_wp2_with fail
  refine C.out.mono ?_
  rintro e w1 ⟨rfl, hr, hb⟩
  have HD1 := Lib.hid (Dr.start hr)
  have HW1 := Lib.hid (HW.out.trans (hb.mono (by omega)))
  have HB1 := Lib.hid (HB.out.below hb (by omega))
  clear hr hb HW HB C
  go_wp2_with fail
  refine (l1open_any _ _ _ _ HD1.out.1 (by omega)).mono ?_
  rintro e w2 ⟨a, b, c, rfl, hd⟩
  have b2 := HB1.out.kp hd.2.1 (by omega)
  have hw2 := HW1.out.trans (hd.2.1.1.mono (by omega))
  clear hd HB1 HD1 HW1
  obtain ⟨c0, c1, c2, f0, f1, f2, hz⟩ := b2.facts
  go_wp2
  refine bodyPost_ret (v := .agg #[.int .i64 a, .int .i64 b, .int .i64 c]) (by simp [results, Tryd.results12, go_sem, c0, c1, c2]) rfl ⟨a, b, c, rfl, ?_⟩
  exact ((hw2.setCell (by simp <;> omega) _).setCell (by simp <;> omega) _).setCell (by simp <;> omega) _
theorem l6_ok : 0 < [(⟨#[]⟩ : ByteArray), ⟨#[48]⟩, ⟨#[32]⟩, ⟨#[45]⟩, ⟨#[120]⟩, ⟨#[57]⟩].length ∧ [(⟨#[]⟩ : ByteArray), ⟨#[48]⟩, ⟨#[32]⟩, ⟨#[45]⟩, ⟨#[120]⟩, ⟨#[57]⟩].length ≤ 1000 ∧ ∀ s ∈ [(⟨#[]⟩ : ByteArray), ⟨#[48]⟩, ⟨#[32]⟩, ⟨#[45]⟩, ⟨#[120]⟩, ⟨#[57]⟩], s.size ≤ 1 := by
  refine ⟨by decide, by decide, ?_⟩
  intro s hs
  simp only [List.mem_cons, List.not_mem_nil, or_false] at hs
  rcases hs with rfl | rfl | rfl | rfl | rfl | rfl <;> decide
set_option maxHeartbeats 4000000 in
theorem drawParse (A : Option Addr) (len cap : Nat) (w : World) (h : CodeB w w.heap.size A len) (hl : len ≤ cap) (hm : len ≤ maxLen) :
    Calls Tryd.prog 14 #[.slice A len cap] w (SomeQ w) := by
  have C := Lib.hid (open_any A len cap w.heap.size w h (Nat.le_refl _) hl hm)
  clear h hl hm
  go_enter Tryd.func14, Tryd.ntmps14
  go_wp2_with fail
  refine C.out.mono ?_
  rintro e w1 ⟨rfl, hr, hb⟩
  have HD := Lib.hid (Dr.start hr)
  have HB := Lib.hid hb
  clear hr hb C
  go_wp2_with fail
  refine (some_any _ _ _ _ HD.out.1 (by omega)).mono ?_
  rintro e w2 ⟨s, t, x, rfl, hv, hd⟩
  have HD2 := Lib.hid (HD.out.draw hd.1 hd.2.1)
  have C1 := Lib.hid fun w => fmt_spec s t x w hv
  obtain ⟨z1, z2⟩ := fmt_size hv
  generalize fmtB s t x = q at C1 z1 z2
  clear hd HD hv
  go_wp2_with fail
  refine (C1.out _).mono ?_
  rintro e w3 ⟨rfl, hb3⟩
  have HD3 := Lib.hid (HD2.out.call hb3)
  clear hb3 HD2 C1
  go_wp2_with fail
  refine (pick_any 2 _ _ _ _ HD3.out.1 (by omega)).mono ?_
  rintro e w4 ⟨v, rfl, hn0, _, hr, hk⟩
  have HD4 := Lib.hid (HD3.out.draw hr hk)
  have hRl := hr.lt.1
  clear hr hk HD3 hn0
  by_cases h0 : v = 0
  · subst h0
    go_wp2
    go_ret
    exact ⟨_, rfl, by omega, HB.out.trans (HD4.out.below (Nat.le_refl _))⟩
  · have d0 : (v == 0) = false := by rw [beq_eq_false_iff_ne]; exact h0
    clear h0
    go_wp2_with fail
    refine (pick_any (q.size : Int) _ _ _ _ HD4.out.1 (by omega)).mono ?_
    rintro e w5 ⟨u, rfl, hu0, hu1, hr, hk⟩
    have HD5 := Lib.hid (HD4.out.draw hr hk)
    have hR5 := hr.lt.1
    have hu2 := hu1 (by omega)
    obtain ⟨k, rfl⟩ := Int.eq_ofNat_of_zero_le hu0
    clear hr hk HD4 hu1 hu0 d0
    have s1 : (0 : Int) ≤ (k : Int) := by omega
    have s2 : (k : Int) ≤ (q.size : Int) := by omega
    obtain ⟨q1, hx1⟩ : ∃ q1, q.extract 0 k = q1 := ⟨_, rfl⟩
    have hz1 : q1.size ≤ 4000 := by rw [← hx1, ByteArray.size_extract]; omega
    have g := Lib.hid (BT.lit w5.drew 9 [⟨#[]⟩, ⟨#[48]⟩, ⟨#[32]⟩, ⟨#[45]⟩, ⟨#[120]⟩, ⟨#[57]⟩])
    have HD6 := Lib.hid ((HD5.out.drewN 1).alloc (.cells #[.string ⟨#[]⟩, .string ⟨#[48]⟩, .string ⟨#[32]⟩, .string ⟨#[45]⟩, .string ⟨#[120]⟩, .string ⟨#[57]⟩] 9))
    have HL6 := Lib.hid l6_ok
    have hgR : w5.heap.size ≠ w.heap.size := by omega
    go_wp2_with fail
    go_region_held3 (fun _ => True) (go_keep) (first | (go_at_call 27; (refine (of_any [⟨#[]⟩, ⟨#[48]⟩, ⟨#[32]⟩, ⟨#[45]⟩, ⟨#[120]⟩, ⟨#[57]⟩] 1 w5.heap.size 6 _ _ _ _ HD6.out.1 (by omega) g.out hgR HL6.out.1 HL6.out.2.1 HL6.out.2.2).mono ?_); rintro e w6 ⟨r6, rfl, _, hr6, hd⟩; have HD7 := Lib.hid (HD6.out.draw hd.1 hd.2.1); have g2 : ¬ 9223372036854775807 < q1.size + r6.size := no_over hz1 hr6 (by omega); clear hd) | (go_at_call 26; (refine (pick_any 2 _ _ _ _ HD7.out.1 (by omega)).mono ?_); rintro e w7 ⟨c0, rfl, hc0, hc1, hr, hk⟩; have hc2 := hc1 (by omega); obtain ⟨c, rfl⟩ := Int.eq_ofNat_of_zero_le hc0; have HD8 := Lib.hid (HD7.out.draw hr hk); have hsum : IntKind.i64.wrap ((k : Int) + (c : Int)) = (k : Int) + (c : Int) := (by rw [IntKind.wrap_i64]; omega); have s3 : (0 : Int) ≤ (k : Int) + (c : Int) := (by omega); have s4 : (k : Int) + (c : Int) ≤ (q.size : Int) := (by omega); have s5 : ((k : Int) + (c : Int)).toNat = k + c := (by omega); obtain ⟨q2, hx2⟩ : ∃ q2, q.extract (k + c) q.size = q2 := ⟨_, rfl⟩; have hz2 : q2.size ≤ 4000 := (by rw [← hx2, ByteArray.size_extract]; omega); have g3 : ¬ 9223372036854775807 < (q1 ++ r6).size + q2.size := (by rw [ByteArray.size_append]; omega); have g4 : ¬ 9223372036854775807 < q1.size + r6.size + q2.size := (by omega); clear hr hk hc1 hc0))
    all_goals
      go_wp2_with fail
      go_ret
      exact ⟨_, rfl, by simp only [ByteArray.size_append]; omega, HB.out.trans (HD8.out.below (Nat.le_refl _))⟩
end Go.Proofs.YtgdnmhigjhfpkaaDoor

namespace Go.Proofs.YtgdnmhigjhfpkaaDoor
open Go.RowKit SS
set_option maxRecDepth 100000
theorem shutBox3 {w w2 : World} {o p q : Obj} (hb : Below (((w.alloc o).alloc p).alloc q).heap.size (((w.alloc o).alloc p).alloc q) w2) : Below w.heap.size w w2 :=
  ((((Below.refl _ _).alloc (Nat.le_refl _) o).alloc (by simp) p).alloc (by simp; omega) q).trans (hb.mono (by simp; omega))
set_option maxHeartbeats 1000000 in
theorem eqReg_same (s t x : Int) (w : World) :
    Calls Tryd.prog 11 #[.agg #[.int .i64 s, .int .i64 t, .int .i64 x], .agg #[.int .i64 s, .int .i64 t, .int .i64 x]] w fun e w' => e = .returned (.bool true) ∧ Below w.heap.size w w' := by
  go_enter Tryd.func11, Tryd.ntmps11
  go_wp2
  go_ret
  exact ⟨rfl, shutBox2 (Below.refl _ _)⟩
end Go.Proofs.YtgdnmhigjhfpkaaDoor

namespace Go.Proofs.YtgdnmhigjhfpkaaDoor
open Go.RowKit SS
set_option maxRecDepth 100000
end Go.Proofs.YtgdnmhigjhfpkaaDoor

namespace Go.Proofs.YtgdnmhigjhfpkaaDoor
open Go.RowKit SS
set_option maxRecDepth 100000
theorem parse_implE {s : ByteArray} {a b c : Int} {v : Bool} (h : parL s.data.toList = ((a, b, c), v)) (w : World) (m : Int) (hm : w.cell? ⟨1, 0, none⟩ = some (.int .i64 m)) (hs : s.size ≤ 1048576) :
    Calls Tryd.prog 10 #[.string s] w fun e w' => e = .returned (.tuple #[.agg #[.int .i64 a, .int .i64 b, .int .i64 c], .bool v]) ∧ Below w.heap.size w w' := by
  have := parse_impl s w m hm hs
  unfold ParR at this
  rw [h] at this
  exact this
theorem parse_specE {s : ByteArray} {a b c : Int} {v : Bool} (h : parL s.data.toList = ((a, b, c), v)) (w : World) (hs : s.size ≤ 1048576) :
    Calls Tryd.prog 9 #[.string s] w fun e w' => e = .returned (.tuple #[.agg #[.int .i64 a, .int .i64 b, .int .i64 c], .bool v]) ∧ Below w.heap.size w w' := by
  have := parse_spec s w hs
  unfold ParR at this
  rw [h] at this
  exact this
theorem list_none : (⟨#[]⟩ : ByteArray).toList = [] := by simp
theorem no_text {q : ByteArray} (h : 2 ≤ q.size) : (q.toList == []) = false := by
  rw [← list_none]
  refine ba_no fun e => ?_
  rw [e] at h
  exact absurd h (by decide)
set_option maxHeartbeats 8000000 in
theorem walk_FnRegisterText (a0 : Option Addr) (len0 cap0 : Nat) (z0 : List Int) (a1 : Option Addr) (len1 cap1 : Nat) (z1 : List Int) (w : World) (h0 : IsRow .u8 w a0 len0 cap0 z0) (h1 : IsRow .u8 w a1 len1 cap1 z1) (m : Int) (hm : w.cell? ⟨1, 0, none⟩ = some (.int .i64 m)) (hp : PowTab w) :
    Calls Tryd.prog 5 #[.slice a0 len0 cap0, .slice a1 len1 cap1] w fun e w' => e = .returned (.bool true) ∧ Below w.heap.size w w' := by
  obtain ⟨c0, l0, m0⟩ := h0.code
  obtain ⟨c1, l1, m1⟩ := h1.code
  clear h0 h1
  by_cases hs0 : len0 ≤ 1048576
  · have d0 : decide ((1048576 : Int) < (len0 : Int)) = false := by simp; omega
    by_cases hs1 : len1 ≤ 1048576
    · have d1 : decide ((1048576 : Int) < (len1 : Int)) = false := by simp; omega
      have hpz := hp.size
      have hmz := World.block_lt_of_cell? w _ hm
      have D1 := Lib.hid (drawFmt a0 len0 cap0 w c0 l0 m0)
      have D2 := Lib.hid fun w' (hb : Below w.heap.size w w') => drawParse a1 len1 cap1 w' (c1.next hb) l1 m1
      have PI := Lib.hid fun (s : ByteArray) (a b c : Int) (v : Bool) (h : parL s.data.toList = ((a, b, c), v)) (hs : s.size ≤ 1048576) w' (hb : Below w.heap.size w w') => parse_implE h w' m ((hb.cell (p := ⟨1, 0, none⟩) hmz).trans hm) hs
      have FI := Lib.hid fun (s t x : Nat) (hv : VR s t x) w' (hb : Below w.heap.size w w') => fmt_impl s t x w' hv (hp.below hb hpz)
      clear c0 l0 m0 c1 l1 m1 hm hp hpz hmz
      have hw := Below.refl w.heap.size w
      go_enter Tryd.func5, Tryd.ntmps5
      go_wp2_with fail
      refine (D1.out).mono ?_
      rintro e w1 ⟨s, t, x, rfl, hq⟩
      replace hw := afterB hw hq hw.size
      clear hq D1
      cases hr : rv s t x with
      | false =>
        obtain ⟨q, hq0⟩ : ∃ q : ByteArray, q = ⟨#[]⟩ := ⟨_, rfl⟩
        have CI := Lib.hid fun w' (_ : Below w.heap.size w w') => fmt_impl_no s t x w' hr
        have CS := Lib.hid fun w => fmt_spec_no s t x w hr
        have CV := Lib.hid fun w => valid_impl s t x w
        rw [hr] at CV
        rw [← hq0] at CI CS
        have hqe : (q.toList == []) = true := by rw [← list_none]; exact ba_yes hq0
        clear hq0 hr
        have b0 := B3.new w1 25 (.int .i64 s) (.int .i64 t) (.int .i64 x)
        replace hw := hw.alloc hw.size (.cells #[.int .i64 s, .int .i64 t, .int .i64 x] 25)
        go_wp2_with fail
        refine (CI.out _ hw).mono ?_
        rintro e w2 ⟨rfl, hq⟩
        replace b0 := b0.belowS hq
        replace hw := afterB hw hq hw.size
        clear hq CI
        obtain ⟨c0, c1, c2, c3, c4, c5, c6⟩ := b0.facts
        go_wp2_with fail
        refine (CS.out _).mono ?_
        rintro e w3 ⟨rfl, hq⟩
        clear c0 c1 c2 c3 c4 c5 c6
        replace b0 := b0.belowS hq
        replace hw := afterB hw hq hw.size
        clear hq CS
        obtain ⟨c0, c1, c2, c3, c4, c5, c6⟩ := b0.facts
        go_wp2_with fail
        refine (CV.out _).mono ?_
        rintro e w4 ⟨rfl, hq⟩
        clear c0 c1 c2 c3 c4 c5 c6
        replace b0 := b0.belowS hq
        replace hw := afterB hw hq hw.size
        clear hq CV
        clear b0
        go_wp2_with fail
        refine (D2.out _ hw).mono ?_
        rintro e wd ⟨p, rfl, hps, hq⟩
        replace hw := afterB hw hq hw.size
        clear hq
        obtain ⟨a, b, c, v, hpar⟩ : ∃ a b c v, parL p.data.toList = ((a, b, c), v) := ⟨_, _, _, _, rfl⟩
        have P1 := Lib.hid (PI.out p a b c v hpar (by omega))
        have P2 := Lib.hid fun w => parse_specE hpar w (by omega)
        have HPar := Lib.hid hpar
        clear hpar hps
        go_wp2_with fail
        refine (P1.out _ hw).mono ?_
        rintro e we ⟨rfl, hq⟩
        replace hw := afterB hw hq hw.size
        clear hq
        have b1 := B3.new we 25 (.int .i64 a) (.int .i64 b) (.int .i64 c)
        replace hw := hw.alloc hw.size (.cells #[.int .i64 a, .int .i64 b, .int .i64 c] 25)
        go_wp2_with fail
        refine (P2.out _).mono ?_
        rintro e wf ⟨rfl, hq⟩
        replace b1 := b1.belowS hq
        replace hw := afterB hw hq hw.size
        clear hq
        have b2 := B3.new wf 25 (.int .i64 a) (.int .i64 b) (.int .i64 c)
        replace b1 := b1.alloc (.cells #[.int .i64 a, .int .i64 b, .int .i64 c] 25)
        replace hw := hw.alloc hw.size (.cells #[.int .i64 a, .int .i64 b, .int .i64 c] 25)
        obtain ⟨f0, f1, f2, f3, f4, f5, f6⟩ := b1.facts
        obtain ⟨g0, g1, g2, g3, g4, g5, g6⟩ := b2.facts
        clear b1 b2 P1 P2
        cases v with
        | false =>
          clear HPar
          go_wp2
          go_ret
          exact ⟨rfl, hw⟩
        | true =>
          obtain ⟨a', b', c', rfl, rfl, rfl, hV, hl⟩ := par_fmt HPar.out
          have F2 := Lib.hid (FI.out a' b' c' hV)
          have he := ba_eq hl
          generalize fmtB a' b' c' = y at F2 he
          clear HPar hV hl
          go_wp2_with fail
          refine (F2.out _ hw).mono ?_
          rintro e wg ⟨rfl, hq⟩
          replace hw := afterB hw hq hw.size
          clear hq f0 f1 f2 f3 f4 f5 f6 g0 g1 g2 g3 g4 g5 g6
          go_wp2
          go_ret
          exact ⟨rfl, hw⟩
      | true =>
        obtain ⟨s', t', x', rfl, rfl, rfl, hv⟩ := rv_nat hr
        have CI := Lib.hid (FI.out s' t' x' hv)
        have CS := Lib.hid fun w => fmt_spec s' t' x' w hv
        have CV := Lib.hid fun w => valid_impl s' t' x' w
        rw [hr] at CV
        have P0 := Lib.hid (PI.out _ _ _ _ _ (fmt_par hv) (by have := (fmt_size hv).2; omega))
        have hqe := no_text (fmt_size hv).1
        generalize fmtB s' t' x' = q at CI CS P0 hqe
        clear hv hr
        have b0 := B3.new w1 25 (.int .i64 s') (.int .i64 t') (.int .i64 x')
        replace hw := hw.alloc hw.size (.cells #[.int .i64 s', .int .i64 t', .int .i64 x'] 25)
        go_wp2_with fail
        refine (CI.out _ hw).mono ?_
        rintro e w2 ⟨rfl, hq⟩
        replace b0 := b0.belowS hq
        replace hw := afterB hw hq hw.size
        clear hq CI
        obtain ⟨c0, c1, c2, c3, c4, c5, c6⟩ := b0.facts
        go_wp2_with fail
        refine (CS.out _).mono ?_
        rintro e w3 ⟨rfl, hq⟩
        clear c0 c1 c2 c3 c4 c5 c6
        replace b0 := b0.belowS hq
        replace hw := afterB hw hq hw.size
        clear hq CS
        obtain ⟨c0, c1, c2, c3, c4, c5, c6⟩ := b0.facts
        go_wp2_with fail
        refine (CV.out _).mono ?_
        rintro e w4 ⟨rfl, hq⟩
        clear c0 c1 c2 c3 c4 c5 c6
        replace b0 := b0.belowS hq
        replace hw := afterB hw hq hw.size
        clear hq CV
        go_wp2_with fail
        refine (P0.out _ hw).mono ?_
        rintro e w5 ⟨rfl, hq⟩
        replace b0 := b0.belowS hq
        replace hw := afterB hw hq hw.size
        clear hq P0
        replace b0 := b0.alloc (.cells #[.int .i64 s', .int .i64 t', .int .i64 x'] 25)
        have b3 := B3.new w5 25 (.int .i64 s') (.int .i64 t') (.int .i64 x')
        replace hw := hw.alloc hw.size (.cells #[.int .i64 s', .int .i64 t', .int .i64 x'] 25)
        obtain ⟨c0, c1, c2, c3, c4, c5, c6⟩ := b0.facts
        obtain ⟨e0, e1, e2, e3, e4, e5, e6⟩ := b3.facts
        clear b0 b3
        go_wp2_with fail
        refine (D2.out _ hw).mono ?_
        rintro e wd ⟨p, rfl, hps, hq⟩
        replace hw := afterB hw hq hw.size
        clear hq
        obtain ⟨a, b, c, v, hpar⟩ : ∃ a b c v, parL p.data.toList = ((a, b, c), v) := ⟨_, _, _, _, rfl⟩
        have P1 := Lib.hid (PI.out p a b c v hpar (by omega))
        have P2 := Lib.hid fun w => parse_specE hpar w (by omega)
        have HPar := Lib.hid hpar
        clear hpar hps
        go_wp2_with fail
        refine (P1.out _ hw).mono ?_
        rintro e we ⟨rfl, hq⟩
        replace hw := afterB hw hq hw.size
        clear hq
        have b1 := B3.new we 25 (.int .i64 a) (.int .i64 b) (.int .i64 c)
        replace hw := hw.alloc hw.size (.cells #[.int .i64 a, .int .i64 b, .int .i64 c] 25)
        go_wp2_with fail
        refine (P2.out _).mono ?_
        rintro e wf ⟨rfl, hq⟩
        replace b1 := b1.belowS hq
        replace hw := afterB hw hq hw.size
        clear hq
        have b2 := B3.new wf 25 (.int .i64 a) (.int .i64 b) (.int .i64 c)
        replace b1 := b1.alloc (.cells #[.int .i64 a, .int .i64 b, .int .i64 c] 25)
        replace hw := hw.alloc hw.size (.cells #[.int .i64 a, .int .i64 b, .int .i64 c] 25)
        obtain ⟨f0, f1, f2, f3, f4, f5, f6⟩ := b1.facts
        obtain ⟨g0, g1, g2, g3, g4, g5, g6⟩ := b2.facts
        clear b1 b2 P1 P2
        cases v with
        | false =>
          clear HPar
          go_wp2
          go_ret
          exact ⟨rfl, hw⟩
        | true =>
          obtain ⟨a', b', c', rfl, rfl, rfl, hV, hl⟩ := par_fmt HPar.out
          have F2 := Lib.hid (FI.out a' b' c' hV)
          have he := ba_eq hl
          generalize fmtB a' b' c' = y at F2 he
          clear HPar hV hl
          go_wp2_with fail
          refine (F2.out _ hw).mono ?_
          rintro e wg ⟨rfl, hq⟩
          replace hw := afterB hw hq hw.size
          clear hq f0 f1 f2 f3 f4 f5 f6 g0 g1 g2 g3 g4 g5 g6
          go_wp2
          go_ret
          exact ⟨rfl, hw⟩
    · have d1 : decide ((1048576 : Int) < (len1 : Int)) = true := by simp; omega
      go_enter Tryd.func5, Tryd.ntmps5
      go_wp2
      go_ret
      exact ⟨rfl, Below.refl _ _⟩
  · have d0 : decide ((1048576 : Int) < (len0 : Int)) = true := by simp; omega
    go_enter Tryd.func5, Tryd.ntmps5
    go_wp2
    go_ret
    exact ⟨rfl, Below.refl _ _⟩
end Go.Proofs.YtgdnmhigjhfpkaaDoor
