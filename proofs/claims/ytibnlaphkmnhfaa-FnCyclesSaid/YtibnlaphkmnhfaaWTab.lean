/- Contracts of the functions that list correlations. -/
import Derived.Test.YtibnlaphkmnhfaaWPair
import Derived.Test.YtibnlaphkmnhfaaWAfter
import Derived.Test.YtibnlaphkmnhfaaWInts
namespace Go.Proofs.Ytibnlaphkmnhfaa
open Go.RowKit SS
set_option maxRecDepth 100000
/-- the correlations for the first shifts -/
def ctab (a b : List UInt8) (n : Nat) : List Int := (List.range n).map fun k => cor a b k
theorem ctab_length (a b : List UInt8) (n : Nat) : (ctab a b n).length = n := by simp [ctab]
theorem ctab_succ (a b : List UInt8) (n : Nat) : ctab a b (n + 1) = ctab a b n ++ [cor a b n] := by simp [ctab, List.range_succ]
theorem ctab_at (a b : List UInt8) (n k : Nat) (h : k < n) : (ctab a b n)[k]? = some (cor a b k) := by simp [ctab, h]
theorem BI.own {w : World} {b base : Nat} {l : List Int} (h : BI w b 3 l) (hb : base ≤ b) (hl : l.length ≤ maxLen) : OwnI w base (.slice (some ⟨b, 0, none⟩) l.length l.length) l :=
  ⟨by simp, .inr ⟨b, l.length, _, rfl, hb, h, Nat.le_refl _, hl, by simp, by simp [← List.map_take]⟩⟩
theorem makeI (n : Nat) (h : n ≤ 1000000) (w : World) : (Instr.makeSlice 35 (.int .i64 (n : Int)) (.int .i64 (n : Int))).run Try.prog w = .ok (.slice (some ⟨w.heap.size, 0, none⟩) n n) (w.alloc (.cells (madeCells #[.int .i64 0] n) 3)) :=
  run_make_row' 35 3 (.int .i64 0) 8 Try.underlying35 infoI rfl .i64 .i64 n (by omega) (by omega) w
theorem OwnI.lit0 (w : World) : OwnI (w.alloc (.cells #[] 3)) w.heap.size (.slice (some ⟨w.heap.size, 0, none⟩) 0 0) [] :=
  World.ownsRow_lit w #[] 0 (Nat.le_refl _) (by decide) rfl
theorem OwnI.nil0 (w : World) (base : Nat) : OwnI w base (.slice none 0 0) [] := World.ownsRow_nil w base _ _
theorem OwnI.grow1 {w' : World} {base : Nat} {v : Value} {l : List Int} {x : Int} (h : w'.ownsRow base 3 1 v (l.length + 1) (l.map (Value.int .i64) ++ [.int .i64 x])) : OwnI w' base v (l ++ [x]) := by
  unfold OwnI
  rw [List.length_append, List.map_append]
  exact h
theorem own_rowB {w : World} {base : Nat} {v : Value} {l : List Int} (h : OwnI w base v l) : ∀ k, v.ownBlock = some k → base ≤ k := fun k hk => (World.ownsRow.lt h k hk).1
theorem new_int (w : World) (T : TypeId) (x : Value) : ∀ (j : Nat) (u : Value), [x][j]? = some u → (w.alloc (.cells #[x] T)).cell? ((⟨w.heap.size, 0, none⟩ : Addr).add j) = some u := by
  intro j u hu
  have hj : j = 0 := by
    have := (List.getElem?_eq_some_iff.1 hu).1
    simp at this
    exact this
  subst hj
  simp at hu
  subst hu
  simp [Addr.add]
theorem int_one (x : Int) : ∀ u ∈ [Value.int .i64 x], u.oneCell' = true := by
  intro u hu
  simp at hu
  subst hu
  rfl
theorem grownB {w w1 w2 : World} {o : Obj} {row : Option Nat} (h : Below w.heap.size w w1) (hg : (w1.alloc o).grownBy w2 row) (hr : ∀ k, row = some k → w.heap.size ≤ k) : Below w.heap.size w w2 :=
  (h.alloc h.size o).grown hg (by have := h.size; simp; omega) hr
set_option maxHeartbeats 1000000 in
theorem ctab_impl (a b : ByteArray) (w : World) (h : pv a b = true) :
    Calls Try.prog 26 #[.string a, .string b] w (RetI w (ctab a.data.toList b.data.toList a.size)) := by
  obtain ⟨p1, p2, p3, p4, p5⟩ := pv_PV h
  have hpb : b.size ≤ 255 := by omega
  have C := Lib.hid fun w => pair_impl a b w (by unfold maxLen; omega) (by unfold maxLen; omega)
  rw [h] at C
  have C2 := Lib.hid fun k w (hk : k < b.size) => corr_impl a b k w p3 p2 hk p4 p5
  have HL := Lib.hid p3
  clear h p3 p4 p5
  have hmk := makeI a.size (by omega)
  generalize hM : madeCells #[.int .i64 0] a.size = M at hmk
  have r1 := BI.new w 3 a.size
  rw [hM] at r1
  have R1 := Lib.hid r1
  have HW := Lib.hid ((Below.refl w.heap.size w).alloc (Nat.le_refl _) (.cells M 3))
  clear r1 hM
  go_enter Try.func26, Try.ntmps26
  go_wp2_with fail
  refine (C.out _).mono ?_
  rintro e w1 ⟨rfl, rfl⟩
  go_wp2_with fail
  go_loopw [16] (fun i wr => ∃ j : Nat, j ≤ a.size ∧ i = .int .i64 (j : Int) ∧ BI wr w.heap.size 3 (filI (fun k => cor a.data.toList b.data.toList k) a.size j) ∧ Below w.heap.size w wr) (fun i _ => a.size - (intOf i).toNat)
  case atStart => exact ⟨0, Nat.zero_le _, rfl, by rw [filI_zero]; exact R1.out, HW.out⟩
  case round =>
    clear R1 HW
    obtain ⟨j, hj, rfl, r1, hwr⟩ := hrel
    by_cases hlt : j < a.size
    · have D := Lib.hid fun w => C2.out j w (by rw [← HL.out]; exact hlt)
      have c3 := r1.cell j 0 (filI_at _ _ j hlt)
      have f3 := r1.frozen j
      have r1' := r1.set j (cor a.data.toList b.data.toList j)
      rw [filI_step (fun k => cor a.data.toList b.data.toList k) a.size j hlt] at r1'
      have F := Lib.hid r1'
      clear r1'
      go_wp2_with fail
      refine (D.out _).mono ?_
      rintro e w1 ⟨rfl, n, rfl⟩
      have c3 : (wr.drewN n).cell? ⟨w.heap.size, j, none⟩ = some (.int .i64 0) := c3
      have f3 : (wr.drewN n).frozen? ⟨w.heap.size, j, none⟩ = false := f3
      go_wp2
      go_roundw
      case rel => exact ⟨j + 1, by omega, by go_num, F.out, (below_drews hwr n).setCell (by simp) _⟩
      case measure => simp [intOf]; omega
    · obtain rfl : j = a.size := by omega
      rw [filI_all] at r1
      have r2 := BI.own (base := w.heap.size) r1 (Nat.le_refl _) (by simp; unfold maxLen; omega)
      simp only [List.length_map, List.length_range] at r2
      have R2 := Lib.hid r2
      clear r2
      go_wp2
      go_ret
      exact ⟨_, rfl, R2.out, hwr⟩
theorem ctab_impl_no (a b : ByteArray) (w : World) (ha : a.size ≤ maxLen) (hb : b.size ≤ maxLen) (h : pv a b = false) :
    Calls Try.prog 26 #[.string a, .string b] w (RetI w []) := by
  have C := Lib.hid fun w => pair_impl a b w ha hb
  rw [h] at C
  clear h
  go_enter Try.func26, Try.ntmps26
  go_wp2_with fail
  refine (C.out _).mono ?_
  rintro e w1 ⟨rfl, rfl⟩
  go_wp2
  go_ret
  exact ⟨_, rfl, OwnI.nil0 _ _, Below.refl _ _⟩
set_option maxHeartbeats 1000000 in
theorem ctab_spec (a b : ByteArray) (w : World) (h : pv a b = true) :
    Calls Try.prog 28 #[.string a, .string b] w (RetI w (ctab a.data.toList b.data.toList a.size)) := by
  have hPV := pv_PV h
  obtain ⟨p1, p2, p3, p4, p5⟩ := pv_PV h
  have hpb : b.size ≤ 255 := by omega
  obtain ⟨i0, hi, hz0, hz1, hz2⟩ := info_parts infoI
  have C := Lib.hid fun w => pair_spec a b w (by unfold maxLen; omega) (by unfold maxLen; omega)
  rw [h] at C
  have C2 : Hid (∀ k w, k < b.size → Calls Try.prog 72 #[.string a, .string b, .int .i64 ((k : Nat) : Int)] w fun e w' => e = .returned (.int .i64 (cor a.data.toList b.data.toList k)) ∧ Below w.heap.size w w') := by
    intro k w hk
    have := l2cross a b (k : Int) w hPV
    rw [md_nat k b.size hk] at this
    exact this
  have HL := Lib.hid p3
  clear h p3 p4 p5 hPV
  have o1 := Lib.hid (OwnI.lit0 w)
  have hw1 := Lib.hid ((Below.refl w.heap.size w).alloc (Nat.le_refl _) (.cells #[] 3))
  go_enter Try.func28, Try.ntmps28
  go_wp2_with fail
  go_loopw [5, 6] (fun v i wr => ∃ j : Nat, j ≤ a.size ∧ i = .int .i64 (j : Int) ∧ OwnI wr w.heap.size v (ctab a.data.toList b.data.toList j) ∧ Below w.heap.size w wr) (fun _ i _ => a.size - (intOf i).toNat)
  case atStart => exact ⟨0, Nat.zero_le _, rfl, o1.out, hw1.out⟩
  case round =>
    clear o1 hw1
    obtain ⟨j, hj, rfl, ho, hw⟩ := hrel
    have HO := Lib.hid ho
    clear ho
    have HLn := Lib.hid (ctab_length a.data.toList b.data.toList j)
    by_cases hlt : j < a.size
    · have D := Lib.hid fun w => C2.out j w (by rw [← HL.out]; exact hlt)
      have HS := Lib.hid (ctab_succ a.data.toList b.data.toList j)
      go_wp2_with fail
      refine (C.out _).mono ?_
      rintro e w1 ⟨rfl, rfl⟩
      go_wp2_with fail
      refine (D.out _).mono ?_
      rintro e w1 ⟨rfl, hb1⟩
      have hw1 := afterB hw hb1 hw.size
      have ho1 := Lib.hid (HO.out.keep hb1)
      clear HO hb1
      go_wp2_with (at_builtin; refine wpList_append_own _ rfl _ _ 35 rfl w.heap.size 3 i0 (.int .i64 0) 1 8 Try.underlying35 hi hz0 hz1 hz2 rfl (by decide) _ _ _ rfl (ho1.out.alloc _) ⟨w1.heap.size, 0, none⟩ 1 1 [.int .i64 (cor a.data.toList b.data.toList j)] rfl rfl ?c1 ?c2 ?c3 ?c4 ?c5 ?_)
      case c1 => exact new_int _ _ _
      case c2 => exact int_one _
      case c3 => rw [HLn.out]; unfold maxLen; omega
      case c4 => rw [HLn.out]; omega
      case c5 => have := hw1.size; simp; omega
      intro v' w2 ho2 hg2 _
      have hw2 := grownB hw1 hg2 (own_rowB ho1.out)
      have HO2 := Lib.hid (OwnI.grow1 ho2)
      rw [← HS.out] at HO2
      clear ho2 hg2 hw1 ho1 HS
      go_wp2
      go_roundw
      case rel => exact ⟨j + 1, by omega, by go_num, HO2.out, hw2⟩
      case measure => simp [intOf]; omega
    · obtain rfl : j = a.size := by omega
      go_wp2_with fail
      go_wp2
      go_ret
      exact ⟨_, rfl, HO.out, hw⟩
set_option maxHeartbeats 1000000 in
theorem ctab_spec_no (a b : ByteArray) (w : World) (ha : a.size ≤ maxLen) (hb : b.size ≤ maxLen) (h : pv a b = false) :
    Calls Try.prog 28 #[.string a, .string b] w (RetI w []) := by
  have C := Lib.hid fun w => pair_spec a b w ha hb
  rw [h] at C
  clear h
  have o1 := Lib.hid (OwnI.lit0 w)
  have hw1 := Lib.hid ((Below.refl w.heap.size w).alloc (Nat.le_refl _) (.cells #[] 3))
  go_enter Try.func28, Try.ntmps28
  go_wp2_with fail
  go_loopw [5, 6] (fun v i wr => v = .slice (some ⟨w.heap.size, 0, none⟩) 0 0 ∧ i = .int .i64 0 ∧ OwnI wr w.heap.size v [] ∧ Below w.heap.size w wr) (fun _ _ _ => 0)
  case atStart => exact ⟨rfl, rfl, o1.out, hw1.out⟩
  case round =>
    clear o1 hw1
    obtain ⟨rfl, rfl, ho, hw⟩ := hrel
    have HO := Lib.hid ho
    clear ho
    by_cases h0 : 0 < a.size
    · go_wp2_with fail
      refine (C.out _).mono ?_
      rintro e w1 ⟨rfl, rfl⟩
      go_wp2
      go_ret
      exact ⟨_, rfl, HO.out, hw⟩
    · go_wp2
      go_ret
      exact ⟨_, rfl, HO.out, hw⟩
end Go.Proofs.Ytibnlaphkmnhfaa
