/- Contracts of the functions that list the different correlations. -/
import Derived.Test.YtibnlaphkmnhfaaWSort
import Derived.Test.YtibnlaphkmnhfaaPlainVals
namespace Go.Proofs.Ytibnlaphkmnhfaa
open Go.RowKit SS
set_option maxRecDepth 100000
theorem OwnI.wider {w : World} {base base' : Nat} {v : Value} {l : List Int} (h : OwnI w base v l) (hb : base' ≤ base) : OwnI w base' v l := by
  refine ⟨h.1, ?_⟩
  rcases h.2 with hn | ⟨g, cap, cur, hv, hg, r⟩
  · exact .inl hn
  · exact .inr ⟨g, cap, cur, hv, Nat.le_trans hb hg, r⟩
/-- the cells of a list, one by one -/
theorem RowI.cells {w : World} {B cap : Nat} {A : Option Addr} {n : Nat} {l : List Int} (h : RowI w B (.slice A n cap) l) : Hid (n = l.length ∧ ∀ j (hj : j < l.length), ∃ g : Nat, A = some ⟨g, 0, none⟩ ∧ g < B ∧ w.cell? ⟨g, j, none⟩ = some (.int .i64 l[j])) := by
  obtain ⟨A', c', e⟩ := h.any
  simp at e
  refine ⟨e.2.1, fun j hj => ?_⟩
  have hne : l ≠ [] := List.ne_nil_of_length_pos (by omega)
  obtain ⟨g, c, e, hg, hcell⟩ := h.form hne
  simp at e
  exact ⟨g, e.1, hg, hcell j _ (List.getElem?_eq_getElem hj)⟩
theorem getD_at {l : List Int} {j : Nat} (h : j < l.length) : l.getD j 0 = l[j] := by simp [List.getD_eq_getElem?_getD, List.getElem?_eq_getElem h]
set_option maxHeartbeats 1000000 in
theorem vals_impl (a b : ByteArray) (T : List Int) (w : World) (hT : T.length ≤ 1000) (C : Hid (∀ w, Calls Try.prog 26 #[.string a, .string b] w (RetI w T))) :
    Calls Try.prog 41 #[.string a, .string b] w (RetI w (hvals T)) := by
  obtain ⟨i0, hi, hz0, hz1, hz2⟩ := info_parts infoI
  have hsl := srt_length T
  have HE := Lib.hid (vals_eq T)
  go_enter Try.func41, Try.ntmps41
  go_wp2_with fail
  refine (C.out _).mono ?_
  rintro e w1 ⟨v0, rfl, o0, hb0⟩
  have CS := Lib.hid (sort_ints v0 T w1 w.heap.size o0 (by omega))
  clear C o0
  go_wp2_with fail
  refine (CS.out).mono ?_
  rintro e w2 ⟨rfl, o2, hb2⟩
  have hb := hb0.trans hb2
  have HB := Lib.hid hb
  have hwz := hb.size
  obtain ⟨S, hS⟩ : ∃ S, S = srt T := ⟨_, rfl⟩
  rw [← hS] at o2 hsl HE
  rw [← hsl] at HE hT
  have hr := o2.row
  obtain ⟨A, cap, rfl⟩ := hr.any
  have HC := hr.cells
  clear CS hb0 hb2 hb hS hsl o2 hr
  have o1 := Lib.hid (OwnI.lit0 w2)
  have hw1 := Lib.hid ((Below.refl w2.heap.size w2).alloc (Nat.le_refl _) (.cells #[] 3))
  go_wp2_with fail
  go_loopw [6, 17] (fun u i wr => ∃ j : Nat, j ≤ S.length ∧ i = .int .i64 (j : Int) ∧ OwnI wr w2.heap.size u (uvals S j) ∧ Below w2.heap.size w2 wr) (fun _ i _ => S.length - (intOf i).toNat)
  case atStart => exact ⟨0, Nat.zero_le _, rfl, o1.out, hw1.out⟩
  case round =>
    clear o1 hw1
    obtain ⟨j, hj, rfl, ho, hw⟩ := hrel
    have HO := Lib.hid ho
    have hz := hw.size
    have hul := uvals_length S j
    clear ho
    by_cases hlt : j < S.length
    · obtain ⟨g, hA, hg, hc⟩ := HC.out.2 j hlt
      subst hA
      have hc1 : wr.cell? ⟨g, j, none⟩ = some (.int .i64 S[j]) := (hw.cell (p := ⟨g, j, none⟩) hg).trans hc
      have hgd := getD_at hlt
      clear hc
      by_cases hj0 : j = 0
      · have d0 : ((j : Int) == 0) = true := by rw [beq_iff_eq]; omega
        have HU := Lib.hid (uvals_new S j (.inl hj0))
        rw [hgd] at HU
        generalize S[j] = y at hc1 HU hgd
        clear hgd hj0
        go_wp2_with (at_builtin; refine wpList_append_own _ rfl _ _ 35 rfl w2.heap.size 3 i0 (.int .i64 0) 1 8 Try.underlying35 hi hz0 hz1 hz2 rfl (by decide) _ _ _ rfl (HO.out.alloc _) ⟨wr.heap.size, 0, none⟩ 1 1 [.int .i64 y] rfl rfl ?c1 ?c2 ?c3 ?c4 ?c5 ?_)
        case c1 => exact new_int _ _ _
        case c2 => exact int_one _
        case c3 => unfold maxLen; omega
        case c4 => omega
        case c5 => simp; omega
        intro v' w3 ho2 hg2 _
        have hw2 := grownB hw hg2 (own_rowB HO.out)
        have HO2 := Lib.hid (OwnI.grow1 ho2)
        rw [← HU.out] at HO2
        clear ho2 hg2 HO hc1 HU
        go_wp2
        go_roundw
        case rel => exact ⟨j + 1, by omega, by go_num, HO2.out, hw2⟩
        case measure => simp [intOf]; omega
      · have d0 : ((j : Int) == 0) = false := by rw [beq_eq_false_iff_ne]; omega
        have hj1 : j - 1 < S.length := by omega
        obtain ⟨g', hA, _, hc⟩ := HC.out.2 (j - 1) hj1
        have hgg : g' = g := by simpa using hA.symm
        subst hgg
        have hc2 : wr.cell? ⟨g', j - 1, none⟩ = some (.int .i64 S[j - 1]) := (hw.cell (p := ⟨g', j - 1, none⟩) hg).trans hc
        have hgd2 := getD_at hj1
        have hjm : ((j : Int) - 1).toNat = j - 1 := by omega
        clear hc hA
        by_cases hne : S[j] = S[j - 1]
        · have HU := Lib.hid (uvals_old S j hj0 (by rw [hgd, hgd2]; exact hne))
          have dn : (S[j] != S[j - 1]) = false := by rw [bne_eq_false_iff_eq]; exact hne
          generalize S[j] = y at hc1 dn
          generalize S[j - 1] = z at hc2 dn
          clear hgd hgd2 hne
          go_wp2
          go_roundw
          case rel => exact ⟨j + 1, by omega, by go_num, by rw [HU.out]; exact HO.out, hw⟩
          case measure => simp [intOf]; omega
        · have HU := Lib.hid (uvals_new S j (.inr (by rw [hgd, hgd2]; exact hne)))
          rw [hgd] at HU
          have dn : (S[j] != S[j - 1]) = true := by rw [bne_iff_ne]; exact hne
          clear hne hgd hgd2
          generalize S[j] = y at hc1 dn HU
          generalize S[j - 1] = z at hc2 dn
          go_wp2_with (at_builtin; refine wpList_append_own _ rfl _ _ 35 rfl w2.heap.size 3 i0 (.int .i64 0) 1 8 Try.underlying35 hi hz0 hz1 hz2 rfl (by decide) _ _ _ rfl (HO.out.alloc _) ⟨wr.heap.size, 0, none⟩ 1 1 [.int .i64 y] rfl rfl ?d1 ?d2 ?d3 ?d4 ?d5 ?_)
          case d1 => exact new_int _ _ _
          case d2 => exact int_one _
          case d3 => unfold maxLen; omega
          case d4 => omega
          case d5 => simp; omega
          intro v' w3 ho2 hg2 _
          have hw2 := grownB hw hg2 (own_rowB HO.out)
          have HO2 := Lib.hid (OwnI.grow1 ho2)
          rw [← HU.out] at HO2
          clear ho2 hg2 HO hc1 HU hc2
          go_wp2
          go_roundw
          case rel => exact ⟨j + 1, by omega, by go_num, HO2.out, hw2⟩
          case measure => simp [intOf]; omega
    · obtain rfl : j = S.length := by omega
      rw [HE.out] at HO
      go_wp2
      go_ret
      exact ⟨_, rfl, HO.out.wider hwz, HB.out.trans (hw.mono hwz)⟩
set_option maxHeartbeats 1000000 in
theorem vals_spec (a b : ByteArray) (T : List Int) (w : World) (hT : T.length ≤ 900) (C : Hid (∀ w, Calls Try.prog 28 #[.string a, .string b] w (RetI w T))) :
    Calls Try.prog 40 #[.string a, .string b] w (RetI w (hvals T)) := by
  go_enter Try.func40, Try.ntmps40
  go_wp2_with fail
  refine (C.out _).mono ?_
  rintro e w2 ⟨v0, rfl, o2, hb⟩
  have HB := Lib.hid hb
  have hwz := hb.size
  have hr := o2.row
  obtain ⟨A, cap, rfl⟩ := hr.any
  have HC := hr.cells
  clear C hb o2 hr
  have o1 := Lib.hid (OwnI.lit0 w2)
  have hw1 := Lib.hid ((Below.refl w2.heap.size w2).alloc (Nat.le_refl _) (.cells #[] 3))
  go_wp2_with fail
  go_loopw [6, 7] (fun u i wr => ∃ (j : Nat) (L : List Int), j ≤ T.length ∧ i = .int .i64 (j : Int) ∧ Hid (L = hvals (T.take j)) ∧ OwnI wr w2.heap.size u L ∧ Below w2.heap.size w2 wr) (fun _ i _ => T.length - (intOf i).toNat)
  case atStart => exact ⟨0, [], Nat.zero_le _, rfl, Lib.hid (by rw [List.take_zero]; rfl), o1.out, hw1.out⟩
  case round =>
    clear o1 hw1
    obtain ⟨j, L, hj, rfl, HL, ho, hw⟩ := hrel
    have HO := Lib.hid ho
    have hz := hw.size
    have hul : L.length ≤ 900 := by
      rw [HL.out]
      have := hvals_length (T.take j)
      have := List.length_take (i := j) (l := T)
      omega
    clear ho
    by_cases hlt : j < T.length
    · obtain ⟨g, hA, hg, hc⟩ := HC.out.2 j hlt
      subst hA
      have hc1 : wr.cell? ⟨g, j, none⟩ = some (.int .i64 T[j]) := (hw.cell (p := ⟨g, j, none⟩) hg).trans hc
      have HT := Lib.hid (hvals_snoc (T.take j) T[j])
      rw [← take_snocI hlt, ← HL.out] at HT
      clear hc HL
      generalize T[j] = y at hc1 HT
      have C1 := Lib.hid (has_spec _ L y wr _ HO.out.row (by omega))
      by_cases hm : y ∈ L
      · rw [decide_eq_true hm] at C1
        rw [if_pos hm] at HT
        clear hm
        go_wp2_with fail
        refine (C1.out).mono ?_
        rintro e w3 ⟨rfl, rfl⟩
        go_wp2
        go_roundw
        case rel => exact ⟨j + 1, L, by omega, by go_num, Lib.hid HT.out.symm, HO.out, hw⟩
        case measure => simp [intOf]; omega
      · rw [decide_eq_false hm] at C1
        rw [if_neg hm] at HT
        clear hm
        have C2 := Lib.hid (insert_spec _ L y wr HO.out.row (by omega))
        go_wp2_with fail
        refine (C1.out).mono ?_
        rintro e w3 ⟨rfl, rfl⟩
        go_wp2_with fail
        refine (C2.out).mono ?_
        rintro e w3 ⟨v3, rfl, o3, hb3⟩
        have HO3 := Lib.hid (o3.wider hz)
        have hw3 := afterB hw hb3 hw.size
        clear o3 hb3 hc1 C1 C2 HO
        go_wp2
        go_roundw
        case rel => exact ⟨j + 1, _, by omega, by go_num, Lib.hid HT.out.symm, HO3.out, hw3⟩
        case measure => simp [intOf]; omega
    · obtain rfl : j = T.length := by omega
      have hL := HL.out
      rw [List.take_length] at hL
      go_wp2
      go_ret
      exact ⟨_, rfl, hL ▸ HO.out.wider hwz, HB.out.trans (hw.mono hwz)⟩
end Go.Proofs.Ytibnlaphkmnhfaa
