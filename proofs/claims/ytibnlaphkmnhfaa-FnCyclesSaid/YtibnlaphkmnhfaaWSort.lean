/- The contract of slices.Sort at numbers, and that of putting a number into an ascending list. -/
import Derived.Test.YtibnlaphkmnhfaaWSortLay
import Derived.Test.YtibnlaphkmnhfaaWTab
import Derived.Test.YtibnlaphkmnhfaaPlainRle
import Derived.Sort.OwnSortedInts
namespace Go.Proofs.Ytibnlaphkmnhfaa
open Go.RowKit SS
set_option maxRecDepth 100000
theorem sort_ints (v : Value) (l : List Int) (w : World) (base : Nat) (h : OwnI w base v l) (hl : l.length ≤ 100000) :
    Calls Try.prog 78 #[v] w fun e w' => e = .returned (.tuple #[]) ∧ OwnI w' base v (srt l) ∧ Below base w w' := by
  by_cases h0 : l = []
  · subst h0
    obtain ⟨A, cap, rfl⟩ := h.row.nil
    have C := Any.slices_Sort_int_none sortLays A cap w
    change Calls Try.prog 78 _ _ _ at C
    refine C.mono ?_
    rintro e w' ⟨rfl, rfl⟩
    have e0 : srt [] = [] := by simp [srt]
    exact ⟨rfl, by rw [e0]; exact h, Below.refl _ _⟩
  · have h' := h
    rcases h.2 with ⟨_, hn⟩ | ⟨g, cap, cur, hv, hg, hh, hc1, hc2, hc3, hc4⟩
    · exact absurd (by simpa using hn) h0
    · subst hv
      rw [Nat.mul_one] at hc4
      have hH := holds_of_blockI hh hc4
      have hlt : g < w.heap.size := (Array.getElem?_eq_some_iff.1 hh).1
      have C := Any.slices_Sort_int sortLays g 0 cap l w hH hlt (by omega)
      change Calls Try.prog 78 _ _ _ at C
      refine C.mono ?_
      rintro e w' ⟨he, n, os, hw'⟩
      subst hw'
      have hgr := grownBy_sortedI (w := w) (g := g) (n := n) (os := os) (srt l).toArray
      refine ⟨he, ?_, ?_⟩
      · have := ownsRow_sortedI (w := w) (base := base) (g := g) (cap := cap) (n := n) (e := 3) (os := os) (cur := cur) (ss := l) (ts := srt l) (srt_length l) hg hh hc1 hc2 hc3
        unfold OwnI
        rw [srt_length]
        exact this
      · exact ⟨hgr.os, hgr.tape, hgr.output, hgr.size, fun k hk => hgr.block k (by omega) (fun e => by have := Option.some.inj e; omega)⟩
/-- how far a number has been put into a list -/
def InsS (n : Int) (l : List Int) (j : Nat) (d : Bool) (L : List Int) : Prop :=
  (d = false ∧ L = l.take j ∧ ∀ x ∈ l.take j, ¬ n < x) ∨ (d = true ∧ L = insI n (l.take j) ∧ ∃ x ∈ l.take j, n < x)
theorem InsS.start (n : Int) (l : List Int) : InsS n l 0 false [] := .inl ⟨rfl, by simp, by simp⟩
theorem InsS.len {n : Int} {l : List Int} {j : Nat} {d : Bool} {L : List Int} (h : InsS n l j d L) : L.length ≤ l.length + 1 := by
  rcases h with ⟨_, rfl, _⟩ | ⟨_, rfl, _⟩
  · have := List.length_take_le j l; have := List.length_take (i := j) (l := l); omega
  · rw [insI_length]; have := List.length_take (i := j) (l := l); omega
theorem take_snocI {l : List Int} {j : Nat} (h : j < l.length) : l.take (j + 1) = l.take j ++ [l[j]] := List.take_succ_eq_append_getElem h
theorem InsS.put {n : Int} {l : List Int} {j : Nat} {L : List Int} (h : InsS n l j false L) (hj : j < l.length) (hn : n < l[j]) : InsS n l (j + 1) true (L ++ [n] ++ [l[j]]) := by
  rcases h with ⟨_, rfl, h⟩ | ⟨e, _⟩
  · refine .inr ⟨rfl, ?_, l[j], ?_, hn⟩
    · rw [take_snocI hj, insI_hit n _ _ h hn]
    · rw [take_snocI hj]; exact List.mem_append_right _ (List.mem_singleton.2 rfl)
  · cases e
theorem InsS.pass {n : Int} {l : List Int} {j : Nat} {L : List Int} (h : InsS n l j false L) (hj : j < l.length) (hn : ¬ n < l[j]) : InsS n l (j + 1) false (L ++ [l[j]]) := by
  rcases h with ⟨_, rfl, h⟩ | ⟨e, _⟩
  · refine .inl ⟨rfl, (take_snocI hj).symm, ?_⟩
    rw [take_snocI hj]
    intro x hx
    rcases List.mem_append.1 hx with hx | hx
    · exact h x hx
    · rw [List.mem_singleton.1 hx]; exact hn
  · cases e
theorem InsS.more {n : Int} {l : List Int} {j : Nat} {L : List Int} (h : InsS n l j true L) (hj : j < l.length) : InsS n l (j + 1) true (L ++ [l[j]]) := by
  rcases h with ⟨e, _⟩ | ⟨_, rfl, x, hx, hn⟩
  · cases e
  · refine .inr ⟨rfl, ?_, x, ?_, hn⟩
    · rw [take_snocI hj, insI_more n _ _ ⟨x, hx, hn⟩]
    · rw [take_snocI hj]; exact List.mem_append_left _ hx
theorem InsS.last {n : Int} {l : List Int} {L : List Int} (h : InsS n l l.length false L) : L ++ [n] = insI n l := by
  rcases h with ⟨_, rfl, h⟩ | ⟨e, _⟩
  · rw [List.take_length] at h ⊢; exact (insI_none n l h).symm
  · cases e
theorem InsS.done {n : Int} {l : List Int} {L : List Int} (h : InsS n l l.length true L) : L = insI n l := by
  rcases h with ⟨e, _⟩ | ⟨_, rfl, _⟩
  · cases e
  · rw [List.take_length]
set_option maxHeartbeats 1000000 in
theorem insert_spec (v : Value) (l : List Int) (n : Int) (w : World) (h : RowI w w.heap.size v l) (hl : l.length ≤ 1000) :
    Calls Try.prog 77 #[v, .int .i64 n] w (RetI w (insI n l)) := by
  obtain ⟨i0, hi, hz0, hz1, hz2⟩ := info_parts infoI
  obtain ⟨A, cap, hv⟩ := h.any
  subst hv
  have HC : Hid (∀ j (hj : j < l.length), ∃ g : Nat, A = some ⟨g, 0, none⟩ ∧ g < w.heap.size ∧ w.cell? ⟨g, j, none⟩ = some (.int .i64 l[j])) := by
    intro j hj
    have hne : l ≠ [] := List.ne_nil_of_length_pos (by omega)
    obtain ⟨g, c, e, hg, hcell⟩ := h.form hne
    simp at e
    exact ⟨g, e.1, hg, hcell j _ (List.getElem?_eq_getElem hj)⟩
  clear h
  have o1 := Lib.hid (OwnI.lit0 w)
  have hw1 := Lib.hid ((Below.refl w.heap.size w).alloc (Nat.le_refl _) (.cells #[] 3))
  go_enter Try.func77, Try.ntmps77
  go_wp2_with fail
  go_loopw [5, 6, 7] (fun u d i wr => ∃ (j : Nat) (b : Bool) (L : List Int), j ≤ l.length ∧ i = .int .i64 (j : Int) ∧ d = .bool b ∧ InsS n l j b L ∧ OwnI wr w.heap.size u L ∧ Below w.heap.size w wr) (fun _ _ i _ => l.length - (intOf i).toNat)
  case atStart => exact ⟨0, false, [], Nat.zero_le _, rfl, rfl, InsS.start n l, o1.out, hw1.out⟩
  case round =>
    clear o1 hw1
    obtain ⟨j, b, L, hj, rfl, rfl, hs, ho, hw⟩ := hrel
    have HO := Lib.hid ho
    have hLn := hs.len
    have HS := Lib.hid hs
    clear ho hs
    by_cases hlt : j < l.length
    · obtain ⟨g, hA, hg, hc⟩ := HC.out j hlt
      subst hA
      have hc1 : wr.cell? ⟨g, j, none⟩ = some (.int .i64 l[j]) := (hw.cell (p := ⟨g, j, none⟩) hg).trans hc
      have hz := hw.size
      clear hc
      cases b with
      | true =>
        have HS2 := Lib.hid (HS.out.more hlt)
        generalize l[j] = y at hc1 HS2
        clear HS
        go_wp2_with (at_builtin; refine wpList_append_own _ rfl _ _ 35 rfl w.heap.size 3 i0 (.int .i64 0) 1 8 Try.underlying35 hi hz0 hz1 hz2 rfl (by decide) _ _ _ rfl (HO.out.alloc _) ⟨wr.heap.size, 0, none⟩ 1 1 [.int .i64 y] rfl rfl ?c1 ?c2 ?c3 ?c4 ?c5 ?_)
        case c1 => exact new_int _ _ _
        case c2 => exact int_one _
        case c3 => unfold maxLen; omega
        case c4 => omega
        case c5 => simp; omega
        intro v' w2 ho2 hg2 _
        have hw2 := grownB hw hg2 (own_rowB HO.out)
        have HO2 := Lib.hid (OwnI.grow1 ho2)
        clear ho2 hg2 HO hc1
        go_wp2
        go_roundw
        case rel => exact ⟨j + 1, true, _, by omega, by go_num, rfl, HS2.out, HO2.out, hw2⟩
        case measure => simp [intOf]; omega
      | false =>
        by_cases hn : n < l[j]
        · have HS2 := Lib.hid (HS.out.put hlt hn)
          have dn : decide (n < l[j]) = true := decide_eq_true hn
          generalize l[j] = y at hc1 HS2 dn hn
          clear HS hn
          go_wp2_with (at_builtin; refine wpList_append_own _ rfl _ _ 35 rfl w.heap.size 3 i0 (.int .i64 0) 1 8 Try.underlying35 hi hz0 hz1 hz2 rfl (by decide) _ _ _ rfl (HO.out.alloc _) ⟨wr.heap.size, 0, none⟩ 1 1 [.int .i64 n] rfl rfl ?d1 ?d2 ?d3 ?d4 ?d5 ?_)
          case d1 => exact new_int _ _ _
          case d2 => exact int_one _
          case d3 => unfold maxLen; omega
          case d4 => omega
          case d5 => simp; omega
          intro v' w2 ho2 hg2 _
          have hw2 := grownB hw hg2 (own_rowB HO.out)
          have HO2 := Lib.hid (OwnI.grow1 ho2)
          have hzz := hw2.size
          have hc2 : w2.cell? ⟨g, j, none⟩ = some (.int .i64 y) := (hw2.cell (p := ⟨g, j, none⟩) hg).trans ((hw.cell (p := ⟨g, j, none⟩) hg).symm.trans hc1)
          have hLn2 : (L ++ [n]).length ≤ l.length + 2 := by simp; omega
          generalize hLL : L ++ [n] = LL at HO2 HS2 hLn2
          clear ho2 hg2 HO hc1 hLL dn
          go_wp2_with (at_builtin; refine wpList_append_own _ rfl _ _ 35 rfl w.heap.size 3 i0 (.int .i64 0) 1 8 Try.underlying35 hi hz0 hz1 hz2 rfl (by decide) _ _ _ rfl (HO2.out.alloc _) ⟨w2.heap.size, 0, none⟩ 1 1 [.int .i64 y] rfl rfl ?e1 ?e2 ?e3 ?e4 ?e5 ?_)
          case e1 => exact new_int _ _ _
          case e2 => exact int_one _
          case e3 => unfold maxLen; omega
          case e4 => omega
          case e5 => simp; omega
          intro v3 w3 ho3 hg3 _
          have hw3 := grownB hw2 hg3 (own_rowB HO2.out)
          have HO3 := Lib.hid (OwnI.grow1 ho3)
          clear ho3 hg3 HO2 hc2
          go_wp2
          go_roundw
          case rel => exact ⟨j + 1, true, _, by omega, by go_num, rfl, HS2.out, HO3.out, hw3⟩
          case measure => simp [intOf]; omega
        · have HS2 := Lib.hid (HS.out.pass hlt hn)
          have dn : decide (n < l[j]) = false := decide_eq_false hn
          generalize l[j] = y at hc1 HS2 dn hn
          clear HS hn
          go_wp2_with (at_builtin; refine wpList_append_own _ rfl _ _ 35 rfl w.heap.size 3 i0 (.int .i64 0) 1 8 Try.underlying35 hi hz0 hz1 hz2 rfl (by decide) _ _ _ rfl (HO.out.alloc _) ⟨wr.heap.size, 0, none⟩ 1 1 [.int .i64 y] rfl rfl ?f1 ?f2 ?f3 ?f4 ?f5 ?_)
          case f1 => exact new_int _ _ _
          case f2 => exact int_one _
          case f3 => unfold maxLen; omega
          case f4 => omega
          case f5 => simp; omega
          intro v' w2 ho2 hg2 _
          have hw2 := grownB hw hg2 (own_rowB HO.out)
          have HO2 := Lib.hid (OwnI.grow1 ho2)
          clear ho2 hg2 HO hc1
          go_wp2
          go_roundw
          case rel => exact ⟨j + 1, false, _, by omega, by go_num, rfl, HS2.out, HO2.out, hw2⟩
          case measure => simp [intOf]; omega
    · obtain rfl : j = l.length := by omega
      clear HC
      have hz := hw.size
      cases b with
      | true =>
        have e := HS.out.done
        go_wp2
        go_ret
        exact ⟨_, rfl, e ▸ HO.out, hw⟩
      | false =>
        have HS2 := Lib.hid HS.out.last
        clear HS
        go_wp2_with (at_builtin; refine wpList_append_own _ rfl _ _ 35 rfl w.heap.size 3 i0 (.int .i64 0) 1 8 Try.underlying35 hi hz0 hz1 hz2 rfl (by decide) _ _ _ rfl (HO.out.alloc _) ⟨wr.heap.size, 0, none⟩ 1 1 [.int .i64 n] rfl rfl ?g1 ?g2 ?g3 ?g4 ?g5 ?_)
        case g1 => exact new_int _ _ _
        case g2 => exact int_one _
        case g3 => unfold maxLen; omega
        case g4 => omega
        case g5 => simp; omega
        intro v' w2 ho2 hg2 _
        have hw2 := grownB hw hg2 (own_rowB HO.out)
        have HO2 := Lib.hid (OwnI.grow1 ho2)
        rw [HS2.out] at HO2
        clear ho2 hg2 HO
        go_wp2
        go_ret
        exact ⟨_, rfl, HO2.out, hw2⟩
theorem has_spec (v : Value) (l : List Int) (n : Int) (w : World) (B : Nat) (h : RowI w B v l) (hl : l.length ≤ 100000) :
    Calls Try.prog 79 #[v, .int .i64 n] w fun e w' => e = .returned (.bool (decide (n ∈ l))) ∧ w = w' := by
  obtain ⟨A, cap, hv⟩ := h.any
  subst hv
  have HC : Hid (∀ j (hj : j < l.length), ∃ g : Nat, A = some ⟨g, 0, none⟩ ∧ w.cell? ⟨g, j, none⟩ = some (.int .i64 l[j])) := by
    intro j hj
    have hne : l ≠ [] := List.ne_nil_of_length_pos (by omega)
    obtain ⟨g, c, e, hg, hcell⟩ := h.form hne
    simp at e
    exact ⟨g, e.1, hcell j _ (List.getElem?_eq_getElem hj)⟩
  clear h
  obtain ⟨r, hr⟩ : ∃ r, r = decide (n ∈ l) := ⟨_, rfl⟩
  rw [← hr]
  have HR := Lib.hid hr
  clear hr
  go_enter Try.func79, Try.ntmps79
  go_wp2_with fail
  go_loop [5] (fun i => ∃ j : Nat, j ≤ l.length ∧ i = .int .i64 (j : Int) ∧ Hid (n ∉ l.take j)) (fun i => l.length - (intOf i).toNat)
  case atStart => exact ⟨0, Nat.zero_le _, rfl, Lib.hid (by simp)⟩
  case round =>
    obtain ⟨j, hj, rfl, HN⟩ := hrel
    by_cases hlt : j < l.length
    · obtain ⟨g, hA, hc⟩ := HC.out j hlt
      subst hA
      by_cases hn : l[j] = n
      · have dn : (l[j] == n) = true := by rw [beq_iff_eq]; exact hn
        have HE : Hid (r = true) := Lib.hid (by rw [HR.out, decide_eq_true_eq, ← hn]; exact List.getElem_mem hlt)
        generalize l[j] = y at hc dn
        clear hn HN HR HC
        go_wp2
        go_ret
        exact ⟨by rw [HE.out]; rfl, rfl⟩
      · have dn : (l[j] == n) = false := by rw [beq_eq_false_iff_ne]; exact hn
        have HN2 : Hid (n ∉ l.take (j + 1)) := Lib.hid (by
          rw [take_snocI hlt]
          intro hm
          rcases List.mem_append.1 hm with hm | hm
          · exact HN.out hm
          · exact hn (List.mem_singleton.1 hm).symm)
        generalize l[j] = y at hc dn
        clear hn HN
        go_wp2
        go_round
        case rel => exact ⟨j + 1, by omega, by go_num, HN2⟩
        case measure => simp [intOf]; omega
    · obtain rfl : j = l.length := by omega
      have HE : Hid (r = false) := Lib.hid (by rw [HR.out, decide_eq_false_iff_not]; have := HN.out; rwa [List.take_length] at this)
      clear HN HR HC
      go_wp2
      go_ret
      exact ⟨by rw [HE.out]; rfl, rfl⟩
end Go.Proofs.Ytibnlaphkmnhfaa
