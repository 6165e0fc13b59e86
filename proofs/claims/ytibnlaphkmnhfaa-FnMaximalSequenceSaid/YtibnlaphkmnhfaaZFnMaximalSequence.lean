/- Texts of this claim, joined: WSort, PlainVals, WVals, WQuiet, PlainRuns, WRuns, WLaw, LawR, PlainJump, PlainPer, PlainCyc, PlainMseq, PlainRuns2, WSsMax, WTail, LawFnMaximalSequence. -/
import Derived.Test.YtibnlaphkmnhfaaWSortLay
import Derived.Test.YtibnlaphkmnhfaaWTab
import Derived.Test.YtibnlaphkmnhfaaPlainRle
import Derived.Sort.OwnSortedInts
import Derived.Test.YtibnlaphkmnhfaaWShift
import Derived.Test.YtibnlaphkmnhfaaWNext
import Derived.Test.YtibnlaphkmnhfaaWDraw
import Derived.BigQuiet
import Derived.Test.YtibnlaphkmnhfaaWJump
import Derived.OpenShut
import Derived.Test.YtibnlaphkmnhfaaPlainReg
import Derived.Test.YtibnlaphkmnhfaaPlainOrb
import Derived.Test.YtibnlaphkmnhfaaPlainAdd
import Derived.Test.YtibnlaphkmnhfaaPlainMaxi
import Derived.Test.YtibnlaphkmnhfaaPlainShort
import Derived.Test.YtibnlaphkmnhfaaPlainTurn
import Derived.Test.YtibnlaphkmnhfaaPlainRun
import Derived.Test.YtibnlaphkmnhfaaWMxi
import Derived.Test.YtibnlaphkmnhfaaWStrs
import Derived.Test.YtibnlaphkmnhfaaWAfter
import Derived.Laws.StructEq
import Derived.Test.YtibnlaphkmnhfaaWDrawT
import Derived.Test.YtibnlaphkmnhfaaWLeast
import Derived.Test.YtibnlaphkmnhfaaWAuto
import Derived.Test.YtibnlaphkmnhfaaWMany
namespace Go.Proofs.Ytibnlaphkmnhfaa
open Go.RowKit SS
set_option maxRecDepth 100000
theorem sort_ints (v : Value) (l : List Int) (w : World) (base : Nat) (h : OwnI w base v l) (hl : l.length ≤ 100000) :
    Calls Try.prog 78 #[v] w fun e w' => e = .returned (.tuple #[]) ∧ OwnI w' base v (srt l) ∧ Below base w w' := by
  by_cases h0 : l = []
  · subst h0
    obtain ⟨A, cap, rfl⟩ := h.row.nil
    have C := Any.slices_Sort_int_none sortLays A cap w
    change Calls Try.prog 78 _ _ _ at C
    refine C.mono ?_
    rintro e w' ⟨rfl, rfl⟩
    have e0 : srt [] = [] := by simp [srt]
    exact ⟨rfl, by rw [e0]; exact h, Below.refl _ _⟩
  · have h' := h
    rcases h.2 with ⟨_, hn⟩ | ⟨g, cap, cur, hv, hg, hh, hc1, hc2, hc3, hc4⟩
    · exact absurd (by simpa using hn) h0
    · subst hv
      rw [Nat.mul_one] at hc4
      have hH := holds_of_blockI hh hc4
      have hlt : g < w.heap.size := (Array.getElem?_eq_some_iff.1 hh).1
      have C := Any.slices_Sort_int sortLays g 0 cap l w hH hlt (by omega)
      change Calls Try.prog 78 _ _ _ at C
      refine C.mono ?_
      rintro e w' ⟨he, n, os, hw'⟩
      subst hw'
      have hgr := grownBy_sortedI (w := w) (g := g) (n := n) (os := os) (srt l).toArray
      refine ⟨he, ?_, ?_⟩
      · have := ownsRow_sortedI (w := w) (base := base) (g := g) (cap := cap) (n := n) (e := 3) (os := os) (cur := cur) (ss := l) (ts := srt l) (srt_length l) hg hh hc1 hc2 hc3
        unfold OwnI
        rw [srt_length]
        exact this
      · exact ⟨hgr.os, hgr.tape, hgr.output, hgr.size, fun k hk => hgr.block k (by omega) (fun e => by have := Option.some.inj e; omega)⟩
/-- how far a number has been put into a list -/
def InsS (n : Int) (l : List Int) (j : Nat) (d : Bool) (L : List Int) : Prop :=
  (d = false ∧ L = l.take j ∧ ∀ x ∈ l.take j, ¬ n < x) ∨ (d = true ∧ L = insI n (l.take j) ∧ ∃ x ∈ l.take j, n < x)
theorem InsS.start (n : Int) (l : List Int) : InsS n l 0 false [] := .inl ⟨rfl, by simp, by simp⟩
theorem InsS.len {n : Int} {l : List Int} {j : Nat} {d : Bool} {L : List Int} (h : InsS n l j d L) : L.length ≤ l.length + 1 := by
  rcases h with ⟨_, rfl, _⟩ | ⟨_, rfl, _⟩
  · have := List.length_take_le j l; have := List.length_take (i := j) (l := l); omega
  · rw [insI_length]; have := List.length_take (i := j) (l := l); omega
theorem take_snocI {l : List Int} {j : Nat} (h : j < l.length) : l.take (j + 1) = l.take j ++ [l[j]] := List.take_succ_eq_append_getElem h
theorem InsS.put {n : Int} {l : List Int} {j : Nat} {L : List Int} (h : InsS n l j false L) (hj : j < l.length) (hn : n < l[j]) : InsS n l (j + 1) true (L ++ [n] ++ [l[j]]) := by
  rcases h with ⟨_, rfl, h⟩ | ⟨e, _⟩
  · refine .inr ⟨rfl, ?_, l[j], ?_, hn⟩
    · rw [take_snocI hj, insI_hit n _ _ h hn]
    · rw [take_snocI hj]; exact List.mem_append_right _ (List.mem_singleton.2 rfl)
  · cases e
theorem InsS.pass {n : Int} {l : List Int} {j : Nat} {L : List Int} (h : InsS n l j false L) (hj : j < l.length) (hn : ¬ n < l[j]) : InsS n l (j + 1) false (L ++ [l[j]]) := by
  rcases h with ⟨_, rfl, h⟩ | ⟨e, _⟩
  · refine .inl ⟨rfl, (take_snocI hj).symm, ?_⟩
    rw [take_snocI hj]
    intro x hx
    rcases List.mem_append.1 hx with hx | hx
    · exact h x hx
    · rw [List.mem_singleton.1 hx]; exact hn
  · cases e
theorem InsS.more {n : Int} {l : List Int} {j : Nat} {L : List Int} (h : InsS n l j true L) (hj : j < l.length) : InsS n l (j + 1) true (L ++ [l[j]]) := by
  rcases h with ⟨e, _⟩ | ⟨_, rfl, x, hx, hn⟩
  · cases e
  · refine .inr ⟨rfl, ?_, x, ?_, hn⟩
    · rw [take_snocI hj, insI_more n _ _ ⟨x, hx, hn⟩]
    · rw [take_snocI hj]; exact List.mem_append_left _ hx
theorem InsS.last {n : Int} {l : List Int} {L : List Int} (h : InsS n l l.length false L) : L ++ [n] = insI n l := by
  rcases h with ⟨_, rfl, h⟩ | ⟨e, _⟩
  · rw [List.take_length] at h ⊢; exact (insI_none n l h).symm
  · cases e
theorem InsS.done {n : Int} {l : List Int} {L : List Int} (h : InsS n l l.length true L) : L = insI n l := by
  rcases h with ⟨e, _⟩ | ⟨_, rfl, _⟩
  · cases e
  · rw [List.take_length]
set_option maxHeartbeats 1000000 in
theorem insert_spec (v : Value) (l : List Int) (n : Int) (w : World) (h : RowI w w.heap.size v l) (hl : l.length ≤ 1000) :
    Calls Try.prog 77 #[v, .int .i64 n] w (RetI w (insI n l)) := by
  obtain ⟨i0, hi, hz0, hz1, hz2⟩ := info_parts infoI
  obtain ⟨A, cap, hv⟩ := h.any
  subst hv
  have HC : Hid (∀ j (hj : j < l.length), ∃ g : Nat, A = some ⟨g, 0, none⟩ ∧ g < w.heap.size ∧ w.cell? ⟨g, j, none⟩ = some (.int .i64 l[j])) := by
    intro j hj
    have hne : l ≠ [] := List.ne_nil_of_length_pos (by omega)
    obtain ⟨g, c, e, hg, hcell⟩ := h.form hne
    simp at e
    exact ⟨g, e.1, hg, hcell j _ (List.getElem?_eq_getElem hj)⟩
  clear h
  have o1 := Lib.hid (OwnI.lit0 w)
  have hw1 := Lib.hid ((Below.refl w.heap.size w).alloc (Nat.le_refl _) (.cells #[] 3))
  go_enter Try.func77, Try.ntmps77
  go_wp2_with fail
  go_loopw [5, 6, 7] (fun u d i wr => ∃ (j : Nat) (b : Bool) (L : List Int), j ≤ l.length ∧ i = .int .i64 (j : Int) ∧ d = .bool b ∧ InsS n l j b L ∧ OwnI wr w.heap.size u L ∧ Below w.heap.size w wr) (fun _ _ i _ => l.length - (intOf i).toNat)
  case atStart => exact ⟨0, false, [], Nat.zero_le _, rfl, rfl, InsS.start n l, o1.out, hw1.out⟩
  case round =>
    clear o1 hw1
    obtain ⟨j, b, L, hj, rfl, rfl, hs, ho, hw⟩ := hrel
    have HO := Lib.hid ho
    have hLn := hs.len
    have HS := Lib.hid hs
    clear ho hs
    by_cases hlt : j < l.length
    · obtain ⟨g, hA, hg, hc⟩ := HC.out j hlt
      subst hA
      have hc1 : wr.cell? ⟨g, j, none⟩ = some (.int .i64 l[j]) := (hw.cell (p := ⟨g, j, none⟩) hg).trans hc
      have hz := hw.size
      clear hc
      cases b with
      | true =>
        have HS2 := Lib.hid (HS.out.more hlt)
        generalize l[j] = y at hc1 HS2
        clear HS
        go_wp2_with (at_builtin; refine wpList_append_own _ rfl _ _ 35 rfl w.heap.size 3 i0 (.int .i64 0) 1 8 Try.underlying35 hi hz0 hz1 hz2 rfl (by decide) _ _ _ rfl (HO.out.alloc _) ⟨wr.heap.size, 0, none⟩ 1 1 [.int .i64 y] rfl rfl ?c1 ?c2 ?c3 ?c4 ?c5 ?_)
        case c1 => exact new_int _ _ _
        case c2 => exact int_one _
        case c3 => unfold maxLen; omega
        case c4 => omega
        case c5 => simp; omega
        intro v' w2 ho2 hg2 _
        have hw2 := grownB hw hg2 (own_rowB HO.out)
        have HO2 := Lib.hid (OwnI.grow1 ho2)
        clear ho2 hg2 HO hc1
        go_wp2
        go_roundw
        case rel => exact ⟨j + 1, true, _, by omega, by go_num, rfl, HS2.out, HO2.out, hw2⟩
        case measure => simp [intOf]; omega
      | false =>
        by_cases hn : n < l[j]
        · have HS2 := Lib.hid (HS.out.put hlt hn)
          have dn : decide (n < l[j]) = true := decide_eq_true hn
          generalize l[j] = y at hc1 HS2 dn hn
          clear HS hn
          go_wp2_with (at_builtin; refine wpList_append_own _ rfl _ _ 35 rfl w.heap.size 3 i0 (.int .i64 0) 1 8 Try.underlying35 hi hz0 hz1 hz2 rfl (by decide) _ _ _ rfl (HO.out.alloc _) ⟨wr.heap.size, 0, none⟩ 1 1 [.int .i64 n] rfl rfl ?d1 ?d2 ?d3 ?d4 ?d5 ?_)
          case d1 => exact new_int _ _ _
          case d2 => exact int_one _
          case d3 => unfold maxLen; omega
          case d4 => omega
          case d5 => simp; omega
          intro v' w2 ho2 hg2 _
          have hw2 := grownB hw hg2 (own_rowB HO.out)
          have HO2 := Lib.hid (OwnI.grow1 ho2)
          have hzz := hw2.size
          have hc2 : w2.cell? ⟨g, j, none⟩ = some (.int .i64 y) := (hw2.cell (p := ⟨g, j, none⟩) hg).trans ((hw.cell (p := ⟨g, j, none⟩) hg).symm.trans hc1)
          have hLn2 : (L ++ [n]).length ≤ l.length + 2 := by simp; omega
          generalize hLL : L ++ [n] = LL at HO2 HS2 hLn2
          clear ho2 hg2 HO hc1 hLL dn
          go_wp2_with (at_builtin; refine wpList_append_own _ rfl _ _ 35 rfl w.heap.size 3 i0 (.int .i64 0) 1 8 Try.underlying35 hi hz0 hz1 hz2 rfl (by decide) _ _ _ rfl (HO2.out.alloc _) ⟨w2.heap.size, 0, none⟩ 1 1 [.int .i64 y] rfl rfl ?e1 ?e2 ?e3 ?e4 ?e5 ?_)
          case e1 => exact new_int _ _ _
          case e2 => exact int_one _
          case e3 => unfold maxLen; omega
          case e4 => omega
          case e5 => simp; omega
          intro v3 w3 ho3 hg3 _
          have hw3 := grownB hw2 hg3 (own_rowB HO2.out)
          have HO3 := Lib.hid (OwnI.grow1 ho3)
          clear ho3 hg3 HO2 hc2
          go_wp2
          go_roundw
          case rel => exact ⟨j + 1, true, _, by omega, by go_num, rfl, HS2.out, HO3.out, hw3⟩
          case measure => simp [intOf]; omega
        · have HS2 := Lib.hid (HS.out.pass hlt hn)
          have dn : decide (n < l[j]) = false := decide_eq_false hn
          generalize l[j] = y at hc1 HS2 dn hn
          clear HS hn
          go_wp2_with (at_builtin; refine wpList_append_own _ rfl _ _ 35 rfl w.heap.size 3 i0 (.int .i64 0) 1 8 Try.underlying35 hi hz0 hz1 hz2 rfl (by decide) _ _ _ rfl (HO.out.alloc _) ⟨wr.heap.size, 0, none⟩ 1 1 [.int .i64 y] rfl rfl ?f1 ?f2 ?f3 ?f4 ?f5 ?_)
          case f1 => exact new_int _ _ _
          case f2 => exact int_one _
          case f3 => unfold maxLen; omega
          case f4 => omega
          case f5 => simp; omega
          intro v' w2 ho2 hg2 _
          have hw2 := grownB hw hg2 (own_rowB HO.out)
          have HO2 := Lib.hid (OwnI.grow1 ho2)
          clear ho2 hg2 HO hc1
          go_wp2
          go_roundw
          case rel => exact ⟨j + 1, false, _, by omega, by go_num, rfl, HS2.out, HO2.out, hw2⟩
          case measure => simp [intOf]; omega
    · obtain rfl : j = l.length := by omega
      clear HC
      have hz := hw.size
      cases b with
      | true =>
        have e := HS.out.done
        go_wp2
        go_ret
        exact ⟨_, rfl, e ▸ HO.out, hw⟩
      | false =>
        have HS2 := Lib.hid HS.out.last
        clear HS
        go_wp2_with (at_builtin; refine wpList_append_own _ rfl _ _ 35 rfl w.heap.size 3 i0 (.int .i64 0) 1 8 Try.underlying35 hi hz0 hz1 hz2 rfl (by decide) _ _ _ rfl (HO.out.alloc _) ⟨wr.heap.size, 0, none⟩ 1 1 [.int .i64 n] rfl rfl ?g1 ?g2 ?g3 ?g4 ?g5 ?_)
        case g1 => exact new_int _ _ _
        case g2 => exact int_one _
        case g3 => unfold maxLen; omega
        case g4 => omega
        case g5 => simp; omega
        intro v' w2 ho2 hg2 _
        have hw2 := grownB hw hg2 (own_rowB HO.out)
        have HO2 := Lib.hid (OwnI.grow1 ho2)
        rw [HS2.out] at HO2
        clear ho2 hg2 HO
        go_wp2
        go_ret
        exact ⟨_, rfl, HO2.out, hw2⟩
theorem has_spec (v : Value) (l : List Int) (n : Int) (w : World) (B : Nat) (h : RowI w B v l) (hl : l.length ≤ 100000) :
    Calls Try.prog 79 #[v, .int .i64 n] w fun e w' => e = .returned (.bool (decide (n ∈ l))) ∧ w = w' := by
  obtain ⟨A, cap, hv⟩ := h.any
  subst hv
  have HC : Hid (∀ j (hj : j < l.length), ∃ g : Nat, A = some ⟨g, 0, none⟩ ∧ w.cell? ⟨g, j, none⟩ = some (.int .i64 l[j])) := by
    intro j hj
    have hne : l ≠ [] := List.ne_nil_of_length_pos (by omega)
    obtain ⟨g, c, e, hg, hcell⟩ := h.form hne
    simp at e
    exact ⟨g, e.1, hcell j _ (List.getElem?_eq_getElem hj)⟩
  clear h
  obtain ⟨r, hr⟩ : ∃ r, r = decide (n ∈ l) := ⟨_, rfl⟩
  rw [← hr]
  have HR := Lib.hid hr
  clear hr
  go_enter Try.func79, Try.ntmps79
  go_wp2_with fail
  go_loop [5] (fun i => ∃ j : Nat, j ≤ l.length ∧ i = .int .i64 (j : Int) ∧ Hid (n ∉ l.take j)) (fun i => l.length - (intOf i).toNat)
  case atStart => exact ⟨0, Nat.zero_le _, rfl, Lib.hid (by simp)⟩
  case round =>
    obtain ⟨j, hj, rfl, HN⟩ := hrel
    by_cases hlt : j < l.length
    · obtain ⟨g, hA, hc⟩ := HC.out j hlt
      subst hA
      by_cases hn : l[j] = n
      · have dn : (l[j] == n) = true := by rw [beq_iff_eq]; exact hn
        have HE : Hid (r = true) := Lib.hid (by rw [HR.out, decide_eq_true_eq, ← hn]; exact List.getElem_mem hlt)
        generalize l[j] = y at hc dn
        clear hn HN HR HC
        go_wp2
        go_ret
        exact ⟨by rw [HE.out]; rfl, rfl⟩
      · have dn : (l[j] == n) = false := by rw [beq_eq_false_iff_ne]; exact hn
        have HN2 : Hid (n ∉ l.take (j + 1)) := Lib.hid (by
          rw [take_snocI hlt]
          intro hm
          rcases List.mem_append.1 hm with hm | hm
          · exact HN.out hm
          · exact hn (List.mem_singleton.1 hm).symm)
        generalize l[j] = y at hc dn
        clear hn HN
        go_wp2
        go_round
        case rel => exact ⟨j + 1, by omega, by go_num, HN2⟩
        case measure => simp [intOf]; omega
    · obtain rfl : j = l.length := by omega
      have HE : Hid (r = false) := Lib.hid (by rw [HR.out, decide_eq_false_iff_not]; have := HN.out; rwa [List.take_length] at this)
      clear HN HR HC
      go_wp2
      go_ret
      exact ⟨by rw [HE.out]; rfl, rfl⟩
end Go.Proofs.Ytibnlaphkmnhfaa

namespace SS
theorem strict_eq {a b : List Int} (ha : a.Pairwise (· < ·)) (hb : b.Pairwise (· < ·)) (h : ∀ x, x ∈ a ↔ x ∈ b) : a = b := by
  have na : a.Nodup := ha.imp fun h => by omega
  have nb : b.Nodup := hb.imp fun h => by omega
  exact up_eq (ha.imp fun h => by omega) (hb.imp fun h => by omega) ((List.perm_ext_iff_of_nodup na nb).2 h)
theorem up_nodup {a : List Int} (h : a.Pairwise (· ≤ ·)) (hn : a.Nodup) : a.Pairwise (· < ·) := by
  induction a with
  | nil => exact .nil
  | cons x a ih =>
    rw [List.pairwise_cons] at h ⊢
    rw [List.nodup_cons] at hn
    refine ⟨fun y hy => ?_, ih h.2 hn.2⟩
    have h1 := h.1 y hy
    have h2 : x ≠ y := fun e => hn.1 (e ▸ hy)
    omega
/-- the different ones of an ascending list, those of its first numbers -/
def uvals (T : List Int) (i : Nat) : List Int := ((List.range i).filter fun j => j == 0 || T.getD j 0 != T.getD (j - 1) 0).map fun j => T.getD j 0
theorem uvals_zero (T : List Int) : uvals T 0 = [] := rfl
theorem uvals_new (T : List Int) (i : Nat) (h : i = 0 ∨ T.getD i 0 ≠ T.getD (i - 1) 0) : uvals T (i + 1) = uvals T i ++ [T.getD i 0] := by
  unfold uvals
  rw [List.range_succ, List.filter_append, List.map_append]
  congr 1
  have : (i == 0 || T.getD i 0 != T.getD (i - 1) 0) = true := by
    rcases h with rfl | h
    · rfl
    · rw [Bool.or_eq_true, bne_iff_ne]; exact .inr h
  rw [List.filter_cons, if_pos this]
  rfl
theorem uvals_old (T : List Int) (i : Nat) (h0 : i ≠ 0) (h : T.getD i 0 = T.getD (i - 1) 0) : uvals T (i + 1) = uvals T i := by
  unfold uvals
  rw [List.range_succ, List.filter_append, List.map_append]
  have : (i == 0 || T.getD i 0 != T.getD (i - 1) 0) = false := by
    rw [Bool.or_eq_false_iff, bne_eq_false_iff_eq, beq_eq_false_iff_ne]; exact ⟨h0, h⟩
  rw [List.filter_cons, this]
  simp
theorem uvals_length (T : List Int) (i : Nat) : (uvals T i).length ≤ i := by
  unfold uvals
  rw [List.length_map]
  exact Nat.le_trans (List.length_filter_le _ _) (by simp)
theorem uvals_all (T : List Int) (h : ∀ j, j + 1 < T.length → T.getD j 0 ≤ T.getD (j + 1) 0) (i : Nat) (hi : i ≤ T.length) :
    (uvals T i).Pairwise (· < ·) ∧ ∀ x, x ∈ uvals T i ↔ ∃ j, j < i ∧ x = T.getD j 0 := by
  have mono : ∀ a b, a ≤ b → b < T.length → T.getD a 0 ≤ T.getD b 0 := by
    intro a b hab
    induction b with
    | zero => intro _; obtain rfl : a = 0 := by omega
              exact Int.le_refl _
    | succ b ih =>
      intro hb
      by_cases e : a = b + 1
      · subst e; exact Int.le_refl _
      · have := ih (by omega) (by omega); have := h b hb; omega
  induction i with
  | zero => exact ⟨.nil, fun x => by simp [uvals]⟩
  | succ i ih =>
    obtain ⟨h1, h2⟩ := ih (by omega)
    by_cases hc : i = 0 ∨ T.getD i 0 ≠ T.getD (i - 1) 0
    · rw [uvals_new T i hc]
      constructor
      · rw [List.pairwise_append]
        refine ⟨h1, by simp, fun x hx y hy => ?_⟩
        obtain ⟨j, hj, rfl⟩ := (h2 x).1 hx
        have hy' : y = T.getD i 0 := by simpa using hy
        subst hy'
        have hc' : T.getD i 0 ≠ T.getD (i - 1) 0 := by rcases hc with rfl | hc; · omega
                                                       · exact hc
        have := mono j (i - 1) (by omega) (by omega)
        have := mono (i - 1) i (by omega) (by omega)
        omega
      · intro x
        rw [List.mem_append, h2]
        constructor
        · rintro (⟨j, hj, e⟩ | hx)
          · exact ⟨j, by omega, e⟩
          · exact ⟨i, by omega, by simpa using hx⟩
        · rintro ⟨j, hj, e⟩
          by_cases hji : j < i
          · exact .inl ⟨j, hji, e⟩
          · obtain rfl : j = i := by omega
            exact .inr (by simp [e])
    · have h0 : i ≠ 0 := fun e => hc (.inl e)
      have he : T.getD i 0 = T.getD (i - 1) 0 := Classical.byContradiction fun e => hc (.inr e)
      rw [uvals_old T i h0 he]
      refine ⟨h1, fun x => ?_⟩
      rw [h2]
      constructor
      · rintro ⟨j, hj, e⟩; exact ⟨j, by omega, e⟩
      · rintro ⟨j, hj, e⟩
        by_cases hji : j < i
        · exact ⟨j, hji, e⟩
        · obtain rfl : j = i := by omega
          exact ⟨j - 1, by omega, by rw [e, he]⟩
/-- each number put in where it is not there yet -/
def hvals (T : List Int) : List Int := T.foldl (fun a x => if x ∈ a then a else insI x a) []
theorem hvals_snoc (T : List Int) (x : Int) : hvals (T ++ [x]) = if x ∈ hvals T then hvals T else insI x (hvals T) := by
  unfold hvals
  rw [List.foldl_append]
  rfl
theorem hvals_all (T : List Int) : (hvals T).Pairwise (· < ·) ∧ ∀ x, x ∈ hvals T ↔ x ∈ T := by
  suffices H : ∀ (n : Nat) (T : List Int), T.length = n → (hvals T).Pairwise (· < ·) ∧ ∀ x, x ∈ hvals T ↔ x ∈ T from H _ T rfl
  intro n
  induction n with
  | zero => intro T hT; obtain rfl := List.length_eq_zero_iff.1 hT; exact ⟨.nil, fun x => by simp [hvals]⟩
  | succ n ih =>
    intro T hT
    have hne : T ≠ [] := List.ne_nil_of_length_pos (by omega)
    obtain ⟨h1, h2⟩ := ih T.dropLast (by simp [hT])
    rw [← List.dropLast_concat_getLast hne, hvals_snoc]
    generalize T.getLast hne = x
    generalize T.dropLast = S at *
    by_cases hx : x ∈ hvals S
    · rw [if_pos hx]
      refine ⟨h1, fun y => ?_⟩
      rw [h2, List.mem_append]
      constructor
      · exact .inl
      · rintro (h | h)
        · exact h
        · obtain rfl : y = x := by simpa using h
          exact (h2 y).1 hx
    · rw [if_neg hx]
      have hp := insI_perm x (hvals S)
      constructor
      · refine up_nodup (insI_up x _ (h1.imp fun h => by omega)) (hp.nodup_iff.2 (List.nodup_cons.2 ⟨hx, h1.imp fun h => by omega⟩))
      · intro y
        rw [hp.mem_iff, List.mem_cons, h2, List.mem_append]
        constructor
        · rintro (h | h)
          · exact .inr (by simp [h])
          · exact .inl h
        · rintro (h | h)
          · exact .inr h
          · exact .inl (by simpa using h)
theorem hvals_length (T : List Int) : (hvals T).length ≤ T.length := by
  suffices H : ∀ (n : Nat) (T : List Int), T.length = n → (hvals T).length ≤ n by exact H _ T rfl
  intro n
  induction n with
  | zero => intro T hT; obtain rfl := List.length_eq_zero_iff.1 hT; simp [hvals]
  | succ n ih =>
    intro T hT
    have hne : T ≠ [] := List.ne_nil_of_length_pos (by omega)
    have h1 := ih T.dropLast (by simp [hT])
    rw [← List.dropLast_concat_getLast hne, hvals_snoc]
    split
    · omega
    · rw [insI_length]; omega
/-- both ways give the same list -/
theorem vals_eq (T : List Int) : uvals (srt T) T.length = hvals T := by
  obtain ⟨h1, h2⟩ := hvals_all T
  have hl := srt_length T
  have hg : ∀ j, j < (srt T).length → (srt T).getD j 0 = (srt T)[j]?.getD 0 := fun j _ => by simp
  obtain ⟨h3, h4⟩ := uvals_all (srt T) (fun j hj => by
    have := (List.pairwise_iff_getElem.1 (srt_up T)) j (j + 1) (by omega) hj (by omega)
    simpa [List.getD_eq_getElem?_getD, List.getElem?_eq_getElem hj, List.getElem?_eq_getElem (show j < (srt T).length by omega)] using this) T.length (by omega)
  refine strict_eq h3 h1 fun x => ?_
  rw [h4, h2, ← (srt_perm T).mem_iff]
  constructor
  · rintro ⟨j, hj, rfl⟩
    rw [← hl] at hj
    simp [List.getD_eq_getElem?_getD, List.getElem?_eq_getElem hj]
  · intro hx
    obtain ⟨j, hj, rfl⟩ := List.getElem_of_mem hx
    exact ⟨j, by omega, by simp [List.getD_eq_getElem?_getD, List.getElem?_eq_getElem hj]⟩
end SS

namespace Go.Proofs.Ytibnlaphkmnhfaa
open Go.RowKit SS
set_option maxRecDepth 100000
theorem OwnI.wider {w : World} {base base' : Nat} {v : Value} {l : List Int} (h : OwnI w base v l) (hb : base' ≤ base) : OwnI w base' v l := by
  refine ⟨h.1, ?_⟩
  rcases h.2 with hn | ⟨g, cap, cur, hv, hg, r⟩
  · exact .inl hn
  · exact .inr ⟨g, cap, cur, hv, Nat.le_trans hb hg, r⟩
/-- the cells of a list, one by one -/
theorem RowI.cells {w : World} {B cap : Nat} {A : Option Addr} {n : Nat} {l : List Int} (h : RowI w B (.slice A n cap) l) : Hid (n = l.length ∧ ∀ j (hj : j < l.length), ∃ g : Nat, A = some ⟨g, 0, none⟩ ∧ g < B ∧ w.cell? ⟨g, j, none⟩ = some (.int .i64 l[j])) := by
  obtain ⟨A', c', e⟩ := h.any
  simp at e
  refine ⟨e.2.1, fun j hj => ?_⟩
  have hne : l ≠ [] := List.ne_nil_of_length_pos (by omega)
  obtain ⟨g, c, e, hg, hcell⟩ := h.form hne
  simp at e
  exact ⟨g, e.1, hg, hcell j _ (List.getElem?_eq_getElem hj)⟩
theorem getD_at {l : List Int} {j : Nat} (h : j < l.length) : l.getD j 0 = l[j] := by simp [List.getD_eq_getElem?_getD, List.getElem?_eq_getElem h]
set_option maxHeartbeats 1000000 in
theorem vals_impl (a b : ByteArray) (T : List Int) (w : World) (hT : T.length ≤ 1000) (C : Hid (∀ w, Calls Try.prog 26 #[.string a, .string b] w (RetI w T))) :
    Calls Try.prog 41 #[.string a, .string b] w (RetI w (hvals T)) := by
  obtain ⟨i0, hi, hz0, hz1, hz2⟩ := info_parts infoI
  have hsl := srt_length T
  have HE := Lib.hid (vals_eq T)
  go_enter Try.func41, Try.ntmps41
  go_wp2_with fail
  refine (C.out _).mono ?_
  rintro e w1 ⟨v0, rfl, o0, hb0⟩
  have CS := Lib.hid (sort_ints v0 T w1 w.heap.size o0 (by omega))
  clear C o0
  go_wp2_with fail
  refine (CS.out).mono ?_
  rintro e w2 ⟨rfl, o2, hb2⟩
  have hb := hb0.trans hb2
  have HB := Lib.hid hb
  have hwz := hb.size
  obtain ⟨S, hS⟩ : ∃ S, S = srt T := ⟨_, rfl⟩
  rw [← hS] at o2 hsl HE
  rw [← hsl] at HE hT
  have hr := o2.row
  obtain ⟨A, cap, rfl⟩ := hr.any
  have HC := hr.cells
  clear CS hb0 hb2 hb hS hsl o2 hr
  have o1 := Lib.hid (OwnI.lit0 w2)
  have hw1 := Lib.hid ((Below.refl w2.heap.size w2).alloc (Nat.le_refl _) (.cells #[] 3))
  go_wp2_with fail
  go_loopw [6, 17] (fun u i wr => ∃ j : Nat, j ≤ S.length ∧ i = .int .i64 (j : Int) ∧ OwnI wr w2.heap.size u (uvals S j) ∧ Below w2.heap.size w2 wr) (fun _ i _ => S.length - (intOf i).toNat)
  case atStart => exact ⟨0, Nat.zero_le _, rfl, o1.out, hw1.out⟩
  case round =>
    clear o1 hw1
    obtain ⟨j, hj, rfl, ho, hw⟩ := hrel
    have HO := Lib.hid ho
    have hz := hw.size
    have hul := uvals_length S j
    clear ho
    by_cases hlt : j < S.length
    · obtain ⟨g, hA, hg, hc⟩ := HC.out.2 j hlt
      subst hA
      have hc1 : wr.cell? ⟨g, j, none⟩ = some (.int .i64 S[j]) := (hw.cell (p := ⟨g, j, none⟩) hg).trans hc
      have hgd := getD_at hlt
      clear hc
      by_cases hj0 : j = 0
      · have d0 : ((j : Int) == 0) = true := by rw [beq_iff_eq]; omega
        have HU := Lib.hid (uvals_new S j (.inl hj0))
        rw [hgd] at HU
        generalize S[j] = y at hc1 HU hgd
        clear hgd hj0
        go_wp2_with (at_builtin; refine wpList_append_own _ rfl _ _ 35 rfl w2.heap.size 3 i0 (.int .i64 0) 1 8 Try.underlying35 hi hz0 hz1 hz2 rfl (by decide) _ _ _ rfl (HO.out.alloc _) ⟨wr.heap.size, 0, none⟩ 1 1 [.int .i64 y] rfl rfl ?c1 ?c2 ?c3 ?c4 ?c5 ?_)
        case c1 => exact new_int _ _ _
        case c2 => exact int_one _
        case c3 => unfold maxLen; omega
        case c4 => omega
        case c5 => simp; omega
        intro v' w3 ho2 hg2 _
        have hw2 := grownB hw hg2 (own_rowB HO.out)
        have HO2 := Lib.hid (OwnI.grow1 ho2)
        rw [← HU.out] at HO2
        clear ho2 hg2 HO hc1 HU
        go_wp2
        go_roundw
        case rel => exact ⟨j + 1, by omega, by go_num, HO2.out, hw2⟩
        case measure => simp [intOf]; omega
      · have d0 : ((j : Int) == 0) = false := by rw [beq_eq_false_iff_ne]; omega
        have hj1 : j - 1 < S.length := by omega
        obtain ⟨g', hA, _, hc⟩ := HC.out.2 (j - 1) hj1
        have hgg : g' = g := by simpa using hA.symm
        subst hgg
        have hc2 : wr.cell? ⟨g', j - 1, none⟩ = some (.int .i64 S[j - 1]) := (hw.cell (p := ⟨g', j - 1, none⟩) hg).trans hc
        have hgd2 := getD_at hj1
        have hjm : ((j : Int) - 1).toNat = j - 1 := by omega
        clear hc hA
        by_cases hne : S[j] = S[j - 1]
        · have HU := Lib.hid (uvals_old S j hj0 (by rw [hgd, hgd2]; exact hne))
          have dn : (S[j] != S[j - 1]) = false := by rw [bne_eq_false_iff_eq]; exact hne
          generalize S[j] = y at hc1 dn
          generalize S[j - 1] = z at hc2 dn
          clear hgd hgd2 hne
          go_wp2
          go_roundw
          case rel => exact ⟨j + 1, by omega, by go_num, by rw [HU.out]; exact HO.out, hw⟩
          case measure => simp [intOf]; omega
        · have HU := Lib.hid (uvals_new S j (.inr (by rw [hgd, hgd2]; exact hne)))
          rw [hgd] at HU
          have dn : (S[j] != S[j - 1]) = true := by rw [bne_iff_ne]; exact hne
          clear hne hgd hgd2
          generalize S[j] = y at hc1 dn HU
          generalize S[j - 1] = z at hc2 dn
          go_wp2_with (at_builtin; refine wpList_append_own _ rfl _ _ 35 rfl w2.heap.size 3 i0 (.int .i64 0) 1 8 Try.underlying35 hi hz0 hz1 hz2 rfl (by decide) _ _ _ rfl (HO.out.alloc _) ⟨wr.heap.size, 0, none⟩ 1 1 [.int .i64 y] rfl rfl ?d1 ?d2 ?d3 ?d4 ?d5 ?_)
          case d1 => exact new_int _ _ _
          case d2 => exact int_one _
          case d3 => unfold maxLen; omega
          case d4 => omega
          case d5 => simp; omega
          intro v' w3 ho2 hg2 _
          have hw2 := grownB hw hg2 (own_rowB HO.out)
          have HO2 := Lib.hid (OwnI.grow1 ho2)
          rw [← HU.out] at HO2
          clear ho2 hg2 HO hc1 HU hc2
          go_wp2
          go_roundw
          case rel => exact ⟨j + 1, by omega, by go_num, HO2.out, hw2⟩
          case measure => simp [intOf]; omega
    · obtain rfl : j = S.length := by omega
      rw [HE.out] at HO
      go_wp2
      go_ret
      exact ⟨_, rfl, HO.out.wider hwz, HB.out.trans (hw.mono hwz)⟩
set_option maxHeartbeats 1000000 in
theorem vals_spec (a b : ByteArray) (T : List Int) (w : World) (hT : T.length ≤ 900) (C : Hid (∀ w, Calls Try.prog 28 #[.string a, .string b] w (RetI w T))) :
    Calls Try.prog 40 #[.string a, .string b] w (RetI w (hvals T)) := by
  go_enter Try.func40, Try.ntmps40
  go_wp2_with fail
  refine (C.out _).mono ?_
  rintro e w2 ⟨v0, rfl, o2, hb⟩
  have HB := Lib.hid hb
  have hwz := hb.size
  have hr := o2.row
  obtain ⟨A, cap, rfl⟩ := hr.any
  have HC := hr.cells
  clear C hb o2 hr
  have o1 := Lib.hid (OwnI.lit0 w2)
  have hw1 := Lib.hid ((Below.refl w2.heap.size w2).alloc (Nat.le_refl _) (.cells #[] 3))
  go_wp2_with fail
  go_loopw [6, 7] (fun u i wr => ∃ (j : Nat) (L : List Int), j ≤ T.length ∧ i = .int .i64 (j : Int) ∧ Hid (L = hvals (T.take j)) ∧ OwnI wr w2.heap.size u L ∧ Below w2.heap.size w2 wr) (fun _ i _ => T.length - (intOf i).toNat)
  case atStart => exact ⟨0, [], Nat.zero_le _, rfl, Lib.hid (by rw [List.take_zero]; rfl), o1.out, hw1.out⟩
  case round =>
    clear o1 hw1
    obtain ⟨j, L, hj, rfl, HL, ho, hw⟩ := hrel
    have HO := Lib.hid ho
    have hz := hw.size
    have hul : L.length ≤ 900 := by
      rw [HL.out]
      have := hvals_length (T.take j)
      have := List.length_take (i := j) (l := T)
      omega
    clear ho
    by_cases hlt : j < T.length
    · obtain ⟨g, hA, hg, hc⟩ := HC.out.2 j hlt
      subst hA
      have hc1 : wr.cell? ⟨g, j, none⟩ = some (.int .i64 T[j]) := (hw.cell (p := ⟨g, j, none⟩) hg).trans hc
      have HT := Lib.hid (hvals_snoc (T.take j) T[j])
      rw [← take_snocI hlt, ← HL.out] at HT
      clear hc HL
      generalize T[j] = y at hc1 HT
      have C1 := Lib.hid (has_spec _ L y wr _ HO.out.row (by omega))
      by_cases hm : y ∈ L
      · rw [decide_eq_true hm] at C1
        rw [if_pos hm] at HT
        clear hm
        go_wp2_with fail
        refine (C1.out).mono ?_
        rintro e w3 ⟨rfl, rfl⟩
        go_wp2
        go_roundw
        case rel => exact ⟨j + 1, L, by omega, by go_num, Lib.hid HT.out.symm, HO.out, hw⟩
        case measure => simp [intOf]; omega
      · rw [decide_eq_false hm] at C1
        rw [if_neg hm] at HT
        clear hm
        have C2 := Lib.hid (insert_spec _ L y wr HO.out.row (by omega))
        go_wp2_with fail
        refine (C1.out).mono ?_
        rintro e w3 ⟨rfl, rfl⟩
        go_wp2_with fail
        refine (C2.out).mono ?_
        rintro e w3 ⟨v3, rfl, o3, hb3⟩
        have HO3 := Lib.hid (o3.wider hz)
        have hw3 := afterB hw hb3 hw.size
        clear o3 hb3 hc1 C1 C2 HO
        go_wp2
        go_roundw
        case rel => exact ⟨j + 1, _, by omega, by go_num, Lib.hid HT.out.symm, HO3.out, hw3⟩
        case measure => simp [intOf]; omega
    · obtain rfl : j = T.length := by omega
      have hL := HL.out
      rw [List.take_length] at hL
      go_wp2
      go_ret
      exact ⟨_, rfl, hL ▸ HO.out.wider hwz, HB.out.trans (hw.mono hwz)⟩
end Go.Proofs.Ytibnlaphkmnhfaa

namespace Go.Proofs.Ytibnlaphkmnhfaa
open Go.RowKit SS
set_option maxRecDepth 100000
theorem quiet_ex {P : Program} {f : FuncId} {args : Array Value} {w : World} {n : Nat} {v : Value}
    (h : Calls P f args (w.drewN n) fun e w' => e = .returned v ∧ ∃ m, w' = (w.drewN n).drewN m) : Calls P f args (w.drewN n) fun e w'' => e = .returned v ∧ ∃ m, w'' = w.drewN m :=
  h.mono fun _ _ ⟨he, m, hm⟩ => ⟨he, n + m, by rw [hm, World.drewN_drewN]⟩
theorem quiet_exN {P : Program} {f : FuncId} {args : Array Value} {w : World} {m n : Nat} {v : Value}
    (h : Calls P f args ((w.drewN m).drewN n) fun e w' => e = .returned v ∧ ∃ k, w' = ((w.drewN m).drewN n).drewN k) : Calls P f args (w.drewN (m + n)) fun e w'' => e = .returned v ∧ ∃ k, w'' = w.drewN (m + k) := by
  rw [World.drewN_drewN] at h
  exact h.mono fun _ _ ⟨he, k, hm⟩ => ⟨he, n + k, by rw [hm, World.drewN_drewN, Nat.add_assoc]⟩
theorem ssShift_quiet (s : ByteArray) (k : Int) (w : World) (hs : sv s.data.toList = true) :
    Calls Try.prog 18 #[.string s, .int .i64 k] w fun e w' => e = .returned (.string (shf k s)) ∧ ∃ n, w' = w.drewN n := by
  have C := Lib.hid fun w => shift_impl s k w hs
  clear hs
  go_enter Try.func18, Try.ntmps18
  go_wp2_with fail
  refine (C.out _).mono ?_
  rintro e w1 ⟨rfl, n, rfl⟩
  go_wp2
  go_ret
  exact ⟨rfl, n, rfl⟩
end Go.Proofs.Ytibnlaphkmnhfaa

namespace SS
/-- the first place at which a run begins -/
structure Brk (l : List UInt8) (a : Nat) : Prop where
  lt : a < l.length
  yes : at_ l a ≠ at_ l ((a + l.length - 1) % l.length)
  first : ∀ i, i < a → at_ l i = at_ l ((i + l.length - 1) % l.length)
/-- no run begins -/
def Flat (l : List UInt8) : Prop := ∀ i, i < l.length → at_ l i = at_ l ((i + l.length - 1) % l.length)
theorem brk_or (l : List UInt8) : (∃ a, Brk l a) ∨ Flat l := by
  have key : ∀ n, n ≤ l.length → (∃ a, Brk l a) ∨ ∀ i, i < n → at_ l i = at_ l ((i + l.length - 1) % l.length) := by
    intro n
    induction n with
    | zero => intro _; exact .inr fun i hi => absurd hi (by omega)
    | succ n ih =>
      intro hn
      rcases ih (by omega) with h | h
      · exact .inl h
      · by_cases e : at_ l n = at_ l ((n + l.length - 1) % l.length)
        · refine .inr fun i hi => ?_
          by_cases hin : i < n
          · exact h i hin
          · obtain rfl : i = n := by omega
            exact e
        · exact .inl ⟨n, by omega, e, h⟩
  rcases key l.length (Nat.le_refl _) with h | h
  · exact .inl h
  · exact .inr h
theorem Brk.brk {l : List UInt8} {a : Nat} (h : Brk l a) : brk (rot a l) := by
  have hlt := h.lt
  have hl := rot_length a l (by omega)
  apply brk_at _ (by omega)
  rw [hl, at_rot a l hlt 0 (by omega), at_rot a l hlt _ (by omega), Nat.zero_add, Nat.mod_eq_of_lt hlt, show l.length - 1 + a = a + l.length - 1 by omega]
  exact h.yes
/-- the list of the lengths of all runs -/
def Runs (l : List UInt8) (R : List Int) : Prop := (∃ a, Brk l a ∧ R = srt (rle (rot a l))) ∨ (Flat l ∧ R = [(l.length : Int)])
theorem take_at {t : List UInt8} {j : Nat} (h : j < t.length) : t.take (j + 1) = t.take j ++ [at_ t j] := by
  rw [at_eq t j h]
  exact List.take_succ_eq_append_getElem h
theorem rle_one (t : List UInt8) (h : 0 < t.length) : rle (t.take 1) = [1] := by
  rw [take_at h, List.take_zero]
  rfl
theorem rle_step_new (t : List UInt8) (j : Nat) (h1 : 1 ≤ j) (h : j < t.length) (hn : at_ t (j - 1) ≠ at_ t j) : rle (t.take (j + 1)) = rle (t.take j) ++ [1] := by
  have e : t.take j = t.take (j - 1) ++ [at_ t (j - 1)] := by
    have := take_at (t := t) (j := j - 1) (by omega)
    rwa [Nat.sub_add_cancel h1] at this
  rw [take_at h, e]
  exact rle_new _ _ _ hn
theorem rle_step_same (t : List UInt8) (j : Nat) (h1 : 1 ≤ j) (h : j < t.length) (hn : at_ t (j - 1) = at_ t j) : rle (t.take (j + 1)) = incT (rle (t.take j)) := by
  have e : t.take j = t.take (j - 1) ++ [at_ t (j - 1)] := by
    have := take_at (t := t) (j := j - 1) (by omega)
    rwa [Nat.sub_add_cancel h1] at this
  rw [take_at h, e, ← hn]
  exact rle_same _ _
theorem rle_take_ne (t : List UInt8) (j : Nat) (h1 : 1 ≤ j) (h : j ≤ t.length) : rle (t.take j) ≠ [] := by
  cases ht : t.take j with
  | nil => have := List.length_take (i := j) (l := t); rw [ht] at this; simp at this; omega
  | cons c r => exact rle_ne c r
theorem rle_take_len (t : List UInt8) (j : Nat) : (rle (t.take j)).length ≤ j := by
  have := rle_len (t.take j)
  have := List.length_take (i := j) (l := t)
  omega
theorem rle_take_le (t : List UInt8) (j : Nat) (h : j ≤ t.length) : ∀ x ∈ rle (t.take j), 1 ≤ x ∧ x ≤ j := by
  intro x hx
  have h1 := rle_le _ x hx
  have h2 := rle_pos _ x hx
  have := List.length_take (i := j) (l := t)
  omega
theorem incT_set (L : List Int) (K : Nat) (x : Int) (hl : L.length = K + 1) (hx : L[K]? = some x) : L.set K (x + 1) = incT L := by
  have hne : L ≠ [] := List.ne_nil_of_length_pos (by omega)
  have e := (List.dropLast_concat_getLast hne).symm
  have hg : L.getLast hne = x := by
    rw [List.getLast_eq_getElem]
    have : L[L.length - 1]? = some x := by rw [hl, Nat.add_sub_cancel]; exact hx
    exact (List.getElem?_eq_some_iff.1 this).2
  rw [hg] at e
  generalize L.dropLast = M at e
  subst e
  have hm : M.length = K := by simpa using hl
  subst hm
  rw [incT_snoc, List.set_append_right _ _ (Nat.le_refl _), Nat.sub_self]
  rfl
/-- what has been counted: the closed runs and how much of the current one -/
def Cnt (t : List UInt8) (j : Nat) (R : List Int) (m : Nat) : Prop :=
  (m = 0 ∧ rle (t.take j) = R ∧ (j = 0 ∨ j = t.length ∨ at_ t (j - 1) ≠ at_ t j)) ∨ (1 ≤ m ∧ rle (t.take j) = R ++ [(m : Int)] ∧ 1 ≤ j ∧ j < t.length ∧ at_ t (j - 1) = at_ t j)
theorem Cnt.start (t : List UInt8) : Cnt t 0 [] 0 := .inl ⟨rfl, by rw [List.take_zero]; rfl, .inl rfl⟩
theorem Cnt.rle {t : List UInt8} {j : Nat} {R : List Int} {m : Nat} (h : Cnt t j R m) (hj : j < t.length) : rle (t.take (j + 1)) = R ++ [((m + 1 : Nat) : Int)] := by
  rcases h with ⟨rfl, hR, hb⟩ | ⟨hm, hR, h1, _, hs⟩
  · by_cases h0 : j = 0
    · subst h0
      rw [rle_one t hj, ← hR, List.take_zero]
      rfl
    · have hn : at_ t (j - 1) ≠ at_ t j := by
        rcases hb with h | h | h
        · exact absurd h h0
        · omega
        · exact h
      rw [rle_step_new t j (by omega) hj hn, hR]
      rfl
  · rw [rle_step_same t j h1 hj hs, hR, incT_snoc]
    rfl
theorem Cnt.shut {t : List UInt8} {j : Nat} {R : List Int} {m : Nat} (h : Cnt t j R m) (hj : j < t.length) (he : j + 1 = t.length ∨ at_ t j ≠ at_ t (j + 1)) : Cnt t (j + 1) (R ++ [((m + 1 : Nat) : Int)]) 0 :=
  .inl ⟨rfl, h.rle hj, .inr (by rw [Nat.add_sub_cancel]; exact he)⟩
theorem Cnt.go {t : List UInt8} {j : Nat} {R : List Int} {m : Nat} (h : Cnt t j R m) (hj : j + 1 < t.length) (he : at_ t j = at_ t (j + 1)) : Cnt t (j + 1) R (m + 1) :=
  .inr ⟨by omega, h.rle (by omega), by omega, hj, by rw [Nat.add_sub_cancel]; exact he⟩
theorem Cnt.last {t : List UInt8} {R : List Int} {m : Nat} (h : Cnt t t.length R m) : R = SS.rle t := by
  rcases h with ⟨rfl, hR, _⟩ | ⟨_, _, _, h, _⟩
  · rw [List.take_length] at hR; exact hR.symm
  · omega
theorem Cnt.len {t : List UInt8} {j : Nat} {R : List Int} {m : Nat} (h : Cnt t j R m) : R.length ≤ j ∧ m ≤ j := by
  have hl := rle_take_len t j
  rcases h with ⟨rfl, hR, _⟩ | ⟨hm, hR, h1, hlt, _⟩
  · rw [hR] at hl; omega
  · have hle := rle_take_le t j (by omega) m (by rw [hR]; simp)
    rw [hR] at hl
    simp at hl
    omega
theorem prev_mod (i n : Nat) (hn : 1 ≤ n) : md ((i : Int) - 1) n = (i + n - 1) % n := by
  unfold md
  have e : ((i : Int) - 1) % (n : Int) = ((i + n - 1 : Nat) : Int) % (n : Int) := by
    rw [show ((i + n - 1 : Nat) : Int) = ((i : Int) - 1) + (n : Int) by omega, Int.add_emod_right]
  rw [e]
  omega
theorem prev_rot (l : List UInt8) (a j : Nat) (ha : a < l.length) (h1 : 1 ≤ j) (hj : j < l.length) : ((a + j) % l.length + l.length - 1) % l.length = (j - 1 + a) % l.length := by
  have hn : 0 < l.length := by omega
  have h := Nat.div_add_mod (a + j) l.length
  by_cases hc : a + j < l.length
  · rw [Nat.mod_eq_of_lt hc, show a + j + l.length - 1 = (j - 1 + a) + l.length by omega, Nat.add_mod_right]
  · rw [show a + j = (a + j - l.length) + l.length by omega, Nat.add_mod_right, Nat.mod_eq_of_lt (show a + j - l.length < l.length by omega)]
    congr 1
    omega
end SS

namespace Go.Proofs.Ytibnlaphkmnhfaa
open Go.RowKit SS
set_option maxRecDepth 100000
theorem at_val (s : ByteArray) (k : Nat) (h : k < s.size) : (at_ s.data.toList k).toNat = s[k].toNat := by rw [at_ba s k h]
theorem at_same {s : ByteArray} {i j : Nat} (hi : i < s.size) (hj : j < s.size) (h : at_ s.data.toList i = at_ s.data.toList j) : (((s[i].toNat : Nat) : Int) == ((s[j].toNat : Nat) : Int)) = true := by rw [beq_iff_eq, ← at_val s i hi, ← at_val s j hj, h]
theorem at_diff {s : ByteArray} {i j : Nat} (hi : i < s.size) (hj : j < s.size) (h : at_ s.data.toList i ≠ at_ s.data.toList j) : (((s[i].toNat : Nat) : Int) == ((s[j].toNat : Nat) : Int)) = false := by
  rw [beq_eq_false_iff_ne, ← at_val s i hi, ← at_val s j hj]
  exact fun e => h (UInt8.toNat_inj.1 (by omega))
theorem at_sameN {s : ByteArray} {i j : Nat} (hi : i < s.size) (hj : j < s.size) (h : at_ s.data.toList i = at_ s.data.toList j) : (((s[i].toNat : Nat) : Int) != ((s[j].toNat : Nat) : Int)) = false := by rw [bne_eq_false_iff_eq, ← at_val s i hi, ← at_val s j hj, h]
theorem at_diffN {s : ByteArray} {i j : Nat} (hi : i < s.size) (hj : j < s.size) (h : at_ s.data.toList i ≠ at_ s.data.toList j) : (((s[i].toNat : Nat) : Int) != ((s[j].toNat : Nat) : Int)) = true := by
  rw [bne_iff_ne, ← at_val s i hi, ← at_val s j hj]
  exact fun e => h (UInt8.toNat_inj.1 (by omega))
set_option maxHeartbeats 4000000 in
theorem runs_impl (s : ByteArray) (R : List Int) (w : World) (hs : sv s.data.toList = true) (hR : Runs s.data.toList R) :
    Calls Try.prog 36 #[.string s] w (RetI w R) := by
  obtain ⟨i0, hi, hz0, hz1, hz2⟩ := info_parts infoI
  obtain ⟨h1, h2⟩ := sv_size hs
  have C := Lib.hid fun w => seq_impl s w (by unfold maxLen; omega)
  rw [hs] at C
  have HR := Lib.hid hR
  clear hR hs
  have hnz : ((s.size : Int) == 0) = false := by rw [beq_eq_false_iff_ne]; omega
  go_enter Try.func36, Try.ntmps36
  go_wp2_with fail
  refine (C.out _).mono ?_
  rintro e w1 ⟨rfl, rfl⟩
  clear C
  go_wp2_with fail
  go_loopw [4] (fun i wr => ∃ j m : Nat, j ≤ s.size ∧ i = .int .i64 (j : Int) ∧ Hid (∀ i, i < j → at_ s.data.toList i = at_ s.data.toList ((i + s.data.toList.length - 1) % s.data.toList.length)) ∧ wr = w.drewN m) (fun i _ => s.size - (intOf i).toNat)
  case atStart => exact ⟨0, 0, Nat.zero_le _, rfl, Lib.hid fun i hi => absurd hi (by omega), rfl⟩
  case round =>
    obtain ⟨j, m, hj, rfl, HE, rfl⟩ := hrel
    by_cases hlt : j < s.size
    · have dl : decide (j < s.size) = true := decide_eq_true hlt
      have hs1 : IntKind.i64.wrap ((j : Int) + (s.size : Int)) = (j : Int) + (s.size : Int) := by rw [IntKind.wrap_i64]; omega
      have hs2 : IntKind.i64.wrap ((j : Int) + (s.size : Int) - 1) = ((j + s.size - 1 : Nat) : Int) := by rw [IntKind.wrap_i64]; omega
      have htm : (((j + s.size - 1 : Nat) : Int)).tmod (s.size : Int) = (((j + s.size - 1) % s.size : Nat) : Int) := by rw [Int.tmod_eq_emod_of_nonneg (by omega)]; simp
      have hp : (j + s.size - 1) % s.size < s.size := Nat.mod_lt _ (by omega)
      obtain ⟨p, hpe⟩ : ∃ p, (j + s.size - 1) % s.size = p := ⟨_, rfl⟩
      have HPE := Lib.hid hpe
      rw [hpe] at htm hp
      clear hpe
      skip
      have djs : decide (s.size ≤ j) = false := by simp; omega
      have dps : decide (s.size ≤ p) = false := by simp; omega
      by_cases he : at_ s.data.toList j = at_ s.data.toList p
      · have de := at_same hlt hp he
        have HE2 : Hid (∀ i, i < j + 1 → at_ s.data.toList i = at_ s.data.toList ((i + s.data.toList.length - 1) % s.data.toList.length)) := by
          intro i hi
          by_cases hij : i < j
          · exact HE.out i hij
          · obtain rfl : i = j := by omega
            rw [size_list, HPE.out]; exact he
        clear he HE HPE
        go_wp2_with fail
        go_quiet (fail)
        clear hs1 hs2 htm de
        go_wp2
        go_roundw
        case rel => exact ⟨j + 1, _, by omega, by go_num, HE2, by first | rfl | (simp only [World.drewN_drewN])⟩
        case measure => first | (simp [intOf]; done) | (simp [intOf]; omega)
      · have de := at_diff hlt hp he
        have HB : Hid (Brk s.data.toList j) := Lib.hid ⟨by rw [size_list]; exact hlt, by rw [size_list, HPE.out]; exact he, HE.out⟩
        have HRS : Hid (R = srt (rle (rot j s.data.toList))) := by
          rcases HR.out with ⟨a, ha, e⟩ | ⟨hf, _⟩
          · have haj : a = j := by
              rcases Nat.lt_trichotomy a j with h | h | h
              · exact absurd (HE.out a h) ha.yes
              · exact h
              · exact absurd (ha.first j h) HB.out.yes
            rw [e, haj]
            exact Lib.hid rfl
          · exact absurd (hf j HB.out.lt) HB.out.yes
        clear he HE HPE HR
        have dne : ((j : Int) == (s.size : Int)) = false := by rw [beq_eq_false_iff_ne]; omega
        obtain ⟨t, ht⟩ : ∃ t, t = rot j s.data.toList := ⟨_, rfl⟩
        have htl : t.length = s.size := by rw [ht, rot_length _ _ (by rw [size_list]; omega), size_list]
        have HAT : Hid (∀ i, i < s.size → at_ t i = at_ s.data.toList ((j + i) % s.size)) := by
          intro i hi
          rw [ht, at_rot _ _ (by rw [size_list]; exact hlt) _ (by rw [size_list]; exact hi), size_list, Nat.add_comm i j]
        rw [← ht] at HRS
        have HT := Lib.hid ht
        clear ht
        go_wp2_with fail
        go_quiet (fail)
        clear hs1 hs2 htm de
        skip
        have o1 := Lib.hid fun n => OwnI.lit0 (w.drewN n)
        have hw1 := Lib.hid fun n => ((below_drewN (Below.refl w.heap.size w) n).alloc (Nat.le_refl _) (.cells #[] 3))
        go_wp2_with fail
        go_loopw [5, 39] (fun u i wr => ∃ (k : Nat) (L : List Int), k ≤ s.size ∧ i = .int .i64 (k : Int) ∧ Hid (L = rle (t.take k)) ∧ OwnI wr w.heap.size u L ∧ Below w.heap.size w wr) (fun _ i _ => s.size - (intOf i).toNat)
        case atStart => exact ⟨0, [], Nat.zero_le _, rfl, Lib.hid (by rw [List.take_zero]; rfl), o1.out _, hw1.out _⟩
        case round =>
          clear o1 hw1
          obtain ⟨k, L, hk, rfl, HL, ho, hw⟩ := hrel
          have HO := Lib.hid ho
          have hz := hw.size
          have hul : L.length ≤ k := by rw [HL.out]; exact rle_take_len t k
          clear ho
          by_cases hkl : k < s.size
          · have hq : (j + k) % s.size < s.size := Nat.mod_lt _ (by omega)
            have hqp : ((j + k) % s.size + s.size - 1) % s.size < s.size := Nat.mod_lt _ (by omega)
            have HA1 := Lib.hid (HAT.out k hkl)
            have HPR : Hid (1 ≤ k → at_ t (k - 1) = at_ s.data.toList (((j + k) % s.size + s.size - 1) % s.size)) := by
              intro h1
              rw [HAT.out (k - 1) (by omega)]
              have := prev_rot s.data.toList j k (by rw [size_list]; exact hlt) h1 (by rw [size_list]; exact hkl)
              rw [size_list] at this
              rw [this, Nat.add_comm j (k - 1)]
            have HP0 : Hid (k = 0 → at_ s.data.toList ((j + k) % s.size) ≠ at_ s.data.toList (((j + k) % s.size + s.size - 1) % s.size)) := by
              intro h0
              have := HB.out.yes
              rw [size_list] at this
              rw [h0, Nat.add_zero, Nat.mod_eq_of_lt hlt]
              exact this
            have hm1 : (((j : Int) + (k : Int)) % (s.size : Int)) = (((j + k) % s.size : Nat) : Int) := by simp
            have htm : ((((j + k) % s.size + s.size - 1 : Nat)) : Int).tmod (s.size : Int) = ((((j + k) % s.size + s.size - 1) % s.size : Nat) : Int) := by rw [Int.tmod_eq_emod_of_nonneg (by omega)]; simp
            generalize hgq : (j + k) % s.size = q at *
            clear hgq
            generalize hgp : (q + s.size - 1) % s.size = p at *
            clear hgp
            have hs1 : IntKind.i64.wrap ((q : Int) + (s.size : Int)) = (q : Int) + (s.size : Int) := by rw [IntKind.wrap_i64]; omega
            have hs2 : IntKind.i64.wrap ((q : Int) + (s.size : Int) - 1) = ((q + s.size - 1 : Nat) : Int) := by rw [IntKind.wrap_i64]; omega
            have dqs : decide (s.size ≤ q) = false := by simp; omega
            have dps : decide (s.size ≤ p) = false := by simp; omega
            by_cases he : at_ s.data.toList q = at_ s.data.toList p
            · have hk1 : 1 ≤ k := by
                rcases Nat.eq_zero_or_pos k with h | h
                · exact absurd he (HP0.out h)
                · exact h
              have dn := at_sameN hq hqp he
              have hsm : at_ t (k - 1) = at_ t k := by rw [HPR.out hk1, HA1.out]; exact he.symm
              have HN := Lib.hid (rle_step_same t k hk1 (by omega) hsm)
              rw [← HL.out] at HN
              have hne : L ≠ [] := by rw [HL.out]; exact rle_take_ne t k hk1 (by omega)
              have HXB : Hid (∀ x ∈ L, 1 ≤ x ∧ x ≤ 255) := Lib.hid (by rw [HL.out]; intro x hx; have := rle_take_le t k (by omega) x hx; omega)
              clear he hsm HPR HP0 HA1 HL
              obtain ⟨g, cap, hv, hg1, hg2, hfr⟩ := HO.out.form hne
              obtain ⟨K, hK⟩ : ∃ K, (L).length = K + 1 := ⟨(L).length - 1, by have := List.length_pos_iff.2 hne; omega⟩
              obtain ⟨x, hx⟩ : ∃ x, (L)[K]? = some x := ⟨_, List.getElem?_eq_getElem (by omega)⟩
              have hcx : wr.cell? ⟨g, K, none⟩ = some (.int .i64 x) := by
                obtain ⟨g2, cap2, hv2, _, hcell⟩ := HO.out.row.form hne
                rw [hv] at hv2
                simp at hv2
                rw [hv2.1]
                exact hcell K x hx
              have hfx : wr.frozen? ⟨g, K, none⟩ = false := hfr K
              have hxb := HXB.out x (List.mem_of_getElem? hx)
              have HSET := Lib.hid (incT_set L K x hK hx)
              rw [← HN.out] at HSET
              have hK2 : K ≤ 255 := by omega
              subst hv
              rw [hK]
              have HK := Lib.hid hK
              clear hK hx HXB HN hne hul
              have HO1 : Hid (∀ n, OwnI (wr.drewN n) w.heap.size (.slice (some ⟨g, 0, none⟩) (K + 1) cap) L) := Lib.hid fun n => by rw [← HK.out]; exact HO.out.drewN n
              clear HO HK
              go_wp2_with fail
              go_quiet (fail)
              clear hs1 hs2 htm dn
              go_wp2
              go_roundw
              case rel => exact ⟨k + 1, _, by omega, by go_num, Lib.hid HSET.out, (HO1.out _).set K _, (below_drewN hw _).setCell hg1 _⟩
              case measure => first | (simp [intOf]; done) | (simp [intOf]; omega)
            · have dn := at_diffN hq hqp he
              have hN : rle (t.take (k + 1)) = L ++ [1] := by
                rw [HL.out]
                rcases Nat.eq_zero_or_pos k with h | h
                · subst h
                  rw [Nat.zero_add, rle_one t (by omega), List.take_zero]
                  rfl
                · exact rle_step_new t k h (by omega) (by rw [HPR.out h, HA1.out]; exact fun e => he e.symm)
              have HN := Lib.hid hN
              clear hN
              clear he HPR HP0 HA1 HL
              go_wp2_with fail
              go_quiet (fail)
              clear hs1 hs2 htm dn
              skip
              have HO1 := Lib.hid fun n => HO.out.drewN n
              have HW1 := Lib.hid fun n => below_drewN hw n
              clear HO
              go_wp2_with (at_builtin; refine wpList_append_own _ rfl _ _ 35 rfl w.heap.size 3 i0 (.int .i64 0) 1 8 Try.underlying35 hi hz0 hz1 hz2 rfl (by decide) _ _ _ rfl ((HO1.out _).alloc _) ⟨wr.heap.size, 0, none⟩ 1 1 [.int .i64 0] rfl rfl ?a1 ?a2 ?a3 ?a4 ?a5 ?_)
              case a1 => exact new_int _ _ _
              case a2 => exact int_one _
              case a3 => unfold maxLen; omega
              case a4 => omega
              case a5 => simp; omega
              intro v9 w9 ho9 hg9 _
              have hw9 := grownB (HW1.out _) hg9 (own_rowB (HO1.out 0))
              have HO2 := Lib.hid (OwnI.grow1 ho9)
              have hne : L ++ [0] ≠ [] := by simp
              clear ho9 hg9 HO1 HW1
              obtain ⟨g, cap, hv, hg1, hg2, hfr⟩ := HO2.out.form hne
              obtain ⟨K, hK⟩ : ∃ K, (L ++ [0]).length = K + 1 := ⟨(L ++ [0]).length - 1, by have := List.length_pos_iff.2 hne; omega⟩
              obtain ⟨x, hx⟩ : ∃ x, (L ++ [0])[K]? = some x := ⟨_, List.getElem?_eq_getElem (by omega)⟩
              have hcx : w9.cell? ⟨g, K, none⟩ = some (.int .i64 x) := by
                obtain ⟨g2, cap2, hv2, _, hcell⟩ := HO2.out.row.form hne
                rw [hv] at hv2
                simp at hv2
                rw [hv2.1]
                exact hcell K x hx
              have hfx : w9.frozen? ⟨g, K, none⟩ = false := hfr K
              have hKL : K = L.length := by have := hK; simp at this; omega
              have hx0 : x = 0 := by rw [hKL] at hx; simpa using hx.symm
              subst hx0
              have HSET : Hid ((L ++ [0]).set K (0 + 1) = rle (t.take (k + 1))) := Lib.hid (by rw [HN.out, hKL, List.set_append_right _ _ (Nat.le_refl _), Nat.sub_self]; rfl)
              have hK2 : K ≤ 255 := by omega
              subst hv
              rw [hK]
              have HK := Lib.hid hK
              clear hK hx HN hne hul hKL
              have HO1 : Hid (OwnI w9 w.heap.size (.slice (some ⟨g, 0, none⟩) (K + 1) cap) (L ++ [0])) := Lib.hid (by rw [← HK.out]; exact HO2.out)
              clear HO2 HK
              go_wp2
              go_roundw
              case rel => exact ⟨k + 1, _, by omega, by go_num, Lib.hid HSET.out, HO1.out.set K _, hw9.setCell hg1 _⟩
              case measure => first | (simp [intOf]; done) | (simp [intOf]; omega)
          · obtain rfl : k = s.size := by omega
            have hL := HL.out
            rw [← htl, List.take_length] at hL
            have HRS2 : Hid (srt L = R) := Lib.hid (by rw [hL]; exact HRS.out.symm)
            clear hL HL
            have CS := Lib.hid (sort_ints _ L wr w.heap.size HO.out (by omega))
            go_wp2_with fail
            refine (CS.out).mono ?_
            rintro e w2 ⟨rfl, o2, hb2⟩
            rw [HRS2.out] at o2
            have O2 := Lib.hid o2
            clear o2 CS
            go_wp2
            go_ret
            exact ⟨_, rfl, O2.out, hw.trans hb2⟩
    · obtain rfl : j = s.size := by omega
      have HRF : Hid (R = [(s.size : Int)]) := by
        rcases HR.out with ⟨a, ha, _⟩ | ⟨_, e⟩
        · have := ha.lt
          rw [size_list] at this
          exact absurd (HE.out a this) ha.yes
        · rw [e, size_list]
          exact Lib.hid rfl
      clear HE HR
      have dl : decide (s.size < s.size) = false := by simp
      have HBI := Lib.hid fun n => BI.lit (w.drewN n) 3 [(s.size : Int)]
      have HW := Lib.hid fun n => ((below_drewN (Below.refl w.heap.size w) n).alloc (Nat.le_refl _) (.cells #[.int .i64 (s.size : Int)] 3))
      go_wp2_with fail
      go_quiet (fail)
      go_wp2
      go_ret
      exact ⟨_, rfl, by rw [HRF.out]; exact (HBI.out _).own (Nat.le_refl _) (by unfold maxLen; simp), HW.out _⟩
theorem runs_impl_no (s : ByteArray) (w : World) (hl : s.size ≤ maxLen) (hs : sv s.data.toList = false) : Calls Try.prog 36 #[.string s] w (RetI w []) := by
  have C := Lib.hid fun w => seq_impl s w hl
  rw [hs] at C
  clear hs
  go_enter Try.func36, Try.ntmps36
  go_wp2_with fail
  refine (C.out _).mono ?_
  rintro e w1 ⟨rfl, rfl⟩
  go_wp2
  go_ret
  exact ⟨_, rfl, OwnI.nil0 _ _, Below.refl _ _⟩
theorem runs_spec_no (s : ByteArray) (w : World) (hl : s.size ≤ maxLen) (hs : sv s.data.toList = false) : Calls Try.prog 35 #[.string s] w (RetI w []) := by
  have C := Lib.hid fun w => seq_spec s w hl
  rw [hs] at C
  clear hs
  have o1 := Lib.hid (OwnI.lit0 w)
  have hw1 := Lib.hid ((Below.refl w.heap.size w).alloc (Nat.le_refl _) (.cells #[] 3))
  go_enter Try.func35, Try.ntmps35
  go_wp2_with fail
  refine (C.out _).mono ?_
  rintro e w1 ⟨rfl, rfl⟩
  go_wp2
  go_ret
  exact ⟨_, rfl, o1.out, hw1.out⟩
set_option maxHeartbeats 4000000 in
theorem runs_spec (s : ByteArray) (R : List Int) (w : World) (hs : sv s.data.toList = true) (hR : Runs s.data.toList R) :
    Calls Try.prog 35 #[.string s] w (RetI w R) := by
  obtain ⟨h1, h2⟩ := sv_size hs
  have C := Lib.hid fun w => seq_spec s w (by unfold maxLen; omega)
  rw [hs] at C
  have CM := Lib.hid fun (k : Int) w => mod_spec k s.size w h1 h2
  have HR := Lib.hid hR
  clear hR hs
  have o1 := Lib.hid (OwnI.lit0 w)
  have hw1 := Lib.hid ((Below.refl w.heap.size w).alloc (Nat.le_refl _) (.cells #[] 3))
  go_enter Try.func35, Try.ntmps35
  go_wp2_with fail
  refine (C.out _).mono ?_
  rintro e w1 ⟨rfl, rfl⟩
  clear C
  generalize hwA : w.alloc (.cells #[] 3) = wA at o1 hw1 ⊢
  clear hwA
  go_wp2_with fail
  go_loopw [4, 5] (fun f i wr => ∃ (j m : Nat) (a : Int), j ≤ s.size ∧ i = .int .i64 (j : Int) ∧ f = .int .i64 a ∧ Hid ((a = -1 ∧ ∀ i, i < j → at_ s.data.toList i = at_ s.data.toList ((i + s.data.toList.length - 1) % s.data.toList.length)) ∨ (∃ b : Nat, a = (b : Int) ∧ Brk s.data.toList b)) ∧ -1 ≤ a ∧ wr = wA.drewN m) (fun _ i _ => s.size - (intOf i).toNat)
  case atStart => exact ⟨0, 0, -1, Nat.zero_le _, rfl, rfl, Lib.hid (.inl ⟨rfl, fun i hi => absurd hi (by omega)⟩), by omega, rfl⟩
  case round =>
    obtain ⟨j, m, a, hj, rfl, rfl, HA, ha, rfl⟩ := hrel
    by_cases hc : j < s.size ∧ a < 0
    · obtain ⟨hlt, ha0⟩ := hc
      have HE : Hid (∀ i, i < j → at_ s.data.toList i = at_ s.data.toList ((i + s.data.toList.length - 1) % s.data.toList.length)) := by
        rcases HA.out with ⟨_, h⟩ | ⟨b, hb, _⟩
        · exact h
        · omega
      clear HA
      have dl : decide (j < s.size) = true := decide_eq_true hlt
      have dl2 : decide ((j : Int) < (s.size : Int)) = true := by simp; omega
      have da : decide (a < 0) = true := decide_eq_true ha0
      have C1 := Lib.hid fun w => CM.out ((j : Int) - 1) w
      rw [prev_mod j s.size h1] at C1
      have hp : (j + s.size - 1) % s.size < s.size := Nat.mod_lt _ (by omega)
      obtain ⟨p, hpe⟩ : ∃ p, (j + s.size - 1) % s.size = p := ⟨_, rfl⟩
      have HPE := Lib.hid hpe
      rw [hpe] at C1 hp
      clear hpe
      have hs2 : IntKind.i64.wrap ((j : Int) - 1) = (j : Int) - 1 := by rw [IntKind.wrap_i64]; omega
      have djs : decide (s.size ≤ j) = false := by simp; omega
      have dps : decide (s.size ≤ p) = false := by simp; omega
      by_cases he : at_ s.data.toList j = at_ s.data.toList p
      · have de := at_sameN hlt hp he
        have HE2 : Hid ((a = -1 ∧ ∀ i, i < j + 1 → at_ s.data.toList i = at_ s.data.toList ((i + s.data.toList.length - 1) % s.data.toList.length)) ∨ (∃ b : Nat, a = (b : Int) ∧ Brk s.data.toList b)) := by
          refine .inl ⟨by omega, fun i hi => ?_⟩
          by_cases hij : i < j
          · exact HE.out i hij
          · obtain rfl : i = j := by omega
            rw [size_list, HPE.out]; exact he
        clear he HE HPE
        go_wp2_with fail
        go_quiet ((go_at_call 75; first | exact quiet_eq (C1.out _) | exact quiet_eqN (C1.out _)))
        clear hs2 de
        go_wp2
        go_roundw
        case rel => exact ⟨j + 1, _, a, by omega, by go_num, rfl, HE2, ha, by first | rfl | (simp only [World.drewN_drewN])⟩
        case measure => first | (simp [intOf]; done) | (simp [intOf]; omega)
      · have de := at_diffN hlt hp he
        have HE2 : Hid ((((j : Nat) : Int) = -1 ∧ ∀ i, i < j + 1 → at_ s.data.toList i = at_ s.data.toList ((i + s.data.toList.length - 1) % s.data.toList.length)) ∨ (∃ b : Nat, ((j : Nat) : Int) = (b : Int) ∧ Brk s.data.toList b)) := by
          exact .inr ⟨j, rfl, by rw [size_list]; exact hlt, by rw [size_list, HPE.out]; exact he, HE.out⟩
        clear he HE HPE
        go_wp2_with fail
        go_quiet ((go_at_call 75; first | exact quiet_eq (C1.out _) | exact quiet_eqN (C1.out _)))
        clear hs2 de
        go_wp2
        go_roundw
        case rel => exact ⟨j + 1, _, (j : Int), by omega, by go_num, rfl, HE2, by omega, by first | rfl | (simp only [World.drewN_drewN])⟩
        case measure => first | (simp [intOf]; done) | (simp [intOf]; omega)
    · by_cases ha0 : a < 0
      · have hjs : j = s.size := by omega
        subst hjs
        have HRF : Hid (R = [(s.size : Int)]) := by
          rcases HA.out with ⟨_, hE⟩ | ⟨b, hb, _⟩
          · rcases HR.out with ⟨a, ha, _⟩ | ⟨_, e⟩
            · have := ha.lt
              rw [size_list] at this
              exact absurd (hE a this) ha.yes
            · rw [e, size_list]
              exact Lib.hid rfl
          · omega
        clear HA HR hc
        have dl : decide (s.size < s.size) = false := by simp
        have da : decide (a < 0) = true := decide_eq_true ha0
        skip
        have HBI := Lib.hid (BI.lit (wA.drewN m) 3 [(s.size : Int)])
        have hwz := hw1.out.size
        have HW := Lib.hid ((below_drewN hw1.out m).alloc hwz (.cells #[.int .i64 (s.size : Int)] 3))
        go_wp2
        go_ret
        exact ⟨_, rfl, by rw [HRF.out]; exact HBI.out.own hwz (by unfold maxLen; simp), HW.out⟩
      · obtain ⟨b, hb⟩ := Int.eq_ofNat_of_zero_le (show 0 ≤ a by omega)
        subst hb
        have HB : Hid (Brk s.data.toList b) := by
          rcases HA.out with ⟨h, _⟩ | ⟨b2, hb2, h⟩
          · omega
          · have : b = b2 := by omega
            rw [this]; exact h
        have HRS : Hid (R = srt (rle (rot b s.data.toList))) := by
          rcases HR.out with ⟨a, ha, e⟩ | ⟨hf, _⟩
          · have haj : a = b := by
              rcases Nat.lt_trichotomy a b with h | h | h
              · exact absurd (HB.out.first a h) ha.yes
              · exact h
              · exact absurd (ha.first b h) HB.out.yes
            rw [e, haj]
            exact Lib.hid rfl
          · exact absurd (hf b HB.out.lt) HB.out.yes
        have hbl : b < s.size := by have := HB.out.lt; rwa [size_list] at this
        clear HA HR hc HB
        have da : decide ((b : Int) < 0) = false := by simp
        have CS := Lib.hid fun w => shift_nat s b w h1 h2 (by omega)
        obtain ⟨t, ht⟩ : ∃ t, t = rotS b s := ⟨_, rfl⟩
        have htz : t.size = s.size := by rw [ht]; exact rotS_size b s (by omega)
        have hTR : t.data.toList = rot b s.data.toList := by rw [ht]; rfl
        rw [← ht] at CS
        rw [← hTR] at HRS
        clear ht hTR
        skip
        have HTZ := Lib.hid htz
        have htl : t.data.toList.length = s.size := by rw [size_list, htz]
        have HTL := Lib.hid htl
        clear htl
        by_cases hjl : j < s.size
        · skip
          have dj : decide (j < s.size) = true := by simp; omega
          have dj2 : decide ((j : Int) < (s.size : Int)) = true := by simp; omega
          clear hjl hj
          go_wp2_with fail
          refine (CS.out _).mono ?_
          rintro e w3 ⟨rfl, n3, rfl⟩
          have HO1 : Hid (∀ n, OwnI (wA.drewN n) w.heap.size (.slice (some ⟨w.heap.size, 0, none⟩) 0 0) []) := Lib.hid fun n => o1.out.drewN n
          have HW1 : Hid (∀ n, Below w.heap.size w (wA.drewN n)) := Lib.hid fun n => below_drewN hw1.out n
          go_wp2_with fail
          go_loopw [3, 7, 8] (fun u c i wr => ∃ (k q : Nat) (L : List Int), k ≤ s.size ∧ i = .int .i64 (k : Int) ∧ c = .int .i64 (q : Int) ∧ Cnt t.data.toList k L q ∧ OwnI wr w.heap.size u (insAll L) ∧ Below w.heap.size w wr) (fun _ _ i _ => s.size - (intOf i).toNat)
          case atStart => exact ⟨0, 0, [], Nat.zero_le _, rfl, rfl, Cnt.start _, by first | exact HO1.out _ | (simp only [World.drewN_drewN]; exact HO1.out _), by first | exact HW1.out _ | (simp only [World.drewN_drewN]; exact HW1.out _)⟩
          case round =>
            clear HO1 HW1 o1 hw1 dj dj2
            obtain ⟨k, q, L, hk, rfl, rfl, hcn, ho, hw⟩ := hrel
            have HO := Lib.hid ho
            have HCN := Lib.hid hcn
            have hln := hcn.len
            have hz := hw.size
            have hil := insAll_length L
            clear ho hcn
            by_cases hkl : k < s.size
            · have hkt : k < t.data.toList.length := by rw [HTL.out]; exact hkl
              have dkt : decide (k < s.size) = true := by simp; omega
              have hq1 : IntKind.i64.wrap ((q : Int) + 1) = ((q + 1 : Nat) : Int) := by rw [IntKind.wrap_i64]; omega
              have hn1 : IntKind.i64.wrap ((s.size : Int) - 1) = ((s.size - 1 : Nat) : Int) := by rw [IntKind.wrap_i64]; omega
              have hk1 : IntKind.i64.wrap ((k : Int) + 1) = (k : Int) + 1 := by rw [IntKind.wrap_i64]; omega
              have hk1a : (0 : Int) ≤ (k : Int) + 1 := by omega
              have hk1b : ((k : Int) + 1).toNat = k + 1 := by omega
              by_cases hend : k + 1 = s.size ∨ at_ t.data.toList k ≠ at_ t.data.toList (k + 1)
              · have HC2 := Lib.hid (HCN.out.shut hkt (by rw [HTL.out]; exact hend))
                have hqc : ((q + 1 : Nat) : Int) = (q : Int) + 1 := by omega
                have HIS := Lib.hid (insAll_snoc L ((q + 1 : Nat) : Int))
                rw [hqc] at HIS HC2
                clear hqc
                have hil2 : (insAll L).length ≤ 1000 := by omega
                by_cases hke : k + 1 = s.size
                · skip
                  have d1 : ((k : Int) == ((s.size - 1 : Nat) : Int)) = true := by rw [beq_iff_eq]; omega
                  clear hend hke
                  go_wp2_with fail
                  go_quiet (fail)
                  clear hn1 hk1 d1
                  have CI := Lib.hid fun n => insert_spec _ (insAll L) ((q : Int) + 1) (wr.drewN n) (HO.out.drewN n).row hil2
                  have HW2 := Lib.hid fun n => below_drewN hw n
                  go_wp2_with fail
                  refine ((CI.out _)).mono ?_
                  rintro e w5 ⟨v5, rfl, o5, hb5⟩
                  rw [← HIS.out] at o5
                  have HO5 := Lib.hid (o5.wider hz)
                  have hw5 := afterB (HW2.out _) hb5 (HW2.out _).size
                  clear o5 hb5 CI HW2 HO hw
                  go_wp2
                  go_roundw
                  case rel => exact ⟨k + 1, 0, _, by omega, by go_num, rfl, HC2.out, HO5.out, hw5⟩
                  case measure => first | (simp [intOf]; done) | (simp [intOf]; omega)
                · skip
                  have d1 : ((k : Int) == ((s.size - 1 : Nat) : Int)) = false := by rw [beq_eq_false_iff_ne]; omega
                  have he : at_ t.data.toList (k + 1) ≠ at_ t.data.toList k := fun e => (hend.resolve_left hke) e.symm
                  have hk3 : k + 1 < t.size := by omega
                  have hk4 : k < t.size := by omega
                  have dn := at_diffN hk3 hk4 he
                  have dks : decide (s.size ≤ k) = false := by simp; omega
                  have dks1 : decide (s.size ≤ k + 1) = false := by simp; omega
                  have dks2 : (k : Int) + 1 < (s.size : Int) := by omega
                  clear hend hke he
                  go_wp2_with fail
                  go_quiet (fail)
                  clear hn1 hk1 d1
                  have CI := Lib.hid fun n => insert_spec _ (insAll L) ((q : Int) + 1) (wr.drewN n) (HO.out.drewN n).row hil2
                  have HW2 := Lib.hid fun n => below_drewN hw n
                  go_wp2_with fail
                  refine ((CI.out _)).mono ?_
                  rintro e w5 ⟨v5, rfl, o5, hb5⟩
                  rw [← HIS.out] at o5
                  have HO5 := Lib.hid (o5.wider hz)
                  have hw5 := afterB (HW2.out _) hb5 (HW2.out _).size
                  clear o5 hb5 CI HW2 HO hw
                  go_wp2
                  go_roundw
                  case rel => exact ⟨k + 1, 0, _, by omega, by go_num, rfl, HC2.out, HO5.out, hw5⟩
                  case measure => first | (simp [intOf]; done) | (simp [intOf]; omega)
              · have hk2 : k + 1 < s.size := by
                  rcases Nat.lt_or_ge (k + 1) s.size with h | h
                  · exact h
                  · exact absurd (.inl (by omega)) hend
                have he : at_ t.data.toList k = at_ t.data.toList (k + 1) := Classical.byContradiction fun h => hend (.inr h)
                have HC2 := Lib.hid (HCN.out.go (by rw [HTL.out]; exact hk2) he)
                have d1 : ((k : Int) == ((s.size - 1 : Nat) : Int)) = false := by rw [beq_eq_false_iff_ne]; omega
                have hk3 : k + 1 < t.size := by omega
                have hk4 : k < t.size := by omega
                have dn := at_sameN hk3 hk4 he.symm
                have dks : decide (s.size ≤ k) = false := by simp; omega
                have dks1 : decide (s.size ≤ k + 1) = false := by simp; omega
                have dks2 : (k : Int) + 1 < (s.size : Int) := by omega
                clear hend he
                go_wp2_with fail
                go_quiet (fail)
                clear hn1 hk1 d1 dn
                go_wp2
                go_roundw
                case rel => exact ⟨k + 1, q + 1, L, by omega, by go_num, by first | rfl | go_num, HC2.out, HO.out.drewN _, below_drewN hw _⟩
                case measure => first | (simp [intOf]; done) | (simp [intOf]; omega)
            · have hkE : k = s.size := by omega
              subst hkE
              have dkt : decide (s.size < s.size) = false := by simp
              have hcn := HCN.out
              rw [← HTL.out] at hcn
              have hRL : insAll L = R := by rw [insAll_srt, hcn.last]; exact HRS.out.symm
              have HO2 := Lib.hid (hRL ▸ HO.out)
              clear hcn hRL
              go_wp2
              go_ret
              exact ⟨_, rfl, HO2.out, hw⟩
        · skip
          have dj : decide (j < s.size) = false := by simp; omega
          have dj2 : decide ((j : Int) < (s.size : Int)) = false := by simp; omega
          clear hjl hj
          go_wp2_with fail
          refine (CS.out _).mono ?_
          rintro e w3 ⟨rfl, n3, rfl⟩
          have HO1 : Hid (∀ n, OwnI (wA.drewN n) w.heap.size (.slice (some ⟨w.heap.size, 0, none⟩) 0 0) []) := Lib.hid fun n => o1.out.drewN n
          have HW1 : Hid (∀ n, Below w.heap.size w (wA.drewN n)) := Lib.hid fun n => below_drewN hw1.out n
          go_wp2_with fail
          go_loopw [3, 7, 8] (fun u c i wr => ∃ (k q : Nat) (L : List Int), k ≤ s.size ∧ i = .int .i64 (k : Int) ∧ c = .int .i64 (q : Int) ∧ Cnt t.data.toList k L q ∧ OwnI wr w.heap.size u (insAll L) ∧ Below w.heap.size w wr) (fun _ _ i _ => s.size - (intOf i).toNat)
          case atStart => exact ⟨0, 0, [], Nat.zero_le _, rfl, rfl, Cnt.start _, by first | exact HO1.out _ | (simp only [World.drewN_drewN]; exact HO1.out _), by first | exact HW1.out _ | (simp only [World.drewN_drewN]; exact HW1.out _)⟩
          case round =>
            clear HO1 HW1 o1 hw1 dj dj2
            obtain ⟨k, q, L, hk, rfl, rfl, hcn, ho, hw⟩ := hrel
            have HO := Lib.hid ho
            have HCN := Lib.hid hcn
            have hln := hcn.len
            have hz := hw.size
            have hil := insAll_length L
            clear ho hcn
            by_cases hkl : k < s.size
            · have hkt : k < t.data.toList.length := by rw [HTL.out]; exact hkl
              have dkt : decide (k < s.size) = true := by simp; omega
              have hq1 : IntKind.i64.wrap ((q : Int) + 1) = ((q + 1 : Nat) : Int) := by rw [IntKind.wrap_i64]; omega
              have hn1 : IntKind.i64.wrap ((s.size : Int) - 1) = ((s.size - 1 : Nat) : Int) := by rw [IntKind.wrap_i64]; omega
              have hk1 : IntKind.i64.wrap ((k : Int) + 1) = (k : Int) + 1 := by rw [IntKind.wrap_i64]; omega
              have hk1a : (0 : Int) ≤ (k : Int) + 1 := by omega
              have hk1b : ((k : Int) + 1).toNat = k + 1 := by omega
              by_cases hend : k + 1 = s.size ∨ at_ t.data.toList k ≠ at_ t.data.toList (k + 1)
              · have HC2 := Lib.hid (HCN.out.shut hkt (by rw [HTL.out]; exact hend))
                have hqc : ((q + 1 : Nat) : Int) = (q : Int) + 1 := by omega
                have HIS := Lib.hid (insAll_snoc L ((q + 1 : Nat) : Int))
                rw [hqc] at HIS HC2
                clear hqc
                have hil2 : (insAll L).length ≤ 1000 := by omega
                by_cases hke : k + 1 = s.size
                · skip
                  have d1 : ((k : Int) == ((s.size - 1 : Nat) : Int)) = true := by rw [beq_iff_eq]; omega
                  clear hend hke
                  go_wp2_with fail
                  go_quiet (fail)
                  clear hn1 hk1 d1
                  have CI := Lib.hid fun n => insert_spec _ (insAll L) ((q : Int) + 1) (wr.drewN n) (HO.out.drewN n).row hil2
                  have HW2 := Lib.hid fun n => below_drewN hw n
                  go_wp2_with fail
                  refine ((CI.out _)).mono ?_
                  rintro e w5 ⟨v5, rfl, o5, hb5⟩
                  rw [← HIS.out] at o5
                  have HO5 := Lib.hid (o5.wider hz)
                  have hw5 := afterB (HW2.out _) hb5 (HW2.out _).size
                  clear o5 hb5 CI HW2 HO hw
                  go_wp2
                  go_roundw
                  case rel => exact ⟨k + 1, 0, _, by omega, by go_num, rfl, HC2.out, HO5.out, hw5⟩
                  case measure => first | (simp [intOf]; done) | (simp [intOf]; omega)
                · skip
                  have d1 : ((k : Int) == ((s.size - 1 : Nat) : Int)) = false := by rw [beq_eq_false_iff_ne]; omega
                  have he : at_ t.data.toList (k + 1) ≠ at_ t.data.toList k := fun e => (hend.resolve_left hke) e.symm
                  have hk3 : k + 1 < t.size := by omega
                  have hk4 : k < t.size := by omega
                  have dn := at_diffN hk3 hk4 he
                  have dks : decide (s.size ≤ k) = false := by simp; omega
                  have dks1 : decide (s.size ≤ k + 1) = false := by simp; omega
                  have dks2 : (k : Int) + 1 < (s.size : Int) := by omega
                  clear hend hke he
                  go_wp2_with fail
                  go_quiet (fail)
                  clear hn1 hk1 d1
                  have CI := Lib.hid fun n => insert_spec _ (insAll L) ((q : Int) + 1) (wr.drewN n) (HO.out.drewN n).row hil2
                  have HW2 := Lib.hid fun n => below_drewN hw n
                  go_wp2_with fail
                  refine ((CI.out _)).mono ?_
                  rintro e w5 ⟨v5, rfl, o5, hb5⟩
                  rw [← HIS.out] at o5
                  have HO5 := Lib.hid (o5.wider hz)
                  have hw5 := afterB (HW2.out _) hb5 (HW2.out _).size
                  clear o5 hb5 CI HW2 HO hw
                  go_wp2
                  go_roundw
                  case rel => exact ⟨k + 1, 0, _, by omega, by go_num, rfl, HC2.out, HO5.out, hw5⟩
                  case measure => first | (simp [intOf]; done) | (simp [intOf]; omega)
              · have hk2 : k + 1 < s.size := by
                  rcases Nat.lt_or_ge (k + 1) s.size with h | h
                  · exact h
                  · exact absurd (.inl (by omega)) hend
                have he : at_ t.data.toList k = at_ t.data.toList (k + 1) := Classical.byContradiction fun h => hend (.inr h)
                have HC2 := Lib.hid (HCN.out.go (by rw [HTL.out]; exact hk2) he)
                have d1 : ((k : Int) == ((s.size - 1 : Nat) : Int)) = false := by rw [beq_eq_false_iff_ne]; omega
                have hk3 : k + 1 < t.size := by omega
                have hk4 : k < t.size := by omega
                have dn := at_sameN hk3 hk4 he.symm
                have dks : decide (s.size ≤ k) = false := by simp; omega
                have dks1 : decide (s.size ≤ k + 1) = false := by simp; omega
                have dks2 : (k : Int) + 1 < (s.size : Int) := by omega
                clear hend he
                go_wp2_with fail
                go_quiet (fail)
                clear hn1 hk1 d1 dn
                go_wp2
                go_roundw
                case rel => exact ⟨k + 1, q + 1, L, by omega, by go_num, by first | rfl | go_num, HC2.out, HO.out.drewN _, below_drewN hw _⟩
                case measure => first | (simp [intOf]; done) | (simp [intOf]; omega)
            · have hkE : k = s.size := by omega
              subst hkE
              have dkt : decide (s.size < s.size) = false := by simp
              have hcn := HCN.out
              rw [← HTL.out] at hcn
              have hRL : insAll L = R := by rw [insAll_srt, hcn.last]; exact HRS.out.symm
              have HO2 := Lib.hid (hRL ▸ HO.out)
              clear hcn hRL
              go_wp2
              go_ret
              exact ⟨_, rfl, HO2.out, hw⟩
end Go.Proofs.Ytibnlaphkmnhfaa

namespace Go.Proofs.Ytibnlaphkmnhfaa
open Go.RowKit SS
set_option maxRecDepth 100000
theorem box3 {w w2 : World} {a b c : Value} {T : TypeId} (hb : Below (w.alloc (.cells #[a, b, c] T)).heap.size (w.alloc (.cells #[a, b, c] T)) w2) :
    w2.cell? ⟨w.heap.size, 0, none⟩ = some a ∧ w2.cell? ⟨w.heap.size, 1, none⟩ = some b ∧ w2.cell? ⟨w.heap.size, 2, none⟩ = some c ∧ w.heap.size < w2.heap.size := by
  have hs := hb.size
  simp at hs
  refine ⟨(hb.cell (by simp)).trans ?_, (hb.cell (by simp)).trans ?_, (hb.cell (by simp)).trans ?_, by omega⟩ <;> simp
end Go.Proofs.Ytibnlaphkmnhfaa

namespace Go.Proofs.Ytibnlaphkmnhfaa
open Go.RowKit SS
theorem runs_some (l : List UInt8) : ∃ R, Runs l R := by
  rcases brk_or l with ⟨a, h⟩ | h
  · exact ⟨_, .inl ⟨a, h, rfl⟩⟩
  · exact ⟨_, .inr ⟨h, rfl⟩⟩
theorem runs_len {l : List UInt8} {R : List Int} (h : Runs l R) : R.length ≤ l.length + 1 := by
  rcases h with ⟨a, ha, rfl⟩ | ⟨_, rfl⟩
  · rw [srt_length]
    have := rle_len (rot a l)
    have := rot_length a l (Nat.le_of_lt ha.lt)
    omega
  · simp
set_option maxHeartbeats 1000000 in
theorem walk_FnExactRunLengths_of (a0 : ByteArray) (l : List Int) (w : World) (hl : l.length ≤ 100000)
    (C1 : Hid (a0.size ≤ 1048576 → ∀ w, Calls Try.prog 35 #[.string a0] w (RetI w l)))
    (C2 : Hid (a0.size ≤ 1048576 → ∀ w, Calls Try.prog 36 #[.string a0] w (RetI w l))) :
    Calls Try.prog 8 #[.string a0] w fun e w' => e = .returned (.bool true) ∧ Below w.heap.size w w' := by
  by_cases ha0 : a0.size ≤ 1048576
  · have da0 : decide ((1048576 : Int) < (a0.size : Int)) = false := by simp; omega
    have D1 := Lib.hid (C1.out ha0)
    have D2 := Lib.hid (C2.out ha0)
    clear C1 C2
    go_enter Try.func8, Try.ntmps8
    go_wp2_with fail
    refine (D1.out _).mono ?_
    rintro e w1 ⟨v0, rfl, o0, h1⟩
    have r0 := Lib.hid o0.row
    clear o0
    go_wp2_with fail
    refine (D2.out _).mono ?_
    rintro e w2 ⟨v1, rfl, o1, h2⟩
    have r0 := Lib.hid (r0.out.below h2)
    have hz2 := h2.size
    have O1 := Lib.hid o1
    clear o1
    go_wp2_with fail
    refine (eqInts v1 v0 l _ w2.heap.size O1.out.row (r0.out.mono hz2) hl).mono ?_
    rintro e w3 ⟨rfl, n3, rfl⟩
    go_wp2_with fail
    refine (markInts v1 l _ _ 1 (O1.out.drewN _) hl (by omega)).mono ?_
    rintro e w4 ⟨rfl, o1, h4⟩
    have r0 := Lib.hid ((r0.out.drewN n3).below h4)
    have hz4 := h4.size
    have h24 : Below w1.heap.size w1 w4 := (below_drewN h2 n3).trans h4
    have O1 := Lib.hid o1
    clear o1 h2 h4
    go_wp2_with fail
    refine (heldInts v1 l.length _ w4.heap.size 1 O1.out.row hl (by omega)).mono ?_
    rintro e w5 ⟨rfl, rfl⟩
    go_wp2_with fail
    refine (D2.out _).mono ?_
    rintro e w5 ⟨v2, rfl, o2, h5⟩
    have hz5 := h5.size
    have R1 := Lib.hid (O1.out.row.below h5)
    have r0 := Lib.hid ((r0.out.mono (by have := h24.size; omega : w1.heap.size ≤ w4.heap.size)).below h5)
    have O2 := Lib.hid o2
    clear o2
    go_wp2_with fail
    refine (eqInts v2 v0 l _ w5.heap.size O2.out.row (r0.out.mono hz5) hl).mono ?_
    rintro e w6 ⟨rfl, n6, rfl⟩
    go_wp2_with fail
    refine (heldInts v1 l.length _ w4.heap.size 1 (R1.out.drewN _) hl (by omega)).mono ?_
    rintro e w7 ⟨rfl, rfl⟩
    go_wp2
    go_ret
    exact ⟨rfl, below_drewN (next (next h1 h24 (Nat.le_refl _)) h5 (Nat.le_refl _)) n6⟩
  · have da0 : decide ((1048576 : Int) < (a0.size : Int)) = true := by simp; omega
    go_enter Try.func8, Try.ntmps8
    go_wp2
    go_ret
    exact ⟨rfl, Below.refl _ _⟩
theorem walk_FnExactRunLengths (s : ByteArray) (w : World) (hs : s.size ≤ maxLen) :
    Calls Try.prog 8 #[.string s] w fun e w' => e = .returned (.bool true) ∧ Below w.heap.size w w' := by
  cases hv : sv s.data.toList with
  | false => exact walk_FnExactRunLengths_of s [] w (by simp) (Lib.hid fun _ w => runs_spec_no s w hs hv) (Lib.hid fun _ w => runs_impl_no s w hs hv)
  | true =>
    obtain ⟨h1, h2⟩ := sv_size hv
    obtain ⟨R, hR⟩ := runs_some s.data.toList
    have hl := runs_len hR
    rw [size_list] at hl
    exact walk_FnExactRunLengths_of s R w (by omega) (Lib.hid fun _ w => runs_spec s R w hv hR) (Lib.hid fun _ w => runs_impl s R w hv hR)
end Go.Proofs.Ytibnlaphkmnhfaa

namespace SS
theorem it_bk_nx {s t : Nat} (ho : t % 2 = 1) (n x : Nat) (hv : VR s t x) : it (bk s t) n (it (nx s t) n x) = x := by
  induction n generalizing x with
  | zero => rfl
  | succ n ih =>
    rw [it_succ (bk s t), it, ih _ hv.nx]
    exact bk_nx s t x (by have := hv.1; omega) (by have := hv.2.1; omega) hv.2.2.2.2 ho
theorem it_nx_bk {s t : Nat} (ho : t % 2 = 1) (n x : Nat) (hv : VR s t x) : it (nx s t) n (it (bk s t) n x) = x := by
  induction n generalizing x with
  | zero => rfl
  | succ n ih =>
    rw [it_succ (nx s t), it, ih _ hv.bk]
    exact nx_bk s t x (by have := hv.1; omega) (by have := hv.2.1; omega) hv.2.2.2.2 ho
theorem jp_pos (s t K x : Nat) : jp s t (K : Int) x = it (nx s t) K x := by simp [jp]
theorem jp_neg (s t K x : Nat) (h : 1 ≤ K) : jp s t (-(K : Int)) x = it (bk s t) K x := by
  unfold jp
  rw [if_neg (by omega), show (- -(K : Int)).toNat = K by omega]
/-- steps behind a jump are one jump -/
theorem jp_it (s t x m : Nat) (k : Int) (hv : VR s t x) (h : 0 ≤ k ∨ t % 2 = 1) : it (nx s t) m (jp s t k x) = jp s t (k + m) x := by
  by_cases h0 : 0 ≤ k
  · obtain ⟨K, rfl⟩ := Int.eq_ofNat_of_zero_le h0
    rw [jp_pos, show (K : Int) + (m : Int) = ((K + m : Nat) : Int) by omega, jp_pos, it_add]
  · have ho : t % 2 = 1 := by omega
    obtain ⟨K, hK⟩ := Int.eq_ofNat_of_zero_le (show 0 ≤ -k by omega)
    obtain rfl : k = -(K : Int) := by omega
    rw [jp_neg s t K x (by omega)]
    by_cases hm : K ≤ m
    · rw [show -(K : Int) + (m : Int) = ((m - K : Nat) : Int) by omega, jp_pos]
      conv => lhs; rw [show m = K + (m - K) by omega, it_add]
      rw [it_nx_bk ho K x hv]
    · rw [show -(K : Int) + (m : Int) = -((K - m : Nat) : Int) by omega, jp_neg _ _ _ _ (by omega)]
      conv => lhs; rw [show K = (K - m) + m by omega, it_add]
      exact it_nx_bk ho m _ (hv.itbk _)
theorem jp_back (s t x : Nat) (k : Int) (hv : VR s t x) (h : k = 0 ∨ t % 2 = 1) : jp s t (-k) (jp s t k x) = x := by
  rcases Int.lt_trichotomy k 0 with hk | hk | hk
  · have ho : t % 2 = 1 := by omega
    obtain ⟨K, hK⟩ := Int.eq_ofNat_of_zero_le (show 0 ≤ -k by omega)
    obtain rfl : k = -(K : Int) := by omega
    rw [jp_neg s t K x (by omega), Int.neg_neg, jp_pos]
    exact it_nx_bk ho K x hv
  · subst hk
    rfl
  · have ho : t % 2 = 1 := by omega
    obtain ⟨K, rfl⟩ := Int.eq_ofNat_of_zero_le (show 0 ≤ k by omega)
    rw [jp_pos, jp_neg s t K _ (by omega)]
    exact it_bk_nx ho K x hv
end SS

namespace SS
theorem par_mul_pow (m i : Nat) (h : m * 2 ^ i < 2 ^ 64) : par (m * 2 ^ i) = par m := by
  induction i with
  | zero => simp
  | succ i ih =>
    rw [Nat.pow_succ, ← Nat.mul_assoc] at h ⊢
    rw [par_step _ h, show m * 2 ^ i * 2 % 2 = 0 by omega, show m * 2 ^ i * 2 / 2 = m * 2 ^ i by omega, ih (by omega)]
    have := par_lt m
    omega
theorem and_mul_pow (x u i : Nat) : x &&& (u * 2 ^ i) = (x / 2 ^ i &&& u) * 2 ^ i := by
  apply Nat.eq_of_testBit_eq
  intro j
  rw [Nat.testBit_and, Nat.testBit_mul_two_pow, Nat.testBit_mul_two_pow, Nat.testBit_and, Nat.testBit_div_two_pow]
  by_cases h : i ≤ j
  · simp [h]
  · simp [h]
/-- the upper cells are a register of their own if no lower cell has a tap -/
theorem nx_up (s u i x : Nat) (hi : i < s) (hs : s ≤ 8) (hx : x < 2 ^ s) : nx s (u * 2 ^ i) x / 2 ^ i = nx (s - i) u (x / 2 ^ i) := by
  have hx8 : x < 2 ^ 8 := Nat.lt_of_lt_of_le hx (Nat.pow_le_pow_right (by decide) hs)
  unfold nx
  have e : 2 ^ (s - 1) = 2 ^ (s - i - 1) * 2 ^ i := by rw [← Nat.pow_add]; congr 1; omega
  have hp : par (x &&& (u * 2 ^ i)) = par (x / 2 ^ i &&& u) := by
    have hl : x &&& (u * 2 ^ i) < 2 ^ 64 := Nat.lt_of_le_of_lt Nat.and_le_left (by omega)
    rw [and_mul_pow] at hl ⊢
    exact par_mul_pow _ _ hl
  rw [hp]
  generalize par (x / 2 ^ i &&& u) = q
  have e1 : (x / 2 + q * 2 ^ (s - 1)) / 2 ^ i = x / 2 / 2 ^ i + q * 2 ^ (s - i - 1) := by
    rw [e, ← Nat.mul_assoc]
    exact Nat.add_mul_div_right _ _ (Nat.two_pow_pos _)
  have e2 : x / 2 / 2 ^ i = x / 2 ^ i / 2 := by rw [Nat.div_div_eq_div_mul, Nat.div_div_eq_div_mul, Nat.mul_comm]
  rw [e1, e2]
theorem it_up (s u i n x : Nat) (hi : i < s) (hs : s ≤ 8) (hx : x < 2 ^ s) : it (nx s (u * 2 ^ i)) n x / 2 ^ i = it (nx (s - i) u) n (x / 2 ^ i) := by
  induction n generalizing x with
  | zero => rfl
  | succ n ih =>
    show it (nx s (u * 2 ^ i)) n (nx s (u * 2 ^ i) x) / 2 ^ i = it (nx (s - i) u) n (nx (s - i) u (x / 2 ^ i))
    rw [ih _ (nx_lt _ _ _ (by omega) hx), nx_up s u i x hi hs hx]
theorem it_small (s u i k d : Nat) (hk : k ≤ i) (hd : d < 2 ^ i) : it (nx s (u * 2 ^ i)) k d = d / 2 ^ k := by
  induction k generalizing d with
  | zero => simp [it]
  | succ k ih =>
    show it (nx s (u * 2 ^ i)) k (nx s (u * 2 ^ i) d) = _
    have e : nx s (u * 2 ^ i) d = d / 2 := by
      unfold nx
      rw [and_mul_pow, Nat.div_eq_of_lt hd, Nat.zero_and, Nat.zero_mul, par_zero, Nat.zero_mul, Nat.add_zero]
    rw [e, ih (d / 2) (by omega) (by omega), Nat.div_div_eq_div_mul, Nat.pow_succ, Nat.mul_comm]
/-- as many steps as lower cells without taps forget these cells -/
theorem it_forget (s u i a b : Nat) (h1 : 1 ≤ s) (ha : a < 2 ^ s) (hb : b < 2 ^ s) (h : a / 2 ^ i = b / 2 ^ i) : it (nx s (u * 2 ^ i)) i a = it (nx s (u * 2 ^ i)) i b := by
  have hd : a ^^^ b < 2 ^ i := by
    have : (a ^^^ b) / 2 ^ i = 0 := by rw [Nat.xor_div_two_pow, h, Nat.xor_self]
    rcases Nat.lt_or_ge (a ^^^ b) (2 ^ i) with hl | hg
    · exact hl
    · have := Nat.div_pos hg (Nat.two_pow_pos i)
      omega
  have e := it_xor s (u * 2 ^ i) h1 i a b ha hb
  rw [it_small s u i i _ (Nat.le_refl _) hd, Nat.div_eq_of_lt hd] at e
  have : ∀ p q : Nat, 0 = p ^^^ q → p = q := by
    intro p q h
    have k : (p ^^^ q) ^^^ q = p := by rw [Nat.xor_assoc, Nat.xor_self, Nat.xor_zero]
    rw [← h, Nat.zero_xor] at k
    exact k.symm
  exact this _ _ e
theorem it_inj {s t : Nat} (h1 : 1 ≤ s) (h8 : s ≤ 60) (ho : t % 2 = 1) (n a b : Nat) (ha : a < 2 ^ s) (hb : b < 2 ^ s) (h : it (nx s t) n a = it (nx s t) n b) : a = b := by
  induction n generalizing a b with
  | zero => exact h
  | succ n ih =>
    have := ih (nx s t a) (nx s t b) (nx_lt _ _ _ h1 ha) (nx_lt _ _ _ h1 hb) h
    rw [← bk_nx s t a h1 h8 ha ho, ← bk_nx s t b h1 h8 hb ho, this]
/-- the lowest tap -/
theorem low_tap (t : Nat) (h : 1 ≤ t) : ∃ u i, t = u * 2 ^ i ∧ u % 2 = 1 := by
  induction t using Nat.strongRecOn with
  | _ t ih =>
    by_cases ho : t % 2 = 1
    · exact ⟨t, 0, by simp, ho⟩
    · obtain ⟨u, i, e, hu⟩ := ih (t / 2) (by omega) (by omega)
      exact ⟨u, i + 1, by rw [Nat.pow_succ, ← Nat.mul_assoc, ← e]; omega, hu⟩
theorem VR.lead {s t x : Nat} (h : VR s t x) : orbI (SS.nx s t) x ≤ s ∧ (t % 2 = 1 → orbI (SS.nx s t) x = 0) := by
  obtain ⟨⟨hI, he, hd⟩, hN⟩ := h.orb
  have hl := fun n => itnx_lt s t x h n
  obtain ⟨h2, h8, ht1, ht2, hx⟩ := h
  generalize orbI (SS.nx s t) x = I at *
  generalize orbN (SS.nx s t) x = N at *
  obtain ⟨u, i, ht, hu⟩ := low_tap t ht1
  have hi : i < s := by
    rcases Nat.lt_or_ge i s with hl | hg
    · exact hl
    · exfalso
      have h1 := Nat.pow_le_pow_right (n := 2) (by decide) hg
      have hu1 : 1 ≤ u := by omega
      have := Nat.mul_le_mul hu1 (Nat.le_refl (2 ^ i))
      omega
  have key : I ≤ i := by
    rcases Nat.lt_or_ge i I with hlt | hge
    · exfalso
      have ea : it (SS.nx s t) I x = it (SS.nx s t) (i + 1) (it (SS.nx s t) (I - 1 - i) x) := by rw [← it_add]; congr 1; omega
      have eb : it (SS.nx s t) N x = it (SS.nx s t) (i + 1) (it (SS.nx s t) (N - 1 - i) x) := by rw [← it_add]; congr 1; omega
      have ha := hl (I - 1 - i)
      have hb := hl (N - 1 - i)
      rw [ea, eb] at he
      have e1 : it (SS.nx s t) i (it (SS.nx s t) (I - 1 - i) x) = it (SS.nx s t) i (it (SS.nx s t) (N - 1 - i) x) := by
        generalize it (SS.nx s t) (I - 1 - i) x = a at *
        generalize it (SS.nx s t) (N - 1 - i) x = b at *
        subst ht
        refine it_forget s u i a b (by omega) ha hb ?_
        have e2 := congrArg (· / 2 ^ i) he
        simp only [it_up s u i _ _ hi h8 ha, it_up s u i _ _ hi h8 hb] at e2
        have hp : 2 ^ s = 2 ^ (s - i) * 2 ^ i := by rw [← Nat.pow_add]; congr 1; omega
        refine it_inj (s := s - i) (t := u) (by omega) (by omega) hu (i + 1) _ _ ?_ ?_ e2
        · rw [Nat.div_lt_iff_lt_mul (Nat.two_pow_pos _), ← hp]; exact ha
        · rw [Nat.div_lt_iff_lt_mul (Nat.two_pow_pos _), ← hp]; exact hb
      rw [← it_add, ← it_add] at e1
      exact hd (I - 1) (N - 1) (by omega) (by omega) (by rw [show I - 1 = I - 1 - i + i by omega, show N - 1 = N - 1 - i + i by omega]; exact e1)
    · exact hge
  refine ⟨by omega, fun ho => ?_⟩
  have : i = 0 := by
    rcases Nat.eq_zero_or_pos i with e | hp
    · exact e
    · exfalso
      obtain ⟨k, rfl⟩ : ∃ k, i = k + 1 := ⟨i - 1, by omega⟩
      rw [ht, Nat.pow_succ, ← Nat.mul_assoc] at ho
      omega
  omega
/-- behind the lead a state comes back after the period and not before -/
theorem VR.comes {s t x : Nat} (h : VR s t x) (i : Nat) (h1 : 1 ≤ i) (hi : i ≤ orbN (SS.nx s t) x - orbI (SS.nx s t) x) :
    (it (SS.nx s t) (orbI (SS.nx s t) x + i) x = it (SS.nx s t) (orbI (SS.nx s t) x) x) ↔ i = orbN (SS.nx s t) x - orbI (SS.nx s t) x := by
  obtain ⟨⟨hI, he, hd⟩, _⟩ := h.orb
  generalize orbI (SS.nx s t) x = I at *
  generalize orbN (SS.nx s t) x = N at *
  constructor
  · intro e
    rcases Nat.lt_or_ge (I + i) N with hl | hg
    · exact absurd e.symm (hd I (I + i) (by omega) hl)
    · omega
  · intro e
    rw [e, show I + (N - I) = N by omega, he]
/-- no state of the lead comes back -/
theorem VR.lost {s t x : Nat} (h : VR s t x) (i : Nat) (hi : i < orbI (SS.nx s t) x) :
    it (SS.nx s t) (i + (orbN (SS.nx s t) x - orbI (SS.nx s t) x)) x ≠ it (SS.nx s t) i x := by
  obtain ⟨⟨hI, he, hd⟩, _⟩ := h.orb
  intro e
  exact hd i _ (by omega) (by omega) e.symm
end SS

namespace SS
/-- a state that comes back, after n steps -/
structure Cyc (f : Nat → Nat) (x n : Nat) : Prop where
  pos : 0 < n
  back : it f n x = x
  dis : Dis f x n
theorem it_comm (f : Nat → Nat) (m n x : Nat) : it f m (it f n x) = it f n (it f m x) := by rw [← it_add, ← it_add, Nat.add_comm]
theorem Cyc.mul {f : Nat → Nat} {x n : Nat} (h : Cyc f x n) (k : Nat) : it f (k * n) x = x := by
  induction k with
  | zero => rw [Nat.zero_mul]; rfl
  | succ k ih => rw [Nat.succ_mul, it_add, ih, h.back]
theorem Cyc.mod {f : Nat → Nat} {x n : Nat} (h : Cyc f x n) (i : Nat) : it f (i % n) x = it f i x := by
  conv => rhs; rw [← Nat.div_add_mod i n, Nat.mul_comm, it_add, h.mul]
theorem Cyc.eq {f : Nat → Nat} {x n : Nat} (h : Cyc f x n) {a b : Nat} (e : it f a x = it f b x) : a % n = b % n := by
  rw [← h.mod a, ← h.mod b] at e
  have ha := Nat.mod_lt a h.pos
  have hb := Nat.mod_lt b h.pos
  by_cases h1 : a % n < b % n
  · exact absurd e (h.dis _ _ h1 hb)
  · by_cases h2 : b % n < a % n
    · exact absurd e.symm (h.dis _ _ h2 ha)
    · omega
theorem Cyc.it {f : Nat → Nat} {x n : Nat} (h : Cyc f x n) (i : Nat) : Cyc f (it f i x) n := by
  refine ⟨h.pos, by rw [it_comm, h.back], fun a b hab hb e => ?_⟩
  rw [← it_add, ← it_add] at e
  have := h.eq e
  have h1 := Nat.div_add_mod (i + a) n
  have h2 := Nat.div_add_mod (i + b) n
  rw [this] at h1
  have h3 : n * ((i + b) / n) = n * ((i + a) / n) + (b - a) := by omega
  by_cases h4 : (i + b) / n ≤ (i + a) / n
  · have := Nat.mul_le_mul_left n h4; omega
  · have h5 : (i + a) / n + 1 ≤ (i + b) / n := by omega
    have := Nat.mul_le_mul_left n h5
    rw [Nat.mul_add, Nat.mul_one] at this
    omega
/-- from each state of a cycle each other one is reached -/
theorem Cyc.turn {f : Nat → Nat} {x n : Nat} (h : Cyc f x n) (i : Nat) : ∃ j, j < n ∧ SS.it f j (SS.it f i x) = x := by
  refine ⟨(n - i % n) % n, Nat.mod_lt _ h.pos, ?_⟩
  rw [(h.it i).mod, ← h.mod i, ← it_add]
  have := Nat.mod_lt i h.pos
  rw [show i % n + (n - i % n) = n by omega, h.back]
theorem VR.cyc {s t x : Nat} (h : VR s t x) (h0 : orbI (SS.nx s t) x = 0) : Cyc (SS.nx s t) x (orbN (SS.nx s t) x) := by
  obtain ⟨⟨h1, h2, h3⟩, _⟩ := h.orb
  rw [h0] at h1 h2
  exact ⟨h1, h2.symm, h3⟩
theorem Cyc.orb {f : Nat → Nat} {x n : Nat} (h : Cyc f x n) (hn : n < 300) : orbN f x = n ∧ orbI f x = 0 :=
  Orb.eq ⟨h.pos, h.back.symm, h.dis⟩ hn
theorem VR.orbN_lt {s t x : Nat} (h : VR s t x) : orbN (SS.nx s t) x < 300 := by
  have := h.orb.2
  have hp : 2 ^ s ≤ 2 ^ 8 := Nat.pow_le_pow_right (by decide) h.2.1
  omega
/-- the first state of its cycle -/
def lst (s t k : Nat) : Bool := orbI (nx s t) k == 0 && (List.range (orbN (nx s t) k)).all fun i => decide (k ≤ it (nx s t) i k)
theorem lst_yes {s t k : Nat} : lst s t k = true ↔ orbI (nx s t) k = 0 ∧ ∀ i, i < orbN (nx s t) k → k ≤ it (nx s t) i k := by
  unfold lst
  rw [Bool.and_eq_true, beq_iff_eq, List.all_eq_true]
  simp
theorem lst_iff {s t k : Nat} (h : VR s t k) (h0 : orbI (nx s t) k = 0) : lst s t k = true ↔ ∀ i, 1 ≤ i → i < orbN (nx s t) k → k < it (nx s t) i k := by
  have hc := h.cyc h0
  rw [lst_yes]
  constructor
  · rintro ⟨_, hl⟩ i h1 hi
    have := hl i hi
    have h2 : k ≠ it (nx s t) i k := hc.dis 0 i h1 hi
    omega
  · intro hl
    refine ⟨h0, fun i hi => ?_⟩
    by_cases hi0 : i = 0
    · subst hi0; exact Nat.le_refl _
    · exact Nat.le_of_lt (hl i (by omega) hi)
/-- a state that a cycle with a lesser state has -/
def Mk (s t k z : Nat) : Prop := ∃ y, y < k ∧ orbI (nx s t) y = 0 ∧ ∃ i, it (nx s t) i y = z
theorem VR.of {s t x y : Nat} (h : VR s t x) (hy : y < 2 ^ s) : VR s t y := ⟨h.1, h.2.1, h.2.2.1, h.2.2.2.1, hy⟩
theorem mk_lst {s t k : Nat} (h : VR s t k) (h0 : orbI (nx s t) k = 0) : Mk s t k k ↔ lst s t k = false := by
  have hc := h.cyc h0
  constructor
  · rintro ⟨y, hy, hy0, i, hi⟩
    have hcy := (h.of (y := y) (by have := h.2.2.2.2; omega)).cyc hy0
    obtain ⟨j, _, hj⟩ := hcy.turn i
    rw [hi] at hj
    cases hl : lst s t k with
    | false => rfl
    | true =>
      have := (lst_yes.1 hl).2 (j % orbN (nx s t) k) (Nat.mod_lt _ hc.pos)
      rw [hc.mod, hj] at this
      omega
  · intro hl
    have : ¬ ∀ i, i < orbN (nx s t) k → k ≤ it (nx s t) i k := fun hh => by
      rw [lst_yes.2 ⟨h0, hh⟩] at hl
      exact absurd hl (by decide)
    have hne : ∃ i, i < orbN (nx s t) k ∧ it (nx s t) i k < k := Classical.byContradiction fun hh => this fun i hi => Nat.le_of_not_lt fun hlt => hh ⟨i, hi, hlt⟩
    obtain ⟨i, hi, hlt⟩ := hne
    obtain ⟨j, _, hj⟩ := hc.turn i
    exact ⟨_, hlt, ((hc.it i).orb h.orbN_lt).2, j, hj⟩
theorem mk_no {s t k : Nat} (h : VR s t k) (hl : lst s t k = false) (z : Nat) : Mk s t (k + 1) z ↔ Mk s t k z := by
  constructor
  · rintro ⟨y, hy, hy0, i, hi⟩
    by_cases e : y = k
    · subst e
      obtain ⟨y', hy', hy0', j, hj⟩ := (mk_lst h hy0).2 hl
      exact ⟨y', hy', hy0', j + i, by rw [it_add, hj, hi]⟩
    · exact ⟨y, by omega, hy0, i, hi⟩
  · rintro ⟨y, hy, r⟩
    exact ⟨y, by omega, r⟩
theorem mk_yes {s t k : Nat} (h : VR s t k) (hl : lst s t k = true) (z : Nat) : Mk s t (k + 1) z ↔ Mk s t k z ∨ ∃ i, i < orbN (nx s t) k ∧ it (nx s t) i k = z := by
  have h0 := (lst_yes.1 hl).1
  have hc := h.cyc h0
  constructor
  · rintro ⟨y, hy, hy0, i, hi⟩
    by_cases e : y = k
    · subst e
      exact .inr ⟨i % _, Nat.mod_lt _ hc.pos, by rw [hc.mod, hi]⟩
    · exact .inl ⟨y, by omega, hy0, i, hi⟩
  · rintro (⟨y, hy, r⟩ | ⟨i, hi, e⟩)
    · exact ⟨y, by omega, r⟩
    · exact ⟨k, by omega, h0, i, e⟩
/-- the lengths of the cycles whose first states are among the first k -/
def clist (s t k : Nat) : List Int := ((List.range k).filter (lst s t)).map fun x => ((orbN (nx s t) x : Nat) : Int)
theorem clist_zero (s t : Nat) : clist s t 0 = [] := rfl
theorem clist_yes (s t k : Nat) (h : lst s t k = true) : clist s t (k + 1) = clist s t k ++ [((orbN (nx s t) k : Nat) : Int)] := by
  unfold clist
  rw [List.range_succ, List.filter_append, List.map_append, List.filter_cons, if_pos h]
  rfl
theorem clist_no (s t k : Nat) (h : lst s t k = false) : clist s t (k + 1) = clist s t k := by
  unfold clist
  rw [List.range_succ, List.filter_append, List.map_append, List.filter_cons, h]
  simp
theorem clist_length (s t k : Nat) : (clist s t k).length ≤ k := by
  unfold clist
  rw [List.length_map]
  exact Nat.le_trans (List.length_filter_le _ _) (by simp)
/-- the states of cycles, cycle by cycle -/
theorem cyc_perm (s t : Nat) (hv : VR s t 1) (P : Nat → Bool) :
    (((List.range (2 ^ s)).filter fun k => lst s t k && P (orbN (nx s t) k)).flatMap fun k => (List.range (orbN (nx s t) k)).map fun i => it (nx s t) i k).Perm
      ((List.range (2 ^ s)).filter fun x => (orbI (nx s t) x == 0) && P (orbN (nx s t) x)) := by
  refine (List.perm_ext_iff_of_nodup ?_ ?_).2 ?_
  · unfold List.Nodup
    rw [List.pairwise_flatMap]
    constructor
    · intro k hk
      rw [List.mem_filter] at hk
      obtain ⟨hk1, hk2⟩ := hk
      rw [Bool.and_eq_true] at hk2
      have hvk := hv.of (y := k) (by simpa using hk1)
      exact states_nodup (hvk.cyc (lst_yes.1 hk2.1).1).dis
    · refine List.Pairwise.imp_of_mem ?_ ((List.pairwise_lt_range (n := 2 ^ s)).filter _)
      intro a b ha hb hab x hx y hy e
      subst e
      rw [List.mem_filter] at ha hb
      obtain ⟨ha1, ha2⟩ := ha
      obtain ⟨hb1, hb2⟩ := hb
      rw [Bool.and_eq_true] at ha2 hb2
      have hva := hv.of (y := a) (by simpa using ha1)
      have hvb := hv.of (y := b) (by simpa using hb1)
      obtain ⟨i, hi, hxa⟩ := List.mem_map.1 hx
      obtain ⟨j, hj, hxb⟩ := List.mem_map.1 hy
      obtain ⟨a0, al⟩ := lst_yes.1 ha2.1
      obtain ⟨b0, bl⟩ := lst_yes.1 hb2.1
      have hcb := hvb.cyc b0
      obtain ⟨p, hp, he⟩ := (hva.cyc a0).turn i
      rw [hxa, ← hxb, ← it_add] at he
      have := bl ((j + p) % orbN (nx s t) b) (Nat.mod_lt _ hcb.pos)
      rw [hcb.mod, he] at this
      omega
  · exact List.nodup_range.filter _
  · intro x
    rw [List.mem_flatMap, List.mem_filter, Bool.and_eq_true, beq_iff_eq]
    constructor
    · rintro ⟨k, hk, hx⟩
      rw [List.mem_filter] at hk
      obtain ⟨hk1, hk2⟩ := hk
      rw [Bool.and_eq_true] at hk2
      have hvk := hv.of (y := k) (by simpa using hk1)
      obtain ⟨k0, kl⟩ := lst_yes.1 hk2.1
      obtain ⟨i, hi, rfl⟩ := List.mem_map.1 hx
      obtain ⟨e1, e2⟩ := ((hvk.cyc k0).it i).orb hvk.orbN_lt
      refine ⟨?_, e2, by rw [e1]; exact hk2.2⟩
      rw [List.mem_range]
      exact (hvk.itnx i).2.2.2.2
    · rintro ⟨hx, h0, hP⟩
      have hxl : x < 2 ^ s := by simpa using hx
      have hvx := hv.of hxl
      have hcx := hvx.cyc h0
      obtain ⟨k, ⟨i, rfl⟩, hmin⟩ : ∃ k, (∃ i, it (nx s t) i x = k) ∧ ∀ i, k ≤ it (nx s t) i x := by
        have := SS.least (fun k => ∃ i, it (nx s t) i x = k) x ⟨0, rfl⟩
        obtain ⟨m, hm, hl⟩ := this
        exact ⟨m, hm, fun i => Nat.le_of_not_lt fun hlt => hl _ hlt ⟨i, rfl⟩⟩
      have hck := hcx.it i
      obtain ⟨e1, e2⟩ := hck.orb hvx.orbN_lt
      obtain ⟨j, hj, he⟩ := hcx.turn i
      refine ⟨it (nx s t) i x, ?_, ?_⟩
      · rw [List.mem_filter, Bool.and_eq_true]
        refine ⟨by rw [List.mem_range]; exact (hvx.itnx i).2.2.2.2, lst_yes.2 ⟨e2, fun a _ => ?_⟩, by rw [e1]; exact hP⟩
        rw [← it_add]
        exact hmin _
      · rw [List.mem_map]
        exact ⟨j, by rw [e1, List.mem_range]; exact hj, he⟩
end SS

namespace SS
/-- the square of a sum, modulo 2 -/
theorem frob (t : Nat) (g : Nat → Nat) (s : Nat) : lin s t (fun i => lin s t (fun k => g (i + k))) % 2 = lin s t (fun i => g (2 * i)) % 2 := by
  have key : ∀ s, ∃ m, lin s t (fun i => lin s t (fun k => g (i + k))) = lin s t (fun i => dg t i * g (2 * i)) + 2 * m := by
    intro s
    induction s with
    | zero => exact ⟨0, rfl⟩
    | succ s ih =>
      obtain ⟨m, hm⟩ := ih
      have e1 : lin (s + 1) t (fun i => lin (s + 1) t (fun k => g (i + k))) = lin s t (fun i => lin (s + 1) t (fun k => g (i + k))) + dg t s * lin (s + 1) t (fun k => g (s + k)) := rfl
      have e2 : ∀ i, lin (s + 1) t (fun k => g (i + k)) = lin s t (fun k => g (i + k)) + dg t s * g (i + s) := fun i => rfl
      have e3 : lin s t (fun i => lin (s + 1) t (fun k => g (i + k))) = lin s t (fun i => lin s t (fun k => g (i + k))) + lin s t (fun i => dg t s * g (i + s)) := by
        rw [← lin_add]
        rfl
      have e4 : lin s t (fun i => dg t s * g (i + s)) = dg t s * lin s t (fun k => g (s + k)) := by
        unfold lin
        rw [← sumN_mul]
        exact sumN_congr _ _ _ fun i _ => by show dg t i * (dg t s * g (i + s)) = dg t s * (dg t i * g (s + i)); rw [Nat.add_comm i s, Nat.mul_left_comm]
      have e5 : lin (s + 1) t (fun i => dg t i * g (2 * i)) = lin s t (fun i => dg t i * g (2 * i)) + dg t s * (dg t s * g (2 * s)) := rfl
      refine ⟨m + dg t s * lin s t (fun k => g (s + k)), ?_⟩
      rw [e1, e3, e4, e5, hm, e2 s, Nat.mul_add, show s + s = 2 * s by omega]
      omega
  obtain ⟨m, hm⟩ := key s
  rw [hm, Nat.add_mul_mod_self_left]
  unfold lin
  apply sumN_mod
  intro i _
  have : dg t i = 0 ∨ dg t i = 1 := by unfold dg; omega
  show dg t i * (dg t i * g (2 * i)) % 2 = dg t i * g (2 * i) % 2
  rcases this with e | e <;> simp [e]
/-- every other bit obeys the same rule -/
theorem Rec.twice {s t : Nat} {b : Nat → Nat} (hb : ∀ n, Rec s t n b) (n : Nat) : Rec s t n (fun j => b (2 * j)) := by
  intro j _
  show b (2 * (j + s)) % 2 = lin s t (fun i => b (2 * (j + i))) % 2
  have h1 := hb (2 * j + s + s + 1) (2 * j + s) (by omega)
  rw [show 2 * (j + s) = 2 * j + s + s by omega, h1]
  have h2 : lin s t (fun i => b (2 * j + s + i)) % 2 = lin s t (fun i => lin s t (fun k => b (2 * j + (i + k)))) % 2 := by
    apply lin_mod
    intro i _
    have := hb (2 * j + i + s + 1) (2 * j + i) (by omega)
    rw [show 2 * j + s + i = 2 * j + i + s by omega, this]
    apply lin_mod
    intro k _
    rw [Nat.add_assoc]
  rw [h2, frob t (fun x => b (2 * j + x)) s]
  apply lin_mod
  intro i _
  show b (2 * j + 2 * i) % 2 = b (2 * (j + i)) % 2
  rw [Nat.mul_add]
/-- the sequence of a register -/
def mseq (s t : Nat) : List UInt8 := run s t (2 ^ s - 1) 1
section
variable {s t : Nat}
theorem Mxp.cyc (hv : VR s t 1) (h : Mxp s t) : Cyc (nx s t) 1 (2 ^ s - 1) := by
  obtain ⟨h0, hN, _⟩ := h.orb hv
  have := hv.cyc h0
  rwa [hN] at this
theorem mseq_length (s t : Nat) : (mseq s t).length = 2 ^ s - 1 := run_length _ _ _ _
theorem mseq_rot (hv : VR s t 1) (h : Mxp s t) (j : Nat) (hj : j < 2 ^ s - 1) : rot j (mseq s t) = run s t (2 ^ s - 1) (it (nx s t) j 1) := by
  have hl := mseq_length s t
  apply list_ext (by rw [rot_length _ _ (by omega), run_length, hl])
  intro i hi
  rw [rot_length _ _ (by omega), hl] at hi
  rw [at_rot _ _ (by omega) _ (by omega), hl, at_run _ _ _ _ _ hi]
  have hm : (i + j) % (2 ^ s - 1) < 2 ^ s - 1 := Nat.mod_lt _ (by omega)
  unfold mseq
  rw [at_run _ _ _ _ _ hm, (h.cyc hv).mod, ← it_add, Nat.add_comm j i]
theorem mseq_ok (s t : Nat) : okB (mseq s t) = true := okB_run _ _ _ _
theorem small_pow (hv : VR s t 1) : s ≤ 2 ^ s - 1 ∧ 3 ≤ 2 ^ s - 1 := by
  have h2 := hv.1
  have : s < 2 ^ s := Nat.lt_two_pow_self
  have := hv.four
  omega
/-- the sum with a shift is a shift -/
theorem mseq_add (hv : VR s t 1) (h : Mxp s t) (k : Nat) (h1 : 1 ≤ k) (hk : k < 2 ^ s - 1) : ∃ j, j < 2 ^ s - 1 ∧ addL (mseq s t) (rot k (mseq s t)) = rot j (mseq s t) := by
  have hvk := hv.itnx k
  have hne : 1 ^^^ it (nx s t) k 1 ≠ 0 := by
    intro e
    have : it (nx s t) k 1 = 1 := by
      have := xor_twice 1 (it (nx s t) k 1)
      rw [e, Nat.zero_xor] at this
      exact this
    exact (h.cyc hv).dis 0 k h1 hk this.symm
  obtain ⟨j, hj, e⟩ := h.all hv _ (hv.xor hvk).2.2.2.2 hne
  refine ⟨j, hj, ?_⟩
  rw [mseq_rot hv h k hk, mseq_rot hv h j hj, e, ← run_add s t _ _ _ hv hvk]
  rfl
theorem odds_bal (s t n : Nat) : sumTo n (fun i => sg (bt (it (nx s t) i 1 % 2))) = 2 * (odds s t n : Int) - n := by
  induction n with
  | zero => rfl
  | succ n ih =>
    have e : odds s t (n + 1) = odds s t n + it (nx s t) n 1 % 2 := rfl
    rw [sumTo, ih, e]
    have : sg (bt (it (nx s t) n 1 % 2)) = 2 * ((it (nx s t) n 1 % 2 : Nat) : Int) - 1 := by
      rcases (show it (nx s t) n 1 % 2 = 0 ∨ it (nx s t) n 1 % 2 = 1 by omega) with e | e <;> rw [e] <;> rfl
    rw [this]
    omega
theorem mseq_bal (hv : VR s t 1) (h : Mxp s t) : bal (mseq s t) = 1 := by
  unfold bal
  rw [mseq_length]
  have e : sumTo (2 ^ s - 1) (fun i => sg (at_ (mseq s t) i)) = sumTo (2 ^ s - 1) (fun i => sg (bt (it (nx s t) i 1 % 2))) :=
    sumTo_congr _ _ _ fun i hi => by unfold mseq; rw [at_run _ _ _ _ _ hi]
  rw [e, odds_bal]
  have := h.odds hv
  have := hv.four
  omega
theorem bal_rot (l : List UInt8) (k : Nat) (hk : k < l.length) : bal (rot k l) = bal l := by
  unfold bal
  rw [rot_length _ _ (by omega)]
  rw [sumTo_congr _ _ (fun i => sg (at_ l ((i + k) % l.length))) fun i hi => by rw [at_rot _ _ hk _ hi]]
  exact sumTo_cyc l.length k (fun i => sg (at_ l i)) (by omega)
theorem mseq_cor (hv : VR s t 1) (h : Mxp s t) (k : Nat) (h1 : 1 ≤ k) (hk : k < 2 ^ s - 1) : cor (mseq s t) (mseq s t) k = -1 := by
  have hl := mseq_length s t
  obtain ⟨j, hj, e⟩ := mseq_add hv h k h1 hk
  rw [← bal_cor _ _ k rfl (by omega) (mseq_ok s t) (mseq_ok s t), e, bal_rot _ _ (by omega), mseq_bal hv h]
theorem mseq_fix (hv : VR s t 1) (h : Mxp s t) (k : Nat) (h1 : 1 ≤ k) (hk : k < 2 ^ s - 1) : rot k (mseq s t) ≠ mseq s t := by
  intro e
  rw [mseq_rot hv h k hk] at e
  have hp := small_pow hv
  have e1 := hv.frm (2 ^ s - 1) hp.1
  have e2 := (hv.itnx k).frm (2 ^ s - 1) hp.1
  rw [e] at e2
  have : it (nx s t) k 1 = 1 := by rw [← e2]; exact e1
  exact (h.cyc hv).dis 0 k h1 hk this.symm
/-- every other bit of it is a shift -/
theorem mseq_dec (hv : VR s t 1) (h : Mxp s t) : ∃ j, j < 2 ^ s - 1 ∧ rot j (mseq s t) = decL 2 (mseq s t) := by
  have hl := mseq_length s t
  have hp := small_pow hv
  have hdl : (decL 2 (mseq s t)).length = 2 ^ s - 1 := by rw [decL_length, hl]
  have hok := okB_decL 2 _ (mseq_ok s t)
  have hat : ∀ i, i < 2 ^ s - 1 → (at_ (decL 2 (mseq s t)) i).toNat - 48 = bit s t 1 (2 * i) := by
    intro i hi
    have hm : 2 * i % (2 ^ s - 1) < 2 ^ s - 1 := Nat.mod_lt _ (by omega)
    rw [at_decL _ _ _ (by omega), hl]
    unfold mseq
    rw [at_run _ _ _ _ _ hm, (h.cyc hv).mod, bt_toNat _ (Nat.mod_lt _ (by decide)), Nat.add_sub_cancel_left]
    rfl
  have hr : Rec s t (decL 2 (mseq s t)).length (fun j => (at_ (decL 2 (mseq s t)) j).toNat - 48) := by
    have h2 := Rec.twice (fun n => hv.rec n) (decL 2 (mseq s t)).length
    intro j hj
    have := h2 j hj
    rw [hdl] at hj
    show ((at_ (decL 2 (mseq s t)) (j + s)).toNat - 48) % 2 = lin s t (fun i => (at_ (decL 2 (mseq s t)) (j + i)).toNat - 48) % 2
    rw [hat _ hj, this]
    apply lin_mod
    intro i hi
    show bit s t 1 (2 * (j + i)) % 2 = ((at_ (decL 2 (mseq s t)) (j + i)).toNat - 48) % 2
    rw [hat _ (by omega)]
  have hrun := run_of_rec s t (decL 2 (mseq s t)) hv.1 hv.2.1 hv.2.2.1 hv.2.2.2.1 (by omega) hok hr
  have hx := frm_take_lt (decL 2 (mseq s t)) s hok (by omega)
  have h0 : frm ((decL 2 (mseq s t)).take s) ≠ 0 := by
    intro e
    have hb := hat 0 (by omega)
    rw [← hrun, hdl, e, at_run _ _ _ _ _ (by omega)] at hb
    have e1 : it (nx s t) 0 0 % 2 = 0 := rfl
    have e2 : bit s t 1 (2 * 0) = 1 := rfl
    rw [e1, e2] at hb
    exact absurd hb (by decide)
  obtain ⟨j, hj, e⟩ := h.all hv _ hx h0
  exact ⟨j, hj, by rw [mseq_rot hv h j hj, e, ← hdl, hrun]⟩
end
end SS

namespace SS
theorem flat_const {l : List UInt8} (h : Flat l) : ∀ i, i < l.length → at_ l i = at_ l 0 := by
  intro i
  induction i with
  | zero => intro _; rfl
  | succ i ih =>
    intro hi
    have e := h (i + 1) hi
    rw [show i + 1 + l.length - 1 = i + l.length by omega, Nat.add_mod_right, Nat.mod_eq_of_lt (by omega)] at e
    rw [e]
    exact ih (by omega)
theorem const_flat {l : List UInt8} (h : ∀ i, i < l.length → at_ l i = at_ l 0) : Flat l := by
  intro i hi
  rw [h i hi, h _ (Nat.mod_lt _ (by omega))]
theorem flat_rev {l : List UInt8} (h : Flat l) : Flat (revL l) := by
  apply const_flat
  intro i hi
  rw [revL_length] at hi
  rw [at_revL _ _ hi, at_revL _ _ (by omega)]
  exact (flat_const h _ (by omega)).trans (flat_const h _ (by omega)).symm
theorem Runs.rev {l : List UInt8} {R : List Int} (h : Runs l R) : Runs (revL l) R := by
  rcases h with ⟨a, ha, rfl⟩ | ⟨hf, rfl⟩
  · rcases brk_or (revL l) with ⟨b, hb⟩ | hf
    · have hbl := hb.lt
      rw [revL_length] at hbl
      exact .inl ⟨b, hb, (runs_rev l a b ha.lt hbl ha.brk hb.brk).symm⟩
    · have := flat_rev hf
      rw [rev_rev] at this
      exact absurd (this a ha.lt) ha.yes
  · exact .inr ⟨flat_rev hf, by rw [revL_length]⟩
/-- bits, one after the other -/
def gen (s t : Nat) : Nat → Nat → List UInt8
  | 0, _ => []
  | n + 1, x => bt (x % 2) :: gen s t n (fnx s t x)
theorem gen_run {s t x : Nat} (n : Nat) (h : VR s t x) : gen s t n x = run s t n x := by
  induction n generalizing x with
  | zero => rfl
  | succ n ih =>
    have h256 : x < 256 := Nat.lt_of_lt_of_le h.2.2.2.2 (Nat.pow_le_pow_right (n := 2) (by decide) h.2.1)
    have e : run s t (n + 1) x = bt (x % 2) :: run s t n (nx s t x) := by
      unfold run
      rw [List.range_succ_eq_map, List.map_cons, List.map_map]
      rfl
    rw [e, gen, fnx_eq s t x h256, ih h.nx]
def runsOk (s t : Nat) : Bool := !isM s t || ((rle (rot 1 (gen s t (2 ^ s - 1) 1))).length == 2 ^ (s - 1) && ((rle (rot 1 (gen s t (2 ^ s - 1) 1))).all fun x => decide (x ≤ (s : Int))) && (rle (rot 1 (gen s t (2 ^ s - 1) 1))).any fun x => decide (x = (s : Int)))
theorem runs_all : ((List.range 7).all fun s => decide (s < 2) || (List.range (2 ^ s)).all fun t => runsOk s t) = true := by decide +kernel
theorem runs_at (s t : Nat) (hv : VR s t 1) (h6 : s ≤ 6) (h : Mxp s t) : (rle (rot 1 (mseq s t))).length = 2 ^ (s - 1) ∧ (∀ x ∈ rle (rot 1 (mseq s t)), x ≤ (s : Int)) ∧ (s : Int) ∈ rle (rot 1 (mseq s t)) := by
  have h1 := List.all_eq_true.1 runs_all s (by simp; omega)
  have h2 := hv.1
  rw [Bool.or_eq_true, decide_eq_true_eq] at h1
  have h3 := List.all_eq_true.1 (h1.resolve_left (by omega)) t (by simp; exact hv.2.2.2.1)
  unfold runsOk at h3
  rw [(isM_iff hv).2 h, Bool.not_true, Bool.false_or, Bool.and_eq_true, Bool.and_eq_true, beq_iff_eq, List.all_eq_true, List.any_eq_true, gen_run _ hv] at h3
  obtain ⟨⟨a, b⟩, x, hx, hxs⟩ := h3
  rw [decide_eq_true_eq] at hxs
  refine ⟨a, fun y hy => by have := b y hy; rwa [decide_eq_true_eq] at this, ?_⟩
  rw [← hxs]
  exact hx
theorem last_max (L : List Int) (m : Int) (hu : L.Pairwise (· ≤ ·)) (hm : ∀ x ∈ L, x ≤ m) (h : m ∈ L) : L[L.length - 1]? = some m := by
  obtain ⟨i, hi, e⟩ := List.getElem_of_mem h
  have hl : L.length - 1 < L.length := by omega
  rw [List.getElem?_eq_getElem hl]
  have h1 := hm _ (List.getElem_mem hl)
  have h2 : m ≤ L[L.length - 1] := by
    by_cases e2 : i = L.length - 1
    · rw [← e]; simp [e2]
    · rw [← e]
      exact List.pairwise_iff_getElem.1 hu i (L.length - 1) hi hl (by omega)
  congr 1
  omega
theorem mseq_runs {s t : Nat} (hv : VR s t 1) (h6 : s ≤ 6) (h : Mxp s t) {R : List Int} (hR : Runs (mseq s t) R) : R.length = 2 ^ (s - 1) ∧ R[R.length - 1]? = some (s : Int) := by
  have hl := mseq_length s t
  have hp := small_pow hv
  have a0 : at_ (mseq s t) 0 = 49 := by
    unfold mseq
    rw [at_run _ _ _ _ _ (by omega)]
    rfl
  have a1 : at_ (mseq s t) 1 = 48 := by
    unfold mseq
    rw [at_run _ _ _ _ _ (by omega)]
    have e : it (nx s t) 1 1 % 2 = 0 := by
      show nx s t 1 % 2 = 0
      unfold nx
      have h2 := hv.1
      have hps : 2 ^ (s - 1) = 2 * 2 ^ (s - 1 - 1) := pow_pred (s - 1) (by omega)
      rw [hps, Nat.mul_left_comm]
      omega
    rw [e]
    rfl
  have hb1 : brk (rot 1 (mseq s t)) := by
    have hr := rot_length 1 (mseq s t) (by omega)
    apply brk_at _ (by omega)
    rw [hr, at_rot 1 _ (by omega) 0 (by omega), at_rot 1 _ (by omega) _ (by omega), Nat.sub_add_cancel (by omega), Nat.mod_self, Nat.zero_add, Nat.mod_eq_of_lt (by omega), a0, a1]
    decide
  obtain ⟨r1, r2, r3⟩ := runs_at s t hv h6 h
  rcases hR with ⟨a, ha, rfl⟩ | ⟨hf, _⟩
  · have hpm := rle_rots (mseq s t) a 1 ha.lt (by omega) ha.brk hb1
    rw [srt_eq hpm]
    refine ⟨by rw [srt_length, r1], last_max _ _ (srt_up _) (fun x hx => r2 x ((srt_perm _).mem_iff.1 hx)) ((srt_perm _).mem_iff.2 r3)⟩
  · have := flat_const hf 1 (by omega)
    rw [a0, a1] at this
    exact absurd this (by decide)
end SS

namespace Go.Proofs.Ytibnlaphkmnhfaa
open Go.RowKit SS
set_option maxRecDepth 100000
theorem mx_mxp {s t : Nat} (hv : VR s t 1) (h : mx s t = true) : Mxp s t := by
  obtain ⟨⟨hI, _, _⟩, hN⟩ := hv.orb
  have hp : ((2 : Int) ^ s) = ((2 ^ s : Nat) : Int) := by simp
  have h4 := hv.four
  unfold mx per1 at h
  unfold Mxp
  rw [beq_iff_eq, hp] at h
  omega
/-- a maximal sequence comes back -/
def IsMseq (z : Nat) (w : World) (e : Ending) (w' : World) : Prop := ∃ t : Nat, VR z t 1 ∧ Mxp z t ∧ e = .returned (.string (bs (mseq z t))) ∧ Below w.heap.size w w'
theorem ssMax (s k : Nat) (w : World) (h2 : 2 ≤ s) (h8 : s ≤ 8) :
    Calls Try.prog 55 #[.int .i64 s, .int .i64 k] w (IsMseq s w) := by
  obtain ⟨p, HP⟩ : ∃ p, Hid (p = 2 ^ s) := ⟨2 ^ s, Lib.hid rfl⟩
  have hp2 : p ≤ 256 := by rw [HP.out]; exact Nat.pow_le_pow_right (n := 2) (by decide) h8
  have hp4 : 4 ≤ p := by rw [HP.out]; exact Nat.pow_le_pow_right (n := 2) (by decide) h2
  have hpi : ((2 : Int) ^ s) = (p : Int) := by rw [HP.out]; simp
  have C1 := Lib.hid fun w => mtaps_impl s w h2 h8
  have HM := Lib.hid (mtaps_at s (2 ^ s))
  have HNE := Lib.hid (mtaps_ne s h2 h8)
  have hll : (mtaps s (2 ^ s)).length ≤ 256 := by have := mtaps_length s (2 ^ s); rw [← HP.out] at this ⊢; omega
  generalize mtaps s (2 ^ s) = L at C1 HM HNE hll
  have hlen : 0 < L.length := List.length_pos_iff.2 HNE.out
  obtain ⟨q, hq, hql⟩ : ∃ q : Nat, ((k : Int) % (L.length : Int)) = (q : Int) ∧ q < L.length := ⟨k % L.length, by simp, Nat.mod_lt _ hlen⟩
  have dl : ((L.length : Int) == 0) = false := by rw [beq_eq_false_iff_ne]; omega
  go_enter Try.func55, Try.ntmps55
  go_wp2_with fail
  refine (C1.out _).mono ?_
  rintro e w1 ⟨v0, rfl, o0, hb⟩
  obtain ⟨g0, k0, rfl, hg0, hcell⟩ := o0.row.form HNE.out
  have hc := hcell q _ (List.getElem?_eq_getElem hql)
  obtain ⟨t, ht, ht1, ht2, hmx⟩ := HM.out _ (List.getElem_mem hql)
  rw [ht] at hc
  have hv : VR s t 1 := ⟨h2, h8, ht1, ht2, by rw [← HP.out]; omega⟩
  have hM : Mxp s t := mx_mxp hv hmx
  have C3 := Lib.hid fun w => ssRun_yes s t 1 (p - 1) w hv (by omega)
  rw [show ((p - 1 : Nat) : Int) = (p : Int) - 1 by omega, show ((1 : Nat) : Int) = 1 from rfl] at C3
  have HMS : Hid (bs (run s t (p - 1) 1) = bs (mseq s t)) := Lib.hid (by rw [HP.out]; rfl)
  have HV := Lib.hid hv
  have HMM := Lib.hid hM
  clear hcell ht HM C1 o0 hmx hv hM HNE ht2
  go_wp2_with fail
  refine (C3.out _).mono ?_
  rintro e w2 ⟨rfl, hb2⟩
  go_wp2
  go_ret
  exact ⟨t, HV.out, HMM.out, by rw [HMS.out]; rfl, afterB hb hb2 hb.size⟩
end Go.Proofs.Ytibnlaphkmnhfaa

namespace Go.Proofs.Ytibnlaphkmnhfaa
open Go.RowKit SS
set_option maxRecDepth 100000
end Go.Proofs.Ytibnlaphkmnhfaa

namespace Go.Proofs.Ytibnlaphkmnhfaa
open Go.RowKit SS
set_option maxRecDepth 100000
set_option maxHeartbeats 2000000 in
theorem walk_FnMaximalSequence (a0 : Option Addr) (len0 cap0 : Nat) (z0 : List Int) (a1 : Option Addr) (len1 cap1 : Nat) (z1 : List Int) (w : World) (h0 : IsRow .u8 w a0 len0 cap0 z0) (h1 : IsRow .u8 w a1 len1 cap1 z1) :
    Calls Try.prog 14 #[.slice a0 len0 cap0, .slice a1 len1 cap1] w fun e w' => e = .returned (.bool true) ∧ Below w.heap.size w w' := by
  obtain ⟨c0, l0, m0⟩ := h0.code
  obtain ⟨c1, l1, m1⟩ := h1.code
  clear h0 h1
  by_cases hs0 : len0 ≤ 1048576
  · have d0 : decide ((1048576 : Int) < (len0 : Int)) = false := by simp; omega
    by_cases hs1 : len1 ≤ 1048576
    · have d1 : decide ((1048576 : Int) < (len1 : Int)) = false := by simp; omega
      have hw := Below.refl w.heap.size w
      clear c0 l0 m0 c1 l1 m1
      obtain ⟨z, hz, hz2⟩ : ∃ z : Nat, (2 + (len0 : Int) % 5) = (z : Int) ∧ 2 ≤ z ∧ z ≤ 6 := ⟨2 + len0 % 5, by omega, by omega⟩
      have C1 := Lib.hid fun w => ssMax z len1 w hz2.1 (by omega)
      go_enter Try.func14, Try.ntmps14
      go_wp2_with fail
      refine (C1.out _).mono ?_
      rintro e w1 ⟨t, hv, hM, rfl, hq⟩
      replace hw := afterB hw hq hw.size
      clear hq C1
      obtain ⟨S, hS⟩ : ∃ S, S = bs (mseq z t) := ⟨_, rfl⟩
      have hSl : S.data.toList = mseq z t := by rw [hS, bs_list]
      rw [← hS]
      obtain ⟨h, hh⟩ : ∃ h, h = 2 ^ (z - 1) := ⟨_, rfl⟩
      have hp2 : 2 ^ z = 2 * h := by rw [hh]; exact pow_pred z (by omega)
      have hsp := small_pow hv
      have hSz : S.size = 2 * h - 1 := by rw [← size_list, hSl, mseq_length, hp2]
      have hh64 : h ≤ 32 := by rw [hh]; exact Nat.pow_le_pow_right (n := 2) (by decide) (show z - 1 ≤ 5 by omega)
      rw [hp2] at hsp
      have hh2 : 2 ≤ h := by omega
      have hSv : sv S.data.toList = true := sv_mk (by rw [size_list]; omega) (by rw [size_list]; omega) (by rw [hSl]; exact mseq_ok z t)
      have C2 := Lib.hid fun w => same_below (bal_impl S w hSv)
      rw [hSl, mseq_bal hv hM] at C2
      have C3 := Lib.hid fun w => dec_impl S 2 w hSv (by omega)
      rw [hSl, show ((2 : Nat) : Int) = 2 from rfl] at C3
      have HROT : Hid (∀ q : ByteArray, (∃ j, j < S.size ∧ q = rotS j S) → ∃ r : Int, ∀ w, Calls Try.prog 57 #[.string S, .string q] w fun e w' => e = .returned (.tuple #[.int .i64 r, .bool true]) ∧ Below w.heap.size w w') := by
        intro q ⟨j, hj, hq⟩
        obtain ⟨K, v, r, hK, hK0, hK1⟩ := sb_ex S q
        have hpv : pv S q = true := pv_mk hSv (by rw [hq, rotS_list]; exact sv_rot j _ (by rw [size_list]; omega) hSv) (by rw [hq, rotS_size j S (by omega)])
        rcases hK1 with ⟨a, b, c, d⟩ | ⟨a, _, _⟩
        · subst d
          exact ⟨r, fun w => quiet_below (sb_impl S q K true r w hpv hK hK0 (.inl ⟨a, b, c, rfl⟩))⟩
        · exact absurd hq.symm (hK0 j (by omega))
      obtain ⟨jd, hjd, hdec⟩ := mseq_dec hv hM
      rw [hp2] at hjd
      obtain ⟨rd, C4⟩ := HROT.out (bs (decL 2 (mseq z t))) ⟨jd, by omega, by apply ba_ext; rw [bs_list, rotS_list, hSl, hdec]⟩
      replace C4 := Lib.hid C4
      have HK : Hid (∀ k : Nat, 1 ≤ k → k < S.size → cor S.data.toList S.data.toList (md (k : Int) S.size) = -1 ∧ ∃ j, j < S.size ∧ bs (addL S.data.toList (shf (k : Int) S).data.toList) = rotS j S) := by
        intro k k1 k2
        obtain ⟨j, hj, e⟩ := mseq_add hv hM k k1 (by omega)
        rw [md_nat k S.size k2]
        refine ⟨by rw [hSl]; exact mseq_cor hv hM k k1 (by omega), j, by omega, ?_⟩
        unfold shf
        rw [md_nat k S.size k2]
        apply ba_ext
        rw [bs_list, rotS_list, rotS_list, hSl, e]
      have hLP : LP S S.size := ⟨by omega, Nat.le_refl _, rotS_all S, fun k k1 k2 e => mseq_fix hv hM k k1 (by omega) (by rw [← hSl, ← rotS_list, e])⟩
      have C5 := Lib.hid fun w => quiet_below (lp_impl S S.size w hSv hLP)
      obtain ⟨R, hR⟩ := runs_some S.data.toList
      have C6 := Lib.hid fun w => runs_impl S R w hSv hR
      rw [hSl] at hR
      obtain ⟨hR1, hR2⟩ := mseq_runs hv hz2.2 hM hR
      rw [← hh] at hR1
      rw [hR1] at hR2
      have hml : S.size ≤ maxLen := by unfold maxLen; omega
      have C7 := Lib.hid fun w => same_below (seq_spec S w hml)
      have C8 := Lib.hid fun w => same_below (seq_impl S w hml)
      rw [hSv] at C7 C8
      have HSV := Lib.hid hSv
      have HR2 := Lib.hid hR2
      have HR1 := Lib.hid hR1
      have HSZ := Lib.hid hSz
      clear hR hLP hdec hjd hml hSl hS hv hM hp2 hSv hh hR2 hSz hR1
      generalize bs (decL 2 (mseq z t)) = q at C3 C4
      go_wp2_with fail
      refine (C2.out _).mono ?_
      rintro e w2 ⟨rfl, hq⟩
      replace hw := afterB hw hq hw.size
      clear hq
      go_wp2_with fail
      refine (C3.out _).mono ?_
      rintro e w3 ⟨rfl, hq⟩
      replace hw := afterB hw hq hw.size
      clear hq
      go_wp2_with fail
      refine (C4.out _).mono ?_
      rintro e w4 ⟨rfl, hq⟩
      replace hw := afterB hw hq hw.size
      clear hq
      have HW := Lib.hid hw
      clear hw C2 C3 C4
      go_wp2_with fail
      go_loopw [14] (fun i wr => ∃ k : Nat, 1 ≤ k ∧ k ≤ S.size ∧ i = .int .i64 (k : Int) ∧ Below w.heap.size w wr) (fun i _ => S.size - (intOf i).toNat)
      case atStart => exact ⟨1, Nat.le_refl _, by have := HSZ.out; omega, rfl, HW.out⟩
      case round =>
        clear HW
        obtain ⟨k, hk1, hk, rfl, hw⟩ := hrel
        have hs255 : S.size ≤ 255 := by have := HSZ.out; omega
        by_cases hlt : k < S.size
        · skip
          obtain ⟨hco, j, hj, hsum⟩ := HK.out k hk1 hlt
          have D1 := Lib.hid fun w => quiet_below (auto_impl S (k : Int) w HSV.out)
          rw [hco] at D1
          have D2 := Lib.hid fun w => ssShift_yes S (k : Int) w HSV.out
          have D3 := Lib.hid fun w => addb_impl S (shf (k : Int) S) w (pv_mk HSV.out (shf_sv _ _ HSV.out) (shf_size _ _ (by omega)).symm)
          rw [hsum] at D3
          obtain ⟨r, D4⟩ := HROT.out (rotS j S) ⟨j, hj, rfl⟩
          replace D4 := Lib.hid D4
          clear hco hsum hj
          generalize rotS j S = y at D3 D4
          generalize shf (k : Int) S = x at D2 D3
          go_wp2_with fail
          refine (D1.out _).mono ?_
          rintro e w21 ⟨rfl, hq⟩
          replace hw := afterB hw hq hw.size
          clear hq
          go_wp2_with fail
          refine (D2.out _).mono ?_
          rintro e w22 ⟨rfl, hq⟩
          replace hw := afterB hw hq hw.size
          clear hq
          go_wp2_with fail
          refine (D3.out _).mono ?_
          rintro e w23 ⟨rfl, hq⟩
          replace hw := afterB hw hq hw.size
          clear hq
          go_wp2_with fail
          refine (D4.out _).mono ?_
          rintro e w24 ⟨rfl, hq⟩
          replace hw := afterB hw hq hw.size
          clear hq
          go_wp2
          go_roundw
          case rel => exact ⟨k + 1, by omega, by omega, by go_num, hw⟩
          case measure => simp [intOf]; omega
        · skip
          obtain rfl : k = S.size := by omega
          go_wp2_with fail
          refine (C6.out _).mono ?_
          rintro e w30 ⟨v0, rfl, o0, hq⟩
          have HO := Lib.hid o0.row
          clear o0
          replace hw := afterB hw hq hw.size
          clear hq
          have hne : R ≠ [] := List.ne_nil_of_length_pos (by have := HR1.out; omega)
          obtain ⟨g0, k0, rfl, hg0, hcell⟩ := HO.out.form hne
          have hcl := hcell _ _ HR2.out
          rw [HR1.out]
          have hz4 : ((S.size : Int) + 1) / 2 = (h : Int) := by have := HSZ.out; omega
          have hhm : ((h : Int) - 1).toNat = h - 1 := by omega
          clear hcell hne HO
          have HCL := Lib.hid hcl
          clear hcl
          go_wp2_with fail
          refine (C5.out _).mono ?_
          rintro e w31 ⟨rfl, hq⟩
          have hcl : w31.cell? ⟨g0, h - 1, none⟩ = some (.int .i64 (z : Int)) := (hq.cell (p := ⟨g0, h - 1, none⟩) hg0).trans HCL.out
          replace hw := afterB hw hq hw.size
          clear hq HCL
          go_wp2_with fail
          refine (C7.out _).mono ?_
          rintro e w32 ⟨rfl, hq⟩
          replace hw := afterB hw hq hw.size
          clear hq
          go_wp2_with fail
          refine (C8.out _).mono ?_
          rintro e w33 ⟨rfl, hq⟩
          replace hw := afterB hw hq hw.size
          clear hq
          go_wp2
          go_ret
          exact ⟨rfl, hw⟩
    · have d1 : decide ((1048576 : Int) < (len1 : Int)) = true := by simp; omega
      go_enter Try.func14, Try.ntmps14
      go_wp2
      go_ret
      exact ⟨rfl, Below.refl _ _⟩
  · have d0 : decide ((1048576 : Int) < (len0 : Int)) = true := by simp; omega
    go_enter Try.func14, Try.ntmps14
    go_wp2
    go_ret
    exact ⟨rfl, Below.refl _ _⟩
end Go.Proofs.Ytibnlaphkmnhfaa
