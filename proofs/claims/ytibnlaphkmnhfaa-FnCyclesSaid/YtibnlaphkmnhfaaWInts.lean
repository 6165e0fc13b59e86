/- Lists of numbers in memory, and contracts of the functions that compare and mark them. -/
import Derived.Test.YtibnlaphkmnhfaaChecked
import Derived.Test.YtibnlaphkmnhfaaWBaseI
import Derived.Laws.OwnMore
import Derived.BigQuiet
namespace Go.Proofs.Ytibnlaphkmnhfaa
open Go.RowKit
set_option maxRecDepth 100000

theorem infoI : (Try.prog.info? 3).map (fun i => (i.zero, i.size, i.bytes)) = some (some (.int .i64 0), 1, 8) := by kernel_rfl
/-- a slice that owns the numbers of a list, in a block from base on -/
def OwnI (w : World) (base : Nat) (v : Value) (l : List Int) : Prop := w.ownsRow base 3 1 v l.length (l.map (Value.int .i64))
/-- a slice that reads as a list of numbers, in a block below B -/
def RowI (w : World) (B : Nat) (v : Value) (l : List Int) : Prop :=
  ∃ A cap, v = .slice A l.length cap ∧ ∀ j x, l[j]? = some x → ∃ g, A = some ⟨g, 0, none⟩ ∧ g < B ∧ w.cell? ⟨g, j, none⟩ = some (.int .i64 x)
/-- what a call that makes a list returns -/
def RetI (w : World) (l : List Int) (e : Ending) (w' : World) : Prop := ∃ v, e = .returned v ∧ OwnI w' w.heap.size v l ∧ Below w.heap.size w w'

section
variable {w w' : World} {B base : Nat} {v : Value} {l : List Int}
theorem OwnI.row (h : OwnI w base v l) : RowI w w.heap.size v l := by
  rcases h.2 with ⟨rfl, h0⟩ | ⟨g, cap, cur, rfl, hb, hg, hn, hc, hs, ht⟩
  · have : l = [] := List.eq_nil_of_length_eq_zero h0
    subst this
    exact ⟨none, 0, rfl, fun j x h => by simp at h⟩
  · refine ⟨_, _, rfl, fun j x hx => ⟨g, rfl, (Array.getElem?_eq_some_iff.1 hg).1, ?_⟩⟩
    rw [cell_of_row w g j cur _ _ hg]
    have hj : j < l.length := (List.getElem?_eq_some_iff.1 hx).1
    have : (cur.toList.take (l.length * 1))[j]? = some (.int .i64 x) := by rw [ht]; simp [hx]
    rw [List.getElem?_take, if_pos (by omega)] at this
    simpa using this
theorem RowI.below (h : RowI w B v l) (hb : Below B w w') : RowI w' B v l := by
  obtain ⟨A, cap, e, h⟩ := h
  refine ⟨A, cap, e, fun j x hx => ?_⟩
  obtain ⟨g, e, hg, hc⟩ := h j x hx
  exact ⟨g, e, hg, (hb.cell (p := ⟨g, j, none⟩) hg).trans hc⟩
theorem RowI.drewN (h : RowI w B v l) (n : Nat) : RowI (w.drewN n) B v l := h
theorem OwnI.drewN (h : OwnI w base v l) (n : Nat) : OwnI (w.drewN n) base v l := h
theorem RowI.mono {B' : Nat} (h : RowI w B v l) (hB : B ≤ B') : RowI w B' v l := by
  obtain ⟨A, cap, e, h⟩ := h
  refine ⟨A, cap, e, fun j x hx => ?_⟩
  obtain ⟨g, e, hg, hc⟩ := h j x hx
  exact ⟨g, e, by omega, hc⟩
/-- the numbers of a slice that is not empty lie in one block -/
theorem RowI.form (h : RowI w B v l) (h0 : l ≠ []) : ∃ g cap, v = .slice (some ⟨g, 0, none⟩) l.length cap ∧ g < B ∧ ∀ j x, l[j]? = some x → w.cell? ⟨g, j, none⟩ = some (.int .i64 x) := by
  obtain ⟨A, cap, e, h⟩ := h
  have hl : 0 < l.length := List.length_pos_iff.2 h0
  obtain ⟨g, rfl, hg, _⟩ := h 0 l[0] (List.getElem?_eq_getElem hl)
  refine ⟨g, cap, e, hg, fun j x hx => ?_⟩
  obtain ⟨g', e', _, hc⟩ := h j x hx
  cases e'
  exact hc
theorem RowI.nil (h : RowI w B v []) : ∃ A cap, v = .slice A 0 cap := by
  obtain ⟨A, cap, e, _⟩ := h
  exact ⟨A, cap, e⟩
theorem RowI.any (h : RowI w B v l) : ∃ A cap, v = .slice A l.length cap := by
  obtain ⟨A, cap, e, _⟩ := h
  exact ⟨A, cap, e⟩
theorem OwnI.keep (h : OwnI w base v l) (hb : Below w.heap.size w w') : OwnI w' base v l := by
  refine ⟨h.1, ?_⟩
  rcases h.2 with hn | ⟨g, cap, cur, hv, hg, hh, r⟩
  · exact .inl hn
  · exact .inr ⟨g, cap, cur, hv, hg, (hb.block g (Array.getElem?_eq_some_iff.1 hh).1).trans hh, r⟩
theorem OwnI.form (h : OwnI w base v l) (h0 : l ≠ []) : ∃ g cap, v = .slice (some ⟨g, 0, none⟩) l.length cap ∧ base ≤ g ∧ g < w.heap.size ∧ ∀ j, w.frozen? ⟨g, j, none⟩ = false := by
  rcases h.2 with ⟨_, h1⟩ | ⟨g, cap, cur, hv, hg, hh, r⟩
  · exact absurd (List.eq_nil_of_length_eq_zero h1) h0
  · exact ⟨g, cap, hv, hg, (Array.getElem?_eq_some_iff.1 hh).1, fun j => frozen_of_row w g j _ _ hh⟩
theorem OwnI.set {g cap n : Nat} (h : OwnI w base (.slice (some ⟨g, 0, none⟩) n cap) l) (j : Nat) (x : Int) : OwnI (w.setCell ⟨g, j, none⟩ (.int .i64 x)) base (.slice (some ⟨g, 0, none⟩) n cap) (l.set j x) := by
  have hn : n = l.length := by
    rcases h.2 with ⟨h1, _⟩ | ⟨_, _, _, h1, _⟩
    · simp at h1
    · simp at h1; exact h1.2.1
  subst hn
  have := (World.ownsRow.stored h j (.int .i64 x)).1
  unfold OwnI
  rw [List.length_set, List.map_set]
  exact this
end
/-- consecutive numbers -/
def upI (k : Int) (n : Nat) : List Int := (List.range n).map fun j : Nat => k + (j : Int)
theorem upI_length (k : Int) (n : Nat) : (upI k n).length = n := by simp [upI]
theorem upI_at (k : Int) (n j : Nat) (h : j < n) : (upI k n)[j]? = some (k + (j : Int)) := by simp [upI, h]
/-- what marking a list has come to -/
def mkd (l : List Int) (k : Int) (j : Nat) : List Int := upI k j ++ l.drop j
theorem mkd_zero (l : List Int) (k : Int) : mkd l k 0 = l := by simp [mkd, upI]
theorem mkd_all (l : List Int) (k : Int) : mkd l k l.length = upI k l.length := by simp [mkd]
theorem mkd_length (l : List Int) (k : Int) (j : Nat) (h : j ≤ l.length) : (mkd l k j).length = l.length := by simp [mkd, upI]; omega
theorem mkd_step (l : List Int) (k : Int) (j : Nat) (h : j < l.length) : (mkd l k j).set j (k + (j : Int)) = mkd l k (j + 1) := by
  unfold mkd
  rw [List.set_append_right _ _ (by rw [upI_length]; exact Nat.le_refl _), upI_length, Nat.sub_self]
  rw [List.drop_eq_getElem_cons h, List.set_cons_zero]
  simp [upI, List.range_succ]

set_option maxHeartbeats 1000000 in
theorem eqInts (v1 v2 : Value) (l : List Int) (w : World) (B : Nat) (h1 : RowI w B v1 l) (h2 : RowI w B v2 l) (hl : l.length ≤ 100000) :
    Calls Try.prog 37 #[v1, v2] w fun e w' => e = .returned (.bool true) ∧ ∃ n, w' = w.drewN n := by
  by_cases h0 : l = []
  · subst h0
    obtain ⟨A1, c1, rfl⟩ := h1.nil
    obtain ⟨A2, c2, rfl⟩ := h2.nil
    clear h1 h2
    go_enter Try.func37, Try.ntmps37
    go_wp2
    go_loop [5] (fun i => i = .int .i64 0) (fun _ => 0)
    case atStart => rfl
    case round =>
      obtain rfl := hrel
      go_wp2
      go_ret
      exact ⟨rfl, 0, rfl⟩
  · obtain ⟨g1, c1, rfl, _, k1⟩ := h1.form h0
    obtain ⟨g2, c2, rfl, _, k2⟩ := h2.form h0
    have K1 := Lib.hid k1
    have K2 := Lib.hid k2
    clear h1 h2 k1 k2 h0
    go_enter Try.func37, Try.ntmps37
    go_wp2
    go_loopw [5] (fun i wr => ∃ j n : Nat, j ≤ l.length ∧ i = .int .i64 (j : Int) ∧ wr = w.drewN n) (fun i _ => l.length - (intOf i).toNat)
    case atStart => exact ⟨0, 0, Nat.zero_le _, rfl, rfl⟩
    case round =>
      obtain ⟨j, n, hj, rfl, rfl⟩ := hrel
      by_cases hlt : j < l.length
      · have c1 := K1.out j _ (List.getElem?_eq_getElem hlt)
        have c2 := K2.out j _ (List.getElem?_eq_getElem hlt)
        generalize l[j] = x at c1 c2
        go_wp2_with fail
        go_quiet (fail)
        go_wp2
        go_roundw
        case rel => exact ⟨j + 1, _, by omega, by go_num, rfl⟩
        case measure => simp [intOf]; omega
      · go_wp2
        go_ret
        exact ⟨rfl, n, rfl⟩
set_option maxHeartbeats 1000000 in
theorem markInts (v : Value) (l : List Int) (w : World) (base : Nat) (k : Nat) (h : OwnI w base v l) (hl : l.length ≤ 100000) (hk : k ≤ 100000) :
    Calls Try.prog 38 #[v, .int .i64 k] w fun e w' => e = .returned (.int .i64 ((k + l.length : Nat) : Int)) ∧ OwnI w' base v (upI k l.length) ∧ Below base w w' := by
  by_cases h0 : l = []
  · subst h0
    obtain ⟨A1, c1, rfl⟩ := h.row.nil
    have H := Lib.hid h
    clear h
    go_enter Try.func38, Try.ntmps38
    go_wp2
    go_loop [1, 5] (fun p i => p = .int .i64 (k : Int) ∧ i = .int .i64 0) (fun _ _ => 0)
    case atStart => exact ⟨rfl, rfl⟩
    case round =>
      obtain ⟨rfl, rfl⟩ := hrel
      go_wp2
      go_ret
      exact ⟨rfl, H.out, Below.refl _ _⟩
  · obtain ⟨g, c, rfl, hb, _, _⟩ := h.form h0
    have H := Lib.hid h
    clear h
    have hl0 : 0 < l.length := List.length_pos_iff.2 h0
    clear h0
    go_enter Try.func38, Try.ntmps38
    go_wp2
    go_loopw [1, 5] (fun p i wr => ∃ j : Nat, j ≤ l.length ∧ p = .int .i64 ((k + j : Nat) : Int) ∧ i = .int .i64 (j : Int) ∧ OwnI wr base (.slice (some ⟨g, 0, none⟩) l.length c) (mkd l k j) ∧ Below base w wr) (fun _ i _ => l.length - (intOf i).toNat)
    case atStart => exact ⟨0, Nat.zero_le _, rfl, rfl, by rw [mkd_zero]; exact H.out, Below.refl _ _⟩
    case round =>
      obtain ⟨j, hj, rfl, rfl, ho, hw⟩ := hrel
      have HO := Lib.hid ho
      by_cases hlt : j < l.length
      · have hne : mkd l k j ≠ [] := fun e => by have := mkd_length l k j hj; rw [e] at this; simp at this; omega
        obtain ⟨g', c', e', hb', hlt', hfz⟩ := ho.form hne
        have hg : g' = g := by simp at e'; exact e'.1.symm
        subst hg
        have f3 := hfz j
        obtain ⟨g2, c2, e2, _, hc⟩ := ho.row.form hne
        have hg2 : g2 = g' := by simp at e2; exact e2.1.symm
        subst hg2
        have c3 := hc j _ (List.getElem?_eq_getElem (by rw [mkd_length l k j hj]; exact hlt))
        obtain ⟨old, ho'⟩ : ∃ old, wr.cell? ⟨g2, j, none⟩ = some old := ⟨_, c3⟩
        clear c3 hc hfz e' e2 hne ho
        have HS := Lib.hid (HO.out.set j (k + j : Int))
        rw [mkd_step l k j hlt] at HS
        clear HO
        go_wp2
        go_roundw
        case rel => exact ⟨j + 1, by omega, by go_num, by go_num, by simpa using HS.out, hw.setCell hb _⟩
        case measure => simp [intOf]; omega
      · obtain rfl : j = l.length := by omega
        clear ho
        rw [mkd_all] at HO
        go_wp2
        go_ret
        exact ⟨rfl, HO.out, hw⟩
set_option maxHeartbeats 1000000 in
theorem heldInts (v : Value) (n : Nat) (w : World) (B : Nat) (k : Nat) (h : RowI w B v (upI k n)) (hl : n ≤ 100000) (hk : k ≤ 100000) :
    Calls Try.prog 39 #[v, .int .i64 k] w fun e w' => e = .returned (.int .i64 ((k + n : Nat) : Int)) ∧ w = w' := by
  by_cases h0 : n = 0
  · subst h0
    obtain ⟨A1, c1, rfl⟩ := RowI.nil (show RowI w B v [] from h)
    clear h
    go_enter Try.func39, Try.ntmps39
    go_wp2
    go_loop [1, 5] (fun p i => p = .int .i64 (k : Int) ∧ i = .int .i64 0) (fun _ _ => 0)
    case atStart => exact ⟨rfl, rfl⟩
    case round =>
      obtain ⟨rfl, rfl⟩ := hrel
      go_wp2
      go_ret
      exact ⟨rfl, rfl⟩
  · obtain ⟨g, c, rfl, hb, hc⟩ := h.form (fun e => h0 (by have := upI_length k n; rw [e] at this; simpa using this.symm))
    rw [upI_length]
    have HC := Lib.hid hc
    clear h hc
    go_enter Try.func39, Try.ntmps39
    go_wp2
    go_loop [1, 5] (fun p i => ∃ j : Nat, j ≤ n ∧ p = .int .i64 ((k + j : Nat) : Int) ∧ i = .int .i64 (j : Int)) (fun _ i => n - (intOf i).toNat)
    case atStart => exact ⟨0, Nat.zero_le _, rfl, rfl⟩
    case round =>
      obtain ⟨j, hj, rfl, rfl⟩ := hrel
      by_cases hlt : j < n
      · have c3 := HC.out j _ (upI_at k n j hlt)
        rw [show (k : Int) + (j : Int) = ((k + j : Nat) : Int) by omega] at c3
        go_wp2
        go_round
        case rel => exact ⟨j + 1, by omega, by go_num, by go_num⟩
        case measure => simp [intOf]; omega
      · obtain rfl : j = n := by omega
        go_wp2
        go_ret
        exact ⟨rfl, rfl⟩
set_option maxHeartbeats 1000000 in
theorem ssInts_yes (v1 v2 : Value) (l : List Int) (w : World) (B : Nat) (h1 : RowI w B v1 l) (h2 : RowI w B v2 l) (hl : l.length ≤ 100000) :
    Calls Try.prog 27 #[v1, v2] w fun e w' => e = .returned (.bool true) ∧ ∃ n, w' = w.drewN n := by
  by_cases h0 : l = []
  · subst h0
    obtain ⟨A1, c1, rfl⟩ := h1.nil
    obtain ⟨A2, c2, rfl⟩ := h2.nil
    clear h1 h2
    go_enter Try.func27, Try.ntmps27
    go_wp2
    go_loop [5] (fun i => i = .int .i64 0) (fun _ => 0)
    case atStart => rfl
    case round =>
      obtain rfl := hrel
      go_wp2
      go_ret
      exact ⟨rfl, 0, rfl⟩
  · obtain ⟨g1, c1, rfl, _, k1⟩ := h1.form h0
    obtain ⟨g2, c2, rfl, _, k2⟩ := h2.form h0
    have K1 := Lib.hid k1
    have K2 := Lib.hid k2
    clear h1 h2 k1 k2 h0
    go_enter Try.func27, Try.ntmps27
    go_wp2
    go_loopw [5] (fun i wr => ∃ j n : Nat, j ≤ l.length ∧ i = .int .i64 (j : Int) ∧ wr = w.drewN n) (fun i _ => l.length - (intOf i).toNat)
    case atStart => exact ⟨0, 0, Nat.zero_le _, rfl, rfl⟩
    case round =>
      obtain ⟨j, n, hj, rfl, rfl⟩ := hrel
      by_cases hlt : j < l.length
      · have c1 := K1.out j _ (List.getElem?_eq_getElem hlt)
        have c2 := K2.out j _ (List.getElem?_eq_getElem hlt)
        generalize l[j] = x at c1 c2
        go_wp2_with fail
        go_quiet (fail)
        go_wp2
        go_roundw
        case rel => exact ⟨j + 1, _, by omega, by go_num, rfl⟩
        case measure => simp [intOf]; omega
      · go_wp2
        go_ret
        exact ⟨rfl, n, rfl⟩
end Go.Proofs.Ytibnlaphkmnhfaa
