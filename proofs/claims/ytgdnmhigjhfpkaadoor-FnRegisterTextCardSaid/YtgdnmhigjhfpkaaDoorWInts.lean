/- Lists of numbers in memory, and contracts of the functions that compare and mark them. -/
import Derived.Test.YtgdnmhigjhfpkaaDoorChecked
import Derived.Test.YtgdnmhigjhfpkaaDoorWBaseI
import Derived.Laws.OwnMore
import Derived.BigQuiet
namespace Go.Proofs.YtgdnmhigjhfpkaaDoor
open Go.RowKit
set_option maxRecDepth 100000

theorem infoI : (Tryd.prog.info? 3).map (fun i => (i.zero, i.size, i.bytes)) = some (some (.int .i64 0), 1, 8) := by kernel_rfl
/-- a slice that owns the numbers of a list, in a block from base on -/
def OwnI (w : World) (base : Nat) (v : Value) (l : List Int) : Prop := w.ownsRow base 3 1 v l.length (l.map (Value.int .i64))
/-- a slice that reads as a list of numbers, in a block below B -/
def RowI (w : World) (B : Nat) (v : Value) (l : List Int) : Prop :=
  ∃ A cap, v = .slice A l.length cap ∧ ∀ j x, l[j]? = some x → ∃ g, A = some ⟨g, 0, none⟩ ∧ g < B ∧ w.cell? ⟨g, j, none⟩ = some (.int .i64 x)
/-- what a call that makes a list returns -/
def RetI (w : World) (l : List Int) (e : Ending) (w' : World) : Prop := ∃ v, e = .returned v ∧ OwnI w' w.heap.size v l ∧ Below w.heap.size w w'

section
variable {w w' : World} {B base : Nat} {v : Value} {l : List Int}
theorem OwnI.row (h : OwnI w base v l) : RowI w w.heap.size v l := by
  rcases h.2 with ⟨rfl, h0⟩ | ⟨g, cap, cur, rfl, hb, hg, hn, hc, hs, ht⟩
  · have : l = [] := List.eq_nil_of_length_eq_zero h0
    subst this
    exact ⟨none, 0, rfl, fun j x h => by simp at h⟩
  · refine ⟨_, _, rfl, fun j x hx => ⟨g, rfl, (Array.getElem?_eq_some_iff.1 hg).1, ?_⟩⟩
    rw [cell_of_row w g j cur _ _ hg]
    have hj : j < l.length := (List.getElem?_eq_some_iff.1 hx).1
    have : (cur.toList.take (l.length * 1))[j]? = some (.int .i64 x) := by rw [ht]; simp [hx]
    rw [List.getElem?_take, if_pos (by omega)] at this
    simpa using this
theorem RowI.below (h : RowI w B v l) (hb : Below B w w') : RowI w' B v l := by
  obtain ⟨A, cap, e, h⟩ := h
  refine ⟨A, cap, e, fun j x hx => ?_⟩
  obtain ⟨g, e, hg, hc⟩ := h j x hx
  exact ⟨g, e, hg, (hb.cell (p := ⟨g, j, none⟩) hg).trans hc⟩
theorem RowI.drewN (h : RowI w B v l) (n : Nat) : RowI (w.drewN n) B v l := h
theorem OwnI.drewN (h : OwnI w base v l) (n : Nat) : OwnI (w.drewN n) base v l := h
theorem RowI.mono {B' : Nat} (h : RowI w B v l) (hB : B ≤ B') : RowI w B' v l := by
  obtain ⟨A, cap, e, h⟩ := h
  refine ⟨A, cap, e, fun j x hx => ?_⟩
  obtain ⟨g, e, hg, hc⟩ := h j x hx
  exact ⟨g, e, by omega, hc⟩
/-- the numbers of a slice that is not empty lie in one block -/
theorem RowI.form (h : RowI w B v l) (h0 : l ≠ []) : ∃ g cap, v = .slice (some ⟨g, 0, none⟩) l.length cap ∧ g < B ∧ ∀ j x, l[j]? = some x → w.cell? ⟨g, j, none⟩ = some (.int .i64 x) := by
  obtain ⟨A, cap, e, h⟩ := h
  have hl : 0 < l.length := List.length_pos_iff.2 h0
  obtain ⟨g, rfl, hg, _⟩ := h 0 l[0] (List.getElem?_eq_getElem hl)
  refine ⟨g, cap, e, hg, fun j x hx => ?_⟩
  obtain ⟨g', e', _, hc⟩ := h j x hx
  cases e'
  exact hc
theorem RowI.nil (h : RowI w B v []) : ∃ A cap, v = .slice A 0 cap := by
  obtain ⟨A, cap, e, _⟩ := h
  exact ⟨A, cap, e⟩
theorem RowI.any (h : RowI w B v l) : ∃ A cap, v = .slice A l.length cap := by
  obtain ⟨A, cap, e, _⟩ := h
  exact ⟨A, cap, e⟩
theorem OwnI.keep (h : OwnI w base v l) (hb : Below w.heap.size w w') : OwnI w' base v l := by
  refine ⟨h.1, ?_⟩
  rcases h.2 with hn | ⟨g, cap, cur, hv, hg, hh, r⟩
  · exact .inl hn
  · exact .inr ⟨g, cap, cur, hv, hg, (hb.block g (Array.getElem?_eq_some_iff.1 hh).1).trans hh, r⟩
theorem OwnI.form (h : OwnI w base v l) (h0 : l ≠ []) : ∃ g cap, v = .slice (some ⟨g, 0, none⟩) l.length cap ∧ base ≤ g ∧ g < w.heap.size ∧ ∀ j, w.frozen? ⟨g, j, none⟩ = false := by
  rcases h.2 with ⟨_, h1⟩ | ⟨g, cap, cur, hv, hg, hh, r⟩
  · exact absurd (List.eq_nil_of_length_eq_zero h1) h0
  · exact ⟨g, cap, hv, hg, (Array.getElem?_eq_some_iff.1 hh).1, fun j => frozen_of_row w g j _ _ hh⟩
theorem OwnI.set {g cap n : Nat} (h : OwnI w base (.slice (some ⟨g, 0, none⟩) n cap) l) (j : Nat) (x : Int) : OwnI (w.setCell ⟨g, j, none⟩ (.int .i64 x)) base (.slice (some ⟨g, 0, none⟩) n cap) (l.set j x) := by
  have hn : n = l.length := by
    rcases h.2 with ⟨h1, _⟩ | ⟨_, _, _, h1, _⟩
    · simp at h1
    · simp at h1; exact h1.2.1
  subst hn
  have := (World.ownsRow.stored h j (.int .i64 x)).1
  unfold OwnI
  rw [List.length_set, List.map_set]
  exact this
end
/-- consecutive numbers -/
def upI (k : Int) (n : Nat) : List Int := (List.range n).map fun j : Nat => k + (j : Int)
theorem upI_length (k : Int) (n : Nat) : (upI k n).length = n := by simp [upI]
theorem upI_at (k : Int) (n j : Nat) (h : j < n) : (upI k n)[j]? = some (k + (j : Int)) := by simp [upI, h]
/-- what marking a list has come to -/
def mkd (l : List Int) (k : Int) (j : Nat) : List Int := upI k j ++ l.drop j
theorem mkd_zero (l : List Int) (k : Int) : mkd l k 0 = l := by simp [mkd, upI]
theorem mkd_all (l : List Int) (k : Int) : mkd l k l.length = upI k l.length := by simp [mkd]
theorem mkd_length (l : List Int) (k : Int) (j : Nat) (h : j ≤ l.length) : (mkd l k j).length = l.length := by simp [mkd, upI]; omega
theorem mkd_step (l : List Int) (k : Int) (j : Nat) (h : j < l.length) : (mkd l k j).set j (k + (j : Int)) = mkd l k (j + 1) := by
  unfold mkd
  rw [List.set_append_right _ _ (by rw [upI_length]; exact Nat.le_refl _), upI_length, Nat.sub_self]
  rw [List.drop_eq_getElem_cons h, List.set_cons_zero]
  simp [upI, List.range_succ]

end Go.Proofs.YtgdnmhigjhfpkaaDoor
