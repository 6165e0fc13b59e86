/- Contracts of many steps. -/
import Derived.Test.YtgdnmhigjhfpkaaDoorWNext
import Derived.Test.YtgdnmhigjhfpkaaDoorWBase
namespace Go.Proofs.YtgdnmhigjhfpkaaDoor
open Go.RowKit SS
set_option maxRecDepth 100000

theorem rv_mk {s t x : Nat} (h : VR s t x) : rv s t x = true := by
  obtain ⟨h1, h2, h3, h4, h5⟩ := h
  have e : (2 : Int) ^ s = ((2 ^ s : Nat) : Int) := by simp
  have ht : tv s t = true := tv_mk (by omega) (by omega) (by omega) (by rw [Int.toNat_natCast, e]; omega)
  unfold rv
  rw [ht, Bool.true_and]
  exact decide_eq_true ⟨by omega, by rw [Int.toNat_natCast, e]; omega⟩
theorem rv_nat {s t x : Int} (h : rv s t x = true) : ∃ s' t' x' : Nat, s = s' ∧ t = t' ∧ x = x' ∧ VR s' t' x' := by
  obtain ⟨ht, h0, h1⟩ := rv_tv h
  obtain ⟨g1, g2, g3, g4, _, _, _⟩ := tv_yes ht
  obtain ⟨s', rfl⟩ := Int.eq_ofNat_of_zero_le (show 0 ≤ s by omega)
  obtain ⟨t', rfl⟩ := Int.eq_ofNat_of_zero_le (show 0 ≤ t by omega)
  obtain ⟨x', rfl⟩ := Int.eq_ofNat_of_zero_le h0
  have e : (2 : Int) ^ s' = ((2 ^ s' : Nat) : Int) := by simp
  rw [Int.toNat_natCast, e] at g4 h1
  exact ⟨s', t', x', rfl, rfl, rfl, by omega, by omega, by omega, by omega, by omega⟩

/-- one call behind the other -/
theorem next {W w1 w2 : World} {B : Nat} (h1 : Below B W w1) (h2 : Below w1.heap.size w1 w2) (hB : B ≤ W.heap.size := by simp) : Below B W w2 :=
  h1.trans (h2.mono (Nat.le_trans hB h1.size))
theorem shutBox {w w2 : World} {o : Obj} (hb : Below (w.alloc o).heap.size (w.alloc o) w2) : Below w.heap.size w w2 :=
  ((Below.refl _ _).alloc (Nat.le_refl _) o).trans (hb.mono (by simp))
theorem shutBox2 {w w2 : World} {o p : Obj} (hb : Below ((w.alloc o).alloc p).heap.size ((w.alloc o).alloc p) w2) : Below w.heap.size w w2 :=
  (((Below.refl _ _).alloc (Nat.le_refl _) o).alloc (by simp) p).trans (hb.mono (by simp; omega))
end Go.Proofs.YtgdnmhigjhfpkaaDoor
