/- Contracts of the functions that ask whether taps are maximal. -/
import Derived.Test.YtgdnmhigjhfpkaaDoorWOrb
import Derived.Deep.RegionHeld3
namespace Go.Proofs.YtgdnmhigjhfpkaaDoor
open Go.RowKit SS
set_option maxRecDepth 100000

theorem tv_nat' {z t : Int} (h : tv z t = true) : ∃ s' t' : Nat, z = s' ∧ t = t' ∧ VR s' t' 1 := by
  obtain ⟨h1, h2, h3, h4, h5, h6, h7⟩ := tv_yes h
  obtain ⟨s', rfl⟩ := Int.eq_ofNat_of_zero_le (show 0 ≤ z by omega)
  obtain ⟨t', rfl⟩ := Int.eq_ofNat_of_zero_le (show 0 ≤ t by omega)
  rw [Int.toNat_natCast] at h4 h6
  refine ⟨s', t', rfl, rfl, by omega, by omega, by omega, ?_, ?_⟩
  · have : ((t' : Int)) < ((2 ^ s' : Nat) : Int) := by simpa using h4
    omega
  · have : ((4 : Int)) ≤ ((2 ^ s' : Nat) : Int) := by simpa using h6
    omega
/-- the period of the state 1 -/
def per1 (s t : Nat) : Int := (orbN (nx s t) 1 : Int) - orbI (nx s t) 1
/-- the taps are maximal -/
def mx (s t : Nat) : Bool := per1 s t == 2 ^ s - 1
theorem tv_of {s t : Nat} (h : VR s t 1) : tv s t = true := by
  obtain ⟨h1, h2, h3, h4, _⟩ := h
  refine tv_mk (by omega) (by omega) (by omega) ?_
  have : ((t : Nat) : Int) < ((2 ^ s : Nat) : Int) := by omega
  simpa using this
theorem pow256 {s : Nat} (h : s ≤ 8) : (0 : Int) < 2 ^ s ∧ (2 : Int) ^ s ≤ 256 := by
  have := pow_le8 (s : Int) (by omega) (by omega)
  simpa using this

end Go.Proofs.YtgdnmhigjhfpkaaDoor
