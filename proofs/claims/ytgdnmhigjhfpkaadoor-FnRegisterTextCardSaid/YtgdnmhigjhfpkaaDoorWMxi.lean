/- Some sizes have maximal taps. -/
import Derived.Test.YtgdnmhigjhfpkaaDoorWMaxT
import Derived.Test.YtgdnmhigjhfpkaaDoorPlainTurn
namespace Go.Proofs.YtgdnmhigjhfpkaaDoor
open Go.RowKit SS
set_option maxRecDepth 100000
theorem mx_of_isM {s t : Nat} (hv : VR s t 1) (h : isM s t = true) : mx s t = true := by
  have h1 := (isM_iff hv).1 h
  obtain ⟨⟨hI, _, _⟩, hN⟩ := hv.orb
  have hp : ((2 : Int) ^ s) = ((2 ^ s : Nat) : Int) := by simp
  have h4 := hv.four
  unfold Mxp at h1
  unfold mx per1
  rw [beq_iff_eq, hp]
  omega
theorem mtaps_ne (s : Nat) (h2 : 2 ≤ s) (h5 : s ≤ 8) : mtaps s (2 ^ s) ≠ [] := by
  have key : ∃ t, VR s t 1 ∧ isM s t = true := by
    rcases (show s = 2 ∨ s = 3 ∨ s = 4 ∨ s = 5 ∨ s = 6 ∨ s = 7 ∨ s = 8 by omega) with rfl | rfl | rfl | rfl | rfl | rfl | rfl
    · exact ⟨3, ⟨by omega, by omega, by omega, by omega, by omega⟩, by decide +kernel⟩
    · exact ⟨3, ⟨by omega, by omega, by omega, by omega, by omega⟩, by decide +kernel⟩
    · exact ⟨3, ⟨by omega, by omega, by omega, by omega, by omega⟩, by decide +kernel⟩
    · exact ⟨5, ⟨by omega, by omega, by omega, by omega, by omega⟩, by decide +kernel⟩
    · exact ⟨3, ⟨by omega, by omega, by omega, by omega, by omega⟩, by decide +kernel⟩
    · exact ⟨3, ⟨by omega, by omega, by omega, by omega, by omega⟩, by decide +kernel⟩
    · exact ⟨29, ⟨by omega, by omega, by omega, by omega, by omega⟩, by decide +kernel⟩
  obtain ⟨t, hv, hm⟩ := key
  have hmem : (t : Int) ∈ mtaps s (2 ^ s) := by
    unfold mtaps
    rw [List.mem_map]
    refine ⟨t, ?_, rfl⟩
    rw [List.mem_filter, List.mem_range]
    refine ⟨hv.2.2.2.1, ?_⟩
    rw [mx_of_isM hv hm]
    simp
    exact hv.2.2.1
  intro h
  rw [h] at hmem
  simp at hmem
theorem mtaps_at (s k : Nat) : ∀ x ∈ mtaps s k, ∃ t : Nat, x = (t : Int) ∧ 1 ≤ t ∧ t < k ∧ mx s t = true := by
  intro x hx
  unfold mtaps at hx
  obtain ⟨t, ht, rfl⟩ := List.mem_map.1 hx
  rw [List.mem_filter] at ht
  simp at ht
  exact ⟨t, rfl, ht.2.1, ht.1, ht.2.2⟩
end Go.Proofs.YtgdnmhigjhfpkaaDoor
