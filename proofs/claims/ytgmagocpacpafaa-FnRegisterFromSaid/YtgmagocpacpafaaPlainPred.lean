/- Enough bits of a register tell all further ones; no program is in sight. -/
import Derived.Test.YtgmagocpacpafaaPlainRec
namespace SS
theorem predict {s t x : Nat} (h : VR s t x) : ∃ S T, Short (run s t 16 x) S T ∧ S ≤ s ∧ VR S T (frm ((run s t 16 x).take S)) ∧ run S T 64 (frm ((run s t 16 x).take S)) = run s t 64 x := by
  have h8 := h.2.1
  have hhit : hit (run s t 16 x) s t = true := by
    unfold hit
    rw [h.frm 16 (by omega), run_length, beq_iff_eq]
  rcases short_or (run s t 16 x) with ⟨S, T, hS⟩ | hn
  · refine ⟨S, T, hS, ?_, ?_, ?_⟩
    · rcases Nat.lt_or_ge s S with hl | hg
      · have := hS.2.2.2.2.2.2 s t h.1 hl h.2.2.1 h.2.2.2.1
        rw [hhit] at this
        cases this
      · exact hg
    · exact ⟨hS.1, hS.2.1, hS.2.2.1, hS.2.2.2.1, frm_take_lt _ _ (okB_run _ _ _ _) (by rw [run_length]; have := hS.2.1; omega)⟩
    · have hv : VR S T (frm ((run s t 16 x).take S)) := ⟨hS.1, hS.2.1, hS.2.2.1, hS.2.2.2.1, frm_take_lt _ _ (okB_run _ _ _ _) (by rw [run_length]; have := hS.2.1; omega)⟩
      have hh := hS.2.2.2.2.1
      unfold hit at hh
      rw [beq_iff_eq, run_length] at hh
      have h8' := hS.2.1
      have key := Rec.agree (fun n => hv.rec n) (fun n => h.rec n) (fun j hj => by rw [run_eq_bits hh j (by omega)])
      refine bits_eq_run fun j _ => ?_
      have := key j
      rw [Nat.mod_eq_of_lt (bit_lt _ _ _ _), Nat.mod_eq_of_lt (bit_lt _ _ _ _)] at this
      exact this
  · have := hn s t h.1 h.2.1 h.2.2.1 h.2.2.2.1
    rw [hhit] at this
    cases this
/-- a register has the first bits of which it was made -/
theorem run_frm (s t : Nat) (l : List UInt8) (h2 : 2 ≤ s) (h8 : s ≤ 8) (h1 : 1 ≤ t) (ht : t < 2 ^ s) (hl : l.length = s) (hok : okB l = true) : run s t s (frm l) = l := by
  have := run_of_rec s t l h2 h8 h1 ht (by omega) hok (fun j hj => by omega)
  rw [hl, List.take_of_length_le (by omega)] at this
  exact this
end SS
