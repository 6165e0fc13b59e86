/- Plain facts on the shortest register with given bits; no program is in sight. -/
import Derived.Test.YtgdnmhigjhfpkaaDoorPlainReg
import Derived.Test.YtgdnmhigjhfpkaaDoorPlainFrom
namespace SS
/-- the register that begins with bits has all of them -/
def hit (l : List UInt8) (s t : Nat) : Bool := run s t l.length (frm (l.take s)) == l
/-- the first size, and the first taps of it, with given bits -/
def Short (l : List UInt8) (S T : Nat) : Prop := 2 ≤ S ∧ S ≤ 8 ∧ 1 ≤ T ∧ T < 2 ^ S ∧ hit l S T = true ∧ (∀ t, 1 ≤ t → t < T → hit l S t = false) ∧ (∀ s t, 2 ≤ s → s < S → 1 ≤ t → t < 2 ^ s → hit l s t = false)
def NoShort (l : List UInt8) : Prop := ∀ s t, 2 ≤ s → s ≤ 8 → 1 ≤ t → t < 2 ^ s → hit l s t = false
theorem least (p : Nat → Prop) (n : Nat) (h : p n) : ∃ m, p m ∧ ∀ k, k < m → ¬ p k := by
  induction n using Nat.strongRecOn with
  | _ n ih =>
    by_cases hc : ∃ k, k < n ∧ p k
    · obtain ⟨k, hk, hp⟩ := hc
      exact ih k hk hp
    · exact ⟨n, h, fun k hk hp => hc ⟨k, hk, hp⟩⟩
theorem short_or (l : List UInt8) : (∃ S T, Short l S T) ∨ NoShort l := by
  by_cases h : ∃ s, (2 ≤ s ∧ s ≤ 8) ∧ ∃ t, (1 ≤ t ∧ t < 2 ^ s) ∧ hit l s t = true
  · obtain ⟨s, hs⟩ := h
    obtain ⟨S, ⟨⟨h1, h2⟩, t, ht⟩, hS⟩ := least (fun s => (2 ≤ s ∧ s ≤ 8) ∧ ∃ t, (1 ≤ t ∧ t < 2 ^ s) ∧ hit l s t = true) s hs
    obtain ⟨T, ⟨⟨h3, h4⟩, h5⟩, hT⟩ := least (fun t => (1 ≤ t ∧ t < 2 ^ S) ∧ hit l S t = true) t ht
    refine .inl ⟨S, T, h1, h2, h3, h4, h5, fun t ht1 ht2 => ?_, fun s t hs1 hs2 ht1 ht2 => ?_⟩
    · have := hT t ht2
      cases hb : hit l S t with
      | false => rfl
      | true => exact absurd ⟨⟨ht1, by omega⟩, hb⟩ this
    · have := hS s hs2
      cases hb : hit l s t with
      | false => rfl
      | true => exact absurd ⟨⟨hs1, by omega⟩, t, ⟨ht1, ht2⟩, hb⟩ this
  · refine .inr fun s t h1 h2 h3 h4 => ?_
    cases hb : hit l s t with
    | false => rfl
    | true => exact absurd ⟨s, ⟨h1, h2⟩, t, ⟨h3, h4⟩, hb⟩ h
theorem short_vr (l : List UInt8) (s t : Nat) (h2 : 2 ≤ s) (h8 : s ≤ 8) (h1 : 1 ≤ t) (ht : t < 2 ^ s) (hl : 8 ≤ l.length) (hb : okB l = true) : VR s t (frm (l.take s)) :=
  ⟨h2, h8, h1, ht, frm_take_lt l s hb (by omega)⟩
end SS
