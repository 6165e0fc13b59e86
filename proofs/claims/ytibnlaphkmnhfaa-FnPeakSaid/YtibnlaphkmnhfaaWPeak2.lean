/- Where the first greatest correlation of shifted sequences is. -/
import Derived.Test.YtibnlaphkmnhfaaWPeak
import Derived.Test.YtibnlaphkmnhfaaWLeast
import Derived.Test.YtibnlaphkmnhfaaPlainCor
namespace Go.Proofs.Ytibnlaphkmnhfaa
open Go.RowKit SS
set_option maxRecDepth 100000
theorem fg_first (l : List Int) (n : Nat) : ∃ b : Nat, fg l (n + 1) = (b : Int) ∧ b < n + 1 ∧ (∀ i, i < n + 1 → l.getD i 0 ≤ l.getD b 0) ∧ ∀ i, i < b → l.getD i 0 < l.getD b 0 := by
  induction n with
  | zero =>
    refine ⟨0, fg_one l, by omega, fun i hi => ?_, fun i hi => absurd hi (by omega)⟩
    obtain rfl : i = 0 := by omega
    exact Int.le_refl _
  | succ n ih =>
    obtain ⟨b, hb, hlt, hle, hl⟩ := ih
    have e : fg l (n + 1 + 1) = if fg l (n + 1) < 0 ∨ l.getD (fg l (n + 1)).toNat 0 < l.getD (n + 1) 0 then ((n + 1 : Nat) : Int) else fg l (n + 1) := rfl
    rw [e, hb, Int.toNat_natCast]
    by_cases hc : l.getD b 0 < l.getD (n + 1) 0
    · rw [if_pos (.inr hc)]
      refine ⟨n + 1, rfl, by omega, fun i hi => ?_, fun i hi => ?_⟩
      · by_cases h : i < n + 1
        · have := hle i h; omega
        · obtain rfl : i = n + 1 := by omega
          exact Int.le_refl _
      · have := hle i hi; omega
    · rw [if_neg (by omega)]
      refine ⟨b, rfl, by omega, fun i hi => ?_, hl⟩
      by_cases h : i < n + 1
      · exact hle i h
      · obtain rfl : i = n + 1 := by omega
        omega
theorem fg_eq (l : List Int) (n b : Nat) (hb : b < n) (h1 : ∀ i, i < n → l.getD i 0 ≤ l.getD b 0) (h2 : ∀ i, i < b → l.getD i 0 < l.getD b 0) : fg l n = (b : Int) := by
  obtain ⟨c, hc, hlt, hle, hl⟩ := fg_first l (n - 1)
  rw [Nat.sub_add_cancel (by omega)] at hc hlt hle
  rw [hc]
  have e1 := hle b hb
  have e2 := h1 c hlt
  by_cases x : c < b
  · have := h2 c x; omega
  · by_cases y : b < c
    · have := hl b y; omega
    · omega
theorem ctab_getD (a b : List UInt8) (n k : Nat) (h : k < n) : (ctab a b n).getD k 0 = cor a b k := by
  rw [List.getD_eq_getElem?_getD, ctab_at a b n k h]; rfl
/-- the peak as an index -/
theorem peak_nat (a b : ByteArray) (h1 : 1 ≤ a.size) : ∃ k : Nat, peak a b = (k : Int) ∧ k < a.size ∧ (∀ i, i < a.size → cor a.data.toList b.data.toList i ≤ cor a.data.toList b.data.toList k) ∧ ∀ i, i < k → cor a.data.toList b.data.toList i < cor a.data.toList b.data.toList k := by
  obtain ⟨k, hk, hlt, hle, hl⟩ := fg_first (ctab a.data.toList b.data.toList a.size) (a.size - 1)
  rw [Nat.sub_add_cancel h1] at hk hlt hle
  refine ⟨k, hk, hlt, fun i hi => ?_, fun i hi => ?_⟩
  · have := hle i hi
    rwa [ctab_getD _ _ _ _ hi, ctab_getD _ _ _ _ hlt] at this
  · have := hl i hi
    rwa [ctab_getD _ _ _ _ (by omega), ctab_getD _ _ _ _ hlt] at this
theorem peak_of (a b : ByteArray) (k : Nat) (hk : k < a.size) (h1 : ∀ i, i < a.size → cor a.data.toList b.data.toList i ≤ cor a.data.toList b.data.toList k) (h2 : ∀ i, i < k → cor a.data.toList b.data.toList i < cor a.data.toList b.data.toList k) : peak a b = (k : Int) := by
  refine fg_eq _ _ _ hk (fun i hi => ?_) (fun i hi => ?_)
  · rw [ctab_getD _ _ _ _ hi, ctab_getD _ _ _ _ hk]; exact h1 i hi
  · rw [ctab_getD _ _ _ _ (by omega), ctab_getD _ _ _ _ hk]; exact h2 i hi
theorem peak_shift (a : ByteArray) (P s : Nat) (h : LP a P) (hok : okB a.data.toList = true) (hs : s < a.size) : peak a (Go.Proofs.Ytibnlaphkmnhfaa.rotS s a) = (((P - s % P) % P : Nat) : Int) := by
  have hp := h.pos
  have hle := h.le
  have h1 : 1 ≤ a.size := by omega
  have hz := rotS_size s a (by omega)
  have hcf : ∀ k, k < a.size → (cor a.data.toList (Go.Proofs.Ytibnlaphkmnhfaa.rotS s a).data.toList k = (a.size : Int) ↔ (s + k) % P = 0) := fun k hk => by
    have hc := cor_full a.data.toList (Go.Proofs.Ytibnlaphkmnhfaa.rotS s a).data.toList k (by rw [size_list, size_list, hz]) (by rw [size_list, hz]; exact hk) hok (okB_rot s _ hok)
    rw [size_list] at hc
    rw [hc, ← rotS_list, ← ba_iff, rotS_rotS s k a hs hk, h.rot _ (Nat.le_of_lt (Nat.mod_lt _ h1)), h.mod]
  have hbd : ∀ k, cor a.data.toList (Go.Proofs.Ytibnlaphkmnhfaa.rotS s a).data.toList k ≤ (a.size : Int) := fun k => by
    have := (cor_bd a.data.toList (Go.Proofs.Ytibnlaphkmnhfaa.rotS s a).data.toList k).2
    rwa [size_list] at this
  have hb : (P - s % P) % P < P := Nat.mod_lt _ (by omega)
  have hm := Nat.mod_lt s (show 0 < P by omega)
  have hsum : (s + (P - s % P) % P) % P = 0 := by
    rw [Nat.add_mod_mod]
    have e := Nat.div_add_mod s P
    rw [show s + (P - s % P) = P * (s / P) + P by omega, Nat.add_mod_right, Nat.mul_mod_right]
  refine peak_of a _ _ (by omega) (fun i hi => ?_) (fun i hi => ?_)
  · rw [(hcf _ (show (P - s % P) % P < a.size by omega)).2 hsum]
    exact hbd i
  · rw [(hcf _ (show (P - s % P) % P < a.size by omega)).2 hsum]
    have h3 := hbd i
    have h4 : cor a.data.toList (Go.Proofs.Ytibnlaphkmnhfaa.rotS s a).data.toList i ≠ (a.size : Int) := fun e => by
      have h5 := (hcf i (by omega)).1 e
      have e1 := Nat.dvd_of_mod_eq_zero h5
      have e2 := Nat.dvd_of_mod_eq_zero hsum
      have e3 := Nat.dvd_sub e2 e1
      rw [show s + (P - s % P) % P - (s + i) = (P - s % P) % P - i by omega] at e3
      have := Nat.le_of_dvd (by omega) e3
      omega
    omega
theorem peak_self (a : ByteArray) (P : Nat) (h : LP a P) (hok : okB a.data.toList = true) : peak a a = 0 := by
  have h1 := Nat.le_trans h.pos h.le
  have := peak_shift a P 0 h hok h1
  rw [rotS_zero, Nat.zero_mod, Nat.sub_zero, Nat.mod_self] at this
  exact this
end Go.Proofs.Ytibnlaphkmnhfaa
