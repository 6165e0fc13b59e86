/- The least period and the first rotation of a sequence, as strings. -/
import Derived.Test.YtibnlaphkmnhfaaWShift
import Derived.Test.YtibnlaphkmnhfaaPlainLeast
namespace Go.Proofs.Ytibnlaphkmnhfaa
open Go.RowKit SS
set_option maxRecDepth 100000
theorem ba_iff (a b : ByteArray) : a = b ↔ a.data.toList = b.data.toList := ⟨fun h => by rw [h], ba_ext⟩
theorem rotS_fix (s : ByteArray) (k : Nat) (h1 : 1 ≤ s.size) (hk : k ≤ s.size) : rotS k s = s ↔ fixL s.data.toList k := by
  rw [ba_iff, rotS_list]
  exact rot_fix _ k (by rw [size_list]; exact h1) (by rw [size_list]; exact hk)
theorem LP.fix {s : ByteArray} {K : Nat} (h : LP s K) (k : Nat) : fixL s.data.toList k ↔ k % K = 0 := by
  have h1 : 1 ≤ s.size := Nat.le_trans h.pos h.le
  exact fix_iff h.pos ((rotS_fix s K h1 h.le).1 h.eq) (fun k hk hl hf => h.ne k hk hl ((rotS_fix s k h1 (by have := h.le; omega)).2 hf)) k
theorem LP.rot {s : ByteArray} {K : Nat} (h : LP s K) (k : Nat) (hk : k ≤ s.size) : rotS k s = s ↔ k % K = 0 := by
  rw [rotS_fix s k (Nat.le_trans h.pos h.le) hk, h.fix]
theorem LP.dvd {s : ByteArray} {K : Nat} (h : LP s K) : s.size % K = 0 := (h.rot s.size (Nat.le_refl _)).1 (rotS_all s)
theorem LP.mod {s : ByteArray} {K : Nat} (h : LP s K) (k : Nat) : k % s.size % K = k % K := Nat.mod_mod_of_dvd _ (Nat.dvd_of_mod_eq_zero h.dvd)
theorem md_of_nat (k n : Nat) : md (k : Int) n = k % n := by unfold md; omega
theorem LP.shf {s : ByteArray} {K : Nat} (h : LP s K) (k : Nat) : shf (k : Int) s = s ↔ k % K = 0 := by
  have h1 : 1 ≤ s.size := Nat.le_trans h.pos h.le
  show rotS (md (k : Int) s.size) s = s ↔ _
  rw [md_of_nat, h.rot _ (Nat.le_of_lt (Nat.mod_lt _ h1)), h.mod]
theorem LP.cor {s : ByteArray} {K : Nat} (h : LP s K) (hok : okB s.data.toList = true) (k : Nat) : cor s.data.toList s.data.toList (md (k : Int) s.size) = (s.size : Int) ↔ k % K = 0 := by
  have h1 : 1 ≤ s.size := Nat.le_trans h.pos h.le
  rw [md_of_nat]
  have hc := cor_full s.data.toList s.data.toList (k % s.size) rfl (by rw [size_list]; exact Nat.mod_lt _ h1) hok hok
  rw [size_list] at hc
  rw [hc, ← rotS_list, ← ba_iff, h.rot _ (Nat.le_of_lt (Nat.mod_lt _ h1)), h.mod]
theorem LP.unique {s : ByteArray} {K L : Nat} (h : LP s K) (k : LP s L) : K = L := by
  have h1 := (h.fix L).1 ((k.fix L).2 (Nat.mod_self L))
  have h2 := (k.fix K).1 ((h.fix K).2 (Nat.mod_self K))
  exact Nat.dvd_antisymm (Nat.dvd_of_mod_eq_zero h1) (Nat.dvd_of_mod_eq_zero h2) |>.symm ▸ rfl
theorem LP.of_fix {s t : ByteArray} {K : Nat} (h : LP s K) (hs : t.size = s.size) (hf : ∀ k, fixL t.data.toList k ↔ fixL s.data.toList k) : LP t K := by
  have h1 : 1 ≤ s.size := Nat.le_trans h.pos h.le
  have hle := h.le
  refine ⟨h.pos, by rw [hs]; exact h.le, ?_, ?_⟩
  · rw [rotS_fix t K (by omega) (by omega), hf, ← rotS_fix s K h1 h.le]
    exact h.eq
  · intro k hk hl he
    rw [rotS_fix t k (by omega) (by omega), hf, ← rotS_fix s k h1 (by omega)] at he
    exact h.ne k hk hl he
theorem LP.rotS {s : ByteArray} {K : Nat} (h : LP s K) (j : Nat) (hj : j < s.size) : LP (rotS j s) K := by
  refine h.of_fix (rotS_size j s (by omega)) fun k => ?_
  rw [rotS_list]
  exact fix_rot _ j k (by rw [size_list]; exact hj)
theorem rotS_rotS (a b : Nat) (s : ByteArray) (ha : a < s.size) (hb : b < s.size) : rotS b (rotS a s) = rotS ((a + b) % s.size) s := by
  rw [ba_iff, rotS_list, rotS_list, rotS_list, rot_rot a b _ (by rw [size_list]; exact ha) (by rw [size_list]; exact hb), size_list]
/-- the first one of all shifts -/
structure FR (s x : ByteArray) : Prop where
  some : ∃ i, i < s.size ∧ x = rotS i s
  least : ∀ i, i < s.size → ¬ (rotS i s).data.toList < x.data.toList
theorem FR.unique {s x y : ByteArray} (h : FR s x) (k : FR s y) : x = y := by
  obtain ⟨i, hi, rfl⟩ := h.some
  obtain ⟨j, hj, rfl⟩ := k.some
  exact ba_ext (List.le_antisymm (List.not_lt.1 (h.least j hj)) (List.not_lt.1 (k.least i hi)))
theorem frs_upto (s : ByteArray) (k : Nat) : (∃ i, i < k + 1 ∧ frs s (k + 1) = rotS i s) ∧ ∀ i, i < k + 1 → ¬ (rotS i s).data.toList < (frs s (k + 1)).data.toList := by
  induction k with
  | zero =>
    rw [frs_one]
    refine ⟨⟨0, by omega, (rotS_zero s).symm⟩, fun i hi => ?_⟩
    obtain rfl : i = 0 := by omega
    rw [rotS_zero]
    exact List.lt_irrefl _
  | succ k ih =>
    obtain ⟨⟨i, hi, he⟩, hl⟩ := ih
    have e : frs s (k + 1 + 1) = Lib.minS (frs s (k + 1)) (rotS (k + 1) s) := rfl
    rw [e]
    unfold Lib.minS
    split
    · rename_i hc
      refine ⟨⟨i, by omega, he⟩, fun j hj => ?_⟩
      by_cases hjk : j < k + 1
      · exact hl j hjk
      · obtain rfl : j = k + 1 := by omega
        rcases hc with hc | hc
        · exact List.lt_asymm hc
        · rw [hc]; exact List.lt_irrefl _
    · rename_i hc
      have hn : ¬ (frs s (k + 1)).data.toList < (rotS (k + 1) s).data.toList := fun h => hc (.inl h)
      refine ⟨⟨k + 1, by omega, rfl⟩, fun j hj => ?_⟩
      by_cases hjk : j < k + 1
      · exact List.not_lt.2 (List.le_trans (List.not_lt.1 hn) (List.not_lt.1 (hl j hjk)))
      · obtain rfl : j = k + 1 := by omega
        exact List.lt_irrefl _
theorem frs_FR (s : ByteArray) (h : 1 ≤ s.size) : FR s (frs s s.size) := by
  obtain ⟨⟨i, hi, he⟩, hl⟩ := frs_upto s (s.size - 1)
  rw [Nat.sub_add_cancel h] at hi he hl
  exact ⟨⟨i, hi, he⟩, hl⟩
theorem FR.rot {s x : ByteArray} (h : FR s x) (j : Nat) (hj : j < s.size) : FR (rotS j s) x := by
  have hz := rotS_size j s (by omega)
  obtain ⟨⟨i, hi, rfl⟩, hl⟩ := h
  have hn : 0 < s.size := by omega
  refine ⟨⟨(i + (s.size - j)) % s.size, by rw [hz]; exact Nat.mod_lt _ hn, ?_⟩, fun k hk => ?_⟩
  · rw [rotS_rotS j _ s hj (Nat.mod_lt _ hn)]
    congr 1
    rw [Nat.add_mod_mod, show j + (i + (s.size - j)) = i + s.size by omega, Nat.add_mod_right, Nat.mod_eq_of_lt hi]
  · rw [hz] at hk
    rw [rotS_rotS j k s hj hk]
    exact hl _ (Nat.mod_lt _ hn)
theorem frs_rot (s : ByteArray) (j : Nat) (hj : j < s.size) : frs (rotS j s) s.size = frs s s.size := by
  have h := frs_FR (rotS j s) (by rw [rotS_size j s (by omega)]; omega)
  rw [rotS_size j s (by omega)] at h
  exact h.unique ((frs_FR s (by omega)).rot j hj)
theorem frs_shf (s : ByteArray) (k : Int) (h : 1 ≤ s.size) : frs (Go.Proofs.Ytibnlaphkmnhfaa.shf k s) s.size = frs s s.size := frs_rot s _ (md_lt k s.size h)
/-- one sequence is a shift of another one exactly if both have the same first rotation -/
theorem frs_iff (a b : ByteArray) (h1 : 1 ≤ a.size) (h2 : a.size = b.size) : frs a a.size = frs b b.size ↔ ∃ k, k < a.size ∧ Go.Proofs.Ytibnlaphkmnhfaa.rotS k a = b := by
  constructor
  · intro e
    obtain ⟨i, hi, hx⟩ := (frs_FR a h1).some
    obtain ⟨j, hj, hy⟩ := (frs_FR b (by omega)).some
    rw [hx, hy] at e
    have hn : 0 < a.size := by omega
    refine ⟨(i + (a.size - j)) % a.size, Nat.mod_lt _ hn, ?_⟩
    by_cases hj0 : j = 0
    · subst hj0
      rw [rotS_zero] at e
      rw [show i + (a.size - 0) = i + a.size by omega, Nat.add_mod_right, Nat.mod_eq_of_lt hi, e]
    · have hm : (a.size - j) < a.size := by omega
      rw [← rotS_rotS i (a.size - j) a hi hm, e, rotS_rotS j (a.size - j) b hj (by omega), ← h2, show j + (a.size - j) = a.size by omega, Nat.mod_self, rotS_zero]
  · rintro ⟨k, hk, rfl⟩
    rw [rotS_size k a (by omega), frs_rot a k hk]
/-- the first shift is less than the period -/
theorem LP.first {a b : ByteArray} {K P : Nat} (h : LP a P) (hK : K < a.size) (he : Go.Proofs.Ytibnlaphkmnhfaa.rotS K a = b) (hm : ∀ k, k < K → Go.Proofs.Ytibnlaphkmnhfaa.rotS k a ≠ b) : K < P := by
  by_cases hlt : K < P
  · exact hlt
  · have hP := h.le
    have hp := h.pos
    exfalso
    refine hm (K - P) (by omega) ?_
    rw [← he]
    have e := rotS_rotS P (K - P) a (by omega) (by omega)
    rw [h.eq, show P + (K - P) = K by omega, Nat.mod_eq_of_lt hK] at e
    exact e
end Go.Proofs.Ytibnlaphkmnhfaa
