/- Plain facts on maximal registers; no program is in sight. -/
import Derived.Test.YtgdnmhigjhfpkaaDoorPlainOrb
namespace SS
theorem perm_range (m : Nat) (l : List Nat) (hn : l.Nodup) (hl : ∀ x ∈ l, x < m) (hm : l.length = m) : l.Perm (List.range m) := by
  induction m generalizing l with
  | zero =>
    have : l = [] := List.eq_nil_of_length_eq_zero hm
    subst this
    simp
  | succ m ih =>
    have hmem : m ∈ l := by
      apply Classical.byContradiction
      intro hc
      have := nodup_le m l hn (fun x hx => by
        have h1 := hl x hx
        have h2 : x ≠ m := fun e => hc (e ▸ hx)
        omega)
      omega
    have h1 := ih (l.erase m) (hn.erase m) (fun x hx => by
      have hx' := (hn.mem_erase_iff).1 hx
      have := hl x hx'.2
      have := hx'.1
      omega) (by rw [List.length_erase_of_mem hmem]; omega)
    have h2 := List.perm_cons_erase hmem
    rw [List.range_succ]
    exact h2.trans (((h1.cons m).trans (List.perm_append_singleton m (List.range m)).symm))
theorem nx_zero (s t : Nat) : nx s t 0 = 0 := by simp [nx, par_zero]
theorem it_zero (s t k : Nat) : it (nx s t) k 0 = 0 := by
  induction k with
  | zero => rfl
  | succ k ih =>
    show it (nx s t) k (nx s t 0) = 0
    rw [nx_zero, ih]
theorem states_nodup {f : Nat → Nat} {x n : Nat} (h : Dis f x n) : ((List.range n).map fun i => it f i x).Nodup := by
  unfold List.Nodup
  rw [List.pairwise_map]
  refine List.Pairwise.imp_of_mem ?_ (List.pairwise_lt_range (n := n))
  intro a b _ hb hab
  exact h a b hab (by simpa using hb)
/-- the period of the state 1 is the greatest -/
def Mxp (s t : Nat) : Prop := orbN (nx s t) 1 = orbI (nx s t) 1 + (2 ^ s - 1)
theorem VR.four {s t x : Nat} (h : VR s t x) : 4 ≤ 2 ^ s := Nat.pow_le_pow_right (n := 2) (by decide) h.1
theorem Mxp.orb {s t : Nat} (hv : VR s t 1) (h : Mxp s t) : orbI (nx s t) 1 = 0 ∧ orbN (nx s t) 1 = 2 ^ s - 1 ∧ ∀ j, it (nx s t) j 1 ≠ 0 := by
  obtain ⟨⟨hI, he, hd⟩, hN⟩ := hv.orb
  have hl := fun n => itnx_lt s t 1 hv n
  have h4 := hv.four
  unfold Mxp at h
  generalize orbI (nx s t) 1 = I at *
  generalize orbN (nx s t) 1 = N at *
  have hI0 : I = 0 := by
    rcases Nat.eq_zero_or_pos I with e | hp
    · exact e
    · exfalso
      have hN' : N = 2 ^ s := by omega
      have hI1 : I = 1 := by omega
      have hp := perm_range (2 ^ s) _ (states_nodup hd) (fun y hy => by
        obtain ⟨i, _, rfl⟩ := List.mem_map.1 hy
        exact hl i) (by simp [hN'])
      have h0 : 0 ∈ (List.range N).map fun i => it (nx s t) i 1 := hp.mem_iff.2 (by simp; exact Nat.two_pow_pos _)
      obtain ⟨j, hj, hj0⟩ := List.mem_map.1 h0
      rw [List.mem_range] at hj
      have hj1 : it (nx s t) (j + 1) 1 = 0 := by rw [it_succ, hj0, nx_zero]
      by_cases hjN : j + 1 < N
      · exact hd j (j + 1) (by omega) hjN (by rw [hj0, hj1])
      · have : j + 1 = N := by omega
        rw [this] at hj1
        rw [hj1, hI1] at he
        exact hd 1 j (by omega) hj (by rw [he, hj0])
  subst hI0
  refine ⟨rfl, by omega, fun j hj => ?_⟩
  -- a state 0 would stay
  have hNe : N = 2 ^ s - 1 := by omega
  have h1 : it (nx s t) 0 1 = 1 := rfl
  rw [h1] at he
  have hstay : ∀ k, it (nx s t) (j + k) 1 = 0 := fun k => by rw [it_add, hj, it_zero]
  have hper : ∀ k, it (nx s t) (k * N) 1 = 1 := by
    intro k
    induction k with
    | zero => simp [it]
    | succ k ih => rw [Nat.succ_mul, it_add, ih, ← he]
  have e1 := hper (j + 1)
  have e2 := hstay ((j + 1) * N - j)
  have : j + ((j + 1) * N - j) = (j + 1) * N := by
    have : j + 1 ≤ (j + 1) * N := Nat.le_mul_of_pos_right _ (by omega)
    omega
  rw [this, e1] at e2
  omega
theorem Mxp.perm {s t : Nat} (hv : VR s t 1) (h : Mxp s t) : (0 :: (List.range (2 ^ s - 1)).map fun i => it (nx s t) i 1).Perm (List.range (2 ^ s)) := by
  obtain ⟨hI, hN, h0⟩ := h.orb hv
  obtain ⟨⟨_, _, hd⟩, _⟩ := hv.orb
  rw [hN] at hd
  have h4 := hv.four
  refine perm_range (2 ^ s) _ ?_ ?_ (by simp; omega)
  · rw [List.nodup_cons]
    refine ⟨fun hm => ?_, states_nodup hd⟩
    obtain ⟨i, _, hi⟩ := List.mem_map.1 hm
    exact h0 i hi
  · intro x hx
    rcases List.mem_cons.1 hx with rfl | hx
    · exact Nat.two_pow_pos _
    · obtain ⟨i, _, rfl⟩ := List.mem_map.1 hx
      exact itnx_lt s t 1 hv i
theorem Mxp.all {s t : Nat} (hv : VR s t 1) (h : Mxp s t) (y : Nat) (hy : y < 2 ^ s) (h0 : y ≠ 0) : ∃ j, j < 2 ^ s - 1 ∧ it (nx s t) j 1 = y := by
  have hm : y ∈ (0 :: (List.range (2 ^ s - 1)).map fun i => it (nx s t) i 1) := (h.perm hv).mem_iff.2 (by simp [hy])
  rcases List.mem_cons.1 hm with rfl | hm
  · exact absurd rfl h0
  · obtain ⟨j, hj, e⟩ := List.mem_map.1 hm
    exact ⟨j, by simpa using hj, e⟩
/-- how many of the first states are odd -/
def odds (s t : Nat) : Nat → Nat
  | 0 => 0
  | n + 1 => odds s t n + it (nx s t) n 1 % 2
theorem odds_le (s t n : Nat) : odds s t n ≤ n := by
  induction n with
  | zero => exact Nat.le_refl _
  | succ n ih => unfold odds; omega
theorem odds_sum (s t n : Nat) : odds s t n = (((List.range n).map fun i => it (nx s t) i 1).map (· % 2)).sum := by
  induction n with
  | zero => rfl
  | succ n ih =>
    rw [List.range_succ, List.map_append, List.map_append, List.sum_append, ← ih]
    simp [odds]
theorem sum_odd (k : Nat) : ((List.range (2 * k)).map (· % 2)).sum = k := by
  induction k with
  | zero => rfl
  | succ k ih =>
    rw [show 2 * (k + 1) = 2 * k + 1 + 1 by omega, List.range_succ, List.range_succ, List.map_append, List.map_append, List.sum_append, List.sum_append, ih]
    simp
theorem perm_sum {a b : List Nat} (h : a.Perm b) : (a.map (· % 2)).sum = (b.map (· % 2)).sum := by
  induction h with
  | nil => rfl
  | cons x _ ih => simp [ih]
  | swap x y l => simp; omega
  | trans _ _ h1 h2 => exact h1.trans h2
theorem Mxp.odds {s t : Nat} (hv : VR s t 1) (h : Mxp s t) : 2 * SS.odds s t (2 ^ s - 1) = 2 ^ s := by
  have h1 := perm_sum (h.perm hv)
  rw [List.map_cons, List.sum_cons, ← odds_sum, pow_pred s (by have := hv.1; omega), sum_odd] at h1
  have := pow_pred s (by have := hv.1; omega)
  rw [this]
  omega
theorem Mxp.par {s t : Nat} (hv : VR s t 1) (h : Mxp s t) : SS.par t = 0 := by
  have hp := par_lt t
  rcases (show SS.par t = 0 ∨ SS.par t = 1 by omega) with e | e
  · exact e
  · exfalso
    have h4 := hv.four
    obtain ⟨hI, hN, h0⟩ := h.orb hv
    obtain ⟨⟨_, he, hd⟩, _⟩ := hv.orb
    rw [hI, hN] at he
    rw [hN] at hd
    obtain ⟨j, hj, hja⟩ := h.all hv (2 ^ s - 1) (by omega) (by omega)
    have hand : 2 ^ s - 1 &&& t = t := by rw [Nat.and_comm, Nat.and_two_pow_sub_one_eq_mod, Nat.mod_eq_of_lt hv.2.2.2.1]
    have hfix : nx s t (2 ^ s - 1) = 2 ^ s - 1 := by
      unfold nx
      rw [hand, e, Nat.one_mul]
      have := pow_pred s (by have := hv.1; omega)
      omega
    have hj1 : it (nx s t) (j + 1) 1 = 2 ^ s - 1 := by rw [it_succ, hja, hfix]
    by_cases hjN : j + 1 < 2 ^ s - 1
    · exact hd j (j + 1) (by omega) hjN (by rw [hja, hj1])
    · rw [show j + 1 = 2 ^ s - 1 by omega, ← he] at hj1
      have : it (nx s t) 0 1 = 1 := rfl
      omega
theorem Mxp.odd {s t : Nat} (hv : VR s t 1) (h : Mxp s t) : t % 2 = 1 := by
  rcases Nat.mod_two_eq_zero_or_one t with e | e
  · exfalso
    obtain ⟨_, _, h0⟩ := h.orb hv
    apply h0 1
    show nx s t 1 = 0
    unfold nx
    have : 1 &&& t = 0 := by rw [Nat.one_and_eq_mod_two, e]
    rw [this, par_zero]
    simp
  · exact e
end SS
