/- Plain facts on lists of different numbers in ascending order; no program is in sight. -/
import Derived.Test.YtibnlaphkmnhfaaPlainRle
namespace SS
theorem strict_eq {a b : List Int} (ha : a.Pairwise (· < ·)) (hb : b.Pairwise (· < ·)) (h : ∀ x, x ∈ a ↔ x ∈ b) : a = b := by
  have na : a.Nodup := ha.imp fun h => by omega
  have nb : b.Nodup := hb.imp fun h => by omega
  exact up_eq (ha.imp fun h => by omega) (hb.imp fun h => by omega) ((List.perm_ext_iff_of_nodup na nb).2 h)
theorem up_nodup {a : List Int} (h : a.Pairwise (· ≤ ·)) (hn : a.Nodup) : a.Pairwise (· < ·) := by
  induction a with
  | nil => exact .nil
  | cons x a ih =>
    rw [List.pairwise_cons] at h ⊢
    rw [List.nodup_cons] at hn
    refine ⟨fun y hy => ?_, ih h.2 hn.2⟩
    have h1 := h.1 y hy
    have h2 : x ≠ y := fun e => hn.1 (e ▸ hy)
    omega
/-- the different ones of an ascending list, those of its first numbers -/
def uvals (T : List Int) (i : Nat) : List Int := ((List.range i).filter fun j => j == 0 || T.getD j 0 != T.getD (j - 1) 0).map fun j => T.getD j 0
theorem uvals_zero (T : List Int) : uvals T 0 = [] := rfl
theorem uvals_new (T : List Int) (i : Nat) (h : i = 0 ∨ T.getD i 0 ≠ T.getD (i - 1) 0) : uvals T (i + 1) = uvals T i ++ [T.getD i 0] := by
  unfold uvals
  rw [List.range_succ, List.filter_append, List.map_append]
  congr 1
  have : (i == 0 || T.getD i 0 != T.getD (i - 1) 0) = true := by
    rcases h with rfl | h
    · rfl
    · rw [Bool.or_eq_true, bne_iff_ne]; exact .inr h
  rw [List.filter_cons, if_pos this]
  rfl
theorem uvals_old (T : List Int) (i : Nat) (h0 : i ≠ 0) (h : T.getD i 0 = T.getD (i - 1) 0) : uvals T (i + 1) = uvals T i := by
  unfold uvals
  rw [List.range_succ, List.filter_append, List.map_append]
  have : (i == 0 || T.getD i 0 != T.getD (i - 1) 0) = false := by
    rw [Bool.or_eq_false_iff, bne_eq_false_iff_eq, beq_eq_false_iff_ne]; exact ⟨h0, h⟩
  rw [List.filter_cons, this]
  simp
theorem uvals_length (T : List Int) (i : Nat) : (uvals T i).length ≤ i := by
  unfold uvals
  rw [List.length_map]
  exact Nat.le_trans (List.length_filter_le _ _) (by simp)
theorem uvals_all (T : List Int) (h : ∀ j, j + 1 < T.length → T.getD j 0 ≤ T.getD (j + 1) 0) (i : Nat) (hi : i ≤ T.length) :
    (uvals T i).Pairwise (· < ·) ∧ ∀ x, x ∈ uvals T i ↔ ∃ j, j < i ∧ x = T.getD j 0 := by
  have mono : ∀ a b, a ≤ b → b < T.length → T.getD a 0 ≤ T.getD b 0 := by
    intro a b hab
    induction b with
    | zero => intro _; obtain rfl : a = 0 := by omega
              exact Int.le_refl _
    | succ b ih =>
      intro hb
      by_cases e : a = b + 1
      · subst e; exact Int.le_refl _
      · have := ih (by omega) (by omega); have := h b hb; omega
  induction i with
  | zero => exact ⟨.nil, fun x => by simp [uvals]⟩
  | succ i ih =>
    obtain ⟨h1, h2⟩ := ih (by omega)
    by_cases hc : i = 0 ∨ T.getD i 0 ≠ T.getD (i - 1) 0
    · rw [uvals_new T i hc]
      constructor
      · rw [List.pairwise_append]
        refine ⟨h1, by simp, fun x hx y hy => ?_⟩
        obtain ⟨j, hj, rfl⟩ := (h2 x).1 hx
        have hy' : y = T.getD i 0 := by simpa using hy
        subst hy'
        have hc' : T.getD i 0 ≠ T.getD (i - 1) 0 := by rcases hc with rfl | hc; · omega
                                                       · exact hc
        have := mono j (i - 1) (by omega) (by omega)
        have := mono (i - 1) i (by omega) (by omega)
        omega
      · intro x
        rw [List.mem_append, h2]
        constructor
        · rintro (⟨j, hj, e⟩ | hx)
          · exact ⟨j, by omega, e⟩
          · exact ⟨i, by omega, by simpa using hx⟩
        · rintro ⟨j, hj, e⟩
          by_cases hji : j < i
          · exact .inl ⟨j, hji, e⟩
          · obtain rfl : j = i := by omega
            exact .inr (by simp [e])
    · have h0 : i ≠ 0 := fun e => hc (.inl e)
      have he : T.getD i 0 = T.getD (i - 1) 0 := Classical.byContradiction fun e => hc (.inr e)
      rw [uvals_old T i h0 he]
      refine ⟨h1, fun x => ?_⟩
      rw [h2]
      constructor
      · rintro ⟨j, hj, e⟩; exact ⟨j, by omega, e⟩
      · rintro ⟨j, hj, e⟩
        by_cases hji : j < i
        · exact ⟨j, hji, e⟩
        · obtain rfl : j = i := by omega
          exact ⟨j - 1, by omega, by rw [e, he]⟩
/-- each number put in where it is not there yet -/
def hvals (T : List Int) : List Int := T.foldl (fun a x => if x ∈ a then a else insI x a) []
theorem hvals_snoc (T : List Int) (x : Int) : hvals (T ++ [x]) = if x ∈ hvals T then hvals T else insI x (hvals T) := by
  unfold hvals
  rw [List.foldl_append]
  rfl
theorem hvals_all (T : List Int) : (hvals T).Pairwise (· < ·) ∧ ∀ x, x ∈ hvals T ↔ x ∈ T := by
  suffices H : ∀ (n : Nat) (T : List Int), T.length = n → (hvals T).Pairwise (· < ·) ∧ ∀ x, x ∈ hvals T ↔ x ∈ T from H _ T rfl
  intro n
  induction n with
  | zero => intro T hT; obtain rfl := List.length_eq_zero_iff.1 hT; exact ⟨.nil, fun x => by simp [hvals]⟩
  | succ n ih =>
    intro T hT
    have hne : T ≠ [] := List.ne_nil_of_length_pos (by omega)
    obtain ⟨h1, h2⟩ := ih T.dropLast (by simp [hT])
    rw [← List.dropLast_concat_getLast hne, hvals_snoc]
    generalize T.getLast hne = x
    generalize T.dropLast = S at *
    by_cases hx : x ∈ hvals S
    · rw [if_pos hx]
      refine ⟨h1, fun y => ?_⟩
      rw [h2, List.mem_append]
      constructor
      · exact .inl
      · rintro (h | h)
        · exact h
        · obtain rfl : y = x := by simpa using h
          exact (h2 y).1 hx
    · rw [if_neg hx]
      have hp := insI_perm x (hvals S)
      constructor
      · refine up_nodup (insI_up x _ (h1.imp fun h => by omega)) (hp.nodup_iff.2 (List.nodup_cons.2 ⟨hx, h1.imp fun h => by omega⟩))
      · intro y
        rw [hp.mem_iff, List.mem_cons, h2, List.mem_append]
        constructor
        · rintro (h | h)
          · exact .inr (by simp [h])
          · exact .inl h
        · rintro (h | h)
          · exact .inr h
          · exact .inl (by simpa using h)
theorem hvals_length (T : List Int) : (hvals T).length ≤ T.length := by
  suffices H : ∀ (n : Nat) (T : List Int), T.length = n → (hvals T).length ≤ n by exact H _ T rfl
  intro n
  induction n with
  | zero => intro T hT; obtain rfl := List.length_eq_zero_iff.1 hT; simp [hvals]
  | succ n ih =>
    intro T hT
    have hne : T ≠ [] := List.ne_nil_of_length_pos (by omega)
    have h1 := ih T.dropLast (by simp [hT])
    rw [← List.dropLast_concat_getLast hne, hvals_snoc]
    split
    · omega
    · rw [insI_length]; omega
/-- both ways give the same list -/
theorem vals_eq (T : List Int) : uvals (srt T) T.length = hvals T := by
  obtain ⟨h1, h2⟩ := hvals_all T
  have hl := srt_length T
  have hg : ∀ j, j < (srt T).length → (srt T).getD j 0 = (srt T)[j]?.getD 0 := fun j _ => by simp
  obtain ⟨h3, h4⟩ := uvals_all (srt T) (fun j hj => by
    have := (List.pairwise_iff_getElem.1 (srt_up T)) j (j + 1) (by omega) hj (by omega)
    simpa [List.getD_eq_getElem?_getD, List.getElem?_eq_getElem hj, List.getElem?_eq_getElem (show j < (srt T).length by omega)] using this) T.length (by omega)
  refine strict_eq h3 h1 fun x => ?_
  rw [h4, h2, ← (srt_perm T).mem_iff]
  constructor
  · rintro ⟨j, hj, rfl⟩
    rw [← hl] at hj
    simp [List.getD_eq_getElem?_getD, List.getElem?_eq_getElem hj]
  · intro hx
    obtain ⟨j, hj, rfl⟩ := List.getElem_of_mem hx
    exact ⟨j, by omega, by simp [List.getD_eq_getElem?_getD, List.getElem?_eq_getElem hj]⟩
end SS
