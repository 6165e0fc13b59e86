/- Plain facts on the first start of a run, and on lengths of runs counted one by one; no program is in sight. -/
import Derived.Test.YtibnlaphkmnhfaaPlainRle
namespace SS
/-- the first place at which a run begins -/
structure Brk (l : List UInt8) (a : Nat) : Prop where
  lt : a < l.length
  yes : at_ l a ≠ at_ l ((a + l.length - 1) % l.length)
  first : ∀ i, i < a → at_ l i = at_ l ((i + l.length - 1) % l.length)
/-- no run begins -/
def Flat (l : List UInt8) : Prop := ∀ i, i < l.length → at_ l i = at_ l ((i + l.length - 1) % l.length)
theorem brk_or (l : List UInt8) : (∃ a, Brk l a) ∨ Flat l := by
  have key : ∀ n, n ≤ l.length → (∃ a, Brk l a) ∨ ∀ i, i < n → at_ l i = at_ l ((i + l.length - 1) % l.length) := by
    intro n
    induction n with
    | zero => intro _; exact .inr fun i hi => absurd hi (by omega)
    | succ n ih =>
      intro hn
      rcases ih (by omega) with h | h
      · exact .inl h
      · by_cases e : at_ l n = at_ l ((n + l.length - 1) % l.length)
        · refine .inr fun i hi => ?_
          by_cases hin : i < n
          · exact h i hin
          · obtain rfl : i = n := by omega
            exact e
        · exact .inl ⟨n, by omega, e, h⟩
  rcases key l.length (Nat.le_refl _) with h | h
  · exact .inl h
  · exact .inr h
theorem Brk.brk {l : List UInt8} {a : Nat} (h : Brk l a) : brk (rot a l) := by
  have hlt := h.lt
  have hl := rot_length a l (by omega)
  apply brk_at _ (by omega)
  rw [hl, at_rot a l hlt 0 (by omega), at_rot a l hlt _ (by omega), Nat.zero_add, Nat.mod_eq_of_lt hlt, show l.length - 1 + a = a + l.length - 1 by omega]
  exact h.yes
/-- the list of the lengths of all runs -/
def Runs (l : List UInt8) (R : List Int) : Prop := (∃ a, Brk l a ∧ R = srt (rle (rot a l))) ∨ (Flat l ∧ R = [(l.length : Int)])
theorem take_at {t : List UInt8} {j : Nat} (h : j < t.length) : t.take (j + 1) = t.take j ++ [at_ t j] := by
  rw [at_eq t j h]
  exact List.take_succ_eq_append_getElem h
theorem rle_one (t : List UInt8) (h : 0 < t.length) : rle (t.take 1) = [1] := by
  rw [take_at h, List.take_zero]
  rfl
theorem rle_step_new (t : List UInt8) (j : Nat) (h1 : 1 ≤ j) (h : j < t.length) (hn : at_ t (j - 1) ≠ at_ t j) : rle (t.take (j + 1)) = rle (t.take j) ++ [1] := by
  have e : t.take j = t.take (j - 1) ++ [at_ t (j - 1)] := by
    have := take_at (t := t) (j := j - 1) (by omega)
    rwa [Nat.sub_add_cancel h1] at this
  rw [take_at h, e]
  exact rle_new _ _ _ hn
theorem rle_step_same (t : List UInt8) (j : Nat) (h1 : 1 ≤ j) (h : j < t.length) (hn : at_ t (j - 1) = at_ t j) : rle (t.take (j + 1)) = incT (rle (t.take j)) := by
  have e : t.take j = t.take (j - 1) ++ [at_ t (j - 1)] := by
    have := take_at (t := t) (j := j - 1) (by omega)
    rwa [Nat.sub_add_cancel h1] at this
  rw [take_at h, e, ← hn]
  exact rle_same _ _
theorem rle_take_ne (t : List UInt8) (j : Nat) (h1 : 1 ≤ j) (h : j ≤ t.length) : rle (t.take j) ≠ [] := by
  cases ht : t.take j with
  | nil => have := List.length_take (i := j) (l := t); rw [ht] at this; simp at this; omega
  | cons c r => exact rle_ne c r
theorem rle_take_len (t : List UInt8) (j : Nat) : (rle (t.take j)).length ≤ j := by
  have := rle_len (t.take j)
  have := List.length_take (i := j) (l := t)
  omega
theorem rle_take_le (t : List UInt8) (j : Nat) (h : j ≤ t.length) : ∀ x ∈ rle (t.take j), 1 ≤ x ∧ x ≤ j := by
  intro x hx
  have h1 := rle_le _ x hx
  have h2 := rle_pos _ x hx
  have := List.length_take (i := j) (l := t)
  omega
theorem incT_set (L : List Int) (K : Nat) (x : Int) (hl : L.length = K + 1) (hx : L[K]? = some x) : L.set K (x + 1) = incT L := by
  have hne : L ≠ [] := List.ne_nil_of_length_pos (by omega)
  have e := (List.dropLast_concat_getLast hne).symm
  have hg : L.getLast hne = x := by
    rw [List.getLast_eq_getElem]
    have : L[L.length - 1]? = some x := by rw [hl, Nat.add_sub_cancel]; exact hx
    exact (List.getElem?_eq_some_iff.1 this).2
  rw [hg] at e
  generalize L.dropLast = M at e
  subst e
  have hm : M.length = K := by simpa using hl
  subst hm
  rw [incT_snoc, List.set_append_right _ _ (Nat.le_refl _), Nat.sub_self]
  rfl
/-- what has been counted: the closed runs and how much of the current one -/
def Cnt (t : List UInt8) (j : Nat) (R : List Int) (m : Nat) : Prop :=
  (m = 0 ∧ rle (t.take j) = R ∧ (j = 0 ∨ j = t.length ∨ at_ t (j - 1) ≠ at_ t j)) ∨ (1 ≤ m ∧ rle (t.take j) = R ++ [(m : Int)] ∧ 1 ≤ j ∧ j < t.length ∧ at_ t (j - 1) = at_ t j)
theorem Cnt.start (t : List UInt8) : Cnt t 0 [] 0 := .inl ⟨rfl, by rw [List.take_zero]; rfl, .inl rfl⟩
theorem Cnt.rle {t : List UInt8} {j : Nat} {R : List Int} {m : Nat} (h : Cnt t j R m) (hj : j < t.length) : rle (t.take (j + 1)) = R ++ [((m + 1 : Nat) : Int)] := by
  rcases h with ⟨rfl, hR, hb⟩ | ⟨hm, hR, h1, _, hs⟩
  · by_cases h0 : j = 0
    · subst h0
      rw [rle_one t hj, ← hR, List.take_zero]
      rfl
    · have hn : at_ t (j - 1) ≠ at_ t j := by
        rcases hb with h | h | h
        · exact absurd h h0
        · omega
        · exact h
      rw [rle_step_new t j (by omega) hj hn, hR]
      rfl
  · rw [rle_step_same t j h1 hj hs, hR, incT_snoc]
    rfl
theorem Cnt.shut {t : List UInt8} {j : Nat} {R : List Int} {m : Nat} (h : Cnt t j R m) (hj : j < t.length) (he : j + 1 = t.length ∨ at_ t j ≠ at_ t (j + 1)) : Cnt t (j + 1) (R ++ [((m + 1 : Nat) : Int)]) 0 :=
  .inl ⟨rfl, h.rle hj, .inr (by rw [Nat.add_sub_cancel]; exact he)⟩
theorem Cnt.go {t : List UInt8} {j : Nat} {R : List Int} {m : Nat} (h : Cnt t j R m) (hj : j + 1 < t.length) (he : at_ t j = at_ t (j + 1)) : Cnt t (j + 1) R (m + 1) :=
  .inr ⟨by omega, h.rle (by omega), by omega, hj, by rw [Nat.add_sub_cancel]; exact he⟩
theorem Cnt.last {t : List UInt8} {R : List Int} {m : Nat} (h : Cnt t t.length R m) : R = SS.rle t := by
  rcases h with ⟨rfl, hR, _⟩ | ⟨_, _, _, h, _⟩
  · rw [List.take_length] at hR; exact hR.symm
  · omega
theorem Cnt.len {t : List UInt8} {j : Nat} {R : List Int} {m : Nat} (h : Cnt t j R m) : R.length ≤ j ∧ m ≤ j := by
  have hl := rle_take_len t j
  rcases h with ⟨rfl, hR, _⟩ | ⟨hm, hR, h1, hlt, _⟩
  · rw [hR] at hl; omega
  · have hle := rle_take_le t j (by omega) m (by rw [hR]; simp)
    rw [hR] at hl
    simp at hl
    omega
theorem prev_mod (i n : Nat) (hn : 1 ≤ n) : md ((i : Int) - 1) n = (i + n - 1) % n := by
  unfold md
  have e : ((i : Int) - 1) % (n : Int) = ((i + n - 1 : Nat) : Int) % (n : Int) := by
    rw [show ((i + n - 1 : Nat) : Int) = ((i : Int) - 1) + (n : Int) by omega, Int.add_emod_right]
  rw [e]
  omega
theorem prev_rot (l : List UInt8) (a j : Nat) (ha : a < l.length) (h1 : 1 ≤ j) (hj : j < l.length) : ((a + j) % l.length + l.length - 1) % l.length = (j - 1 + a) % l.length := by
  have hn : 0 < l.length := by omega
  have h := Nat.div_add_mod (a + j) l.length
  by_cases hc : a + j < l.length
  · rw [Nat.mod_eq_of_lt hc, show a + j + l.length - 1 = (j - 1 + a) + l.length by omega, Nat.add_mod_right]
  · rw [show a + j = (a + j - l.length) + l.length by omega, Nat.add_mod_right, Nat.mod_eq_of_lt (show a + j - l.length < l.length by omega)]
    congr 1
    omega
end SS
