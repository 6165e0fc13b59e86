/- Plain facts on ascending lists and on the runs of sequences; no program is in sight. -/
import Derived.Test.YtibnlaphkmnhfaaPlainCor
namespace SS
/-- a number put into an ascending list -/
def insI (n : Int) : List Int → List Int
  | [] => [n]
  | x :: l => if n < x then n :: x :: l else x :: insI n l
theorem insI_perm (n : Int) (l : List Int) : (insI n l).Perm (n :: l) := by
  induction l with
  | nil => exact .refl _
  | cons x l ih =>
    unfold insI
    split
    · exact .refl _
    · exact (ih.cons x).trans (.swap n x l)
theorem insI_length (n : Int) (l : List Int) : (insI n l).length = l.length + 1 := (insI_perm n l).length_eq
theorem insI_up (n : Int) (l : List Int) (h : l.Pairwise (· ≤ ·)) : (insI n l).Pairwise (· ≤ ·) := by
  induction l with
  | nil => simp [insI]
  | cons x l ih =>
    rw [List.pairwise_cons] at h
    unfold insI
    split
    · rename_i hn
      rw [List.pairwise_cons, List.pairwise_cons]
      refine ⟨fun y hy => ?_, h⟩
      rcases List.mem_cons.1 hy with rfl | hy
      · omega
      · have := h.1 y hy; omega
    · rename_i hn
      rw [List.pairwise_cons]
      refine ⟨fun y hy => ?_, ih h.2⟩
      rcases List.mem_cons.1 ((insI_perm n l).mem_iff.1 hy) with rfl | hy
      · omega
      · exact h.1 y hy
theorem insI_none (n : Int) (l : List Int) (h : ∀ x ∈ l, ¬ n < x) : insI n l = l ++ [n] := by
  induction l with
  | nil => rfl
  | cons x l ih =>
    unfold insI
    rw [if_neg (h x (List.mem_cons_self ..)), ih fun y hy => h y (List.mem_cons_of_mem _ hy)]
    rfl
theorem insI_hit (n y : Int) (l : List Int) (h : ∀ x ∈ l, ¬ n < x) (hy : n < y) : insI n (l ++ [y]) = l ++ [n] ++ [y] := by
  induction l with
  | nil => simp [insI, hy]
  | cons x l ih =>
    show insI n (x :: (l ++ [y])) = _
    unfold insI
    rw [if_neg (h x (List.mem_cons_self ..)), ih fun y hy => h y (List.mem_cons_of_mem _ hy)]
    rfl
theorem insI_more (n y : Int) (l : List Int) (h : ∃ x ∈ l, n < x) : insI n (l ++ [y]) = insI n l ++ [y] := by
  induction l with
  | nil => obtain ⟨x, hx, _⟩ := h; simp at hx
  | cons x l ih =>
    show insI n (x :: (l ++ [y])) = _
    unfold insI
    by_cases hn : n < x
    · rw [if_pos hn, if_pos hn]; rfl
    · rw [if_neg hn, if_neg hn, ih]
      · rfl
      · obtain ⟨z, hz, hl⟩ := h
        rcases List.mem_cons.1 hz with rfl | hz
        · exact absurd hl hn
        · exact ⟨z, hz, hl⟩
/-- in ascending order -/
def srt (l : List Int) : List Int := l.mergeSort fun x y => decide (x ≤ y)
theorem srt_perm (l : List Int) : (srt l).Perm l := List.mergeSort_perm _ _
theorem srt_length (l : List Int) : (srt l).length = l.length := (srt_perm l).length_eq
theorem srt_up (l : List Int) : (srt l).Pairwise (· ≤ ·) := by
  have h := List.pairwise_mergeSort (le := fun x y : Int => decide (x ≤ y)) (fun a b c h1 h2 => by simp at *; omega) (fun a b => by simp; omega) l
  exact h.imp fun h => by simpa using h
theorem up_eq {a b : List Int} (ha : a.Pairwise (· ≤ ·)) (hb : b.Pairwise (· ≤ ·)) (h : a.Perm b) : a = b :=
  h.eq_of_pairwise (fun _ _ _ _ h1 h2 => by omega) ha hb
theorem srt_eq {a b : List Int} (h : a.Perm b) : srt a = srt b := up_eq (srt_up a) (srt_up b) (((srt_perm a).trans h).trans (srt_perm b).symm)
def insAll (l : List Int) : List Int := l.foldl (fun a n => insI n a) []
theorem insAll_snoc (l : List Int) (n : Int) : insAll (l ++ [n]) = insI n (insAll l) := by simp [insAll]
theorem insAll_both (l : List Int) : (insAll l).Perm l ∧ (insAll l).Pairwise (· ≤ ·) := by
  suffices h : ∀ (l a : List Int), a.Pairwise (· ≤ ·) → (l.foldl (fun a n => insI n a) a).Perm (a ++ l) ∧ (l.foldl (fun a n => insI n a) a).Pairwise (· ≤ ·) by
    have := h l [] .nil
    rw [List.nil_append] at this
    exact this
  intro l
  induction l with
  | nil => intro a ha; simpa using ha
  | cons n l ih =>
    intro a ha
    obtain ⟨h1, h2⟩ := ih (insI n a) (insI_up n a ha)
    refine ⟨h1.trans ?_, h2⟩
    have h3 := (insI_perm n a).append_right l
    exact h3.trans (List.perm_middle.symm)
theorem insAll_srt (l : List Int) : insAll l = srt l := up_eq (insAll_both l).2 (srt_up l) ((insAll_both l).1.trans (srt_perm l).symm)
theorem insAll_length (l : List Int) : (insAll l).length = l.length := (insAll_both l).1.length_eq
/-- the lengths of runs -/
def incH : List Int → List Int
  | [] => []
  | x :: r => (x + 1) :: r
def incT : List Int → List Int
  | [] => []
  | [x] => [x + 1]
  | x :: y :: r => x :: incT (y :: r)
theorem incT_snoc (l : List Int) (x : Int) : incT (l ++ [x]) = l ++ [x + 1] := by
  induction l with
  | nil => rfl
  | cons y l ih =>
    cases l with
    | nil => rfl
    | cons z l => show y :: incT (z :: l ++ [x]) = _; rw [ih]; rfl
theorem incT_rev (l : List Int) : incT l.reverse = (incH l).reverse := by
  cases l with
  | nil => rfl
  | cons x l => simp [incH, incT_snoc]
def rle : List UInt8 → List Int
  | [] => []
  | [_] => [1]
  | c :: d :: l => if c = d then incH (rle (d :: l)) else 1 :: rle (d :: l)
theorem incH_length (l : List Int) : (incH l).length = l.length := by cases l <;> rfl
theorem rle_ne (c : UInt8) (l : List UInt8) : rle (c :: l) ≠ [] := by
  induction l generalizing c with
  | nil => simp [rle]
  | cons d l ih =>
    unfold rle
    split
    · intro e
      have h := congrArg List.length e
      rw [incH_length] at h
      exact ih d (List.length_eq_zero_iff.1 h)
    · simp
theorem incH_append (a b : List Int) (h : a ≠ []) : incH (a ++ b) = incH a ++ b := by cases a with
  | nil => exact absurd rfl h
  | cons x a => rfl
theorem rle_append (u v : List UInt8) (x y : UInt8) (h : x ≠ y) : rle (u ++ [x] ++ y :: v) = rle (u ++ [x]) ++ rle (y :: v) := by
  induction u with
  | nil =>
    show rle (x :: y :: v) = rle [x] ++ rle (y :: v)
    conv => lhs; unfold rle
    rw [if_neg h]
    rfl
  | cons c u ih =>
    cases u with
    | nil =>
      show rle (c :: x :: y :: v) = rle [c, x] ++ rle (y :: v)
      have ih' : rle (x :: y :: v) = rle [x] ++ rle (y :: v) := ih
      conv => lhs; unfold rle
      conv => rhs; lhs; unfold rle
      rw [ih']
      split
      · rw [incH_append _ _ (rle_ne x [])]
      · rfl
    | cons d u =>
      show rle (c :: d :: (u ++ [x] ++ y :: v)) = rle (c :: d :: (u ++ [x])) ++ rle (y :: v)
      have ih' : rle (d :: (u ++ [x] ++ y :: v)) = rle (d :: (u ++ [x])) ++ rle (y :: v) := ih
      conv => lhs; unfold rle
      conv => rhs; lhs; unfold rle
      rw [ih']
      split
      · rw [incH_append _ _ (rle_ne d _)]
      · rfl
theorem rle_new (u : List UInt8) (x y : UInt8) (h : x ≠ y) : rle (u ++ [x] ++ [y]) = rle (u ++ [x]) ++ [1] := rle_append u [] x y h
theorem incT_cons (x : Int) (l : List Int) (h : l ≠ []) : incT (x :: l) = x :: incT l := by cases l with
  | nil => exact absurd rfl h
  | cons y l => rfl
theorem incT_incH (l : List Int) (h : l ≠ []) : incT (incH l) = incH (incT l) := by
  cases l with
  | nil => rfl
  | cons x l => cases l with
    | nil => rfl
    | cons y l => rfl
theorem rle_same (u : List UInt8) (x : UInt8) : rle (u ++ [x] ++ [x]) = incT (rle (u ++ [x])) := by
  induction u with
  | nil => simp [rle, incH, incT]
  | cons c u ih =>
    cases u with
    | nil =>
      show rle (c :: x :: [x]) = incT (rle (c :: [x]))
      have ih' : rle [x, x] = incT (rle [x]) := ih
      conv => lhs; unfold rle
      conv => rhs; arg 1; unfold rle
      rw [ih']
      split
      · rw [incT_incH _ (rle_ne x [])]
      · rw [incT_cons _ _ (rle_ne x [])]
    | cons d u =>
      show rle (c :: d :: (u ++ [x] ++ [x])) = incT (rle (c :: d :: (u ++ [x])))
      have ih' : rle (d :: (u ++ [x] ++ [x])) = incT (rle (d :: (u ++ [x]))) := ih
      conv => lhs; unfold rle
      conv => rhs; arg 1; unfold rle
      rw [ih']
      split
      · rw [incT_incH _ (rle_ne d _)]
      · rw [incT_cons _ _ (rle_ne d _)]
theorem rle_rev (l : List UInt8) : rle l.reverse = (rle l).reverse := by
  induction l with
  | nil => rfl
  | cons c l ih =>
    cases l with
    | nil => rfl
    | cons d l =>
      have e : (c :: d :: l).reverse = l.reverse ++ [d] ++ [c] := by simp
      have e2 : l.reverse ++ [d] = (d :: l).reverse := by simp
      rw [e]
      conv => rhs; unfold rle
      by_cases h : c = d
      · subst h
        rw [rle_same, e2, ih, incT_rev, if_pos rfl]
      · rw [rle_new _ _ _ (fun e => h e.symm), e2, ih, if_neg h]
        simp
theorem rle_pos (l : List UInt8) : ∀ x ∈ rle l, 1 ≤ x := by
  induction l with
  | nil => simp [rle]
  | cons c l ih =>
    cases l with
    | nil => simp [rle]
    | cons d l =>
      unfold rle
      split
      · intro x hx
        cases hr : rle (d :: l) with
        | nil => rw [hr] at hx; simp [incH] at hx
        | cons y r =>
          rw [hr] at hx ih
          simp only [incH] at hx
          rcases List.mem_cons.1 hx with rfl | hx
          · have := ih y (List.mem_cons_self ..); omega
          · exact ih x (List.mem_cons_of_mem _ hx)
      · intro x hx
        rcases List.mem_cons.1 hx with rfl | hx
        · omega
        · exact ih x hx
theorem rle_len (l : List UInt8) : (rle l).length ≤ l.length := by
  induction l with
  | nil => simp [rle]
  | cons c l ih =>
    cases l with
    | nil => simp [rle]
    | cons d l =>
      unfold rle
      split
      · rw [incH_length]; simp at *; omega
      · simp at *; omega
theorem rle_le (l : List UInt8) : ∀ x ∈ rle l, x ≤ l.length := by
  induction l with
  | nil => simp [rle]
  | cons c l ih =>
    cases l with
    | nil => simp [rle]
    | cons d l =>
      unfold rle
      split
      · intro x hx
        cases hr : rle (d :: l) with
        | nil => rw [hr] at hx; simp [incH] at hx
        | cons y r =>
          rw [hr] at hx ih
          simp only [incH] at hx
          rcases List.mem_cons.1 hx with rfl | hx
          · have := ih y (List.mem_cons_self ..); simp at *; omega
          · have := ih x (List.mem_cons_of_mem _ hx); simp at *; omega
      · intro x hx
        rcases List.mem_cons.1 hx with rfl | hx
        · simp
          omega
        · have := ih x hx; simp at *; omega
/-- where a list begins a run as a circle -/
def brk (t : List UInt8) : Prop := ∃ u x y v, t = y :: v ∧ t = u ++ [x] ∧ x ≠ y
theorem brk_rev {t : List UInt8} (h : brk t) : brk t.reverse := by
  obtain ⟨u, x, y, v, h1, h2, h3⟩ := h
  exact ⟨v.reverse, y, x, u.reverse, by rw [h2]; simp, by rw [h1]; simp, fun e => h3 e.symm⟩
theorem rle_turn (u v : List UInt8) (h1 : brk (u ++ v)) (h2 : brk (v ++ u)) : (rle (v ++ u)).Perm (rle (u ++ v)) := by
  by_cases hu : u = []
  · subst hu; simp
  by_cases hv : v = []
  · subst hv; simp
  have eu : u = u.dropLast ++ [u.getLast hu] := (List.dropLast_concat_getLast hu).symm
  have ev : v = v.dropLast ++ [v.getLast hv] := (List.dropLast_concat_getLast hv).symm
  obtain ⟨cu, u', hu'⟩ := List.exists_cons_of_ne_nil hu
  obtain ⟨cv, v', hv'⟩ := List.exists_cons_of_ne_nil hv
  have n1 : v.getLast hv ≠ cu := by
    obtain ⟨a, x, y, b, e1, e2, hne⟩ := h1
    have ey : cu = y := by rw [hu'] at e1; simp at e1; exact e1.1
    have ex : v.getLast hv = x := by
      rw [ev, ← List.append_assoc] at e2
      exact (List.append_inj' e2 rfl).2 |> fun h => by simpa using h
    rw [ex, ey]; exact hne
  have n2 : u.getLast hu ≠ cv := by
    obtain ⟨a, x, y, b, e1, e2, hne⟩ := h2
    have ey : cv = y := by rw [hv'] at e1; simp at e1; exact e1.1
    have ex : u.getLast hu = x := by
      rw [eu, ← List.append_assoc] at e2
      exact (List.append_inj' e2 rfl).2 |> fun h => by simpa using h
    rw [ex, ey]; exact hne
  have r1 : rle (u ++ v) = rle u ++ rle v := by
    have := rle_append u.dropLast v' (u.getLast hu) cv n2
    rwa [← eu, ← hv'] at this
  have r2 : rle (v ++ u) = rle v ++ rle u := by
    have := rle_append v.dropLast u' (v.getLast hv) cu n1
    rwa [← ev, ← hu'] at this
  rw [r1, r2]
  exact List.perm_append_comm
theorem brk_at (t : List UInt8) (h1 : 1 ≤ t.length) (h : at_ t 0 ≠ at_ t (t.length - 1)) : brk t := by
  have hn : t ≠ [] := List.ne_nil_of_length_pos h1
  obtain ⟨c, t', ht⟩ := List.exists_cons_of_ne_nil hn
  refine ⟨t.dropLast, t.getLast hn, c, t', ht, (List.dropLast_concat_getLast hn).symm, fun e => h ?_⟩
  rw [at_eq t 0 h1, at_eq t _ (by omega), ← List.getLast_eq_getElem hn, e]
  simp [ht]
/-- the lengths of runs do not depend on the start nor on the direction -/
theorem rle_rots (l : List UInt8) (a b : Nat) (ha : a < l.length) (hb : b < l.length) (h1 : brk (rot a l)) (h2 : brk (rot b l)) : (rle (rot a l)).Perm (rle (rot b l)) := by
  have hn : 0 < l.length := by omega
  have hd : (b + (l.length - a)) % l.length < l.length := Nat.mod_lt _ hn
  have e : rot ((b + (l.length - a)) % l.length) (rot a l) = rot b l := by
    rw [rot_rot a _ l ha hd]
    congr 1
    rw [Nat.add_mod_mod, show a + (b + (l.length - a)) = b + l.length by omega, Nat.add_mod_right, Nat.mod_eq_of_lt hb]
  generalize (b + (l.length - a)) % l.length = d at *
  generalize rot a l = t at *
  rw [← e] at h2 ⊢
  have et : t = t.take d ++ t.drop d := (List.take_append_drop d t).symm
  have h := rle_turn (t.drop d) (t.take d) h2 (by rw [← et]; exact h1)
  rw [← et] at h
  exact h
theorem runs_rev (l : List UInt8) (a b : Nat) (ha : a < l.length) (hb : b < l.length) (h1 : brk (rot a l)) (h2 : brk (rot b (revL l))) : srt (rle (rot b (revL l))) = srt (rle (rot a l)) := by
  have hn : 0 < l.length := by omega
  have hj : (l.length - b) % l.length < l.length := Nat.mod_lt _ hn
  have e := rev_rot l ((l.length - b) % l.length) b hj hb (by rw [Nat.mod_add_mod, Nat.sub_add_cancel (by omega), Nat.mod_self])
  generalize (l.length - b) % l.length = j at *
  rw [← e] at h2 ⊢
  rw [revL_eq] at h2 ⊢
  have h3 := brk_rev h2
  rw [List.reverse_reverse] at h3
  rw [rle_rev]
  exact srt_eq ((List.reverse_perm _).trans (rle_rots l j a hj ha h3 h1))
end SS
