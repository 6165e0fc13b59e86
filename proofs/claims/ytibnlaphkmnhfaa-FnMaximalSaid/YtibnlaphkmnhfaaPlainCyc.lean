/- Plain facts on the cycles of states; no program is in sight. -/
import Derived.Test.YtibnlaphkmnhfaaPlainMaxi
import Derived.Test.YtibnlaphkmnhfaaPlainPer
import Derived.Test.YtibnlaphkmnhfaaPlainRle
import Derived.Test.YtibnlaphkmnhfaaPlainShort
namespace SS
/-- a state that comes back, after n steps -/
structure Cyc (f : Nat → Nat) (x n : Nat) : Prop where
  pos : 0 < n
  back : it f n x = x
  dis : Dis f x n
theorem it_comm (f : Nat → Nat) (m n x : Nat) : it f m (it f n x) = it f n (it f m x) := by rw [← it_add, ← it_add, Nat.add_comm]
theorem Cyc.mul {f : Nat → Nat} {x n : Nat} (h : Cyc f x n) (k : Nat) : it f (k * n) x = x := by
  induction k with
  | zero => rw [Nat.zero_mul]; rfl
  | succ k ih => rw [Nat.succ_mul, it_add, ih, h.back]
theorem Cyc.mod {f : Nat → Nat} {x n : Nat} (h : Cyc f x n) (i : Nat) : it f (i % n) x = it f i x := by
  conv => rhs; rw [← Nat.div_add_mod i n, Nat.mul_comm, it_add, h.mul]
theorem Cyc.eq {f : Nat → Nat} {x n : Nat} (h : Cyc f x n) {a b : Nat} (e : it f a x = it f b x) : a % n = b % n := by
  rw [← h.mod a, ← h.mod b] at e
  have ha := Nat.mod_lt a h.pos
  have hb := Nat.mod_lt b h.pos
  by_cases h1 : a % n < b % n
  · exact absurd e (h.dis _ _ h1 hb)
  · by_cases h2 : b % n < a % n
    · exact absurd e.symm (h.dis _ _ h2 ha)
    · omega
theorem Cyc.it {f : Nat → Nat} {x n : Nat} (h : Cyc f x n) (i : Nat) : Cyc f (it f i x) n := by
  refine ⟨h.pos, by rw [it_comm, h.back], fun a b hab hb e => ?_⟩
  rw [← it_add, ← it_add] at e
  have := h.eq e
  have h1 := Nat.div_add_mod (i + a) n
  have h2 := Nat.div_add_mod (i + b) n
  rw [this] at h1
  have h3 : n * ((i + b) / n) = n * ((i + a) / n) + (b - a) := by omega
  by_cases h4 : (i + b) / n ≤ (i + a) / n
  · have := Nat.mul_le_mul_left n h4; omega
  · have h5 : (i + a) / n + 1 ≤ (i + b) / n := by omega
    have := Nat.mul_le_mul_left n h5
    rw [Nat.mul_add, Nat.mul_one] at this
    omega
/-- from each state of a cycle each other one is reached -/
theorem Cyc.turn {f : Nat → Nat} {x n : Nat} (h : Cyc f x n) (i : Nat) : ∃ j, j < n ∧ SS.it f j (SS.it f i x) = x := by
  refine ⟨(n - i % n) % n, Nat.mod_lt _ h.pos, ?_⟩
  rw [(h.it i).mod, ← h.mod i, ← it_add]
  have := Nat.mod_lt i h.pos
  rw [show i % n + (n - i % n) = n by omega, h.back]
theorem VR.cyc {s t x : Nat} (h : VR s t x) (h0 : orbI (SS.nx s t) x = 0) : Cyc (SS.nx s t) x (orbN (SS.nx s t) x) := by
  obtain ⟨⟨h1, h2, h3⟩, _⟩ := h.orb
  rw [h0] at h1 h2
  exact ⟨h1, h2.symm, h3⟩
theorem Cyc.orb {f : Nat → Nat} {x n : Nat} (h : Cyc f x n) (hn : n < 300) : orbN f x = n ∧ orbI f x = 0 :=
  Orb.eq ⟨h.pos, h.back.symm, h.dis⟩ hn
theorem VR.orbN_lt {s t x : Nat} (h : VR s t x) : orbN (SS.nx s t) x < 300 := by
  have := h.orb.2
  have hp : 2 ^ s ≤ 2 ^ 8 := Nat.pow_le_pow_right (by decide) h.2.1
  omega
/-- the first state of its cycle -/
def lst (s t k : Nat) : Bool := orbI (nx s t) k == 0 && (List.range (orbN (nx s t) k)).all fun i => decide (k ≤ it (nx s t) i k)
theorem lst_yes {s t k : Nat} : lst s t k = true ↔ orbI (nx s t) k = 0 ∧ ∀ i, i < orbN (nx s t) k → k ≤ it (nx s t) i k := by
  unfold lst
  rw [Bool.and_eq_true, beq_iff_eq, List.all_eq_true]
  simp
theorem lst_iff {s t k : Nat} (h : VR s t k) (h0 : orbI (nx s t) k = 0) : lst s t k = true ↔ ∀ i, 1 ≤ i → i < orbN (nx s t) k → k < it (nx s t) i k := by
  have hc := h.cyc h0
  rw [lst_yes]
  constructor
  · rintro ⟨_, hl⟩ i h1 hi
    have := hl i hi
    have h2 : k ≠ it (nx s t) i k := hc.dis 0 i h1 hi
    omega
  · intro hl
    refine ⟨h0, fun i hi => ?_⟩
    by_cases hi0 : i = 0
    · subst hi0; exact Nat.le_refl _
    · exact Nat.le_of_lt (hl i (by omega) hi)
/-- a state that a cycle with a lesser state has -/
def Mk (s t k z : Nat) : Prop := ∃ y, y < k ∧ orbI (nx s t) y = 0 ∧ ∃ i, it (nx s t) i y = z
theorem VR.of {s t x y : Nat} (h : VR s t x) (hy : y < 2 ^ s) : VR s t y := ⟨h.1, h.2.1, h.2.2.1, h.2.2.2.1, hy⟩
theorem mk_lst {s t k : Nat} (h : VR s t k) (h0 : orbI (nx s t) k = 0) : Mk s t k k ↔ lst s t k = false := by
  have hc := h.cyc h0
  constructor
  · rintro ⟨y, hy, hy0, i, hi⟩
    have hcy := (h.of (y := y) (by have := h.2.2.2.2; omega)).cyc hy0
    obtain ⟨j, _, hj⟩ := hcy.turn i
    rw [hi] at hj
    cases hl : lst s t k with
    | false => rfl
    | true =>
      have := (lst_yes.1 hl).2 (j % orbN (nx s t) k) (Nat.mod_lt _ hc.pos)
      rw [hc.mod, hj] at this
      omega
  · intro hl
    have : ¬ ∀ i, i < orbN (nx s t) k → k ≤ it (nx s t) i k := fun hh => by
      rw [lst_yes.2 ⟨h0, hh⟩] at hl
      exact absurd hl (by decide)
    have hne : ∃ i, i < orbN (nx s t) k ∧ it (nx s t) i k < k := Classical.byContradiction fun hh => this fun i hi => Nat.le_of_not_lt fun hlt => hh ⟨i, hi, hlt⟩
    obtain ⟨i, hi, hlt⟩ := hne
    obtain ⟨j, _, hj⟩ := hc.turn i
    exact ⟨_, hlt, ((hc.it i).orb h.orbN_lt).2, j, hj⟩
theorem mk_no {s t k : Nat} (h : VR s t k) (hl : lst s t k = false) (z : Nat) : Mk s t (k + 1) z ↔ Mk s t k z := by
  constructor
  · rintro ⟨y, hy, hy0, i, hi⟩
    by_cases e : y = k
    · subst e
      obtain ⟨y', hy', hy0', j, hj⟩ := (mk_lst h hy0).2 hl
      exact ⟨y', hy', hy0', j + i, by rw [it_add, hj, hi]⟩
    · exact ⟨y, by omega, hy0, i, hi⟩
  · rintro ⟨y, hy, r⟩
    exact ⟨y, by omega, r⟩
theorem mk_yes {s t k : Nat} (h : VR s t k) (hl : lst s t k = true) (z : Nat) : Mk s t (k + 1) z ↔ Mk s t k z ∨ ∃ i, i < orbN (nx s t) k ∧ it (nx s t) i k = z := by
  have h0 := (lst_yes.1 hl).1
  have hc := h.cyc h0
  constructor
  · rintro ⟨y, hy, hy0, i, hi⟩
    by_cases e : y = k
    · subst e
      exact .inr ⟨i % _, Nat.mod_lt _ hc.pos, by rw [hc.mod, hi]⟩
    · exact .inl ⟨y, by omega, hy0, i, hi⟩
  · rintro (⟨y, hy, r⟩ | ⟨i, hi, e⟩)
    · exact ⟨y, by omega, r⟩
    · exact ⟨k, by omega, h0, i, e⟩
/-- the lengths of the cycles whose first states are among the first k -/
def clist (s t k : Nat) : List Int := ((List.range k).filter (lst s t)).map fun x => ((orbN (nx s t) x : Nat) : Int)
theorem clist_zero (s t : Nat) : clist s t 0 = [] := rfl
theorem clist_yes (s t k : Nat) (h : lst s t k = true) : clist s t (k + 1) = clist s t k ++ [((orbN (nx s t) k : Nat) : Int)] := by
  unfold clist
  rw [List.range_succ, List.filter_append, List.map_append, List.filter_cons, if_pos h]
  rfl
theorem clist_no (s t k : Nat) (h : lst s t k = false) : clist s t (k + 1) = clist s t k := by
  unfold clist
  rw [List.range_succ, List.filter_append, List.map_append, List.filter_cons, h]
  simp
theorem clist_length (s t k : Nat) : (clist s t k).length ≤ k := by
  unfold clist
  rw [List.length_map]
  exact Nat.le_trans (List.length_filter_le _ _) (by simp)
/-- the states of cycles, cycle by cycle -/
theorem cyc_perm (s t : Nat) (hv : VR s t 1) (P : Nat → Bool) :
    (((List.range (2 ^ s)).filter fun k => lst s t k && P (orbN (nx s t) k)).flatMap fun k => (List.range (orbN (nx s t) k)).map fun i => it (nx s t) i k).Perm
      ((List.range (2 ^ s)).filter fun x => (orbI (nx s t) x == 0) && P (orbN (nx s t) x)) := by
  refine (List.perm_ext_iff_of_nodup ?_ ?_).2 ?_
  · unfold List.Nodup
    rw [List.pairwise_flatMap]
    constructor
    · intro k hk
      rw [List.mem_filter] at hk
      obtain ⟨hk1, hk2⟩ := hk
      rw [Bool.and_eq_true] at hk2
      have hvk := hv.of (y := k) (by simpa using hk1)
      exact states_nodup (hvk.cyc (lst_yes.1 hk2.1).1).dis
    · refine List.Pairwise.imp_of_mem ?_ ((List.pairwise_lt_range (n := 2 ^ s)).filter _)
      intro a b ha hb hab x hx y hy e
      subst e
      rw [List.mem_filter] at ha hb
      obtain ⟨ha1, ha2⟩ := ha
      obtain ⟨hb1, hb2⟩ := hb
      rw [Bool.and_eq_true] at ha2 hb2
      have hva := hv.of (y := a) (by simpa using ha1)
      have hvb := hv.of (y := b) (by simpa using hb1)
      obtain ⟨i, hi, hxa⟩ := List.mem_map.1 hx
      obtain ⟨j, hj, hxb⟩ := List.mem_map.1 hy
      obtain ⟨a0, al⟩ := lst_yes.1 ha2.1
      obtain ⟨b0, bl⟩ := lst_yes.1 hb2.1
      have hcb := hvb.cyc b0
      obtain ⟨p, hp, he⟩ := (hva.cyc a0).turn i
      rw [hxa, ← hxb, ← it_add] at he
      have := bl ((j + p) % orbN (nx s t) b) (Nat.mod_lt _ hcb.pos)
      rw [hcb.mod, he] at this
      omega
  · exact List.nodup_range.filter _
  · intro x
    rw [List.mem_flatMap, List.mem_filter, Bool.and_eq_true, beq_iff_eq]
    constructor
    · rintro ⟨k, hk, hx⟩
      rw [List.mem_filter] at hk
      obtain ⟨hk1, hk2⟩ := hk
      rw [Bool.and_eq_true] at hk2
      have hvk := hv.of (y := k) (by simpa using hk1)
      obtain ⟨k0, kl⟩ := lst_yes.1 hk2.1
      obtain ⟨i, hi, rfl⟩ := List.mem_map.1 hx
      obtain ⟨e1, e2⟩ := ((hvk.cyc k0).it i).orb hvk.orbN_lt
      refine ⟨?_, e2, by rw [e1]; exact hk2.2⟩
      rw [List.mem_range]
      exact (hvk.itnx i).2.2.2.2
    · rintro ⟨hx, h0, hP⟩
      have hxl : x < 2 ^ s := by simpa using hx
      have hvx := hv.of hxl
      have hcx := hvx.cyc h0
      obtain ⟨k, ⟨i, rfl⟩, hmin⟩ : ∃ k, (∃ i, it (nx s t) i x = k) ∧ ∀ i, k ≤ it (nx s t) i x := by
        have := SS.least (fun k => ∃ i, it (nx s t) i x = k) x ⟨0, rfl⟩
        obtain ⟨m, hm, hl⟩ := this
        exact ⟨m, hm, fun i => Nat.le_of_not_lt fun hlt => hl _ hlt ⟨i, rfl⟩⟩
      have hck := hcx.it i
      obtain ⟨e1, e2⟩ := hck.orb hvx.orbN_lt
      obtain ⟨j, hj, he⟩ := hcx.turn i
      refine ⟨it (nx s t) i x, ?_, ?_⟩
      · rw [List.mem_filter, Bool.and_eq_true]
        refine ⟨by rw [List.mem_range]; exact (hvx.itnx i).2.2.2.2, lst_yes.2 ⟨e2, fun a _ => ?_⟩, by rw [e1]; exact hP⟩
        rw [← it_add]
        exact hmin _
      · rw [List.mem_map]
        exact ⟨j, by rw [e1, List.mem_range]; exact hj, he⟩
end SS
