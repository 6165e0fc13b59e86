/- Plain facts on reversed taps; no program is in sight. -/
import Derived.Test.YtgdnmhigjhfpkaaDoorPlainRec
import Derived.Test.YtgdnmhigjhfpkaaDoorPlainRev
import Derived.Test.YtgdnmhigjhfpkaaDoorPlainMaxi
namespace SS
def fpar (n : Nat) : Nat :=
  let a := n ^^^ (n / 16)
  let b := a ^^^ (a / 4)
  let c := b ^^^ (b / 2)
  c % 2
theorem fpar_all : ((List.range 256).all fun n => fpar n == par n) = true := by decide +kernel
theorem fpar_eq (n : Nat) (h : n < 256) : fpar n = par n := by
  have := List.all_eq_true.1 fpar_all n (by simp [h])
  simpa using this
def fnx (s t x : Nat) : Nat := x / 2 + fpar (x &&& t) * 2 ^ (s - 1)
theorem fnx_eq (s t x : Nat) (h : x < 256) : fnx s t x = nx s t x := by
  unfold fnx nx
  rw [fpar_eq _ (Nat.lt_of_le_of_lt Nat.and_le_left h)]
/-- after how many steps the state 1 comes next -/
def ret (s t : Nat) : Nat → Nat → Nat
  | 0, _ => 0
  | f + 1, x => if x = 1 then 0 else ret s t f (fnx s t x) + 1
theorem ret_le (s t f x : Nat) : ret s t f x ≤ f := by
  induction f generalizing x with
  | zero => exact Nat.le_refl _
  | succ f ih =>
    unfold ret
    split
    · omega
    · have := ih (fnx s t x); omega
theorem ret_spec (s t f x : Nat) (h1 : 1 ≤ s) (h8 : s ≤ 8) (hx : x < 2 ^ s) (hf : ret s t f x < f) : it (nx s t) (ret s t f x) x = 1 ∧ ∀ j, j < ret s t f x → it (nx s t) j x ≠ 1 := by
  induction f generalizing x with
  | zero => omega
  | succ f ih =>
    have hx8 : x < 256 := Nat.lt_of_lt_of_le hx (Nat.pow_le_pow_right (n := 2) (by decide) h8)
    unfold ret at hf ⊢
    by_cases e : x = 1
    · rw [if_pos e]
      exact ⟨e, fun j hj => absurd hj (by omega)⟩
    · rw [if_neg e] at hf ⊢
      rw [fnx_eq s t x hx8] at hf ⊢
      obtain ⟨h2, h3⟩ := ih (nx s t x) (nx_lt s t x h1 hx) (by omega)
      refine ⟨h2, fun j hj => ?_⟩
      cases j with
      | zero => exact e
      | succ j => exact h3 j (by omega)
theorem ret_full (s t f x : Nat) (h1 : 1 ≤ s) (h8 : s ≤ 8) (hx : x < 2 ^ s) (k : Nat) (hk : k < f) (h : it (nx s t) k x = 1) (hm : ∀ j, j < k → it (nx s t) j x ≠ 1) : ret s t f x = k := by
  induction f generalizing x k with
  | zero => omega
  | succ f ih =>
    have hx8 : x < 256 := Nat.lt_of_lt_of_le hx (Nat.pow_le_pow_right (n := 2) (by decide) h8)
    unfold ret
    cases k with
    | zero => rw [if_pos (show x = 1 from h)]
    | succ k =>
      have e : x ≠ 1 := hm 0 (by omega)
      rw [if_neg e, fnx_eq s t x hx8, ih (nx s t x) (nx_lt s t x h1 hx) k (by omega) h (fun j hj => hm (j + 1) (by omega))]
def isM (s t : Nat) : Bool := ret s t 300 (fnx s t 1) + 1 == 2 ^ s - 1
theorem isM_iff {s t : Nat} (hv : VR s t 1) : isM s t = true ↔ Mxp s t := by
  have h4 := hv.four
  have h256 : 2 ^ s ≤ 256 := Nat.pow_le_pow_right (n := 2) (by decide) hv.2.1
  have h1 : 1 ≤ s := by have := hv.1; omega
  unfold isM
  rw [beq_iff_eq, fnx_eq s t 1 (by decide)]
  have hx1 := hv.nx.2.2.2.2
  constructor
  · intro h
    obtain ⟨r1, r2⟩ := ret_spec s t 300 (nx s t 1) h1 hv.2.1 hx1 (by omega)
    have hk : ret s t 300 (nx s t 1) = 2 ^ s - 2 := by omega
    rw [hk] at r1 r2
    have e0 : it (nx s t) (2 ^ s - 1) 1 = 1 := by
      rw [show 2 ^ s - 1 = (2 ^ s - 2) + 1 by omega]
      exact r1
    have e1 : ∀ j, 0 < j → j < 2 ^ s - 1 → it (nx s t) j 1 ≠ 1 := fun j h0 hj => by
      rw [show j = (j - 1) + 1 by omega]
      exact r2 (j - 1) (by omega)
    have horb : Orb (nx s t) 1 0 (2 ^ s - 1) := by
      refine ⟨by omega, e0.symm, fun a b hab hb e => ?_⟩
      have := congrArg (it (nx s t) (2 ^ s - 1 - b)) e
      rw [← it_add, ← it_add, show b + (2 ^ s - 1 - b) = 2 ^ s - 1 by omega, e0] at this
      exact e1 (a + (2 ^ s - 1 - b)) (by omega) (by omega) this
    obtain ⟨hn, hi⟩ := horb.eq (by omega)
    unfold Mxp
    rw [hn, hi]
    omega
  · intro h
    obtain ⟨hI, hN, h0⟩ := h.orb hv
    obtain ⟨⟨_, he, hd⟩, _⟩ := hv.orb
    rw [hI, hN] at he
    rw [hN] at hd
    have hz : it (nx s t) 0 1 = 1 := rfl
    have := ret_full s t 300 (nx s t 1) h1 hv.2.1 hx1 (2 ^ s - 2) (by omega) (by
      show it (nx s t) (2 ^ s - 2 + 1) 1 = 1
      rw [show 2 ^ s - 2 + 1 = 2 ^ s - 1 by omega, ← he]
      rfl) (fun j hj e => hd 0 (j + 1) (by omega) (by omega) (hz.trans e.symm))
    omega
def turnOk (s t : Nat) : Bool := t % 2 == 0 || (isM s (rvt s t) == isM s t && rvt s (rvt s t) == t && decide (rvt s t < 2 ^ s) && (rvt s t % 2 == 1) && (List.range s).all fun i => i == 0 || dg (rvt s t) i == dg t (s - i))
theorem turn_all : ((List.range 9).all fun s => decide (s < 2) || (List.range (2 ^ s)).all fun t => turnOk s t) = true := by decide +kernel
theorem turn_at (s t : Nat) (h2 : 2 ≤ s) (h8 : s ≤ 8) (ht : t < 2 ^ s) (ho : t % 2 = 1) :
    isM s (rvt s t) = isM s t ∧ rvt s (rvt s t) = t ∧ rvt s t < 2 ^ s ∧ rvt s t % 2 = 1 ∧ ∀ i, 1 ≤ i → i < s → dg (rvt s t) i = dg t (s - i) := by
  have h1 := List.all_eq_true.1 turn_all s (by simp; omega)
  rw [Bool.or_eq_true, decide_eq_true_eq] at h1
  rcases h1 with h1 | h1
  · omega
  · have h3 := List.all_eq_true.1 h1 t (by simpa using ht)
    unfold turnOk at h3
    simp only [Bool.or_eq_true, Bool.and_eq_true, beq_iff_eq, decide_eq_true_eq, List.all_eq_true, List.mem_range] at h3
    rcases h3 with h3 | ⟨⟨⟨⟨a, b⟩, c⟩, d⟩, e⟩
    · omega
    · exact ⟨a, b, c, d, fun i hi1 hi2 => (e i hi2).resolve_left (by omega)⟩
/-- bits in reverse order are sums by the reversed taps -/
theorem rec_turn (s t n : Nat) (b : Nat → Nat) (h2 : 2 ≤ s) (h8 : s ≤ 8) (ht : t < 2 ^ s) (ho : t % 2 = 1) (hb : Rec s t n b) : Rec s (rvt s t) n (fun k => b (n - 1 - k)) := by
  obtain ⟨_, _, _, hm, hd⟩ := turn_at s t h2 h8 ht ho
  intro k hk
  obtain ⟨j, hj⟩ : ∃ j, n - 1 - (k + s) = j := ⟨_, rfl⟩
  have hr := hb j (by omega)
  show b (n - 1 - (k + s)) % 2 = lin s (rvt s t) (fun i => b (n - 1 - (k + i))) % 2
  obtain ⟨m, rfl⟩ : ∃ m, s = m + 1 := ⟨s - 1, by omega⟩
  have e1 : lin (m + 1) t (fun i => b (j + i)) = b j + sumN m (fun i => dg t (i + 1) * b (j + (i + 1))) := by
    unfold lin
    rw [sumN_front]
    unfold dg
    simp [ho]
  have e2 : lin (m + 1) (rvt (m + 1) t) (fun i => b (n - 1 - (k + i))) = b (j + (m + 1)) + sumN m (fun i => dg t (i + 1) * b (j + (i + 1))) := by
    unfold lin
    rw [sumN_front]
    have e3 : dg (rvt (m + 1) t) 0 * b (n - 1 - (k + 0)) = b (j + (m + 1)) := by
      unfold dg
      rw [Nat.pow_zero, Nat.div_one, hm, Nat.one_mul]
      congr 1
      omega
    rw [e3, ← sumN_rev m (fun i => dg t (i + 1) * b (j + (i + 1)))]
    congr 1
    refine sumN_congr _ _ _ fun i hi => ?_
    rw [hd (i + 1) (by omega) (by omega)]
    show dg t (m + 1 - (i + 1)) * b (n - 1 - (k + (i + 1))) = dg t (m - 1 - i + 1) * b (j + (m - 1 - i + 1))
    rw [show m + 1 - (i + 1) = m - 1 - i + 1 by omega, show n - 1 - (k + (i + 1)) = j + (m - 1 - i + 1) by omega]
  rw [hj, e2]
  rw [e1] at hr
  omega
end SS
