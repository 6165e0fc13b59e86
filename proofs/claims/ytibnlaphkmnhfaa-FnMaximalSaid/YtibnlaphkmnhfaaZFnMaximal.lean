/- Texts of this claim, joined: PlainRev, PlainTurn, WMxi, WRun, WStrs, PlainMseq, WSsMax, PlainCyc2, WTail, LawFnMaximal. -/
import Derived.Test.YtibnlaphkmnhfaaPlainReg
import Derived.Test.YtibnlaphkmnhfaaPlainRec
import Derived.Test.YtibnlaphkmnhfaaPlainMaxi
import Derived.Test.YtibnlaphkmnhfaaWMaxT
import Derived.Test.YtibnlaphkmnhfaaWJump
import Derived.Test.YtibnlaphkmnhfaaWMake
import Derived.Test.YtibnlaphkmnhfaaWFill
import Derived.Laws.OwnMore
import Derived.Deep.RegionHeld3
import Derived.Deep.AppendLies
import Derived.Test.YtibnlaphkmnhfaaPlainCyc
import Derived.Test.YtibnlaphkmnhfaaPlainRun
import Derived.Test.YtibnlaphkmnhfaaWAfter
import Derived.Laws.StructEq
import Derived.Test.YtibnlaphkmnhfaaWDrawQ
import Derived.Test.YtibnlaphkmnhfaaWCyc
namespace SS
/-- reversed taps, as far as the cell k -/
def rvs (s t : Nat) : Nat → Nat
  | 0 => 1
  | k + 1 => rvs s t k + t / 2 ^ (k + 1) % 2 * 2 ^ (s - (k + 1))
/-- reversed taps -/
def rvt (s t : Nat) : Nat := rvs s t (s - 1)
theorem or_mid (j m : Nat) (hj : 1 ≤ j) : (2 ^ (j + 1) * m + 1) ||| 2 ^ j = 2 ^ (j + 1) * m + 1 + 2 ^ j := by
  have h2 : 2 ≤ 2 ^ j := by have := Nat.pow_le_pow_right (n := 2) (by decide) hj; simpa using this
  have hp : 2 ^ (j + 1) = 2 * 2 ^ j := by rw [Nat.pow_succ, Nat.mul_comm]
  have e1 := Nat.two_pow_add_eq_or_of_lt (show 1 < 2 ^ (j + 1) by omega) m
  have e2 := Nat.two_pow_add_eq_or_of_lt (show 1 + 2 ^ j < 2 ^ (j + 1) by omega) m
  have e3 := add_eq_or j 1 1 (by omega)
  rw [Nat.one_mul] at e3
  rw [e1, Nat.or_assoc, ← e3, ← e2, ← e1, Nat.add_assoc]
theorem rvs_form (s t k : Nat) (hk : k < s) : ∃ m, rvs s t k = 2 ^ (s - k) * m + 1 := by
  induction k with
  | zero => exact ⟨0, by simp [rvs]⟩
  | succ k ih =>
    obtain ⟨m, hm⟩ := ih (by omega)
    refine ⟨2 * m + t / 2 ^ (k + 1) % 2, ?_⟩
    have hp : 2 ^ (s - k) = 2 ^ (s - (k + 1)) * 2 := by rw [← Nat.pow_succ]; congr 1; omega
    rw [rvs, hm, hp, Nat.mul_add, Nat.mul_assoc, Nat.mul_comm (t / 2 ^ (k + 1) % 2)]
    omega
theorem rvs_or (s t k : Nat) (hk : k + 1 < s) (hb : t / 2 ^ (k + 1) % 2 = 1) : rvs s t (k + 1) = rvs s t k ||| 2 ^ (s - (k + 1)) := by
  obtain ⟨m, hm⟩ := rvs_form s t k (by omega)
  have := or_mid (s - (k + 1)) m (by omega)
  rw [show s - (k + 1) + 1 = s - k by omega, ← hm] at this
  rw [this, rvs, hb, Nat.one_mul]
theorem rvs_same (s t k : Nat) (hb : t / 2 ^ (k + 1) % 2 = 0) : rvs s t (k + 1) = rvs s t k := by rw [rvs, hb, Nat.zero_mul, Nat.add_zero]
theorem rvs_lt (s t k : Nat) (hk : k < s) : rvs s t k < 2 ^ s ∧ 1 ≤ rvs s t k := by
  have h : rvs s t k ≤ 2 ^ s - 2 ^ (s - k) + 1 := by
    induction k with
    | zero => simp [rvs]
    | succ k ih =>
      have := ih (by omega)
      have hp : 2 ^ (s - k) = 2 ^ (s - (k + 1)) * 2 := by rw [← Nat.pow_succ]; congr 1; omega
      have hle : 2 ^ (s - k) ≤ 2 ^ s := Nat.pow_le_pow_right (by decide) (by omega)
      have hm := Nat.mod_lt (t / 2 ^ (k + 1)) (show 0 < 2 by decide)
      rw [rvs]
      rcases (show t / 2 ^ (k + 1) % 2 = 0 ∨ t / 2 ^ (k + 1) % 2 = 1 by omega) with e | e <;> rw [e] <;> omega
  have h2 : 2 ≤ 2 ^ (s - k) := by have := Nat.pow_le_pow_right (n := 2) (by decide) (show 1 ≤ s - k by omega); simpa using this
  have hle : 2 ^ (s - k) ≤ 2 ^ s := Nat.pow_le_pow_right (by decide) (by omega)
  obtain ⟨m, hm⟩ := rvs_form s t k hk
  exact ⟨by omega, by omega⟩
end SS

namespace SS
def fpar (n : Nat) : Nat :=
  let a := n ^^^ (n / 16)
  let b := a ^^^ (a / 4)
  let c := b ^^^ (b / 2)
  c % 2
theorem fpar_all : ((List.range 256).all fun n => fpar n == par n) = true := by decide +kernel
theorem fpar_eq (n : Nat) (h : n < 256) : fpar n = par n := by
  have := List.all_eq_true.1 fpar_all n (by simp [h])
  simpa using this
def fnx (s t x : Nat) : Nat := x / 2 + fpar (x &&& t) * 2 ^ (s - 1)
theorem fnx_eq (s t x : Nat) (h : x < 256) : fnx s t x = nx s t x := by
  unfold fnx nx
  rw [fpar_eq _ (Nat.lt_of_le_of_lt Nat.and_le_left h)]
/-- after how many steps the state 1 comes next -/
def ret (s t : Nat) : Nat → Nat → Nat
  | 0, _ => 0
  | f + 1, x => if x = 1 then 0 else ret s t f (fnx s t x) + 1
theorem ret_le (s t f x : Nat) : ret s t f x ≤ f := by
  induction f generalizing x with
  | zero => exact Nat.le_refl _
  | succ f ih =>
    unfold ret
    split
    · omega
    · have := ih (fnx s t x); omega
theorem ret_spec (s t f x : Nat) (h1 : 1 ≤ s) (h8 : s ≤ 8) (hx : x < 2 ^ s) (hf : ret s t f x < f) : it (nx s t) (ret s t f x) x = 1 ∧ ∀ j, j < ret s t f x → it (nx s t) j x ≠ 1 := by
  induction f generalizing x with
  | zero => omega
  | succ f ih =>
    have hx8 : x < 256 := Nat.lt_of_lt_of_le hx (Nat.pow_le_pow_right (n := 2) (by decide) h8)
    unfold ret at hf ⊢
    by_cases e : x = 1
    · rw [if_pos e]
      exact ⟨e, fun j hj => absurd hj (by omega)⟩
    · rw [if_neg e] at hf ⊢
      rw [fnx_eq s t x hx8] at hf ⊢
      obtain ⟨h2, h3⟩ := ih (nx s t x) (nx_lt s t x h1 hx) (by omega)
      refine ⟨h2, fun j hj => ?_⟩
      cases j with
      | zero => exact e
      | succ j => exact h3 j (by omega)
theorem ret_full (s t f x : Nat) (h1 : 1 ≤ s) (h8 : s ≤ 8) (hx : x < 2 ^ s) (k : Nat) (hk : k < f) (h : it (nx s t) k x = 1) (hm : ∀ j, j < k → it (nx s t) j x ≠ 1) : ret s t f x = k := by
  induction f generalizing x k with
  | zero => omega
  | succ f ih =>
    have hx8 : x < 256 := Nat.lt_of_lt_of_le hx (Nat.pow_le_pow_right (n := 2) (by decide) h8)
    unfold ret
    cases k with
    | zero => rw [if_pos (show x = 1 from h)]
    | succ k =>
      have e : x ≠ 1 := hm 0 (by omega)
      rw [if_neg e, fnx_eq s t x hx8, ih (nx s t x) (nx_lt s t x h1 hx) k (by omega) h (fun j hj => hm (j + 1) (by omega))]
def isM (s t : Nat) : Bool := ret s t 300 (fnx s t 1) + 1 == 2 ^ s - 1
theorem isM_iff {s t : Nat} (hv : VR s t 1) : isM s t = true ↔ Mxp s t := by
  have h4 := hv.four
  have h256 : 2 ^ s ≤ 256 := Nat.pow_le_pow_right (n := 2) (by decide) hv.2.1
  have h1 : 1 ≤ s := by have := hv.1; omega
  unfold isM
  rw [beq_iff_eq, fnx_eq s t 1 (by decide)]
  have hx1 := hv.nx.2.2.2.2
  constructor
  · intro h
    obtain ⟨r1, r2⟩ := ret_spec s t 300 (nx s t 1) h1 hv.2.1 hx1 (by omega)
    have hk : ret s t 300 (nx s t 1) = 2 ^ s - 2 := by omega
    rw [hk] at r1 r2
    have e0 : it (nx s t) (2 ^ s - 1) 1 = 1 := by
      rw [show 2 ^ s - 1 = (2 ^ s - 2) + 1 by omega]
      exact r1
    have e1 : ∀ j, 0 < j → j < 2 ^ s - 1 → it (nx s t) j 1 ≠ 1 := fun j h0 hj => by
      rw [show j = (j - 1) + 1 by omega]
      exact r2 (j - 1) (by omega)
    have horb : Orb (nx s t) 1 0 (2 ^ s - 1) := by
      refine ⟨by omega, e0.symm, fun a b hab hb e => ?_⟩
      have := congrArg (it (nx s t) (2 ^ s - 1 - b)) e
      rw [← it_add, ← it_add, show b + (2 ^ s - 1 - b) = 2 ^ s - 1 by omega, e0] at this
      exact e1 (a + (2 ^ s - 1 - b)) (by omega) (by omega) this
    obtain ⟨hn, hi⟩ := horb.eq (by omega)
    unfold Mxp
    rw [hn, hi]
    omega
  · intro h
    obtain ⟨hI, hN, h0⟩ := h.orb hv
    obtain ⟨⟨_, he, hd⟩, _⟩ := hv.orb
    rw [hI, hN] at he
    rw [hN] at hd
    have hz : it (nx s t) 0 1 = 1 := rfl
    have := ret_full s t 300 (nx s t 1) h1 hv.2.1 hx1 (2 ^ s - 2) (by omega) (by
      show it (nx s t) (2 ^ s - 2 + 1) 1 = 1
      rw [show 2 ^ s - 2 + 1 = 2 ^ s - 1 by omega, ← he]
      rfl) (fun j hj e => hd 0 (j + 1) (by omega) (by omega) (hz.trans e.symm))
    omega
def turnOk (s t : Nat) : Bool := t % 2 == 0 || (isM s (rvt s t) == isM s t && rvt s (rvt s t) == t && decide (rvt s t < 2 ^ s) && (rvt s t % 2 == 1) && (List.range s).all fun i => i == 0 || dg (rvt s t) i == dg t (s - i))
theorem turn_all : ((List.range 9).all fun s => decide (s < 2) || (List.range (2 ^ s)).all fun t => turnOk s t) = true := by decide +kernel
theorem turn_at (s t : Nat) (h2 : 2 ≤ s) (h8 : s ≤ 8) (ht : t < 2 ^ s) (ho : t % 2 = 1) :
    isM s (rvt s t) = isM s t ∧ rvt s (rvt s t) = t ∧ rvt s t < 2 ^ s ∧ rvt s t % 2 = 1 ∧ ∀ i, 1 ≤ i → i < s → dg (rvt s t) i = dg t (s - i) := by
  have h1 := List.all_eq_true.1 turn_all s (by simp; omega)
  rw [Bool.or_eq_true, decide_eq_true_eq] at h1
  rcases h1 with h1 | h1
  · omega
  · have h3 := List.all_eq_true.1 h1 t (by simpa using ht)
    unfold turnOk at h3
    simp only [Bool.or_eq_true, Bool.and_eq_true, beq_iff_eq, decide_eq_true_eq, List.all_eq_true, List.mem_range] at h3
    rcases h3 with h3 | ⟨⟨⟨⟨a, b⟩, c⟩, d⟩, e⟩
    · omega
    · exact ⟨a, b, c, d, fun i hi1 hi2 => (e i hi2).resolve_left (by omega)⟩
/-- bits in reverse order are sums by the reversed taps -/
theorem rec_turn (s t n : Nat) (b : Nat → Nat) (h2 : 2 ≤ s) (h8 : s ≤ 8) (ht : t < 2 ^ s) (ho : t % 2 = 1) (hb : Rec s t n b) : Rec s (rvt s t) n (fun k => b (n - 1 - k)) := by
  obtain ⟨_, _, _, hm, hd⟩ := turn_at s t h2 h8 ht ho
  intro k hk
  obtain ⟨j, hj⟩ : ∃ j, n - 1 - (k + s) = j := ⟨_, rfl⟩
  have hr := hb j (by omega)
  show b (n - 1 - (k + s)) % 2 = lin s (rvt s t) (fun i => b (n - 1 - (k + i))) % 2
  obtain ⟨m, rfl⟩ : ∃ m, s = m + 1 := ⟨s - 1, by omega⟩
  have e1 : lin (m + 1) t (fun i => b (j + i)) = b j + sumN m (fun i => dg t (i + 1) * b (j + (i + 1))) := by
    unfold lin
    rw [sumN_front]
    unfold dg
    simp [ho]
  have e2 : lin (m + 1) (rvt (m + 1) t) (fun i => b (n - 1 - (k + i))) = b (j + (m + 1)) + sumN m (fun i => dg t (i + 1) * b (j + (i + 1))) := by
    unfold lin
    rw [sumN_front]
    have e3 : dg (rvt (m + 1) t) 0 * b (n - 1 - (k + 0)) = b (j + (m + 1)) := by
      unfold dg
      rw [Nat.pow_zero, Nat.div_one, hm, Nat.one_mul]
      congr 1
      omega
    rw [e3, ← sumN_rev m (fun i => dg t (i + 1) * b (j + (i + 1)))]
    congr 1
    refine sumN_congr _ _ _ fun i hi => ?_
    rw [hd (i + 1) (by omega) (by omega)]
    show dg t (m + 1 - (i + 1)) * b (n - 1 - (k + (i + 1))) = dg t (m - 1 - i + 1) * b (j + (m - 1 - i + 1))
    rw [show m + 1 - (i + 1) = m - 1 - i + 1 by omega, show n - 1 - (k + (i + 1)) = j + (m - 1 - i + 1) by omega]
  rw [hj, e2]
  rw [e1] at hr
  omega
end SS

namespace Go.Proofs.Ytibnlaphkmnhfaa
open Go.RowKit SS
set_option maxRecDepth 100000
theorem mx_of_isM {s t : Nat} (hv : VR s t 1) (h : isM s t = true) : mx s t = true := by
  have h1 := (isM_iff hv).1 h
  obtain ⟨⟨hI, _, _⟩, hN⟩ := hv.orb
  have hp : ((2 : Int) ^ s) = ((2 ^ s : Nat) : Int) := by simp
  have h4 := hv.four
  unfold Mxp at h1
  unfold mx per1
  rw [beq_iff_eq, hp]
  omega
theorem mtaps_ne (s : Nat) (h2 : 2 ≤ s) (h5 : s ≤ 8) : mtaps s (2 ^ s) ≠ [] := by
  have key : ∃ t, VR s t 1 ∧ isM s t = true := by
    rcases (show s = 2 ∨ s = 3 ∨ s = 4 ∨ s = 5 ∨ s = 6 ∨ s = 7 ∨ s = 8 by omega) with rfl | rfl | rfl | rfl | rfl | rfl | rfl
    · exact ⟨3, ⟨by omega, by omega, by omega, by omega, by omega⟩, by decide +kernel⟩
    · exact ⟨3, ⟨by omega, by omega, by omega, by omega, by omega⟩, by decide +kernel⟩
    · exact ⟨3, ⟨by omega, by omega, by omega, by omega, by omega⟩, by decide +kernel⟩
    · exact ⟨5, ⟨by omega, by omega, by omega, by omega, by omega⟩, by decide +kernel⟩
    · exact ⟨3, ⟨by omega, by omega, by omega, by omega, by omega⟩, by decide +kernel⟩
    · exact ⟨3, ⟨by omega, by omega, by omega, by omega, by omega⟩, by decide +kernel⟩
    · exact ⟨29, ⟨by omega, by omega, by omega, by omega, by omega⟩, by decide +kernel⟩
  obtain ⟨t, hv, hm⟩ := key
  have hmem : (t : Int) ∈ mtaps s (2 ^ s) := by
    unfold mtaps
    rw [List.mem_map]
    refine ⟨t, ?_, rfl⟩
    rw [List.mem_filter, List.mem_range]
    refine ⟨hv.2.2.2.1, ?_⟩
    rw [mx_of_isM hv hm]
    simp
    exact hv.2.2.1
  intro h
  rw [h] at hmem
  simp at hmem
theorem mtaps_at (s k : Nat) : ∀ x ∈ mtaps s k, ∃ t : Nat, x = (t : Int) ∧ 1 ≤ t ∧ t < k ∧ mx s t = true := by
  intro x hx
  unfold mtaps at hx
  obtain ⟨t, ht, rfl⟩ := List.mem_map.1 hx
  rw [List.mem_filter] at ht
  simp at ht
  exact ⟨t, rfl, ht.2.1, ht.1, ht.2.2⟩
end Go.Proofs.Ytibnlaphkmnhfaa

namespace Go.Proofs.Ytibnlaphkmnhfaa
open Go.RowKit SS
set_option maxRecDepth 100000

/-- the arguments at which bits are written -/
def nv (s t x n : Int) : Bool := rv s t x && decide (0 ≤ n ∧ n ≤ 600)
set_option maxHeartbeats 1000000 in
theorem run_yes (s t x n : Nat) (w : World) (hv : VR s t x) (hn : n ≤ 600) :
    Calls Try.prog 112 #[.agg #[.int .i64 s, .int .i64 t, .int .i64 x], .int .i64 n] w fun e w' => e = .returned (.tuple #[.string ⟨(run s t n x).toArray⟩, .bool true]) ∧ Below w.heap.size w w' := by
  have hr := rv_mk hv
  have HV := Lib.hid hv
  clear hv
  have k1 : decide ((n : Int) < 0) = false := by simp
  have k2 : decide (600 < (n : Int)) = false := by simp; omega
  have hmk := makeBytes n (by omega)
  generalize hM : madeCells #[.int .u8 0] n = M at hmk
  have HM := Lib.hid hM
  clear hM
  go_enter Try.func112, Try.ntmps112
  go_wp2_with fail
  refine (valid_impl _ _ _ _).mono ?_
  rintro e w1 ⟨rfl, hb1⟩
  have b1 := (B3.new w 53 (.int .i64 s) (.int .i64 t) (.int .i64 x)).below hb1 (by simp)
  have hw1 : Below w.heap.size w w1 := shutBox hb1
  clear hb1
  have hz := b1.facts.2.2.2.2.2.2
  have b1 := b1.alloc (.cells M 5)
  have r1 := BB.new w1 5 n
  rw [HM.out] at r1
  have hw2 := hw1.alloc hw1.size (.cells M 5)
  go_wp2_with fail
  go_loopw [23] (fun i wr => ∃ j : Nat, j ≤ n ∧ i = .int .i64 (j : Int) ∧ B3 wr w.heap.size 53 (.int .i64 s) (.int .i64 t) (.int .i64 (it (nx s t) j x)) ∧ BB wr w1.heap.size 5 (fil (fun j => bt (it (nx s t) j x % 2)) n j) ∧ Below w.heap.size w wr) (fun i _ => n - (intOf i).toNat)
  case atStart => exact ⟨0, Nat.zero_le _, rfl, b1, by rw [fil_zero]; exact r1, hw2⟩
  case round =>
    clear b1 r1 hw1 hw2
    obtain ⟨j, hj, rfl, b1, r1, hwr⟩ := hrel
    by_cases hlt : j < n
    · obtain ⟨c0, c1, c2, f0, f1, f2, hzr⟩ := b1.facts
      obtain ⟨v1, v2, v3, v4, v5⟩ := HV.out.itnx j
      have hx' := lt256 v2 v5
      have c3 := r1.cell j (by rw [fil_length _ _ _ hj]; exact hlt)
      have f3 := r1.frozen j
      obtain ⟨old, ho⟩ : ∃ old, wr.cell? ⟨w1.heap.size, j, none⟩ = some old := ⟨_, c3⟩
      clear c3
      have ea : bits .and .i64 ((it (nx s t) j x : Nat) : Int) 1 = ((it (nx s t) j x % 2 : Nat) : Int) := by
        rw [show (1 : Int) = ((1 : Nat) : Int) from rfl, and_i64 _ 1 (by omega) (by decide), Nat.and_one_is_mod]
      go_wp2_with fail
      refine (bitOf_impl _ _ (Nat.mod_lt _ (by decide))).mono ?_
      rintro e w2 ⟨rfl, rfl⟩
      go_wp2_with fail
      have r1' := r1.set j (bt (it (nx s t) j x % 2))
      rw [fil_step (fun j => bt (it (nx s t) j x % 2)) n j hlt] at r1'
      have b1' := b1.other (a := ⟨w1.heap.size, j, none⟩) (show w.heap.size ≠ w1.heap.size by omega) (.int .u8 (bt (it (nx s t) j x % 2)).toNat)
      have hw3 := hwr.setCell (p := ⟨w1.heap.size, j, none⟩) (show w.heap.size ≤ w1.heap.size by omega) (.int .u8 (bt (it (nx s t) j x % 2)).toNat)
      refine (next_impl s t _ _ v1 v2 v5 v4).mono ?_
      rintro e w2 ⟨rfl, hb2⟩
      have b1' := b1'.below hb2 b1'.facts.2.2.2.2.2.2
      have r1' := r1'.below hb2 r1'.lt
      have hw2 := next hw3 hb2 (Nat.le_refl _)
      clear c0 c1 c2 f0 f1 f2 b1 r1 hwr hb2 v1 v2 v3 v4 v5 ho f3 ea hw3 hzr
      obtain ⟨c0, c1, c2, f0, f1, f2, hz2⟩ := b1'.facts
      go_wp2
      go_roundw
      case rel => exact ⟨j + 1, by omega, by go_num, by rw [it_succ]; exact b1'.set2 _, r1'.other (show w1.heap.size ≠ w.heap.size by omega) _, hw2.setCell (by simp) _⟩
      case measure => simp [intOf]; omega
    · obtain rfl : j = n := by omega
      rw [fil_all] at r1
      have hcv := r1.conv (P := Try.prog) 22 9 j j Try.underlying22 Try.underlying5 Try.underlying9 (by simp)
      go_wp2
      go_ret2
      exact ⟨rfl, hwr⟩
set_option maxHeartbeats 1000000 in
theorem run_no (s t x n : Int) (w : World) (hk : nv s t x n = false) :
    Calls Try.prog 112 #[.agg #[.int .i64 s, .int .i64 t, .int .i64 x], .int .i64 n] w fun e w' => e = .returned (.tuple #[.string ⟨#[]⟩, .bool false]) ∧ Below w.heap.size w w' := by
  unfold nv at hk
  cases hr : rv s t x with
  | false =>
    clear hk
    go_enter Try.func112, Try.ntmps112
    go_wp2_with fail
    refine (valid_impl _ _ _ _).mono ?_
    rintro e w1 ⟨rfl, hb1⟩
    go_wp2
    go_ret2
    exact ⟨rfl, shutBox hb1⟩
  | true =>
    rw [hr, Bool.true_and] at hk
    have hk := of_decide_eq_false hk
    by_cases h1 : n < 0
    · have k1 : decide (n < 0) = true := decide_eq_true h1
      clear hk
      go_enter Try.func112, Try.ntmps112
      go_wp2_with fail
      refine (valid_impl _ _ _ _).mono ?_
      rintro e w1 ⟨rfl, hb1⟩
      go_wp2
      go_ret2
      exact ⟨rfl, shutBox hb1⟩
    · have k1 : decide (n < 0) = false := decide_eq_false h1
      have k2 : decide (600 < n) = true := decide_eq_true (by omega)
      clear hk
      go_enter Try.func112, Try.ntmps112
      go_wp2_with fail
      refine (valid_impl _ _ _ _).mono ?_
      rintro e w1 ⟨rfl, hb1⟩
      go_wp2
      go_ret2
      exact ⟨rfl, shutBox hb1⟩
set_option maxHeartbeats 1000000 in
theorem l1run (s t x n : Nat) (w : World) (hv : VR s t x) (hn : n ≤ 600) :
    Calls Try.prog 113 #[.agg #[.int .i64 s, .int .i64 t, .int .i64 x], .int .i64 n] w fun e w' => e = .returned (.string ⟨(run s t n x).toArray⟩) ∧ Below w.heap.size w w' := by
  have HV := Lib.hid hv
  clear hv
  have hmk := makeBytes n (by omega)
  generalize hM : madeCells #[.int .u8 0] n = M at hmk
  have HM := Lib.hid hM
  clear hM
  have b1 := (B3.new w 53 (.int .i64 s) (.int .i64 t) (.int .i64 x)).alloc (.cells M 5)
  have r1 := BB.new (w.alloc (.cells #[.int .i64 s, .int .i64 t, .int .i64 x] 53)) 5 n
  rw [HM.out, World.size_alloc] at r1
  have hw2 := shutBox2 (Below.refl ((w.alloc (.cells #[.int .i64 s, .int .i64 t, .int .i64 x] 53)).alloc (.cells M 5)).heap.size ((w.alloc (.cells #[.int .i64 s, .int .i64 t, .int .i64 x] 53)).alloc (.cells M 5)))
  have B1 := Lib.hid b1
  have R1 := Lib.hid r1
  have HW := Lib.hid hw2
  clear b1 r1 hw2
  go_enter Try.func113, Try.ntmps113
  go_wp2_with fail
  go_loopw [6] (fun i wr => ∃ j : Nat, j ≤ n ∧ i = .int .i64 (j : Int) ∧ B3 wr w.heap.size 53 (.int .i64 s) (.int .i64 t) (.int .i64 (it (nx s t) j x)) ∧ BB wr (w.heap.size + 1) 5 (fil (fun j => bt (it (nx s t) j x % 2)) n j) ∧ Below w.heap.size w wr) (fun i _ => n - (intOf i).toNat)
  case atStart => exact ⟨0, Nat.zero_le _, rfl, B1.out, by rw [fil_zero]; exact R1.out, HW.out⟩
  case round =>
    clear B1 R1 HW
    obtain ⟨j, hj, rfl, b1, r1, hwr⟩ := hrel
    by_cases hlt : j < n
    · obtain ⟨c0, c1, c2, f0, f1, f2, hzr⟩ := b1.facts
      obtain ⟨v1, v2, v3, v4, v5⟩ := HV.out.itnx j
      have hx' := lt256 v2 v5
      have c3 := r1.cell j (by rw [fil_length _ _ _ hj]; exact hlt)
      have f3 := r1.frozen j
      obtain ⟨old, ho⟩ : ∃ old, wr.cell? ⟨w.heap.size + 1, j, none⟩ = some old := ⟨_, c3⟩
      clear c3
      have e8 : ((bt (it (nx s t) j x % 2)).toNat : Int) = 48 + ((it (nx s t) j x : Nat) : Int) % 2 := by rw [bt_toNat _ (Nat.mod_lt _ (by decide))]; omega
      have r1' := r1.set j (bt (it (nx s t) j x % 2))
      rw [fil_step (fun j => bt (it (nx s t) j x % 2)) n j hlt, e8] at r1'
      clear e8
      have b1' := b1.other (a := ⟨w.heap.size + 1, j, none⟩) (show w.heap.size ≠ w.heap.size + 1 by omega) (.int .u8 (48 + ((it (nx s t) j x : Nat) : Int) % 2))
      have hw3 := hwr.setCell (p := ⟨w.heap.size + 1, j, none⟩) (show w.heap.size ≤ w.heap.size + 1 by omega) (.int .u8 (48 + ((it (nx s t) j x : Nat) : Int) % 2))
      go_wp2_with fail
      refine (step_spec s t _ _ v1 v2 v5 v4).mono ?_
      rintro e w2 ⟨rfl, hb2⟩
      have b1' := b1'.below hb2 b1'.facts.2.2.2.2.2.2
      have r1' := r1'.below hb2 r1'.lt
      have hw2 := next hw3 hb2 (Nat.le_refl _)
      clear c0 c1 c2 f0 f1 f2 b1 r1 hwr hb2 v1 v2 v3 v4 v5 ho f3 hw3 hzr
      obtain ⟨c0, c1, c2, f0, f1, f2, hz2⟩ := b1'.facts
      go_wp2
      go_roundw
      case rel => exact ⟨j + 1, by omega, by go_num, by rw [it_succ]; exact b1'.set012 _ _ _, ((r1'.other (show w.heap.size + 1 ≠ w.heap.size by omega) _).other (show w.heap.size + 1 ≠ w.heap.size by omega) _).other (show w.heap.size + 1 ≠ w.heap.size by omega) _, ((hw2.setCell (by simp) _).setCell (by simp) _).setCell (by simp) _⟩
      case measure => simp [intOf]; omega
    · obtain rfl : j = n := by omega
      rw [fil_all] at r1
      have hcv := r1.conv (P := Try.prog) 22 9 j j Try.underlying22 Try.underlying5 Try.underlying9 (by simp)
      go_wp2
      go_ret
      exact ⟨rfl, hwr⟩
end Go.Proofs.Ytibnlaphkmnhfaa

namespace Go.Proofs.Ytibnlaphkmnhfaa
open Go.RowKit SS
set_option maxRecDepth 100000
theorem infoB : (Try.prog.info? 5).map (fun i => (i.zero, i.size, i.bytes)) = some (some (.int .u8 0), 1, 1) := by kernel_rfl
/-- a slice, not nil, that owns letters, in a block from base on -/
def OwnB (w : World) (base : Nat) (v : Value) (l : List UInt8) : Prop := w.ownsRow base 5 1 v l.length (l.map bv) ∧ v ≠ .slice none 0 0
section
variable {w w' : World} {base : Nat} {v : Value} {l : List UInt8}
theorem OwnB.form (h : OwnB w base v l) : ∃ g cap, v = .slice (some ⟨g, 0, none⟩) l.length cap ∧ base ≤ g ∧ g < w.heap.size ∧ ∀ j x, l[j]? = some x → w.cell? ⟨g, j, none⟩ = some (bv x) := by
  rcases h.1.2 with ⟨rfl, _⟩ | ⟨g, cap, cur, rfl, hb, hg, hn, hc, hs, ht⟩
  · exact absurd rfl h.2
  · refine ⟨g, cap, rfl, hb, (Array.getElem?_eq_some_iff.1 hg).1, fun j x hx => ?_⟩
    rw [cell_of_row w g j cur _ _ hg]
    have hj : j < l.length := (List.getElem?_eq_some_iff.1 hx).1
    have : (cur.toList.take (l.length * 1))[j]? = some (bv x) := by rw [ht]; simp [hx]
    rw [List.getElem?_take, if_pos (by omega)] at this
    simpa using this
theorem OwnB.conv {P : Program} (h : OwnB w base v l) (src dst T : TypeId) (hs : P.underlying src = some (.slice T)) (he : P.underlying T = some (.int .u8)) (hd : P.underlying dst = some .string) :
    (convert src dst v).run P w = .ok (.string ⟨l.toArray⟩) w := by
  obtain ⟨g, cap, rfl, _, _, hc⟩ := h.form
  rw [run_convert_bytes_string w src dst T _ _ _ hs he hd]
  have hl := run_loadCells_list (P := P) (w := w) ⟨g, 0, none⟩ (l.map bv) (fun j v hj => by
    have e : (⟨g, 0, none⟩ : Addr).add j = ⟨g, j, none⟩ := by unfold Addr.add; split <;> simp_all
    rw [e]
    simp at hj
    obtain ⟨x, hx, rfl⟩ := hj
    exact hc j x hx)
  rw [List.length_map] at hl
  have e : l.map bv = (l.map fun c => (c.toNat : Int)).map (Value.int .u8) := by simp [bv, Function.comp_def]
  rw [run_bytesToString w ⟨g, 0, none⟩ l.length cap (l.map fun c => (c.toNat : Int)) (by rw [hl, e])]
  rw [push_all, show ByteArray.empty.data = #[] from rfl, Array.empty_append]
theorem OwnB.grow {c : UInt8} (h : w'.ownsRow base 5 1 v (l.length + 1) (l.map bv ++ [.int .u8 (c.toNat : Int)])) (hv : v ≠ .slice none 0 0) : OwnB w' base v (l ++ [c]) := by
  refine ⟨?_, hv⟩
  rw [List.length_append, List.map_append]
  exact h
theorem OwnB.grow' {c : UInt8} {x : Int} (h : w'.ownsRow base 5 1 v (l.length + 1) (l.map bv ++ [.int .u8 x])) (hx : (c.toNat : Int) = x) (hv : v ≠ .slice none 0 0) : OwnB w' base v (l ++ [c]) := by
  subst hx
  exact OwnB.grow h hv
theorem OwnB.made (w : World) (n : Nat) (hn : n ≤ maxLen) : OwnB (w.alloc (.cells (madeCells #[.int .u8 0] n) 5)) w.heap.size (.slice (some ⟨w.heap.size, 0, none⟩) 0 n) [] :=
  ⟨World.ownsRow_made w _ n (Nat.le_refl _) hn (by rw [← Array.length_toList, toList_madeCells_one]; simp), by simp⟩
theorem OwnB.row (h : OwnB w base v l) : ∀ k, v.ownBlock = some k → base ≤ k := fun k hk => (World.ownsRow.lt h.1 k hk).1
end
theorem new_byte (w : World) (T : TypeId) (x : Value) : ∀ (j : Nat) (u : Value), [x][j]? = some u → (w.alloc (.cells #[x] T)).cell? ((⟨w.heap.size, 0, none⟩ : Addr).add j) = some u := by
  intro j u hu
  have hj : j = 0 := by
    have := (List.getElem?_eq_some_iff.1 hu).1
    simp at this
    exact this
  subst hj
  simp at hu
  subst hu
  simp [Addr.add]
theorem byte_one (x : Int) : ∀ u ∈ [Value.int .u8 x], u.oneCell' = true := by
  intro u hu
  simp at hu
  subst hu
  rfl
theorem grownU {w w1 w2 : World} {o : Obj} {row : Option Nat} (h : Below w.heap.size w w1) (hg : (w1.alloc o).grownBy w2 row) (hr : ∀ k, row = some k → w.heap.size ≤ k) : Below w.heap.size w w2 :=
  (h.alloc h.size o).grown hg (by have := h.size; simp; omega) hr
theorem make0 (n : Nat) (h : n ≤ 1000000) (w : World) : (Instr.makeSlice 22 (.int .i64 0) (.int .i64 (n : Int))).run Try.prog w = .ok (.slice (some ⟨w.heap.size, 0, none⟩) 0 n) (w.alloc (.cells (madeCells #[.int .u8 0] n) 5)) := by
  obtain ⟨i0, hi, hz0, hz1, hz2⟩ := info_parts infoB
  have hr := run_make (P := Try.prog) w 22 5 i0 (.int .u8 0) Try.underlying22 hi hz0 .i64 .i64 0 (n : Int) (Int.le_refl _) (by omega) (by rw [hz2]; omega) (by omega)
  simp only [Int.toNat_zero, Int.toNat_natCast] at hr
  rw [hr, hz1, Nat.mul_one]
  rfl
set_option maxHeartbeats 1000000 in
theorem ssRun_yes (s t x n : Nat) (w : World) (hv : VR s t x) (hn : n ≤ 600) :
    Calls Try.prog 93 #[.agg #[.int .i64 s, .int .i64 t, .int .i64 x], .int .i64 n] w fun e w' => e = .returned (.string (bs (run s t n x))) ∧ Below w.heap.size w w' := by
  have C := Lib.hid fun w => run_yes s t x n w hv hn
  clear hv
  go_enter Try.func93, Try.ntmps93
  go_wp2_with fail
  refine (C.out _).mono ?_
  rintro e w1 ⟨rfl, hb⟩
  have hw := shutBox hb
  clear hb
  go_wp2
  go_ret
  exact ⟨rfl, hw⟩
end Go.Proofs.Ytibnlaphkmnhfaa

namespace SS
/-- the square of a sum, modulo 2 -/
theorem frob (t : Nat) (g : Nat → Nat) (s : Nat) : lin s t (fun i => lin s t (fun k => g (i + k))) % 2 = lin s t (fun i => g (2 * i)) % 2 := by
  have key : ∀ s, ∃ m, lin s t (fun i => lin s t (fun k => g (i + k))) = lin s t (fun i => dg t i * g (2 * i)) + 2 * m := by
    intro s
    induction s with
    | zero => exact ⟨0, rfl⟩
    | succ s ih =>
      obtain ⟨m, hm⟩ := ih
      have e1 : lin (s + 1) t (fun i => lin (s + 1) t (fun k => g (i + k))) = lin s t (fun i => lin (s + 1) t (fun k => g (i + k))) + dg t s * lin (s + 1) t (fun k => g (s + k)) := rfl
      have e2 : ∀ i, lin (s + 1) t (fun k => g (i + k)) = lin s t (fun k => g (i + k)) + dg t s * g (i + s) := fun i => rfl
      have e3 : lin s t (fun i => lin (s + 1) t (fun k => g (i + k))) = lin s t (fun i => lin s t (fun k => g (i + k))) + lin s t (fun i => dg t s * g (i + s)) := by
        rw [← lin_add]
        rfl
      have e4 : lin s t (fun i => dg t s * g (i + s)) = dg t s * lin s t (fun k => g (s + k)) := by
        unfold lin
        rw [← sumN_mul]
        exact sumN_congr _ _ _ fun i _ => by show dg t i * (dg t s * g (i + s)) = dg t s * (dg t i * g (s + i)); rw [Nat.add_comm i s, Nat.mul_left_comm]
      have e5 : lin (s + 1) t (fun i => dg t i * g (2 * i)) = lin s t (fun i => dg t i * g (2 * i)) + dg t s * (dg t s * g (2 * s)) := rfl
      refine ⟨m + dg t s * lin s t (fun k => g (s + k)), ?_⟩
      rw [e1, e3, e4, e5, hm, e2 s, Nat.mul_add, show s + s = 2 * s by omega]
      omega
  obtain ⟨m, hm⟩ := key s
  rw [hm, Nat.add_mul_mod_self_left]
  unfold lin
  apply sumN_mod
  intro i _
  have : dg t i = 0 ∨ dg t i = 1 := by unfold dg; omega
  show dg t i * (dg t i * g (2 * i)) % 2 = dg t i * g (2 * i) % 2
  rcases this with e | e <;> simp [e]
/-- every other bit obeys the same rule -/
theorem Rec.twice {s t : Nat} {b : Nat → Nat} (hb : ∀ n, Rec s t n b) (n : Nat) : Rec s t n (fun j => b (2 * j)) := by
  intro j _
  show b (2 * (j + s)) % 2 = lin s t (fun i => b (2 * (j + i))) % 2
  have h1 := hb (2 * j + s + s + 1) (2 * j + s) (by omega)
  rw [show 2 * (j + s) = 2 * j + s + s by omega, h1]
  have h2 : lin s t (fun i => b (2 * j + s + i)) % 2 = lin s t (fun i => lin s t (fun k => b (2 * j + (i + k)))) % 2 := by
    apply lin_mod
    intro i _
    have := hb (2 * j + i + s + 1) (2 * j + i) (by omega)
    rw [show 2 * j + s + i = 2 * j + i + s by omega, this]
    apply lin_mod
    intro k _
    rw [Nat.add_assoc]
  rw [h2, frob t (fun x => b (2 * j + x)) s]
  apply lin_mod
  intro i _
  show b (2 * j + 2 * i) % 2 = b (2 * (j + i)) % 2
  rw [Nat.mul_add]
/-- the sequence of a register -/
def mseq (s t : Nat) : List UInt8 := run s t (2 ^ s - 1) 1
section
variable {s t : Nat}
theorem Mxp.cyc (hv : VR s t 1) (h : Mxp s t) : Cyc (nx s t) 1 (2 ^ s - 1) := by
  obtain ⟨h0, hN, _⟩ := h.orb hv
  have := hv.cyc h0
  rwa [hN] at this
theorem mseq_length (s t : Nat) : (mseq s t).length = 2 ^ s - 1 := run_length _ _ _ _
theorem mseq_rot (hv : VR s t 1) (h : Mxp s t) (j : Nat) (hj : j < 2 ^ s - 1) : rot j (mseq s t) = run s t (2 ^ s - 1) (it (nx s t) j 1) := by
  have hl := mseq_length s t
  apply list_ext (by rw [rot_length _ _ (by omega), run_length, hl])
  intro i hi
  rw [rot_length _ _ (by omega), hl] at hi
  rw [at_rot _ _ (by omega) _ (by omega), hl, at_run _ _ _ _ _ hi]
  have hm : (i + j) % (2 ^ s - 1) < 2 ^ s - 1 := Nat.mod_lt _ (by omega)
  unfold mseq
  rw [at_run _ _ _ _ _ hm, (h.cyc hv).mod, ← it_add, Nat.add_comm j i]
theorem mseq_ok (s t : Nat) : okB (mseq s t) = true := okB_run _ _ _ _
theorem small_pow (hv : VR s t 1) : s ≤ 2 ^ s - 1 ∧ 3 ≤ 2 ^ s - 1 := by
  have h2 := hv.1
  have : s < 2 ^ s := Nat.lt_two_pow_self
  have := hv.four
  omega
/-- the sum with a shift is a shift -/
theorem mseq_add (hv : VR s t 1) (h : Mxp s t) (k : Nat) (h1 : 1 ≤ k) (hk : k < 2 ^ s - 1) : ∃ j, j < 2 ^ s - 1 ∧ addL (mseq s t) (rot k (mseq s t)) = rot j (mseq s t) := by
  have hvk := hv.itnx k
  have hne : 1 ^^^ it (nx s t) k 1 ≠ 0 := by
    intro e
    have : it (nx s t) k 1 = 1 := by
      have := xor_twice 1 (it (nx s t) k 1)
      rw [e, Nat.zero_xor] at this
      exact this
    exact (h.cyc hv).dis 0 k h1 hk this.symm
  obtain ⟨j, hj, e⟩ := h.all hv _ (hv.xor hvk).2.2.2.2 hne
  refine ⟨j, hj, ?_⟩
  rw [mseq_rot hv h k hk, mseq_rot hv h j hj, e, ← run_add s t _ _ _ hv hvk]
  rfl
theorem odds_bal (s t n : Nat) : sumTo n (fun i => sg (bt (it (nx s t) i 1 % 2))) = 2 * (odds s t n : Int) - n := by
  induction n with
  | zero => rfl
  | succ n ih =>
    have e : odds s t (n + 1) = odds s t n + it (nx s t) n 1 % 2 := rfl
    rw [sumTo, ih, e]
    have : sg (bt (it (nx s t) n 1 % 2)) = 2 * ((it (nx s t) n 1 % 2 : Nat) : Int) - 1 := by
      rcases (show it (nx s t) n 1 % 2 = 0 ∨ it (nx s t) n 1 % 2 = 1 by omega) with e | e <;> rw [e] <;> rfl
    rw [this]
    omega
theorem mseq_bal (hv : VR s t 1) (h : Mxp s t) : bal (mseq s t) = 1 := by
  unfold bal
  rw [mseq_length]
  have e : sumTo (2 ^ s - 1) (fun i => sg (at_ (mseq s t) i)) = sumTo (2 ^ s - 1) (fun i => sg (bt (it (nx s t) i 1 % 2))) :=
    sumTo_congr _ _ _ fun i hi => by unfold mseq; rw [at_run _ _ _ _ _ hi]
  rw [e, odds_bal]
  have := h.odds hv
  have := hv.four
  omega
theorem bal_rot (l : List UInt8) (k : Nat) (hk : k < l.length) : bal (rot k l) = bal l := by
  unfold bal
  rw [rot_length _ _ (by omega)]
  rw [sumTo_congr _ _ (fun i => sg (at_ l ((i + k) % l.length))) fun i hi => by rw [at_rot _ _ hk _ hi]]
  exact sumTo_cyc l.length k (fun i => sg (at_ l i)) (by omega)
theorem mseq_cor (hv : VR s t 1) (h : Mxp s t) (k : Nat) (h1 : 1 ≤ k) (hk : k < 2 ^ s - 1) : cor (mseq s t) (mseq s t) k = -1 := by
  have hl := mseq_length s t
  obtain ⟨j, hj, e⟩ := mseq_add hv h k h1 hk
  rw [← bal_cor _ _ k rfl (by omega) (mseq_ok s t) (mseq_ok s t), e, bal_rot _ _ (by omega), mseq_bal hv h]
theorem mseq_fix (hv : VR s t 1) (h : Mxp s t) (k : Nat) (h1 : 1 ≤ k) (hk : k < 2 ^ s - 1) : rot k (mseq s t) ≠ mseq s t := by
  intro e
  rw [mseq_rot hv h k hk] at e
  have hp := small_pow hv
  have e1 := hv.frm (2 ^ s - 1) hp.1
  have e2 := (hv.itnx k).frm (2 ^ s - 1) hp.1
  rw [e] at e2
  have : it (nx s t) k 1 = 1 := by rw [← e2]; exact e1
  exact (h.cyc hv).dis 0 k h1 hk this.symm
/-- every other bit of it is a shift -/
theorem mseq_dec (hv : VR s t 1) (h : Mxp s t) : ∃ j, j < 2 ^ s - 1 ∧ rot j (mseq s t) = decL 2 (mseq s t) := by
  have hl := mseq_length s t
  have hp := small_pow hv
  have hdl : (decL 2 (mseq s t)).length = 2 ^ s - 1 := by rw [decL_length, hl]
  have hok := okB_decL 2 _ (mseq_ok s t)
  have hat : ∀ i, i < 2 ^ s - 1 → (at_ (decL 2 (mseq s t)) i).toNat - 48 = bit s t 1 (2 * i) := by
    intro i hi
    have hm : 2 * i % (2 ^ s - 1) < 2 ^ s - 1 := Nat.mod_lt _ (by omega)
    rw [at_decL _ _ _ (by omega), hl]
    unfold mseq
    rw [at_run _ _ _ _ _ hm, (h.cyc hv).mod, bt_toNat _ (Nat.mod_lt _ (by decide)), Nat.add_sub_cancel_left]
    rfl
  have hr : Rec s t (decL 2 (mseq s t)).length (fun j => (at_ (decL 2 (mseq s t)) j).toNat - 48) := by
    have h2 := Rec.twice (fun n => hv.rec n) (decL 2 (mseq s t)).length
    intro j hj
    have := h2 j hj
    rw [hdl] at hj
    show ((at_ (decL 2 (mseq s t)) (j + s)).toNat - 48) % 2 = lin s t (fun i => (at_ (decL 2 (mseq s t)) (j + i)).toNat - 48) % 2
    rw [hat _ hj, this]
    apply lin_mod
    intro i hi
    show bit s t 1 (2 * (j + i)) % 2 = ((at_ (decL 2 (mseq s t)) (j + i)).toNat - 48) % 2
    rw [hat _ (by omega)]
  have hrun := run_of_rec s t (decL 2 (mseq s t)) hv.1 hv.2.1 hv.2.2.1 hv.2.2.2.1 (by omega) hok hr
  have hx := frm_take_lt (decL 2 (mseq s t)) s hok (by omega)
  have h0 : frm ((decL 2 (mseq s t)).take s) ≠ 0 := by
    intro e
    have hb := hat 0 (by omega)
    rw [← hrun, hdl, e, at_run _ _ _ _ _ (by omega)] at hb
    have e1 : it (nx s t) 0 0 % 2 = 0 := rfl
    have e2 : bit s t 1 (2 * 0) = 1 := rfl
    rw [e1, e2] at hb
    exact absurd hb (by decide)
  obtain ⟨j, hj, e⟩ := h.all hv _ hx h0
  exact ⟨j, hj, by rw [mseq_rot hv h j hj, e, ← hdl, hrun]⟩
end
end SS

namespace Go.Proofs.Ytibnlaphkmnhfaa
open Go.RowKit SS
set_option maxRecDepth 100000
theorem mx_mxp {s t : Nat} (hv : VR s t 1) (h : mx s t = true) : Mxp s t := by
  obtain ⟨⟨hI, _, _⟩, hN⟩ := hv.orb
  have hp : ((2 : Int) ^ s) = ((2 ^ s : Nat) : Int) := by simp
  have h4 := hv.four
  unfold mx per1 at h
  unfold Mxp
  rw [beq_iff_eq, hp] at h
  omega
/-- a maximal sequence comes back -/
def IsMseq (z : Nat) (w : World) (e : Ending) (w' : World) : Prop := ∃ t : Nat, VR z t 1 ∧ Mxp z t ∧ e = .returned (.string (bs (mseq z t))) ∧ Below w.heap.size w w'
theorem ssMax (s k : Nat) (w : World) (h2 : 2 ≤ s) (h8 : s ≤ 8) :
    Calls Try.prog 55 #[.int .i64 s, .int .i64 k] w (IsMseq s w) := by
  obtain ⟨p, HP⟩ : ∃ p, Hid (p = 2 ^ s) := ⟨2 ^ s, Lib.hid rfl⟩
  have hp2 : p ≤ 256 := by rw [HP.out]; exact Nat.pow_le_pow_right (n := 2) (by decide) h8
  have hp4 : 4 ≤ p := by rw [HP.out]; exact Nat.pow_le_pow_right (n := 2) (by decide) h2
  have hpi : ((2 : Int) ^ s) = (p : Int) := by rw [HP.out]; simp
  have C1 := Lib.hid fun w => mtaps_impl s w h2 h8
  have HM := Lib.hid (mtaps_at s (2 ^ s))
  have HNE := Lib.hid (mtaps_ne s h2 h8)
  have hll : (mtaps s (2 ^ s)).length ≤ 256 := by have := mtaps_length s (2 ^ s); rw [← HP.out] at this ⊢; omega
  generalize mtaps s (2 ^ s) = L at C1 HM HNE hll
  have hlen : 0 < L.length := List.length_pos_iff.2 HNE.out
  obtain ⟨q, hq, hql⟩ : ∃ q : Nat, ((k : Int) % (L.length : Int)) = (q : Int) ∧ q < L.length := ⟨k % L.length, by simp, Nat.mod_lt _ hlen⟩
  have dl : ((L.length : Int) == 0) = false := by rw [beq_eq_false_iff_ne]; omega
  go_enter Try.func55, Try.ntmps55
  go_wp2_with fail
  refine (C1.out _).mono ?_
  rintro e w1 ⟨v0, rfl, o0, hb⟩
  obtain ⟨g0, k0, rfl, hg0, hcell⟩ := o0.row.form HNE.out
  have hc := hcell q _ (List.getElem?_eq_getElem hql)
  obtain ⟨t, ht, ht1, ht2, hmx⟩ := HM.out _ (List.getElem_mem hql)
  rw [ht] at hc
  have hv : VR s t 1 := ⟨h2, h8, ht1, ht2, by rw [← HP.out]; omega⟩
  have hM : Mxp s t := mx_mxp hv hmx
  have C3 := Lib.hid fun w => ssRun_yes s t 1 (p - 1) w hv (by omega)
  rw [show ((p - 1 : Nat) : Int) = (p : Int) - 1 by omega, show ((1 : Nat) : Int) = 1 from rfl] at C3
  have HMS : Hid (bs (run s t (p - 1) 1) = bs (mseq s t)) := Lib.hid (by rw [HP.out]; rfl)
  have HV := Lib.hid hv
  have HMM := Lib.hid hM
  clear hcell ht HM C1 o0 hmx hv hM HNE ht2
  go_wp2_with fail
  refine (C3.out _).mono ?_
  rintro e w2 ⟨rfl, hb2⟩
  go_wp2
  go_ret
  exact ⟨t, HV.out, HMM.out, by rw [HMS.out]; rfl, afterB hb hb2 hb.size⟩
end Go.Proofs.Ytibnlaphkmnhfaa

namespace SS
theorem cyc_zero (s t : Nat) : Cyc (nx s t) 0 1 := ⟨Nat.one_pos, it_zero s t 1, fun a b hab hb => by omega⟩
theorem orb_zero (s t : Nat) : orbN (nx s t) 0 = 1 ∧ orbI (nx s t) 0 = 0 := (cyc_zero s t).orb (by omega)
theorem lst_zero (s t : Nat) : lst s t 0 = true := lst_yes.2 ⟨(orb_zero s t).2, fun _ _ => Nat.zero_le _⟩
theorem clist_one (s t : Nat) : clist s t 1 = [1] := by rw [clist_yes s t 0 (lst_zero s t), clist_zero, (orb_zero s t).1]; rfl
theorem Mxp.clist {s t : Nat} (hv : VR s t 1) (h : Mxp s t) : SS.clist s t (2 ^ s) = [1, ((2 ^ s - 1 : Nat) : Int)] := by
  obtain ⟨h0, hN, hne⟩ := h.orb hv
  have hc := hv.cyc h0
  have h4 := hv.four
  have h1 : lst s t 1 = true := lst_yes.2 ⟨h0, fun i _ => by have := hne i; omega⟩
  have key : ∀ m, 2 ≤ m → m ≤ 2 ^ s → SS.clist s t m = [1, ((2 ^ s - 1 : Nat) : Int)] := by
    intro m hm
    induction m with
    | zero => omega
    | succ m ih =>
      intro hms
      by_cases e : m = 1
      · subst e
        rw [clist_yes s t 1 h1, clist_one, hN]
        rfl
      · have hl : lst s t m = false := by
          cases hl : lst s t m with
          | false => rfl
          | true =>
            obtain ⟨j, hj, ej⟩ := h.all hv m (by omega) (by omega)
            obtain ⟨i, hi, ei⟩ := hc.turn j
            rw [ej] at ei
            have hm0 := (hc.it j).orb hv.orbN_lt
            rw [ej] at hm0
            have := (lst_yes.1 hl).2 i (by rw [hm0.1]; exact hi)
            omega
        rw [clist_no s t m hl]
        exact ih (by omega) (by omega)
  exact key _ (by omega) (Nat.le_refl _)
theorem clist_mem {s t m : Nat} {x : Int} (h : x ∈ clist s t m) : ∃ k, k < m ∧ lst s t k = true ∧ x = ((orbN (nx s t) k : Nat) : Int) := by
  unfold clist at h
  obtain ⟨k, hk, e⟩ := List.mem_map.1 h
  rw [List.mem_filter, List.mem_range] at hk
  exact ⟨k, hk.1, hk.2, e.symm⟩
theorem mxp_of_list {s t : Nat} (hv : VR s t 1) (h : srt (clist s t (2 ^ s)) = [1, ((2 ^ s - 1 : Nat) : Int)]) : Mxp s t := by
  have h4 := hv.four
  have hm : ((2 ^ s - 1 : Nat) : Int) ∈ clist s t (2 ^ s) := (srt_perm _).mem_iff.1 (by rw [h]; simp)
  obtain ⟨k, hk, hl, e⟩ := clist_mem hm
  have hN : orbN (nx s t) k = 2 ^ s - 1 := by omega
  have hvk := hv.of hk
  have hc := hvk.cyc (lst_yes.1 hl).1
  rw [hN] at hc
  have hne : ∀ i, it (nx s t) i k ≠ 0 := by
    intro i e0
    obtain ⟨j, _, ej⟩ := hc.turn i
    rw [e0, it_zero] at ej
    rw [← ej, (orb_zero s t).1] at hN
    omega
  have hp : (0 :: (List.range (2 ^ s - 1)).map fun i => it (nx s t) i k).Perm (List.range (2 ^ s)) := by
    refine perm_range _ _ (List.nodup_cons.2 ⟨?_, states_nodup hc.dis⟩) ?_ (by simp; omega)
    · intro hm
      obtain ⟨i, _, ei⟩ := List.mem_map.1 hm
      exact hne i ei
    · intro x hx
      rcases List.mem_cons.1 hx with rfl | hx
      · omega
      · obtain ⟨i, _, rfl⟩ := List.mem_map.1 hx
        exact (hvk.itnx i).2.2.2.2
  have h1 : 1 ∈ (0 :: (List.range (2 ^ s - 1)).map fun i => it (nx s t) i k) := hp.mem_iff.2 (by rw [List.mem_range]; omega)
  rcases List.mem_cons.1 h1 with h1 | h1
  · omega
  · obtain ⟨i, _, ei⟩ := List.mem_map.1 h1
    have hp8 : 2 ^ s ≤ 256 := Nat.pow_le_pow_right (n := 2) (by decide) hv.2.1
    have hn3 : 2 ^ s - 1 < 300 := by omega
    have := (hc.it i).orb hn3
    rw [ei] at this
    unfold Mxp
    rw [this.1, this.2, Nat.zero_add]
theorem clist_ne (s t m : Nat) (h : 1 ≤ m) : (1 : Int) ∈ clist s t m := by
  unfold clist
  rw [List.mem_map]
  exact ⟨0, by rw [List.mem_filter, List.mem_range]; exact ⟨h, lst_zero s t⟩, by rw [(orb_zero s t).1]; rfl⟩
theorem clist_pos {s t m : Nat} (hv : VR s t 1) (hm : m ≤ 2 ^ s) : ∀ x ∈ clist s t m, 1 ≤ x ∧ x ≤ ((2 ^ s : Nat) : Int) := by
  intro x hx
  obtain ⟨k, hk, hl, rfl⟩ := clist_mem hx
  have hvk := hv.of (y := k) (by omega)
  have := (hvk.cyc (lst_yes.1 hl).1).pos
  have := hvk.orb.2
  omega
theorem srt_head {s t : Nat} (hv : VR s t 1) : (srt (clist s t (2 ^ s)))[0]? = some 1 := by
  have hm : (1 : Int) ∈ srt (clist s t (2 ^ s)) := (srt_perm _).mem_iff.2 (clist_ne s t _ (by have := hv.four; omega))
  have hp : ∀ x ∈ srt (clist s t (2 ^ s)), 1 ≤ x := fun x hx => (clist_pos hv (Nat.le_refl _) x ((srt_perm _).mem_iff.1 hx)).1
  have hu := srt_up (clist s t (2 ^ s))
  generalize srt (clist s t (2 ^ s)) = L at *
  cases L with
  | nil => simp at hm
  | cons a r =>
    rw [List.pairwise_cons] at hu
    have h1 := hp a (by simp)
    have h2 : a ≤ 1 := by
      rcases List.mem_cons.1 hm with h | h
      · omega
      · exact hu.1 1 h
    simp
    omega
/-- how many of the first states come back after n steps -/
def cnt (s t n : Nat) : Nat → Nat
  | 0 => 0
  | k + 1 => cnt s t n k + if orbI (nx s t) k = 0 ∧ orbN (nx s t) k = n then 1 else 0
theorem cnt_len (s t n k : Nat) : cnt s t n k = ((List.range k).filter fun x => (orbI (nx s t) x == 0) && (orbN (nx s t) x == n)).length := by
  induction k with
  | zero => rfl
  | succ k ih =>
    rw [List.range_succ, List.filter_append, List.length_append, ← ih, cnt, List.filter_cons]
    by_cases h : orbI (nx s t) k = 0 ∧ orbN (nx s t) k = n
    · rw [if_pos h, if_pos (by simp [h.1, h.2])]; rfl
    · rw [if_neg h, if_neg (by simp; exact fun a b => h ⟨a, b⟩)]; rfl
/-- the numbers n of a list, added up -/
def tot (n : Nat) (L : List Int) : Int := (L.filter fun x => x == (n : Int)).sum
theorem sum_perm {a b : List Int} (h : a.Perm b) : a.sum = b.sum := by
  induction h with
  | nil => rfl
  | cons x _ ih => simp [ih]
  | swap x y l => simp; omega
  | trans _ _ h1 h2 => exact h1.trans h2
theorem tot_perm (n : Nat) {a b : List Int} (h : a.Perm b) : tot n a = tot n b := sum_perm (h.filter _)
theorem flat_len (s t : Nat) (l : List Nat) : ((l.flatMap fun k => (List.range (orbN (nx s t) k)).map fun i => it (nx s t) i k).length : Int) = (l.map fun k => ((orbN (nx s t) k : Nat) : Int)).sum := by
  induction l with
  | nil => rfl
  | cons k l ih =>
    rw [List.flatMap_cons, List.length_append, List.map_cons, List.sum_cons, ← ih]
    simp
/-- as many states have a period as its cycles have together -/
theorem cnt_tot {s t : Nat} (hv : VR s t 1) (n : Nat) : ((cnt s t n (2 ^ s) : Nat) : Int) = tot n (clist s t (2 ^ s)) := by
  rw [cnt_len, ← (cyc_perm s t hv (fun x => x == n)).length_eq, flat_len s t]
  unfold tot clist
  rw [List.filter_map, List.filter_filter]
  congr 2
  apply List.filter_congr
  intro k _
  rw [Bool.and_comm]
  congr 1
  rw [Bool.eq_iff_iff, beq_iff_eq, Function.comp_apply, beq_iff_eq]
  omega
/-- with a tap in the first cell the cycles have all states -/
theorem sum_all {s t : Nat} (hv : VR s t 1) (ho : t % 2 = 1) : (clist s t (2 ^ s)).sum = ((2 ^ s : Nat) : Int) := by
  have h := (cyc_perm s t hv (fun _ => true)).length_eq
  have e : ((List.range (2 ^ s)).filter fun x => (orbI (nx s t) x == 0) && true) = List.range (2 ^ s) := by
    rw [List.filter_eq_self]
    intro x hx
    rw [List.mem_range] at hx
    rw [(hv.of hx).lead.2 ho]
    rfl
  rw [e, List.length_range] at h
  have h2 := flat_len s t ((List.range (2 ^ s)).filter fun k => lst s t k && true)
  rw [h] at h2
  rw [h2]
  unfold clist
  simp
theorem tot_snoc (n : Nat) (l : List Int) (x : Int) : tot n (l ++ [x]) = tot n l + if x = n then x else 0 := by
  unfold tot
  rw [List.filter_append, List.sum_append, List.filter_cons]
  by_cases h : x = n
  · rw [if_pos h, if_pos (by simp [h])]; simp
  · rw [if_neg h, if_neg (by simp [h])]; simp
end SS

namespace Go.Proofs.Ytibnlaphkmnhfaa
open Go.RowKit SS
set_option maxRecDepth 100000
end Go.Proofs.Ytibnlaphkmnhfaa

namespace Go.Proofs.Ytibnlaphkmnhfaa
open Go.RowKit SS
set_option maxRecDepth 100000
theorem mxp_mx {s t : Nat} (hv : VR s t 1) (h : Mxp s t) : mx s t = true := by
  have hp : ((2 : Int) ^ s) = ((2 ^ s : Nat) : Int) := by simp
  have h4 := hv.four
  unfold Mxp at h
  unfold mx per1
  rw [beq_iff_eq, hp]
  omega
set_option maxHeartbeats 2000000 in
theorem walk_FnMaximal (a0 : Option Addr) (len0 cap0 : Nat) (z0 : List Int) (w : World) (h0 : IsRow .u8 w a0 len0 cap0 z0) :
    Calls Try.prog 11 #[.slice a0 len0 cap0] w fun e w' => e = .returned (.bool true) ∧ Below w.heap.size w w' := by
  obtain ⟨c0, l0, m0⟩ := h0.code
  clear h0
  by_cases hs0 : len0 ≤ 1048576
  · have d0 : decide ((1048576 : Int) < (len0 : Int)) = false := by simp; omega
    have D1 := Lib.hid (drawIsMax a0 len0 cap0 w c0 l0 m0)
    clear c0 l0 m0
    have hw := Below.refl w.heap.size w
    go_enter Try.func11, Try.ntmps11
    go_wp2_with fail
    refine (D1.out).mono ?_
    rintro e w1 ⟨z, u, rfl, hq⟩
    replace hw := afterB hw hq hw.size
    clear hq
    clear D1
    cases hr : tv z u with
    | false =>
      have C1 := Lib.hid fun w => ismax_no z u w hr
      have C2 := Lib.hid fun w => sismax_no z u w hr
      have C3 := Lib.hid fun w => cyc_impl_no z u w hr
      obtain ⟨TT, HTL, HIN, C4⟩ : ∃ TT : List Int, TT.length ≤ 256 ∧ Hid (decide (u ∈ TT) = false) ∧ Hid (∀ w, Calls Try.prog 47 #[.int .i64 z] w (RetI w TT)) := by
        by_cases hz : z < 2 ∨ 8 < z
        · exact ⟨[], by simp, Lib.hid (by simp), Lib.hid fun w => mtaps_impl_no z w hz⟩
        · obtain ⟨s, rfl⟩ := Int.eq_ofNat_of_zero_le (show 0 ≤ z by omega)
          have hp : 2 ^ s ≤ 256 := Nat.pow_le_pow_right (n := 2) (by decide) (show s ≤ 8 by omega)
          have := mtaps_length s (2 ^ s)
          refine ⟨_, by omega, Lib.hid ?_, Lib.hid fun w => mtaps_impl s w (by omega) (by omega)⟩
          rw [decide_eq_false_iff_not]
          intro hm
          obtain ⟨t, rfl, h1, h2, _⟩ := mtaps_at s (2 ^ s) u hm
          have := tv_of (s := s) (t := t) ⟨by omega, by omega, h1, h2, by omega⟩
          rw [this] at hr
          cases hr
      clear hr
      go_wp2_with fail
      refine (C1.out _).mono ?_
      rintro e w2 ⟨rfl, hq⟩
      replace hw := afterB hw hq hw.size
      clear hq
      go_wp2_with fail
      refine (C2.out _).mono ?_
      rintro e w3 ⟨rfl, hq⟩
      replace hw := afterB hw hq hw.size
      clear hq
      go_wp2_with fail
      refine (C3.out _).mono ?_
      rintro e w4 ⟨v0, rfl, o0, hq⟩
      have HR := Lib.hid o0.row
      clear o0
      replace hw := afterB hw hq hw.size
      clear hq
      obtain ⟨A0, k0, rfl⟩ := HR.out.nil
      clear HR
      go_wp2_with fail
      refine (C4.out _).mono ?_
      rintro e w5 ⟨v0, rfl, o0, hq⟩
      have HR := Lib.hid o0.row
      clear o0
      replace hw := afterB hw hq hw.size
      clear hq
      obtain ⟨A0, k0, hv0⟩ := HR.out.any
      subst hv0
      have HC := HR.out.cells
      clear HR
      go_wp2_with fail
      go_loop [9, 10] (fun sm i => ∃ (j : Nat) (b : Bool), j ≤ TT.length ∧ i = .int .i64 (j : Int) ∧ sm = .bool b ∧ Hid (b = decide (u ∈ TT.take j))) (fun _ i => TT.length - (intOf i).toNat)
      case atStart => exact ⟨0, false, Nat.zero_le _, rfl, rfl, Lib.hid (by simp)⟩
      case round =>
        obtain ⟨j, b, hj, rfl, rfl, HBJ⟩ := hrel
        by_cases hlt : j < TT.length
        · skip
          obtain ⟨g, hA, _, hc⟩ := HC.out.2 j hlt
          subst hA
          have HT := Lib.hid (take_snocI hlt)
          cases b with
          | true =>
            have HB2 : Hid (true = decide (u ∈ TT.take (j + 1))) := Lib.hid (by rw [HT.out]; have h := HBJ.out; rw [eq_comm, decide_eq_true_eq] at h; exact (decide_eq_true (List.mem_append_left _ h)).symm)
            clear HBJ HT hc
            go_wp2
            go_round
            case rel => exact ⟨j + 1, true, by omega, by go_num, rfl, HB2⟩
            case measure => simp [intOf]; omega
          | false =>
            have HB2 : Hid (∀ v : Bool, v = (TT[j] == u) → v = decide (u ∈ TT.take (j + 1))) := by
              refine Lib.hid fun v hv => ?_
              rw [HT.out, hv]
              have hb := HBJ.out
              rw [eq_comm, decide_eq_false_iff_not] at hb
              rw [Bool.eq_iff_iff, beq_iff_eq, decide_eq_true_eq, List.mem_append, List.mem_singleton]
              constructor
              · intro e; exact .inr e.symm
              · rintro (h | h)
                · exact absurd h hb
                · exact h.symm
            generalize TT[j] = y at hc HB2
            clear HBJ HT
            by_cases hy : y = u
            · skip
              have dy : (y == u) = true := by rw [beq_iff_eq]; exact hy
              have HB3 := Lib.hid (HB2.out true dy.symm)
              clear hy HB2
              go_wp2
              go_round
              case rel => exact ⟨j + 1, true, by omega, by go_num, rfl, HB3⟩
              case measure => simp [intOf]; omega
            · skip
              have dy : (y == u) = false := by rw [beq_eq_false_iff_ne]; exact hy
              have HB3 := Lib.hid (HB2.out false dy.symm)
              clear hy HB2
              go_wp2
              go_round
              case rel => exact ⟨j + 1, false, by omega, by go_num, rfl, HB3⟩
              case measure => simp [intOf]; omega
        · skip
          obtain rfl : j = TT.length := by omega
          have hb := HBJ.out
          rw [List.take_length, HIN.out] at hb
          subst hb
          clear HBJ HC HIN
          go_wp2
          go_ret
          exact ⟨rfl, hw⟩
    | true =>
      obtain ⟨s, t, rfl, rfl, hv⟩ := tv_nat' hr
      clear hr
      have h2 := hv.1
      have h8 := hv.2.1
      have ht2 := hv.2.2.2.1
      have C1 := Lib.hid fun w => ismax_yes s t w hv
      have C2 := Lib.hid fun w => sismax_yes s t w hv
      have C3 := Lib.hid fun w => cyc_impl s t w hv
      have C4 := Lib.hid fun w => mtaps_impl s w h2 h8
      have hll : (mtaps s (2 ^ s)).length ≤ 256 := by have := mtaps_length s (2 ^ s); have : 2 ^ s ≤ 256 := Nat.pow_le_pow_right (n := 2) (by decide) h8; omega
      have HMX : Hid (decide ((t : Int) ∈ mtaps s (2 ^ s)) = mx s t) := by
        refine Lib.hid ?_
        rw [Bool.eq_iff_iff, decide_eq_true_eq]
        constructor
        · intro hm
          obtain ⟨t2, e, _, _, h⟩ := mtaps_at s (2 ^ s) _ hm
          have : t = t2 := by omega
          rw [this]; exact h
        · intro h
          unfold mtaps
          rw [List.mem_map]
          exact ⟨t, by rw [List.mem_filter, List.mem_range]; exact ⟨ht2, by simp [h]; exact hv.2.2.1⟩, rfl⟩
      generalize hTT : mtaps s (2 ^ s) = TT at *
      clear hTT
      obtain ⟨p, HP⟩ : ∃ p, Hid (p = 2 ^ s) := ⟨2 ^ s, Lib.hid rfl⟩
      have hp2 : p ≤ 256 := by rw [HP.out]; exact Nat.pow_le_pow_right (n := 2) (by decide) h8
      have hp4 : 4 ≤ p := by rw [HP.out]; exact Nat.pow_le_pow_right (n := 2) (by decide) h2
      have hpi : ((2 : Int) ^ s) = (p : Int) := by rw [HP.out]; simp
      have hLl : (srt (clist s t (2 ^ s))).length ≤ 256 := by rw [srt_length]; have := clist_length s t (2 ^ s); rw [← HP.out] at *; omega
      have ht256 := lt256 h8 ht2
      cases hm : mx s t with
      | true =>
        have hM : Mxp s t := mx_mxp hv hm
        have hodd := hM.odd hv
        have hL : srt (clist s t (2 ^ s)) = [1, (p : Int) - 1] := by
          rw [hM.clist hv]
          refine up_eq (srt_up _) ?_ ((srt_perm _).trans ?_)
          · have := hv.four
            simp; omega
          · rw [← HP.out, show ((p - 1 : Nat) : Int) = (p : Int) - 1 by omega]
        rw [hm] at C1 C2 HMX
        rw [hL] at C3
        have HIN := HMX
        have htm : ((t : Int) % 2 == 1) = true := by rw [beq_iff_eq]; omega
        clear hM hodd hL hm hv ht2 HMX hLl
        go_wp2_with fail
        refine (C1.out _).mono ?_
        rintro e w2 ⟨rfl, hq⟩
        replace hw := afterB hw hq hw.size
        clear hq
        go_wp2_with fail
        refine (C2.out _).mono ?_
        rintro e w3 ⟨rfl, hq⟩
        replace hw := afterB hw hq hw.size
        clear hq
        go_wp2_with fail
        refine (C3.out _).mono ?_
        rintro e w4 ⟨v0, rfl, o0, hq⟩
        have HR := Lib.hid o0.row
        clear o0
        replace hw := afterB hw hq hw.size
        clear hq
        obtain ⟨g0, k0, rfl, hg0, hcell⟩ := HR.out.form (by simp)
        have q0 := hcell 0 1 rfl
        have q1 := hcell 1 ((p : Int) - 1) rfl
        have q2 : ([1, (p : Int) - 1] : List Int).length = 2 := rfl
        rw [q2]
        clear hcell HR q2
        go_wp2_with fail
        refine (C4.out _).mono ?_
        rintro e w5 ⟨v0, rfl, o0, hq⟩
        have HR := Lib.hid o0.row
        clear o0
        replace hw := afterB hw hq hw.size
        clear hq
        clear q0 q1
        obtain ⟨A0, k0, hv0⟩ := HR.out.any
        subst hv0
        have HC := HR.out.cells
        clear HR
        go_wp2_with fail
        go_loop [9, 10] (fun sm i => ∃ (j : Nat) (b : Bool), j ≤ TT.length ∧ i = .int .i64 (j : Int) ∧ sm = .bool b ∧ Hid (b = decide ((t : Int) ∈ TT.take j))) (fun _ i => TT.length - (intOf i).toNat)
        case atStart => exact ⟨0, false, Nat.zero_le _, rfl, rfl, Lib.hid (by simp)⟩
        case round =>
          obtain ⟨j, b, hj, rfl, rfl, HBJ⟩ := hrel
          by_cases hlt : j < TT.length
          · skip
            obtain ⟨g, hA, _, hc⟩ := HC.out.2 j hlt
            subst hA
            have HT := Lib.hid (take_snocI hlt)
            cases b with
            | true =>
              have HB2 : Hid (true = decide ((t : Int) ∈ TT.take (j + 1))) := Lib.hid (by rw [HT.out]; have h := HBJ.out; rw [eq_comm, decide_eq_true_eq] at h; exact (decide_eq_true (List.mem_append_left _ h)).symm)
              clear HBJ HT hc
              go_wp2
              go_round
              case rel => exact ⟨j + 1, true, by omega, by go_num, rfl, HB2⟩
              case measure => simp [intOf]; omega
            | false =>
              have HB2 : Hid (∀ v : Bool, v = (TT[j] == (t : Int)) → v = decide ((t : Int) ∈ TT.take (j + 1))) := by
                refine Lib.hid fun v hv => ?_
                rw [HT.out, hv]
                have hb := HBJ.out
                rw [eq_comm, decide_eq_false_iff_not] at hb
                rw [Bool.eq_iff_iff, beq_iff_eq, decide_eq_true_eq, List.mem_append, List.mem_singleton]
                constructor
                · intro e; exact .inr e.symm
                · rintro (h | h)
                  · exact absurd h hb
                  · exact h.symm
              generalize TT[j] = y at hc HB2
              clear HBJ HT
              by_cases hy : y = (t : Int)
              · skip
                have dy : (y == (t : Int)) = true := by rw [beq_iff_eq]; exact hy
                have HB3 := Lib.hid (HB2.out true dy.symm)
                clear hy HB2
                go_wp2
                go_round
                case rel => exact ⟨j + 1, true, by omega, by go_num, rfl, HB3⟩
                case measure => simp [intOf]; omega
              · skip
                have dy : (y == (t : Int)) = false := by rw [beq_eq_false_iff_ne]; exact hy
                have HB3 := Lib.hid (HB2.out false dy.symm)
                clear hy HB2
                go_wp2
                go_round
                case rel => exact ⟨j + 1, false, by omega, by go_num, rfl, HB3⟩
                case measure => simp [intOf]; omega
          · skip
            obtain rfl : j = TT.length := by omega
            have hb := HBJ.out
            rw [List.take_length, HIN.out] at hb
            subst hb
            clear HBJ HC HIN
            go_wp2
            go_ret
            exact ⟨rfl, hw⟩
      | false =>
        have hL : srt (clist s t (2 ^ s)) ≠ [1, (p : Int) - 1] := by
          intro e
          have hM := mxp_of_list hv (by rw [e, ← HP.out]; congr 2; omega)
          rw [mxp_mx hv hM] at hm
          cases hm
        rw [hm] at C1 C2 HMX
        have HIN := HMX
        clear hm hv ht2 HMX
        generalize srt (clist s t (2 ^ s)) = L at C3 hL hLl
        go_wp2_with fail
        refine (C1.out _).mono ?_
        rintro e w2 ⟨rfl, hq⟩
        replace hw := afterB hw hq hw.size
        clear hq
        go_wp2_with fail
        refine (C2.out _).mono ?_
        rintro e w3 ⟨rfl, hq⟩
        replace hw := afterB hw hq hw.size
        clear hq
        go_wp2_with fail
        refine (C3.out _).mono ?_
        rintro e w4 ⟨v0, rfl, o0, hq⟩
        have HR := Lib.hid o0.row
        clear o0
        replace hw := afterB hw hq hw.size
        clear hq
        by_cases hl2 : L.length = 2
        · skip
          obtain ⟨x0, x1, rfl⟩ : ∃ x0 x1, L = [x0, x1] := by
            match L, hl2 with
            | [x0, x1], _ => exact ⟨x0, x1, rfl⟩
          obtain ⟨g0, k0, rfl, hg0, hcell⟩ := HR.out.form (by simp)
          have q0 := hcell 0 x0 rfl
          have q1 := hcell 1 x1 rfl
          have q2 : ([x0, x1] : List Int).length = 2 := rfl
          rw [q2]
          clear hcell HR q2 hl2 hLl
          by_cases hx0 : x0 = 1
          · skip
            have hx1 : x1 ≠ (p : Int) - 1 := fun e => hL (by rw [hx0, e])
            have dx : (x1 == (p : Int) - 1) = false := by rw [beq_eq_false_iff_ne]; exact hx1
            have d0 : (x0 == 1) = true := by rw [beq_iff_eq]; exact hx0
            clear hx0 hx1 hL
            go_wp2_with fail
            refine (C4.out _).mono ?_
            rintro e w5 ⟨v0, rfl, o0, hq⟩
            have HR := Lib.hid o0.row
            clear o0
            replace hw := afterB hw hq hw.size
            clear hq
            clear q0 q1
            obtain ⟨A0, k0, hv0⟩ := HR.out.any
            subst hv0
            have HC := HR.out.cells
            clear HR
            go_wp2_with fail
            go_loop [9, 10] (fun sm i => ∃ (j : Nat) (b : Bool), j ≤ TT.length ∧ i = .int .i64 (j : Int) ∧ sm = .bool b ∧ Hid (b = decide ((t : Int) ∈ TT.take j))) (fun _ i => TT.length - (intOf i).toNat)
            case atStart => exact ⟨0, false, Nat.zero_le _, rfl, rfl, Lib.hid (by simp)⟩
            case round =>
              obtain ⟨j, b, hj, rfl, rfl, HBJ⟩ := hrel
              by_cases hlt : j < TT.length
              · skip
                obtain ⟨g, hA, _, hc⟩ := HC.out.2 j hlt
                subst hA
                have HT := Lib.hid (take_snocI hlt)
                cases b with
                | true =>
                  have HB2 : Hid (true = decide ((t : Int) ∈ TT.take (j + 1))) := Lib.hid (by rw [HT.out]; have h := HBJ.out; rw [eq_comm, decide_eq_true_eq] at h; exact (decide_eq_true (List.mem_append_left _ h)).symm)
                  clear HBJ HT hc
                  go_wp2
                  go_round
                  case rel => exact ⟨j + 1, true, by omega, by go_num, rfl, HB2⟩
                  case measure => simp [intOf]; omega
                | false =>
                  have HB2 : Hid (∀ v : Bool, v = (TT[j] == (t : Int)) → v = decide ((t : Int) ∈ TT.take (j + 1))) := by
                    refine Lib.hid fun v hv => ?_
                    rw [HT.out, hv]
                    have hb := HBJ.out
                    rw [eq_comm, decide_eq_false_iff_not] at hb
                    rw [Bool.eq_iff_iff, beq_iff_eq, decide_eq_true_eq, List.mem_append, List.mem_singleton]
                    constructor
                    · intro e; exact .inr e.symm
                    · rintro (h | h)
                      · exact absurd h hb
                      · exact h.symm
                  generalize TT[j] = y at hc HB2
                  clear HBJ HT
                  by_cases hy : y = (t : Int)
                  · skip
                    have dy : (y == (t : Int)) = true := by rw [beq_iff_eq]; exact hy
                    have HB3 := Lib.hid (HB2.out true dy.symm)
                    clear hy HB2
                    go_wp2
                    go_round
                    case rel => exact ⟨j + 1, true, by omega, by go_num, rfl, HB3⟩
                    case measure => simp [intOf]; omega
                  · skip
                    have dy : (y == (t : Int)) = false := by rw [beq_eq_false_iff_ne]; exact hy
                    have HB3 := Lib.hid (HB2.out false dy.symm)
                    clear hy HB2
                    go_wp2
                    go_round
                    case rel => exact ⟨j + 1, false, by omega, by go_num, rfl, HB3⟩
                    case measure => simp [intOf]; omega
              · skip
                obtain rfl : j = TT.length := by omega
                have hb := HBJ.out
                rw [List.take_length, HIN.out] at hb
                subst hb
                clear HBJ HC HIN
                go_wp2
                go_ret
                exact ⟨rfl, hw⟩
          · skip
            have d0 : (x0 == 1) = false := by rw [beq_eq_false_iff_ne]; exact hx0
            clear hx0 hL
            go_wp2_with fail
            refine (C4.out _).mono ?_
            rintro e w5 ⟨v0, rfl, o0, hq⟩
            have HR := Lib.hid o0.row
            clear o0
            replace hw := afterB hw hq hw.size
            clear hq
            clear q0 q1
            obtain ⟨A0, k0, hv0⟩ := HR.out.any
            subst hv0
            have HC := HR.out.cells
            clear HR
            go_wp2_with fail
            go_loop [9, 10] (fun sm i => ∃ (j : Nat) (b : Bool), j ≤ TT.length ∧ i = .int .i64 (j : Int) ∧ sm = .bool b ∧ Hid (b = decide ((t : Int) ∈ TT.take j))) (fun _ i => TT.length - (intOf i).toNat)
            case atStart => exact ⟨0, false, Nat.zero_le _, rfl, rfl, Lib.hid (by simp)⟩
            case round =>
              obtain ⟨j, b, hj, rfl, rfl, HBJ⟩ := hrel
              by_cases hlt : j < TT.length
              · skip
                obtain ⟨g, hA, _, hc⟩ := HC.out.2 j hlt
                subst hA
                have HT := Lib.hid (take_snocI hlt)
                cases b with
                | true =>
                  have HB2 : Hid (true = decide ((t : Int) ∈ TT.take (j + 1))) := Lib.hid (by rw [HT.out]; have h := HBJ.out; rw [eq_comm, decide_eq_true_eq] at h; exact (decide_eq_true (List.mem_append_left _ h)).symm)
                  clear HBJ HT hc
                  go_wp2
                  go_round
                  case rel => exact ⟨j + 1, true, by omega, by go_num, rfl, HB2⟩
                  case measure => simp [intOf]; omega
                | false =>
                  have HB2 : Hid (∀ v : Bool, v = (TT[j] == (t : Int)) → v = decide ((t : Int) ∈ TT.take (j + 1))) := by
                    refine Lib.hid fun v hv => ?_
                    rw [HT.out, hv]
                    have hb := HBJ.out
                    rw [eq_comm, decide_eq_false_iff_not] at hb
                    rw [Bool.eq_iff_iff, beq_iff_eq, decide_eq_true_eq, List.mem_append, List.mem_singleton]
                    constructor
                    · intro e; exact .inr e.symm
                    · rintro (h | h)
                      · exact absurd h hb
                      · exact h.symm
                  generalize TT[j] = y at hc HB2
                  clear HBJ HT
                  by_cases hy : y = (t : Int)
                  · skip
                    have dy : (y == (t : Int)) = true := by rw [beq_iff_eq]; exact hy
                    have HB3 := Lib.hid (HB2.out true dy.symm)
                    clear hy HB2
                    go_wp2
                    go_round
                    case rel => exact ⟨j + 1, true, by omega, by go_num, rfl, HB3⟩
                    case measure => simp [intOf]; omega
                  · skip
                    have dy : (y == (t : Int)) = false := by rw [beq_eq_false_iff_ne]; exact hy
                    have HB3 := Lib.hid (HB2.out false dy.symm)
                    clear hy HB2
                    go_wp2
                    go_round
                    case rel => exact ⟨j + 1, false, by omega, by go_num, rfl, HB3⟩
                    case measure => simp [intOf]; omega
              · skip
                obtain rfl : j = TT.length := by omega
                have hb := HBJ.out
                rw [List.take_length, HIN.out] at hb
                subst hb
                clear HBJ HC HIN
                go_wp2
                go_ret
                exact ⟨rfl, hw⟩
        · skip
          have dl : ((L.length : Int) == 2) = false := by rw [beq_eq_false_iff_ne]; omega
          obtain ⟨A1, k1, hv1⟩ := HR.out.any
          subst hv1
          clear HR hL hl2
          go_wp2_with fail
          refine (C4.out _).mono ?_
          rintro e w5 ⟨v0, rfl, o0, hq⟩
          have HR := Lib.hid o0.row
          clear o0
          replace hw := afterB hw hq hw.size
          clear hq
          obtain ⟨A0, k0, hv0⟩ := HR.out.any
          subst hv0
          have HC := HR.out.cells
          clear HR
          go_wp2_with fail
          go_loop [9, 10] (fun sm i => ∃ (j : Nat) (b : Bool), j ≤ TT.length ∧ i = .int .i64 (j : Int) ∧ sm = .bool b ∧ Hid (b = decide ((t : Int) ∈ TT.take j))) (fun _ i => TT.length - (intOf i).toNat)
          case atStart => exact ⟨0, false, Nat.zero_le _, rfl, rfl, Lib.hid (by simp)⟩
          case round =>
            obtain ⟨j, b, hj, rfl, rfl, HBJ⟩ := hrel
            by_cases hlt : j < TT.length
            · skip
              obtain ⟨g, hA, _, hc⟩ := HC.out.2 j hlt
              subst hA
              have HT := Lib.hid (take_snocI hlt)
              cases b with
              | true =>
                have HB2 : Hid (true = decide ((t : Int) ∈ TT.take (j + 1))) := Lib.hid (by rw [HT.out]; have h := HBJ.out; rw [eq_comm, decide_eq_true_eq] at h; exact (decide_eq_true (List.mem_append_left _ h)).symm)
                clear HBJ HT hc
                go_wp2
                go_round
                case rel => exact ⟨j + 1, true, by omega, by go_num, rfl, HB2⟩
                case measure => simp [intOf]; omega
              | false =>
                have HB2 : Hid (∀ v : Bool, v = (TT[j] == (t : Int)) → v = decide ((t : Int) ∈ TT.take (j + 1))) := by
                  refine Lib.hid fun v hv => ?_
                  rw [HT.out, hv]
                  have hb := HBJ.out
                  rw [eq_comm, decide_eq_false_iff_not] at hb
                  rw [Bool.eq_iff_iff, beq_iff_eq, decide_eq_true_eq, List.mem_append, List.mem_singleton]
                  constructor
                  · intro e; exact .inr e.symm
                  · rintro (h | h)
                    · exact absurd h hb
                    · exact h.symm
                generalize TT[j] = y at hc HB2
                clear HBJ HT
                by_cases hy : y = (t : Int)
                · skip
                  have dy : (y == (t : Int)) = true := by rw [beq_iff_eq]; exact hy
                  have HB3 := Lib.hid (HB2.out true dy.symm)
                  clear hy HB2
                  go_wp2
                  go_round
                  case rel => exact ⟨j + 1, true, by omega, by go_num, rfl, HB3⟩
                  case measure => simp [intOf]; omega
                · skip
                  have dy : (y == (t : Int)) = false := by rw [beq_eq_false_iff_ne]; exact hy
                  have HB3 := Lib.hid (HB2.out false dy.symm)
                  clear hy HB2
                  go_wp2
                  go_round
                  case rel => exact ⟨j + 1, false, by omega, by go_num, rfl, HB3⟩
                  case measure => simp [intOf]; omega
            · skip
              obtain rfl : j = TT.length := by omega
              have hb := HBJ.out
              rw [List.take_length, HIN.out] at hb
              subst hb
              clear HBJ HC HIN
              go_wp2
              go_ret
              exact ⟨rfl, hw⟩
  · have d0 : decide ((1048576 : Int) < (len0 : Int)) = true := by simp; omega
    go_enter Try.func11, Try.ntmps11
    go_wp2
    go_ret
    exact ⟨rfl, Below.refl _ _⟩
end Go.Proofs.Ytibnlaphkmnhfaa
