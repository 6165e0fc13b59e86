/- Texts of this claim, joined: PlainFrom, PlainShort, PlainCyc, WCyc, PlainCyc2, PlainTabI, WShift, WQuiet, WTail, LawFnCycles. -/
import Derived.Test.YtibnlaphkmnhfaaPlainStr
import Derived.Test.YtibnlaphkmnhfaaPlainReg
import Derived.Test.YtibnlaphkmnhfaaPlainMaxi
import Derived.Test.YtibnlaphkmnhfaaPlainPer
import Derived.Test.YtibnlaphkmnhfaaPlainRle
import Derived.Test.YtibnlaphkmnhfaaWSort
import Derived.Test.YtibnlaphkmnhfaaWVals
import Derived.Test.YtibnlaphkmnhfaaWOrb
import Derived.Test.YtibnlaphkmnhfaaWMax
import Derived.Test.YtibnlaphkmnhfaaWBools
import Derived.Test.YtibnlaphkmnhfaaWRot
import Derived.Test.YtibnlaphkmnhfaaWPair
import Derived.Test.YtibnlaphkmnhfaaPlainRot
import Derived.Test.YtibnlaphkmnhfaaWNext
import Derived.Test.YtibnlaphkmnhfaaWJump
import Derived.Test.YtibnlaphkmnhfaaWAfter
import Derived.Laws.StructEq
import Derived.Test.YtibnlaphkmnhfaaWDrawQ
namespace SS
/-- the number whose binary digits are bits, the first one the least -/
def frm : List UInt8 → Nat
  | [] => 0
  | c :: r => (c.toNat - 48) + 2 * frm r
theorem frm_lt (l : List UInt8) (h : okB l = true) : frm l < 2 ^ l.length := by
  induction l with
  | nil => simp [frm]
  | cons c r ih =>
    have h0 := okB_at (c :: r) h 0 (by simp)
    have hr : okB r = true := by unfold okB at h ⊢; rw [List.all_cons, Bool.and_eq_true] at h; exact h.2
    have := ih hr
    simp only [frm, List.length_cons, Nat.pow_succ]
    simp only [List.getElem_cons_zero] at h0
    omega
theorem frm_snoc (l : List UInt8) (c : UInt8) : frm (l ++ [c]) = frm l + (c.toNat - 48) * 2 ^ l.length := by
  induction l with
  | nil => simp [frm]
  | cons d r ih =>
    simp only [List.cons_append, frm, List.length_cons, ih, Nat.pow_succ]
    rw [Nat.mul_add, ← Nat.add_assoc, Nat.mul_comm 2 ((c.toNat - 48) * 2 ^ r.length), Nat.mul_assoc]
theorem okB_take (l : List UInt8) (k : Nat) (h : okB l = true) : okB (l.take k) = true := by
  unfold okB at h ⊢
  rw [List.all_eq_true] at h ⊢
  exact fun c hc => h c (List.mem_of_mem_take hc)
theorem okB_drop (l : List UInt8) (k : Nat) (h : okB l = true) : okB (l.drop k) = true := by
  unfold okB at h ⊢
  rw [List.all_eq_true] at h ⊢
  exact fun c hc => h c (List.mem_of_mem_drop hc)
theorem frm_take_lt (l : List UInt8) (k : Nat) (h : okB l = true) (hk : k ≤ l.length) : frm (l.take k) < 2 ^ k := by
  have := frm_lt (l.take k) (okB_take l k h)
  rwa [List.length_take, Nat.min_eq_left hk] at this
theorem frm_one (l : List UInt8) (k : Nat) (h : okB l = true) (hk : k < l.length) (hc : l[k].toNat = 49) : frm (l.take (k + 1)) = frm (l.take k) ||| 2 ^ k := by
  rw [List.take_succ_eq_append_getElem hk, frm_snoc, List.length_take, Nat.min_eq_left (by omega), hc]
  have := add_eq_or k (frm (l.take k)) 1 (frm_take_lt l k h (by omega))
  simpa using this
theorem frm_zero (l : List UInt8) (k : Nat) (hk : k < l.length) (hc : l[k].toNat = 48) : frm (l.take (k + 1)) = frm (l.take k) := by
  rw [List.take_succ_eq_append_getElem hk, frm_snoc, hc]
  simp
theorem frm_drop (l : List UInt8) (k : Nat) (hk : k < l.length) : frm (l.drop k) = (l[k].toNat - 48) + 2 * frm (l.drop (k + 1)) := by
  rw [List.drop_eq_getElem_cons hk, frm]
end SS

namespace SS
/-- the register that begins with bits has all of them -/
def hit (l : List UInt8) (s t : Nat) : Bool := run s t l.length (frm (l.take s)) == l
/-- the first size, and the first taps of it, with given bits -/
def Short (l : List UInt8) (S T : Nat) : Prop := 2 ≤ S ∧ S ≤ 8 ∧ 1 ≤ T ∧ T < 2 ^ S ∧ hit l S T = true ∧ (∀ t, 1 ≤ t → t < T → hit l S t = false) ∧ (∀ s t, 2 ≤ s → s < S → 1 ≤ t → t < 2 ^ s → hit l s t = false)
def NoShort (l : List UInt8) : Prop := ∀ s t, 2 ≤ s → s ≤ 8 → 1 ≤ t → t < 2 ^ s → hit l s t = false
theorem least (p : Nat → Prop) (n : Nat) (h : p n) : ∃ m, p m ∧ ∀ k, k < m → ¬ p k := by
  induction n using Nat.strongRecOn with
  | _ n ih =>
    by_cases hc : ∃ k, k < n ∧ p k
    · obtain ⟨k, hk, hp⟩ := hc
      exact ih k hk hp
    · exact ⟨n, h, fun k hk hp => hc ⟨k, hk, hp⟩⟩
theorem short_or (l : List UInt8) : (∃ S T, Short l S T) ∨ NoShort l := by
  by_cases h : ∃ s, (2 ≤ s ∧ s ≤ 8) ∧ ∃ t, (1 ≤ t ∧ t < 2 ^ s) ∧ hit l s t = true
  · obtain ⟨s, hs⟩ := h
    obtain ⟨S, ⟨⟨h1, h2⟩, t, ht⟩, hS⟩ := least (fun s => (2 ≤ s ∧ s ≤ 8) ∧ ∃ t, (1 ≤ t ∧ t < 2 ^ s) ∧ hit l s t = true) s hs
    obtain ⟨T, ⟨⟨h3, h4⟩, h5⟩, hT⟩ := least (fun t => (1 ≤ t ∧ t < 2 ^ S) ∧ hit l S t = true) t ht
    refine .inl ⟨S, T, h1, h2, h3, h4, h5, fun t ht1 ht2 => ?_, fun s t hs1 hs2 ht1 ht2 => ?_⟩
    · have := hT t ht2
      cases hb : hit l S t with
      | false => rfl
      | true => exact absurd ⟨⟨ht1, by omega⟩, hb⟩ this
    · have := hS s hs2
      cases hb : hit l s t with
      | false => rfl
      | true => exact absurd ⟨⟨hs1, by omega⟩, t, ⟨ht1, ht2⟩, hb⟩ this
  · refine .inr fun s t h1 h2 h3 h4 => ?_
    cases hb : hit l s t with
    | false => rfl
    | true => exact absurd ⟨s, ⟨h1, h2⟩, t, ⟨h3, h4⟩, hb⟩ h
theorem short_vr (l : List UInt8) (s t : Nat) (h2 : 2 ≤ s) (h8 : s ≤ 8) (h1 : 1 ≤ t) (ht : t < 2 ^ s) (hl : 8 ≤ l.length) (hb : okB l = true) : VR s t (frm (l.take s)) :=
  ⟨h2, h8, h1, ht, frm_take_lt l s hb (by omega)⟩
end SS

namespace SS
/-- a state that comes back, after n steps -/
structure Cyc (f : Nat → Nat) (x n : Nat) : Prop where
  pos : 0 < n
  back : it f n x = x
  dis : Dis f x n
theorem it_comm (f : Nat → Nat) (m n x : Nat) : it f m (it f n x) = it f n (it f m x) := by rw [← it_add, ← it_add, Nat.add_comm]
theorem Cyc.mul {f : Nat → Nat} {x n : Nat} (h : Cyc f x n) (k : Nat) : it f (k * n) x = x := by
  induction k with
  | zero => rw [Nat.zero_mul]; rfl
  | succ k ih => rw [Nat.succ_mul, it_add, ih, h.back]
theorem Cyc.mod {f : Nat → Nat} {x n : Nat} (h : Cyc f x n) (i : Nat) : it f (i % n) x = it f i x := by
  conv => rhs; rw [← Nat.div_add_mod i n, Nat.mul_comm, it_add, h.mul]
theorem Cyc.eq {f : Nat → Nat} {x n : Nat} (h : Cyc f x n) {a b : Nat} (e : it f a x = it f b x) : a % n = b % n := by
  rw [← h.mod a, ← h.mod b] at e
  have ha := Nat.mod_lt a h.pos
  have hb := Nat.mod_lt b h.pos
  by_cases h1 : a % n < b % n
  · exact absurd e (h.dis _ _ h1 hb)
  · by_cases h2 : b % n < a % n
    · exact absurd e.symm (h.dis _ _ h2 ha)
    · omega
theorem Cyc.it {f : Nat → Nat} {x n : Nat} (h : Cyc f x n) (i : Nat) : Cyc f (it f i x) n := by
  refine ⟨h.pos, by rw [it_comm, h.back], fun a b hab hb e => ?_⟩
  rw [← it_add, ← it_add] at e
  have := h.eq e
  have h1 := Nat.div_add_mod (i + a) n
  have h2 := Nat.div_add_mod (i + b) n
  rw [this] at h1
  have h3 : n * ((i + b) / n) = n * ((i + a) / n) + (b - a) := by omega
  by_cases h4 : (i + b) / n ≤ (i + a) / n
  · have := Nat.mul_le_mul_left n h4; omega
  · have h5 : (i + a) / n + 1 ≤ (i + b) / n := by omega
    have := Nat.mul_le_mul_left n h5
    rw [Nat.mul_add, Nat.mul_one] at this
    omega
/-- from each state of a cycle each other one is reached -/
theorem Cyc.turn {f : Nat → Nat} {x n : Nat} (h : Cyc f x n) (i : Nat) : ∃ j, j < n ∧ SS.it f j (SS.it f i x) = x := by
  refine ⟨(n - i % n) % n, Nat.mod_lt _ h.pos, ?_⟩
  rw [(h.it i).mod, ← h.mod i, ← it_add]
  have := Nat.mod_lt i h.pos
  rw [show i % n + (n - i % n) = n by omega, h.back]
theorem VR.cyc {s t x : Nat} (h : VR s t x) (h0 : orbI (SS.nx s t) x = 0) : Cyc (SS.nx s t) x (orbN (SS.nx s t) x) := by
  obtain ⟨⟨h1, h2, h3⟩, _⟩ := h.orb
  rw [h0] at h1 h2
  exact ⟨h1, h2.symm, h3⟩
theorem Cyc.orb {f : Nat → Nat} {x n : Nat} (h : Cyc f x n) (hn : n < 300) : orbN f x = n ∧ orbI f x = 0 :=
  Orb.eq ⟨h.pos, h.back.symm, h.dis⟩ hn
theorem VR.orbN_lt {s t x : Nat} (h : VR s t x) : orbN (SS.nx s t) x < 300 := by
  have := h.orb.2
  have hp : 2 ^ s ≤ 2 ^ 8 := Nat.pow_le_pow_right (by decide) h.2.1
  omega
/-- the first state of its cycle -/
def lst (s t k : Nat) : Bool := orbI (nx s t) k == 0 && (List.range (orbN (nx s t) k)).all fun i => decide (k ≤ it (nx s t) i k)
theorem lst_yes {s t k : Nat} : lst s t k = true ↔ orbI (nx s t) k = 0 ∧ ∀ i, i < orbN (nx s t) k → k ≤ it (nx s t) i k := by
  unfold lst
  rw [Bool.and_eq_true, beq_iff_eq, List.all_eq_true]
  simp
theorem lst_iff {s t k : Nat} (h : VR s t k) (h0 : orbI (nx s t) k = 0) : lst s t k = true ↔ ∀ i, 1 ≤ i → i < orbN (nx s t) k → k < it (nx s t) i k := by
  have hc := h.cyc h0
  rw [lst_yes]
  constructor
  · rintro ⟨_, hl⟩ i h1 hi
    have := hl i hi
    have h2 : k ≠ it (nx s t) i k := hc.dis 0 i h1 hi
    omega
  · intro hl
    refine ⟨h0, fun i hi => ?_⟩
    by_cases hi0 : i = 0
    · subst hi0; exact Nat.le_refl _
    · exact Nat.le_of_lt (hl i (by omega) hi)
/-- a state that a cycle with a lesser state has -/
def Mk (s t k z : Nat) : Prop := ∃ y, y < k ∧ orbI (nx s t) y = 0 ∧ ∃ i, it (nx s t) i y = z
theorem VR.of {s t x y : Nat} (h : VR s t x) (hy : y < 2 ^ s) : VR s t y := ⟨h.1, h.2.1, h.2.2.1, h.2.2.2.1, hy⟩
theorem mk_lst {s t k : Nat} (h : VR s t k) (h0 : orbI (nx s t) k = 0) : Mk s t k k ↔ lst s t k = false := by
  have hc := h.cyc h0
  constructor
  · rintro ⟨y, hy, hy0, i, hi⟩
    have hcy := (h.of (y := y) (by have := h.2.2.2.2; omega)).cyc hy0
    obtain ⟨j, _, hj⟩ := hcy.turn i
    rw [hi] at hj
    cases hl : lst s t k with
    | false => rfl
    | true =>
      have := (lst_yes.1 hl).2 (j % orbN (nx s t) k) (Nat.mod_lt _ hc.pos)
      rw [hc.mod, hj] at this
      omega
  · intro hl
    have : ¬ ∀ i, i < orbN (nx s t) k → k ≤ it (nx s t) i k := fun hh => by
      rw [lst_yes.2 ⟨h0, hh⟩] at hl
      exact absurd hl (by decide)
    have hne : ∃ i, i < orbN (nx s t) k ∧ it (nx s t) i k < k := Classical.byContradiction fun hh => this fun i hi => Nat.le_of_not_lt fun hlt => hh ⟨i, hi, hlt⟩
    obtain ⟨i, hi, hlt⟩ := hne
    obtain ⟨j, _, hj⟩ := hc.turn i
    exact ⟨_, hlt, ((hc.it i).orb h.orbN_lt).2, j, hj⟩
theorem mk_no {s t k : Nat} (h : VR s t k) (hl : lst s t k = false) (z : Nat) : Mk s t (k + 1) z ↔ Mk s t k z := by
  constructor
  · rintro ⟨y, hy, hy0, i, hi⟩
    by_cases e : y = k
    · subst e
      obtain ⟨y', hy', hy0', j, hj⟩ := (mk_lst h hy0).2 hl
      exact ⟨y', hy', hy0', j + i, by rw [it_add, hj, hi]⟩
    · exact ⟨y, by omega, hy0, i, hi⟩
  · rintro ⟨y, hy, r⟩
    exact ⟨y, by omega, r⟩
theorem mk_yes {s t k : Nat} (h : VR s t k) (hl : lst s t k = true) (z : Nat) : Mk s t (k + 1) z ↔ Mk s t k z ∨ ∃ i, i < orbN (nx s t) k ∧ it (nx s t) i k = z := by
  have h0 := (lst_yes.1 hl).1
  have hc := h.cyc h0
  constructor
  · rintro ⟨y, hy, hy0, i, hi⟩
    by_cases e : y = k
    · subst e
      exact .inr ⟨i % _, Nat.mod_lt _ hc.pos, by rw [hc.mod, hi]⟩
    · exact .inl ⟨y, by omega, hy0, i, hi⟩
  · rintro (⟨y, hy, r⟩ | ⟨i, hi, e⟩)
    · exact ⟨y, by omega, r⟩
    · exact ⟨k, by omega, h0, i, e⟩
/-- the lengths of the cycles whose first states are among the first k -/
def clist (s t k : Nat) : List Int := ((List.range k).filter (lst s t)).map fun x => ((orbN (nx s t) x : Nat) : Int)
theorem clist_zero (s t : Nat) : clist s t 0 = [] := rfl
theorem clist_yes (s t k : Nat) (h : lst s t k = true) : clist s t (k + 1) = clist s t k ++ [((orbN (nx s t) k : Nat) : Int)] := by
  unfold clist
  rw [List.range_succ, List.filter_append, List.map_append, List.filter_cons, if_pos h]
  rfl
theorem clist_no (s t k : Nat) (h : lst s t k = false) : clist s t (k + 1) = clist s t k := by
  unfold clist
  rw [List.range_succ, List.filter_append, List.map_append, List.filter_cons, h]
  simp
theorem clist_length (s t k : Nat) : (clist s t k).length ≤ k := by
  unfold clist
  rw [List.length_map]
  exact Nat.le_trans (List.length_filter_le _ _) (by simp)
/-- the states of cycles, cycle by cycle -/
theorem cyc_perm (s t : Nat) (hv : VR s t 1) (P : Nat → Bool) :
    (((List.range (2 ^ s)).filter fun k => lst s t k && P (orbN (nx s t) k)).flatMap fun k => (List.range (orbN (nx s t) k)).map fun i => it (nx s t) i k).Perm
      ((List.range (2 ^ s)).filter fun x => (orbI (nx s t) x == 0) && P (orbN (nx s t) x)) := by
  refine (List.perm_ext_iff_of_nodup ?_ ?_).2 ?_
  · unfold List.Nodup
    rw [List.pairwise_flatMap]
    constructor
    · intro k hk
      rw [List.mem_filter] at hk
      obtain ⟨hk1, hk2⟩ := hk
      rw [Bool.and_eq_true] at hk2
      have hvk := hv.of (y := k) (by simpa using hk1)
      exact states_nodup (hvk.cyc (lst_yes.1 hk2.1).1).dis
    · refine List.Pairwise.imp_of_mem ?_ ((List.pairwise_lt_range (n := 2 ^ s)).filter _)
      intro a b ha hb hab x hx y hy e
      subst e
      rw [List.mem_filter] at ha hb
      obtain ⟨ha1, ha2⟩ := ha
      obtain ⟨hb1, hb2⟩ := hb
      rw [Bool.and_eq_true] at ha2 hb2
      have hva := hv.of (y := a) (by simpa using ha1)
      have hvb := hv.of (y := b) (by simpa using hb1)
      obtain ⟨i, hi, hxa⟩ := List.mem_map.1 hx
      obtain ⟨j, hj, hxb⟩ := List.mem_map.1 hy
      obtain ⟨a0, al⟩ := lst_yes.1 ha2.1
      obtain ⟨b0, bl⟩ := lst_yes.1 hb2.1
      have hcb := hvb.cyc b0
      obtain ⟨p, hp, he⟩ := (hva.cyc a0).turn i
      rw [hxa, ← hxb, ← it_add] at he
      have := bl ((j + p) % orbN (nx s t) b) (Nat.mod_lt _ hcb.pos)
      rw [hcb.mod, he] at this
      omega
  · exact List.nodup_range.filter _
  · intro x
    rw [List.mem_flatMap, List.mem_filter, Bool.and_eq_true, beq_iff_eq]
    constructor
    · rintro ⟨k, hk, hx⟩
      rw [List.mem_filter] at hk
      obtain ⟨hk1, hk2⟩ := hk
      rw [Bool.and_eq_true] at hk2
      have hvk := hv.of (y := k) (by simpa using hk1)
      obtain ⟨k0, kl⟩ := lst_yes.1 hk2.1
      obtain ⟨i, hi, rfl⟩ := List.mem_map.1 hx
      obtain ⟨e1, e2⟩ := ((hvk.cyc k0).it i).orb hvk.orbN_lt
      refine ⟨?_, e2, by rw [e1]; exact hk2.2⟩
      rw [List.mem_range]
      exact (hvk.itnx i).2.2.2.2
    · rintro ⟨hx, h0, hP⟩
      have hxl : x < 2 ^ s := by simpa using hx
      have hvx := hv.of hxl
      have hcx := hvx.cyc h0
      obtain ⟨k, ⟨i, rfl⟩, hmin⟩ : ∃ k, (∃ i, it (nx s t) i x = k) ∧ ∀ i, k ≤ it (nx s t) i x := by
        have := SS.least (fun k => ∃ i, it (nx s t) i x = k) x ⟨0, rfl⟩
        obtain ⟨m, hm, hl⟩ := this
        exact ⟨m, hm, fun i => Nat.le_of_not_lt fun hlt => hl _ hlt ⟨i, rfl⟩⟩
      have hck := hcx.it i
      obtain ⟨e1, e2⟩ := hck.orb hvx.orbN_lt
      obtain ⟨j, hj, he⟩ := hcx.turn i
      refine ⟨it (nx s t) i x, ?_, ?_⟩
      · rw [List.mem_filter, Bool.and_eq_true]
        refine ⟨by rw [List.mem_range]; exact (hvx.itnx i).2.2.2.2, lst_yes.2 ⟨e2, fun a _ => ?_⟩, by rw [e1]; exact hP⟩
        rw [← it_add]
        exact hmin _
      · rw [List.mem_map]
        exact ⟨j, by rw [e1, List.mem_range]; exact hj, he⟩
end SS

namespace Go.Proofs.Ytibnlaphkmnhfaa
open Go.RowKit SS
set_option maxRecDepth 100000
theorem OwnI.other {w : World} {base : Nat} {v : Value} {l : List Int} (h : OwnI w base v l) {a : Addr} (ha : a.block < base) (u : Value) : OwnI (w.setCell a u) base v l := by
  refine ⟨h.1, ?_⟩
  rcases h.2 with hn | ⟨g, cap, cur, hv, hg, hh, r⟩
  · exact .inl hn
  · exact .inr ⟨g, cap, cur, hv, hg, (heap_setCell_other w a g u (by omega)).trans hh, r⟩
theorem BO.grown {w w2 : World} {b : Nat} {T : TypeId} {l : List Bool} {row : Option Nat} (h : BO w b T l) (hg : w.grownBy w2 row) (hr : row ≠ some b) : BO w2 b T l := (hg.block b h.lt (fun e => hr e.symm)).trans h
theorem B3.grown {w w2 : World} {b : Nat} {T : TypeId} {x y z : Value} {row : Option Nat} (h : B3 w b T x y z) (hg : w.grownBy w2 row) (hr : row ≠ some b) : B3 w2 b T x y z := (hg.block b h.facts.2.2.2.2.2.2 (fun e => hr e.symm)).trans h
theorem OwnI.reg {w : World} {base b : Nat} {T : TypeId} {x y z : Value} {v : Value} {l : List Int} (h : OwnI w base v l) (hb : B3 w b T x y z) (hT : T ≠ 3) (i : Nat) (u : Value) : OwnI (w.setCell ⟨b, i, none⟩ u) base v l := by
  refine ⟨h.1, ?_⟩
  rcases h.2 with hn | ⟨g, cap, cur, hv, hg, hh, r⟩
  · exact .inl hn
  · refine .inr ⟨g, cap, cur, hv, hg, (heap_setCell_other w ⟨b, i, none⟩ g u ?_).trans hh, r⟩
    intro e
    have hb' : w.heap[b]? = _ := hb
    rw [e] at hh
    rw [hh] at hb'
    injection hb' with h1
    injection h1 with _ h2
    exact hT h2.symm
theorem OwnI.setNe {w : World} {base : Nat} {v : Value} {l : List Int} (h : OwnI w base v l) (a : Addr) (hne : ∀ k, v.ownBlock = some k → k ≠ a.block) (u : Value) : OwnI (w.setCell a u) base v l := by
  refine ⟨h.1, ?_⟩
  rcases h.2 with hn | ⟨g, cap, cur, hv, hg, hh, r⟩
  · exact .inl hn
  · exact .inr ⟨g, cap, cur, hv, hg, (heap_setCell_other w a g u (hne g (by rw [hv]; rfl))).trans hh, r⟩
theorem OwnI.apart {w : World} {base b : Nat} {T : TypeId} {x y z : Value} {v : Value} {l : List Int} (h : OwnI w base v l) (hb : B3 w b T x y z) (hT : T ≠ 3) : ∀ k, v.ownBlock = some k → k ≠ b := by
  intro k hk e
  rcases h.2 with ⟨hn, _⟩ | ⟨g, cap, cur, hv, hg, hh, r⟩
  · rw [hn] at hk; cases hk
  · rw [hv] at hk
    have hgk : g = k := by injection hk
    have hb' : w.heap[b]? = _ := hb
    rw [hgk, e] at hh
    rw [hh] at hb'
    injection hb' with h1
    injection h1 with _ h2
    exact hT h2.symm
theorem OwnI.reg3 {w : World} {base b : Nat} {T : TypeId} {x y z : Value} {v : Value} {l : List Int} (h : OwnI w base v l) (hb : B3 w b T x y z) (hT : T ≠ 3) (p q r : Value) : OwnI (((w.setCell ⟨b, 0, none⟩ p).setCell ⟨b, 1, none⟩ q).setCell ⟨b, 2, none⟩ r) base v l :=
  ((h.setNe ⟨b, 0, none⟩ (h.apart hb hT) p).setNe ⟨b, 1, none⟩ (h.apart hb hT) q).setNe ⟨b, 2, none⟩ (h.apart hb hT) r
/-- which states are marked -/
def MkB (s t k : Nat) (B : List Bool) : Prop := B.length = 256 ∧ ∀ z, z < 2 ^ s → ∃ b, B[z]? = some b ∧ (b = true ↔ Mk s t k z)
/-- .. and the first states of a further cycle -/
def MkC (s t k j : Nat) (B : List Bool) : Prop := B.length = 256 ∧ ∀ z, z < 2 ^ s → ∃ b, B[z]? = some b ∧ (b = true ↔ Mk s t k z ∨ ∃ i, i < j ∧ it (nx s t) i k = z)
theorem MkB.start (s t : Nat) (h8 : s ≤ 8) : MkB s t 0 (List.replicate 256 false) := by
  refine ⟨by simp, fun z hz => ⟨false, ?_, ?_⟩⟩
  · have hp : 2 ^ s ≤ 2 ^ 8 := Nat.pow_le_pow_right (by decide) h8
    rw [List.getElem?_replicate, if_pos (by omega)]
  · constructor
    · intro h; cases h
    · rintro ⟨y, hy, _⟩; omega
theorem MkB.more {s t k : Nat} {B : List Bool} (h : MkB s t k B) : MkC s t k 0 B := ⟨h.1, fun z hz => by
  obtain ⟨b, hb, hm⟩ := h.2 z hz
  refine ⟨b, hb, hm.trans ⟨.inl, ?_⟩⟩
  rintro (h | ⟨i, hi, _⟩)
  · exact h
  · omega⟩
theorem MkC.step {s t k j : Nat} {B : List Bool} (hv : VR s t k) (h : MkC s t k j B) : MkC s t k (j + 1) (B.set (it (nx s t) j k) true) := by
  refine ⟨by simp [h.1], fun z hz => ?_⟩
  have hp : 2 ^ s ≤ 2 ^ 8 := Nat.pow_le_pow_right (by decide) hv.2.1
  by_cases e : z = it (nx s t) j k
  · subst e
    refine ⟨true, ?_, fun _ => .inr ⟨j, by omega, rfl⟩, fun _ => rfl⟩
    rw [List.getElem?_set, if_pos rfl, if_pos (by rw [h.1]; omega)]
  · obtain ⟨b, hb, hm⟩ := h.2 z hz
    refine ⟨b, ?_, hm.trans ⟨?_, ?_⟩⟩
    · rw [List.getElem?_set, if_neg (fun h => e h.symm)]; exact hb
    · rintro (h | ⟨i, hi, h⟩)
      · exact .inl h
      · exact .inr ⟨i, by omega, h⟩
    · rintro (hz' | ⟨i, hi, hz'⟩)
      · exact .inl hz'
      · by_cases ij : i = j
        · exact absurd (by rw [← hz', ij]) e
        · exact .inr ⟨i, by omega, hz'⟩
theorem MkC.done {s t k : Nat} {B : List Bool} (hv : VR s t k) (hl : lst s t k = true) (h : MkC s t k (orbN (nx s t) k) B) : MkB s t (k + 1) B :=
  ⟨h.1, fun z hz => by obtain ⟨b, hb, hm⟩ := h.2 z hz; exact ⟨b, hb, hm.trans (mk_yes hv hl z).symm⟩⟩
theorem MkB.no {s t k : Nat} {B : List Bool} (hv : VR s t k) (hl : lst s t k = false) (h : MkB s t k B) : MkB s t (k + 1) B :=
  ⟨h.1, fun z hz => by obtain ⟨b, hb, hm⟩ := h.2 z hz; exact ⟨b, hb, hm.trans (mk_no hv hl z).symm⟩⟩
def F256 : Array Value := Array.replicate 256 (.bool false)
theorem F256_list : F256 = ((List.replicate 256 false).map Value.bool).toArray := by rw [List.map_replicate, List.toArray_replicate]; rfl
theorem false256 (w : World) : (zeroValue 73).run Try.prog w = .ok (.agg F256) w := by kernel_rfl
set_option maxHeartbeats 4000000 in
theorem cyc_impl (s t : Nat) (w : World) (hv : VR s t 1) :
    Calls Try.prog 43 #[.int .i64 s, .int .i64 t] w (RetI w (srt (clist s t (2 ^ s)))) := by
  obtain ⟨i0, hi, hz0, hz1, hz2⟩ := info_parts infoI
  obtain ⟨p, HP⟩ : ∃ p, Hid (p = 2 ^ s) := ⟨2 ^ s, Lib.hid rfl⟩
  have h2 := hv.1
  have h8 := hv.2.1
  have hp2 : p ≤ 256 := by rw [HP.out]; exact Nat.pow_le_pow_right (n := 2) (by decide) h8
  have hpi : ((2 : Int) ^ s) = (p : Int) := by rw [HP.out]; simp
  have ht := hv.2.2.2.1
  have ht256 := lt256 h8 ht
  have C := Lib.hid fun w => taps_impl s t w
  rw [tv_of hv] at C
  have HV : Hid (∀ k, k < p → VR s t k) := Lib.hid fun k hk => hv.of (by rw [← HP.out]; exact hk)
  have r1 : BO (w.alloc (.cells F256 73)) w.heap.size 73 (List.replicate 256 false) := by
    have h := heap_alloc_new w (.cells F256 73)
    unfold BO
    rw [h, F256_list]
  have hw1 := (Below.refl w.heap.size w).alloc (Nat.le_refl _) (.cells F256 73)
  have hs1 : (w.alloc (.cells F256 73)).heap.size = w.heap.size + 1 := World.size_alloc _ _
  have o1 := OwnI.lit0 (w.alloc (.cells F256 73))
  rw [hs1] at o1
  have O1 := Lib.hid o1
  have R1 := Lib.hid (r1.alloc (.cells #[] 3))
  have HW := Lib.hid (hw1.alloc hw1.size (.cells #[] 3))
  have HT := Lib.hid ht
  have hpE : Hid (srt (clist s t (2 ^ s)) = srt (clist s t p)) := Lib.hid (by rw [HP.out])
  have HST := Lib.hid (MkB.start s t h8)
  clear hv ht r1 hw1 hs1 o1
  have hz := false256
  go_enter Try.func43, Try.ntmps43
  go_wp2_with fail
  refine (C.out _).mono ?_
  rintro e w1 ⟨rfl, rfl⟩
  clear C
  go_wp2_with fail
  go_loopw [6, 18] (fun u i wr => ∃ (k : Nat) (B : List Bool), k ≤ p ∧ i = .int .i64 (k : Int) ∧ OwnI wr (w.heap.size + 1) u (clist s t k) ∧ BO wr w.heap.size 73 B ∧ MkB s t k B ∧ Below w.heap.size w wr) (fun _ i _ => p - (intOf i).toNat)
  case atStart => exact ⟨0, _, Nat.zero_le _, rfl, O1.out, R1.out, HST.out, HW.out⟩
  case round =>
    clear O1 R1 HW HST
    obtain ⟨k, B, hk, rfl, ho, hb, hm, hw⟩ := hrel
    have HO := Lib.hid ho
    have HB := Lib.hid hb
    have HM := Lib.hid hm
    have hzr := hb.lt
    have HWR : Hid (∀ q, u6.ownBlock = some q → q < wr.heap.size) := Lib.hid fun q hq => (World.ownsRow.lt ho q hq).2
    have hcl := clist_length s t k
    clear ho hb hm
    by_cases hlt : k < p
    · have HVk := Lib.hid (HV.out k hlt)
      have C1 := Lib.hid fun w => orbit_impl s t k w HVk.out
      obtain ⟨⟨hIN, _, _⟩, hN⟩ := HVk.out.orb
      rw [← HP.out] at hN
      obtain ⟨bk, hbk, hbm⟩ := HM.out.2 k HVk.out.2.2.2.2
      have hmk := fun h0 : orbI (nx s t) k = 0 => hbm.trans (mk_lst HVk.out h0)
      have HMK := Lib.hid hmk
      clear hbm hmk
      have B4 := Lib.hid (B3.new wr 53 (.int .i64 (s : Int)) (.int .i64 (t : Int)) (.int .i64 (k : Int)))
      have HO2 := Lib.hid (HO.out.alloc (.cells #[.int .i64 (s : Int), .int .i64 (t : Int), .int .i64 (k : Int)] 53))
      have HB2 := Lib.hid (HB.out.alloc (.cells #[.int .i64 (s : Int), .int .i64 (t : Int), .int .i64 (k : Int)] 53))
      have hw2 := hw.alloc hw.size (.cells #[.int .i64 (s : Int), .int .i64 (t : Int), .int .i64 (k : Int)] 53)
      clear HO HB
      obtain ⟨c0, c1, c2, f0, f1, f2, hz4⟩ := B4.out.facts
      go_wp2_with fail
      refine (C1.out _).mono ?_
      rintro e w3 ⟨rfl, hb3⟩
      have HO3 : Hid (OwnI w3 (w.heap.size + 1) _ (clist s t k)) := Lib.hid (OwnI.keep HO2.out hb3)
      have HB3 := Lib.hid (HB2.out.belowS hb3)
      have B5 := Lib.hid (B4.out.belowS hb3)
      have hw3 := afterB hw2 hb3 hw2.size
      clear HO2 HB2 B4 c0 c1 c2 f0 f1 f2 hz4 hw2 hb3 C1
      have cb := HB3.out.cell k bk hbk
      have HLI : Hid (∀ h0 : orbI (nx s t) k = 0, bk = true ↔ lst s t k = false) := Lib.hid HMK.out
      by_cases hI : orbI (nx s t) k = 0
      · have HI := Lib.hid hI
        have hle := HLI.out hI
        rw [hI, show ((0 : Nat) : Int) = 0 from rfl, Int.sub_zero]
        cases bk with
        | true =>
          have hl := hle.1 rfl
          have HM2 := Lib.hid (HM.out.no HVk.out hl)
          have HC2 := Lib.hid (clist_no s t k hl)
          clear hl hle hI HM HLI HMK
          go_wp2
          go_roundw
          case rel => exact ⟨k + 1, B, by omega, by go_num, by rw [HC2.out]; exact HO3.out, HB3.out, HM2.out, hw3⟩
          case measure => simp [intOf]; omega
        | false =>
          have hl : lst s t k = true := by
            cases h : lst s t k with
            | true => rfl
            | false => exact absurd (hle.2 h) (by decide)
          have HC2 := Lib.hid (clist_yes s t k hl)
          have HL := Lib.hid hl
          obtain ⟨N, hNe⟩ : ∃ N, N = orbN (nx s t) k := ⟨_, rfl⟩
          have HN := Lib.hid hNe
          rw [← hNe] at HC2 hN hIN ⊢
          have hN1 : 1 ≤ N := by omega
          clear hl hle hNe hIN HLI HMK
          go_wp2_with (at_builtin; refine wpList_append_own _ rfl _ _ 35 rfl (w.heap.size + 1) 3 i0 (.int .i64 0) 1 8 Try.underlying35 hi hz0 hz1 hz2 rfl (by decide) _ _ _ rfl (HO3.out.alloc _) ⟨w3.heap.size, 0, none⟩ 1 1 [.int .i64 (N : Int)] rfl rfl ?c1 ?c2 ?c3 ?c4 ?c5 ?_)
          case c1 => exact new_int _ _ _
          case c2 => exact int_one _
          case c3 => unfold maxLen; omega
          case c4 => omega
          case c5 => have := HB3.out.lt; simp; omega
          intro v' w4 ho4 hg4 _
          have hrow := own_rowB HO3.out
          have hw4 : Below w.heap.size w w4 := (hw3.alloc hw3.size (.cells #[.int .i64 (N : Int)] 3)).grown hg4 (by have := hw3.size; simp; omega) fun k hk => by have := hrow k hk; omega
          have HB4 := Lib.hid ((HB3.out.alloc (.cells #[.int .i64 (N : Int)] 3)).grown hg4 fun e => by have := hrow _ e; omega)
          have B6 := Lib.hid ((B5.out.alloc (.cells #[.int .i64 (N : Int)] 3)).grown hg4 fun e => by have := HWR.out _ e; omega)
          have HO4 := Lib.hid (OwnI.grow1 ho4)
          rw [← HC2.out] at HO4
          have HMC := Lib.hid HM.out.more
          clear ho4 hg4 hrow HO3 HB3 B5 hw3 HM HC2
          obtain ⟨wo, rfl⟩ : ∃ wo : World, wo = wr := ⟨_, rfl⟩
          have HW4 := Lib.hid hw4
          clear hw4
          go_wp2_with fail
          go_loopw [42] (fun i wx => ∃ (j : Nat) (B : List Bool), j ≤ N ∧ i = .int .i64 (j : Int) ∧ OwnI wx (w.heap.size + 1) v' (clist s t (k + 1)) ∧ BO wx w.heap.size 73 B ∧ MkC s t k j B ∧ B3 wx wo.heap.size 53 (.int .i64 (s : Int)) (.int .i64 (t : Int)) (.int .i64 (it (nx s t) j k : Nat)) ∧ Below w.heap.size w wx) (fun i _ => N - (intOf i).toNat)
          case atStart => exact ⟨0, B, Nat.zero_le _, rfl, HO4.out, HB4.out, HMC.out, B6.out, HW4.out⟩
          case round =>
            clear HO4 HB4 HMC B6 HW4
            obtain ⟨j, C, hj, rfl, ho, hb, hm, b3, hw⟩ := hrel
            by_cases hjN : j < N
            · have HVj := HVk.out.itnx j
              have HMC := Lib.hid (hm.step HVk.out)
              have hyp : it (nx s t) j k < 2 ^ s := HVj.2.2.2.2
              rw [← HP.out] at hyp
              obtain ⟨bq, hbq, _⟩ := hm.2 _ HVj.2.2.2.2
              have cb := hb.cell _ _ hbq
              have fb := hb.frozen (it (nx s t) j k)
              have hzb := hb.lt
              obtain ⟨c0, c1, c2, f0, f1, f2, hz4⟩ := b3.facts
              have CN := Lib.hid fun w => next_impl s t (it (nx s t) j k) w h2 h8 HVj.2.2.2.2 HT.out
              have HS := Lib.hid (it_succ (nx s t) j k)
              generalize it (nx s t) j k = y at *
              clear HVj hbq hm
              have hb1 := hb.set y true
              have hne1 : wo.heap.size ≠ w.heap.size := by omega
              have b31 := b3.other (a := ⟨w.heap.size, y, none⟩) hne1 (.bool true)
              have ho1 := ho.other (a := ⟨w.heap.size, y, none⟩) (Nat.lt_succ_self _) (.bool true)
              have hw1 := hw.setCell (p := ⟨w.heap.size, y, none⟩) (Nat.le_refl _) (.bool true)
              have HO1 := Lib.hid ho1
              have HB1 := Lib.hid hb1
              have B31 := Lib.hid b31
              have HW1 := Lib.hid hw1
              clear ho hb b3 hw ho1 hb1 b31 hw1
              go_wp2_with fail
              refine (CN.out _).mono ?_
              rintro e w5 ⟨rfl, hq⟩
              have ho2 := HO1.out.keep hq
              have hb2 := HB1.out.belowS hq
              have b32 := B31.out.belowS hq
              have hw2 := afterB HW1.out hq HW1.out.size
              clear HO1 HB1 B31 HW1 hq c0 c1 c2 f0 f1 f2 hz4 cb fb
              obtain ⟨c0, c1, c2, f0, f1, f2, hz4⟩ := b32.facts
              have HO2 := Lib.hid (ho2.reg b32 (by decide) 2 (.int .i64 ((nx s t y : Nat) : Int)))
              have HB2 := Lib.hid (hb2.other (a := ⟨wo.heap.size, 2, none⟩) (fun e => hne1 e.symm) (.int .i64 ((nx s t y : Nat) : Int)))
              have B32 := Lib.hid (b32.set2 (.int .i64 ((nx s t y : Nat) : Int)))
              have HW2 := Lib.hid (hw2.setCell (p := ⟨wo.heap.size, 2, none⟩) (by show w.heap.size ≤ wo.heap.size; omega) (.int .i64 ((nx s t y : Nat) : Int)))
              clear ho2 hb2 b32 hw2
              go_wp2
              go_roundw
              case rel => exact ⟨j + 1, _, by omega, by go_num, HO2.out, HB2.out, HMC.out, by rw [HS.out]; exact B32.out, HW2.out⟩
              case measure => simp [intOf]; omega
            · have hjE : j = N := by omega
              have HMD := Lib.hid (MkC.done HVk.out HL.out (by rw [← HN.out, ← hjE]; exact hm))
              clear hm hjE
              go_wp2
              go_roundw
              case rel => exact ⟨k + 1, C, by omega, by go_num, ho, hb, HMD.out, hw⟩
              case measure => simp [intOf]; omega
      · have hl : lst s t k = false := by
          cases h : lst s t k with
          | false => rfl
          | true => exact absurd (lst_yes.1 h).1 hI
        have HM2 := Lib.hid (HM.out.no HVk.out hl)
        have HC2 := Lib.hid (clist_no s t k hl)
        have dI : decide ((0 : Int) < (orbI (nx s t) k : Int)) = true := by simp; omega
        generalize orbI (nx s t) k = I at *
        generalize orbN (nx s t) k = N at *
        clear hl HM HLI HMK
        go_wp2
        go_roundw
        case rel => exact ⟨k + 1, B, by omega, by go_num, by rw [HC2.out]; exact HO3.out, HB3.out, HM2.out, hw3⟩
        case measure => simp [intOf]; omega
    · obtain rfl : k = p := by omega
      have CS := Lib.hid (sort_ints _ _ wr _ HO.out (by omega))
      go_wp2_with fail
      refine (CS.out).mono ?_
      rintro e w2 ⟨rfl, o2, hb2⟩
      have O2 := Lib.hid (o2.wider (Nat.le_succ _))
      clear o2 CS
      go_wp2
      go_ret
      exact ⟨_, rfl, by rw [hpE.out]; exact O2.out, hw.trans (hb2.mono (Nat.le_succ _))⟩
theorem cyc_impl_no (s t : Int) (w : World) (h : tv s t = false) : Calls Try.prog 43 #[.int .i64 s, .int .i64 t] w (RetI w []) := by
  have C := Lib.hid fun w => taps_impl s t w
  rw [h] at C
  clear h
  go_enter Try.func43, Try.ntmps43
  go_wp2_with fail
  refine (C.out _).mono ?_
  rintro e w1 ⟨rfl, rfl⟩
  go_wp2
  go_ret
  exact ⟨_, rfl, OwnI.nil0 _ _, Below.refl _ _⟩
theorem scyc_no (s t : Int) (w : World) (h : tv s t = false) : Calls Try.prog 42 #[.int .i64 s, .int .i64 t] w (RetI w []) := by
  have C := Lib.hid fun w => taps_spec s t w
  rw [h] at C
  clear h
  have o1 := Lib.hid (OwnI.lit0 w)
  have hw1 := Lib.hid ((Below.refl w.heap.size w).alloc (Nat.le_refl _) (.cells #[] 3))
  go_enter Try.func42, Try.ntmps42
  go_wp2_with fail
  refine (C.out _).mono ?_
  rintro e w1 ⟨rfl, rfl⟩
  go_wp2
  go_ret
  exact ⟨_, rfl, o1.out, hw1.out⟩
/-- how far a cycle has been looked through for a lesser state -/
def Fst (s t k j : Nat) (b : Bool) : Prop :=
  (b = true ∧ ∀ i, 1 ≤ i → i < j → k < it (nx s t) i k) ∨ (b = false ∧ ∃ i, 1 ≤ i ∧ i < orbN (nx s t) k ∧ ¬ k < it (nx s t) i k)
set_option maxHeartbeats 4000000 in
theorem scyc_yes (s t : Nat) (w : World) (hv : VR s t 1) :
    Calls Try.prog 42 #[.int .i64 s, .int .i64 t] w (RetI w (srt (clist s t (2 ^ s)))) := by
  obtain ⟨p, HP⟩ : ∃ p, Hid (p = 2 ^ s) := ⟨2 ^ s, Lib.hid rfl⟩
  have h2 := hv.1
  have h8 := hv.2.1
  have hp2 : p ≤ 256 := by rw [HP.out]; exact Nat.pow_le_pow_right (n := 2) (by decide) h8
  have C := Lib.hid fun w => taps_spec s t w
  rw [tv_of hv] at C
  have C2 := Lib.hid fun w => two_size s p w h8 HP
  have HV : Hid (∀ k, k < p → VR s t k) := Lib.hid fun k hk => hv.of (by rw [← HP.out]; exact hk)
  have HT := Lib.hid hv.2.2.2.1
  have o1 := Lib.hid (OwnI.lit0 w)
  have hw1 := Lib.hid ((Below.refl w.heap.size w).alloc (Nat.le_refl _) (.cells #[] 3))
  have hpE : Hid (srt (clist s t (2 ^ s)) = insAll (clist s t p)) := Lib.hid (by rw [HP.out, insAll_srt])
  clear hv
  go_enter Try.func42, Try.ntmps42
  go_wp2_with fail
  refine (C.out _).mono ?_
  rintro e w1 ⟨rfl, rfl⟩
  clear C
  go_wp2_with fail
  go_loopw [5, 6] (fun u i wr => ∃ (k : Nat) (L : List Int), k ≤ p ∧ i = .int .i64 (k : Int) ∧ Hid (L = insAll (clist s t k)) ∧ OwnI wr w.heap.size u L ∧ Below w.heap.size w wr) (fun _ i _ => p - (intOf i).toNat)
  case atStart => exact ⟨0, [], Nat.zero_le _, rfl, Lib.hid rfl, o1.out, hw1.out⟩
  case round =>
    clear o1 hw1
    obtain ⟨k, L, hk, rfl, HL, ho, hw⟩ := hrel
    have hLl : L.length ≤ 256 := by
      rw [HL.out, insAll_length]
      have := clist_length s t k
      omega
    have HO := Lib.hid ho
    clear ho
    by_cases hlt : k < p
    · have HVk := Lib.hid (HV.out k hlt)
      have C3 := Lib.hid fun w => slead_yes s t k w HVk.out
      have C4 := Lib.hid fun w => speriod_yes s t k w HVk.out
      obtain ⟨⟨hIN, _, _⟩, hN⟩ := HVk.out.orb
      rw [← HP.out] at hN
      obtain ⟨wo, rfl⟩ : ∃ wo : World, wo = wr := ⟨_, rfl⟩
      have hzo := hw.size
      have B4 := B3.new wo 53 (.int .i64 (s : Int)) (.int .i64 (t : Int)) (.int .i64 (k : Int))
      have HO2 := Lib.hid (HO.out.alloc (.cells #[.int .i64 (s : Int), .int .i64 (t : Int), .int .i64 (k : Int)] 53))
      have hw2 := hw.alloc hw.size (.cells #[.int .i64 (s : Int), .int .i64 (t : Int), .int .i64 (k : Int)] 53)
      clear HO
      go_wp2_with fail
      refine (C2.out _).mono ?_
      rintro e w2 ⟨rfl, rfl⟩
      obtain ⟨c0, c1, c2, f0, f1, f2, hz4⟩ := B4.facts
      go_wp2_with fail
      refine (C3.out _).mono ?_
      rintro e w3 ⟨rfl, hq⟩
      have HO3 := Lib.hid (OwnI.keep HO2.out hq)
      replace B4 := B4.belowS hq
      have hw3 := afterB hw2 hq hw2.size
      clear HO2 hq hw2 c0 c1 c2 f0 f1 f2 hz4
      obtain ⟨c0, c1, c2, f0, f1, f2, hz4⟩ := B4.facts
      by_cases hI : orbI (nx s t) k = 0
      · have HI := Lib.hid hI
        have HF0 : Hid (Fst s t k 1 true) := Lib.hid (.inl ⟨rfl, fun i h1 h2 => by omega⟩)
        have HLS : Hid (lst s t k = true ↔ ∀ i, 1 ≤ i → i < orbN (nx s t) k → k < it (nx s t) i k) := Lib.hid (lst_iff HVk.out hI)
        rw [hI, show ((0 : Nat) : Int) = 0 from rfl, Int.sub_zero] at C4
        rw [hI, show ((0 : Nat) : Int) = 0 from rfl]
        obtain ⟨N, hNe⟩ : ∃ N, N = orbN (nx s t) k := ⟨_, rfl⟩
        have HN := Lib.hid hNe
        rw [← hNe] at C4 hN hIN
        have hN1 : 1 ≤ N := by omega
        clear hNe hI hIN C3
        go_wp2_with fail
        refine (C4.out _).mono ?_
        rintro e w4 ⟨rfl, hq⟩
        have HO4 := Lib.hid (HO3.out.keep hq)
        have HB4 := Lib.hid (B4.belowS hq)
        have HW4 := Lib.hid (afterB hw3 hq hw3.size)
        clear HO3 hq hw3 c0 c1 c2 f0 f1 f2 hz4 B4 C4
        go_wp2_with fail
        go_loopw [8, 10] (fun b i wr => ∃ (j : Nat) (v : Bool), 1 ≤ j ∧ j ≤ N ∧ i = .int .i64 (j : Int) ∧ b = .bool v ∧ Fst s t k j v ∧ OwnI wr w.heap.size u5 L ∧ B3 wr wo.heap.size 53 (.int .i64 (s : Int)) (.int .i64 (t : Int)) (.int .i64 (it (nx s t) (j - 1) k : Nat)) ∧ Below w.heap.size w wr) (fun _ i _ => N - (intOf i).toNat)
        case atStart => exact ⟨1, true, Nat.le_refl _, hN1, rfl, rfl, HF0.out, HO4.out, HB4.out, HW4.out⟩
        case round =>
          clear HO4 HB4 HW4 HF0
          obtain ⟨j, v, hj1, hj, rfl, rfl, hf, ho, b3, hw⟩ := hrel
          have HF := Lib.hid hf
          clear hf
          by_cases hc : j < N ∧ v = true
          · obtain ⟨hjN, rfl⟩ := hc
            have HVj := HVk.out.itnx (j - 1)
            have CN := Lib.hid fun w => step_spec s t (it (nx s t) (j - 1) k) w h2 h8 HVj.2.2.2.2 HT.out
            have HS : Hid (nx s t (it (nx s t) (j - 1) k) = it (nx s t) j k) := Lib.hid (by have e := it_succ (nx s t) (j - 1) k; rw [Nat.sub_add_cancel hj1] at e; exact e.symm)
            rw [HS.out] at CN
            have hyj : it (nx s t) j k < 2 ^ s := (HVk.out.itnx j).2.2.2.2
            rw [← HP.out] at hyj
            have HJ : Hid (it (nx s t) (j + 1 - 1) k = it (nx s t) j k) := Lib.hid (by rw [Nat.add_sub_cancel])
            have HF2 : Hid (∀ v : Bool, v = decide (k < it (nx s t) j k) → Fst s t k (j + 1) v) := by
              refine Lib.hid fun v hv => ?_
              by_cases e : k < it (nx s t) j k
              · rw [decide_eq_true e] at hv
                subst hv
                rcases HF.out with ⟨_, h⟩ | ⟨h, _⟩
                · refine .inl ⟨rfl, fun i i1 i2 => ?_⟩
                  by_cases ij : i < j
                  · exact h i i1 ij
                  · obtain rfl : i = j := by omega
                    exact e
                · cases h
              · rw [decide_eq_false e] at hv
                subst hv
                exact .inr ⟨rfl, j, hj1, by rw [← HN.out]; exact hjN, e⟩
            generalize it (nx s t) (j - 1) k = y at *
            generalize it (nx s t) j k = z at *
            clear HVj HF HS
            obtain ⟨c0, c1, c2, f0, f1, f2, hz4⟩ := b3.facts
            have HO1 := Lib.hid ho
            have HB1 := Lib.hid b3
            have HW1 := Lib.hid hw
            clear ho b3 hw
            go_wp2_with fail
            refine (CN.out _).mono ?_
            rintro e w5 ⟨rfl, hq⟩
            have ho2 := HO1.out.keep hq
            have b32 := HB1.out.belowS hq
            have hw2 := afterB HW1.out hq HW1.out.size
            clear HO1 HB1 HW1 hq c0 c1 c2 f0 f1 f2 hz4
            have hgo : w.heap.size ≤ wo.heap.size := hzo
            have ho3 := ho2.reg b32 (by decide) 0 (.int .i64 (s : Int))
            have b33 := b32.set012 (.int .i64 (s : Int)) (.int .i64 (t : Int)) (.int .i64 (z : Int))
            have HO3 := Lib.hid (OwnI.reg3 ho2 b32 (by decide) (.int .i64 (s : Int)) (.int .i64 (t : Int)) (.int .i64 (z : Int)))
            have HB3 := Lib.hid b33
            have HW3 := Lib.hid (((hw2.setCell (p := ⟨wo.heap.size, 0, none⟩) hgo (.int .i64 (s : Int))).setCell (p := ⟨wo.heap.size, 1, none⟩) hgo (.int .i64 (t : Int))).setCell (p := ⟨wo.heap.size, 2, none⟩) hgo (.int .i64 (z : Int)))
            obtain ⟨c0, c1, c2, f0, f1, f2, hz4⟩ := b32.facts
            obtain ⟨e0, e1, e2, e3, e4, e5, e6⟩ := b33.facts
            clear ho2 b32 hw2 ho3 b33
            by_cases hkz : k < z
            · have dk : decide (k < z) = true := decide_eq_true hkz
              have HF3 := Lib.hid (HF2.out true (by rw [dk]))
              clear hkz HF2
              go_wp2
              go_roundw
              case rel => exact ⟨j + 1, true, by omega, by omega, by go_num, rfl, HF3.out, HO3.out, by rw [HJ.out]; exact HB3.out, HW3.out⟩
              case measure => simp [intOf]; omega
            · have dk : decide (k < z) = false := decide_eq_false hkz
              have HF3 := Lib.hid (HF2.out false (by rw [dk]))
              clear hkz HF2
              go_wp2
              go_roundw
              case rel => exact ⟨j + 1, false, by omega, by omega, by go_num, rfl, HF3.out, HO3.out, by rw [HJ.out]; exact HB3.out, HW3.out⟩
              case measure => simp [intOf]; omega
          · have HC := Lib.hid hc
            have HO4 := Lib.hid ho
            clear hc ho
            cases v with
            | true =>
              have hjN : j = N := by
                have := HC.out
                simp at this
                omega
              have hl : lst s t k = true := by
                refine HLS.out.2 fun i i1 i2 => ?_
                rcases HF.out with ⟨_, h⟩ | ⟨h, _⟩
                · exact h i i1 (by rw [hjN, HN.out]; exact i2)
                · cases h
              have HC2 := Lib.hid (clist_yes s t k hl)
              have HIS := Lib.hid (insAll_snoc (clist s t k) (N : Int))
              have HLN : Hid (insI (N : Int) L = insAll (clist s t (k + 1))) := Lib.hid (by rw [HC2.out, ← HN.out, HIS.out, HL.out])
              subst hjN
              clear HC HC2 HIS hl HF HLS b3
              have hwz := hw.size
              have CI := Lib.hid fun w' (h : RowI w' w'.heap.size u5 L) => insert_spec u5 L (j : Int) w' h (by omega)
              go_wp2_with fail
              refine (CI.out _ HO4.out.row).mono ?_
              rintro e w6 ⟨v6, rfl, o6, hq⟩
              have HO6 := Lib.hid (o6.wider hwz)
              have hw6 := afterB hw hq hw.size
              clear o6 hq CI HO4
              go_wp2
              go_roundw
              case rel => exact ⟨k + 1, _, by omega, by go_num, HLN, HO6.out, hw6⟩
              case measure => simp [intOf]; omega
            | false =>
              have hl : lst s t k = false := by
                cases h : lst s t k with
                | false => rfl
                | true =>
                  rcases HF.out with ⟨h', _⟩ | ⟨_, i, i1, i2, i3⟩
                  · cases h'
                  · exact absurd (HLS.out.1 h i i1 i2) i3
              have HLN : Hid (L = insAll (clist s t (k + 1))) := Lib.hid (by rw [clist_no s t k hl, HL.out])
              clear HC hl HF HLS b3
              by_cases hjN : j < N
              · have dj : decide (j < N) = true := decide_eq_true hjN
                clear hjN
                go_wp2
                go_roundw
                case rel => exact ⟨k + 1, L, by omega, by go_num, HLN, HO4.out, hw⟩
                case measure => simp [intOf]; omega
              · have dj : decide (j < N) = false := decide_eq_false hjN
                clear hjN
                go_wp2
                go_roundw
                case rel => exact ⟨k + 1, L, by omega, by go_num, HLN, HO4.out, hw⟩
                case measure => simp [intOf]; omega
      · have hl : lst s t k = false := by
          cases h : lst s t k with
          | false => rfl
          | true => exact absurd (lst_yes.1 h).1 hI
        have HLN : Hid (L = insAll (clist s t (k + 1))) := Lib.hid (by rw [clist_no s t k hl, HL.out])
        have dI : ((orbI (nx s t) k : Int) == 0) = false := by rw [beq_eq_false_iff_ne]; omega
        generalize orbI (nx s t) k = I at *
        generalize orbN (nx s t) k = N at *
        clear hl hI C3
        go_wp2_with fail
        refine (C4.out _).mono ?_
        rintro e w4 ⟨rfl, hq⟩
        have HO4 := Lib.hid (HO3.out.keep hq)
        have HW4 := Lib.hid (afterB hw3 hq hw3.size)
        clear HO3 hq hw3 c0 c1 c2 f0 f1 f2 hz4 B4 C4
        obtain ⟨M, hM⟩ : ∃ M : Int, M = (N : Int) - (I : Int) := ⟨_, rfl⟩
        rw [← hM]
        have hM0 : 1 ≤ M := by omega
        clear hM
        go_wp2_with fail
        go_loopw [8, 10] (fun b i wr => b = .bool false ∧ i = .int .i64 1 ∧ OwnI wr w.heap.size u5 L ∧ Below w.heap.size w wr) (fun _ _ _ => 0)
        case atStart => exact ⟨rfl, rfl, HO4.out, HW4.out⟩
        case round =>
          clear HO4 HW4
          obtain ⟨rfl, rfl, ho, hw⟩ := hrel
          have HO5 := Lib.hid ho
          clear ho
          by_cases h1M : 1 < M
          · have dj : decide (1 < M) = true := decide_eq_true h1M
            clear h1M
            go_wp2
            go_roundw
            case rel => exact ⟨k + 1, L, by omega, by go_num, HLN, HO5.out, hw⟩
            case measure => simp [intOf]; omega
          · have dj : decide (1 < M) = false := decide_eq_false h1M
            clear h1M
            go_wp2
            go_roundw
            case rel => exact ⟨k + 1, L, by omega, by go_num, HLN, HO5.out, hw⟩
            case measure => simp [intOf]; omega
    · obtain rfl : k = p := by omega
      go_wp2_with fail
      refine (C2.out _).mono ?_
      rintro e w2 ⟨rfl, rfl⟩
      have hL := HL.out
      go_wp2
      go_ret
      exact ⟨_, rfl, by rw [hpE.out, ← hL]; exact HO.out, hw⟩
end Go.Proofs.Ytibnlaphkmnhfaa

namespace SS
theorem cyc_zero (s t : Nat) : Cyc (nx s t) 0 1 := ⟨Nat.one_pos, it_zero s t 1, fun a b hab hb => by omega⟩
theorem orb_zero (s t : Nat) : orbN (nx s t) 0 = 1 ∧ orbI (nx s t) 0 = 0 := (cyc_zero s t).orb (by omega)
theorem lst_zero (s t : Nat) : lst s t 0 = true := lst_yes.2 ⟨(orb_zero s t).2, fun _ _ => Nat.zero_le _⟩
theorem clist_one (s t : Nat) : clist s t 1 = [1] := by rw [clist_yes s t 0 (lst_zero s t), clist_zero, (orb_zero s t).1]; rfl
theorem Mxp.clist {s t : Nat} (hv : VR s t 1) (h : Mxp s t) : SS.clist s t (2 ^ s) = [1, ((2 ^ s - 1 : Nat) : Int)] := by
  obtain ⟨h0, hN, hne⟩ := h.orb hv
  have hc := hv.cyc h0
  have h4 := hv.four
  have h1 : lst s t 1 = true := lst_yes.2 ⟨h0, fun i _ => by have := hne i; omega⟩
  have key : ∀ m, 2 ≤ m → m ≤ 2 ^ s → SS.clist s t m = [1, ((2 ^ s - 1 : Nat) : Int)] := by
    intro m hm
    induction m with
    | zero => omega
    | succ m ih =>
      intro hms
      by_cases e : m = 1
      · subst e
        rw [clist_yes s t 1 h1, clist_one, hN]
        rfl
      · have hl : lst s t m = false := by
          cases hl : lst s t m with
          | false => rfl
          | true =>
            obtain ⟨j, hj, ej⟩ := h.all hv m (by omega) (by omega)
            obtain ⟨i, hi, ei⟩ := hc.turn j
            rw [ej] at ei
            have hm0 := (hc.it j).orb hv.orbN_lt
            rw [ej] at hm0
            have := (lst_yes.1 hl).2 i (by rw [hm0.1]; exact hi)
            omega
        rw [clist_no s t m hl]
        exact ih (by omega) (by omega)
  exact key _ (by omega) (Nat.le_refl _)
theorem clist_mem {s t m : Nat} {x : Int} (h : x ∈ clist s t m) : ∃ k, k < m ∧ lst s t k = true ∧ x = ((orbN (nx s t) k : Nat) : Int) := by
  unfold clist at h
  obtain ⟨k, hk, e⟩ := List.mem_map.1 h
  rw [List.mem_filter, List.mem_range] at hk
  exact ⟨k, hk.1, hk.2, e.symm⟩
theorem mxp_of_list {s t : Nat} (hv : VR s t 1) (h : srt (clist s t (2 ^ s)) = [1, ((2 ^ s - 1 : Nat) : Int)]) : Mxp s t := by
  have h4 := hv.four
  have hm : ((2 ^ s - 1 : Nat) : Int) ∈ clist s t (2 ^ s) := (srt_perm _).mem_iff.1 (by rw [h]; simp)
  obtain ⟨k, hk, hl, e⟩ := clist_mem hm
  have hN : orbN (nx s t) k = 2 ^ s - 1 := by omega
  have hvk := hv.of hk
  have hc := hvk.cyc (lst_yes.1 hl).1
  rw [hN] at hc
  have hne : ∀ i, it (nx s t) i k ≠ 0 := by
    intro i e0
    obtain ⟨j, _, ej⟩ := hc.turn i
    rw [e0, it_zero] at ej
    rw [← ej, (orb_zero s t).1] at hN
    omega
  have hp : (0 :: (List.range (2 ^ s - 1)).map fun i => it (nx s t) i k).Perm (List.range (2 ^ s)) := by
    refine perm_range _ _ (List.nodup_cons.2 ⟨?_, states_nodup hc.dis⟩) ?_ (by simp; omega)
    · intro hm
      obtain ⟨i, _, ei⟩ := List.mem_map.1 hm
      exact hne i ei
    · intro x hx
      rcases List.mem_cons.1 hx with rfl | hx
      · omega
      · obtain ⟨i, _, rfl⟩ := List.mem_map.1 hx
        exact (hvk.itnx i).2.2.2.2
  have h1 : 1 ∈ (0 :: (List.range (2 ^ s - 1)).map fun i => it (nx s t) i k) := hp.mem_iff.2 (by rw [List.mem_range]; omega)
  rcases List.mem_cons.1 h1 with h1 | h1
  · omega
  · obtain ⟨i, _, ei⟩ := List.mem_map.1 h1
    have hp8 : 2 ^ s ≤ 256 := Nat.pow_le_pow_right (n := 2) (by decide) hv.2.1
    have hn3 : 2 ^ s - 1 < 300 := by omega
    have := (hc.it i).orb hn3
    rw [ei] at this
    unfold Mxp
    rw [this.1, this.2, Nat.zero_add]
theorem clist_ne (s t m : Nat) (h : 1 ≤ m) : (1 : Int) ∈ clist s t m := by
  unfold clist
  rw [List.mem_map]
  exact ⟨0, by rw [List.mem_filter, List.mem_range]; exact ⟨h, lst_zero s t⟩, by rw [(orb_zero s t).1]; rfl⟩
theorem clist_pos {s t m : Nat} (hv : VR s t 1) (hm : m ≤ 2 ^ s) : ∀ x ∈ clist s t m, 1 ≤ x ∧ x ≤ ((2 ^ s : Nat) : Int) := by
  intro x hx
  obtain ⟨k, hk, hl, rfl⟩ := clist_mem hx
  have hvk := hv.of (y := k) (by omega)
  have := (hvk.cyc (lst_yes.1 hl).1).pos
  have := hvk.orb.2
  omega
theorem srt_head {s t : Nat} (hv : VR s t 1) : (srt (clist s t (2 ^ s)))[0]? = some 1 := by
  have hm : (1 : Int) ∈ srt (clist s t (2 ^ s)) := (srt_perm _).mem_iff.2 (clist_ne s t _ (by have := hv.four; omega))
  have hp : ∀ x ∈ srt (clist s t (2 ^ s)), 1 ≤ x := fun x hx => (clist_pos hv (Nat.le_refl _) x ((srt_perm _).mem_iff.1 hx)).1
  have hu := srt_up (clist s t (2 ^ s))
  generalize srt (clist s t (2 ^ s)) = L at *
  cases L with
  | nil => simp at hm
  | cons a r =>
    rw [List.pairwise_cons] at hu
    have h1 := hp a (by simp)
    have h2 : a ≤ 1 := by
      rcases List.mem_cons.1 hm with h | h
      · omega
      · exact hu.1 1 h
    simp
    omega
/-- how many of the first states come back after n steps -/
def cnt (s t n : Nat) : Nat → Nat
  | 0 => 0
  | k + 1 => cnt s t n k + if orbI (nx s t) k = 0 ∧ orbN (nx s t) k = n then 1 else 0
theorem cnt_len (s t n k : Nat) : cnt s t n k = ((List.range k).filter fun x => (orbI (nx s t) x == 0) && (orbN (nx s t) x == n)).length := by
  induction k with
  | zero => rfl
  | succ k ih =>
    rw [List.range_succ, List.filter_append, List.length_append, ← ih, cnt, List.filter_cons]
    by_cases h : orbI (nx s t) k = 0 ∧ orbN (nx s t) k = n
    · rw [if_pos h, if_pos (by simp [h.1, h.2])]; rfl
    · rw [if_neg h, if_neg (by simp; exact fun a b => h ⟨a, b⟩)]; rfl
/-- the numbers n of a list, added up -/
def tot (n : Nat) (L : List Int) : Int := (L.filter fun x => x == (n : Int)).sum
theorem sum_perm {a b : List Int} (h : a.Perm b) : a.sum = b.sum := by
  induction h with
  | nil => rfl
  | cons x _ ih => simp [ih]
  | swap x y l => simp; omega
  | trans _ _ h1 h2 => exact h1.trans h2
theorem tot_perm (n : Nat) {a b : List Int} (h : a.Perm b) : tot n a = tot n b := sum_perm (h.filter _)
theorem flat_len (s t : Nat) (l : List Nat) : ((l.flatMap fun k => (List.range (orbN (nx s t) k)).map fun i => it (nx s t) i k).length : Int) = (l.map fun k => ((orbN (nx s t) k : Nat) : Int)).sum := by
  induction l with
  | nil => rfl
  | cons k l ih =>
    rw [List.flatMap_cons, List.length_append, List.map_cons, List.sum_cons, ← ih]
    simp
/-- as many states have a period as its cycles have together -/
theorem cnt_tot {s t : Nat} (hv : VR s t 1) (n : Nat) : ((cnt s t n (2 ^ s) : Nat) : Int) = tot n (clist s t (2 ^ s)) := by
  rw [cnt_len, ← (cyc_perm s t hv (fun x => x == n)).length_eq, flat_len s t]
  unfold tot clist
  rw [List.filter_map, List.filter_filter]
  congr 2
  apply List.filter_congr
  intro k _
  rw [Bool.and_comm]
  congr 1
  rw [Bool.eq_iff_iff, beq_iff_eq, Function.comp_apply, beq_iff_eq]
  omega
/-- with a tap in the first cell the cycles have all states -/
theorem sum_all {s t : Nat} (hv : VR s t 1) (ho : t % 2 = 1) : (clist s t (2 ^ s)).sum = ((2 ^ s : Nat) : Int) := by
  have h := (cyc_perm s t hv (fun _ => true)).length_eq
  have e : ((List.range (2 ^ s)).filter fun x => (orbI (nx s t) x == 0) && true) = List.range (2 ^ s) := by
    rw [List.filter_eq_self]
    intro x hx
    rw [List.mem_range] at hx
    rw [(hv.of hx).lead.2 ho]
    rfl
  rw [e, List.length_range] at h
  have h2 := flat_len s t ((List.range (2 ^ s)).filter fun k => lst s t k && true)
  rw [h] at h2
  rw [h2]
  unfold clist
  simp
theorem tot_snoc (n : Nat) (l : List Int) (x : Int) : tot n (l ++ [x]) = tot n l + if x = n then x else 0 := by
  unfold tot
  rw [List.filter_append, List.sum_append, List.filter_cons]
  by_cases h : x = n
  · rw [if_pos h, if_pos (by simp [h])]; simp
  · rw [if_neg h, if_neg (by simp [h])]; simp
end SS

namespace SS
/-- a table of numbers -/
def tabI (n : Nat) (f : Nat → Int) : List Int := (List.range n).map f
theorem tabI_length (n : Nat) (f : Nat → Int) : (tabI n f).length = n := by simp [tabI]
theorem tabI_at (n : Nat) (f : Nat → Int) (i : Nat) (h : i < n) : (tabI n f)[i]? = some (f i) := by simp [tabI, h]
theorem tabI_set (n : Nat) (f g : Nat → Int) (i : Nat) (v : Int) (h1 : g i = v) (h2 : ∀ j, j ≠ i → g j = f j) : (tabI n f).set i v = tabI n g := by
  apply List.ext_getElem?
  intro j
  rw [List.getElem?_set]
  by_cases hji : i = j
  · subst hji
    rw [if_pos rfl, tabI_length]
    by_cases hj : i < n
    · rw [if_pos hj, tabI_at n g i hj, h1]
    · rw [if_neg hj, List.getElem?_eq_none (by rw [tabI_length]; omega)]
  · rw [if_neg hji]
    by_cases hj : j < n
    · rw [tabI_at n f j hj, tabI_at n g j hj, h2 j (fun e => hji e.symm)]
    · rw [List.getElem?_eq_none (by rw [tabI_length]; omega), List.getElem?_eq_none (by rw [tabI_length]; omega)]
theorem tabI_congr (n : Nat) (f g : Nat → Int) (h : ∀ i, i < n → f i = g i) : tabI n f = tabI n g := by
  unfold tabI
  apply List.map_congr_left
  intro i hi
  exact h i (by simpa using hi)
theorem tabI_zero (n : Nat) : tabI n (fun _ => 0) = List.replicate n 0 := by
  unfold tabI
  rw [List.map_const', List.length_range]
theorem cnt_le (s t n k : Nat) : cnt s t n k ≤ k := by
  induction k with
  | zero => exact Nat.le_refl _
  | succ k ih => rw [cnt]; split <;> omega
/-- how many states of each period the first k ones have -/
def cl (s t k : Nat) : List Int := tabI 65 fun n => ((cnt s t n k : Nat) : Int)
theorem cl_zero (s t : Nat) : cl s t 0 = List.replicate 65 0 := by
  rw [← tabI_zero]
  exact tabI_congr _ _ _ fun i _ => rfl
theorem cl_no {s t k : Nat} (h : orbI (nx s t) k ≠ 0) : cl s t (k + 1) = cl s t k :=
  tabI_congr _ _ _ fun i _ => by rw [cnt, if_neg (fun e => h e.1)]; rfl
theorem cl_yes {s t k : Nat} (h : orbI (nx s t) k = 0) : (cl s t k).set (orbN (nx s t) k) (((cnt s t (orbN (nx s t) k) k : Nat) : Int) + 1) = cl s t (k + 1) := by
  apply tabI_set
  · rw [cnt, if_pos ⟨h, rfl⟩]; omega
  · intro j hj
    rw [cnt, if_neg (fun e => hj e.2.symm)]; rfl
/-- .. less what the cycles of a list have -/
def dl (s t p : Nat) (L : List Int) : List Int := tabI 65 fun n => ((cnt s t n p : Nat) : Int) - tot n L
theorem dl_nil (s t p : Nat) : dl s t p [] = cl s t p := tabI_congr _ _ _ fun i _ => by simp [tot]
theorem dl_snoc (s t p : Nat) (L : List Int) (x : Nat) : (dl s t p L).set x (((cnt s t x p : Nat) : Int) - tot x L - (x : Int)) = dl s t p (L ++ [(x : Int)]) := by
  apply tabI_set
  · rw [tot_snoc, if_pos rfl]; omega
  · intro j hj
    rw [tot_snoc, if_neg (by omega), Int.add_zero]
theorem tot_bound (n : Nat) (L : List Int) (h : ∀ x ∈ L, 0 ≤ x ∧ x ≤ 64) : 0 ≤ tot n L ∧ tot n L ≤ 64 * L.length := by
  unfold tot
  induction L with
  | nil => simp
  | cons a L ih =>
    have ha := h a (by simp)
    have hl := ih fun x hx => h x (by simp [hx])
    rw [List.filter_cons]
    split
    · rw [List.sum_cons, List.length_cons]; omega
    · rw [List.length_cons]; omega
theorem sum_bound (L : List Int) (h : ∀ x ∈ L, 0 ≤ x ∧ x ≤ 64) : 0 ≤ L.sum ∧ L.sum ≤ 64 * L.length := by
  induction L with
  | nil => simp
  | cons a L ih =>
    have ha := h a (by simp)
    have hl := ih fun x hx => h x (by simp [hx])
    rw [List.sum_cons, List.length_cons]; omega
theorem dl_all {s t : Nat} (hv : VR s t 1) : dl s t (2 ^ s) (srt (clist s t (2 ^ s))) = List.replicate 65 0 := by
  rw [← tabI_zero]
  refine tabI_congr _ _ _ fun i _ => ?_
  rw [cnt_tot hv i, tot_perm i (srt_perm _)]
  omega
end SS

namespace Go.Proofs.Ytibnlaphkmnhfaa
open Go.RowKit SS
set_option maxRecDepth 100000
/-- a sequence that begins later -/
def shf (k : Int) (s : ByteArray) : ByteArray := rotS (md k s.size) s
theorem sv_size {s : ByteArray} (h : sv s.data.toList = true) : 1 ≤ s.size ∧ s.size ≤ 255 := by
  obtain ⟨h1, h2, _⟩ := sv_yes h
  rw [size_list] at h1 h2
  exact ⟨h1, h2⟩
theorem shf_size (k : Int) (s : ByteArray) (h : 1 ≤ s.size) : (shf k s).size = s.size := rotS_size _ _ (Nat.le_of_lt (md_lt k s.size h))
theorem shf_sv (k : Int) (s : ByteArray) (h : sv s.data.toList = true) : sv (shf k s).data.toList = true := by
  unfold shf
  rw [rotS_list]
  exact sv_rot _ _ (by rw [size_list]; exact Nat.le_of_lt (md_lt k s.size (sv_size h).1)) h
theorem shf_shf (a b : Int) (s : ByteArray) (h : 1 ≤ s.size) : shf b (shf a s) = shf (a + b) s := by
  have ha := md_lt a s.size h
  have hb := md_lt b s.size h
  unfold shf
  rw [rotS_size _ _ (Nat.le_of_lt ha)]
  apply ByteArray.ext
  apply Array.ext'
  show (rotS (md b s.size) (rotS (md a s.size) s)).data.toList = (rotS (md (a + b) s.size) s).data.toList
  rw [rotS_list, rotS_list, rotS_list, rot_rot _ _ _ (by rw [size_list]; exact ha) (by rw [size_list]; exact hb), size_list, md_add _ _ _ h]
theorem shf_congr (a b : Int) (s : ByteArray) (h : a % (s.size : Int) = b % (s.size : Int)) : shf a s = shf b s := by unfold shf; rw [md_congr a b _ h]
theorem shf_zero (s : ByteArray) : shf 0 s = s := by unfold shf; rw [md_zero, rotS_zero]
theorem shf_id (a : Int) (s : ByteArray) (h : a % (s.size : Int) = 0) : shf a s = s := by rw [shf_congr a 0 s (by rw [h, Int.zero_emod]), shf_zero]
theorem tmod_any (k : Int) (n : Nat) (h1 : 1 ≤ n) (h2 : n ≤ 255) : ∃ m : Int, k.tmod (n : Int) = m ∧ -255 ≤ m ∧ m ≤ 255 ∧ m % (n : Int) = k % (n : Int) := by
  refine ⟨_, rfl, ?_⟩
  rcases tmod_cases k n h1 with ⟨h, e⟩ | ⟨h, e⟩
  · have := Int.emod_lt_of_pos k (show (0 : Int) < n by omega)
    refine ⟨by omega, by omega, ?_⟩
    rw [e, Int.emod_emod_of_dvd _ (Int.dvd_refl _)]
  · have h3 := Int.emod_nonneg k (show (n : Int) ≠ 0 by omega)
    refine ⟨by omega, by omega, ?_⟩
    rw [show k.tmod n = k % (n : Int) - n by omega, Int.sub_emod, Int.emod_self, Int.sub_zero, Int.emod_emod_of_dvd _ (Int.dvd_refl _), Int.emod_emod_of_dvd _ (Int.dvd_refl _)]
theorem ssShift_yes (s : ByteArray) (k : Int) (w : World) (hs : sv s.data.toList = true) :
    Calls Try.prog 18 #[.string s, .int .i64 k] w fun e w' => e = .returned (.string (shf k s)) ∧ Below w.heap.size w w' := by
  have C := Lib.hid fun w => quiet_below (shift_impl s k w hs)
  clear hs
  go_enter Try.func18, Try.ntmps18
  go_wp2_with fail
  refine (C.out _).mono ?_
  rintro e w1 ⟨rfl, hb⟩
  go_wp2
  go_ret
  exact ⟨rfl, hb⟩
end Go.Proofs.Ytibnlaphkmnhfaa

namespace Go.Proofs.Ytibnlaphkmnhfaa
open Go.RowKit SS
set_option maxRecDepth 100000
theorem quiet_ex {P : Program} {f : FuncId} {args : Array Value} {w : World} {n : Nat} {v : Value}
    (h : Calls P f args (w.drewN n) fun e w' => e = .returned v ∧ ∃ m, w' = (w.drewN n).drewN m) : Calls P f args (w.drewN n) fun e w'' => e = .returned v ∧ ∃ m, w'' = w.drewN m :=
  h.mono fun _ _ ⟨he, m, hm⟩ => ⟨he, n + m, by rw [hm, World.drewN_drewN]⟩
theorem quiet_exN {P : Program} {f : FuncId} {args : Array Value} {w : World} {m n : Nat} {v : Value}
    (h : Calls P f args ((w.drewN m).drewN n) fun e w' => e = .returned v ∧ ∃ k, w' = ((w.drewN m).drewN n).drewN k) : Calls P f args (w.drewN (m + n)) fun e w'' => e = .returned v ∧ ∃ k, w'' = w.drewN (m + k) := by
  rw [World.drewN_drewN] at h
  exact h.mono fun _ _ ⟨he, k, hm⟩ => ⟨he, n + k, by rw [hm, World.drewN_drewN, Nat.add_assoc]⟩
theorem ssShift_quiet (s : ByteArray) (k : Int) (w : World) (hs : sv s.data.toList = true) :
    Calls Try.prog 18 #[.string s, .int .i64 k] w fun e w' => e = .returned (.string (shf k s)) ∧ ∃ n, w' = w.drewN n := by
  have C := Lib.hid fun w => shift_impl s k w hs
  clear hs
  go_enter Try.func18, Try.ntmps18
  go_wp2_with fail
  refine (C.out _).mono ?_
  rintro e w1 ⟨rfl, n, rfl⟩
  go_wp2
  go_ret
  exact ⟨rfl, n, rfl⟩
end Go.Proofs.Ytibnlaphkmnhfaa

namespace Go.Proofs.Ytibnlaphkmnhfaa
open Go.RowKit SS
set_option maxRecDepth 100000
end Go.Proofs.Ytibnlaphkmnhfaa

namespace Go.Proofs.Ytibnlaphkmnhfaa
open Go.RowKit SS
set_option maxRecDepth 100000
set_option maxHeartbeats 4000000 in
theorem walk_FnCycles (a0 : Option Addr) (len0 cap0 : Nat) (z0 : List Int) (w : World) (h0 : IsRow .u8 w a0 len0 cap0 z0) :
    Calls Try.prog 12 #[.slice a0 len0 cap0] w fun e w' => e = .returned (.bool true) ∧ Below w.heap.size w w' := by
  obtain ⟨c0, l0, m0⟩ := h0.code
  clear h0
  by_cases hs0 : len0 ≤ 1048576
  · have d0 : decide ((1048576 : Int) < (len0 : Int)) = false := by simp; omega
    have D1 := Lib.hid (drawCycles a0 len0 cap0 w c0 l0 m0)
    clear c0 l0 m0
    have hw := Below.refl w.heap.size w
    go_enter Try.func12, Try.ntmps12
    go_wp2_with fail
    refine (D1.out).mono ?_
    rintro e w1 ⟨z, u, rfl, hq⟩
    replace hw := afterB hw hq hw.size
    clear hq
    clear D1
    cases hr : tv z u with
    | false =>
      have C1 := Lib.hid fun w => cyc_impl_no z u w hr
      have C2 := Lib.hid fun w => scyc_no z u w hr
      clear hr
      go_wp2_with fail
      refine (C1.out _).mono ?_
      rintro e w2 ⟨v0, rfl, o0, hq⟩
      have HR := Lib.hid o0.row
      clear o0
      replace hw := afterB hw hq hw.size
      clear hq
      go_wp2_with fail
      refine (C2.out _).mono ?_
      rintro e w3 ⟨v1, rfl, o1, hq⟩
      have HR1 := Lib.hid o1.row
      clear o1
      have hq2 := hq.size
      replace HR := Lib.hid ((HR.out.below hq).mono hq2)
      replace hw := afterB hw hq hw.size
      clear hq hq2
      go_wp2_with fail
      refine (ssInts_yes v0 v1 _ _ _ HR.out HR1.out (by simp)).mono ?_
      rintro e w4 ⟨rfl, n4, rfl⟩
      replace HR := Lib.hid (HR.out.drewN n4)
      replace hw := below_drewN hw n4
      clear HR1
      obtain ⟨A0, k0, rfl⟩ := HR.out.nil
      go_wp2_with fail
      refine (C2.out _).mono ?_
      rintro e w5 ⟨v2, rfl, o2, hq⟩
      have HR2 := Lib.hid o2.row
      clear o2
      have hq2 := hq.size
      have HR5 := Lib.hid ((HR.out.below hq).mono hq2)
      replace hw := afterB hw hq hw.size
      clear hq hq2
      go_wp2_with fail
      refine (ssInts_yes _ v2 _ _ _ HR5.out HR2.out (by simp)).mono ?_
      rintro e w6 ⟨rfl, n6, rfl⟩
      go_wp2
      go_ret
      exact ⟨rfl, below_drewN hw n6⟩
    | true =>
      obtain ⟨s, t, rfl, rfl, hv⟩ := tv_nat' hr
      clear hr
      have h2 := hv.1
      have h8 := hv.2.1
      have ht256 := lt256 h8 hv.2.2.2.1
      have C1 := Lib.hid fun w => cyc_impl s t w hv
      have C2 := Lib.hid fun w => scyc_yes s t w hv
      obtain ⟨p, HP⟩ : ∃ p, Hid (p = 2 ^ s) := ⟨2 ^ s, Lib.hid rfl⟩
      have hp2 : p ≤ 256 := by rw [HP.out]; exact Nat.pow_le_pow_right (n := 2) (by decide) h8
      have hpi : ((2 : Int) ^ s) = (p : Int) := by rw [HP.out]; simp
      have hTl : (srt (clist s t (2 ^ s))).length ≤ p := by rw [srt_length, HP.out]; exact clist_length s t _
      have H0 := Lib.hid (srt_head hv)
      have HPOS : Hid (∀ x ∈ srt (clist s t (2 ^ s)), 1 ≤ x ∧ x ≤ (p : Int)) := Lib.hid fun x hx => by rw [HP.out]; exact clist_pos hv (Nat.le_refl _) x ((srt_perm _).mem_iff.1 hx)
      have HUP := Lib.hid (srt_up (clist s t (2 ^ s)))
      have HALL : Hid (dl s t p (srt (clist s t (2 ^ s))) = List.replicate 65 0) := Lib.hid (by rw [HP.out]; exact dl_all hv)
      have HSUM : Hid (t % 2 = 1 → (srt (clist s t (2 ^ s))).sum = (p : Int)) := Lib.hid fun ho => by rw [sum_perm (srt_perm _), sum_all hv ho, HP.out]
      have HV : Hid (∀ k, k < p → VR s t k) := Lib.hid fun k hk => hv.of (by rw [← HP.out]; exact hk)
      clear hv
      generalize srt (clist s t (2 ^ s)) = TT at *
      have hTne : TT ≠ [] := by
        intro e
        have := H0.out
        rw [e] at this
        cases this
      have hT0 : 0 < TT.length := List.length_pos_iff.2 hTne
      go_wp2_with fail
      refine (C1.out _).mono ?_
      rintro e w2 ⟨v0, rfl, o0, hq⟩
      have HR := Lib.hid o0.row
      clear o0
      replace hw := afterB hw hq hw.size
      clear hq
      go_wp2_with fail
      refine (C2.out _).mono ?_
      rintro e w3 ⟨v1, rfl, o1, hq⟩
      have HR1 := Lib.hid o1.row
      clear o1
      have hq2 := hq.size
      replace HR := Lib.hid ((HR.out.below hq).mono hq2)
      replace hw := afterB hw hq hw.size
      clear hq hq2
      go_wp2_with fail
      refine (ssInts_yes v0 v1 _ _ _ HR.out HR1.out (by omega)).mono ?_
      rintro e w4 ⟨rfl, n4, rfl⟩
      replace HR := Lib.hid (HR.out.drewN n4)
      replace hw := below_drewN hw n4
      clear HR1
      obtain ⟨g0, k0, hv0, hg0, hcell⟩ := HR.out.form hTne
      have HCELL := Lib.hid hcell
      have HG := Lib.hid hg0
      clear hcell
      have dl0 : ((TT.length : Int) == 0) = false := by rw [beq_eq_false_iff_ne]; omega
      subst hv0
      by_cases h6 : 6 < s
      · skip
        have d6 : decide ((6 : Int) < (s : Int)) = true := by simp; omega
        clear h6
        go_wp2_with fail
        refine (C2.out _).mono ?_
        rintro e w5 ⟨v2, rfl, o2, hq⟩
        have HR2 := Lib.hid o2.row
        clear o2
        have hq2 := hq.size
        have HR5 := Lib.hid ((HR.out.below hq).mono hq2)
        replace hw := afterB hw hq hw.size
        clear hq hq2
        go_wp2_with fail
        refine (ssInts_yes _ v2 _ _ _ HR5.out HR2.out (by omega)).mono ?_
        rintro e w6 ⟨rfl, n6, rfl⟩
        go_wp2
        go_ret
        exact ⟨rfl, below_drewN hw n6⟩
      · skip
        have d6 : decide ((6 : Int) < (s : Int)) = false := by simp; omega
        have hp64 : p ≤ 64 := by rw [HP.out]; exact Nat.pow_le_pow_right (n := 2) (by decide) (show s ≤ 6 by omega)
        obtain ⟨wc, hwc⟩ : ∃ wc : World, wc = (w3.drewN n4) := ⟨_, rfl⟩
        have hg1 : g0 < wc.heap.size := by rw [hwc]; exact hg0
        replace hg0 := hg1
        rw [← hwc] at hw HCELL ⊢
        clear hwc HR C1 C2 HG hg1
        have hmk := makeI 65 (by omega) wc
        rw [show ((65 : Nat) : Int) = 65 from rfl] at hmk
        have b0 := BI.new wc 3 65
        rw [← cl_zero s t] at b0
        generalize madeCells #[.int .i64 0] 65 = M at hmk b0
        have HB0 := Lib.hid b0
        have HW0 := Lib.hid ((Below.refl wc.heap.size wc).alloc (Nat.le_refl _) (.cells M 3))
        clear b0
        have hzc := hw.size
        go_wp2_with fail
        go_loopw [7] (fun i wr => ∃ k : Nat, k ≤ p ∧ i = .int .i64 (k : Int) ∧ BI wr wc.heap.size 3 (cl s t k) ∧ Below wc.heap.size wc wr) (fun i _ => p - (intOf i).toNat)
        case atStart => exact ⟨0, Nat.zero_le _, rfl, HB0.out, HW0.out⟩
        case round =>
          clear HB0 HW0 hmk
          obtain ⟨k, hk, rfl, hb, hwr⟩ := hrel
          by_cases hlt : k < p
          · skip
            obtain ⟨wo, rfl⟩ : ∃ wo : World, wo = wr := ⟨_, rfl⟩
            have HVk := Lib.hid (HV.out k hlt)
            have C3 := Lib.hid fun w => lead_yes s t k w HVk.out
            have C4 := Lib.hid fun w => period_yes s t k w HVk.out
            obtain ⟨⟨hIN, _, _⟩, hN⟩ := HVk.out.orb
            rw [← HP.out] at hN
            have B4 := B3.new wo 53 (.int .i64 (s : Int)) (.int .i64 (t : Int)) (.int .i64 (k : Int))
            have HB2 := Lib.hid (hb.alloc (.cells #[.int .i64 (s : Int), .int .i64 (t : Int), .int .i64 (k : Int)] 53))
            have hzw := hb.lt
            have hw2 := hwr.alloc hwr.size (.cells #[.int .i64 (s : Int), .int .i64 (t : Int), .int .i64 (k : Int)] 53)
            clear hb hwr
            obtain ⟨c0, c1, c2, f0, f1, f2, hz4⟩ := B4.facts
            go_wp2_with fail
            refine (C3.out _).mono ?_
            rintro e w3 ⟨rfl, hq⟩
            have HB3 := Lib.hid (HB2.out.below hq HB2.out.lt)
            replace B4 := B4.belowS hq
            have hw3 := afterB hw2 hq hw2.size
            clear HB2 hq hw2 c0 c1 c2 f0 f1 f2 hz4
            by_cases hI : orbI (nx s t) k = 0
            · skip
              have HCY := Lib.hid (cl_yes hI)
              have hcn := cnt_le s t (orbN (nx s t) k) k
              have hca := tabI_at 65 (fun n => ((cnt s t n k : Nat) : Int)) (orbN (nx s t) k) (by omega)
              rw [hI, show ((0 : Nat) : Int) = 0 from rfl, Int.sub_zero] at C4
              rw [hI, show ((0 : Nat) : Int) = 0 from rfl]
              have HCA : Hid ((cl s t k)[orbN (nx s t) k]? = some ((cnt s t (orbN (nx s t) k) k : Nat) : Int)) := Lib.hid hca
              clear hca
              generalize orbN (nx s t) k = N at *
              generalize cnt s t N k = c at *
              have hcs : IntKind.i64.wrap ((c : Int) + 1) = (c : Int) + 1 := by rw [IntKind.wrap_i64]; omega
              have hN64 : N ≤ 64 := by omega
              have dN : decide (65 ≤ N) = false := by simp; omega
              have dN2 : (N : Int) < 65 := by omega
              have dN3 : (0 : Int) ≤ (N : Int) := by omega
              clear hI hIN C3
              obtain ⟨c0, c1, c2, f0, f1, f2, hz4⟩ := B4.facts
              have hne : wc.heap.size ≠ wo.heap.size := by omega
              have hwr := below_drewN hw3 1
              have hbr : BI (w3.drewN 1) wc.heap.size 3 (cl s t k) := HB3.out
              have hrr : B3 (w3.drewN 1) wo.heap.size 53 (.int .i64 (s : Int)) (.int .i64 (t : Int)) (.int .i64 (k : Int)) := B4
              clear hw3 HB3 B4
              go_wp2_with fail
              go_region_with ((go_at_call 50; (with_reducible refine (C4.out _).mono ?_); rintro e wv ⟨rfl, hq⟩; replace hbr := hbr.below hq hbr.lt; replace hrr := hrr.belowS hq; replace hwr := afterB hwr hq hwr.size; clear hq; obtain ⟨q0, q1, q2, _, _, _, _⟩ := hrr.facts; have q3 := hbr.cell N (c : Int) HCA.out; have q4 := hbr.frozen N))
              all_goals (go_wp2_with fail; go_roundw)
              all_goals first | (case rel => exact ⟨k + 1, by omega, by go_num, by rw [← HCY.out]; exact hbr.set N _, hwr.setCell (Nat.le_refl _) _⟩) | skip
              all_goals (simp [intOf]; omega)
            · skip
              have HCN := Lib.hid (cl_no hI)
              have dI : ((orbI (nx s t) k : Int) == 0) = false := by rw [beq_eq_false_iff_ne]; omega
              generalize orbI (nx s t) k = I at *
              generalize orbN (nx s t) k = N at *
              clear hI C3 C4
              go_wp2
              go_roundw
              case rel => exact ⟨k + 1, by omega, by go_num, by rw [HCN.out]; exact HB3.out, hw3⟩
              case measure => simp [intOf]; omega
          · skip
            obtain rfl : k = p := by omega
            rw [← dl_nil s t k] at hb
            have HB1 := Lib.hid hb
            have HW1 := Lib.hid hwr
            have H64 : Hid (∀ x ∈ TT, 0 ≤ x ∧ x ≤ 64) := Lib.hid fun x hx => by have := HPOS.out x hx; omega
            clear hb hwr hlt
            go_wp2_with fail
            go_loopw [9, 10] (fun sm i wr => ∃ (j : Nat) (L : List Int) (F : Int), j ≤ TT.length ∧ i = .int .i64 (j : Int) ∧ Hid (L = TT.take j) ∧ Hid (F = L.sum) ∧ sm = .int .i64 F ∧ BI wr wc.heap.size 3 (dl s t k L) ∧ Below wc.heap.size wc wr) (fun _ i _ => TT.length - (intOf i).toNat)
            case atStart => exact ⟨0, [], 0, Nat.zero_le _, rfl, Lib.hid (by rw [List.take_zero]), Lib.hid rfl, rfl, HB1.out, HW1.out⟩
            case round =>
              clear HB1 HW1
              obtain ⟨j, L, F, hj, rfl, HL, HF, rfl, hb, hwr⟩ := hrel
              have hFb : 0 ≤ F ∧ F ≤ 4096 := by
                have := sum_bound L (fun x hx => H64.out x (by rw [HL.out] at hx; exact List.mem_of_mem_take hx))
                have hl : L.length ≤ 64 := by rw [HL.out, List.length_take]; omega
                rw [HF.out]
                omega
              by_cases hjl : j < TT.length
              · skip
                obtain ⟨x, hxe⟩ : ∃ x : Nat, TT[j] = (x : Int) := ⟨TT[j].toNat, by have := (HPOS.out _ (List.getElem_mem hjl)).1; omega⟩
                have hxp := HPOS.out _ (List.getElem_mem hjl)
                rw [hxe] at hxp
                have hx64 : x ≤ 64 := by omega
                have hcx := HCELL.out j _ (List.getElem?_eq_getElem hjl)
                rw [hxe] at hcx
                have HT : Hid (L ++ [(x : Int)] = TT.take (j + 1)) := Lib.hid (by rw [take_snocI hjl, hxe, ← HL.out])
                have hca := tabI_at 65 (fun n => ((cnt s t n k : Nat) : Int) - tot n L) x (by omega)
                have htb := tot_bound x L (fun y hy => H64.out y (by rw [HL.out] at hy; exact List.mem_of_mem_take hy))
                have hLl : L.length ≤ 64 := by rw [HL.out, List.length_take]; omega
                have hcn := cnt_le s t x k
                have HSN := Lib.hid (dl_snoc s t k L x)
                have HFS : Hid (F + (x : Int) = (TT.take (j + 1)).sum) := Lib.hid (by rw [← HT.out, List.sum_append, HF.out]; simp)
                have cc := hb.cell x _ hca
                have ff := hb.frozen x
                have hcw : wr.cell? ⟨g0, j, none⟩ = some (.int .i64 (x : Int)) := (hwr.cell (p := ⟨g0, j, none⟩) hg0).trans hcx
                obtain ⟨D, hD⟩ : ∃ D : Int, D = ((cnt s t x k : Nat) : Int) - tot x L := ⟨_, rfl⟩
                have hDb : -5000 ≤ D ∧ D ≤ 5000 := by omega
                rw [← hD] at cc HSN
                have hsub : IntKind.i64.wrap (D - (x : Int)) = D - (x : Int) := by rw [IntKind.wrap_i64]; omega
                have dj : decide (TT.length ≤ j) = false := by simp; omega
                have dx : decide (65 ≤ x) = false := by simp; omega
                have dx2 : (x : Int) < 65 := by omega
                have dx3 : (0 : Int) ≤ (x : Int) := by omega
                have hne : wc.heap.size ≠ g0 := by omega
                have HPREV : Hid (1 ≤ j → ∃ y : Int, wc.cell? ⟨g0, j - 1, none⟩ = some (.int .i64 y) ∧ y ≤ (x : Int)) := by
                  intro h1
                  have hj1 : j - 1 < TT.length := by omega
                  refine ⟨TT[j - 1], HCELL.out (j - 1) _ (List.getElem?_eq_getElem hj1), ?_⟩
                  rw [← hxe]
                  exact (List.pairwise_iff_getElem.1 HUP.out) (j - 1) j hj1 hjl (by omega)
                clear hxe hcx hca htb hD hxp
                go_wp2_with fail
                refine still_tail 18 (by kernel_rfl) (by kernel_rfl) fun W HWW => ?_
                have hb' : BI W wc.heap.size 3 (dl s t k L) := by rw [HWW.out]; exact hb
                have hwr' : Below wc.heap.size wc W := by rw [HWW.out]; exact hwr.drew
                have cc' : W.cell? ⟨wc.heap.size, x, none⟩ = some (.int .i64 D) := by rw [HWW.out]; exact cc
                have ff' : W.frozen? ⟨wc.heap.size, x, none⟩ = false := by rw [HWW.out]; exact ff
                have hcw' : W.cell? ⟨g0, j, none⟩ = some (.int .i64 (x : Int)) := by rw [HWW.out]; exact hcw
                clear HWW hb hwr cc ff hcw
                simp only [List.take_succ_cons, List.take_zero, List.drop_succ_cons, List.drop_zero]
                repeat still_step
                refine wpStill_nil ?_
                have hb2 := hb'.set x (D - (x : Int))
                rw [HSN.out, HT.out] at hb2
                have hw2 := hwr'.setCell (p := ⟨wc.heap.size, x, none⟩) (Nat.le_refl _) (.int .i64 (D - (x : Int)))
                have HB2 := Lib.hid hb2
                have HW2 := Lib.hid hw2
                have hcz : (W.setCell ⟨wc.heap.size, x, none⟩ (.int .i64 (D - (x : Int)))).cell? ⟨g0, j, none⟩ = some (.int .i64 (x : Int)) := (hw2.cell (p := ⟨g0, j, none⟩) hg0).trans ((hwr'.cell (p := ⟨g0, j, none⟩) hg0).symm.trans hcw')
                have HPREV2 : Hid (1 ≤ j → ∃ y : Int, (W.setCell ⟨wc.heap.size, x, none⟩ (.int .i64 (D - (x : Int)))).cell? ⟨g0, j - 1, none⟩ = some (.int .i64 y) ∧ y ≤ (x : Int)) := Lib.hid fun h1 => by obtain ⟨y, h, hy⟩ := HPREV.out h1; exact ⟨y, (hw2.cell (p := ⟨g0, j - 1, none⟩) hg0).trans h, hy⟩
                clear hb2 hw2 HPREV HSN HL HF
                by_cases hj0 : j = 0
                · skip
                  have d0 : decide (0 < j) = false := by simp; omega
                  have d0i : decide ((0 : Int) < (j : Int)) = false := by simp; omega
                  clear hj0 HPREV2
                  clear hcw' hb' hwr'
                  go_wp2_with fail
                  clear cc' ff'
                  generalize W.setCell ⟨wc.heap.size, x, none⟩ (.int .i64 (D - (x : Int))) = wq at *
                  go_quiet (fail)
                  go_wp2
                  go_roundw
                  case rel => exact ⟨j + 1, _, _, by omega, by go_num, Lib.hid rfl, HFS, rfl, HB2.out, below_drewN HW2.out _⟩
                  case measure => first | (simp [intOf]; done) | (simp [intOf]; omega)
                · skip
                  have d0 : decide (0 < j) = true := by simp; omega
                  have d0i : decide ((0 : Int) < (j : Int)) = true := by simp; omega
                  obtain ⟨y, hcy, hyx⟩ := HPREV2.out (by omega)
                  have dxy : decide ((x : Int) < y) = false := by simp; omega
                  have hjm : IntKind.i64.wrap ((j : Int) - 1) = (j : Int) - 1 := by rw [IntKind.wrap_i64]; omega
                  have hjm2 : ((j : Int) - 1).toNat = j - 1 := by omega
                  have hjm3 : (0 : Int) ≤ (j : Int) - 1 := by omega
                  have dj2 : decide (TT.length ≤ j - 1) = false := by simp; omega
                  have dj3 : (j : Int) - 1 < (TT.length : Int) := by omega
                  clear hj0 HPREV2 hyx
                  clear hcw' hb' hwr'
                  go_wp2_with fail
                  clear cc' ff'
                  generalize W.setCell ⟨wc.heap.size, x, none⟩ (.int .i64 (D - (x : Int))) = wq at *
                  go_quiet (fail)
                  go_wp2
                  go_roundw
                  case rel => exact ⟨j + 1, _, _, by omega, by go_num, Lib.hid rfl, HFS, rfl, HB2.out, below_drewN HW2.out _⟩
                  case measure => first | (simp [intOf]; done) | (simp [intOf]; omega)
              · skip
                obtain rfl : j = TT.length := by omega
                have hL := HL.out
                rw [List.take_length] at hL
                subst hL
                rw [HALL.out] at hb
                have HB5 := Lib.hid hb
                have HW5 := Lib.hid hwr
                have HS2 : Hid (t % 2 = 1 → F = (k : Int)) := Lib.hid fun ho => by rw [HF.out]; exact HSUM.out ho
                have hc0 := HCELL.out 0 1 H0.out
                clear hb hwr HALL HL hjl hj HF
                go_wp2_with fail
                go_loop [11] (fun i => ∃ n : Nat, n ≤ 65 ∧ i = .int .i64 (n : Int)) (fun i => 65 - (intOf i).toNat)
                case atStart => exact ⟨0, Nat.zero_le _, rfl⟩
                case round =>
                  obtain ⟨n, hn, rfl⟩ := hrel
                  by_cases hn65 : n < 65
                  · skip
                    have cn := HB5.out.cell n 0 (by rw [List.getElem?_replicate, if_pos hn65])
                    have dn : decide ((n : Int) < 65) = true := by simp; omega
                    go_wp2
                    go_round
                    case rel => exact ⟨n + 1, by omega, by go_num⟩
                    case measure => simp [intOf]; omega
                  · skip
                    obtain rfl : n = 65 := by omega
                    have hw9 := hw.trans (HW5.out.mono hzc)
                    have hc1 : wr.cell? ⟨g0, 0, none⟩ = some (.int .i64 1) := (HW5.out.cell (p := ⟨g0, 0, none⟩) hg0).trans hc0
                    by_cases ho : t % 2 = 1
                    · skip
                      have hF := HS2.out ho
                      have dt : ((t : Int) % 2 == 0) = false := by rw [beq_eq_false_iff_ne]; omega
                      have dF : (F == (k : Int)) = true := by rw [beq_iff_eq]; exact hF
                      clear ho hF
                      go_wp2
                      go_ret
                      exact ⟨rfl, hw9⟩
                    · skip
                      have dt : ((t : Int) % 2 == 0) = true := by rw [beq_iff_eq]; omega
                      clear ho
                      go_wp2
                      go_ret
                      exact ⟨rfl, hw9⟩
  · have d0 : decide ((1048576 : Int) < (len0 : Int)) = true := by simp; omega
    go_enter Try.func12, Try.ntmps12
    go_wp2
    go_ret
    exact ⟨rfl, Below.refl _ _⟩
end Go.Proofs.Ytibnlaphkmnhfaa
