/- Plain facts: cutting a text at a letter, and canonical numbers. -/
import Derived.Lib.Split
import Derived.Lib.SplitLaws
import Derived.Lib.CountLaws
import Derived.Lib.IndexBytes
import Derived.Lib.IndexLaws
import Derived.Lib.CutLaws
import Derived.Lib.ItoaNum
namespace SS
open Go
/-- put a letter ahead of the first piece -/
def headC (x : UInt8) : List (List UInt8) → List (List UInt8)
  | [] => [[x]]
  | p :: ps => (x :: p) :: ps
/-- a text cut at each letter c -/
def cutL (c : UInt8) : List UInt8 → List (List UInt8)
  | [] => [[]]
  | x :: r => if x = c then [] :: cutL c r else headC x (cutL c r)
/-- put letters ahead of the first piece -/
def prep (p : List UInt8) : List (List UInt8) → List (List UInt8)
  | [] => [p]
  | q :: qs => (p ++ q) :: qs
theorem cutL_ne (c : UInt8) (l : List UInt8) : cutL c l ≠ [] := by
  cases l with
  | nil => simp [cutL]
  | cons x r =>
    unfold cutL
    split
    · simp
    · cases cutL c r <;> simp [headC]
theorem prep_nil {q : List (List UInt8)} (h : q ≠ []) : prep [] q = q := by
  cases q with
  | nil => exact absurd rfl h
  | cons a b => rfl
theorem prep_head (p : List UInt8) (x : UInt8) (q : List (List UInt8)) : prep p (headC x q) = prep (p ++ [x]) q := by
  cases q <;> simp [prep, headC]
/-- the pieces that are cut before letter i, and where the open piece begins -/
def cutA (l : List UInt8) (c : UInt8) : Nat → List (List UInt8) × Nat
  | 0 => ([], 0)
  | i + 1 => if i = l.length ∨ l[i]? = some c then ((cutA l c i).1 ++ [(l.drop (cutA l c i).2).take (i - (cutA l c i).2)], i + 1) else cutA l c i
theorem cutA_le (l : List UInt8) (c : UInt8) (i : Nat) : (cutA l c i).2 ≤ i := by
  induction i with
  | zero => exact Nat.le_refl _
  | succ i ih => unfold cutA; split <;> first | omega | (simp; done) | (simp; omega)
theorem cutA_length (l : List UInt8) (c : UInt8) (i : Nat) : (cutA l c i).1.length ≤ i := by
  induction i with
  | zero => exact Nat.le_refl _
  | succ i ih => unfold cutA; split <;> first | omega | (simp; done) | (simp; omega)
theorem cutA_inv (l : List UInt8) (c : UInt8) (i : Nat) (hi : i ≤ l.length) :
    cutL c l = (cutA l c i).1 ++ prep ((l.drop (cutA l c i).2).take (i - (cutA l c i).2)) (cutL c (l.drop i)) := by
  induction i with
  | zero => simp [cutA, prep_nil (cutL_ne c l)]
  | succ i ih =>
    have ih := ih (by omega)
    have hst := cutA_le l c i
    have hx : l[i]? = some l[i] := List.getElem?_eq_getElem (by omega)
    rw [ih, List.drop_eq_getElem_cons (i := i) (by omega)]
    by_cases he : l[i] = c
    · rw [cutL, if_pos he]
      have : cutA l c (i + 1) = ((cutA l c i).1 ++ [(l.drop (cutA l c i).2).take (i - (cutA l c i).2)], i + 1) := by
        rw [cutA, if_pos (.inr (by rw [hx, he]))]
      rw [this]
      dsimp only
      rw [Nat.sub_self, List.take_zero, prep_nil (cutL_ne c _)]
      simp [prep]
    · rw [cutL, if_neg he]
      have : cutA l c (i + 1) = cutA l c i := by
        rw [cutA, if_neg]
        rintro (h | h)
        · omega
        · rw [hx] at h; exact he (Option.some.inj h)
      rw [this, prep_head]
      congr 2
      rw [show i + 1 - (cutA l c i).2 = (i - (cutA l c i).2) + 1 by omega, List.take_add_one]
      congr 1
      rw [List.getElem?_drop, show (cutA l c i).2 + (i - (cutA l c i).2) = i by omega, hx]
      rfl
theorem cutA_all (l : List UInt8) (c : UInt8) : (cutA l c (l.length + 1)).1 = cutL c l := by
  rw [cutA_inv l c l.length (Nat.le_refl _), cutA, if_pos (.inl rfl)]
  simp [cutL, prep]
theorem cutL_miss (c : UInt8) : ∀ l : List UInt8, (∀ k : Nat, l[k]? ≠ some c) → cutL c l = [l]
  | [], _ => rfl
  | x :: r, h => by
    have hx : x ≠ c := fun e => h 0 (by simp [e])
    rw [cutL, if_neg hx, cutL_miss c r (fun k => by have := h (k + 1); simpa using this)]
    rfl
theorem cutL_hit (c : UInt8) : ∀ (l : List UInt8) (i : Nat), l[i]? = some c → (∀ k, k < i → l[k]? ≠ some c) → cutL c l = l.take i :: cutL c (l.drop (i + 1))
  | [], i, h, _ => by simp at h
  | x :: r, 0, h, _ => by
    have hx : x = c := by simpa using h
    rw [cutL, if_pos hx]
    simp
  | x :: r, i + 1, h, hn => by
    have hx : x ≠ c := fun e => hn 0 (by omega) (by simp [e])
    rw [cutL, if_neg hx, cutL_hit c r i (by simpa using h) (fun k hk => by have := hn (k + 1) (by omega); simpa using this)]
    simp [headC]
/-- the library's pieces are these -/
theorem splitB_cut (c : UInt8) : ∀ (n : Nat) (s : ByteArray), s.size ≤ n → (Lib.splitB ⟨#[c]⟩ 0 (Lib.countB s ⟨#[c]⟩) s).map (·.data.toList) = cutL c s.data.toList := by
  intro n
  induction n with
  | zero =>
    intro s hs
    rcases Lib.indexB_cases s ⟨#[c]⟩ with h | ⟨i, h, hi⟩
    · rw [Lib.splitB_miss _ _ _ _ h]
      have h' : Lib.index s.data.toList [c] = -1 := h
      rw [Lib.index_one] at h'
      rw [cutL_miss c _ (Lib.indexByte_none h')]
      rfl
    · have : (⟨#[c]⟩ : ByteArray).size = 1 := rfl
      omega
  | succ n ih =>
    intro s hs
    rcases Lib.indexB_cases s ⟨#[c]⟩ with h | ⟨i, h, hi⟩
    · rw [Lib.splitB_miss _ _ _ _ h]
      have h' : Lib.index s.data.toList [c] = -1 := h
      rw [Lib.index_one] at h'
      rw [cutL_miss c _ (Lib.indexByte_none h')]
      rfl
    · have h1 : (⟨#[c]⟩ : ByteArray).size = 1 := rfl
      rw [Lib.countB_hit s ⟨#[c]⟩ i (by rw [h1]; exact Nat.le_refl _) h, Nat.add_comm 1, Lib.splitB_hit _ _ _ _ _ h]
      have h' : Lib.index s.data.toList [c] = i := h
      rw [Lib.index_one] at h'
      obtain ⟨ha, hb⟩ := Lib.indexByte_some h'
      rw [cutL_hit c _ i ha hb]
      have hz : (s.extract (i + (⟨#[c]⟩ : ByteArray).size) s.size).size ≤ n := by rw [ByteArray.size_extract, h1]; omega
      have e1 : (s.extract (i + (⟨#[c]⟩ : ByteArray).size) s.size).data.toList = s.data.toList.drop (i + 1) := by
        rw [h1, Lib.extract_to_end]
      have e2 : (s.extract 0 (i + 0)).data.toList = s.data.toList.take i := by simp
      rw [List.map_cons, ih _ hz, e1, e2]
/-- the pieces joined again -/
def joinL (c : UInt8) : List (List UInt8) → List UInt8
  | [] => []
  | [p] => p
  | p :: q :: r => p ++ c :: joinL c (q :: r)
theorem joinL_head (c x : UInt8) (q : List (List UInt8)) (h : q ≠ []) : joinL c (headC x q) = x :: joinL c q := by
  cases q with
  | nil => exact absurd rfl h
  | cons a b => cases b <;> simp [headC, joinL]
theorem joinL_nil (c : UInt8) (q : List (List UInt8)) (h : q ≠ []) : joinL c ([] :: q) = c :: joinL c q := by
  cases q with
  | nil => exact absurd rfl h
  | cons a b => simp [joinL]
theorem joinL_cut (c : UInt8) : ∀ l : List UInt8, joinL c (cutL c l) = l
  | [] => rfl
  | x :: r => by
    unfold cutL
    split
    · rename_i h
      rw [joinL_nil c _ (cutL_ne c r), joinL_cut c r, h]
    · rw [joinL_head c x _ (cutL_ne c r), joinL_cut c r]
theorem cutL_app (c : UInt8) (p r : List UInt8) (h : c ∉ p) : cutL c (p ++ c :: r) = p :: cutL c r := by
  induction p with
  | nil => simp [cutL]
  | cons x p ih =>
    have hx : x ≠ c := fun e => h (by simp [e])
    rw [List.cons_append, cutL, if_neg hx, ih (fun hm => h (List.mem_cons_of_mem _ hm))]
    rfl
theorem cutL_one (c : UInt8) (p : List UInt8) (h : c ∉ p) : cutL c p = [p] :=
  cutL_miss c p fun _ hk => h (List.mem_of_getElem? hk)
/-! ### numbers -/
def negL (l : List UInt8) : Bool := l.head? == some 45
def digL (l : List UInt8) : List UInt8 := if negL l then l.tail else l
def okD (c : UInt8) : Bool := decide (48 ≤ c.toNat) && decide (c.toNat ≤ 57)
def stepD (a : Nat) (c : UInt8) : Nat := 10 * a + (c.toNat - 48)
def valD (a : Nat) (l : List UInt8) : Nat := l.foldl stepD a
def fineD (l : List UInt8) : Bool :=
  decide (1 ≤ (digL l).length) && decide ((digL l).length ≤ 17) && !((digL l).head? == some 48 && (decide (1 < (digL l).length) || negL l))
/-- what a piece says as a number -/
def pn (l : List UInt8) : Int × Bool :=
  if fineD l && (digL l).all okD then (if negL l then -(valD 0 (digL l) : Int) else valD 0 (digL l), true) else (0, false)
theorem valD_nil (a : Nat) : valD a [] = a := List.foldl_nil
theorem valD_cons (a : Nat) (c : UInt8) (r : List UInt8) : valD a (c :: r) = valD (10 * a + (c.toNat - 48)) r := by unfold valD; rw [List.foldl_cons]; unfold stepD; exact Eq.refl _
theorem valD_app (a : Nat) (l : List UInt8) (c : UInt8) : valD a (l ++ [c]) = 10 * valD a l + (c.toNat - 48) := by
  induction l generalizing a with
  | nil => rw [List.nil_append, valD_cons, valD_nil, valD_nil]
  | cons x l ih => rw [List.cons_append, valD_cons, ih, valD_cons]
theorem valD_lt (l : List UInt8) (h : l.all okD = true) : valD 0 l < 10 ^ l.length := by
  suffices ∀ a, valD a l < (a + 1) * 10 ^ l.length by simpa using this 0
  induction l with
  | nil => intro a; rw [valD_nil]; simp
  | cons x l ih =>
    intro a
    simp only [List.all_cons, Bool.and_eq_true] at h
    have hx : x.toNat ≤ 57 := by have := h.1; unfold okD at this; simp at this; exact this.2
    have := ih h.2 (10 * a + (x.toNat - 48))
    rw [valD_cons, List.length_cons]
    refine Nat.lt_of_lt_of_le this ?_
    rw [Nat.pow_succ, Nat.mul_comm (10 ^ l.length) 10, ← Nat.mul_assoc]
    exact Nat.mul_le_mul_right _ (by omega)
theorem valD_ge (a : Nat) (l : List UInt8) : a ≤ valD a l := by
  induction l generalizing a with
  | nil => rw [valD_nil]; exact Nat.le_refl _
  | cons x l ih => rw [valD_cons]; exact Nat.le_trans (by omega) (ih _)
theorem valD_pos (x : UInt8) (l : List UInt8) (hx : okD x = true) (h : x ≠ 48) : 1 ≤ valD 0 (x :: l) := by
  unfold okD at hx
  simp at hx
  have h48 : x.toNat ≠ 48 := fun e => h (UInt8.toNat_inj.1 e)
  rw [valD_cons]
  exact Nat.le_trans (by omega) (valD_ge _ l)
theorem okD_char (c : UInt8) (h : okD c = true) : UInt8.ofNat (48 + (c.toNat - 48)) = c := by
  unfold okD at h
  simp at h
  rw [show 48 + (c.toNat - 48) = c.toNat by omega]
  simp
theorem dec_val (n : Nat) : ∀ l : List UInt8, l.length = n → l.all okD = true → 1 ≤ l.length → (l.head? ≠ some 48 ∨ l.length = 1) → Lib.decDigits (valD 0 l) = l := by
  induction n with
  | zero => intro l hl _ h1 _; omega
  | succ n ih =>
    intro l hl ha _ hh
    obtain ⟨l', c, rfl⟩ : ∃ l' c, l = l' ++ [c] := by
      have hne : l ≠ [] := fun e => by rw [e] at hl; simp at hl
      exact ⟨l.dropLast, l.getLast hne, (List.dropLast_concat_getLast hne).symm⟩
    simp only [List.all_append, List.all_cons, List.all_nil, Bool.and_true, Bool.and_eq_true] at ha
    have hcc := ha.2
    unfold okD at hcc
    simp at hcc
    rw [valD_app]
    cases l' with
    | nil =>
      rw [valD_nil, List.nil_append, Nat.mul_zero, Nat.zero_add, Lib.decDigits, dif_pos (by omega), okD_char c ha.2]
    | cons x l' =>
      have hx : x ≠ 48 := by
        rcases hh with h | h
        · intro e; exact h (by simp [e])
        · simp at h
      have hpos := valD_pos x l' (by have := ha.1; simp at this; exact this.1) hx
      have hlen : (x :: l').length = n := by simp at hl ⊢; omega
      have := ih (x :: l') hlen ha.1 (by simp) (.inl (by simp [hx]))
      rw [Lib.decDigits, dif_neg (by omega), show (10 * valD 0 (x :: l') + (c.toNat - 48)) / 10 = valD 0 (x :: l') by omega, this,
        show (10 * valD 0 (x :: l') + (c.toNat - 48)) % 10 = c.toNat - 48 by omega, okD_char c ha.2]
/-- a piece that is a number, not below 0, is that number's digits -/
theorem pn_dec (l : List UInt8) (h : (pn l).2 = true) (h0 : 0 ≤ (pn l).1) : Lib.decDigits (pn l).1.toNat = l := by
  unfold pn at h h0 ⊢
  split at h
  · rename_i hf
    rw [if_pos hf] at h0
    rw [if_pos hf]
    rw [Bool.and_eq_true] at hf
    obtain ⟨hf, ha⟩ := hf
    unfold fineD at hf
    simp only [Bool.and_eq_true, decide_eq_true_eq, Bool.not_eq_true'] at hf
    obtain ⟨⟨h1, h2⟩, h3⟩ := hf
    cases hn : negL l with
    | true =>
      rw [hn] at h0 h3
      exfalso
      cases hd : digL l with
      | nil => rw [hd] at h1; simp at h1
      | cons x r =>
        rw [hd] at h3 ha h0
        have hx : x ≠ 48 := by
          intro e
          rw [e] at h3
          simp at h3
        have := valD_pos x r (by simp at ha; exact ha.1) hx
        simp only [if_pos] at h0
        omega
    | false =>
      rw [hn] at h3
      have hd : digL l = l := by unfold digL; rw [hn]; rfl
      rw [hd] at h1 h3 ha ⊢
      simp only [Bool.false_eq_true, if_false, Int.toNat_natCast]
      refine dec_val _ l rfl ha h1 ?_
      by_cases hl : l.length = 1
      · exact .inr hl
      · left
        intro e
        rw [e] at h3
        simp at h3
        omega
  · cases h
/-- the digits of a number below 1000 -/
def dd (n : Nat) : List UInt8 :=
  if n < 10 then [UInt8.ofNat (48 + n)] else if n < 100 then [UInt8.ofNat (48 + n / 10), UInt8.ofNat (48 + n % 10)] else [UInt8.ofNat (48 + n / 100), UInt8.ofNat (48 + n / 10 % 10), UInt8.ofNat (48 + n % 10)]
theorem dec_dd (n : Nat) (h : n < 1000) : Lib.decDigits n = dd n := by
  unfold dd
  split
  · rename_i h1; exact Lib.decDigits_one h1
  · rename_i h1
    split
    · rename_i h2; exact Lib.decDigits_two h1 h2
    · rename_i h2
      rw [Lib.decDigits, dif_neg h1, Lib.decDigits_two (by omega) (by omega), show n / 10 / 10 = n / 100 by omega]
      rfl
set_option maxRecDepth 100000 in
theorem pn_dd : ∀ n : Nat, n < 256 → pn (dd n) = ((n : Int), true) ∧ (32 : UInt8) ∉ dd n := by decide +kernel
theorem pn_of_dec (n : Nat) (h : n < 256) : pn (Lib.decDigits n) = ((n : Int), true) ∧ (32 : UInt8) ∉ Lib.decDigits n := by
  rw [dec_dd n (by omega)]
  exact pn_dd n h
/-- the text of three numbers is its pieces exactly if the pieces are numbers -/
theorem text_iff (l p q r : List UInt8) (h : cutL 32 l = [p, q, r]) (a b c : Nat) (ha : a < 256) (hb : b < 256) (hc : c < 256)
    (ea : (pn p).1 = a) (eb : (pn q).1 = b) (ec : (pn r).1 = c) :
    (Lib.decDigits a ++ 32 :: (Lib.decDigits b ++ 32 :: Lib.decDigits c) = l) ↔ ((pn p).2 = true ∧ (pn q).2 = true ∧ (pn r).2 = true) := by
  constructor
  · intro e
    rw [← e, cutL_app _ _ _ (pn_of_dec a ha).2, cutL_app _ _ _ (pn_of_dec b hb).2, cutL_one _ _ (pn_of_dec c hc).2] at h
    simp only [List.cons.injEq, and_true] at h
    obtain ⟨rfl, rfl, rfl⟩ := h
    rw [(pn_of_dec a ha).1, (pn_of_dec b hb).1, (pn_of_dec c hc).1]
    exact ⟨rfl, rfl, rfl⟩
  · rintro ⟨h1, h2, h3⟩
    have k1 := pn_dec p h1 (by rw [ea]; omega)
    have k2 := pn_dec q h2 (by rw [eb]; omega)
    have k3 := pn_dec r h3 (by rw [ec]; omega)
    rw [ea, Int.toNat_natCast] at k1
    rw [eb, Int.toNat_natCast] at k2
    rw [ec, Int.toNat_natCast] at k3
    rw [k1, k2, k3, ← joinL_cut 32 l, h]
    rfl
end SS
