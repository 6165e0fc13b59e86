/- Contracts of the functions that find the greatest correlation. -/
import Derived.Test.YtibnlaphkmnhfaaWTab
namespace Go.Proofs.Ytibnlaphkmnhfaa
open Go.RowKit SS
set_option maxRecDepth 100000
/-- the first index of the greatest of the first numbers, or -1 -/
def fg (l : List Int) : Nat → Int
  | 0 => -1
  | k + 1 => if fg l k < 0 ∨ l.getD (fg l k).toNat 0 < l.getD k 0 then (k : Int) else fg l k
theorem fg_bd (l : List Int) (k : Nat) : -1 ≤ fg l k ∧ fg l k < k ∧ (1 ≤ k → 0 ≤ fg l k) := by
  induction k with
  | zero => simp [fg]
  | succ k ih =>
    unfold fg
    split
    · omega
    · omega
theorem fg_one (l : List Int) : fg l 1 = 0 := by simp [fg]
theorem fg_up (l : List Int) (k b : Nat) (x y : Int) (hb : fg l k = (b : Int)) (hx : l[k]? = some x) (hy : l[b]? = some y) (h : y < x) : fg l (k + 1) = (k : Int) := by
  unfold fg
  rw [hb, if_pos]
  right
  simp [hx, hy, h]
theorem fg_stay (l : List Int) (k b : Nat) (x y : Int) (hb : fg l k = (b : Int)) (hx : l[k]? = some x) (hy : l[b]? = some y) (h : ¬ y < x) : fg l (k + 1) = (b : Int) := by
  unfold fg
  rw [hb, if_neg]
  rintro (h' | h')
  · omega
  · simp [hx, hy] at h'; omega
set_option maxHeartbeats 1000000 in
theorem first_impl (v : Value) (l : List Int) (w : World) (B : Nat) (h : RowI w B v l) (hl : l.length ≤ 100000) :
    Calls Try.prog 73 #[v] w fun e w' => e = .returned (.int .i64 (fg l l.length)) ∧ w = w' := by
  by_cases h0 : l = []
  · subst h0
    obtain ⟨A1, c1, rfl⟩ := h.nil
    clear h
    go_enter Try.func73, Try.ntmps73
    go_wp2
    go_loop [3, 8] (fun p i => p = .int .i64 (-1) ∧ i = .int .i64 0) (fun _ _ => 0)
    case atStart => exact ⟨rfl, rfl⟩
    case round =>
      obtain ⟨rfl, rfl⟩ := hrel
      go_wp2
      go_ret
      exact ⟨rfl, rfl⟩
  · obtain ⟨g, c, rfl, _, k1⟩ := h.form h0
    have K1 := Lib.hid k1
    clear h k1
    have hl0 : 0 < l.length := List.length_pos_iff.2 h0
    clear h0
    go_enter Try.func73, Try.ntmps73
    go_wp2
    go_loop [3, 8] (fun p i => ∃ j : Nat, ∃ b : Int, j ≤ l.length ∧ i = .int .i64 (j : Int) ∧ p = .int .i64 b ∧ b = fg l j) (fun _ i => l.length - (intOf i).toNat)
    case atStart => exact ⟨0, -1, Nat.zero_le _, rfl, rfl, rfl⟩
    case round =>
      obtain ⟨j, b, hj, rfl, rfl, hb⟩ := hrel
      have HB := Lib.hid hb
      obtain ⟨b1, b2, b3⟩ := fg_bd l j
      rw [← hb] at b1 b2 b3
      clear hb
      by_cases hlt : j < l.length
      · have c1 := K1.out j _ (List.getElem?_eq_getElem hlt)
        by_cases hj0 : j = 0
        · subst hj0
          obtain rfl : b = -1 := by omega
          clear b3
          generalize l[0] = x at c1
          go_wp2
          go_round
          case rel => exact ⟨1, 0, by omega, rfl, rfl, (fg_one l).symm⟩
          case measure => simp [intOf]; omega
        · obtain ⟨b', rfl⟩ := Int.eq_ofNat_of_zero_le (b3 (by omega))
          clear b3
          have hb' : b' < l.length := by omega
          have c2 := K1.out b' _ (List.getElem?_eq_getElem hb')
          have U := Lib.hid (fg_up l j b' l[j] l[b'] HB.out.symm (List.getElem?_eq_getElem hlt) (List.getElem?_eq_getElem hb'))
          have S := Lib.hid (fg_stay l j b' l[j] l[b'] HB.out.symm (List.getElem?_eq_getElem hlt) (List.getElem?_eq_getElem hb'))
          generalize l[j] = x at c1 U S
          generalize l[b'] = y at c2 U S
          have hd : decide ((b' : Int) < 0) = false := by simp
          by_cases hxy : y < x
          · have hd2 : decide (y < x) = true := decide_eq_true hxy
            go_wp2
            go_round
            case rel => exact ⟨j + 1, j, by omega, by go_num, by go_num, (U.out hxy).symm⟩
            case measure => simp [intOf]; omega
          · have hd2 : decide (y < x) = false := decide_eq_false hxy
            go_wp2
            go_round
            case rel => exact ⟨j + 1, b', by omega, by go_num, by go_num, (S.out hxy).symm⟩
            case measure => simp [intOf]; omega
      · obtain rfl : j = l.length := by omega
        go_wp2
        go_ret
        exact ⟨ret_int HB.out, rfl⟩
/-- the shift with the greatest correlation -/
def peak (a b : ByteArray) : Int := fg (ctab a.data.toList b.data.toList a.size) a.size
theorem peak_impl (a b : ByteArray) (w : World) (h : pv a b = true) :
    Calls Try.prog 31 #[.string a, .string b] w fun e w' => e = .returned (.int .i64 (peak a b)) ∧ Below w.heap.size w w' := by
  have C := Lib.hid fun w => ctab_impl a b w h
  have hl := ctab_length a.data.toList b.data.toList a.size
  have hs := (pv_PV h).le
  have HF : Hid (peak a b = fg (ctab a.data.toList b.data.toList a.size) (ctab a.data.toList b.data.toList a.size).length) := by show _ = _; rw [hl]; rfl
  have hl' : (ctab a.data.toList b.data.toList a.size).length ≤ 100000 := by omega
  clear hl h
  generalize ctab a.data.toList b.data.toList a.size = l at C HF hl'
  go_enter Try.func31, Try.ntmps31
  go_wp2_with fail
  refine (C.out _).mono ?_
  rintro e w1 ⟨v0, rfl, o0, h1⟩
  have r0 := Lib.hid o0.row
  clear o0
  go_wp2_with fail
  refine (first_impl v0 l _ _ r0.out hl').mono ?_
  rintro e w2 ⟨rfl, rfl⟩
  go_wp2
  go_ret
  exact ⟨ret_int HF.out.symm, h1⟩
theorem peak_impl_no (a b : ByteArray) (w : World) (ha : a.size ≤ maxLen) (hb : b.size ≤ maxLen) (h : pv a b = false) :
    Calls Try.prog 31 #[.string a, .string b] w fun e w' => e = .returned (.int .i64 (-1)) ∧ Below w.heap.size w w' := by
  have C := Lib.hid fun w => ctab_impl_no a b w ha hb h
  clear h
  go_enter Try.func31, Try.ntmps31
  go_wp2_with fail
  refine (C.out _).mono ?_
  rintro e w1 ⟨v0, rfl, o0, h1⟩
  have r0 := Lib.hid o0.row
  clear o0
  go_wp2_with fail
  refine (first_impl v0 [] _ _ r0.out (by simp)).mono ?_
  rintro e w2 ⟨rfl, rfl⟩
  go_wp2
  go_ret
  exact ⟨rfl, h1⟩
set_option maxHeartbeats 1000000 in
theorem peak_spec_of (a b : ByteArray) (l : List Int) (w : World) (hl : l.length ≤ 100000)
    (C : Hid (∀ w, Calls Try.prog 28 #[.string a, .string b] w (RetI w l))) :
    Calls Try.prog 32 #[.string a, .string b] w fun e w' => e = .returned (.int .i64 (fg l l.length)) ∧ Below w.heap.size w w' := by
  go_enter Try.func32, Try.ntmps32
  go_wp2_with fail
  refine (C.out _).mono ?_
  rintro e w1 ⟨v0, rfl, o0, h1⟩
  have h := o0.row
  clear o0 C
  by_cases h0 : l = []
  · subst h0
    obtain ⟨A1, c1, rfl⟩ := h.nil
    clear h
    go_wp2
    go_loop [6, 7] (fun p i => p = .int .i64 (-1) ∧ i = .int .i64 0) (fun _ _ => 0)
    case atStart => exact ⟨rfl, rfl⟩
    case round =>
      obtain ⟨rfl, rfl⟩ := hrel
      go_wp2
      go_ret
      exact ⟨rfl, h1⟩
  · obtain ⟨g, c, rfl, _, k1⟩ := h.form h0
    have K1 := Lib.hid k1
    clear h k1
    have hl0 : 0 < l.length := List.length_pos_iff.2 h0
    clear h0
    go_wp2
    go_loopw [6, 7] (fun p i wr => ∃ j n : Nat, ∃ b : Int, j ≤ l.length ∧ i = .int .i64 (j : Int) ∧ p = .int .i64 b ∧ b = fg l j ∧ wr = w1.drewN n) (fun _ i _ => l.length - (intOf i).toNat)
    case atStart => exact ⟨0, 0, -1, Nat.zero_le _, rfl, rfl, rfl, rfl⟩
    case round =>
      obtain ⟨j, n, b, hj, rfl, rfl, hb, rfl⟩ := hrel
      have HB := Lib.hid hb
      obtain ⟨b1, b2, b3⟩ := fg_bd l j
      rw [← hb] at b1 b2 b3
      clear hb
      by_cases hlt : j < l.length
      · have c1 := K1.out j _ (List.getElem?_eq_getElem hlt)
        by_cases hj0 : j = 0
        · subst hj0
          obtain rfl : b = -1 := by omega
          clear b3
          generalize l[0] = x at c1
          have hd : decide ((-1 : Int) < 0) = true := by decide
          go_wp2_with fail
          go_quiet (fail)
          go_wp2
          go_roundw
          case rel => exact ⟨1, _, 0, by omega, rfl, rfl, (fg_one l).symm, rfl⟩
          case measure => simp [intOf]; omega
        · obtain ⟨b', rfl⟩ := Int.eq_ofNat_of_zero_le (b3 (by omega))
          clear b3
          have hb' : b' < l.length := by omega
          have c2 := K1.out b' _ (List.getElem?_eq_getElem hb')
          have U := Lib.hid (fg_up l j b' l[j] l[b'] HB.out.symm (List.getElem?_eq_getElem hlt) (List.getElem?_eq_getElem hb'))
          have S := Lib.hid (fg_stay l j b' l[j] l[b'] HB.out.symm (List.getElem?_eq_getElem hlt) (List.getElem?_eq_getElem hb'))
          generalize l[j] = x at c1 U S
          generalize l[b'] = y at c2 U S
          have hd : decide ((b' : Int) < 0) = false := by simp
          by_cases hxy : y < x
          · have hd2 : decide (y < x) = true := decide_eq_true hxy
            go_wp2_with fail
            go_quiet (fail)
            go_wp2
            go_roundw
            case rel => exact ⟨j + 1, _, j, by omega, by go_num, by go_num, (U.out hxy).symm, rfl⟩
            case measure => simp [intOf]; omega
          · have hd2 : decide (y < x) = false := decide_eq_false hxy
            go_wp2_with fail
            go_quiet (fail)
            go_wp2
            go_roundw
            case rel => exact ⟨j + 1, _, b', by omega, by go_num, by go_num, (S.out hxy).symm, rfl⟩
            case measure => simp [intOf]; omega
      · obtain rfl : j = l.length := by omega
        go_wp2
        go_ret
        exact ⟨ret_int HB.out, below_drews h1 n⟩
theorem peak_spec (a b : ByteArray) (w : World) (h : pv a b = true) :
    Calls Try.prog 32 #[.string a, .string b] w fun e w' => e = .returned (.int .i64 (peak a b)) ∧ Below w.heap.size w w' := by
  have hl := ctab_length a.data.toList b.data.toList a.size
  have hs := (pv_PV h).le
  have := peak_spec_of a b (ctab a.data.toList b.data.toList a.size) w (by omega) (Lib.hid fun w => ctab_spec a b w h)
  rw [hl] at this
  exact this
theorem peak_spec_no (a b : ByteArray) (w : World) (ha : a.size ≤ maxLen) (hb : b.size ≤ maxLen) (h : pv a b = false) :
    Calls Try.prog 32 #[.string a, .string b] w fun e w' => e = .returned (.int .i64 (-1)) ∧ Below w.heap.size w w' :=
  peak_spec_of a b [] w (by simp) (Lib.hid fun w => ctab_spec_no a b w ha hb h)
end Go.Proofs.Ytibnlaphkmnhfaa
