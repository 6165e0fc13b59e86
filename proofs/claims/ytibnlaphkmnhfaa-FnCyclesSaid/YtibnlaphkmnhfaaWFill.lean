/- Contracts of the functions that write sequences letter by letter. -/
import Derived.Test.YtibnlaphkmnhfaaWMake
import Derived.Test.YtibnlaphkmnhfaaWSeq
namespace Go.Proofs.Ytibnlaphkmnhfaa
open Go.RowKit SS
set_option maxRecDepth 100000

/-- letters as a string -/
def bs (l : List UInt8) : ByteArray := ⟨l.toArray⟩
theorem bs_list (l : List UInt8) : (bs l).data.toList = l := rfl
theorem bs_size (l : List UInt8) : (bs l).size = l.length := by rw [← size_list, bs_list]
theorem bs_data (s : ByteArray) : bs s.data.toList = s := rfl
theorem at_ba (s : ByteArray) (k : Nat) (h : k < s.size) : at_ s.data.toList k = s[k] := by
  rw [at_eq _ _ (by rw [size_list]; exact h), byte_at s k h]
theorem ba_bit (s : ByteArray) (hs : okB s.data.toList = true) (k : Nat) (h : k < s.size) : s[k].toNat = 48 ∨ s[k].toNat = 49 := by
  rw [byte_at s k h]
  exact okB_at _ hs k (by rw [size_list]; exact h)
theorem u8_inj {c d : UInt8} (h : c.toNat = d.toNat) : c = d := UInt8.toNat_inj.1 h
theorem bx_val (c d : UInt8) (p q : Nat) (hc : c.toNat = p) (hd : d.toNat = q) : ((bx c d).toNat : Int) = if p = q then 48 else 49 := by
  unfold bx
  by_cases h : c = d
  · rw [if_pos h, if_pos (by rw [← hc, ← hd, h])]; rfl
  · rw [if_neg h, if_neg (fun e => h (u8_inj (by omega)))]; rfl
theorem xor_u8 (a b : Nat) (ha : a < 256) (hb : b < 256) : bits .xor .u8 (a : Int) (b : Int) = ((a ^^^ b : Nat) : Int) := by
  have ha' : a % 2 ^ 8 = a := Nat.mod_eq_of_lt (by omega)
  have hb' : b % 2 ^ 8 = b := Nat.mod_eq_of_lt (by omega)
  have hx : a ^^^ b < 2 ^ 8 := Nat.xor_lt_two_pow (by omega) (by omega)
  have h := IntKind.wrap_u8 (((a ^^^ b : Nat) : Nat) : Int)
  simp only [bits, BitVec.ofInt_natCast, BitVec.toNat_xor, BitVec.toNat_ofNat]
  rw [show IntKind.u8.bits = 8 from rfl, ha', hb', h]
  omega
theorem xor_zero {a b : Nat} (h : a ^^^ b = 0) : a = b := by
  have k : (a ^^^ b) ^^^ b = a := by rw [Nat.xor_assoc, Nat.xor_self, Nat.xor_zero]
  rw [h, Nat.zero_xor] at k
  exact k.symm
set_option maxHeartbeats 1000000 in
theorem sum_impl (a b : ByteArray) (w : World) (hl : a.size = b.size) (h2 : a.size ≤ 255) (ha : okB a.data.toList = true) (hb : okB b.data.toList = true) :
    Calls Try.prog 63 #[.string a, .string b] w fun e w' => e = .returned (.string (bs (addL a.data.toList b.data.toList))) ∧ Below w.heap.size w w' := by
  have HA := Lib.hid ha
  have HB := Lib.hid hb
  have HL := Lib.hid hl
  have hlb : b.size ≤ 255 := by omega
  have hab : a.size ≤ b.size := by omega
  clear ha hb hl
  have hmk := makeBytes a.size (by omega)
  generalize hM : madeCells #[.int .u8 0] a.size = M at hmk
  have HM := Lib.hid hM
  clear hM
  have r1 := BB.new w 5 a.size
  rw [HM.out] at r1
  have hw1 := (Below.refl w.heap.size w).alloc (Nat.le_refl _) (.cells M 5)
  go_enter Try.func63, Try.ntmps63
  go_wp2_with fail
  go_loopw [12] (fun i wr => ∃ j : Nat, j ≤ a.size ∧ i = .int .i64 (j : Int) ∧ BB wr w.heap.size 5 (fil (fun i => bx (at_ a.data.toList i) (at_ b.data.toList i)) a.size j) ∧ Below w.heap.size w wr) (fun i _ => a.size - (intOf i).toNat)
  case atStart => exact ⟨0, Nat.zero_le _, rfl, by rw [fil_zero]; exact r1, hw1⟩
  case round =>
    clear r1 hw1
    obtain ⟨j, hj, rfl, r1, hwr⟩ := hrel
    by_cases hlt : j < a.size
    · have hlt2 : j < b.size := by omega
      have F := Lib.hid (fun v => r1.drew.fill hlt v)
      have E8 := Lib.hid (bx_val _ _ _ _ (congrArg UInt8.toNat (at_ba a j hlt)) (congrArg UInt8.toNat (at_ba b j hlt2)))
      have hx := xor_u8 a[j].toNat b[j].toNat (UInt8.toNat_lt _) (UInt8.toNat_lt _)
      have hwx : IntKind.i64.wrap ((a[j].toNat ^^^ b[j].toNat : Nat) : Int) = ((a[j].toNat ^^^ b[j].toNat : Nat) : Int) := by
        have hq : a[j].toNat ^^^ b[j].toNat < 2 ^ 8 := Nat.xor_lt_two_pow (UInt8.toNat_lt _) (UInt8.toNat_lt _)
        rw [IntKind.wrap_i64]; omega
      have EX : Hid (bv8 (a[j].toNat ^^^ b[j].toNat) = if a[j].toNat = b[j].toNat then 48 else 49) := by
        show _ = _
        unfold bv8
        by_cases e : a[j].toNat = b[j].toNat
        · rw [if_pos e, e, Nat.xor_self, if_pos rfl]
        · rw [if_neg e, if_neg (fun h => e (xor_zero h))]
      have f3 := r1.frozen j
      obtain ⟨old, ho⟩ := fill_some r1 hlt
      go_wp2_with fail
      refine still_rest 12 (by kernel_rfl) (by kernel_rfl) fun W HW => ?_
      simp only [List.take_succ_cons, List.take_zero, List.drop_succ_cons, List.drop_zero]
      repeat still_step
      still_call ((bitOf_any _ _).mono fun _ _ ⟨a, b⟩ => ⟨a, b.symm⟩)
      repeat still_step
      refine wpStill_nil ?_
      obtain rfl := HW.out
      go_wp2
      go_roundw
      case rel => exact ⟨j + 1, by omega, by go_num, F.out _ (by rw [EX.out]; exact E8.out), hwr.drew.setCell (by simp) _⟩
      case measure => simp [intOf]; omega
    · obtain rfl : j = a.size := by omega
      rw [fil_all] at r1
      have hcv := r1.conv (P := Try.prog) 22 9 a.size a.size Try.underlying22 Try.underlying5 Try.underlying9 (by simp)
      go_wp2
      go_ret
      exact ⟨by rw [addL, size_list]; rfl, hwr⟩
set_option maxHeartbeats 1000000 in
theorem add_spec (a b : ByteArray) (w : World) (hl : a.size = b.size) (h2 : a.size ≤ 255) (ha : okB a.data.toList = true) (hb : okB b.data.toList = true) :
    Calls Try.prog 65 #[.string a, .string b] w fun e w' => e = .returned (.string (bs (addL a.data.toList b.data.toList))) ∧ Below w.heap.size w w' := by
  have HA := Lib.hid ha
  have HB := Lib.hid hb
  have HL := Lib.hid hl
  have hlb : b.size ≤ 255 := by omega
  have hab : a.size ≤ b.size := by omega
  clear ha hb hl
  have hmk := makeBytes a.size (by omega)
  generalize hM : madeCells #[.int .u8 0] a.size = M at hmk
  have HM := Lib.hid hM
  clear hM
  have r1 := BB.new w 5 a.size
  rw [HM.out] at r1
  have hw1 := (Below.refl w.heap.size w).alloc (Nat.le_refl _) (.cells M 5)
  go_enter Try.func65, Try.ntmps65
  go_wp2_with fail
  go_loopw [6] (fun i wr => ∃ j : Nat, j ≤ a.size ∧ i = .int .i64 (j : Int) ∧ BB wr w.heap.size 5 (fil (fun i => bx (at_ a.data.toList i) (at_ b.data.toList i)) a.size j) ∧ Below w.heap.size w wr) (fun i _ => a.size - (intOf i).toNat)
  case atStart => exact ⟨0, Nat.zero_le _, rfl, by rw [fil_zero]; exact r1, hw1⟩
  case round =>
    clear r1 hw1
    obtain ⟨j, hj, rfl, r1, hwr⟩ := hrel
    by_cases hlt : j < a.size
    · have hlt2 : j < b.size := by omega
      have F := Lib.hid (fun v => r1.drew.fill hlt v)
      have E8 := Lib.hid (bx_val _ _ _ _ (congrArg UInt8.toNat (at_ba a j hlt)) (congrArg UInt8.toNat (at_ba b j hlt2)))
      have f3 := r1.frozen j
      obtain ⟨old, ho⟩ := fill_some r1 hlt
      have x1 : bits .xor .u8 48 0 = 48 := by decide
      have x2 : bits .xor .u8 48 1 = 49 := by decide
      have x3 : bits .xor .u8 49 0 = 49 := by decide
      have x4 : bits .xor .u8 49 1 = 48 := by decide
      rcases ba_bit a HA.out j hlt with ea | ea <;> rcases ba_bit b HB.out j hlt2 with eb | eb
      all_goals
        rw [ea, eb] at E8
        go_wp2_with fail
        refine still_rest 13 (by kernel_rfl) (by kernel_rfl) fun W HW => ?_
        simp only [List.take_succ_cons, List.take_zero, List.drop_succ_cons, List.drop_zero]
        repeat still_step
        refine wpStill_nil ?_
        obtain rfl := HW.out
        go_wp2
        go_roundw
        case rel => exact ⟨j + 1, by omega, by go_num, F.out _ E8.out, hwr.drew.setCell (by simp) _⟩
        case measure => simp [intOf]; omega
    · obtain rfl : j = a.size := by omega
      rw [fil_all] at r1
      have hcv := r1.conv (P := Try.prog) 22 9 a.size a.size Try.underlying22 Try.underlying5 Try.underlying9 (by simp)
      go_wp2
      go_ret
      exact ⟨by rw [addL, size_list]; rfl, hwr⟩
set_option maxHeartbeats 1000000 in
theorem dec_impl (s : ByteArray) (k : Nat) (w : World) (hs : sv s.data.toList = true) (hk : k ≤ 255) :
    Calls Try.prog 56 #[.string s, .int .i64 k] w fun e w' => e = .returned (.tuple #[.string (bs (decL k s.data.toList)), .bool true]) ∧ Below w.heap.size w w' := by
  obtain ⟨h1, h2, _⟩ := sv_yes hs
  rw [size_list] at h1 h2
  have C := Lib.hid fun w => seq_impl s w (by unfold maxLen; omega)
  have k1 : decide ((k : Int) < 0) = false := by simp
  have k2 : decide (255 < (k : Int)) = false := by simp; omega
  have hmk := makeBytes s.size (by omega)
  generalize hM : madeCells #[.int .u8 0] s.size = M at hmk
  have HM := Lib.hid hM
  clear hM
  have r1 := BB.new w 5 s.size
  rw [HM.out] at r1
  have hw1 := (Below.refl w.heap.size w).alloc (Nat.le_refl _) (.cells M 5)
  go_enter Try.func56, Try.ntmps56
  go_wp2_with fail
  refine (C.out _).mono ?_
  rintro e w1 ⟨rfl, rfl⟩
  go_wp2_with fail
  go_loopw [24] (fun i wr => ∃ j : Nat, j ≤ s.size ∧ i = .int .i64 (j : Int) ∧ BB wr w.heap.size 5 (fil (fun i => at_ s.data.toList (k * i % s.size)) s.size j) ∧ Below w.heap.size w wr) (fun i _ => s.size - (intOf i).toNat)
  case atStart => exact ⟨0, Nat.zero_le _, rfl, by rw [fil_zero]; exact r1, hw1⟩
  case round =>
    clear r1 hw1
    obtain ⟨j, hj, rfl, r1, hwr⟩ := hrel
    by_cases hlt : j < s.size
    · have F := Lib.hid (fun v => r1.fill hlt v)
      have f3 := r1.frozen j
      obtain ⟨old, ho⟩ := fill_some r1 hlt
      have hz : ((s.size : Int) == 0) = false := by rw [beq_eq_false_iff_ne]; omega
      have hp0 : 0 ≤ (k : Int) * j := Int.mul_nonneg (by omega) (by omega)
      have hp1 : (k : Int) * j ≤ 65025 := by
        have : k * j ≤ 255 * 255 := Nat.mul_le_mul hk (by omega)
        rw [← Int.natCast_mul]; omega
      have hb : k * j % s.size < s.size := Nat.mod_lt _ (by omega)
      have hb0 : 0 ≤ (k : Int) * j % s.size := Int.emod_nonneg _ (by omega)
      have hb1 : (k : Int) * j % s.size < s.size := Int.emod_lt_of_pos _ (by omega)
      have E8 := Lib.hid (congrArg UInt8.toNat (at_ba s (k * j % s.size) hb))
      go_wp2
      go_roundw
      case rel => exact ⟨j + 1, by omega, by go_num, F.out _ (congrArg Nat.cast E8.out), hwr.setCell (by simp) _⟩
      case measure => simp [intOf]; omega
    · obtain rfl : j = s.size := by omega
      rw [fil_all] at r1
      have hcv := r1.conv (P := Try.prog) 22 9 s.size s.size Try.underlying22 Try.underlying5 Try.underlying9 (by simp)
      go_wp2
      go_ret2
      exact ⟨by rw [decL, size_list]; rfl, hwr⟩
theorem dec_impl_no (s : ByteArray) (k : Int) (w : World) (hl : s.size ≤ maxLen) (hs : sv s.data.toList = false ∨ k < 0 ∨ 255 < k) :
    Calls Try.prog 56 #[.string s, .int .i64 k] w fun e w' => e = .returned (.tuple #[.string ⟨#[]⟩, .bool false]) ∧ Below w.heap.size w w' := by
  have C := Lib.hid fun w => seq_impl s w hl
  cases hv : sv s.data.toList with
  | false =>
    clear hs
    go_enter Try.func56, Try.ntmps56
    go_wp2_with fail
    refine (C.out _).mono ?_
    rintro e w1 ⟨rfl, rfl⟩
    go_wp2
    go_ret2
    exact ⟨rfl, Below.refl _ _⟩
  | true =>
    by_cases h0 : k < 0
    · have k1 : decide (k < 0) = true := decide_eq_true h0
      clear hs
      go_enter Try.func56, Try.ntmps56
      go_wp2_with fail
      refine (C.out _).mono ?_
      rintro e w1 ⟨rfl, rfl⟩
      go_wp2
      go_ret2
      exact ⟨rfl, Below.refl _ _⟩
    · have k1 : decide (k < 0) = false := decide_eq_false h0
      have k2 : decide (255 < k) = true := decide_eq_true (by rw [hv] at hs; rcases hs with h | h | h <;> first | omega | cases h)
      clear hs
      go_enter Try.func56, Try.ntmps56
      go_wp2_with fail
      refine (C.out _).mono ?_
      rintro e w1 ⟨rfl, rfl⟩
      go_wp2
      go_ret2
      exact ⟨rfl, Below.refl _ _⟩
set_option maxHeartbeats 1000000 in
theorem srev_yes (s : ByteArray) (w : World) (hs : sv s.data.toList = true) :
    Calls Try.prog 53 #[.string s] w fun e w' => e = .returned (.tuple #[.string (bs (revL s.data.toList)), .bool true]) ∧ Below w.heap.size w w' := by
  obtain ⟨h1, h2, _⟩ := sv_yes hs
  rw [size_list] at h1 h2
  have C := Lib.hid fun w => seq_spec s w (by unfold maxLen; omega)
  have hmk := makeBytes s.size (by omega)
  generalize hM : madeCells #[.int .u8 0] s.size = M at hmk
  have HM := Lib.hid hM
  clear hM
  have r1 := BB.new w 5 s.size
  rw [HM.out] at r1
  have hw1 := (Below.refl w.heap.size w).alloc (Nat.le_refl _) (.cells M 5)
  go_enter Try.func53, Try.ntmps53
  go_wp2_with fail
  refine (C.out _).mono ?_
  rintro e w1 ⟨rfl, rfl⟩
  go_wp2_with fail
  go_loopw [5] (fun i wr => ∃ j : Nat, j ≤ s.size ∧ i = .int .i64 (j : Int) ∧ BB wr w.heap.size 5 (fil (fun i => at_ s.data.toList (s.size - 1 - i)) s.size j) ∧ Below w.heap.size w wr) (fun i _ => s.size - (intOf i).toNat)
  case atStart => exact ⟨0, Nat.zero_le _, rfl, by rw [fil_zero]; exact r1, hw1⟩
  case round =>
    clear r1 hw1
    obtain ⟨j, hj, rfl, r1, hwr⟩ := hrel
    by_cases hlt : j < s.size
    · have F := Lib.hid (fun v => r1.fill hlt v)
      have f3 := r1.frozen j
      obtain ⟨old, ho⟩ := fill_some r1 hlt
      have hb : s.size - 1 - j < s.size := by omega
      have E8 := Lib.hid (congrArg UInt8.toNat (at_ba s (s.size - 1 - j) hb))
      go_wp2
      go_roundw
      case rel => exact ⟨j + 1, by omega, by go_num, F.out _ (congrArg Nat.cast E8.out), hwr.setCell (by simp) _⟩
      case measure => simp [intOf]; omega
    · obtain rfl : j = s.size := by omega
      rw [fil_all] at r1
      have hcv := r1.conv (P := Try.prog) 22 9 s.size s.size Try.underlying22 Try.underlying5 Try.underlying9 (by simp)
      go_wp2
      go_ret2
      exact ⟨by rw [revL, size_list]; rfl, hwr⟩
theorem srev_no (s : ByteArray) (w : World) (hl : s.size ≤ 1048576) (hs : sv s.data.toList = false) :
    Calls Try.prog 53 #[.string s] w fun e w' => e = .returned (.tuple #[.string ⟨#[]⟩, .bool false]) ∧ Below w.heap.size w w' := by
  have C := Lib.hid fun w => seq_spec s w (by unfold maxLen; omega)
  have hmk := makeBytes s.size (by omega)
  generalize madeCells #[.int .u8 0] s.size = M at hmk
  have hw1 := (Below.refl w.heap.size w).alloc (Nat.le_refl _) (.cells M 5)
  go_enter Try.func53, Try.ntmps53
  go_wp2_with fail
  refine (C.out _).mono ?_
  rintro e w1 ⟨rfl, rfl⟩
  go_wp2
  go_ret2
  exact ⟨rfl, hw1⟩
theorem bn_val (c : UInt8) (p : Nat) (hc : c.toNat = p) : ((bn c).toNat : Int) = if p = 48 then 49 else 48 := by
  unfold bn
  by_cases h : c = 48
  · rw [if_pos h, if_pos (by rw [← hc, h]; rfl)]; rfl
  · rw [if_neg h, if_neg (fun e => h (u8_inj (by rw [hc, e]; rfl)))]; rfl
set_option maxHeartbeats 1000000 in
theorem changed_impl (a : ByteArray) (w : World) (h2 : a.size ≤ 255) (ha : okB a.data.toList = true) :
    Calls Try.prog 67 #[.string a] w fun e w' => e = .returned (.string (bs (invL a.data.toList))) ∧ Below w.heap.size w w' := by
  have HA := Lib.hid ha
  clear ha
  have hmk := makeBytes a.size (by omega)
  generalize hM : madeCells #[.int .u8 0] a.size = M at hmk
  have HM := Lib.hid hM
  clear hM
  have r1 := BB.new w 5 a.size
  rw [HM.out] at r1
  have hw1 := (Below.refl w.heap.size w).alloc (Nat.le_refl _) (.cells M 5)
  go_enter Try.func67, Try.ntmps67
  go_wp2_with fail
  go_loopw [10] (fun i wr => ∃ j : Nat, j ≤ a.size ∧ i = .int .i64 (j : Int) ∧ BB wr w.heap.size 5 (fil (fun i => bn (at_ a.data.toList i)) a.size j) ∧ Below w.heap.size w wr) (fun i _ => a.size - (intOf i).toNat)
  case atStart => exact ⟨0, Nat.zero_le _, rfl, by rw [fil_zero]; exact r1, hw1⟩
  case round =>
    clear r1 hw1
    obtain ⟨j, hj, rfl, r1, hwr⟩ := hrel
    by_cases hlt : j < a.size
    · have F := Lib.hid (fun v => r1.fill hlt v)
      have E8 := Lib.hid (bn_val _ _ (congrArg UInt8.toNat (at_ba a j hlt)))
      have f3 := r1.frozen j
      obtain ⟨old, ho⟩ := fill_some r1 hlt
      rcases ba_bit a HA.out j hlt with ea | ea
      all_goals
        rw [ea] at E8
        go_wp2
        go_roundw
        case rel => exact ⟨j + 1, by omega, by go_num, F.out _ E8.out, hwr.setCell (by simp) _⟩
        case measure => simp [intOf]; omega
    · obtain rfl : j = a.size := by omega
      rw [fil_all] at r1
      have hcv := r1.conv (P := Try.prog) 22 9 a.size a.size Try.underlying22 Try.underlying5 Try.underlying9 (by simp)
      go_wp2
      go_ret
      exact ⟨by rw [invL, size_list]; rfl, hwr⟩
end Go.Proofs.Ytibnlaphkmnhfaa
