/- Contracts of the functions that write sequences letter by letter. -/
import Derived.Test.YtgmagocpacpafaaWMake
import Derived.Test.YtgmagocpacpafaaWSeq
namespace Go.Proofs.Ytgmagocpacpafaa
open Go.RowKit SS
set_option maxRecDepth 100000

/-- letters as a string -/
def bs (l : List UInt8) : ByteArray := ⟨l.toArray⟩
theorem bs_list (l : List UInt8) : (bs l).data.toList = l := rfl
theorem bs_size (l : List UInt8) : (bs l).size = l.length := by rw [← size_list, bs_list]
theorem bs_data (s : ByteArray) : bs s.data.toList = s := rfl
theorem at_ba (s : ByteArray) (k : Nat) (h : k < s.size) : at_ s.data.toList k = s[k] := by
  rw [at_eq _ _ (by rw [size_list]; exact h), byte_at s k h]
theorem ba_bit (s : ByteArray) (hs : okB s.data.toList = true) (k : Nat) (h : k < s.size) : s[k].toNat = 48 ∨ s[k].toNat = 49 := by
  rw [byte_at s k h]
  exact okB_at _ hs k (by rw [size_list]; exact h)
theorem u8_inj {c d : UInt8} (h : c.toNat = d.toNat) : c = d := UInt8.toNat_inj.1 h
theorem bx_val (c d : UInt8) (p q : Nat) (hc : c.toNat = p) (hd : d.toNat = q) : ((bx c d).toNat : Int) = if p = q then 48 else 49 := by
  unfold bx
  by_cases h : c = d
  · rw [if_pos h, if_pos (by rw [← hc, ← hd, h])]; rfl
  · rw [if_neg h, if_neg (fun e => h (u8_inj (by omega)))]; rfl
theorem xor_u8 (a b : Nat) (ha : a < 256) (hb : b < 256) : bits .xor .u8 (a : Int) (b : Int) = ((a ^^^ b : Nat) : Int) := by
  have ha' : a % 2 ^ 8 = a := Nat.mod_eq_of_lt (by omega)
  have hb' : b % 2 ^ 8 = b := Nat.mod_eq_of_lt (by omega)
  have hx : a ^^^ b < 2 ^ 8 := Nat.xor_lt_two_pow (by omega) (by omega)
  have h := IntKind.wrap_u8 (((a ^^^ b : Nat) : Nat) : Int)
  simp only [bits, BitVec.ofInt_natCast, BitVec.toNat_xor, BitVec.toNat_ofNat]
  rw [show IntKind.u8.bits = 8 from rfl, ha', hb', h]
  omega
theorem xor_zero {a b : Nat} (h : a ^^^ b = 0) : a = b := by
  have k : (a ^^^ b) ^^^ b = a := by rw [Nat.xor_assoc, Nat.xor_self, Nat.xor_zero]
  rw [h, Nat.zero_xor] at k
  exact k.symm
set_option maxHeartbeats 1000000 in
theorem dec_impl (s : ByteArray) (k : Nat) (w : World) (hs : sv s.data.toList = true) (hk : k ≤ 255) :
    Calls Try.prog 43 #[.string s, .int .i64 k] w fun e w' => e = .returned (.tuple #[.string (bs (decL k s.data.toList)), .bool true]) ∧ Below w.heap.size w w' := by
  obtain ⟨h1, h2, _⟩ := sv_yes hs
  rw [size_list] at h1 h2
  have C := Lib.hid fun w => seq_impl s w (by unfold maxLen; omega)
  have k1 : decide ((k : Int) < 0) = false := by simp
  have k2 : decide (255 < (k : Int)) = false := by simp; omega
  have hmk := makeBytes s.size (by omega)
  generalize hM : madeCells #[.int .u8 0] s.size = M at hmk
  have HM := Lib.hid hM
  clear hM
  have r1 := BB.new w 5 s.size
  rw [HM.out] at r1
  have hw1 := (Below.refl w.heap.size w).alloc (Nat.le_refl _) (.cells M 5)
  go_enter Try.func43, Try.ntmps43
  go_wp2_with fail
  refine (C.out _).mono ?_
  rintro e w1 ⟨rfl, rfl⟩
  go_wp2_with fail
  go_loopw [24] (fun i wr => ∃ j : Nat, j ≤ s.size ∧ i = .int .i64 (j : Int) ∧ BB wr w.heap.size 5 (fil (fun i => at_ s.data.toList (k * i % s.size)) s.size j) ∧ Below w.heap.size w wr) (fun i _ => s.size - (intOf i).toNat)
  case atStart => exact ⟨0, Nat.zero_le _, rfl, by rw [fil_zero]; exact r1, hw1⟩
  case round =>
    clear r1 hw1
    obtain ⟨j, hj, rfl, r1, hwr⟩ := hrel
    by_cases hlt : j < s.size
    · have F := Lib.hid (fun v => r1.fill hlt v)
      have f3 := r1.frozen j
      obtain ⟨old, ho⟩ := fill_some r1 hlt
      have hz : ((s.size : Int) == 0) = false := by rw [beq_eq_false_iff_ne]; omega
      have hp0 : 0 ≤ (k : Int) * j := Int.mul_nonneg (by omega) (by omega)
      have hp1 : (k : Int) * j ≤ 65025 := by
        have : k * j ≤ 255 * 255 := Nat.mul_le_mul hk (by omega)
        rw [← Int.natCast_mul]; omega
      have hb : k * j % s.size < s.size := Nat.mod_lt _ (by omega)
      have hb0 : 0 ≤ (k : Int) * j % s.size := Int.emod_nonneg _ (by omega)
      have hb1 : (k : Int) * j % s.size < s.size := Int.emod_lt_of_pos _ (by omega)
      have E8 := Lib.hid (congrArg UInt8.toNat (at_ba s (k * j % s.size) hb))
      go_wp2
      go_roundw
      case rel => exact ⟨j + 1, by omega, by go_num, F.out _ (congrArg Nat.cast E8.out), hwr.setCell (by simp) _⟩
      case measure => simp [intOf]; omega
    · obtain rfl : j = s.size := by omega
      rw [fil_all] at r1
      have hcv := r1.conv (P := Try.prog) 22 9 s.size s.size Try.underlying22 Try.underlying5 Try.underlying9 (by simp)
      go_wp2
      go_ret2
      exact ⟨by rw [decL, size_list]; rfl, hwr⟩
theorem dec_impl_no (s : ByteArray) (k : Int) (w : World) (hl : s.size ≤ maxLen) (hs : sv s.data.toList = false ∨ k < 0 ∨ 255 < k) :
    Calls Try.prog 43 #[.string s, .int .i64 k] w fun e w' => e = .returned (.tuple #[.string ⟨#[]⟩, .bool false]) ∧ Below w.heap.size w w' := by
  have C := Lib.hid fun w => seq_impl s w hl
  cases hv : sv s.data.toList with
  | false =>
    clear hs
    go_enter Try.func43, Try.ntmps43
    go_wp2_with fail
    refine (C.out _).mono ?_
    rintro e w1 ⟨rfl, rfl⟩
    go_wp2
    go_ret2
    exact ⟨rfl, Below.refl _ _⟩
  | true =>
    by_cases h0 : k < 0
    · have k1 : decide (k < 0) = true := decide_eq_true h0
      clear hs
      go_enter Try.func43, Try.ntmps43
      go_wp2_with fail
      refine (C.out _).mono ?_
      rintro e w1 ⟨rfl, rfl⟩
      go_wp2
      go_ret2
      exact ⟨rfl, Below.refl _ _⟩
    · have k1 : decide (k < 0) = false := decide_eq_false h0
      have k2 : decide (255 < k) = true := decide_eq_true (by rw [hv] at hs; rcases hs with h | h | h <;> first | omega | cases h)
      clear hs
      go_enter Try.func43, Try.ntmps43
      go_wp2_with fail
      refine (C.out _).mono ?_
      rintro e w1 ⟨rfl, rfl⟩
      go_wp2
      go_ret2
      exact ⟨rfl, Below.refl _ _⟩
set_option maxHeartbeats 1000000 in
theorem sdec_yes (s : ByteArray) (k : Nat) (w : World) (hs : sv s.data.toList = true) (hk : k ≤ 255) :
    Calls Try.prog 44 #[.string s, .int .i64 k] w fun e w' => e = .returned (.tuple #[.string (bs (decL k s.data.toList)), .bool true]) ∧ Below w.heap.size w w' := by
  obtain ⟨h1, h2, _⟩ := sv_yes hs
  rw [size_list] at h1 h2
  have C := Lib.hid fun w => seq_spec s w (by unfold maxLen; omega)
  have k1 : decide (0 ≤ (k : Int) ∧ (k : Int) ≤ 255) = true := decide_eq_true (by omega)
  have hmk := makeBytes s.size (by omega)
  generalize hM : madeCells #[.int .u8 0] s.size = M at hmk
  have HM := Lib.hid hM
  clear hM
  have r1 := BB.new w 5 s.size
  rw [HM.out] at r1
  have hw1 := (Below.refl w.heap.size w).alloc (Nat.le_refl _) (.cells M 5)
  have D : Hid (∀ w, Calls Try.prog 73 #[.int .i64 k, .int .i64 0, .int .i64 255] w fun e w' => e = .returned (.bool true) ∧ w = w') := by
    show ∀ w, _
    intro w
    have h := in_spec k 0 255 w
    rw [k1] at h
    exact h
  clear k1
  go_enter Try.func44, Try.ntmps44
  go_wp2_with fail
  refine (C.out _).mono ?_
  rintro e w1 ⟨rfl, rfl⟩
  go_wp2_with fail
  refine (D.out _).mono ?_
  rintro e w1 ⟨rfl, rfl⟩
  go_wp2_with fail
  go_loopw [7] (fun i wr => ∃ j : Nat, j ≤ s.size ∧ i = .int .i64 (j : Int) ∧ BB wr w.heap.size 5 (fil (fun i => at_ s.data.toList (k * i % s.size)) s.size j) ∧ Below w.heap.size w wr) (fun i _ => s.size - (intOf i).toNat)
  case atStart => exact ⟨0, Nat.zero_le _, rfl, by rw [fil_zero]; exact r1, hw1⟩
  case round =>
    clear r1 hw1
    obtain ⟨j, hj, rfl, r1, hwr⟩ := hrel
    by_cases hlt : j < s.size
    · have F := Lib.hid (fun v => r1.fill hlt v)
      have f3 := r1.frozen j
      obtain ⟨old, ho⟩ := fill_some r1 hlt
      have hz : ((s.size : Int) == 0) = false := by rw [beq_eq_false_iff_ne]; omega
      have hp0 : 0 ≤ (k : Int) * j := Int.mul_nonneg (by omega) (by omega)
      have hp1 : (k : Int) * j ≤ 65025 := by
        have : k * j ≤ 255 * 255 := Nat.mul_le_mul hk (by omega)
        rw [← Int.natCast_mul]; omega
      have hb : k * j % s.size < s.size := Nat.mod_lt _ (by omega)
      have hb0 : 0 ≤ (k : Int) * j % s.size := Int.emod_nonneg _ (by omega)
      have hb1 : (k : Int) * j % s.size < s.size := Int.emod_lt_of_pos _ (by omega)
      have E8 := Lib.hid (congrArg UInt8.toNat (at_ba s (k * j % s.size) hb))
      go_wp2
      go_roundw
      case rel => exact ⟨j + 1, by omega, by go_num, F.out _ (congrArg Nat.cast E8.out), hwr.setCell (by simp) _⟩
      case measure => simp [intOf]; omega
    · obtain rfl : j = s.size := by omega
      rw [fil_all] at r1
      have hcv := r1.conv (P := Try.prog) 22 9 s.size s.size Try.underlying22 Try.underlying5 Try.underlying9 (by simp)
      go_wp2
      go_ret2
      exact ⟨by rw [decL, size_list]; rfl, hwr⟩
theorem sdec_no (s : ByteArray) (k : Int) (w : World) (hl : s.size ≤ 1048576) (hs : sv s.data.toList = false ∨ k < 0 ∨ 255 < k) :
    Calls Try.prog 44 #[.string s, .int .i64 k] w fun e w' => e = .returned (.tuple #[.string ⟨#[]⟩, .bool false]) ∧ Below w.heap.size w w' := by
  have C := Lib.hid fun w => seq_spec s w (by unfold maxLen; omega)
  have hmk := makeBytes s.size (by omega)
  generalize madeCells #[.int .u8 0] s.size = M at hmk
  have hw1 := (Below.refl w.heap.size w).alloc (Nat.le_refl _) (.cells M 5)
  cases hv : sv s.data.toList with
  | false =>
    clear hs
    go_enter Try.func44, Try.ntmps44
    go_wp2_with fail
    refine (C.out _).mono ?_
    rintro e w1 ⟨rfl, rfl⟩
    go_wp2
    go_ret2
    exact ⟨rfl, hw1⟩
  | true =>
    have k1 : decide (0 ≤ k ∧ k ≤ 255) = false := decide_eq_false (by rw [hv] at hs; rcases hs with h | h | h <;> first | omega | cases h)
    clear hs
    have D : Hid (∀ w, Calls Try.prog 73 #[.int .i64 k, .int .i64 0, .int .i64 255] w fun e w' => e = .returned (.bool false) ∧ w = w') := by
      show ∀ w, _
      intro w
      have h := in_spec k 0 255 w
      rw [k1] at h
      exact h
    clear k1
    go_enter Try.func44, Try.ntmps44
    go_wp2_with fail
    refine (C.out _).mono ?_
    rintro e w1 ⟨rfl, rfl⟩
    go_wp2_with fail
    refine (D.out _).mono ?_
    rintro e w1 ⟨rfl, rfl⟩
    go_wp2
    go_ret2
    exact ⟨rfl, hw1⟩
end Go.Proofs.Ytgmagocpacpafaa
