/- Contracts of the functions that write sequences letter by letter. -/
import Derived.Test.YtmlmbinpkmdjjaaWMake
import Derived.Test.YtmlmbinpkmdjjaaWSeq
namespace Go.Proofs.Ytmlmbinpkmdjjaa
open Go.RowKit SS

/-- letters as a string -/
def bs (l : List UInt8) : ByteArray := ⟨l.toArray⟩
theorem bs_list (l : List UInt8) : (bs l).data.toList = l := rfl
theorem bs_size (l : List UInt8) : (bs l).size = l.length := by rw [← size_list, bs_list]
theorem bs_data (s : ByteArray) : bs s.data.toList = s := rfl
theorem at_ba (s : ByteArray) (k : Nat) (h : k < s.size) : at_ s.data.toList k = s[k] := by
  rw [at_eq _ _ (by rw [size_list]; exact h), byte_at s k h]
theorem ba_bit (s : ByteArray) (hs : okB s.data.toList = true) (k : Nat) (h : k < s.size) : s[k].toNat = 48 ∨ s[k].toNat = 49 := by
  rw [byte_at s k h]
  exact okB_at _ hs k (by rw [size_list]; exact h)
theorem u8_inj {c d : UInt8} (h : c.toNat = d.toNat) : c = d := UInt8.toNat_inj.1 h
theorem bx_val (c d : UInt8) (p q : Nat) (hc : c.toNat = p) (hd : d.toNat = q) : ((bx c d).toNat : Int) = if p = q then 48 else 49 := by
  unfold bx
  by_cases h : c = d
  · rw [if_pos h, if_pos (by rw [← hc, ← hd, h])]; rfl
  · rw [if_neg h, if_neg (fun e => h (u8_inj (by omega)))]; rfl
theorem xor_u8 (a b : Nat) (ha : a < 256) (hb : b < 256) : bits .xor .u8 (a : Int) (b : Int) = ((a ^^^ b : Nat) : Int) := by
  have ha' : a % 2 ^ 8 = a := Nat.mod_eq_of_lt (by omega)
  have hb' : b % 2 ^ 8 = b := Nat.mod_eq_of_lt (by omega)
  have hx : a ^^^ b < 2 ^ 8 := Nat.xor_lt_two_pow (by omega) (by omega)
  have h := IntKind.wrap_u8 (((a ^^^ b : Nat) : Nat) : Int)
  simp only [bits, BitVec.ofInt_natCast, BitVec.toNat_xor, BitVec.toNat_ofNat]
  rw [show IntKind.u8.bits = 8 from rfl, ha', hb', h]
  omega
theorem xor_zero {a b : Nat} (h : a ^^^ b = 0) : a = b := by
  have k : (a ^^^ b) ^^^ b = a := by rw [Nat.xor_assoc, Nat.xor_self, Nat.xor_zero]
  rw [h, Nat.zero_xor] at k
  exact k.symm
set_option maxHeartbeats 1000000 in
theorem add_spec (a b : ByteArray) (w : World) (hl : a.size = b.size) (h2 : a.size ≤ 255) (ha : okB a.data.toList = true) (hb : okB b.data.toList = true) :
    Calls Try.prog 85 #[.string a, .string b] w fun e w' => e = .returned (.string (bs (addL a.data.toList b.data.toList))) ∧ Below w.heap.size w w' := by
  have HA := Lib.hid ha
  have HB := Lib.hid hb
  have HL := Lib.hid hl
  have hlb : b.size ≤ 255 := by omega
  have hab : a.size ≤ b.size := by omega
  clear ha hb hl
  have hmk := makeBytes a.size (by omega)
  generalize hM : madeCells #[.int .u8 0] a.size = M at hmk
  have HM := Lib.hid hM
  clear hM
  have r1 := BB.new w 5 a.size
  rw [HM.out] at r1
  have hw1 := (Below.refl w.heap.size w).alloc (Nat.le_refl _) (.cells M 5)
  go_enter Try.func85, Try.ntmps85
  go_wp2_with fail
  go_loopw [6] (fun i wr => ∃ j : Nat, j ≤ a.size ∧ i = .int .i64 (j : Int) ∧ BB wr w.heap.size 5 (fil (fun i => bx (at_ a.data.toList i) (at_ b.data.toList i)) a.size j) ∧ Below w.heap.size w wr) (fun i _ => a.size - (intOf i).toNat)
  case atStart => exact ⟨0, Nat.zero_le _, rfl, by rw [fil_zero]; exact r1, hw1⟩
  case round =>
    clear r1 hw1
    obtain ⟨j, hj, rfl, r1, hwr⟩ := hrel
    by_cases hlt : j < a.size
    · have hlt2 : j < b.size := by omega
      have F := Lib.hid (fun v => r1.drew.fill hlt v)
      have E8 := Lib.hid (bx_val _ _ _ _ (congrArg UInt8.toNat (at_ba a j hlt)) (congrArg UInt8.toNat (at_ba b j hlt2)))
      have f3 := r1.frozen j
      obtain ⟨old, ho⟩ := fill_some r1 hlt
      have x1 : bits .xor .u8 48 0 = 48 := by decide
      have x2 : bits .xor .u8 48 1 = 49 := by decide
      have x3 : bits .xor .u8 49 0 = 49 := by decide
      have x4 : bits .xor .u8 49 1 = 48 := by decide
      rcases ba_bit a HA.out j hlt with ea | ea <;> rcases ba_bit b HB.out j hlt2 with eb | eb
      all_goals
        rw [ea, eb] at E8
        go_wp2_with fail
        refine still_rest 13 (by kernel_rfl) (by kernel_rfl) fun W HW => ?_
        simp only [List.take_succ_cons, List.take_zero, List.drop_succ_cons, List.drop_zero]
        repeat still_step
        refine wpStill_nil ?_
        obtain rfl := HW.out
        go_wp2
        go_roundw
        case rel => exact ⟨j + 1, by omega, by go_num, F.out _ E8.out, hwr.drew.setCell (by simp) _⟩
        case measure => simp [intOf]; omega
    · obtain rfl : j = a.size := by omega
      rw [fil_all] at r1
      have hcv := r1.conv (P := Try.prog) 40 9 a.size a.size Try.underlying40 Try.underlying5 Try.underlying9 (by simp)
      go_wp2
      go_ret
      exact ⟨by rw [addL, size_list]; rfl, hwr⟩
end Go.Proofs.Ytmlmbinpkmdjjaa
