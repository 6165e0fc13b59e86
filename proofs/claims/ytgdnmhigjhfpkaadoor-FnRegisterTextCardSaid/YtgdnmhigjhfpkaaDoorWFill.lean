/- Contracts of the functions that write sequences letter by letter. -/
import Derived.Test.YtgdnmhigjhfpkaaDoorWMake
import Derived.Test.YtgdnmhigjhfpkaaDoorWSeq
namespace Go.Proofs.YtgdnmhigjhfpkaaDoor
open Go.RowKit SS
set_option maxRecDepth 100000

/-- letters as a string -/
def bs (l : List UInt8) : ByteArray := ⟨l.toArray⟩
theorem bs_list (l : List UInt8) : (bs l).data.toList = l := rfl
theorem bs_size (l : List UInt8) : (bs l).size = l.length := by rw [← size_list, bs_list]
theorem bs_data (s : ByteArray) : bs s.data.toList = s := rfl
theorem at_ba (s : ByteArray) (k : Nat) (h : k < s.size) : at_ s.data.toList k = s[k] := by
  rw [at_eq _ _ (by rw [size_list]; exact h), byte_at s k h]
theorem ba_bit (s : ByteArray) (hs : okB s.data.toList = true) (k : Nat) (h : k < s.size) : s[k].toNat = 48 ∨ s[k].toNat = 49 := by
  rw [byte_at s k h]
  exact okB_at _ hs k (by rw [size_list]; exact h)
theorem u8_inj {c d : UInt8} (h : c.toNat = d.toNat) : c = d := UInt8.toNat_inj.1 h
theorem bx_val (c d : UInt8) (p q : Nat) (hc : c.toNat = p) (hd : d.toNat = q) : ((bx c d).toNat : Int) = if p = q then 48 else 49 := by
  unfold bx
  by_cases h : c = d
  · rw [if_pos h, if_pos (by rw [← hc, ← hd, h])]; rfl
  · rw [if_neg h, if_neg (fun e => h (u8_inj (by omega)))]; rfl
theorem xor_u8 (a b : Nat) (ha : a < 256) (hb : b < 256) : bits .xor .u8 (a : Int) (b : Int) = ((a ^^^ b : Nat) : Int) := by
  have ha' : a % 2 ^ 8 = a := Nat.mod_eq_of_lt (by omega)
  have hb' : b % 2 ^ 8 = b := Nat.mod_eq_of_lt (by omega)
  have hx : a ^^^ b < 2 ^ 8 := Nat.xor_lt_two_pow (by omega) (by omega)
  have h := IntKind.wrap_u8 (((a ^^^ b : Nat) : Nat) : Int)
  simp only [bits, BitVec.ofInt_natCast, BitVec.toNat_xor, BitVec.toNat_ofNat]
  rw [show IntKind.u8.bits = 8 from rfl, ha', hb', h]
  omega
theorem xor_zero {a b : Nat} (h : a ^^^ b = 0) : a = b := by
  have k : (a ^^^ b) ^^^ b = a := by rw [Nat.xor_assoc, Nat.xor_self, Nat.xor_zero]
  rw [h, Nat.zero_xor] at k
  exact k.symm
end Go.Proofs.YtgdnmhigjhfpkaaDoor
