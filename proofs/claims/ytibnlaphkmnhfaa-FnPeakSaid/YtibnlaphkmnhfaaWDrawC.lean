/- Lengths of drawn strings. -/
import Derived.Test.YtibnlaphkmnhfaaWDrawS
namespace Go.Proofs.Ytibnlaphkmnhfaa
open Go.RowKit SS
set_option maxRecDepth 100000
/-- the length of a string -/
def strLen : Value → Nat
  | .string q => q.size
  | _ => 0
/-- a string with one letter put in the place of another one -/
theorem cut_one (q : ByteArray) (k : Nat) (hk : k < q.size) (hq : q.size ≤ 100) : (q.extract 0 k).size ≤ 100 ∧ (q.extract 0 k ++ (⟨#[49]⟩ : ByteArray)).size ≤ 100 ∧ (q.extract (k + 1) q.size).size ≤ 100 ∧ (q.extract 0 k ++ (⟨#[49]⟩ : ByteArray) ++ q.extract (k + 1) q.size).size = q.size := by
  have h1 : (⟨#[49]⟩ : ByteArray).size = 1 := rfl
  simp only [ByteArray.size_append, ByteArray.size_extract, h1]
  omega
end Go.Proofs.Ytibnlaphkmnhfaa
