/- Plain facts on shifts of sequences; no program is in sight. -/
import Derived.Test.YtibnlaphkmnhfaaPlainSum
namespace SS
theorem sv_rot (k : Nat) (l : List UInt8) (hk : k ≤ l.length) (h : sv l = true) : sv (rot k l) = true := by
  obtain ⟨h1, h2, h3⟩ := sv_yes h
  have hl := rot_length k l hk
  exact sv_mk (by omega) (by omega) (okB_rot k l h3)
theorem rot_rot (a b : Nat) (l : List UInt8) (ha : a < l.length) (hb : b < l.length) : rot b (rot a l) = rot ((a + b) % l.length) l := by
  have hn : 0 < l.length := by omega
  have hla := rot_length a l (by omega)
  have hab := Nat.mod_lt (a + b) hn
  apply list_ext
  · rw [rot_length _ _ (by omega), hla, rot_length _ _ (by omega)]
  · intro i hi
    rw [rot_length _ _ (by omega), hla] at hi
    rw [at_rot b (rot a l) (by omega) i (by omega), hla, at_rot a l ha _ (Nat.mod_lt _ hn), at_rot _ l hab i hi]
    congr 1
    rw [Nat.mod_add_mod, Nat.add_mod_mod]
    congr 1
    omega
theorem md_add (a b : Int) (n : Nat) (h : 1 ≤ n) : (md a n + md b n) % n = md (a + b) n := by
  have e1 := md_int a n h
  have e2 := md_int b n h
  have e3 := md_int (a + b) n h
  have : (((md a n + md b n) % n : Nat) : Int) = ((md (a + b) n : Nat) : Int) := by
    rw [Int.natCast_emod, Int.natCast_add, e1, e2, e3, ← Int.add_emod]
  omega
theorem md_congr (a b : Int) (n : Nat) (h : a % (n : Int) = b % (n : Int)) : md a n = md b n := by unfold md; rw [h]
theorem md_self (n : Nat) : md (n : Int) n = 0 := by unfold md; rw [Int.emod_self]; rfl
theorem md_zero (n : Nat) : md 0 n = 0 := by unfold md; rw [Int.zero_emod]; rfl
end SS
