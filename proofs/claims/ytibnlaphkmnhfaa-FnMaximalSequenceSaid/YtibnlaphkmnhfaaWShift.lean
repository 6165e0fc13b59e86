/- Shifts of sequences as strings, and the contract of the laws' own shift. -/
import Derived.Test.YtibnlaphkmnhfaaWRot
import Derived.Test.YtibnlaphkmnhfaaWPair
import Derived.Test.YtibnlaphkmnhfaaPlainRot
namespace Go.Proofs.Ytibnlaphkmnhfaa
open Go.RowKit SS
set_option maxRecDepth 100000
/-- a sequence that begins later -/
def shf (k : Int) (s : ByteArray) : ByteArray := rotS (md k s.size) s
theorem sv_size {s : ByteArray} (h : sv s.data.toList = true) : 1 ≤ s.size ∧ s.size ≤ 255 := by
  obtain ⟨h1, h2, _⟩ := sv_yes h
  rw [size_list] at h1 h2
  exact ⟨h1, h2⟩
theorem shf_size (k : Int) (s : ByteArray) (h : 1 ≤ s.size) : (shf k s).size = s.size := rotS_size _ _ (Nat.le_of_lt (md_lt k s.size h))
theorem shf_sv (k : Int) (s : ByteArray) (h : sv s.data.toList = true) : sv (shf k s).data.toList = true := by
  unfold shf
  rw [rotS_list]
  exact sv_rot _ _ (by rw [size_list]; exact Nat.le_of_lt (md_lt k s.size (sv_size h).1)) h
theorem shf_shf (a b : Int) (s : ByteArray) (h : 1 ≤ s.size) : shf b (shf a s) = shf (a + b) s := by
  have ha := md_lt a s.size h
  have hb := md_lt b s.size h
  unfold shf
  rw [rotS_size _ _ (Nat.le_of_lt ha)]
  apply ByteArray.ext
  apply Array.ext'
  show (rotS (md b s.size) (rotS (md a s.size) s)).data.toList = (rotS (md (a + b) s.size) s).data.toList
  rw [rotS_list, rotS_list, rotS_list, rot_rot _ _ _ (by rw [size_list]; exact ha) (by rw [size_list]; exact hb), size_list, md_add _ _ _ h]
theorem shf_congr (a b : Int) (s : ByteArray) (h : a % (s.size : Int) = b % (s.size : Int)) : shf a s = shf b s := by unfold shf; rw [md_congr a b _ h]
theorem shf_zero (s : ByteArray) : shf 0 s = s := by unfold shf; rw [md_zero, rotS_zero]
theorem shf_id (a : Int) (s : ByteArray) (h : a % (s.size : Int) = 0) : shf a s = s := by rw [shf_congr a 0 s (by rw [h, Int.zero_emod]), shf_zero]
theorem tmod_any (k : Int) (n : Nat) (h1 : 1 ≤ n) (h2 : n ≤ 255) : ∃ m : Int, k.tmod (n : Int) = m ∧ -255 ≤ m ∧ m ≤ 255 ∧ m % (n : Int) = k % (n : Int) := by
  refine ⟨_, rfl, ?_⟩
  rcases tmod_cases k n h1 with ⟨h, e⟩ | ⟨h, e⟩
  · have := Int.emod_lt_of_pos k (show (0 : Int) < n by omega)
    refine ⟨by omega, by omega, ?_⟩
    rw [e, Int.emod_emod_of_dvd _ (Int.dvd_refl _)]
  · have h3 := Int.emod_nonneg k (show (n : Int) ≠ 0 by omega)
    refine ⟨by omega, by omega, ?_⟩
    rw [show k.tmod n = k % (n : Int) - n by omega, Int.sub_emod, Int.emod_self, Int.sub_zero, Int.emod_emod_of_dvd _ (Int.dvd_refl _), Int.emod_emod_of_dvd _ (Int.dvd_refl _)]
theorem ssShift_yes (s : ByteArray) (k : Int) (w : World) (hs : sv s.data.toList = true) :
    Calls Try.prog 18 #[.string s, .int .i64 k] w fun e w' => e = .returned (.string (shf k s)) ∧ Below w.heap.size w w' := by
  have C := Lib.hid fun w => quiet_below (shift_impl s k w hs)
  clear hs
  go_enter Try.func18, Try.ntmps18
  go_wp2_with fail
  refine (C.out _).mono ?_
  rintro e w1 ⟨rfl, hb⟩
  go_wp2
  go_ret
  exact ⟨rfl, hb⟩
end Go.Proofs.Ytibnlaphkmnhfaa
