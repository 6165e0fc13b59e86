/- Contracts of the functions that look at all shifts of a sequence. -/
import Derived.Test.YtibnlaphkmnhfaaWSeq
import Derived.Lib.MinMaxS
import Derived.StillTailTactics
namespace Go.Proofs.Ytibnlaphkmnhfaa
open Go.RowKit SS
set_option maxRecDepth 100000

/-- a sequence that begins later, as a string -/
def rotS (k : Nat) (s : ByteArray) : ByteArray := ⟨(rot k s.data.toList).toArray⟩
theorem cut_rotS (s : ByteArray) (k : Nat) (h : k ≤ s.size) : (s.extract k s.size ++ s.extract 0 k) = rotS k s := cut_list s k h
theorem rotS_zero (s : ByteArray) : rotS 0 s = s := by simp [rotS, rot_zero]
theorem rotS_all (s : ByteArray) : rotS s.size s = s := by
  unfold rotS
  rw [← size_list, rot_all]
theorem rotS_list (k : Nat) (s : ByteArray) : (rotS k s).data.toList = rot k s.data.toList := rfl
theorem rotS_size (k : Nat) (s : ByteArray) (h : k ≤ s.size) : (rotS k s).size = s.size := by
  rw [← size_list, ← size_list s, rotS_list, rot_length _ _ (by rw [size_list]; exact h)]
theorem ba_list (s : ByteArray) : s.toList = s.data.toList := Lib.toList_data s
theorem ba_ext {a b : ByteArray} (h : a.data.toList = b.data.toList) : a = b := ByteArray.ext (Array.ext' h)
theorem ba_yes {a b : ByteArray} (h : a = b) : (a.toList == b.toList) = true := by rw [h]; exact BEq.rfl
theorem ba_no {a b : ByteArray} (h : a ≠ b) : (a.toList == b.toList) = false := by
  rw [beq_eq_false_iff_ne]
  intro e
  rw [ba_list, ba_list] at e
  exact h (ba_ext e)
set_option maxHeartbeats 1000000 in
theorem shift_impl (s : ByteArray) (k : Int) (w : World) (hs : sv s.data.toList = true) :
    Calls Try.prog 66 #[.string s, .int .i64 k] w fun e w' => e = .returned (.tuple #[.string (rotS (md k s.size) s), .bool true]) ∧ ∃ n, w' = w.drewN n := by
  obtain ⟨h1, h2, _⟩ := sv_yes hs
  rw [size_list] at h1 h2
  have hbig : ¬ 9223372036854775807 < s.size := by omega
  have C0 := Lib.hid fun w => seq_impl s w (by unfold maxLen; omega)
  have C := Lib.hid fun w => modulo_impl k s.size w h1 h2
  have hm := md_lt k s.size h1
  generalize md k s.size = j at *
  go_enter Try.func66, Try.ntmps66
  go_wp2_with fail
  refine (C0.out _).mono ?_
  rintro e w1 ⟨rfl, rfl⟩
  go_wp2_with fail
  refine (C.out _).mono ?_
  rintro e w1 ⟨rfl, rfl⟩
  go_wp2_with fail
  go_quiet (fail)
  go_wp2
  go_ret2
  exact ⟨by rw [← cut_rotS s j (by omega)]; rfl, _, rfl⟩
theorem shift_impl_no (s : ByteArray) (k : Int) (w : World) (hl : s.size ≤ maxLen) (hs : sv s.data.toList = false) :
    Calls Try.prog 66 #[.string s, .int .i64 k] w fun e w' => e = .returned (.tuple #[.string ⟨#[]⟩, .bool false]) ∧ ∃ n, w' = w.drewN n := by
  have C0 := Lib.hid fun w => seq_impl s w hl
  go_enter Try.func66, Try.ntmps66
  go_wp2_with fail
  refine (C0.out _).mono ?_
  rintro e w1 ⟨rfl, rfl⟩
  go_wp2
  go_ret2
  exact ⟨rfl, 0, rfl⟩
theorem shift_nat (s : ByteArray) (k : Nat) (w : World) (h1 : 1 ≤ s.size) (h2 : s.size ≤ 255) (hk : k ≤ s.size) :
    Calls Try.prog 76 #[.string s, .int .i64 (k : Int)] w fun e w' => e = .returned (.string (rotS k s)) ∧ ∃ n, w' = w.drewN n := by
  have h := shift_spec s (k : Int) w h1 h2
  have e : rotS (md k s.size) s = rotS k s := by
    by_cases hlt : k < s.size
    · rw [md_nat k s.size hlt]
    · obtain rfl : k = s.size := by omega
      rw [rotS_all, show md (s.size : Int) s.size = 0 by simp [md], rotS_zero]
  rw [← e]
  exact h
/-- the least period -/
structure LP (s : ByteArray) (K : Nat) : Prop where
  pos : 1 ≤ K
  le : K ≤ s.size
  eq : rotS K s = s
  ne : ∀ k, 1 ≤ k → k < K → rotS k s ≠ s
theorem least (P : Nat → Prop) (n : Nat) (h : P n) : ∃ m, m ≤ n ∧ P m ∧ ∀ j, j < m → ¬ P j := by
  induction n using Nat.strongRecOn with
  | ind n ih =>
    by_cases hx : ∃ j, j < n ∧ P j
    · obtain ⟨j, hj, hp⟩ := hx
      obtain ⟨m, hm, h1, h2⟩ := ih j hj hp
      exact ⟨m, by omega, h1, h2⟩
    · exact ⟨n, Nat.le_refl _, h, fun j hj hp => hx ⟨j, hj, hp⟩⟩
theorem LP.ex (s : ByteArray) (h : 1 ≤ s.size) : ∃ K, LP s K := by
  obtain ⟨m, hm, ⟨h1, h2⟩, h3⟩ := least (fun k => 1 ≤ k ∧ rotS k s = s) s.size ⟨h, rotS_all s⟩
  exact ⟨m, h1, hm, h2, fun k hk hl he => h3 k hl ⟨hk, he⟩⟩
set_option maxHeartbeats 1000000 in
theorem lp_impl (s : ByteArray) (K : Nat) (w : World) (hs : sv s.data.toList = true) (hK : LP s K) :
    Calls Try.prog 33 #[.string s] w fun e w' => e = .returned (.int .i64 K) ∧ ∃ n, w' = w.drewN n := by
  obtain ⟨h1, h2, _⟩ := sv_yes hs
  rw [size_list] at h1 h2
  have hbig : ¬ 9223372036854775807 < s.size := by omega
  have C := Lib.hid fun w => seq_impl s w (by unfold maxLen; omega)
  obtain ⟨hK0, hK1, hK2, hK3⟩ := hK
  have H2 := Lib.hid hK2
  have H3 := Lib.hid hK3
  clear hK2 hK3
  go_enter Try.func33, Try.ntmps33
  go_wp2_with fail
  refine (C.out _).mono ?_
  rintro e w1 ⟨rfl, rfl⟩
  go_wp2_with fail
  go_loopw [3] (fun i wr => ∃ k n : Nat, 1 ≤ k ∧ k ≤ K ∧ i = .int .i64 (k : Int) ∧ wr = w.drewN n) (fun i _ => s.size - (intOf i).toNat)
  case atStart => exact ⟨1, 0, by omega, by omega, rfl, rfl⟩
  case round =>
    obtain ⟨k, n, hk0, hk, rfl, rfl⟩ := hrel
    by_cases hlt : k < K
    · have hc : ((s.extract k s.size ++ s.extract 0 k).toList == s.toList) = false := ba_no (by rw [cut_rotS s k (by omega)]; exact H3.out k hk0 hlt)
      go_wp2_with fail
      go_quiet (fail)
      go_wp2
      go_roundw
      case rel => exact ⟨k + 1, _, by omega, by omega, by go_num, by first | rfl | exact World.drewN_drewN _ _ _⟩
      case measure => simp [intOf]; omega
    · obtain rfl : k = K := by omega
      have hc : ((s.extract k s.size ++ s.extract 0 k).toList == s.toList) = true := ba_yes (by rw [cut_rotS s k (by omega)]; exact H2.out)
      go_wp2_with fail
      go_quiet (fail)
      go_wp2
      go_ret
      exact ⟨rfl, _, by first | rfl | exact World.drewN_drewN _ _ _⟩
theorem lp_impl_no (s : ByteArray) (w : World) (hl : s.size ≤ maxLen) (hs : sv s.data.toList = false) :
    Calls Try.prog 33 #[.string s] w fun e w' => e = .returned (.int .i64 (-1)) ∧ ∃ n, w' = w.drewN n := by
  have C0 := Lib.hid fun w => seq_impl s w hl
  go_enter Try.func33, Try.ntmps33
  go_wp2_with fail
  refine (C0.out _).mono ?_
  rintro e w1 ⟨rfl, rfl⟩
  go_wp2
  go_ret
  exact ⟨rfl, 0, rfl⟩
/-- the first one of the first shifts -/
def frs (s : ByteArray) : Nat → ByteArray
  | 0 => s
  | k + 1 => Lib.minS (frs s k) (rotS k s)
theorem frs_one (s : ByteArray) : frs s 1 = s := by simp [frs, rotS_zero, Lib.minS]
end Go.Proofs.Ytibnlaphkmnhfaa
