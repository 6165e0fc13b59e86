/- Contracts of the functions that ask whether taps are maximal. -/
import Derived.Test.YtibnlaphkmnhfaaWOrb
import Derived.Deep.RegionHeld3
namespace Go.Proofs.Ytibnlaphkmnhfaa
open Go.RowKit SS
set_option maxRecDepth 100000

theorem tv_nat' {z t : Int} (h : tv z t = true) : ∃ s' t' : Nat, z = s' ∧ t = t' ∧ VR s' t' 1 := by
  obtain ⟨h1, h2, h3, h4, h5, h6, h7⟩ := tv_yes h
  obtain ⟨s', rfl⟩ := Int.eq_ofNat_of_zero_le (show 0 ≤ z by omega)
  obtain ⟨t', rfl⟩ := Int.eq_ofNat_of_zero_le (show 0 ≤ t by omega)
  rw [Int.toNat_natCast] at h4 h6
  refine ⟨s', t', rfl, rfl, by omega, by omega, by omega, ?_, ?_⟩
  · have : ((t' : Int)) < ((2 ^ s' : Nat) : Int) := by simpa using h4
    omega
  · have : ((4 : Int)) ≤ ((2 ^ s' : Nat) : Int) := by simpa using h6
    omega
/-- the period of the state 1 -/
def per1 (s t : Nat) : Int := (orbN (nx s t) 1 : Int) - orbI (nx s t) 1
/-- the taps are maximal -/
def mx (s t : Nat) : Bool := per1 s t == 2 ^ s - 1
theorem tv_of {s t : Nat} (h : VR s t 1) : tv s t = true := by
  obtain ⟨h1, h2, h3, h4, _⟩ := h
  refine tv_mk (by omega) (by omega) (by omega) ?_
  have : ((t : Nat) : Int) < ((2 ^ s : Nat) : Int) := by omega
  simpa using this
theorem pow256 {s : Nat} (h : s ≤ 8) : (0 : Int) < 2 ^ s ∧ (2 : Int) ^ s ≤ 256 := by
  have := pow_le8 (s : Int) (by omega) (by omega)
  simpa using this

set_option maxHeartbeats 1000000 in
theorem ismax_yes (s t : Nat) (w : World) (hv : VR s t 1) :
    Calls Try.prog 45 #[.int .i64 s, .int .i64 t] w fun e w' => e = .returned (.bool (mx s t)) ∧ Below w.heap.size w w' := by
  have ht := tv_of hv
  obtain ⟨hp0, hp1⟩ := pow256 hv.2.1
  have hs : s ≤ 8 := hv.2.1
  have C := Lib.hid fun w => period_yes s t 1 w hv
  clear hv
  have E : Hid (mx s t = (per1 s t == IntKind.i64.wrap (IntKind.i64.wrap (2 ^ s) - 1))) := by
    show _ = _
    have e1 : IntKind.i64.wrap (2 ^ s) = 2 ^ s := by rw [IntKind.wrap_i64]; omega
    have e2 : IntKind.i64.wrap (2 ^ s - 1) = 2 ^ s - 1 := by rw [IntKind.wrap_i64]; omega
    rw [e1, e2]; rfl
  go_enter Try.func45, Try.ntmps45
  go_wp2_with fail
  go_region_held3 (fun _ => True) (exact trivial)
    (first | (go_at_call 85; refine (taps_impl _ _ _).mono ?_; rintro e w' ⟨rfl, rfl⟩) | (go_at_call 50; refine (C.out _).mono ?_; rintro e w1 ⟨rfl, hb1⟩))
  go_wp2_with fail
  go_ret
  exact ⟨ret_bool E.out.symm, ((Below.refl _ _).drew).trans hb1⟩
set_option maxHeartbeats 1000000 in
theorem ismax_no (s t : Int) (w : World) (ht : tv s t = false) :
    Calls Try.prog 45 #[.int .i64 s, .int .i64 t] w fun e w' => e = .returned (.bool false) ∧ Below w.heap.size w w' := by
  go_enter Try.func45, Try.ntmps45
  go_wp2_with fail
  go_quiet ((go_at_call 85; exact quiet_eq (taps_impl _ _ _)))
  go_wp2
  go_ret
  exact ⟨rfl, below_drewN (Below.refl _ _) _⟩
set_option maxHeartbeats 1000000 in
theorem l1max (s t : Nat) (w : World) (hv : VR s t 1) :
    Calls Try.prog 88 #[.int .i64 s, .int .i64 t] w fun e w' => e = .returned (.bool (mx s t)) ∧ Below w.heap.size w w' := by
  obtain ⟨hp0, hp1⟩ := pow256 hv.2.1
  have hs : s ≤ 8 := hv.2.1
  have C := Lib.hid fun w => speriod_yes s t 1 w hv
  clear hv
  have E : Hid (mx s t = (per1 s t == 2 ^ s - 1)) := Lib.hid rfl
  go_enter Try.func88, Try.ntmps88
  go_wp2_with fail
  refine (C.out _).mono ?_
  rintro e w1 ⟨rfl, hb1⟩
  have hw1 : Below w.heap.size w w1 := shutBox hb1
  clear hb1
  go_wp2_with fail
  refine (two_spec _ _ (by omega) (by omega)).mono ?_
  rintro e w2 ⟨rfl, rfl⟩
  go_wp2
  go_ret
  exact ⟨ret_bool E.out.symm, hw1⟩
set_option maxHeartbeats 1000000 in
theorem sismax_yes (s t : Nat) (w : World) (hv : VR s t 1) :
    Calls Try.prog 46 #[.int .i64 s, .int .i64 t] w fun e w' => e = .returned (.bool (mx s t)) ∧ Below w.heap.size w w' := by
  have ht := tv_of hv
  have C := Lib.hid fun w => l1max s t w hv
  clear hv
  go_enter Try.func46, Try.ntmps46
  go_wp2_with fail
  refine (taps_spec _ _ _).mono ?_
  rintro e w1 ⟨rfl, rfl⟩
  go_wp2_with fail
  refine (C.out _).mono ?_
  rintro e w1 ⟨rfl, hb1⟩
  go_wp2
  go_ret
  exact ⟨rfl, hb1⟩
set_option maxHeartbeats 1000000 in
theorem sismax_no (s t : Int) (w : World) (ht : tv s t = false) :
    Calls Try.prog 46 #[.int .i64 s, .int .i64 t] w fun e w' => e = .returned (.bool false) ∧ Below w.heap.size w w' := by
  go_enter Try.func46, Try.ntmps46
  go_wp2_with fail
  refine (taps_spec _ _ _).mono ?_
  rintro e w1 ⟨rfl, rfl⟩
  go_wp2
  go_ret
  exact ⟨rfl, Below.refl _ _⟩
end Go.Proofs.Ytibnlaphkmnhfaa
