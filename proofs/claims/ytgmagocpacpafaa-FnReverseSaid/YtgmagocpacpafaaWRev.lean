/- Contracts of the functions that reverse taps. -/
import Derived.Test.YtgmagocpacpafaaWNext
import Derived.Test.YtgmagocpacpafaaPlainRev
import Derived.Deep.RegionWith
namespace Go.Proofs.Ytgmagocpacpafaa
open Go.RowKit SS
set_option maxRecDepth 100000

theorem tv_nat {z t : Nat} (h : tv z t = true) : 2 ≤ z ∧ z ≤ 8 ∧ 1 ≤ t ∧ t < 2 ^ z := by
  obtain ⟨h1, h2, h3, h4, _⟩ := tv_yes h
  have e : (2 : Int) ^ z = ((2 ^ z : Nat) : Int) := by simp
  rw [Int.toNat_natCast, e] at h4
  omega
set_option maxHeartbeats 1000000 in
theorem rev_impl (z t : Nat) (w : World) (ht : tv z t = true) (ho : t % 2 = 1) :
    Calls Try.prog 28 #[.int .i64 z, .int .i64 t] w fun e w' => e = .returned (.int .i64 (rvt z t)) ∧ w = w' := by
  obtain ⟨h2, h8, h1, hlt⟩ := tv_nat ht
  have ht' := lt256 h8 hlt
  have hone : bits .and .i64 (t : Int) 1 = 1 := by
    rw [show (1 : Int) = ((1 : Nat) : Int) from rfl, and_i64 t 1 (by omega) (by decide), Nat.and_one_is_mod, ho]
  have HLT := Lib.hid hlt
  clear ho hlt
  go_enter Try.func28, Try.ntmps28
  go_wp2_with fail
  refine (taps_impl _ _ _).mono ?_
  rintro e w1 ⟨rfl, rfl⟩
  go_wp2_with fail
  go_loop [5, 6] (fun o i => ∃ k : Nat, k < z ∧ i = .int .i64 ((k : Int) + 1) ∧ o = .int .i64 (rvs z t k)) (fun _ i => z - (intOf i).toNat)
  case atStart => exact ⟨0, by omega, rfl, rfl⟩
  case round =>
    obtain ⟨k, hk, rfl, rfl⟩ := hrel
    by_cases hc : k + 1 < z
    · have hd : t / 2 ^ (k + 1) % 2 < 2 := Nat.mod_lt _ (by decide)
      have hrl := rvs_lt z t k hk
      have hpz : 2 ^ z ≤ 2 ^ 8 := Nat.pow_le_pow_right (by decide) h8
      have hq : 2 ^ (z - (k + 1)) ≤ 2 ^ 8 := Nat.pow_le_pow_right (by decide) (by omega)
      have hdl : t / 2 ^ (k + 1) ≤ t := Nat.div_le_self _ _
      have e1 : bits .and .i64 ((t : Int) / 2 ^ (k + 1)) 1 = ((t / 2 ^ (k + 1) % 2 : Nat) : Int) := by
        rw [show (t : Int) / 2 ^ (k + 1) = ((t / 2 ^ (k + 1) : Nat) : Int) by simp, show (1 : Int) = ((1 : Nat) : Int) from rfl, and_i64 _ 1 (by omega) (by decide), Nat.and_one_is_mod]
      rcases (show t / 2 ^ (k + 1) % 2 = 0 ∨ t / 2 ^ (k + 1) % 2 = 1 by omega) with hb | hb
      · have ER := Lib.hid (rvs_same z t k hb)
        rw [hb] at e1
        clear hb hd hrl hpz hq hdl
        go_wp2
        go_round
        case rel => exact ⟨k + 1, hc, by go_num, by rw [ER.out]⟩
        case measure => simp [intOf]; omega
      · have ER := Lib.hid (rvs_or z t k hc hb)
        have eo : bits .or .i64 ((rvs z t k : Nat) : Int) (wrap64 (2 ^ (z - (k + 1)))) = ((rvs z t k ||| 2 ^ (z - (k + 1)) : Nat) : Int) := by
          rw [show (2 : Int) ^ (z - (k + 1)) = ((2 ^ (z - (k + 1)) : Nat) : Int) by simp, IntWalk.wrap64_in _ ⟨by have := Int.natCast_nonneg (2 ^ (z - (k + 1))); omega, by omega⟩]
          exact or_i64 _ _ (by omega) (by omega)
        rw [hb] at e1
        clear hb hd hrl hpz hq hdl
        go_wp2
        go_round
        case rel => exact ⟨k + 1, hc, by go_num, by rw [ER.out]⟩
        case measure => simp [intOf]; omega
    · have e : Hid (rvs z t k = rvt z t) := by show _ = _; rw [rvt, show z - 1 = k by omega]
      go_wp2
      go_ret
      exact ⟨ret_int (by rw [e.out]), rfl⟩
set_option maxHeartbeats 1000000 in
theorem rev_no (z t : Int) (w : World) (hn : (tv z t && decide (t % 2 = 1)) = false) :
    Calls Try.prog 28 #[.int .i64 z, .int .i64 t] w fun e w' => e = .returned (.int .i64 (-1)) ∧ w = w' := by
  cases ht : tv z t with
  | false =>
    clear hn
    go_enter Try.func28, Try.ntmps28
    go_wp2_with fail
    refine (taps_impl _ _ _).mono ?_
    rintro e w1 ⟨rfl, rfl⟩
    go_wp2
    go_ret
    exact ⟨rfl, rfl⟩
  | true =>
    rw [ht, Bool.true_and] at hn
    have hn := of_decide_eq_false hn
    obtain ⟨_, _, h3, _, h5, _⟩ := tv_yes ht
    have hone : bits .and .i64 t 1 = 0 := by
      obtain ⟨t', rfl⟩ := Int.eq_ofNat_of_zero_le (show 0 ≤ t by omega)
      rw [show (1 : Int) = ((1 : Nat) : Int) from rfl, and_i64 t' 1 (by omega) (by decide), Nat.and_one_is_mod]
      omega
    clear hn
    go_enter Try.func28, Try.ntmps28
    go_wp2_with fail
    refine (taps_impl _ _ _).mono ?_
    rintro e w1 ⟨rfl, rfl⟩
    go_wp2
    go_ret
    exact ⟨rfl, rfl⟩
theorem two_any (n : Int) (p : Nat) (w : World) (h0 : 0 ≤ n) (h8 : n ≤ 8) (hp : Hid (p = 2 ^ n.toNat)) :
    Calls Try.prog 82 #[.int .i64 n] w fun e w' => e = .returned (.int .i64 p) ∧ w = w' :=
  (two_spec n w h0 h8).mono fun e w' ⟨he, hw⟩ => ⟨by rw [he, hp.out]; simp, hw⟩
set_option maxHeartbeats 1000000 in
theorem srev (z t : Nat) (w : World) (ht : tv z t = true) (ho : t % 2 = 1) :
    Calls Try.prog 29 #[.int .i64 z, .int .i64 t] w fun e w' => e = .returned (.int .i64 (rvt z t)) ∧ ∃ n, w' = w.drewN n := by
  obtain ⟨h2, h8, h1, hlt⟩ := tv_nat ht
  have ht' := lt256 h8 hlt
  have hone : ((t : Int) % 2 == 0) = false := by rw [beq_eq_false_iff_ne]; omega
  have HLT := Lib.hid hlt
  clear ho hlt
  go_enter Try.func29, Try.ntmps29
  go_wp2_with fail
  refine (taps_spec _ _ _).mono ?_
  rintro e w1 ⟨rfl, rfl⟩
  go_wp2_with fail
  go_loopw [5, 6] (fun o i wr => ∃ k n : Nat, k < z ∧ i = .int .i64 ((k : Int) + 1) ∧ o = .int .i64 (rvs z t k) ∧ wr = w.drewN n) (fun _ i _ => z - (intOf i).toNat)
  case atStart => exact ⟨0, 0, by omega, rfl, rfl, rfl⟩
  case round =>
    obtain ⟨k, n, hk, rfl, rfl, rfl⟩ := hrel
    by_cases hc : k + 1 < z
    · have hd : t / 2 ^ (k + 1) % 2 < 2 := Nat.mod_lt _ (by decide)
      have hrl := rvs_lt z t (k + 1) hc
      have hrl0 := rvs_lt z t k hk
      have hpz : 2 ^ z ≤ 2 ^ 8 := Nat.pow_le_pow_right (by decide) h8
      have hq : 2 ^ (z - (k + 1)) ≤ 2 ^ 8 := Nat.pow_le_pow_right (by decide) (by omega)
      have hq0 : 0 < 2 ^ (z - (k + 1)) := Nat.two_pow_pos _
      have hp0 : 0 < 2 ^ (k + 1) := Nat.two_pow_pos _
      have hdl : t / 2 ^ (k + 1) ≤ t := Nat.div_le_self _ _
      have er : rvs z t (k + 1) = rvs z t k + t / 2 ^ (k + 1) % 2 * 2 ^ (z - (k + 1)) := rfl
      have hml : t / 2 ^ (k + 1) % 2 * 2 ^ (z - (k + 1)) ≤ 256 := by
        rcases (show t / 2 ^ (k + 1) % 2 = 0 ∨ t / 2 ^ (k + 1) % 2 = 1 by omega) with e | e <;> rw [e] <;> omega
      obtain ⟨p, HP⟩ : ∃ p, Hid (p = 2 ^ (k + 1)) := ⟨2 ^ (k + 1), Lib.hid rfl⟩
      obtain ⟨q, HQ⟩ : ∃ q, Hid (q = 2 ^ (z - (k + 1))) := ⟨2 ^ (z - (k + 1)), Lib.hid rfl⟩
      rw [← HP.out] at hd hdl er hml hp0
      rw [← HQ.out] at hq hq0 er hml
      have HP2 : Hid (p = 2 ^ ((k : Int) + 1).toNat) := by rw [show ((k : Int) + 1).toNat = k + 1 by omega]; exact HP
      have HQ2 : Hid (q = 2 ^ ((z : Int) - ((k : Int) + 1)).toNat) := by rw [show ((z : Int) - ((k : Int) + 1)).toNat = z - (k + 1) by omega]; exact HQ
      have hz : ((p : Int) == 0) = false := by simp; omega
      have ed : (t : Int) / (p : Int) = ((t / p : Nat) : Int) := by simp
      have hd0 : 0 ≤ (t : Int) / (p : Int) := by rw [ed]; exact Int.natCast_nonneg _
      have hd1 : (t : Int) / (p : Int) ≤ 255 := by rw [ed]; omega
      have ws : IntKind.i64.wrap ((z : Int) - ((k : Int) + 1)) = (z : Int) - ((k : Int) + 1) := by rw [IntKind.wrap_i64]; omega
      have wd : IntKind.i64.wrap ((t : Int) / (p : Int)) = (t : Int) / (p : Int) := by rw [IntKind.wrap_i64]; omega
      have ER : Hid (wrap64 (((rvs z t k : Nat) : Int) + wrap64 ((t : Int) / (p : Int) % 2 * (q : Int))) = ((rvs z t (k + 1) : Nat) : Int)) := by
        show _ = _
        have em : ((t / p : Nat) : Int) % 2 * (q : Int) = ((t / p % 2 * q : Nat) : Int) := by rw [Int.natCast_mul]; rfl
        rw [ed, em, IntWalk.wrap64_in ((t / p % 2 * q : Nat) : Int) ⟨by have := Int.natCast_nonneg (t / p % 2 * q); omega, by omega⟩, er, IntWalk.wrap64_in _ ⟨by have := Int.natCast_nonneg (t / p % 2 * q); omega, by omega⟩, Int.natCast_add]
      clear hd hrl hpz hdl er hml ed
      have C1 := Lib.hid fun w => two_any ((k : Int) + 1) p w (by omega) (by omega) HP2
      have C2 := Lib.hid fun w => two_any ((z : Int) - ((k : Int) + 1)) q w (by omega) (by omega) HQ2
      clear HP HQ HP2 HQ2
      go_wp2_with fail
      go_quiet ((go_at_call 82; first | (with_reducible exact quiet_eqN (C1.out _)) | (with_reducible exact quiet_eqN (C2.out _))))
      go_wp2
      go_roundw
      case rel => exact ⟨k + 1, _, hc, by go_num, by rw [← ER.out], rfl⟩
      case measure => simp [intOf]; omega
    · have e : Hid (rvs z t k = rvt z t) := by show _ = _; rw [rvt, show z - 1 = k by omega]
      go_wp2
      go_ret
      exact ⟨ret_int (by rw [e.out]), _, rfl⟩
set_option maxHeartbeats 1000000 in
theorem srev_no (z t : Int) (w : World) (hn : (tv z t && decide (t % 2 = 1)) = false) :
    Calls Try.prog 29 #[.int .i64 z, .int .i64 t] w fun e w' => e = .returned (.int .i64 (-1)) ∧ w = w' := by
  cases ht : tv z t with
  | false =>
    clear hn
    go_enter Try.func29, Try.ntmps29
    go_wp2_with fail
    refine (taps_spec _ _ _).mono ?_
    rintro e w1 ⟨rfl, rfl⟩
    go_wp2
    go_ret
    exact ⟨rfl, rfl⟩
  | true =>
    rw [ht, Bool.true_and] at hn
    have hn := of_decide_eq_false hn
    obtain ⟨_, _, h3, _, h5, _⟩ := tv_yes ht
    have hone : (t % 2 == 0) = true := by rw [beq_iff_eq]; omega
    clear hn
    go_enter Try.func29, Try.ntmps29
    go_wp2_with fail
    refine (taps_spec _ _ _).mono ?_
    rintro e w1 ⟨rfl, rfl⟩
    go_wp2
    go_ret
    exact ⟨rfl, rfl⟩
end Go.Proofs.Ytgmagocpacpafaa
