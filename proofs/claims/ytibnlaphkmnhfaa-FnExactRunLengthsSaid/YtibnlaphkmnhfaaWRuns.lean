/- Contracts of the functions that list the lengths of runs. -/
import Derived.Test.YtibnlaphkmnhfaaWVals
import Derived.Test.YtibnlaphkmnhfaaWQuiet
import Derived.Test.YtibnlaphkmnhfaaWDraw
import Derived.Test.YtibnlaphkmnhfaaPlainRuns
import Derived.BigQuiet
namespace Go.Proofs.Ytibnlaphkmnhfaa
open Go.RowKit SS
set_option maxRecDepth 100000
theorem at_val (s : ByteArray) (k : Nat) (h : k < s.size) : (at_ s.data.toList k).toNat = s[k].toNat := by rw [at_ba s k h]
theorem at_same {s : ByteArray} {i j : Nat} (hi : i < s.size) (hj : j < s.size) (h : at_ s.data.toList i = at_ s.data.toList j) : (((s[i].toNat : Nat) : Int) == ((s[j].toNat : Nat) : Int)) = true := by rw [beq_iff_eq, ← at_val s i hi, ← at_val s j hj, h]
theorem at_diff {s : ByteArray} {i j : Nat} (hi : i < s.size) (hj : j < s.size) (h : at_ s.data.toList i ≠ at_ s.data.toList j) : (((s[i].toNat : Nat) : Int) == ((s[j].toNat : Nat) : Int)) = false := by
  rw [beq_eq_false_iff_ne, ← at_val s i hi, ← at_val s j hj]
  exact fun e => h (UInt8.toNat_inj.1 (by omega))
theorem at_sameN {s : ByteArray} {i j : Nat} (hi : i < s.size) (hj : j < s.size) (h : at_ s.data.toList i = at_ s.data.toList j) : (((s[i].toNat : Nat) : Int) != ((s[j].toNat : Nat) : Int)) = false := by rw [bne_eq_false_iff_eq, ← at_val s i hi, ← at_val s j hj, h]
theorem at_diffN {s : ByteArray} {i j : Nat} (hi : i < s.size) (hj : j < s.size) (h : at_ s.data.toList i ≠ at_ s.data.toList j) : (((s[i].toNat : Nat) : Int) != ((s[j].toNat : Nat) : Int)) = true := by
  rw [bne_iff_ne, ← at_val s i hi, ← at_val s j hj]
  exact fun e => h (UInt8.toNat_inj.1 (by omega))
set_option maxHeartbeats 4000000 in
theorem runs_impl (s : ByteArray) (R : List Int) (w : World) (hs : sv s.data.toList = true) (hR : Runs s.data.toList R) :
    Calls Try.prog 36 #[.string s] w (RetI w R) := by
  obtain ⟨i0, hi, hz0, hz1, hz2⟩ := info_parts infoI
  obtain ⟨h1, h2⟩ := sv_size hs
  have C := Lib.hid fun w => seq_impl s w (by unfold maxLen; omega)
  rw [hs] at C
  have HR := Lib.hid hR
  clear hR hs
  have hnz : ((s.size : Int) == 0) = false := by rw [beq_eq_false_iff_ne]; omega
  go_enter Try.func36, Try.ntmps36
  go_wp2_with fail
  refine (C.out _).mono ?_
  rintro e w1 ⟨rfl, rfl⟩
  clear C
  go_wp2_with fail
  go_loopw [4] (fun i wr => ∃ j m : Nat, j ≤ s.size ∧ i = .int .i64 (j : Int) ∧ Hid (∀ i, i < j → at_ s.data.toList i = at_ s.data.toList ((i + s.data.toList.length - 1) % s.data.toList.length)) ∧ wr = w.drewN m) (fun i _ => s.size - (intOf i).toNat)
  case atStart => exact ⟨0, 0, Nat.zero_le _, rfl, Lib.hid fun i hi => absurd hi (by omega), rfl⟩
  case round =>
    obtain ⟨j, m, hj, rfl, HE, rfl⟩ := hrel
    by_cases hlt : j < s.size
    · have dl : decide (j < s.size) = true := decide_eq_true hlt
      have hs1 : IntKind.i64.wrap ((j : Int) + (s.size : Int)) = (j : Int) + (s.size : Int) := by rw [IntKind.wrap_i64]; omega
      have hs2 : IntKind.i64.wrap ((j : Int) + (s.size : Int) - 1) = ((j + s.size - 1 : Nat) : Int) := by rw [IntKind.wrap_i64]; omega
      have htm : (((j + s.size - 1 : Nat) : Int)).tmod (s.size : Int) = (((j + s.size - 1) % s.size : Nat) : Int) := by rw [Int.tmod_eq_emod_of_nonneg (by omega)]; simp
      have hp : (j + s.size - 1) % s.size < s.size := Nat.mod_lt _ (by omega)
      obtain ⟨p, hpe⟩ : ∃ p, (j + s.size - 1) % s.size = p := ⟨_, rfl⟩
      have HPE := Lib.hid hpe
      rw [hpe] at htm hp
      clear hpe
      skip
      have djs : decide (s.size ≤ j) = false := by simp; omega
      have dps : decide (s.size ≤ p) = false := by simp; omega
      by_cases he : at_ s.data.toList j = at_ s.data.toList p
      · have de := at_same hlt hp he
        have HE2 : Hid (∀ i, i < j + 1 → at_ s.data.toList i = at_ s.data.toList ((i + s.data.toList.length - 1) % s.data.toList.length)) := by
          intro i hi
          by_cases hij : i < j
          · exact HE.out i hij
          · obtain rfl : i = j := by omega
            rw [size_list, HPE.out]; exact he
        clear he HE HPE
        go_wp2_with fail
        go_quiet (fail)
        clear hs1 hs2 htm de
        go_wp2
        go_roundw
        case rel => exact ⟨j + 1, _, by omega, by go_num, HE2, by first | rfl | (simp only [World.drewN_drewN])⟩
        case measure => first | (simp [intOf]; done) | (simp [intOf]; omega)
      · have de := at_diff hlt hp he
        have HB : Hid (Brk s.data.toList j) := Lib.hid ⟨by rw [size_list]; exact hlt, by rw [size_list, HPE.out]; exact he, HE.out⟩
        have HRS : Hid (R = srt (rle (rot j s.data.toList))) := by
          rcases HR.out with ⟨a, ha, e⟩ | ⟨hf, _⟩
          · have haj : a = j := by
              rcases Nat.lt_trichotomy a j with h | h | h
              · exact absurd (HE.out a h) ha.yes
              · exact h
              · exact absurd (ha.first j h) HB.out.yes
            rw [e, haj]
            exact Lib.hid rfl
          · exact absurd (hf j HB.out.lt) HB.out.yes
        clear he HE HPE HR
        have dne : ((j : Int) == (s.size : Int)) = false := by rw [beq_eq_false_iff_ne]; omega
        obtain ⟨t, ht⟩ : ∃ t, t = rot j s.data.toList := ⟨_, rfl⟩
        have htl : t.length = s.size := by rw [ht, rot_length _ _ (by rw [size_list]; omega), size_list]
        have HAT : Hid (∀ i, i < s.size → at_ t i = at_ s.data.toList ((j + i) % s.size)) := by
          intro i hi
          rw [ht, at_rot _ _ (by rw [size_list]; exact hlt) _ (by rw [size_list]; exact hi), size_list, Nat.add_comm i j]
        rw [← ht] at HRS
        have HT := Lib.hid ht
        clear ht
        go_wp2_with fail
        go_quiet (fail)
        clear hs1 hs2 htm de
        skip
        have o1 := Lib.hid fun n => OwnI.lit0 (w.drewN n)
        have hw1 := Lib.hid fun n => ((below_drewN (Below.refl w.heap.size w) n).alloc (Nat.le_refl _) (.cells #[] 3))
        go_wp2_with fail
        go_loopw [5, 39] (fun u i wr => ∃ (k : Nat) (L : List Int), k ≤ s.size ∧ i = .int .i64 (k : Int) ∧ Hid (L = rle (t.take k)) ∧ OwnI wr w.heap.size u L ∧ Below w.heap.size w wr) (fun _ i _ => s.size - (intOf i).toNat)
        case atStart => exact ⟨0, [], Nat.zero_le _, rfl, Lib.hid (by rw [List.take_zero]; rfl), o1.out _, hw1.out _⟩
        case round =>
          clear o1 hw1
          obtain ⟨k, L, hk, rfl, HL, ho, hw⟩ := hrel
          have HO := Lib.hid ho
          have hz := hw.size
          have hul : L.length ≤ k := by rw [HL.out]; exact rle_take_len t k
          clear ho
          by_cases hkl : k < s.size
          · have hq : (j + k) % s.size < s.size := Nat.mod_lt _ (by omega)
            have hqp : ((j + k) % s.size + s.size - 1) % s.size < s.size := Nat.mod_lt _ (by omega)
            have HA1 := Lib.hid (HAT.out k hkl)
            have HPR : Hid (1 ≤ k → at_ t (k - 1) = at_ s.data.toList (((j + k) % s.size + s.size - 1) % s.size)) := by
              intro h1
              rw [HAT.out (k - 1) (by omega)]
              have := prev_rot s.data.toList j k (by rw [size_list]; exact hlt) h1 (by rw [size_list]; exact hkl)
              rw [size_list] at this
              rw [this, Nat.add_comm j (k - 1)]
            have HP0 : Hid (k = 0 → at_ s.data.toList ((j + k) % s.size) ≠ at_ s.data.toList (((j + k) % s.size + s.size - 1) % s.size)) := by
              intro h0
              have := HB.out.yes
              rw [size_list] at this
              rw [h0, Nat.add_zero, Nat.mod_eq_of_lt hlt]
              exact this
            have hm1 : (((j : Int) + (k : Int)) % (s.size : Int)) = (((j + k) % s.size : Nat) : Int) := by simp
            have htm : ((((j + k) % s.size + s.size - 1 : Nat)) : Int).tmod (s.size : Int) = ((((j + k) % s.size + s.size - 1) % s.size : Nat) : Int) := by rw [Int.tmod_eq_emod_of_nonneg (by omega)]; simp
            generalize hgq : (j + k) % s.size = q at *
            clear hgq
            generalize hgp : (q + s.size - 1) % s.size = p at *
            clear hgp
            have hs1 : IntKind.i64.wrap ((q : Int) + (s.size : Int)) = (q : Int) + (s.size : Int) := by rw [IntKind.wrap_i64]; omega
            have hs2 : IntKind.i64.wrap ((q : Int) + (s.size : Int) - 1) = ((q + s.size - 1 : Nat) : Int) := by rw [IntKind.wrap_i64]; omega
            have dqs : decide (s.size ≤ q) = false := by simp; omega
            have dps : decide (s.size ≤ p) = false := by simp; omega
            by_cases he : at_ s.data.toList q = at_ s.data.toList p
            · have hk1 : 1 ≤ k := by
                rcases Nat.eq_zero_or_pos k with h | h
                · exact absurd he (HP0.out h)
                · exact h
              have dn := at_sameN hq hqp he
              have hsm : at_ t (k - 1) = at_ t k := by rw [HPR.out hk1, HA1.out]; exact he.symm
              have HN := Lib.hid (rle_step_same t k hk1 (by omega) hsm)
              rw [← HL.out] at HN
              have hne : L ≠ [] := by rw [HL.out]; exact rle_take_ne t k hk1 (by omega)
              have HXB : Hid (∀ x ∈ L, 1 ≤ x ∧ x ≤ 255) := Lib.hid (by rw [HL.out]; intro x hx; have := rle_take_le t k (by omega) x hx; omega)
              clear he hsm HPR HP0 HA1 HL
              obtain ⟨g, cap, hv, hg1, hg2, hfr⟩ := HO.out.form hne
              obtain ⟨K, hK⟩ : ∃ K, (L).length = K + 1 := ⟨(L).length - 1, by have := List.length_pos_iff.2 hne; omega⟩
              obtain ⟨x, hx⟩ : ∃ x, (L)[K]? = some x := ⟨_, List.getElem?_eq_getElem (by omega)⟩
              have hcx : wr.cell? ⟨g, K, none⟩ = some (.int .i64 x) := by
                obtain ⟨g2, cap2, hv2, _, hcell⟩ := HO.out.row.form hne
                rw [hv] at hv2
                simp at hv2
                rw [hv2.1]
                exact hcell K x hx
              have hfx : wr.frozen? ⟨g, K, none⟩ = false := hfr K
              have hxb := HXB.out x (List.mem_of_getElem? hx)
              have HSET := Lib.hid (incT_set L K x hK hx)
              rw [← HN.out] at HSET
              have hK2 : K ≤ 255 := by omega
              subst hv
              rw [hK]
              have HK := Lib.hid hK
              clear hK hx HXB HN hne hul
              have HO1 : Hid (∀ n, OwnI (wr.drewN n) w.heap.size (.slice (some ⟨g, 0, none⟩) (K + 1) cap) L) := Lib.hid fun n => by rw [← HK.out]; exact HO.out.drewN n
              clear HO HK
              go_wp2_with fail
              go_quiet (fail)
              clear hs1 hs2 htm dn
              go_wp2
              go_roundw
              case rel => exact ⟨k + 1, _, by omega, by go_num, Lib.hid HSET.out, (HO1.out _).set K _, (below_drewN hw _).setCell hg1 _⟩
              case measure => first | (simp [intOf]; done) | (simp [intOf]; omega)
            · have dn := at_diffN hq hqp he
              have hN : rle (t.take (k + 1)) = L ++ [1] := by
                rw [HL.out]
                rcases Nat.eq_zero_or_pos k with h | h
                · subst h
                  rw [Nat.zero_add, rle_one t (by omega), List.take_zero]
                  rfl
                · exact rle_step_new t k h (by omega) (by rw [HPR.out h, HA1.out]; exact fun e => he e.symm)
              have HN := Lib.hid hN
              clear hN
              clear he HPR HP0 HA1 HL
              go_wp2_with fail
              go_quiet (fail)
              clear hs1 hs2 htm dn
              skip
              have HO1 := Lib.hid fun n => HO.out.drewN n
              have HW1 := Lib.hid fun n => below_drewN hw n
              clear HO
              go_wp2_with (at_builtin; refine wpList_append_own _ rfl _ _ 35 rfl w.heap.size 3 i0 (.int .i64 0) 1 8 Try.underlying35 hi hz0 hz1 hz2 rfl (by decide) _ _ _ rfl ((HO1.out _).alloc _) ⟨wr.heap.size, 0, none⟩ 1 1 [.int .i64 0] rfl rfl ?a1 ?a2 ?a3 ?a4 ?a5 ?_)
              case a1 => exact new_int _ _ _
              case a2 => exact int_one _
              case a3 => unfold maxLen; omega
              case a4 => omega
              case a5 => simp; omega
              intro v9 w9 ho9 hg9 _
              have hw9 := grownB (HW1.out _) hg9 (own_rowB (HO1.out 0))
              have HO2 := Lib.hid (OwnI.grow1 ho9)
              have hne : L ++ [0] ≠ [] := by simp
              clear ho9 hg9 HO1 HW1
              obtain ⟨g, cap, hv, hg1, hg2, hfr⟩ := HO2.out.form hne
              obtain ⟨K, hK⟩ : ∃ K, (L ++ [0]).length = K + 1 := ⟨(L ++ [0]).length - 1, by have := List.length_pos_iff.2 hne; omega⟩
              obtain ⟨x, hx⟩ : ∃ x, (L ++ [0])[K]? = some x := ⟨_, List.getElem?_eq_getElem (by omega)⟩
              have hcx : w9.cell? ⟨g, K, none⟩ = some (.int .i64 x) := by
                obtain ⟨g2, cap2, hv2, _, hcell⟩ := HO2.out.row.form hne
                rw [hv] at hv2
                simp at hv2
                rw [hv2.1]
                exact hcell K x hx
              have hfx : w9.frozen? ⟨g, K, none⟩ = false := hfr K
              have hKL : K = L.length := by have := hK; simp at this; omega
              have hx0 : x = 0 := by rw [hKL] at hx; simpa using hx.symm
              subst hx0
              have HSET : Hid ((L ++ [0]).set K (0 + 1) = rle (t.take (k + 1))) := Lib.hid (by rw [HN.out, hKL, List.set_append_right _ _ (Nat.le_refl _), Nat.sub_self]; rfl)
              have hK2 : K ≤ 255 := by omega
              subst hv
              rw [hK]
              have HK := Lib.hid hK
              clear hK hx HN hne hul hKL
              have HO1 : Hid (OwnI w9 w.heap.size (.slice (some ⟨g, 0, none⟩) (K + 1) cap) (L ++ [0])) := Lib.hid (by rw [← HK.out]; exact HO2.out)
              clear HO2 HK
              go_wp2
              go_roundw
              case rel => exact ⟨k + 1, _, by omega, by go_num, Lib.hid HSET.out, HO1.out.set K _, hw9.setCell hg1 _⟩
              case measure => first | (simp [intOf]; done) | (simp [intOf]; omega)
          · obtain rfl : k = s.size := by omega
            have hL := HL.out
            rw [← htl, List.take_length] at hL
            have HRS2 : Hid (srt L = R) := Lib.hid (by rw [hL]; exact HRS.out.symm)
            clear hL HL
            have CS := Lib.hid (sort_ints _ L wr w.heap.size HO.out (by omega))
            go_wp2_with fail
            refine (CS.out).mono ?_
            rintro e w2 ⟨rfl, o2, hb2⟩
            rw [HRS2.out] at o2
            have O2 := Lib.hid o2
            clear o2 CS
            go_wp2
            go_ret
            exact ⟨_, rfl, O2.out, hw.trans hb2⟩
    · obtain rfl : j = s.size := by omega
      have HRF : Hid (R = [(s.size : Int)]) := by
        rcases HR.out with ⟨a, ha, _⟩ | ⟨_, e⟩
        · have := ha.lt
          rw [size_list] at this
          exact absurd (HE.out a this) ha.yes
        · rw [e, size_list]
          exact Lib.hid rfl
      clear HE HR
      have dl : decide (s.size < s.size) = false := by simp
      have HBI := Lib.hid fun n => BI.lit (w.drewN n) 3 [(s.size : Int)]
      have HW := Lib.hid fun n => ((below_drewN (Below.refl w.heap.size w) n).alloc (Nat.le_refl _) (.cells #[.int .i64 (s.size : Int)] 3))
      go_wp2_with fail
      go_quiet (fail)
      go_wp2
      go_ret
      exact ⟨_, rfl, by rw [HRF.out]; exact (HBI.out _).own (Nat.le_refl _) (by unfold maxLen; simp), HW.out _⟩
theorem runs_impl_no (s : ByteArray) (w : World) (hl : s.size ≤ maxLen) (hs : sv s.data.toList = false) : Calls Try.prog 36 #[.string s] w (RetI w []) := by
  have C := Lib.hid fun w => seq_impl s w hl
  rw [hs] at C
  clear hs
  go_enter Try.func36, Try.ntmps36
  go_wp2_with fail
  refine (C.out _).mono ?_
  rintro e w1 ⟨rfl, rfl⟩
  go_wp2
  go_ret
  exact ⟨_, rfl, OwnI.nil0 _ _, Below.refl _ _⟩
theorem runs_spec_no (s : ByteArray) (w : World) (hl : s.size ≤ maxLen) (hs : sv s.data.toList = false) : Calls Try.prog 35 #[.string s] w (RetI w []) := by
  have C := Lib.hid fun w => seq_spec s w hl
  rw [hs] at C
  clear hs
  have o1 := Lib.hid (OwnI.lit0 w)
  have hw1 := Lib.hid ((Below.refl w.heap.size w).alloc (Nat.le_refl _) (.cells #[] 3))
  go_enter Try.func35, Try.ntmps35
  go_wp2_with fail
  refine (C.out _).mono ?_
  rintro e w1 ⟨rfl, rfl⟩
  go_wp2
  go_ret
  exact ⟨_, rfl, o1.out, hw1.out⟩
set_option maxHeartbeats 4000000 in
theorem runs_spec (s : ByteArray) (R : List Int) (w : World) (hs : sv s.data.toList = true) (hR : Runs s.data.toList R) :
    Calls Try.prog 35 #[.string s] w (RetI w R) := by
  obtain ⟨h1, h2⟩ := sv_size hs
  have C := Lib.hid fun w => seq_spec s w (by unfold maxLen; omega)
  rw [hs] at C
  have CM := Lib.hid fun (k : Int) w => mod_spec k s.size w h1 h2
  have HR := Lib.hid hR
  clear hR hs
  have o1 := Lib.hid (OwnI.lit0 w)
  have hw1 := Lib.hid ((Below.refl w.heap.size w).alloc (Nat.le_refl _) (.cells #[] 3))
  go_enter Try.func35, Try.ntmps35
  go_wp2_with fail
  refine (C.out _).mono ?_
  rintro e w1 ⟨rfl, rfl⟩
  clear C
  generalize hwA : w.alloc (.cells #[] 3) = wA at o1 hw1 ⊢
  clear hwA
  go_wp2_with fail
  go_loopw [4, 5] (fun f i wr => ∃ (j m : Nat) (a : Int), j ≤ s.size ∧ i = .int .i64 (j : Int) ∧ f = .int .i64 a ∧ Hid ((a = -1 ∧ ∀ i, i < j → at_ s.data.toList i = at_ s.data.toList ((i + s.data.toList.length - 1) % s.data.toList.length)) ∨ (∃ b : Nat, a = (b : Int) ∧ Brk s.data.toList b)) ∧ -1 ≤ a ∧ wr = wA.drewN m) (fun _ i _ => s.size - (intOf i).toNat)
  case atStart => exact ⟨0, 0, -1, Nat.zero_le _, rfl, rfl, Lib.hid (.inl ⟨rfl, fun i hi => absurd hi (by omega)⟩), by omega, rfl⟩
  case round =>
    obtain ⟨j, m, a, hj, rfl, rfl, HA, ha, rfl⟩ := hrel
    by_cases hc : j < s.size ∧ a < 0
    · obtain ⟨hlt, ha0⟩ := hc
      have HE : Hid (∀ i, i < j → at_ s.data.toList i = at_ s.data.toList ((i + s.data.toList.length - 1) % s.data.toList.length)) := by
        rcases HA.out with ⟨_, h⟩ | ⟨b, hb, _⟩
        · exact h
        · omega
      clear HA
      have dl : decide (j < s.size) = true := decide_eq_true hlt
      have dl2 : decide ((j : Int) < (s.size : Int)) = true := by simp; omega
      have da : decide (a < 0) = true := decide_eq_true ha0
      have C1 := Lib.hid fun w => CM.out ((j : Int) - 1) w
      rw [prev_mod j s.size h1] at C1
      have hp : (j + s.size - 1) % s.size < s.size := Nat.mod_lt _ (by omega)
      obtain ⟨p, hpe⟩ : ∃ p, (j + s.size - 1) % s.size = p := ⟨_, rfl⟩
      have HPE := Lib.hid hpe
      rw [hpe] at C1 hp
      clear hpe
      have hs2 : IntKind.i64.wrap ((j : Int) - 1) = (j : Int) - 1 := by rw [IntKind.wrap_i64]; omega
      have djs : decide (s.size ≤ j) = false := by simp; omega
      have dps : decide (s.size ≤ p) = false := by simp; omega
      by_cases he : at_ s.data.toList j = at_ s.data.toList p
      · have de := at_sameN hlt hp he
        have HE2 : Hid ((a = -1 ∧ ∀ i, i < j + 1 → at_ s.data.toList i = at_ s.data.toList ((i + s.data.toList.length - 1) % s.data.toList.length)) ∨ (∃ b : Nat, a = (b : Int) ∧ Brk s.data.toList b)) := by
          refine .inl ⟨by omega, fun i hi => ?_⟩
          by_cases hij : i < j
          · exact HE.out i hij
          · obtain rfl : i = j := by omega
            rw [size_list, HPE.out]; exact he
        clear he HE HPE
        go_wp2_with fail
        go_quiet ((go_at_call 75; first | exact quiet_eq (C1.out _) | exact quiet_eqN (C1.out _)))
        clear hs2 de
        go_wp2
        go_roundw
        case rel => exact ⟨j + 1, _, a, by omega, by go_num, rfl, HE2, ha, by first | rfl | (simp only [World.drewN_drewN])⟩
        case measure => first | (simp [intOf]; done) | (simp [intOf]; omega)
      · have de := at_diffN hlt hp he
        have HE2 : Hid ((((j : Nat) : Int) = -1 ∧ ∀ i, i < j + 1 → at_ s.data.toList i = at_ s.data.toList ((i + s.data.toList.length - 1) % s.data.toList.length)) ∨ (∃ b : Nat, ((j : Nat) : Int) = (b : Int) ∧ Brk s.data.toList b)) := by
          exact .inr ⟨j, rfl, by rw [size_list]; exact hlt, by rw [size_list, HPE.out]; exact he, HE.out⟩
        clear he HE HPE
        go_wp2_with fail
        go_quiet ((go_at_call 75; first | exact quiet_eq (C1.out _) | exact quiet_eqN (C1.out _)))
        clear hs2 de
        go_wp2
        go_roundw
        case rel => exact ⟨j + 1, _, (j : Int), by omega, by go_num, rfl, HE2, by omega, by first | rfl | (simp only [World.drewN_drewN])⟩
        case measure => first | (simp [intOf]; done) | (simp [intOf]; omega)
    · by_cases ha0 : a < 0
      · have hjs : j = s.size := by omega
        subst hjs
        have HRF : Hid (R = [(s.size : Int)]) := by
          rcases HA.out with ⟨_, hE⟩ | ⟨b, hb, _⟩
          · rcases HR.out with ⟨a, ha, _⟩ | ⟨_, e⟩
            · have := ha.lt
              rw [size_list] at this
              exact absurd (hE a this) ha.yes
            · rw [e, size_list]
              exact Lib.hid rfl
          · omega
        clear HA HR hc
        have dl : decide (s.size < s.size) = false := by simp
        have da : decide (a < 0) = true := decide_eq_true ha0
        skip
        have HBI := Lib.hid (BI.lit (wA.drewN m) 3 [(s.size : Int)])
        have hwz := hw1.out.size
        have HW := Lib.hid ((below_drewN hw1.out m).alloc hwz (.cells #[.int .i64 (s.size : Int)] 3))
        go_wp2
        go_ret
        exact ⟨_, rfl, by rw [HRF.out]; exact HBI.out.own hwz (by unfold maxLen; simp), HW.out⟩
      · obtain ⟨b, hb⟩ := Int.eq_ofNat_of_zero_le (show 0 ≤ a by omega)
        subst hb
        have HB : Hid (Brk s.data.toList b) := by
          rcases HA.out with ⟨h, _⟩ | ⟨b2, hb2, h⟩
          · omega
          · have : b = b2 := by omega
            rw [this]; exact h
        have HRS : Hid (R = srt (rle (rot b s.data.toList))) := by
          rcases HR.out with ⟨a, ha, e⟩ | ⟨hf, _⟩
          · have haj : a = b := by
              rcases Nat.lt_trichotomy a b with h | h | h
              · exact absurd (HB.out.first a h) ha.yes
              · exact h
              · exact absurd (ha.first b h) HB.out.yes
            rw [e, haj]
            exact Lib.hid rfl
          · exact absurd (hf b HB.out.lt) HB.out.yes
        have hbl : b < s.size := by have := HB.out.lt; rwa [size_list] at this
        clear HA HR hc HB
        have da : decide ((b : Int) < 0) = false := by simp
        have CS := Lib.hid fun w => shift_nat s b w h1 h2 (by omega)
        obtain ⟨t, ht⟩ : ∃ t, t = rotS b s := ⟨_, rfl⟩
        have htz : t.size = s.size := by rw [ht]; exact rotS_size b s (by omega)
        have hTR : t.data.toList = rot b s.data.toList := by rw [ht]; rfl
        rw [← ht] at CS
        rw [← hTR] at HRS
        clear ht hTR
        skip
        have HTZ := Lib.hid htz
        have htl : t.data.toList.length = s.size := by rw [size_list, htz]
        have HTL := Lib.hid htl
        clear htl
        by_cases hjl : j < s.size
        · skip
          have dj : decide (j < s.size) = true := by simp; omega
          have dj2 : decide ((j : Int) < (s.size : Int)) = true := by simp; omega
          clear hjl hj
          go_wp2_with fail
          refine (CS.out _).mono ?_
          rintro e w3 ⟨rfl, n3, rfl⟩
          have HO1 : Hid (∀ n, OwnI (wA.drewN n) w.heap.size (.slice (some ⟨w.heap.size, 0, none⟩) 0 0) []) := Lib.hid fun n => o1.out.drewN n
          have HW1 : Hid (∀ n, Below w.heap.size w (wA.drewN n)) := Lib.hid fun n => below_drewN hw1.out n
          go_wp2_with fail
          go_loopw [3, 7, 8] (fun u c i wr => ∃ (k q : Nat) (L : List Int), k ≤ s.size ∧ i = .int .i64 (k : Int) ∧ c = .int .i64 (q : Int) ∧ Cnt t.data.toList k L q ∧ OwnI wr w.heap.size u (insAll L) ∧ Below w.heap.size w wr) (fun _ _ i _ => s.size - (intOf i).toNat)
          case atStart => exact ⟨0, 0, [], Nat.zero_le _, rfl, rfl, Cnt.start _, by first | exact HO1.out _ | (simp only [World.drewN_drewN]; exact HO1.out _), by first | exact HW1.out _ | (simp only [World.drewN_drewN]; exact HW1.out _)⟩
          case round =>
            clear HO1 HW1 o1 hw1 dj dj2
            obtain ⟨k, q, L, hk, rfl, rfl, hcn, ho, hw⟩ := hrel
            have HO := Lib.hid ho
            have HCN := Lib.hid hcn
            have hln := hcn.len
            have hz := hw.size
            have hil := insAll_length L
            clear ho hcn
            by_cases hkl : k < s.size
            · have hkt : k < t.data.toList.length := by rw [HTL.out]; exact hkl
              have dkt : decide (k < s.size) = true := by simp; omega
              have hq1 : IntKind.i64.wrap ((q : Int) + 1) = ((q + 1 : Nat) : Int) := by rw [IntKind.wrap_i64]; omega
              have hn1 : IntKind.i64.wrap ((s.size : Int) - 1) = ((s.size - 1 : Nat) : Int) := by rw [IntKind.wrap_i64]; omega
              have hk1 : IntKind.i64.wrap ((k : Int) + 1) = (k : Int) + 1 := by rw [IntKind.wrap_i64]; omega
              have hk1a : (0 : Int) ≤ (k : Int) + 1 := by omega
              have hk1b : ((k : Int) + 1).toNat = k + 1 := by omega
              by_cases hend : k + 1 = s.size ∨ at_ t.data.toList k ≠ at_ t.data.toList (k + 1)
              · have HC2 := Lib.hid (HCN.out.shut hkt (by rw [HTL.out]; exact hend))
                have hqc : ((q + 1 : Nat) : Int) = (q : Int) + 1 := by omega
                have HIS := Lib.hid (insAll_snoc L ((q + 1 : Nat) : Int))
                rw [hqc] at HIS HC2
                clear hqc
                have hil2 : (insAll L).length ≤ 1000 := by omega
                by_cases hke : k + 1 = s.size
                · skip
                  have d1 : ((k : Int) == ((s.size - 1 : Nat) : Int)) = true := by rw [beq_iff_eq]; omega
                  clear hend hke
                  go_wp2_with fail
                  go_quiet (fail)
                  clear hn1 hk1 d1
                  have CI := Lib.hid fun n => insert_spec _ (insAll L) ((q : Int) + 1) (wr.drewN n) (HO.out.drewN n).row hil2
                  have HW2 := Lib.hid fun n => below_drewN hw n
                  go_wp2_with fail
                  refine ((CI.out _)).mono ?_
                  rintro e w5 ⟨v5, rfl, o5, hb5⟩
                  rw [← HIS.out] at o5
                  have HO5 := Lib.hid (o5.wider hz)
                  have hw5 := afterB (HW2.out _) hb5 (HW2.out _).size
                  clear o5 hb5 CI HW2 HO hw
                  go_wp2
                  go_roundw
                  case rel => exact ⟨k + 1, 0, _, by omega, by go_num, rfl, HC2.out, HO5.out, hw5⟩
                  case measure => first | (simp [intOf]; done) | (simp [intOf]; omega)
                · skip
                  have d1 : ((k : Int) == ((s.size - 1 : Nat) : Int)) = false := by rw [beq_eq_false_iff_ne]; omega
                  have he : at_ t.data.toList (k + 1) ≠ at_ t.data.toList k := fun e => (hend.resolve_left hke) e.symm
                  have hk3 : k + 1 < t.size := by omega
                  have hk4 : k < t.size := by omega
                  have dn := at_diffN hk3 hk4 he
                  have dks : decide (s.size ≤ k) = false := by simp; omega
                  have dks1 : decide (s.size ≤ k + 1) = false := by simp; omega
                  have dks2 : (k : Int) + 1 < (s.size : Int) := by omega
                  clear hend hke he
                  go_wp2_with fail
                  go_quiet (fail)
                  clear hn1 hk1 d1
                  have CI := Lib.hid fun n => insert_spec _ (insAll L) ((q : Int) + 1) (wr.drewN n) (HO.out.drewN n).row hil2
                  have HW2 := Lib.hid fun n => below_drewN hw n
                  go_wp2_with fail
                  refine ((CI.out _)).mono ?_
                  rintro e w5 ⟨v5, rfl, o5, hb5⟩
                  rw [← HIS.out] at o5
                  have HO5 := Lib.hid (o5.wider hz)
                  have hw5 := afterB (HW2.out _) hb5 (HW2.out _).size
                  clear o5 hb5 CI HW2 HO hw
                  go_wp2
                  go_roundw
                  case rel => exact ⟨k + 1, 0, _, by omega, by go_num, rfl, HC2.out, HO5.out, hw5⟩
                  case measure => first | (simp [intOf]; done) | (simp [intOf]; omega)
              · have hk2 : k + 1 < s.size := by
                  rcases Nat.lt_or_ge (k + 1) s.size with h | h
                  · exact h
                  · exact absurd (.inl (by omega)) hend
                have he : at_ t.data.toList k = at_ t.data.toList (k + 1) := Classical.byContradiction fun h => hend (.inr h)
                have HC2 := Lib.hid (HCN.out.go (by rw [HTL.out]; exact hk2) he)
                have d1 : ((k : Int) == ((s.size - 1 : Nat) : Int)) = false := by rw [beq_eq_false_iff_ne]; omega
                have hk3 : k + 1 < t.size := by omega
                have hk4 : k < t.size := by omega
                have dn := at_sameN hk3 hk4 he.symm
                have dks : decide (s.size ≤ k) = false := by simp; omega
                have dks1 : decide (s.size ≤ k + 1) = false := by simp; omega
                have dks2 : (k : Int) + 1 < (s.size : Int) := by omega
                clear hend he
                go_wp2_with fail
                go_quiet (fail)
                clear hn1 hk1 d1 dn
                go_wp2
                go_roundw
                case rel => exact ⟨k + 1, q + 1, L, by omega, by go_num, by first | rfl | go_num, HC2.out, HO.out.drewN _, below_drewN hw _⟩
                case measure => first | (simp [intOf]; done) | (simp [intOf]; omega)
            · have hkE : k = s.size := by omega
              subst hkE
              have dkt : decide (s.size < s.size) = false := by simp
              have hcn := HCN.out
              rw [← HTL.out] at hcn
              have hRL : insAll L = R := by rw [insAll_srt, hcn.last]; exact HRS.out.symm
              have HO2 := Lib.hid (hRL ▸ HO.out)
              clear hcn hRL
              go_wp2
              go_ret
              exact ⟨_, rfl, HO2.out, hw⟩
        · skip
          have dj : decide (j < s.size) = false := by simp; omega
          have dj2 : decide ((j : Int) < (s.size : Int)) = false := by simp; omega
          clear hjl hj
          go_wp2_with fail
          refine (CS.out _).mono ?_
          rintro e w3 ⟨rfl, n3, rfl⟩
          have HO1 : Hid (∀ n, OwnI (wA.drewN n) w.heap.size (.slice (some ⟨w.heap.size, 0, none⟩) 0 0) []) := Lib.hid fun n => o1.out.drewN n
          have HW1 : Hid (∀ n, Below w.heap.size w (wA.drewN n)) := Lib.hid fun n => below_drewN hw1.out n
          go_wp2_with fail
          go_loopw [3, 7, 8] (fun u c i wr => ∃ (k q : Nat) (L : List Int), k ≤ s.size ∧ i = .int .i64 (k : Int) ∧ c = .int .i64 (q : Int) ∧ Cnt t.data.toList k L q ∧ OwnI wr w.heap.size u (insAll L) ∧ Below w.heap.size w wr) (fun _ _ i _ => s.size - (intOf i).toNat)
          case atStart => exact ⟨0, 0, [], Nat.zero_le _, rfl, rfl, Cnt.start _, by first | exact HO1.out _ | (simp only [World.drewN_drewN]; exact HO1.out _), by first | exact HW1.out _ | (simp only [World.drewN_drewN]; exact HW1.out _)⟩
          case round =>
            clear HO1 HW1 o1 hw1 dj dj2
            obtain ⟨k, q, L, hk, rfl, rfl, hcn, ho, hw⟩ := hrel
            have HO := Lib.hid ho
            have HCN := Lib.hid hcn
            have hln := hcn.len
            have hz := hw.size
            have hil := insAll_length L
            clear ho hcn
            by_cases hkl : k < s.size
            · have hkt : k < t.data.toList.length := by rw [HTL.out]; exact hkl
              have dkt : decide (k < s.size) = true := by simp; omega
              have hq1 : IntKind.i64.wrap ((q : Int) + 1) = ((q + 1 : Nat) : Int) := by rw [IntKind.wrap_i64]; omega
              have hn1 : IntKind.i64.wrap ((s.size : Int) - 1) = ((s.size - 1 : Nat) : Int) := by rw [IntKind.wrap_i64]; omega
              have hk1 : IntKind.i64.wrap ((k : Int) + 1) = (k : Int) + 1 := by rw [IntKind.wrap_i64]; omega
              have hk1a : (0 : Int) ≤ (k : Int) + 1 := by omega
              have hk1b : ((k : Int) + 1).toNat = k + 1 := by omega
              by_cases hend : k + 1 = s.size ∨ at_ t.data.toList k ≠ at_ t.data.toList (k + 1)
              · have HC2 := Lib.hid (HCN.out.shut hkt (by rw [HTL.out]; exact hend))
                have hqc : ((q + 1 : Nat) : Int) = (q : Int) + 1 := by omega
                have HIS := Lib.hid (insAll_snoc L ((q + 1 : Nat) : Int))
                rw [hqc] at HIS HC2
                clear hqc
                have hil2 : (insAll L).length ≤ 1000 := by omega
                by_cases hke : k + 1 = s.size
                · skip
                  have d1 : ((k : Int) == ((s.size - 1 : Nat) : Int)) = true := by rw [beq_iff_eq]; omega
                  clear hend hke
                  go_wp2_with fail
                  go_quiet (fail)
                  clear hn1 hk1 d1
                  have CI := Lib.hid fun n => insert_spec _ (insAll L) ((q : Int) + 1) (wr.drewN n) (HO.out.drewN n).row hil2
                  have HW2 := Lib.hid fun n => below_drewN hw n
                  go_wp2_with fail
                  refine ((CI.out _)).mono ?_
                  rintro e w5 ⟨v5, rfl, o5, hb5⟩
                  rw [← HIS.out] at o5
                  have HO5 := Lib.hid (o5.wider hz)
                  have hw5 := afterB (HW2.out _) hb5 (HW2.out _).size
                  clear o5 hb5 CI HW2 HO hw
                  go_wp2
                  go_roundw
                  case rel => exact ⟨k + 1, 0, _, by omega, by go_num, rfl, HC2.out, HO5.out, hw5⟩
                  case measure => first | (simp [intOf]; done) | (simp [intOf]; omega)
                · skip
                  have d1 : ((k : Int) == ((s.size - 1 : Nat) : Int)) = false := by rw [beq_eq_false_iff_ne]; omega
                  have he : at_ t.data.toList (k + 1) ≠ at_ t.data.toList k := fun e => (hend.resolve_left hke) e.symm
                  have hk3 : k + 1 < t.size := by omega
                  have hk4 : k < t.size := by omega
                  have dn := at_diffN hk3 hk4 he
                  have dks : decide (s.size ≤ k) = false := by simp; omega
                  have dks1 : decide (s.size ≤ k + 1) = false := by simp; omega
                  have dks2 : (k : Int) + 1 < (s.size : Int) := by omega
                  clear hend hke he
                  go_wp2_with fail
                  go_quiet (fail)
                  clear hn1 hk1 d1
                  have CI := Lib.hid fun n => insert_spec _ (insAll L) ((q : Int) + 1) (wr.drewN n) (HO.out.drewN n).row hil2
                  have HW2 := Lib.hid fun n => below_drewN hw n
                  go_wp2_with fail
                  refine ((CI.out _)).mono ?_
                  rintro e w5 ⟨v5, rfl, o5, hb5⟩
                  rw [← HIS.out] at o5
                  have HO5 := Lib.hid (o5.wider hz)
                  have hw5 := afterB (HW2.out _) hb5 (HW2.out _).size
                  clear o5 hb5 CI HW2 HO hw
                  go_wp2
                  go_roundw
                  case rel => exact ⟨k + 1, 0, _, by omega, by go_num, rfl, HC2.out, HO5.out, hw5⟩
                  case measure => first | (simp [intOf]; done) | (simp [intOf]; omega)
              · have hk2 : k + 1 < s.size := by
                  rcases Nat.lt_or_ge (k + 1) s.size with h | h
                  · exact h
                  · exact absurd (.inl (by omega)) hend
                have he : at_ t.data.toList k = at_ t.data.toList (k + 1) := Classical.byContradiction fun h => hend (.inr h)
                have HC2 := Lib.hid (HCN.out.go (by rw [HTL.out]; exact hk2) he)
                have d1 : ((k : Int) == ((s.size - 1 : Nat) : Int)) = false := by rw [beq_eq_false_iff_ne]; omega
                have hk3 : k + 1 < t.size := by omega
                have hk4 : k < t.size := by omega
                have dn := at_sameN hk3 hk4 he.symm
                have dks : decide (s.size ≤ k) = false := by simp; omega
                have dks1 : decide (s.size ≤ k + 1) = false := by simp; omega
                have dks2 : (k : Int) + 1 < (s.size : Int) := by omega
                clear hend he
                go_wp2_with fail
                go_quiet (fail)
                clear hn1 hk1 d1 dn
                go_wp2
                go_roundw
                case rel => exact ⟨k + 1, q + 1, L, by omega, by go_num, by first | rfl | go_num, HC2.out, HO.out.drewN _, below_drewN hw _⟩
                case measure => first | (simp [intOf]; done) | (simp [intOf]; omega)
            · have hkE : k = s.size := by omega
              subst hkE
              have dkt : decide (s.size < s.size) = false := by simp
              have hcn := HCN.out
              rw [← HTL.out] at hcn
              have hRL : insAll L = R := by rw [insAll_srt, hcn.last]; exact HRS.out.symm
              have HO2 := Lib.hid (hRL ▸ HO.out)
              clear hcn hRL
              go_wp2
              go_ret
              exact ⟨_, rfl, HO2.out, hw⟩
end Go.Proofs.Ytibnlaphkmnhfaa
