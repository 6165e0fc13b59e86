/- Contracts of the functions that draw strings of bits. -/
import Derived.Test.YtibnlaphkmnhfaaWDrawR
import Derived.Test.YtibnlaphkmnhfaaWStrs
import Derived.Test.YtibnlaphkmnhfaaWMxi
import Derived.Test.YtibnlaphkmnhfaaWMany
namespace Go.Proofs.Ytibnlaphkmnhfaa
open Go.RowKit SS
set_option maxRecDepth 100000
theorem OwnB.kp {w w' : World} {base R : Nat} {v : Value} {l : List UInt8} (h : OwnB w base v l) (k : Kp R w w') (hb : R < base) : OwnB w' base v l := by
  refine ⟨⟨h.1.1, ?_⟩, h.2⟩
  rcases h.1.2 with hn | ⟨g, cap, cur, hv, hg, hh, r⟩
  · exact .inl hn
  · exact .inr ⟨g, cap, cur, hv, hg, (k.at_ (by omega) (Array.getElem?_eq_some_iff.1 hh).1).trans hh, r⟩
theorem Dr.grown {w wr w2 : World} {R B N : Nat} {row : Option Nat} (h : Dr w R B N wr) (hg : wr.grownBy w2 row) (hr : ∀ k, row = some k → w.heap.size ≤ k) : Dr w R B N w2 := by
  obtain ⟨hrd, hk, hR⟩ := h
  have hl := hrd.lt
  have hz := hk.size
  have hb : Below R wr w2 := ⟨hg.os, hg.tape, hg.output, hg.size, fun k hk => hg.block k (by omega) (fun e => by have := hr k e.symm; omega)⟩
  refine ⟨?_, ⟨hk.1.trans hb, fun b hb1 hb2 => (hg.block b (by omega) (fun e => by have := hr b e.symm; omega)).trans (hk.2 b hb1 hb2)⟩, hR⟩
  obtain ⟨A, len, cap, p, h1, h2, h3, h4, h5⟩ := hrd
  exact ⟨A, len, cap, p, (hg.block R (by omega) (fun e => by have := hr R e.symm; omega)).trans h1, h2, h3, h4, h5.below (hb.mono h2)⟩
/-- some string comes back -/
def SomeS (lo hi R B N : Nat) (w : World) (e : Ending) (w' : World) : Prop := ∃ q : ByteArray, e = .returned (.string q) ∧ lo ≤ q.size ∧ q.size ≤ hi ∧ Dr w R B N w'
/-- a block of strings -/
def BT (w : World) (b : Nat) (T : TypeId) (l : List ByteArray) : Prop := w.heap[b]? = some (.cells (l.map Value.string).toArray T (0, 0))
theorem BT.lit (w : World) (T : TypeId) (l : List ByteArray) : BT (w.alloc (.cells (l.map Value.string).toArray T)) w.heap.size T l := heap_alloc_new w _
theorem BT.lt {w : World} {b : Nat} {T : TypeId} {l : List ByteArray} (h : BT w b T l) : b < w.heap.size := (Array.getElem?_eq_some_iff.1 h).1
theorem BT.cell {w : World} {b : Nat} {T : TypeId} {l : List ByteArray} (h : BT w b T l) (i : Nat) (v : ByteArray) (hi : l[i]? = some v) : w.cell? ⟨b, i, none⟩ = some (.string v) := by
  rw [cell_of_row w b i _ T _ h]
  simp [hi]
set_option maxHeartbeats 1000000 in
theorem of_any (l : List ByteArray) (m g cap R B N : Nat) (w : World) (h : Rd w R B N) (hN : N ≤ 1000000) (hb : BT w g 9 l) (hg : g ≠ R) (h0 : 0 < l.length) (hl : l.length ≤ 1000) (hm : ∀ s ∈ l, s.size ≤ m) :
    Calls Try.prog 116 #[.pointer (some ⟨R, 0, none⟩), .slice (some ⟨g, 0, none⟩) l.length cap] w (SomeS 0 m R B (N + 1) w) := by
  have C := Lib.hid (pick_any l.length R B N w h hN)
  have HD := Lib.hid (Dr.start h)
  have HB := Lib.hid hb
  have HMM := Lib.hid hm
  clear hb h hm
  go_enter Try.func116, Try.ntmps116
  go_wp2_with fail
  refine C.out.mono ?_
  rintro e w1 ⟨v, rfl, hv0, hv1, hr, hk⟩
  have HD1 := Lib.hid (HD.out.draw hr hk)
  have hb1 : BT w1 g 9 l := (hk.at_ hg HB.out.lt).trans HB.out
  obtain ⟨q, rfl⟩ := Int.eq_ofNat_of_zero_le hv0
  have hq : q < l.length := by have := hv1 (by omega); omega
  have c0 := hb1.cell q _ (List.getElem?_eq_getElem hq)
  have HM := Lib.hid (HMM.out _ (List.getElem_mem hq))
  generalize l[q] = x at c0 HM
  clear hr hk hb1 HB C hv1
  go_wp2
  go_ret
  exact ⟨x, rfl, Nat.zero_le _, HM.out, HD1.out⟩
set_option maxHeartbeats 1000000 in
theorem string_any (K R B N : Nat) (w : World) (h : Rd w R B N) (hN : N ≤ 800000) (hK : K ≤ 100) :
    Calls Try.prog 115 #[.pointer (some ⟨R, 0, none⟩), .int .i64 K] w (SomeS 0 K R B (N + 1 + K) w) := by
  obtain ⟨i0, hi, hz0, hz1, hz2⟩ := info_parts infoB
  have hlt := h.lt.1
  have hmk := make0 K (by omega)
  generalize hM : madeCells #[.int .u8 0] K = M at hmk
  have o1 := OwnB.made w K (by unfold maxLen; omega)
  rw [hM] at o1
  have O1 := Lib.hid o1
  have HD := Lib.hid ((Dr.start h).alloc (.cells M 5))
  clear o1 hM h
  go_enter Try.func115, Try.ntmps115
  go_wp2_with fail
  refine (pick_any _ _ _ _ _ HD.out.1 (by omega)).mono ?_
  rintro e w1 ⟨v, rfl, hv0, hv1, hr, hk⟩
  have hv1 := hv1 (by omega)
  have HD1 := Lib.hid (HD.out.draw hr hk)
  have HO1 := Lib.hid (O1.out.kp hk hlt)
  obtain ⟨n, rfl⟩ := Int.eq_ofNat_of_zero_le hv0
  clear hr hk HD O1 hv0
  go_wp2_with fail
  go_loopw [5, 6] (fun v i wr => ∃ (m : Nat) (l : List UInt8), m + l.length ≤ K ∧ i = .int .i64 (m : Int) ∧ OwnB wr w.heap.size v l ∧ Dr w R B (N + 1 + l.length) wr) (fun _ i _ => (intOf i).toNat)
  case atStart => exact ⟨n, [], by simp; omega, rfl, HO1.out, HD1.out⟩
  case round =>
    clear HO1 HD1 hv1
    obtain ⟨m, l, hml, rfl, ho, hd⟩ := hrel
    have HO := Lib.hid ho
    have HD := Lib.hid hd
    clear ho hd
    by_cases hm : 0 < m
    · have dm : decide ((0 : Int) < (m : Int)) = true := by simp; omega
      go_wp2_with fail
      refine (pick_any 2 _ _ _ _ HD.out.1 (by omega)).mono ?_
      rintro e w2 ⟨b, rfl, hb0, hb1, hr, hk⟩
      have hb1 := hb1 (by omega)
      have HD2 := Lib.hid (HD.out.draw hr hk)
      have HO2 := Lib.hid (HO.out.kp hk hlt)
      have HE : Hid (∃ c : UInt8, ((c.toNat : Nat) : Int) = 48 + b) := by
        rcases (show b = 0 ∨ b = 1 by omega) with rfl | rfl
        · exact ⟨48, rfl⟩
        · exact ⟨49, rfl⟩
      obtain ⟨c, hc⟩ := HE.out
      have HC := Lib.hid hc
      clear hr hk HO HD hc HE
      go_wp2_with (at_builtin; refine wpList_append_own _ rfl _ _ 22 rfl w.heap.size 5 i0 (.int .u8 0) 1 1 Try.underlying22 hi hz0 hz1 hz2 rfl (by decide) _ _ _ rfl (HO2.out.1.alloc _) ⟨w2.heap.size, 0, none⟩ 1 1 [.int .u8 (48 + b)] rfl rfl ?c1 ?c2 ?c3 ?c4 ?c5 ?_)
      case c1 => exact new_byte _ _ _
      case c2 => exact byte_one _
      case c3 => unfold maxLen; omega
      case c4 => omega
      case c5 => have := HD2.out.2.1.size; simp; omega
      intro v' w3 ho3 hg3 hnn
      have HD3 := Lib.hid ((HD2.out.alloc _).grown hg3 HO2.out.row)
      have HN : Hid (OwnB w3 w.heap.size v' (l ++ [c])) := OwnB.grow' ho3 HC.out (by simpa using hnn)
      clear ho3 hg3 hnn HO2 HD2
      go_wp2
      go_roundw
      case rel => exact ⟨m - 1, l ++ [c], by simp; omega, by go_num, HN.out, HD3.out.mono (by simp; omega)⟩
      case measure => simp [intOf]; omega
    · have dm : decide ((0 : Int) < (m : Int)) = false := by simp; omega
      have hcv := HO.out.conv (P := Try.prog) 22 9 5 Try.underlying22 Try.underlying5 Try.underlying9
      go_wp2
      go_ret
      exact ⟨bs l, rfl, Nat.zero_le _, by rw [bs_size]; omega, HD.out.mono (by omega)⟩
theorem no_over {a b : ByteArray} {m n : Nat} (ha : a.size ≤ m) (hb : b.size ≤ n) (h : m + n ≤ 1000000) : ¬ 9223372036854775807 < a.size + b.size := by omega
theorem size_mem4 {x : Int} (h : x ∈ [(3 : Int), 4, 5, 2]) : ∃ s : Nat, x = s ∧ 2 ≤ s ∧ s ≤ 5 := by
  simp at h
  rcases h with rfl | rfl | rfl | rfl
  · exact ⟨3, rfl, by omega, by omega⟩
  · exact ⟨4, rfl, by omega, by omega⟩
  · exact ⟨5, rfl, by omega, by omega⟩
  · exact ⟨2, rfl, by omega, by omega⟩
set_option maxHeartbeats 2000000 in
theorem l2some_any (R B N : Nat) (w : World) (h : Rd w R B N) (hN : N ≤ 700000) :
    Calls Try.prog 97 #[.pointer (some ⟨R, 0, none⟩)] w (SomeS 1 40 R B (N + 30) w) := by
  have hlt := h.lt.1
  have HD := Lib.hid (Dr.start h)
  clear h
  go_enter Try.func97, Try.ntmps97
  go_wp2_with fail
  refine (pick_any 4 _ _ _ _ HD.out.1 (by omega)).mono ?_
  rintro e w1 ⟨v, rfl, hv0, hv4, hr, hk⟩
  have HD1 := Lib.hid (HD.out.draw hr hk)
  clear hr hk HD hv4
  by_cases h0 : v = 0
  · subst h0
    go_wp2_with fail
    refine (some_any _ _ _ _ HD1.out.1 (by omega)).mono ?_
    rintro e w2 ⟨s, t, x, rfl, hv, hd⟩
    have HD2 := Lib.hid ((HD1.out.draw hd.1 hd.2.1).alloc (.cells #[.int .i64 s, .int .i64 t, .int .i64 x] 53))
    have HX2 := Lib.hid (B3.new w2 53 (.int .i64 s) (.int .i64 t) (.int .i64 x))
    have HV := Lib.hid hv
    have hR2 := hd.1.lt.1
    clear hd HD1 hv
    go_wp2_with fail
    generalize (w2.alloc (.cells #[.int .i64 s, .int .i64 t, .int .i64 x] 53)) = w3 at HD2 HX2 ⊢
    obtain ⟨c3, c4, c5, f3, f4, f5, hz3⟩ := HX2.out.facts
    have CN := Lib.hid (pick_any 40 _ _ _ w3.drew (HD2.out.drewN 1).1 (by omega))
    go_region_held3 (fun w' => w'.cell? ⟨w2.heap.size, 0, none⟩ = some (.int .i64 s) ∧ w'.cell? ⟨w2.heap.size, 1, none⟩ = some (.int .i64 t) ∧ w'.cell? ⟨w2.heap.size, 2, none⟩ = some (.int .i64 x)) (go_keep)
      (first | (go_at_call 98; refine CN.out.mono ?_; rintro e w4 ⟨n, rfl, hn0, hn1, hr4, hk4⟩; have HX4 := HX2.out.drewN 1 |>.kp hk4 (by omega); obtain ⟨q3, q4, q5, _, _, _, _⟩ := HX4.facts; have hn2 := hn1 (by omega); obtain ⟨k, rfl⟩ := Int.eq_ofNat_of_zero_le hn0; have hsum : IntKind.i64.wrap (1 + (k : Int)) = ((1 + k : Nat) : Int) := (by rw [IntKind.wrap_i64]; omega); clear hn0 hn1) | (go_at_call 113; refine (l1run s t x (1 + k) _ HV.out (by omega)).mono ?_; rintro e w5 ⟨rfl, hb5⟩; have HX5 := HX4.below hb5 HX4.facts.2.2.2.2.2.2; obtain ⟨q3, q4, q5, _, _, _, _⟩ := HX5.facts))
    go_wp2_with fail
    go_ret
    exact ⟨_, rfl, by rw [← size_list]; simp [run_length], by rw [← size_list]; simp [run_length]; omega, (((HD2.out.drewN 1).draw hr4 hk4).call hb5).mono (by omega)⟩
  · have d0 : (v == 0) = false := by rw [beq_eq_false_iff_ne]; exact h0
    by_cases h1 : v = 1
    · subst h1
      have g := Lib.hid (BI.lit w1 3 [3, 4, 5, 2])
      have HD2 := Lib.hid (HD1.out.alloc (.cells #[.int .i64 3, .int .i64 4, .int .i64 5, .int .i64 2] 3))
      have hR1 := HD1.out.1.lt.1
      clear HD1
      go_wp2_with fail
      refine (num_any [3, 4, 5, 2] w1.heap.size 4 _ _ _ _ HD2.out.1 (by omega) g.out (by omega) (by decide) (by decide)).mono ?_
      rintro e w2 ⟨z, rfl, hz, hr, hk⟩
      have HD3 := Lib.hid (HD2.out.draw hr hk)
      obtain ⟨s, rfl, h2, h5⟩ := size_mem4 hz
      clear hz hr hk HD2 g
      obtain ⟨p, HP⟩ : ∃ p, Hid (p = 2 ^ s) := ⟨2 ^ s, Lib.hid rfl⟩
      have hp : p ≤ 32 := by rw [HP.out]; exact Nat.pow_le_pow_right (n := 2) (by decide) h5
      have hp4 : 4 ≤ p := by rw [HP.out]; exact Nat.pow_le_pow_right (n := 2) (by decide) h2
      have C1 := Lib.hid fun w => mtaps_spec s w h2 (by omega)
      have HM := Lib.hid (mtaps_at s (2 ^ s))
      have HNE := Lib.hid (mtaps_ne s h2 (by omega))
      have hll : (mtaps s (2 ^ s)).length ≤ 256 := by have := mtaps_length s (2 ^ s); rw [← HP.out] at this ⊢; omega
      generalize mtaps s (2 ^ s) = L at C1 HM HNE hll
      go_wp2_with fail
      refine (C1.out _).mono ?_
      rintro e w3 ⟨v0, rfl, o0, hq⟩
      have HD4 := Lib.hid (HD3.out.call hq)
      have o0' : OwnI w3 w2.heap.size v0 L := o0
      obtain ⟨g0, k0, rfl, hg0, hcell⟩ := o0.row.form HNE.out
      obtain ⟨g1, k1, e1, hg1, _, _⟩ := o0'.form HNE.out
      have hg01 : g0 = g1 := by simp at e1; exact e1.1
      subst hg01
      have HCL := Lib.hid hcell
      have hgR : g0 ≠ R := by have := HD3.out.1.lt.1; omega
      have hlen : 0 < L.length := List.length_pos_iff.2 HNE.out
      clear hcell e1 o0 o0' hq HD3
      have C2 := Lib.hid fun w => two_p s p w (by omega) HP
      have CN := Lib.hid (pick_any L.length _ _ _ w3.drew (HD4.out.drewN 1).1 (by omega))
      have hpw : IntKind.i64.wrap ((p : Int) - 1) = ((p - 1 : Nat) : Int) := by rw [IntKind.wrap_i64]; omega
      have HP2 : Hid (∀ w4 : World, Kp R w3.drew w4 → ∀ q : Nat, q < L.length → ∃ t : Nat, w4.cell? ⟨g0, q, none⟩ = some (.int .i64 (t : Int)) ∧ VR s t 1) := by
        intro w4 hk q hql
        obtain ⟨t, ht, ht1, ht2, _⟩ := HM.out _ (List.getElem_mem hql)
        have hc := HCL.out q _ (List.getElem?_eq_getElem hql)
        rw [ht] at hc
        exact ⟨t, (World.cell?_of_block (w := w3.drew) (w' := w4) (a := ⟨g0, q, none⟩) (hk.at_ hgR hg0)).trans hc, h2, by omega, ht1, ht2, by rw [← HP.out]; omega⟩
      clear HM HCL HNE C1
      go_wp2_with fail
      go_region_with (first | (go_at_call 98; refine CN.out.mono ?_; rintro e w4 ⟨b, rfl, hb0, hb1, hr, hk⟩; have hb2 := hb1 (by omega); have HD5 := Lib.hid ((HD4.out.drewN 1).draw hr hk); obtain ⟨q, rfl⟩ := Int.eq_ofNat_of_zero_le hb0; have hql : q < L.length := (by omega); obtain ⟨t, hc, hv⟩ := HP2.out w4 hk q hql; have HV := Lib.hid hv; clear hr hk hb0 hb1 hv) | (go_at_call 81; refine (C2.out _).mono ?_; rintro e w' ⟨rfl, rfl⟩) | (go_at_call 113; refine (l1run s t 1 (p - 1) _ HV.out (by omega)).mono ?_; rintro e w5 ⟨rfl, hb5⟩))
      all_goals
        go_wp2_with fail
        go_ret
        exact ⟨_, rfl, by rw [← size_list]; simp [run_length]; omega, by rw [← size_list]; simp [run_length]; omega, (HD5.out.call hb5).mono (by omega)⟩
    · have d1 : (v == 1) = false := by rw [beq_eq_false_iff_ne]; exact h1
      by_cases h2 : v = 2
      · subst h2
        go_wp2_with fail
        refine (string_any 5 _ _ _ _ HD1.out.1 (by omega) (by omega)).mono ?_
        rintro e w2 ⟨q, rfl, _, hq5, hd⟩
        have HD2 := Lib.hid (HD1.out.draw hd.1 hd.2.1)
        clear hd HD1
        have g1 : ¬ 9223372036854775807 < q.size + (⟨#[49]⟩ : ByteArray).size := no_over hq5 (show (⟨#[49]⟩ : ByteArray).size ≤ 1 by decide) (by omega)
        go_wp2_with fail
        refine (pick_any 4 _ _ _ _ HD2.out.1 (by omega)).mono ?_
        rintro e w3 ⟨b, rfl, hb0, hb1, hr, hk⟩
        have hb1 := hb1 (by omega)
        have HD3 := Lib.hid (HD2.out.draw hr hk)
        obtain ⟨k, rfl⟩ := Int.eq_ofNat_of_zero_le hb0
        clear hr hk HD2 hb0
        have hqs : (q ++ (⟨#[49]⟩ : ByteArray)).size = q.size + 1 := by rw [ByteArray.size_append]; rfl
        have C2 := Lib.hid fun w => many_spec (q ++ (⟨#[49]⟩ : ByteArray)) (1 + k) w (by omega) (by omega)
        rw [show ((1 + k : Nat) : Int) = 1 + (k : Int) by omega] at C2
        have HL1 : Hid (1 ≤ (repS (1 + k) (q ++ (⟨#[49]⟩ : ByteArray))).size ∧ (repS (1 + k) (q ++ (⟨#[49]⟩ : ByteArray))).size ≤ 40) := by
          rw [repS_size, hqs]
          have e1 := Nat.mul_le_mul (show 1 + k ≤ 4 by omega) (show q.size + 1 ≤ 6 by omega)
          have e2 := Nat.mul_le_mul (show 1 ≤ 1 + k by omega) (show 1 ≤ q.size + 1 by omega)
          exact ⟨by omega, by omega⟩
        clear hqs
        go_wp2_with fail
        refine (C2.out _).mono ?_
        rintro e w' ⟨rfl, rfl⟩
        go_wp2
        go_ret
        exact ⟨_, rfl, HL1.out.1, HL1.out.2, HD3.out.mono (by omega)⟩
      · have d2 : (v == 2) = false := by rw [beq_eq_false_iff_ne]; exact h2
        go_wp2_with fail
        refine (string_any 24 _ _ _ _ HD1.out.1 (by omega) (by omega)).mono ?_
        rintro e w2 ⟨q, rfl, _, hq5, hd⟩
        have HD2 := Lib.hid (HD1.out.draw hd.1 hd.2.1)
        clear hd HD1
        have g1 : ¬ 9223372036854775807 < q.size + (⟨#[48]⟩ : ByteArray).size := no_over hq5 (show (⟨#[48]⟩ : ByteArray).size ≤ 1 by decide) (by omega)
        have hqs : (q ++ (⟨#[48]⟩ : ByteArray)).size = q.size + 1 := by rw [ByteArray.size_append]; rfl
        have HQS := Lib.hid hqs
        clear hqs
        go_wp2
        go_ret
        exact ⟨_, rfl, by rw [HQS.out]; omega, by rw [HQS.out]; omega, HD2.out.mono (by omega)⟩
end Go.Proofs.Ytibnlaphkmnhfaa
