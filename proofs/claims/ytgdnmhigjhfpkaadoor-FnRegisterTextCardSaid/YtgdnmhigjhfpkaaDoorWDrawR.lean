/- Contracts of the functions that draw registers. -/
import Derived.Test.YtgdnmhigjhfpkaaDoorWDraw
import Derived.Deep.RegionHeld3
namespace Go.Proofs.YtgdnmhigjhfpkaaDoor
open Go.RowKit SS
set_option maxRecDepth 100000
/-- how far a call that draws has come since the world w -/
def Dr (w : World) (R B N : Nat) (wr : World) : Prop := Rd wr R B N ∧ Kp R w wr ∧ R < w.heap.size
section
variable {w wr w' : World} {R B N : Nat}
theorem Dr.start (h : Rd w R B N) : Dr w R B N w := ⟨h, Kp.refl _ _, h.lt.1⟩
theorem Dr.alloc (h : Dr w R B N wr) (o : Obj) : Dr w R B N (wr.alloc o) := ⟨h.1.alloc o, h.2.1.alloc (by have := h.1.lt; omega) o, h.2.2⟩
theorem Dr.call (h : Dr w R B N wr) (hb : Below wr.heap.size wr w') : Dr w R B N w' := ⟨h.1.below hb, h.2.1.call hb h.1.lt.1, h.2.2⟩
theorem Dr.draw {M : Nat} (h : Dr w R B N wr) (hr : Rd w' R B M) (hk : Kp R wr w') : Dr w R B M w' := ⟨hr, h.2.1.trans hk, h.2.2⟩
theorem Dr.set (h : Dr w R B N wr) {p : Addr} (hp : w.heap.size ≤ p.block) (u : Value) : Dr w R B N (wr.setCell p u) := ⟨h.1.other (by have := h.2.2; omega) u, h.2.1.new hp h.2.2 u, h.2.2⟩
theorem Dr.drewN (h : Dr w R B N wr) (n : Nat) : Dr w R B N (wr.drewN n) := ⟨h.1.drewN n, h.2.1.drewN n, h.2.2⟩
theorem Dr.mono {N' : Nat} (h : Dr w R B N wr) (hN : N ≤ N') : Dr w R B N' wr := ⟨h.1.mono hN, h.2⟩
theorem Dr.below (h : Dr w R B N wr) (hB : B ≤ R) : Below B w wr := h.2.1.1.mono hB
end
/-- what a call that draws a valid register returns -/
def SomeV (R B N : Nat) (w : World) (e : Ending) (w' : World) : Prop := ∃ s t x : Nat, e = .returned (.agg #[.int .i64 s, .int .i64 t, .int .i64 x]) ∧ VR s t x ∧ Dr w R B N w'
/-- what a call that draws a register returns -/
def SomeA (R B N : Nat) (w : World) (e : Ending) (w' : World) : Prop := ∃ s t x : Int, e = .returned (.agg #[.int .i64 s, .int .i64 t, .int .i64 x]) ∧ Dr w R B N w'
theorem size_mem {x : Int} (h : x ∈ [(3 : Int), 4, 5, 2, 6, 7, 8]) : ∃ s : Nat, x = s ∧ 2 ≤ s ∧ s ≤ 8 := by
  simp at h
  rcases h with rfl | rfl | rfl | rfl | rfl | rfl | rfl
  · exact ⟨3, rfl, by omega, by omega⟩
  · exact ⟨4, rfl, by omega, by omega⟩
  · exact ⟨5, rfl, by omega, by omega⟩
  · exact ⟨2, rfl, by omega, by omega⟩
  · exact ⟨6, rfl, by omega, by omega⟩
  · exact ⟨7, rfl, by omega, by omega⟩
  · exact ⟨8, rfl, by omega, by omega⟩
theorem taps_mem (s : Nat) (h2 : 2 ≤ s) (h8 : s ≤ 8) : ∃ t : Nat, [(3 : Int), 3, 3, 5, 3, 3, 29][s - 2]? = some (t : Int) ∧ 1 ≤ t ∧ t < 2 ^ s := by
  rcases (show s = 2 ∨ s = 3 ∨ s = 4 ∨ s = 5 ∨ s = 6 ∨ s = 7 ∨ s = 8 by omega) with rfl | rfl | rfl | rfl | rfl | rfl | rfl
  · exact ⟨3, rfl, by omega, by omega⟩
  · exact ⟨3, rfl, by omega, by omega⟩
  · exact ⟨3, rfl, by omega, by omega⟩
  · exact ⟨5, rfl, by omega, by omega⟩
  · exact ⟨3, rfl, by omega, by omega⟩
  · exact ⟨3, rfl, by omega, by omega⟩
  · exact ⟨29, rfl, by omega, by omega⟩
theorem two_p (s p : Nat) (w : World) (h8 : s ≤ 8) (hp : Hid (p = 2 ^ s)) :
    Calls Tryd.prog 30 #[.int .i64 (s : Int)] w fun e w' => e = .returned (.int .i64 p) ∧ w = w' :=
  (two_spec (s : Int) w (by omega) (by omega)).mono fun e w' ⟨he, hw⟩ => ⟨by rw [he, hp.out, Int.toNat_natCast]; simp, hw⟩
set_option maxHeartbeats 2000000 in
theorem some_any (R B N : Nat) (w : World) (h : Rd w R B N) (hN : N ≤ 900000) :
    Calls Tryd.prog 25 #[.pointer (some ⟨R, 0, none⟩)] w (SomeV R B (N + 4) w) := by
  have hlt := h.lt.1
  have D0 := ((Dr.start h).alloc (.cells #[.int .i64 0, .int .i64 0, .int .i64 0] 25)).alloc (.cells #[.int .i64 3, .int .i64 4, .int .i64 5, .int .i64 2, .int .i64 6, .int .i64 7, .int .i64 8] 3)
  have b0 := (B3.new w 25 (.int .i64 0) (.int .i64 0) (.int .i64 0)).alloc (.cells #[.int .i64 3, .int .i64 4, .int .i64 5, .int .i64 2, .int .i64 6, .int .i64 7, .int .i64 8] 3)
  have g0 := BI.lit (w.alloc (.cells #[.int .i64 0, .int .i64 0, .int .i64 0] 25)) 3 [3, 4, 5, 2, 6, 7, 8]
  rw [World.size_alloc] at g0
  have HD := Lib.hid D0
  have HB := Lib.hid b0
  have HG := Lib.hid g0
  clear D0 b0 g0 h
  go_enter Tryd.func25, Tryd.ntmps25
  go_wp2_with fail
  refine (num_any [3, 4, 5, 2, 6, 7, 8] (w.heap.size + 1) 7 _ _ _ _ HD.out.1 (by omega) HG.out (by omega) (by decide) (by decide)).mono ?_
  rintro e w1 ⟨z, rfl, hz, hr, hk⟩
  have HD1 := Lib.hid (HD.out.draw hr hk)
  have HB1 := Lib.hid (HB.out.kp hk (by omega))
  obtain ⟨s, rfl, h2, h8⟩ := size_mem hz
  clear hz hr hk HD HB HG
  obtain ⟨p, HP⟩ : ∃ p, Hid (p = 2 ^ s) := ⟨2 ^ s, Lib.hid rfl⟩
  have hp : p ≤ 256 := by rw [HP.out]; exact Nat.pow_le_pow_right (n := 2) (by decide) h8
  have hp4 : 4 ≤ p := by rw [HP.out]; exact Nat.pow_le_pow_right (n := 2) (by decide) h2
  have C := Lib.hid fun w => two_p s p w h8 HP
  go_wp2_with fail
  refine (C.out _).mono ?_
  rintro e w' ⟨rfl, rfl⟩
  go_wp2_with fail
  refine (pick_any _ _ _ _ _ HD1.out.1 (by omega)).mono ?_
  rintro e w2 ⟨v, rfl, hv0, hv1, hr, hk⟩
  have hv1 := hv1 (by omega)
  have HD2 := Lib.hid (HD1.out.draw hr hk)
  have HB2 := Lib.hid (HB1.out.kp hk (by omega))
  clear hr hk HD1 HB1
  obtain ⟨t, rfl⟩ := Int.eq_ofNat_of_zero_le hv0
  clear hv0
  go_wp2_with fail
  refine (pick_any 2 _ _ _ _ HD2.out.1 (by omega)).mono ?_
  rintro e w3 ⟨c, rfl, hc0, hc1, hr, hk⟩
  have HD3 := Lib.hid (HD2.out.draw hr hk)
  have HB3 := Lib.hid (HB2.out.kp hk (by omega))
  clear hr hk HD2 HB2 hc1
  by_cases hc : c = 0
  · subst hc
    have D4 := HD3.out.alloc (.cells #[.int .i64 3, .int .i64 3, .int .i64 3, .int .i64 5, .int .i64 3, .int .i64 3, .int .i64 29] 3)
    have b4 := HB3.out.alloc (.cells #[.int .i64 3, .int .i64 3, .int .i64 3, .int .i64 5, .int .i64 3, .int .i64 3, .int .i64 29] 3)
    have g4 := BI.lit w3 3 [3, 3, 3, 5, 3, 3, 29]
    obtain ⟨t', ht', ht1, ht2⟩ := taps_mem s h2 h8
    have ct : (w3.alloc (.cells #[.int .i64 3, .int .i64 3, .int .i64 3, .int .i64 5, .int .i64 3, .int .i64 3, .int .i64 29] 3)).cell? ⟨w3.heap.size, s - 2, none⟩ = some (.int .i64 (t' : Int)) := g4.cell (s - 2) _ ht'
    have HD4 := Lib.hid D4
    have HB4 := Lib.hid b4
    have HT2 := Lib.hid ht2
    clear ht' D4 b4 g4 HD3 HB3 hv1 ht2
    have hs2 : ((s : Int) - 2).toNat = s - 2 := by omega
    go_wp2_with fail
    refine (C.out _).mono ?_
    rintro e w' ⟨rfl, rfl⟩
    go_wp2_with fail
    refine (pick_any _ _ _ _ _ HD4.out.1 (by omega)).mono ?_
    rintro e w5 ⟨v, rfl, hv0, hv1, hr, hk⟩
    have hv1 := hv1 (by omega)
    have HD5 := Lib.hid (HD4.out.draw hr hk)
    have b5 := HB4.out.kp hk (by omega)
    clear hr hk HD4 HB4 ct hs2
    obtain ⟨x, rfl⟩ := Int.eq_ofNat_of_zero_le hv0
    obtain ⟨c0, c1, c2, f0, f1, f2, hz⟩ := b5.facts
    have HV : Hid (VR s t' x) := ⟨h2, h8, ht1, HT2.out, by rw [← HP.out]; omega⟩
    go_wp2
    refine bodyPost_ret (v := .agg #[.int .i64 s, .int .i64 t', .int .i64 x]) (by simp [results, Tryd.results25, go_sem, c0, c1, c2]) rfl ⟨s, t', x, rfl, HV.out, ?_⟩
    exact ((HD5.out.set (by simp) _).set (by simp) _).set (by simp) _
  · have hcd : (c == 0) = false := by rw [beq_eq_false_iff_ne]; exact hc
    go_wp2_with fail
    refine (C.out _).mono ?_
    rintro e w' ⟨rfl, rfl⟩
    go_wp2_with fail
    refine (pick_any _ _ _ _ _ HD3.out.1 (by omega)).mono ?_
    rintro e w5 ⟨v, rfl, hw0, hw1, hr, hk⟩
    have hw1 := hw1 (by omega)
    have HD5 := Lib.hid (HD3.out.draw hr hk)
    have b5 := HB3.out.kp hk (by omega)
    clear hr hk HD3 HB3
    obtain ⟨x, rfl⟩ := Int.eq_ofNat_of_zero_le hw0
    obtain ⟨c0, c1, c2, f0, f1, f2, hz⟩ := b5.facts
    have HV : Hid (VR s (1 + t) x) := ⟨h2, h8, by omega, by rw [← HP.out]; omega, by rw [← HP.out]; omega⟩
    go_wp2
    refine bodyPost_ret (v := .agg #[.int .i64 s, .int .i64 ((1 + t : Nat) : Int), .int .i64 x]) (by simp [results, Tryd.results25, go_sem, c0, c1, c2]) rfl ⟨s, 1 + t, x, rfl, HV.out, ?_⟩
    exact ((HD5.out.set (by simp) _).set (by simp) _).set (by simp) _
theorem Dr.box2 {w : World} {R B N : Nat} (h : Rd w R B N) (s t x : Value) :
    Dr w R B N ((w.alloc (.cells #[s, t, x] 25)).alloc (.cells #[.int .i64 0, .int .i64 0, .int .i64 0] 25)) := ((Dr.start h).alloc _).alloc _
set_option maxHeartbeats 2000000 in
theorem bad_any (R B N s t x : Nat) (w : World) (h : Rd w R B N) (hN : N ≤ 900000) (hv : VR s t x) :
    Calls Tryd.prog 34 #[.pointer (some ⟨R, 0, none⟩), .agg #[.int .i64 s, .int .i64 t, .int .i64 x]] w (SomeA R B (N + 2) w) := by
  have hlt := h.lt.1
  obtain ⟨p, HP⟩ : ∃ p, Hid (p = 2 ^ s) := ⟨2 ^ s, Lib.hid rfl⟩
  have C := Lib.hid fun w => two_p s p w hv.2.1 HP
  clear hv
  have D0 := Dr.box2 h (.int .i64 s) (.int .i64 t) (.int .i64 x)
  have b0 := (B3.new w 25 (.int .i64 s) (.int .i64 t) (.int .i64 x)).alloc (.cells #[.int .i64 0, .int .i64 0, .int .i64 0] 25)
  have r0 := B3.new (w.alloc (.cells #[.int .i64 s, .int .i64 t, .int .i64 x] 25)) 25 (.int .i64 0) (.int .i64 0) (.int .i64 0)
  rw [World.size_alloc] at r0
  have HD := Lib.hid D0
  have HB := Lib.hid b0
  have HR := Lib.hid r0
  clear D0 b0 r0 h
  go_enter Tryd.func34, Tryd.ntmps34
  go_wp2_with fail
  refine (pick_any 40 _ _ _ _ HD.out.1 (by omega)).mono ?_
  rintro e w1 ⟨v, rfl, hv0, _, hr, hk⟩
  have HD1 := Lib.hid (HD.out.draw hr hk)
  have HB1 := Lib.hid (HB.out.kp hk (by omega))
  have HR1 := Lib.hid (HR.out.kp hk (by omega))
  clear hr hk HD HB HR
  by_cases hv : v = 0
  · subst hv
    have g := Lib.hid (BI.lit w1 3 [1, 9, 0, -1, 9223372036854775807])
    have HD2 := Lib.hid (HD1.out.alloc (.cells #[.int .i64 1, .int .i64 9, .int .i64 0, .int .i64 (-1), .int .i64 9223372036854775807] 3))
    have HB2 := Lib.hid (HB1.out.alloc (.cells #[.int .i64 1, .int .i64 9, .int .i64 0, .int .i64 (-1), .int .i64 9223372036854775807] 3))
    have HR2 := Lib.hid (HR1.out.alloc (.cells #[.int .i64 1, .int .i64 9, .int .i64 0, .int .i64 (-1), .int .i64 9223372036854775807] 3))
    have hlt1 := HD1.out.1.lt.1
    clear HD1 HB1 HR1
    go_wp2_with fail
    refine (num_any [1, 9, 0, -1, 9223372036854775807] w1.heap.size 5 _ _ _ _ HD2.out.1 (by omega) g.out (by omega) (by decide) (by decide)).mono ?_
    rintro e w3 ⟨y, rfl, _, hr, hk⟩
    have HD3 := Lib.hid (HD2.out.draw hr hk)
    have b3 := HB2.out.kp hk (by omega)
    have r3 := HR2.out.kp hk (by omega)
    clear hr hk HD2 HB2 HR2
    obtain ⟨c0, c1, c2, f0, f1, f2, hz⟩ := b3.facts
    obtain ⟨c3, c4, c5, f3, f4, f5, hz3⟩ := r3.facts
    go_wp2
    refine bodyPost_ret (v := .agg #[.int .i64 y, .int .i64 t, .int .i64 x]) (by simp [results, Tryd.results34, go_sem, c3, c4, c5]) rfl ⟨y, t, x, rfl, ?_⟩
    exact (((HD3.out.set (by simp) _).set (by simp) _).set (by simp) _).set (by simp) _
  · have d0 : (v == 0) = false := by rw [beq_eq_false_iff_ne]; exact hv
    by_cases hv1 : v = 1
    · subst hv1
      have g := Lib.hid (BI.lit w1 3 [0, 256, -1, (p : Int)])
      have HD2 := Lib.hid (HD1.out.alloc (.cells #[.int .i64 0, .int .i64 256, .int .i64 (-1), .int .i64 (p : Int)] 3))
      have HB2 := Lib.hid (HB1.out.alloc (.cells #[.int .i64 0, .int .i64 256, .int .i64 (-1), .int .i64 (p : Int)] 3))
      have HR2 := Lib.hid (HR1.out.alloc (.cells #[.int .i64 0, .int .i64 256, .int .i64 (-1), .int .i64 (p : Int)] 3))
      have hlt1 := HD1.out.1.lt.1
      obtain ⟨c0, c1, c2, f0, f1, f2, hz⟩ := HB1.out.facts
      clear HD1 HB1 HR1
      go_wp2_with fail
      refine (C.out _).mono ?_
      rintro e w' ⟨rfl, rfl⟩
      go_wp2_with fail
      refine (num_any [0, 256, -1, (p : Int)] w1.heap.size 4 _ _ _ _ HD2.out.1 (by omega) g.out (by omega) (by simp) (by simp)).mono ?_
      rintro e w3 ⟨y, rfl, _, hr, hk⟩
      have HD3 := Lib.hid (HD2.out.draw hr hk)
      have b3 := HB2.out.kp hk (by omega)
      have r3 := HR2.out.kp hk (by omega)
      clear hr hk HD2 HB2 HR2 c0 c1 c2 f0 f1 f2 hz
      obtain ⟨c0, c1, c2, f0, f1, f2, hz⟩ := b3.facts
      obtain ⟨c3, c4, c5, f3, f4, f5, hz3⟩ := r3.facts
      go_wp2
      refine bodyPost_ret (v := .agg #[.int .i64 s, .int .i64 y, .int .i64 x]) (by simp [results, Tryd.results34, go_sem, c3, c4, c5]) rfl ⟨s, y, x, rfl, ?_⟩
      exact (((HD3.out.set (by simp) _).set (by simp) _).set (by simp) _).set (by simp) _
    · have d1 : (v == 1) = false := by rw [beq_eq_false_iff_ne]; exact hv1
      by_cases hv2 : v = 2
      · subst hv2
        have g := Lib.hid (BI.lit w1 3 [-1, (p : Int), 9223372036854775807])
        have HD2 := Lib.hid (HD1.out.alloc (.cells #[.int .i64 (-1), .int .i64 (p : Int), .int .i64 9223372036854775807] 3))
        have HB2 := Lib.hid (HB1.out.alloc (.cells #[.int .i64 (-1), .int .i64 (p : Int), .int .i64 9223372036854775807] 3))
        have HR2 := Lib.hid (HR1.out.alloc (.cells #[.int .i64 (-1), .int .i64 (p : Int), .int .i64 9223372036854775807] 3))
        have hlt1 := HD1.out.1.lt.1
        obtain ⟨c0, c1, c2, f0, f1, f2, hz⟩ := HB1.out.facts
        clear HD1 HB1 HR1
        go_wp2_with fail
        refine (C.out _).mono ?_
        rintro e w' ⟨rfl, rfl⟩
        go_wp2_with fail
        refine (num_any [-1, (p : Int), 9223372036854775807] w1.heap.size 3 _ _ _ _ HD2.out.1 (by omega) g.out (by omega) (by simp) (by simp)).mono ?_
        rintro e w3 ⟨y, rfl, _, hr, hk⟩
        have HD3 := Lib.hid (HD2.out.draw hr hk)
        have b3 := HB2.out.kp hk (by omega)
        have r3 := HR2.out.kp hk (by omega)
        clear hr hk HD2 HB2 HR2 c0 c1 c2 f0 f1 f2 hz
        obtain ⟨c0, c1, c2, f0, f1, f2, hz⟩ := b3.facts
        obtain ⟨c3, c4, c5, f3, f4, f5, hz3⟩ := r3.facts
        go_wp2
        refine bodyPost_ret (v := .agg #[.int .i64 s, .int .i64 t, .int .i64 y]) (by simp [results, Tryd.results34, go_sem, c3, c4, c5]) rfl ⟨s, t, y, rfl, ?_⟩
        exact (((HD3.out.set (by simp) _).set (by simp) _).set (by simp) _).set (by simp) _
      · have d2 : (v == 2) = false := by rw [beq_eq_false_iff_ne]; exact hv2
        obtain ⟨c0, c1, c2, f0, f1, f2, hz⟩ := HB1.out.facts
        obtain ⟨c3, c4, c5, f3, f4, f5, hz3⟩ := HR1.out.facts
        go_wp2
        refine bodyPost_ret (v := .agg #[.int .i64 s, .int .i64 t, .int .i64 x]) (by simp [results, Tryd.results34, go_sem, c3, c4, c5]) rfl ⟨s, t, x, rfl, ?_⟩
        exact (((HD1.out.mono (by omega)).set (by simp) _).set (by simp) _).set (by simp) _
set_option maxHeartbeats 1000000 in
theorem l1open_any (R B N : Nat) (w : World) (h : Rd w R B N) (hN : N ≤ 800000) :
    Calls Tryd.prog 22 #[.pointer (some ⟨R, 0, none⟩)] w (SomeA R B (N + 6) w) := by
  have hlt := h.lt.1
  have HD := Lib.hid ((Dr.start h).alloc (.cells #[.int .i64 0, .int .i64 0, .int .i64 0] 25))
  have HB := Lib.hid (B3.new w 25 (.int .i64 0) (.int .i64 0) (.int .i64 0))
  clear h
  go_enter Tryd.func22, Tryd.ntmps22
  go_wp2_with fail
  refine (some_any R B N _ HD.out.1 (by omega)).mono ?_
  rintro e w1 ⟨s, t, x, rfl, hv, hd⟩
  have HD1 := Lib.hid (HD.out.draw hd.1 hd.2.1)
  have HB1 := Lib.hid (HB.out.kp hd.2.1 (by omega))
  clear hd HD HB
  go_wp2_with fail
  refine (bad_any R B _ s t x _ HD1.out.1 (by omega) hv).mono ?_
  rintro e w2 ⟨a, b, c, rfl, hd⟩
  have HD2 := Lib.hid (HD1.out.draw hd.1 hd.2.1)
  have b2 := HB1.out.kp hd.2.1 (by omega)
  clear hd HD1 HB1 hv
  obtain ⟨c0, c1, c2, f0, f1, f2, hz⟩ := b2.facts
  go_wp2
  refine bodyPost_ret (v := .agg #[.int .i64 a, .int .i64 b, .int .i64 c]) (by simp [results, Tryd.results22, go_sem, c0, c1, c2]) rfl ⟨a, b, c, rfl, ?_⟩
  exact ((HD2.out.set (by simp) _).set (by simp) _).set (by simp) _
end Go.Proofs.YtgdnmhigjhfpkaaDoor
