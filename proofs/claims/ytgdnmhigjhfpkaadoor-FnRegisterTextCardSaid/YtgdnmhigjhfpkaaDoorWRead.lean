/- The source of drawn numbers: what is kept of it, and the contracts of its functions. -/
import Derived.Test.YtgdnmhigjhfpkaaDoorWPar
import Derived.Test.YtgdnmhigjhfpkaaDoorWBaseI
import Derived.BigQuiet
import Derived.IntWalk
namespace Go.Proofs.YtgdnmhigjhfpkaaDoor
open Go.RowKit SS
set_option maxRecDepth 100000

/-- a slice of bytes as it came in -/
def IsRow (k : IntKind) (w : World) (A : Option Addr) (len cap : Nat) (zs : List Int) : Prop :=
  (A = none ∧ len = 0 ∧ cap = 0 ∧ zs = []) ∨
  ∃ x, A = some x ∧ len ≤ cap ∧ cap ≤ maxLen ∧ zs.length = cap ∧ (∀ i, i < zs.length → w.cell? (x.add i) = some (.int k (zs.getD i 0))) ∧ (∀ n ∈ zs, (Lit.int k n).wf = true)
/-- bytes that are only read -/
def CodeB (w : World) (B : Nat) (A : Option Addr) (len : Nat) : Prop :=
  0 < len → ∃ b off, A = some ⟨b, off, none⟩ ∧ b < B ∧ ∀ i, i < len → ∃ z : Nat, z < 256 ∧ w.cell? ⟨b, off + i, none⟩ = some (.int .u8 (z : Int))
theorem CodeB.below {w w' : World} {B len : Nat} {A : Option Addr} (h : CodeB w B A len) (hb : Below B w w') : CodeB w' B A len := fun h0 => by
  obtain ⟨b, off, e, hB, hc⟩ := h h0
  refine ⟨b, off, e, hB, fun i hi => ?_⟩
  obtain ⟨z, hz, hcell⟩ := hc i hi
  exact ⟨z, hz, (hb.cell (p := ⟨b, off + i, none⟩) hB).trans hcell⟩
theorem CodeB.mono {w : World} {B B' len : Nat} {A : Option Addr} (h : CodeB w B A len) (hB : B ≤ B') : CodeB w B' A len := fun h0 => by
  obtain ⟨b, off, e, hb, hc⟩ := h h0
  exact ⟨b, off, e, by omega, hc⟩
theorem CodeB.next {w w' : World} {len : Nat} {A : Option Addr} (h : CodeB w w.heap.size A len) (hb : Below w.heap.size w w') : CodeB w' w'.heap.size A len := (h.below hb).mono hb.size
theorem CodeB.cut {w : World} {B len n : Nat} {A : Option Addr} (h : CodeB w B A len) (hn : n ≤ len) : CodeB w B A n := fun h0 => by
  obtain ⟨b, off, e, hB, hc⟩ := h (by omega)
  exact ⟨b, off, e, hB, fun i hi => hc i (by omega)⟩
theorem IsRow.code {w : World} {A : Option Addr} {len cap : Nat} {zs : List Int} (h : IsRow .u8 w A len cap zs) : CodeB w w.heap.size A len ∧ len ≤ cap ∧ len ≤ maxLen := by
  rcases h with ⟨rfl, rfl, rfl, rfl⟩ | ⟨⟨b, off, spot⟩, rfl, hl, hm, hz, hc, hw⟩
  · exact ⟨fun h => absurd h (by omega), Nat.le_refl _, Nat.zero_le _⟩
  · refine ⟨fun h0 => ?_, hl, by omega⟩
    have hspot : spot = none := by simpa [Addr.add] using World.cell?_spot (hc 0 (by omega))
    subst hspot
    refine ⟨b, off, rfl, World.block_lt_of_cell? w _ (hc 0 (by omega)), fun i hi => ?_⟩
    have hc' := hc i (by omega)
    have e : (⟨b, off, none⟩ : Addr).add i = ⟨b, off + i, none⟩ := by unfold Addr.add; split <;> simp_all
    rw [e] at hc'
    have hm' : zs.getD i 0 ∈ zs := by
      rw [List.getD_eq_getElem?_getD, List.getElem?_eq_getElem (show i < zs.length by omega)]
      simp
    have hwf := hw _ hm'
    have hr : 0 ≤ zs.getD i 0 ∧ zs.getD i 0 < 256 := by
      simp only [Lit.wf, Bool.and_eq_true, decide_eq_true_eq] at hwf
      have h1 : (0 : Int) ≤ zs.getD i 0 := hwf.1
      have h2 : zs.getD i 0 ≤ (255 : Int) := hwf.2
      omega
    obtain ⟨z, hz'⟩ := Int.eq_ofNat_of_zero_le hr.1
    exact ⟨z, by omega, by rw [hc', hz']⟩
/-- of the blocks that are there only R may have changed -/
def Kp (R : Nat) (w w' : World) : Prop := Below R w w' ∧ ∀ b, R < b → b < w.heap.size → w'.heap[b]? = w.heap[b]?
/-- a source of drawn numbers in block R, over bytes below B, of which at most N numbers were drawn -/
def Rd (w : World) (R B N : Nat) : Prop :=
  ∃ A len cap p, w.heap[R]? = some (.cells #[.slice A len cap, .int .i64 ((p : Nat) : Int)] 55 (0, 0)) ∧ B ≤ R ∧ len ≤ 2000 ∧ p ≤ N ∧ CodeB w B A len
section
variable {w w' w'' : World} {R B N : Nat}
theorem Kp.refl (R : Nat) (w : World) : Kp R w w := ⟨Below.refl _ _, fun _ _ _ => rfl⟩
theorem Kp.trans (h : Kp R w w') (k : Kp R w' w'') : Kp R w w'' :=
  ⟨h.1.trans k.1, fun b hb hs => (k.2 b hb (by have := h.1.size; omega)).trans (h.2 b hb hs)⟩
theorem Kp.of_below (hb : Below w.heap.size w w') (hR : R < w.heap.size) : Kp R w w' := ⟨hb.mono (by omega), fun b _ hs => hb.block b hs⟩
theorem Kp.call (h : Kp R w w') (hb : Below w'.heap.size w' w'') (hR : R < w'.heap.size) : Kp R w w'' := h.trans (Kp.of_below hb hR)
theorem Kp.drewN (h : Kp R w w') (n : Nat) : Kp R w (w'.drewN n) := by
  refine ⟨?_, h.2⟩
  induction n generalizing w' with
  | zero => exact h.1
  | succ n ih => rw [Nat.add_comm, ← World.drewN_drewN]; exact ih ⟨h.1.drew, h.2⟩
theorem Kp.alloc (h : Kp R w w') (hR : R ≤ w'.heap.size) (o : Obj) : Kp R w (w'.alloc o) :=
  ⟨h.1.alloc hR o, fun b hb hs => (Below.heap_alloc _ _ _ (by have := h.1.size; omega)).trans (h.2 b hb hs)⟩
theorem Kp.new (h : Kp R w w') {p : Addr} (hp : w.heap.size ≤ p.block) (hR : R < w.heap.size) (u : Value) : Kp R w (w'.setCell p u) :=
  ⟨h.1.setCell (by omega) u, fun b hb hs => (Below.heap_setCell _ _ _ _ (by omega)).trans (h.2 b hb hs)⟩
theorem Kp.self (h : Kp R w w') (i : Nat) (u : Value) : Kp R w (w'.setCell ⟨R, i, none⟩ u) :=
  ⟨h.1.setCell (Nat.le_refl _) u, fun b hb hs => (Below.heap_setCell w' ⟨R, i, none⟩ u b (show b ≠ R by omega)).trans (h.2 b hb hs)⟩
theorem Kp.at_ (h : Kp R w w') {b : Nat} (hb : b ≠ R) (hs : b < w.heap.size) : w'.heap[b]? = w.heap[b]? := by
  rcases Nat.lt_or_gt_of_ne hb with hl | hg
  · exact h.1.block b hl
  · exact h.2 b hg hs
theorem Kp.size (h : Kp R w w') : w.heap.size ≤ w'.heap.size := h.1.size
theorem B3.kp {b : Nat} {T : TypeId} {x y z : Value} (h : B3 w b T x y z) (k : Kp R w w') (hb : b ≠ R) : B3 w' b T x y z := (k.at_ hb h.facts.2.2.2.2.2.2).trans h
theorem Rd.lt (h : Rd w R B N) : R < w.heap.size ∧ B ≤ R := by
  obtain ⟨_, _, _, _, h, hB, _⟩ := h
  exact ⟨(Array.getElem?_eq_some_iff.1 h).1, hB⟩
theorem Rd.below (h : Rd w R B N) (hb : Below w.heap.size w w') : Rd w' R B N := by
  have hl := h.lt
  obtain ⟨A, len, cap, p, h, hB, hl', hp, hc⟩ := h
  exact ⟨A, len, cap, p, (hb.block R hl.1).trans h, hB, hl', hp, hc.below (hb.mono (by omega))⟩
theorem Rd.alloc (h : Rd w R B N) (o : Obj) : Rd (w.alloc o) R B N := h.below ((Below.refl _ _).alloc (Nat.le_refl _) o)
theorem Rd.drewN (h : Rd w R B N) (n : Nat) : Rd (w.drewN n) R B N := h
theorem Rd.other (h : Rd w R B N) {p : Addr} (hp : R < p.block) (u : Value) : Rd (w.setCell p u) R B N := by
  obtain ⟨A, len, cap, q, h, hB, hl', hq, hc⟩ := h
  exact ⟨A, len, cap, q, (heap_setCell_other w p R u (by omega)).trans h, hB, hl', hq, hc.below ((Below.refl B w).setCell (by omega) u)⟩
theorem Rd.mono {N' : Nat} (h : Rd w R B N) (hN : N ≤ N') : Rd w R B N' := by
  obtain ⟨A, len, cap, p, h, hB, hl', hp, hc⟩ := h
  exact ⟨A, len, cap, p, h, hB, hl', by omega, hc⟩
end
/-- what a draw of a number below n returns -/
def Picks (n : Int) (R B N : Nat) (w : World) (e : Ending) (w' : World) : Prop := ∃ v : Int, e = .returned (.int .i64 v) ∧ 0 ≤ v ∧ (1 ≤ n → v < n) ∧ Rd w' R B (N + 1) ∧ Kp R w w'
theorem tmod_in (x n : Int) (hx : 0 ≤ x) (hn : 1 ≤ n) : 0 ≤ x.tmod n ∧ (1 ≤ n → x.tmod n < n) := by
  rw [Int.tmod_eq_emod_of_nonneg hx]
  exact ⟨Int.emod_nonneg _ (by omega), fun _ => Int.emod_lt_of_pos _ (by omega)⟩
theorem mod_in (x n : Int) (hn : 1 ≤ n) : 0 ≤ x % n ∧ (1 ≤ n → x % n < n) :=
  ⟨Int.emod_nonneg _ (by omega), fun _ => Int.emod_lt_of_pos _ (by omega)⟩

set_option maxHeartbeats 2000000 in
theorem pick_any (n : Int) (R B N : Nat) (w : World) (h : Rd w R B N) (hN : N ≤ 1000000) :
    Calls Tryd.prog 26 #[.pointer (some ⟨R, 0, none⟩), .int .i64 n] w (Picks n R B N w) := by
  obtain ⟨A, len, cap, p, hR, hB, hl, hp, hc⟩ := h
  have c0 := cell_of_row w R 0 _ _ _ hR
  have c1 := cell_of_row w R 1 _ _ _ hR
  have f1 := frozen_of_row w R 1 _ _ hR
  simp at c0 c1
  have hR' := heap_setCell_same w R 1 _ _ (.int .i64 ((p : Int) + 1)) hR
  have HRD : Hid (Rd (w.setCell ⟨R, 1, none⟩ (.int .i64 ((p : Int) + 1))) R B (N + 1)) :=
    ⟨A, len, cap, p + 1, by simpa using hR', hB, hl, by omega, hc.below ((Below.refl B w).setCell hB _)⟩
  have HKP := Lib.hid ((Kp.refl R w).self 1 (.int .i64 ((p : Int) + 1)))
  have hc' := hc.below ((Below.refl B w).setCell (p := ⟨R, 1, none⟩) hB (.int .i64 ((p : Int) + 1)))
  have HC := Lib.hid hc'
  clear hc hc' hR hR'
  by_cases hn : n < 1
  · have hd : decide (n < 1) = true := decide_eq_true hn
    go_enter Tryd.func26, Tryd.ntmps26
    go_wp2
    go_ret
    exact ⟨0, rfl, by omega, fun _ => by omega, HRD.out, HKP.out⟩
  · have hd : decide (n < 1) = false := decide_eq_false hn
    by_cases hlen : len = 0
    · subst hlen
      go_enter Tryd.func26, Tryd.ntmps26
      go_wp2
      go_ret
      exact ⟨0, rfl, by omega, fun _ => by omega, HRD.out, HKP.out⟩
    · have he : ((len : Int) == 0) = false := by rw [beq_eq_false_iff_ne]; omega
      obtain ⟨b, off, rfl, hbB, hcell⟩ := HC.out (by omega)
      have HCL := Lib.hid hcell
      clear hcell
      by_cases hk : p < len
      · obtain ⟨z, hz, hcz⟩ := HCL.out p hk
        have hkd : decide ((p : Int) < (len : Int)) = true := by simp; omega
        go_enter Tryd.func26, Tryd.ntmps26
        go_wp2
        go_ret
        exact ⟨_, rfl, (mod_in _ _ (by omega)).1, (mod_in _ _ (by omega)).2, HRD.out, HKP.out⟩
      · have hkd : decide ((p : Int) < (len : Int)) = false := by simp; omega
        obtain ⟨q1, hq1, e57⟩ : ∃ q : Nat, q < len ∧ ((p : Int)).tmod (len : Int) = (q : Int) :=
          ⟨p % len, Nat.mod_lt _ (by omega), by rw [Int.tmod_eq_emod_of_nonneg (by omega)]; omega⟩
        obtain ⟨z1, hz1, hcz1⟩ := HCL.out q1 hq1
        obtain ⟨m7, hm7, e67⟩ : ∃ m : Nat, m ≤ 7000000 ∧ IntKind.i64.wrap ((p : Int) * 7) = (m : Int) := ⟨p * 7, by omega, by rw [IntKind.wrap_i64]; omega⟩
        obtain ⟨m8, hm8, e68⟩ : ∃ m : Nat, m ≤ 8000000 ∧ IntKind.i64.wrap ((m7 : Int) + 3) = (m : Int) := ⟨m7 + 3, by omega, by rw [IntKind.wrap_i64]; omega⟩
        obtain ⟨q2, hq2, e74⟩ : ∃ q : Nat, q < len ∧ ((m8 : Int)).tmod (len : Int) = (q : Int) :=
          ⟨m8 % len, Nat.mod_lt _ (by omega), by rw [Int.tmod_eq_emod_of_nonneg (by omega)]; omega⟩
        obtain ⟨z2, hz2, hcz2⟩ := HCL.out q2 hq2
        have e60 : IntKind.i64.wrap (z1 : Int) = (z1 : Int) := by rw [IntKind.wrap_i64]; omega
        have e77 : IntKind.i64.wrap (z2 : Int) = (z2 : Int) := by rw [IntKind.wrap_i64]; omega
        obtain ⟨m1, hm1, e61⟩ : ∃ m : Nat, m ≤ 8000000 ∧ IntKind.i64.wrap ((z1 : Int) * 131) = (m : Int) := ⟨z1 * 131, by omega, by rw [IntKind.wrap_i64]; omega⟩
        obtain ⟨m2, hm2, e78⟩ : ∃ m : Nat, m ≤ 8000000 ∧ IntKind.i64.wrap ((z2 : Int) * 1117) = (m : Int) := ⟨z2 * 1117, by omega, by rw [IntKind.wrap_i64]; omega⟩
        obtain ⟨m3, hm3, e79⟩ : ∃ m : Nat, m ≤ 16000000 ∧ IntKind.i64.wrap ((m1 : Int) + (m2 : Int)) = (m : Int) := ⟨m1 + m2, by omega, by rw [IntKind.wrap_i64]; omega⟩
        obtain ⟨m4, hm4, e81⟩ : ∃ m : Nat, m ≤ 29000000 ∧ IntKind.i64.wrap ((p : Int) * 29) = (m : Int) := ⟨p * 29, by omega, by rw [IntKind.wrap_i64]; omega⟩
        obtain ⟨m5, hm5, e82⟩ : ∃ m : Nat, m ≤ 50000000 ∧ IntKind.i64.wrap ((m3 : Int) + (m4 : Int)) = (m : Int) := ⟨m3 + m4, by omega, by rw [IntKind.wrap_i64]; omega⟩
        obtain ⟨q3, hq3, e89⟩ : ∃ q : Nat, q ≤ 1000000 ∧ ((p : Int)).tdiv (len : Int) = (q : Int) :=
          ⟨p / len, Nat.le_trans (Nat.div_le_self _ _) (by omega), by rw [Int.tdiv_eq_ediv_of_nonneg (by omega)]; exact Int.natCast_ediv p len⟩
        obtain ⟨m6, hm6, e90⟩ : ∃ m : Nat, m ≤ 53000000 ∧ IntKind.i64.wrap ((q3 : Int) * 53) = (m : Int) := ⟨q3 * 53, by omega, by rw [IntKind.wrap_i64]; omega⟩
        obtain ⟨m9, hm9, e91⟩ : ∃ m : Nat, m ≤ 103000000 ∧ IntKind.i64.wrap ((m5 : Int) + (m6 : Int)) = (m : Int) := ⟨m5 + m6, by omega, by rw [IntKind.wrap_i64]; omega⟩
        have hqq1 : ((q1 : Int)) < (len : Int) := by omega
        have hqq2 : ((q2 : Int)) < (len : Int) := by omega
        have hx64 : (m9 : Int) / 64 = ((m9 / 64 : Nat) : Int) := by omega
        have hxx := xor_i64 m9 (m9 / 64) (by omega) (by omega)
        rw [← hx64] at hxx
        have HXX := Lib.hid hxx
        clear hxx hx64
        go_enter Tryd.func26, Tryd.ntmps26
        go_wp2_with fail
        go_quiet (fail)
        clear e57 e67 e68 e74 e60 e77 e61 e78 e79 e81 e82 e89 e90 e91
        have hxx := HXX.out
        generalize m9 ^^^ m9 / 64 = y at hxx
        go_wp2
        go_ret
        exact ⟨_, rfl, (mod_in _ _ (by omega)).1, (mod_in _ _ (by omega)).2, HRD.out.drewN _, HKP.out.drewN _⟩
/-- what a draw out of a list of numbers returns -/
def Nums (l : List Int) (R B N : Nat) (w : World) (e : Ending) (w' : World) : Prop := ∃ x, e = .returned (.int .i64 x) ∧ x ∈ l ∧ Rd w' R B (N + 1) ∧ Kp R w w'
set_option maxHeartbeats 1000000 in
theorem num_any (l : List Int) (g cap R B N : Nat) (w : World) (h : Rd w R B N) (hN : N ≤ 1000000) (hb : BI w g 3 l) (hg : g ≠ R) (h0 : 0 < l.length) (hl : l.length ≤ 1000) :
    Calls Tryd.prog 35 #[.pointer (some ⟨R, 0, none⟩), .slice (some ⟨g, 0, none⟩) l.length cap] w (Nums l R B N w) := by
  have C := Lib.hid (pick_any l.length R B N w h hN)
  have HB := Lib.hid hb
  clear hb h
  go_enter Tryd.func35, Tryd.ntmps35
  go_wp2_with fail
  refine C.out.mono ?_
  rintro e w1 ⟨v, rfl, hv0, hv1, hr, hk⟩
  have HR := Lib.hid hr
  have HK := Lib.hid hk
  have hb1 : BI w1 g 3 l := (hk.at_ hg HB.out.lt).trans HB.out
  obtain ⟨q, rfl⟩ := Int.eq_ofNat_of_zero_le hv0
  have hq : q < l.length := by have := hv1 (by omega); omega
  have c0 := hb1.cell q _ (List.getElem?_eq_getElem hq)
  have HM := Lib.hid (List.getElem_mem hq)
  generalize l[q] = x at c0 HM
  clear hr hk hb1 HB C hv1
  go_wp2
  go_ret
  exact ⟨x, rfl, HM.out, HR.out, HK.out⟩
set_option maxHeartbeats 1000000 in
theorem open_any (A : Option Addr) (len cap B : Nat) (w : World) (h : CodeB w B A len) (hB : B ≤ w.heap.size) (hl : len ≤ cap) (hm : len ≤ maxLen) :
    Calls Tryd.prog 23 #[.slice A len cap] w fun e w' => e = .returned (.pointer (some ⟨w.heap.size, 0, none⟩)) ∧ Rd w' w.heap.size B 0 ∧ Below w.heap.size w w' := by
  unfold maxLen at hm
  have HC := Lib.hid h
  clear h
  by_cases hc : len ≤ 2000
  · have hd : decide ((2000 : Int) < (len : Int)) = false := by simp; omega
    go_enter Tryd.func23, Tryd.ntmps23
    go_wp2
    go_ret
    have hb := (Below.refl w.heap.size w).alloc (Nat.le_refl _) (.cells #[.slice A len cap, .int .i64 0] 55)
    exact ⟨rfl, ⟨A, len, cap, 0, heap_alloc_new w _, hB, hc, Nat.le_refl _, HC.out.below (hb.mono hB)⟩, hb⟩
  · have hd : decide ((2000 : Int) < (len : Int)) = true := by simp; omega
    go_enter Tryd.func23, Tryd.ntmps23
    go_wp2
    go_ret
    have hb := (Below.refl w.heap.size w).alloc (Nat.le_refl _) (.cells #[.slice A 2000 cap, .int .i64 0] 55)
    exact ⟨rfl, ⟨A, 2000, cap, 0, heap_alloc_new w _, hB, Nat.le_refl _, Nat.le_refl _, (HC.out.cut (by omega)).below (hb.mono hB)⟩, hb⟩
end Go.Proofs.YtgdnmhigjhfpkaaDoor
