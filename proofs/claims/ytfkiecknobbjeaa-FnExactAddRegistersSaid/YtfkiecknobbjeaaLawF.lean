/- The walk of the law that compares sums of registers with the reference's. -/
import Derived.Test.YtfkiecknobbjeaaWStep
import Derived.Test.YtfkiecknobbjeaaWLaw
import Derived.Deep.RegionHeld3
import Derived.Deep.DeepCutAuto
namespace Go.Proofs.Ytfkiecknobbjeaa
open Go.RowKit SS
theorem size2 {w w1 : World} {o p : Obj} (hb : Below ((w.alloc o).alloc p).drew.heap.size ((w.alloc o).alloc p).drew w1) : w.heap.size + 1 < w1.heap.size := by
  have h : ((w.alloc o).alloc p).heap.size ≤ w1.heap.size := hb.size
  simp only [World.size_alloc] at h
  omega
theorem size3 {w w1 : World} {o p q : Obj} (hb : Below (((w.alloc o).alloc p).alloc q).drew.heap.size (((w.alloc o).alloc p).alloc q).drew w1) : w.heap.size + 1 < w1.heap.size := by
  have h : (((w.alloc o).alloc p).alloc q).heap.size ≤ w1.heap.size := hb.size
  simp only [World.size_alloc] at h
  omega
theorem sizeA {n : Nat} {W w1 : World} {o : Obj} (hn : n < W.heap.size) (hb : Below (W.alloc o).heap.size (W.alloc o) w1) : n < w1.heap.size := by
  have h := hb.size
  simp only [World.size_alloc] at h
  omega
theorem sizeB {n : Nat} {W w1 : World} (hn : n < W.heap.size) (hb : Below W.heap.size W w1) : n < w1.heap.size := Nat.lt_of_lt_of_le hn hb.size
theorem size4 {w w1 : World} {o p q : Obj} (hb : Below (((w.alloc o).alloc p).alloc q).drew.heap.size (((w.alloc o).alloc p).alloc q).drew w1) : w.heap.size + 1 + 1 < w1.heap.size := by
  have h : (((w.alloc o).alloc p).alloc q).heap.size ≤ w1.heap.size := hb.size
  simp only [World.size_alloc] at h
  omega
theorem sizeN {W w1 : World} {o : Obj} (hb : Below (W.alloc o).heap.size (W.alloc o) w1) : W.heap.size < w1.heap.size := by
  have h := hb.size
  simp only [World.size_alloc] at h
  omega
theorem newZ {W w1 : World} (hb : Below (W.alloc (.cells #[.int .i64 0, .int .i64 0, .int .i64 0] 26)).heap.size (W.alloc (.cells #[.int .i64 0, .int .i64 0, .int .i64 0] 26)) w1) : B3 w1 W.heap.size 26 (.int .i64 0) (.int .i64 0) (.int .i64 0) :=
  (B3.new W _ _ _ _).below hb (by simp)
theorem newZd {W w1 : World} (hb : Below (W.alloc (.cells #[.int .i64 0, .int .i64 0, .int .i64 0] 26)).drew.heap.size (W.alloc (.cells #[.int .i64 0, .int .i64 0, .int .i64 0] 26)).drew w1) : B3 w1 W.heap.size 26 (.int .i64 0) (.int .i64 0) (.int .i64 0) :=
  B3.below (w := (W.alloc (.cells #[.int .i64 0, .int .i64 0, .int .i64 0] 26)).drew) (B3.new W _ _ _ _) hb (show W.heap.size < (W.alloc (.cells #[.int .i64 0, .int .i64 0, .int .i64 0] 26)).heap.size by simp)
theorem stepZ {W w1 : World} {n : Nat} (h : B3 W n 26 (.int .i64 0) (.int .i64 0) (.int .i64 0)) (hb : Below W.heap.size W w1) : B3 w1 n 26 (.int .i64 0) (.int .i64 0) (.int .i64 0) :=
  h.below hb h.facts.2.2.2.2.2.2
/-- a register's three cells lie at a block -/
def C3 (g : Nat) (a b c : Int) (W : World) : Prop := W.cell? ⟨g, 0, none⟩ = some (.int .i64 a) ∧ W.cell? ⟨g, 1, none⟩ = some (.int .i64 b) ∧ W.cell? ⟨g, 2, none⟩ = some (.int .i64 c) ∧ g < W.heap.size
theorem C3.of {g : Nat} {a b c : Int} {W : World} {T : TypeId} (h : B3 W g T (.int .i64 a) (.int .i64 b) (.int .i64 c)) : C3 g a b c W := ⟨h.facts.1, h.facts.2.1, h.facts.2.2.1, h.facts.2.2.2.2.2.2⟩
theorem C3.call {g : Nat} {a b c : Int} {W w1 : World} (h : C3 g a b c W) (hb : Below W.heap.size W w1) : C3 g a b c w1 :=
  ⟨(hb.cell h.2.2.2).trans h.1, (hb.cell h.2.2.2).trans h.2.1, (hb.cell h.2.2.2).trans h.2.2.1, Nat.lt_of_lt_of_le h.2.2.2 hb.size⟩
theorem C3.alloc {g : Nat} {a b c : Int} {W : World} (h : C3 g a b c W) (o : Obj) : C3 g a b c (W.alloc o) :=
  h.call ((Below.refl _ _).alloc (Nat.le_refl _) o)
theorem C3.drew {g : Nat} {a b c : Int} {W : World} (h : C3 g a b c W) : C3 g a b c W.drew := h
theorem C3.set {g : Nat} {a b c : Int} {W : World} (h : C3 g a b c W) (n j : Nat) (u : Value) (hn : n ≠ g) : C3 g a b c (W.setCell ⟨n, j, none⟩ u) := by
  have e : (W.setCell ⟨n, j, none⟩ u).heap[g]? = W.heap[g]? := heap_setCell_other W ⟨n, j, none⟩ g u (fun e => hn e.symm)
  refine ⟨(World.cell?_of_block (a := ⟨g, 0, none⟩) e).trans h.1, (World.cell?_of_block (a := ⟨g, 1, none⟩) e).trans h.2.1, (World.cell?_of_block (a := ⟨g, 2, none⟩) e).trans h.2.2.1, ?_⟩
  have := h.2.2.2
  simpa using this
theorem sizeD {W w1 : World} {o : Obj} (hb : Below (W.alloc o).drew.heap.size (W.alloc o).drew w1) : W.heap.size < w1.heap.size := by
  have h : (W.alloc o).heap.size ≤ w1.heap.size := hb.size
  simp only [World.size_alloc] at h
  omega
/-- both arguments lie in their boxes, and what lay below is as it was -/
def TwoArgs (w : World) (s t x s2 t2 x2 : Int) (W : World) : Prop :=
  B3 W w.heap.size 24 (.int .i64 s) (.int .i64 t) (.int .i64 x) ∧ B3 W (w.heap.size + 1) 24 (.int .i64 s2) (.int .i64 t2) (.int .i64 x2) ∧ Below w.heap.size w W
section
variable {w W w1 : World} {s t x s2 t2 x2 : Int}
theorem TwoArgs.start (w : World) (s t x s2 t2 x2 : Int) : TwoArgs w s t x s2 t2 x2 ((w.alloc (.cells #[.int .i64 s, .int .i64 t, .int .i64 x] 24)).alloc (.cells #[.int .i64 s2, .int .i64 t2, .int .i64 x2] 24)) :=
  ⟨(B3.new w _ _ _ _).alloc _, by have := B3.new (w.alloc (.cells #[.int .i64 s, .int .i64 t, .int .i64 x] 24)) 24 (.int .i64 s2) (.int .i64 t2) (.int .i64 x2); rwa [World.size_alloc] at this, shutBox2 (Below.refl _ _)⟩
theorem TwoArgs.drew (h : TwoArgs w s t x s2 t2 x2 W) : TwoArgs w s t x s2 t2 x2 W.drew := ⟨h.1, h.2.1, h.2.2.drew⟩
theorem TwoArgs.alloc (h : TwoArgs w s t x s2 t2 x2 W) (o : Obj) : TwoArgs w s t x s2 t2 x2 (W.alloc o) := ⟨h.1.alloc o, h.2.1.alloc o, h.2.2.alloc h.2.2.size o⟩
theorem TwoArgs.call (h : TwoArgs w s t x s2 t2 x2 W) (hb : Below W.heap.size W w1) : TwoArgs w s t x s2 t2 x2 w1 :=
  ⟨h.1.below hb h.1.facts.2.2.2.2.2.2, h.2.1.below hb h.2.1.facts.2.2.2.2.2.2, next h.2.2 hb (Nat.le_refl _)⟩
theorem TwoArgs.set (h : TwoArgs w s t x s2 t2 x2 W) (g j : Nat) (u : Value) (hg : w.heap.size + 1 < g) : TwoArgs w s t x s2 t2 x2 (W.setCell ⟨g, j, none⟩ u) :=
  ⟨h.1.other (show w.heap.size ≠ g by omega) _, h.2.1.other (show w.heap.size + 1 ≠ g by omega) _, h.2.2.setCell (show w.heap.size ≤ g by omega) _⟩
theorem TwoArgs.sizes (h : TwoArgs w s t x s2 t2 x2 W) : w.heap.size + 1 < W.heap.size ∧ w.heap.size < W.heap.size ∧ w.heap.size < W.heap.size + 1 ∧ w.heap.size ≤ W.heap.size ∧ ¬ w.heap.size = W.heap.size ∧ ¬ w.heap.size + 1 = W.heap.size ∧ ¬ W.heap.size = w.heap.size ∧ ¬ W.heap.size = w.heap.size + 1 := by
  have := h.2.1.facts.2.2.2.2.2.2
  omega
end
set_option maxHeartbeats 4000000 in
theorem walk_FnExactAddRegisters_of (s t x s2 t2 x2 a b c : Int) (v : Bool) (w : World)
    (hS : Hid (∀ w, Calls Try.prog 22 #[.agg #[.int .i64 s, .int .i64 t, .int .i64 x], .agg #[.int .i64 s2, .int .i64 t2, .int .i64 x2]] w fun e w' => e = .returned (.tuple #[.agg #[.int .i64 a, .int .i64 b, .int .i64 c], .bool v]) ∧ Below w.heap.size w w'))
    (hI : Hid (∀ w, Calls Try.prog 23 #[.agg #[.int .i64 s, .int .i64 t, .int .i64 x], .agg #[.int .i64 s2, .int .i64 t2, .int .i64 x2]] w fun e w' => e = .returned (.tuple #[.agg #[.int .i64 a, .int .i64 b, .int .i64 c], .bool v]) ∧ Below w.heap.size w w')) :
    Calls Try.prog 7 #[.agg #[.int .i64 s, .int .i64 t, .int .i64 x], .agg #[.int .i64 s2, .int .i64 t2, .int .i64 x2]] w fun e w' => e = .returned (.bool true) ∧ Below w.heap.size w w' := by
  go_enter Try.func7, Try.ntmps7
  go_upto_region 1 with fail
  have HT := TwoArgs.start w s t x s2 t2 x2
  generalize (w.alloc (.cells #[.int .i64 s, .int .i64 t, .int .i64 x] 24)).alloc (.cells #[.int .i64 s2, .int .i64 t2, .int .i64 x2] 24) = wc at HT ⊢
  obtain ⟨c0, c1, c2, _, _, _, _⟩ := HT.1.facts
  obtain ⟨c3, c4, c5, _, _, _, _⟩ := HT.2.1.facts
  obtain ⟨y1, y2, y3, y4, m1, m2, m3, m4⟩ := HT.sizes
  go_cut [5, 6] (fun p5 p6 wx => ∃ g : Nat, p5 = .pointer (some ⟨g, 0, none⟩) ∧ p6 = .bool v ∧ C3 g a b c wx ∧ TwoArgs w s t x s2 t2 x2 wx)
  case first =>
    go_region_held3 (fun w' => w'.cell? ⟨w.heap.size, 0, none⟩ = some (.int .i64 s) ∧ w'.cell? ⟨w.heap.size, 1, none⟩ = some (.int .i64 t) ∧ w'.cell? ⟨w.heap.size, 2, none⟩ = some (.int .i64 x) ∧ w'.cell? ⟨w.heap.size + 1, 0, none⟩ = some (.int .i64 s2) ∧ w'.cell? ⟨w.heap.size + 1, 1, none⟩ = some (.int .i64 t2) ∧ w'.cell? ⟨w.heap.size + 1, 2, none⟩ = some (.int .i64 x2)) (go_keep)
      (first | (go_at_call 16; refine (toReg _ _ _ _).mono ?_; rintro e w1 ⟨rfl, hb1⟩; have HI : TwoArgs w s t x s2 t2 x2 w1 := (by first | exact HT.drew.call hb1 | exact (HT.alloc _).drew.call hb1 | (refine TwoArgs.call ?_ hb1; assumption) | (refine TwoArgs.call (TwoArgs.alloc ?_ _) hb1; assumption)); obtain ⟨hz1, hz2, hz3, hz4, hn1, hn2, hn3, hn4⟩ := HI.sizes; (try have hzA := sizeN hb1); (try have hzN : wc.heap.size < w1.heap.size := (by first | exact sizeD hb1 | (refine sizeB ?_ hb1; assumption))); (try first | have HZ := newZ hb1 | have HZ := newZd hb1 | have HZ := stepZ (by assumption) hb1); obtain ⟨q0, q1, q2, _, _, _, _⟩ := HI.1.facts; obtain ⟨q3, q4, q5, _, _, _, _⟩ := HI.2.1.facts; (try obtain ⟨z0, z1, z2, z3, z4, z5, z6⟩ := HZ.facts); clear hb1) | (go_at_call 22; refine (hS.out _).mono ?_; rintro e w1 ⟨rfl, hb1⟩; have HI : TwoArgs w s t x s2 t2 x2 w1 := (by first | exact HT.drew.call hb1 | exact (HT.alloc _).drew.call hb1 | (refine TwoArgs.call ?_ hb1; assumption) | (refine TwoArgs.call (TwoArgs.alloc ?_ _) hb1; assumption)); obtain ⟨hz1, hz2, hz3, hz4, hn1, hn2, hn3, hn4⟩ := HI.sizes; (try have hzA := sizeN hb1); (try have hzN : wc.heap.size < w1.heap.size := (by first | exact sizeD hb1 | (refine sizeB ?_ hb1; assumption))); (try first | have HZ := newZ hb1 | have HZ := newZd hb1 | have HZ := stepZ (by assumption) hb1); obtain ⟨q0, q1, q2, _, _, _, _⟩ := HI.1.facts; obtain ⟨q3, q4, q5, _, _, _, _⟩ := HI.2.1.facts; (try obtain ⟨z0, z1, z2, z3, z4, z5, z6⟩ := HZ.facts); clear hb1))
    all_goals (go_wp2_with fail; go_meet)
    all_goals first
      | exact ⟨w1.heap.size, rfl, rfl, C3.of (B3.new _ _ _ _ _), HI.alloc _⟩
      | exact ⟨_, rfl, rfl, C3.of (HZ.set012 _ _ _), ((HI.set _ _ _ (by first | assumption | omega)).set _ _ _ (by first | assumption | omega)).set _ _ _ (by first | assumption | omega)⟩
  case rest =>
    clear c0 c1 c2 c3 c4 c5 y1 y2 y3 y4 m1 m2 m3 m4 HT
    obtain ⟨g, rfl, rfl, HG0, HT⟩ := hcut
    go_upto_region 2 with fail
    obtain ⟨c0, c1, c2, _, _, _, _⟩ := HT.1.facts
    obtain ⟨c3, c4, c5, _, _, _, _⟩ := HT.2.1.facts
    obtain ⟨y1, y2, y3, y4, m1, m2, m3, m4⟩ := HT.sizes
    have hgl := HG0.2.2.2
    go_cut [7, 8] (fun p7 p8 wx => ∃ h : Nat, p7 = .pointer (some ⟨h, 0, none⟩) ∧ p8 = .bool v ∧ C3 h a b c wx ∧ C3 g a b c wx ∧ Below w.heap.size w wx)
    case first =>
      go_region_held3 (fun w' => w'.cell? ⟨w.heap.size, 0, none⟩ = some (.int .i64 s) ∧ w'.cell? ⟨w.heap.size, 1, none⟩ = some (.int .i64 t) ∧ w'.cell? ⟨w.heap.size, 2, none⟩ = some (.int .i64 x) ∧ w'.cell? ⟨w.heap.size + 1, 0, none⟩ = some (.int .i64 s2) ∧ w'.cell? ⟨w.heap.size + 1, 1, none⟩ = some (.int .i64 t2) ∧ w'.cell? ⟨w.heap.size + 1, 2, none⟩ = some (.int .i64 x2)) (go_keep)
        (first | (go_at_call 16; refine (toReg _ _ _ _).mono ?_; rintro e w1 ⟨rfl, hb1⟩; have HI : TwoArgs w s t x s2 t2 x2 w1 := (by first | exact HT.drew.call hb1 | exact (HT.alloc _).drew.call hb1 | (refine TwoArgs.call ?_ hb1; assumption) | (refine TwoArgs.call (TwoArgs.alloc ?_ _) hb1; assumption)); have HG : C3 g a b c w1 := (by first | exact C3.call HG0.drew hb1 | exact C3.call (HG0.alloc _).drew hb1 | (refine C3.call ?_ hb1; assumption) | (refine C3.call (C3.alloc ?_ _) hb1; assumption)); have hgk := HG.2.2.2; obtain ⟨hz1, hz2, hz3, hz4, hn1, hn2, hn3, hn4⟩ := HI.sizes; (try have hzA := sizeN hb1); (try have hzN : wc.heap.size < w1.heap.size := (by first | exact sizeD hb1 | (refine sizeB ?_ hb1; assumption))); (try first | have HZ := newZ hb1 | have HZ := newZd hb1 | have HZ := stepZ (by assumption) hb1); obtain ⟨q0, q1, q2, _, _, _, _⟩ := HI.1.facts; obtain ⟨q3, q4, q5, _, _, _, _⟩ := HI.2.1.facts; (try obtain ⟨z0, z1, z2, z3, z4, z5, z6⟩ := HZ.facts); clear hb1) | (go_at_call 23; refine (hI.out _).mono ?_; rintro e w1 ⟨rfl, hb1⟩; have HI : TwoArgs w s t x s2 t2 x2 w1 := (by first | exact HT.drew.call hb1 | exact (HT.alloc _).drew.call hb1 | (refine TwoArgs.call ?_ hb1; assumption) | (refine TwoArgs.call (TwoArgs.alloc ?_ _) hb1; assumption)); have HG : C3 g a b c w1 := (by first | exact C3.call HG0.drew hb1 | exact C3.call (HG0.alloc _).drew hb1 | (refine C3.call ?_ hb1; assumption) | (refine C3.call (C3.alloc ?_ _) hb1; assumption)); have hgk := HG.2.2.2; obtain ⟨hz1, hz2, hz3, hz4, hn1, hn2, hn3, hn4⟩ := HI.sizes; (try have hzA := sizeN hb1); (try have hzN : wc.heap.size < w1.heap.size := (by first | exact sizeD hb1 | (refine sizeB ?_ hb1; assumption))); (try first | have HZ := newZ hb1 | have HZ := newZd hb1 | have HZ := stepZ (by assumption) hb1); obtain ⟨q0, q1, q2, _, _, _, _⟩ := HI.1.facts; obtain ⟨q3, q4, q5, _, _, _, _⟩ := HI.2.1.facts; (try obtain ⟨z0, z1, z2, z3, z4, z5, z6⟩ := HZ.facts); clear hb1))
      all_goals (go_wp2_with fail; go_meet)
      all_goals first
        | exact ⟨w1.heap.size, rfl, rfl, C3.of (B3.new _ _ _ _ _), HG.alloc _, (HI.alloc _).2.2⟩
        | exact ⟨_, rfl, rfl, C3.of (HZ.set012 _ _ _), ((HG.set _ _ _ (by omega)).set _ _ _ (by omega)).set _ _ _ (by omega), (((HI.set _ _ _ (by first | assumption | omega)).set _ _ _ (by first | assumption | omega)).set _ _ _ (by first | assumption | omega)).2.2⟩
    case rest =>
      clear c0 c1 c2 c3 c4 c5 y1 y2 y3 y4 m1 m2 m3 m4 HT HG0 hgl
      obtain ⟨h, rfl, rfl, HH, HG, hw⟩ := hcut
      obtain ⟨c0, c1, c2, _⟩ := HH
      obtain ⟨c3, c4, c5, _⟩ := HG
      go_wp2_with fail
      refine (eqReg_same _ _ _ _).mono ?_
      rintro e w6 ⟨rfl, hb6⟩
      have hw6 := next hw hb6 (Nat.le_refl _)
      clear c0 c1 c2 c3 c4 c5 hb6 hw
      go_wp2
      go_ret
      exact ⟨rfl, hw6⟩
theorem walk_FnExactAddRegisters (s t x s2 t2 x2 : Int) (w : World) (_ : (Lit.int .i64 s).wf = true) (_ : (Lit.int .i64 t).wf = true) (_ : (Lit.int .i64 x).wf = true) (_ : (Lit.int .i64 s2).wf = true) (_ : (Lit.int .i64 t2).wf = true) (_ : (Lit.int .i64 x2).wf = true) :
    Calls Try.prog 7 #[.agg #[.int .i64 s, .int .i64 t, .int .i64 x], .agg #[.int .i64 s2, .int .i64 t2, .int .i64 x2]] w fun e w' => e = .returned (.bool true) ∧ Below w.heap.size w w' := by
  by_cases hc : rv s t x = true ∧ rv s2 t2 x2 = true ∧ s = s2 ∧ t = t2
  · obtain ⟨h1, h2, rfl, rfl⟩ := hc
    obtain ⟨s', t', x', rfl, rfl, rfl, hv⟩ := rv_nat h1
    obtain ⟨s'', t'', x'', e1, e2, rfl, hv2⟩ := rv_nat h2
    obtain rfl : s' = s'' := by omega
    obtain rfl : t' = t'' := by omega
    exact walk_FnExactAddRegisters_of _ _ _ _ _ _ _ _ _ _ w (Lib.hid fun w => sadd_yes s' t' x' x'' w hv hv2) (Lib.hid fun w => add_yes s' t' x' x'' w hv hv2)
  · exact walk_FnExactAddRegisters_of _ _ _ _ _ _ _ _ _ _ w (Lib.hid fun w => sadd_no s t x s2 t2 x2 w hc) (Lib.hid fun w => add_no s t x s2 t2 x2 w hc)
end Go.Proofs.Ytfkiecknobbjeaa
