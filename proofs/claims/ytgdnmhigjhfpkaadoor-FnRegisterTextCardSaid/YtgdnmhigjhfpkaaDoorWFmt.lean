/- A register's text: the program's and the reference's. -/
import Derived.Test.YtgdnmhigjhfpkaaDoorWDec
import Derived.Test.YtgdnmhigjhfpkaaDoorWLaw
import Derived.Test.YtgdnmhigjhfpkaaDoorWAfter
import Derived.Test.YtgdnmhigjhfpkaaDoorWItoaLay
import Derived.Shelf.Strconv.Itoa3
import Derived.Deep.RegionHeld3
import Derived.Lib.AppendIntMem
namespace Go.Proofs.YtgdnmhigjhfpkaaDoor
open Go.RowKit SS
set_option maxRecDepth 100000
/-- the table that the library's numerals read -/
def PowTab (w : World) : Prop := Lib.TabIs Tryd.prog w "internal/strconv.uint64pow10" .u64 Lib.pow10Tab
theorem PowTab.below {B : Nat} {w w' : World} (h : PowTab w) (hb : Below B w w') (hB : 0 < B) : PowTab w' := by
  unfold PowTab Lib.TabIs at *
  have hg : Tryd.prog.globalNamed "internal/strconv.uint64pow10" = some 0 := by kernel_rfl
  unfold World.var? at h ⊢
  rw [hg] at h ⊢
  simp only [Option.bind_some] at h ⊢
  rw [hb.block 0 hB]
  exact h
theorem PowTab.size {w : World} (h : PowTab w) : 0 < w.heap.size := by
  unfold PowTab Lib.TabIs at h
  have hg : Tryd.prog.globalNamed "internal/strconv.uint64pow10" = some 0 := by kernel_rfl
  unfold World.var? at h
  rw [hg] at h
  simp only [Option.bind_some] at h
  by_cases h0 : 0 < w.heap.size
  · exact h0
  · rw [Array.getElem?_eq_none (by omega)] at h
    simp at h
/-- the bytes of a number's digits -/
def dcs (n : Nat) : ByteArray := ⟨(Lib.decDigits n).toArray⟩
/-- the text of a register -/
def fmtB (s t x : Nat) : ByteArray := dcs s ++ ⟨#[32]⟩ ++ dcs t ++ ⟨#[32]⟩ ++ dcs x
theorem dcs_size (n : Nat) : (dcs n).size ≤ n + 1 := by
  unfold dcs
  rw [bytes_size]
  induction n using Nat.strongRecOn with
  | ind n ih =>
    by_cases h : n < 10
    · rw [Lib.decDigits, dif_pos h]
      simp
    · rw [digits_more n h, List.length_append]
      have := ih (n / 10) (by omega)
      simp only [List.length_cons, List.length_nil]
      omega
theorem vr_small {s t x : Nat} (h : VR s t x) : s < 1000 ∧ t < 1000 ∧ x < 1000 := by
  obtain ⟨_, h2, _, h4, h5⟩ := h
  have : 2 ^ s ≤ 2 ^ 8 := Nat.pow_le_pow_right (by decide) h2
  omega
theorem itoa_num (n : Nat) (w : World) (hn : n < 100000) (h : PowTab w) :
    Calls Tryd.prog 17 #[.int .i64 n] w fun e w' => e = .returned (.string (dcs n)) ∧ Below w.heap.size w w' := by
  have C := Any.strconv_Itoa itoaLay (n : Int) (by omega) (by omega) w h
  change Calls Tryd.prog 17 _ _ _ at C
  refine C.mono ?_
  rintro e w' ⟨rfl, k, os, rfl⟩
  exact ⟨by rw [Lib.itoa_nonneg]; rfl, Lib.below_grow _ _ (Nat.le_refl _) _ _⟩
theorem dec_dcs (n : Nat) (w : World) (hn : n < 100000) :
    Calls Tryd.prog 16 #[.int .i64 n] w fun e w' => e = .returned (.string (dcs n)) ∧ Below w.heap.size w w' := dec_num n w hn
set_option maxHeartbeats 2000000 in
theorem fmt_impl (s t x : Nat) (w : World) (hv : VR s t x) (h : PowTab w) :
    Calls Tryd.prog 8 #[.agg #[.int .i64 s, .int .i64 t, .int .i64 x]] w fun e w' => e = .returned (.string (fmtB s t x)) ∧ Below w.heap.size w w' := by
  have hr := rv_mk hv
  have hsz := h.size
  have ⟨k1, k2, k3⟩ : s < 1000 ∧ t < 1000 ∧ x < 1000 := vr_small hv
  have C1 := Lib.hid fun w' (hb : Below w.heap.size w w') => itoa_num s w' (by omega) (h.below hb hsz)
  have C2 := Lib.hid fun w' (hb : Below w.heap.size w w') => itoa_num t w' (by omega) (h.below hb hsz)
  have C3 := Lib.hid fun w' (hb : Below w.heap.size w w') => itoa_num x w' (by omega) (h.below hb hsz)
  have CV := Lib.hid fun w => valid_impl s t x w
  rw [hr] at CV
  have HR : Hid (dcs s ++ ⟨#[32]⟩ ++ dcs t ++ ⟨#[32]⟩ ++ dcs x = fmtB s t x) := Lib.hid rfl
  have z1 := dcs_size s
  have z2 := dcs_size t
  have z3 := dcs_size x
  generalize dcs s = a at *
  generalize dcs t = b at *
  generalize dcs x = c at *
  have hsp : (⟨#[32]⟩ : ByteArray).size = 1 := rfl
  have g1 : ¬ 9223372036854775807 < a.size + (⟨#[32]⟩ : ByteArray).size := by omega
  have g2 : ¬ 9223372036854775807 < (a ++ (⟨#[32]⟩ : ByteArray)).size + b.size := by simp only [ByteArray.size_append]; omega
  have g3 : ¬ 9223372036854775807 < (a ++ (⟨#[32]⟩ : ByteArray) ++ b).size + (⟨#[32]⟩ : ByteArray).size := by simp only [ByteArray.size_append]; omega
  have g4 : ¬ 9223372036854775807 < (a ++ (⟨#[32]⟩ : ByteArray) ++ b ++ (⟨#[32]⟩ : ByteArray)).size + c.size := by simp only [ByteArray.size_append]; omega
  have f1 : ¬ 9223372036854775807 < a.size + 1 := by omega
  have f2 : ¬ 9223372036854775807 < a.size + 1 + b.size := by omega
  have f3 : ¬ 9223372036854775807 < a.size + 1 + b.size + 1 := by omega
  have f4 : ¬ 9223372036854775807 < a.size + 1 + b.size + 1 + c.size := by omega
  clear hv hr h hsz k1 k2 k3 z1 z2 z3 hsp
  have b1 := B3.new w 25 (.int .i64 s) (.int .i64 t) (.int .i64 x)
  have hw := (Below.refl w.heap.size w).alloc (Nat.le_refl _) (.cells #[.int .i64 s, .int .i64 t, .int .i64 x] 25)
  go_enter Tryd.func8, Tryd.ntmps8
  go_wp2_with fail
  refine (CV.out _).mono ?_
  rintro e w1 ⟨rfl, hq⟩
  replace b1 := b1.belowS hq
  replace hw := afterB hw hq hw.size
  clear hq CV
  obtain ⟨b1_0, b1_1, b1_2, b1_3, b1_4, b1_5, b1_6⟩ := b1.facts
  have hwr := hw.drew
  have bd : B3 w1.drew w.heap.size 25 (.int .i64 s) (.int .i64 t) (.int .i64 x) := b1
  clear b1
  clear hw
  go_wp2_with fail
  go_region_held3 (fun w' => w'.cell? ⟨w.heap.size, 0, none⟩ = some (.int .i64 s) ∧ w'.cell? ⟨w.heap.size, 1, none⟩ = some (.int .i64 t) ∧ w'.cell? ⟨w.heap.size, 2, none⟩ = some (.int .i64 x)) (go_keep) (first | (go_at_call 17; (first | (with_reducible refine (C1.out _ hwr).mono ?_) | (with_reducible refine (C2.out _ hwr).mono ?_) | (with_reducible refine (C3.out _ hwr).mono ?_)); rintro e wv ⟨rfl, hq⟩; replace hwr := afterB hwr hq hwr.size; replace bd := bd.belowS hq; obtain ⟨q0, q1, q2, _, _, _, _⟩ := bd.facts; clear hq))
  all_goals (go_wp2_with fail; go_ret; exact ⟨by rw [HR.out]; rfl, hwr⟩)
set_option maxHeartbeats 2000000 in
theorem fmt_spec (s t x : Nat) (w : World) (hv : VR s t x) :
    Calls Tryd.prog 6 #[.agg #[.int .i64 s, .int .i64 t, .int .i64 x]] w fun e w' => e = .returned (.string (fmtB s t x)) ∧ Below w.heap.size w w' := by
  have hr := rv_mk hv
  have ⟨k1, k2, k3⟩ : s < 1000 ∧ t < 1000 ∧ x < 1000 := vr_small hv
  have C1 := Lib.hid fun w' => dec_dcs s w' (by omega)
  have C2 := Lib.hid fun w' => dec_dcs t w' (by omega)
  have C3 := Lib.hid fun w' => dec_dcs x w' (by omega)
  have CV := Lib.hid fun w => valid_spec s t x w
  rw [hr] at CV
  have HR : Hid (dcs s ++ ⟨#[32]⟩ ++ dcs t ++ ⟨#[32]⟩ ++ dcs x = fmtB s t x) := Lib.hid rfl
  have z1 := dcs_size s
  have z2 := dcs_size t
  have z3 := dcs_size x
  generalize dcs s = a at *
  generalize dcs t = b at *
  generalize dcs x = c at *
  have hsp : (⟨#[32]⟩ : ByteArray).size = 1 := rfl
  have g1 : ¬ 9223372036854775807 < a.size + (⟨#[32]⟩ : ByteArray).size := by omega
  have g2 : ¬ 9223372036854775807 < (a ++ (⟨#[32]⟩ : ByteArray)).size + b.size := by simp only [ByteArray.size_append]; omega
  have g3 : ¬ 9223372036854775807 < (a ++ (⟨#[32]⟩ : ByteArray) ++ b).size + (⟨#[32]⟩ : ByteArray).size := by simp only [ByteArray.size_append]; omega
  have g4 : ¬ 9223372036854775807 < (a ++ (⟨#[32]⟩ : ByteArray) ++ b ++ (⟨#[32]⟩ : ByteArray)).size + c.size := by simp only [ByteArray.size_append]; omega
  have f1 : ¬ 9223372036854775807 < a.size + 1 := by omega
  have f2 : ¬ 9223372036854775807 < a.size + 1 + b.size := by omega
  have f3 : ¬ 9223372036854775807 < a.size + 1 + b.size + 1 := by omega
  have f4 : ¬ 9223372036854775807 < a.size + 1 + b.size + 1 + c.size := by omega
  clear hv hr k1 k2 k3 z1 z2 z3 hsp
  have b1 := B3.new w 25 (.int .i64 s) (.int .i64 t) (.int .i64 x)
  have hw := (Below.refl w.heap.size w).alloc (Nat.le_refl _) (.cells #[.int .i64 s, .int .i64 t, .int .i64 x] 25)
  go_enter Tryd.func6, Tryd.ntmps6
  go_wp2_with fail
  refine (CV.out _).mono ?_
  rintro e w1 ⟨rfl, hq⟩
  replace b1 := b1.belowS hq
  replace hw := afterB hw hq hw.size
  clear hq CV
  obtain ⟨b1_0, b1_1, b1_2, b1_3, b1_4, b1_5, b1_6⟩ := b1.facts
  have hwr := hw.drew
  have bd : B3 w1.drew w.heap.size 25 (.int .i64 s) (.int .i64 t) (.int .i64 x) := b1
  clear b1
  clear hw
  go_wp2_with fail
  go_region_held3 (fun w' => w'.cell? ⟨w.heap.size, 0, none⟩ = some (.int .i64 s) ∧ w'.cell? ⟨w.heap.size, 1, none⟩ = some (.int .i64 t) ∧ w'.cell? ⟨w.heap.size, 2, none⟩ = some (.int .i64 x)) (go_keep) (first | (go_at_call 16; (first | (with_reducible refine (C1.out _).mono ?_) | (with_reducible refine (C2.out _).mono ?_) | (with_reducible refine (C3.out _).mono ?_)); rintro e wv ⟨rfl, hq⟩; replace hwr := afterB hwr hq hwr.size; replace bd := bd.belowS hq; obtain ⟨q0, q1, q2, _, _, _, _⟩ := bd.facts; clear hq))
  all_goals (go_wp2_with fail; go_ret; exact ⟨by rw [HR.out]; rfl, hwr⟩)
theorem fmt_impl_no (s t x : Int) (w : World) (hr : rv s t x = false) :
    Calls Tryd.prog 8 #[.agg #[.int .i64 s, .int .i64 t, .int .i64 x]] w fun e w' => e = .returned (.string ⟨#[]⟩) ∧ Below w.heap.size w w' := by
  have CV := Lib.hid fun w => valid_impl s t x w
  rw [hr] at CV
  clear hr
  have hw := (Below.refl w.heap.size w).alloc (Nat.le_refl _) (.cells #[.int .i64 s, .int .i64 t, .int .i64 x] 25)
  go_enter Tryd.func8, Tryd.ntmps8
  go_wp2_with fail
  refine (CV.out _).mono ?_
  rintro e w1 ⟨rfl, hq⟩
  replace hw := afterB hw hq hw.size
  clear hq CV
  go_wp2
  go_ret
  exact ⟨rfl, hw⟩
theorem fmt_spec_no (s t x : Int) (w : World) (hr : rv s t x = false) :
    Calls Tryd.prog 6 #[.agg #[.int .i64 s, .int .i64 t, .int .i64 x]] w fun e w' => e = .returned (.string ⟨#[]⟩) ∧ Below w.heap.size w w' := by
  have CV := Lib.hid fun w => valid_spec s t x w
  rw [hr] at CV
  clear hr
  have hw := (Below.refl w.heap.size w).alloc (Nat.le_refl _) (.cells #[.int .i64 s, .int .i64 t, .int .i64 x] 25)
  go_enter Tryd.func6, Tryd.ntmps6
  go_wp2_with fail
  refine (CV.out _).mono ?_
  rintro e w1 ⟨rfl, hq⟩
  replace hw := afterB hw hq hw.size
  clear hq CV
  go_wp2
  go_ret
  exact ⟨rfl, hw⟩
end Go.Proofs.YtgdnmhigjhfpkaaDoor
