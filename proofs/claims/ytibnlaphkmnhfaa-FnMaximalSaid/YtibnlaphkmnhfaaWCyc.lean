/- Contracts of the functions that list the lengths of cycles. -/
import Derived.Test.YtibnlaphkmnhfaaWSort
import Derived.Test.YtibnlaphkmnhfaaWVals
import Derived.Test.YtibnlaphkmnhfaaWOrb
import Derived.Test.YtibnlaphkmnhfaaWMax
import Derived.Test.YtibnlaphkmnhfaaWBools
import Derived.Test.YtibnlaphkmnhfaaPlainCyc
namespace Go.Proofs.Ytibnlaphkmnhfaa
open Go.RowKit SS
set_option maxRecDepth 100000
theorem OwnI.other {w : World} {base : Nat} {v : Value} {l : List Int} (h : OwnI w base v l) {a : Addr} (ha : a.block < base) (u : Value) : OwnI (w.setCell a u) base v l := by
  refine ⟨h.1, ?_⟩
  rcases h.2 with hn | ⟨g, cap, cur, hv, hg, hh, r⟩
  · exact .inl hn
  · exact .inr ⟨g, cap, cur, hv, hg, (heap_setCell_other w a g u (by omega)).trans hh, r⟩
theorem BO.grown {w w2 : World} {b : Nat} {T : TypeId} {l : List Bool} {row : Option Nat} (h : BO w b T l) (hg : w.grownBy w2 row) (hr : row ≠ some b) : BO w2 b T l := (hg.block b h.lt (fun e => hr e.symm)).trans h
theorem B3.grown {w w2 : World} {b : Nat} {T : TypeId} {x y z : Value} {row : Option Nat} (h : B3 w b T x y z) (hg : w.grownBy w2 row) (hr : row ≠ some b) : B3 w2 b T x y z := (hg.block b h.facts.2.2.2.2.2.2 (fun e => hr e.symm)).trans h
theorem OwnI.reg {w : World} {base b : Nat} {T : TypeId} {x y z : Value} {v : Value} {l : List Int} (h : OwnI w base v l) (hb : B3 w b T x y z) (hT : T ≠ 3) (i : Nat) (u : Value) : OwnI (w.setCell ⟨b, i, none⟩ u) base v l := by
  refine ⟨h.1, ?_⟩
  rcases h.2 with hn | ⟨g, cap, cur, hv, hg, hh, r⟩
  · exact .inl hn
  · refine .inr ⟨g, cap, cur, hv, hg, (heap_setCell_other w ⟨b, i, none⟩ g u ?_).trans hh, r⟩
    intro e
    have hb' : w.heap[b]? = _ := hb
    rw [e] at hh
    rw [hh] at hb'
    injection hb' with h1
    injection h1 with _ h2
    exact hT h2.symm
theorem OwnI.setNe {w : World} {base : Nat} {v : Value} {l : List Int} (h : OwnI w base v l) (a : Addr) (hne : ∀ k, v.ownBlock = some k → k ≠ a.block) (u : Value) : OwnI (w.setCell a u) base v l := by
  refine ⟨h.1, ?_⟩
  rcases h.2 with hn | ⟨g, cap, cur, hv, hg, hh, r⟩
  · exact .inl hn
  · exact .inr ⟨g, cap, cur, hv, hg, (heap_setCell_other w a g u (hne g (by rw [hv]; rfl))).trans hh, r⟩
theorem OwnI.apart {w : World} {base b : Nat} {T : TypeId} {x y z : Value} {v : Value} {l : List Int} (h : OwnI w base v l) (hb : B3 w b T x y z) (hT : T ≠ 3) : ∀ k, v.ownBlock = some k → k ≠ b := by
  intro k hk e
  rcases h.2 with ⟨hn, _⟩ | ⟨g, cap, cur, hv, hg, hh, r⟩
  · rw [hn] at hk; cases hk
  · rw [hv] at hk
    have hgk : g = k := by injection hk
    have hb' : w.heap[b]? = _ := hb
    rw [hgk, e] at hh
    rw [hh] at hb'
    injection hb' with h1
    injection h1 with _ h2
    exact hT h2.symm
theorem OwnI.reg3 {w : World} {base b : Nat} {T : TypeId} {x y z : Value} {v : Value} {l : List Int} (h : OwnI w base v l) (hb : B3 w b T x y z) (hT : T ≠ 3) (p q r : Value) : OwnI (((w.setCell ⟨b, 0, none⟩ p).setCell ⟨b, 1, none⟩ q).setCell ⟨b, 2, none⟩ r) base v l :=
  ((h.setNe ⟨b, 0, none⟩ (h.apart hb hT) p).setNe ⟨b, 1, none⟩ (h.apart hb hT) q).setNe ⟨b, 2, none⟩ (h.apart hb hT) r
/-- which states are marked -/
def MkB (s t k : Nat) (B : List Bool) : Prop := B.length = 256 ∧ ∀ z, z < 2 ^ s → ∃ b, B[z]? = some b ∧ (b = true ↔ Mk s t k z)
/-- .. and the first states of a further cycle -/
def MkC (s t k j : Nat) (B : List Bool) : Prop := B.length = 256 ∧ ∀ z, z < 2 ^ s → ∃ b, B[z]? = some b ∧ (b = true ↔ Mk s t k z ∨ ∃ i, i < j ∧ it (nx s t) i k = z)
theorem MkB.start (s t : Nat) (h8 : s ≤ 8) : MkB s t 0 (List.replicate 256 false) := by
  refine ⟨by simp, fun z hz => ⟨false, ?_, ?_⟩⟩
  · have hp : 2 ^ s ≤ 2 ^ 8 := Nat.pow_le_pow_right (by decide) h8
    rw [List.getElem?_replicate, if_pos (by omega)]
  · constructor
    · intro h; cases h
    · rintro ⟨y, hy, _⟩; omega
theorem MkB.more {s t k : Nat} {B : List Bool} (h : MkB s t k B) : MkC s t k 0 B := ⟨h.1, fun z hz => by
  obtain ⟨b, hb, hm⟩ := h.2 z hz
  refine ⟨b, hb, hm.trans ⟨.inl, ?_⟩⟩
  rintro (h | ⟨i, hi, _⟩)
  · exact h
  · omega⟩
theorem MkC.step {s t k j : Nat} {B : List Bool} (hv : VR s t k) (h : MkC s t k j B) : MkC s t k (j + 1) (B.set (it (nx s t) j k) true) := by
  refine ⟨by simp [h.1], fun z hz => ?_⟩
  have hp : 2 ^ s ≤ 2 ^ 8 := Nat.pow_le_pow_right (by decide) hv.2.1
  by_cases e : z = it (nx s t) j k
  · subst e
    refine ⟨true, ?_, fun _ => .inr ⟨j, by omega, rfl⟩, fun _ => rfl⟩
    rw [List.getElem?_set, if_pos rfl, if_pos (by rw [h.1]; omega)]
  · obtain ⟨b, hb, hm⟩ := h.2 z hz
    refine ⟨b, ?_, hm.trans ⟨?_, ?_⟩⟩
    · rw [List.getElem?_set, if_neg (fun h => e h.symm)]; exact hb
    · rintro (h | ⟨i, hi, h⟩)
      · exact .inl h
      · exact .inr ⟨i, by omega, h⟩
    · rintro (hz' | ⟨i, hi, hz'⟩)
      · exact .inl hz'
      · by_cases ij : i = j
        · exact absurd (by rw [← hz', ij]) e
        · exact .inr ⟨i, by omega, hz'⟩
theorem MkC.done {s t k : Nat} {B : List Bool} (hv : VR s t k) (hl : lst s t k = true) (h : MkC s t k (orbN (nx s t) k) B) : MkB s t (k + 1) B :=
  ⟨h.1, fun z hz => by obtain ⟨b, hb, hm⟩ := h.2 z hz; exact ⟨b, hb, hm.trans (mk_yes hv hl z).symm⟩⟩
theorem MkB.no {s t k : Nat} {B : List Bool} (hv : VR s t k) (hl : lst s t k = false) (h : MkB s t k B) : MkB s t (k + 1) B :=
  ⟨h.1, fun z hz => by obtain ⟨b, hb, hm⟩ := h.2 z hz; exact ⟨b, hb, hm.trans (mk_no hv hl z).symm⟩⟩
def F256 : Array Value := Array.replicate 256 (.bool false)
theorem F256_list : F256 = ((List.replicate 256 false).map Value.bool).toArray := by rw [List.map_replicate, List.toArray_replicate]; rfl
theorem false256 (w : World) : (zeroValue 73).run Try.prog w = .ok (.agg F256) w := by kernel_rfl
set_option maxHeartbeats 4000000 in
theorem cyc_impl (s t : Nat) (w : World) (hv : VR s t 1) :
    Calls Try.prog 43 #[.int .i64 s, .int .i64 t] w (RetI w (srt (clist s t (2 ^ s)))) := by
  obtain ⟨i0, hi, hz0, hz1, hz2⟩ := info_parts infoI
  obtain ⟨p, HP⟩ : ∃ p, Hid (p = 2 ^ s) := ⟨2 ^ s, Lib.hid rfl⟩
  have h2 := hv.1
  have h8 := hv.2.1
  have hp2 : p ≤ 256 := by rw [HP.out]; exact Nat.pow_le_pow_right (n := 2) (by decide) h8
  have hpi : ((2 : Int) ^ s) = (p : Int) := by rw [HP.out]; simp
  have ht := hv.2.2.2.1
  have ht256 := lt256 h8 ht
  have C := Lib.hid fun w => taps_impl s t w
  rw [tv_of hv] at C
  have HV : Hid (∀ k, k < p → VR s t k) := Lib.hid fun k hk => hv.of (by rw [← HP.out]; exact hk)
  have r1 : BO (w.alloc (.cells F256 73)) w.heap.size 73 (List.replicate 256 false) := by
    have h := heap_alloc_new w (.cells F256 73)
    unfold BO
    rw [h, F256_list]
  have hw1 := (Below.refl w.heap.size w).alloc (Nat.le_refl _) (.cells F256 73)
  have hs1 : (w.alloc (.cells F256 73)).heap.size = w.heap.size + 1 := World.size_alloc _ _
  have o1 := OwnI.lit0 (w.alloc (.cells F256 73))
  rw [hs1] at o1
  have O1 := Lib.hid o1
  have R1 := Lib.hid (r1.alloc (.cells #[] 3))
  have HW := Lib.hid (hw1.alloc hw1.size (.cells #[] 3))
  have HT := Lib.hid ht
  have hpE : Hid (srt (clist s t (2 ^ s)) = srt (clist s t p)) := Lib.hid (by rw [HP.out])
  have HST := Lib.hid (MkB.start s t h8)
  clear hv ht r1 hw1 hs1 o1
  have hz := false256
  go_enter Try.func43, Try.ntmps43
  go_wp2_with fail
  refine (C.out _).mono ?_
  rintro e w1 ⟨rfl, rfl⟩
  clear C
  go_wp2_with fail
  go_loopw [6, 18] (fun u i wr => ∃ (k : Nat) (B : List Bool), k ≤ p ∧ i = .int .i64 (k : Int) ∧ OwnI wr (w.heap.size + 1) u (clist s t k) ∧ BO wr w.heap.size 73 B ∧ MkB s t k B ∧ Below w.heap.size w wr) (fun _ i _ => p - (intOf i).toNat)
  case atStart => exact ⟨0, _, Nat.zero_le _, rfl, O1.out, R1.out, HST.out, HW.out⟩
  case round =>
    clear O1 R1 HW HST
    obtain ⟨k, B, hk, rfl, ho, hb, hm, hw⟩ := hrel
    have HO := Lib.hid ho
    have HB := Lib.hid hb
    have HM := Lib.hid hm
    have hzr := hb.lt
    have HWR : Hid (∀ q, u6.ownBlock = some q → q < wr.heap.size) := Lib.hid fun q hq => (World.ownsRow.lt ho q hq).2
    have hcl := clist_length s t k
    clear ho hb hm
    by_cases hlt : k < p
    · have HVk := Lib.hid (HV.out k hlt)
      have C1 := Lib.hid fun w => orbit_impl s t k w HVk.out
      obtain ⟨⟨hIN, _, _⟩, hN⟩ := HVk.out.orb
      rw [← HP.out] at hN
      obtain ⟨bk, hbk, hbm⟩ := HM.out.2 k HVk.out.2.2.2.2
      have hmk := fun h0 : orbI (nx s t) k = 0 => hbm.trans (mk_lst HVk.out h0)
      have HMK := Lib.hid hmk
      clear hbm hmk
      have B4 := Lib.hid (B3.new wr 53 (.int .i64 (s : Int)) (.int .i64 (t : Int)) (.int .i64 (k : Int)))
      have HO2 := Lib.hid (HO.out.alloc (.cells #[.int .i64 (s : Int), .int .i64 (t : Int), .int .i64 (k : Int)] 53))
      have HB2 := Lib.hid (HB.out.alloc (.cells #[.int .i64 (s : Int), .int .i64 (t : Int), .int .i64 (k : Int)] 53))
      have hw2 := hw.alloc hw.size (.cells #[.int .i64 (s : Int), .int .i64 (t : Int), .int .i64 (k : Int)] 53)
      clear HO HB
      obtain ⟨c0, c1, c2, f0, f1, f2, hz4⟩ := B4.out.facts
      go_wp2_with fail
      refine (C1.out _).mono ?_
      rintro e w3 ⟨rfl, hb3⟩
      have HO3 : Hid (OwnI w3 (w.heap.size + 1) _ (clist s t k)) := Lib.hid (OwnI.keep HO2.out hb3)
      have HB3 := Lib.hid (HB2.out.belowS hb3)
      have B5 := Lib.hid (B4.out.belowS hb3)
      have hw3 := afterB hw2 hb3 hw2.size
      clear HO2 HB2 B4 c0 c1 c2 f0 f1 f2 hz4 hw2 hb3 C1
      have cb := HB3.out.cell k bk hbk
      have HLI : Hid (∀ h0 : orbI (nx s t) k = 0, bk = true ↔ lst s t k = false) := Lib.hid HMK.out
      by_cases hI : orbI (nx s t) k = 0
      · have HI := Lib.hid hI
        have hle := HLI.out hI
        rw [hI, show ((0 : Nat) : Int) = 0 from rfl, Int.sub_zero]
        cases bk with
        | true =>
          have hl := hle.1 rfl
          have HM2 := Lib.hid (HM.out.no HVk.out hl)
          have HC2 := Lib.hid (clist_no s t k hl)
          clear hl hle hI HM HLI HMK
          go_wp2
          go_roundw
          case rel => exact ⟨k + 1, B, by omega, by go_num, by rw [HC2.out]; exact HO3.out, HB3.out, HM2.out, hw3⟩
          case measure => simp [intOf]; omega
        | false =>
          have hl : lst s t k = true := by
            cases h : lst s t k with
            | true => rfl
            | false => exact absurd (hle.2 h) (by decide)
          have HC2 := Lib.hid (clist_yes s t k hl)
          have HL := Lib.hid hl
          obtain ⟨N, hNe⟩ : ∃ N, N = orbN (nx s t) k := ⟨_, rfl⟩
          have HN := Lib.hid hNe
          rw [← hNe] at HC2 hN hIN ⊢
          have hN1 : 1 ≤ N := by omega
          clear hl hle hNe hIN HLI HMK
          go_wp2_with (at_builtin; refine wpList_append_own _ rfl _ _ 35 rfl (w.heap.size + 1) 3 i0 (.int .i64 0) 1 8 Try.underlying35 hi hz0 hz1 hz2 rfl (by decide) _ _ _ rfl (HO3.out.alloc _) ⟨w3.heap.size, 0, none⟩ 1 1 [.int .i64 (N : Int)] rfl rfl ?c1 ?c2 ?c3 ?c4 ?c5 ?_)
          case c1 => exact new_int _ _ _
          case c2 => exact int_one _
          case c3 => unfold maxLen; omega
          case c4 => omega
          case c5 => have := HB3.out.lt; simp; omega
          intro v' w4 ho4 hg4 _
          have hrow := own_rowB HO3.out
          have hw4 : Below w.heap.size w w4 := (hw3.alloc hw3.size (.cells #[.int .i64 (N : Int)] 3)).grown hg4 (by have := hw3.size; simp; omega) fun k hk => by have := hrow k hk; omega
          have HB4 := Lib.hid ((HB3.out.alloc (.cells #[.int .i64 (N : Int)] 3)).grown hg4 fun e => by have := hrow _ e; omega)
          have B6 := Lib.hid ((B5.out.alloc (.cells #[.int .i64 (N : Int)] 3)).grown hg4 fun e => by have := HWR.out _ e; omega)
          have HO4 := Lib.hid (OwnI.grow1 ho4)
          rw [← HC2.out] at HO4
          have HMC := Lib.hid HM.out.more
          clear ho4 hg4 hrow HO3 HB3 B5 hw3 HM HC2
          obtain ⟨wo, rfl⟩ : ∃ wo : World, wo = wr := ⟨_, rfl⟩
          have HW4 := Lib.hid hw4
          clear hw4
          go_wp2_with fail
          go_loopw [42] (fun i wx => ∃ (j : Nat) (B : List Bool), j ≤ N ∧ i = .int .i64 (j : Int) ∧ OwnI wx (w.heap.size + 1) v' (clist s t (k + 1)) ∧ BO wx w.heap.size 73 B ∧ MkC s t k j B ∧ B3 wx wo.heap.size 53 (.int .i64 (s : Int)) (.int .i64 (t : Int)) (.int .i64 (it (nx s t) j k : Nat)) ∧ Below w.heap.size w wx) (fun i _ => N - (intOf i).toNat)
          case atStart => exact ⟨0, B, Nat.zero_le _, rfl, HO4.out, HB4.out, HMC.out, B6.out, HW4.out⟩
          case round =>
            clear HO4 HB4 HMC B6 HW4
            obtain ⟨j, C, hj, rfl, ho, hb, hm, b3, hw⟩ := hrel
            by_cases hjN : j < N
            · have HVj := HVk.out.itnx j
              have HMC := Lib.hid (hm.step HVk.out)
              have hyp : it (nx s t) j k < 2 ^ s := HVj.2.2.2.2
              rw [← HP.out] at hyp
              obtain ⟨bq, hbq, _⟩ := hm.2 _ HVj.2.2.2.2
              have cb := hb.cell _ _ hbq
              have fb := hb.frozen (it (nx s t) j k)
              have hzb := hb.lt
              obtain ⟨c0, c1, c2, f0, f1, f2, hz4⟩ := b3.facts
              have CN := Lib.hid fun w => next_impl s t (it (nx s t) j k) w h2 h8 HVj.2.2.2.2 HT.out
              have HS := Lib.hid (it_succ (nx s t) j k)
              generalize it (nx s t) j k = y at *
              clear HVj hbq hm
              have hb1 := hb.set y true
              have hne1 : wo.heap.size ≠ w.heap.size := by omega
              have b31 := b3.other (a := ⟨w.heap.size, y, none⟩) hne1 (.bool true)
              have ho1 := ho.other (a := ⟨w.heap.size, y, none⟩) (Nat.lt_succ_self _) (.bool true)
              have hw1 := hw.setCell (p := ⟨w.heap.size, y, none⟩) (Nat.le_refl _) (.bool true)
              have HO1 := Lib.hid ho1
              have HB1 := Lib.hid hb1
              have B31 := Lib.hid b31
              have HW1 := Lib.hid hw1
              clear ho hb b3 hw ho1 hb1 b31 hw1
              go_wp2_with fail
              refine (CN.out _).mono ?_
              rintro e w5 ⟨rfl, hq⟩
              have ho2 := HO1.out.keep hq
              have hb2 := HB1.out.belowS hq
              have b32 := B31.out.belowS hq
              have hw2 := afterB HW1.out hq HW1.out.size
              clear HO1 HB1 B31 HW1 hq c0 c1 c2 f0 f1 f2 hz4 cb fb
              obtain ⟨c0, c1, c2, f0, f1, f2, hz4⟩ := b32.facts
              have HO2 := Lib.hid (ho2.reg b32 (by decide) 2 (.int .i64 ((nx s t y : Nat) : Int)))
              have HB2 := Lib.hid (hb2.other (a := ⟨wo.heap.size, 2, none⟩) (fun e => hne1 e.symm) (.int .i64 ((nx s t y : Nat) : Int)))
              have B32 := Lib.hid (b32.set2 (.int .i64 ((nx s t y : Nat) : Int)))
              have HW2 := Lib.hid (hw2.setCell (p := ⟨wo.heap.size, 2, none⟩) (by show w.heap.size ≤ wo.heap.size; omega) (.int .i64 ((nx s t y : Nat) : Int)))
              clear ho2 hb2 b32 hw2
              go_wp2
              go_roundw
              case rel => exact ⟨j + 1, _, by omega, by go_num, HO2.out, HB2.out, HMC.out, by rw [HS.out]; exact B32.out, HW2.out⟩
              case measure => simp [intOf]; omega
            · have hjE : j = N := by omega
              have HMD := Lib.hid (MkC.done HVk.out HL.out (by rw [← HN.out, ← hjE]; exact hm))
              clear hm hjE
              go_wp2
              go_roundw
              case rel => exact ⟨k + 1, C, by omega, by go_num, ho, hb, HMD.out, hw⟩
              case measure => simp [intOf]; omega
      · have hl : lst s t k = false := by
          cases h : lst s t k with
          | false => rfl
          | true => exact absurd (lst_yes.1 h).1 hI
        have HM2 := Lib.hid (HM.out.no HVk.out hl)
        have HC2 := Lib.hid (clist_no s t k hl)
        have dI : decide ((0 : Int) < (orbI (nx s t) k : Int)) = true := by simp; omega
        generalize orbI (nx s t) k = I at *
        generalize orbN (nx s t) k = N at *
        clear hl HM HLI HMK
        go_wp2
        go_roundw
        case rel => exact ⟨k + 1, B, by omega, by go_num, by rw [HC2.out]; exact HO3.out, HB3.out, HM2.out, hw3⟩
        case measure => simp [intOf]; omega
    · obtain rfl : k = p := by omega
      have CS := Lib.hid (sort_ints _ _ wr _ HO.out (by omega))
      go_wp2_with fail
      refine (CS.out).mono ?_
      rintro e w2 ⟨rfl, o2, hb2⟩
      have O2 := Lib.hid (o2.wider (Nat.le_succ _))
      clear o2 CS
      go_wp2
      go_ret
      exact ⟨_, rfl, by rw [hpE.out]; exact O2.out, hw.trans (hb2.mono (Nat.le_succ _))⟩
theorem cyc_impl_no (s t : Int) (w : World) (h : tv s t = false) : Calls Try.prog 43 #[.int .i64 s, .int .i64 t] w (RetI w []) := by
  have C := Lib.hid fun w => taps_impl s t w
  rw [h] at C
  clear h
  go_enter Try.func43, Try.ntmps43
  go_wp2_with fail
  refine (C.out _).mono ?_
  rintro e w1 ⟨rfl, rfl⟩
  go_wp2
  go_ret
  exact ⟨_, rfl, OwnI.nil0 _ _, Below.refl _ _⟩
theorem scyc_no (s t : Int) (w : World) (h : tv s t = false) : Calls Try.prog 42 #[.int .i64 s, .int .i64 t] w (RetI w []) := by
  have C := Lib.hid fun w => taps_spec s t w
  rw [h] at C
  clear h
  have o1 := Lib.hid (OwnI.lit0 w)
  have hw1 := Lib.hid ((Below.refl w.heap.size w).alloc (Nat.le_refl _) (.cells #[] 3))
  go_enter Try.func42, Try.ntmps42
  go_wp2_with fail
  refine (C.out _).mono ?_
  rintro e w1 ⟨rfl, rfl⟩
  go_wp2
  go_ret
  exact ⟨_, rfl, o1.out, hw1.out⟩
/-- how far a cycle has been looked through for a lesser state -/
def Fst (s t k j : Nat) (b : Bool) : Prop :=
  (b = true ∧ ∀ i, 1 ≤ i → i < j → k < it (nx s t) i k) ∨ (b = false ∧ ∃ i, 1 ≤ i ∧ i < orbN (nx s t) k ∧ ¬ k < it (nx s t) i k)
set_option maxHeartbeats 4000000 in
theorem scyc_yes (s t : Nat) (w : World) (hv : VR s t 1) :
    Calls Try.prog 42 #[.int .i64 s, .int .i64 t] w (RetI w (srt (clist s t (2 ^ s)))) := by
  obtain ⟨p, HP⟩ : ∃ p, Hid (p = 2 ^ s) := ⟨2 ^ s, Lib.hid rfl⟩
  have h2 := hv.1
  have h8 := hv.2.1
  have hp2 : p ≤ 256 := by rw [HP.out]; exact Nat.pow_le_pow_right (n := 2) (by decide) h8
  have C := Lib.hid fun w => taps_spec s t w
  rw [tv_of hv] at C
  have C2 := Lib.hid fun w => two_size s p w h8 HP
  have HV : Hid (∀ k, k < p → VR s t k) := Lib.hid fun k hk => hv.of (by rw [← HP.out]; exact hk)
  have HT := Lib.hid hv.2.2.2.1
  have o1 := Lib.hid (OwnI.lit0 w)
  have hw1 := Lib.hid ((Below.refl w.heap.size w).alloc (Nat.le_refl _) (.cells #[] 3))
  have hpE : Hid (srt (clist s t (2 ^ s)) = insAll (clist s t p)) := Lib.hid (by rw [HP.out, insAll_srt])
  clear hv
  go_enter Try.func42, Try.ntmps42
  go_wp2_with fail
  refine (C.out _).mono ?_
  rintro e w1 ⟨rfl, rfl⟩
  clear C
  go_wp2_with fail
  go_loopw [5, 6] (fun u i wr => ∃ (k : Nat) (L : List Int), k ≤ p ∧ i = .int .i64 (k : Int) ∧ Hid (L = insAll (clist s t k)) ∧ OwnI wr w.heap.size u L ∧ Below w.heap.size w wr) (fun _ i _ => p - (intOf i).toNat)
  case atStart => exact ⟨0, [], Nat.zero_le _, rfl, Lib.hid rfl, o1.out, hw1.out⟩
  case round =>
    clear o1 hw1
    obtain ⟨k, L, hk, rfl, HL, ho, hw⟩ := hrel
    have hLl : L.length ≤ 256 := by
      rw [HL.out, insAll_length]
      have := clist_length s t k
      omega
    have HO := Lib.hid ho
    clear ho
    by_cases hlt : k < p
    · have HVk := Lib.hid (HV.out k hlt)
      have C3 := Lib.hid fun w => slead_yes s t k w HVk.out
      have C4 := Lib.hid fun w => speriod_yes s t k w HVk.out
      obtain ⟨⟨hIN, _, _⟩, hN⟩ := HVk.out.orb
      rw [← HP.out] at hN
      obtain ⟨wo, rfl⟩ : ∃ wo : World, wo = wr := ⟨_, rfl⟩
      have hzo := hw.size
      have B4 := B3.new wo 53 (.int .i64 (s : Int)) (.int .i64 (t : Int)) (.int .i64 (k : Int))
      have HO2 := Lib.hid (HO.out.alloc (.cells #[.int .i64 (s : Int), .int .i64 (t : Int), .int .i64 (k : Int)] 53))
      have hw2 := hw.alloc hw.size (.cells #[.int .i64 (s : Int), .int .i64 (t : Int), .int .i64 (k : Int)] 53)
      clear HO
      go_wp2_with fail
      refine (C2.out _).mono ?_
      rintro e w2 ⟨rfl, rfl⟩
      obtain ⟨c0, c1, c2, f0, f1, f2, hz4⟩ := B4.facts
      go_wp2_with fail
      refine (C3.out _).mono ?_
      rintro e w3 ⟨rfl, hq⟩
      have HO3 := Lib.hid (OwnI.keep HO2.out hq)
      replace B4 := B4.belowS hq
      have hw3 := afterB hw2 hq hw2.size
      clear HO2 hq hw2 c0 c1 c2 f0 f1 f2 hz4
      obtain ⟨c0, c1, c2, f0, f1, f2, hz4⟩ := B4.facts
      by_cases hI : orbI (nx s t) k = 0
      · have HI := Lib.hid hI
        have HF0 : Hid (Fst s t k 1 true) := Lib.hid (.inl ⟨rfl, fun i h1 h2 => by omega⟩)
        have HLS : Hid (lst s t k = true ↔ ∀ i, 1 ≤ i → i < orbN (nx s t) k → k < it (nx s t) i k) := Lib.hid (lst_iff HVk.out hI)
        rw [hI, show ((0 : Nat) : Int) = 0 from rfl, Int.sub_zero] at C4
        rw [hI, show ((0 : Nat) : Int) = 0 from rfl]
        obtain ⟨N, hNe⟩ : ∃ N, N = orbN (nx s t) k := ⟨_, rfl⟩
        have HN := Lib.hid hNe
        rw [← hNe] at C4 hN hIN
        have hN1 : 1 ≤ N := by omega
        clear hNe hI hIN C3
        go_wp2_with fail
        refine (C4.out _).mono ?_
        rintro e w4 ⟨rfl, hq⟩
        have HO4 := Lib.hid (HO3.out.keep hq)
        have HB4 := Lib.hid (B4.belowS hq)
        have HW4 := Lib.hid (afterB hw3 hq hw3.size)
        clear HO3 hq hw3 c0 c1 c2 f0 f1 f2 hz4 B4 C4
        go_wp2_with fail
        go_loopw [8, 10] (fun b i wr => ∃ (j : Nat) (v : Bool), 1 ≤ j ∧ j ≤ N ∧ i = .int .i64 (j : Int) ∧ b = .bool v ∧ Fst s t k j v ∧ OwnI wr w.heap.size u5 L ∧ B3 wr wo.heap.size 53 (.int .i64 (s : Int)) (.int .i64 (t : Int)) (.int .i64 (it (nx s t) (j - 1) k : Nat)) ∧ Below w.heap.size w wr) (fun _ i _ => N - (intOf i).toNat)
        case atStart => exact ⟨1, true, Nat.le_refl _, hN1, rfl, rfl, HF0.out, HO4.out, HB4.out, HW4.out⟩
        case round =>
          clear HO4 HB4 HW4 HF0
          obtain ⟨j, v, hj1, hj, rfl, rfl, hf, ho, b3, hw⟩ := hrel
          have HF := Lib.hid hf
          clear hf
          by_cases hc : j < N ∧ v = true
          · obtain ⟨hjN, rfl⟩ := hc
            have HVj := HVk.out.itnx (j - 1)
            have CN := Lib.hid fun w => step_spec s t (it (nx s t) (j - 1) k) w h2 h8 HVj.2.2.2.2 HT.out
            have HS : Hid (nx s t (it (nx s t) (j - 1) k) = it (nx s t) j k) := Lib.hid (by have e := it_succ (nx s t) (j - 1) k; rw [Nat.sub_add_cancel hj1] at e; exact e.symm)
            rw [HS.out] at CN
            have hyj : it (nx s t) j k < 2 ^ s := (HVk.out.itnx j).2.2.2.2
            rw [← HP.out] at hyj
            have HJ : Hid (it (nx s t) (j + 1 - 1) k = it (nx s t) j k) := Lib.hid (by rw [Nat.add_sub_cancel])
            have HF2 : Hid (∀ v : Bool, v = decide (k < it (nx s t) j k) → Fst s t k (j + 1) v) := by
              refine Lib.hid fun v hv => ?_
              by_cases e : k < it (nx s t) j k
              · rw [decide_eq_true e] at hv
                subst hv
                rcases HF.out with ⟨_, h⟩ | ⟨h, _⟩
                · refine .inl ⟨rfl, fun i i1 i2 => ?_⟩
                  by_cases ij : i < j
                  · exact h i i1 ij
                  · obtain rfl : i = j := by omega
                    exact e
                · cases h
              · rw [decide_eq_false e] at hv
                subst hv
                exact .inr ⟨rfl, j, hj1, by rw [← HN.out]; exact hjN, e⟩
            generalize it (nx s t) (j - 1) k = y at *
            generalize it (nx s t) j k = z at *
            clear HVj HF HS
            obtain ⟨c0, c1, c2, f0, f1, f2, hz4⟩ := b3.facts
            have HO1 := Lib.hid ho
            have HB1 := Lib.hid b3
            have HW1 := Lib.hid hw
            clear ho b3 hw
            go_wp2_with fail
            refine (CN.out _).mono ?_
            rintro e w5 ⟨rfl, hq⟩
            have ho2 := HO1.out.keep hq
            have b32 := HB1.out.belowS hq
            have hw2 := afterB HW1.out hq HW1.out.size
            clear HO1 HB1 HW1 hq c0 c1 c2 f0 f1 f2 hz4
            have hgo : w.heap.size ≤ wo.heap.size := hzo
            have ho3 := ho2.reg b32 (by decide) 0 (.int .i64 (s : Int))
            have b33 := b32.set012 (.int .i64 (s : Int)) (.int .i64 (t : Int)) (.int .i64 (z : Int))
            have HO3 := Lib.hid (OwnI.reg3 ho2 b32 (by decide) (.int .i64 (s : Int)) (.int .i64 (t : Int)) (.int .i64 (z : Int)))
            have HB3 := Lib.hid b33
            have HW3 := Lib.hid (((hw2.setCell (p := ⟨wo.heap.size, 0, none⟩) hgo (.int .i64 (s : Int))).setCell (p := ⟨wo.heap.size, 1, none⟩) hgo (.int .i64 (t : Int))).setCell (p := ⟨wo.heap.size, 2, none⟩) hgo (.int .i64 (z : Int)))
            obtain ⟨c0, c1, c2, f0, f1, f2, hz4⟩ := b32.facts
            obtain ⟨e0, e1, e2, e3, e4, e5, e6⟩ := b33.facts
            clear ho2 b32 hw2 ho3 b33
            by_cases hkz : k < z
            · have dk : decide (k < z) = true := decide_eq_true hkz
              have HF3 := Lib.hid (HF2.out true (by rw [dk]))
              clear hkz HF2
              go_wp2
              go_roundw
              case rel => exact ⟨j + 1, true, by omega, by omega, by go_num, rfl, HF3.out, HO3.out, by rw [HJ.out]; exact HB3.out, HW3.out⟩
              case measure => simp [intOf]; omega
            · have dk : decide (k < z) = false := decide_eq_false hkz
              have HF3 := Lib.hid (HF2.out false (by rw [dk]))
              clear hkz HF2
              go_wp2
              go_roundw
              case rel => exact ⟨j + 1, false, by omega, by omega, by go_num, rfl, HF3.out, HO3.out, by rw [HJ.out]; exact HB3.out, HW3.out⟩
              case measure => simp [intOf]; omega
          · have HC := Lib.hid hc
            have HO4 := Lib.hid ho
            clear hc ho
            cases v with
            | true =>
              have hjN : j = N := by
                have := HC.out
                simp at this
                omega
              have hl : lst s t k = true := by
                refine HLS.out.2 fun i i1 i2 => ?_
                rcases HF.out with ⟨_, h⟩ | ⟨h, _⟩
                · exact h i i1 (by rw [hjN, HN.out]; exact i2)
                · cases h
              have HC2 := Lib.hid (clist_yes s t k hl)
              have HIS := Lib.hid (insAll_snoc (clist s t k) (N : Int))
              have HLN : Hid (insI (N : Int) L = insAll (clist s t (k + 1))) := Lib.hid (by rw [HC2.out, ← HN.out, HIS.out, HL.out])
              subst hjN
              clear HC HC2 HIS hl HF HLS b3
              have hwz := hw.size
              have CI := Lib.hid fun w' (h : RowI w' w'.heap.size u5 L) => insert_spec u5 L (j : Int) w' h (by omega)
              go_wp2_with fail
              refine (CI.out _ HO4.out.row).mono ?_
              rintro e w6 ⟨v6, rfl, o6, hq⟩
              have HO6 := Lib.hid (o6.wider hwz)
              have hw6 := afterB hw hq hw.size
              clear o6 hq CI HO4
              go_wp2
              go_roundw
              case rel => exact ⟨k + 1, _, by omega, by go_num, HLN, HO6.out, hw6⟩
              case measure => simp [intOf]; omega
            | false =>
              have hl : lst s t k = false := by
                cases h : lst s t k with
                | false => rfl
                | true =>
                  rcases HF.out with ⟨h', _⟩ | ⟨_, i, i1, i2, i3⟩
                  · cases h'
                  · exact absurd (HLS.out.1 h i i1 i2) i3
              have HLN : Hid (L = insAll (clist s t (k + 1))) := Lib.hid (by rw [clist_no s t k hl, HL.out])
              clear HC hl HF HLS b3
              by_cases hjN : j < N
              · have dj : decide (j < N) = true := decide_eq_true hjN
                clear hjN
                go_wp2
                go_roundw
                case rel => exact ⟨k + 1, L, by omega, by go_num, HLN, HO4.out, hw⟩
                case measure => simp [intOf]; omega
              · have dj : decide (j < N) = false := decide_eq_false hjN
                clear hjN
                go_wp2
                go_roundw
                case rel => exact ⟨k + 1, L, by omega, by go_num, HLN, HO4.out, hw⟩
                case measure => simp [intOf]; omega
      · have hl : lst s t k = false := by
          cases h : lst s t k with
          | false => rfl
          | true => exact absurd (lst_yes.1 h).1 hI
        have HLN : Hid (L = insAll (clist s t (k + 1))) := Lib.hid (by rw [clist_no s t k hl, HL.out])
        have dI : ((orbI (nx s t) k : Int) == 0) = false := by rw [beq_eq_false_iff_ne]; omega
        generalize orbI (nx s t) k = I at *
        generalize orbN (nx s t) k = N at *
        clear hl hI C3
        go_wp2_with fail
        refine (C4.out _).mono ?_
        rintro e w4 ⟨rfl, hq⟩
        have HO4 := Lib.hid (HO3.out.keep hq)
        have HW4 := Lib.hid (afterB hw3 hq hw3.size)
        clear HO3 hq hw3 c0 c1 c2 f0 f1 f2 hz4 B4 C4
        obtain ⟨M, hM⟩ : ∃ M : Int, M = (N : Int) - (I : Int) := ⟨_, rfl⟩
        rw [← hM]
        have hM0 : 1 ≤ M := by omega
        clear hM
        go_wp2_with fail
        go_loopw [8, 10] (fun b i wr => b = .bool false ∧ i = .int .i64 1 ∧ OwnI wr w.heap.size u5 L ∧ Below w.heap.size w wr) (fun _ _ _ => 0)
        case atStart => exact ⟨rfl, rfl, HO4.out, HW4.out⟩
        case round =>
          clear HO4 HW4
          obtain ⟨rfl, rfl, ho, hw⟩ := hrel
          have HO5 := Lib.hid ho
          clear ho
          by_cases h1M : 1 < M
          · have dj : decide (1 < M) = true := decide_eq_true h1M
            clear h1M
            go_wp2
            go_roundw
            case rel => exact ⟨k + 1, L, by omega, by go_num, HLN, HO5.out, hw⟩
            case measure => simp [intOf]; omega
          · have dj : decide (1 < M) = false := decide_eq_false h1M
            clear h1M
            go_wp2
            go_roundw
            case rel => exact ⟨k + 1, L, by omega, by go_num, HLN, HO5.out, hw⟩
            case measure => simp [intOf]; omega
    · obtain rfl : k = p := by omega
      go_wp2_with fail
      refine (C2.out _).mono ?_
      rintro e w2 ⟨rfl, rfl⟩
      have hL := HL.out
      go_wp2
      go_ret
      exact ⟨_, rfl, by rw [hpE.out, ← hL]; exact HO.out, hw⟩
end Go.Proofs.Ytibnlaphkmnhfaa
