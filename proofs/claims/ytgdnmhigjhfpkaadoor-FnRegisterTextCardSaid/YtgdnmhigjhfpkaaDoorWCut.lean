/- A text cut into its pieces: the library's cut and the reference's. -/
import Derived.Test.YtgdnmhigjhfpkaaDoorPlainCut
import Derived.Test.YtgdnmhigjhfpkaaDoorWMaxT
import Derived.Test.YtgdnmhigjhfpkaaDoorWRot
import Derived.Test.YtgdnmhigjhfpkaaDoorWSplitLay
import Derived.Shelf.Strings.SplitShaped
namespace Go.Proofs.YtgdnmhigjhfpkaaDoor
open Go.RowKit SS
set_option maxRecDepth 100000
theorem infoS : (Tryd.prog.info? 9).map (fun i => (i.zero, i.size, i.bytes)) = some (some (.string ByteArray.empty), 1, 16) := by kernel_rfl
def byt (l : List UInt8) : ByteArray := ⟨l.toArray⟩
theorem byt_list (s : ByteArray) : byt s.data.toList = s := by
  apply ByteArray.ext
  simp [byt]
/-- a slice that owns the texts of a list -/
def OwnSt (w : World) (base : Nat) (v : Value) (l : List ByteArray) : Prop := w.ownsRow base 9 1 v l.length (l.map Value.string)
/-- what a call that cuts a text returns -/
def CutR (w : World) (l : List (List UInt8)) (e : Ending) (w' : World) : Prop :=
  ∃ A cap, e = .returned (.slice A l.length cap) ∧ (l ≠ [] → ∃ g, A = some ⟨g, 0, none⟩ ∧ w.heap.size ≤ g ∧ g < w'.heap.size ∧ ∀ j x, l[j]? = some x → w'.cell? ⟨g, j, none⟩ = some (.string (byt x))) ∧ Below w.heap.size w w'
theorem OwnSt.lit (w : World) : OwnSt (w.alloc (.cells #[] 9)) w.heap.size (.slice (some ⟨w.heap.size, 0, none⟩) 0 0) [] :=
  World.ownsRow_lit w #[] 0 (Nat.le_refl _) (by decide) rfl
theorem OwnSt.grow {w' : World} {base : Nat} {v : Value} {l : List ByteArray} {x : ByteArray} (h : w'.ownsRow base 9 1 v (l.length + 1) (l.map Value.string ++ [.string x])) : OwnSt w' base v (l ++ [x]) := by
  unfold OwnSt
  rw [List.length_append, List.map_append]
  exact h
theorem own_rowS {w : World} {base : Nat} {v : Value} {l : List ByteArray} (h : OwnSt w base v l) : ∀ k, v.ownBlock = some k → base ≤ k := fun k hk => (World.ownsRow.lt h k hk).1
theorem one_str (x : ByteArray) : ∀ u ∈ [Value.string x], u.oneCell' = true := by
  intro u hu
  simp at hu
  subst hu
  rfl
theorem OwnSt.cut {w w' : World} {v : Value} {l : List (List UInt8)} (h : OwnSt w' w.heap.size v (l.map byt)) (hb : Below w.heap.size w w') : CutR w l (.returned v) w' := by
  unfold OwnSt at h
  rw [List.length_map] at h
  rcases h.2 with ⟨rfl, h0⟩ | ⟨g, cap, cur, rfl, hbb, hg, hn, hc, hs, ht⟩
  · have : l = [] := List.eq_nil_of_length_eq_zero h0
    subst this
    exact ⟨none, 0, rfl, fun h => absurd rfl h, hb⟩
  · refine ⟨_, _, rfl, fun _ => ⟨g, rfl, hbb, (Array.getElem?_eq_some_iff.1 hg).1, fun j x hx => ?_⟩, hb⟩
    rw [cell_of_row w' g j cur _ _ hg]
    have hj : j < l.length := (List.getElem?_eq_some_iff.1 hx).1
    have : (cur.toList.take (l.length * 1))[j]? = some (.string (byt x)) := by rw [ht]; simp [hx]
    rw [List.getElem?_take, if_pos (by omega)] at this
    simpa using this
theorem split_impl (s : ByteArray) (w : World) (m : Int) (hm : w.cell? ⟨1, 0, none⟩ = some (.int .i64 m)) (hs : s.size ≤ 1048576) :
    Calls Tryd.prog 20 #[.string s, .string ⟨#[32]⟩] w (CutR w (cutL 32 s.data.toList)) := by
  have C := Any.strings_Split { splitLay with } splitLay.i9 s ⟨#[32]⟩ m w (by omega) hm (Nat.le_refl _)
  change Calls Tryd.prog 20 _ _ _ at C
  refine C.mono ?_
  rintro e w' ⟨rfl, rfl⟩
  have hl := Lib.splitB_all ⟨#[32]⟩ (Nat.le_refl _) 0 _ s rfl
  have hp := splitB_cut 32 s.size s (Nat.le_refl _)
  generalize Lib.splitB ⟨#[32]⟩ 0 (Lib.countB s ⟨#[32]⟩) s = P at *
  have hlen : (cutL 32 s.data.toList).length = Lib.countB s ⟨#[32]⟩ + 1 := by rw [← hp, List.length_map, hl]
  rw [← hlen]
  refine ⟨_, _, rfl, fun _ => ⟨w.heap.size, rfl, Nat.le_refl _, by simp, fun j x hx => ?_⟩, (Below.refl _ _).alloc (Nat.le_refl _) _⟩
  rw [cell_of_row _ w.heap.size j _ _ _ (heap_alloc_new w _)]
  rw [← hp, List.getElem?_map] at hx
  cases hy : P[j]? with
  | none => rw [hy] at hx; simp at hx
  | some y =>
    rw [hy] at hx
    simp at hx
    subst hx
    simp [hy, byt_list]
set_option maxHeartbeats 4000000 in
theorem cut_spec (s : ByteArray) (w : World) (hs : s.size ≤ 1048576) :
    Calls Tryd.prog 18 #[.string s, .int .u8 32] w (CutR w (cutL 32 s.data.toList)) := by
  obtain ⟨l, HL⟩ : ∃ l, Hid (l = s.data.toList) := ⟨_, Lib.hid rfl⟩
  have hz : Hid (l.length = s.size) := Lib.hid (by rw [HL.out]; exact size_list s)
  rw [← HL.out]
  obtain ⟨i0, hi, hz0, hz1, hz2⟩ := info_parts infoS
  have o1 := Lib.hid (OwnSt.lit w)
  have hw1 := Lib.hid ((Below.refl w.heap.size w).alloc (Nat.le_refl _) (.cells #[] 9))
  go_enter Tryd.func18, Tryd.ntmps18
  go_wp2_with fail
  go_loopw [5, 6, 7] (fun v st i wr => ∃ k : Nat, k ≤ s.size + 1 ∧ i = .int .i64 (k : Int) ∧ st = .int .i64 ((cutA l 32 k).2 : Int) ∧ OwnSt wr w.heap.size v ((cutA l 32 k).1.map byt) ∧ Below w.heap.size w wr) (fun _ _ i _ => s.size + 2 - (intOf i).toNat)
  case atStart => exact ⟨0, by omega, rfl, rfl, o1.out, hw1.out⟩
  case round =>
    clear o1 hw1
    obtain ⟨k, hk, rfl, rfl, ho, hb⟩ := hrel
    have HO := Lib.hid ho
    have HB := Lib.hid hb
    have hsz := hb.size
    clear ho hb
    have hst := cutA_le l 32 k
    have hcl := cutA_length l 32 k
    by_cases hle : k ≤ s.size
    · have dl : decide (k ≤ s.size) = true := decide_eq_true hle
      by_cases hcut : k = s.size ∨ l[k]? = some 32
      · have HS : Hid (cutA l 32 (k + 1) = ((cutA l 32 k).1 ++ [(l.drop (cutA l 32 k).2).take (k - (cutA l 32 k).2)], k + 1)) := by
          show _ = _
          rw [cutA, if_pos (by rw [hz.out]; exact hcut)]
        obtain ⟨st, HST⟩ : ∃ st, Hid (st = (cutA l 32 k).2) := ⟨_, Lib.hid rfl⟩
        rw [← HST.out] at hst HS
        rw [← HST.out]
        obtain ⟨q, HQ⟩ : ∃ q : ByteArray, Hid (q = s.extract st k) := ⟨_, Lib.hid rfl⟩
        have HQL : Hid (byt ((l.drop st).take (k - st)) = q) := by
          show _ = _
          rw [HQ.out, HL.out]
          apply ByteArray.ext
          apply Array.toList_inj.1
          simp [byt]
        have hs1 : (0 : Int) ≤ (st : Int) := by omega
        have hs2 : (st : Int) ≤ (k : Int) := by omega
        have hs3 : (k : Int) ≤ (s.size : Int) := by omega
        have hq := HQ.out.symm
        have F : ((k : Int) == (s.size : Int)) = true ∨ (((k : Int) == (s.size : Int)) = false ∧ ∃ h : k < s.size, ((s[k].toNat : Int) == 32) = true) := by
          by_cases he : k = s.size
          · left; rw [beq_iff_eq]; omega
          · right
            have hlt : k < s.size := by omega
            refine ⟨beq_eq_false_iff_ne.2 (by omega), hlt, ?_⟩
            rcases hcut with h | h
            · exact absurd h he
            · rw [byte_at s k hlt]
              have hx : s.data.toList[k]? = some 32 := by rw [← HL.out]; exact h
              rw [List.getElem?_eq_getElem (by rw [size_list]; exact hlt)] at hx
              rw [Option.some.inj hx]
              rfl
        clear hcut hcl
        rcases F with f1 | ⟨f1, hlt, f2⟩
        all_goals
          go_wp2_with (at_builtin; refine wpList_append_own _ rfl _ _ 38 rfl w.heap.size 9 i0 (.string ByteArray.empty) 1 16 Tryd.underlying38 hi hz0 hz1 hz2 rfl (by decide) _ _ _ rfl (HO.out.alloc _) ⟨wr.heap.size, 0, none⟩ 1 1 [.string q] rfl rfl ?c1 ?c2 ?c3 ?c4 ?c5 ?_)
          case c1 => exact new_one _ _ _
          case c2 => exact one_str _
          case c3 => have := cutA_length l 32 k; simp; unfold maxLen; omega
          case c4 => have := cutA_length l 32 k; simp; omega
          case c5 => simp; omega
          intro v' w2 ho2 hg2 _
          have HB2 := Lib.hid (grown_below HB.out hg2 (own_rowS HO.out))
          have HO2 := Lib.hid (OwnSt.grow (l := (cutA l 32 k).1.map byt) (by rw [List.length_map, List.map_map]; exact ho2))
          clear ho2 hg2
          go_wp2
          go_roundw
          case rel =>
            refine ⟨k + 1, by omega, by go_num, by rw [HS.out]; go_num, ?_, HB2.out⟩
            rw [HS.out, List.map_append, List.map_cons, List.map_nil, HQL.out]
            exact HO2.out
          case measure => simp [intOf]; omega
      · have HS : Hid (cutA l 32 (k + 1) = cutA l 32 k) := by
          show _ = _
          rw [cutA, if_neg (by rw [hz.out]; exact hcut)]
        have hlt : k < s.size := by
          have : k ≠ s.size := fun e => hcut (.inl e)
          omega
        have f1 : ((k : Int) == (s.size : Int)) = false := beq_eq_false_iff_ne.2 (by omega)
        have f2 : ((s[k].toNat : Int) == 32) = false := by
          rw [beq_eq_false_iff_ne]
          intro e
          apply hcut
          right
          rw [HL.out, List.getElem?_eq_getElem (by rw [size_list]; exact hlt), ← byte_at s k hlt]
          exact congrArg some (UInt8.toNat_inj.1 (by exact_mod_cast e))
        clear hcut
        go_wp2
        go_roundw
        case rel => exact ⟨k + 1, by omega, by go_num, by rw [HS.out], by rw [HS.out]; exact HO.out, HB.out⟩
        case measure => simp [intOf]; omega
    · have dl : decide (k ≤ s.size) = false := decide_eq_false hle
      have HE : Hid (cutL 32 l = (cutA l 32 k).1) := by
        show _ = _
        rw [← cutA_all, hz.out, show k = s.size + 1 by omega]
      go_wp2
      go_ret
      rw [HE.out]
      exact OwnSt.cut HO.out HB.out
end Go.Proofs.YtgdnmhigjhfpkaaDoor
