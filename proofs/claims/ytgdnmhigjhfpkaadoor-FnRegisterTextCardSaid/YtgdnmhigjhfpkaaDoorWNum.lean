/- A piece of text as a number: the program's reading and the reference's. -/
import Derived.Test.YtgdnmhigjhfpkaaDoorPlainCut
import Derived.Test.YtgdnmhigjhfpkaaDoorWBits
import Derived.Test.YtgdnmhigjhfpkaaDoorWTrimLay
import Derived.Test.YtgdnmhigjhfpkaaDoorWRot
import Derived.Shelf.Strings.Prefix
namespace Go.Proofs.YtgdnmhigjhfpkaaDoor
open Go.RowKit SS
set_option maxRecDepth 100000
theorem trim_dig (l : List UInt8) : Lib.trimPrefix l [45] = digL l := by
  unfold Lib.trimPrefix Lib.hasPrefix digL negL
  cases l with
  | nil => simp
  | cons x r =>
    by_cases h : x = 45
    · simp [h]
    · have h' : ((45 : UInt8) == x) = false := by rw [beq_eq_false_iff_ne]; exact fun e => h e.symm
      have h'' : (x == (45 : UInt8)) = false := by rw [beq_eq_false_iff_ne]; exact h
      rw [List.head?_cons]
      simp only [List.isPrefixOf, h', Bool.false_and, Bool.false_eq_true, if_false, Option.some_beq_some, h'']
theorem pn_short {l : List UInt8} (h : (digL l).length < 1) : pn l = (0, false) := by
  unfold pn fineD
  rw [decide_eq_false (show ¬ 1 ≤ (digL l).length by omega)]
  simp
theorem pn_long {l : List UInt8} (h : 17 < (digL l).length) : pn l = (0, false) := by
  unfold pn fineD
  rw [decide_eq_false (show ¬ (digL l).length ≤ 17 by omega)]
  simp
theorem pn_lead {l : List UInt8} (h : (digL l).head? = some 48) (h' : 1 < (digL l).length ∨ negL l = true) : pn l = (0, false) := by
  unfold pn fineD
  have e : (decide (1 < (digL l).length) || negL l) = true := by
    rcases h' with h' | h' <;> simp [h']
  rw [h, e]
  simp
theorem pn_char {l : List UInt8} (h : (digL l).all okD = false) : pn l = (0, false) := by
  unfold pn
  rw [h]
  simp
theorem pn_yes {l : List UInt8} (h1 : 1 ≤ (digL l).length) (h2 : (digL l).length ≤ 17) (h3 : (digL l).head? ≠ some 48 ∨ ((digL l).length = 1 ∧ negL l = false)) (h : (digL l).all okD = true) :
    pn l = (if negL l then -(valD 0 (digL l) : Int) else valD 0 (digL l), true) := by
  have : fineD l = true := by
    unfold fineD
    rw [decide_eq_true h1, decide_eq_true h2]
    rcases h3 with h3 | ⟨h3, h4⟩
    · simp [h3]
    · rw [h3, h4]; simp
  unfold pn
  rw [this, h]
  simp
theorem all_char {l : List UInt8} (k : Nat) (h : k < l.length) (hc : okD l[k] = false) : l.all okD = false := by
  rw [List.all_eq_false]
  exact ⟨l[k], List.getElem_mem h, by rw [hc]; decide⟩
theorem all_take {l : List UInt8} (k : Nat) (h : k < l.length) (ha : (l.take k).all okD = true) (hc : okD l[k] = true) :
    (l.take (k + 1)).all okD = true ∧ valD 0 (l.take (k + 1)) = 10 * valD 0 (l.take k) + (l[k].toNat - 48) := by
  rw [List.take_add_one, List.getElem?_eq_getElem h]
  simp only [Option.toList]
  rw [valD_app, List.all_append, ha]
  simp [hc]
theorem val_small {l : List UInt8} (k : Nat) (h : k < l.length) (h17 : l.length ≤ 17) (ha : (l.take k).all okD = true) : valD 0 (l.take k) < 10000000000000000 := by
  have := valD_lt _ ha
  rw [List.length_take] at this
  exact Nat.lt_of_lt_of_le this (Nat.pow_le_pow_right (n := 10) (j := 16) (by decide) (by omega))
theorem val_small' {l : List UInt8} (h17 : l.length ≤ 17) (ha : l.all okD = true) : valD 0 l < 100000000000000000 :=
  Nat.lt_of_lt_of_le (valD_lt _ ha) (Nat.pow_le_pow_right (n := 10) (j := 17) (by decide) (by omega))
theorem okD_no1 (c : UInt8) (h : c.toNat < 48) : okD c = false := by unfold okD; rw [decide_eq_false (by omega)]; rfl
theorem okD_no2 (c : UInt8) (h : 57 < c.toNat) : okD c = false := by unfold okD; rw [decide_eq_false (p := c.toNat ≤ 57) (by omega)]; simp
theorem okD_yes (c : UInt8) (h : 48 ≤ c.toNat) (h' : c.toNat ≤ 57) : okD c = true := by unfold okD; rw [decide_eq_true h, decide_eq_true h']; rfl
theorem ret_pn {l : List UInt8} {x : Int} {b : Bool} (h : pn l = (x, b)) : Ending.returned (.tuple #[.int .i64 x, .bool b]) = .returned (.tuple #[.int .i64 (pn l).1, .bool (pn l).2]) := by rw [h]
theorem trim_impl (p : ByteArray) (w : World) :
    Calls Tryd.prog 33 #[.string p, .string ⟨#[45]⟩] w fun e w' => e = .returned (.string ⟨(digL p.data.toList).toArray⟩) ∧ w' = w := by
  have C := Any.strings_TrimPrefix trimLay p ⟨#[45]⟩ w
  change Calls Tryd.prog 33 _ _ _ at C
  rw [show (⟨#[45]⟩ : ByteArray).data.toList = [45] from rfl, trim_dig] at C
  exact C
theorem list48 : (⟨#[48]⟩ : ByteArray).toList = [48] := by simp
/-- what a walk asks of a piece and its digits -/
structure Piece (p d : ByteArray) (n : Bool) : Prop where
  list : d.data.toList = digL p.data.toList
  neg : negL p.data.toList = n
theorem Piece.size {p d : ByteArray} {n : Bool} (h : Piece p d n) : (digL p.data.toList).length = d.size := by rw [← h.list, size_list]
theorem Piece.at {p d : ByteArray} {n : Bool} (h : Piece p d n) (k : Nat) (hk : k < d.size) : d[k] = (digL p.data.toList)[k]'(by rw [h.size]; exact hk) := by
  rw [byte_at d k hk]
  simp [h.list]
theorem Piece.head {p d : ByteArray} {n : Bool} (h : Piece p d n) (hk : 0 < d.size) : (digL p.data.toList).head? = some d[0] := by
  rw [h.at 0 hk, List.head?_eq_getElem?, List.getElem?_eq_getElem]
theorem piece_size {p : ByteArray} (h : negL p.data.toList = true) : (digL p.data.toList).length + 1 = p.size := by
  unfold digL
  rw [h, if_pos rfl, List.length_tail, size_list]
  have : 0 < p.data.toList.length := by
    unfold negL at h
    cases hl : p.data.toList with
    | nil => rw [hl] at h; simp at h
    | cons a b => simp
  rw [size_list] at this
  omega
theorem piece_size' {p : ByteArray} (h : negL p.data.toList = false) : (digL p.data.toList).length = p.size := by
  unfold digL
  rw [h, if_neg (by decide), size_list]
theorem neg_first {p : ByteArray} (h0 : 0 < p.size) : negL p.data.toList = (p[0] == 45) := by
  rw [byte_at p 0 h0]
  unfold negL
  rw [List.head?_eq_getElem?, List.getElem?_eq_getElem]
  rfl
theorem only_zero {p : ByteArray} (h : p = ⟨#[48]⟩) : negL p.data.toList = false ∧ (digL p.data.toList).length = 1 := by
  subst h
  decide
theorem is_zero {p d : ByteArray} (h : Piece p d false) (h1 : d.size = 1) (h0 : d[0] = 48) : p = ⟨#[48]⟩ := by
  have hl := h.list
  have hs := h.size
  have hh := h.head (by omega)
  unfold digL at hl hs hh
  rw [h.neg, if_neg (by decide)] at hl hs hh
  apply ByteArray.ext
  apply Array.toList_inj.1
  show p.data.toList = [48]
  rw [h0] at hh
  rw [h1] at hs
  match hp : p.data.toList, hs, hh with
  | [x], _, hh => simpa [hp] using hh

set_option maxHeartbeats 2000000 in
theorem num_impl_true (p d : ByteArray) (w : World) (HP : Hid (Piece p d true)) (hd : d = ⟨(digL p.data.toList).toArray⟩) (HPS : Hid (d.size + 1 = p.size)) :
    Calls Tryd.prog 21 #[.string p] w fun e w' => e = .returned (.tuple #[.int .i64 (pn p.data.toList).1, .bool (pn p.data.toList).2]) ∧ w' = w := by
  have CT := Lib.hid fun w => trim_impl p w
  rw [← hd] at CT
  clear hd
  rcases Nat.lt_or_ge d.size 1 with h1 | h1
  · have HF := Lib.hid (pn_short (l := p.data.toList) (by rw [HP.out.size]; omega))
    have b1 : decide ((d.size : Int) < 1) = true := by simp; omega
    clear h1
    go_enter Tryd.func21, Tryd.ntmps21
    go_wp2_with fail
    refine (CT.out _).mono ?_
    rintro e w1 ⟨rfl, rfl⟩
    go_wp2
    go_ret2
    exact ⟨ret_pn HF.out, rfl⟩
  have b1 : decide ((d.size : Int) < 1) = false := by simp; omega
  rcases Nat.lt_or_ge 17 d.size with h17 | h17
  · have HF := Lib.hid (pn_long (l := p.data.toList) (by rw [HP.out.size]; omega))
    have b2 : decide ((17 : Int) < (d.size : Int)) = true := by simp; omega
    clear h1 h17
    go_enter Tryd.func21, Tryd.ntmps21
    go_wp2_with fail
    refine (CT.out _).mono ?_
    rintro e w1 ⟨rfl, rfl⟩
    go_wp2
    go_ret2
    exact ⟨ret_pn HF.out, rfl⟩
  have b2 : decide ((17 : Int) < (d.size : Int)) = false := by simp; omega
  have h0 : 0 < d.size := by omega
  have hh := HP.out.head h0
  have G : ∀ (H3 : Hid ((digL p.data.toList).head? ≠ some 48 ∨ ((digL p.data.toList).length = 1 ∧ negL p.data.toList = false))) (H4 : ((d[0].toNat : Int) == 48) = false ∨ (((d[0].toNat : Int) == 48) = true ∧ (p.toList == [48]) = true)),
    Calls Tryd.prog 21 #[.string p] w fun e w' => e = .returned (.tuple #[.int .i64 (pn p.data.toList).1, .bool (pn p.data.toList).2]) ∧ w' = w := by
   intro H3 H4
   clear hh
   rcases H4 with b3 | ⟨b3, b4⟩
   all_goals
    go_enter Tryd.func21, Tryd.ntmps21
    go_wp2_with fail
    refine (CT.out _).mono ?_
    rintro e w1 ⟨rfl, rfl⟩
    go_wp2_with fail
    go_loop [5, 26] (fun x i => ∃ j : Nat, j ≤ d.size ∧ i = .int .i64 (j : Int) ∧ x = .int .i64 (valD 0 ((digL p.data.toList).take j) : Int) ∧ ((digL p.data.toList).take j).all okD = true) (fun _ i => d.size - (intOf i).toNat)
    case atStart => exact ⟨0, Nat.zero_le _, rfl, rfl, rfl⟩
    case round =>
      obtain ⟨j, hj, rfl, rfl, ha⟩ := hrel
      have hsz := HP.out.size
      by_cases hlt : j < d.size
      · have hll : j < (digL p.data.toList).length := by rw [hsz]; exact hlt
        have hat := HP.out.at j hlt
        have hv := val_small j hll (by rw [hsz]; exact h17) ha
        by_cases c1 : d[j].toNat < 48
        · have HF := Lib.hid (pn_char (all_char j hll (by rw [← hat]; exact okD_no1 _ c1)))
          have b1 : decide ((d[j].toNat : Int) < 48) = true := by simp; omega
          clear ha hll hat hv hsz c1
          go_wp2
          go_ret2
          exact ⟨ret_pn HF.out, rfl⟩
        · have b1 : decide ((d[j].toNat : Int) < 48) = false := by simp; omega
          by_cases c2 : 57 < d[j].toNat
          · have HF := Lib.hid (pn_char (all_char j hll (by rw [← hat]; exact okD_no2 _ c2)))
            have b2 : decide ((57 : Int) < (d[j].toNat : Int)) = true := by simp; omega
            clear ha hll hat hv hsz c1 c2
            go_wp2
            go_ret2
            exact ⟨ret_pn HF.out, rfl⟩
          · have b2 : decide ((57 : Int) < (d[j].toNat : Int)) = false := by simp; omega
            have HT := Lib.hid (all_take j hll ha (by rw [← hat]; exact okD_yes _ (by omega) (by omega)))
            rw [← hat] at HT
            have hc1 : (48 : Int) ≤ (d[j].toNat : Int) := by omega
            have hc2 : (d[j].toNat : Int) ≤ 57 := by omega
            generalize valD 0 ((digL p.data.toList).take j) = v at *
            clear ha hll hat hsz c1 c2
            go_wp2
            go_round
            case rel => exact ⟨j + 1, by omega, by go_num, by rw [HT.out.2]; go_num, HT.out.1⟩
            case measure => simp [intOf]; omega
      · have HA : Hid (((digL p.data.toList)).all okD = true ∧ (digL p.data.toList).take j = digL p.data.toList) := by
          have e : j = (digL p.data.toList).length := by rw [hsz]; omega
          rw [e, List.take_length] at ha
          exact Lib.hid ⟨ha, by rw [e, List.take_length]⟩
        rw [HA.out.2] at *
        have hv := val_small' (by rw [hsz]; exact h17) HA.out.1
        have HY := Lib.hid (pn_yes (by rw [hsz]; exact h1) (by rw [hsz]; exact h17) H3.out HA.out.1)
        rw [HP.out.neg] at HY
        generalize valD 0 (digL p.data.toList) = v at *
        have hjz : (j : Int) = (d.size : Int) := by omega
        have bn : decide (d.size < p.size) = true := by have := HPS.out; simp; omega
        clear ha hsz HA
        go_wp2
        go_ret2
        exact ⟨ret_pn HY.out, rfl⟩
  by_cases c0 : d[0] = 48
  · have b3 : ((d[0].toNat : Int) == 48) = true := by rw [c0]; rfl

    have b4 : (p.toList == [48]) = false := by
      rw [← list48]
      refine ba_no fun e => ?_
      have := (only_zero e).1
      rw [HP.out.neg] at this
      cases this
    have HF := Lib.hid (pn_lead (l := p.data.toList) (by rw [hh, c0]) (.inr HP.out.neg))
    clear hh c0 G
    go_enter Tryd.func21, Tryd.ntmps21
    go_wp2_with fail
    refine (CT.out _).mono ?_
    rintro e w1 ⟨rfl, rfl⟩
    go_wp2
    go_ret2
    exact ⟨ret_pn HF.out, rfl⟩
  · exact G (Lib.hid (.inl (by rw [hh]; intro e; exact c0 (Option.some.inj e)))) (.inl (by rw [beq_eq_false_iff_ne]; intro e; exact c0 (UInt8.toNat_inj.1 (by exact_mod_cast e))))

set_option maxHeartbeats 2000000 in
theorem num_impl_false (p d : ByteArray) (w : World) (HP : Hid (Piece p d false)) (hd : d = ⟨(digL p.data.toList).toArray⟩) (HPS : Hid (d.size = p.size)) :
    Calls Tryd.prog 21 #[.string p] w fun e w' => e = .returned (.tuple #[.int .i64 (pn p.data.toList).1, .bool (pn p.data.toList).2]) ∧ w' = w := by
  have CT := Lib.hid fun w => trim_impl p w
  rw [← hd] at CT
  clear hd
  rcases Nat.lt_or_ge d.size 1 with h1 | h1
  · have HF := Lib.hid (pn_short (l := p.data.toList) (by rw [HP.out.size]; omega))
    have b1 : decide ((d.size : Int) < 1) = true := by simp; omega
    clear h1
    go_enter Tryd.func21, Tryd.ntmps21
    go_wp2_with fail
    refine (CT.out _).mono ?_
    rintro e w1 ⟨rfl, rfl⟩
    go_wp2
    go_ret2
    exact ⟨ret_pn HF.out, rfl⟩
  have b1 : decide ((d.size : Int) < 1) = false := by simp; omega
  rcases Nat.lt_or_ge 17 d.size with h17 | h17
  · have HF := Lib.hid (pn_long (l := p.data.toList) (by rw [HP.out.size]; omega))
    have b2 : decide ((17 : Int) < (d.size : Int)) = true := by simp; omega
    clear h1 h17
    go_enter Tryd.func21, Tryd.ntmps21
    go_wp2_with fail
    refine (CT.out _).mono ?_
    rintro e w1 ⟨rfl, rfl⟩
    go_wp2
    go_ret2
    exact ⟨ret_pn HF.out, rfl⟩
  have b2 : decide ((17 : Int) < (d.size : Int)) = false := by simp; omega
  have h0 : 0 < d.size := by omega
  have hh := HP.out.head h0
  have G : ∀ (H3 : Hid ((digL p.data.toList).head? ≠ some 48 ∨ ((digL p.data.toList).length = 1 ∧ negL p.data.toList = false))) (H4 : ((d[0].toNat : Int) == 48) = false ∨ (((d[0].toNat : Int) == 48) = true ∧ (p.toList == [48]) = true)),
    Calls Tryd.prog 21 #[.string p] w fun e w' => e = .returned (.tuple #[.int .i64 (pn p.data.toList).1, .bool (pn p.data.toList).2]) ∧ w' = w := by
   intro H3 H4
   clear hh
   rcases H4 with b3 | ⟨b3, b4⟩
   all_goals
    go_enter Tryd.func21, Tryd.ntmps21
    go_wp2_with fail
    refine (CT.out _).mono ?_
    rintro e w1 ⟨rfl, rfl⟩
    go_wp2_with fail
    go_loop [5, 26] (fun x i => ∃ j : Nat, j ≤ d.size ∧ i = .int .i64 (j : Int) ∧ x = .int .i64 (valD 0 ((digL p.data.toList).take j) : Int) ∧ ((digL p.data.toList).take j).all okD = true) (fun _ i => d.size - (intOf i).toNat)
    case atStart => exact ⟨0, Nat.zero_le _, rfl, rfl, rfl⟩
    case round =>
      obtain ⟨j, hj, rfl, rfl, ha⟩ := hrel
      have hsz := HP.out.size
      by_cases hlt : j < d.size
      · have hll : j < (digL p.data.toList).length := by rw [hsz]; exact hlt
        have hat := HP.out.at j hlt
        have hv := val_small j hll (by rw [hsz]; exact h17) ha
        by_cases c1 : d[j].toNat < 48
        · have HF := Lib.hid (pn_char (all_char j hll (by rw [← hat]; exact okD_no1 _ c1)))
          have b1 : decide ((d[j].toNat : Int) < 48) = true := by simp; omega
          clear ha hll hat hv hsz c1
          go_wp2
          go_ret2
          exact ⟨ret_pn HF.out, rfl⟩
        · have b1 : decide ((d[j].toNat : Int) < 48) = false := by simp; omega
          by_cases c2 : 57 < d[j].toNat
          · have HF := Lib.hid (pn_char (all_char j hll (by rw [← hat]; exact okD_no2 _ c2)))
            have b2 : decide ((57 : Int) < (d[j].toNat : Int)) = true := by simp; omega
            clear ha hll hat hv hsz c1 c2
            go_wp2
            go_ret2
            exact ⟨ret_pn HF.out, rfl⟩
          · have b2 : decide ((57 : Int) < (d[j].toNat : Int)) = false := by simp; omega
            have HT := Lib.hid (all_take j hll ha (by rw [← hat]; exact okD_yes _ (by omega) (by omega)))
            rw [← hat] at HT
            have hc1 : (48 : Int) ≤ (d[j].toNat : Int) := by omega
            have hc2 : (d[j].toNat : Int) ≤ 57 := by omega
            generalize valD 0 ((digL p.data.toList).take j) = v at *
            clear ha hll hat hsz c1 c2
            go_wp2
            go_round
            case rel => exact ⟨j + 1, by omega, by go_num, by rw [HT.out.2]; go_num, HT.out.1⟩
            case measure => simp [intOf]; omega
      · have HA : Hid (((digL p.data.toList)).all okD = true ∧ (digL p.data.toList).take j = digL p.data.toList) := by
          have e : j = (digL p.data.toList).length := by rw [hsz]; omega
          rw [e, List.take_length] at ha
          exact Lib.hid ⟨ha, by rw [e, List.take_length]⟩
        rw [HA.out.2] at *
        have hv := val_small' (by rw [hsz]; exact h17) HA.out.1
        have HY := Lib.hid (pn_yes (by rw [hsz]; exact h1) (by rw [hsz]; exact h17) H3.out HA.out.1)
        rw [HP.out.neg] at HY
        generalize valD 0 (digL p.data.toList) = v at *
        have hjz : (j : Int) = (d.size : Int) := by omega
        have bn : decide (d.size < p.size) = false := by have := HPS.out; simp; omega
        clear ha hsz HA
        go_wp2
        go_ret2
        exact ⟨ret_pn HY.out, rfl⟩
  by_cases c0 : d[0] = 48
  · have b3 : ((d[0].toNat : Int) == 48) = true := by rw [c0]; rfl

    by_cases h2 : d.size = 1
    · exact G (Lib.hid (.inr ⟨by rw [HP.out.size]; exact h2, HP.out.neg⟩)) (.inr ⟨b3, (by rw [← list48]; exact ba_yes (is_zero HP.out h2 c0))⟩)
    · have b4 : (p.toList == [48]) = false := by
        rw [← list48]
        refine ba_no fun e => ?_
        have := (only_zero e).2
        rw [HP.out.size] at this
        exact h2 this
      have HF := Lib.hid (pn_lead (l := p.data.toList) (by rw [hh, c0]) (.inl (by rw [HP.out.size]; omega)))
      clear hh c0 G h2
      go_enter Tryd.func21, Tryd.ntmps21
      go_wp2_with fail
      refine (CT.out _).mono ?_
      rintro e w1 ⟨rfl, rfl⟩
      go_wp2
      go_ret2
      exact ⟨ret_pn HF.out, rfl⟩
  · exact G (Lib.hid (.inl (by rw [hh]; intro e; exact c0 (Option.some.inj e)))) (.inl (by rw [beq_eq_false_iff_ne]; intro e; exact c0 (UInt8.toNat_inj.1 (by exact_mod_cast e))))

set_option maxHeartbeats 2000000 in
theorem num_spec_true (p d : ByteArray) (w : World) (HP : Hid (Piece p d true)) (hext : p.extract 1 p.size = d) (p0 : 0 < p.size) (hf : ((p[0].toNat : Int) == 45) = true) :
    Calls Tryd.prog 19 #[.string p] w fun e w' => e = .returned (.tuple #[.int .i64 (pn p.data.toList).1, .bool (pn p.data.toList).2]) ∧ w' = w := by
  have hz : decide ((0 : Int) < (p.size : Int)) = true := decide_eq_true (by omega)
  have hzn : decide (0 < p.size) = true := decide_eq_true p0
  rcases Nat.lt_or_ge d.size 1 with h1 | h1
  · have HF := Lib.hid (pn_short (l := p.data.toList) (by rw [HP.out.size]; omega))
    have b1 : ((d.size : Int) == 0) = true := beq_iff_eq.2 (by omega)
    clear h1
    go_enter Tryd.func19, Tryd.ntmps19
    go_wp2
    go_ret2
    exact ⟨ret_pn HF.out, rfl⟩
  have b1 : ((d.size : Int) == 0) = false := beq_eq_false_iff_ne.2 (by omega)
  rcases Nat.lt_or_ge 17 d.size with h17 | h17
  · have HF := Lib.hid (pn_long (l := p.data.toList) (by rw [HP.out.size]; omega))
    have b2 : decide ((17 : Int) < (d.size : Int)) = true := by simp; omega
    clear h1 h17
    go_enter Tryd.func19, Tryd.ntmps19
    go_wp2
    go_ret2
    exact ⟨ret_pn HF.out, rfl⟩
  have b2 : decide ((17 : Int) < (d.size : Int)) = false := by simp; omega
  have h0 : 0 < d.size := by omega
  have hh := HP.out.head h0
  have G : ∀ (H3 : Hid ((digL p.data.toList).head? ≠ some 48 ∨ ((digL p.data.toList).length = 1 ∧ negL p.data.toList = false))) (H4 : ((d[0].toNat : Int) == 48) = false ∨ (((d[0].toNat : Int) == 48) = true ∧ decide ((1 : Int) < (d.size : Int)) = false)),
    Calls Tryd.prog 19 #[.string p] w fun e w' => e = .returned (.tuple #[.int .i64 (pn p.data.toList).1, .bool (pn p.data.toList).2]) ∧ w' = w := by
   intro H3 H4
   clear hh
   rcases H4 with b3 | ⟨b3, b4⟩
   rotate_left
   · exfalso
     rcases H3.out with h | ⟨_, h⟩
     · refine h ?_
       rw [HP.out.head h0]
       have := of_decide_eq_true (show decide (((d[0].toNat : Nat) : Int) = 48) = true by simpa using b3)
       exact congrArg some (UInt8.toNat_inj.1 (by show d[0].toNat = 48; omega))
     · rw [HP.out.neg] at h; cases h
   all_goals
    go_enter Tryd.func19, Tryd.ntmps19
    go_wp2_with fail
    go_loop [5, 6] (fun x i => ∃ j : Nat, j ≤ d.size ∧ i = .int .i64 (j : Int) ∧ x = .int .i64 (valD 0 ((digL p.data.toList).take j) : Int) ∧ ((digL p.data.toList).take j).all okD = true) (fun _ i => d.size - (intOf i).toNat)
    case atStart => exact ⟨0, Nat.zero_le _, rfl, rfl, rfl⟩
    case round =>
      obtain ⟨j, hj, rfl, rfl, ha⟩ := hrel
      have hsz := HP.out.size
      by_cases hlt : j < d.size
      · have hll : j < (digL p.data.toList).length := by rw [hsz]; exact hlt
        have hat := HP.out.at j hlt
        have hv := val_small j hll (by rw [hsz]; exact h17) ha
        by_cases c1 : d[j].toNat < 48
        · have HF := Lib.hid (pn_char (all_char j hll (by rw [← hat]; exact okD_no1 _ c1)))
          have b1 : decide ((d[j].toNat : Int) < 48) = true := by simp; omega
          clear ha hll hat hv hsz c1
          go_wp2
          go_ret2
          exact ⟨ret_pn HF.out, rfl⟩
        · have b1 : decide ((d[j].toNat : Int) < 48) = false := by simp; omega
          by_cases c2 : 57 < d[j].toNat
          · have HF := Lib.hid (pn_char (all_char j hll (by rw [← hat]; exact okD_no2 _ c2)))
            have b2 : decide ((57 : Int) < (d[j].toNat : Int)) = true := by simp; omega
            clear ha hll hat hv hsz c1 c2
            go_wp2
            go_ret2
            exact ⟨ret_pn HF.out, rfl⟩
          · have b2 : decide ((57 : Int) < (d[j].toNat : Int)) = false := by simp; omega
            have HT := Lib.hid (all_take j hll ha (by rw [← hat]; exact okD_yes _ (by omega) (by omega)))
            rw [← hat] at HT
            have hc1 : (48 : Int) ≤ (d[j].toNat : Int) := by omega
            have hc2 : (d[j].toNat : Int) ≤ 57 := by omega
            generalize valD 0 ((digL p.data.toList).take j) = v at *
            clear ha hll hat hsz c1 c2
            go_wp2
            go_round
            case rel => exact ⟨j + 1, by omega, by go_num, by rw [HT.out.2]; go_num, HT.out.1⟩
            case measure => simp [intOf]; omega
      · have HA : Hid (((digL p.data.toList)).all okD = true ∧ (digL p.data.toList).take j = digL p.data.toList) := by
          have e : j = (digL p.data.toList).length := by rw [hsz]; omega
          rw [e, List.take_length] at ha
          exact Lib.hid ⟨ha, by rw [e, List.take_length]⟩
        rw [HA.out.2] at *
        have hv := val_small' (by rw [hsz]; exact h17) HA.out.1
        have HY := Lib.hid (pn_yes (by rw [hsz]; exact h1) (by rw [hsz]; exact h17) H3.out HA.out.1)
        rw [HP.out.neg] at HY
        generalize valD 0 (digL p.data.toList) = v at *
        have hjz : (j : Int) = (d.size : Int) := by omega
  
        clear ha hsz HA
        go_wp2
        go_ret2
        exact ⟨ret_pn HY.out, rfl⟩
  by_cases c0 : d[0] = 48
  · have b3 : ((d[0].toNat : Int) == 48) = true := by rw [c0]; rfl
    have HF := Lib.hid (pn_lead (l := p.data.toList) (by rw [hh, c0]) (.inr HP.out.neg))
    clear hh c0 G
    cases b4 : decide ((1 : Int) < (d.size : Int))
    all_goals
      go_enter Tryd.func19, Tryd.ntmps19
      go_wp2
      go_ret2
      exact ⟨ret_pn HF.out, rfl⟩
  · exact G (Lib.hid (.inl (by rw [hh]; intro e; exact c0 (Option.some.inj e)))) (.inl (by rw [beq_eq_false_iff_ne]; intro e; exact c0 (UInt8.toNat_inj.1 (by exact_mod_cast e))))

set_option maxHeartbeats 2000000 in
theorem num_spec_false (p : ByteArray) (w : World) (HP : Hid (Piece p p false)) (p0 : 0 < p.size) (hf : ((p[0].toNat : Int) == 45) = false) :
    Calls Tryd.prog 19 #[.string p] w fun e w' => e = .returned (.tuple #[.int .i64 (pn p.data.toList).1, .bool (pn p.data.toList).2]) ∧ w' = w := by
  all_goals
    have hz : decide ((0 : Int) < (p.size : Int)) = true := decide_eq_true (by omega)
    have hzn : decide (0 < p.size) = true := decide_eq_true p0
    rcases Nat.lt_or_ge p.size 1 with h1 | h1
    · have HF := Lib.hid (pn_short (l := p.data.toList) (by rw [HP.out.size]; omega))
      have b1 : ((p.size : Int) == 0) = true := beq_iff_eq.2 (by omega)
      clear h1
      go_enter Tryd.func19, Tryd.ntmps19
      go_wp2
      go_ret2
      exact ⟨ret_pn HF.out, rfl⟩
    have b1 : ((p.size : Int) == 0) = false := beq_eq_false_iff_ne.2 (by omega)
    rcases Nat.lt_or_ge 17 p.size with h17 | h17
    · have HF := Lib.hid (pn_long (l := p.data.toList) (by rw [HP.out.size]; omega))
      have b2 : decide ((17 : Int) < (p.size : Int)) = true := by simp; omega
      clear h1 h17
      go_enter Tryd.func19, Tryd.ntmps19
      go_wp2
      go_ret2
      exact ⟨ret_pn HF.out, rfl⟩
    have b2 : decide ((17 : Int) < (p.size : Int)) = false := by simp; omega
    have h0 : 0 < p.size := by omega
    have hh := HP.out.head h0
    have G : ∀ (H3 : Hid ((digL p.data.toList).head? ≠ some 48 ∨ ((digL p.data.toList).length = 1 ∧ negL p.data.toList = false))) (H4 : ((p[0].toNat : Int) == 48) = false ∨ (((p[0].toNat : Int) == 48) = true ∧ decide ((1 : Int) < (p.size : Int)) = false)),
      Calls Tryd.prog 19 #[.string p] w fun e w' => e = .returned (.tuple #[.int .i64 (pn p.data.toList).1, .bool (pn p.data.toList).2]) ∧ w' = w := by
     intro H3 H4
     clear hh
     rcases H4 with b3 | ⟨b3, b4⟩
     all_goals
      go_enter Tryd.func19, Tryd.ntmps19
      go_wp2_with fail
      go_loop [5, 6] (fun x i => ∃ j : Nat, j ≤ p.size ∧ i = .int .i64 (j : Int) ∧ x = .int .i64 (valD 0 ((digL p.data.toList).take j) : Int) ∧ ((digL p.data.toList).take j).all okD = true) (fun _ i => p.size - (intOf i).toNat)
      case atStart => exact ⟨0, Nat.zero_le _, rfl, rfl, rfl⟩
      case round =>
        obtain ⟨j, hj, rfl, rfl, ha⟩ := hrel
        have hsz := HP.out.size
        by_cases hlt : j < p.size
        · have hll : j < (digL p.data.toList).length := by rw [hsz]; exact hlt
          have hat := HP.out.at j hlt
          have hv := val_small j hll (by rw [hsz]; exact h17) ha
          by_cases c1 : p[j].toNat < 48
          · have HF := Lib.hid (pn_char (all_char j hll (by rw [← hat]; exact okD_no1 _ c1)))
            have b1 : decide ((p[j].toNat : Int) < 48) = true := by simp; omega
            clear ha hll hat hv hsz c1
            go_wp2
            go_ret2
            exact ⟨ret_pn HF.out, rfl⟩
          · have b1 : decide ((p[j].toNat : Int) < 48) = false := by simp; omega
            by_cases c2 : 57 < p[j].toNat
            · have HF := Lib.hid (pn_char (all_char j hll (by rw [← hat]; exact okD_no2 _ c2)))
              have b2 : decide ((57 : Int) < (p[j].toNat : Int)) = true := by simp; omega
              clear ha hll hat hv hsz c1 c2
              go_wp2
              go_ret2
              exact ⟨ret_pn HF.out, rfl⟩
            · have b2 : decide ((57 : Int) < (p[j].toNat : Int)) = false := by simp; omega
              have HT := Lib.hid (all_take j hll ha (by rw [← hat]; exact okD_yes _ (by omega) (by omega)))
              rw [← hat] at HT
              have hc1 : (48 : Int) ≤ (p[j].toNat : Int) := by omega
              have hc2 : (p[j].toNat : Int) ≤ 57 := by omega
              generalize valD 0 ((digL p.data.toList).take j) = v at *
              clear ha hll hat hsz c1 c2
              go_wp2
              go_round
              case rel => exact ⟨j + 1, by omega, by go_num, by rw [HT.out.2]; go_num, HT.out.1⟩
              case measure => simp [intOf]; omega
        · have HA : Hid (((digL p.data.toList)).all okD = true ∧ (digL p.data.toList).take j = digL p.data.toList) := by
            have e : j = (digL p.data.toList).length := by rw [hsz]; omega
            rw [e, List.take_length] at ha
            exact Lib.hid ⟨ha, by rw [e, List.take_length]⟩
          rw [HA.out.2] at *
          have hv := val_small' (by rw [hsz]; exact h17) HA.out.1
          have HY := Lib.hid (pn_yes (by rw [hsz]; exact h1) (by rw [hsz]; exact h17) H3.out HA.out.1)
          rw [HP.out.neg] at HY
          generalize valD 0 (digL p.data.toList) = v at *
          have hjz : (j : Int) = (p.size : Int) := by omega
    
          clear ha hsz HA
          go_wp2
          go_ret2
          exact ⟨ret_pn HY.out, rfl⟩
    by_cases c0 : p[0] = 48
    · have b3 : ((p[0].toNat : Int) == 48) = true := by rw [c0]; rfl
      by_cases h2 : p.size = 1
      · exact G (Lib.hid (.inr ⟨by rw [HP.out.size]; exact h2, HP.out.neg⟩)) (.inr ⟨b3, decide_eq_false (by omega)⟩)
      · have b4 : decide ((1 : Int) < (p.size : Int)) = true := by simp; omega
        have HF := Lib.hid (pn_lead (l := p.data.toList) (by rw [hh, c0]) (.inl (by rw [HP.out.size]; omega)))
        clear hh c0 G h2
        go_enter Tryd.func19, Tryd.ntmps19
        go_wp2
        go_ret2
        exact ⟨ret_pn HF.out, rfl⟩
    · exact G (Lib.hid (.inl (by rw [hh]; intro e; exact c0 (Option.some.inj e)))) (.inl (by rw [beq_eq_false_iff_ne]; intro e; exact c0 (UInt8.toNat_inj.1 (by exact_mod_cast e))))

theorem num_impl (p : ByteArray) (w : World) :
    Calls Tryd.prog 21 #[.string p] w fun e w' => e = .returned (.tuple #[.int .i64 (pn p.data.toList).1, .bool (pn p.data.toList).2]) ∧ w' = w := by
  cases hn : negL p.data.toList with
  | true => exact num_impl_true p _ w (Lib.hid ⟨rfl, hn⟩) rfl (Lib.hid (by rw [← piece_size hn]; simp [ByteArray.size]))
  | false => exact num_impl_false p _ w (Lib.hid ⟨rfl, hn⟩) rfl (Lib.hid (by rw [← piece_size' hn]; simp [ByteArray.size]))
theorem num_spec (p : ByteArray) (w : World) :
    Calls Tryd.prog 19 #[.string p] w fun e w' => e = .returned (.tuple #[.int .i64 (pn p.data.toList).1, .bool (pn p.data.toList).2]) ∧ w' = w := by
  cases hn : negL p.data.toList with
  | true =>
    have h0 : 0 < p.size := by have := piece_size hn; omega
    have hf := neg_first h0
    rw [hn] at hf
    have e45 : p[0] = 45 := by simpa using hf.symm
    refine num_spec_true p _ w (Lib.hid ⟨?_, hn⟩) rfl h0 (by rw [e45]; rfl)
    unfold digL
    rw [hn, if_pos rfl]
    simp [List.drop_one, List.take_of_length_le]
  | false =>
    have hp : Piece p p false := ⟨by unfold digL; rw [hn, if_neg (by decide)], hn⟩
    by_cases h0 : 0 < p.size
    · refine num_spec_false p w (Lib.hid hp) h0 ?_
      have hf := neg_first h0
      rw [hn] at hf
      rw [beq_eq_false_iff_ne]
      intro e
      have : p[0] = 45 := UInt8.toNat_inj.1 (by exact_mod_cast e)
      rw [this] at hf
      cases hf
    · have HF := Lib.hid (pn_short (l := p.data.toList) (by rw [hp.size]; omega))
      have hz : decide ((0 : Int) < (p.size : Int)) = false := decide_eq_false (by omega)
      have hzn : decide (0 < p.size) = false := decide_eq_false h0
      have b1 : ((p.size : Int) == 0) = true := beq_iff_eq.2 (by omega)
      clear hp h0 hn
      go_enter Tryd.func19, Tryd.ntmps19
      go_wp2
      go_ret2
      exact ⟨ret_pn HF.out, rfl⟩
end Go.Proofs.YtgdnmhigjhfpkaaDoor
