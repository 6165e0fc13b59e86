/- Contracts of the functions of two sequences. -/
import Derived.Test.YtibnlaphkmnhfaaWRot
import Derived.Test.YtibnlaphkmnhfaaWSum
namespace Go.Proofs.Ytibnlaphkmnhfaa
open Go.RowKit SS
set_option maxRecDepth 100000

/-- two sequences of the same length -/
def pv (a b : ByteArray) : Bool := sv a.data.toList && sv b.data.toList && decide (a.size = b.size)
theorem pv_yes {a b : ByteArray} (h : pv a b = true) : sv a.data.toList = true ∧ sv b.data.toList = true ∧ a.size = b.size := by
  unfold pv at h
  rw [Bool.and_eq_true, Bool.and_eq_true, decide_eq_true_eq] at h
  exact ⟨h.1.1, h.1.2, h.2⟩
theorem pv_mk {a b : ByteArray} (h1 : sv a.data.toList = true) (h2 : sv b.data.toList = true) (h3 : a.size = b.size) : pv a b = true := by
  unfold pv
  rw [h1, h2, decide_eq_true h3]; rfl
structure PV (a b : ByteArray) : Prop where
  pos : 1 ≤ a.size
  le : a.size ≤ 255
  len : a.size = b.size
  oka : okB a.data.toList = true
  okb : okB b.data.toList = true
theorem pv_PV {a b : ByteArray} (h : pv a b = true) : PV a b := by
  obtain ⟨h1, h2, h3⟩ := pv_yes h
  obtain ⟨p1, p2, p3⟩ := sv_yes h1
  obtain ⟨q1, q2, q3⟩ := sv_yes h2
  rw [size_list] at p1 p2
  exact ⟨p1, p2, h3, p3, q3⟩
theorem quiet_below {P : Program} {f : FuncId} {args : Array Value} {w : World} {v : Value} (h : Calls P f args w fun e w' => e = .returned v ∧ ∃ n, w' = w.drewN n) :
    Calls P f args w fun e w' => e = .returned v ∧ Below w.heap.size w w' :=
  h.mono fun _ _ ⟨he, n, hn⟩ => ⟨he, by rw [hn]; exact below_drews (Below.refl _ _) n⟩
theorem same_below {P : Program} {f : FuncId} {args : Array Value} {w : World} {v : Value} (h : Calls P f args w fun e w' => e = .returned v ∧ w = w') :
    Calls P f args w fun e w' => e = .returned v ∧ Below w.heap.size w w' :=
  h.mono fun _ _ ⟨he, hn⟩ => ⟨he, by rw [← hn]; exact Below.refl _ _⟩
theorem same_quiet {P : Program} {f : FuncId} {args : Array Value} {w : World} {v : Value} (h : Calls P f args w fun e w' => e = .returned v ∧ w = w') :
    Calls P f args w fun e w' => e = .returned v ∧ ∃ n, w' = w.drewN n :=
  h.mono fun _ _ ⟨he, hn⟩ => ⟨he, 0, hn.symm⟩
theorem size_eq_no (a b : ByteArray) (h : a.size ≠ b.size) : ((a.size : Int) == (b.size : Int)) = false := by rw [beq_eq_false_iff_ne]; omega
theorem size_eq_yes (a b : ByteArray) (h : a.size = b.size) : ((a.size : Int) == (b.size : Int)) = true := by rw [beq_iff_eq]; omega
theorem pair_impl (a b : ByteArray) (w : World) (ha : a.size ≤ maxLen) (hb : b.size ≤ maxLen) :
    Calls Try.prog 62 #[.string a, .string b] w fun e w' => e = .returned (.bool (pv a b)) ∧ w = w' := by
  have C1 := Lib.hid fun w => seq_impl a w ha
  have C2 := Lib.hid fun w => seq_impl b w hb
  have E : Hid (pv a b = (sv a.data.toList && sv b.data.toList && decide (a.size = b.size))) := by show _ = _; rfl
  generalize pv a b = r at *
  cases h1 : sv a.data.toList with
  | false =>
    rw [h1, Bool.false_and, Bool.false_and] at E
    go_enter Try.func62, Try.ntmps62
    go_wp2_with fail
    refine (C1.out _).mono ?_
    rintro e w1 ⟨rfl, rfl⟩
    go_wp2
    go_ret
    exact ⟨ret_bool E.out.symm, rfl⟩
  | true =>
    cases h2 : sv b.data.toList with
    | false =>
      rw [h1, h2, Bool.true_and, Bool.false_and] at E
      go_enter Try.func62, Try.ntmps62
      go_wp2_with fail
      refine (C1.out _).mono ?_
      rintro e w1 ⟨rfl, rfl⟩
      go_wp2_with fail
      refine (C2.out _).mono ?_
      rintro e w1 ⟨rfl, rfl⟩
      go_wp2
      go_ret
      exact ⟨ret_bool E.out.symm, rfl⟩
    | true =>
      rw [h1, h2, Bool.true_and, Bool.true_and] at E
      by_cases h3 : a.size = b.size
      · have hc := size_eq_yes a b h3
        rw [decide_eq_true h3] at E
        clear h3
        go_enter Try.func62, Try.ntmps62
        go_wp2_with fail
        refine (C1.out _).mono ?_
        rintro e w1 ⟨rfl, rfl⟩
        go_wp2_with fail
        refine (C2.out _).mono ?_
        rintro e w1 ⟨rfl, rfl⟩
        go_wp2
        go_ret
        exact ⟨ret_bool E.out.symm, rfl⟩
      · have hc := size_eq_no a b h3
        rw [decide_eq_false h3] at E
        clear h3
        go_enter Try.func62, Try.ntmps62
        go_wp2_with fail
        refine (C1.out _).mono ?_
        rintro e w1 ⟨rfl, rfl⟩
        go_wp2_with fail
        refine (C2.out _).mono ?_
        rintro e w1 ⟨rfl, rfl⟩
        go_wp2
        go_ret
        exact ⟨ret_bool E.out.symm, rfl⟩
theorem pair_spec (a b : ByteArray) (w : World) (ha : a.size ≤ maxLen) (hb : b.size ≤ maxLen) :
    Calls Try.prog 64 #[.string a, .string b] w fun e w' => e = .returned (.bool (pv a b)) ∧ w = w' := by
  have C1 := Lib.hid fun w => seq_spec a w ha
  have C2 := Lib.hid fun w => seq_spec b w hb
  have E : Hid (pv a b = (sv a.data.toList && sv b.data.toList && decide (a.size = b.size))) := by show _ = _; rfl
  generalize pv a b = r at *
  cases h1 : sv a.data.toList with
  | false =>
    rw [h1, Bool.false_and, Bool.false_and] at E
    go_enter Try.func64, Try.ntmps64
    go_wp2_with fail
    refine (C1.out _).mono ?_
    rintro e w1 ⟨rfl, rfl⟩
    go_wp2
    go_ret
    exact ⟨ret_bool E.out.symm, rfl⟩
  | true =>
    cases h2 : sv b.data.toList with
    | false =>
      rw [h1, h2, Bool.true_and, Bool.false_and] at E
      go_enter Try.func64, Try.ntmps64
      go_wp2_with fail
      refine (C1.out _).mono ?_
      rintro e w1 ⟨rfl, rfl⟩
      go_wp2_with fail
      refine (C2.out _).mono ?_
      rintro e w1 ⟨rfl, rfl⟩
      go_wp2
      go_ret
      exact ⟨ret_bool E.out.symm, rfl⟩
    | true =>
      rw [h1, h2, Bool.true_and, Bool.true_and] at E
      by_cases h3 : a.size = b.size
      · have hc := size_eq_yes a b h3
        rw [decide_eq_true h3] at E
        clear h3
        go_enter Try.func64, Try.ntmps64
        go_wp2_with fail
        refine (C1.out _).mono ?_
        rintro e w1 ⟨rfl, rfl⟩
        go_wp2_with fail
        refine (C2.out _).mono ?_
        rintro e w1 ⟨rfl, rfl⟩
        go_wp2
        go_ret
        exact ⟨ret_bool E.out.symm, rfl⟩
      · have hc := size_eq_no a b h3
        rw [decide_eq_false h3] at E
        clear h3
        go_enter Try.func64, Try.ntmps64
        go_wp2_with fail
        refine (C1.out _).mono ?_
        rintro e w1 ⟨rfl, rfl⟩
        go_wp2_with fail
        refine (C2.out _).mono ?_
        rintro e w1 ⟨rfl, rfl⟩
        go_wp2
        go_ret
        exact ⟨ret_bool E.out.symm, rfl⟩
theorem addb_impl (a b : ByteArray) (w : World) (h : pv a b = true) :
    Calls Try.prog 16 #[.string a, .string b] w fun e w' => e = .returned (.tuple #[.string (bs (addL a.data.toList b.data.toList)), .bool true]) ∧ Below w.heap.size w w' := by
  obtain ⟨h1, h2, h3, h4, h5⟩ := pv_PV h
  have C0 := Lib.hid fun w => pair_impl a b w (by unfold maxLen; omega) (by unfold maxLen; omega)
  have C1 := Lib.hid fun w => sum_impl a b w h3 h2 h4 h5
  clear h3 h4 h5
  go_enter Try.func16, Try.ntmps16
  go_wp2_with fail
  refine (C0.out _).mono ?_
  rintro e w1 ⟨rfl, rfl⟩
  go_wp2_with fail
  refine (C1.out _).mono ?_
  rintro e w1 ⟨rfl, hb⟩
  go_wp2
  go_ret2
  exact ⟨rfl, hb⟩
theorem addb_impl_no (a b : ByteArray) (w : World) (ha : a.size ≤ maxLen) (hb : b.size ≤ maxLen) (h : pv a b = false) :
    Calls Try.prog 16 #[.string a, .string b] w fun e w' => e = .returned (.tuple #[.string ⟨#[]⟩, .bool false]) ∧ Below w.heap.size w w' := by
  have C0 := Lib.hid fun w => pair_impl a b w ha hb
  go_enter Try.func16, Try.ntmps16
  go_wp2_with fail
  refine (C0.out _).mono ?_
  rintro e w1 ⟨rfl, rfl⟩
  go_wp2
  go_ret2
  exact ⟨rfl, Below.refl _ _⟩
theorem saddb_yes (a b : ByteArray) (w : World) (h : pv a b = true) :
    Calls Try.prog 17 #[.string a, .string b] w fun e w' => e = .returned (.tuple #[.string (bs (addL a.data.toList b.data.toList)), .bool true]) ∧ Below w.heap.size w w' := by
  obtain ⟨h1, h2, h3, h4, h5⟩ := pv_PV h
  have C0 := Lib.hid fun w => pair_spec a b w (by unfold maxLen; omega) (by unfold maxLen; omega)
  have C1 := Lib.hid fun w => add_spec a b w h3 h2 h4 h5
  clear h3 h4 h5
  go_enter Try.func17, Try.ntmps17
  go_wp2_with fail
  refine (C0.out _).mono ?_
  rintro e w1 ⟨rfl, rfl⟩
  go_wp2_with fail
  refine (C1.out _).mono ?_
  rintro e w1 ⟨rfl, hb⟩
  go_wp2
  go_ret2
  exact ⟨rfl, hb⟩
theorem saddb_no (a b : ByteArray) (w : World) (ha : a.size ≤ maxLen) (hb : b.size ≤ maxLen) (h : pv a b = false) :
    Calls Try.prog 17 #[.string a, .string b] w fun e w' => e = .returned (.tuple #[.string ⟨#[]⟩, .bool false]) ∧ Below w.heap.size w w' := by
  have C0 := Lib.hid fun w => pair_spec a b w ha hb
  go_enter Try.func17, Try.ntmps17
  go_wp2_with fail
  refine (C0.out _).mono ?_
  rintro e w1 ⟨rfl, rfl⟩
  go_wp2
  go_ret2
  exact ⟨rfl, Below.refl _ _⟩
theorem cross_impl (a b : ByteArray) (k : Int) (w : World) (h : pv a b = true) :
    Calls Try.prog 22 #[.string a, .string b, .int .i64 k] w fun e w' => e = .returned (.tuple #[.int .i64 (cor a.data.toList b.data.toList (md k b.size)), .bool true]) ∧ ∃ n, w' = w.drewN n := by
  obtain ⟨h1, h2, h3, h4, h5⟩ := pv_PV h
  have C0 := Lib.hid fun w => pair_impl a b w (by unfold maxLen; omega) (by unfold maxLen; omega)
  have C1 := Lib.hid fun w => modulo_impl k b.size w (by omega) (by omega)
  have C2 := Lib.hid fun w => corr_impl a b (md k b.size) w h3 h2 (md_lt _ _ (by omega)) h4 h5
  clear h3 h4 h5
  generalize md k b.size = j at *
  generalize cor a.data.toList b.data.toList j = r at *
  go_enter Try.func22, Try.ntmps22
  go_wp2_with fail
  refine (C0.out _).mono ?_
  rintro e w1 ⟨rfl, rfl⟩
  go_wp2_with fail
  refine (C1.out _).mono ?_
  rintro e w1 ⟨rfl, rfl⟩
  go_wp2_with fail
  refine (C2.out _).mono ?_
  rintro e w1 ⟨rfl, n, rfl⟩
  go_wp2
  go_ret2
  exact ⟨rfl, _, rfl⟩
theorem cross_impl_no (a b : ByteArray) (k : Int) (w : World) (ha : a.size ≤ maxLen) (hb : b.size ≤ maxLen) (h : pv a b = false) :
    Calls Try.prog 22 #[.string a, .string b, .int .i64 k] w fun e w' => e = .returned (.tuple #[.int .i64 0, .bool false]) ∧ ∃ n, w' = w.drewN n := by
  have C0 := Lib.hid fun w => pair_impl a b w ha hb
  go_enter Try.func22, Try.ntmps22
  go_wp2_with fail
  refine (C0.out _).mono ?_
  rintro e w1 ⟨rfl, rfl⟩
  go_wp2
  go_ret2
  exact ⟨rfl, 0, rfl⟩
set_option maxHeartbeats 1000000 in
theorem l2cross (a b : ByteArray) (k : Int) (w : World) (h : PV a b) :
    Calls Try.prog 72 #[.string a, .string b, .int .i64 k] w fun e w' => e = .returned (.int .i64 (cor a.data.toList b.data.toList (md k b.size))) ∧ Below w.heap.size w w' := by
  obtain ⟨h1, h2, h3, h4, h5⟩ := h
  have hm := md_lt k b.size (by omega)
  have C0 : Hid (∀ w, Calls Try.prog 76 #[.string b, .int .i64 k] w fun e w' => e = .returned (.string (rotS (md k b.size) b)) ∧ ∃ n, w' = w.drewN n) := Lib.hid fun w => shift_spec b k w (by omega) (by omega)
  have hrs := rotS_size (md k b.size) b (by omega)
  have C1 := Lib.hid fun w => add_spec a (rotS (md k b.size) b) w (by omega) h2 h4 (by rw [rotS_list]; exact okB_rot _ _ h5)
  have C2 := Lib.hid fun w => balance_spec (bs (addL a.data.toList (rotS (md k b.size) b).data.toList)) w (by rw [bs_size, addL_length, size_list]; exact h2) (by rw [bs_list]; exact okB_addL _ _)
  have E := Lib.hid (bal_cor a.data.toList b.data.toList (md k b.size) (by rw [size_list, size_list]; exact h3) (by rw [size_list]; exact hm) h4 h5)
  obtain ⟨hb0, hb1⟩ := bal_bd (addL a.data.toList (rotS (md k b.size) b).data.toList)
  rw [addL_length, size_list] at hb0 hb1
  rw [← rotS_list] at E
  rw [bs_list] at C2
  generalize md k b.size = j at *
  generalize cor a.data.toList b.data.toList j = r at *
  generalize bal (addL a.data.toList (rotS j b).data.toList) = q at *
  generalize bs (addL a.data.toList (rotS j b).data.toList) = y at *
  generalize rotS j b = x at *
  clear h3 h4 h5 hrs
  go_enter Try.func72, Try.ntmps72
  go_wp2_with fail
  refine (C0.out _).mono ?_
  rintro e w1 ⟨rfl, n, rfl⟩
  go_wp2_with fail
  refine (C1.out _).mono ?_
  rintro e w1 ⟨rfl, hb⟩
  go_wp2_with fail
  refine (C2.out _).mono ?_
  rintro e w2 ⟨rfl, rfl⟩
  go_wp2
  go_ret
  exact ⟨ret_int E.out, (below_drews (Below.refl _ _) n).trans (hb.mono (by simp))⟩
theorem scross_yes (a b : ByteArray) (k : Int) (w : World) (h : pv a b = true) :
    Calls Try.prog 23 #[.string a, .string b, .int .i64 k] w fun e w' => e = .returned (.tuple #[.int .i64 (cor a.data.toList b.data.toList (md k b.size)), .bool true]) ∧ Below w.heap.size w w' := by
  obtain ⟨h1, h2, h3, h4, h5⟩ := pv_PV h
  have C0 := Lib.hid fun w => pair_spec a b w (by unfold maxLen; omega) (by unfold maxLen; omega)
  have C1 := Lib.hid fun w => l2cross a b k w (pv_PV h)
  clear h3 h4 h5
  generalize cor a.data.toList b.data.toList (md k b.size) = r at *
  go_enter Try.func23, Try.ntmps23
  go_wp2_with fail
  refine (C0.out _).mono ?_
  rintro e w1 ⟨rfl, rfl⟩
  go_wp2_with fail
  refine (C1.out _).mono ?_
  rintro e w1 ⟨rfl, hb⟩
  go_wp2
  go_ret2
  exact ⟨rfl, hb⟩
theorem scross_no (a b : ByteArray) (k : Int) (w : World) (ha : a.size ≤ maxLen) (hb : b.size ≤ maxLen) (h : pv a b = false) :
    Calls Try.prog 23 #[.string a, .string b, .int .i64 k] w fun e w' => e = .returned (.tuple #[.int .i64 0, .bool false]) ∧ Below w.heap.size w w' := by
  have C0 := Lib.hid fun w => pair_spec a b w ha hb
  go_enter Try.func23, Try.ntmps23
  go_wp2_with fail
  refine (C0.out _).mono ?_
  rintro e w1 ⟨rfl, rfl⟩
  go_wp2
  go_ret2
  exact ⟨rfl, Below.refl _ _⟩
end Go.Proofs.Ytibnlaphkmnhfaa
