/- Contracts of the functions of two sequences. -/
import Derived.Test.YtgdnmhigjhfpkaaDoorWRot
import Derived.Test.YtgdnmhigjhfpkaaDoorWSum
namespace Go.Proofs.YtgdnmhigjhfpkaaDoor
open Go.RowKit SS
set_option maxRecDepth 100000

/-- two sequences of the same length -/
def pv (a b : ByteArray) : Bool := sv a.data.toList && sv b.data.toList && decide (a.size = b.size)
theorem pv_yes {a b : ByteArray} (h : pv a b = true) : sv a.data.toList = true ∧ sv b.data.toList = true ∧ a.size = b.size := by
  unfold pv at h
  rw [Bool.and_eq_true, Bool.and_eq_true, decide_eq_true_eq] at h
  exact ⟨h.1.1, h.1.2, h.2⟩
theorem pv_mk {a b : ByteArray} (h1 : sv a.data.toList = true) (h2 : sv b.data.toList = true) (h3 : a.size = b.size) : pv a b = true := by
  unfold pv
  rw [h1, h2, decide_eq_true h3]; rfl
structure PV (a b : ByteArray) : Prop where
  pos : 1 ≤ a.size
  le : a.size ≤ 255
  len : a.size = b.size
  oka : okB a.data.toList = true
  okb : okB b.data.toList = true
theorem pv_PV {a b : ByteArray} (h : pv a b = true) : PV a b := by
  obtain ⟨h1, h2, h3⟩ := pv_yes h
  obtain ⟨p1, p2, p3⟩ := sv_yes h1
  obtain ⟨q1, q2, q3⟩ := sv_yes h2
  rw [size_list] at p1 p2
  exact ⟨p1, p2, h3, p3, q3⟩
theorem quiet_below {P : Program} {f : FuncId} {args : Array Value} {w : World} {v : Value} (h : Calls P f args w fun e w' => e = .returned v ∧ ∃ n, w' = w.drewN n) :
    Calls P f args w fun e w' => e = .returned v ∧ Below w.heap.size w w' :=
  h.mono fun _ _ ⟨he, n, hn⟩ => ⟨he, by rw [hn]; exact below_drews (Below.refl _ _) n⟩
theorem same_below {P : Program} {f : FuncId} {args : Array Value} {w : World} {v : Value} (h : Calls P f args w fun e w' => e = .returned v ∧ w = w') :
    Calls P f args w fun e w' => e = .returned v ∧ Below w.heap.size w w' :=
  h.mono fun _ _ ⟨he, hn⟩ => ⟨he, by rw [← hn]; exact Below.refl _ _⟩
theorem same_quiet {P : Program} {f : FuncId} {args : Array Value} {w : World} {v : Value} (h : Calls P f args w fun e w' => e = .returned v ∧ w = w') :
    Calls P f args w fun e w' => e = .returned v ∧ ∃ n, w' = w.drewN n :=
  h.mono fun _ _ ⟨he, hn⟩ => ⟨he, 0, hn.symm⟩
theorem size_eq_no (a b : ByteArray) (h : a.size ≠ b.size) : ((a.size : Int) == (b.size : Int)) = false := by rw [beq_eq_false_iff_ne]; omega
theorem size_eq_yes (a b : ByteArray) (h : a.size = b.size) : ((a.size : Int) == (b.size : Int)) = true := by rw [beq_iff_eq]; omega
end Go.Proofs.YtgdnmhigjhfpkaaDoor
