/- It is proved here that laws.FnExactParseRegister returns true for every input and leaves what it was handed as it was, where the listed tables hold what the program's text lays in them. -/
import Derived.Test.YtgdnmhigjhfpkaaDoorRows
import Derived.Test.YtgdnmhigjhfpkaaDoorLawParse
import Derived.WalkKit
import Derived.ProofKit
import Derived.OpenShut
import Derived.ShutString
import Derived.ChangeOld
import Derived.Below
import Derived.Lib.SmallJoins
import Derived.Lib.LaidTab
import Derived.LaidMore
import Derived.Lay
import Derived.Stop.Joined
import Derived.Handed
import Derived.HandedShaped
namespace Go.Proofs.YtgdnmhigjhfpkaaDoor.fnExactParseRegister
open Go.ChangeShapes Go.WideShapes Go.ChangeAt Go.RowKit Go.Joins
open Go.ChangeMaps (open_string shut_string)
set_option linter.unusedVariables false

theorem own : ownKnob Tryd.prog.godebug = none := by kernel_rfl
theorem laidOut : laidOutB Tryd.prog = true := by kernel_rfl

/-- The length that the library keeps in a variable of its own. -/
theorem of_shape {W : World} (h : W.ShapedOpen Tryd.prog) : ∃ m, W.cell? ⟨1, 0, none⟩ = some (.int .i64 m) := splitLay.s1_3 W h
/-- The witness's world: the settled one with the listed tables laid. -/
theorem met (os : Os) (args : Array Value) : laidMetH Tryd.prog Rows.fnExactParseRegisterRow.laid ((World.laidAll Tryd.prog os Rows.fnExactParseRegisterRow.laid).forCall (fun _ _ => 0) ⟨#[], args, []⟩).memory := by
  rw [MakeChecks.laidMetH_plain _ _ _ (by kernel_rfl)]
  exact laidMet_laidAll args (by kernel_rfl) (by kernel_rfl)

set_option maxRecDepth 100000 in
theorem lifted (os : Os) (started : os.Started) (H : Type) (enc : TypeId × Value → H) :
    ReturnsInHanded {} Tryd.checked os 4 .any (fun w args => (Rows.fnExactParseRegisterSpec.pre enc Tryd.prog Tryd.f4 [] false w args ∧ laidMetH Tryd.prog Rows.fnExactParseRegisterRow.laid w) ∧ sizedMet enc Tryd.prog Tryd.f4 (OpenSpec.ofChange Rows.fnExactParseRegisterSpec) false w args)
      (Rows.fnExactParseRegisterSpec.post enc Tryd.prog Tryd.f4 false true false false) := by
  refine returnsInHanded_of_calls own started (by kernel_rfl)
    (ChangeSpec.witness_shaped (enc := enc) (C := Tryd.checked) (os := os) (X := fun w _ => laidMetH Tryd.prog Rows.fnExactParseRegisterRow.laid w) false (World.laidAll Tryd.prog os Rows.fnExactParseRegisterRow.laid) #[.string ByteArray.empty] 8 (World.laidAll_os _ _ _) (World.shaped_of_RefB (by kernel_rfl) (by kernel_rfl)) (by kernel_rfl) (by kernel_rfl) (by kernel_rfl) (met os _)) ?_
  intro w tape inp _ hSh _ hok hpre _
  obtain ⟨_, _, _, g, hg, _, _, _, _, hval0⟩ := hok
  obtain rfl : g = Tryd.f4 := Option.some.inj (hg.symm.trans Tryd.func4)
  obtain ⟨⟨⟨ds, gs, before, hW0, _⟩, hL0⟩, _⟩ := hpre
  have hL : laidMetH Tryd.prog Rows.fnExactParseRegisterRow.laid (w.forCall tape inp) := hL0.of_heap (by rfl)
  have hW : DataW.Whole enc Tryd.prog Tryd.f4.params.toList Rows.fnExactParseRegisterSpec.vars false (w.forCall tape inp) inp.args.toList ds gs before := DataW.Whole.of_heap (by rfl) hW0
  obtain ⟨m, hm⟩ := of_shape hSh
  suffices HC : Calls Tryd.prog 4 inp.args (w.forCall tape inp) (fun e W' => ∃ v, e = .returned v ∧ Rows.fnExactParseRegisterSpec.post enc Tryd.prog Tryd.f4 false true false false (w.forCall tape inp) inp.args v W') from
    HC.mono fun e W' ⟨v, he, hp⟩ => by subst he; exact ChangeSpec.post_blind hp
  generalize w.heap.size = base at hval0
  clear hW0 hL0 hSh
  generalize w.forCall tape inp = W at hL hW hm hval0 ⊢
  generalize inp.args = args at hW hval0 ⊢
  have hval : ∀ (j : Nat) t v, Tryd.f4.params[j]? = some t → args[j]? = some v → Value.okWide Tryd.prog W .any base t v := hval0
  have hW' := hW
  obtain ⟨p, q, hA0, hV, rfl, hfz, hnd⟩ := hW
  have hA : DataW.TrodAll enc Tryd.prog W 0 (fun _ => true) true Tryd.f4.params.toList args.toList ds p := hA0
  rw [Tryd.params4] at hA hval
  obtain ⟨v0, vs0, d0, ds0, p0, q0, hargs, rfl, rfl, h0, r0⟩ := trodAll_cons hA
  obtain ⟨rfl, rfl, rfl⟩ := trodAll_nil r0
  obtain rfl : args = #[v0] := by cases args; simp_all
  obtain ⟨rfl, rfl⟩ := trodVars_none hV
  obtain ⟨a0, rfl, rfl, rfl, w0⟩ := open_string Tryd.underlying9 (hval 0 9 v0 rfl rfl) h0
  clear hA0 hval0
  refine (walk_FnExactParseRegister a0 W w0 m hm).mono fun e W' ⟨he, bel⟩ => ?_
  subst he
  exact ⟨_, rfl, _, _, _, [], _, [], hW', trodAll_mk1 (shut_bool Tryd.underlying4 _), (trodAll_cons_mk (shut_string Tryd.underlying9 w0) trodAll_mk0), rfl, bel.frame _, fun h => by cases h⟩

theorem over : Rows.fnExactParseRegisterRow.holds Tryd.pinned (OpenSpec.ofChange Rows.fnExactParseRegisterSpec) :=
  OpenClaim.holds_of_wide 4 Tryd.f4 rfl rfl rfl rfl rfl rfl rfl ⟨rfl, rfl, rfl, rfl, rfl⟩ rfl rfl rfl rfl rfl (by kernel_rfl) Tryd.func4 (by kernel_rfl)
    (of_decide_eq_true (by kernel_rfl)) (by unfold Func.isWrapper; first | (rw [if_pos (by decide +kernel)]; kernel_rfl) | (rw [if_neg (by decide +kernel)]; exact ⟨rfl, rfl⟩))
    (fun os started H enc _ => lifted os started H enc)

theorem proved : Rows.FnExactParseRegisterSaid := over
#print axioms proved
end Go.Proofs.YtgdnmhigjhfpkaaDoor.fnExactParseRegister
