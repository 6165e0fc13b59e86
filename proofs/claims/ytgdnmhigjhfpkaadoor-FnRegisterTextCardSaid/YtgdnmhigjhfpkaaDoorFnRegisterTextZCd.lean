/- It is proved here that laws.FnRegisterText returns true for every input and leaves what it was handed as it was, with the listed tables tied to the program's text. -/
import Derived.Test.YtgdnmhigjhfpkaaDoorRows
import Derived.Test.YtgdnmhigjhfpkaaDoorCards
import Derived.Test.YtgdnmhigjhfpkaaDoorTie
import Derived.Test.YtgdnmhigjhfpkaaDoorFnRegisterTextZRow
import Derived.SevenTiedAt
namespace Go.Proofs.YtgdnmhigjhfpkaaDoor.fnRegisterText
open Go
theorem card : Rows.FnRegisterTextCardSaid :=
  Claim7.holds_tied_plain_at .later [] [.data, .data, .data, .data, .pinned] true (true, "19a7366e81ca71c6540cd147a75a7518b21badc8173b456305e4185514c2afed") false
    proved (fun _ h => by cases h) (by kernel_rfl) (fun _ h => by cases h) fnRegisterText_row_tie rfl ⟨rfl, rfl⟩ (by kernel_rfl) rfl
    (fun f fn hf hfn => by
      obtain rfl : f = 5 := Option.some.inj ((show Tryd.prog.funcNamed "loop.example/spreadspectrum/laws.FnRegisterText" = some 5 by kernel_rfl).symm.trans hf) |>.symm
      obtain rfl : fn = Tryd.f5 := (Option.some.inj (Tryd.func5.symm.trans hfn)).symm
      exact ⟨by kernel_rfl, fun j t ht => by
        rw [Tryd.params5] at ht
        have h3 : t = 32 := by
          rcases j with _ | _ | j
          · simpa using ht.symm
          · simpa using ht.symm
          · simp at ht
        subst h3
        exact (show Tryd.prog.wantsStandIn 32 = false by kernel_rfl)⟩)
    (by kernel_rfl)
#print axioms card
end Go.Proofs.YtgdnmhigjhfpkaaDoor.fnRegisterText
