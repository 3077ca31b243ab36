/- A step of a free region whose guard leaves it out. No condition. -/
import Derived.Test.YtekkhnjepcebkaaGreatDoorFree
set_option linter.unusedVariables false
set_option linter.unusedSimpArgs false
namespace Go.Proofs.YtekkhnjepcebkaaGreatDoor
open Go.RowKit
theorem stepF_out {P : Program} {ops : Array Oper} {o : Oper} {a : Act} {w : World} {K : Value → World → Prop} (hw : Region.wanted o (yielded ops a.tmps) = false) (hK : K undef w) : StepF P ops o a w K := ⟨by
  unfold StepG
  rw [hw]
  exact hK⟩
end Go.Proofs.YtekkhnjepcebkaaGreatDoor
