import Derived.Test.YtapfloegpaadgaaGreatSyN19
/- The examples of this folder: the call gives true (by evaluation). -/
set_option linter.unusedVariables false
namespace Go.Sy
open Go.Proofs
theorem exS : tb.spec 8 [] [] (.ret (.bool true)) [] := by
  have h : callOut (ev tb 1000000 (.call 8 [] .none) (stOf [] [])) 0 [] [] = some ([], .ret (.bool true), []) := by kernel_rfl
  exact mkSpec (call_spec seat_ok h (fun p hp => by cases hp)) (by kernel_rfl)
end Go.Sy
