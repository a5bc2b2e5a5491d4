/- The plain law behind DevNobody: what its code computes is true for all numbers and bytes. -/
import Derived.Test.YtoemkinhdomnpaaXDevNobodyF0
set_option linter.unusedVariables false
set_option linter.unusedSimpArgs false
namespace Go.SK.T
open Go Go.SK
theorem nobAwake : sluicegatelaw06_awake.f = some true := by rfl
theorem DevNobody_pure {p q : Prop} (i : Int) (b : List Int) (_ : p) (_ : q) : sluicegatelaw06_DevNobody.f i b = some true := by
  unfold sluicegatelaw06_DevNobody.f
  rw [nobAwake]
  rfl
end Go.SK.T
