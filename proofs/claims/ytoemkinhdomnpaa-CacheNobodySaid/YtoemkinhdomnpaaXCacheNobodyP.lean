/- The plain law behind CacheNobody: what its code computes is true for all inputs. -/
import Derived.Test.YtoemkinhdomnpaaXCacheNobodyF1
import Derived.KernelRfl
set_option linter.unusedVariables false
set_option linter.unusedSimpArgs false
namespace Go.SK.T
open Go Go.SK
theorem awake08_pure : Q25.f 300 = some true := by kernel_rfl
theorem CacheNobody_pure {p q u : Prop} (i : Int) (b : List Int) (n : Int) (_ : p) (_ : q) (_ : u) : ∃ k, Q24.f k i b n = some true := by
  refine ⟨300, ?_⟩
  unfold Q24.f
  rw [awake08_pure, if_neg (by decide), if_neg (by decide)]
  rfl
end Go.SK.T
