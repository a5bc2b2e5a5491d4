/- Part of the library of this claim: how code is stepped through. -/
import Derived.Test.YtoemkinhdomnpaaXCacheReadsKw
import Derived.Lib.AppendStr
set_option linter.unusedVariables false
set_option linter.unusedSimpArgs false
namespace Go.SK
open Go Go.RowKit Go.Lib

section
variable {P : Program} {w : World}
end
section
variable {P : Program} {tt : TT} {env : Env} {o : Oper} {w0 w : World} {F0 : Ft} {Hs Rs : List Ch}
end
end Go.SK
namespace Go.SK
open Go Go.RowKit Go.Lib
section
variable {P : Program} {env : Env} {S : World → Prop} {o : Oper}
end
end Go.SK
