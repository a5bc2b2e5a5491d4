/- Part of the library of this claim: how code is stepped through. -/
import Derived.Test.YtoemkinhdomnpaaXCacheReadsKu
import Derived.FollowTie
import Derived.ChangeKeysEq
set_option linter.unusedVariables false
set_option linter.unusedSimpArgs false
namespace Go.SK
open Go

def mrow (P : Program) (t : TypeId) (name : String) : Option (FuncId × Bool) :=
 match P.info? t with
 | none => none
 | some i => match i.methods.find? (·.name == name) with
  | none => none
  | some m => match m.path.toList, m.func with
   | [], some x => some x
   | _, _ => none
section
variable {P : Program} {tt : TT} {env : Env} {o : Oper} {w0 w : World} {F0 : Ft} {Hs Rs : List Ch}
end
def conc : TK → Bool
 | .iface => false
 | .other => false
 | _ => true
end Go.SK
namespace Go.SK
open Go Go.RowKit
end Go.SK
