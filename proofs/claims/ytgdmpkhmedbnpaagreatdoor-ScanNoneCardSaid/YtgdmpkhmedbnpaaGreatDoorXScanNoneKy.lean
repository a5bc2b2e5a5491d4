/- Part of the library of this claim: how code is stepped through. -/
import Derived.Test.YtgdmpkhmedbnpaaGreatDoorXScanNoneKx
set_option linter.unusedVariables false
set_option linter.unusedSimpArgs false
namespace Go.SK
open Go Go.RowKit

def Zmy (P:Program) (n:Nat) (c:Code) (PQ:Xd):Nat→Env→World→Prop
 | 0,_,_=>False
 | k+1,env,w=>J P n c (Gy (Zmy P n c PQ k) PQ) env w
section
variable {P:Program} {n:Nat} {env:Env} {w:World} {PQ:Xd} {c:Code}
end
section
variable {P:Program} {tt:TT} {env:Env} {o:Oper} {w0 w:World} {F0:Ft} {Hs Rs:List Ch}
end
end Go.SK
