/- Part of the library of this claim: how code is stepped through. -/
import Derived.Test.YtgdmpkhmedbnpaaGreatDoorXShelfNoneKj
import Derived.Laws.MakeOwn
import Derived.Laws.OwnMore
set_option linter.unusedVariables false
set_option linter.unusedSimpArgs false
namespace Go.SK
open Go Go.RowKit

section
variable {P:Program} {tt:TT} {env:Env} {o:Oper} {w0 w:World} {F0:Ft} {Hs Rs:List Ch}
end

def okC (t:Ty) (x:t.D) (cs:List Value):Ch where
 ok w F:=t.ok w F x cs
 stable hs h:=Ty.ok_stable _ hs h
def elC (A:Option Addr) (off:Nat) (cs:List Value):Ch where
 ok w F:=F (blk A)∧∀ j u,cs[j]?=some u→w.cell? ⟨blk A,off+j,none⟩=some u
 stable hs h:=⟨h.1,fun j u hu=>by rw [Va (a:=⟨blk A,off+j,none⟩) (hs _ h.1)]; exact h.2 j u hu⟩
section
variable {P:Program} {tt:TT} {env:Env} {S:World→Prop} {o:Oper} {w0 w:World} {F0:Ft} {Hs Rs:List Ch}
end

def Vj (l:List Ch) (c:Ch):Prop:=Gives l c∨∀ w F,c.ok w F
def Zbu (l:List Ch):(t:Ty)→t.D→List Value→Prop
 | .pair a b,x,cs=>∃ c1 c2,cs=c1 ++ c2∧Zbu l a x.1 c1∧Zbu l b x.2 c2
 | .int k,x,cs=>Vj l (okC (.int k) x cs)
 | .bool,x,cs=>Vj l (okC .bool x cs)
 | .str,x,cs=>Vj l (okC .str x cs)
 | .val,x,cs=>Vj l (okC .val x cs)
 | .unit,x,cs=>Vj l (okC .unit x cs)
 | .slice E t,x,cs=>Vj l (okC (.slice E t) x cs)
def Zdg (l:List Ch) {t:Ty}:List t.D→List (List Value)→Prop
 | [],[]=>True
 | x :: xs,cs :: css=>Zbu l t x cs∧Zdg l xs css
 | _,_=>False
section
variable {P:Program} {tt:TT} {env:Env} {o:Oper} {w0 w:World} {F0:Ft} {Hs Rs:List Ch}
end
end Go.SK
