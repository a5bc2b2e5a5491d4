/- Part of the library of this claim: how code is stepped through. -/
import Derived.Test.YtgdmpkhmedbnpaaGreatDoorXShelfNoneKB
set_option linter.unusedVariables false
set_option linter.unusedSimpArgs false
namespace Go.SK
open Go Go.RowKit

def Zbj (E n m:Nat) (cs:List Value) (v:Value):Ch where
 ok w F:=w.ownsRow 0 E n v m cs∧(∀ b,v.ownBlock=some b→F b)∧∀ u∈cs,u.oneCell'=true
 stable:=fun {w w' F} hs ⟨h1,h2,h3⟩=>⟨⟨h1.1,h1.2.imp id (by
   rintro ⟨g,cap,cur,rfl,hg,hh,r⟩
   exact ⟨g,cap,cur,rfl,hg,by rw [hs g (h2 g rfl)]; exact hh,r⟩)⟩,h2,h3⟩
def esC (t:Ty) (xs:List t.D) (cs:List Value):Ch where
 ok w F:=Elems (t.ok w F) xs cs
 stable hs h:=h.imp fun x c h=>t.ok_stable hs h
def rowC (t:Ty) (ys:List t.D) (inner:List Value) (A:Option Addr):Ch where
 ok w F:=Elems (t.ok w F) ys inner∧(ys=[]∨∃ b off,A=some ⟨b,off,none⟩∧F b∧∀ j v,inner[j]?=some v→w.cell? ⟨b,off+j,none⟩=some v)
 stable:=fun {w w' F} hs ⟨h1,h2⟩=>⟨h1.imp fun x c h=>t.ok_stable hs h,h2.imp id fun ⟨b,off,e,hb,hc⟩=>⟨b,off,e,hb,fun j v hj=>by rw [Va (hs b hb)]; exact hc j v hj⟩⟩
section
variable {P:Program} {tt:TT} {env:Env} {o:Oper} {w0 w:World} {F0:Ft} {Hs Rs:List Ch}
def cut (cs:List Value) (i n:Nat):List Value:=(cs.drop (i*n)).take n
theorem Elems.cut {α:Type} {ok:α→List Value→Prop} {m:Nat} (h:∀ x c,ok x c→c.length=m):∀ {xs:List α} {inner:List Value},Elems ok xs inner→∀ {i:Nat} {x:α},xs[i]?=some x→ok x (SK.cut inner i m)
 | [],_,_,i,x,hx=>by simp at hx
 | y :: ys,inner,⟨c,r,e,h1,h2⟩,0,x,hx=>by
  simp only [List.getElem?_cons_zero,Option.some.injEq] at hx
  subst hx
  unfold SK.cut
  rw [e,Nat.zero_mul,List.drop_zero,← h _ _ h1,List.take_left']
  ·exact h1
  ·rfl
 | y :: ys,inner,⟨c,r,e,h1,h2⟩,i+1,x,hx=>by
  have:=Elems.cut h h2 (i:=i) (x:=x) (by simpa using hx)
  unfold SK.cut at this ⊢
  rw [e,show (i+1)*m=c.length+i*m by rw [h _ _ h1,Nat.succ_mul,Nat.add_comm],List.drop_length_add_append]
  exact this
theorem Elems.set {α:Type} {ok:α→List Value→Prop} {m:Nat} (h:∀ x c,ok x c→c.length=m):∀ {xs:List α} {inner:List Value},Elems ok xs inner→∀ {i:Nat} {x:α} {c:List Value},i<xs.length→ok x c→Elems ok (xs.set i x) (Yd (i*m) c inner)
 | [],_,_,i,x,c,hi,_=>by simp at hi
 | y :: ys,inner,⟨c1,r,e,h1,h2⟩,0,x,c,hi,hc=>by
  refine ⟨c,r,?_,hc,h2⟩
  have l1:=h _ _ h1
  have l2:=h _ _ hc
  unfold Yd
  rw [e,Nat.zero_mul,List.take_zero,List.nil_append,Nat.zero_add,l2,← l1,List.drop_left']
  rfl
 | y :: ys,inner,⟨c1,r,e,h1,h2⟩,i+1,x,c,hi,hc=>by
  have ih:=Elems.set h h2 (i:=i) (x:=x) (c:=c) (by simpa using hi) hc
  refine ⟨c1,Yd (i*m) c r,?_,h1,ih⟩
  have l1:=h _ _ h1
  unfold Yd
  rw [e,show (i+1)*m=c1.length+i*m by rw [l1,Nat.succ_mul,Nat.add_comm],List.take_length_add_append,show c1.length+i*m+c.length=c1.length+(i*m+c.length) by omega,List.drop_length_add_append]
  simp
end
def Zbc:Nat→Code→Option Code
 | 0,.seq _ b=>some b
 | k+1,.seq _ b=>Zbc k b
 | _,_=>none
theorem J.cutH {P:Program} {n:Nat} {c tail:Code} {PQ:Y1} {env:Env} {w:World} (k:Nat) (R:Env→World→Prop) (ht:∀ env w,R env w→J P n tail PQ env w) (h:(∀ env w,R env w→J P n tail PQ env w)→J P n c PQ env w) (hc:Zbc k c=some tail:=by exact rfl):J P n c PQ env w:=h ht
section
variable {P:Program} {tt:TT} {env:Env} {o:Oper} {w0 w:World} {F0:Ft} {Hs Rs:List Ch}
theorem OpT.imp {K K':Value→World→Prop} (h:OpT P o env w K) (hk:∀ v w',K v w'→K' v w'):OpT P o env w K':=fun n a next Q hf hn=>h n a next Q hf fun v w' hv=>hn v w' (hk v w' hv)
end
section
variable {P:Program} {tt:TT} {env:Env} {o:Oper} {w0 w:World} {F0:Ft} {Hs Rs:List Ch}
end
end Go.SK
