/- Part of the library of this claim: how code is stepped through. -/
import Derived.Test.YtgdmpkhmedbnpaaGreatDoorXShelfFlushedKC
set_option linter.unusedVariables false
set_option linter.unusedSimpArgs false
namespace Go.SK
open Go Go.RowKit

def rws (E n:Nat):List Value→List Nat→List (List Value)→List Ch
 | u :: us,m :: ms,cs :: css=>Xy E n m cs u :: rws E n us ms css
 | _,_,_=>[]
theorem SatH.split:∀ {A B:List Ch} {w:World} {F:Nat→Prop},SatH (A ++ B) w F→∃ F1 F2,SatH A w F1∧SatH B w F2∧(∀ b,F1 b→F b∧¬ F2 b)∧(∀ b,F2 b→F b)
 | [],B,w,F,h=>⟨fun _=>False,F,trivial,h,fun b hb=>hb.elim,fun b hb=>hb⟩
 | c :: A,B,w,F,⟨G1,G2,h1,h2,h3,h4⟩=>by
  obtain ⟨F1,F2,a,b,d,e⟩:=SatH.split h2
  exact ⟨fun x=>G1 x∨F1 x,F2,⟨G1,F1,h1,a,fun x hx=>⟨.inl hx,fun q=>(h3 x hx).2 (d x q).1⟩,fun x hx=>.inr hx⟩,b,fun x hx=>hx.elim (fun q=>⟨(h3 x q).1,fun z=>(h3 x q).2 (e x z)⟩) (fun q=>⟨h4 x (d x q).1,(d x q).2⟩),fun x hx=>h4 x (e x hx)⟩
section
variable {w0 w:World} {F0:Ft} {Hs Rs:List Ch}
end
def nestC (E1 E2 n:Nat) (ms:List Nat) (css:List (List Value)) (v:Value):Ch where
 ok w F:=∃ us:List Value,(us.length=ms.length∧css.length=ms.length)∧SatH (Xy E1 1 ms.length us v :: rws E2 n us ms css) w F
 stable hs h:=⟨h.choose,h.choose_spec.1,SatH.stable hs h.choose_spec.2⟩
def nestI (E1 E2 n:Nat) (ms:List Nat) (css:List (List Value)) (v:Value) (ix:Int) (m:Nat) (A2:Option Addr) (c2:Nat):Ch where
 ok w F:=∃ us:List Value,((us.length=ms.length∧css.length=ms.length)∧us[ix.toNat]?=some (.slice A2 m c2))∧SatH (Xy E1 1 ms.length us v :: rws E2 n us ms css) w F
 stable hs h:=⟨h.choose,h.choose_spec.1,SatH.stable hs h.choose_spec.2⟩
def Elems2 {α:Type} (ok:α→List Value→Prop):List (List α)→List (List Value)→Prop
 | [],[]=>True
 | xs :: xss,cs :: css=>Elems ok xs cs∧Elems2 ok xss css
 | _,_=>False
theorem Elems2.imp {α:Type} {ok ok':α→List Value→Prop} (h:∀ x c,ok x c→ok' x c):∀ {xss:List (List α)} {css:List (List Value)},Elems2 ok xss css→Elems2 ok' xss css
 | [],[],_=>trivial
 | _ :: _,_ :: _,⟨a,b⟩=>⟨a.imp h,Elems2.imp h b⟩
theorem Elems2.append {α:Type} {ok:α→List Value→Prop}:∀ {xss yss:List (List α)} {css dss:List (List Value)},Elems2 ok xss css→Elems2 ok yss dss→Elems2 ok (xss ++ yss) (css ++ dss)
 | [],_,[],_,_,h=>h
 | _ :: _,_,_ :: _,_,⟨a,b⟩,h=>⟨a,Elems2.append b h⟩
theorem Elems2.length {α:Type} {ok:α→List Value→Prop}:∀ {xss:List (List α)} {css:List (List Value)},Elems2 ok xss css→css.length=xss.length
 | [],[],_=>rfl
 | _ :: _,_ :: _,⟨_,b⟩=>by simp [Elems2.length b]
theorem Elems2.get {α:Type} {ok:α→List Value→Prop}:∀ {xss:List (List α)} {css:List (List Value)},Elems2 ok xss css→∀ {i:Nat} {xs:List α},xss[i]?=some xs→∃ cs,css[i]?=some cs∧Elems ok xs cs
 | [],_,_,_,_,hx=>by simp at hx
 | _ :: _,cs :: _,⟨a,b⟩,0,xs,hx=>by
  simp only [List.getElem?_cons_zero,Option.some.injEq] at hx
  subst hx
  exact ⟨cs,rfl,a⟩
 | _ :: _,_ :: _,⟨a,b⟩,i+1,xs,hx=>by
  simp only [List.getElem?_cons_succ] at hx ⊢
  exact Elems2.get b hx
theorem Elems2.set {α:Type} {ok:α→List Value→Prop}:∀ {xss:List (List α)} {css:List (List Value)},Elems2 ok xss css→∀(i:Nat) {xs:List α} {cs:List Value},Elems ok xs cs→Elems2 ok (xss.set i xs) (css.set i cs)
 | [],[],_,_,_,_,_=>trivial
 | _ :: _,_ :: _,⟨a,b⟩,0,_,_,h=>⟨h,b⟩
 | _ :: _,_ :: _,⟨a,b⟩,i+1,_,_,h=>⟨a,Elems2.set b i h⟩
def essC (t:Ty) (xss:List (List t.D)) (css:List (List Value)):Ch where
 ok w F:=Elems2 (t.ok w F) xss css
 stable hs h:=h.imp fun x c h=>t.ok_stable hs h
section
variable {P:Program} {tt:TT} {env:Env} {o:Oper} {w0 w:World} {F0:Ft} {Hs Rs:List Ch}
abbrev lens {α:Type} (xss:List (List α)):List Nat:=xss.map List.length
theorem St.know (h:St w0 F0 Hs Rs w) {c:Ch} (hc:∀ w,c.ok w fun _=>False):St w0 F0 Hs (c :: Rs) w:=by
 obtain ⟨F,hF,hb,hR⟩:=h.sat
 refine ⟨h.chg,F,hF,hb,fun d hd=>?_⟩
 rcases List.mem_cons.1 hd with rfl | hd
 ·exact ⟨fun _=>False,hc w,fun _ hb=>hb.elim⟩
 ·exact hR d hd
end
section
variable {P:Program} {tt:TT} {env:Env} {o:Oper} {w0 w:World} {F0:Ft} {Hs Rs:List Ch}
end
end Go.SK
