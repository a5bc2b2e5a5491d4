/- Part of the library of this claim: how code is stepped through. -/
import Derived.Test.YtgdmpkhmedbnpaaGreatDoorXShelfFlushedKj
import Derived.Laws.MakeOwn
import Derived.Laws.OwnMore
set_option linter.unusedVariables false
set_option linter.unusedSimpArgs false
namespace Go.SK
open Go Go.RowKit

section
variable {P:Program} {tt:TT} {env:Env} {o:Oper} {w0 w:World} {F0:Ft} {Hs Rs:List Ch}
end

def okC (t:Ty) (x:t.D) (cs:List Value):Ch where
 ok w F:=t.ok w F x cs
 stable hs h:=Ty.ok_stable _ hs h
def elC (A:Option Addr) (off:Nat) (cs:List Value):Ch where
 ok w F:=F (blk A)∧∀ j u,cs[j]?=some u→w.cell? ⟨blk A,off+j,none⟩=some u
 stable hs h:=⟨h.1,fun j u hu=>by rw [J8 (a:=⟨blk A,off+j,none⟩) (hs _ h.1)]; exact h.2 j u hu⟩
section
variable {P:Program} {tt:TT} {env:Env} {S:World→Prop} {o:Oper} {w0 w:World} {F0:Ft} {Hs Rs:List Ch}
theorem St.elem {E:Nat} {t:Ty} [Inhabited t.D] {xs:List t.D} {A:Option Addr} {m c:Nat} (h:St w0 F0 Hs Rs w) (k:Nat) (hk:nth Rs k=some (rdC E t xs (.slice A m c))) {i:Int} (h0:0≤i) (h1:i<xs.length) :
  ∃ cs,St w0 F0 Hs (okC t (gt xs i) cs :: elC A (ofs A+i.toNat*t.n) cs :: Rs) w:=by
 obtain ⟨F,hF,hb,hR⟩:=h.sat
 have hk':=hk
 rw [Yu] at hk'
 obtain ⟨R,r,hRb⟩:=hR _ (List.mem_of_getElem? hk')
 obtain ⟨_,hbl,cs,hcs,hc⟩:=Zct r h0 h1
 refine ⟨cs,h.chg,F,hF,hb,fun d hd=>?_⟩
 rcases List.mem_cons.1 hd with rfl | hd
 ·exact ⟨R,hcs,hRb⟩
 ·rcases List.mem_cons.1 hd with rfl | hd
  ·exact ⟨R,⟨hbl,hc⟩,hRb⟩
  ·exact hR d hd
theorem St.okslice {E:Nat} {t:Ty} {xs:List t.D} {cs:List Value} (k:Nat) (h:St w0 F0 Hs Rs w) (hk:nth Rs k=some (okC (.slice E t) xs cs)):∃ A c,cs=[.slice A xs.length c]:=by
 obtain ⟨F,hF,_⟩:=h.rd hk
 obtain ⟨A,c,e,_⟩:=hF
 exact ⟨A,c,e⟩
theorem St.okflat {t:Ty} (hfl:t.flat=true) {x:t.D} {cs:List Value} (k:Nat) (h:St w0 F0 Hs Rs w) (hk:nth Rs k=some (okC t x cs)):cs=t.enc x:=by
 obtain ⟨F,hF,_⟩:=h.rd hk
 exact t.ok_enc hfl hF
theorem St.okpair {a b:Ty} {x:a.D} {y:b.D} {cs:List Value} (k:Nat) (h:St w0 F0 Hs Rs w) (hk:nth Rs k=some (okC (.pair a b) (x,y) cs)):∃ c1 c2,cs=c1 ++ c2∧St w0 F0 Hs (okC a x c1 :: okC b y c2 :: Rs) w:=by
 obtain ⟨F,hF,hb,hR⟩:=h.sat
 have hk':=hk
 rw [Yu] at hk'
 obtain ⟨R,⟨c1,c2,e,r1,r2⟩,hRb⟩:=hR _ (List.mem_of_getElem? hk')
 refine ⟨c1,c2,e,h.chg,F,hF,hb,fun d hd=>?_⟩
 rcases List.mem_cons.1 hd with rfl | hd
 ·exact ⟨R,r1,hRb⟩
 ·rcases List.mem_cons.1 hd with rfl | hd
  ·exact ⟨R,r2,hRb⟩
  ·exact hR d hd
theorem St.okpr {a b:Ty} {x:(Ty.pair a b).D} {cs:List Value} (k:Nat) (h:St w0 F0 Hs Rs w) (hk:nth Rs k=some (okC (.pair a b) x cs)):∃ c1 c2,cs=c1 ++ c2∧St w0 F0 Hs (okC a x.1 c1 :: okC b x.2 c2 :: Rs) w:=St.okpair (x:=x.1) (y:=x.2) k h hk
theorem Zk3 (hT:Yr P tt) {ty:Nat} {x:Operand} {i:TI} {A:Option Addr} {off f:Nat} {cs:List Value} {v:Value}
  (hS:∀ w,S w→Wh w0 F0 Hs Rs w) (hg:Gives (Hs ++ Rs) (elC A off cs)) (ho:o.op=.load ty x)
  (hi:find tt ty=some i) (ha:Zr env x=some (.pointer (some ⟨blk A,off+f,none⟩))) (hp:Vo i ((cs.drop f).take i.size)=some v):QOp P o env S v:=
 Za0 hT ho hi ha (fun w h=>by
  obtain ⟨F,hF,_⟩:=(hS w h).gives hg
  intro j u hu
  rw [List.getElem?_take] at hu
  split at hu
  ·rw [List.getElem?_drop] at hu
   have:=hF.2 _ _ hu
   rw [← Nat.add_assoc] at this
   exact this
  ·cases hu) hp
end

def J7 (l:List Ch) (c:Ch):Prop:=Gives l c∨∀ w F,c.ok w F
def Gp (l:List Ch):(t:Ty)→t.D→List Value→Prop
 | .pair a b,x,cs=>∃ c1 c2,cs=c1 ++ c2∧Gp l a x.1 c1∧Gp l b x.2 c2
 | .int k,x,cs=>J7 l (okC (.int k) x cs)
 | .bool,x,cs=>J7 l (okC .bool x cs)
 | .str,x,cs=>J7 l (okC .str x cs)
 | .val,x,cs=>J7 l (okC .val x cs)
 | .unit,x,cs=>J7 l (okC .unit x cs)
 | .slice E t,x,cs=>J7 l (okC (.slice E t) x cs)
def Zp9 (l:List Ch) {t:Ty}:List t.D→List (List Value)→Prop
 | [],[]=>True
 | x :: xs,cs :: css=>Gp l t x cs∧Zp9 l xs css
 | _,_=>False
theorem Vd {l:List Ch}:∀ {t:Ty},t.scal=true→∀ x:t.D,Gp l t x (t.enc x)
 | .int k,_,x=>.inr fun w F=>rfl
 | .bool,_,x=>.inr fun w F=>rfl
 | .str,_,x=>.inr fun w F=>rfl
 | .val,h,x=>by cases h
 | .unit,_,x=>.inr fun w F=>rfl
 | .slice E t,h,x=>by cases h
 | .pair a b,h,x=>by
  simp only [Ty.scal,Bool.and_eq_true] at h
  exact ⟨_,_,rfl,Vd h.1 x.1,Vd h.2 x.2⟩
theorem Ug {E:Nat} {t:Ty} (w:World) (F:Nat→Prop):(okC (.slice E t) [] [.slice none 0 0]).ok w F:=⟨none,0,rfl,Nat.le_refl _,.inl rfl⟩
section
variable {P:Program} {tt:TT} {env:Env} {o:Oper} {w0 w:World} {F0:Ft} {Hs Rs:List Ch}
theorem Us {t:Ty} {w':World} {Q:Nat→Prop} (hR:∀ c∈Rs,∃ R,c.ok w R∧∀ b,R b→Q b) (hQ:∀ b,Q b→b<w.heap.size) (hs:∀ b,b<w.heap.size→w'.heap[b]?=w.heap[b]?) {x:t.D} {cs:List Value} (h:J7 Rs (okC t x cs)):t.ok w' Q x cs:=by
 rcases h with ⟨c',hm,hc⟩ | h
 ·obtain ⟨R,r,hRb⟩:=hR c' hm
  have:=hc _ _ r
  exact t.ok_mono (F:=R) (fun b hb=>hRb b hb) (t.ok_stable (fun b hb=>hs b (hQ b (hRb b hb))) this)
 ·have:=h w' (fun _=>False)
  exact t.ok_mono (F:=fun _=>False) (fun b hb=>hb.elim) this
theorem Za9 {w':World} {Q:Nat→Prop} (hR:∀ c∈Rs,∃ R,c.ok w R∧∀ b,R b→Q b) (hQ:∀ b,Q b→b<w.heap.size) (hs:∀ b,b<w.heap.size→w'.heap[b]?=w.heap[b]?):∀ {t:Ty} {x:t.D} {cs:List Value},Gp Rs t x cs→t.ok w' Q x cs
 | .int k,x,cs,h=>Us hR hQ hs h
 | .bool,x,cs,h=>Us hR hQ hs h
 | .str,x,cs,h=>Us hR hQ hs h
 | .val,x,cs,h=>Us hR hQ hs h
 | .unit,x,cs,h=>Us hR hQ hs h
 | .slice E t,x,cs,h=>Us hR hQ hs h
 | .pair a b,x,cs,⟨c1,c2,e,h1,h2⟩=>⟨c1,c2,e,Za9 hR hQ hs h1,Za9 hR hQ hs h2⟩
end
end Go.SK
