/- Part of the library of this claim: how code is stepped through. -/
import Derived.Test.YtgdmpkhmedbnpaaGreatDoorXShelfCostsKj
import Derived.Laws.MakeOwn
import Derived.Laws.OwnMore
set_option linter.unusedVariables false
set_option linter.unusedSimpArgs false
namespace Go.SK
open Go Go.RowKit

section
variable {P:Program} {tt:TT} {env:Env} {o:Oper} {w0 w:World} {F0:Ft} {Hs Rs:List Ch}
end

def okC (t:Ty) (x:t.D) (cs:List Value):Ch where
 ok w F:=t.ok w F x cs
 stable hs h:=Ty.ok_stable _ hs h
def elC (A:Option Addr) (off:Nat) (cs:List Value):Ch where
 ok w F:=F (blk A)∧∀ j u,cs[j]?=some u→w.cell? ⟨blk A,off+j,none⟩=some u
 stable hs h:=⟨h.1,fun j u hu=>by rw [Bh (a:=⟨blk A,off+j,none⟩) (hs _ h.1)]; exact h.2 j u hu⟩
section
variable {P:Program} {tt:TT} {env:Env} {S:World→Prop} {o:Oper} {w0 w:World} {F0:Ft} {Hs Rs:List Ch}
theorem St.elem {E:Nat} {t:Ty} [Inhabited t.D] {xs:List t.D} {A:Option Addr} {m c:Nat} (h:St w0 F0 Hs Rs w) (k:Nat) (hk:nth Rs k=some (rdC E t xs (.slice A m c))) {i:Int} (h0:0≤i) (h1:i<xs.length) :
  ∃ cs,St w0 F0 Hs (okC t (gt xs i) cs :: elC A (ofs A+i.toNat*t.n) cs :: Rs) w:=by
 obtain ⟨F,hF,hb,hR⟩:=h.sat
 have hk':=hk
 rw [Y0] at hk'
 obtain ⟨R,r,hRb⟩:=hR _ (List.mem_of_getElem? hk')
 obtain ⟨_,hbl,cs,hcs,hc⟩:=Za4 r h0 h1
 refine ⟨cs,h.chg,F,hF,hb,fun d hd=>?_⟩
 rcases List.mem_cons.1 hd with rfl | hd
 ·exact ⟨R,hcs,hRb⟩
 ·rcases List.mem_cons.1 hd with rfl | hd
  ·exact ⟨R,⟨hbl,hc⟩,hRb⟩
  ·exact hR d hd
theorem St.okslice {E:Nat} {t:Ty} {xs:List t.D} {cs:List Value} (k:Nat) (h:St w0 F0 Hs Rs w) (hk:nth Rs k=some (okC (.slice E t) xs cs)):∃ A c,cs=[.slice A xs.length c]:=by
 obtain ⟨F,hF,_⟩:=h.rd hk
 obtain ⟨A,c,e,_⟩:=hF
 exact ⟨A,c,e⟩
theorem St.okflat {t:Ty} (hfl:t.flat=true) {x:t.D} {cs:List Value} (k:Nat) (h:St w0 F0 Hs Rs w) (hk:nth Rs k=some (okC t x cs)):cs=t.enc x:=by
 obtain ⟨F,hF,_⟩:=h.rd hk
 exact t.ok_enc hfl hF
theorem St.okpair {a b:Ty} {x:a.D} {y:b.D} {cs:List Value} (k:Nat) (h:St w0 F0 Hs Rs w) (hk:nth Rs k=some (okC (.pair a b) (x,y) cs)):∃ c1 c2,cs=c1 ++ c2∧St w0 F0 Hs (okC a x c1 :: okC b y c2 :: Rs) w:=by
 obtain ⟨F,hF,hb,hR⟩:=h.sat
 have hk':=hk
 rw [Y0] at hk'
 obtain ⟨R,⟨c1,c2,e,r1,r2⟩,hRb⟩:=hR _ (List.mem_of_getElem? hk')
 refine ⟨c1,c2,e,h.chg,F,hF,hb,fun d hd=>?_⟩
 rcases List.mem_cons.1 hd with rfl | hd
 ·exact ⟨R,r1,hRb⟩
 ·rcases List.mem_cons.1 hd with rfl | hd
  ·exact ⟨R,r2,hRb⟩
  ·exact hR d hd
theorem St.okpr {a b:Ty} {x:(Ty.pair a b).D} {cs:List Value} (k:Nat) (h:St w0 F0 Hs Rs w) (hk:nth Rs k=some (okC (.pair a b) x cs)):∃ c1 c2,cs=c1 ++ c2∧St w0 F0 Hs (okC a x.1 c1 :: okC b x.2 c2 :: Rs) w:=St.okpair (x:=x.1) (y:=x.2) k h hk
theorem Zhq (hT:Yt P tt) {ty:Nat} {x:Operand} {i:TI} {A:Option Addr} {off f:Nat} {cs:List Value} {v:Value}
  (hS:∀ w,S w→Wh w0 F0 Hs Rs w) (hg:Gives (Hs ++ Rs) (elC A off cs)) (ho:o.op=.load ty x)
  (hi:find tt ty=some i) (ha:Zx env x=some (.pointer (some ⟨blk A,off+f,none⟩))) (hp:W5 i ((cs.drop f).take i.size)=some v):QOp P o env S v:=
 Bd hT ho hi ha (fun w h=>by
  obtain ⟨F,hF,_⟩:=(hS w h).gives hg
  intro j u hu
  rw [List.getElem?_take] at hu
  split at hu
  ·rw [List.getElem?_drop] at hu
   have:=hF.2 _ _ hu
   rw [← Nat.add_assoc] at this
   exact this
  ·cases hu) hp
end

def Jx (l:List Ch) (c:Ch):Prop:=Gives l c∨∀ w F,c.ok w F
def Zjg (l:List Ch):(t:Ty)→t.D→List Value→Prop
 | .pair a b,x,cs=>∃ c1 c2,cs=c1 ++ c2∧Zjg l a x.1 c1∧Zjg l b x.2 c2
 | .int k,x,cs=>Jx l (okC (.int k) x cs)
 | .bool,x,cs=>Jx l (okC .bool x cs)
 | .str,x,cs=>Jx l (okC .str x cs)
 | .val,x,cs=>Jx l (okC .val x cs)
 | .unit,x,cs=>Jx l (okC .unit x cs)
 | .slice E t,x,cs=>Jx l (okC (.slice E t) x cs)
def Znc (l:List Ch) {t:Ty}:List t.D→List (List Value)→Prop
 | [],[]=>True
 | x :: xs,cs :: css=>Zjg l t x cs∧Znc l xs css
 | _,_=>False
section
variable {P:Program} {tt:TT} {env:Env} {o:Oper} {w0 w:World} {F0:Ft} {Hs Rs:List Ch}
end
end Go.SK
