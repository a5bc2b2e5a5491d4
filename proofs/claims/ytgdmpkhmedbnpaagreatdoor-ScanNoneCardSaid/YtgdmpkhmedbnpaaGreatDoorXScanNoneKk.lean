/- Part of the library of this claim: how code is stepped through. -/
import Derived.Test.YtgdmpkhmedbnpaaGreatDoorXScanNoneKj
import Derived.Laws.MakeOwn
import Derived.Laws.OwnMore
set_option linter.unusedVariables false
set_option linter.unusedSimpArgs false
namespace Go.SK
open Go Go.RowKit

section
variable {P:Program} {tt:TT} {env:Env} {o:Oper} {w0 w:World} {F0:Ft} {Hs Rs:List Ch}
theorem Zjs (hT:Yk P tt) {T e:Nat} {z1 z2:Nat} {z:Value} {ie:TI} {l c:Operand} {kl kc:IntKind} {n:Int} (ty:Ty) (ho:o.op=.makeSlice T l c) (ht:find tt T=some ⟨.slice e,z1,z2,z⟩) (hi:find tt e=some ie)
  (hl:Zq env l=some (.int kl 0)) (hc:Zq env c=some (.int kc n)) (hsz:Nat.beq ty.n ie.size=true) (hby:0<ie.bytes) (hS:St w0 F0 Hs Rs w) (h0:0≤n) (hb:n*ie.bytes≤281474976710656) :
  OpT P o env w (fun v w'=>∃ b,v=.slice (some ⟨b,0,none⟩) ([]:List ty.D).length n.toNat∧St w0 F0 (Yg e ty ([]:List ty.D) (.slice (some ⟨b,0,none⟩) ([]:List ty.D).length n.toNat) :: Hs) Rs w'):=
 OpT.value fun nn a hf=>by
  have hk:=(hT _ _ ht).kind
  simp only [TK.ok] at hk
  obtain ⟨j,hj,h1,h2,h3⟩:=(hT _ _ hi).info'
  obtain ⟨m,rfl⟩:∃ m:Nat,n=(m:Int):=⟨n.toNat,by omega⟩
  have hle:m*ie.bytes≤281474976710656:=by
   have:((m*ie.bytes:Nat):Int)≤281474976710656:=by rw [Int.natCast_mul]; exact hb
   omega
  have hm:m≤maxLen:=by
   have:m≤m*ie.bytes:=Nat.le_mul_of_pos_right _ hby
   simp only [maxLen]; omega
  obtain ⟨w',hr,hown,hgr⟩:=run_make_own (P:=P) w 0 T e j ie.zero ie.size hk hj h3 h1 kl kc m (by rw [h2,Nat.mul_comm]; exact hle) hm (Nat.zero_le _)
  refine ⟨.slice (some ⟨w.heap.size,0,none⟩) 0 m,w',by simp [execOp,ho,hf.eval hl,hf.eval hc,hr],w.heap.size,by simp,?_⟩
  have hsz':ty.n=ie.size:=Nat.eq_of_beq_eq_true hsz
  have hlt:w.heap.size<w'.heap.size:=by
   rcases hown.2 with ⟨h,_⟩ | ⟨g,cap,cur,hv,_,hg,_⟩
   ·cases h
   ·simp only [Value.slice.injEq,Option.some.injEq,Addr.mk.injEq] at hv
    rw [← hv.1.1] at hg
    exact (Array.getElem?_eq_some_iff.1 hg).1
  refine hS.add (F':=fun b=>b=w.heap.size) (Chg.of_grown hgr fun b hb=>by cases hb) ⟨[],fun _=>False,?_,rfl,fun b hb=>hb.elim,fun b hb=>?_⟩ fun b hb=>?_
  ·rw [hsz']; simpa using hown
  ·simp [Value.ownBlock] at hb
   exact ⟨hb.symm,fun e=>e⟩
  ·subst hb
   exact ⟨Nat.le_refl _,hlt⟩
end

def okC (t:Ty) (x:t.D) (cs:List Value):Ch where
 ok w F:=t.ok w F x cs
 stable hs h:=Ty.ok_stable _ hs h
def elC (A:Option Addr) (off:Nat) (cs:List Value):Ch where
 ok w F:=F (blk A)∧∀ j u,cs[j]?=some u→w.cell? ⟨blk A,off+j,none⟩=some u
 stable hs h:=⟨h.1,fun j u hu=>by rw [Ju (a:=⟨blk A,off+j,none⟩) (hs _ h.1)]; exact h.2 j u hu⟩
section
variable {P:Program} {tt:TT} {env:Env} {S:World→Prop} {o:Oper} {w0 w:World} {F0:Ft} {Hs Rs:List Ch}
theorem St.elem {E:Nat} {t:Ty} [Inhabited t.D] {xs:List t.D} {A:Option Addr} {m c:Nat} (h:St w0 F0 Hs Rs w) (k:Nat) (hk:nth Rs k=some (rdC E t xs (.slice A m c))) {i:Int} (h0:0≤i) (h1:i<xs.length) :
  ∃ cs,St w0 F0 Hs (okC t (gt xs i) cs :: elC A (ofs A+i.toNat*t.n) cs :: Rs) w:=by
 obtain ⟨F,hF,hb,hR⟩:=h.sat
 have hk':=hk
 rw [Yu] at hk'
 obtain ⟨R,r,hRb⟩:=hR _ (List.mem_of_getElem? hk')
 obtain ⟨_,hbl,cs,hcs,hc⟩:=Zb2 r h0 h1
 refine ⟨cs,h.chg,F,hF,hb,fun d hd=>?_⟩
 rcases List.mem_cons.1 hd with rfl | hd
 ·exact ⟨R,hcs,hRb⟩
 ·rcases List.mem_cons.1 hd with rfl | hd
  ·exact ⟨R,⟨hbl,hc⟩,hRb⟩
  ·exact hR d hd
theorem St.okslice {E:Nat} {t:Ty} {xs:List t.D} {cs:List Value} (k:Nat) (h:St w0 F0 Hs Rs w) (hk:nth Rs k=some (okC (.slice E t) xs cs)):∃ A c,cs=[.slice A xs.length c]:=by
 obtain ⟨F,hF,_⟩:=h.rd hk
 obtain ⟨A,c,e,_⟩:=hF
 exact ⟨A,c,e⟩
theorem St.okflat {t:Ty} (hfl:t.flat=true) {x:t.D} {cs:List Value} (k:Nat) (h:St w0 F0 Hs Rs w) (hk:nth Rs k=some (okC t x cs)):cs=t.enc x:=by
 obtain ⟨F,hF,_⟩:=h.rd hk
 exact t.ok_enc hfl hF
theorem St.okpair {a b:Ty} {x:a.D} {y:b.D} {cs:List Value} (k:Nat) (h:St w0 F0 Hs Rs w) (hk:nth Rs k=some (okC (.pair a b) (x,y) cs)):∃ c1 c2,cs=c1 ++ c2∧St w0 F0 Hs (okC a x c1 :: okC b y c2 :: Rs) w:=by
 obtain ⟨F,hF,hb,hR⟩:=h.sat
 have hk':=hk
 rw [Yu] at hk'
 obtain ⟨R,⟨c1,c2,e,r1,r2⟩,hRb⟩:=hR _ (List.mem_of_getElem? hk')
 refine ⟨c1,c2,e,h.chg,F,hF,hb,fun d hd=>?_⟩
 rcases List.mem_cons.1 hd with rfl | hd
 ·exact ⟨R,r1,hRb⟩
 ·rcases List.mem_cons.1 hd with rfl | hd
  ·exact ⟨R,r2,hRb⟩
  ·exact hR d hd
theorem St.okpr {a b:Ty} {x:(Ty.pair a b).D} {cs:List Value} (k:Nat) (h:St w0 F0 Hs Rs w) (hk:nth Rs k=some (okC (.pair a b) x cs)):∃ c1 c2,cs=c1 ++ c2∧St w0 F0 Hs (okC a x.1 c1 :: okC b x.2 c2 :: Rs) w:=St.okpair (x:=x.1) (y:=x.2) k h hk
theorem Zh4 (hT:Yk P tt) {ty:Nat} {x:Operand} {i:TI} {A:Option Addr} {off f:Nat} {cs:List Value} {v:Value}
  (hS:∀ w,S w→Wh w0 F0 Hs Rs w) (hg:Gives (Hs ++ Rs) (elC A off cs)) (ho:o.op=.load ty x)
  (hi:find tt ty=some i) (ha:Zq env x=some (.pointer (some ⟨blk A,off+f,none⟩))) (hp:Wu i ((cs.drop f).take i.size)=some v):QOp P o env S v:=
 Jk hT ho hi ha (fun w h=>by
  obtain ⟨F,hF,_⟩:=(hS w h).gives hg
  intro j u hu
  rw [List.getElem?_take] at hu
  split at hu
  ·rw [List.getElem?_drop] at hu
   have:=hF.2 _ _ hu
   rw [← Nat.add_assoc] at this
   exact this
  ·cases hu) hp
end

def Jg (l:List Ch) (c:Ch):Prop:=Gives l c∨∀ w F,c.ok w F
def Bq (l:List Ch):(t:Ty)→t.D→List Value→Prop
 | .pair a b,x,cs=>∃ c1 c2,cs=c1 ++ c2∧Bq l a x.1 c1∧Bq l b x.2 c2
 | .int k,x,cs=>Jg l (okC (.int k) x cs)
 | .bool,x,cs=>Jg l (okC .bool x cs)
 | .str,x,cs=>Jg l (okC .str x cs)
 | .val,x,cs=>Jg l (okC .val x cs)
 | .unit,x,cs=>Jg l (okC .unit x cs)
 | .slice E t,x,cs=>Jg l (okC (.slice E t) x cs)
def Zbr (l:List Ch) {t:Ty}:List t.D→List (List Value)→Prop
 | [],[]=>True
 | x :: xs,cs :: css=>Bq l t x cs∧Zbr l xs css
 | _,_=>False
theorem Vd {l:List Ch}:∀ {t:Ty},t.scal=true→∀ x:t.D,Bq l t x (t.enc x)
 | .int k,_,x=>.inr fun w F=>rfl
 | .bool,_,x=>.inr fun w F=>rfl
 | .str,_,x=>.inr fun w F=>rfl
 | .val,h,x=>by cases h
 | .unit,_,x=>.inr fun w F=>rfl
 | .slice E t,h,x=>by cases h
 | .pair a b,h,x=>by
  simp only [Ty.scal,Bool.and_eq_true] at h
  exact ⟨_,_,rfl,Vd h.1 x.1,Vd h.2 x.2⟩
theorem Vg {E:Nat} {t:Ty} (w:World) (F:Nat→Prop):(okC (.slice E t) [] [.slice none 0 0]).ok w F:=⟨none,0,rfl,Nat.le_refl _,.inl rfl⟩
section
variable {P:Program} {tt:TT} {env:Env} {o:Oper} {w0 w:World} {F0:Ft} {Hs Rs:List Ch}
theorem Uj {t:Ty} {w':World} {Q:Nat→Prop} (hR:∀ c∈Rs,∃ R,c.ok w R∧∀ b,R b→Q b) (hQ:∀ b,Q b→b<w.heap.size) (hs:∀ b,b<w.heap.size→w'.heap[b]?=w.heap[b]?) {x:t.D} {cs:List Value} (h:Jg Rs (okC t x cs)):t.ok w' Q x cs:=by
 rcases h with ⟨c',hm,hc⟩ | h
 ·obtain ⟨R,r,hRb⟩:=hR c' hm
  have:=hc _ _ r
  exact t.ok_mono (F:=R) (fun b hb=>hRb b hb) (t.ok_stable (fun b hb=>hs b (hQ b (hRb b hb))) this)
 ·have:=h w' (fun _=>False)
  exact t.ok_mono (F:=fun _=>False) (fun b hb=>hb.elim) this
theorem Zav {w':World} {Q:Nat→Prop} (hR:∀ c∈Rs,∃ R,c.ok w R∧∀ b,R b→Q b) (hQ:∀ b,Q b→b<w.heap.size) (hs:∀ b,b<w.heap.size→w'.heap[b]?=w.heap[b]?):∀ {t:Ty} {x:t.D} {cs:List Value},Bq Rs t x cs→t.ok w' Q x cs
 | .int k,x,cs,h=>Uj hR hQ hs h
 | .bool,x,cs,h=>Uj hR hQ hs h
 | .str,x,cs,h=>Uj hR hQ hs h
 | .val,x,cs,h=>Uj hR hQ hs h
 | .unit,x,cs,h=>Uj hR hQ hs h
 | .slice E t,x,cs,h=>Uj hR hQ hs h
 | .pair a b,x,cs,⟨c1,c2,e,h1,h2⟩=>⟨c1,c2,e,Zav hR hQ hs h1,Zav hR hQ hs h2⟩
theorem Zbx {t:Ty} {w':World} {Q:Nat→Prop} (hR:∀ c∈Rs,∃ R,c.ok w R∧∀ b,R b→Q b) (hQ:∀ b,Q b→b<w.heap.size) (hs:∀ b,b<w.heap.size→w'.heap[b]?=w.heap[b]?) :
  ∀(xs:List t.D) (css:List (List Value)),Zbr Rs xs css→Elems (t.ok w' Q) xs css.flatten
 | [],[],_=>rfl
 | x :: xs,cs :: css,⟨h,hs'⟩=>by
  exact ⟨cs,css.flatten,rfl,Zav hR hQ hs h,Zbx hR hQ hs xs css hs'⟩
theorem Zix (hT:Yk P tt) {T e m:Nat} {z1 z2:Nat} {z:Value} {ie:TI} {ps:Array (Nat×Operand)} {vs:List Value} (ty:Ty) (xs:List ty.D) (ho:o.op=.buildSlice T m ps) (hS:St w0 F0 Hs Rs w)
  (ht:find tt T=some ⟨.slice e,z1,z2,z⟩) (hi:find tt e=some ie) (hpos:0<ie.size) (hv:Yv env (ps.toList.map (·.2))=some vs) (hm:vs.length=m) (hx:xs.length=m) (hm2:Nat.ble (m*ie.size) 16777216=true)
  (hix:ps.toList.map (·.1)=List.range' 0 vs.length) (hsz:vs.all (fun v=>Nat.beq v.cells.toList.length ie.size)=true) (hel:Zbr Rs xs (vs.map (fun v=>v.cells.toList))) :
  OpT P o env w (fun v w'=>∃ b,v=.slice (some ⟨b,0,none⟩) xs.length m∧St w0 F0 Hs (rdC e ty xs (.slice (some ⟨b,0,none⟩) xs.length m) :: Rs) w'):=
 OpT.value fun n a hf=>⟨_,_,Zat hT ho ht hi hm hm2 hv hix hsz hf,w.heap.size,by rw [hx],by
  obtain ⟨F,hF,hb,hR⟩:=hS.sat
  have hchg:=Chg.alloc w (.cells (vs.flatMap (fun v=>v.cells.toList)).toArray e) (fun _=>False)
  obtain ⟨c1,F1,s1,s2,s3⟩:=hS.same hchg
  have hold:∀ b,b<w.heap.size→(w.alloc (.cells (vs.flatMap (fun v=>v.cells.toList)).toArray e)).heap[b]?=w.heap[b]?:=fun b hb=>hchg.block b hb fun e=>e
  have hE:=Zbx (w':=w.alloc (.cells (vs.flatMap (fun v=>v.cells.toList)).toArray e)) hR (fun b hb=>hb.1.1) hold xs _ hel
  have hfl:(vs.map (fun v=>v.cells.toList)).flatten=vs.flatMap (fun v=>v.cells.toList):=by rw [List.flatMap_def]
  rw [hfl] at hE
  refine ⟨hS.chg.trans hchg fun b hb=>hb.elim,F,hF.stable (fun b hb'=>hold b (hb b hb').1),fun b hb'=>⟨Nat.lt_of_lt_of_le (hb b hb').1 hchg.size,(hb b hb').2⟩,fun d hd=>?_⟩
  rcases List.mem_cons.1 hd with rfl | hd
  ·refine ⟨fun b=>((b<w.heap.size∧¬ F b)∧F0.has w0 b)∨b=w.heap.size,⟨some ⟨w.heap.size,0,none⟩,m,rfl,by omega,?_⟩,fun b hb'=>?_⟩
   ·refine .inr ⟨w.heap.size,0,_,rfl,.inr rfl,hE.imp fun x c h=>ty.ok_mono (fun b hb=>.inl hb) h,fun j u hu=>?_⟩
    simp only [World.cell?,Gq]
    simpa using hu
   ·rcases hb' with hb' | hb'
    ·exact ⟨⟨Nat.lt_of_lt_of_le hb'.1.1 hchg.size,hb'.1.2⟩,hb'.2⟩
    ·subst hb'
     exact ⟨⟨by simp,fun e=>Nat.lt_irrefl _ (hb _ e).1⟩,.inr (.inr hS.chg.size)⟩
  ·obtain ⟨R,r,hRb⟩:=hR d hd
   exact ⟨R,d.stable (fun b hb'=>hold b (hRb b hb').1.1) r,fun b hb'=>⟨⟨Nat.lt_of_lt_of_le (hRb b hb').1.1 hchg.size,(hRb b hb').1.2⟩,(hRb b hb').2⟩⟩⟩
end
end Go.SK
