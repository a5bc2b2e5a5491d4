/- Part of the library of this claim: how code is stepped through. -/
import Derived.Test.YtgdmpkhmedbnpaaGreatDoorXScanNoneKh
import Derived.Maps.AppendAt
set_option linter.unusedVariables false
set_option linter.unusedSimpArgs false
namespace Go.SK
open Go Go.RowKit

section
variable {P:Program} {tt:TT} {env:Env} {S:World→Prop} {o:Oper}
def W5 (env:Env) (x:Option Operand) (d v:Int):Prop:=match x with | none=>v=d | some y=>∃ k,Zq env y=some (.int k v)
theorem Zdz (l:List UInt8) (i j:Nat):(⟨⟨l⟩⟩:ByteArray).extract i j=⟨⟨(l.drop i).take (j - i)⟩⟩:=by
 apply ByteArray.ext
 rw [ByteArray.data_extract]
 apply Array.ext'
 simp [Array.toList_extract,List.extract_eq_take_drop]
theorem Ve {P:Program} {w:World} {k:IntKind} {i:Int} {y:Nat} {code:BoundsCode} (h0:0≤i) (h1:i≤y):(Instr.sliceBound (.int k i) y code).run P w=.ok i.toNat w:=by
 simp [Instr.sliceBound,asIntOf,h0,h1]
theorem Bb {P:Program} {w:World} {b:Bool} {len cap:Nat} {lo hi:Option Operand} {n:Nat} {a:Act} (hf:Fr n env a) {l h:Int} (hlo:W5 env lo 0 l) (hhi:W5 env hi len h) (h0:0≤l) (h1:l≤h) (h2:h≤cap) (hlc:len≤cap) :
  (Instr.sliceBounds b len cap (lo.map a.eval) (hi.map a.eval) none).run P w=.ok (l.toNat,h.toNat,cap) w:=by
 cases lo <;> cases hi <;> simp only [W5] at hlo hhi
 ·subst hlo; subst hhi; simp [Instr.sliceBounds]
 ·subst hlo; obtain ⟨k,hk⟩:=hhi
  simp only [Option.map_none,Option.map_some,hf.eval hk,Instr.sliceBounds,Sem.run_bind,Sem.run_pure,Result.andThen_ok]
  rw [Ve (by omega) h2]; simp
 ·subst hhi; obtain ⟨k,hk⟩:=hlo
  simp only [Option.map_none,Option.map_some,hf.eval hk,Instr.sliceBounds,Sem.run_bind,Sem.run_pure,Result.andThen_ok]
  rw [Ve h0 h1]; simp
 ·obtain ⟨k,hk⟩:=hlo; obtain ⟨k',hk'⟩:=hhi
  simp only [Option.map_some,hf.eval hk,hf.eval hk',Instr.sliceBounds,Sem.run_bind,Sem.run_pure,Result.andThen_ok]
  rw [Ve (by omega) h2]
  simp only [Result.andThen_ok,Option.isSome_none,Bool.false_eq_true,if_false]
  rw [Ve h0 (by omega)]; simp
theorem Zjx (hT:Yk P tt) {t:Nat} {x:Operand} {lo hi:Option Operand} {xs sub:List UInt8} {l h:Int} {z1 z2:Nat} {z:Value} (ho:o.op=.slice t x lo hi none) (ht:find tt t=some ⟨.str,z1,z2,z⟩)
  (hx:Zq env x=some (.string ⟨⟨xs⟩⟩)) (hlo:W5 env lo 0 l) (hhi:W5 env hi (xs.length:Nat) h) (h0:0≤l) (h1:l≤h) (h2:h≤(xs.length:Nat)) (hs:(xs.drop l.toNat).take (h.toNat - l.toNat)=sub):QOp P o env S (.string ⟨⟨sub⟩⟩):=by
 intro n a w hf _
 have hk:=(hT _ _ ht).kind
 simp only [TK.ok] at hk
 have hb:=Bb (P:=P) (w:=w) (b:=false) (len:=xs.length) (cap:=xs.length) hf hlo hhi h0 h1 h2 (Nat.le_refl _)
 have hsz:(⟨⟨xs⟩⟩:ByteArray).size=xs.length:=rfl
 have hsl:(Instr.sliceAt t (.string ⟨⟨xs⟩⟩) (lo.map a.eval) (hi.map a.eval) none).run P w=.ok (.string ⟨⟨sub⟩⟩) w:=by
  simp only [Instr.sliceAt,Sem.run_bind,Z2 w hk,Result.andThen_ok,Instr.slice,Option.isSome_none,Bool.false_eq_true,if_false,hsz,Sem.run_pure]
  rw [hb]
  simp only [Result.andThen_ok,Sem.run_pure,Zdz,hs]
 simp only [execOp,ho,hf.eval hx,Option.map_none,Sem.run_bind,hsl,Result.andThen_ok,Sem.run_pure]
theorem Yn {α:Type} (xs:List α) (l:Int):(xs.drop l.toNat).take (((xs.length:Nat):Int).toNat - l.toNat)=xs.drop l.toNat:=by
 apply List.take_of_length_le; simp
theorem Zfd {α:Type} (xs:List α) (h:Int):(xs.drop (0:Int).toNat).take (h.toNat - (0:Int).toNat)=xs.take h.toNat:=by simp
end

def Wf (A:Option Addr) (c l s:Nat):Option Addr:=if c=l then A else A.map (·.add (l*s))
theorem V8 {E:Nat} {ty:Ty} {xs sub:List ty.D} {A:Option Addr} {n c:Nat} {l h:Int} {sz:Nat} (hsz:ty.n=sz) (h0:0≤l) (h1:l≤h) (h2:h≤(xs.length:Nat)) (hs:(xs.drop l.toNat).take (h.toNat - l.toNat)=sub)
  (w:World) (F:Nat→Prop) (hr:(rdC E ty xs (.slice A n c)).ok w F):(rdC E ty sub (.slice (Wf A c l.toNat sz) sub.length (c - l.toNat))).ok w F:=by
 obtain ⟨A',c',e,hle,hr⟩:=hr
 simp only [List.cons.injEq,and_true,Value.slice.injEq] at e
 obtain ⟨rfl,e2,rfl⟩:=e
 have hlen:sub.length=h.toNat - l.toNat:=by rw [← hs]; simp; omega
 refine ⟨_,_,rfl,by omega,?_⟩
 rcases hr with rfl | ⟨b,off,inner,rfl,hb,he,hc⟩
 ·left; rw [← hs]; simp
 ·by_cases hsub:sub=[]
  ·exact .inl hsub
  ·right
   have hpos:0<sub.length:=List.length_pos_iff.2 hsub
   have hne:¬ c=l.toNat:=by omega
   refine ⟨b,off+l.toNat*sz,(inner.drop (l.toNat*sz)).take ((h.toNat - l.toNat)*sz),?_,hb,?_,?_⟩
   ·unfold Wf; rw [if_neg hne]; simp [Xg]
   ·rw [← hs,← hsz]
    exact (he.drop (fun x c h=>ty.ok_len h) _).take (fun x c h=>ty.ok_len h) _
   ·intro j v hj
    rw [List.getElem?_take] at hj
    split at hj
    ·rw [List.getElem?_drop] at hj
     have:=hc _ _ hj
     rw [← Nat.add_assoc] at this
     exact this
    ·cases hj
theorem Gives.trans {l:List Ch} {c c':Ch} (h:Gives l c) (hc:∀ w F,c.ok w F→c'.ok w F):Gives l c':=by
 obtain ⟨d,hm,hd⟩:=h
 exact ⟨d,hm,fun w F h=>hc w F (hd w F h)⟩
section
variable {P:Program} {tt:TT} {env:Env} {S:World→Prop} {o:Oper} {w0 w:World} {F0:Ft} {Hs Rs:List Ch}
theorem Zak {α:Type} (hT:Yk P tt) {t e:Nat} {x:Operand} {lo hi:Option Operand} {xs sub:List α} {A:Option Addr} {c:Nat} {l h:Int} {z1 z2:Nat} {z:Value} {ie:TI} (ho:o.op=.slice t x lo hi none) (ht:find tt t=some ⟨.slice e,z1,z2,z⟩) (he:find tt e=some ie)
  (hx:Zq env x=some (.slice A xs.length c)) (hlc:xs.length≤c) (hlo:W5 env lo 0 l) (hhi:W5 env hi (xs.length:Nat) h) (h0:0≤l) (h1:l≤h) (h2:h≤(xs.length:Nat)) (hs:(xs.drop l.toNat).take (h.toNat - l.toNat)=sub) :
  QOp P o env S (.slice (Wf A c l.toNat ie.size) sub.length (c - l.toNat)):=by
 intro n a w hf _
 have hk:=(hT _ _ ht).kind
 simp only [TK.ok] at hk
 have hsz:=Xe w (hT _ _ he)
 have hb:=Bb (P:=P) (w:=w) (b:=true) (len:=xs.length) (cap:=c) hf hlo hhi h0 h1 (by omega) hlc
 have hlen:sub.length=h.toNat - l.toNat:=by rw [← hs]; simp; omega
 have hsl:(Instr.sliceAt t (.slice A xs.length c) (lo.map a.eval) (hi.map a.eval) none).run P w=.ok (.slice (Wf A c l.toNat ie.size) sub.length (c - l.toNat)) w:=by
  simp only [Instr.sliceAt,Sem.run_bind,Z2 w hk,Result.andThen_ok,Instr.slice]
  rw [hb]
  simp only [Result.andThen_ok,hsz,Sem.run_pure,hlen,Wf]
 simp only [execOp,ho,hf.eval hx,Option.map_none,Sem.run_bind,hsl,Result.andThen_ok,Sem.run_pure]
theorem St.cap (h:St w0 F0 Hs Rs w) {E:Nat} {ty:Ty} {xs:List ty.D} {A:Option Addr} {n c:Nat} (hg:Gives (Hs ++ Rs) (rdC E ty xs (.slice A n c))):xs.length≤c:=by
 obtain ⟨F,hF,_⟩:=h.gives hg
 obtain ⟨A',c',e,hle,_⟩:=hF
 simp only [List.cons.injEq,and_true,Value.slice.injEq] at e
 obtain ⟨_,_,rfl⟩:=e
 exact hle

theorem Zdq (hT:Yk P tt) {t e:Nat} {xa ya:Operand} {z1 z2:Nat} {z:Value} {ie:TI} {ty:Ty} (hsc:ty.scal=true) {xs ys:List ty.D} {v:Value} {A:Option Addr} {m c:Nat} (k:Nat) (ho:o.op=.call { callee:=.builtin .append,args:=#[xa,ya],argTypes:=#[t,t] })
  (hS:St w0 F0 Hs Rs w) (hk:nth Hs k=some (Yg e ty xs v)) (hg:Gives (Hs.eraseIdx k ++ Rs) (rdC e ty ys (.slice A m c))) (hx:Zq env xa=some v) (hy:Zq env ya=some (.slice A m c))
  (ht:find tt t=some ⟨.slice e,z1,z2,z⟩) (hi:find tt e=some ie) (hn:ty.n=ie.size) (hz:Nat.beq ie.zero.cells.toList.length ie.size=true) (hpos:0<ie.size) (hby:0<ie.bytes) (hl:(xs.length+ys.length)*ie.bytes≤140737488355328) :
  OpT P o env w (fun v' w'=>∃ A' c',v'=.slice A' (xs ++ ys).length c'∧St w0 F0 (Yg e ty (xs ++ ys) (.slice A' (xs ++ ys).length c') :: Hs.eraseIdx k) Rs w'):=
 OpT.value fun n a hf=>by
  have hkk:=(hT _ _ ht).kind
  simp only [TK.ok] at hkk
  obtain ⟨i0,hi0,hs0,hb0,hz0⟩:=(hT _ _ hi).info'
  have hpk:pick [k] Hs=some ([Yg e ty xs v],Hs.eraseIdx k):=by simp [pick,hk]
  obtain ⟨F,hF,hlt,hgv,hst⟩:=hS.step hpk
  obtain ⟨F1,F2,⟨inner,F',hown,hel,hF'1,hF'2⟩,_,h3,_⟩:=hF
  obtain ⟨R,hR,hRb⟩:=hgv _ hg
  obtain ⟨A',c',he,hle,hr⟩:=hR
  simp only [List.cons.injEq,and_true,Value.slice.injEq] at he
  obtain ⟨rfl,rfl,rfl⟩:=he
  have hlen:xs.length+ys.length≤140737488355328:=Nat.le_trans (Nat.le_mul_of_pos_right _ hby) hl
  have hml:xs.length+ys.length≤maxLen:=by simp only [maxLen]; omega
  have main:∃ v' w',(Builtin.append_ #[t,t] o.type #[v,.slice A ys.length c]).run P w=.ok v' w'∧w'.ownsRow 0 e ty.n v' (xs.length+ys.length) (inner ++ ys.flatMap ty.enc)∧w.grownBy w' v.ownBlock∧(v'.ownBlock=v.ownBlock∨v'.ownBlock=some w.heap.size):=by
   rcases hr with rfl | ⟨b,off,inn,rfl,hbR,he2,hc2⟩
   ·-- nothing is appended
    refine ⟨v,w,?_,by simpa using hown,World.grownBy.refl w _,.inl rfl⟩
    have hfc:(Builtin.firstCells ie.size 0 (.slice A 0 c)).run P w=.ok #[] w:=by
     cases A with
     | none=>simp [Builtin.firstCells]
     | some ad=>simp [Builtin.firstCells,loadCells,loadCellsFrom]
    rcases hown.2 with ⟨rfl,hn0⟩ | ⟨g,cap,cur,rfl,_,_,hnc,_⟩
    ·simp [Builtin.append_,Z2 w hkk,sizeOf,typeInfo,hi0,Builtin.lenOf,hs0,hfc]
    ·simp [Builtin.append_,Z2 w hkk,sizeOf,typeInfo,hi0,Builtin.lenOf,hnc,storeCells,hs0,hfc]
   ·have hinn:inn=ys.flatMap ty.enc:=by
     have:∀(ys:List ty.D) (inn:List Value),Elems (ty.ok w R) ys inn→inn=ys.flatMap ty.enc:=by
      intro ys
      induction ys with
      | nil=>intro inn h; simpa [Elems] using h
      | cons y ys ih=>
       rintro inn ⟨c1,r,rfl,h1,h2⟩
       have hfl:ty.flat=true:=by
        have:∀ t:Ty,t.scal=true→t.flat=true:=by
         intro t
         induction t with
         | pair a b iha ihb=>intro h; simp only [Ty.scal,Bool.and_eq_true] at h; simp only [Ty.flat,Bool.and_eq_true]; exact ⟨iha h.1,ihb h.2⟩
         | _=>intro h; first | rfl | cases h
        exact this ty hsc
       rw [ty.ok_enc hfl h1,ih r h2]; simp
     exact this ys inn he2
    subst hinn
    have hll:(ys.flatMap ty.enc).length=ys.length*ty.n:=he2.length (fun x c h=>ty.ok_len h)
    have hone:∀ u∈ys.flatMap ty.enc,u.oneCell'=true:=by
     intro u hu
     obtain ⟨y,_,hu⟩:=List.mem_flatMap.1 hu
     exact ty.ok_one (ty.ok_scal hsc w (fun _=>False) y) u hu
    obtain ⟨v1,w1,hr1,h2,h3',_,h5⟩:=run_append_own_at (P:=P) w 0 t o.type e i0 ie.zero ty.n ie.bytes hkk hi0 hz0 (by rw [hs0,hn]) hb0 (by have:=Nat.eq_of_beq_eq_true hz; rw [hn]; simpa using this) (by rw [hn]; exact hpos) v xs.length inner hown
     ⟨b,off,none⟩ ys.length c (ys.flatMap ty.enc) hll (fun j u hj=>by rw [Xg]; exact hc2 j u hj) hone hml hl (Nat.zero_le _)
    exact ⟨v1,w1,hr1,h2,h3',h5⟩
  obtain ⟨v1,w1,hr1,hown1,hg1,hat⟩:=main
  have hshape:∃ A' c',v1=.slice A' (xs.length+ys.length) c':=by
   rcases hown1.2 with ⟨rfl,hn0⟩ | ⟨g,cap,cur,rfl,_⟩
   ·exact ⟨none,0,by rw [hn0]⟩
   ·exact ⟨_,_,rfl⟩
  obtain ⟨A1,c1,rfl⟩:=hshape
  refine ⟨.slice A1 (xs.length+ys.length) c1,w1,by simp [execOp,ho,resolve,invoke,builtin,hf.eval hx,hf.eval hy,hr1],A1,c1,by rw [List.length_append],?_⟩
  have hsz:=hg1.size
  refine hst w1 [Yg e ty (xs ++ ys) (.slice A1 (xs ++ ys).length c1)] (fun q=>F1 q∨(w.heap.size≤q∧q<w1.heap.size)) (Chg.of_grown hg1 fun q hq=>(h3 q (hF'2 q hq).1).1) ⟨fun q=>F1 q∨(w.heap.size≤q∧q<w1.heap.size),fun _=>False,?_,trivial,fun q hq=>⟨hq,fun e=>e⟩,fun q hq=>hq.elim⟩ ?_
  ·refine ⟨inner ++ ys.flatMap ty.enc,fun _=>False,by rw [List.length_append]; exact hown1,?_,fun q hq=>hq.elim,fun q hq=>⟨?_,fun e=>e⟩⟩
   ·have hx':inner=xs.flatMap ty.enc:=by
     have:∀(ys:List ty.D) (inn:List Value),Elems (ty.ok w F') ys inn→inn=ys.flatMap ty.enc:=by
      intro ys
      induction ys with
      | nil=>intro inn h; simpa [Elems] using h
      | cons y ys ih=>
       rintro inn ⟨c1,r,rfl,h1,h2⟩
       have hfl:ty.flat=true:=by
        have:∀ t:Ty,t.scal=true→t.flat=true:=by
         intro t
         induction t with
         | pair a b iha ihb=>intro h; simp only [Ty.scal,Bool.and_eq_true] at h; simp only [Ty.flat,Bool.and_eq_true]; exact ⟨iha h.1,ihb h.2⟩
         | _=>intro h; first | rfl | cases h
        exact this ty hsc
       rw [ty.ok_enc hfl h1,ih r h2]; simp
     exact this xs inner hel
    rw [hx']
    exact Elems.append (Elems.scal hsc w1 _ xs) (Elems.scal hsc w1 _ ys)
   ·have hob:(Value.slice A1 (xs ++ ys).length c1).ownBlock=(Value.slice A1 (xs.length+ys.length) c1).ownBlock:=by cases A1 <;> rfl
    rw [hob] at hq
    rcases hat with hat | hat
    ·have:v.ownBlock=some q:=by rw [← hat]; exact hq
     exact .inl (hF'2 q this).1
    ·have hq':q=w.heap.size:=by
      rw [hat] at hq; exact (Option.some.inj hq).symm
     have hlt2:q<w1.heap.size:=by
      have hq2:(Value.slice A1 (xs.length+ys.length) c1).ownBlock=some q:=by rw [hat,hq']
      exact (hown1.lt q hq2).2
     exact .inr ⟨by omega,hlt2⟩
  ·intro q hq
   rcases hq with hq | hq
   ·exact ⟨.inl (h3 q hq).1,Nat.lt_of_lt_of_le (hlt q (h3 q hq).1) hsz⟩
   ·exact ⟨.inr hq.1,hq.2⟩
end

def Xm (a b:List UInt8):Int:=if Op.bytesLess a b=true then -1 else if a=b then 0 else 1
theorem Zjt (l:List UInt8) (i:Nat):(⟨⟨l⟩⟩:ByteArray)[i]! = l.getD i 0:=by
 by_cases h:i<l.length
 ·have h':i<(⟨⟨l⟩⟩:ByteArray).size:=h
  rw [getElem!_pos (⟨⟨l⟩⟩:ByteArray) i h']
  simp [List.getD_eq_getElem?_getD,h]
  try rfl
 ·have h':¬ i<(⟨⟨l⟩⟩:ByteArray).size:=h
  rw [getElem!_neg (⟨⟨l⟩⟩:ByteArray) i h']
  simp [List.getD_eq_getElem?_getD,List.getElem?_eq_none (Nat.le_of_not_lt h)]
  try rfl
def Jb (a b:List UInt8):Int:=
 match (List.range (min a.length b.length)).find? (fun i=>a.getD i 0 != b.getD i 0) with
 | some i=>if a.getD i 0<b.getD i 0 then -1 else 1
 | none=>if a.length<b.length then -1 else if a.length>b.length then 1 else 0
theorem Zeh (x:UInt8) (a b:List UInt8):Jb (x :: a) (x :: b)=Jb a b:=by
 unfold Jb
 have hm:min (x :: a).length (x :: b).length=min a.length b.length+1:=by simp only [List.length_cons]; omega
 rw [hm,List.range_succ_eq_map]
 have h0:((x :: a).getD 0 0 != (x :: b).getD 0 0)=false:=by simp
 rw [List.find?_cons_of_neg (by simp),List.find?_map]
 have hf:(fun i=>(x :: a).getD i 0 != (x :: b).getD i 0) ∘ Nat.succ=fun i=>a.getD i 0 != b.getD i 0:=by funext i; simp
 rw [hf]
 cases hfd:(List.range (min a.length b.length)).find? (fun i=>a.getD i 0 != b.getD i 0) with
 | none=>simp
 | some i=>simp
theorem Zf9:∀(a b:List UInt8),Jb a b=Xm a b
 | [],[]=>by decide
 | [],y :: b=>by simp [Jb,Xm,Op.bytesLess]
 | x :: a,[]=>by simp [Jb,Xm,Op.bytesLess]
 | x :: a,y :: b=>by
  by_cases h:x=y
  ·subst h
   rw [Zeh,Zf9 a b]
   unfold Xm
   simp [Op.bytesLess]
  ·unfold Jb Xm
   have hm:min (x :: a).length (y :: b).length=min a.length b.length+1:=by simp only [List.length_cons]; omega
   rw [hm,List.range_succ_eq_map,List.find?_cons_of_pos (by simpa using h)]
   simp only [List.getD_cons_zero,Op.bytesLess]
   by_cases hl:x<y
   ·simp [hl]
   ·simp [hl,h]
theorem Zjm (a b:List UInt8):Extern.BytealgCompare.cmp ⟨⟨a⟩⟩ ⟨⟨b⟩⟩=Xm a b:=by
 rw [← Zf9]
 unfold Extern.BytealgCompare.cmp Jb
 simp only [Zjt]
 rfl
def CmpStr (P:Program) (f:Nat):Prop:=∀ a b w,(callFunc f #[.string a,.string b]).run P w=.ok (.value (.int .i64 (Extern.BytealgCompare.cmp a b))) w
theorem Zjn {P:Program} {env:Env} {S:World→Prop} {o:Oper} {f:Nat} {xs:Array Operand} {ts:Array TypeId} {fx:Operand} {a b:List UInt8} (hc:CmpStr P f) (ho:o.op=.call { callee:=.value fx,args:=xs,argTypes:=ts })
  (hfx:Zq env fx=some (.func (.func f) #[] #[])) (hv:Yv env xs.toList=some [.string ⟨⟨a⟩⟩,.string ⟨⟨b⟩⟩]):QOp P o env S (.int .i64 (Xm a b)):=by
 intro n ac w hf _
 have hm:xs.map ac.eval=#[.string ⟨⟨a⟩⟩,.string ⟨⟨b⟩⟩]:=Wb hf hv
 have:=hc ⟨⟨a⟩⟩ ⟨⟨b⟩⟩ w
 simp [execOp,ho,resolve,hf.eval hfx,Deferred.ofValue,invoke,hm,this,Zjm]
theorem CmpStr.of {P : Program} {f : Nat} {fn : Func} (hf : P.funcs[f]? = some fn) (hn : (fn.name == "runtime.NumGoroutine") = false) (hb : fn.body.isNone = true) (h1 : (Extern.findNext fn).isNone = true)
  (h2:Extern.find fn=some Extern.BytealgCompare.compare):CmpStr P f:=fun a b w=>by
 have hn' : ¬ fn.name = "runtime.NumGoroutine" := by simpa using hn
 have hb':fn.body=none:=by simpa using hb
 have h1':Extern.findNext fn=none:=by simpa using h1
 have hc:Extern.BytealgCompare.compare #[.string a,.string b]=(do pure (goInt (Extern.BytealgCompare.cmp (← Extern.Bytes.bytesOf (.string a)) (← Extern.Bytes.bytesOf (.string b)))):Sem Value):=rfl
 simp [callFunc,hf,hn',hb',h1',h2,hc,Extern.Bytes.bytesOf,goInt]
end Go.SK
