/- Part of the library of this claim: how code is stepped through. -/
import Derived.Test.YtgdmpkhmedbnpaaGreatDoorXScanNoneKB
set_option linter.unusedVariables false
set_option linter.unusedSimpArgs false
namespace Go.SK
open Go Go.RowKit

def Xv (E n m:Nat) (cs:List Value) (v:Value):Ch where
 ok w F:=w.ownsRow 0 E n v m cs∧(∀ b,v.ownBlock=some b→F b)∧∀ u∈cs,u.oneCell'=true
 stable:=fun {w w' F} hs ⟨h1,h2,h3⟩=>⟨⟨h1.1,h1.2.imp id (by
   rintro ⟨g,cap,cur,rfl,hg,hh,r⟩
   exact ⟨g,cap,cur,rfl,hg,by rw [hs g (h2 g rfl)]; exact hh,r⟩)⟩,h2,h3⟩
def esC (t:Ty) (xs:List t.D) (cs:List Value):Ch where
 ok w F:=Elems (t.ok w F) xs cs
 stable hs h:=h.imp fun x c h=>t.ok_stable hs h
def Zfh (t:Ty) (ys:List t.D) (inner:List Value) (A:Option Addr):Ch where
 ok w F:=Elems (t.ok w F) ys inner∧(ys=[]∨∃ b off,A=some ⟨b,off,none⟩∧F b∧∀ j v,inner[j]?=some v→w.cell? ⟨b,off+j,none⟩=some v)
 stable:=fun {w w' F} hs ⟨h1,h2⟩=>⟨h1.imp fun x c h=>t.ok_stable hs h,h2.imp id fun ⟨b,off,e,hb,hc⟩=>⟨b,off,e,hb,fun j v hj=>by rw [Ju (hs b hb)]; exact hc j v hj⟩⟩
theorem Elems.ones {t:Ty} {w:World} {F:Nat→Prop}:∀ {xs:List t.D} {cs:List Value},Elems (t.ok w F) xs cs→∀ u∈cs,u.oneCell'=true
 | [],_,e,u,hu=>by rw [show _=[] from e] at hu; cases hu
 | x :: xs,_,⟨c,r,e,h1,h2⟩,u,hu=>by
  rw [e] at hu
  rcases List.mem_append.1 hu with hu | hu
  ·exact t.ok_one h1 u hu
  ·exact Elems.ones h2 u hu
section
variable {P:Program} {tt:TT} {env:Env} {o:Oper} {w0 w:World} {F0:Ft} {Hs Rs:List Ch}
theorem St.read2 (h:St w0 F0 Hs Rs w) {c c1 c2:Ch} (i j:Nat) (h1:nth Rs i=some c1) (h2:nth Rs j=some c2) (hc:∀ w F1 F2,c1.ok w F1→c2.ok w F2→c.ok w (fun b=>F1 b∨F2 b)):St w0 F0 Hs (c :: Rs) w:=by
 obtain ⟨F,hF,hb,hR⟩:=h.sat
 refine ⟨h.chg,F,hF,hb,fun d hd=>?_⟩
 rcases List.mem_cons.1 hd with rfl | hd
 ·rw [Yu] at h1 h2
  obtain ⟨R1,r1,g1⟩:=hR c1 (List.mem_of_getElem? h1)
  obtain ⟨R2,r2,g2⟩:=hR c2 (List.mem_of_getElem? h2)
  exact ⟨_,hc _ _ _ r1 r2,fun b hb'=>hb'.elim (g1 b) (g2 b)⟩
 ·exact hR d hd
theorem St.openRd {E m c:Nat} {t:Ty} {ys:List t.D} {A:Option Addr} (k:Nat) (h:St w0 F0 Hs Rs w) (hk:nth Rs k=some (rdC E t ys (.slice A m c)):=by exact rfl):∃ inner,St w0 F0 Hs (Zfh t ys inner A :: Rs) w:=by
 obtain ⟨F,hF,hb,hR⟩:=h.sat
 rw [Yu] at hk
 obtain ⟨R,r,g⟩:=hR _ (List.mem_of_getElem? hk)
 obtain ⟨A',c',e,_,hr⟩:=r
 simp only [List.cons.injEq,and_true,Value.slice.injEq] at e
 obtain ⟨rfl,_,_⟩:=e
 rcases hr with rfl | ⟨b,off,inner,hA,hbR,hel,hc⟩
 ·refine ⟨[],h.chg,F,hF,hb,fun d hd=>?_⟩
  rcases List.mem_cons.1 hd with rfl | hd
  ·exact ⟨fun _=>False,⟨rfl,.inl rfl⟩,fun _ hb=>hb.elim⟩
  ·exact hR d hd
 ·refine ⟨inner,h.chg,F,hF,hb,fun d hd=>?_⟩
  rcases List.mem_cons.1 hd with rfl | hd
  ·exact ⟨R,⟨hel,.inr ⟨b,off,hA,hbR,hc⟩⟩,g⟩
  ·exact hR d hd
theorem St.esApp {t:Ty} {xs ys:List t.D} {cs inner:List Value} {A:Option Addr} (i j:Nat) (h:St w0 F0 Hs Rs w) (h1:nth Rs i=some (esC t xs cs):=by exact rfl) (h2:nth Rs j=some (Zfh t ys inner A):=by exact rfl):St w0 F0 Hs (esC t (xs ++ ys) (cs ++ inner) :: Rs) w:=
 h.read2 i j h1 h2 fun w F1 F2 a b=>Elems.append (a.imp fun x c h=>t.ok_mono (fun _ h=>.inl h) h) (b.1.imp fun x c h=>t.ok_mono (fun _ h=>.inr h) h)
theorem Za0 [q:TTI P tt] {t e:Nat} {xa ya:Operand} {z1 z2:Nat} {z:Value} {ie:TI} {ty:Ty} {ys:List ty.D} {v:Value} {A:Option Addr} {m c n:Nat} {cs inner:List Value} (k i:Nat) (hS:St w0 F0 Hs Rs w) (hl:(m+ys.length)*ie.bytes≤140737488355328)
  (ho:o.op=.call { callee:=.builtin .append,args:=#[xa,ya],argTypes:=#[t,t] }:=by exact rfl) (hk:nth Hs k=some (Xv e n m cs v):=by exact rfl) (hg:nth Rs i=some (Zfh ty ys inner A):=by exact rfl) (hx:Zq env xa=some v:=by exact rfl) (hy:Zq env ya=some (.slice A ys.length c):=by exact rfl)
  (ht:find tt t=some ⟨.slice e,z1,z2,z⟩:=by exact rfl) (hi:find tt e=some ie:=by exact rfl) (hn:n=ie.size:=by exact rfl) (hty:ty.n=n:=by exact rfl) (hz:Nat.beq ie.zero.cells.toList.length ie.size=true:=by exact rfl) (hpos:0<ie.size:=by decide) (hby:0<ie.bytes:=by decide) :
  OpT P o env w (fun v' w'=>∃ A' c',v'=.slice A' (m+ys.length) c'∧St w0 F0 (Xv e n (m+ys.length) (cs ++ inner) (.slice A' (m+ys.length) c') :: Hs.eraseIdx k) Rs w'):=
 OpT.value fun nn a hf=>by
  have hkk:=(q.ok _ _ ht).kind
  simp only [TK.ok] at hkk
  obtain ⟨i0,hi0,hs0,hb0,hz0⟩:=(q.ok _ _ hi).info'
  have hpk:pick [k] Hs=some ([Xv e n m cs v],Hs.eraseIdx k):=by simp [pick,hk]
  obtain ⟨F,hF,hlt,hgv,hst⟩:=hS.step hpk
  obtain ⟨F1,F2,⟨hown,hown2,hones⟩,_,h3,_⟩:=hF
  obtain ⟨R,hR,hRb⟩:=hgv _ ⟨Zfh ty ys inner A,List.mem_append_right _ (by rw [Yu] at hg; exact List.mem_of_getElem? hg),fun _ _ h=>h⟩
  obtain ⟨hel,hr⟩:=hR
  have hlen:m+ys.length≤140737488355328:=Nat.le_trans (Nat.le_mul_of_pos_right _ hby) hl
  have hml:m+ys.length≤maxLen:=by simp only [maxLen]; omega
  have hll:inner.length=ys.length*n:=by rw [← hty]; exact hel.length (fun x c h=>ty.ok_len h)
  have main:∃ v' w',(Builtin.append_ #[t,t] o.type #[v,.slice A ys.length c]).run P w=.ok v' w'∧w'.ownsRow 0 e n v' (m+ys.length) (cs ++ inner)∧w.grownBy w' v.ownBlock∧(v'.ownBlock=v.ownBlock∨v'.ownBlock=some w.heap.size):=by
   rcases hr with rfl | ⟨b,off,rfl,hbR,hc2⟩
   ·have hin:inner=[]:=hel
    subst hin
    refine ⟨v,w,?_,by simpa using hown,World.grownBy.refl w _,.inl rfl⟩
    have hfc:(Builtin.firstCells ie.size 0 (.slice A 0 c)).run P w=.ok #[] w:=by
     cases A with
     | none=>simp [Builtin.firstCells]
     | some ad=>simp [Builtin.firstCells,loadCells,loadCellsFrom]
    rcases hown.2 with ⟨rfl,hn0⟩ | ⟨g,cap,cur,rfl,_,_,hnc,_⟩
    ·simp [Builtin.append_,Z2 w hkk,sizeOf,typeInfo,hi0,Builtin.lenOf,hs0,hfc]
    ·simp [Builtin.append_,Z2 w hkk,sizeOf,typeInfo,hi0,Builtin.lenOf,hnc,storeCells,hs0,hfc]
   ·obtain ⟨v1,w1,hr1,h2,h3',_,h5⟩:=run_append_own_at (P:=P) w 0 t o.type e i0 ie.zero n ie.bytes hkk hi0 hz0 (by rw [hs0,hn]) hb0 (by have:=Nat.eq_of_beq_eq_true hz; rw [hn]; simpa using this) (by rw [hn]; exact hpos) v m cs hown
     ⟨b,off,none⟩ ys.length c inner hll (fun j u hj=>by rw [Xg]; exact hc2 j u hj) (Elems.ones hel) hml hl (Nat.zero_le _)
    exact ⟨v1,w1,hr1,h2,h3',h5⟩
  obtain ⟨v1,w1,hr1,hown1,hg1,hat⟩:=main
  have hshape:∃ A' c',v1=.slice A' (m+ys.length) c':=by
   rcases hown1.2 with ⟨rfl,hn0⟩ | ⟨g,cap,cur,rfl,_⟩
   ·exact ⟨none,0,by rw [hn0]⟩
   ·exact ⟨_,_,rfl⟩
  obtain ⟨A1,c1,rfl⟩:=hshape
  refine ⟨.slice A1 (m+ys.length) c1,w1,by simp [execOp,ho,resolve,invoke,builtin,hf.eval hx,hf.eval hy,hr1],A1,c1,rfl,?_⟩
  have hsz:=hg1.size
  refine hst w1 [Xv e n (m+ys.length) (cs ++ inner) (.slice A1 (m+ys.length) c1)] (fun q=>F1 q∨(w.heap.size≤q∧q<w1.heap.size)) (Chg.of_grown hg1 fun q hq=>(h3 q (hown2 q hq)).1) ⟨fun q=>F1 q∨(w.heap.size≤q∧q<w1.heap.size),fun _=>False,⟨hown1,fun q hq=>?_,fun u hu=>?_⟩,trivial,fun q hq=>⟨hq,fun e=>e⟩,fun q hq=>hq.elim⟩ (fun q hq=>?_)
  ·rcases hat with hat | hat
   ·have:v.ownBlock=some q:=by rw [← hat]; exact hq
    exact .inl (hown2 q this)
   ·have hq':q=w.heap.size:=by
     rw [hat] at hq; exact (Option.some.inj hq).symm
    have hlt2:q<w1.heap.size:=(hown1.lt q hq).2
    exact .inr ⟨by omega,hlt2⟩
  ·rcases List.mem_append.1 hu with hu | hu
   ·exact hones u hu
   ·exact Elems.ones hel u hu
  ·rcases hq with hq | hq
   ·exact ⟨.inl (h3 q hq).1,Nat.lt_of_lt_of_le (hlt q (h3 q hq).1) hsz⟩
   ·exact ⟨.inr hq.1,hq.2⟩
def cut (cs:List Value) (i n:Nat):List Value:=(cs.drop (i*n)).take n
theorem Elems.cut {α:Type} {ok:α→List Value→Prop} {m:Nat} (h:∀ x c,ok x c→c.length=m):∀ {xs:List α} {inner:List Value},Elems ok xs inner→∀ {i:Nat} {x:α},xs[i]?=some x→ok x (SK.cut inner i m)
 | [],_,_,i,x,hx=>by simp at hx
 | y :: ys,inner,⟨c,r,e,h1,h2⟩,0,x,hx=>by
  simp only [List.getElem?_cons_zero,Option.some.injEq] at hx
  subst hx
  unfold SK.cut
  rw [e,Nat.zero_mul,List.drop_zero,← h _ _ h1,List.take_left']
  ·exact h1
  ·rfl
 | y :: ys,inner,⟨c,r,e,h1,h2⟩,i+1,x,hx=>by
  have:=Elems.cut h h2 (i:=i) (x:=x) (by simpa using hx)
  unfold SK.cut at this ⊢
  rw [e,show (i+1)*m=c.length+i*m by rw [h _ _ h1,Nat.succ_mul,Nat.add_comm],List.drop_length_add_append]
  exact this
theorem Elems.set {α:Type} {ok:α→List Value→Prop} {m:Nat} (h:∀ x c,ok x c→c.length=m):∀ {xs:List α} {inner:List Value},Elems ok xs inner→∀ {i:Nat} {x:α} {c:List Value},i<xs.length→ok x c→Elems ok (xs.set i x) (Zy (i*m) c inner)
 | [],_,_,i,x,c,hi,_=>by simp at hi
 | y :: ys,inner,⟨c1,r,e,h1,h2⟩,0,x,c,hi,hc=>by
  refine ⟨c,r,?_,hc,h2⟩
  have l1:=h _ _ h1
  have l2:=h _ _ hc
  unfold Zy
  rw [e,Nat.zero_mul,List.take_zero,List.nil_append,Nat.zero_add,l2,← l1,List.drop_left']
  rfl
 | y :: ys,inner,⟨c1,r,e,h1,h2⟩,i+1,x,c,hi,hc=>by
  have ih:=Elems.set h h2 (i:=i) (x:=x) (c:=c) (by simpa using hi) hc
  refine ⟨c1,Zy (i*m) c r,?_,h1,ih⟩
  have l1:=h _ _ h1
  unfold Zy
  rw [e,show (i+1)*m=c1.length+i*m by rw [l1,Nat.succ_mul,Nat.add_comm],List.take_length_add_append,show c1.length+i*m+c.length=c1.length+(i*m+c.length) by omega,List.drop_length_add_append]
  simp
theorem Zhh [q:TTI P tt] {t E n m c:Nat} {x y:Operand} {i:TI} {A:Option Addr} {cs:List Value} {v:Value} {ix f:Nat} (k:Nat) (hS:St w0 F0 Hs Rs w) (hix:ix<m) (hA:A=some ⟨blk A,ofs A,none⟩) (ho:o.op=.store t x y:=by exact rfl) (hk:nth Hs k=some (Xv E n m cs (.slice A m c)):=by exact rfl) (hi:find tt t=some i:=by exact rfl)
  (ha:Zq env x=some (.pointer (some ⟨blk A,ofs A+ix*n+f,none⟩)):=by exact rfl) (hv:Zq env y=some v:=by exact rfl) (hsz:Nat.beq v.cells.toList.length i.size=true:=by exact rfl) (hle:Nat.ble (f+i.size) n=true:=by exact rfl) (hc1:v.cells.toList.all (fun u=>u.oneCell')=true:=by exact rfl) :
  OpT P o env w (fun _ w'=>St w0 F0 (Xv E n m (Zy (ix*n+f) v.cells.toList cs) (.slice A m c) :: Hs.eraseIdx k) Rs w'):=
 OpT.skip fun nn a hf=>by
  obtain ⟨F,⟨hown,hF,hones⟩,hlt,hs⟩:=hS.turn hk
  rcases hown.2 with ⟨e,_⟩ | ⟨g,cap,cur,e,_,hh,hnc,hcm,hcs,htk⟩
  ·simp only [Value.slice.injEq] at e
   rw [e.1] at hA; cases hA
  ·simp only [Value.slice.injEq] at e
   obtain ⟨rfl,_,rfl⟩:=e
   have hb:=hF g rfl
   have hsz':v.cells.size=i.size:=by have:=Nat.eq_of_beq_eq_true hsz; simpa using this
   have hle':f+i.size≤n:=Nat.le_of_ble_eq_true hle
   have hmul:ix*n+n≤m*n:=by rw [← Nat.succ_mul]; exact Nat.mul_le_mul_right _ hix
   have hmul2:m*n≤c*n:=Nat.mul_le_mul_right _ hnc
   have hall:∀ u∈v.cells.toList,u.oneCell'=true:=by rw [List.all_eq_true] at hc1; exact hc1
   have hst:=run_storeCells_at P g (ix*n+f) E v.cells.toList 0 cur w hh (by rw [hcs]; simp [hsz']; omega) hall
   have hcl:cs.length=m*n:=hown.1
   have hsplit:cur.toList=cs ++ cur.toList.drop (m*n):=by rw [← htk,List.take_append_drop]
   have hlay:cur.toList.take (ix*n+f) ++ v.cells.toList ++ cur.toList.drop (ix*n+f+v.cells.toList.length)=Zy (ix*n+f) v.cells.toList cs ++ cur.toList.drop (m*n):=by
    unfold Zy
    rw [hsplit,List.take_append_of_le_length (by rw [hcl]; omega),List.drop_append_of_le_length (by rw [hcl]; simp [hsz']; omega)]
    simp [List.append_assoc,hcl]
   rw [Nat.add_zero,hlay] at hst
   have haddr:Zq env x=some (.pointer (some ⟨g,ix*n+f,none⟩)):=by rw [ha]; simp [blk,ofs]
   refine ⟨_,by simp [execOp,ho,hf.eval haddr,hf.eval hv,Instr.storeAt,Instr.sureAddr,storeVar,Xe w (q.ok _ _ hi),hsz',hst]; rfl,?_⟩
   have hll:(Zy (ix*n+f) v.cells.toList cs).length=m*n:=by
    unfold Zy
    simp only [List.length_append,List.length_take,List.length_drop,Array.length_toList,hcl,hsz']
    omega
   refine hs _ (Xv E n m (Zy (ix*n+f) v.cells.toList cs) (.slice (some ⟨g,0,none⟩) m c)) F (X9 w g _ hb) ⟨⟨hll,.inr ⟨g,c,_,rfl,Nat.zero_le _,setRow_heap w g _ _ _ _ hh,hnc,hcm,?_,?_⟩⟩,hF,fun u hu=>?_⟩ (fun b hb=>⟨.inl hb,by simpa using hlt b hb⟩)
   ·simp only [List.size_toArray,List.length_append,hll,List.length_drop,Array.length_toList,hcs]
    omega
   ·rw [List.take_append_of_le_length (by rw [hll]; simp),List.take_of_length_le (by rw [hll]; simp)]
   ·unfold Zy at hu
    rcases List.mem_append.1 hu with hu | hu
    ·rcases List.mem_append.1 hu with hu | hu
     ·exact hones u (List.mem_of_mem_take hu)
     ·exact hall u hu
    ·exact hones u (List.mem_of_mem_drop hu)
end
def Zmx:Nat→Code→Option Code
 | 0,.seq _ b=>some b
 | k+1,.seq _ b=>Zmx k b
 | _,_=>none
section
variable {P:Program} {tt:TT} {env:Env} {o:Oper} {w0 w:World} {F0:Ft} {Hs Rs:List Ch}
theorem OpT.imp {K K':Value→World→Prop} (h:OpT P o env w K) (hk:∀ v w',K v w'→K' v w'):OpT P o env w K':=fun n a next Q hf hn=>h n a next Q hf fun v w' hv=>hn v w' (hk v w' hv)
theorem St.drop1 {c d:Ch} (h:St w0 F0 Hs (c :: d :: Rs) w):St w0 F0 Hs (c :: Rs) w:=h.reads _ fun x hx=>by
 rcases List.mem_cons.1 hx with rfl | hx
 ·exact List.mem_cons_self
 ·exact List.mem_cons_of_mem _ (List.mem_cons_of_mem _ hx)
theorem Zet [q:TTI P tt] {t e:Nat} {xa ya:Operand} {z1 z2:Nat} {z:Value} {ie:TI} {ty:Ty} {xs ys:List ty.D} {v:Value} {A:Option Addr} {c n e2:Nat} {cs:List Value} (k i j:Nat) (hS:St w0 F0 Hs Rs w) (hl:(xs.length+ys.length)*ie.bytes≤140737488355328)
  (ho:o.op=.call { callee:=.builtin .append,args:=#[xa,ya],argTypes:=#[t,t] }:=by exact rfl) (hi:nth Rs i=some (esC ty xs cs):=by exact rfl) (hk:nth Hs k=some (Xv e n xs.length cs v):=by exact rfl) (hj:nth Rs j=some (rdC e2 ty ys (.slice A ys.length c)):=by exact rfl) (hx:Zq env xa=some v:=by exact rfl) (hy:Zq env ya=some (.slice A ys.length c):=by exact rfl)
  (ht:find tt t=some ⟨.slice e,z1,z2,z⟩:=by exact rfl) (hie:find tt e=some ie:=by exact rfl) (hn:n=ie.size:=by exact rfl) (hty:ty.n=n:=by exact rfl) (hz:Nat.beq ie.zero.cells.toList.length ie.size=true:=by exact rfl) (hpos:0<ie.size:=by decide) (hby:0<ie.bytes:=by decide) :
  OpT P o env w (fun v' w'=>∃ A' c' cs',v'=.slice A' (xs ++ ys).length c'∧St w0 F0 (Xv e n (xs ++ ys).length cs' (.slice A' (xs ++ ys).length c') :: Hs.eraseIdx k) (esC ty (xs ++ ys) cs' :: Rs) w'):=by
 obtain ⟨inner,h1⟩:=hS.openRd j hj
 have h2:=h1.esApp (i:=i+1) (j:=0) (by simpa [nth] using hi) rfl
 have h3:=Za0 (P:=P) (o:=o) (env:=env) (ty:=ty) (ys:=ys) k 1 h2 hl ho hk rfl hx hy ht hie hn hty hz hpos hby
 refine h3.imp fun v' w' ⟨A',c',e,h⟩=>⟨A',c',cs ++ inner,by rw [e,List.length_append],?_⟩
 rw [List.length_append]
 exact h.drop1
theorem Zfj [q:TTI P tt] {T e:Nat} {z1 z2:Nat} {z:Value} {ie:TI} (ty:Ty) (hS:St w0 F0 Hs Rs w) (ho:o.op=.buildSlice T 0 #[]:=by exact rfl)
  (ht:find tt T=some ⟨.slice e,z1,z2,z⟩:=by exact rfl) (hi:find tt e=some ie:=by exact rfl) :
  OpT P o env w (fun v w'=>∃ b,v=.slice (some ⟨b,0,none⟩) ([]:List ty.D).length 0∧St w0 F0 (Xv e ty.n ([]:List ty.D).length [] (.slice (some ⟨b,0,none⟩) ([]:List ty.D).length 0) :: Hs) (esC ty [] [] :: Rs) w'):=
 OpT.value fun n a hf=>⟨_,_,Zat q.ok ho ht hi (vs:=[]) rfl (by simp) rfl rfl rfl hf,w.heap.size,rfl,by
  have hown:=World.ownsRow_lit (base:=0) (e:=e) (size:=ty.n) w #[] 0 (Nat.zero_le _) (Nat.zero_le _) (by simp)
  have h1:St w0 F0 (Xv e ty.n ([]:List ty.D).length [] (.slice (some ⟨w.heap.size,0,none⟩) ([]:List ty.D).length 0) :: Hs) Rs (w.alloc (.cells (([]:List Value).flatMap (fun v=>v.cells.toList)).toArray e)):=hS.add (F':=fun b=>b=w.heap.size) (Chg.alloc w _ _) ⟨by simpa using hown,fun b hb=>by simp [Value.ownBlock] at hb; exact hb.symm,fun u hu=>by cases hu⟩ (fun b hb=>by subst hb; simp)
  obtain ⟨F,hF,hb,hR⟩:=h1.sat
  refine ⟨h1.chg,F,hF,hb,fun d hd=>?_⟩
  rcases List.mem_cons.1 hd with rfl | hd
  ·exact ⟨fun _=>False,rfl,fun _ hb=>hb.elim⟩
  ·exact hR d hd⟩
theorem Zia {cs cl vs:List Value} {i n f:Nat} (hc:cut cs i n=cl) (hf:f+vs.length≤n) (hl:i*n+n≤cs.length):Zy (i*n+f) vs cs=Zy (i*n) (Zy f vs cl) cs:=by
 subst hc
 have hlen:(cut cs i n).length=n:=by unfold cut; rw [List.length_take,List.length_drop]; omega
 unfold Zy
 rw [show (i*n+(List.take f (cut cs i n) ++ vs ++ List.drop (f+vs.length) (cut cs i n)).length)=i*n+n by
  simp only [List.length_append,List.length_take,List.length_drop,hlen]; omega]
 unfold cut
 have e1:cs.take (i*n+f)=cs.take (i*n) ++ ((cs.drop (i*n)).take n).take f:=by
  rw [List.take_add,List.take_take,Nat.min_eq_left (by omega)]
 have e2:cs.drop (i*n+f+vs.length)=((cs.drop (i*n)).take n).drop (f+vs.length) ++ cs.drop (i*n+n):=by
  have e3:cs.drop (i*n+f+vs.length)=(cs.drop (i*n)).drop (f+vs.length):=by rw [List.drop_drop]; congr 1; omega
  rw [e3]
  generalize hX:cs.drop (i*n)=X
  have hX2:cs.drop (i*n+n)=X.drop n:=by rw [← hX,List.drop_drop]
  rw [hX2]
  conv=>lhs; rw [← List.take_append_drop n X]
  rw [List.drop_append_of_le_length]
  rw [List.length_take,← hX,List.length_drop]; omega
 rw [e1,e2]
 simp only [List.append_assoc]
theorem Zng {t:Ty} {x:t.D} {cs:List Value} (h:St w0 F0 Hs Rs w) (hg:Bq Rs t x cs):St w0 F0 Hs (okC t x cs :: Rs) w:=by
 obtain ⟨F,hF,hb,hR⟩:=h.sat
 refine ⟨h.chg,F,hF,hb,fun d hd=>?_⟩
 rcases List.mem_cons.1 hd with rfl | hd
 ·refine ⟨fun b=>(b<w.heap.size∧¬ F b)∧F0.has w0 b,?_,fun b hb=>hb⟩
  exact Zav hR (fun b hb=>hb.1.1) (fun b _=>rfl) hg
 ·exact hR d hd
end
section
variable {P:Program} {tt:TT} {env:Env} {o:Oper} {w0 w:World} {F0:Ft} {Hs Rs:List Ch}
end
end Go.SK
