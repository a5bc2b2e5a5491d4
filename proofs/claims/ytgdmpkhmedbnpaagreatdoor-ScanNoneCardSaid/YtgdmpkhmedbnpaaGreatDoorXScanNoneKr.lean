/- Part of the library of this claim: how code is stepped through. -/
import Derived.Test.YtgdmpkhmedbnpaaGreatDoorXScanNoneKq
import Derived.Laws.Externs
set_option linter.unusedVariables false
set_option linter.unusedSimpArgs false
namespace Go.SK
open Go Go.RowKit

section
variable {α:Type}
theorem Zjr {X Y sp:List Value} {a:Nat} (ha:a≤X.length) (hs:Y.length≤sp.length) :
  (Zy a Y (Zy (a+Y.length) (X.drop a) (X ++ sp))).length=(X ++ sp).length∧(Zy a Y (Zy (a+Y.length) (X.drop a) (X ++ sp))).take (X.length+Y.length)=X.take a ++ Y ++ X.drop a:=by
 have h1:((X ++ sp).take (a+Y.length)).length=a+Y.length:=by rw [List.length_take,List.length_append]; omega
 have h2:(Zy (a+Y.length) (X.drop a) (X ++ sp)).take a=X.take a:=by
  rw [Zy,List.append_assoc,List.take_append_of_le_length (by omega),List.take_take,show min a (a+Y.length)=a by omega,List.take_append_of_le_length ha]
 have h3:(Zy (a+Y.length) (X.drop a) (X ++ sp)).drop (a+Y.length)=X.drop a ++ (X ++ sp).drop (a+Y.length+(X.drop a).length):=by
  rw [Zy,List.append_assoc,List.drop_append_of_le_length (by omega),List.drop_of_length_le (by omega),List.nil_append]
 have h4:(X.take a ++ Y ++ X.drop a).length=X.length+Y.length:=by simp only [List.length_append,List.length_take,List.length_drop]; omega
 have h5:Zy a Y (Zy (a+Y.length) (X.drop a) (X ++ sp))=X.take a ++ Y ++ X.drop a ++ (X ++ sp).drop (a+Y.length+(X.drop a).length):=by
  rw [Zy,h2,h3,← List.append_assoc]
 rw [h5]
 exact ⟨by rw [List.length_append,h4,List.length_drop,List.length_drop,List.length_append]; omega,by rw [← h4,List.take_left]⟩
theorem Zj5 {X Y tail:List Value} {a:Nat} (ha:a≤X.length) (hs:Y.length+(X.length - a)≤tail.length) :
  (Zy (a+Y.length) (X.drop a) (Zy a Y (X.take a ++ tail))).length=(X.take a ++ tail).length∧(Zy (a+Y.length) (X.drop a) (Zy a Y (X.take a ++ tail))).take (X.length+Y.length)=X.take a ++ Y ++ X.drop a:=by
 have h0:(X.take a).length=a:=by rw [List.length_take]; omega
 have h1:Zy a Y (X.take a ++ tail)=X.take a ++ Y ++ tail.drop Y.length:=by
  rw [Zy,List.take_append_of_le_length (by omega),List.take_of_length_le (by omega),List.drop_append,List.drop_of_length_le (by omega),h0,List.nil_append,show a+Y.length - a=Y.length by omega]
 have h2:(X.take a ++ Y).length=a+Y.length:=by rw [List.length_append,h0]
 have h3:Zy (a+Y.length) (X.drop a) (X.take a ++ Y ++ tail.drop Y.length)=X.take a ++ Y ++ X.drop a ++ tail.drop (Y.length+(X.drop a).length):=by
  rw [Zy,List.take_append_of_le_length (by omega),List.take_of_length_le (by omega),List.drop_append,List.drop_of_length_le (l:=X.take a ++ Y) (by omega),List.nil_append,h2,List.drop_drop]
  congr 2
  omega
 have h4:(X.take a ++ Y ++ X.drop a).length=X.length+Y.length:=by simp only [List.length_append,List.length_take,List.length_drop]; omega
 rw [h1,h3]
 exact ⟨by rw [List.length_append,h4,List.length_append,h0,List.length_drop,List.length_drop]; omega,by rw [← h4,List.take_left]⟩
theorem Zif {X Z sp:List Value} {a b:Nat} (hab:a≤b) (hb:b≤X.length) (hZ:Z.length=b - a) :
  (Zy (a+(X.length - b)) Z (Zy a (X.drop b) (X ++ sp))).length=(X ++ sp).length∧(Zy (a+(X.length - b)) Z (Zy a (X.drop b) (X ++ sp))).take (a+(X.length - b))=X.take a ++ X.drop b:=by
 have h0:(X.take a).length=a:=by rw [List.length_take]; omega
 have h1:Zy a (X.drop b) (X ++ sp)=X.take a ++ X.drop b ++ (X ++ sp).drop (a+(X.drop b).length):=by
  rw [Zy,List.take_append_of_le_length (by omega)]
 have h2:(X.take a ++ X.drop b).length=a+(X.length - b):=by rw [List.length_append,h0,List.length_drop]
 rw [h1]
 have h3:Zy (a+(X.length - b)) Z (X.take a ++ X.drop b ++ (X ++ sp).drop (a+(X.drop b).length))=X.take a ++ X.drop b ++ Z ++ ((X ++ sp).drop (a+(X.drop b).length)).drop Z.length:=by
  rw [Zy,← h2,List.take_left,List.drop_append,List.drop_of_length_le (l:=X.take a ++ X.drop b) (by omega),List.nil_append]
  congr 2
  omega
 rw [h3]
 refine ⟨by simp only [List.length_append,List.length_take,List.length_drop]; omega,by rw [← h2,List.append_assoc,List.take_left]⟩
end
section
variable {P:Program} {tt:TT} {env:Env} {S:World→Prop} {o:Oper} {w0 w:World} {F0:Ft} {Hs Rs:List Ch}
theorem St.openRow {e:Nat} {ty:Ty} (hsc:ty.scal=true) {xs:List ty.D} {A:Option Addr} {n c:Nat} (k:Nat) (hS:St w0 F0 Hs Rs w) (hk:nth Hs k=some (Yg e ty xs (.slice A n c))) :
  (A=none∧xs=[]∧c=0)∨∃ b sp,A=some ⟨b,0,none⟩∧xs.length≤c∧c≤maxLen∧sp.length=(c - xs.length)*ty.n∧St w0 F0 (Yr b e (xs.flatMap ty.enc ++ sp) :: Hs.eraseIdx k) Rs w:=by
 obtain ⟨F,⟨inner,F',hown,hel,hF'1,hF'2⟩,hlt,hs⟩:=hS.turn hk
 have hin:=W4 hsc hel
 subst hin
 rcases hown.2 with ⟨hv,hz⟩ | ⟨g,cap,cur,hv,hb,hg,hnc,hcm,hcs,htk⟩
 ·simp only [Value.slice.injEq] at hv
  obtain ⟨rfl,_,rfl⟩:=hv
  exact .inl ⟨rfl,List.eq_nil_of_length_eq_zero hz,rfl⟩
 ·simp only [Value.slice.injEq] at hv
  obtain ⟨rfl,rfl,rfl⟩:=hv
  refine .inr ⟨g,cur.toList.drop (xs.length*ty.n),rfl,hnc,hcm,?_,hs w _ F (Chg.refl _ _) ⟨(hF'2 g rfl).1,?_⟩ fun b hb=>⟨.inl hb,hlt b hb⟩⟩
  ·rw [List.length_drop,Array.length_toList,hcs,Nat.sub_mul]
  ·rw [hg,← htk,List.take_append_drop]
theorem St.closeRow {e b:Nat} {ty:Ty} (hsc:ty.scal=true) {ys:List ty.D} {L:List Value} {c:Nat} (k:Nat) (hS:St w0 F0 Hs Rs w) (hk:nth Hs k=some (Yr b e L)) (hle:ys.length≤c) (hcm:c≤maxLen) (hL:L.length=c*ty.n) (ht:L.take (ys.length*ty.n)=ys.flatMap ty.enc) :
  St w0 F0 (Yg e ty ys (.slice (some ⟨b,0,none⟩) ys.length c) :: Hs.eraseIdx k) Rs w:=by
 obtain ⟨F,⟨hFb,hh⟩,hlt,hs⟩:=hS.turn hk
 refine hs w _ F (Chg.refl _ _) ⟨ys.flatMap ty.enc,fun _=>False,?_,Elems.scal hsc _ _ _,fun b hb=>hb.elim,?_⟩ fun b hb=>⟨.inl hb,hlt b hb⟩
 ·exact ⟨Yw hsc ys,.inr ⟨b,c,L.toArray,rfl,Nat.zero_le _,hh,hle,hcm,by simpa using hL,by simpa using ht⟩⟩
 ·intro g hg
  simp only [Value.ownBlock,Option.some.injEq] at hg
  subst hg
  exact ⟨hFb,fun h=>h⟩
theorem Vx {ty:Ty} (hsc:ty.scal=true) (xs:List ty.D) (i:Nat):(xs.flatMap ty.enc).take (i*ty.n)=(xs.take i).flatMap ty.enc:=by
 rcases Nat.lt_or_ge xs.length i with h | h
 ·rw [List.take_of_length_le (by rw [Yw hsc]; exact Nat.mul_le_mul_right _ (by omega)),List.take_of_length_le (by omega)]
 ·have e:xs.flatMap ty.enc=(xs.take i).flatMap ty.enc ++ (xs.drop i).flatMap ty.enc:=by rw [← List.flatMap_append,List.take_append_drop]
  have l:((xs.take i).flatMap ty.enc).length=i*ty.n:=by rw [Yw hsc,List.length_take,Nat.min_eq_left h]
  rw [e,← l,List.take_left]
theorem Jv {ty:Ty} (hsc:ty.scal=true) (xs:List ty.D) (i:Nat):(xs.flatMap ty.enc).drop (i*ty.n)=(xs.drop i).flatMap ty.enc:=by
 rcases Nat.lt_or_ge xs.length i with h | h
 ·rw [List.drop_of_length_le (by rw [Yw hsc]; exact Nat.mul_le_mul_right _ (by omega)),List.drop_of_length_le (by omega)]; rfl
 ·have e:xs.flatMap ty.enc=(xs.take i).flatMap ty.enc ++ (xs.drop i).flatMap ty.enc:=by rw [← List.flatMap_append,List.take_append_drop]
  have l:((xs.take i).flatMap ty.enc).length=i*ty.n:=by rw [Yw hsc,List.length_take,Nat.min_eq_left h]
  rw [e,← l,List.drop_left]
def Lies (w:World) (A:Option Addr) (cs:List Value):Prop:=cs=[]∨∃ b off,A=some ⟨b,off,none⟩∧∀ j u,cs[j]?=some u→w.cell? ⟨b,off+j,none⟩=some u
theorem Gg {E:Nat} {ty:Ty} (hsc:ty.scal=true) {xs:List ty.D} {A:Option Addr} {n c:Nat} {F:Nat→Prop} (h:(rdC E ty xs (.slice A n c)).ok w F):n=xs.length∧Lies w A (xs.flatMap ty.enc)∧∀ b off,A=some ⟨b,off,none⟩→xs≠[]→F b:=by
 obtain ⟨A',c',he,hle,hr⟩:=h
 simp only [List.cons.injEq,and_true,Value.slice.injEq] at he
 obtain ⟨rfl,rfl,rfl⟩:=he
 refine ⟨rfl,?_,?_⟩
 ·rcases hr with rfl | ⟨b,off,inn,rfl,hb,he,hc⟩
  ·exact .inl rfl
  ·rw [W4 hsc he] at hc
   exact .inr ⟨b,off,rfl,hc⟩
 ·rintro b off rfl hne
  rcases hr with rfl | ⟨b',off',inn,he,hb,_⟩
  ·exact absurd rfl hne
  ·simp only [Option.some.injEq,Addr.mk.injEq,and_true] at he
   rw [he.1]; exact hb
theorem Lies.take {A:Option Addr} {cs:List Value} (h:Lies w A cs) (m:Nat):Lies w A (cs.take m):=by
 rcases h with rfl | ⟨b,off,e,h⟩
 ·exact .inl (by simp)
 ·refine .inr ⟨b,off,e,fun j u hj=>h j u ?_⟩
  rw [List.getElem?_take] at hj
  split at hj
  ·exact hj
  ·cases hj
theorem Gn {b t:Nat} {cs:List Value} (h:w.heap[b]?=some (.cells cs.toArray t (0,0))) (off:Nat):Lies w (some ⟨b,off,none⟩) (cs.drop off):=by
 refine .inr ⟨b,off,rfl,fun j u hj=>?_⟩
 have:=Zdp h off (cs.length) j u (by rw [List.getElem?_take]; split; exact hj; rw [List.getElem?_drop,List.getElem?_eq_none (by omega)] at hj; cases hj)
 exact this
theorem Zir {b t c l sz:Nat} {cs:List Value} (h:w.heap[b]?=some (.cells cs.toArray t (0,0))) (hc:cs.length=c*sz):Lies w (Wf (some ⟨b,0,none⟩) c l sz) (cs.drop (l*sz)):=by
 by_cases e:c=l
 ·subst e
  exact .inl (List.drop_of_length_le (by omega))
 ·have:=Gn h (l*sz)
  simp only [Wf,e,if_false,Option.map_some,Xg,Nat.zero_add]
  exact this
theorem J1 {A:Option Addr} {cs:List Value} (h:Lies w A cs) {size m n c:Nat} (hl:cs.length=m*size):(Builtin.firstCells size m (.slice A n c)).run P w=.ok cs.toArray w:=by
 rcases h with rfl | ⟨b,off,rfl,h⟩
 ·have hz:m*size=0:=by simpa using hl.symm
  cases A with
  | none=>simp [Builtin.firstCells]
  | some ad=>simp [Builtin.firstCells,hz,loadCells,loadCellsFrom]
 ·exact run_firstCells_some (P:=P) w size m ⟨b,off,none⟩ n c cs hl (fun j u hj=>by rw [Xg]; exact h j u hj)
theorem Wg (hT:Yk P tt) {t e b off n c:Nat} {x:Operand} {lo hi:Option Operand} (l h:Int) (off' n' c':Nat) {z1 z2:Nat} {z:Value} {ie:TI} (ho:o.op=.slice t x lo hi none) (ht:find tt t=some ⟨.slice e,z1,z2,z⟩) (he:find tt e=some ie)
  (hx:Zq env x=some (.slice (some ⟨b,off,none⟩) n c)) (hnc:n≤c) (hlo:W5 env lo 0 l) (hhi:W5 env hi (n:Nat) h) (h0:0≤l) (h1:l≤h) (h2:h≤(c:Nat)) (h3:l<(c:Nat))
  (e1:off+l.toNat*ie.size=off') (e2:h.toNat - l.toNat=n') (e3:c - l.toNat=c'):QOp P o env S (.slice (some ⟨b,off',none⟩) n' c'):=by
 subst e1 e2 e3
 intro n' a w hf _
 have hk:=(hT _ _ ht).kind
 simp only [TK.ok] at hk
 have hsz:=Xe w (hT _ _ he)
 have hb:=Bb (P:=P) (w:=w) (b:=true) (len:=n) (cap:=c) hf hlo hhi h0 h1 h2 hnc
 have hne:¬ c=l.toNat:=by omega
 have hsl:(Instr.sliceAt t (.slice (some ⟨b,off,none⟩) n c) (lo.map a.eval) (hi.map a.eval) none).run P w=.ok (.slice (some ⟨b,off+l.toNat*ie.size,none⟩) (h.toNat - l.toNat) (c - l.toNat)) w:=by
  simp only [Instr.sliceAt,Sem.run_bind,Z2 w hk,Result.andThen_ok,Instr.slice]
  rw [hb]
  simp only [Result.andThen_ok,hsz,Sem.run_pure,hne,if_false,Option.map_some,Xg]
 simp only [execOp,ho,hf.eval hx,Option.map_none,Sem.run_bind,hsl,Result.andThen_ok,Sem.run_pure]
theorem Zms (hT:Yk P tt) {t e n c:Nat} {A:Option Addr} {x lo hi mx:Operand} {l h m:Int} {k1 k2 k3:IntKind} {z1 z2:Nat} {z:Value} {ie:TI} (ho:o.op=.slice t x (some lo) (some hi) (some mx)) (ht:find tt t=some ⟨.slice e,z1,z2,z⟩) (he:find tt e=some ie)
  (hx:Zq env x=some (.slice A n c)) (hnc:n≤c) (hlo:Zq env lo=some (.int k1 l)) (hhi:Zq env hi=some (.int k2 h)) (hmx:Zq env mx=some (.int k3 m)) (h0:0≤l) (h1:l≤h) (h2:h≤m) (h3:m≤(c:Nat)) :
  QOp P o env S (.slice (if m.toNat=l.toNat then A else A.map (·.add (l.toNat*ie.size))) (h.toNat - l.toNat) (m.toNat - l.toNat)):=by
 intro n' a w hf _
 have hk:=(hT _ _ ht).kind
 simp only [TK.ok] at hk
 have hsz:=Xe w (hT _ _ he)
 have b1:=Ve (P:=P) (w:=w) (k:=k1) (i:=l) (y:=h.toNat) (code:=.slice3C) (by omega) (by omega)
 have b2:=Ve (P:=P) (w:=w) (k:=k2) (i:=h) (y:=m.toNat) (code:=.slice3B) (by omega) (by omega)
 have b3:=Ve (P:=P) (w:=w) (k:=k3) (i:=m) (y:=c) (code:=.slice3Acap) (by omega) (by omega)
 have hsl:(Instr.sliceAt t (.slice A n c) (some (.int k1 l)) (some (.int k2 h)) (some (.int k3 m))).run P w=.ok (.slice (if m.toNat=l.toNat then A else A.map (·.add (l.toNat*ie.size))) (h.toNat - l.toNat) (m.toNat - l.toNat)) w:=by
  cases A <;> simp [Instr.sliceAt,Z2 w hk,Instr.slice,Instr.sliceBounds,b1,b2,b3,hsz]
 simp only [execOp,ho,hf.eval hx,hf.eval hlo,hf.eval hhi,hf.eval hmx,Option.map_some,Sem.run_bind,hsl,Result.andThen_ok,Sem.run_pure]
theorem V4 (hT:Yk P tt) {d s e b o1 n1 c1 n2 c2:Nat} {xa ya:Operand} {z1 z2:Nat} {z:Value} {ie:TI} {B:Option Addr} {cells cs:List Value} (k:Nat) (ho:o.op=.call { callee:=.builtin .copy,args:=#[xa,ya],argTypes:=#[d,s] })
  (hS:St w0 F0 Hs Rs w) (hk:nth Hs k=some (Yr b e cells)) (hx:Zq env xa=some (.slice (some ⟨b,o1,none⟩) n1 c1)) (hy:Zq env ya=some (.slice B n2 c2))
  (ht:find tt d=some ⟨.slice e,z1,z2,z⟩) (hi:find tt e=some ie) (hl:cs.length=min n2 n1*ie.size) (hle:o1+cs.length≤cells.length) (hsrc:Lies w B cs) (h1:∀ u∈cs,u.oneCell'=true) :
  OpT P o env w (fun _ w'=>St w0 F0 (Yr b e (Zy o1 cs cells) :: Hs.eraseIdx k) Rs w'):=
 OpT.value fun n a hf=>by
  have hkk:=(hT _ _ ht).kind
  simp only [TK.ok] at hkk
  obtain ⟨i0,hi0,hs0,hb0,hz0⟩:=(hT _ _ hi).info'
  obtain ⟨F,⟨hFb,hh⟩,hlt,hs⟩:=hS.turn hk
  have hst:=run_storeCells_at P b o1 e cs 0 cells.toArray w hh (by simp; omega) h1
  have hlist:cells.toArray.toList.take (o1+0) ++ cs ++ cells.toArray.toList.drop (o1+0+cs.length)=Zy o1 cs cells:=by simp [Zy]
  rw [hlist] at hst
  have hfc:(Builtin.firstCells ie.size (Nat.min n2 n1) (.slice B n2 c2)).run P w=.ok cs.toArray w:=J1 hsrc hl
  refine ⟨goInt (Nat.min n2 n1),w.setRow b (Zy o1 cs cells).toArray,?_,?_⟩
  ·simp [execOp,ho,resolve,invoke,builtin,hf.eval hx,hf.eval hy,Builtin.copy_,Z2 w hkk,Builtin.lenOf,sizeOf,typeInfo,hi0,hs0,hfc,hst]
  ·exact hs _ (Yr b e (Zy o1 cs cells)) F (X9 w b _ hFb) ⟨hFb,setRow_heap w b _ _ _ _ hh⟩ (fun c hc=>⟨.inl hc,by simpa using hlt c hc⟩)
theorem Zeu (hT:Yk P tt) {d e b n1 c1 n2 c2:Nat} {xa ya:Operand} {z1 z2:Nat} {z:Value} {ie:TI} {B:Option Addr} {cells cs:List Value} (k:Nat) (ho:o.op=.call { callee:=.builtin .append,args:=#[xa,ya],argTypes:=#[d,d] })
  (hS:St w0 F0 Hs Rs w) (hk:nth Hs k=some (Yr b e cells)) (hx:Zq env xa=some (.slice (some ⟨b,0,none⟩) n1 c1)) (hy:Zq env ya=some (.slice B n2 c2))
  (ht:find tt d=some ⟨.slice e,z1,z2,z⟩) (hi:find tt e=some ie) (hroom:n1+n2≤c1) (hl:cs.length=n2*ie.size) (hle:n1*ie.size+cs.length≤cells.length) (hsrc:Lies w B cs) (h1:∀ u∈cs,u.oneCell'=true) :
  OpT P o env w (fun v w'=>v=.slice (some ⟨b,0,none⟩) (n1+n2) c1∧St w0 F0 (Yr b e (Zy (n1*ie.size) cs cells) :: Hs.eraseIdx k) Rs w'):=
 OpT.value fun n a hf=>by
  have hkk:=(hT _ _ ht).kind
  simp only [TK.ok] at hkk
  obtain ⟨i0,hi0,hs0,hb0,hz0⟩:=(hT _ _ hi).info'
  obtain ⟨F,⟨hFb,hh⟩,hlt,hs⟩:=hS.turn hk
  have hst:=run_storeCells_at P b (n1*ie.size) e cs 0 cells.toArray w hh (by simp; omega) h1
  have hlist:cells.toArray.toList.take (n1*ie.size+0) ++ cs ++ cells.toArray.toList.drop (n1*ie.size+0+cs.length)=Zy (n1*ie.size) cs cells:=by simp [Zy]
  rw [hlist] at hst
  have hfc:(Builtin.firstCells ie.size n2 (.slice B n2 c2)).run P w=.ok cs.toArray w:=J1 hsrc hl
  have hadd:(⟨b,0,none⟩:Addr).add (n1*ie.size)=⟨b,n1*ie.size,none⟩:=by rw [Xg]; simp
  refine ⟨.slice (some ⟨b,0,none⟩) (n1+n2) c1,w.setRow b (Zy (n1*ie.size) cs cells).toArray,?_,rfl,?_⟩
  ·simp [execOp,ho,resolve,invoke,builtin,hf.eval hx,hf.eval hy,Builtin.append_,Z2 w hkk,Builtin.lenOf,sizeOf,typeInfo,hi0,hs0,hfc,hst,hroom,hadd]
  ·exact hs _ (Yr b e (Zy (n1*ie.size) cs cells)) F (X9 w b _ hFb) ⟨hFb,setRow_heap w b _ _ _ _ hh⟩ (fun c hc=>⟨.inl hc,by simpa using hlt c hc⟩)
theorem Za5 (hT:Yk P tt) {d e b o1 n1 c1:Nat} {xa:Operand} {z1 z2:Nat} {z:Value} {ie:TI} {ty:Ty} (hsc:ty.scal=true) {cells:List Value} (z0:ty.D) (k:Nat) (ho:o.op=.call { callee:=.builtin .clear,args:=#[xa],argTypes:=#[d] })
  (hS:St w0 F0 Hs Rs w) (hk:nth Hs k=some (Yr b e cells)) (hx:Zq env xa=some (.slice (some ⟨b,o1,none⟩) n1 c1))
  (ht:find tt d=some ⟨.slice e,z1,z2,z⟩) (hi:find tt e=some ie) (hz:ie.zero.cells.toList=ty.enc z0) (hn0:n1≠0) (hle:o1+n1*ty.n≤cells.length) :
  OpT P o env w (fun _ w'=>St w0 F0 (Yr b e (Zy o1 ((List.replicate n1 z0).flatMap ty.enc) cells) :: Hs.eraseIdx k) Rs w'):=
 OpT.value fun n a hf=>by
  have hkk:=(hT _ _ ht).kind
  simp only [TK.ok] at hkk
  obtain ⟨i0,hi0,hs0,hb0,hz0⟩:=(hT _ _ hi).info'
  obtain ⟨F,⟨hFb,hh⟩,hlt,hs⟩:=hS.turn hk
  have hzc:=Ba hz n1
  have hll:((List.replicate n1 z0).flatMap ty.enc).length=n1*ty.n:=by rw [Yw hsc,List.length_replicate]
  have hst:=run_storeCells_at P b o1 e ((List.replicate n1 z0).flatMap ty.enc) 0 cells.toArray w hh (by rw [hll]; simp; omega) (Vv hsc _)
  have hlist:cells.toArray.toList.take (o1+0) ++ ((List.replicate n1 z0).flatMap ty.enc) ++ cells.toArray.toList.drop (o1+0+((List.replicate n1 z0).flatMap ty.enc).length)=Zy o1 ((List.replicate n1 z0).flatMap ty.enc) cells:=by simp [Zy]
  rw [hlist,← hzc] at hst
  refine ⟨.tuple #[],w.setRow b (Zy o1 ((List.replicate n1 z0).flatMap ty.enc) cells).toArray,?_,?_⟩
  ·obtain ⟨m,rfl⟩:∃ m,n1=m+1:=⟨n1 - 1,by omega⟩
   simp [execOp,ho,resolve,invoke,builtin,hf.eval hx,Builtin.clear_,Z2 w hkk,zeroValue,typeInfo,hi0,hz0,hst]
   rw [hzc]
  ·exact hs _ (Yr b e (Zy o1 ((List.replicate n1 z0).flatMap ty.enc) cells)) F (X9 w b _ hFb) ⟨hFb,setRow_heap w b _ _ _ _ hh⟩ (fun c hc=>⟨.inl hc,by simpa using hlt c hc⟩)
theorem Zgz (hT:Yk P tt) {t ti e b i c:Nat} {xa ya:Operand} {z1 z2 z3 z4:Nat} {z zi:Value} {ki kx:IntKind} {ie:TI} {cells:List Value} {m:Int} (k:Nat) (ho:o.op=.call { callee:=.builtin .append,args:=#[xa,ya],argTypes:=#[t,ti] })
  (hS:St w0 F0 Hs Rs w) (hk:nth Hs k=some (Yr b e cells)) (hx:Zq env xa=some (.slice (some ⟨b,0,none⟩) i c)) (hy:Zq env ya=some (.int kx m))
  (ht:find tt t=some ⟨.slice e,z1,z2,z⟩) (hti:find tt ti=some ⟨.int ki,z3,z4,zi⟩) (hi:find tt e=some ie) (hz:ie.zero.cells.toList.length=ie.size) (hpos:0<ie.size) (hby:0<ie.bytes) (h0:0<m) (hgr:(c:Int)<i+m) (hle:i*ie.size≤cells.length) (hl:((i:Int)+m)*ie.bytes≤140737488355328) :
  OpT P o env w (fun v' w'=>∃ b' cap tail,v'=.slice (some ⟨b',0,none⟩) (i+m.toNat) cap∧i+m.toNat≤cap∧cap≤maxLen∧tail.length=(cap - i)*ie.size∧St w0 F0 (Yr b' e (cells.take (i*ie.size) ++ tail) :: Hs) Rs w'):=
 OpT.value fun n a hf=>by
  have hkk:=(hT _ _ ht).kind
  have hki:=(hT _ _ hti).kind
  simp only [TK.ok] at hkk hki
  obtain ⟨i0,hi0,hs0,hb0,hz0⟩:=(hT _ _ hi).info'
  obtain ⟨F,⟨hFb,hh⟩,hlt,hs⟩:=hS.turn hk
  obtain ⟨m,rfl⟩:=Int.eq_ofNat_of_zero_le (show 0≤m by omega)
  have hm0:m≠0:=by omega
  have hbytes:(i+m)*ie.bytes≤140737488355328:=by
   have:(((i+m:Nat):Int))*(ie.bytes:Int)≤140737488355328:=by rw [Int.natCast_add]; exact hl
   rw [← Int.natCast_mul] at this
   omega
  have hle1:i+m≤140737488355328:=Nat.le_trans (Nat.le_mul_of_pos_right _ hby) hbytes
  have hw:IntKind.i64.wrap (m:Int)=m:=by rw [IntKind.wrap_i64]; omega
  have hneg:¬ ((m:Int)<0):=by omega
  have hmb:m*ie.bytes≤140737488355328:=Nat.le_trans (Nat.mul_le_mul_right _ (Nat.le_add_left m i)) hbytes
  have hbig:¬ (281474976710656<(m:Int)*(ie.bytes:Int)):=by
   rw [← Int.natCast_mul]
   omega
  have hmz:¬ (m*ie.size=0):=Nat.mul_ne_zero hm0 (by omega)
  have hcap:c<i+m:=by omega
  have hn:¬ (i+m≤c):=by omega
  have h63':¬ (9223372036854775807<((i:Int)+(m:Int))):=by omega
  have hfit:=growslice_fits hcap hbytes
  have h48':¬ (281474976710656<Builtin.nextslicecap (i+m) c*ie.bytes):=by omega
  have hlies:=(Gn hh 0).take (i*ie.size)
  simp only [List.drop_zero] at hlies
  have hd:Lies w.drew (some ⟨b,0,none⟩) (cells.take (i*ie.size)):=hlies
  have hfo:(Builtin.firstCells ie.size i (.slice (some ⟨b,0,none⟩) i c)).run P w.drew=.ok (cells.take (i*ie.size)).toArray w.drew:=J1 hd (by rw [List.length_take]; omega)
  have hge:=grownCap_ge w (i+m) c e
  have hcm:grownCap w (i+m) c e≤maxLen:=grownCap_le_maxLen w (i+m) c e (by simp only [maxLen]; omega)
  have hzl:ie.zero.cells.size=ie.size:=by simpa using hz
  refine ⟨.slice (some ⟨w.heap.size,0,none⟩) (i+m) (grownCap w (i+m) c e),w.drew.alloc (.cells ((cells.take (i*ie.size)).toArray ++ Builtin.zeroCells ie.zero.cells m ++ Builtin.zeroCells ie.zero.cells (grownCap w (i+m) c e - (i+m))) e),?_,w.heap.size,grownCap w (i+m) c e,(Builtin.zeroCells ie.zero.cells m).toList ++ (Builtin.zeroCells ie.zero.cells (grownCap w (i+m) c e - (i+m))).toList,rfl,hge,hcm,?_,?_⟩
  ·simp [execOp,ho,resolve,invoke,builtin,hf.eval hx,hf.eval hy,Builtin.append_,Z2 w hkk,Z2 w hki,sizeOf,typeInfo,zeroValue,hi0,hs0,hb0,hz0,asInt,asIntOf,hw,hneg,hbig,hn,h63',h48',Question.forced,hfo,newRow,grownCap,hmz]
  ·rw [List.length_append,Array.length_toList,Array.length_toList,size_zeroCells,size_zeroCells,hzl,← Nat.add_mul]
   congr 1
   omega
  ·have h:=hS.drew.box e ((cells.take (i*ie.size)).toArray ++ Builtin.zeroCells ie.zero.cells m ++ Builtin.zeroCells ie.zero.cells (grownCap w (i+m) c e - (i+m)))
   simp only [Array.toList_append,List.append_assoc] at h ⊢
   exact h
def Ov (P:Program) (f d:Nat):Prop:=∃ rs,∀ x y w,(callFunc f #[x,y]).run P w=(do pure (Next.value (← Extern.SlicesOverlaps.overlaps #[d,d] rs #[x,y])):Sem Next).run P w
theorem Ov.of {f d : Nat} {fn : Func} {rs : Array TypeId} (hf : P.funcs[f]? = some fn) (hn : (fn.name == "runtime.NumGoroutine") = false) (hb : fn.body.isNone = true) (h1 : (Extern.findNext fn).isNone = true)
  (h2:Extern.find fn=some (Extern.SlicesOverlaps.overlaps #[d,d] rs)):Ov P f d:=⟨rs,fun x y w=>by
 have hn' : ¬ fn.name = "runtime.NumGoroutine" := by simpa using hn
 have hb':fn.body=none:=by simpa using hb
 have h1':Extern.findNext fn=none:=by simpa using h1
 simp [callFunc,hf,hn',hb',h1',h2]⟩
theorem Zd4 {d e:Nat} {rs:Array TypeId} {size:Nat} (hu:P.underlying d=some (.slice e)) (hz:∀ w,(sizeOf e).run P w=.ok size w) (a b:Addr) (la ca lb cb:Nat) (h0:la=0) :
  (Extern.SlicesOverlaps.overlaps #[d,d] rs #[.slice (some a) la ca,.slice (some b) lb cb]).run P w=.ok (.bool false) w:=by
 change Sem.run P (α:=Value) (do
  let some t := (#[d, d] : Array TypeId)[0]? | stuck "slices.overlaps: no parameter types"
  let .slice elem ← underlying t | stuck "slices.overlaps: slice type expected"
  let size ← sizeOf elem
  match (some a:Option Addr),(some b:Option Addr) with
  | some a,some b=>
   if la=0∨lb=0∨size=0 then pure (Value.bool false)
   else if a.block != b.block && (← frozen a) && (← frozen b) then unsupported .addressObserved
   else do
    if a.block != b.block then do
     noView a; noView b
     if ← mayBeOne a b then return Value.bool ((← choose (.extern "sameAddr.stringBytes" 2)) == 1)
    pure (Value.bool (a.block == b.block && a.off<b.off+lb*size && b.off<a.off+la*size))
  | _,_=>pure (Value.bool false)) w=_
 simp [Z2 w hu,hz,h0]
theorem Zff {d e:Nat} {rs:Array TypeId} {size:Nat} (hu:P.underlying d=some (.slice e)) (hz:∀ w,(sizeOf e).run P w=.ok size w) (a b:Addr) (la ca lb cb:Nat) (hne:a.block≠b.block) {tA:TypeId} {kA:Nat} (hsa:w.shape? a.block=some (tA,kA+1)) {cur:Array Value} {tB:TypeId} (hb:w.heap[b.block]?=some (.cells cur tB (0,0))) :
  (Extern.SlicesOverlaps.overlaps #[d,d] rs #[.slice (some a) la ca,.slice (some b) lb cb]).run P w=.ok (.bool false) w:=by
 have hnb:(a.block != b.block)=true:=by simpa using hne
 have hnb':(a.block == b.block)=false:=by simpa using hne
 have hsb:w.shape? b.block=some (tB,cur.size):=by simp [World.shape?,hb]
 have hfb:∀ o,w.frozen? ⟨b.block,o,none⟩=false:=fun o=>by simp [World.frozen?,hb]
 have hfb':w.frozen? b=false:=by simp [World.frozen?,hb]
 change Sem.run P (α:=Value) (do
  let some t := (#[d, d] : Array TypeId)[0]? | stuck "slices.overlaps: no parameter types"
  let .slice elem ← underlying t | stuck "slices.overlaps: slice type expected"
  let size ← sizeOf elem
  match (some a:Option Addr),(some b:Option Addr) with
  | some a,some b=>
   if la=0∨lb=0∨size=0 then pure (Value.bool false)
   else if a.block != b.block && (← frozen a) && (← frozen b) then unsupported .addressObserved
   else do
    if a.block != b.block then do
     noView a; noView b
     if ← mayBeOne a b then return Value.bool ((← choose (.extern "sameAddr.stringBytes" 2)) == 1)
    pure (Value.bool (a.block == b.block && a.off<b.off+lb*size && b.off<a.off+la*size))
  | _,_=>pure (Value.bool false)) w=_
 by_cases h0:la=0∨lb=0∨size=0
 ·simp [Z2 w hu,hz,h0]
 ·cases hfa:w.frozen? a <;> cases hfe:w.frozen? { block:=a.block,off:=kA+1 } <;> simp [Z2 w hu,hz,h0,hnb,hnb',frozen,noView,viewAt,mayBeOne,stringish,shape,Sem.run,hsa,hsb,hfa,hfe,hfb,hfb']
theorem Zgx (hT:Yk P tt) {d e b o1 n1 c1 m c f:Nat} {fx:Operand} {xs:Array Operand} {ts:Array TypeId} {z1 z2:Nat} {z:Value} {ie:TI} {ty:Ty} (hsc:ty.scal=true) {ys:List ty.D} {B:Option Addr} {cells:List Value} (k:Nat)
  (hov:Ov P f d) (ho:o.op=.call { callee:=.value fx,args:=xs,argTypes:=ts }) (hfx:Zq env fx=some (.func (.func f) #[] #[])) (hv:Yv env xs.toList=some [.slice B m c,.slice (some ⟨b,o1,none⟩) n1 c1])
  (hS:St w0 F0 Hs Rs w) (hk:nth Hs k=some (Yr b e cells)) (hg:Gives (Hs.eraseIdx k ++ Rs) (rdC e ty ys (.slice B m c))) (ht:find tt d=some ⟨.slice e,z1,z2,z⟩) (hi:find tt e=some ie) (hpos:0<ty.n):QOp P o env (fun w'=>w'=w) (.bool false):=by
 rintro n ac w' hf rfl
 obtain ⟨rs,hov⟩:=hov
 have hkk:=(hT _ _ ht).kind
 simp only [TK.ok] at hkk
 have hz:∀ w,(sizeOf e).run P w=.ok ie.size w:=fun w=>Xe w (hT _ _ hi)
 have hm:xs.map ac.eval=#[.slice B m c,.slice (some ⟨b,o1,none⟩) n1 c1]:=Wb hf hv
 have main:(Extern.SlicesOverlaps.overlaps #[d,d] rs #[.slice B m c,.slice (some ⟨b,o1,none⟩) n1 c1]).run P w'=.ok (.bool false) w':=by
  have hpk:pick [k] Hs=some ([Yr b e cells],Hs.eraseIdx k):=by simp [pick,hk]
  obtain ⟨F,hF,hlt,hgv,hst⟩:=hS.step hpk
  obtain ⟨F1,F2,⟨hb,hh⟩,_,h3,_⟩:=hF
  obtain ⟨R,hR,hRb⟩:=hgv _ hg
  obtain ⟨rfl,hl,hRB⟩:=Gg hsc hR
  cases B with
  | none=>
   change Sem.run P (α:=Value) (do
    let some t := (#[d, d] : Array TypeId)[0]? | stuck "slices.overlaps: no parameter types"
    let .slice elem ← underlying t | stuck "slices.overlaps: slice type expected"
    let size ← sizeOf elem
    pure (Value.bool false)) w'=_
   simp [Z2 w' hkk,hz]
  | some ad=>
   cases ys with
   | nil=>
    exact Zd4 hkk hz _ _ _ _ _ _ rfl
   | cons y ys=>
    have hne:(y :: ys).flatMap ty.enc≠[]:=by
     intro h
     have:=Yw hsc (y :: ys)
     rw [h,List.length_nil,List.length_cons,Nat.add_mul] at this
     omega
    rcases hl with hl | ⟨b',off,he,hl⟩
    ·exact absurd hl hne
    ·simp only [Option.some.injEq] at he
     subst he
     have hnb:b'≠b:=fun e=>(hRb b' (hRB b' off rfl (by simp))).2 (by rw [e]; exact (h3 b hb).1)
     obtain ⟨u,hu⟩:∃ u,((y :: ys).flatMap ty.enc)[0]?=some u:=by
      cases hq:(y :: ys).flatMap ty.enc with
      | nil=>exact absurd hq hne
      | cons u r=>exact ⟨u,rfl⟩
     have hc:=hl 0 u hu
     have hsh:∃ t kk,w'.shape? b'=some (t,kk+1):=by
      simp only [World.cell?] at hc
      split at hc
      ·rename_i cs t fr hcs
       refine ⟨t,cs.size - 1,?_⟩
       have hlt:off+0<cs.size:=(Array.getElem?_eq_some_iff.1 hc).1
       simp only [World.shape?,hcs]
       congr 2
       omega
      ·cases hc
     obtain ⟨t,kk,hsh⟩:=hsh
     exact Zff hkk hz ⟨b',off,none⟩ ⟨b,o1,none⟩ _ _ _ _ hnb hsh hh
 have hrun:=hov (.slice B m c) (.slice (some ⟨b,o1,none⟩) n1 c1) w'
 simp [execOp,ho,resolve,hf.eval hfx,Deferred.ofValue,invoke,hm,hrun,main]
end
end Go.SK
