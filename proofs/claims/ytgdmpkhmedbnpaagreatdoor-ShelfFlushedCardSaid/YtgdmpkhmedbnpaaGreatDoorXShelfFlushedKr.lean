/- Part of the library of this claim: how code is stepped through. -/
import Derived.Test.YtgdmpkhmedbnpaaGreatDoorXShelfFlushedKq
import Derived.Laws.Externs
set_option linter.unusedVariables false
set_option linter.unusedSimpArgs false
namespace Go.SK
open Go Go.RowKit

section
variable {α:Type}
end
section
variable {P:Program} {tt:TT} {env:Env} {S:World→Prop} {o:Oper} {w0 w:World} {F0:Ft} {Hs Rs:List Ch}
theorem St.openRow {e:Nat} {ty:Ty} (hsc:ty.scal=true) {xs:List ty.D} {A:Option Addr} {n c:Nat} (k:Nat) (hS:St w0 F0 Hs Rs w) (hk:nth Hs k=some (Yh e ty xs (.slice A n c))) :
  (A=none∧xs=[]∧c=0)∨∃ b sp,A=some ⟨b,0,none⟩∧xs.length≤c∧c≤maxLen∧sp.length=(c - xs.length)*ty.n∧St w0 F0 (Ys b e (xs.flatMap ty.enc ++ sp) :: Hs.eraseIdx k) Rs w:=by
 obtain ⟨F,⟨inner,F',hown,hel,hF'1,hF'2⟩,hlt,hs⟩:=hS.turn hk
 have hin:=Vi hsc hel
 subst hin
 rcases hown.2 with ⟨hv,hz⟩ | ⟨g,cap,cur,hv,hb,hg,hnc,hcm,hcs,htk⟩
 ·simp only [Value.slice.injEq] at hv
  obtain ⟨rfl,_,rfl⟩:=hv
  exact .inl ⟨rfl,List.eq_nil_of_length_eq_zero hz,rfl⟩
 ·simp only [Value.slice.injEq] at hv
  obtain ⟨rfl,rfl,rfl⟩:=hv
  refine .inr ⟨g,cur.toList.drop (xs.length*ty.n),rfl,hnc,hcm,?_,hs w _ F (Chg.refl _ _) ⟨(hF'2 g rfl).1,?_⟩ fun b hb=>⟨.inl hb,hlt b hb⟩⟩
  ·rw [List.length_drop,Array.length_toList,hcs,Nat.sub_mul]
  ·rw [hg,← htk,List.take_append_drop]
theorem St.closeRow {e b:Nat} {ty:Ty} (hsc:ty.scal=true) {ys:List ty.D} {L:List Value} {c:Nat} (k:Nat) (hS:St w0 F0 Hs Rs w) (hk:nth Hs k=some (Ys b e L)) (hle:ys.length≤c) (hcm:c≤maxLen) (hL:L.length=c*ty.n) (ht:L.take (ys.length*ty.n)=ys.flatMap ty.enc) :
  St w0 F0 (Yh e ty ys (.slice (some ⟨b,0,none⟩) ys.length c) :: Hs.eraseIdx k) Rs w:=by
 obtain ⟨F,⟨hFb,hh⟩,hlt,hs⟩:=hS.turn hk
 refine hs w _ F (Chg.refl _ _) ⟨ys.flatMap ty.enc,fun _=>False,?_,Elems.scal hsc _ _ _,fun b hb=>hb.elim,?_⟩ fun b hb=>⟨.inl hb,hlt b hb⟩
 ·exact ⟨Y4 hsc ys,.inr ⟨b,c,L.toArray,rfl,Nat.zero_le _,hh,hle,hcm,by simpa using hL,by simpa using ht⟩⟩
 ·intro g hg
  simp only [Value.ownBlock,Option.some.injEq] at hg
  subst hg
  exact ⟨hFb,fun h=>h⟩
theorem Ge {ty:Ty} (hsc:ty.scal=true) (xs:List ty.D) (i:Nat):(xs.flatMap ty.enc).take (i*ty.n)=(xs.take i).flatMap ty.enc:=by
 rcases Nat.lt_or_ge xs.length i with h | h
 ·rw [List.take_of_length_le (by rw [Y4 hsc]; exact Nat.mul_le_mul_right _ (by omega)),List.take_of_length_le (by omega)]
 ·have e:xs.flatMap ty.enc=(xs.take i).flatMap ty.enc ++ (xs.drop i).flatMap ty.enc:=by rw [← List.flatMap_append,List.take_append_drop]
  have l:((xs.take i).flatMap ty.enc).length=i*ty.n:=by rw [Y4 hsc,List.length_take,Nat.min_eq_left h]
  rw [e,← l,List.take_left]
theorem Zd2 {ty:Ty} (hsc:ty.scal=true) (xs:List ty.D) (i:Nat):(xs.flatMap ty.enc).drop (i*ty.n)=(xs.drop i).flatMap ty.enc:=by
 rcases Nat.lt_or_ge xs.length i with h | h
 ·rw [List.drop_of_length_le (by rw [Y4 hsc]; exact Nat.mul_le_mul_right _ (by omega)),List.drop_of_length_le (by omega)]; rfl
 ·have e:xs.flatMap ty.enc=(xs.take i).flatMap ty.enc ++ (xs.drop i).flatMap ty.enc:=by rw [← List.flatMap_append,List.take_append_drop]
  have l:((xs.take i).flatMap ty.enc).length=i*ty.n:=by rw [Y4 hsc,List.length_take,Nat.min_eq_left h]
  rw [e,← l,List.drop_left]
def Lies (w:World) (A:Option Addr) (cs:List Value):Prop:=cs=[]∨∃ b off,A=some ⟨b,off,none⟩∧∀ j u,cs[j]?=some u→w.cell? ⟨b,off+j,none⟩=some u
theorem Zic {E:Nat} {ty:Ty} (hsc:ty.scal=true) {xs:List ty.D} {A:Option Addr} {n c:Nat} {F:Nat→Prop} (h:(rdC E ty xs (.slice A n c)).ok w F):n=xs.length∧Lies w A (xs.flatMap ty.enc)∧∀ b off,A=some ⟨b,off,none⟩→xs≠[]→F b:=by
 obtain ⟨A',c',he,hle,hr⟩:=h
 simp only [List.cons.injEq,and_true,Value.slice.injEq] at he
 obtain ⟨rfl,rfl,rfl⟩:=he
 refine ⟨rfl,?_,?_⟩
 ·rcases hr with rfl | ⟨b,off,inn,rfl,hb,he,hc⟩
  ·exact .inl rfl
  ·rw [Vi hsc he] at hc
   exact .inr ⟨b,off,rfl,hc⟩
 ·rintro b off rfl hne
  rcases hr with rfl | ⟨b',off',inn,he,hb,_⟩
  ·exact absurd rfl hne
  ·simp only [Option.some.injEq,Addr.mk.injEq,and_true] at he
   rw [he.1]; exact hb
theorem Lies.take {A:Option Addr} {cs:List Value} (h:Lies w A cs) (m:Nat):Lies w A (cs.take m):=by
 rcases h with rfl | ⟨b,off,e,h⟩
 ·exact .inl (by simp)
 ·refine .inr ⟨b,off,e,fun j u hj=>h j u ?_⟩
  rw [List.getElem?_take] at hj
  split at hj
  ·exact hj
  ·cases hj
theorem Zed {A:Option Addr} {cs:List Value} (h:Lies w A cs) {size m n c:Nat} (hl:cs.length=m*size):(Builtin.firstCells size m (.slice A n c)).run P w=.ok cs.toArray w:=by
 rcases h with rfl | ⟨b,off,rfl,h⟩
 ·have hz:m*size=0:=by simpa using hl.symm
  cases A with
  | none=>simp [Builtin.firstCells]
  | some ad=>simp [Builtin.firstCells,hz,loadCells,loadCellsFrom]
 ·exact run_firstCells_some (P:=P) w size m ⟨b,off,none⟩ n c cs hl (fun j u hj=>by rw [Wl]; exact h j u hj)
theorem Zjh (hT:Yr P tt) {d s e b o1 n1 c1 n2 c2:Nat} {xa ya:Operand} {z1 z2:Nat} {z:Value} {ie:TI} {B:Option Addr} {cells cs:List Value} (k:Nat) (ho:o.op=.call { callee:=.builtin .copy,args:=#[xa,ya],argTypes:=#[d,s] })
  (hS:St w0 F0 Hs Rs w) (hk:nth Hs k=some (Ys b e cells)) (hx:Zr env xa=some (.slice (some ⟨b,o1,none⟩) n1 c1)) (hy:Zr env ya=some (.slice B n2 c2))
  (ht:find tt d=some ⟨.slice e,z1,z2,z⟩) (hi:find tt e=some ie) (hl:cs.length=min n2 n1*ie.size) (hle:o1+cs.length≤cells.length) (hsrc:Lies w B cs) (h1:∀ u∈cs,u.oneCell'=true) :
  OpT P o env w (fun _ w'=>St w0 F0 (Ys b e (Z6 o1 cs cells) :: Hs.eraseIdx k) Rs w'):=
 OpT.value fun n a hf=>by
  have hkk:=(hT _ _ ht).kind
  simp only [TK.ok] at hkk
  obtain ⟨i0,hi0,hs0,hb0,hz0⟩:=(hT _ _ hi).info'
  obtain ⟨F,⟨hFb,hh⟩,hlt,hs⟩:=hS.turn hk
  have hst:=run_storeCells_at P b o1 e cs 0 cells.toArray w hh (by simp; omega) h1
  have hlist:cells.toArray.toList.take (o1+0) ++ cs ++ cells.toArray.toList.drop (o1+0+cs.length)=Z6 o1 cs cells:=by simp [Z6]
  rw [hlist] at hst
  have hfc:(Builtin.firstCells ie.size (Nat.min n2 n1) (.slice B n2 c2)).run P w=.ok cs.toArray w:=Zed hsrc hl
  refine ⟨goInt (Nat.min n2 n1),w.setRow b (Z6 o1 cs cells).toArray,?_,?_⟩
  ·simp [execOp,ho,resolve,invoke,builtin,hf.eval hx,hf.eval hy,Builtin.copy_,Z0 w hkk,Builtin.lenOf,sizeOf,typeInfo,hi0,hs0,hfc,hst]
  ·exact hs _ (Ys b e (Z6 o1 cs cells)) F (W5 w b _ hFb) ⟨hFb,setRow_heap w b _ _ _ _ hh⟩ (fun c hc=>⟨.inl hc,by simpa using hlt c hc⟩)
theorem Zhp (hT:Yr P tt) {d e b o1 n1 c1:Nat} {xa:Operand} {z1 z2:Nat} {z:Value} {ie:TI} {ty:Ty} (hsc:ty.scal=true) {cells:List Value} (z0:ty.D) (k:Nat) (ho:o.op=.call { callee:=.builtin .clear,args:=#[xa],argTypes:=#[d] })
  (hS:St w0 F0 Hs Rs w) (hk:nth Hs k=some (Ys b e cells)) (hx:Zr env xa=some (.slice (some ⟨b,o1,none⟩) n1 c1))
  (ht:find tt d=some ⟨.slice e,z1,z2,z⟩) (hi:find tt e=some ie) (hz:ie.zero.cells.toList=ty.enc z0) (hn0:n1≠0) (hle:o1+n1*ty.n≤cells.length) :
  OpT P o env w (fun _ w'=>St w0 F0 (Ys b e (Z6 o1 ((List.replicate n1 z0).flatMap ty.enc) cells) :: Hs.eraseIdx k) Rs w'):=
 OpT.value fun n a hf=>by
  have hkk:=(hT _ _ ht).kind
  simp only [TK.ok] at hkk
  obtain ⟨i0,hi0,hs0,hb0,hz0⟩:=(hT _ _ hi).info'
  obtain ⟨F,⟨hFb,hh⟩,hlt,hs⟩:=hS.turn hk
  have hzc:=Bf hz n1
  have hll:((List.replicate n1 z0).flatMap ty.enc).length=n1*ty.n:=by rw [Y4 hsc,List.length_replicate]
  have hst:=run_storeCells_at P b o1 e ((List.replicate n1 z0).flatMap ty.enc) 0 cells.toArray w hh (by rw [hll]; simp; omega) (G9 hsc _)
  have hlist:cells.toArray.toList.take (o1+0) ++ ((List.replicate n1 z0).flatMap ty.enc) ++ cells.toArray.toList.drop (o1+0+((List.replicate n1 z0).flatMap ty.enc).length)=Z6 o1 ((List.replicate n1 z0).flatMap ty.enc) cells:=by simp [Z6]
  rw [hlist,← hzc] at hst
  refine ⟨.tuple #[],w.setRow b (Z6 o1 ((List.replicate n1 z0).flatMap ty.enc) cells).toArray,?_,?_⟩
  ·obtain ⟨m,rfl⟩:∃ m,n1=m+1:=⟨n1 - 1,by omega⟩
   simp [execOp,ho,resolve,invoke,builtin,hf.eval hx,Builtin.clear_,Z0 w hkk,zeroValue,typeInfo,hi0,hz0,hst]
   rw [hzc]
  ·exact hs _ (Ys b e (Z6 o1 ((List.replicate n1 z0).flatMap ty.enc) cells)) F (W5 w b _ hFb) ⟨hFb,setRow_heap w b _ _ _ _ hh⟩ (fun c hc=>⟨.inl hc,by simpa using hlt c hc⟩)
def Ov (P:Program) (f d:Nat):Prop:=∃ rs,∀ x y w,(callFunc f #[x,y]).run P w=(do pure (Next.value (← Extern.SlicesOverlaps.overlaps #[d,d] rs #[x,y])):Sem Next).run P w
theorem Ov.of {f d : Nat} {fn : Func} {rs : Array TypeId} (hf : P.funcs[f]? = some fn) (hn : (fn.name == "runtime.NumGoroutine") = false) (hb : fn.body.isNone = true) (h1 : (Extern.findNext fn).isNone = true)
  (h2:Extern.find fn=some (Extern.SlicesOverlaps.overlaps #[d,d] rs)):Ov P f d:=⟨rs,fun x y w=>by
 have hn' : ¬ fn.name = "runtime.NumGoroutine" := by simpa using hn
 have hb':fn.body=none:=by simpa using hb
 have h1':Extern.findNext fn=none:=by simpa using h1
 simp [callFunc,hf,hn',hb',h1',h2]⟩
end
end Go.SK
