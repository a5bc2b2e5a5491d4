/- Part of the library of this claim: how code is stepped through. -/
import Derived.Test.YtgdmpkhmedbnpaaGreatDoorXScanNoneKk
set_option linter.unusedVariables false
set_option linter.unusedSimpArgs false
namespace Go.SK
open Go Go.RowKit

section
variable {P:Program} {tt:TT} {env:Env} {o:Oper} {w0 w:World} {F0:Ft} {Hs Rs:List Ch}
theorem St.nilrow {E:Nat} {t:Ty} {xs:List t.D} {A:Option Addr} {n c:Nat} (h:St w0 F0 Hs Rs w) (hg:Gives (Hs ++ Rs) (rdC E t xs (.slice A n c))) (hA:A.isNone=true):xs=[]:=by
 obtain ⟨F,hF,_⟩:=h.gives hg
 obtain ⟨A',c',e,_,hr⟩:=hF
 simp only [List.cons.injEq,and_true,Value.slice.injEq] at e
 obtain ⟨rfl,_,_⟩:=e
 rcases hr with hr | ⟨b,off,inner,hA',_⟩
 ·exact hr
 ·rw [hA'] at hA; cases hA
theorem J.envEq {n:Nat} {c:Code} {PQ:Xd} {env env':Env} (he:env'=env) (h:J P n c PQ env' w):J P n c PQ env w:=he ▸ h
theorem W4 {ty:Ty} (hsc:ty.scal=true) {w:World} {F:Nat→Prop}:∀ {xs:List ty.D} {inner:List Value},Elems (ty.ok w F) xs inner→inner=xs.flatMap ty.enc
 | [],inner,h=>by simpa [Elems] using h
 | x :: xs,inner,⟨c1,r,e,h1,h2⟩=>by
  have hfl:ty.flat=true:=by
   have:∀ t:Ty,t.scal=true→t.flat=true:=by
    intro t
    induction t with
    | pair a b iha ihb=>intro h; simp only [Ty.scal,Bool.and_eq_true] at h; simp only [Ty.flat,Bool.and_eq_true]; exact ⟨iha h.1,ihb h.2⟩
    | _=>intro h; first | rfl | cases h
   exact this ty hsc
  rw [e,ty.ok_enc hfl h1,W4 hsc h2]; simp
theorem Jm {ty:Ty} (hsc:ty.scal=true) (x:ty.D):(ty.enc x).length=ty.n:=ty.ok_len (ty.ok_scal hsc default (fun _=>False) x)
theorem Yw {ty:Ty} (hsc:ty.scal=true):∀ xs:List ty.D,(xs.flatMap ty.enc).length=xs.length*ty.n
 | []=>by simp
 | x :: xs=>by simp [Jm hsc,Yw hsc xs,Nat.add_mul,Nat.add_comm]
theorem Zgh {ty:Ty} (hsc:ty.scal=true):∀(xs:List ty.D) (i f:Nat) (vs:List Value) (x new:ty.D) (rest:List Value),xs[i]?=some x→f+vs.length≤ty.n→Zy f vs (ty.enc x)=ty.enc new→
  (xs.flatMap ty.enc ++ rest).take (i*ty.n+f) ++ vs ++ (xs.flatMap ty.enc ++ rest).drop (i*ty.n+f+vs.length)=(xs.set i new).flatMap ty.enc ++ rest
 | [],i,f,vs,x,new,rest,h,_,_=>by simp at h
 | y :: xs,0,f,vs,x,new,rest,h,hf,hl=>by
  simp only [List.getElem?_cons_zero,Option.some.injEq] at h
  subst h
  have hy:=Jm hsc y
  simp only [List.flatMap_cons,List.set_cons_zero,Nat.zero_mul,Nat.zero_add,List.append_assoc]
  rw [← hl]
  simp only [Zy]
  rw [List.take_append_of_le_length (by omega),List.drop_append_of_le_length (by omega)]
  simp
 | y :: xs,i+1,f,vs,x,new,rest,h,hf,hl=>by
  have hy:=Jm hsc y
  have ih:=Zgh hsc xs i f vs x new rest (by simpa using h) hf hl
  simp only [List.flatMap_cons,List.set_cons_succ,List.append_assoc]
  rw [show (i+1)*ty.n+f=(ty.enc y).length+(i*ty.n+f) by rw [hy,Nat.succ_mul]; omega,show (ty.enc y).length+(i*ty.n+f)+vs.length=(ty.enc y).length+(i*ty.n+f+vs.length) by omega]
  rw [List.take_length_add_append,List.drop_length_add_append,← ih]
  simp
theorem Zd0 (hT:Yk P tt) {t e f sz c:Nat} {x y:Operand} {i:TI} {ty:Ty} [Inhabited ty.D] (hsc:ty.scal=true) {xs:List ty.D} {A:Option Addr} {ix:Int} {v:Value} (new:ty.D) (k:Nat) (ho:o.op=.store t x y) (hS:St w0 F0 Hs Rs w)
  (hk:nth Hs k=some (Yg e ty xs (.slice A xs.length c))) (hi:find tt t=some i) (h0:0≤ix) (h1:ix<xs.length) (ha:Zq env x=some (.pointer (some ⟨blk A,ofs A+ix.toNat*sz+f,none⟩))) (hv:Zq env y=some v)
  (hn:ty.n=sz) (hsz:Nat.beq v.cells.toList.length i.size=true) (hle:Nat.ble (f+i.size) sz=true) (hc1:v.cells.toList.all (fun u=>u.oneCell')=true) (hnew:Zy f v.cells.toList (ty.enc (gt xs ix))=ty.enc new) :
  OpT P o env w (fun _ w'=>St w0 F0 (Yg e ty (xs.set ix.toNat new) (.slice A (xs.set ix.toNat new).length c) :: Hs.eraseIdx k) Rs w'):=
 OpT.skip fun n a hf=>by
  obtain ⟨F,⟨inner,F',hown,hel,hF'1,hF'2⟩,hlt,hs⟩:=hS.turn hk
  have hin:=W4 hsc hel
  subst hin
  rcases hown.2 with ⟨hnil,hz⟩ | ⟨g,cap,cur,hA,_,hh,hnc,hcm,hcs,htk⟩
  ·omega
  ·simp only [Value.slice.injEq] at hA
   obtain ⟨rfl,_,rfl⟩:=hA
   have hb:=hF'2 g rfl
   have hsz':v.cells.size=i.size:=by have:=Nat.eq_of_beq_eq_true hsz; simpa using this
   have hle':f+i.size≤ty.n:=by rw [hn]; exact Nat.le_of_ble_eq_true hle
   have hix:ix.toNat<xs.length:=by omega
   have hmul:ix.toNat*ty.n+ty.n≤xs.length*ty.n:=by rw [← Nat.succ_mul]; exact Nat.mul_le_mul_right _ hix
   have hmul2:xs.length*ty.n≤c*ty.n:=Nat.mul_le_mul_right _ hnc
   have hst:=run_storeCells_at P g (ix.toNat*ty.n+f) e v.cells.toList 0 cur w hh (by rw [hcs]; simp [hsz']; omega) (by rw [List.all_eq_true] at hc1; exact hc1)
   have hsplit:cur.toList=xs.flatMap ty.enc ++ cur.toList.drop (xs.length*ty.n):=by rw [← htk,List.take_append_drop]
   have hlay:=Zgh hsc xs ix.toNat f v.cells.toList _ new (cur.toList.drop (xs.length*ty.n)) (Up h0 h1) (by simp [hsz']; omega) hnew
   rw [← hsplit] at hlay
   rw [Nat.add_zero,hlay] at hst
   have haddr:Zq env x=some (.pointer (some ⟨g,ix.toNat*ty.n+f,none⟩)):=by rw [ha,hn]; simp [blk,ofs]
   refine ⟨_,by simp [execOp,ho,hf.eval haddr,hf.eval hv,Instr.storeAt,Instr.sureAddr,storeVar,Xe w (hT _ _ hi),hsz',hst]; rfl,?_⟩
   refine hs _ (Yg e ty (xs.set ix.toNat new) (.slice (some ⟨g,0,none⟩) (xs.set ix.toNat new).length c)) F (X9 w g _ hb.1) ⟨(xs.set ix.toNat new).flatMap ty.enc,F',?_,Elems.scal hsc _ _ _,hF'1,hF'2⟩ (fun b hb=>⟨.inl hb,by simpa using hlt b hb⟩)
   refine ⟨by rw [Yw hsc],.inr ⟨g,c,_,rfl,Nat.zero_le _,setRow_heap w g _ _ _ _ hh,by simpa using hnc,hcm,?_,?_⟩⟩
   ·simp only [List.size_toArray,List.length_append,Yw hsc,List.length_set,List.length_drop,Array.length_toList,hcs]
    omega
   ·simp only [List.length_set]
    rw [List.take_append_of_le_length (by rw [Yw hsc]; simp),List.take_of_length_le (by rw [Yw hsc]; simp)]
end
end Go.SK
