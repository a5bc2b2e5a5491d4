/- Part of the library of this claim: how code is stepped through. -/
import Derived.Test.YtgdmpkhmedbnpaaGreatDoorXScanNoneKn
set_option linter.unusedVariables false
set_option linter.unusedSimpArgs false
namespace Go.SK
open Go Go.RowKit

section
variable {P:Program} {tt:TT} {env:Env} {o:Oper} {w0 w:World} {F0:Ft} {Hs Rs:List Ch}
theorem Zgt {ty:Ty} {z:Value} {z0:ty.D} (hz:z.cells.toList=ty.enc z0) (m:Nat):(madeCells z.cells (m*z.cells.size)).toList=(List.replicate m z0).flatMap ty.enc:=by
 have:=Ba hz m
 rw [← this]
 simp [madeCells,Builtin.zeroCells]
theorem Gc (hT:Yk P tt) {T e:Nat} {z1 z2:Nat} {z:Value} {ie:TI} {l c:Operand} {kl kc:IntKind} {n:Int} {ty:Ty} (hsc:ty.scal=true) (zero:ty.D) (ho:o.op=.makeSlice T l c) (ht:find tt T=some ⟨.slice e,z1,z2,z⟩) (hi:find tt e=some ie)
  (hl:Zq env l=some (.int kl n)) (hc:Zq env c=some (.int kc n)) (hsz:ty.n=ie.size) (hz:ie.zero.cells.toList=ty.enc zero) (hby:0<ie.bytes) (hS:St w0 F0 Hs Rs w) (h0:0≤n) (hb:n*ie.bytes≤281474976710656) :
  OpT P o env w (fun v w'=>∃ b,v=.slice (some ⟨b,0,none⟩) (List.replicate n.toNat zero).length n.toNat∧St w0 F0 (Yg e ty (List.replicate n.toNat zero) (.slice (some ⟨b,0,none⟩) (List.replicate n.toNat zero).length n.toNat) :: Hs) Rs w'):=
 OpT.value fun nn a hf=>by
  have hk:=(hT _ _ ht).kind
  simp only [TK.ok] at hk
  obtain ⟨j,hj,h1,h2,h3⟩:=(hT _ _ hi).info'
  obtain ⟨m,rfl⟩:∃ m:Nat,n=(m:Int):=⟨n.toNat,by omega⟩
  have hle:m*ie.bytes≤281474976710656:=by
   have:((m*ie.bytes:Nat):Int)≤281474976710656:=by rw [Int.natCast_mul]; exact hb
   omega
  have hm:m≤maxLen:=by
   have:m≤m*ie.bytes:=Nat.le_mul_of_pos_right _ hby
   simp only [maxLen]; omega
  have hzs:ie.zero.cells.size=ie.size:=by rw [← Array.length_toList,hz,Jm hsc,hsz]
  obtain ⟨w',hr,hown,hgr⟩:=run_make_full (P:=P) w 0 T e j ie.zero ie.size hk hj h3 h1 kl kc m (by rw [h2,Nat.mul_comm]; exact hle) hm (Nat.zero_le _)
  rw [← hzs,Zgt hz,hzs,← hsz] at hown
  have hlen:(List.replicate m zero).length=m:=by simp
  refine ⟨.slice (some ⟨w.heap.size,0,none⟩) m m,w',by simp [execOp,ho,hf.eval hl,hf.eval hc,hr],w.heap.size,by simp,?_⟩
  have hlt:w.heap.size<w'.heap.size:=by
   rcases hown.2 with ⟨h,_⟩ | ⟨g,cap,cur,hv,_,hg,_⟩
   ·cases h
   ·simp only [Value.slice.injEq,Option.some.injEq,Addr.mk.injEq] at hv
    rw [← hv.1.1] at hg
    exact (Array.getElem?_eq_some_iff.1 hg).1
  refine hS.add (F':=fun b=>b=w.heap.size) (Chg.of_grown hgr fun b hb=>by cases hb) ⟨_,fun _=>False,?_,Elems.scal hsc _ _ _,fun b hb=>hb.elim,fun b hb=>?_⟩ fun b hb=>?_
  ·simpa using hown
  ·simp [Value.ownBlock] at hb
   exact ⟨hb.symm,fun e=>e⟩
  ·subst hb
   exact ⟨Nat.le_refl _,hlt⟩
end
end Go.SK
