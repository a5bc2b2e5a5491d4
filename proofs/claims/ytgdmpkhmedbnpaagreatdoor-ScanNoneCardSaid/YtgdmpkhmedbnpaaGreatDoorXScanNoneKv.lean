/- Part of the library of this claim: how code is stepped through. -/
import Derived.Test.YtgdmpkhmedbnpaaGreatDoorXScanNoneKu
import Derived.FollowTie
import Derived.ChangeKeysEq
set_option linter.unusedVariables false
set_option linter.unusedSimpArgs false
namespace Go.SK
open Go

def mrow (P:Program) (t:TypeId) (name:String):Option (FuncId×Bool):=
 match P.info? t with
 | none=>none
 | some i=>match i.methods.find? (·.name == name) with
  | none=>none
  | some m=>match m.path.toList,m.func with
   | [],some x=>some x
   | _,_=>none
section
variable {P:Program} {tt:TT} {env:Env} {o:Oper} {w0 w:World} {F0:Ft} {Hs Rs:List Ch}
theorem Zji {f:Nat} {xs:Array Operand} {ts:Array TypeId} {fx:Operand} {vs cs:List Value} {pre rd rest:List Ch} {Post:Value→List Ch→Prop} (ks:List Nat) (hsp:Spec P f (vs ++ cs) pre rd Post)
  (ho:o.op=.call { callee:=.value fx,args:=xs,argTypes:=ts }) (hfx:Zq env fx=some (.func (.func f) #[] cs.toArray)) (hv:Yv env xs.toList=some vs) (hS:St w0 F0 Hs Rs w) (hp:pick ks Hs=some (pre,rest))
  (hr:∀ c∈rd,Gives (rest ++ Rs) c):OpT P o env w (fun v w'=>∃ post,Post v post∧St w0 F0 (post ++ rest) Rs w'):=by
 intro n a next Q hf hk
 obtain ⟨F,hF,hlt,hg,hs⟩:=hS.step hp
 have hm:xs.map a.eval=vs.toArray:=Wb hf hv
 have hcall:=hsp.2 w F hF hlt (fun c hc=>hg c (hr c hc))
 have hrun:(execOp a.eval o).run P w=.ok (.enter f (vs ++ cs).toArray) w:=by
  have:=Ud hsp.1 (vs ++ cs).toArray w
  have e:vs.toArray ++ cs.toArray=(vs ++ cs).toArray:=by simp
  rw [← e] at this ⊢
  simp only [execOp,ho,resolve,hf.eval hfx,Deferred.ofValue,invoke,hm,Sem.run_bind,Sem.run_pure,Result.andThen_ok]
  simpa using this
 unfold Oper.wp
 rw [hrun]
 refine hcall.mono ?_
 rintro e w' ⟨v,post,F',rfl,hP,hchg,hpost,hF'⟩
 exact hk v w' ⟨post,hP,hs w' post F' hchg hpost hF'⟩
end
def conc:TK→Bool
 | .iface=>false
 | .other=>false
 | _=>true
end Go.SK
namespace Go.SK
open Go Go.RowKit
theorem Zfa {P:Program} {tt:TT} {env:Env} {o:Oper} {w0 w:World} {F0:Ft} {Hs Rs:List Ch} (hT:Yk P tt) {d e l m c c2:Nat} {sz:Nat} {xa:Operand} {z1 z2:Nat} {z:Value} {ie:TI} {ty:Ty} (hsc:ty.scal=true) {xs:List ty.D} {A:Option Addr} (z0:ty.D) (k:Nat)
  (ho:o.op=.call { callee:=.builtin .clear,args:=#[xa],argTypes:=#[d] }) (hS:St w0 F0 Hs Rs w) (hk:nth Hs k=some (Yg e ty xs (.slice A xs.length c)))
  (hx:Zq env xa=some (.slice (Wf A c l sz) m c2)) (ht:find tt d=some ⟨.slice e,z1,z2,z⟩) (hi:find tt e=some ie) (hz:ie.zero.cells.toList=ty.enc z0) (hn:ty.n=sz) (hle:l+m≤xs.length) :
  OpT P o env w (fun _ w'=>St w0 F0 (Yg e ty (patch xs l m (List.replicate m z0)) (.slice A (patch xs l m (List.replicate m z0)).length c) :: Hs.eraseIdx k) Rs w'):=by
 have hpl:=Xx (ys:=List.replicate m z0) hle
 by_cases h0:m=0
 ·subst h0
  have hpe:patch xs l 0 (List.replicate 0 z0)=xs:=by simp [patch]
  have hkk:=(hT _ _ ht).kind
  simp only [TK.ok] at hkk
  obtain ⟨i0,hi0,hs0,hb0,hz0⟩:=(hT _ _ hi).info'
  refine OpT.value fun n a hf=>⟨.tuple #[],w,?_,?_⟩
  ·have hst0:∀ ad:Addr,(storeCells ad ([]:List Value)).run P w=.ok () w:=fun ad=>by simp [storeCells]
   cases hq:Wf A c l sz with
   | none=>simp [execOp,ho,resolve,invoke,builtin,hf.eval hx,hq,Builtin.clear_,Z2 w hkk,zeroValue,typeInfo,hi0,hz0]
   | some ad=>simp [execOp,ho,resolve,invoke,builtin,hf.eval hx,hq,Builtin.clear_,Z2 w hkk,zeroValue,typeInfo,hi0,hz0,hst0]
  ·rw [hpe]
   obtain ⟨F1,h1,h2,h3⟩:=hS.turn hk
   exact h3 w _ F1 (Chg.refl _ _) h1 fun b hb=>⟨.inl hb,h2 b hb⟩
 ·rcases hS.openRow hsc k hk with ⟨_,e,_⟩ | ⟨b,sp,rfl,hc,hcm,hsp,h1⟩
  ·subst e; simp at hle; omega
  ·have hcl:¬ c=l:=by omega
   have hxa:Zq env xa=some (.slice (some ⟨b,l*sz,none⟩) m c2):=by
    rw [hx]
    simp [Wf,hcl,Xg]
   have lX:=Yw hsc xs
   have lR:((List.replicate m z0).flatMap ty.enc).length=m*sz:=by rw [Yw hsc,List.length_replicate,hn]
   have hmul:(l+m)*sz≤xs.length*sz:=Nat.mul_le_mul_right _ hle
   rw [Nat.add_mul] at hmul
   rw [hn] at lX
   have hop:=Za5 (env:=env) (o:=o) hT hsc z0 0 ho h1 rfl hxa ht hi hz h0 (by rw [List.length_append,lX,hn]; omega)
   intro n a next Q hf hk'
   refine hop n a next Q hf fun v w' h2=>hk' v w' ?_
   have eP:(patch xs l m (List.replicate m z0)).flatMap ty.enc=(xs.flatMap ty.enc).take (l*sz) ++ (List.replicate m z0).flatMap ty.enc ++ (xs.flatMap ty.enc).drop ((l+m)*sz):=by
    unfold patch
    rw [List.take_of_length_le (i:=m) (by simp),List.length_replicate,Nat.min_self,List.flatMap_append,List.flatMap_append,← hn,Vx hsc,Jv hsc]
   have lT:((xs.flatMap ty.enc).take (l*sz)).length=l*sz:=by rw [List.length_take]; omega
   have e1:Zy (l*sz) ((List.replicate m z0).flatMap ty.enc) (xs.flatMap ty.enc ++ sp)=(patch xs l m (List.replicate m z0)).flatMap ty.enc ++ sp:=by
    rw [eP,Zy,List.take_append_of_le_length (by omega),List.drop_append_of_le_length (by rw [lR,lX]; omega),lR,Nat.add_mul]
    simp only [List.append_assoc]
   rw [e1] at h2
   have lP:((patch xs l m (List.replicate m z0)).flatMap ty.enc).length=xs.length*sz:=by rw [Yw hsc,hpl,hn]
   exact h2.closeRow hsc 0 rfl (by rw [hpl]; exact hc) hcm (by rw [List.length_append,lP,hsp,hn,Nat.sub_mul]; have:=Nat.mul_le_mul_right sz hc; omega) (by rw [hpl,hn,← lP,List.take_left])
end Go.SK
