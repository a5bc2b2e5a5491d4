/- Part of the library of this claim: how code is stepped through. -/
import Derived.Test.YtgdmpkhmedbnpaaGreatDoorXShelfNoneKx
set_option linter.unusedVariables false
set_option linter.unusedSimpArgs false
namespace Go.SK
open Go Go.RowKit

def Vh (P:Program) (n:Nat) (c:Code) (PQ:Y1):Nat→Env→World→Prop
 | 0,_,_=>False
 | k+1,env,w=>J P n c (Wu (Vh P n c PQ k) PQ) env w
section
variable {P:Program} {n:Nat} {env:Env} {w:World} {PQ:Y1} {c:Code}
theorem J.rounds (k:Nat) (h:Vh P n c PQ k env w):J P n (.loop c) PQ env w:=by
 refine J.loop (fun k env w=>Vh P n c PQ k env w) (k:=k) h fun k env w h=>?_
 cases k with
 | zero=>exact h.elim
 | succ k=>
  refine ⟨fun a Q hf hQ=>(show J P n c (Wu (Vh P n c PQ k) PQ) env w from h).go a Q hf fun e env' a' w' hf' hp=>?_⟩
  refine hQ e env' a' w' hf' ?_
  cases e <;> first
   | exact ⟨k,Nat.lt_succ_self k,hp⟩
   | exact hp
theorem J.roundN {k:Nat} (h:J P n c (Wu (Vh P n c PQ k) PQ) env w):Vh P n c PQ (k+1) env w:=h
end
section
variable {P:Program} {tt:TT} {env:Env} {o:Oper} {w0 w:World} {F0:Ft} {Hs Rs:List Ch}
theorem Elems.vals (w:World) (F:Nat→Prop):∀ xs:List Value,xs.all (fun u=>u.oneCell')=true→Elems (Ty.val.ok w F) xs (xs.flatMap Ty.val.enc)
 | [],_=>rfl
 | x :: xs,h=>by
  simp only [List.all_cons,Bool.and_eq_true] at h
  exact ⟨[x],xs.flatMap Ty.val.enc,by simp [Ty.enc],⟨rfl,h.1⟩,Elems.vals w F xs h.2⟩
theorem B8 (hT:Yn P tt) {T e m:Nat} {z1 z2:Nat} {z:Value} {ie:TI} {ps:Array (Nat×Operand)} {vs:List Value} (xs:List Value) (hone:xs.all (fun u=>u.oneCell')=true) (ho:o.op=.buildSlice T m ps) (hS:St w0 F0 Hs Rs w)
  (ht:find tt T=some ⟨.slice e,z1,z2,z⟩) (hi:find tt e=some ie) (hpos:0<ie.size) (hv:Ys env (ps.toList.map (·.2))=some vs) (hm:vs.length=m) (hx:xs.length=m) (hm2:Nat.ble (m*ie.size) 16777216=true)
  (hix:ps.toList.map (·.1)=List.range' 0 vs.length) (hsz:vs.all (fun v=>Nat.beq v.cells.toList.length ie.size)=true) (hin:vs.flatMap (fun v=>v.cells.toList)=xs.flatMap Ty.val.enc) :
  OpT P o env w (fun v w'=>∃ b,v=.slice (some ⟨b,0,none⟩) xs.length m∧St w0 F0 (Yg e .val xs (.slice (some ⟨b,0,none⟩) xs.length m) :: Hs) Rs w'):=
 OpT.value fun n a hf=>⟨_,_,Bw hT ho ht hi hm hm2 hv hix hsz hf,w.heap.size,by rw [hx],by
  rw [hin,hx]
  refine hS.add (Chg.alloc w _ _) (By (F':=fun _=>False) w (Elems.vals _ _ xs hone) hx (Ga hm2 hpos) (fun b hb=>hb.elim)) (fun b hb=>?_)
  rcases hb with hb | hb
  ·exact hb.elim
  ·simp [hb]⟩
end
end Go.SK
