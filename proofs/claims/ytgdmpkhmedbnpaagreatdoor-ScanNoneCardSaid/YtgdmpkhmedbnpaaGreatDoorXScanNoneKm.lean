/- Part of the library of this claim: how code is stepped through. -/
import Derived.Test.YtgdmpkhmedbnpaaGreatDoorXScanNoneKl
set_option linter.unusedVariables false
set_option linter.unusedSimpArgs false
namespace Go.SK
open Go Go.RowKit

structure HS (P:Program) (n:Nat) (ops:List Oper) (S:World→Prop) (K:Env→World→Prop) (done:List Nat) (env:Env) (w:World) (i:Nat):Prop where
 go:∀ fuel a Q,Fr n env a→(∀ env a w,Fr n env a→K env w→Q .normal a w)→Zd9 ops.length (i :: done)≤fuel→i<ops.length→
  wpOp P ops.toArray (NoPanic Q) i (fun a' w'=>S w'∧wpAnyH P .any ops.toArray (NoPanic Q) S fuel ((Vf ops.length done).setIfInBounds i true) a' w') a w
def G6 (done is:List Nat):Nat→List Oper→Bool
 | _,[]=>true
 | j,oj :: r=>(Xc j is || Xc j done || !Uz done oj) && G6 done is (j+1) r
theorem Bj {done is:List Nat}:∀(r:List Oper) (k:Nat),G6 done is k r=true→∀ j oj,r[j]?=some oj→Xc (k+j) done=false→Uz done oj=true→Xc (k+j) is=true
 | [],_,_,j,oj,hj,_,_=>by simp at hj
 | o :: r,k,h,j,oj,hj,hun,hr=>by
  simp only [G6,Bool.and_eq_true] at h
  cases j with
  | zero=>
   simp only [List.getElem?_cons_zero,Option.some.injEq] at hj
   subst hj
   have h1:=h.1
   simp only [Nat.add_zero] at hun ⊢
   simpa [hun,hr] using h1
  | succ j=>
   have:=Bj r (k+1) h.2 j oj (by simpa using hj) (by rw [show k+1+j=k+(j+1) from by omega]; exact hun) hr
   rwa [show k+1+j=k+(j+1) from by omega] at this
section
variable {P:Program} {n:Nat} {env:Env} {w:World} {ops:List Oper} {K:Env→World→Prop} {S:World→Prop} {o:Oper} {done:List Nat}
theorem HS.op {K':Value→World→Prop} {i:Nat} (hi:nth ops i=some o) (hw:Yq ops env o=some true) (hd:Xw n o.dst=true) (ho:OpT P o env w K')
  (h:∀ v w',K' v w'→S w'∧HJ P n ops S K (i :: done) (Xu o.dst v env) w'):HS P n ops S K done env w i:=⟨fun fuel a Q hf hQ hfu hlt=>by
 rw [Yu] at hi
 have hi':ops.toArray[i]?=some o:=by simpa using hi
 unfold wpOp
 simp only [hi']
 rw [if_pos (W1 (ops:=ops.toArray) hf (by simpa using hw))]
 refine .inl (ho n a _ _ hf fun v w' hk=>⟨(h v w' hk).1,?_⟩)
 rw [B4 hlt]
 exact (h v w' hk).2.go fuel (h v w' hk).1 _ Q (hf.putD v hd) hQ hfu⟩
theorem Y4:∀ i∈([]:List Nat),HS P n ops S K done env w i:=fun i h=>by cases h
theorem Z5 {i:Nat} {is:List Nat} (h:HS P n ops S K done env w i) (hs:∀ j∈is,HS P n ops S K done env w j):∀ j∈i :: is,HS P n ops S K done env w j:=fun j hj=>by
 rcases List.mem_cons.1 hj with rfl | hj
 ·exact h
 ·exact hs j hj
theorem HJ.pick (is:List Nat) {i:Nat} (hs:Wa ops=true) (hr:G6 done is 0 ops=true) (hi:nth ops i=some o) (h0:(!Xc i done && Uz done o)=true) (h:∀ i∈is,HS P n ops S K done env w i):HJ P n ops S K done env w:=⟨fun fuel hS a Q hf hQ hfu=>by
 simp only [Wa,Bool.and_eq_true] at hs
 simp only [Bool.and_eq_true,Bool.not_eq_true'] at h0
 rw [Yu] at hi
 have hrdy:=(Ja (done:=done) hs.1).2 ⟨o,hi,h0.1,h0.2⟩
 have hlt0:i<ops.length:=(List.getElem?_eq_some_iff.1 hi).1
 have hless0:=J2 hlt0 h0.1
 cases fuel with
 | zero=>omega
 | succ fuel=>
  refine ⟨fun he=>(by rw [he] at hrdy; cases hrdy),fun j hj=>?_⟩
  obtain ⟨oj,h1,h2,h3⟩:=(Ja hs.1).1 hj
  have hm:=Bj ops 0 hr j oj h1 (by simpa using h2) h3
  rw [Nat.zero_add,Uf] at hm
  have hjl:j<ops.length:=(List.getElem?_eq_some_iff.1 h1).1
  have hless:=J2 hjl h2
  exact (h j (by simpa using hm)).go fuel a Q hf hQ (by omega) hjl⟩
end
theorem J.mid {P:Program} {n:Nat} {c:Code} {PQ:Xd} {env:Env} {w:World} (R:Env→World→Prop) (h1:J P n c (Gy R PQ) env w) (h2:∀ env w,R env w→PQ .normal env w):J P n c PQ env w:=
 ⟨fun a Q hf hQ=>h1.go a Q hf fun e env a w hf h=>by
  cases e <;> first | exact hQ _ _ _ _ hf (h2 _ _ h) | exact hQ _ _ _ _ hf h⟩
theorem J.midS {P:Program} {n:Nat} {c:Code} {PQ:Xd} {next:Env→World→Prop} {env:Env} {w:World} (R:Env→World→Prop) (h1:J P n c (Gy R PQ) env w) (h2:∀ env w,R env w→next env w):J P n c (Gy next PQ) env w:=
 ⟨fun a Q hf hQ=>h1.go a Q hf fun e env a w hf h=>by
  cases e <;> first | exact hQ _ _ _ _ hf (h2 _ _ h) | exact hQ _ _ _ _ hf h⟩
theorem Zu {R:Env→World→Prop} {PQ:Xd} {env:Env} {w:World} (h:R env w):Gy R PQ .normal env w:=h
end Go.SK
namespace Go.SK
open Go Go.RowKit
theorem OpT.ofq {P:Program} {o:Oper} {env:Env} {w:World} {v:Value} (h:QOp P o env (fun w'=>w'=w) v):OpT P o env w (fun v' w'=>v'=v∧w'=w):=
 OpT.value fun n a hf=>⟨v,w,h n a w hf rfl,rfl,rfl⟩
end Go.SK
