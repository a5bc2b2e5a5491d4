/- Part of the library of this claim: how code is stepped through. -/
import Derived.Test.YtgdmpkhmedbnpaaGreatDoorXShelfNoneKr
set_option linter.unusedVariables false
set_option linter.unusedSimpArgs false
namespace Go.SK
open Go

section
variable {α:Type} (key:α→List UInt8)
def U2 (l:List α) (k:List UInt8):Option α:=l.find? fun x=>decide (key x=k)
theorem Zbn (k:List UInt8):U2 key [] k=none:=rfl
theorem J4 (a:α) (l:List α) (k:List UInt8):U2 key (a :: l) k=if key a=k then some a else U2 key l k:=by
 unfold U2
 rw [List.find?_cons]
 by_cases h:key a=k <;> simp [h]
theorem Za3 {l:List α} {k:List UInt8} (h:∀ b∈l,key b≠k):U2 key l k=none:=by
 unfold U2
 rw [List.find?_eq_none]
 intro x hx
 simpa using h x hx
def Gx (m:α):List α→List α
 | []=>[m]
 | a :: r=>if Op.bytesLess (key m) (key a)=true then m :: a :: r else if key m=key a then m :: r else a :: Gx m r
def Jk (k:List UInt8) (l:List α):List α:=l.filter fun x=>!decide (key x=k)
def AtK [Inhabited α] (l:List α) (x:List UInt8) (c:Nat):Prop:=c≤l.length∧(∀ j,j<c→Op.bytesLess (key (l.getD j default)) x=true)∧∀ j,c≤j→j<l.length→Op.bytesLess (key (l.getD j default)) x=false
section
variable {key} [Inhabited α]
theorem AtK.zero {a:α} {r:List α} {x:List UInt8} (h:AtK key (a :: r) x 0):Op.bytesLess (key a) x=false:=h.2.2 0 (Nat.le_refl _) (by simp)
theorem AtK.succ {a:α} {r:List α} {x:List UInt8} {c:Nat} (h:AtK key (a :: r) x (c+1)):Op.bytesLess (key a) x=true∧AtK key r x c:=by
 obtain ⟨h1,h2,h3⟩:=h
 refine ⟨h2 0 (by omega),by simpa using h1,fun j hj=>?_,fun j hj hl=>?_⟩
 ·have:=h2 (j+1) (by omega); simpa using this
 ·have:=h3 (j+1) (by omega) (by simpa using hl); simpa using this
theorem AtK.find {x:List UInt8}:∀ {l:List α} {c:Nat},RiseK key l→AtK key l x c→U2 key l x=if c<l.length∧key (l.getD c default)=x then some (l.getD c default) else none
 | [],c,_,h=>by simp [Zbn]
 | a :: r,0,hr,h=>by
  have q:=h.zero
  rw [J4]
  by_cases e:key a=x
  ·rw [if_pos e,if_pos ⟨by simp,by simpa using e⟩]; rfl
  ·rw [if_neg e,if_neg (fun t=>e (by simpa using t.2))]
   refine Za3 key fun b hb=>?_
   have:=(List.pairwise_cons.1 hr).1 b hb
   rcases B5 q with t | t
   ·exact absurd t e
   ·exact (Un (Vs t this)).symm
 | a :: r,c+1,hr,h=>by
  obtain ⟨q,h'⟩:=h.succ
  rw [J4,if_neg (Un q),AtK.find (List.pairwise_cons.1 hr).2 h']
  simp
theorem AtK.put {m:α}:∀ {l:List α} {c:Nat},RiseK key l→AtK key l (key m) c→Gx key m l=if c<l.length∧key (l.getD c default)=key m then l.set c m else l.take c ++ m :: l.drop c
 | [],c,_,h=>by
  have:c=0:=by have:=h.1; simpa using this
  subst this
  simp [Gx]
 | a :: r,0,hr,h=>by
  have q:=h.zero
  unfold Gx
  by_cases e:key m=key a
  ·rw [if_neg (by rw [e,Jd]; simp),if_pos e,if_pos ⟨by simp,by simpa using e.symm⟩]; rfl
  ·have:Op.bytesLess (key m) (key a)=true:=(B5 q).resolve_left fun t=>e t.symm
   rw [if_pos this,if_neg (fun t=>e (by simpa using t.2.symm))]
   rfl
 | a :: r,c+1,hr,h=>by
  obtain ⟨q,h'⟩:=h.succ
  unfold Gx
  rw [if_neg (by rw [Zbz q]; simp),if_neg (Un q).symm,AtK.put (List.pairwise_cons.1 hr).2 h']
  by_cases e:c<r.length∧key (r.getD c default)=key m
  ·rw [if_pos e,if_pos ⟨by simp; omega,by simpa using e.2⟩]; rfl
  ·rw [if_neg e,if_neg (fun t=>e ⟨by simpa using t.1,by simpa using t.2⟩)]; rfl
theorem AtK.cut {x:List UInt8}:∀ {l:List α} {c:Nat},RiseK key l→AtK key l x c→Jk key x l=if c<l.length∧key (l.getD c default)=x then l.take c ++ l.drop (c+1) else l
 | [],c,_,h=>by simp [Jk]
 | a :: r,0,hr,h=>by
  have q:=h.zero
  have hgt:∀ b∈r,key b≠x:=fun b hb=>by
   have:=(List.pairwise_cons.1 hr).1 b hb
   rcases B5 q with t | t
   ·rw [← t]; exact (Un this).symm
   ·exact (Un (Vs t this)).symm
  have hr':r.filter (fun y=>!decide (key y=x))=r:=List.filter_eq_self.2 fun b hb=>by simpa using hgt b hb
  unfold Jk
  rw [List.filter_cons,hr']
  by_cases e:key a=x
  ·rw [if_neg (by simp [e]),if_pos ⟨by simp,by simpa using e⟩]; rfl
  ·rw [if_pos (by simp [e]),if_neg (fun t=>e (by simpa using t.2))]
 | a :: r,c+1,hr,h=>by
  obtain ⟨q,h'⟩:=h.succ
  have ih:=AtK.cut (List.pairwise_cons.1 hr).2 h'
  unfold Jk at ih ⊢
  rw [List.filter_cons,if_pos (by simp [Un q]),ih]
  by_cases e:c<r.length∧key (r.getD c default)=x
  ·rw [if_pos e,if_pos ⟨by simp; omega,by simpa using e.2⟩]; rfl
  ·rw [if_neg e,if_neg (fun t=>e ⟨by simpa using t.1,by simpa using t.2⟩)]
end
def Bd:Nat→List α→List α→List α
 | 0,_,_=>[]
 | _+1,[],o=>o
 | _+1,n,[]=>n
 | f+1,a :: n,b :: o=>if Op.bytesLess (key a) (key b)=true then a :: Bd f n (b :: o) else if key a=key b then a :: Bd f n o else b :: Bd f (a :: n) o
section
variable [Inhabited α]
end
end
end Go.SK
