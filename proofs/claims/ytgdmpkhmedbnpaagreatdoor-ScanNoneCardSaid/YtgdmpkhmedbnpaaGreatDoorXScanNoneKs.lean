/- Part of the library of this claim: how code is stepped through. -/
import Derived.Test.YtgdmpkhmedbnpaaGreatDoorXScanNoneKr
set_option linter.unusedVariables false
set_option linter.unusedSimpArgs false
namespace Go.SK
open Go

section
variable {α:Type} (key:α→List UInt8)
def Zba (l:List α) (k:List UInt8):Option α:=l.find? fun x=>decide (key x=k)
theorem Zi8 (k:List UInt8):Zba key [] k=none:=rfl
theorem Zdo (a:α) (l:List α) (k:List UInt8):Zba key (a :: l) k=if key a=k then some a else Zba key l k:=by
 unfold Zba
 rw [List.find?_cons]
 by_cases h:key a=k <;> simp [h]
theorem Zih {l:List α} {k:List UInt8} (h:∀ b∈l,key b≠k):Zba key l k=none:=by
 unfold Zba
 rw [List.find?_eq_none]
 intro x hx
 simpa using h x hx
def Zej (m:α):List α→List α
 | []=>[m]
 | a :: r=>if Op.bytesLess (key m) (key a)=true then m :: a :: r else if key m=key a then m :: r else a :: Zej m r
def Zcd (k:List UInt8) (l:List α):List α:=l.filter fun x=>!decide (key x=k)
def AtK [Inhabited α] (l:List α) (x:List UInt8) (c:Nat):Prop:=c≤l.length∧(∀ j,j<c→Op.bytesLess (key (l.getD j default)) x=true)∧∀ j,c≤j→j<l.length→Op.bytesLess (key (l.getD j default)) x=false
section
variable {key} [Inhabited α]
theorem AtK.zero {a:α} {r:List α} {x:List UInt8} (h:AtK key (a :: r) x 0):Op.bytesLess (key a) x=false:=h.2.2 0 (Nat.le_refl _) (by simp)
theorem AtK.succ {a:α} {r:List α} {x:List UInt8} {c:Nat} (h:AtK key (a :: r) x (c+1)):Op.bytesLess (key a) x=true∧AtK key r x c:=by
 obtain ⟨h1,h2,h3⟩:=h
 refine ⟨h2 0 (by omega),by simpa using h1,fun j hj=>?_,fun j hj hl=>?_⟩
 ·have:=h2 (j+1) (by omega); simpa using this
 ·have:=h3 (j+1) (by omega) (by simpa using hl); simpa using this
theorem AtK.find {x:List UInt8}:∀ {l:List α} {c:Nat},RiseK key l→AtK key l x c→Zba key l x=if c<l.length∧key (l.getD c default)=x then some (l.getD c default) else none
 | [],c,_,h=>by simp [Zi8]
 | a :: r,0,hr,h=>by
  have q:=h.zero
  rw [Zdo]
  by_cases e:key a=x
  ·rw [if_pos e,if_pos ⟨by simp,by simpa using e⟩]; rfl
  ·rw [if_neg e,if_neg (fun t=>e (by simpa using t.2))]
   refine Zih key fun b hb=>?_
   have:=(List.pairwise_cons.1 hr).1 b hb
   rcases Zg3 q with t | t
   ·exact absurd t e
   ·exact (Jw (Gw t this)).symm
 | a :: r,c+1,hr,h=>by
  obtain ⟨q,h'⟩:=h.succ
  rw [Zdo,if_neg (Jw q),AtK.find (List.pairwise_cons.1 hr).2 h']
  simp
theorem AtK.put {m:α}:∀ {l:List α} {c:Nat},RiseK key l→AtK key l (key m) c→Zej key m l=if c<l.length∧key (l.getD c default)=key m then l.set c m else l.take c ++ m :: l.drop c
 | [],c,_,h=>by
  have:c=0:=by have:=h.1; simpa using this
  subst this
  simp [Zej]
 | a :: r,0,hr,h=>by
  have q:=h.zero
  unfold Zej
  by_cases e:key m=key a
  ·rw [if_neg (by rw [e,Vn]; simp),if_pos e,if_pos ⟨by simp,by simpa using e.symm⟩]; rfl
  ·have:Op.bytesLess (key m) (key a)=true:=(Zg3 q).resolve_left fun t=>e t.symm
   rw [if_pos this,if_neg (fun t=>e (by simpa using t.2.symm))]
   rfl
 | a :: r,c+1,hr,h=>by
  obtain ⟨q,h'⟩:=h.succ
  unfold Zej
  rw [if_neg (by rw [Vr q]; simp),if_neg (Jw q).symm,AtK.put (List.pairwise_cons.1 hr).2 h']
  by_cases e:c<r.length∧key (r.getD c default)=key m
  ·rw [if_pos e,if_pos ⟨by simp; omega,by simpa using e.2⟩]; rfl
  ·rw [if_neg e,if_neg (fun t=>e ⟨by simpa using t.1,by simpa using t.2⟩)]; rfl
theorem AtK.cut {x:List UInt8}:∀ {l:List α} {c:Nat},RiseK key l→AtK key l x c→Zcd key x l=if c<l.length∧key (l.getD c default)=x then l.take c ++ l.drop (c+1) else l
 | [],c,_,h=>by simp [Zcd]
 | a :: r,0,hr,h=>by
  have q:=h.zero
  have hgt:∀ b∈r,key b≠x:=fun b hb=>by
   have:=(List.pairwise_cons.1 hr).1 b hb
   rcases Zg3 q with t | t
   ·rw [← t]; exact (Jw this).symm
   ·exact (Jw (Gw t this)).symm
  have hr':r.filter (fun y=>!decide (key y=x))=r:=List.filter_eq_self.2 fun b hb=>by simpa using hgt b hb
  unfold Zcd
  rw [List.filter_cons,hr']
  by_cases e:key a=x
  ·rw [if_neg (by simp [e]),if_pos ⟨by simp,by simpa using e⟩]; rfl
  ·rw [if_pos (by simp [e]),if_neg (fun t=>e (by simpa using t.2))]
 | a :: r,c+1,hr,h=>by
  obtain ⟨q,h'⟩:=h.succ
  have ih:=AtK.cut (List.pairwise_cons.1 hr).2 h'
  unfold Zcd at ih ⊢
  rw [List.filter_cons,if_pos (by simp [Jw q]),ih]
  by_cases e:c<r.length∧key (r.getD c default)=x
  ·rw [if_pos e,if_pos ⟨by simp; omega,by simpa using e.2⟩]; rfl
  ·rw [if_neg e,if_neg (fun t=>e ⟨by simpa using t.1,by simpa using t.2⟩)]
end
def Zfn:Nat→List α→List α→List α
 | 0,_,_=>[]
 | _+1,[],o=>o
 | _+1,n,[]=>n
 | f+1,a :: n,b :: o=>if Op.bytesLess (key a) (key b)=true then a :: Zfn f n (b :: o) else if key a=key b then a :: Zfn f n o else b :: Zfn f (a :: n) o
section
variable [Inhabited α]
theorem Zgw {l:List α} {i:Nat} (h:i+1<l.length):U7 key (l.drop i)=(Op.bytesLess (key (l.getD i default)) (key (l.getD (i+1) default)) && U7 key (l.drop (i+1))):=by
 rw [Xf (show i<l.length by omega),Xf h]
 rfl
theorem Zis {l:List α} {i:Nat} (h:l.length≤i+1):U7 key (l.drop i)=true:=by
 by_cases h':i<l.length
 ·rw [Xf h',List.drop_eq_nil_of_le (by omega)]
  rfl
 ·rw [List.drop_eq_nil_of_le (by omega)]
  rfl
theorem Zj9 (a b:List UInt8):decide (0≤Xm a b)=!Op.bytesLess a b:=by
 rcases Zdw a b with ⟨e,h⟩ | ⟨e,rfl⟩ | ⟨e,h⟩
 ·simp [e,h]
 ·simp [e,Vn]
 ·simp [e,Vr h]
theorem J4 {F:Nat→Int→Option Bool} {l:List α} (hl:l.length≤1000000)
  (hF:∀ k i,F (k+1) i=if (decide (i<(w64 ((l.length:Int) - 1))))=true then (if 0≤i∧i<(l.length:Int) then (if 0≤(w64 (i+1))∧(w64 (i+1))<(l.length:Int) then ((some (Xm (key (gt l i)) (key (gt l (w64 (i+1)))))).bind fun r1=>(if (decide (0≤r1))=true then (some false) else (F k (w64 (i+1))))) else none) else none) else (some true)) :
  ∀(k i:Nat),i≤l.length→l.length - i<k→F k (i:Int)=some (U7 key (l.drop i))
 | 0,i,_,h=>by omega
 | k+1,i,hi,hk=>by
  rw [hF,Z3 (x:=(l.length:Int) - 1) (by omega) (by omega)]
  by_cases h:i+1<l.length
  ·rw [if_pos (decide_eq_true (by omega)),Y8 (by omega),if_pos (by omega),if_pos (by omega),Yx,Yx,Option.bind_some,Zj9,J4 hl hF k (i+1) (by omega) (by omega),Zgw key h]
   cases Op.bytesLess (key (l.getD i default)) (key (l.getD (i+1) default)) <;> rfl
  ·rw [if_neg (by simp only [decide_eq_true_eq]; omega),Zis key (by omega)]
theorem Jy [DecidableEq α] {F:Nat→Int→Option Bool} {a b:List α} {eqb:α→α→Bool} (he:∀ x y,eqb x y=decide (x=y)) (hab:a.length=b.length) (ha:a.length≤1000000)
  (hF:∀ k i,F (k+1) i=if (decide (i<(a.length:Int)))=true then (if 0≤i∧i<(a.length:Int) then (if 0≤i∧i<(b.length:Int) then (if (!(eqb (gt a i) (gt b i)))=true then (some false) else (F k (w64 (i+1)))) else none) else none) else (some true)) :
  ∀(k i:Nat),i≤a.length→a.length - i<k→F k (i:Int)=some (decide (a.drop i=b.drop i))
 | 0,i,_,h=>by omega
 | k+1,i,hi,hk=>by
  rw [hF]
  by_cases h:i<a.length
  ·have g1:(0:Int)≤(i:Int)∧(i:Int)<(a.length:Int):=by omega
   have g2:(0:Int)≤(i:Int)∧(i:Int)<(b.length:Int):=by omega
   rw [if_pos (decide_eq_true g1.2),if_pos g1,if_pos g2,he,Y8 (by omega),Jy he hab ha hF k (i+1) (by omega) (by omega),Xf h,Xf (show i<b.length by omega),Yx,Yx]
   generalize a.getD i default=x
   generalize b.getD i default=y
   by_cases e:x=y
   ·simp [e]
   ·simp [e]
  ·rw [if_neg (by simp; omega),List.drop_eq_nil_of_le (by omega),List.drop_eq_nil_of_le (by omega)]
   rfl
end
end
end Go.SK
