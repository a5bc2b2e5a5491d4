/- The plain law behind WalkLeaves: what its code computes is true for all settings, trees, leaves and nodes. -/
import Derived.Test.YtnfpiaaejdejoaaGreatDoorXWalkLeavesF3
import Derived.KernelRfl
import Derived.Sort.Walk13a
import Derived.Sort.AssemblyPlain
set_option linter.unusedVariables false
set_option linter.unusedSimpArgs false
namespace Go.SK.T
open Go Go.SK
open BitVec (ofInt)
open List (length_set length_nil append_assoc length_cons drop_eq_nil_of_le length_take length_drop length_map length_range length_replicate)
theorem iN {p:Prop} [Decidable p] {α:Type} {a b:α} (h:¬ p:=by omega):(if decide p=true then a else b)=b:=if_neg (by simpa using h)
theorem iP {p:Prop} [Decidable p] {α:Type} {a b:α} (h:p:=by omega):(if decide p=true then a else b)=a:=if_pos (decide_eq_true h)
theorem kS1 (k:Nat) (h:1<=k:=by omega):∃ j,k=j+1:=⟨k - 1,by omega⟩
theorem kS2 (k:Nat) (h:2<=k:=by omega):∃ j,k=j+2:=⟨k - 2,by omega⟩
theorem kS3 (k:Nat) (h:3<=k:=by omega):∃ j,k=j+3:=⟨k - 3,by omega⟩
theorem bS {α β:Type} (a:α) (f:α->Option β):(some a).bind f=f a:=rfl
theorem iT.{u} {c:Prop} {h:Decidable c} (hc:c) {α:Sort u} {t e:α}:ite c t e=t:=if_pos hc
theorem iF.{u} {c:Prop} {h:Decidable c} (hc:¬ c) {α:Sort u} {t e:α}:ite c t e=e:=if_neg hc
theorem dE {p:Prop} [Decidable p]:(decide p=true)=p:=decide_eq_true_eq
theorem dT {p:Prop} [Decidable p] (h:p:=by omega):decide p=true:=decide_eq_true h
theorem dF {p:Prop} [Decidable p] (h:¬ p:=by omega):decide p=false:=decide_eq_false h
theorem tN (n:Nat):(n:Int).toNat=n:=rfl
theorem lA {α:Type} {a b:List α}:(a ++ b).length=a.length+b.length:=List.length_append
theorem iO.{u} {c:Prop} {_:Decidable c} {α:Sort u} {t e:α} (hc:c:=by omega):ite c t e=t:=if_pos hc
theorem iQ.{u} {c:Prop} {_:Decidable c} {α:Sort u} {t e:α} (hc:¬ c:=by omega):ite c t e=e:=if_neg hc
theorem vS.{u} {c:Prop} {_:Decidable c} {α:Sort u} {t e:α} (hc:¬ c:=by simp):ite c t e=e:=if_neg hc
theorem iU.{u} {c:Prop} {_:Decidable c} {α:Sort u} {t e:α} (hc:c:=by simp):ite c t e=t:=if_pos hc
theorem iV.{u} {c:Prop} {_:Decidable c} {α:Sort u} {t e:α} (hc:c:=by (simp; omega)):ite c t e=t:=if_pos hc
theorem iW.{u} {c:Prop} {_:Decidable c} {α:Sort u} {t e:α} (hc:¬ c:=by (simp; omega)):ite c t e=e:=if_neg hc
theorem dN {α:Type} {l:List α} {i:Nat} (h:l.length<=i:=by omega):l.drop i=[]:=drop_eq_nil_of_le h
theorem tO {α:Type} {l:List α} {i:Nat} (h:l.length<=i:=by omega):l.take i=l:=List.take_of_length_le h
theorem wS2 {i:Nat} (h:i<4611686018427387904:=by omega):w64 ((i:Int)+1)=((i+1:Nat):Int):=Gl h
theorem wI2 {x} (h0:-9223372036854775808<=x:=by omega) (h1:x<=9223372036854775807:=by omega):w64 x=x:=B2 h0 h1
theorem Zei:∀(k:Nat) (a b:TZ) (i:Nat),a.length<=4611686018427387904->b.length<=4611686018427387904->i<=a.length->i<=b.length->a.length - i<k->
  Q132.l0 k a b (i:Int)=some (Xo (a.drop i) (b.drop i))
 | 0,a,b,i,_,_,_,_,h=>by omega
 | k+1,a,b,i,ha,hb,hia,hib,hk=>by
  unfold Q132.l0;by_cases h1:i<a.length
  ·by_cases h2:i<b.length
   ·have g1:(0:Int)<=(i:Int)/\(i:Int)<(a.length:Int):=by omega
    have g2:(0:Int)<=(i:Int)/\(i:Int)<(b.length:Int):=by omega
    have w:w64 ((i:Int)+1)=((i+1:Nat):Int):=by rw [wI2]; omega
    have ih:=Zei k a b (i+1) ha hb (by omega) (by omega) (by omega);simp only [g1.2,g2.2,g1,g2,decide_true,if_true,and_self,w,ih,Zr4,tN,Zfn h1,Zfn h2,Zne,dE];split
    ·rfl
    ·split <;> rfl
   ·have g1:(i:Int)<(a.length:Int):=by omega
    have g2:¬ (i:Int)<(b.length:Int):=by omega
    have e:b.drop i=[]:=dN;have z1:¬ (a.length:Int)<(b.length:Int):=by omega
    have z2:(b.length:Int)<(a.length:Int):=by omega
    have z3:¬ (a.drop i).length=0:=by rw [length_drop]; omega
    simp [g1,g2,e,z1,z2,Zfd,z3];omega
  ·have g1:¬ (i:Int)<(a.length:Int):=by omega
   have e:a.drop i=[]:=dN;have z:(b.drop i).length=b.length - i:=length_drop ..;simp only [g1,e,Zg5,z,decide_false,Bool.false_eq_true,if_false,dE];by_cases h2:b.length=i
   ·have z1:¬ (a.length:Int)<(b.length:Int):=by omega
    have z2:¬ (b.length:Int)<(a.length:Int):=by omega
    have h3:a.length=i:=by omega
    simp [h2,h3]
   ·have z1:(a.length:Int)<(b.length:Int):=by omega
    have z2:¬ b.length - i=0:=by omega
    simp [z1,z2]
theorem Xi {k:Nat} {a b:TZ} (ha:a.length<=2000) (hb:b.length<=2000) (hk:2000<k):Q132.f k a b=some (Xo a b):=by
 have:=Zei k a b 0 (by omega) (by omega) (by omega) (by omega) (by omega);simpa [Q132.f] using this
abbrev Msg:=List UInt8×Bool×List UInt8
abbrev Cfg:=Int×Int×Int×Int×Int×Int×Int×Int
abbrev Pr:=List UInt8×List UInt8
abbrev Nd:=Int×List Int×List TZ×List Msg×List Pr
structure SmallN (n:Nd):Prop where
 kids:n.2.1.length<=80
 pivs:n.2.2.1.length<=80
 buf:n.2.2.2.1.length<=150
 prs:n.2.2.2.2.length<=150
 pk:∀ p∈n.2.2.1,p.length<=200
 bk:∀ m∈n.2.2.2.1,m.1.length<=200
 rk:∀ m∈n.2.2.2.2,m.1.length<=200
structure MidN (n:Nd):Prop where
 kids:n.2.1.length<=80
 pivs:n.2.2.1.length<=80
 buf:n.2.2.2.1.length<=800
 prs:n.2.2.2.2.length<=800
 pk:∀ p∈n.2.2.1,p.length<=300
 bk:∀ m∈n.2.2.2.1,m.1.length<=300
 rk:∀ m∈n.2.2.2.2,m.1.length<=300
theorem SmallN.mid {n:Nd} (h:SmallN n):MidN n:=⟨h.kids,h.pivs,by have:=h.buf; omega,by have:=h.prs; omega,fun p hp=>by have:=h.pk p hp; omega,fun p hp=>by have:=h.bk p hp; omega,fun p hp=>by have:=h.rk p hp; omega⟩
theorem Zid (n:Nd) (hb:n.2.2.2.2.length<=150):∀(k i:Nat),i<=n.2.2.2.2.length->n.2.2.2.2.length - i<k->(∀ m∈n.2.2.2.2.take i,m.1.length<=200)->
  ∃ g,Q120.l2 k n (i:Int)=some g/\(g=false->∀ m∈n.2.2.2.2,m.1.length<=200)
 | 0,i,_,h,_=>by omega
 | k+1,i,hi,hk,hm=>by
  rw [Q120.l2];by_cases h:i<n.2.2.2.2.length
  ·have g1:(0:Int)<=(i:Int)/\(i:Int)<(n.2.2.2.2.length:Int):=by omega
   rw [iT (dT g1.2),iT g1,Zt];by_cases h2:200<(n.2.2.2.2.getD i default).1.length
   ·exact ⟨true,by rw [iP],fun h=>by cases h⟩
   ·rw [iN,wS2];refine Zid n hb k (i+1) (by omega) (by omega) fun m hm'=>?_;rw [List.take_add_one,List.mem_append] at hm';rcases hm' with hm' | hm'
    ·exact hm m hm'
    ·rw [List.getElem?_eq_getElem h] at hm';simp only [Option.toList_some,List.mem_singleton] at hm';subst hm';rw [List.getD_eq_getElem?_getD,List.getElem?_eq_getElem h] at h2;simp only [Option.getD_some] at h2;omega
  ·rw [iN];exact ⟨false,rfl,fun _=>by rwa [tO] at hm⟩
theorem Zhx (n:Nd) (hb:n.2.2.2.2.length<=150) (hc:n.2.2.2.1.length<=150):∀(k i:Nat),i<=n.2.2.2.1.length->200+(n.2.2.2.1.length - i)<k->(∀ m∈n.2.2.2.1.take i,m.1.length<=200)->
  ∃ g,Q120.l1 k n (i:Int)=some g/\(g=false->(∀ m∈n.2.2.2.1,m.1.length<=200)/\∀ m∈n.2.2.2.2,m.1.length<=200)
 | 0,i,_,h,_=>by omega
 | k+1,i,hi,hk,hm=>by
  rw [Q120.l1];by_cases h:i<n.2.2.2.1.length
  ·have g1:(0:Int)<=(i:Int)/\(i:Int)<(n.2.2.2.1.length:Int):=by omega
   rw [iT (dT g1.2),iT g1,Zt];by_cases h2:200<(n.2.2.2.1.getD i default).1.length
   ·exact ⟨true,by rw [iP],fun h=>by cases h⟩
   ·rw [iN,wS2];refine Zhx n hb hc k (i+1) (by omega) (by omega) fun m hm'=>?_;rw [List.take_add_one,List.mem_append] at hm';rcases hm' with hm' | hm'
    ·exact hm m hm'
    ·rw [List.getElem?_eq_getElem h] at hm';simp only [Option.toList_some,List.mem_singleton] at hm';subst hm';rw [List.getD_eq_getElem?_getD,List.getElem?_eq_getElem h] at h2;simp only [Option.getD_some] at h2;omega
  ·rw [iN];obtain ⟨g,e1,e2⟩:=Zid n hb k 0 (by omega) (by omega) (by simp);rw [tO] at hm;exact ⟨g,e1,fun e=>⟨hm,e2 e⟩⟩
theorem Ziy (n:Nd) (hb:n.2.2.2.2.length<=150) (hc:n.2.2.2.1.length<=150) (hd:n.2.2.1.length<=80):∀(k i:Nat),i<=n.2.2.1.length->400+(n.2.2.1.length - i)<k->(∀ m∈n.2.2.1.take i,m.length<=200)->
  ∃ g,Q120.l0 k n (i:Int)=some g/\(g=false->(∀ m∈n.2.2.1,m.length<=200)/\(∀ m∈n.2.2.2.1,m.1.length<=200)/\∀ m∈n.2.2.2.2,m.1.length<=200)
 | 0,i,_,h,_=>by omega
 | k+1,i,hi,hk,hm=>by
  rw [Q120.l0];by_cases h:i<n.2.2.1.length
  ·have g1:(0:Int)<=(i:Int)/\(i:Int)<(n.2.2.1.length:Int):=by omega
   rw [iT (dT g1.2),iT g1,Zt];by_cases h2:200<(n.2.2.1.getD i default).length
   ·exact ⟨true,by rw [iP],fun h=>by cases h⟩
   ·rw [iN,wS2];refine Ziy n hb hc hd k (i+1) (by omega) (by omega) fun m hm'=>?_;rw [List.take_add_one,List.mem_append] at hm';rcases hm' with hm' | hm'
    ·exact hm m hm'
    ·rw [List.getElem?_eq_getElem h] at hm';simp only [Option.toList_some,List.mem_singleton] at hm';subst hm';rw [List.getD_eq_getElem?_getD,List.getElem?_eq_getElem h] at h2;simp only [Option.getD_some] at h2;omega
  ·rw [iN];obtain ⟨g,e1,e2⟩:=Zhx n hb hc k 0 (by omega) (by omega) (by simp);rw [tO] at hm;exact ⟨g,e1,fun e=>⟨hm,e2 e⟩⟩
theorem Zjj (n:Nd) {k:Nat} (hk:1000<k):∃ g,Q120.f k n=some g/\(g=false->SmallN n):=by
 unfold Q120.f;by_cases h1:80<n.2.1.length
 ·exact ⟨true,by rw [iP],fun h=>by cases h⟩
 ·rw [iN];by_cases h2:80<n.2.2.1.length
  ·exact ⟨true,by rw [iP],fun h=>by cases h⟩
  ·rw [iN];by_cases h3:150<n.2.2.2.1.length
   ·exact ⟨true,by rw [iP],fun h=>by cases h⟩
   ·rw [iN];by_cases h4:150<n.2.2.2.2.length
    ·exact ⟨true,by rw [iP],fun h=>by cases h⟩
    ·rw [iN];obtain ⟨g,e1,e2⟩:=Ziy n (by omega) (by omega) (by omega) k 0 (by omega) (by omega) (by simp);exact ⟨g,e1,fun e=>⟨by omega,by omega,by omega,by omega,(e2 e).1,(e2 e).2.1,(e2 e).2.2⟩⟩
structure OkC (c:Cfg):Prop where
 fan:8<=c.2.2.2.1/\c.2.2.2.1<=64
 key:1<=c.2.2.2.2.2.2.1/\c.2.2.2.2.2.2.1<=64
 val:0<=c.2.2.2.2.2.2.2/\c.2.2.2.2.2.2.2<=256
 buf:16<=c.2.2.2.2.1/\c.2.2.2.2.1<=512
 leaf:c.2.2.2.2.1<=c.2.2.2.2.2.1/\c.2.2.2.2.2.1<=1024
abbrev Sp:=List UInt8×List UInt8×Bool
def inS (s:Sp) (x:TZ):Bool:=!Op.bytesLess x s.1 && (s.2.2 || Op.bytesLess x s.2.1)
theorem Gd {k:Nat} {s:Sp} {x:TZ} (h1:s.1.length<=2000) (h2:s.2.1.length<=2000) (hx:x.length<=2000) (hk:2000<k):Q135.f k s x=some (inS s x):=by
 unfold Q135.f inS;rw [Xi h1 hx hk,Xi hx h2 hk];simp only [bS,scmp_le,scmp_lt,dE];cases h:Op.bytesLess x s.1 <;> cases s.2.2 <;> simp
theorem Zca (a b:TZ):decide (0<=Xo a b)=!Op.bytesLess a b:=by
 rcases Zbs a b with ⟨e,h⟩ | ⟨e,rfl⟩ | ⟨e,h⟩
 ·simp [e,h]
 ·simp [e,Wv]
 ·simp [e,Xm h]
def Uk:List Pr->Bool
 | a :: b :: r=>Op.bytesLess a.1 b.1 && Uk (b :: r)
 | _=>true
theorem Zlr {l:List Pr} {i:Nat} (h:i+1<l.length):Uk (l.drop i)=(Op.bytesLess (l.getD i default).1 (l.getD (i+1) default).1 && Uk (l.drop (i+1))):=by
 rw [Z9 (show i<l.length by omega),Z9 h];rfl
theorem Znh {l:List Pr} {i:Nat} (h:l.length<=i+1):Uk (l.drop i)=true:=by
 by_cases h':i<l.length
 ·rw [Z9 h',dN];rfl
 ·rw [dN];rfl
theorem Zed {l:List Pr} (h150:l.length<=800) (hl:∀ m∈l,m.1.length<=300):∀(k i:Nat),i<=l.length->2001+(l.length - i)<k->Q145.l0 k l ((i+1:Nat):Int)=some (Uk (l.drop i))
 | 0,i,_,h=>by omega
 | k+1,i,hi,hk=>by
  rw [Q145.l0];by_cases h:i+1<l.length
  ·have g1:(0:Int)<=(i:Int)/\(i:Int)<(l.length:Int):=by omega
   have g2:(0:Int)<=((i+1:Nat):Int)/\((i+1:Nat):Int)<(l.length:Int):=by omega
   have k1:=hl _ (Yz (d:=default) (show i<l.length by omega));have k2:=hl _ (Yz (d:=default) h);rw [iT (dT g2.2),Jh (by omega) (by omega),Nat.add_sub_cancel,iT g1,iT g2,Zt,Zt,Xi (by omega) (by omega) (by omega),bS,Zca,wS2,Zed h150 hl k (i+1) (by omega) (by omega),Zlr h];cases Op.bytesLess (l.getD i default).1 (l.getD (i+1) default).1 <;> rfl
  ·rw [iN,Znh (by omega)]
theorem Zhp {l:List Pr} (h150:l.length<=800) (hl:∀ m∈l,m.1.length<=300) {k:Nat} (hk:3000<k):Q145.f k l=some (Uk l):=by
 have:=Zed h150 hl k 0 (by omega) (by omega);simpa [Q145.f] using this
def Y7 (c:Cfg) (x:TZ):Bool:=decide (1<=(x.length:Int)/\(x.length:Int)<=c.2.2.2.2.2.2.1)
theorem Uz (c:Cfg) (x:TZ):Q150.f c x=some (Y7 c x):=by
 unfold Q150.f Y7;by_cases h:1<=(x.length:Int) <;> simp [h]
def prB (c:Cfg) (s:Sp) (p:Pr):Bool:=Y7 c p.1 && (inS s p.1 && decide ((p.2.length:Int)<=c.2.2.2.2.2.2.2))
def Za4 (c:Cfg) (s:Sp) (n:Nd):Bool:=n.2.2.2.2.all (prB c s) && (decide (n.2.1=[]) && (decide (n.2.2.1=[]) && (decide (n.2.2.2.1=[]) && (decide ((n.2.2.2.2.length:Int)<=c.2.2.2.2.2.1) && Uk n.2.2.2.2))))
theorem Zel {c:Cfg} {s:Sp} {n:Nd} (hn:MidN n) (h1:s.1.length<=2000) (h2:s.2.1.length<=2000):∀(k i:Nat),i<=n.2.2.2.2.length->3001+(n.2.2.2.2.length - i)<k->
  Q153.l0 k c s n (i:Int)=some ((n.2.2.2.2.drop i).all (prB c s) && (decide (n.2.1=[]) && (decide (n.2.2.1=[]) && (decide (n.2.2.2.1=[]) && (decide ((n.2.2.2.2.length:Int)<=c.2.2.2.2.2.1) && Uk n.2.2.2.2)))))
 | 0,i,_,h=>by omega
 | k+1,i,hi,hk=>by
  have h150:=hn.prs;rw [Q153.l0];by_cases h:i<n.2.2.2.2.length
  ·have g1:(0:Int)<=(i:Int)/\(i:Int)<(n.2.2.2.2.length:Int):=by omega
   have k1:=hn.rk _ (Yz (d:=default) h);have etc:(c.1,c.2.1,c.2.2.1,c.2.2.2.1,c.2.2.2.2.1,c.2.2.2.2.2.1,c.2.2.2.2.2.2.1,c.2.2.2.2.2.2.2)=c:=rfl;have eta:(s.1,s.2.1,s.2.2)=s:=rfl;rw [iT (dT g1.2),iT g1,Zt,Uz,bS,Gd h1 h2 (by omega) (by omega),bS,wS2,Zel hn h1 h2 k (i+1) (by omega) (by omega),Z9 h,List.all_cons];simp only [prB];generalize n.2.2.2.2.getD i default=p;by_cases e:c.2.2.2.2.2.2.2<(p.2.length:Int)
   ·rw [dT e,dF (show ¬ ((p.2.length:Int)<=c.2.2.2.2.2.2.2) by omega)];cases Y7 c p.1 <;> cases inS s p.1 <;> rfl
   ·rw [dF e,dT (show ((p.2.length:Int)<=c.2.2.2.2.2.2.2) by omega)];cases Y7 c p.1 <;> cases inS s p.1 <;> simp
  ·have z:∀ {α:Type} [DecidableEq α] (l:List α),decide ((l.length:Int)=0)=decide (l=[]):=fun l=>by
    cases l <;> simp;omega
   rw [iN,Zhp h150 hn.rk (by omega),bS,dN,z,z,z];cases decide (n.2.1=[]) <;> cases decide (n.2.2.1=[]) <;> cases decide (n.2.2.2.1=[]) <;> cases decide ((n.2.2.2.2.length:Int)<=c.2.2.2.2.2.1) <;> rfl
theorem Zi9 {c:Cfg} {s:Sp} {n:Nd} (hn:MidN n) (h1:s.1.length<=2000) (h2:s.2.1.length<=2000) {k:Nat} (hk:4000<k):Q153.f k c s n=some (Za4 c s n):=by
 have:=Zel (c:=c) hn h1 h2 k 0 (by omega) (by have:=hn.prs; omega);simpa [Q153.f,Za4] using this
theorem Zaf {l:TR} {i:Nat} (h:i+1<l.length):Wc (l.drop i)=(Op.bytesLess (l.getD i []) (l.getD (i+1) []) && Wc (l.drop (i+1))):=by
 rw [Z9 (show i<l.length by omega),Z9 h];rfl
theorem Zgm {l:TR} {i:Nat} (h:l.length<=i+1):Wc (l.drop i)=true:=by
 by_cases h':i<l.length
 ·rw [Z9 h',dN];rfl
 ·rw [dN];rfl
structure SmallL (l:TR) (s:Sp):Prop where
 len:l.length<=80
 all:∀ p∈l,p.length<=300
 lo:s.1.length<=300
 hi:s.2.1.length<=300
theorem SmallL.get {l:TR} {s:Sp} (h:SmallL l s) (i:Nat):(l.getD i []).length<=300:=by
 by_cases hi:i<l.length
 ·exact h.all _ (Yz hi)
 ·rw [List.getD_eq_getElem?_getD,List.getElem?_eq_none (by omega)];exact Nat.zero_le _
theorem Zj1 {s:Sp} {l:TR} (hs:SmallL l s):∀(k i:Nat),i<=l.length->2001+(l.length - i)<k->Q147.l0 k l ((i+1:Nat):Int)=some (Wc (l.drop i))
 | 0,i,_,h=>by omega
 | k+1,i,hi,hk=>by
  have h80:=hs.len;rw [Q147.l0];by_cases h:i+1<l.length
  ·have g1:(0:Int)<=(i:Int)/\(i:Int)<(l.length:Int):=by omega
   have g2:(0:Int)<=((i+1:Nat):Int)/\((i+1:Nat):Int)<(l.length:Int):=by omega
   have k1:(l.getD i default).length<=300:=hs.get i;have k2:(l.getD (i+1) default).length<=300:=hs.get (i+1);rw [iT (dT g2.2),Jh (by omega) (by omega),Nat.add_sub_cancel,iT g1,iT g2,Zt,Zt,Xi (by omega) (by omega) (by omega),bS,Zca,wS2,Zj1 hs k (i+1) (by omega) (by omega),Zaf h];show (if (!Op.bytesLess (l.getD i []) (l.getD (i+1) []))=true then some false else some (Wc (l.drop (i+1))))=_
   cases Op.bytesLess (l.getD i []) (l.getD (i+1) []) <;> rfl
  ·rw [iN,Zgm (by omega)]
theorem Zml {s:Sp} {l:TR} (hs:SmallL l s) {k:Nat} (hk:3000<k):Q147.f k l=some (Wc l):=by
 have:=Zj1 hs k 0 (by omega) (by have:=hs.len; omega);simpa [Q147.f] using this
def piv (s:Sp) (p:TZ):Bool:=inS s p && !decide (p=s.1)
theorem Zc2 {s:Sp} {l:TR} (hs:SmallL l s):∀(k i:Nat),i<=l.length->3001+(l.length - i)<k->Q146.l0 k l s (i:Int)=some ((l.drop i).all (piv s) && Wc l)
 | 0,i,_,h=>by omega
 | k+1,i,hi,hk=>by
  have h80:=hs.len;rw [Q146.l0];by_cases h:i<l.length
  ·have g1:(0:Int)<=(i:Int)/\(i:Int)<(l.length:Int):=by omega
   have k1:(l.getD i default).length<=300:=hs.get i;have hlo:=hs.lo;have hhi:=hs.hi;have eta:(s.1,s.2.1,s.2.2)=s:=rfl;rw [iT (dT g1.2),iT g1,Zt,Gd (by omega) (by omega) (by omega) (by omega),bS,wS2,Zc2 hs k (i+1) (by omega) (by omega),Z9 h,List.all_cons];simp only [piv];cases inS s (l.getD i default) <;> by_cases e:l.getD i default=s.1 <;> simp only [e,decide_true,decide_false] <;> rfl
  ·rw [iN,Zml hs (by omega),dN];rfl
theorem Zg3 {s:Sp} {l:TR} (hs:SmallL l s) {k:Nat} (hk:4000<k):Q146.f k l s=some (l.all (piv s) && Wc l):=by
 have:=Zc2 hs k 0 (by omega) (by have:=hs.len; omega);simpa [Q146.f] using this
def U0:List Msg->Bool
 | a :: b :: r=>Op.bytesLess a.1 b.1 && U0 (b :: r)
 | _=>true
theorem Zl3 {l:List Msg} {i:Nat} (h:i+1<l.length):U0 (l.drop i)=(Op.bytesLess (l.getD i default).1 (l.getD (i+1) default).1 && U0 (l.drop (i+1))):=by
 rw [Z9 (show i<l.length by omega),Z9 h];rfl
theorem Znq {l:List Msg} {i:Nat} (h:l.length<=i+1):U0 (l.drop i)=true:=by
 by_cases h':i<l.length
 ·rw [Z9 h',dN];rfl
 ·rw [dN];rfl
theorem Zcx:∀(k:Nat) (l:List Msg) (i:Nat),(l.length<=800/\∀ m∈l,m.1.length<=300)->i<=l.length->2001+(l.length - i)<k->Q142.l0 k l ((i+1:Nat):Int)=some (U0 (l.drop i))
 | 0,l,i,_,_,h=>by omega
 | k+1,l,i,hl,hi,hk=>by
  have h150:=hl.1;rw [Q142.l0];by_cases h:i+1<l.length
  ·have g1:(0:Int)<=(i:Int)/\(i:Int)<(l.length:Int):=by omega
   have g2:(0:Int)<=((i+1:Nat):Int)/\((i+1:Nat):Int)<(l.length:Int):=by omega
   have k1:=hl.2 _ (Yz (d:=default) (show i<l.length by omega));have k2:=hl.2 _ (Yz (d:=default) h);rw [iT (dT g2.2),Jh (by omega) (by omega),Nat.add_sub_cancel,iT g1,iT g2,Zt,Zt,Xi (by omega) (by omega) (by omega),bS,Zca,wS2,Zcx k l (i+1) hl (by omega) (by omega),Zl3 h];cases Op.bytesLess (l.getD i default).1 (l.getD (i+1) default).1 <;> rfl
  ·rw [iN,Znq (by omega)]
def Gw (c:Cfg) (s:Sp) (m:Msg):Bool:=Y7 c m.1 && (inS s m.1 && (decide ((m.2.2.length:Int)<=c.2.2.2.2.2.2.2) && (!m.2.1 || decide (m.2.2=[]))))
def Za7 (c:Cfg) (s:Sp) (n:Nd):Bool:=decide (n.1<=40) && (decide (n.2.2.2.2=[]) && (decide (1<=n.2.1.length) && (decide ((n.2.1.length:Int)<=c.2.2.2.1) && (decide (n.2.2.1.length+1=n.2.1.length) && ((n.2.2.1.all (piv s) && Wc n.2.2.1) && (decide ((n.2.2.2.1.length:Int)<=c.2.2.2.2.1) && U0 n.2.2.2.1))))))
theorem MidN.l {n:Nd} (hn:MidN n) {s:Sp} (h1:s.1.length<=300) (h2:s.2.1.length<=300):SmallL n.2.2.1 s:=⟨hn.pivs,fun p hp=>by have:=hn.pk p hp; omega,h1,h2⟩
theorem Zg0 {n:Nd} (hn:MidN n) {k:Nat} (hk:3000<k):Q142.f k n.2.2.2.1=some (U0 n.2.2.2.1):=by
 have:=Zcx k n.2.2.2.1 0 ⟨hn.buf,fun m hm=>by have:=hn.bk m hm; omega⟩ (by omega) (by have:=hn.buf; omega);simpa [Q142.f] using this
theorem Zer {c:Cfg} {s:Sp} {n:Nd} (hn:MidN n) (h1:s.1.length<=300) (h2:s.2.1.length<=300):∀(k i:Nat),i<=n.2.2.2.1.length->5001+(n.2.2.2.1.length - i)<k->
  Q152.l3 k c s n (i:Int)=some ((n.2.2.2.1.drop i).all (Gw c s) && Za7 c s n)
 | 0,i,_,h=>by omega
 | k+1,i,hi,hk=>by
  have h150:=hn.buf;have h80:=hn.pivs;have hk80:=hn.kids;have eta:(s.1,s.2.1,s.2.2)=s:=rfl;rw [Q152.l3];by_cases h:i<n.2.2.2.1.length
  ·have g1:(0:Int)<=(i:Int)/\(i:Int)<(n.2.2.2.1.length:Int):=by omega
   have k1:=hn.bk _ (Yz (d:=default) h);have etc:(c.1,c.2.1,c.2.2.1,c.2.2.2.1,c.2.2.2.2.1,c.2.2.2.2.2.1,c.2.2.2.2.2.2.1,c.2.2.2.2.2.2.2)=c:=rfl;rw [iT (dT g1.2),iT g1,Zt,Uz,bS,Gd (by omega) (by omega) (by omega) (by omega),bS,wS2,Zer hn h1 h2 k (i+1) (by omega) (by omega),Z9 h,List.all_cons];simp only [Gw];generalize n.2.2.2.1.getD i default=p;by_cases e:c.2.2.2.2.2.2.2<(p.2.2.length:Int)
   ·rw [dT e,dF (show ¬ ((p.2.2.length:Int)<=c.2.2.2.2.2.2.2) by omega)];cases Y7 c p.1 <;> cases inS s p.1 <;> rfl
   ·rw [dF e,dT (show ((p.2.2.length:Int)<=c.2.2.2.2.2.2.2) by omega)];cases Y7 c p.1 <;> cases inS s p.1 <;> cases p.2.1 <;> cases decide (p.2.2=[]) <;> simp
  ·have z:decide (0<(n.2.2.2.2.length:Int))=!decide (n.2.2.2.2=[]):=by
    cases n.2.2.2.2 <;> simp
   have y1:decide (40<n.1)=!decide (n.1<=40):=by by_cases q:n.1<=40 <;> simp [q] <;> omega
   have y2:decide ((n.2.1.length:Int)<1)=!decide (1<=n.2.1.length):=by by_cases q:1<=n.2.1.length <;> simp [q] <;> omega
   have y3:decide (c.2.2.2.1<(n.2.1.length:Int))=!decide ((n.2.1.length:Int)<=c.2.2.2.1):=by by_cases q:(n.2.1.length:Int)<=c.2.2.2.1 <;> simp [q] <;> omega
   have y4:decide (w64 ((n.2.2.1.length:Int)+1)=(n.2.1.length:Int))=decide (n.2.2.1.length+1=n.2.1.length):=by
    rw [wS2];congr 1;exact propext (by omega)
   rw [iN,Zg3 (hn.l h1 h2) (by omega),Zg0 hn (by omega),dN,z,y1,y2,y3,y4];simp only [Za7,bS,List.all_nil,Bool.true_and];cases decide (n.1<=40) <;> cases decide (n.2.2.2.2=[]) <;> cases decide (1<=n.2.1.length) <;> cases decide ((n.2.1.length:Int)<=c.2.2.2.1) <;> cases decide (n.2.2.1.length+1=n.2.1.length) <;> cases (n.2.2.1.all (piv s) && Wc n.2.2.1) <;> cases decide ((n.2.2.2.1.length:Int)<=c.2.2.2.2.1) <;> rfl
theorem Zen {c:Cfg} {s:Sp} {n:Nd} (hn:MidN n) (h1:s.1.length<=300) (h2:s.2.1.length<=300):∀(k i:Nat),i<=n.2.2.1.length->6001+(n.2.2.1.length - i)<k->
  Q152.l2 k c s n (i:Int)=some ((n.2.2.1.drop i).all (Y7 c) && (n.2.2.2.1.all (Gw c s) && Za7 c s n))
 | 0,i,_,h=>by omega
 | k+1,i,hi,hk=>by
  have h80:=hn.pivs;have h150:=hn.buf;rw [Q152.l2];by_cases h:i<n.2.2.1.length
  ·have g1:(0:Int)<=(i:Int)/\(i:Int)<(n.2.2.1.length:Int):=by omega
   have etc:(c.1,c.2.1,c.2.2.1,c.2.2.2.1,c.2.2.2.2.1,c.2.2.2.2.2.1,c.2.2.2.2.2.2.1,c.2.2.2.2.2.2.2)=c:=rfl;rw [iT (dT g1.2),iT g1,Zt,Uz,bS,wS2,Zen hn h1 h2 k (i+1) (by omega) (by omega),Z9 h,List.all_cons];cases Y7 c (n.2.2.1.getD i default) <;> rfl
  ·rw [iN,dN];have:=Zer (c:=c) hn h1 h2 k 0 (by omega) (by omega);simpa using this
def neB (l:T3) (i q:Nat):Bool:=!decide (l.getD q 0=l.getD i 0)
def J2 (c:Cfg) (l:T3) (i:Nat):Bool:=!decide (l.getD i 0=0) && (!decide (c.1<=w64 (l.getD i 0)) && (List.range' 0 i).all (neB l i))
def Zah (c:Cfg) (s:Sp) (n:Nd):Bool:=n.2.2.1.all (Y7 c) && (n.2.2.2.1.all (Gw c s) && Za7 c s n)
theorem Zbw {c:Cfg} {s:Sp} {n:Nd} (hn:MidN n) (h1:s.1.length<=300) (h2:s.2.1.length<=300):∀(k:Nat),
  (∀ i:Nat,i<=n.2.1.length->6100+(n.2.1.length - i)*100<k->Q152.l0 k c s n (i:Int)=some ((List.range' i (n.2.1.length - i)).all (J2 c n.2.1) && Zah c s n))/\
  (∀ i q:Nat,i<n.2.1.length->q<=i->6100+(n.2.1.length - i - 1)*100+(i - q)+1<k->Q152.l1 k c s n (i:Int) (q:Int)=some ((List.range' q (i - q)).all (neB n.2.1 i) && ((List.range' (i+1) (n.2.1.length - i - 1)).all (J2 c n.2.1) && Zah c s n)))
 | 0=>⟨fun i _ h=>by omega,fun i q _ _ h=>by omega⟩
 | k+1=>by
  have h80:=hn.kids;have h80':=hn.pivs;obtain ⟨ih0,ih1⟩:=Zbw (c:=c) hn h1 h2 k;refine ⟨fun i hi hk=>?_,fun i q hi hq hk=>?_⟩
  ·rw [Q152.l0];by_cases h:i<n.2.1.length
   ·have g1:(0:Int)<=(i:Int)/\(i:Int)<(n.2.1.length:Int):=by omega
    have:=ih1 i 0 h (by omega) (by omega);simp only [Int.natCast_zero,Int.ofNat_eq_natCast,Nat.sub_zero] at this;have e0:gt n.2.1 (i:Int)=n.2.1.getD i 0:=Zt n.2.1 i;rw [iT (dT g1.2),iT g1,e0,show Q152.l1 k c s n (i:Int) 0=_ from this,show n.2.1.length - i=(n.2.1.length - i - 1)+1 by omega,List.range'_succ,List.all_cons];simp only [J2,Nat.add_sub_cancel];cases decide (n.2.1.getD i 0=0) <;> cases decide (c.1<=w64 (n.2.1.getD i 0)) <;> simp [Bool.and_assoc]
   ·rw [iN,show n.2.1.length - i=0 by omega];have:=Zen (c:=c) hn h1 h2 k 0 (by omega) (by omega);simpa [Zah] using this
  ·rw [Q152.l1];by_cases h:q<i
   ·have g1:(0:Int)<=(q:Int)/\(q:Int)<(n.2.1.length:Int):=by omega
    have e0:gt n.2.1 (i:Int)=n.2.1.getD i 0:=Zt n.2.1 i;have e1:gt n.2.1 (q:Int)=n.2.1.getD q 0:=Zt n.2.1 q;rw [iP,iT g1,e0,e1,wS2,ih1 i (q+1) hi (by omega) (by omega),show i - q=(i - (q+1))+1 by omega,List.range'_succ,List.all_cons];simp only [neB];cases decide (n.2.1.getD q 0=n.2.1.getD i 0) <;> rfl
   ·rw [iN,wS2,ih0 (i+1) (by omega) (by omega),show i - q=0 by omega,show n.2.1.length - (i+1)=n.2.1.length - i - 1 by omega];rfl
def Zbz (c:Cfg) (s:Sp) (n:Nd):Bool:=(List.range' 0 n.2.1.length).all (J2 c n.2.1) && Zah c s n
theorem Zh6 {c:Cfg} {s:Sp} {n:Nd} (hn:MidN n) (h1:s.1.length<=300) (h2:s.2.1.length<=300) {k:Nat} (hk:15000<k):Q152.f k c s n=some (Zbz c s n):=by
 have h80:=hn.kids;have:=(Zbw (c:=c) hn h1 h2 k).1 0 (by omega) (by omega);simpa [Q152.f,Zbz] using this
theorem Zhh {c:Cfg} {s:Sp} {n:Nd} (hn:MidN n) (h1:s.1.length<=300) (h2:s.2.1.length<=300) {k:Nat} (hk:15000<k) :
  Q151.f k c s n=some (if n.1=0 then Za4 c s n else decide (0<n.1) && Zbz c s n):=by
 unfold Q151.f;by_cases h:n.1=0
 ·rw [iT (dT h),iT h];rw [show Q153.f k _ _ _=_ from Zi9 (c:=c) (s:=s) hn (by omega) (by omega) (by omega)];rfl
 ·rw [iF (by simp only [dE]; exact h),iF h];by_cases h0:0<n.1
  ·rw [iT (dT h0),show Q152.f k _ _ _=_ from Zh6 (c:=c) (s:=s) hn h1 h2 hk,dT h0];rfl
  ·rw [iF (by simp only [dE]; exact h0),dF h0];rfl
theorem Zkj:∀ l,Wc l=Vt (fun x=>x) l
 | []=>rfl
 | [_]=>rfl
 | a :: b :: r=>by rw [Wc,Vt,Zkj (b :: r)]
theorem Zku:∀ l:List Msg,U0 l=Vt (fun x=>x.1) l
 | []=>rfl
 | [_]=>rfl
 | a :: b :: r=>by rw [U0,Vt,Zku (b :: r)]
theorem Zj5:∀ l:List Pr,Uk l=Vt (fun x=>x.1) l
 | []=>rfl
 | [_]=>rfl
 | a :: b :: r=>by rw [Uk,Vt,Zj5 (b :: r)]
theorem Zk4 {l:List Msg} (hl:l.length<=1000000):Q87.f l=some l:=by
 unfold Q87.f;rw [iV];rfl
theorem Bh {α:Type} [Inhabited α] [DecidableEq α] {F:Nat->Int->Option Bool} {a b:List α} {eqb:α->α->Bool} (he:∀ x y,eqb x y=decide (x=y)) (hab:a.length=b.length) (ha:a.length<=1000000)
  (hF:∀ k i,F (k+1) i=if (decide (i<(a.length:Int)))=true then (if 0<=i/\i<(a.length:Int) then (if 0<=i/\i<(b.length:Int) then (if (!(eqb (gt a i) (gt b i)))=true then (some false) else (F k (w64 (i+1)))) else none) else none) else (some true)) :
  ∀(k i:Nat),i<=a.length->a.length - i<k->F k (i:Int)=some (decide (a.drop i=b.drop i))
 | 0,i,_,h=>by omega
 | k+1,i,hi,hk=>by
  rw [hF];by_cases h:i<a.length
  ·have g1:(0:Int)<=(i:Int)/\(i:Int)<(a.length:Int):=by omega
   have g2:(0:Int)<=(i:Int)/\(i:Int)<(b.length:Int):=by omega
   rw [iT (dT g1.2),iT g1,iT g2,he,wS2,Bh he hab ha hF k (i+1) (by omega) (by omega),Z9 h,Z9 (show i<b.length by omega),Zt,Zt];generalize a.getD i default=x;generalize b.getD i default=y;by_cases e:x=y
   ·simp [e]
   ·simp [e]
  ·rw [iW,dN,dN];rfl
instance decNd4:DecidableEq (List Msg×List Pr):=instDecidableEqProd
instance decNd3:DecidableEq (List TZ×List Msg×List Pr):=instDecidableEqProd
instance decNd2:DecidableEq (List Int×List TZ×List Msg×List Pr):=instDecidableEqProd
instance decNd1:DecidableEq Nd:=instDecidableEqProd
theorem Zhy {l:T3} (hl:l.length<=1000000):Q91.f l=some l:=by
 unfold Q91.f;rw [iV];rfl
theorem Zju {l:TR} (hl:l.length<=1000000):Q90.f l=some l:=by
 unfold Q90.f;rw [iV];rfl
theorem Zjw {l:List Pr} (hl:l.length<=1000000):Q88.f l=some l:=by
 unfold Q88.f;rw [iV];rfl
abbrev ltI:=Go.Sort.ltInt
theorem Xp (x y:Int):Q32.f x y=some (ltI x y):=by
 unfold Q32.f Q33.f ltI Go.Sort.ltInt;simp
theorem gta (d:Array Int) (i:Nat):gt d.toList (i:Int)=d[i]!:=by
 rw [Zt,List.getD_eq_getElem?_getD];by_cases h:i<d.size
 ·simp [h]
 ·simp [h]
theorem W1 (d:Array Int) (i j:Nat):(d.toList.set i d[j]!).set j d[i]! = (Go.Sort.swp d i j).toList:=by
 simp [Go.Sort.swp]
theorem Yv (d:Array Int) (i j:Nat):(Go.Sort.swp d i j).size=d.size:=by simp [Go.Sort.swp]
theorem wn {x:Int} {n:Nat} (h:x=n) (hn:n<=4611686018427387904):w64 x=(n:Int):=by rw [wI2,h]
theorem Zfp {a b i:Nat} {r:T3}:∀(j:Nat) (d:Array Int),j<d.size->d.size<=1000000000000000->i<1000000000000000->Ev (fun k=>Q108.l0 k (a:Int) (b:Int) (Go.Sort.insInner ltI a j d).toList ((i+1:Nat):Int)) r->
  Ev (fun k=>Q108.l1 k (a:Int) (b:Int) (i:Int) d.toList (j:Int)) r
 | 0,d,hj,hd,hi,h=>h.step fun k hk=>by
  rw [Q108.l1,iN,wn (n:=i+1) (by omega) (by omega)];exact hk
 | j+1,d,hj,hd,hi,h=>by
  have e1:w64 (((j+1:Nat):Int) - 1)=(j:Int):=wn (by omega) (by omega);unfold Go.Sort.insInner at h;by_cases c:a<j+1
  ·by_cases q:ltI d[j+1]! d[j]! = true
   ·rw [iT (by simp [c,q])] at h;have:=Zfp j (Go.Sort.swp d (j+1) j) (by rw [Yv]; omega) (by rw [Yv]; omega) hi h;refine this.step fun k hk=>?_;rw [Q108.l1,iP,iV,e1,iV,gta,gta,Xp,bS,iT q,tN,tN,W1];exact hk
   ·rw [iF (by simp [q])] at h;refine h.step fun k hk=>?_;rw [Q108.l1,iP,iV,e1,iV,gta,gta,Xp,bS,iF q,wn (n:=i+1) (by omega) (by omega)];exact hk
  ·rw [iF (by simp [c])] at h;refine h.step fun k hk=>?_;rw [Q108.l1,iN,wn (n:=i+1) (by omega) (by omega)];exact hk
theorem Zbb (a:Nat):∀(j:Nat) (d:Array Int),(Go.Sort.insInner ltI a j d).size=d.size
 | 0,d=>rfl
 | j+1,d=>by
  unfold Go.Sort.insInner;split
  ·rw [Zbb a j,Yv]
  ·rfl
theorem Zgd {a b:Nat}:∀(m i:Nat) (d:Array Int),b - i=m->b<=d.size->d.size<=1000000000000000->i<=1000000000000000->Ev (fun k=>Q108.l0 k (a:Int) (b:Int) d.toList (i:Int)) (Go.Sort.insOuter ltI a b i d).toList
 | 0,i,d,hm,hb,hd,hi=>Ev.last fun k=>by
  rw [Q108.l0,iN];unfold Go.Sort.insOuter;rw [iQ]
 | m+1,i,d,hm,hb,hd,hi=>by
  have hs:=Zbb a i d;have ih:=Zgd (a:=a) (b:=b) m (i+1) (Go.Sort.insInner ltI a i d) (by omega) (by omega) (by omega) (by omega);unfold Go.Sort.insOuter;rw [iO];refine (Zfp (b:=b) i d (by omega) hd (by omega) ih).step fun k hk=>?_;rw [Q108.l0,iP];exact hk
theorem Zp2 {a b:Nat} {d:Array Int} (hb:b<=d.size) (ha:a<=999999999999999) (hd:d.size<=1000000000000000):Ev (fun k=>Q108.f k d.toList (a:Int) (b:Int)) (Go.Sort.insertionSort ltI d a b).toList:=by
 refine (Zgd (a:=a) (b:=b) (b - (a+1)) (a+1) d rfl hb hd (by omega)).next fun k hk=>?_;unfold Q108.f;rw [wn (n:=a+1) (by omega) (by omega)];exact hk
theorem Bp (hi first:Nat):∀(n root:Nat) (d:Array Int),hi - root<=n->(Go.Sort.siftDown ltI hi first root d).size=d.size
 | 0,root,d,h=>by
  rw [Go.Sort.siftDown,dif_pos (by omega)]
 | n+1,root,d,h=>by
  rw [Go.Sort.siftDown];split
  ·rfl
  ·split
   ·split
    ·rfl
    ·split
     ·rw [Bp hi first n _ _ (by omega),Yv]
     ·rfl
   ·split
    ·rfl
    ·rw [Bp hi first n _ _ (by omega),Yv]
theorem Zj0 {hi first:Nat}:∀(n root:Nat) (d:Array Int),hi - root<=n->first+hi<=d.size->d.size<=1000000000000000->root<=1000000000000000->Ev (fun k=>Q118.l0 k (hi:Int) (first:Int) d.toList (root:Int)) (Go.Sort.siftDown ltI hi first root d).toList
 | n,root,d,hn,hf,hd,hr=>by
  have e1:w64 (2*(root:Int))=((2*root:Nat):Int):=wn (by omega) (by omega);have e2:w64 (((2*root:Nat):Int)+1)=((2*root+1:Nat):Int):=wn (by omega) (by omega);have e3:w64 (((2*root+1:Nat):Int)+1)=((2*root+2:Nat):Int):=wn (by omega) (by omega);have e4:w64 ((first:Int)+((2*root+1:Nat):Int))=((first+(2*root+1):Nat):Int):=wn (by omega) (by omega)
  have e5:w64 (((first+(2*root+1):Nat):Int)+1)=((first+(2*root+1)+1:Nat):Int):=wn (by omega) (by omega)
  have e6:w64 ((first:Int)+(root:Int))=((first+root:Nat):Int):=wn (by omega) (by omega)
  have e7:w64 ((first:Int)+((2*root+2:Nat):Int))=((first+(2*root+2):Nat):Int):=wn (by omega) (by omega)
  have un:∀ k,Q118.l0 (k+1) (hi:Int) (first:Int) d.toList (root:Int)=_:=fun k=>Q118.l0.eq_2 (hi:Int) (first:Int) d.toList (root:Int) k
  simp only [e1,e2,e3,e4,e5,e6,e7,gta,Xp,bS,tN,W1] at un;rw [Go.Sort.siftDown];by_cases h1:2*root+1>=hi
  ·rw [dif_pos h1];exact Ev.last fun k=>by rw [un,iP]
  ·rw [dif_neg h1];cases n with
   | zero=>omega
   | succ n=>
   have go:∀(c:Nat),root<c->c<hi->Ev (fun k=>Q118.l0 k (hi:Int) (first:Int) (Go.Sort.swp d (first+root) (first+c)).toList (c:Int)) (Go.Sort.siftDown ltI hi first c (Go.Sort.swp d (first+root) (first+c))).toList:=fun c h2 h3=>
    Zj0 n c _ (by omega) (by rw [Yv]; exact hf) (by rw [Yv]; exact hd) (by omega)
   have b0:(0:Int)<=((first+root:Nat):Int)/\((first+root:Nat):Int)<(d.toList.length:Int):=by simp; omega
   have b1:(0:Int)<=((first+(2*root+1):Nat):Int)/\((first+(2*root+1):Nat):Int)<(d.toList.length:Int):=by simp; omega
   have left:Ev (fun k=>Q118.l0 k (hi:Int) (first:Int) d.toList (root:Int)) (if !ltI d[first+root]! d[first+(2*root+1)]! then d else Go.Sort.siftDown ltI hi first (2*root+1) (Go.Sort.swp d (first+root) (first+(2*root+1)))).toList->True:=fun _=>trivial
   by_cases h2:2*root+1+1<hi
   ·have b2:(0:Int)<=((first+(2*root+1)+1:Nat):Int)/\((first+(2*root+1)+1:Nat):Int)<(d.toList.length:Int):=by simp; omega
    have b3:(0:Int)<=((first+(2*root+2):Nat):Int)/\((first+(2*root+2):Nat):Int)<(d.toList.length:Int):=by simp; omega
    by_cases h3:ltI d[first+(2*root+1)]! d[first+(2*root+1)+1]! = true
    ·rw [iT (by simp [h2,h3])];by_cases h4:ltI d[first+root]! d[first+(2*root+2)]! = true
     ·rw [iF (by simp [h4]),dif_pos (by omega)];refine (go (2*root+2) (by omega) (by omega)).step fun k hk=>?_;rw [un,iN,iP,iT b1,iT b2,iT h3,iT b0,iT b3,iF (by simp [h4])];exact hk
     ·rw [iT (by simp [h4])];refine Ev.last fun k=>?_;rw [un,iN,iP,iT b1,iT b2,iT h3,iT b0,iT b3,iT (by simp [h4])]
    ·rw [iF (by simp [h3])];by_cases h4:ltI d[first+root]! d[first+(2*root+1)]! = true
     ·rw [iF (by simp [h4])];refine (go (2*root+1) (by omega) (by omega)).step fun k hk=>?_;rw [un,iN,iP,iT b1,iT b2,iF h3,iT b0,iF (by simp [h4])];exact hk
     ·rw [iT (by simp [h4])];refine Ev.last fun k=>?_;rw [un,iN,iP,iT b1,iT b2,iF h3,iT b0,iT (by simp [h4])]
   ·rw [iF (by simp [h2])];by_cases h4:ltI d[first+root]! d[first+(2*root+1)]! = true
    ·rw [iF (by simp [h4])];refine (go (2*root+1) (by omega) (by omega)).step fun k hk=>?_;rw [un,iN,iN,iT b0,iT b1,iF (by simp [h4])];exact hk
    ·rw [iT (by simp [h4])];refine Ev.last fun k=>?_;rw [un,iN,iN,iT b0,iT b1,iT (by simp [h4])]
theorem Zpr {hi first root:Nat} {d:Array Int} (hf:first+hi<=d.size) (hd:d.size<=1000000000000000) (hr:root<=1000000000000000):Ev (fun k=>Q118.f k d.toList (root:Int) (hi:Int) (first:Int)) (Go.Sort.siftDown ltI hi first root d).toList:=Zj0 hi root d (by omega) hf hd hr
theorem Zio {a:Nat}:∀(m:Nat) (d:Array Int),a+m<=d.size->d.size<=1000000000000000->Ev (fun k=>Q107.l1 k (a:Int) d.toList ((m:Int) - 1)) (Go.Sort.heapPop ltI a m d).toList
 | 0,d,h,hd=>Ev.last fun k=>by
  rw [Q107.l1,vS];rfl
 | m+1,d,h,hd=>by
  have e0:(((m+1:Nat):Int) - 1)=(m:Int):=by omega
  have e1:w64 ((a:Int)+(m:Int))=((a+m:Nat):Int):=wn (by omega) (by omega);have e2:w64 ((m:Int) - 1)=(m:Int) - 1:=wI2;have s1:=Zpr (hi:=m) (first:=a) (root:=0) (d:=Go.Sort.swp d a (a+m)) (by rw [Yv]; omega) (by rw [Yv]; exact hd) (by omega)
  have sz:=Bp m a m 0 (Go.Sort.swp d a (a+m)) (by omega);rw [Yv] at sz;have ih:=Zio (a:=a) m (Go.Sort.siftDown ltI m a 0 (Go.Sort.swp d a (a+m))) (by omega) (by omega);rw [e0];refine Ev.step2 s1 ih fun k h1 h2=>?_;rw [Q107.l1,iP,e1,iV,iV,gta,gta,tN,tN,W1,show Q118.f k (Go.Sort.swp d a (a+m)).toList 0 (m:Int) (a:Int)=_ from h1,bS,e2];exact h2
theorem Zdx {a b:Nat} (hab:a<=b):∀(m:Nat) (d:Array Int),b<=d.size->d.size<=1000000000000000->m<=1000000000000000->Ev (fun k=>Q107.l0 k (a:Int) (b:Int) d.toList ((m:Int) - 1)) (Go.Sort.heapPop ltI a (b - a) (Go.Sort.heapBuild ltI (b - a) a m d)).toList
 | 0,d,h,hd,hm=>by
  have e1:w64 ((b:Int) - (a:Int))=((b - a:Nat):Int):=wn (by omega) (by omega);have e2:w64 (((b - a:Nat):Int) - 1)=((b - a:Nat):Int) - 1:=wI2;refine (Zio (a:=a) (b - a) d (by omega) hd).step fun k hk=>?_;rw [Q107.l0,vS,e1,e2];exact hk
 | m+1,d,h,hd,hm=>by
  have e0:(((m+1:Nat):Int) - 1)=(m:Int):=by omega
  have e1:w64 ((b:Int) - (a:Int))=((b - a:Nat):Int):=wn (by omega) (by omega);have e2:w64 ((m:Int) - 1)=(m:Int) - 1:=wI2;have s1:=Zpr (hi:=b - a) (first:=a) (root:=m) (d:=d) (by omega) hd (by omega)
  have sz:=Bp (b - a) a (b - a) m d (by omega);have ih:=Zdx hab m (Go.Sort.siftDown ltI (b - a) a m d) (by omega) (by omega) (by omega);rw [e0];refine Ev.step2 s1 ih fun k h1 h2=>?_;rw [Q107.l0,iP,e1,h1,bS,e2];exact h2
theorem Ztb {a b:Nat} {d:Array Int} (hab:a<=b) (hb:b<=d.size) (hd:d.size<=1000000000000000):Ev (fun k=>Q107.f k d.toList (a:Int) (b:Int)) (Go.Sort.heapSort ltI d a b).toList:=by
 refine (Zdx hab ((b - a - 1) / 2+1) d hb hd (by omega)).next fun k hk=>?_;have e1:w64 ((b:Int) - (a:Int))=((b - a:Nat):Int):=wn (by omega) (by omega);have e2:w64 (((b - a:Nat):Int) - 1)=((b - a:Nat):Int) - 1:=wI2;have e3:Int.tdiv (((b - a:Nat):Int) - 1) 2=(((b - a - 1) / 2:Nat):Int):=by
  by_cases z:b - a=0
  ·rw [z]; rfl
  ·rw [show ((b - a:Nat):Int) - 1=((b - a - 1:Nat):Int) by omega];rfl
 unfold Q107.f;rw [e1,e2,e3,wI2];rw [show ((((b - a - 1) / 2+1:Nat):Int) - 1)=(((b - a - 1) / 2:Nat):Int) by omega] at hk;exact hk
theorem Zm2:∀(m i j:Nat) (d:Array Int),j - i<=m->i<=1000000000000000->j<d.size->d.size<=1000000000000000->Ev (fun k=>Q117.l0 k d.toList (i:Int) (j:Int)) (Go.Sort.reverseLoop i j d).toList
 | m,i,j,d,hm,hi,hj,hd=>by
  rw [Go.Sort.reverseLoop];by_cases c:i<j
  ·cases m with
   | zero=>omega
   | succ m=>
   rw [iT c];refine (Zm2 m (i+1) (j - 1) (Go.Sort.swp d i j) (by omega) (by omega) (by rw [Yv]; omega) (by rw [Yv]; exact hd)).step fun k hk=>?_;rw [Q117.l0,iP,iV,iV,gta,gta,tN,tN,W1,wn (n:=i+1) (by omega) (by omega),wn (x:=(j:Int) - 1) (n:=j - 1) (by omega) (by omega)];exact hk
  ·rw [iF c];exact Ev.last fun k=>by rw [Q117.l0,iN]
theorem Zts {a b:Nat} {d:Array Int} (ha:a<=1000000000000000) (h1:1<=b) (hb:b<=d.size) (hd:d.size<=1000000000000000):Ev (fun k=>Q117.f k d.toList (a:Int) (b:Int)) (Go.Sort.reverseRange d a b).toList:=by
 refine (Zm2 (b - 1 - a) a (b - 1) d (Nat.le_refl _) ha (by omega) hd).next fun k hk=>?_;unfold Q117.f;rw [wn (x:=(b:Int) - 1) (n:=b - 1) (by omega) (by omega)];exact hk
theorem Ze3 {d:Array Int} {a b s:Nat} (ha:a<d.size) (hb:b<d.size) (hs:s<=1000):Q112.f d.toList (a:Int) (b:Int) (s:Int)=some (((Go.Sort.order2 ltI d a b s).1:Int),((Go.Sort.order2 ltI d a b s).2.1:Int),((Go.Sort.order2 ltI d a b s).2.2:Int)):=by
 unfold Q112.f Go.Sort.order2;rw [iV,iV,gta,gta,Xp,bS,wn (n:=s+1) (by omega) (by omega)];split <;> rfl
theorem Jr {P:Nat->Prop} {d:Array Int} {a b s:Nat} (ha:P a) (hb:P b):P (Go.Sort.order2 ltI d a b s).1/\P (Go.Sort.order2 ltI d a b s).2.1/\(Go.Sort.order2 ltI d a b s).2.2<=s+1:=by
 unfold Go.Sort.order2;split
 ·exact ⟨hb,ha,Nat.le_refl _⟩
 ·exact ⟨ha,hb,Nat.le_succ _⟩
theorem Znr {P:Nat->Prop} {d:Array Int} {a b c s:Nat} (ha:P a) (hb:P b) (hc:P c):P (Go.Sort.median ltI d a b c s).1/\(Go.Sort.median ltI d a b c s).2<=s+3:=by
 obtain ⟨a1,a2,a3⟩:=Jr (d:=d) (s:=s) ha hb;obtain ⟨b1,b2,b3⟩:=Jr (d:=d) (s:=(Go.Sort.order2 ltI d a b s).2.2) a2 hc;obtain ⟨c1,c2,c3⟩:=Jr (d:=d) (s:=(Go.Sort.order2 ltI d (Go.Sort.order2 ltI d a b s).2.1 c (Go.Sort.order2 ltI d a b s).2.2).2.2) a1 b1;unfold Go.Sort.median;exact ⟨c2,by dsimp only; omega⟩
theorem Ze5 {d:Array Int} {a b c s:Nat} (ha:a<d.size) (hb:b<d.size) (hc:c<d.size) (hs:s<=900):Q110.f d.toList (a:Int) (b:Int) (c:Int) (s:Int)=some (((Go.Sort.median ltI d a b c s).1:Int),((Go.Sort.median ltI d a b c s).2:Int)):=by
 obtain ⟨a1,a2,a3⟩:=Jr (P:=fun x=>x<d.size) (d:=d) (s:=s) ha hb;obtain ⟨b1,b2,b3⟩:=Jr (P:=fun x=>x<d.size) (d:=d) (s:=(Go.Sort.order2 ltI d a b s).2.2) a2 hc;unfold Q110.f Go.Sort.median;rw [Ze3 ha hb (by omega),bS];dsimp only;rw [Ze3 a2 hc (by omega),bS];dsimp only;rw [Ze3 a1 b1 (by omega),bS]
theorem Zfi {d:Array Int} {a s:Nat} (h1:1<=a) (ha:a+1<d.size) (hd:d.size<=1000000000000000) (hs:s<=900):Q109.f d.toList (a:Int) (s:Int)=some (((Go.Sort.medianAdjacent ltI d a s).1:Int),((Go.Sort.medianAdjacent ltI d a s).2:Int)):=by
 unfold Q109.f Go.Sort.medianAdjacent;rw [wn (x:=(a:Int) - 1) (n:=a - 1) (by omega) (by omega),wn (n:=a+1) (by omega) (by omega),Ze5 (by omega) (by omega) (by omega) hs];rfl
theorem Zb7 {d:Array Int} {a s:Nat} (ha:a+1<d.size):(Go.Sort.medianAdjacent ltI d a s).1<d.size/\(Go.Sort.medianAdjacent ltI d a s).2<=s+3:=by
 unfold Go.Sort.medianAdjacent;exact Znr (P:=fun x=>x<d.size) (by omega) (by omega) (by omega)
def Zd5:Go.Sort.Hint->Int
 | .unknown=>0
 | .increasing=>1
 | .decreasing=>2
theorem Zj9 (x:Int) (n:Nat):(if (decide ((n:Int)=0))=true then (some (x,(1:Int))) else (if (decide ((n:Int)=12))=true then (some (x,2)) else (some (x,0))))=some (x,Zd5 (if n=0 then Go.Sort.Hint.increasing else if n=12 then .decreasing else .unknown)):=by
 by_cases h1:n=0
 ·subst h1; rfl
 ·rw [iN,iF h1];by_cases h2:n=12
  ·subst h2; rfl
  ·rw [iN,iF h2];rfl
theorem Zrg {d:Array Int} {a b:Nat} (hab:a<=b) (hb:b<=d.size) (h12:12<b - a) (hd:d.size<=1000000000000000):Q106.f d.toList (a:Int) (b:Int)=some (((Go.Sort.choosePivot ltI d a b).1:Int),Zd5 (Go.Sort.choosePivot ltI d a b).2):=by
 have e1:w64 ((b:Int) - (a:Int))=((b - a:Nat):Int):=wn (by omega) (by omega);have e2:w64 (Int.tdiv ((b - a:Nat):Int) 4)=(((b - a) / 4:Nat):Int):=by
  rw [show Int.tdiv ((b - a:Nat):Int) 4=(((b - a) / 4:Nat):Int) from rfl,wI2]
 obtain ⟨q,hq⟩:∃ q,q=(b - a) / 4:=⟨_,rfl⟩;rw [<- hq] at e2;have e3:w64 ((q:Int)*1)=((q*1:Nat):Int):=wn (by omega) (by omega);have e4:w64 ((q:Int)*2)=((q*2:Nat):Int):=wn (by omega) (by omega);have e5:w64 ((q:Int)*3)=((q*3:Nat):Int):=wn (by omega) (by omega);have e6:w64 ((a:Int)+((q*1:Nat):Int))=((a+q*1:Nat):Int):=wn (by omega) (by omega);have e7:w64 ((a:Int)+((q*2:Nat):Int))=((a+q*2:Nat):Int):=wn (by omega) (by omega);have e8:w64 ((a:Int)+((q*3:Nat):Int))=((a+q*3:Nat):Int):=wn (by omega) (by omega);unfold Q106.f Go.Sort.choosePivot;simp only [e1,e2,e3,e4,e5,e6,e7,e8,<- hq];rw [iP,iT (show b - a>=8 by omega)];by_cases c:b - a>=50
 ·obtain ⟨i1,i2⟩:=Zb7 (d:=d) (a:=a+q*1) (s:=0) (by omega);obtain ⟨j1,j2⟩:=Zb7 (d:=d) (a:=a+q*2) (s:=(Go.Sort.medianAdjacent ltI d (a+q*1) 0).2) (by omega);obtain ⟨k1,k2⟩:=Zb7 (d:=d) (a:=a+q*3) (s:=(Go.Sort.medianAdjacent ltI d (a+q*2) (Go.Sort.medianAdjacent ltI d (a+q*1) 0).2).2) (by omega);rw [iP,iT c,show Q109.f d.toList ((a+q*1:Nat):Int) 0=_ from Zfi (s:=0) (by omega) (by omega) hd (by omega),bS];dsimp only;rw [Zfi (by omega) (by omega) hd (by omega),bS];dsimp only;rw [Zfi (by omega) (by omega) hd (by omega),bS];dsimp only;rw [Ze5 i1 j1 k1 (by omega),bS];exact Zj9 _ _
 ·rw [iN,iF c,show Q110.f d.toList ((a+q*1:Nat):Int) ((a+q*2:Nat):Int) ((a+q*3:Nat):Int) 0=_ from Ze5 (s:=0) (by omega) (by omega) (by omega) (by omega),bS];exact Zj9 _ _
theorem Zkb {R:Type} {b:Nat} {r:R} {F:Nat->List Int->Int->Option R} {G:Nat->List Int->Option R}
  (hF:∀ k x j,F (k+1) x j=if (decide (j<(b:Int)))=true then (if 0<=j/\j<(x.length:Int) then (if 0<=(w64 (j - 1))/\(w64 (j - 1))<(x.length:Int) then ((Q32.f (gt x j) (gt x (w64 (j - 1)))).bind fun r3=>(if (!r3)=true then (G k x) else (F k ((x.set j.toNat (gt x (w64 (j - 1)))).set (w64 (j - 1)).toNat (gt x j)) (w64 (j+1))))) else none) else none) else (G k x)) :
  ∀(m j:Nat) (d:Array Int),b - j<=m->1<=j->b<=d.size->d.size<=1000000000000000->Ev (fun k=>G k (Go.Sort.shiftUp ltI b j d).toList) r->Ev (fun k=>F k d.toList (j:Int)) r
 | m,j,d,hm,h1,hb,hd,h=>by
  rw [Go.Sort.shiftUp] at h;by_cases c:j<b
  ·cases m with
   | zero=>omega
   | succ m=>
   have e1:w64 ((j:Int) - 1)=((j - 1:Nat):Int):=wn (by omega) (by omega);have e2:w64 ((j:Int)+1)=((j+1:Nat):Int):=wn (by omega) (by omega);rw [iT c] at h;by_cases q:ltI d[j]! d[j - 1]! = true
   ·rw [iF (by simp [q])] at h;refine (Zkb hF m (j+1) (Go.Sort.swp d j (j - 1)) (by omega) (by omega) (by rw [Yv]; exact hb) (by rw [Yv]; exact hd) h).step fun k hk=>?_;rw [hF,iP,e1,iV,iV,gta,gta,Xp,bS,iF (by simp [q]),tN,tN,W1,e2];exact hk
   ·rw [iT (by simp [q])] at h;refine h.step fun k hk=>?_;rw [hF,iP,e1,iV,iV,gta,gta,Xp,bS,iT (by simp [q])];exact hk
  ·rw [iF c] at h;refine h.step fun k hk=>?_;rw [hF,iN];exact hk
theorem Zb6 (b:Nat):∀(m j:Nat) (d:Array Int),b - j<=m->(Go.Sort.shiftUp ltI b j d).size=d.size
 | m,j,d,hm=>by
  rw [Go.Sort.shiftUp];by_cases c:j<b
  ·cases m with
   | zero=>omega
   | succ m=>
   rw [iT c];split
   ·rfl
   ·rw [Zb6 b m _ _ (by omega),Yv]
  ·rw [iF c]
theorem B9:∀(j:Nat) (d:Array Int),(Go.Sort.shiftDown ltI j d).size=d.size
 | 0,d=>rfl
 | j+1,d=>by
  unfold Go.Sort.shiftDown;split
  ·rfl
  ·rw [B9 j,Yv]
theorem Zgi {R:Type} {r:R} {F:Nat->List Int->Int->Option R} {G1 G2:Nat->List Int->Option R}
  (hF:∀ k x j,F (k+1) x j=if (decide (1<=j))=true then (if 0<=j/\j<(x.length:Int) then (if 0<=(w64 (j - 1))/\(w64 (j - 1))<(x.length:Int) then ((Q32.f (gt x j) (gt x (w64 (j - 1)))).bind fun r3=>(if (!r3)=true then (G1 k x) else (F k ((x.set j.toNat (gt x (w64 (j - 1)))).set (w64 (j - 1)).toNat (gt x j)) (w64 (j - 1))))) else none) else none) else (G2 k x)) :
  ∀(j:Nat) (d:Array Int),j<d.size->d.size<=1000000000000000->Ev (fun k=>G1 k (Go.Sort.shiftDown ltI j d).toList) r->Ev (fun k=>G2 k (Go.Sort.shiftDown ltI j d).toList) r->Ev (fun k=>F k d.toList (j:Int)) r
 | 0,d,hj,hd,h1,h2=>h2.step fun k hk=>by
  rw [hF,vS];exact hk
 | j+1,d,hj,hd,h1,h2=>by
  have e1:w64 (((j+1:Nat):Int) - 1)=(j:Int):=wn (by omega) (by omega);unfold Go.Sort.shiftDown at h1 h2;by_cases q:ltI d[j+1]! d[j]! = true
  ·rw [iF (by simp [q])] at h1 h2;refine (Zgi hF j (Go.Sort.swp d (j+1) j) (by rw [Yv]; omega) (by rw [Yv]; exact hd) h1 h2).step fun k hk=>?_;rw [hF,iP,e1,iV,iV,gta,gta,Xp,bS,iF (by simp [q]),tN,tN,W1];exact hk
  ·rw [iT (by simp [q])] at h1;refine h1.step fun k hk=>?_;rw [hF,iP,e1,iV,iV,gta,gta,Xp,bS,iT (by simp [q])];exact hk
def Zck (a b s i:Nat) (d:Array Int):Array Int×Bool:=
 if i=b then (d,true) else if b - a<50 then (d,false) else
  Go.Sort.partialIns ltI a b s i (let d1:=Go.Sort.swp d i (i - 1); let d2:=if i - a>=2 then Go.Sort.shiftDown ltI (i - 1) d1 else d1; if b - i>=2 then Go.Sort.shiftUp ltI b (i+1) d2 else d2)
theorem Zem (a b s i:Nat) (d:Array Int):Go.Sort.partialIns ltI a b (s+1) i d=Zck a b s (Go.Sort.scanSorted ltI d b i) d:=rfl
def J9 (p:Array Int×Bool):Bool×List Int:=(p.2,p.1.toList)
theorem Zn1 {a b s i:Nat} {d:Array Int} (hs:s<5) (ha:a<i) (hi:i<b) (hb:b<=d.size) (hd:d.size<=1000000000000000) (hq:ltI d[i]! d[i - 1]! = true)
  (ih:∀ d':Array Int,d'.size=d.size->Ev (fun k=>Q113.l0 k (a:Int) (b:Int) d'.toList (i:Int) ((5 - s:Nat):Int)) (J9 (Go.Sort.partialIns ltI a b s i d'))) :
  Ev (fun k=>Q113.l3 k (a:Int) (b:Int) d.toList ((4 - s:Nat):Int) (i:Int)) (J9 (Zck a b s i d)):=by
 have e1:w64 ((i:Int) - 1)=((i - 1:Nat):Int):=wn (by omega) (by omega);have e2:w64 ((b:Int) - (a:Int))=((b - a:Nat):Int):=wn (by omega) (by omega);have e3:w64 ((i:Int) - (a:Int))=((i - a:Nat):Int):=wn (by omega) (by omega);have e4:w64 ((b:Int) - (i:Int))=((b - i:Nat):Int):=wn (by omega) (by omega);have e5:w64 ((i:Int)+1)=((i+1:Nat):Int):=wn (by omega) (by omega);have e6:w64 (((4 - s:Nat):Int)+1)=((5 - s:Nat):Int):=wn (by omega) (by omega);have un:∀ k,Q113.l3 (k+1) (a:Int) (b:Int) d.toList ((4 - s:Nat):Int) (i:Int)=(if (decide (((b - a:Nat):Int)<50))=true then (some (false,d.toList)) else (if (decide (2<=((i - a:Nat):Int)))=true then (Q113.l2 k (a:Int) (b:Int) ((4 - s:Nat):Int) (i:Int) (Go.Sort.swp d i (i - 1)).toList ((i - 1:Nat):Int)) else (if (decide (2<=((b - i:Nat):Int)))=true then (Q113.l1 k (a:Int) (b:Int) ((4 - s:Nat):Int) (i:Int) (Go.Sort.swp d i (i - 1)).toList ((i+1:Nat):Int)) else (Q113.l0 k (a:Int) (b:Int) (Go.Sort.swp d i (i - 1)).toList (i:Int) ((5 - s:Nat):Int))))):=fun k=>by
  rw [Q113.l3,iP,e1,iV,iV,gta,gta,Xp,bS,iF (by simp [hq]),iN,iT (show 0<=((i - 1:Nat):Int)/\((i - 1:Nat):Int)<(d.toList.length:Int) by simp; omega),iT (show 0<=(i:Int)/\(i:Int)<(d.toList.length:Int) by simp; omega),e2,e3,e4,e5,e6,tN,tN,W1]
 unfold Zck;rw [iQ];by_cases c1:b - a<50
 ·rw [iT c1];exact Ev.last fun k=>by rw [un,iP]; rfl
 ·rw [iF c1];have sz:=Yv d i (i - 1);have fin:∀(d2:Array Int),d2.size=d.size->∀(F:Nat->List Int->Int->Option TW),(∀ k x j,F (k+1) x j=if (decide (j<(b:Int)))=true then (if 0<=j/\j<(x.length:Int) then (if 0<=(w64 (j - 1))/\(w64 (j - 1))<(x.length:Int) then ((Q32.f (gt x j) (gt x (w64 (j - 1)))).bind fun r3=>(if (!r3)=true then (Q113.l0 k (a:Int) (b:Int) x (i:Int) ((5 - s:Nat):Int)) else (F k ((x.set j.toNat (gt x (w64 (j - 1)))).set (w64 (j - 1)).toNat (gt x j)) (w64 (j+1))))) else none) else none) else (Q113.l0 k (a:Int) (b:Int) x (i:Int) ((5 - s:Nat):Int)))->
    Ev (fun k=>F k d2.toList ((i+1:Nat):Int)) (J9 (Go.Sort.partialIns ltI a b s i (Go.Sort.shiftUp ltI b (i+1) d2))):=fun d2 h2 F hF=>
   Zkb (G:=fun k x=>Q113.l0 k (a:Int) (b:Int) x (i:Int) ((5 - s:Nat):Int)) hF b (i+1) d2 (by omega) (by omega) (by omega) (by omega) (ih _ (by rw [Zb6 b b _ _ (by omega),h2]))
  by_cases c2:i - a>=2
  ·have sz2:(Go.Sort.shiftDown ltI (i - 1) (Go.Sort.swp d i (i - 1))).size=d.size:=by rw [B9,sz]
   have dn:=Zgi (r:=J9 (Go.Sort.partialIns ltI a b s i (if b - i>=2 then Go.Sort.shiftUp ltI b (i+1) (Go.Sort.shiftDown ltI (i - 1) (Go.Sort.swp d i (i - 1))) else Go.Sort.shiftDown ltI (i - 1) (Go.Sort.swp d i (i - 1)))))
    (F:=fun k x j=>Q113.l2 k (a:Int) (b:Int) ((4 - s:Nat):Int) (i:Int) x j)
    (G1:=fun k x=>if (decide (2<=((b - i:Nat):Int)))=true then (Q113.l1 k (a:Int) (b:Int) ((4 - s:Nat):Int) (i:Int) x ((i+1:Nat):Int)) else (Q113.l0 k (a:Int) (b:Int) x (i:Int) ((5 - s:Nat):Int)))
    (G2:=fun k x=>if (decide (2<=((b - i:Nat):Int)))=true then (Q113.l1 k (a:Int) (b:Int) ((4 - s:Nat):Int) (i:Int) x ((i+1:Nat):Int)) else (Q113.l0 k (a:Int) (b:Int) x (i:Int) ((5 - s:Nat):Int)))
    (fun k x j=>by rw [Q113.l2]; simp only [e4,e5,e6]) (i - 1) (Go.Sort.swp d i (i - 1)) (by omega) (by omega)
   have key:=dn (by
    by_cases c3:b - i>=2
    ·simp only [iT c3,iT (show decide (2<=((b - i:Nat):Int))=true from dT)];exact fin _ sz2 (fun k x j=>Q113.l1 k (a:Int) (b:Int) ((4 - s:Nat):Int) (i:Int) x j) (fun k x j=>by rw [Q113.l1]; simp only [e6])
    ·simp only [iF c3,iF (show ¬ decide (2<=((b - i:Nat):Int))=true by simp only [dE]; omega)];exact ih _ sz2) (by
    by_cases c3:b - i>=2
    ·simp only [iT c3,iT (show decide (2<=((b - i:Nat):Int))=true from dT)];exact fin _ sz2 (fun k x j=>Q113.l1 k (a:Int) (b:Int) ((4 - s:Nat):Int) (i:Int) x j) (fun k x j=>by rw [Q113.l1]; simp only [e6])
    ·simp only [iF c3,iF (show ¬ decide (2<=((b - i:Nat):Int))=true by simp only [dE]; omega)];exact ih _ sz2)
   refine key.step fun k hk=>?_;rw [un,iN,iP,hk];simp only [iT c2]
  ·by_cases c3:b - i>=2
   ·refine (fin _ sz (fun k x j=>Q113.l1 k (a:Int) (b:Int) ((4 - s:Nat):Int) (i:Int) x j) (fun k x j=>by rw [Q113.l1]; simp only [e6])).step fun k hk=>?_;rw [un,iN,iN,iP,hk];simp only [iF c2,iT c3]
   ·refine (ih _ sz).step fun k hk=>?_;rw [un,iN,iN,iN,hk];simp only [iF c2,iF c3]
theorem Zks {a b n:Nat} (hn:n<=1000000000000000) (hb:b<=n):∀(s i:Nat) (d:Array Int),s<=5->a<i->i<=b->d.size=n->Ev (fun k=>Q113.l0 k (a:Int) (b:Int) d.toList (i:Int) ((5 - s:Nat):Int)) (J9 (Go.Sort.partialIns ltI a b s i d))
 | 0,i,d,hs,ha,hi,hd=>Ev.last fun k=>by
  rw [Q113.l0,vS];rfl
 | s+1,i,d,hs,ha,hi,hd=>by
  rw [Zem];have scan:∀(m i:Nat),b - i<=m->a<i->i<=b->Ev (fun k=>Q113.l3 k (a:Int) (b:Int) d.toList ((4 - s:Nat):Int) (i:Int)) (J9 (Zck a b s (Go.Sort.scanSorted ltI d b i) d)):=fun m=>by
   induction m with
   | zero=>
    intro i hm ha hi;rw [Go.Sort.scanSorted,iW];unfold Zck;rw [iO];exact Ev.last fun k=>by
     rw [Q113.l3,iN,iP];rfl
   | succ m ihm=>
    intro i hm ha hi;rw [Go.Sort.scanSorted];by_cases c:i<b
    ·by_cases q:ltI d[i]! d[i - 1]! = true
     ·rw [iF (by simp [q])];exact Zn1 (by omega) ha c (by omega) (by omega) q fun d' h'=>Zks hn hb s i d' (by omega) ha hi (by omega)
     ·rw [iT (by simp [c,q])];have e1:w64 ((i:Int) - 1)=((i - 1:Nat):Int):=wn (by omega) (by omega);have e5:w64 ((i:Int)+1)=((i+1:Nat):Int):=wn (by omega) (by omega);refine (ihm (i+1) (by omega) (by omega) (by omega)).step fun k hk=>?_;rw [Q113.l3,iP,e1,iV,iV,gta,gta,Xp,bS,iT (by simp [q]),e5];exact hk
    ·rw [iF (by simp [c])];unfold Zck;rw [iO];exact Ev.last fun k=>by
      rw [Q113.l3,iN,iP];rfl
  refine (scan b i (by omega) ha hi).step fun k hk=>?_;rw [Q113.l0,iP,show ((5 - (s+1):Nat):Int)=((4 - s:Nat):Int) by omega];exact hk
theorem Ztg {a b:Nat} {d:Array Int} (hab:a<b) (hb:b<=d.size) (hd:d.size<=1000000000000000):Ev (fun k=>Q113.f k d.toList (a:Int) (b:Int)) (J9 (Go.Sort.partialInsertionSort ltI d a b)):=by
 refine (Zks (a:=a) (b:=b) hd hb 5 (a+1) d (Nat.le_refl _) (by omega) (by omega) rfl).next fun k hk=>?_;unfold Q113.f;rw [wn (n:=a+1) (by omega) (by omega)];exact hk
theorem Zbv (p:Int->Bool) (d:Array Int) (j:Nat):∀(m i:Nat),j+1 - i<=m->i<=Go.Sort.scanUp p d j i/\(Go.Sort.scanUp p d j i<=j+1\/Go.Sort.scanUp p d j i=i)
 | m,i,hm=>by
  rw [Go.Sort.scanUp];by_cases c:(decide (i<=j) && p d[i]!)=true
  ·rw [iT c];have hij:i<=j:=by simp only [Bool.and_eq_true,dE] at c; exact c.1
   cases m with
   | zero=>omega
   | succ m=>
   have:=Zbv p d j m (i+1) (by omega);omega
  ·rw [iF c];exact ⟨Nat.le_refl _,.inr rfl⟩
theorem Jj (p:Int->Bool) (d:Array Int) (i:Nat):∀ j:Nat,Go.Sort.scanDown p d i j<=j
 | 0=>Nat.le_refl _
 | j+1=>by
  unfold Go.Sort.scanDown;split
  ·have:=Jj p d i j; omega
  ·exact Nat.le_refl _
def Zar (p:Nat×Array Int):Int×List Int:=((p.1:Int),p.2.toList)
def G7 (a i2 j2:Nat) (d:Array Int):Nat×Array Int:=if i2>j2 then (i2,d) else Go.Sort.partEqLoop ltI a (i2+1) (j2 - 1) (Go.Sort.swp d i2 j2)
theorem Zji {a i j:Nat} {d:Array Int} (h1:1<=i):Go.Sort.partEqLoop ltI a i j d=G7 a (Go.Sort.scanUp (fun x=>!ltI d[a]! x) d j i) (Go.Sort.scanDown (fun x=>ltI d[a]! x) d (Go.Sort.scanUp (fun x=>!ltI d[a]! x) d j i) j) d:=by
 have u:=(Zbv (fun x=>!ltI d[a]! x) d j _ i (Nat.le_refl _)).1;have v:=Jj (fun x=>ltI d[a]! x) d (Go.Sort.scanUp (fun x=>!ltI d[a]! x) d j i) j;rw [Go.Sort.partEqLoop];unfold G7;split
 ·rfl
 ·rw [dif_pos (by omega)]
theorem Zkx {a i2:Nat} {d:Array Int} (hi:1<=i2) (ha:a<d.size) (hd:d.size<=1000000000000000) (hi2:i2<=1000000000000001):∀(j:Nat),j<d.size->(∀ j2,j2<=j->i2<=j2->Ev (fun k=>Q114.l0 k (a:Int) (Go.Sort.swp d i2 j2).toList ((i2+1:Nat):Int) ((j2 - 1:Nat):Int)) (Zar (Go.Sort.partEqLoop ltI a (i2+1) (j2 - 1) (Go.Sort.swp d i2 j2))))->
  Ev (fun k=>Q114.l2 k (a:Int) d.toList (i2:Int) (j:Int)) (Zar (G7 a i2 (Go.Sort.scanDown (fun x=>ltI d[a]! x) d i2 j) d))
 | 0,hj,h=>by
  unfold Go.Sort.scanDown G7;rw [iO];exact Ev.last fun k=>by rw [Q114.l2,iN,iP]; rfl
 | j+1,hj,h=>by
  have e1:w64 (((j+1:Nat):Int) - 1)=(j:Int):=wn (by omega) (by omega);have e2:w64 ((i2:Int)+1)=((i2+1:Nat):Int):=wn (by omega) (by omega);unfold Go.Sort.scanDown;by_cases c:i2<=j+1
  ·by_cases q:ltI d[a]! d[j+1]! = true
   ·rw [iT (by simp [c,q])];refine (Zkx hi ha hd hi2 j (by omega) fun j2 a b=>h j2 (by omega) b).step fun k hk=>?_;rw [Q114.l2,iP,iV,gta,gta,Xp,bS,iT q,e1];exact hk
   ·rw [iF (by simp [q])];unfold G7;rw [iQ];refine (h (j+1) (Nat.le_refl _) c).step fun k hk=>?_;rw [Q114.l2,iP,iV,gta,gta,Xp,bS,iF q,iN,gta,tN,tN,W1,e1,e2];exact hk
  ·rw [iF (by simp [c])];unfold G7;rw [iO];exact Ev.last fun k=>by rw [Q114.l2,iN,iP]; rfl
theorem Zpz {a j:Nat} {d:Array Int} (ha:a<d.size) (hd:d.size<=1000000000000000) (hj:j<d.size):∀(m i:Nat),j+1 - i<=m->1<=i->i<=1000000000000001->(∀ i2 j2,i<=i2->j2<=j->i2<=j2->Ev (fun k=>Q114.l0 k (a:Int) (Go.Sort.swp d i2 j2).toList ((i2+1:Nat):Int) ((j2 - 1:Nat):Int)) (Zar (Go.Sort.partEqLoop ltI a (i2+1) (j2 - 1) (Go.Sort.swp d i2 j2))))->
  Ev (fun k=>Q114.l1 k (a:Int) d.toList (j:Int) (i:Int)) (Zar (G7 a (Go.Sort.scanUp (fun x=>!ltI d[a]! x) d j i) (Go.Sort.scanDown (fun x=>ltI d[a]! x) d (Go.Sort.scanUp (fun x=>!ltI d[a]! x) d j i) j) d))
 | m,i,hm,h1,hi,h=>by
  have e2:w64 ((i:Int)+1)=((i+1:Nat):Int):=wn (by omega) (by omega);rw [Go.Sort.scanUp];by_cases c:i<=j
  ·by_cases q:ltI d[a]! d[i]! = true
   ·rw [iF (by simp [q])];refine (Zkx h1 ha hd hi j hj fun j2 a b=>h i j2 (Nat.le_refl _) a b).step fun k hk=>?_;rw [Q114.l1,iP,iV,iV,gta,gta,Xp,bS,iF (by simp [q])];exact hk
   ·cases m with
    | zero=>omega
    | succ m=>
    rw [iT (by simp [c,q])];refine (Zpz ha hd hj m (i+1) (by omega) (by omega) (by omega) fun i2 j2 a b c=>h i2 j2 (by omega) b c).step fun k hk=>?_;rw [Q114.l1,iP,iV,iV,gta,gta,Xp,bS,iT (by simp [q]),e2];exact hk
  ·rw [iF (by simp [c])];have v:=Jj (fun x=>ltI d[a]! x) d i j;unfold G7;rw [iO];have:Ev (fun k=>Q114.l3 k (a:Int) d.toList (j:Int) (i:Int)) (Zar (i,d)):=Ev.last fun k=>by
    rw [Q114.l3,iP];rfl
   refine this.step fun k hk=>?_;rw [Q114.l1,iN];exact hk
theorem Zkm {a n:Nat} (hn:n<=1000000000000000) (ha:a<n):∀(m i j:Nat) (d:Array Int),j+1 - i<=m->1<=i->i<=1000000000000001->j<n->d.size=n->Ev (fun k=>Q114.l0 k (a:Int) d.toList (i:Int) (j:Int)) (Zar (Go.Sort.partEqLoop ltI a i j d))
 | m,i,j,d,hm,h1,hi,hj,hd=>by
  rw [Zji h1];refine (Zpz (a:=a) (j:=j) (d:=d) (by omega) (by omega) (by omega) _ i (Nat.le_refl _) h1 hi fun i2 j2 a1 a2 a3=>?_).step fun k hk=>?_
  ·cases m with
   | zero=>omega
   | succ m=>exact Zkm hn ha m (i2+1) (j2 - 1) (Go.Sort.swp d i2 j2) (by omega) (by omega) (by omega) (by omega) (by rw [Yv]; exact hd)
  ·rw [Q114.l0];exact hk
theorem Zqu {a b p:Nat} {d:Array Int} (hab:a<b) (hp:p<d.size) (hb:b<=d.size) (hd:d.size<=1000000000000000):Ev (fun k=>Q114.f k d.toList (a:Int) (b:Int) (p:Int)) (Zar (Go.Sort.partitionEqual ltI d a b p)):=by
 refine (Zkm (a:=a) (n:=d.size) hd (by omega) _ (a+1) (b - 1) (Go.Sort.swp d a p) (Nat.le_refl _) (by omega) (by omega) (by omega) (Yv d a p)).next fun k hk=>?_;unfold Q114.f;rw [iV,iV,gta,gta,tN,tN,W1,wn (n:=a+1) (by omega) (by omega),wn (x:=(b:Int) - 1) (n:=b - 1) (by omega) (by omega)];exact hk
def Zih (d:Array Int) (a j:Nat):Int×Bool×List Int:=((j:Int),false,(Go.Sort.swp d j a).toList)
def Zau (a i2 j2:Nat) (d:Array Int):Nat×Array Int:=if i2>j2 then (j2,d) else Go.Sort.partLoop ltI a (i2+1) (j2 - 1) (Go.Sort.swp d i2 j2)
theorem Zmr {a i j:Nat} {d:Array Int} (h1:1<=i):Go.Sort.partLoop ltI a i j d=Zau a (Go.Sort.scanUp (fun x=>ltI x d[a]!) d j i) (Go.Sort.scanDown (fun x=>!ltI x d[a]!) d (Go.Sort.scanUp (fun x=>ltI x d[a]!) d j i) j) d:=by
 have u:=(Zbv (fun x=>ltI x d[a]!) d j _ i (Nat.le_refl _)).1;have v:=Jj (fun x=>!ltI x d[a]!) d (Go.Sort.scanUp (fun x=>ltI x d[a]!) d j i) j;rw [Go.Sort.partLoop];unfold Zau;split
 ·rfl
 ·rw [dif_pos (by omega)]
structure Part4 (a:Nat) (F2 F3 F4:Nat->List Int->Int->Int->Option TP):Prop where
 h2:∀ k x i j,F2 (k+1) x i j=F3 k x j i
 h3:∀ k x j i,F3 (k+1) x j i=if (decide (i<=j))=true then (if 0<=i/\i<(x.length:Int) then (if 0<=(a:Int)/\(a:Int)<(x.length:Int) then ((Q32.f (gt x i) (gt x (a:Int))).bind fun r3=>(if r3=true then (F3 k x j (w64 (i+1))) else (F4 k x i j))) else none) else none) else (F4 k x i j)
 h4:∀ k x i j,F4 (k+1) x i j=if (decide (i<=j))=true then (if 0<=j/\j<(x.length:Int) then (if 0<=(a:Int)/\(a:Int)<(x.length:Int) then ((Q32.f (gt x j) (gt x (a:Int))).bind fun r4=>(if (!r4)=true then (F4 k x i (w64 (j - 1))) else (if (decide (j<i))=true then (if 0<=(a:Int)/\(a:Int)<(x.length:Int) then (if 0<=j/\j<(x.length:Int) then (some (j,false,((x.set j.toNat (gt x (a:Int))).set (a:Int).toNat (gt x j)))) else none) else none) else (if 0<=j/\j<(x.length:Int) then (if 0<=i/\i<(x.length:Int) then (F2 k ((x.set i.toNat (gt x j)).set j.toNat (gt x i)) (w64 (i+1)) (w64 (j - 1))) else none) else none)))) else none) else none) else (if (decide (j<i))=true then (if 0<=(a:Int)/\(a:Int)<(x.length:Int) then (if 0<=j/\j<(x.length:Int) then (some (j,false,((x.set j.toNat (gt x (a:Int))).set (a:Int).toNat (gt x j)))) else none) else none) else (if 0<=j/\j<(x.length:Int) then (if 0<=i/\i<(x.length:Int) then (F2 k ((x.set i.toNat (gt x j)).set j.toNat (gt x i)) (w64 (i+1)) (w64 (j - 1))) else none) else none))
section
variable {a:Nat} {F2 F3 F4:Nat->List Int->Int->Int->Option TP} (P:Part4 a F2 F3 F4)
include P
theorem Ze4 {i2:Nat} {d:Array Int} (hi:1<=i2) (ha:a<d.size) (hd:d.size<=1000000000000000) (hi2:i2<=1000000000000001):∀(j:Nat),j<d.size->(∀ j2,j2<=j->i2<=j2->Ev (fun k=>F2 k (Go.Sort.swp d i2 j2).toList ((i2+1:Nat):Int) ((j2 - 1:Nat):Int)) (let r:=Go.Sort.partLoop ltI a (i2+1) (j2 - 1) (Go.Sort.swp d i2 j2); Zih r.2 a r.1))->
  Ev (fun k=>F4 k d.toList (i2:Int) (j:Int)) (let r:=Zau a i2 (Go.Sort.scanDown (fun x=>!ltI x d[a]!) d i2 j) d; Zih r.2 a r.1)
 | 0,hj,h=>by
  unfold Go.Sort.scanDown Zau;rw [iO];exact Ev.last fun k=>by rw [P.h4,iN,iP,iV,iV,gta,gta,tN,tN,W1]; rfl
 | j+1,hj,h=>by
  have e1:w64 (((j+1:Nat):Int) - 1)=(j:Int):=wn (by omega) (by omega);have e2:w64 ((i2:Int)+1)=((i2+1:Nat):Int):=wn (by omega) (by omega);unfold Go.Sort.scanDown;by_cases c:i2<=j+1
  ·by_cases q:ltI d[j+1]! d[a]! = true
   ·rw [iF (by simp [q])];unfold Zau;rw [iQ];refine (h (j+1) (Nat.le_refl _) c).step fun k hk=>?_;rw [P.h4,iP,iV,iV,gta,gta,Xp,bS,iF (by simp [q]),iN,iV,iV,gta,tN,tN,W1,e1,e2];exact hk
   ·rw [iT (by simp [c,q])];refine (Ze4 hi ha hd hi2 j (by omega) fun j2 a b=>h j2 (by omega) b).step fun k hk=>?_;rw [P.h4,iP,iV,iV,gta,gta,Xp,bS,iT (by simp [q]),e1];exact hk
  ·rw [iF (by simp [c])];unfold Zau;rw [iO];exact Ev.last fun k=>by rw [P.h4,iN,iP,iV,iV,gta,gta,tN,tN,W1]; rfl
theorem Zpj {j:Nat} {d:Array Int} (ha:a<d.size) (hd:d.size<=1000000000000000) (hj:j<d.size):∀(m i:Nat),j+1 - i<=m->1<=i->i<=1000000000000001->(∀ i2 j2,i<=i2->j2<=j->i2<=j2->Ev (fun k=>F2 k (Go.Sort.swp d i2 j2).toList ((i2+1:Nat):Int) ((j2 - 1:Nat):Int)) (let r:=Go.Sort.partLoop ltI a (i2+1) (j2 - 1) (Go.Sort.swp d i2 j2); Zih r.2 a r.1))->
  Ev (fun k=>F3 k d.toList (j:Int) (i:Int)) (let r:=Zau a (Go.Sort.scanUp (fun x=>ltI x d[a]!) d j i) (Go.Sort.scanDown (fun x=>!ltI x d[a]!) d (Go.Sort.scanUp (fun x=>ltI x d[a]!) d j i) j) d; Zih r.2 a r.1)
 | m,i,hm,h1,hi,h=>by
  have e2:w64 ((i:Int)+1)=((i+1:Nat):Int):=wn (by omega) (by omega);rw [Go.Sort.scanUp];by_cases c:i<=j
  ·by_cases q:ltI d[i]! d[a]! = true
   ·cases m with
    | zero=>omega
    | succ m=>
    rw [iT (by simp [c,q])];refine (Zpj ha hd hj m (i+1) (by omega) (by omega) (by omega) fun i2 j2 a b c=>h i2 j2 (by omega) b c).step fun k hk=>?_;rw [P.h3,iP,iV,iV,gta,gta,Xp,bS,iT q,e2];exact hk
   ·rw [iF (by simp [q])];refine (Ze4 P h1 ha hd hi j hj fun j2 a b=>h i j2 (Nat.le_refl _) a b).step fun k hk=>?_;rw [P.h3,iP,iV,iV,gta,gta,Xp,bS,iF q];exact hk
  ·rw [iF (by simp [c])];refine (Ze4 P h1 ha hd hi j hj fun j2 a b=>h i j2 (Nat.le_refl _) a b).step fun k hk=>?_;rw [P.h3,iN];exact hk
theorem Zkw {n:Nat} (hn:n<=1000000000000000) (ha:a<n):∀(m i j:Nat) (d:Array Int),j+1 - i<=m->1<=i->i<=1000000000000001->j<n->d.size=n->Ev (fun k=>F2 k d.toList (i:Int) (j:Int)) (let r:=Go.Sort.partLoop ltI a i j d; Zih r.2 a r.1)
 | m,i,j,d,hm,h1,hi,hj,hd=>by
  rw [Zmr h1];refine (Zpj P (j:=j) (d:=d) (by omega) (by omega) (by omega) _ i (Nat.le_refl _) h1 hi fun i2 j2 a1 a2 a3=>?_).step fun k hk=>?_
  ·cases m with
   | zero=>omega
   | succ m=>exact Zkw hn ha m (i2+1) (j2 - 1) (Go.Sort.swp d i2 j2) (by omega) (by omega) (by omega) (by omega) (by rw [Yv]; exact hd)
  ·rw [P.h2];exact hk
end
theorem Zrj (a:Nat):Part4 a (fun k x i j=>Q115.l0 k (a:Int) x i j) (fun k x j i=>Q115.l2 k (a:Int) x j i) (fun k x i j=>Q115.l1 k (a:Int) x i j):=
 ⟨fun k x i j=>by rw [Q115.l0],fun k x j i=>by rw [Q115.l2],fun k x i j=>by rw [Q115.l1]⟩
def Zow (r:Nat×Bool×Array Int):Int×Bool×List Int:=((r.1:Int),r.2.1,r.2.2.toList)
def Zcr (a i j:Nat) (d:Array Int):Nat×Bool×Array Int:=if i>j then (j,true,Go.Sort.swp d j a) else ((Go.Sort.partLoop ltI a (i+1) (j - 1) (Go.Sort.swp d i j)).1,false,Go.Sort.swp (Go.Sort.partLoop ltI a (i+1) (j - 1) (Go.Sort.swp d i j)).2 (Go.Sort.partLoop ltI a (i+1) (j - 1) (Go.Sort.swp d i j)).1 a)
theorem Zey {a p i:Nat} {d e:Array Int} (he:e=Go.Sort.swp d a p) (hi:1<=i) (ha:a<d.size) (hp:p<d.size) (hd:d.size<=1000000000000000) (hi2:i<=1000000000000001):∀(j:Nat),j<d.size->Ev (fun k=>Q115.l3 k d.toList (a:Int) (p:Int) (i:Int) (j:Int)) (Zow (Zcr a i (Go.Sort.scanDown (fun x=>!ltI x e[a]!) e i j) e))
 | 0,hj=>by
  have se:e.size=d.size:=by rw [he,Yv]
  unfold Go.Sort.scanDown Zcr;rw [iO];exact Ev.last fun k=>by
   rw [Q115.l3,iN,iP,gta,gta,tN,tN,W1,<- he,iV,iV,gta,gta,tN,W1];rfl
 | j+1,hj=>by
  have se:e.size=d.size:=by rw [he,Yv]
  have e1:w64 (((j+1:Nat):Int) - 1)=(j:Int):=wn (by omega) (by omega);have e2:w64 ((i:Int)+1)=((i+1:Nat):Int):=wn (by omega) (by omega);unfold Go.Sort.scanDown;by_cases c:i<=j+1
  ·by_cases q:ltI e[j+1]! e[a]! = true
   ·rw [iF (by simp [q])];unfold Zcr;rw [iQ];refine (Zkw (Zrj a) (n:=d.size) hd ha _ (i+1) j (Go.Sort.swp e i (j+1)) (Nat.le_refl _) (by omega) (by omega) (by omega) (by rw [Yv,se])).step fun k hk=>?_;rw [Q115.l3,iP,gta,gta,tN,tN,W1,<- he,iV,iV,gta,gta,Xp,bS,iF (by simp [q]),iN,iV,iV,gta,tN,tN,W1,e1,e2];exact hk
   ·rw [iT (by simp [c,q])];refine (Zey he hi ha hp hd hi2 j (by omega)).step fun k hk=>?_;rw [Q115.l3,iP,gta,gta,tN,tN,W1,<- he,iV,iV,gta,gta,Xp,bS,iT (by simp [q]),e1];exact hk
  ·rw [iF (by simp [c])];unfold Zcr;rw [iO];exact Ev.last fun k=>by
    rw [Q115.l3,iN,iP,gta,gta,tN,tN,W1,<- he,iV,iV,gta,gta,tN,W1];rfl
theorem Zpy {a b p:Nat} {d e:Array Int} (he:e=Go.Sort.swp d a p) (hab:a<b) (hb:b<=d.size) (hp:p<d.size) (hd:d.size<=1000000000000000):∀(m i:Nat),b - i<=m->1<=i->i<=1000000000000001->Ev (fun k=>Q115.l4 k d.toList (a:Int) (b:Int) (p:Int) (i:Int)) (Zow (Zcr a (Go.Sort.scanUp (fun x=>ltI x e[a]!) e (b - 1) i) (Go.Sort.scanDown (fun x=>!ltI x e[a]!) e (Go.Sort.scanUp (fun x=>ltI x e[a]!) e (b - 1) i) (b - 1)) e))
 | m,i,hm,h1,hi=>by
  have se:e.size=d.size:=by rw [he,Yv]
  have e2:w64 ((i:Int)+1)=((i+1:Nat):Int):=wn (by omega) (by omega);have e3:w64 ((b:Int) - 1)=((b - 1:Nat):Int):=wn (by omega) (by omega);rw [Go.Sort.scanUp];by_cases c:i<=b - 1
  ·by_cases q:ltI e[i]! e[a]! = true
   ·cases m with
    | zero=>omega
    | succ m=>
    rw [iT (by simp [c,q])];refine (Zpy he hab hb hp hd m (i+1) (by omega) (by omega) (by omega)).step fun k hk=>?_;rw [Q115.l4,e3,iP,gta,gta,tN,tN,W1,<- he,iV,iV,gta,gta,Xp,bS,iT q,e2];exact hk
   ·rw [iF (by simp [q])];refine (Zey he h1 (by omega) hp hd hi (b - 1) (by omega)).step fun k hk=>?_;rw [Q115.l4,e3,iP,gta,gta,tN,tN,W1,<- he,iV,iV,gta,gta,Xp,bS,iF q];exact hk
  ·rw [iF (by simp [c])];refine (Zey he h1 (by omega) hp hd hi (b - 1) (by omega)).step fun k hk=>?_;rw [Q115.l4,e3,iN];exact hk
theorem Zs9 {a b p:Nat} {d:Array Int} (hab:a<b) (hp:p<d.size) (hb:b<=d.size) (hd:d.size<=1000000000000000):Ev (fun k=>Q115.f k d.toList (a:Int) (b:Int) (p:Int)) (Zow (Go.Sort.partition ltI d a b p)):=by
 have e:Go.Sort.partition ltI d a b p=Zcr a (Go.Sort.scanUp (fun x=>ltI x (Go.Sort.swp d a p)[a]!) (Go.Sort.swp d a p) (b - 1) (a+1)) (Go.Sort.scanDown (fun x=>!ltI x (Go.Sort.swp d a p)[a]!) (Go.Sort.swp d a p) (Go.Sort.scanUp (fun x=>ltI x (Go.Sort.swp d a p)[a]!) (Go.Sort.swp d a p) (b - 1) (a+1)) (b - 1)) (Go.Sort.swp d a p):=rfl;rw [e];refine (Zpy (e:=Go.Sort.swp d a p) rfl hab hb hp hd _ (a+1) (Nat.le_refl _) (by omega) (by omega)).next fun k hk=>?_;unfold Q115.f;rw [iV,iV,wn (n:=a+1) (by omega) (by omega)];exact hk
theorem G9 (n:Nat):uH.wrap (n:Int)=((n % 18446744073709551616:Nat):Int):=by
 simp [IntKind.wrap,IntKind.bits,IntKind.signed]
theorem bvx {x y:Nat} (hx:x<18446744073709551616) (hy:y<18446744073709551616):((ofInt uH.bits (x:Int) ^^^ ofInt uH.bits (y:Int)).toNat)=x ^^^ y:=by
 show (ofInt 64 (x:Int) ^^^ ofInt 64 (y:Int)).toNat=x ^^^ y;rw [BitVec.toNat_xor,BitVec.ofInt_natCast,BitVec.ofInt_natCast,BitVec.toNat_ofNat,BitVec.toNat_ofNat,Nat.mod_eq_of_lt hx,Nat.mod_eq_of_lt hy]
theorem Zl1 {x:Nat} (r s:UInt64) (hx:x=s.toNat):uH.wrap (((ofInt uH.bits (r.toNat:Int) ^^^ ofInt uH.bits (x:Int)).toNat:Int))=((r ^^^ s).toNat:Int):=by
 have h1:r.toNat<18446744073709551616:=r.toNat_lt;have h2:s.toNat<18446744073709551616:=s.toNat_lt;have h3:(r ^^^ s).toNat<18446744073709551616:=(r ^^^ s).toNat_lt;rw [hx,bvx h1 h2,G9,UInt64.toNat_xor] at *;rw [Nat.mod_eq_of_lt h3]
theorem Zsc (r:UInt64) (n:Nat) (hn:n<64):uH.wrap ((r.toNat:Int)*2 ^ n)=(((r <<< (UInt64.ofNat n)).toNat:Nat):Int):=by
 rw [show (r.toNat:Int)*2 ^ n=((r.toNat*2 ^ n:Nat):Int) by simp,G9,UInt64.toNat_shiftLeft,Nat.shiftLeft_eq];have:(UInt64.ofNat n).toNat % 64=n:=by simp; omega
 rw [this]
theorem Zt0 (r:UInt64) (n:Nat) (hn:n<64):Int.fdiv (r.toNat:Int) (2 ^ n)=(((r >>> (UInt64.ofNat n)).toNat:Nat):Int):=by
 rw [UInt64.toNat_shiftRight,Nat.shiftRight_eq_div_pow];have:(UInt64.ofNat n).toNat % 64=n:=by simp; omega
 rw [this,Int.fdiv_eq_ediv_of_nonneg _ (by exact_mod_cast Nat.zero_le _)];simp
theorem Ztf (r:UInt64):Q119.f (r.toNat:Int)=some (((Go.Sort.xorNext r).toNat:Int),((Go.Sort.xorNext r).toNat:Int)):=by
 have xe:Go.Sort.xorNext r=(fun r1:UInt64=>(fun r2:UInt64=>r2 ^^^ (r2 <<< 17)) (r1 ^^^ (r1 >>> 7))) (r ^^^ (r <<< 13)):=rfl;unfold Q119.f;rw [xe];dsimp only;have e1:uH.wrap ((r.toNat:Int)*2 ^ 13)=(((r <<< 13).toNat:Nat):Int):=Zsc r 13 (by decide);rw [e1,Zl1 r (r <<< 13) rfl];generalize r ^^^ (r <<< 13)=r1;have e2:Int.fdiv (r1.toNat:Int) (2 ^ 7)=(((r1 >>> 7).toNat:Nat):Int):=Zt0 r1 7 (by decide);rw [e2,Zl1 r1 (r1 >>> 7) rfl];generalize r1 ^^^ (r1 >>> 7)=r2;have e3:uH.wrap ((r2.toNat:Int)*2 ^ 17)=(((r2 <<< 17).toNat:Nat):Int):=Zsc r2 17 (by decide);rw [e3,Zl1 r2 (r2 <<< 17) rfl]
theorem fdN (n k:Nat):Int.fdiv (n:Int) (2 ^ k)=((n / 2 ^ k:Nat):Int):=by
 rw [Int.fdiv_eq_ediv_of_nonneg _ (by exact Int.le_of_lt (Int.pow_pos (by decide))),Int.natCast_ediv,Int.natCast_pow]; rfl
theorem Ja {n k:Nat} (h:2 ^ k<=n):Go.Sort.bitsLen n=k+Go.Sort.bitsLen (n / 2 ^ k):=by
 have hp:0<2 ^ k:=Nat.two_pow_pos k;refine Nat.le_antisymm ((Go.Sort.bitsLen_le_iff _ _).2 ?_) ?_
 ·have:=(Go.Sort.bitsLen_le_iff (n / 2 ^ k) _).1 (Nat.le_refl _);rw [Nat.pow_add,Nat.mul_comm];exact (Nat.div_lt_iff_lt_mul hp).1 this
 ·have hm:=(Go.Sort.bitsLen_le_iff n _).1 (Nat.le_refl _);have hk:k<=Go.Sort.bitsLen n:=by
   rcases Nat.lt_or_ge (Go.Sort.bitsLen n) k with z | z
   ·have:=Nat.pow_le_pow_right (n:=2) (by decide) (Nat.le_of_lt z); omega
   ·exact z
  have:=(Go.Sort.bitsLen_le_iff (n / 2 ^ k) (Go.Sort.bitsLen n - k)).2 ((Nat.div_lt_iff_lt_mul hp).2 (by rw [<- Nat.pow_add,Nat.sub_add_cancel hk]; exact hm));omega
theorem Bi {T:TZ} (hT:∀ x:Fin 256,(0<=uA.wrap ((x:Nat):Int)/\uA.wrap ((x:Nat):Int)<(T.length:Int))/\w64 (gtb T (uA.wrap ((x:Nat):Int)))=((Go.Sort.bitsLen x:Nat):Int)) {c:Int} {m n x:Nat} (hx:x<256) (hc:c=(m:Int)) (hm:m<=60) (e:n=m+Go.Sort.bitsLen x):(if 0<=uA.wrap (x:Int)/\uA.wrap (x:Int)<(T.length:Int) then some (w64 (c+w64 (gtb T (uA.wrap (x:Int))))) else none)=some (n:Int):=by
 obtain ⟨h1,h2⟩:=hT ⟨x,hx⟩;replace h2:w64 (gtb T (uA.wrap (x:Int)))=((Go.Sort.bitsLen x:Nat):Int):=h2;have hb:Go.Sort.bitsLen x<=8:=(Go.Sort.bitsLen_le_iff _ _).2 hx;rw [iT h1,h2,hc,wI2,e];congr 1
set_option maxRecDepth 20000 in
theorem Zm7 {n:Nat} (h:n<1000000000000000):Q1.f (n:Int)=some ((Go.Sort.bitsLen n:Nat):Int):=by
 unfold Q1.f;simp only [fdN];by_cases a:2 ^ 32<=n
 ·rw [iP,Ja a];by_cases b:2 ^ 16<=n / 2 ^ 32
  ·rw [iP,Ja b];by_cases d:2 ^ 8<=n / 2 ^ 32 / 2 ^ 16
   ·rw [iP,Ja d];exact Bi (by decide +kernel) (by omega) (m:=56) rfl (by decide) (by omega)
   ·rw [iN];exact Bi (by decide +kernel) (by omega) (m:=48) rfl (by decide) (by omega)
  ·rw [iN];by_cases d:2 ^ 8<=n / 2 ^ 32
   ·rw [iP,Ja d];exact Bi (by decide +kernel) (by omega) (m:=40) rfl (by decide) (by omega)
   ·rw [iN];exact Bi (by decide +kernel) (by omega) (m:=32) rfl (by decide) (by omega)
 ·rw [iN];by_cases b:2 ^ 16<=n
  ·rw [iP,Ja b];by_cases d:2 ^ 8<=n / 2 ^ 16
   ·rw [iP,Ja d];exact Bi (by decide +kernel) (by omega) (m:=24) rfl (by decide) (by omega)
   ·rw [iN];exact Bi (by decide +kernel) (by omega) (m:=16) rfl (by decide) (by omega)
  ·rw [iN];by_cases d:2 ^ 8<=n
   ·rw [iP,Ja d];exact Bi (by decide +kernel) (by omega) (m:=8) rfl (by decide) (by omega)
   ·rw [iN];exact Bi (by decide +kernel) (by omega) (m:=0) rfl (by decide) (by omega)
theorem Zt2 {n:Nat} (h:n<1000000000000000):Q111.f (n:Int)=some ((1 <<< Go.Sort.bitsLen n:Nat):Int):=by
 have hb:Go.Sort.bitsLen n<=50:=(Go.Sort.bitsLen_le_iff _ _).2 (Nat.lt_of_lt_of_le h (by decide));have hq:2 ^ Go.Sort.bitsLen n<=2 ^ 50:=Nat.pow_le_pow_right (by decide) hb;unfold Q111.f Q0.f;rw [G9,Nat.mod_eq_of_lt (by omega),Zm7 h,bS,bS,iO,tN,Nat.min_eq_left (by omega),Nat.one_shiftLeft,Int.one_mul,show ((2:Int) ^ Go.Sort.bitsLen n)=((2 ^ Go.Sort.bitsLen n:Nat):Int) by rw [Int.natCast_pow]; rfl,G9,Nat.mod_eq_of_lt (by omega)]
theorem Zt1 {r:UInt64} {M:Nat} (h1:1<=M) (h2:M<=4000000000000000):w64 (uH.wrap (((ofInt uH.bits (r.toNat:Int) &&& (ofInt uH.bits (uH.wrap ((M:Int) - 1)))).toNat:Int)))=((r.toNat &&& (M - 1):Nat):Int):=by
 have hr:r.toNat<18446744073709551616:=r.toNat_lt;have e1:(M:Int) - 1=((M - 1:Nat):Int):=by omega
 have hle:r.toNat &&& (M - 1)<=M - 1:=Nat.and_le_right;have e2:(ofInt uH.bits (r.toNat:Int) &&& ofInt uH.bits ((M - 1:Nat):Int)).toNat=r.toNat &&& (M - 1):=by
  show (ofInt 64 (r.toNat:Int) &&& ofInt 64 ((M - 1:Nat):Int)).toNat=r.toNat &&& (M - 1);rw [BitVec.toNat_and,BitVec.ofInt_natCast,BitVec.ofInt_natCast,BitVec.toNat_ofNat,BitVec.toNat_ofNat,Nat.mod_eq_of_lt hr,Nat.mod_eq_of_lt (by omega)]
 rw [e1,show uH.wrap ((M - 1:Nat):Int)=((M - 1:Nat):Int) by rw [G9,Nat.mod_eq_of_lt (by omega)],e2,G9,Nat.mod_eq_of_lt (by omega),wI2]
theorem Zc8 {a b M i:Nat} {d:Array Int} {r:UInt64} {R:T3} (h8:8<=b - a) (hb:b<=d.size) (hd:d.size<1000000000000000) (ha:a<=i) (hi:i<=a+(b - a) / 4*2+1) (hM:M=1 <<< Go.Sort.bitsLen (b - a))
  (h:Ev (fun k=>Q105.l0 k (a:Int) (b:Int) (M:Int) (Go.Sort.breakStep a (b - a) M (r,d) i).2.toList ((Go.Sort.breakStep a (b - a) M (r,d) i).1.toNat:Int) ((i+1:Nat):Int)) R) :
  Ev (fun k=>Q105.l0 k (a:Int) (b:Int) (M:Int) d.toList (r.toNat:Int) (i:Int)) R:=by
 have e1:w64 ((b:Int) - (a:Int))=((b - a:Nat):Int):=wn (by omega) (by omega);have e2:w64 (Int.tdiv ((b - a:Nat):Int) 4)=(((b - a) / 4:Nat):Int):=by
  rw [show Int.tdiv ((b - a:Nat):Int) 4=(((b - a) / 4:Nat):Int) from rfl,wI2]
 have e3:w64 ((((b - a) / 4:Nat):Int)*2)=(((b - a) / 4*2:Nat):Int):=wn (by omega) (by omega);have e4:w64 ((a:Int)+(((b - a) / 4*2:Nat):Int))=((a+(b - a) / 4*2:Nat):Int):=wn (by omega) (by omega);have e5:w64 (((a+(b - a) / 4*2:Nat):Int)+1)=((a+(b - a) / 4*2+1:Nat):Int):=wn (by omega) (by omega);have e6:w64 ((i:Int)+1)=((i+1:Nat):Int):=wn (by omega) (by omega);have hp:=Go.Sort.two_pow_bitsLen_le (n:=b - a) (by omega);have hq:1<=2 ^ Go.Sort.bitsLen (b - a):=Nat.two_pow_pos _;rw [Nat.one_shiftLeft] at hM;rw [<- hM] at hp hq;have eb:Go.Sort.breakStep a (b - a) M (r,d) i=(Go.Sort.xorNext r,Go.Sort.swp d i (a+if (Go.Sort.xorNext r).toNat &&& (M - 1)>=b - a then ((Go.Sort.xorNext r).toNat &&& (M - 1)) - (b - a) else (Go.Sort.xorNext r).toNat &&& (M - 1))):=rfl
 rw [eb] at h;have hle:(Go.Sort.xorNext r).toNat &&& (M - 1)<=M - 1:=Nat.and_le_right;have hand:=Zt1 (r:=Go.Sort.xorNext r) (M:=M) hq (by omega);refine h.step fun k hk=>?_;rw [Q105.l0,e1,e2,e3,e4,e5,iP,Ztf,bS];dsimp only;rw [hand];generalize (Go.Sort.xorNext r).toNat &&& (M - 1)=o at *;by_cases c:o>=b - a
 ·have e7:w64 ((o:Int) - ((b - a:Nat):Int))=((o - (b - a):Nat):Int):=wn (by omega) (by omega);have e8:w64 ((a:Int)+((o - (b - a):Nat):Int))=((a+(o - (b - a)):Nat):Int):=wn (by omega) (by omega);rw [iT c] at hk;rw [iP,e7,e8,iV,iV,gta,gta,tN,tN,W1,e6];exact hk
 ·have e8:w64 ((a:Int)+(o:Int))=((a+o:Nat):Int):=wn (by omega) (by omega);rw [iF c] at hk;rw [iN,e8,iV,iV,gta,gta,tN,tN,W1,e6];exact hk
theorem Ze8 (a L M i:Nat) (st:UInt64×Array Int):(Go.Sort.breakStep a L M st i).2.size=st.2.size:=by
 unfold Go.Sort.breakStep;exact Yv _ _ _
theorem Zrv {a b:Nat} {d:Array Int} (hab:a<=b) (hb:b<=d.size) (hd:d.size<1000000000000000):Ev (fun k=>Q105.f k d.toList (a:Int) (b:Int)) (Go.Sort.breakPatterns d a b).toList:=by
 have e1:w64 ((b:Int) - (a:Int))=((b - a:Nat):Int):=wn (by omega) (by omega);by_cases h8:b - a>=8
 ·have e2:w64 (Int.tdiv ((b - a:Nat):Int) 4)=(((b - a) / 4:Nat):Int):=by
   rw [show Int.tdiv ((b - a:Nat):Int) 4=(((b - a) / 4:Nat):Int) from rfl,wI2]
  have e3:w64 ((((b - a) / 4:Nat):Int)*2)=(((b - a) / 4*2:Nat):Int):=wn (by omega) (by omega);have e4:w64 ((a:Int)+(((b - a) / 4*2:Nat):Int))=((a+(b - a) / 4*2:Nat):Int):=wn (by omega) (by omega);have e5:w64 (((a+(b - a) / 4*2:Nat):Int) - 1)=((a+(b - a) / 4*2 - 1:Nat):Int):=wn (by omega) (by omega);have e6:w64 (((a+(b - a) / 4*2:Nat):Int)+1)=((a+(b - a) / 4*2+1:Nat):Int):=wn (by omega) (by omega);have hx:uH.wrap ((b - a:Nat):Int)=((UInt64.ofNat (b - a)).toNat:Int):=by
   rw [G9];have:(UInt64.ofNat (b - a)).toNat=(b - a) % 18446744073709551616:=by simp
   rw [this]
  have fin:∀(d':Array Int) (x:Int),Ev (fun k=>Q105.l0 k (a:Int) (b:Int) ((1 <<< Go.Sort.bitsLen (b - a):Nat):Int) d'.toList x ((a+(b - a) / 4*2 - 1+1+1+1:Nat):Int)) d'.toList:=fun d' x=>Ev.last fun k=>by
   rw [Q105.l0,e1,e2,e3,e4,e6,iN]
  have main:Ev (fun k=>Q105.l0 k (a:Int) (b:Int) ((1 <<< Go.Sort.bitsLen (b - a):Nat):Int) d.toList ((UInt64.ofNat (b - a)).toNat:Int) ((a+(b - a) / 4*2 - 1:Nat):Int)) (Go.Sort.breakPatterns d a b).toList:=by
   unfold Go.Sort.breakPatterns;rw [iT h8];refine Zc8 h8 hb hd (by omega) (by omega) rfl (Zc8 h8 ?_ ?_ (by omega) (by omega) rfl (Zc8 h8 ?_ ?_ (by omega) (by omega) rfl (fin _ _)))
   all_goals simp only [Ze8]
   all_goals first | exact hb | exact hd
  refine main.next fun k hk=>?_;unfold Q105.f;rw [e1,iP,Zt2 (n:=b - a) (by omega),bS,hx,e2,e3,e4,e5];exact hk
 ·refine Ev.all fun k=>?_;unfold Q105.f Go.Sort.breakPatterns;rw [e1,iN,iF h8]
def Zo2 (k:Nat) (a b lim m:Int) (ap:Bool) (d:T3):Option T3:=if (decide ((w64 (m - a))<(w64 (b - m))))=true then ((Q116.f k d a m lim).bind fun r10=>(Q116.l0 k r10 (w64 (m+1)) b lim (decide ((w64 (Int.tdiv (w64 (b - a)) 8))<=(w64 (m - a)))) ap)) else ((Q116.f k d (w64 (m+1)) b lim).bind fun r11=>(Q116.l0 k r11 a m lim (decide ((w64 (Int.tdiv (w64 (b - a)) 8))<=(w64 (b - m)))) ap))
theorem Zd2 (k:Nat) (x1:T3) (x2 x3 x4:Int) (x5 x6:Bool):Q116.l0 (k+1) x1 x2 x3 x4 x5 x6=if (decide ((w64 (x3 - x2))<=12))=true then ((Q108.f k x1 x2 x3).bind fun r1=>(some r1)) else (if (decide (x4=0))=true then ((Q107.f k x1 x2 x3).bind fun r2=>(some r2)) else (if (!x5)=true then ((Q105.f k x1 x2 x3).bind fun r3=>Q116.l1 k x2 x3 x5 x6 r3 (w64 (x4 - 1))) else Q116.l1 k x2 x3 x5 x6 x1 x4)):=by
 rw [Q116.l0]
section
variable {a b p lim:Nat} {d:Array Int} {wb wp:Bool} {r:T3}
theorem Zr7 (h1:1<=a) (hab:a<b) (hp:p<d.size) (hb:b<=d.size) (hd:d.size<1000000000000000) (hq:ltI d[a - 1]! d[p]! = false)
  (h:Ev (fun k=>Q116.l0 k (Go.Sort.partitionEqual ltI d a b p).2.toList ((Go.Sort.partitionEqual ltI d a b p).1:Int) (b:Int) (lim:Int) wb wp) r) :
  Ev (fun k=>Q116.l4 k (a:Int) (b:Int) wb wp (lim:Int) (p:Int) d.toList) r:=by
 have h5:Ev (fun k=>Q116.l5 k (a:Int) (b:Int) wb wp (lim:Int) (p:Int) d.toList true) r:=(Zqu hab hp hb (by omega)).step2 h fun k h1' h2=>by
  rw [Q116.l5,iT rfl,h1',bS];exact h2
 refine h5.step fun k hk=>?_;rw [Q116.l4,iP,wn (x:=(a:Int) - 1) (n:=a - 1) (by omega) (by omega),iV,iV,gta,gta,Xp,bS,hq];exact hk
theorem Zr8 (hab:a<b) (hp:p<d.size) (hb:b<=d.size) (hd:d.size<1000000000000000) (hq:(decide (a>0) && !ltI d[a - 1]! d[p]!)=false)
  (h:Ev (fun k=>Zo2 k (a:Int) (b:Int) (lim:Int) ((Go.Sort.partition ltI d a b p).1:Int) (Go.Sort.partition ltI d a b p).2.1 (Go.Sort.partition ltI d a b p).2.2.toList) r) :
  Ev (fun k=>Q116.l4 k (a:Int) (b:Int) wb wp (lim:Int) (p:Int) d.toList) r:=by
 have h5:Ev (fun k=>Q116.l5 k (a:Int) (b:Int) wb wp (lim:Int) (p:Int) d.toList false) r:=(Zs9 hab hp hb (by omega)).step2 h fun k h1' h2=>by
  rw [Q116.l5,vS,h1',bS];exact h2
 refine h5.step fun k hk=>?_;by_cases c:0<a
 ·have hq':ltI d[a - 1]! d[p]! = true:=by simpa [c] using hq
  rw [Q116.l4,iP,wn (x:=(a:Int) - 1) (n:=a - 1) (by omega) (by omega),iV,iV,gta,gta,Xp,bS,hq'];exact hk
 ·rw [Q116.l4,iN];exact hk
theorem Zr3 (hab:a<b) (hb:b<=d.size) (hd:d.size<1000000000000000) (h1:(Go.Sort.partialInsertionSort ltI d a b).2=true->(Go.Sort.partialInsertionSort ltI d a b).1.toList=r)
  (h2:(Go.Sort.partialInsertionSort ltI d a b).2=false->Ev (fun k=>Q116.l4 k (a:Int) (b:Int) wb wp (lim:Int) (p:Int) (Go.Sort.partialInsertionSort ltI d a b).1.toList) r):Ev (fun k=>Q116.l3 k (a:Int) (b:Int) wb wp (lim:Int) d.toList (p:Int) true) r:=by
 have h0:=Ztg hab hb (by omega);cases c:(Go.Sort.partialInsertionSort ltI d a b).2 with
 | true=>
  refine h0.step fun k hk=>?_;rw [Q116.l3,iT rfl,hk,bS,J9,c,iT rfl,h1 c]
 | false=>
  refine h0.step2 (h2 c) fun k hk hk2=>?_;rw [Q116.l3,iT rfl,hk,bS,J9,c,vS];exact hk2
end
def piP (k:Nat) (s:Go.Sort.Rd Int) (a b:Nat) (wb wp:Bool):Option T3:=if s.pi.2=true then some s.pi.1.toList else Q116.l4 k (a:Int) (b:Int) wb wp (s.lim:Int) (s.pivot:Int) s.pi.1.toList
theorem Zpl {h:Go.Sort.Hint}:decide (Zd5 h=2)=decide (h=.decreasing):=by cases h <;> rfl
theorem Zs4 {h:Go.Sort.Hint}:decide (Zd5 h=1)=decide (h=.increasing):=by cases h <;> rfl
section
variable {a b limit:Nat} {d:Array Int} {wb wp:Bool} {r:T3}
theorem Zrp {s:Go.Sort.Rd Int} {e:Array Int} (hab:a<b) (hb:b<=e.size) (hd:e.size<1000000000000000) (he:s.pi=Go.Sort.partialInsertionSort ltI e a b) (h:Ev (fun k=>piP k s a b wb wp) r) :
  Ev (fun k=>Q116.l3 k (a:Int) (b:Int) wb wp (s.lim:Int) e.toList (s.pivot:Int) true) r:=by
 refine Zr3 hab hb hd (fun c=>?_) fun c=>?_
 ·obtain ⟨k,h⟩:=h.ok;unfold piP at h;rw [he,c,iT rfl] at h;exact Option.some.inj h
 ·refine h.next fun k hk=>?_;unfold piP at hk;rw [he,c,vS] at hk;exact hk
theorem Ziq {s:Go.Sort.Rd Int} {e:Array Int} (he:s.pi=(e,false)) (h:Ev (fun k=>piP k s a b wb wp) r) :
  Ev (fun k=>Q116.l3 k (a:Int) (b:Int) wb wp (s.lim:Int) e.toList (s.pivot:Int) false) r:=by
 refine h.step fun k hk=>?_;unfold piP at hk;rw [he,vS] at hk;rw [Q116.l3,vS];exact hk
theorem Zsh {s:Go.Sort.Rd Int} (h12:12<b - a) (hb:b<=s.d1.size) (hd:s.d1.size<1000000000000000) (ec:s.c=Go.Sort.choosePivot ltI s.d1 a b) (hc:a<=s.c.1/\s.c.1<b)
  (e2:s.d2=if s.c.2=.decreasing then Go.Sort.reverseRange s.d1 a b else s.d1) (s2:s.d2.size=s.d1.size) (ep:s.pivot=if s.c.2=.decreasing then (b - 1) - (s.c.1 - a) else s.c.1) (eh:s.hint=if s.c.2=.decreasing then Go.Sort.Hint.increasing else s.c.2)
  (ei:s.pi=if wb && wp && s.hint=.increasing then Go.Sort.partialInsertionSort ltI s.d2 a b else (s.d2,false)) (h:Ev (fun k=>piP k s a b wb wp) r) :
  Ev (fun k=>Q116.l1 k (a:Int) (b:Int) wb wp s.d1.toList (s.lim:Int)) r:=by
 have hpv:=Zrg (d:=s.d1) (a:=a) (b:=b) (by omega) hb h12 (by omega);rw [<- ec] at hpv;have fin:∀ hI:Int,decide (hI=1)=decide (s.hint=.increasing)->Ev (fun k=>Q116.l2 k (a:Int) (b:Int) wb wp (s.lim:Int) s.d2.toList (s.pivot:Int) hI) r:=fun hI hh=>by
  cases wb with
  | false=>exact (Ziq (by simpa using ei) h).step fun k hk=>by rw [Q116.l2,vS]; exact hk
  | true=>
   cases wp with
   | false=>exact (Ziq (by simpa using ei) h).step fun k hk=>by rw [Q116.l2,iT rfl,vS]; exact hk
   | true=>
    by_cases q:s.hint=.increasing
    ·exact (Zrp (e:=s.d2) (by omega) (by omega) (by omega) (by simpa [q] using ei) h).step fun k hk=>by rw [Q116.l2,iT rfl,iT rfl,hh,dT q]; exact hk
    ·exact (Ziq (by simpa [q] using ei) h).step fun k hk=>by rw [Q116.l2,iT rfl,iT rfl,hh,dF q]; exact hk
 by_cases c:s.c.2=.decreasing
 ·rw [iT c] at e2 ep eh;have e3:w64 ((b:Int) - 1)=((b - 1:Nat):Int):=wn (by omega) (by omega);have e4:w64 ((s.c.1:Int) - (a:Int))=((s.c.1 - a:Nat):Int):=wn (by omega) (by omega);have e5:w64 (((b - 1:Nat):Int) - ((s.c.1 - a:Nat):Int))=(s.pivot:Int):=wn (by omega) (by omega);have hr:=Zts (a:=a) (b:=b) (d:=s.d1) (by omega) (by omega) hb (by omega);rw [<- e2] at hr;refine hr.step2 (fin 1 (by rw [eh]; rfl)) fun k h1 h2=>?_;rw [Q116.l1,hpv,bS];dsimp only;rw [Zpl,iT (dT c),h1,bS,e3,e4,e5];exact h2
 ·rw [iF c] at e2 ep eh;refine (fin (Zd5 s.c.2) (by rw [eh]; exact Zs4)).step fun k h2=>?_;rw [Q116.l1,hpv,bS];dsimp only;rw [Zpl,iF (by simpa using c)];rw [e2,ep] at h2;exact h2
theorem Znm (h12:12<b - a) (hb:b<=d.size) (hd:d.size<1000000000000000) (hl:limit≠0) (hlim:limit<=100) (hB:Go.Sort.Below ltI a b d) (h:Ev (fun k=>piP k (Go.Sort.rd ltI d a b limit wb wp) a b wb wp) r) :
  Ev (fun k=>Q116.l0 k d.toList (a:Int) (b:Int) (limit:Int) wb wp) r:=by
 obtain ⟨f1,f2,f3,f4,f5,f6,f7,f8⟩:=Go.Sort.rd_facts (lt:=ltI) (wb:=wb) (wp:=wp) (limit:=limit) Go.Sort.swo_ltInt Go.Sort.partialInsertionSort_holds Go.Sort.reverseRange_holds (by omega) hb hB;have hm:=Zsh (s:=Go.Sort.rd ltI d a b limit wb wp) (wb:=wb) (wp:=wp) (r:=r) h12 (by rw [f1]; exact hb) (by rw [f1]; exact hd) rfl f3 rfl (by rw [f4,f1]) rfl rfl rfl h;have e1:w64 ((b:Int) - (a:Int))=((b - a:Nat):Int):=wn (by omega) (by omega);cases wb with
 | true=>
  refine hm.step fun k hk=>?_;rw [Zd2,e1,iN,iN,vS];exact hk
 | false=>
  refine (Zrv (a:=a) (b:=b) (d:=d) (by omega) hb hd).step2 hm fun k h1 hk=>?_;rw [Zd2,e1,iN,iN,iU,h1,bS,wn (x:=(limit:Int) - 1) (n:=limit - 1) (by omega) (by omega)];exact hk
end
theorem Zto:∀(m:Nat) (d:Array Int) (a b limit:Nat) (wb wp:Bool),b - a<=m->a<=b->b<=d.size->d.size<1000000000000000->limit<=100->Go.Sort.Below ltI a b d->
  Ev (fun k=>Q116.l0 k d.toList (a:Int) (b:Int) (limit:Int) wb wp) (Go.Sort.pdq ltI d a b limit wb wp).toList:=by
 intro m
 induction m using Nat.strongRecOn with
 | _ m ih=>
 intro d a b limit wb wp hm hab hb hd hlim hB;have e1:w64 ((b:Int) - (a:Int))=((b - a:Nat):Int):=wn (by omega) (by omega);by_cases h12:b - a<=12
 ·rw [Go.Sort.pdq_small h12];refine (Zp2 (a:=a) (b:=b) (d:=d) hb (by omega) (by omega)).step fun k hk=>?_;rw [Zd2,e1,iP,hk,bS]
 by_cases h0:limit=0
 ·rw [Go.Sort.pdq_heap h12 h0];refine (Ztb (a:=a) (b:=b) (d:=d) hab hb (by omega)).step fun k hk=>?_;rw [Zd2,e1,iN,iP,hk,bS]
 refine Znm (by omega) hb hd h0 hlim hB ?_;obtain ⟨f1,f2,f3,f4,f5,f6,f7,f8⟩:=Go.Sort.rd_facts (lt:=ltI) (wb:=wb) (wp:=wp) (limit:=limit) Go.Sort.swo_ltInt Go.Sort.partialInsertionSort_holds Go.Sort.reverseRange_holds (by omega) hb hB;have hlm:(Go.Sort.rd ltI d a b limit wb wp).lim<=limit:=Go.Sort.rd_lim_le;cases hpi:(Go.Sort.rd ltI d a b limit wb wp).pi.2 with
 | true=>
  rw [Go.Sort.pdq_done h12 h0 hpi];exact Ev.all fun k=>by unfold piP; rw [iT hpi]
 | false=>
 have red:∀ {r:T3},Ev (fun k=>Q116.l4 k (a:Int) (b:Int) wb wp ((Go.Sort.rd ltI d a b limit wb wp).lim:Int) ((Go.Sort.rd ltI d a b limit wb wp).pivot:Int) (Go.Sort.rd ltI d a b limit wb wp).pi.1.toList) r->Ev (fun k=>piP k (Go.Sort.rd ltI d a b limit wb wp) a b wb wp) r:=fun h=>h.next fun k hk=>by
  unfold piP;rw [hpi,vS];exact hk
 have hsz:b<=(Go.Sort.rd ltI d a b limit wb wp).pi.1.size:=by rw [f7]; exact hb
 cases hq:(decide (a>0) && !ltI (Go.Sort.rd ltI d a b limit wb wp).pi.1[a - 1]! (Go.Sort.rd ltI d a b limit wb wp).pi.1[(Go.Sort.rd ltI d a b limit wb wp).pivot]!) with
 | true=>
  have hq':=hq;simp only [Bool.and_eq_true,dE,Bool.not_eq_true'] at hq';obtain ⟨g1,g2,g3,g4,g5⟩:=Go.Sort.round_eq (lt:=ltI) Go.Sort.swo_ltInt (Go.Sort.partitionEqual_holds ltI) hq'.1 f6.1 f6.2 hsz f8 hq'.2 (mid:=(Go.Sort.partitionEqual ltI (Go.Sort.rd ltI d a b limit wb wp).pi.1 a b (Go.Sort.rd ltI d a b limit wb wp).pivot).1) (d4:=(Go.Sort.partitionEqual ltI (Go.Sort.rd ltI d a b limit wb wp).pi.1 a b (Go.Sort.rd ltI d a b limit wb wp).pivot).2) rfl;rw [Go.Sort.pdq_eq h12 h0 hpi hq ⟨g1,g2⟩];refine red (Zr7 (by omega) (by omega) (by omega) hsz (by omega) hq'.2 ?_);exact ih (b - (Go.Sort.partitionEqual ltI (Go.Sort.rd ltI d a b limit wb wp).pi.1 a b (Go.Sort.rd ltI d a b limit wb wp).pivot).1) (by omega) _ _ _ _ _ _ (Nat.le_refl _) g2 (by rw [g3]; exact hsz) (by omega) (by omega) g4
 | false=>
  obtain ⟨g1,g2,g3,g4,g5,g6,g7⟩:=Go.Sort.round_part (lt:=ltI) Go.Sort.swo_ltInt (Go.Sort.partition_holds ltI) f6.1 f6.2 hsz f8 (mid:=(Go.Sort.partition ltI (Go.Sort.rd ltI d a b limit wb wp).pi.1 a b (Go.Sort.rd ltI d a b limit wb wp).pivot).1) (ap:=(Go.Sort.partition ltI (Go.Sort.rd ltI d a b limit wb wp).pi.1 a b (Go.Sort.rd ltI d a b limit wb wp).pivot).2.1) (d4:=(Go.Sort.partition ltI (Go.Sort.rd ltI d a b limit wb wp).pi.1 a b (Go.Sort.rd ltI d a b limit wb wp).pivot).2.2) rfl;refine red (Zr8 (by omega) (by omega) hsz (by omega) hq ?_);have e2:∀ x:Nat,x=b - a->w64 (Int.tdiv (x:Int) 8)=(((b - a) / 8:Nat):Int):=fun x hx=>by
   rw [hx,show Int.tdiv ((b - a:Nat):Int) 8=(((b - a) / 8:Nat):Int) from rfl,wI2]
  by_cases hlt:(Go.Sort.partition ltI (Go.Sort.rd ltI d a b limit wb wp).pi.1 a b (Go.Sort.rd ltI d a b limit wb wp).pivot).1 - a<b - (Go.Sort.partition ltI (Go.Sort.rd ltI d a b limit wb wp).pi.1 a b (Go.Sort.rd ltI d a b limit wb wp).pivot).1
  ·rw [Go.Sort.pdq_left h12 h0 hpi hq ⟨g1,g2⟩ hlt];generalize Go.Sort.partition ltI (Go.Sort.rd ltI d a b limit wb wp).pi.1 a b (Go.Sort.rd ltI d a b limit wb wp).pivot=pt at *;have e3:w64 ((pt.1:Int) - (a:Int))=((pt.1 - a:Nat):Int):=wn (by omega) (by omega);have e4:w64 ((b:Int) - (pt.1:Int))=((b - pt.1:Nat):Int):=wn (by omega) (by omega);have e5:w64 ((pt.1:Int)+1)=((pt.1+1:Nat):Int):=wn (by omega) (by omega);have hs:=Go.Sort.pdq_sorts ltI Go.Sort.swo_ltInt pt.2.2 a pt.1 (Go.Sort.rd ltI d a b limit wb wp).lim true true g1 (by omega) g4;have c1:=(ih (pt.1 - a) (by omega) pt.2.2 a pt.1 (Go.Sort.rd ltI d a b limit wb wp).lim true true (Nat.le_refl _) g1 (by omega) (by omega) (by omega) g4).step (F:=fun k=>Q116.f k pt.2.2.toList (a:Int) (pt.1:Int) ((Go.Sort.rd ltI d a b limit wb wp).lim:Int)) fun k hk=>by rw [Q116.f]; exact hk
   have c2:=ih (b - (pt.1+1)) (by omega) (Go.Sort.pdq ltI pt.2.2 a pt.1 (Go.Sort.rd ltI d a b limit wb wp).lim true true) (pt.1+1) b (Go.Sort.rd ltI d a b limit wb wp).lim (decide (pt.1 - a>=(b - a) / 8)) pt.2.1 (Nat.le_refl _) (by omega) (by rw [hs.1.1]; omega) (by rw [hs.1.1]; omega) (by omega) (g6 _ hs.1 hs.2).1;refine c1.next2 c2 fun k k1 k2=>?_;unfold Zo2;rw [e3,e4,e5,e1,e2 _ rfl,iP,k1,bS,show decide ((((b - a) / 8:Nat):Int)<=((pt.1 - a:Nat):Int))=decide (pt.1 - a>=(b - a) / 8) by congr 1; exact propext (by omega)];exact k2
  ·rw [Go.Sort.pdq_right h12 h0 hpi hq ⟨g1,g2⟩ hlt];generalize Go.Sort.partition ltI (Go.Sort.rd ltI d a b limit wb wp).pi.1 a b (Go.Sort.rd ltI d a b limit wb wp).pivot=pt at *;have e3:w64 ((pt.1:Int) - (a:Int))=((pt.1 - a:Nat):Int):=wn (by omega) (by omega);have e4:w64 ((b:Int) - (pt.1:Int))=((b - pt.1:Nat):Int):=wn (by omega) (by omega);have e5:w64 ((pt.1:Int)+1)=((pt.1+1:Nat):Int):=wn (by omega) (by omega);have hs:=Go.Sort.pdq_sorts ltI Go.Sort.swo_ltInt pt.2.2 (pt.1+1) b (Go.Sort.rd ltI d a b limit wb wp).lim true true (by omega) (by omega) g5;have c1:=(ih (b - (pt.1+1)) (by omega) pt.2.2 (pt.1+1) b (Go.Sort.rd ltI d a b limit wb wp).lim true true (Nat.le_refl _) (by omega) (by omega) (by omega) (by omega) g5).step (F:=fun k=>Q116.f k pt.2.2.toList ((pt.1+1:Nat):Int) (b:Int) ((Go.Sort.rd ltI d a b limit wb wp).lim:Int)) fun k hk=>by rw [Q116.f]; exact hk
   have c2:=ih (pt.1 - a) (by omega) (Go.Sort.pdq ltI pt.2.2 (pt.1+1) b (Go.Sort.rd ltI d a b limit wb wp).lim true true) a pt.1 (Go.Sort.rd ltI d a b limit wb wp).lim (decide (b - pt.1>=(b - a) / 8)) pt.2.1 (Nat.le_refl _) (by omega) (by rw [hs.1.1]; omega) (by rw [hs.1.1]; omega) (by omega) (g7 _ hs.1 hs.2).1;refine c1.next2 c2 fun k k1 k2=>?_;unfold Zo2;rw [e3,e4,e5,e1,e2 _ rfl,iN,k1,bS,show decide ((((b - a) / 8:Nat):Int)<=((b - pt.1:Nat):Int))=decide (b - pt.1>=(b - a) / 8) by congr 1; exact propext (by omega)];exact k2
theorem Zqm {n:Nat} (h:n<1000000000000000):Q0.f (uH.wrap (n:Int))=some ((Go.Sort.bitsLen n:Nat):Int):=by
 unfold Q0.f;rw [G9,Nat.mod_eq_of_lt (by omega),Zm7 (n:=n) (by omega),bS]
theorem Zps {l:T3} (h:l.length<1000000000000000):Ev (fun k=>Q104.f k l) (l.mergeSort fun x y=>decide (x<=y)):=by
 have e:=Go.Sort.sortInt l;have hb:Go.Sort.bitsLen l.length<=100:=(Go.Sort.bitsLen_le_iff _ _).2 (Nat.lt_of_lt_of_le h (by decide));have hp:=Zto l.length l.toArray 0 l.toArray.size (Go.Sort.bitsLen l.toArray.size) true true (by simp) (Nat.zero_le _) (Nat.le_refl _) (by simpa using h) (by simpa using hb) (Or.inl rfl);have e2:(Go.Sort.pdq ltI l.toArray 0 l.toArray.size (Go.Sort.bitsLen l.toArray.size) true true).toList=l.mergeSort fun x y=>decide (x<=y):=e;rw [e2] at hp;have hf:Ev (fun k=>Q116.f k l 0 (l.length:Int) ((Go.Sort.bitsLen l.length:Nat):Int)) (l.mergeSort fun x y=>decide (x<=y)):=hp.step fun k hk=>by
  rw [Q116.f];simpa using hk
 refine hf.next fun k hk=>?_;unfold Q104.f;rw [Zqm h,bS,hk,bS]
theorem Zo9 {α:Type} {xs ys:List α} {l m:Nat} (h:l+m<=xs.length):(patch xs l m ys).length=xs.length:=by
 unfold patch;simp only [lA,length_take,length_drop];omega
theorem Zex {n i:Nat} (hn:n<=1000000000000000) (hi:1<=i):∀(m t j:Nat) (x:T3),x.length=n->i+t+m=n->1<=t->i<=j->j+1<=i+t->∃ r,Ev (fun k=>Q92.l1 k (i:Int) x (j:Int) (t:Int)) r/\r.length<n
 | 0,t,j,x,hx,h,ht,hj,hjt=>by
  have hd:(x.drop j).length=n - j:=by rw [length_drop,hx]
  have hp:(patch x j (x.drop j).length (List.replicate (x.drop j).length (0:Int))).length=n:=by rw [Zo9 (by omega),hx]
  refine ⟨(patch x j (x.drop j).length (List.replicate (x.drop j).length (0:Int))).take j,Ev.last fun k=>?_,by rw [length_take]; omega⟩;rw [Q92.l1,iF (by simp only [tN,length_drop,dE]; omega),iO,tN,iO]
 | m+1,t,j,x,hx,h,ht,hj,hjt=>by
  have e1:w64 ((t:Int) - 1)=((t - 1:Nat):Int):=wn (by omega) (by omega);have e2:w64 ((t:Int)+1)=((t+1:Nat):Int):=wn (by omega) (by omega);have e3:w64 ((j:Int)+1)=((j+1:Nat):Int):=wn (by omega) (by omega);have hd:(x.drop i).length=n - i:=by rw [length_drop,hx]
  by_cases q:gt (x.drop i) (t:Int)=gt (x.drop i) ((t - 1:Nat):Int)
  ·obtain ⟨r,h1,h2⟩:=Zex hn hi m (t+1) j x hx (by omega) (by omega) hj (by omega);refine ⟨r,h1.step fun k hk=>?_,h2⟩;rw [Q92.l1,tN,iP,iO,e1,iO,iF (by simp [q]),e2];exact hk
  ·obtain ⟨r,h1,h2⟩:=Zex hn hi m (t+1) (j+1) (x.set j (gt (x.drop i) (t:Int))) (by rw [length_set,hx]) (by omega) (by omega) (by omega) (by omega);refine ⟨r,h1.step fun k hk=>?_,h2⟩;rw [Q92.l1,tN,iP,iO,e1,iO,iT (by simp [q]),iO,tN,e2,e3];exact hk
def Zoh (l:T3):Prop:=∀ q,q+1<l.length->l.getD (q+1) 0≠l.getD q 0
theorem Zj8 {l:T3} (hn:l.length<=1000000000000000):∀(m i:Nat),i+m=l.length->1<=i->(∀ q,q+1<i->l.getD (q+1) 0≠l.getD q 0)->∃ r,Ev (fun k=>Q92.l0 k l (i:Int)) r/\(r.length=l.length↔Zoh l)
 | 0,i,h,hi,hq=>by
  refine ⟨l,Ev.last fun k=>?_,fun _ q hq'=>hq q (by omega),fun _=>rfl⟩;rw [Q92.l0,iN]
 | m+1,i,h,hi,hq=>by
  have e1:w64 ((i:Int) - 1)=((i - 1:Nat):Int):=wn (by omega) (by omega);have e2:w64 ((i:Int)+1)=((i+1:Nat):Int):=wn (by omega) (by omega);have g1:gt l (i:Int)=l.getD i 0:=Zt l i;have g2:gt l ((i - 1:Nat):Int)=l.getD (i - 1) 0:=Zt l (i - 1);by_cases c:l.getD i 0=l.getD (i - 1) 0
  ·obtain ⟨r,h1,h2⟩:=Zex hn hi (l.length - i - 1) 1 i l rfl (by omega) (Nat.le_refl _) (Nat.le_refl _) (Nat.le_refl _);refine ⟨r,h1.step fun k hk=>?_,fun e=>by omega,fun e=>absurd c (by have:=e (i - 1) (by omega); rwa [Nat.sub_add_cancel hi] at this)⟩;rw [Q92.l0,iP,iO,e1,iO,g1,g2,iT (dT c),iO];exact hk
  ·obtain ⟨r,h1,h2⟩:=Zj8 hn m (i+1) (by omega) (by omega) fun q hq'=>by
    by_cases e:q+1=i
    ·rw [e,show q=i - 1 by omega]; exact c
    ·exact hq q (by omega)
   refine ⟨r,h1.step fun k hk=>?_,h2⟩;rw [Q92.l0,iP,iO,e1,iO,g1,g2,iF (by simpa using c),e2];exact hk
theorem Zoi {l:T3} (hn:l.length<=1000000000000000):∃ r,Ev (fun k=>Q92.f k l) r/\(r.length=l.length↔Zoh l):=by
 by_cases h:l.length<2
 ·refine ⟨l,Ev.all fun k=>?_,fun _ q hq=>by omega,fun _=>rfl⟩;unfold Q92.f;rw [iP]
 ·obtain ⟨r,h1,h2⟩:=Zj8 hn (l.length - 1) 1 (by omega) (Nat.le_refl _) (fun q hq=>by omega);refine ⟨r,h1.next fun k hk=>?_,h2⟩;unfold Q92.f;rw [iN];exact hk
theorem Znb {l:T3} (hs:l.Pairwise (fun x y=>x<=y)):Zoh l↔l.Nodup:=by
 constructor
 ·intro h;rw [List.Nodup,List.pairwise_iff_getElem];intro i j hi hj hij e;have h1:=h i (by omega);rw [List.getD_eq_getElem?_getD,List.getD_eq_getElem?_getD,List.getElem?_eq_getElem (by omega),List.getElem?_eq_getElem hi] at h1;simp only [Option.getD_some] at h1;have a:=List.pairwise_iff_getElem.1 hs i (i+1) hi (by omega) (by omega);by_cases e1:i+1=j
  ·subst e1; exact h1 e.symm
  ·have b:=List.pairwise_iff_getElem.1 hs (i+1) j (by omega) hj (by omega);omega
 ·intro h q hq e;rw [List.getD_eq_getElem?_getD,List.getD_eq_getElem?_getD,List.getElem?_eq_getElem hq,List.getElem?_eq_getElem (by omega)] at e;exact (List.pairwise_iff_getElem.1 h q (q+1) (by omega) hq (by omega)) e.symm
theorem kids_all {c:Cfg} {l:T3}:(List.range' 0 l.length).all (J2 c l)=true↔(∀ x∈l,x≠0/\¬ c.1<=w64 x)/\l.Nodup:=by
 have gd:∀ i (h:i<l.length),l.getD i 0=l[i]:=fun i h=>by rw [List.getD_eq_getElem?_getD,List.getElem?_eq_getElem h]; rfl
 rw [List.all_eq_true];constructor
 ·intro h;refine ⟨fun x hx=>?_,?_⟩
  ·obtain ⟨i,hi,rfl⟩:=List.mem_iff_getElem.1 hx;have:=h i (by simp [hi]);simp only [J2,gd i hi,Bool.and_eq_true,Bool.not_eq_true',decide_eq_false_iff_not] at this;exact ⟨this.1,this.2.1⟩
  ·rw [List.Nodup,List.pairwise_iff_getElem];intro i j hi hj hij e;have:=h j (by simp [hj]);simp only [J2,Bool.and_eq_true,List.all_eq_true] at this;have:=this.2.2 i (by simp [hij]);simp only [neB,gd i hi,gd j hj,Bool.not_eq_true',decide_eq_false_iff_not] at this;exact this e
 ·rintro ⟨h1,h2⟩ i hi;have hi:i<l.length:=by simpa using hi
  simp only [J2,gd i hi,Bool.and_eq_true,Bool.not_eq_true',decide_eq_false_iff_not,List.all_eq_true];refine ⟨(h1 _ (List.getElem_mem hi)).1,(h1 _ (List.getElem_mem hi)).2,fun q hq=>?_⟩;have hq:q<i:=by simpa using hq
  simp only [neB,gd i hi,gd q (by omega),Bool.not_eq_true',decide_eq_false_iff_not];exact List.pairwise_iff_getElem.1 h2 q i (by omega) hi hq
def Zcb (c:Cfg) (l:T3):Bool:=decide (1<=l.length) && (decide ((l.length:Int)<=c.2.2.2.1) && (List.range' 0 l.length).all (J2 c l))
theorem Ztj {c:Cfg} {l:T3} (h80:l.length<=35184372087808) (hl:∀ x∈l,0<=x/\x<4294967296):Ev (fun k=>Q70.f k c l) (Zcb c l):=by
 have hclone:Q91.f l=some l:=by
  unfold Q91.f;rw [iV]; rfl
 obtain ⟨S,hS⟩:∃ S,S=l.mergeSort fun x y=>decide (x<=y):=⟨_,rfl⟩;have hperm:S.Perm l:=hS ▸ List.mergeSort_perm _ _;have hlen:S.length=l.length:=hperm.length_eq;have hsort:S.Pairwise (fun x y=>x<=y):=by
  have:=List.pairwise_mergeSort (le:=fun x y:Int=>decide (x<=y)) (fun a b c h1 h2=>by simp only [dE] at *; omega) (fun a b=>by simp only [Bool.or_eq_true,dE]; omega) l;rw [<- hS] at this;exact this.imp fun h=>of_decide_eq_true h
 have hs:=Zps (l:=l) (by omega);rw [<- hS] at hs;obtain ⟨r,hr1,hr2⟩:=Zoi (l:=S) (by omega);refine hs.next2 hr1 fun k k1 k2=>?_;unfold Q70.f;rw [hclone,bS,k1,bS];by_cases c1:l.length<1
 ·rw [iP];simp [Zcb,show ¬ 1<=l.length by omega]
 rw [iN];by_cases c2:c.2.2.2.1<(l.length:Int)
 ·rw [iT (dT c2)];simp [Zcb,show ¬ (l.length:Int)<=c.2.2.2.1 by omega]
 rw [iF (by simpa using c2),iO,wn (x:=(l.length:Int) - 1) (n:=l.length - 1) (by omega) (by omega)];have g0:gt S 0=S[0]'(by omega):=by
  rw [show (0:Int)=((0:Nat):Int) from rfl,Zt,List.getD_eq_getElem?_getD,List.getElem?_eq_getElem (by omega)]; rfl
 have g1:gt S ((l.length - 1:Nat):Int)=S[l.length - 1]'(by omega):=by
  rw [Zt,List.getD_eq_getElem?_getD,List.getElem?_eq_getElem (by omega)]; rfl
 have m0:S[0]'(by omega)∈l:=hperm.mem_iff.1 (List.getElem_mem _);have m1:S[l.length - 1]'(by omega)∈l:=hperm.mem_iff.1 (List.getElem_mem _);rw [g0,g1];have base:Zcb c l=(List.range' 0 l.length).all (J2 c l):=by
  unfold Zcb;rw [dT (show 1<=l.length by omega),dT (show (l.length:Int)<=c.2.2.2.1 by omega)]; rfl
 rw [base];by_cases c3:S[0]'(by omega)=0
 ·rw [iT (dT c3)];refine congrArg some (Bool.eq_false_iff.2 fun e=>?_).symm;exact ((kids_all.1 e).1 _ m0).1 c3
 rw [iF (by simpa using c3),iO];by_cases c4:c.1<=w64 (S[l.length - 1]'(by omega))
 ·rw [iT (dT c4)];refine congrArg some (Bool.eq_false_iff.2 fun e=>?_).symm;exact ((kids_all.1 e).1 _ m1).2 c4
 rw [iF (by simpa using c4),k2,bS];have key:r.length=l.length↔(List.range' 0 l.length).all (J2 c l)=true:=by
  rw [<- hlen,hr2,Znb hsort,hperm.nodup_iff,hlen,kids_all];refine ⟨fun h=>⟨fun x hx=>?_,h⟩,fun h=>h.2⟩;obtain ⟨i,hi,rfl⟩:=List.mem_iff_getElem.1 (hperm.mem_iff.2 hx);have a0:=hl _ m0;have a1:=hl _ m1;have ax:=hl _ hx;have b0:S[0]'(by omega)<=S[i]:=by
   by_cases z:i=0
   ·subst z; exact Int.le_refl _
   ·exact List.pairwise_iff_getElem.1 hsort 0 i (by omega) hi (by omega)
  have b1:S[i]<=S[l.length - 1]'(by omega):=by
   by_cases z:i=l.length - 1
   ·subst z; exact Int.le_refl _
   ·exact List.pairwise_iff_getElem.1 hsort i (l.length - 1) hi (by omega) (by omega)
  rw [wI2] at c4 ⊢;exact ⟨by omega,by omega⟩
 refine congrArg some (Bool.eq_iff_iff.2 ?_);rw [dE,<- key];omega
theorem Zin (s:Sp) (x:TZ):Q62.f s x=some (inS s x):=by
 unfold Q62.f inS;cases Op.bytesLess x s.1 <;> cases s.2.2 <;> rfl
theorem Zjv (a b:TZ):Q60.f a b=some (Xo a b):=rfl
theorem Zbi {l:TR} (s:Sp) (hl:l.length<=35184372087808):∀(k i:Nat),i<=l.length->l.length - i<k->Q56.l0 k l s (i:Int)=some ((l.drop i).all (piv s) && Wc (l.drop (i - 1)))
 | 0,i,_,h=>by omega
 | k+1,i,hi,hk=>by
  rw [Q56.l0];by_cases h:i<l.length
  ·have g1:(0:Int)<=(i:Int)/\(i:Int)<(l.length:Int):=by omega
   have eta:(s.1,s.2.1,s.2.2)=s:=rfl;have ih:=Zbi s hl k (i+1) (by omega) (by omega);rw [iT (dT g1.2),iT g1,Zt]; (try rw [eta]); rw [Zin,bS,wS2,ih,Z9 h,List.all_cons,Nat.add_sub_cancel]
   simp only [piv];cases h1:inS s (l.getD i default) with
   | false=>rfl
   | true=>
    by_cases e:l.getD i default=s.1
    ·rw [vS,iT (dT e),dT e]; rfl
    ·rw [vS,iF (by simp only [e,decide_false]; simp)];by_cases h0:0<i
     ·have g2:(0:Int)<=((i - 1:Nat):Int)/\((i - 1:Nat):Int)<(l.length:Int):=by omega
      rw [iP,Jh h0 (by omega),iT g2,Zt,Zjv,bS,Zca];have:=Zaf (l:=l) (i:=i - 1) (by omega);rw [Nat.sub_add_cancel h0] at this;rw [this,dF e];show (if (!Op.bytesLess (l.getD (i - 1) []) (l.getD i []))=true then _ else _)=_
      cases Op.bytesLess (l.getD (i - 1) []) (l.getD i []) <;> simp
     ·obtain rfl:i=0:=by omega
      rw [vS,dF e];simp
  ·rw [iN,dN,Zgm (by omega)];rfl
theorem Zm9 {l:TR} (s:Sp) (hl:l.length<=35184372087808) {k:Nat} (hk:l.length+100<k):Q56.f k l s=some (l.all (piv s) && Wc l):=by
 have:=Zbi s hl k 0 (by omega) (by omega);simpa [Q56.f] using this
theorem Zk7 {l:List Pr} (hl:l.length<=35184372087808) {k:Nat} (hk:l.length<k):Q58.f k l=some (Uk l):=by
 have:=Bs (key:=fun x:Pr=>x.1) (F:=fun k i=>Q58.l0 k l i) (by omega) (fun k i=>rfl) k 0 (by omega) (by omega);rw [Zj5];simpa [Q58.f] using this
theorem Zl8 {l:List Msg} (hl:l.length<=35184372087808) {k:Nat} (hk:l.length<k):Q12.f k l=some (U0 l):=by
 have:=Bs (key:=fun x:Msg=>x.1) (F:=fun k i=>Q12.l0 k l i) (by omega) (fun k i=>rfl) k 0 (by omega) (by omega);rw [Zku];simpa [Q12.f] using this
theorem Je {α:Type} [Inhabited α] {l:List α} {F:Nat->Int->Option Int} {p:α->Bool} (hl:l.length<=35184372087808)
  (hF:∀ k i,F (k+1) i=if (decide (i<(l.length:Int)))=true then (if 0<=i/\i<(l.length:Int) then (if p (gt l i)=true then (some i) else (F k (w64 (i+1)))) else none) else (some (-1))) :
  ∀(m i k:Nat),i+m=l.length->m<k->∃ r,F k (i:Int)=some r/\decide (0<=r)=(l.drop i).any p
 | 0,i,0,_,h=>by omega
 | m+1,i,0,_,h=>by omega
 | 0,i,k+1,h,_=>⟨-1,by rw [hF,iN],by rw [dN]; rfl⟩
 | m+1,i,k+1,h,hk=>by
  rw [hF,iP,iO,Zt,Z9 (show i<l.length by omega),List.any_cons];by_cases c:p (l.getD i default)=true
  ·exact ⟨_,by rw [iT c],by rw [c,dT]; rfl⟩
  ·obtain ⟨r,h1,h2⟩:=Je hl hF m (i+1) k (by omega) (by omega);exact ⟨r,by rw [iF c,wS2,h1],by rw [h2,Bool.eq_false_iff.2 c]; rfl⟩
theorem Zdr (c:Cfg) (x:TZ):Q65.f c x=some (Y7 c x):=by
 unfold Q65.f Y7;by_cases h:1<=(x.length:Int) <;> simp [h]
theorem Zqb (p:Pr) (c:Cfg) (s:Sp):Q72.f p c s=some (!prB c s p):=by
 unfold Q72.f prB;rw [show Q65.f (c.1,c.2.1,c.2.2.1,c.2.2.2.1,c.2.2.2.2.1,c.2.2.2.2.2.1,c.2.2.2.2.2.2.1,c.2.2.2.2.2.2.2) p.1=_ from Zdr c p.1,bS,show Q62.f (s.1,s.2.1,s.2.2) p.1=_ from Zin s p.1,bS];by_cases e:c.2.2.2.2.2.2.2<(p.2.length:Int)
 ·rw [dT e,dF (show ¬ ((p.2.length:Int)<=c.2.2.2.2.2.2.2) by omega)];cases Y7 c p.1 <;> cases inS s p.1 <;> rfl
 ·rw [dF e,dT (show ((p.2.length:Int)<=c.2.2.2.2.2.2.2) by omega)];cases Y7 c p.1 <;> cases inS s p.1 <;> rfl
theorem Zq4 (x:TZ) (c:Cfg):Q68.f x c=some (!Y7 c x):=by
 unfold Q68.f;rw [show Q65.f (c.1,c.2.1,c.2.2.1,c.2.2.2.1,c.2.2.2.2.1,c.2.2.2.2.2.1,c.2.2.2.2.2.2.1,c.2.2.2.2.2.2.2) x=_ from Zdr c x,bS]
theorem Zqj (p:Msg) (c:Cfg) (s:Sp):Q69.f p c s=some (!Gw c s p):=by
 unfold Q69.f Gw;rw [show Q65.f (c.1,c.2.1,c.2.2.1,c.2.2.2.1,c.2.2.2.2.1,c.2.2.2.2.2.1,c.2.2.2.2.2.2.1,c.2.2.2.2.2.2.2) p.1=_ from Zdr c p.1,bS,show Q62.f (s.1,s.2.1,s.2.2) p.1=_ from Zin s p.1,bS];by_cases e:c.2.2.2.2.2.2.2<(p.2.2.length:Int)
 ·rw [dT e,dF (show ¬ ((p.2.2.length:Int)<=c.2.2.2.2.2.2.2) by omega)];cases Y7 c p.1 <;> cases inS s p.1 <;> rfl
 ·rw [dF e,dT (show ((p.2.2.length:Int)<=c.2.2.2.2.2.2.2) by omega)];cases Y7 c p.1 <;> cases inS s p.1 <;> cases p.2.1 <;> cases decide (p.2.2=[]) <;> rfl
theorem Zk9 {c:Cfg} {s:Sp} {l:List Pr} (hl:l.length<=35184372087808) {k:Nat} (hk:l.length<k):Q94.f k l c s=some (!l.all (prB c s)):=by
 obtain ⟨r,h1,h2⟩:=Je (l:=l) (F:=fun k i=>Q100.l0 k l c s i) (p:=fun x=>!prB c s x) hl (fun k i=>by
  show Q100.l0 (k+1) l c s i=_;rw [Q100.l0,Zqb,bS]) l.length 0 k (by omega) hk
 unfold Q94.f Q100.f;rw [show Q100.l0 k l (c.1,c.2.1,c.2.2.1,c.2.2.2.1,c.2.2.2.2.1,c.2.2.2.2.2.1,c.2.2.2.2.2.2.1,c.2.2.2.2.2.2.2) (s.1,s.2.1,s.2.2) 0=_ from h1,bS,h2,List.drop_zero];exact congrArg some (by rw [List.all_eq_not_any_not,Bool.not_not])
theorem Zlf {c:Cfg} {l:TR} (hl:l.length<=35184372087808) {k:Nat} (hk:l.length<k):Q97.f k l c=some (!l.all (Y7 c)):=by
 obtain ⟨r,h1,h2⟩:=Je (l:=l) (F:=fun k i=>Q103.l0 k l c i) (p:=fun x=>!Y7 c x) hl (fun k i=>by
  show Q103.l0 (k+1) l c i=_;rw [Q103.l0,Zq4,bS]) l.length 0 k (by omega) hk
 unfold Q97.f Q103.f;rw [show Q103.l0 k l (c.1,c.2.1,c.2.2.1,c.2.2.2.1,c.2.2.2.2.1,c.2.2.2.2.2.1,c.2.2.2.2.2.2.1,c.2.2.2.2.2.2.2) 0=_ from h1,bS,h2,List.drop_zero];exact congrArg some (by rw [List.all_eq_not_any_not,Bool.not_not])
theorem Zl0 {c:Cfg} {s:Sp} {l:List Msg} (hl:l.length<=35184372087808) {k:Nat} (hk:l.length<k):Q93.f k l c s=some (!l.all (Gw c s)):=by
 obtain ⟨r,h1,h2⟩:=Je (l:=l) (F:=fun k i=>Q99.l0 k l c s i) (p:=fun x=>!Gw c s x) hl (fun k i=>by
  show Q99.l0 (k+1) l c s i=_;rw [Q99.l0,Zqj,bS]) l.length 0 k (by omega) hk
 unfold Q93.f Q99.f;rw [show Q99.l0 k l (c.1,c.2.1,c.2.2.1,c.2.2.2.1,c.2.2.2.2.1,c.2.2.2.2.2.1,c.2.2.2.2.2.2.1,c.2.2.2.2.2.2.2) (s.1,s.2.1,s.2.2) 0=_ from h1,bS,h2,List.drop_zero];exact congrArg some (by rw [List.all_eq_not_any_not,Bool.not_not])
theorem Ztr {α:Type} [DecidableEq α] (l:List α):decide (0<(l.length:Int))=!decide (l=[]):=by cases l <;> simp
theorem Zla {c:Cfg} {s:Sp} {n:Nd} (h1:n.2.1.length<=35184372087808) (h2:n.2.2.1.length<=35184372087808) (h3:n.2.2.2.1.length<=35184372087808) (h4:n.2.2.2.2.length<=35184372087808) {k:Nat} (hk:n.2.2.2.2.length+100<k):Q71.f k c s n=some (Za4 c s n):=by
 unfold Q71.f Za4;rw [show Q94.f k n.2.2.2.2 (c.1,c.2.1,c.2.2.1,c.2.2.2.1,c.2.2.2.2.1,c.2.2.2.2.2.1,c.2.2.2.2.2.2.1,c.2.2.2.2.2.2.2) (s.1,s.2.1,s.2.2)=_ from Zk9 (c:=c) (s:=s) (by omega) (by omega),Zk7 (by omega) (by omega),bS,bS,
  wn (x:=(n.2.1.length:Int)+(n.2.2.1.length:Int)) (n:=n.2.1.length+n.2.2.1.length) (by omega) (by omega),wn (x:=((n.2.1.length+n.2.2.1.length:Nat):Int)+(n.2.2.2.1.length:Int)) (n:=n.2.1.length+n.2.2.1.length+n.2.2.2.1.length) (by omega) (by omega)]
 by_cases e1:n.2.1=[]
 ·by_cases e2:n.2.2.1=[]
  ·by_cases e3:n.2.2.2.1=[]
   ·by_cases e4:c.2.2.2.2.2.1<(n.2.2.2.2.length:Int)
    ·rw [iF (by simp [e1,e2,e3]),iT (dT e4),dF (show ¬ (n.2.2.2.2.length:Int)<=c.2.2.2.2.2.1 by omega)];simp
    ·rw [iF (by simp [e1,e2,e3]),iF (by simpa using e4),dT (show (n.2.2.2.2.length:Int)<=c.2.2.2.2.2.1 by omega),dT e1,dT e2,dT e3];cases Uk n.2.2.2.2 <;> cases n.2.2.2.2.all (prB c s) <;> rfl
   ·have:=List.length_pos_iff.2 e3;rw [iP,dF e3];simp
  ·have:=List.length_pos_iff.2 e2;rw [iP,dF e2];simp
 ·have:=List.length_pos_iff.2 e1;rw [iP,dF e1];simp
theorem Zlp {c:Cfg} {s:Sp} {n:Nd} (h1:n.2.1.length<=35184372087808) (h2:n.2.2.1.length<=35184372087808) (h3:n.2.2.2.1.length<=35184372087808) (h4:n.2.2.2.2.length<=35184372087808) (hl:∀ x∈n.2.1,0<=x/\x<4294967296):Ev (fun k=>Q67.f k c s n) (Zbz c s n):=by
 have hk:=Ztj (c:=c) h1 hl;have hbig:Ev (fun k=>if n.2.2.1.length+n.2.2.2.1.length+n.2.2.2.2.length+10000<k then some () else none) ():=⟨n.2.2.1.length+n.2.2.2.1.length+n.2.2.2.2.length+10000+1,fun k hk=>iO⟩
 refine hk.next2 hbig fun k k1 k2=>?_;have k2:n.2.2.1.length+n.2.2.2.1.length+n.2.2.2.2.length+10000<k:=by
  by_cases z:n.2.2.1.length+n.2.2.2.1.length+n.2.2.2.2.length+10000<k
  ·exact z
  ·rw [iF z] at k2; cases k2
 unfold Q67.f Zbz Zah Za7;rw [show Q70.f k (c.1,c.2.1,c.2.2.1,c.2.2.2.1,c.2.2.2.2.1,c.2.2.2.2.2.1,c.2.2.2.2.2.2.1,c.2.2.2.2.2.2.2) n.2.1=_ from k1,show Q93.f k n.2.2.2.1 (c.1,c.2.1,c.2.2.1,c.2.2.2.1,c.2.2.2.2.1,c.2.2.2.2.2.1,c.2.2.2.2.2.2.1,c.2.2.2.2.2.2.2) (s.1,s.2.1,s.2.2)=_ from Zl0 (c:=c) (s:=s) (by omega) (by omega),
  show Q97.f k n.2.2.1 (c.1,c.2.1,c.2.2.1,c.2.2.2.1,c.2.2.2.2.1,c.2.2.2.2.2.1,c.2.2.2.2.2.2.1,c.2.2.2.2.2.2.2)=_ from Zlf (c:=c) (by omega) (by omega),show Q56.f k n.2.2.1 (s.1,s.2.1,s.2.2)=_ from Zm9 s h2 (by omega),Zl8 (by omega) (by omega)]
 simp only [bS,Zcb];have y1:decide (40<n.1)=!decide (n.1<=40):=by by_cases q:n.1<=40 <;> simp [q] <;> omega
 have y3:decide (c.2.2.2.2.1<(n.2.2.2.1.length:Int))=!decide ((n.2.2.2.1.length:Int)<=c.2.2.2.2.1):=by by_cases q:(n.2.2.2.1.length:Int)<=c.2.2.2.2.1 <;> simp [q] <;> omega
 have y4:(1<=n.2.1.length)->decide ((n.2.2.1.length:Int)=w64 ((n.2.1.length:Int) - 1))=decide (n.2.2.1.length+1=n.2.1.length):=fun z=>by
  rw [wn (x:=(n.2.1.length:Int) - 1) (n:=n.2.1.length - 1) (by omega) (by omega)];congr 1;exact propext (by omega)
 rw [y1,y3,Ztr];by_cases z:1<=n.2.1.length
 ·rw [y4 z,dT z];cases decide (n.1<=40) <;> cases decide (n.2.2.2.2=[]) <;> cases decide ((n.2.1.length:Int)<=c.2.2.2.1) <;> cases (List.range' 0 n.2.1.length).all (J2 c n.2.1) <;> cases decide (n.2.2.1.length+1=n.2.1.length) <;> cases (n.2.2.1.all (piv s) && Wc n.2.2.1) <;> cases n.2.2.1.all (Y7 c) <;> cases decide ((n.2.2.2.1.length:Int)<=c.2.2.2.2.1) <;> cases U0 n.2.2.2.1 <;> cases n.2.2.2.1.all (Gw c s) <;> rfl
 ·rw [dF z];cases decide (n.1<=40) <;> cases decide (n.2.2.2.2=[]) <;> simp
def Yx (c:Cfg) (s:Sp) (n:Nd):Bool:=if n.1=0 then Za4 c s n else decide (0<n.1) && Zbz c s n
theorem Zeq {c:Cfg} {s:Sp} {n:Nd} (h1:n.2.1.length<=35184372087808) (h2:n.2.2.1.length<=35184372087808) (h3:n.2.2.2.1.length<=35184372087808) (h4:n.2.2.2.2.length<=35184372087808) (hl:∀ x∈n.2.1,0<=x/\x<4294967296):Ev (fun k=>Q66.f k c s n) (Yx c s n):=by
 have hbig:Ev (fun k=>if n.2.2.1.length+n.2.2.2.1.length+n.2.2.2.2.length+10000<k then some () else none) ():=⟨n.2.2.1.length+n.2.2.2.1.length+n.2.2.2.2.length+10000+1,fun k hk=>iO⟩
 refine (Zlp (c:=c) (s:=s) h1 h2 h3 h4 hl).next2 hbig fun k k1 k2=>?_;have k2:n.2.2.1.length+n.2.2.2.1.length+n.2.2.2.2.length+10000<k:=by
  by_cases z:n.2.2.1.length+n.2.2.2.1.length+n.2.2.2.2.length+10000<k
  ·exact z
  ·rw [iF z] at k2; cases k2
 unfold Q66.f Yx;rw [show Q67.f k (c.1,c.2.1,c.2.2.1,c.2.2.2.1,c.2.2.2.2.1,c.2.2.2.2.2.1,c.2.2.2.2.2.2.1,c.2.2.2.2.2.2.2) (s.1,s.2.1,s.2.2) (n.1,n.2.1,n.2.2.1,n.2.2.2.1,n.2.2.2.2)=_ from k1,
  show Q71.f k (c.1,c.2.1,c.2.2.1,c.2.2.2.1,c.2.2.2.2.1,c.2.2.2.2.2.1,c.2.2.2.2.2.2.1,c.2.2.2.2.2.2.2) (s.1,s.2.1,s.2.2) (n.1,n.2.1,n.2.2.1,n.2.2.2.1,n.2.2.2.2)=_ from Zla (c:=c) (s:=s) (by omega) (by omega) h3 h4 (by omega),bS,bS]
 by_cases c1:n.1<0
 ·rw [iT (dT c1),iQ,dF (show ¬ 0<n.1 by omega)]; rfl
 ·rw [iF (by simpa using c1)];by_cases c2:n.1=0
  ·rw [iT (dT c2),iT c2]
  ·rw [iF (by simpa using c2),iF c2,dT (show 0<n.1 by omega)]; rfl
def be:Nat->Nat->List UInt8
 | 0,_=>[]
 | w+1,v=>UInt8.ofNat (v / 256 ^ w) :: be w v
theorem Xf:∀ w v,(be w v).length=w
 | 0,_=>rfl
 | w+1,v=>by rw [be,length_cons,Xf w v]
def rdv (l:TZ):Nat:=l.foldl (fun a c=>a*256+c.toNat) 0
theorem Zdw:∀(l:TZ) (a:Nat),l.foldl (fun a c=>a*256+c.toNat) a=a*256 ^ l.length+rdv l
 | [],a=>by simp [rdv]
 | c :: l,a=>by
  unfold rdv;rw [List.foldl_cons,List.foldl_cons,Zdw l,Zdw l (0*256+c.toNat),length_cons,Nat.pow_succ,Nat.add_mul,Nat.zero_mul,Nat.zero_add];rw [Nat.mul_assoc,Nat.mul_comm 256,Nat.add_assoc]
theorem Ziv (c:UInt8) (l:TZ):rdv (c :: l)=c.toNat*256 ^ l.length+rdv l:=by
 unfold rdv;rw [List.foldl_cons,Zdw,Nat.zero_mul,Nat.zero_add]; rfl
theorem Zij:∀ l:List UInt8,rdv l<256 ^ l.length
 | []=>by simp [rdv]
 | c :: l=>by
  have h1:=Zij l;have h2:c.toNat<256:=c.toNat_lt;rw [Ziv,length_cons,Nat.pow_succ];have:c.toNat*256 ^ l.length<=255*256 ^ l.length:=Nat.mul_le_mul_right _ (by omega);omega
theorem Zmh:∀ w v,rdv (be w v)=v % 256 ^ w
 | 0,v=>by simp [be,rdv,Nat.mod_one]
 | w+1,v=>by
  rw [be,Ziv,Xf,Zmh w v];have e:(UInt8.ofNat (v / 256 ^ w)).toNat=v / 256 ^ w % 256:=by simp
  rw [e,Nat.pow_succ,Nat.mod_mul (a:=256 ^ w) (b:=256),Nat.mul_comm]; omega
theorem Zp0 {w v:Nat} (h:v<256 ^ w):rdv (be w v)=v:=by rw [Zmh,Nat.mod_eq_of_lt h]
def zs (n:Nat):List UInt8:=List.replicate n 0
theorem Ju (n:Nat):(zs n).length=n:=length_replicate
theorem Js (a b:Nat):zs a ++ zs b=zs (a+b):=by unfold zs; rw [List.replicate_append_replicate]
def slt (s:TZ) (n:Nat):List UInt8:=s ++ zs (n - s.length)
theorem Jg {s:TZ} {n:Nat} (h:s.length<=n):(slt s n).length=n:=by unfold slt; rw [lA,Ju]; omega
def prS (K V:Nat) (p:TM):List UInt8:=be 1 p.1.length ++ (be 2 p.2.length ++ (slt p.1 K ++ slt p.2 V))
theorem B3 {K V:Nat} {p:TM} (h1:p.1.length<=K) (h2:p.2.length<=V):(prS K V p).length=3+K+V:=by
 unfold prS;rw [lA,lA,lA,Xf,Xf,Jg h1,Jg h2]; omega
def msS (K V:Nat) (m:TF):List UInt8:=(if m.2.1=true then 2 else 1) :: prS K V (m.1,m.2.2)
theorem Zqe {K V:Nat} {m:TF} (h1:m.1.length<=K) (h2:m.2.2.length<=V):(msS K V m).length=4+K+V:=by
 unfold msS;rw [length_cons,B3 h1 h2]; omega
def pvS (K:Nat) (p:TZ):List UInt8:=be 1 p.length ++ slt p K
theorem Zfa {K:Nat} {p:TZ} (h1:p.length<=K):(pvS K p).length=1+K:=by
 unfold pvS;rw [lA,Xf,Jg h1]
def cat {α:Type} (f:α->List UInt8) (l:List α):List UInt8:=l.flatMap f
theorem Zac {α:Type} {f:α->List UInt8} {n:Nat}:∀ {l:List α},(∀ x∈l,(f x).length=n)->(cat f l).length=l.length*n
 | [],_=>by simp [cat]
 | x :: l,h=>by
  have:=Zac (l:=l) fun y hy=>h y (by simp [hy]);unfold cat at this ⊢;rw [List.flatMap_cons,lA,this,h x (by simp),length_cons,Nat.add_mul]; omega
def kdS (x:Int):List UInt8:=be 4 x.toNat
def cBy (c:Cfg):Nat:=c.2.1.toNat
def cFa (c:Cfg):Nat:=c.2.2.2.1.toNat
def cBu (c:Cfg):Nat:=c.2.2.2.2.1.toNat
def cLe (c:Cfg):Nat:=c.2.2.2.2.2.1.toNat
def cK (c:Cfg):Nat:=c.2.2.2.2.2.2.1.toNat
def zVv (c:Cfg):Nat:=c.2.2.2.2.2.2.2.toNat
def hdO (n:Nd):List UInt8:=1 :: 0 :: (be 2 n.2.2.2.2.length ++ zs 4)
def hdI (n:Nd):List UInt8:=2 :: (be 1 n.1.toNat ++ (be 2 n.2.1.length ++ (be 2 n.2.2.2.1.length ++ zs 2)))
theorem Zkr (n:Nd):(hdO n).length=8:=by simp [hdO,Xf,Ju]
theorem Zkh (n:Nd):(hdI n).length=8:=by simp [hdI,Xf,Ju]
def bdO (c:Cfg) (n:Nd):List UInt8:=cat (prS (cK c) (zVv c)) n.2.2.2.2
def bdI (c:Cfg) (n:Nd):List UInt8:=cat kdS n.2.1 ++ (zs (4*(cFa c - n.2.1.length)) ++ (cat (pvS (cK c)) n.2.2.1 ++ (zs ((1+cK c)*(cFa c - 1 - n.2.2.1.length)) ++ cat (msS (cK c) (zVv c)) n.2.2.2.1)))
def Bx (c:Cfg) (n:Nd):List UInt8:=if n.1=0 then hdO n ++ bdO c n else hdI n ++ bdI c n
def B1 (c:Cfg) (n:Nd):List UInt8:=slt (Bx c n) (cBy c)
structure FitN (c:Cfg) (n:Nd):Prop where
 lv:0<=n.1/\n.1<=40
 kd:∀ x∈n.2.1,0<=x/\x<4294967296
 o:n.1=0->n.2.1=[]/\n.2.2.1=[]/\n.2.2.2.1=[]/\n.2.2.2.2.length<=cLe c
 i:n.1≠0->n.2.2.2.2=[]/\1<=n.2.1.length/\n.2.1.length<=cFa c/\n.2.2.1.length+1=n.2.1.length/\n.2.2.2.1.length<=cBu c
 pk:∀ p∈n.2.2.1,p.length<=cK c
 ms:∀ m∈n.2.2.2.1,m.1.length<=cK c/\m.2.2.length<=zVv c
 rk:∀ p∈n.2.2.2.2,p.1.length<=cK c/\p.2.length<=zVv c
theorem OkC.nat {c:Cfg} (h:OkC c):8<=cFa c/\cFa c<=64/\1<=cK c/\cK c<=64/\zVv c<=256/\16<=cBu c/\cBu c<=512/\cBu c<=cLe c/\cLe c<=1024:=by
 have h1:=h.fan;have h2:=h.key;have h3:=h.val;have h4:=h.buf;have h5:=h.leaf;unfold cFa cK zVv cBu cLe;omega
theorem Zqh {c:Cfg} {n:Nd} (h:FitN c n):(bdO c n).length=n.2.2.2.2.length*(3+cK c+zVv c):=Zac fun p hp=>B3 (h.rk p hp).1 (h.rk p hp).2
theorem Zo7 (l:T3):(cat kdS l).length=l.length*4:=Zac fun p hp=>Xf 4 _
theorem Zof {c:Cfg} {n:Nd} (h:FitN c n):(cat (pvS (cK c)) n.2.2.1).length=n.2.2.1.length*(1+cK c):=Zac fun p hp=>Zfa (h.pk p hp)
theorem Zpe {c:Cfg} {n:Nd} (h:FitN c n):(cat (msS (cK c) (zVv c)) n.2.2.2.1).length=n.2.2.2.1.length*(4+cK c+zVv c):=Zac fun p hp=>Zqe (h.ms p hp).1 (h.ms p hp).2
theorem Zqw {c:Cfg} {n:Nd} (h:FitN c n) (h0:n.1≠0):(bdI c n).length=4*cFa c+(1+cK c)*(cFa c - 1)+n.2.2.2.1.length*(4+cK c+zVv c):=by
 obtain ⟨_,i2,i3,i4,_⟩:=h.i h0;unfold bdI;rw [lA,lA,lA,lA,Zo7,Ju,Zof h,Ju,Zpe h,Nat.mul_comm n.2.2.1.length];have e:(1+cK c)*n.2.2.1.length+(1+cK c)*(cFa c - 1 - n.2.2.1.length)=(1+cK c)*(cFa c - 1):=by rw [<- Nat.mul_add]; congr 1; omega
 omega
def szB (c:Cfg):Bool:=decide (8<=c.2.2.2.1/\c.2.2.2.1<=64) && (decide (1<=c.2.2.2.2.2.2.1/\c.2.2.2.2.2.2.1<=64) && (decide (0<=c.2.2.2.2.2.2.2/\c.2.2.2.2.2.2.2<=256) && (decide (2*c.2.2.2.1<=c.2.2.2.2.1/\c.2.2.2.2.1<=512) && decide (c.2.2.2.2.1<=c.2.2.2.2.2.1/\c.2.2.2.2.2.1<=1024))))
theorem B5 {c:Cfg} (h:szB c=true):OkC c:=by
 simp only [szB,Bool.and_eq_true,dE] at h;exact ⟨h.1,h.2.1,h.2.2.1,by omega,h.2.2.2.2⟩
def J5 (c:Cfg):Int:=8+(4+(c.2.2.2.1 - 1)*(5+c.2.2.2.2.2.2.1)+c.2.2.2.2.1*(4+c.2.2.2.2.2.2.1+c.2.2.2.2.2.2.2))
def Gm (c:Cfg):Int:=8+c.2.2.2.2.2.1*(3+c.2.2.2.2.2.2.1+c.2.2.2.2.2.2.2)
def okB (c:Cfg):Bool:=szB c && (decide (5<=c.1/\c.1<=65536) && (decide (8<=c.2.2.1/\c.2.2.1<=64) && (decide (64<=c.2.1/\c.2.1<=65536) && (decide (J5 c<=c.2.1) && decide (Gm c<=c.2.1)))))
theorem Zmp (a b c:Int):Q140.f a b c=some (decide (b<=a/\a<=c)):=by
 unfold Q140.f;by_cases h:b<=a <;> simp [h]
theorem Zb4 (c:Cfg):Q139.f c=some (szB c):=by
 unfold Q139.f szB;simp only [Zmp,bS];by_cases h1:8<=c.2.2.2.1/\c.2.2.2.1<=64
 ·have w:w64 (2*c.2.2.2.1)=2*c.2.2.2.1:=wI2;rw [w,dT h1];cases decide (1<=c.2.2.2.2.2.2.1/\c.2.2.2.2.2.2.1<=64) <;> cases decide (0<=c.2.2.2.2.2.2.2/\c.2.2.2.2.2.2.2<=256) <;> cases decide (2*c.2.2.2.1<=c.2.2.2.2.1/\c.2.2.2.2.1<=512) <;> rfl
 ·rw [dF h1]; rfl
theorem Zkc {c:Cfg} (hc:OkC c):∀(m i k:Nat) (x:Int),c.2.2.2.2.1=(i:Int)+m->m<k->0<=x->x+m*324<=1000000000->Q136.l1 k c x (i:Int)=some (x+m*(4+c.2.2.2.2.2.2.1+c.2.2.2.2.2.2.2))
 | 0,i,k+1,x,h,_,_,_=>by
  rw [Q136.l1,iN]; simp
 | m+1,i,k+1,x,h,hk,h0,h1=>by
  have a1:=hc.key;have a2:=hc.val;have hb:=hc.buf;rw [Q136.l1,iP,wI2 (x:=x+4),wI2 (x:=x+4+c.2.2.2.2.2.2.1),wI2 (x:=x+4+c.2.2.2.2.2.2.1+c.2.2.2.2.2.2.2),wS2,Zkc hc m (i+1) k _ (by omega) (by omega) (by omega) (by omega)];congr 1;rw [show ((m+1:Nat):Int)=(m:Int)+1 by omega,Int.add_mul]; omega
theorem Zkf {c:Cfg} (hc:OkC c):∀(m i k:Nat) (x:Int),1<=i->c.2.2.2.1=(i:Int)+m->m+600<k->0<=x->x+m*69<=100000->Q136.l0 k c x (i:Int)=some (x+m*(5+c.2.2.2.2.2.2.1)+c.2.2.2.2.1*(4+c.2.2.2.2.2.2.1+c.2.2.2.2.2.2.2))
 | 0,i,k+1,x,h2,h,hk,h0,h1=>by
  have hb:=hc.buf;obtain ⟨B,hB⟩:=Int.eq_ofNat_of_zero_le (show 0<=c.2.2.2.2.1 by omega);rw [Q136.l0,iN,show Q136.l1 k c x 0=_ from Zkc hc B 0 k x (by rw [hB]; simp) (by omega) h0 (by omega),hB]; simp
 | m+1,i,k+1,x,h2,h,hk,h0,h1=>by
  have a1:=hc.key;have hb:=hc.fan;rw [Q136.l0,iP,iP,wI2 (x:=x+4),wI2 (x:=x+4+1),wI2 (x:=x+4+1+c.2.2.2.2.2.2.1),wS2,Zkf hc m (i+1) k _ (by omega) (by omega) (by omega) (by omega) (by omega)];congr 1;rw [show ((m+1:Nat):Int)=(m:Int)+1 by omega,Int.add_mul]; omega
theorem Zq0 {c:Cfg} (h:szB c=true) {k:Nat} (hk:1000<k):Q136.f k c=some (J5 c):=by
 have hc:=B5 h;have hf:=hc.fan;obtain ⟨F,hF⟩:=Int.eq_ofNat_of_zero_le (show 0<=c.2.2.2.1 by omega);obtain ⟨k,rfl⟩:∃ q,k=q+1:=⟨k - 1,by omega⟩;unfold Q136.f;rw [show Q139.f (c.1,c.2.1,c.2.2.1,c.2.2.2.1,c.2.2.2.2.1,c.2.2.2.2.2.1,c.2.2.2.2.2.2.1,c.2.2.2.2.2.2.2)=_ from Zb4 c,h,bS,vS,Q136.l0,iP,vS,show w64 (8+4)=12 from rfl,show w64 (0+1)=((1:Nat):Int) from rfl,Zkf hc (F - 1) 1 k 12 (Nat.le_refl _) (by omega) (by omega) (by omega) (by omega),show ((F - 1:Nat):Int)=c.2.2.2.1 - 1 by omega];unfold J5;congr 1; omega
theorem Zkg {c:Cfg} (hc:OkC c):∀(m i k:Nat) (x:Int),c.2.2.2.2.2.1=(i:Int)+m->m<k->0<=x->x+m*324<=1000000000->Q137.l0 k c x (i:Int)=some (x+m*(3+c.2.2.2.2.2.2.1+c.2.2.2.2.2.2.2))
 | 0,i,k+1,x,h,_,_,_=>by
  rw [Q137.l0,iN]; simp
 | m+1,i,k+1,x,h,hk,h0,h1=>by
  have a1:=hc.key;have a2:=hc.val;have hb:=hc.leaf;rw [Q137.l0,iP,wI2 (x:=x+3),wI2 (x:=x+3+c.2.2.2.2.2.2.1),wI2 (x:=x+3+c.2.2.2.2.2.2.1+c.2.2.2.2.2.2.2),wS2,Zkg hc m (i+1) k _ (by omega) (by omega) (by omega) (by omega)];congr 1;rw [show ((m+1:Nat):Int)=(m:Int)+1 by omega,Int.add_mul]; omega
theorem Zq1 {c:Cfg} (h:szB c=true) {k:Nat} (hk:2000<k):Q137.f k c=some (Gm c):=by
 have hc:=B5 h;have hf:=hc.leaf;have hb:=hc.buf;obtain ⟨L,hL⟩:=Int.eq_ofNat_of_zero_le (show 0<=c.2.2.2.2.2.1 by omega);unfold Q137.f;rw [show Q139.f (c.1,c.2.1,c.2.2.1,c.2.2.2.1,c.2.2.2.2.1,c.2.2.2.2.2.1,c.2.2.2.2.2.2.1,c.2.2.2.2.2.2.2)=_ from Zb4 c,h,bS,vS,show Q137.l0 k c 8 0=_ from Zkg hc L 0 k 8 (by omega) (by omega) (by omega) (by omega),<- hL];rfl
theorem Zm5 (c:Cfg) {k:Nat} (hk:2000<k):Q138.f k c=some (okB c):=by
 unfold Q138.f okB;rw [show Q139.f (c.1,c.2.1,c.2.2.1,c.2.2.2.1,c.2.2.2.2.1,c.2.2.2.2.2.1,c.2.2.2.2.2.2.1,c.2.2.2.2.2.2.2)=_ from Zb4 c,bS];cases h:szB c with
 | false=>rfl
 | true=>
  rw [iT rfl,show Q136.f k (c.1,c.2.1,c.2.2.1,c.2.2.2.1,c.2.2.2.2.1,c.2.2.2.2.2.1,c.2.2.2.2.2.2.1,c.2.2.2.2.2.2.2)=_ from Zq0 h (by omega),show Q137.f k (c.1,c.2.1,c.2.2.1,c.2.2.2.1,c.2.2.2.2.1,c.2.2.2.2.2.1,c.2.2.2.2.2.2.1,c.2.2.2.2.2.2.2)=_ from Zq1 h hk];simp only [Zmp,bS];cases decide (5<=c.1/\c.1<=65536) <;> cases decide (8<=c.2.2.1/\c.2.2.1<=64) <;> cases decide (64<=c.2.1/\c.2.1<=65536) <;> cases decide (J5 c<=c.2.1) <;> rfl
abbrev W4:Sp:=([],[],true)
theorem Zec (c:Cfg):Q49.f c=some (szB c):=by
 unfold Q49.f szB;by_cases h1:8<=c.2.2.2.1/\c.2.2.2.1<=64
 ·have w:w64 (2*c.2.2.2.1)=2*c.2.2.2.1:=wI2;rw [w,iN,iN,dT h1];by_cases h2:1<=c.2.2.2.2.2.2.1/\c.2.2.2.2.2.2.1<=64
  ·by_cases h3:0<=c.2.2.2.2.2.2.2/\c.2.2.2.2.2.2.2<=256
   ·by_cases h4:2*c.2.2.2.1<=c.2.2.2.2.1/\c.2.2.2.2.1<=512
    ·by_cases h5:c.2.2.2.2.1<=c.2.2.2.2.2.1/\c.2.2.2.2.2.1<=1024
     ·rw [iN,iN,iN,iN,iN,iN,iN,iN,dT h2,dT h3,dT h4,dT h5];rfl
     ·rw [iN,iN,dF h5];simp only [Bool.and_false];by_cases q:c.2.2.2.2.2.1<c.2.2.2.2.1
      ·rw [iT (dT q)]
      ·rw [iF (by simpa using q),iP]
    ·rw [dF h4];simp only [Bool.false_and,Bool.and_false];by_cases q:c.2.2.2.2.1<2*c.2.2.2.1
     ·rw [iT (dT q)]
     ·rw [iF (by simpa using q),iP]
   ·rw [dF h3];simp only [Bool.false_and,Bool.and_false]
    repeat' split
    all_goals first | rfl | (simp only [dE] at *; omega)
  ·rw [dF h2];simp only [Bool.false_and,Bool.and_false]
   repeat' split
   all_goals first | rfl | (simp only [dE] at *; omega)
 ·rw [dF h1];simp only [Bool.false_and];by_cases q:c.2.2.2.1<8
  ·rw [iT (dT q)]
  ·rw [iF (by simpa using q),iP]
theorem G4 (c:Cfg):(c.1,c.2.1,c.2.2.1,c.2.2.2.1,c.2.2.2.2.1,c.2.2.2.2.2.1,c.2.2.2.2.2.2.1,c.2.2.2.2.2.2.2)=c:=rfl
theorem Zt5 (n:Nd):(n.1,n.2.1,n.2.2.1,n.2.2.2.1,n.2.2.2.2)=n:=rfl
theorem Ztx {c:Cfg} (h:szB c=true):Q46.f c=some (J5 c)/\8<=J5 c/\J5 c<=200000:=by
 have hc:=B5 h;have a1:=hc.fan;have a2:=hc.key;have a3:=hc.val;have a4:=hc.buf;have p0:0<=(c.2.2.2.1 - 1)*(1+c.2.2.2.2.2.2.1):=Int.mul_nonneg (by omega) (by omega);have p1:(c.2.2.2.1 - 1)*(1+c.2.2.2.2.2.2.1)<=63*65:=Int.mul_le_mul (by omega) (by omega) (by omega) (by omega);have q0:0<=c.2.2.2.2.1*(4+c.2.2.2.2.2.2.1+c.2.2.2.2.2.2.2):=Int.mul_nonneg (by omega) (by omega);have q1:c.2.2.2.2.1*(4+c.2.2.2.2.2.2.1+c.2.2.2.2.2.2.2)<=512*324:=Int.mul_le_mul (by omega) (by omega) (by omega) (by omega);have e:J5 c=8+4*c.2.2.2.1+(c.2.2.2.1 - 1)*(1+c.2.2.2.2.2.2.1)+c.2.2.2.2.1*(4+c.2.2.2.2.2.2.1+c.2.2.2.2.2.2.2):=by
  unfold J5;rw [show 5+c.2.2.2.2.2.2.1=4+(1+c.2.2.2.2.2.2.1) by omega,Int.mul_add]; omega
 refine ⟨?_,by omega,by omega⟩;unfold Q46.f
 (try rw [G4]); rw [Zec,h,bS,vS,wI2 (x:=4*c.2.2.2.1),wI2 (x:=8+4*c.2.2.2.1),wI2 (x:=c.2.2.2.1 - 1),wI2 (x:=1+c.2.2.2.2.2.2.1),wI2 (x:=4+c.2.2.2.2.2.2.1),wI2 (x:=4+c.2.2.2.2.2.2.1+c.2.2.2.2.2.2.2),
  wI2 (x:=(c.2.2.2.1 - 1)*(1+c.2.2.2.2.2.2.1)),wI2 (x:=c.2.2.2.2.1*(4+c.2.2.2.2.2.2.1+c.2.2.2.2.2.2.2)),wI2 (x:=8+4*c.2.2.2.1+(c.2.2.2.1 - 1)*(1+c.2.2.2.2.2.2.1)),wI2,e]
theorem Zt6 {c:Cfg} (h:szB c=true):Q48.f c=some (Gm c)/\8<=Gm c/\Gm c<=400000:=by
 have hc:=B5 h;have a2:=hc.key;have a3:=hc.val;have a4:=hc.buf;have a5:=hc.leaf;have q0:0<=c.2.2.2.2.2.1*(3+c.2.2.2.2.2.2.1+c.2.2.2.2.2.2.2):=Int.mul_nonneg (by omega) (by omega);have q1:c.2.2.2.2.2.1*(3+c.2.2.2.2.2.2.1+c.2.2.2.2.2.2.2)<=1024*323:=Int.mul_le_mul (by omega) (by omega) (by omega) (by omega);refine ⟨?_,by unfold Gm; omega,by unfold Gm; omega⟩;unfold Q48.f Gm
 (try rw [G4]); rw [Zec,h,bS,vS,wI2 (x:=3+c.2.2.2.2.2.2.1),wI2 (x:=3+c.2.2.2.2.2.2.1+c.2.2.2.2.2.2.2),wI2 (x:=c.2.2.2.2.2.1*(3+c.2.2.2.2.2.2.1+c.2.2.2.2.2.2.2)),wI2]
theorem Zej (c:Cfg):Q45.f c=some (if okB c=true then 0 else 2):=by
 unfold Q45.f okB
 (try rw [G4]); rw [Zec,bS]
 cases h:szB c with
 | false=>rfl
 | true=>
  obtain ⟨i1,i2,i3⟩:=Ztx h;obtain ⟨o1,o2,o3⟩:=Zt6 h;rw [iT rfl];by_cases a1:5<=c.1/\c.1<=65536
  ·rw [iT (dT a1.1),iT (dT a1.2),dT a1];by_cases a2:8<=c.2.2.1/\c.2.2.1<=64
   ·rw [iT (dT a2.1),iF (by simp [a2.2]),dT a2];by_cases a3:65536<c.2.1
    ·rw [iT (dT a3),dF (show ¬ (64<=c.2.1/\c.2.1<=65536) by omega)]; rfl
    ·rw [iF (by simpa using a3)];unfold Q47.f
     (try rw [G4]); rw [Zec,h,bS,iT rfl,i1,o1,bS,bS,bS]
     dsimp only;generalize J5 c=I at *;generalize Gm c=O at *;by_cases b1:c.2.1<64
     ·rw [iT (dT (by split <;> split <;> omega)),dF (show ¬ (64<=c.2.1/\c.2.1<=65536) by omega)]; rfl
     ·rw [dT (show 64<=c.2.1/\c.2.1<=65536 by omega)];by_cases b2:I<=c.2.1
      ·rw [dT b2];by_cases b3:O<=c.2.1
       ·rw [dT b3,iF (by simp only [dE]; split <;> split <;> omega)]; rfl
       ·rw [dF b3,iT (dT (by split <;> split <;> omega))]; rfl
      ·rw [dF b2,iT (dT (by split <;> split <;> omega))]; rfl
   ·rw [dF a2];by_cases q:8<=c.2.2.1
    ·rw [iT (dT q),iV]; rfl
    ·rw [iF (by simpa using q)]; rfl
  ·rw [dF a1];by_cases q:5<=c.1
   ·rw [iT (dT q),iN]; rfl
   ·rw [iF (by simpa using q)]; rfl
theorem We (a b:TZ):toB (a ++ b)=toB a ++ toB b:=by simp [toB]
theorem Z5 (a:TZ):(toB a).length=a.length:=by simp [toB]
theorem Zi6 (n:Nat):toB (zs n)=List.replicate n 0:=by simp [toB,zs]
theorem Zcl (a:TZ):toS (toB a)=a:=by
 unfold toS toB;rw [List.map_map]
 conv=>rhs; rw [<- List.map_id a]
 apply List.map_congr_left;intro x _;simp
theorem Zs8 (n:Nat):uH.wrap (n:Int)=((n % 18446744073709551616:Nat):Int):=by
 simp [IntKind.wrap,IntKind.bits,IntKind.signed]
theorem V9 {n:Nat} (h:n<18446744073709551616:=by omega):uH.wrap (n:Int)=(n:Int):=by rw [Zs8,Nat.mod_eq_of_lt h]
theorem Ztd (v i:Nat) (hi:i<8):uA.wrap (Int.fdiv (v:Int) (2 ^ (min (w64 (8*(i:Int))).toNat 64)))=((UInt8.ofNat (v / 256 ^ i)).toNat:Int):=by
 have e1:w64 (8*(i:Int))=((8*i:Nat):Int):=by rw [wI2]; omega
 rw [e1,tN,show min (8*i) 64=8*i by omega,Int.fdiv_eq_ediv_of_nonneg _ (by exact_mod_cast Nat.zero_le _)];have e2:((v:Int) / 2 ^ (8*i))=((v / 256 ^ i:Nat):Int):=by
  rw [show (256:Nat)=2 ^ 8 from rfl,<- Nat.pow_mul]
  push_cast
  rfl
 rw [e2];simp [IntKind.wrap,IntKind.bits,IntKind.signed]
theorem Zn0 (v:Nat):∀(i:Nat) (x:T3) (k:Nat),i<=8->i<k->x.length+i<=1000->Q167.l0 k (v:Int) x ((i:Int) - 1)=some (x ++ toB (be i v))
 | 0,x,k+1,_,_,_=>by
  rw [Q167.l0,vS];simp [be,toB]
 | i+1,x,k+1,hi,hk,hx=>by
  have e:((i+1:Nat):Int) - 1=(i:Int):=by omega
  rw [e,Q167.l0,iP,iT (by rw [wI2]; omega),iT (by simp only [List.length_singleton]; omega),Ztd v i (by omega),wI2 (x:=(i:Int) - 1),Zn0 v i _ k (by omega) (by omega) (by simp; omega)];simp [be,toB]
theorem Jb {a:T3} {w v:Nat} (hw:w=1\/w=2\/w=4) (ha:a.length<=10000000) {k:Nat} (hk:10<k):Q37.f k a (w:Int) (v:Int)=some (a ++ toB (be w v)):=by
 have h0:Q167.f k ([]:List Int) (w:Int) (v:Int)=some (toB (be w v)):=by
  unfold Q167.f Q89.f Q176.f;rw [iU,bS];have hr:(if (decide ((w:Int)=1))=true then (some true) else (if (decide ((w:Int)=2))=true then (some true) else (if (decide ((w:Int)=4))=true then (some true) else (some (decide ((w:Int)=8))))))=some true:=by
   rcases hw with rfl | rfl | rfl <;> rfl
  rw [hr,bS,vS,wI2];have:=Zn0 v w ([] ++ []) k (by omega) (by omega) (by simp; omega);simpa using this
 unfold Q37.f;rw [h0,bS,iT (by rw [Z5,Xf]; omega)]
theorem Zg9 {a:T3} {s:TZ} {n:Nat} (ha:a.length<=10000000) (hs:s.length<=n) (hn:n<=100000):Q42.f a s (n:Int)=some (a ++ toB (slt s n)):=by
 have e:w64 ((n:Int) - (s.length:Int))=((n - s.length:Nat):Int):=by rw [wI2]; omega
 unfold Q42.f;rw [iO,e,iT (by rw [lA,Z5]; omega),tN];unfold slt;rw [We,Zi6,append_assoc]
structure NatC (c:Cfg):Prop where
 f:c.2.2.2.1=(cFa c:Int)
 k:c.2.2.2.2.2.2.1=(cK c:Int)
 v:c.2.2.2.2.2.2.2=(zVv c:Int)
 b:c.2.2.2.2.1=(cBu c:Int)
 l:c.2.2.2.2.2.1=(cLe c:Int)
theorem OkC.int {c:Cfg} (h:OkC c):NatC c:=by
 have h1:=h.fan;have h2:=h.key;have h3:=h.val;have h4:=h.buf;have h5:=h.leaf;constructor <;> simp only [cFa,cK,zVv,cBu,cLe] <;> omega
theorem Zlq {c:Cfg} (hc:OkC c) {a:T3} {x y:TZ} (ha:a.length<=9000000) (hx:x.length<=cK c) (hy:y.length<=zVv c) {k:Nat} (hk:10<k):Q38.f k c a x y=some (a ++ toB (prS (cK c) (zVv c) (x,y))):=by
 obtain ⟨c1,c2,c3,c4,c5,c6,c7,c8,c9⟩:=hc.nat
 unfold Q38.f;rw [V9,V9,show Q37.f k a 1 (x.length:Int)=_ from Jb (w:=1) (.inl rfl) (by omega) hk,bS,show Q37.f k (a ++ toB (be 1 x.length)) 2 (y.length:Int)=_ from Jb (w:=2) (.inr (.inl rfl)) (by rw [lA,Z5,Xf]; omega) hk,bS,
  hc.int.k,Zg9 (by rw [lA,lA,Z5,Z5,Xf,Xf]; omega) hx (by omega),bS,hc.int.v,Zg9 (by rw [lA,lA,lA,Z5,Z5,Z5,Xf,Xf,Jg hx]; omega) hy (by omega),bS]
 unfold prS;simp only [We,append_assoc]
theorem Zme {a b d e:Nat} (ha:a<256) (hb:b<256) (hd:d<65536) (he:e<65536) {k:Nat} (hk:10<k):Q36.f k (a:Int) (b:Int) (d:Int) (e:Int)=some (toB (be 1 a ++ (be 1 b ++ (be 2 d ++ (be 2 e ++ zs 2))))):=by
 unfold Q36.f;rw [V9,V9,V9,V9,show Q37.f k ([]:List Int) 1 (a:Int)=_ from Jb (w:=1) (.inl rfl) (by simp) hk,bS,show Q37.f k _ 1 (b:Int)=_ from Jb (w:=1) (.inl rfl) (by simp [Z5,Xf]) hk,bS,
  show Q37.f k _ 2 (d:Int)=_ from Jb (w:=2) (.inr (.inl rfl)) (by simp [Z5,Xf]) hk,bS,show Q37.f k _ 2 (e:Int)=_ from Jb (w:=2) (.inr (.inl rfl)) (by simp [Z5,Xf]) hk,bS,show Q37.f k _ 2 0=_ from Jb (w:=2) (v:=0) (.inr (.inl rfl)) (by simp [Z5,Xf]) hk,bS]
 have z:be 2 0=zs 2:=by decide
 rw [z];simp only [We,append_assoc,List.nil_append]
theorem Zao {α:Type} (f:α->List UInt8) (x:α) (l:List α):cat f (x :: l)=f x ++ cat f l:=by unfold cat; rw [List.flatMap_cons]
theorem Zgc {c:Cfg} {n:Nd} (hc:OkC c) (hr:∀ p∈n.2.2.2.2,p.1.length<=cK c/\p.2.length<=zVv c) (hl:n.2.2.2.2.length<=2000):∀(m i k:Nat) (x:T3),n.2.2.2.2.length=i+m->m+20<k->x.length+m*400<=9000000->Q44.l0 k c n x (i:Int)=some (x ++ toB (cat (prS (cK c) (zVv c)) (n.2.2.2.2.drop i)))
 | 0,i,k+1,x,h,hk,hx=>by
  rw [Q44.l0,iN,dN];simp [cat,toB]
 | m+1,i,k+1,x,h,hk,hx=>by
  obtain ⟨c1,c2,c3,c4,c5,c6,c7,c8,c9⟩:=hc.nat
  have hi:i<n.2.2.2.2.length:=by omega
  have hp:=hr _ (Yz (d:=default) hi);rw [Q44.l0,iP,iO,Zt]; (try rw [G4]); rw [Zlq hc (by omega) hp.1 hp.2 (by omega),bS,wS2,Zgc hc hr hl m (i+1) k _ (by omega) (by omega) (by rw [lA,Z5,B3 hp.1 hp.2]; omega),Z9 hi,Zao,We,append_assoc]
theorem Zrb {c:Cfg} {n:Nd} (hc:OkC c) (hr:∀ p∈n.2.2.2.2,p.1.length<=cK c/\p.2.length<=zVv c) (hl:n.2.2.2.2.length<=2000) {k:Nat} (hk:3000<k):Q44.f k c n=some (toB (hdO n ++ bdO c n)):=by
 have e:be 1 1 ++ (be 1 0 ++ (be 2 n.2.2.2.2.length ++ (be 2 0 ++ zs 2)))=hdO n:=by
  unfold hdO;rw [show be 2 0=zs 2 by decide,Js]; rfl
 unfold Q44.f;rw [show Q36.f k 1 0 (n.2.2.2.2.length:Int) 0=_ from Zme (a:=1) (b:=0) (e:=0) (by omega) (by omega) (by omega) (by omega) (by omega),bS,e,show Q44.l0 k c n (toB (hdO n)) 0=_ from Zgc hc hr hl n.2.2.2.2.length 0 k _ (by omega) (by omega) (by rw [Z5,Zkr]; omega),List.drop_zero,<- We];rfl
theorem Zbq {c:Cfg} {n:Nd} (hc:OkC c) (hr:∀ m∈n.2.2.2.1,m.1.length<=cK c/\m.2.2.length<=zVv c) (hl:n.2.2.2.1.length<=2000):∀(m i k:Nat) (x:T3),n.2.2.2.1.length=i+m->m+20<k->x.length+m*400<=8000000->Q43.l2 k c n x (i:Int)=some (x ++ toB (cat (msS (cK c) (zVv c)) (n.2.2.2.1.drop i)))
 | 0,i,k+1,x,h,hk,hx=>by
  rw [Q43.l2,iN,dN];simp [cat,toB]
 | m+1,i,k+1,x,h,hk,hx=>by
  obtain ⟨c1,c2,c3,c4,c5,c6,c7,c8,c9⟩:=hc.nat
  have hi:i<n.2.2.2.1.length:=by omega
  have hp:=hr _ (Yz (d:=default) hi);rw [Q43.l2,iP,iO,Zt]; (try rw [G4]); rw [show Q37.f k x 1 2=_ from Jb (w:=1) (v:=2) (.inl rfl) (by omega) (by omega),show Q37.f k x 1 1=_ from Jb (w:=1) (v:=1) (.inl rfl) (by omega) (by omega),bS,bS,
   Zlq hc (by rw [lA,Z5,Xf]; omega) hp.1 hp.2 (by omega),Zlq hc (by rw [lA,Z5,Xf]; omega) hp.1 hp.2 (by omega),bS,bS,wS2,
   Zbq hc hr hl m (i+1) k _ (by omega) (by omega) (by rw [lA,lA,Z5,Z5,Xf,B3 hp.1 hp.2]; omega),Zbq hc hr hl m (i+1) k _ (by omega) (by omega) (by rw [lA,lA,Z5,Z5,Xf,B3 hp.1 hp.2]; omega),Z9 hi,Zao]
  unfold msS;cases (n.2.2.2.1.getD i default).2.1
  ·rw [vS,vS,show be 1 1=[1] by decide,We,append_assoc,append_assoc]; rfl
  ·rw [iT rfl,iT rfl,show be 1 2=[2] by decide,We,append_assoc,append_assoc]; rfl
theorem Zqy (K:Nat):pvS K []=zs (1+K):=by
 unfold pvS slt;rw [show be 1 ([]:List UInt8).length=zs 1 by decide,List.nil_append,Js]; rfl
theorem Zdy {c:Cfg} {n:Nd} (hc:OkC c) (hr:∀ m∈n.2.2.2.1,m.1.length<=cK c/\m.2.2.length<=zVv c) (hl:n.2.2.2.1.length<=2000):∀(m i k:Nat) (x:T3),cFa c - 1=i+m->n.2.2.1.length<=i->m+2100<k->x.length+m*400<=7000000->Q43.l1 k c n x (i:Int)=some (x ++ toB (zs ((1+cK c)*m) ++ cat (msS (cK c) (zVv c)) n.2.2.2.1))
 | 0,i,k+1,x,h,hz,hk,hx=>by
  replace hx:x.length<=7000000:=by simpa using hx
  obtain ⟨c1,c2,c3,c4,c5,c6,c7,c8,c9⟩:=hc.nat
  have e:w64 (c.2.2.2.1 - 1)=((cFa c - 1:Nat):Int):=by rw [hc.int.f,wI2]; omega
  rw [Q43.l1,e,iN,show Q43.l2 k c n x 0=_ from Zbq hc hr hl n.2.2.2.1.length 0 k x (by omega) (by omega) (by omega),List.drop_zero];simp [zs]
 | m+1,i,k+1,x,h,hz,hk,hx=>by
  obtain ⟨c1,c2,c3,c4,c5,c6,c7,c8,c9⟩:=hc.nat
  have e:w64 (c.2.2.2.1 - 1)=((cFa c - 1:Nat):Int):=by rw [hc.int.f,wI2]; omega
  have hp:(pvS (cK c) []).length=1+cK c:=Zfa (Nat.zero_le _);rw [Q43.l1,e,iP,iN,show uH.wrap ((([]:List UInt8).length:Nat):Int)=((0:Nat):Int) from rfl,show Q37.f k x 1 ((0:Nat):Int)=_ from Jb (w:=1) (.inl rfl) (by omega) (by omega),bS,hc.int.k,Zg9 (by rw [lA,Z5,Xf]; omega) (Nat.zero_le _) (by omega),bS,wS2];have e2:(x ++ toB (be 1 0)) ++ toB (slt [] (cK c))=x ++ toB (zs (1+cK c)):=by
   rw [append_assoc,<- We,<- Zqy]; rfl
  rw [e2,Zdy hc hr hl m (i+1) k _ (by omega) (by omega) (by omega) (by rw [lA,Z5,Ju]; omega),append_assoc,<- We,<- append_assoc (zs (1+cK c)),Js,show 1+cK c+(1+cK c)*m=(1+cK c)*(m+1) by rw [Nat.mul_add]; omega]
theorem Zfl {c:Cfg} {n:Nd} (hc:OkC c) (hp:∀ p∈n.2.2.1,p.length<=cK c) (hpl:n.2.2.1.length<=cFa c - 1) (hr:∀ m∈n.2.2.2.1,m.1.length<=cK c/\m.2.2.length<=zVv c) (hl:n.2.2.2.1.length<=2000):∀(m i k:Nat) (x:T3),n.2.2.1.length=i+m->m+2300<k->x.length+m*400<=6000000->Q43.l1 k c n x (i:Int)=some (x ++ toB (cat (pvS (cK c)) (n.2.2.1.drop i) ++ (zs ((1+cK c)*(cFa c - 1 - n.2.2.1.length)) ++ cat (msS (cK c) (zVv c)) n.2.2.2.1)))
 | 0,i,k,x,h,hk,hx=>by
  replace hx:x.length<=6000000:=by simpa using hx
  obtain ⟨c1,c2,c3,c4,c5,c6,c7,c8,c9⟩:=hc.nat
  rw [Zdy hc hr hl (cFa c - 1 - n.2.2.1.length) i k x (by omega) (by omega) (by omega) (by omega),dN];simp [cat]
 | m+1,i,k+1,x,h,hk,hx=>by
  obtain ⟨c1,c2,c3,c4,c5,c6,c7,c8,c9⟩:=hc.nat
  have hi:i<n.2.2.1.length:=by omega
  have hpi:=hp _ (Yz (d:=default) hi);have e:w64 (c.2.2.2.1 - 1)=((cFa c - 1:Nat):Int):=by rw [hc.int.f,wI2]; omega
  rw [Q43.l1,e,iP,iP,iO,Zt,V9,show Q37.f k x 1 (((n.2.2.1.getD i default).length:Nat):Int)=_ from Jb (w:=1) (.inl rfl) (by omega) (by omega),bS,hc.int.k,Zg9 (by rw [lA,Z5,Xf]; omega) hpi (by omega),bS,wS2];have e2:(x ++ toB (be 1 (n.2.2.1.getD i default).length)) ++ toB (slt (n.2.2.1.getD i default) (cK c))=x ++ toB (pvS (cK c) (n.2.2.1.getD i default)):=by
   rw [append_assoc,<- We]; rfl
  rw [e2,Zfl hc hp hpl hr hl m (i+1) k _ (by omega) (by omega) (by rw [lA,Z5,Zfa hpi]; omega),append_assoc,<- We,Z9 hi,Zao,append_assoc]
def Zlm (c:Cfg) (n:Nd):List UInt8:=cat (pvS (cK c)) n.2.2.1 ++ (zs ((1+cK c)*(cFa c - 1 - n.2.2.1.length)) ++ cat (msS (cK c) (zVv c)) n.2.2.2.1)
theorem Zep {c:Cfg} {n:Nd} (hc:OkC c) (hp:∀ p∈n.2.2.1,p.length<=cK c) (hpl:n.2.2.1.length<=cFa c - 1) (hr:∀ m∈n.2.2.2.1,m.1.length<=cK c/\m.2.2.length<=zVv c) (hl:n.2.2.2.1.length<=2000):∀(m i k:Nat) (x:T3),cFa c=i+m->n.2.1.length<=i->m+2500<k->x.length+m*400<=5000000->Q43.l0 k c n x (i:Int)=some (x ++ toB (zs (4*m) ++ Zlm c n))
 | 0,i,k+1,x,h,hz,hk,hx=>by
  replace hx:x.length<=5000000:=by simpa using hx
  obtain ⟨c1,c2,c3,c4,c5,c6,c7,c8,c9⟩:=hc.nat
  rw [Q43.l0,hc.int.f,iN,show Q43.l1 k c n x 0=_ from Zfl hc hp hpl hr hl n.2.2.1.length 0 k x (by omega) (by omega) (by omega),List.drop_zero];simp [zs,Zlm]
 | m+1,i,k+1,x,h,hz,hk,hx=>by
  obtain ⟨c1,c2,c3,c4,c5,c6,c7,c8,c9⟩:=hc.nat
  rw [Q43.l0,hc.int.f,iP,iN,show Q37.f k x 4 0=_ from Jb (w:=4) (v:=0) (.inr (.inr rfl)) (by omega) (by omega),bS,wS2,show be 4 0=zs 4 by decide,
   Zep hc hp hpl hr hl m (i+1) k _ (by omega) (by omega) (by omega) (by rw [lA,Z5,Ju]; omega),append_assoc,<- We,<- append_assoc (zs 4),Js,show 4+4*m=4*(m+1) by omega]
theorem Zf4 {c:Cfg} {n:Nd} (hc:OkC c) (hkd:∀ x∈n.2.1,0<=x/\x<4294967296) (hkl:n.2.1.length<=cFa c) (hp:∀ p∈n.2.2.1,p.length<=cK c) (hpl:n.2.2.1.length<=cFa c - 1) (hr:∀ m∈n.2.2.2.1,m.1.length<=cK c/\m.2.2.length<=zVv c) (hl:n.2.2.2.1.length<=2000):∀(m i k:Nat) (x:T3),n.2.1.length=i+m->m+2700<k->x.length+m*400<=4000000->Q43.l0 k c n x (i:Int)=some (x ++ toB (cat kdS (n.2.1.drop i) ++ (zs (4*(cFa c - n.2.1.length)) ++ Zlm c n)))
 | 0,i,k,x,h,hk,hx=>by
  replace hx:x.length<=4000000:=by simpa using hx
  obtain ⟨c1,c2,c3,c4,c5,c6,c7,c8,c9⟩:=hc.nat
  rw [Zep hc hp hpl hr hl (cFa c - n.2.1.length) i k x (by omega) (by omega) (by omega) (by omega),dN];simp [cat]
 | m+1,i,k+1,x,h,hk,hx=>by
  obtain ⟨c1,c2,c3,c4,c5,c6,c7,c8,c9⟩:=hc.nat
  have hi:i<n.2.1.length:=by omega
  have hki:=hkd _ (Yz (d:=default) hi);obtain ⟨q,hq⟩:=Int.eq_ofNat_of_zero_le hki.1;rw [Q43.l0,hc.int.f,iP,iP,iO,Zt,hq,V9,show Q37.f k x 4 (q:Int)=_ from Jb (w:=4) (.inr (.inr rfl)) (by omega) (by omega),bS,wS2];have e2:be 4 q=kdS (n.2.1.getD i default):=by unfold kdS; rw [hq]; rfl
  rw [e2,Zf4 hc hkd hkl hp hpl hr hl m (i+1) k _ (by omega) (by omega) (by rw [lA,Z5,show (kdS (n.2.1.getD i default)).length=4 from Xf _ _]; omega),append_assoc,<- We,Z9 hi,Zao,append_assoc]
theorem Zp6 {c:Cfg} {n:Nd} (hc:OkC c) (hn:FitN c n) (h0:n.1≠0) {k:Nat} (hk:3000<k):Q43.f k c n=some (toB (hdI n ++ bdI c n)):=by
 obtain ⟨c1,c2,c3,c4,c5,c6,c7,c8,c9⟩:=hc.nat
 obtain ⟨a1,a2,a3,a4,a5⟩:=hn.i h0;have hlv:=hn.lv;obtain ⟨lv,hl⟩:=Int.eq_ofNat_of_zero_le hlv.1;have e:be 1 2 ++ (be 1 lv ++ (be 2 n.2.1.length ++ (be 2 n.2.2.2.1.length ++ zs 2)))=hdI n:=by
  unfold hdI;rw [hl,tN]; rfl
 unfold Q43.f;rw [hl,show Q36.f k 2 (lv:Int) (n.2.1.length:Int) (n.2.2.2.1.length:Int)=_ from Zme (a:=2) (by omega) (by omega) (by omega) (by omega) (by omega),bS,e,show Q43.l0 k c n (toB (hdI n)) 0=_ from Zf4 hc hn.kd (by omega) hn.pk (by omega) hn.ms (by omega) n.2.1.length 0 k _ (by omega) (by omega) (by rw [Z5,Zkh]; omega),List.drop_zero,<- We];rfl
theorem Zcj {c:Cfg} {n:Nd} (hok:okB c=true) (hn:FitN c n):(Bx c n).length<=cBy c/\cBy c<=65536/\c.2.1=(cBy c:Int):=by
 simp only [okB,Bool.and_eq_true,dE] at hok;obtain ⟨h1,h2,h3,h4,h5,h6⟩:=hok;have hc:=B5 h1;obtain ⟨c1,c2,c3,c4,c5,c6,c7,c8,c9⟩:=hc.nat
 have hi:=hc.int;have hB:c.2.1=(cBy c:Int):=by unfold cBy; omega
 refine ⟨?_,by omega,hB⟩;unfold Bx;by_cases h0:n.1=0
 ·rw [iT h0,lA,Zkr,Zqh hn];have hl:=(hn.o h0).2.2.2;have hm:n.2.2.2.2.length*(3+cK c+zVv c)<=cLe c*(3+cK c+zVv c):=Nat.mul_le_mul_right _ hl;have:Gm c=((8+cLe c*(3+cK c+zVv c):Nat):Int):=by
   unfold Gm;rw [hi.l,hi.k,hi.v]
   push_cast
   rfl
  omega
 ·rw [iF h0,lA,Zkh,Zqw hn h0];have hl:=(hn.i h0).2.2.2.2;have hm:n.2.2.2.1.length*(4+cK c+zVv c)<=cBu c*(4+cK c+zVv c):=Nat.mul_le_mul_right _ hl;have:J5 c=((8+(4+(cFa c - 1)*(5+cK c)+cBu c*(4+cK c+zVv c)):Nat):Int):=by
   unfold J5;rw [hi.f,hi.b,hi.k,hi.v];have:((cFa c:Int) - 1)=((cFa c - 1:Nat):Int):=by omega
   rw [this]
   push_cast
   rfl
  have e2:(cFa c - 1)*(5+cK c)=4*(cFa c - 1)+(1+cK c)*(cFa c - 1):=by
   rw [show 5+cK c=4+(1+cK c) by omega,Nat.mul_add,Nat.mul_comm _ 4,Nat.mul_comm (cFa c - 1) (1+cK c)]
  omega
theorem Jq {c:Cfg} {n:Nd} (hc:OkC c) (hkd:∀ x∈n.2.1,0<=x/\x<4294967296) (h:Yx c W4 n=true):FitN c n:=by
 have hi:=hc.int;unfold Yx at h;by_cases h0:n.1=0
 ·rw [iT h0] at h;simp only [Za4,prB,Y7,Bool.and_eq_true,dE,List.all_eq_true] at h;obtain ⟨a1,a2,a3,a4,a5,a6⟩:=h;refine ⟨by omega,hkd,fun _=>⟨a2,a3,a4,by have:=hi.l; omega⟩,fun z=>absurd h0 z,fun p hp=>by rw [a3] at hp; simp at hp,fun p hp=>by rw [a4] at hp; simp at hp,fun p hp=>?_⟩;have:=a1 p hp;have hk:=hi.k;have hv:=hi.v;exact ⟨by omega,by omega⟩
 ·rw [iF h0] at h;simp only [Zbz,Zah,Za7,Gw,Y7,Bool.and_eq_true,dE,List.all_eq_true] at h;obtain ⟨b0,b1,b2,b3,b4,b5,b6,b7,b8,b9,b10,b11⟩:=h;have hk:=hi.k;have hv:=hi.v;have hf:=hi.f;have hb:=hi.b;exact ⟨by omega,hkd,fun z=>absurd z h0,fun _=>⟨b5,b6,by omega,by omega,by omega⟩,fun p hp=>by have:=b2 p hp; omega,fun p hp=>by have:=b3 p hp; omega,fun p hp=>by rw [b5] at hp; simp at hp⟩
def Um (c:Cfg) (n:Nd):List Int×Int:=if okB c=true then (if Yx c W4 n=true then (toB (B1 c n),0) else ([],3)) else ([],2)
theorem Gc {c:Cfg} (h:okB c=true):OkC c:=by
 simp only [okB,Bool.and_eq_true] at h;exact B5 h.1
theorem Zsl {c:Cfg} {n:Nd} (h1:n.2.1.length<=35184372087808) (h2:n.2.2.1.length<=35184372087808) (h3:n.2.2.2.1.length<=35184372087808) (h4:n.2.2.2.2.length<=35184372087808) (hl:∀ x∈n.2.1,0<=x/\x<4294967296):Ev (fun k=>Q35.f k c n) (Um c n):=by
 have hbig:Ev (fun k=>if n.2.2.1.length+n.2.2.2.1.length+n.2.2.2.2.length+10000<k then some () else none) ():=⟨n.2.2.1.length+n.2.2.2.1.length+n.2.2.2.2.length+10000+1,fun k hk=>iO⟩
 refine (Zeq (c:=c) (s:=W4) h1 h2 (by omega) (by omega) hl).next2 hbig fun k k1 k2=>?_;have k2:n.2.2.1.length+n.2.2.2.1.length+n.2.2.2.2.length+10000<k:=by
  by_cases z:n.2.2.1.length+n.2.2.2.1.length+n.2.2.2.2.length+10000<k
  ·exact z
  ·rw [iF z] at k2; cases k2
 unfold Q35.f Um
 (try rw [G4]); (try rw [Zt5]); rw [Zej,bS]
 cases hok:okB c with
 | false=>rfl
 | true=>
  have hc:=Gc hok;rw [iT rfl,vS,iT rfl,Q59.f,bS,show Q66.f k c (([]:List UInt8),([]:List UInt8),true) n=_ from k1,bS];cases hr:Yx c W4 n with
  | false=>rfl
  | true=>
   have hn:=Jq hc hl hr;obtain ⟨r1,r2,r3⟩:=Zcj hok hn;rw [vS,iT rfl];by_cases h0:n.1=0
   ·have er:Bx c n=hdO n ++ bdO c n:=iT h0;have e:w64 ((cBy c:Int) - ((hdO n ++ bdO c n).length:Int))=((cBy c - (Bx c n).length:Nat):Int):=by rw [<- er,wI2]; omega
    rw [iN,Zrb hc hn.rk (by have:=(hn.o h0).2.2.2; have:=hc.nat; omega) (by omega),bS,Z5,r3,e,iT (by rw [<- er]; omega),tN,<- Zi6,<- We];unfold B1 slt;rw [er]
   ·have hlv:=hn.lv;have er:Bx c n=hdI n ++ bdI c n:=iF h0;have e:w64 ((cBy c:Int) - ((hdI n ++ bdI c n).length:Int))=((cBy c - (Bx c n).length:Nat):Int):=by rw [<- er,wI2]; omega
    rw [iP,Zp6 hc hn h0 (by omega),bS,Z5,r3,e,iT (by rw [<- er]; omega),tN,<- Zi6,<- We];unfold B1 slt;rw [er]
def rbS (s:TV) (n:Nat):List UInt8×TV:=if s.2=0 then (if s.1.length<n then ([],([],5)) else (s.1.take n,(s.1.drop n,0))) else ([],s)
def iS (s:TV):List Int×Int:=(toB s.1,s.2)
def spS (s:TV) (x:Int):List UInt8×Int:=([],if s.2=0 then x else s.2)
theorem Zhn (a:TZ) (n:Nat):(toB a).take n=toB (a.take n):=by simp [toB,List.map_take]
theorem Zie (a:TZ) (n:Nat):(toB a).drop n=toB (a.drop n):=by simp [toB,List.map_drop]
theorem Zbt (s:TV) (x:Int):Q175.f ((iS s).1,(iS s).2) x=some (iS (spS s x)):=by
 unfold Q175.f iS spS;by_cases h:s.2=0 <;> simp [h,toB]
theorem Zou (s:TV) {n:Nat} (hn:n<=100000):Q170.f (iS s) (n:Int)=some (toB (rbS s n).1,iS (rbS s n).2):=by
 unfold Q170.f;rw [Zbt,Zbt,bS,bS];unfold rbS iS spS;by_cases h:s.2=0
 ·rw [iF (by simp [h]),vS,iT h];by_cases h2:s.1.length<n
  ·rw [iT (dT (by rw [Z5]; omega)),iT h2];simp [h,toB]
  ·rw [iF (by simp only [Z5,dE]; omega),iF h2,iO,iT (by rw [Z5]; omega),tN];have:patch (List.replicate n (0:Int)) 0 (List.replicate n (0:Int)).length (toB s.1)=toB (s.1.take n):=by
    unfold patch;rw [length_replicate,Z5,show 0+min n s.1.length=n by omega,drop_eq_nil_of_le (by simp),List.take_zero,List.nil_append,List.append_nil,Zhn]
   rw [this,Zie,h];simp
 ·rw [iT (by simp [h]),iF h];rfl
def Z0 (s:TV) (w:Nat):Nat×TV:=(rdv (rbS s w).1,(rbS s w).2)
theorem Zce (s:TV) (n:Nat):(rbS s n).1.length<=n:=by
 unfold rbS;split
 ·split
  ·exact Nat.zero_le _
  ·rw [length_take]; omega
 ·exact Nat.zero_le _
theorem Uc (s:TV) (w:Nat):(Z0 s w).1<256 ^ w:=Nat.lt_of_lt_of_le (Zij _) (Nat.pow_le_pow_right (by omega) (Zce s w))
theorem Zog (l:TZ) (c:UInt8):rdv (l ++ [c])=rdv l*256+c.toNat:=by
 unfold rdv;rw [List.foldl_append]; rfl
theorem orb {x c:Nat} (hx:x<4294967296) (hc:c<256):uH.wrap (((ofInt uH.bits (uH.wrap ((x:Int)*2 ^ 8)) ||| (ofInt uH.bits (uH.wrap (c:Int)))).toNat:Int))=((x*256+c:Nat):Int):=by
 have e1:(x:Int)*2 ^ 8=((x*256:Nat):Int):=by omega
 rw [e1,V9 (n:=x*256) (by omega),V9 (n:=c) (by omega)];have e2:(ofInt uH.bits ((x*256:Nat):Int) ||| ofInt uH.bits (c:Int)).toNat=x*256+c:=by
  show (ofInt 64 ((x*256:Nat):Int) ||| ofInt 64 (c:Int)).toNat=x*256+c;rw [BitVec.toNat_or,BitVec.ofInt_natCast,BitVec.ofInt_natCast,BitVec.toNat_ofNat,BitVec.toNat_ofNat,Nat.mod_eq_of_lt (by omega),Nat.mod_eq_of_lt (by omega)];have:=Nat.shiftLeft_add_eq_or_of_lt (i:=8) (b:=c) hc x;rw [Nat.shiftLeft_eq] at this;rw [show x*256=x*2 ^ 8 from rfl,<- this]
 rw [e2,V9]
theorem Zn7 (l:TZ) (st:TY) (hl:l.length<=4):∀(m i k:Nat),l.length=i+m->m<k->Q169.l0 k (toB l,st) ((rdv (l.take i):Nat):Int) (i:Int)=some (((rdv l:Nat):Int),st)
 | 0,i,k+1,h,_=>by
  rw [Q169.l0,iF (by simp only [Z5,dE]; omega),tO]
 | m+1,i,k+1,h,hk=>by
  have hi:i<l.length:=by omega
  have hv:=Zij (l.take i);have hv2:256 ^ (l.take i).length<=256 ^ 3:=Nat.pow_le_pow_right (by omega) (by rw [length_take]; omega);have e:gt (toB l) (i:Int)=(((l[i]'hi).toNat:Nat):Int):=by
   rw [Zt,List.getD_eq_getElem?_getD];simp [toB,hi]
  have hc:=(l[i]'hi).toNat_lt;rw [Q169.l0,iT (dT (by rw [Z5]; omega)),iT (by rw [Z5]; omega),e,orb (by omega) (by omega),wS2,<- Zog];have:=Zn7 l st hl m (i+1) k (by omega) (by omega);rw [List.take_add_one,List.getElem?_eq_getElem hi] at this;exact this
theorem Ge (s:TV) {w:Nat} (hw:w=1\/w=2\/w=4) {k:Nat} (hk:10<k):Q169.f k ((iS s).1,(iS s).2) (w:Int)=some (((Z0 s w).1:Int),((iS (Z0 s w).2).1,(iS (Z0 s w).2).2)):=by
 unfold Q169.f Q176.f;have hr:(if (decide ((w:Int)=1))=true then (some true) else (if (decide ((w:Int)=2))=true then (some true) else (if (decide ((w:Int)=4))=true then (some true) else (some (decide ((w:Int)=8))))))=some true:=by
  rcases hw with rfl | rfl | rfl <;> rfl
 have hl:=Zce s w;rw [hr,bS,vS,show Q170.f ((iS s).1,(iS s).2) (w:Int)=_ from Zou s (by omega),bS];have:=Zn7 (rbS s w).1 (iS (rbS s w).2) (by omega) (rbS s w).1.length 0 k (by omega) (by omega);exact this
def nzS (l:TZ):Bool:=l.any fun x=>!decide (x=0)
theorem Zms (l:TZ):((toB l).any fun x=>!decide (x=0))=nzS l:=by
 unfold nzS toB;rw [List.any_map];congr 1;funext x;have:((x.toNat:Int)=0)↔x=0:=by
  constructor
  ·intro h;have h2:x.toNat=0:=by omega
   exact UInt8.toNat_inj.1 (by simpa using h2)
  ·rintro rfl; rfl
 simp only [Function.comp,this]
theorem Zr2 (l:TZ) {k:Nat} (hl:l.length<=10000) (hk:l.length<k):Q96.f k (toB l)=some (nzS l):=by
 obtain ⟨r,h1,h2⟩:=Je (l:=toB l) (F:=fun k i=>Q102.l0 k (toB l) i) (p:=fun x:Int=>!decide (x=0)) (by rw [Z5]; omega) (fun k i=>by
  show Q102.l0 (k+1) (toB l) i=_;rw [Q102.l0,Q174.f,bS]) (toB l).length 0 k (by omega) (by rw [Z5]; exact hk)
 unfold Q96.f Q102.f;rw [show Q102.l0 k (toB l) 0=_ from h1,bS,h2,List.drop_zero,Zms]
theorem Zti (l:TZ) {k:Nat} (hl:l.length<=10000) (hk:l.length<k):Q95.f k (toB l)=some (nzS l):=by
 obtain ⟨r,h1,h2⟩:=Je (l:=toB l) (F:=fun k i=>Q101.l0 k (toB l) i) (p:=fun x:Int=>!decide (x=0)) (by rw [Z5]; omega) (fun k i=>by
  show Q101.l0 (k+1) (toB l) i=_;rw [Q101.l0,Q172.f,bS]) (toB l).length 0 k (by omega) (by rw [Z5]; exact hk)
 unfold Q95.f Q101.f;rw [show Q101.l0 k (toB l) 0=_ from h1,bS,h2,List.drop_zero,Zms]
def U4 (s:TV) (n:Nat):List UInt8×Int:=if nzS (rbS s n).1=true then spS (rbS s n).2 3 else (rbS s n).2
theorem Zp5 (s:TV) {n:Nat} (hn:n<=100) {k:Nat} (hk:1000<k):Q173.f k ((iS s).1,(iS s).2) (n:Int)=some ((iS (U4 s n)).1,(iS (U4 s n)).2):=by
 have hl:=Zce s n;unfold Q173.f U4;rw [show Q170.f ((iS s).1,(iS s).2) (n:Int)=_ from Zou s (by omega),bS,Zr2 _ (by omega) (by omega),bS];cases nzS (rbS s n).1
 ·rfl
 ·rw [iT rfl,iT rfl,Zbt,bS]
def V4 (s:TV) (n most:Nat):List UInt8×TV:=if most<n then ([],spS s 2) else if (rbS s most).1.length<most then ([],(rbS s most).2) else if nzS ((rbS s most).1.drop n)=true then ([],spS (rbS s most).2 3) else ((rbS s most).1.take n,(rbS s most).2)
theorem Zh2 (s:TV) (n:Nat) {most:Nat} (hm:most<=1000) {k:Nat} (hk:2000<k):Q171.f k ((iS s).1,(iS s).2) (n:Int) (most:Int)=some ((V4 s n most).1,((iS (V4 s n most).2).1,(iS (V4 s n most).2).2)):=by
 have hl:=Zce s most;unfold Q171.f V4;rw [vS,show Q170.f ((iS s).1,(iS s).2) (most:Int)=_ from Zou s (by omega),Zbt,bS,bS];by_cases h1:most<n
 ·rw [iP,iT h1]
 ·rw [iN,iF h1];dsimp only;by_cases h2:(rbS s most).1.length<most
  ·rw [iT (dT (by rw [Z5]; omega)),iT h2]
  ·rw [iF (by simp only [Z5,dE]; omega),iF h2,iT (by rw [Z5]; omega),tN,Zie,Zti _ (by rw [length_drop]; omega) (by rw [length_drop]; omega),bS];cases nzS ((rbS s most).1.drop n)
   ·rw [vS,iT (by rw [Z5]; omega),vS,Zhn,Zcl]
   ·rw [iT rfl,iT rfl,Zbt,bS]
def V3 (c:Cfg) (s:TV):Pr×TV:=
 let k:=Z0 s 1
 let v:=Z0 k.2 2
 let x:=V4 v.2 k.1 (cK c)
 let y:=V4 x.2 v.1 (zVv c)
 ((x.1,y.1),y.2)
theorem Zm3 {c:Cfg} (hc:OkC c) (s:TV) {k:Nat} (hk:2000<k):Q41.f k c ((iS s).1,(iS s).2)=some ((V3 c s).1.1,(V3 c s).1.2,((iS (V3 c s).2).1,(iS (V3 c s).2).2)):=by
 obtain ⟨c1,c2,c3,c4,c5,c6,c7,c8,c9⟩:=hc.nat
 have l1:=Uc s 1;have l2:=Uc (Z0 s 1).2 2;unfold Q41.f V3;rw [show Q169.f k ((iS s).1,(iS s).2) 1=_ from Ge s (w:=1) (.inl rfl) (by omega),bS,show Q169.f k _ 2=_ from Ge (Z0 s 1).2 (w:=2) (.inr (.inl rfl)) (by omega),bS];dsimp only;rw [wI2 (x:=((Z0 s 1).1:Int)),wI2 (x:=((Z0 (Z0 s 1).2 2).1:Int)),hc.int.k,hc.int.v,Zh2 _ _ (by omega) (by omega),bS];dsimp only;rw [Zh2 _ _ (by omega) (by omega),bS]
def Gx (c:Cfg):Nat->List UInt8×Int->List Pr->List Pr×TV
 | 0,s,acc=>(acc,s)
 | m+1,s,acc=>Gx c m (V3 c s).2 (acc ++ [(V3 c s).1])
theorem Zit {c:Cfg} (hc:OkC c) (cnt:Nat):∀(m i k:Nat) (s:TV) (acc:List Pr),min (cLe c) cnt=i+m->m+2100<k->acc.length+m<=5000->Q40.l0 k c (cnt:Int) (iS s).1 (iS s).2 acc (i:Int)=some ((0,([]:List Int),([]:List TZ),([]:List Msg),(Gx c m s acc).1),((iS (Gx c m s acc).2).1,(iS (Gx c m s acc).2).2))
 | 0,i,k+1,s,acc,h,hk,ha=>by
  have hi:=hc.int;rw [Q40.l0,hi.l,iF (by simp only [dE]; split <;> omega)];rfl
 | m+1,i,k+1,s,acc,h,hk,ha=>by
  obtain ⟨c1,c2,c3,c4,c5,c6,c7,c8,c9⟩:=hc.nat
  have hi:=hc.int;rw [Q40.l0]; (try rw [G4]); rw [hi.l,iT (dT (by split <;> omega)),Zm3 hc s (by omega),bS,iT (by simp only [List.length_singleton]; omega),wS2]
  exact Zit hc cnt m (i+1) k (V3 c s).2 (acc ++ [(V3 c s).1]) (by omega) (by omega) (by simp; omega)
def W6:Nat->Nat->Nat->List UInt8×Int->List Int->List Int×TV
 | 0,_,_,s,acc=>(acc,s)
 | m+1,i,cnt,s,acc=>W6 m (i+1) cnt (Z0 s 4).2 (if i<cnt then acc ++ [((Z0 s 4).1:Int)] else acc)
def Wy (c:Cfg):Nat->Nat->Nat->List UInt8×Int->List TZ->List TZ×TV
 | 0,_,_,s,acc=>(acc,s)
 | m+1,i,cnt,s,acc=>Wy c m (i+1) cnt (V4 (Z0 s 1).2 (Z0 s 1).1 (cK c)).2 (if i+1<cnt then acc ++ [(V4 (Z0 s 1).2 (Z0 s 1).1 (cK c)).1] else acc)
def Vh (c:Cfg):Nat->List UInt8×Int->List Msg->List Msg×TV
 | 0,s,acc=>(acc,s)
 | m+1,s,acc=>Vh c m (V3 c (Z0 s 1).2).2 (acc ++ [((V3 c (Z0 s 1).2).1.1,decide (((Z0 s 1).1:Int)=2),(V3 c (Z0 s 1).2).1.2)])
theorem Zjz {c:Cfg} (hc:OkC c) (lv:Int) (bf:Nat) (ks:T3) (ps:TR):∀(m i k:Nat) (s:TV) (acc:List Msg),min (cBu c) bf=i+m->m+2100<k->acc.length+m<=5000->Q39.l2 k c lv (bf:Int) ks ps (iS s).1 (iS s).2 acc (i:Int)=some ((lv,ks,ps,(Vh c m s acc).1,([]:List Pr)),((iS (Vh c m s acc).2).1,(iS (Vh c m s acc).2).2))
 | 0,i,k+1,s,acc,h,hk,ha=>by
  have hi:=hc.int;rw [Q39.l2,hi.b,iF (by simp only [dE]; split <;> omega)];rfl
 | m+1,i,k+1,s,acc,h,hk,ha=>by
  obtain ⟨c1,c2,c3,c4,c5,c6,c7,c8,c9⟩:=hc.nat
  have hi:=hc.int;rw [Q39.l2]; (try rw [G4]); rw [hi.b,iT (dT (by split <;> omega)),show Q169.f k ((iS s).1,(iS s).2) 1=_ from Ge s (w:=1) (.inl rfl) (by omega),bS]
  dsimp only;rw [Zm3 hc _ (by omega),bS,iT (by simp only [List.length_singleton]; omega),wS2];exact Zjz hc lv bf ks ps m (i+1) k _ _ (by omega) (by omega) (by simp; omega)
theorem Zew {c:Cfg} (hc:OkC c) (lv:Int) (cnt bf:Nat) (hcnt:cnt<=100000) (ks:T3):∀(m i k:Nat) (s:TV) (acc:TR),cFa c - 1=i+m->m+3200<k->acc.length+m<=5000->
  Q39.l1 k c lv (cnt:Int) (bf:Int) ks (iS s).1 (iS s).2 acc (i:Int)=some ((lv,ks,(Wy c m i cnt s acc).1,(Vh c (min (cBu c) bf) (Wy c m i cnt s acc).2 []).1,([]:List Pr)),((iS (Vh c (min (cBu c) bf) (Wy c m i cnt s acc).2 []).2).1,(iS (Vh c (min (cBu c) bf) (Wy c m i cnt s acc).2 []).2).2))
 | 0,i,k+1,s,acc,h,hk,ha=>by
  obtain ⟨c1,c2,c3,c4,c5,c6,c7,c8,c9⟩:=hc.nat
  have hi:=hc.int;rw [Q39.l1,hi.f,wI2 (x:=(cFa c:Int) - 1),iN];exact Zjz hc lv bf ks acc (min (cBu c) bf) 0 k s [] (by omega) (by omega) (by simp; omega)
 | m+1,i,k+1,s,acc,h,hk,ha=>by
  obtain ⟨c1,c2,c3,c4,c5,c6,c7,c8,c9⟩:=hc.nat
  have hi:=hc.int;have l1:=Uc s 1;rw [Q39.l1,hi.f,wI2 (x:=(cFa c:Int) - 1),iP,show Q169.f k ((iS s).1,(iS s).2) 1=_ from Ge s (w:=1) (.inl rfl) (by omega),bS];dsimp only;rw [wI2 (x:=((Z0 s 1).1:Int)),hi.k,Zh2 _ _ (by omega) (by omega),bS,wS2];dsimp only;by_cases q:i+1<cnt
  ·rw [iP,iT (by simp only [List.length_singleton]; omega)];have:=Zew hc lv cnt bf hcnt ks m (i+1) k (V4 (Z0 s 1).2 (Z0 s 1).1 (cK c)).2 (acc ++ [(V4 (Z0 s 1).2 (Z0 s 1).1 (cK c)).1]) (by omega) (by omega) (by simp; omega);rw [this,Wy,iT q]
  ·rw [iN];have:=Zew hc lv cnt bf hcnt ks m (i+1) k (V4 (Z0 s 1).2 (Z0 s 1).1 (cK c)).2 acc (by omega) (by omega) (by omega);rw [this,Wy,iF q]
def Zoy (c:Cfg) (lv:Int) (cnt bf:Nat) (s:TV):Nd×TV:=
 let a:=W6 (cFa c) 0 cnt s []
 let b:=Wy c (cFa c - 1) 0 cnt a.2 []
 let d:=Vh c (min (cBu c) bf) b.2 []
 ((lv,a.1,b.1,d.1,[]),d.2)
theorem Zry {n:Nat} (h:n<4294967296):uD.wrap (n:Int)=(n:Int):=by
 have:uD.wrap (n:Int)=((n % 4294967296:Nat):Int):=by simp [IntKind.wrap,IntKind.bits,IntKind.signed]
 rw [this,Nat.mod_eq_of_lt h]
theorem Zfj {c:Cfg} (hc:OkC c) (lv:Int) (cnt bf:Nat) (hcnt:cnt<=100000):∀(m i k:Nat) (s:TV) (acc:T3),cFa c=i+m->m+4000<k->acc.length+m<=5000->
  Q39.l0 k c lv (cnt:Int) (bf:Int) (iS s).1 (iS s).2 acc (i:Int)=some ((lv,(W6 m i cnt s acc).1,(Wy c (cFa c - 1) 0 cnt (W6 m i cnt s acc).2 []).1,(Vh c (min (cBu c) bf) (Wy c (cFa c - 1) 0 cnt (W6 m i cnt s acc).2 []).2 []).1,([]:List Pr)),((iS (Vh c (min (cBu c) bf) (Wy c (cFa c - 1) 0 cnt (W6 m i cnt s acc).2 []).2 []).2).1,(iS (Vh c (min (cBu c) bf) (Wy c (cFa c - 1) 0 cnt (W6 m i cnt s acc).2 []).2 []).2).2))
 | 0,i,k+1,s,acc,h,hk,ha=>by
  obtain ⟨c1,c2,c3,c4,c5,c6,c7,c8,c9⟩:=hc.nat
  have hi:=hc.int;rw [Q39.l0,hi.f,iN];exact Zew hc lv cnt bf hcnt acc (cFa c - 1) 0 k s [] (by omega) (by omega) (by simp; omega)
 | m+1,i,k+1,s,acc,h,hk,ha=>by
  obtain ⟨c1,c2,c3,c4,c5,c6,c7,c8,c9⟩:=hc.nat
  have hi:=hc.int;have l1:=Uc s 4;rw [Q39.l0,hi.f,iP,show Q169.f k ((iS s).1,(iS s).2) 4=_ from Ge s (w:=4) (.inr (.inr rfl)) (by omega),bS,wS2];dsimp only;rw [Zry (by omega)];by_cases q:i<cnt
  ·rw [iP,iT (by simp only [List.length_singleton]; omega)];have:=Zfj hc lv cnt bf hcnt m (i+1) k (Z0 s 4).2 (acc ++ [((Z0 s 4).1:Int)]) (by omega) (by omega) (by simp; omega);rw [this,W6,iT q]
  ·rw [iN];have:=Zfj hc lv cnt bf hcnt m (i+1) k (Z0 s 4).2 acc (by omega) (by omega) (by omega);rw [this,W6,iF q]
def Uh (c:Cfg) (b:TZ):Nd×TV:=
 let a1:=Z0 (b,0) 1
 let a2:=Z0 a1.2 1
 let a3:=Z0 a2.2 2
 let a4:=Z0 a3.2 2
 let z:=U4 a4.2 2
 if a1.1=1 then ((0,[],[],[],(Gx c (min (cLe c) a3.1) z []).1),(Gx c (min (cLe c) a3.1) z []).2)
 else if a1.1=2 then Zoy c (if a2.1>1 then (a2.1:Int) else 1) a3.1 a4.1 z
 else ((-1,[],[],[],[]),z)
theorem Zib {α:Type} {a b:List α} {n:Nat} (h:a.length=n):(a ++ b).drop n=b:=by rw [<- h,List.drop_left]
theorem Zhj {α:Type} {a b:List α} {n:Nat} (h:a.length=n):(a ++ b).take n=a:=by rw [<- h,List.take_left]
theorem Ze1 {a r:TZ} {n:Nat} (h:a.length=n):rbS (a ++ r,0) n=(a,(r,0)):=by
 unfold rbS;rw [iT rfl,iF (by simp only [lA]; omega),Zhj h,Zib h]
theorem Wm {w v:Nat} {r:TZ} (h:v<256 ^ w):Z0 (be w v ++ r,0) w=(v,(r,0)):=by
 unfold Z0;rw [Ze1 (Xf w v),Zp0 h]
theorem Znn (n:Nat):nzS (zs n)=false:=by
 unfold nzS zs;rw [List.any_eq_false];intro x hx;rw [List.mem_replicate] at hx;simp [hx.2]
theorem Zfy (n:Nat) (r:TZ):U4 (zs n ++ r,0) n=(r,0):=by
 unfold U4;rw [Ze1 (Ju n),iF (by rw [Znn]; simp)]
theorem Be {s r:TZ} {most:Nat} (h:s.length<=most):V4 (slt s most ++ r,0) s.length most=(s,(r,0)):=by
 unfold V4;rw [Ze1 (Jg h),iQ,iF (by rw [Jg h]; omega)];dsimp only;unfold slt;rw [Zib rfl,Zhj rfl,iF (by rw [Znn]; simp)]
theorem Zgl {c:Cfg} (hc:OkC c) {p:Pr} {r:TZ} (h1:p.1.length<=cK c) (h2:p.2.length<=zVv c):V3 c (prS (cK c) (zVv c) p ++ r,0)=(p,(r,0)):=by
 obtain ⟨c1,c2,c3,c4,c5,c6,c7,c8,c9⟩:=hc.nat
 have e:prS (cK c) (zVv c) p ++ r=be 1 p.1.length ++ (be 2 p.2.length ++ (slt p.1 (cK c) ++ (slt p.2 (zVv c) ++ r))):=by unfold prS; simp only [append_assoc]
 unfold V3;rw [e,Wm (by omega)];dsimp only;rw [Wm (by omega)];dsimp only;rw [Be h1];dsimp only;rw [Be h2]
theorem Zcc {α:Type} (f:α->List UInt8) (x:α) (l:List α) (r:TZ):cat f (x :: l) ++ r=f x ++ (cat f l ++ r):=by unfold cat; rw [List.flatMap_cons,append_assoc]
theorem Zia {c:Cfg} (hc:OkC c):∀(l acc:List Pr) (r:TZ),(∀ p∈l,p.1.length<=cK c/\p.2.length<=zVv c)->Gx c l.length (cat (prS (cK c) (zVv c)) l ++ r,0) acc=(acc ++ l,(r,0))
 | [],acc,r,_=>by rw [List.append_nil]; rfl
 | p :: l,acc,r,h=>by
  have hp:=h p (by simp);rw [length_cons,Gx,Zcc,Zgl hc hp.1 hp.2];dsimp only;rw [Zia hc l _ r fun q hq=>h q (by simp [hq]),append_assoc]; rfl
theorem Zh9:∀(z i cnt:Nat) (acc:T3) (r:TZ),cnt<=i->W6 z i cnt (zs (4*z) ++ r,0) acc=(acc,(r,0))
 | 0,_,_,_,_,_=>rfl
 | z+1,i,cnt,acc,r,h=>by
  have e:zs (4*(z+1))=be 4 0 ++ zs (4*z):=by
   rw [show be 4 0=zs 4 by decide,Js]; congr 1; omega
  rw [W6,e,append_assoc,Wm (by decide),iQ];exact Zh9 z (i+1) cnt acc r (by omega)
theorem Zgt (cnt z:Nat) (r:TZ):∀(l:T3) (i:Nat) (acc:T3),i+l.length=cnt->(∀ x∈l,0<=x/\x<4294967296)->W6 (l.length+z) i cnt (cat kdS l ++ (zs (4*z) ++ r),0) acc=(acc ++ l,(r,0))
 | [],i,acc,h,_=>by
  rw [List.append_nil,length_nil,Nat.zero_add];exact Zh9 z i cnt acc r (by simpa using Nat.le_of_eq h.symm)
 | x :: l,i,acc,h,hx=>by
  have hx0:=hx x (by simp);rw [length_cons] at h;rw [length_cons,show l.length+1+z=(l.length+z)+1 by omega,W6,Zcc];unfold kdS;rw [Wm (v:=x.toNat) (by omega)];dsimp only;rw [iO,show ((x.toNat:Nat):Int)=x by omega];have:=Zgt cnt z r l (i+1) (acc ++ [x]) (by omega) fun y hy=>hx y (by simp [hy]);rw [append_assoc] at this;exact this
theorem Zhe {c:Cfg} (hc:OkC c):∀(z i cnt:Nat) (acc:TR) (r:TZ),cnt<=i+1->Wy c z i cnt (zs ((1+cK c)*z) ++ r,0) acc=(acc,(r,0))
 | 0,_,_,_,_,_=>rfl
 | z+1,i,cnt,acc,r,h=>by
  have e:zs ((1+cK c)*(z+1))=be 1 0 ++ (slt [] (cK c) ++ zs ((1+cK c)*z)):=by
   unfold slt;rw [show be 1 0=zs 1 by decide,List.nil_append,Js,Js,length_nil,Nat.mul_succ]; congr 1; omega
  have e2:V4 (slt [] (cK c) ++ (zs ((1+cK c)*z) ++ r),0) 0 (cK c)=(([]:List UInt8),(zs ((1+cK c)*z) ++ r,0)):=Be (s:=[]) (Nat.zero_le _);rw [Wy,e,append_assoc,append_assoc,Wm (by decide)];dsimp only;rw [e2,iQ];exact Zhe hc z (i+1) cnt acc r (by omega)
theorem Zgk {c:Cfg} (hc:OkC c) (cnt z:Nat) (r:TZ):∀(l:TR) (i:Nat) (acc:TR),i+l.length+1=cnt->(∀ x∈l,x.length<=cK c)->Wy c (l.length+z) i cnt (cat (pvS (cK c)) l ++ (zs ((1+cK c)*z) ++ r),0) acc=(acc ++ l,(r,0))
 | [],i,acc,h,_=>by
  rw [List.append_nil,length_nil,Nat.zero_add];exact Zhe hc z i cnt acc r (by simpa using Nat.le_of_eq h.symm)
 | x :: l,i,acc,h,hx=>by
  obtain ⟨c1,c2,c3,c4,c5,c6,c7,c8,c9⟩:=hc.nat
  have hx0:=hx x (by simp);rw [length_cons] at h;rw [length_cons,show l.length+1+z=(l.length+z)+1 by omega,Wy,Zcc];unfold pvS;rw [append_assoc,Wm (v:=x.length) (by omega)];dsimp only;rw [Be hx0,iO];dsimp only;have:=Zgk hc cnt z r l (i+1) (acc ++ [x]) (by omega) fun y hy=>hx y (by simp [hy]);rw [append_assoc] at this;exact this
theorem Zgn {c:Cfg} (hc:OkC c):∀(l acc:List Msg) (r:TZ),(∀ p∈l,p.1.length<=cK c/\p.2.2.length<=zVv c)->Vh c l.length (cat (msS (cK c) (zVv c)) l ++ r,0) acc=(acc ++ l,(r,0))
 | [],acc,r,_=>by rw [List.append_nil]; rfl
 | p :: l,acc,r,h=>by
  have hp:=h p (by simp);have e:msS (cK c) (zVv c) p ++ (cat (msS (cK c) (zVv c)) l ++ r)=be 1 (if p.2.1=true then 2 else 1) ++ (prS (cK c) (zVv c) (p.1,p.2.2) ++ (cat (msS (cK c) (zVv c)) l ++ r)):=by
   unfold msS;cases p.2.1 <;> rfl
  rw [length_cons,Vh,Zcc,e,Wm (by split <;> decide)];dsimp only;rw [Zgl hc (p:=(p.1,p.2.2)) hp.1 hp.2];dsimp only;rw [show (decide ((((if p.2.1=true then 2 else 1:Nat)):Int)=2))=p.2.1 by cases p.2.1 <;> rfl,Zgn hc l _ r fun q hq=>h q (by simp [hq]),append_assoc]; rfl
theorem Zl7 {c:Cfg} {n:Nd} (hc:OkC c) (hn:FitN c n):∃ r,Uh c (B1 c n)=(n,(r,0)):=by
 obtain ⟨c1,c2,c3,c4,c5,c6,c7,c8,c9⟩:=hc.nat
 unfold B1 slt;generalize hz:zs (cBy c - (Bx c n).length)=Z;refine ⟨Z,?_⟩;by_cases h0:n.1=0
 ·obtain ⟨a1,a2,a3,a4⟩:=hn.o h0;rw [show Bx c n=hdO n ++ bdO c n from iT h0];have e:hdO n ++ bdO c n ++ Z=be 1 1 ++ (be 1 0 ++ (be 2 n.2.2.2.2.length ++ (be 2 0 ++ (zs 2 ++ (cat (prS (cK c) (zVv c)) n.2.2.2.2 ++ Z))))):=by
   unfold hdO bdO;rw [show be 1 1=[1] by decide,show be 1 0=[0] by decide,show be 2 0=zs 2 by decide,<- append_assoc (zs 2),Js];simp only [append_assoc,List.cons_append,List.nil_append]
  unfold Uh;rw [e,Wm (by decide)];dsimp only;rw [Wm (by decide)];dsimp only;rw [Wm (by omega)];dsimp only;rw [Wm (by decide)];dsimp only;rw [Zfy,iT rfl,show min (cLe c) n.2.2.2.2.length=n.2.2.2.2.length by omega,Zia hc _ _ _ hn.rk];rw [List.nil_append];exact Prod.ext (Prod.ext h0.symm (Prod.ext a1.symm (Prod.ext a2.symm (Prod.ext a3.symm rfl)))) rfl
 ·obtain ⟨a1,a2,a3,a4,a5⟩:=hn.i h0;have hlv:=hn.lv;rw [show Bx c n=hdI n ++ bdI c n from iF h0];have e:hdI n ++ bdI c n ++ Z=be 1 2 ++ (be 1 n.1.toNat ++ (be 2 n.2.1.length ++ (be 2 n.2.2.2.1.length ++ (zs 2 ++ (cat kdS n.2.1 ++ (zs (4*(cFa c - n.2.1.length)) ++ (cat (pvS (cK c)) n.2.2.1 ++ (zs ((1+cK c)*(cFa c - 1 - n.2.2.1.length)) ++ (cat (msS (cK c) (zVv c)) n.2.2.2.1 ++ Z))))))))):=by
   unfold hdI bdI;rw [show be 1 2=[2] by decide];simp only [append_assoc,List.cons_append,List.nil_append]
  unfold Uh;rw [e,Wm (by decide)];dsimp only;rw [Wm (by omega)];dsimp only;rw [Wm (by omega)];dsimp only;rw [Wm (by omega)];dsimp only;rw [Zfy,iF (by decide),iT rfl];unfold Zoy;have k1:=Zgt n.2.1.length (cFa c - n.2.1.length) (cat (pvS (cK c)) n.2.2.1 ++ (zs ((1+cK c)*(cFa c - 1 - n.2.2.1.length)) ++ (cat (msS (cK c) (zVv c)) n.2.2.2.1 ++ Z))) n.2.1 0 [] (by omega) hn.kd;rw [show n.2.1.length+(cFa c - n.2.1.length)=cFa c by omega] at k1;have k2:=Zgk hc n.2.1.length (cFa c - 1 - n.2.2.1.length) (cat (msS (cK c) (zVv c)) n.2.2.2.1 ++ Z) n.2.2.1 0 [] (by omega) hn.pk;rw [show n.2.2.1.length+(cFa c - 1 - n.2.2.1.length)=cFa c - 1 by omega] at k2;rw [k1];dsimp only;rw [k2];dsimp only;rw [show min (cBu c) n.2.2.2.1.length=n.2.2.2.1.length by omega,Zgn hc _ _ _ hn.ms];refine Prod.ext (Prod.ext ?_ (Prod.ext rfl (Prod.ext rfl (Prod.ext rfl a1.symm)))) rfl;show (if n.1.toNat>1 then (n.1.toNat:Int) else 1)=n.1
  split <;> omega
theorem Zh5 (c:Cfg):∀(m:Nat) (s:TV) (acc:List Pr),(Gx c m s acc).1.length=acc.length+m
 | 0,_,_=>rfl
 | m+1,s,acc=>by rw [Gx,Zh5 c m,lA,List.length_singleton]; omega
theorem Zgo (c:Cfg):∀(m:Nat) (s:TV) (acc:List Msg),(Vh c m s acc).1.length=acc.length+m
 | 0,_,_=>rfl
 | m+1,s,acc=>by rw [Vh,Zgo c m,lA,List.length_singleton]; omega
theorem Zfz (c:Cfg):∀(m i cnt:Nat) (s:TV) (acc:TR),(Wy c m i cnt s acc).1.length<=acc.length+m
 | 0,_,_,_,_=>Nat.le_refl _
 | m+1,i,cnt,s,acc=>by
  rw [Wy];refine Nat.le_trans (Zfz c m _ _ _ _) ?_;split
  ·rw [lA,List.length_singleton]; omega
  ·omega
theorem Zb9:∀(m i cnt:Nat) (s:TV) (acc:T3),(∀ x∈acc,0<=x/\x<4294967296)->(W6 m i cnt s acc).1.length<=acc.length+m/\∀ x∈(W6 m i cnt s acc).1,0<=x/\x<4294967296
 | 0,_,_,_,_,h=>⟨Nat.le_refl _,h⟩
 | m+1,i,cnt,s,acc,h=>by
  rw [W6];have hv:=Uc s 4;by_cases q:i<cnt
  ·rw [iT q];obtain ⟨g1,g2⟩:=Zb9 m (i+1) cnt (Z0 s 4).2 (acc ++ [((Z0 s 4).1:Int)]) (by
    intro x hx;rcases List.mem_append.1 hx with hx | hx
    ·exact h x hx
    ·rw [List.mem_singleton] at hx; omega)
   rw [lA,List.length_singleton] at g1;exact ⟨by omega,g2⟩
  ·rw [iF q];obtain ⟨g1,g2⟩:=Zb9 m (i+1) cnt (Z0 s 4).2 acc h;exact ⟨by omega,g2⟩
structure Rd (n:Nd):Prop where
 kids:n.2.1.length<=64
 pivs:n.2.2.1.length<=64
 buf:n.2.2.2.1.length<=512
 prs:n.2.2.2.2.length<=1024
 kd:∀ x∈n.2.1,0<=x/\x<4294967296
theorem Zoa {c:Cfg} (hc:OkC c) (b:TZ):Rd (Uh c b).1:=by
 obtain ⟨c1,c2,c3,c4,c5,c6,c7,c8,c9⟩:=hc.nat
 unfold Uh;dsimp only;split
 ·refine ⟨by simp,by simp,by simp,?_,by simp⟩;show (Gx c _ _ []).1.length<=1024;rw [Zh5,length_nil]; omega
 ·split
  ·unfold Zoy;dsimp only;obtain ⟨g1,g2⟩:=Zb9 (cFa c) 0 (Z0 (Z0 (Z0 (b,0) 1).2 1).2 2).1 (U4 (Z0 (Z0 (Z0 (Z0 (b,0) 1).2 1).2 2).2 2).2 2) [] (by simp);rw [length_nil] at g1;refine ⟨by show (W6 _ _ _ _ _).1.length<=64; omega,?_,?_,by simp,g2⟩
   ·show (Wy c _ _ _ _ []).1.length<=64;refine Nat.le_trans (Zfz c _ _ _ _ _) ?_;rw [length_nil]; omega
   ·show (Vh c _ _ []).1.length<=512;rw [Zgo,length_nil]; omega
  ·exact ⟨by simp,by simp,by simp,by simp,by simp⟩
theorem Ztn {k:Nat} {a b:T3} (ha:a.length<=1000000) (hk:a.length<k):Q98.f k a b=some (decide (a=b)):=by
 unfold Q98.f;by_cases h:a.length=b.length
 ·rw [iF (by simp [h])];have:=Bh (F:=fun k i=>Q98.l0 k a b i) (eqb:=fun x y=>decide (x=y)) (fun x y=>rfl) h ha (fun k i=>rfl) k 0 (by omega) (by omega);simpa using this
 ·rw [iV];have:a≠b:=fun e=>h (by rw [e]);simp [this]
def G8:Nd:=(0,[],[],[],[])
def Zlc (c:Cfg) (b:TZ) (n:Nd) (e:Int):Nd×Int:=if e=0 then (if Yx c W4 n=true then (if B1 c n=b then (n,0) else (G8,12)) else (G8,12)) else (G8,12)
def Ze6 (c:Cfg) (b:TZ):Nd×Int:=if okB c=true then Zlc c b (Uh c b).1 (Uh c b).2.2 else (G8,2)
theorem Zq8 {a b:TZ}:toB a=toB b↔a=b:=⟨fun e=>by rw [<- Zcl a,e,Zcl],fun e=>by rw [e]⟩
theorem Ze7 {c:Cfg} {n:Nd} (hok:okB c=true) (hn:FitN c n):(B1 c n).length=cBy c:=Jg (Zcj hok hn).1
theorem Zs5 {c:Cfg} {b:TZ} (hok:okB c=true) {n:Nd} {s:TV} {k:Nat} (hk:70000<k) (hl:∀ x∈n.2.1,0<=x/\x<4294967296) (he:Q35.f k c n=some (Um c n)):((Q168.f ((iS s).1,(iS s).2)).bind fun r9=>(if (!decide (r9=0))=true then (some (G8,(12:Int))) else ((Q35.f k c n).bind fun r10=>(if (!decide (r10.2=0))=true then some (G8,(12:Int)) else ((Q98.f k r10.1 (toB b)).bind fun r11=>(if (!r11)=true then some (G8,(12:Int)) else some (n,(0:Int))))))))=some (Zlc c b n s.2):=by
 unfold Q168.f Zlc iS;rw [bS,he]
 try dsimp only
 by_cases h0:s.2=0
 ·rw [iF (by simp [h0]),iT h0,bS];unfold Um;rw [iT hok];cases hr:Yx c W4 n with
  | false=>rfl
  | true=>
   have hn:=Jq (Gc hok) hl hr;have r2:=(Zcj hok hn).2.1;rw [iT rfl,iT rfl]
   try dsimp only
   rw [vS,Ztn (by rw [Z5,Ze7 hok hn]; omega) (by rw [Z5,Ze7 hok hn]; omega),bS];by_cases e:B1 c n=b
   ·rw [iF (by simp [e]),iT e]
   ·rw [iT (by simp [Zq8,e]),iF e]
 ·rw [iT (by simp [h0]),iF h0]
theorem Zst {l:T3} (hl:l.length<=1000000):Q89.f l=some l:=by
 unfold Q89.f;rw [iV];simp
theorem Zt4 {c:Cfg} {b:TZ} (hb:b.length<=100000):Ev (fun k=>Q34.f k c (toB b)) (Ze6 c b):=by
 by_cases hok:okB c=true
 ·have hc:=Gc hok;have hr:=Zoa hc b;obtain ⟨k1,h1⟩:=Zsl (c:=c) (n:=(Uh c b).1) (by have:=hr.kids; omega) (by have:=hr.pivs; omega) (by have:=hr.buf; omega) (by have:=hr.prs; omega) hr.kd;refine ⟨k1+80000,fun k hk=>?_⟩;have he:=h1 k (by omega);have tl:=Zs5 (b:=b) (s:=(Uh c b).2) hok (show 70000<k by omega) hr.kd he;have hi:=hc.int;unfold Ze6;rw [iT hok,<- tl];show Q34.f k c (toB b)=_;unfold Q34.f Q166.f
  (try rw [G4]); rw [Zej,bS,iT hok,vS,Zst (by rw [Z5]; omega),bS,bS]
  try dsimp only
  have l1:=Uc (b,0) 1;have l2:=Uc (Z0 (b,0) 1).2 1;have l3:=Uc (Z0 (Z0 (b,0) 1).2 1).2 2;have l4:=Uc (Z0 (Z0 (Z0 (b,0) 1).2 1).2 2).2 2;rw [show Q169.f k (toB b,(0:Int)) 1=_ from Ge (b,0) (w:=1) (.inl rfl) (by omega),bS]
  try dsimp only
  rw [show Q169.f k _ 1=_ from Ge (Z0 (b,0) 1).2 (w:=1) (.inl rfl) (by omega),bS]
  try dsimp only
  rw [show Q169.f k _ 2=_ from Ge (Z0 (Z0 (b,0) 1).2 1).2 (w:=2) (.inr (.inl rfl)) (by omega),bS]
  try dsimp only
  rw [show Q169.f k _ 2=_ from Ge (Z0 (Z0 (Z0 (b,0) 1).2 1).2 2).2 (w:=2) (.inr (.inl rfl)) (by omega),bS]
  try dsimp only
  rw [show Q173.f k _ 2=_ from Zp5 (Z0 (Z0 (Z0 (Z0 (b,0) 1).2 1).2 2).2 2).2 (n:=2) (by omega) (by omega),bS]
  try dsimp only
  by_cases q1:(Z0 (b,0) 1).1=1
  ·have er:Uh c b=_:=iT q1;rw [er,iP,wI2 (x:=((Z0 (Z0 (Z0 (b,0) 1).2 1).2 2).1:Int))];rw [show Q40.f k c _ (((Z0 (Z0 (Z0 (b,0) 1).2 1).2 2).1:Nat):Int)=_ from Zit hc (Z0 (Z0 (Z0 (b,0) 1).2 1).2 2).1 (min (cLe c) (Z0 (Z0 (Z0 (b,0) 1).2 1).2 2).1) 0 k (U4 (Z0 (Z0 (Z0 (Z0 (b,0) 1).2 1).2 2).2 2).2 2) [] (by omega) (by have:=hc.nat; omega) (by have:=hc.nat; simp; omega),bS];rfl
  ·rw [iN];by_cases q2:(Z0 (b,0) 1).1=2
   ·have er:Uh c b=_:=(iF q1).trans (iT q2);rw [er,iP,wI2 (x:=((Z0 (Z0 (Z0 (b,0) 1).2 1).2 2).1:Int)),wI2 (x:=((Z0 (Z0 (b,0) 1).2 1).1:Int)),wI2 (x:=((Z0 (Z0 (Z0 (Z0 (b,0) 1).2 1).2 2).2 2).1:Int)),
     show (if (((Z0 (Z0 (b,0) 1).2 1).1:Nat):Int)>1 then (((Z0 (Z0 (b,0) 1).2 1).1:Nat):Int) else 1)=(if (Z0 (Z0 (b,0) 1).2 1).1>1 then (((Z0 (Z0 (b,0) 1).2 1).1:Nat):Int) else 1) by split <;> split <;> omega]
    rw [show Q39.f k c _ _ _ _=_ from Zfj hc (if (Z0 (Z0 (b,0) 1).2 1).1>1 then (((Z0 (Z0 (b,0) 1).2 1).1:Nat):Int) else 1) (Z0 (Z0 (Z0 (b,0) 1).2 1).2 2).1 (Z0 (Z0 (Z0 (Z0 (b,0) 1).2 1).2 2).2 2).1 (by omega) (cFa c) 0 k (U4 (Z0 (Z0 (Z0 (Z0 (b,0) 1).2 1).2 2).2 2).2 2) [] (by omega) (by have:=hc.nat; omega) (by have:=hc.nat; simp; omega),bS]
    rfl
   ·have er:Uh c b=_:=(iF q1).trans (iF q2);rw [er,iN];rfl
 ·refine ⟨0,fun k _=>?_⟩;show Q34.f k c (toB b)=_;unfold Q34.f Ze6
  (try rw [G4]); rw [Zej,bS,iF hok,iF hok,iU]
  rfl
theorem Zo6 {c:Cfg} {n:Nd} (hok:okB c=true) (hl:∀ x∈n.2.1,0<=x/\x<4294967296) (hr:Yx c W4 n=true):Ze6 c (B1 c n)=(n,0):=by
 obtain ⟨r,h⟩:=Zl7 (Gc hok) (Jq (Gc hok) hl hr);unfold Ze6 Zlc;rw [iT hok,h]
 try dsimp only
 rw [iT rfl,iT hr,iT rfl]
abbrev Lnk:=Int×Int×Bool
abbrev Chn:=List Lnk×Int
def ah (l:List Lnk) (k:Nat):Int:=(l.getD k default).1
def bh (l:List Lnk) (k:Nat):Int:=(l.getD k default).2.1
def inn (l:List Lnk) (k:Nat):Bool:=(l.getD k default).2.2
theorem Xg {α:Type} {l:List α} {j k:Nat} {v d:α} (hj:j<l.length:=by omega):(l.set j v).getD k d=if j=k then v else l.getD k d:=by
 rw [List.getD_eq_getElem?_getD,List.getD_eq_getElem?_getD,List.getElem?_set];split
 ·rename_i h;subst h;simp [hj]
 ·rfl
def Lk (l:List Lnk) (a b:Nat):Prop:=bh l a=(b:Int)/\ah l b=(a:Int)
def W2 (l:List Lnk):Nat->List Nat->Prop
 | _,[]=>True
 | a,x :: L=>Lk l a x/\W2 l x L
def Ug:Nat->List Nat->Nat
 | a,[]=>a
 | _,x :: L=>Ug x L
theorem Za1 {l:List Lnk}:∀ {a:Nat} {X Y:List Nat},W2 l a (X ++ Y)↔W2 l a X/\W2 l (Ug a X) Y
 | a,[],Y=>by simp [W2,Ug]
 | a,x :: X,Y=>by
  rw [List.cons_append,W2,W2,Ug,Za1,and_assoc]
theorem Jy:∀ {a:Nat} {L:List Nat},Ug a L∈a :: L
 | a,[]=>by simp [Ug]
 | a,x :: L=>by
  rw [Ug];have:=Jy (a:=x) (L:=L);simp only [List.mem_cons] at this ⊢;rcases this with h | h
  ·exact .inr (.inl h)
  ·exact .inr (.inr h)
theorem Bn {l l':List Lnk}:∀ {a:Nat} {L:List Nat},(∀ x∈(a :: L).dropLast,bh l' x=bh l x)->(∀ y∈L,ah l' y=ah l y)->W2 l a L->W2 l' a L
 | a,[],_,_,_=>trivial
 | a,x :: L,h1,h2,h=>by
  rw [W2] at h ⊢;refine ⟨⟨?_,?_⟩,Bn (fun y hy=>h1 y ?_) (fun y hy=>h2 y (by simp [hy])) h.2⟩
  ·rw [h1 a (by simp)]; exact h.1.1
  ·rw [h2 x (by simp)]; exact h.1.2
  ·rw [List.dropLast_cons_of_ne_nil (by simp)];exact List.mem_cons_of_mem _ hy
structure ChI (n:Nat) (c:Chn) (L:List Nat):Prop where
 len:c.1.length=n+1
 cnt:c.2=(L.length:Int)
 nd:L.Nodup
 lt:∀ x∈L,x<n
 inn:∀ x,x<=n->(inn c.1 x=true↔x∈L)
 ring:W2 c.1 n (L ++ [n])
theorem Zjc:∀ {n:Nat} {L:List Nat},L.Nodup->(∀ x∈L,x<n)->L.length<=n
 | 0,[],_,_=>Nat.le_refl _
 | 0,x :: L,_,h=>by have:=h x (by simp); omega
 | n+1,L,hd,h=>by
  have:=Zjc (n:=n) (hd.erase n) fun x hx=>by
   have h1:=h x (List.mem_of_mem_erase hx);have h2:=(hd.mem_erase_iff.1 hx).1;omega
  rw [List.length_erase] at this;split at this <;> omega
theorem ChI.short {n:Nat} {c:Chn} {L:List Nat} (h:ChI n c L):L.length<=n:=Zjc h.nd h.lt
theorem Zad:∀ {a:Nat} {L:List Nat},(a :: L).Nodup->∀ x∈(a :: L).dropLast,x≠Ug a L
 | a,[],_,x,hx=>by simp at hx
 | a,y :: L,hd,x,hx=>by
  rw [List.dropLast_cons_of_ne_nil (by simp),List.mem_cons] at hx;rw [Ug];rcases hx with rfl | hx
  ·exact fun e=>(List.nodup_cons.1 hd).1 (e ▸ Jy)
  ·exact Zad (List.nodup_cons.1 hd).2 x hx
theorem gtl (l:List Lnk) (k:Nat):gt l (k:Int)=(ah l k,bh l k,SK.T.inn l k):=by
 rw [Zt]; rfl
section
variable {n:Nat} {c:Chn} {L:List Nat}
theorem ChI.split (h:ChI n c L) {i:Nat} (hi:i∈L):∃(P S:List Nat) (s:Nat) (T:List Nat),L=P ++ i :: S/\S ++ [n]=s :: T/\W2 c.1 n P/\Lk c.1 (Ug n P) i/\Lk c.1 i s/\W2 c.1 s T/\Ug n P<=n/\s<=n:=by
 obtain ⟨P,S,rfl⟩:=List.append_of_mem hi;obtain ⟨s,T,e⟩:∃ s T,S ++ [n]=s :: T:=by
  cases S with
  | nil=>exact ⟨n,[],rfl⟩
  | cons x S=>exact ⟨x,S ++ [n],rfl⟩
 have hr:=h.ring;rw [append_assoc,List.cons_append,Za1,W2,e,W2] at hr;refine ⟨P,S,s,T,rfl,e,hr.1,hr.2.1,hr.2.2.1,hr.2.2.2,?_,?_⟩
 ·have:=Jy (a:=n) (L:=P);rcases List.mem_cons.1 this with h1 | h1
  ·omega
  ·have:=h.lt _ (List.mem_append_left _ h1); omega
 ·have:s∈S ++ [n]:=by rw [e]; simp
  rcases List.mem_append.1 this with h1 | h1
  ·have:=h.lt s (by simp [h1]); omega
  ·simp at h1; omega
theorem Ztq (h:ChI n c L) {i:Nat} (hi:i∈L) (hn:n<=1000):∃ c',Q27.f c (i:Int)=some c'/\ChI n c' (L.erase i):=by
 obtain ⟨P,S,s,T,e1,e2,r1,r2,r3,r4,hp,hs⟩:=h.split hi;have hin:=h.lt i hi;have hlen:=h.len;generalize hpe:Ug n P=p at *;have ei:SK.T.inn c.1 i=true:=(h.inn i (by omega)).2 hi;have nd:(P ++ i :: S).Nodup:=e1 ▸ h.nd;have nd2:=List.nodup_append.1 nd;have ndS:=(List.nodup_cons.1 nd2.2.1);have hnP:n∉P:=fun hx=>by have:=h.lt n (by rw [e1]; simp [hx]); omega
 have hnS:n∉S:=fun hx=>by have:=h.lt n (by rw [e1]; simp [hx]); omega
 have hiP:i∉P:=fun hx=>nd2.2.2 i hx i (by simp) rfl;have hpi:p≠i:=fun e=>by
  have:p∈n :: P:=hpe ▸ Jy;rcases List.mem_cons.1 this with h1 | h1
  ·omega
  ·exact hiP (e ▸ h1)
 have hsi:s≠i:=fun e=>by
  have:s∈S ++ [n]:=by rw [e2]; simp
  rcases List.mem_append.1 this with h1 | h1
  ·exact ndS.1 (e ▸ h1)
  ·simp at h1; omega
 have a1:(gt c.1 (i:Int)).1=(p:Int):=by rw [gtl]; exact r2.2
 have a2:(gt c.1 (i:Int)).2.1=(s:Int):=by rw [gtl]; exact r3.1
 have a3:(gt c.1 (i:Int)).2.2=true:=by rw [gtl]; exact ei
 unfold Q27.f;rw [iO,a3,vS,a1,a2,iO,iT (by rw [length_set]; omega),iT (by rw [length_set,length_set]; omega)];simp only [tN,gtl];generalize hl1:c.1.set p (ah c.1 p,(s:Int),SK.T.inn c.1 p)=l1;have hl1l:l1.length=n+1:=by rw [<- hl1,length_set,hlen]
 generalize hl2:l1.set s ((p:Int),bh l1 s,SK.T.inn l1 s)=l2;have hl2l:l2.length=n+1:=by rw [<- hl2,length_set,hl1l]
 have g1:∀ k,l1.getD k default=if p=k then (ah c.1 p,(s:Int),SK.T.inn c.1 p) else c.1.getD k default:=fun k=>by rw [<- hl1]; exact Xg
 have g2:∀ k,l2.getD k default=if s=k then ((p:Int),bh l1 s,SK.T.inn l1 s) else l1.getD k default:=fun k=>by rw [<- hl2]; exact Xg
 have g3:∀ k,(l2.set i (0,0,false)).getD k default=if i=k then (0,0,false) else l2.getD k default:=fun k=>Xg
 have b1:∀ k,bh l1 k=if p=k then (s:Int) else bh c.1 k:=fun k=>by unfold bh; rw [g1 k]; split <;> rfl
 have n1:∀ k,SK.T.inn l1 k=SK.T.inn c.1 k:=fun k=>by
  show (l1.getD k default).2.2=_;rw [g1 k]; split
  ·rename_i e; rw [<- e]
  ·rfl
 have c1:∀ k,ah l1 k=ah c.1 k:=fun k=>by
  show (l1.getD k default).1=_;rw [g1 k]; split
  ·rename_i e; rw [<- e]
  ·rfl
 have b3:∀ k,k≠i->bh (l2.set i (0,0,false)) k=if p=k then (s:Int) else bh c.1 k:=fun k hk=>by
  show ((l2.set i (0,0,false)).getD k default).2.1=_;rw [g3 k,iF (Ne.symm hk),g2 k];split
  ·rename_i e; rw [<- e]; exact b1 s
  ·exact b1 k
 have c3:∀ k,k≠i->ah (l2.set i (0,0,false)) k=if s=k then (p:Int) else ah c.1 k:=fun k hk=>by
  show ((l2.set i (0,0,false)).getD k default).1=_;rw [g3 k,iF (Ne.symm hk),g2 k];split
  ·rfl
  ·exact c1 k
 have n3:∀ k,SK.T.inn (l2.set i (0,0,false)) k=if i=k then false else SK.T.inn c.1 k:=fun k=>by
  show ((l2.set i (0,0,false)).getD k default).2.2=_;rw [g3 k];split
  ·rfl
  ·rw [g2 k];split
   ·rename_i e; rw [<- e]; exact n1 s
   ·exact n1 k
 have el:L.erase i=P ++ S:=by
  rw [e1,List.erase_append_right _ hiP,List.erase_cons_head]
 refine ⟨_,rfl,⟨by rw [length_set,hl2l],?_,?_,?_,?_,?_⟩⟩
 ·rw [el,h.cnt,e1];have:=h.short;rw [e1] at this;simp only [lA,length_cons] at this ⊢;rw [wI2]; omega
 ·exact h.nd.erase i
 ·exact fun x hx=>h.lt x (List.mem_of_mem_erase hx)
 ·intro x hx;rw [n3 x,h.nd.mem_erase_iff];split
  ·rename_i e; simp [e]
  ·rename_i e;rw [h.inn x hx];exact ⟨fun g=>⟨fun e'=>e e'.symm,g⟩,fun g=>g.2⟩
 ·rw [el,append_assoc,e2,Za1,hpe,W2];have hTs:∀ y∈T,y≠s/\y≠i:=fun y hy=>by
   have hnd:(S ++ [n]).Nodup:=List.nodup_append.2 ⟨ndS.2,by simp,fun a ha b hb e=>by simp at hb; exact hnS (hb ▸ e ▸ ha)⟩;rw [e2] at hnd;refine ⟨fun e=>(List.nodup_cons.1 hnd).1 (e ▸ hy),fun e=>?_⟩;have:y∈S ++ [n]:=by rw [e2]; simp [hy]
   rcases List.mem_append.1 this with h1 | h1
   ·exact ndS.1 (e ▸ h1)
   ·simp at h1; omega
  have hsT:∀ x∈(s :: T).dropLast,x≠p/\x≠i:=fun x hx=>by
   rw [<- e2,List.dropLast_concat] at hx;refine ⟨fun e=>?_,fun e=>ndS.1 (e ▸ hx)⟩;have:p∈n :: P:=hpe ▸ Jy;rcases List.mem_cons.1 this with h1 | h1
   ·exact hnS (h1 ▸ e ▸ hx)
   ·exact nd2.2.2 p h1 x (by simp [hx]) e.symm
  have hPp:∀ x∈(n :: P).dropLast,x≠p/\x≠i:=fun x hx=>by
   have hnd:(n :: P).Nodup:=List.nodup_cons.2 ⟨hnP,nd2.1⟩;refine ⟨hpe ▸ Zad hnd x hx,fun e=>?_⟩;have:=List.dropLast_subset _ hx;rcases List.mem_cons.1 this with h1 | h1
   ·omega
   ·exact hiP (e ▸ h1)
  have hPs:∀ y∈P,y≠s/\y≠i:=fun y hy=>by
   refine ⟨fun e=>?_,fun e=>hiP (e ▸ hy)⟩;have:s∈S ++ [n]:=by rw [e2]; simp
   rcases List.mem_append.1 this with h1 | h1
   ·exact nd2.2.2 y hy s (by simp [h1]) e
   ·simp at h1; exact hnP (h1 ▸ e ▸ hy)
  refine ⟨Bn (fun x hx=>by rw [b3 x (hPp x hx).2,iF (Ne.symm (hPp x hx).1)]) (fun y hy=>by rw [c3 y (hPs y hy).2,iF (Ne.symm (hPs y hy).1)]) r1,⟨by rw [b3 p hpi,iT rfl],by rw [c3 s hsi,iT rfl]⟩,
   Bn (fun x hx=>by rw [b3 x (hsT x hx).2,iF (Ne.symm (hsT x hx).1)]) (fun y hy=>by rw [c3 y (hTs y hy).2,iF (Ne.symm (hTs y hy).1)]) r4⟩
theorem Znf (h:ChI n c L) {i:Nat} (hi:i<n) (hn:n<=1000):Q30.f c (i:Int)=some 0:=by
 have hlen:=h.len;unfold Q30.f Q29.f
 try dsimp only
 rw [iN,iN,bS,wI2,iN]
theorem Zh7 (h:ChI n c L) {i:Nat} (hi:i<n) (hn:n<=1000):∃ r c',Q23.f c (i:Int)=some (r,c')/\ChI n c' (L.erase i):=by
 have hlen:=h.len;unfold Q23.f;rw [show Q30.f (c.1,c.2) (i:Int)=_ from Znf h hi hn,bS,vS,iO,gtl];by_cases hm:i∈L
 ·rw [iF (by simp [(h.inn i (by omega)).2 hm])];obtain ⟨c',e,h'⟩:=Ztq h hm hn;rw [show Q27.f (c.1,c.2) (i:Int)=_ from e,bS];exact ⟨_,_,rfl,h'⟩
 ·have:SK.T.inn c.1 i=false:=by
   cases q:SK.T.inn c.1 i with
   | false=>rfl
   | true=>exact absurd ((h.inn i (by omega)).1 q) hm
  rw [iT (by simp [this])];exact ⟨_,_,rfl,by rw [List.erase_of_not_mem hm]; exact h⟩
theorem Zt8 (h:ChI n c L) {i:Nat} (hi:i<n) (hm:i∉L) (hn:n<=1000):∃ c',Q28.f c (i:Int) (n:Int)=some c'/\ChI n c' (i :: L):=by
 have hlen:=h.len;have hsh:=h.short;have hnL:n∉L:=fun hx=>by have:=h.lt n hx; omega
 obtain ⟨s,T,e⟩:∃ s T,L ++ [n]=s :: T:=by
  cases L with
  | nil=>exact ⟨n,[],rfl⟩
  | cons x S=>exact ⟨x,S ++ [n],rfl⟩
 have hr:=h.ring;rw [e,W2] at hr;have hs:s<=n:=by
  have:s∈L ++ [n]:=by rw [e]; simp
  rcases List.mem_append.1 this with h1 | h1
  ·have:=h.lt s h1; omega
  ·simp at h1; omega
 have hsi:s≠i:=fun q=>by
  have:s∈L ++ [n]:=by rw [e]; simp
  rcases List.mem_append.1 this with h1 | h1
  ·exact hm (q ▸ h1)
  ·simp at h1; omega
 have a2:(gt c.1 (n:Int)).2.1=(s:Int):=by rw [gtl]; exact hr.1.1
 unfold Q28.f;rw [iO,iO,iT (by rw [length_set]; omega),a2,iT (by rw [length_set,length_set]; omega)];simp only [tN,gtl];generalize hl1:c.1.set i ((n:Int),(s:Int),true)=l1;have hl1l:l1.length=n+1:=by rw [<- hl1,length_set,hlen]
 generalize hl2:l1.set n (ah l1 n,(i:Int),SK.T.inn l1 n)=l2;have hl2l:l2.length=n+1:=by rw [<- hl2,length_set,hl1l]
 have g1:∀ k,l1.getD k default=if i=k then ((n:Int),(s:Int),true) else c.1.getD k default:=fun k=>by rw [<- hl1]; exact Xg
 have g2:∀ k,l2.getD k default=if n=k then (ah l1 n,(i:Int),SK.T.inn l1 n) else l1.getD k default:=fun k=>by rw [<- hl2]; exact Xg
 have g3:∀ k,(l2.set s ((i:Int),bh l2 s,SK.T.inn l2 s)).getD k default=if s=k then ((i:Int),bh l2 s,SK.T.inn l2 s) else l2.getD k default:=fun k=>Xg
 have b2:∀ k,bh l2 k=if n=k then (i:Int) else if i=k then (s:Int) else bh c.1 k:=fun k=>by
  show (l2.getD k default).2.1=_;rw [g2 k];split
  ·rfl
  ·rw [g1 k]; split <;> rfl
 have c2:∀ k,ah l2 k=if i=k then (n:Int) else ah c.1 k:=fun k=>by
  show (l2.getD k default).1=_;rw [g2 k];split
  ·rename_i q;rw [<- q,iQ];show (l1.getD n default).1=_;rw [g1 n,iQ]; rfl
  ·rw [g1 k]; split <;> rfl
 have n2:∀ k,SK.T.inn l2 k=if i=k then true else SK.T.inn c.1 k:=fun k=>by
  show (l2.getD k default).2.2=_;rw [g2 k];split
  ·rename_i q;rw [<- q,iQ];show (l1.getD n default).2.2=_;rw [g1 n,iQ]; rfl
  ·rw [g1 k]; split <;> rfl
 have b3:∀ k,bh (l2.set s ((i:Int),bh l2 s,SK.T.inn l2 s)) k=bh l2 k:=fun k=>by
  show ((l2.set s ((i:Int),bh l2 s,SK.T.inn l2 s)).getD k default).2.1=_;rw [g3 k]; split
  ·rename_i q; rw [<- q]
  ·rfl
 have c3:∀ k,ah (l2.set s ((i:Int),bh l2 s,SK.T.inn l2 s)) k=if s=k then (i:Int) else ah l2 k:=fun k=>by
  show ((l2.set s ((i:Int),bh l2 s,SK.T.inn l2 s)).getD k default).1=_;rw [g3 k]; split <;> rfl
 have n3:∀ k,SK.T.inn (l2.set s ((i:Int),bh l2 s,SK.T.inn l2 s)) k=SK.T.inn l2 k:=fun k=>by
  show ((l2.set s ((i:Int),bh l2 s,SK.T.inn l2 s)).getD k default).2.2=_;rw [g3 k]; split
  ·rename_i q; rw [<- q]
  ·rfl
 refine ⟨_,rfl,⟨by rw [length_set,hl2l],?_,List.nodup_cons.2 ⟨hm,h.nd⟩,?_,?_,?_⟩⟩
 ·rw [h.cnt,length_cons,wI2]; omega
 ·intro x hx;rcases List.mem_cons.1 hx with q | q
  ·omega
  ·exact h.lt x q
 ·intro x hx;rw [n3 x,n2 x,List.mem_cons];split
  ·rename_i q; simp [q]
  ·rename_i q;rw [h.inn x hx];exact ⟨fun g=>.inr g,fun g=>g.elim (fun e'=>absurd e'.symm q) id⟩
 ·rw [List.cons_append,W2,e,W2];have hnd:(L ++ [n]).Nodup:=List.nodup_append.2 ⟨h.nd,by simp,fun a ha b hb q=>by simp at hb; exact hnL (hb ▸ q ▸ ha)⟩;rw [e] at hnd;refine ⟨⟨by rw [b3,b2,iT rfl],by rw [c3,iF hsi,c2,iT rfl]⟩,⟨by rw [b3,b2,iQ,iT rfl],by rw [c3,iT rfl]⟩,Bn (fun x hx=>?_) (fun y hy=>?_) hr.2⟩
  ·rw [<- e,List.dropLast_concat] at hx;rw [b3,b2,iF (fun q:n=x=>hnL (q ▸ hx)),iF (fun q:i=x=>hm (q ▸ hx))]
  ·have hyL:y∈L ++ [n]:=by rw [e]; simp [hy]
   have hyi:i≠y:=fun q=>by
    rcases List.mem_append.1 hyL with h1 | h1
    ·exact hm (q ▸ h1)
    ·simp at h1; omega
   rw [c3,iF (fun q:s=y=>(List.nodup_cons.1 hnd).1 (q ▸ hy)),c2,iF hyi]
theorem Zse (h:ChI n c L) {i:Nat} (hi:i<n) (hm:i∉L) (hn:n<=1000):∃ c',Q24.f c (i:Int)=some (0,c')/\ChI n c' (i :: L):=by
 have hlen:=h.len;have hf:SK.T.inn c.1 i=false:=by
  cases q:SK.T.inn c.1 i with
  | false=>rfl
  | true=>exact absurd ((h.inn i (by omega)).1 q) hm
 have ho:Q27.f (c.1,c.2) (i:Int)=some c:=by
  unfold Q27.f
  try dsimp only
  rw [iO,gtl,iT (by simp [hf])]
 obtain ⟨c',e,h'⟩:=Zt8 h hi hm hn;unfold Q24.f Q29.f;rw [show Q30.f (c.1,c.2) (i:Int)=_ from Znf h hi hn,bS,iU,ho,bS,bS]
 try dsimp only
 rw [show w64 ((c.1.length:Int) - 1)=(n:Int) by rw [wI2]; omega,show Q28.f (c.1,c.2) (i:Int) (n:Int)=_ from e,bS];exact ⟨_,rfl,h'⟩
theorem Zfu (h:ChI n c []):Q25.f c=some (0,false):=by
 have:=h.cnt;unfold Q25.f Q26.f;rw [bS,iT (by simp [this])]
theorem Zpp {q:Nat} (h:ChI n c (L ++ [q])) (hn:n<=1000):Q25.f c=some ((q:Int),true):=by
 have hcnt:=h.cnt;have hlen:=h.len;unfold Q25.f Q26.f Q29.f;have hr:=h.ring;rw [append_assoc,List.cons_append,List.nil_append,Za1,W2,W2] at hr;have:ah c.1 n=(q:Int):=hr.2.2.1.2;rw [bS,iF (by simp [hcnt]; omega),bS,show w64 ((c.1.length:Int) - 1)=(n:Int) by rw [wI2]; omega,iO,gtl,this]
theorem Ztu (hn:1<=n) (h64:n<=64):∃ c',Q31.f (n:Int)=some (some c',0)/\ChI n c' []:=by
 unfold Q31.f;have e:(w64 ((n:Int)+1))=((n+1:Nat):Int):=by rw [wI2]; omega
 rw [iN,iN,e,iO,tN,iT (by rw [length_replicate]; omega),tN];have g:∀ k,((List.replicate (n+1) ((0,0,false):Lnk)).set n ((n:Int),(n:Int),false)).getD k default=if n=k then ((n:Int),(n:Int),false) else (List.replicate (n+1) ((0,0,false):Lnk)).getD k default:=fun k=>Xg (by rw [length_replicate]; omega)
 refine ⟨_,rfl,⟨by simp,rfl,by simp,by simp,fun x hx=>?_,?_⟩⟩
 ·show (_:Lnk).2.2=true↔_;rw [g x];split
  ·simp
  ·rw [List.getD_eq_getElem?_getD,List.getElem?_replicate,iO]; simp
 ·rw [List.nil_append,W2,W2];refine ⟨⟨?_,?_⟩,trivial⟩
  ·show (_:Lnk).2.1=_;rw [g n,iT rfl]
  ·show (_:Lnk).1=_;rw [g n,iT rfl]
end
abbrev Dv:=Int×List Int×T2
def blk (img:T3) (n i:Nat):List Int:=(img.drop (i*n)).take n
theorem Gn {N n i:Nat} (h:i<N):i*n+n<=N*n:=by
 have:=Nat.mul_le_mul_right n h;rw [Nat.succ_mul] at this;exact this
theorem Zd3 {img:T3} {N n i:Nat} (hl:img.length=N*n) (h:i<N):(blk img n i).length=n:=by
 have:=Gn (n:=n) h;unfold blk;rw [length_take,length_drop];omega
theorem Zb2 {img b:T3} {N n i:Nat} (hl:img.length=N*n) (h:i<N) (hb:b.length=n) (j:Nat) (hj:j<N):blk (patch img (i*n) n b) n j=if j=i then b else blk img n j:=by
 have h1:=Gn (n:=n) h;have h2:=Gn (n:=n) hj;have e0:(img.take (i*n)).length=i*n:=by rw [length_take]; omega
 unfold blk patch;rw [List.take_of_length_le (i:=n) (l:=b) (by omega),show i*n+min n b.length=i*n+n from by omega];by_cases e:j=i
 ·subst e;rw [iT rfl,append_assoc,List.drop_append_of_le_length (by omega),List.drop_of_length_le (by omega),List.nil_append,List.take_append_of_le_length (by omega),tO]
 ·rw [iF e];by_cases lt:j<i
  ·have h3:=Nat.mul_le_mul_right n (show j+1<=i from lt);rw [Nat.succ_mul] at h3;rw [append_assoc,List.drop_append_of_le_length (by omega),List.take_append_of_le_length (by rw [length_drop]; omega),List.drop_take,List.take_take];congr 1;omega
  ·have h3:=Nat.mul_le_mul_right n (show i+1<=j from by omega);rw [Nat.succ_mul] at h3;rw [List.drop_append,List.drop_of_length_le (by rw [lA]; omega),List.nil_append,List.drop_drop];congr 2;rw [lA,e0];omega
theorem Zm8 {img b:T3} {N n i:Nat} (hl:img.length=N*n) (h:i<N):(patch img (i*n) n b).length=N*n:=by
 have:=Gn (n:=n) h;rw [X9 (by omega),hl]
theorem J1 {N n:Nat} {img:T3} {s:T2} (hn:1<=n) (hl:img.length=N*n) (hb:N*n<=4294967296):Q50.f ((n:Int),img,s)=some (N:Int):=by
 have hN:N<=4294967296:=Nat.le_trans (Nat.le_mul_of_pos_right N hn) hb;have e:Int.tdiv (img.length:Int) (n:Int)=N:=by
  rw [hl,Int.natCast_mul];exact Int.mul_tdiv_cancel _ (by omega)
 unfold Q50.f;dsimp only;rw [iN,iO,e,wI2]
theorem Zpv {n i N:Nat} (hb:N*n<=4294967296) (hn:1<=n) (h:i<N):w64 (i:Int)=i/\w64 ((i:Int)*(n:Int))=((i*n:Nat):Int)/\w64 (((i*n:Nat):Int)+(n:Int))=((i*n+n:Nat):Int):=by
 have h1:=Gn (n:=n) h;have h2:i<=i*n:=Nat.le_mul_of_pos_right i hn;refine ⟨wI2,?_,?_⟩
 ·rw [<- Int.natCast_mul];exact wI2
 ·rw [wI2];rfl
theorem Zpd {N n i:Nat} {img b:T3} {s:T2} (hn:1<=n) (hN:1<=N) (hl:img.length=N*n) (hb:N*n<=4294967296) (hi:i<4294967296) :
  Q53.f ((n:Int),img,s) (i:Int) b=some (if N<=i then (4,((n:Int),img,s)) else if b.length=n then (0,((n:Int),patch img (i*n) n b,s.1,uH.wrap (s.2+1))) else (3,((n:Int),img,s))):=by
 have e:=J1 (s:=(s.1,s.2)) hn hl hb;unfold Q53.f;dsimp only;rw [e,bS,iN,bS];by_cases h:N<=i
 ·rw [wI2 (x:=(i:Int)),iP,iT h]
 ·obtain ⟨a1,a2,a3⟩:=Zpv hb hn (show i<N from by omega);have h1:=Gn (n:=n) (show i<N from by omega);rw [a1,a2,a3,iN,iO,iF h];by_cases hq:b.length=n
  ·rw [iF (by simp only [Bool.not_eq_true',decide_eq_false_iff_not]; omega),iT hq];simp only [tN];rw [length_take,length_drop,show min (i*n+n - i*n) (img.length - i*n)=n from by omega]
  ·rw [iT (by simp only [Bool.not_eq_true',decide_eq_false_iff_not]; omega),iF hq]
theorem Za5 {l:T3} (h:l.length<=140737488355328):Q89.f l=some l:=by
 unfold Q89.f;rw [iT (by simpa using h)];rfl
theorem Zq3 {N n i:Nat} {img:T3} {s:T2} (hn:1<=n) (hN:1<=N) (hl:img.length=N*n) (hb:N*n<=4294967296) (hi:i<4294967296) :
  Q52.f ((n:Int),img,s) (i:Int)=some (if N<=i then ([],4,((n:Int),img,s)) else (blk img n i,0,((n:Int),img,uH.wrap (s.1+1),s.2))):=by
 have e:=J1 (s:=(s.1,s.2)) hn hl hb;unfold Q52.f;dsimp only;rw [e,bS,iN,bS];by_cases h:N<=i
 ·rw [wI2 (x:=(i:Int)),iP,iT h]
 ·obtain ⟨a1,a2,a3⟩:=Zpv hb hn (show i<N from by omega);have h1:=Gn (n:=n) (show i<N from by omega);rw [a1,a2,a3,iN,iO,iF h];simp only [tN];have hbl:(blk img n i).length=n:=Zd3 hl (by omega);have:(img.drop (i*n)).take (i*n+n - i*n)=blk img n i:=by unfold blk; congr 1; omega
  have hnb:n<=N*n:=Nat.le_mul_of_pos_left n hN;rw [this,Za5 (by omega),bS]
abbrev Fr8:=Int×List Int×Bool×Int
abbrev Ca:=Dv×List Fr8×List T2×List Int×Chn
section
variable {es:TU} {x v d:Int}
theorem mhas_iff:∀ {es:TU},Xa es x=true↔∃ v,(x,v)∈es
 | []=>by simp [Xa]
 | p :: es=>by
  rw [Xa];split
  ·rename_i h;exact ⟨fun _=>⟨p.2,by simp [<- h]⟩,fun _=>rfl⟩
  ·rename_i h;rw [mhas_iff];constructor
   ·rintro ⟨v,hv⟩; exact ⟨v,by simp [hv]⟩
   ·rintro ⟨v,hv⟩;rcases List.mem_cons.1 hv with e | e
    ·exact absurd (by rw [<- e]) h
    ·exact ⟨v,e⟩
theorem Wk:∀ {es:TU},(es.map Prod.fst).Nodup->(x,v)∈es->Zr d es x=v
 | [],_,h=>by simp at h
 | p :: es,nd,h=>by
  rw [List.map_cons,List.nodup_cons] at nd;rw [Zr];rcases List.mem_cons.1 h with e | e
  ·rw [iT (by rw [<- e]),<- e]
  ·rw [iF (fun q=>nd.1 (List.mem_map.2 ⟨_,e,by simpa using q.symm⟩)),Wk nd.2 e]
theorem Ul {p:T2}:∀ {es:TU},(es.map Prod.fst).Nodup->(p∈Ws x es↔p∈es/\p.1≠x)
 | [],_=>by simp [Ws]
 | q :: es,nd=>by
  rw [List.map_cons,List.nodup_cons] at nd;rw [Ws];split
  ·rename_i h;constructor
   ·intro hp;refine ⟨by simp [hp],fun e=>nd.1 ?_⟩;rw [h,<- e]; exact List.mem_map_of_mem hp
   ·rintro ⟨hp,hne⟩;rcases List.mem_cons.1 hp with e | e
    ·exact absurd (e ▸ h) hne
    ·exact e
  ·rename_i h;rw [List.mem_cons,Ul nd.2,List.mem_cons];constructor
   ·rintro (e | e)
    ·exact ⟨.inl e,e ▸ h⟩
    ·exact ⟨.inr e.1,e.2⟩
   ·rintro ⟨e | e,hne⟩
    ·exact .inl e
    ·exact .inr ⟨e,hne⟩
theorem mdel_sub:∀ {es:TU},(Ws x es).Sublist es
 | []=>List.Sublist.refl _
 | q :: es=>by
  rw [Ws];split
  ·exact List.sublist_cons_self _ _
  ·exact mdel_sub.cons_cons _
theorem Zde:∀ {es:TU},Xa es x=true->(Ws x es).length+1=es.length
 | [],h=>by simp [Xa] at h
 | q :: es,h=>by
  rw [Xa] at h;rw [Ws];split
  ·rfl
  ·rename_i hn;rw [iF hn] at h;rw [length_cons,length_cons,Zde h]
theorem Zgs:∀ {es:TU},(es.map Prod.fst).Nodup->(x,v)∈es->X6 x v es=es
 | [],_,h=>by simp at h
 | p :: es,nd,h=>by
  rw [List.map_cons,List.nodup_cons] at nd;rw [X6];rcases List.mem_cons.1 h with e | e
  ·rw [iT (by rw [<- e]),e]
  ·rw [iF (fun q=>nd.1 (List.mem_map.2 ⟨_,e,by simpa using q.symm⟩)),Zgs nd.2 e]
end
structure Okf (N B n t:Nat) (c:Ca) (i f:Nat):Prop where
 hi:i<N
 hf:f<n
 blk:(c.2.1.getD f default).1=(i:Int)
 len:(c.2.1.getD f default).2.1.length=B
 pin:0<=(c.2.1.getD f default).2.2.2/\(c.2.1.getD f default).2.2.2<=t
 emp:(f:Int)∉c.2.2.2.1
structure CaI (N B n t:Nat) (H:List Nat) (c:Ca) (L:List Nat):Prop where
 dsz:c.1.1=(B:Int)
 dim:c.1.2.1.length=N*B
 frl:c.2.1.length=n
 mnd:(c.2.2.1.map Prod.fst).Nodup
 mok:∀ p∈c.2.2.1,∃ i f:Nat,p=((i:Int),(f:Int))/\Okf N B n t c i f
 emp:∀ x∈c.2.2.2.1,∃ f:Nat,x=(f:Int)/\f<n
 end_:c.2.2.2.1.Nodup
 hol:∀ f∈H,f<n/\(f:Int)∉c.2.2.2.1/\∀ i:Int,(i,(f:Int))∉c.2.2.1
 tot:c.2.2.1.length+c.2.2.2.1.length+H.length=n
 chn:ChI n c.2.2.2.2 L
 lok:∀ f:Nat,f∈L↔(∃ i:Int,(i,(f:Int))∈c.2.2.1)/\(c.2.1.getD f default).2.2.2=0
section
variable {N B n t:Nat} {H:List Nat} {c:Ca} {L:List Nat}
theorem CaI.at (h:CaI N B n t H c L) {i f:Int} (hp:(i,f)∈c.2.2.1):∃ i' f':Nat,i=(i':Int)/\f=(f':Int)/\Okf N B n t c i' f':=by
 obtain ⟨i',f',e,ok⟩:=h.mok _ hp;rw [Prod.mk.injEq] at e;exact ⟨i',f',e.1,e.2,ok⟩
theorem CaI.atN (h:CaI N B n t H c L) {i f:Nat} (hp:((i:Int),(f:Int))∈c.2.2.1):Okf N B n t c i f:=by
 obtain ⟨i',f',e1,e2,ok⟩:=h.at hp;have:i=i':=by omega
 have:f=f':=by omega
 subst_vars;exact ok
theorem CaI.one (h:CaI N B n t H c L) {i j f:Nat} (hi:((i:Int),(f:Int))∈c.2.2.1) (hj:((j:Int),(f:Int))∈c.2.2.1):i=j:=by
 have h1:=(h.atN hi).blk;have h2:=(h.atN hj).blk;omega
theorem CaI.get (h:CaI N B n t H c L) (i:Nat):(Xa c.2.2.1 (i:Int)=false/\∀ v,((i:Int),v)∉c.2.2.1)\/∃ f:Nat,((i:Int),(f:Int))∈c.2.2.1/\Xa c.2.2.1 (i:Int)=true/\Zr 0 c.2.2.1 (i:Int)=(f:Int)/\Okf N B n t c i f:=by
 cases q:Xa c.2.2.1 (i:Int) with
 | false=>exact .inl ⟨rfl,fun v hv=>by rw [mhas_iff.2 ⟨v,hv⟩] at q; cases q⟩
 | true=>
  obtain ⟨v,hv⟩:=mhas_iff.1 q;obtain ⟨i',f,e1,rfl,ok⟩:=h.at hv;have:i=i':=by omega
  subst this;exact .inr ⟨f,hv,rfl,Wk h.mnd hv,ok⟩
theorem CaI.used (h:CaI N B n t H c L):c.2.2.1.length<=n:=by have:=h.tot; omega
theorem CaI.mono (h:CaI N B n t H c L) {t':Nat} (ht:t<=t'):CaI N B n t' H c L:=
 ⟨h.dsz,h.dim,h.frl,h.mnd,fun p hp=>by
  obtain ⟨i,f,e,ok⟩:=h.mok p hp;exact ⟨i,f,e,ok.hi,ok.hf,ok.blk,ok.len,⟨ok.pin.1,by have:=ok.pin.2; omega⟩,ok.emp⟩,h.emp,h.end_,h.hol,h.tot,h.chn,h.lok⟩
theorem CaI.dev (h:CaI N B n t H c L) {img:T3} (hl:img.length=N*B) (s:T2):CaI N B n t H ((c.1.1,img,s),c.2) L:=
 ⟨h.dsz,hl,h.frl,h.mnd,fun p hp=>by
  obtain ⟨i,f,e,ok⟩:=h.mok p hp;exact ⟨i,f,e,ok.hi,ok.hf,ok.blk,ok.len,ok.pin,ok.emp⟩,h.emp,h.end_,h.hol,h.tot,h.chn,h.lok⟩
theorem CaI.setfr (h:CaI N B n t H c L) {i f:Nat} (ha:((i:Int),(f:Int))∈c.2.2.1) {x:Fr8} (h1:x.1=(i:Int)) (h2:x.2.1.length=B) {t':Nat} (h3:0<=x.2.2.2/\x.2.2.2<=t') (ht:t<=t') {ch:Chn} {L':List Nat} (hc:ChI n ch L')
  (hL:∀ g,g∈L'↔if g=f then x.2.2.2=0 else g∈L):CaI N B n t' H (c.1,c.2.1.set f x,c.2.2.1,c.2.2.2.1,ch) L':=by
 have ok:=h.atN ha;have hfl:f<c.2.1.length:=by rw [h.frl]; exact ok.hf
 have g:∀ k,(c.2.1.set f x).getD k default=if f=k then x else c.2.1.getD k default:=fun k=>Xg hfl
 refine ⟨h.dsz,h.dim,by rw [length_set,h.frl],h.mnd,fun p hp=>?_,h.emp,h.end_,h.hol,h.tot,hc,fun k=>?_⟩
 ·obtain ⟨j,k,e,okk⟩:=h.mok p hp;refine ⟨j,k,e,okk.hi,okk.hf,?_,?_,?_,okk.emp⟩
  all_goals
   show _
   try dsimp only
   rw [g k];split
  ·rename_i q;subst q;have:i=j:=h.one ha (by rw [<- e]; exact hp);subst this; exact h1
  ·exact okk.blk
  ·exact h2
  ·exact okk.len
  ·exact h3
  ·exact ⟨okk.pin.1,by have:=okk.pin.2; omega⟩
 ·rw [hL k]
  try dsimp only
  rw [g k];by_cases q:k=f
  ·subst q;rw [iT rfl,iT rfl];exact ⟨fun e=>⟨⟨_,ha⟩,e⟩,fun e=>e.2⟩
  ·rw [iF q,iF (Ne.symm q)];exact h.lok k
theorem CaI.leave (h:CaI N B n t [] c L) {i f:Nat} (ha:((i:Int),(f:Int))∈c.2.2.1) (hn:n<=64) {ch:Chn} (hc:ChI n ch (L.erase f)):CaI N B n t [] (c.1,c.2.1.set f (0,[],false,0),Ws (i:Int) c.2.2.1,c.2.2.2.1 ++ [(f:Int)],ch) (L.erase f):=by
 have ok:=h.atN ha;have hfl:f<c.2.1.length:=by rw [h.frl]; exact ok.hf
 have g:∀ k,(c.2.1.set f (0,[],false,0)).getD k default=if f=k then (0,[],false,0) else c.2.1.getD k default:=fun k=>Xg hfl
 have hne:∀ {j k:Nat},((j:Int),(k:Int))∈c.2.2.1->(j:Int)≠(i:Int)->f≠k:=fun {j k} hjk hji e=>by
  subst e;exact hji (by rw [h.one ha hjk])
 refine ⟨h.dsz,h.dim,by rw [length_set,h.frl],(mdel_sub.map _).nodup h.mnd,fun p hp=>?_,fun x hx=>?_,?_,by simp,?_,hc,fun k=>?_⟩
 ·rw [Ul h.mnd] at hp;obtain ⟨j,k,e,okk⟩:=h.mok p hp.1;have hjk:((j:Int),(k:Int))∈c.2.2.1:=by rw [<- e]; exact hp.1
  have hk:f≠k:=hne hjk (by rw [e] at hp; exact hp.2);refine ⟨j,k,e,okk.hi,okk.hf,?_,?_,?_,?_⟩
  ·dsimp only; rw [g k,iF hk]; exact okk.blk
  ·dsimp only; rw [g k,iF hk]; exact okk.len
  ·dsimp only; rw [g k,iF hk]; exact okk.pin
  ·dsimp only;rw [List.mem_append,List.mem_singleton];rintro (q | q)
   ·exact okk.emp q
   ·exact hk (by omega)
 ·rcases List.mem_append.1 hx with q | q
  ·exact h.emp x q
  ·rw [List.mem_singleton] at q; exact ⟨f,q,ok.hf⟩
 ·exact List.nodup_append.2 ⟨h.end_,by simp,fun a hb b hb' e=>by rw [List.mem_singleton] at hb'; exact ok.emp (hb' ▸ e ▸ hb)⟩
 ·have h1:=h.tot;have h2:=Zde (mhas_iff.2 ⟨_,ha⟩);simp only [lA,List.length_singleton,length_nil] at h1 ⊢;omega
 ·rw [h.chn.nd.mem_erase_iff]
  try dsimp only
  rw [g k];constructor
  ·rintro ⟨hk,hkL⟩;obtain ⟨⟨j,hj⟩,hp⟩:=(h.lok k).1 hkL;rw [iF (Ne.symm hk)];obtain ⟨j',k',e1,e2,okk⟩:=h.at hj;refine ⟨⟨j,(Ul h.mnd).2 ⟨hj,fun e=>hk ?_⟩⟩,hp⟩;have h1:Zr 0 c.2.2.1 (i:Int)=(f:Int):=Wk h.mnd ha;have h2:Zr 0 c.2.2.1 (i:Int)=(k:Int):=Wk h.mnd (by rw [<- show j=(i:Int) from e]; exact hj);omega
  ·rintro ⟨⟨j,hj⟩,hp⟩;rw [Ul h.mnd] at hj;obtain ⟨j',k',e1,e2,okk⟩:=h.at hj.1;have hk:f≠k:=hne (j:=j') (by rw [<- e1]; exact hj.1) (by rw [<- e1]; exact hj.2);rw [iF hk] at hp;exact ⟨Ne.symm hk,(h.lok k).2 ⟨⟨j,hj.1⟩,hp⟩⟩
theorem CaI.take (h:CaI N B n t [] c L) {E:T3} {f:Nat} (he:c.2.2.2.1=E ++ [(f:Int)]):CaI N B n t [f] (c.1,c.2.1,c.2.2.1,E,c.2.2.2.2) L:=by
 have hnd:=h.end_;rw [he] at hnd;have hnd2:=List.nodup_append.1 hnd;refine ⟨h.dsz,h.dim,h.frl,h.mnd,fun p hp=>?_,fun x hx=>h.emp x (by rw [he]; simp [hx]),hnd2.1,fun g hg=>?_,?_,h.chn,h.lok⟩
 ·obtain ⟨i,k,e,ok⟩:=h.mok p hp;exact ⟨i,k,e,ok.hi,ok.hf,ok.blk,ok.len,ok.pin,fun q=>ok.emp (by rw [he]; simp [show (k:Int)∈E from q])⟩
 ·rw [List.mem_singleton] at hg;subst hg;refine ⟨?_,fun q=>hnd2.2.2 _ q (g:Int) (by simp) rfl,fun i hi=>?_⟩
  ·obtain ⟨f',e,hf⟩:=h.emp (g:Int) (by rw [he]; simp);omega
  ·obtain ⟨j,k,e1,e2,ok⟩:=h.at hi;exact ok.emp (by rw [<- e2,he]; simp)
 ·have h1:=h.tot;rw [he] at h1;simp only [lA,List.length_singleton,length_nil] at h1 ⊢;omega
theorem CaI.come {f:Nat} (h:CaI N B n t [f] c L) {i:Nat} (hi:i<N) (hno:∀ v,((i:Int),v)∉c.2.2.1) {x:Fr8} (h1:x.1=(i:Int)) (h2:x.2.1.length=B) (h3:x.2.2.2=1) (ht:1<=t) {ch:Chn} (hc:ChI n ch L) :
  CaI N B n t [] (c.1,c.2.1.set f x,c.2.2.1 ++ [((i:Int),(f:Int))],c.2.2.2.1,ch) L:=by
 obtain ⟨hf,hfe,hfm⟩:=h.hol f (by simp);have hfl:f<c.2.1.length:=by rw [h.frl]; exact hf
 have g:∀ k,(c.2.1.set f x).getD k default=if f=k then x else c.2.1.getD k default:=fun k=>Xg hfl
 have hne:∀ {j:Int} {k:Nat},(j,(k:Int))∈c.2.2.1->f≠k:=fun {j k} hjk e=>hfm j (by rw [e]; exact hjk);refine ⟨h.dsz,h.dim,by rw [length_set,h.frl],?_,fun p hp=>?_,h.emp,h.end_,by simp,?_,hc,fun k=>?_⟩
 ·dsimp only;rw [List.map_append,List.nodup_append];refine ⟨h.mnd,by simp,fun a ha b hb e=>?_⟩;obtain ⟨p,hp,rfl⟩:=List.mem_map.1 ha;simp only [List.map_cons,List.map_nil,List.mem_singleton] at hb;exact hno p.2 (by rw [<- hb,<- e]; exact hp)
 ·rcases List.mem_append.1 hp with q | q
  ·obtain ⟨j,k,e,okk⟩:=h.mok p q;have hk:f≠k:=hne (j:=(j:Int)) (by rw [<- e]; exact q);refine ⟨j,k,e,okk.hi,okk.hf,?_,?_,?_,okk.emp⟩
   ·dsimp only; rw [g k,iF hk]; exact okk.blk
   ·dsimp only; rw [g k,iF hk]; exact okk.len
   ·dsimp only; rw [g k,iF hk]; exact okk.pin
  ·rw [List.mem_singleton] at q;refine ⟨i,f,q,hi,hf,?_,?_,?_,hfe⟩
   ·dsimp only; rw [g f,iT rfl]; exact h1
   ·dsimp only; rw [g f,iT rfl]; exact h2
   ·dsimp only; rw [g f,iT rfl,h3]; omega
 ·have h1:=h.tot;simp only [lA,List.length_singleton,length_nil] at h1 ⊢;omega
 ·dsimp only;rw [g k];constructor
  ·intro hk;obtain ⟨⟨j,hj⟩,hp⟩:=(h.lok k).1 hk;rw [iF (hne hj)];exact ⟨⟨j,by simp [hj]⟩,hp⟩
  ·rintro ⟨⟨j,hj⟩,hp⟩;rcases List.mem_append.1 hj with q | q
   ·rw [iF (hne q)] at hp;exact (h.lok k).2 ⟨⟨j,q⟩,hp⟩
   ·rw [List.mem_singleton,Prod.mk.injEq] at q;have:f=k:=by omega
    rw [iT this,h3] at hp;omega
end
structure Siz (N B n:Nat):Prop where
 hB:1<=B
 hN:1<=N
 hNB:N*B<=4294967296
 hn:1<=n
 h64:n<=64
section
variable {N B n t:Nat} {H:List Nat} {c:Ca} {L:List Nat}
theorem Siz.N_le (z:Siz N B n):N<=4294967296:=Nat.le_trans (Nat.le_mul_of_pos_right N z.hB) z.hNB
theorem Siz.B_le (z:Siz N B n):B<=4294967296:=Nat.le_trans (Nat.le_mul_of_pos_left B z.hN) z.hNB
theorem Zea (z:Siz N B n) (h:CaI N B n t [] c L) {i f:Nat} (ha:((i:Int),(f:Int))∈c.2.2.1):∃ ch,Q19.f c (f:Int)=some (c.1,c.2.1.set f (0,[],false,0),Ws (i:Int) c.2.2.1,c.2.2.2.1 ++ [(f:Int)],ch)/\CaI N B n t [] (c.1,c.2.1.set f (0,[],false,0),Ws (i:Int) c.2.2.1,c.2.2.2.1 ++ [(f:Int)],ch) (L.erase f):=by
 have ok:=h.atN ha;have h64:=z.h64;obtain ⟨r,ch,e,hc⟩:=Zh7 h.chn ok.hf (by omega);have hfl:=h.frl;have htot:=h.tot;have hf:=ok.hf;refine ⟨ch,?_,h.leave ha h64 hc⟩;unfold Q19.f;rw [iO,show Q23.f (c.2.2.2.2.1,c.2.2.2.2.2) (f:Int)=_ from e,bS,iT (by simp only [List.length_singleton]; omega),show (gt c.2.1 (f:Int)).1=(i:Int) by rw [Zt]; exact ok.blk,tN]
theorem Znl (z:Siz N B n) (h:CaI N B n t H c L) {i f:Nat} (ha:((i:Int),(f:Int))∈c.2.2.1):Q53.f c.1 (gt c.2.1 (f:Int)).1 (gt c.2.1 (f:Int)).2.1=some (0,c.1.1,patch c.1.2.1 (i*B) B (gt c.2.1 (f:Int)).2.1,c.1.2.2.1,uH.wrap (c.1.2.2.2+1)):=by
 have ok:=h.atN ha;have hi:=ok.hi;have hNl:=z.N_le;rw [show (gt c.2.1 (f:Int)).1=(i:Int) by rw [Zt]; exact ok.blk];have:=Zpd (b:=(gt c.2.1 (f:Int)).2.1) (s:=c.1.2.2) z.hB z.hN h.dim z.hNB (show i<4294967296 by omega);rw [<- h.dsz] at this;rw [show Q53.f c.1 (i:Int) (gt c.2.1 (f:Int)).2.1=_ from this,iQ,iT (by rw [Zt]; exact ok.len)]
theorem CaI.back (z:Siz N B n) (h:CaI N B n t H c L) {i f:Nat} (ha:((i:Int),(f:Int))∈c.2.2.1) (s:T2):CaI N B n t H ((c.1.1,patch c.1.2.1 (i*B) B (gt c.2.1 (f:Int)).2.1,s),c.2.1.set f ((gt c.2.1 (f:Int)).1,(gt c.2.1 (f:Int)).2.1,false,(gt c.2.1 (f:Int)).2.2.2),c.2.2) L:=by
 have ok:=h.atN ha;have g:gt c.2.1 (f:Int)=c.2.1.getD f default:=Zt _ _;have h1:=h.setfr ha (x:=((gt c.2.1 (f:Int)).1,(gt c.2.1 (f:Int)).2.1,false,(gt c.2.1 (f:Int)).2.2.2)) (by rw [g]; exact ok.blk) (by rw [g]; exact ok.len) (by rw [g]; exact ok.pin) (Nat.le_refl t) h.chn (fun k=>by
  split
  ·rename_i q;subst q;rw [h.lok k,g];exact ⟨fun e=>e.2,fun e=>⟨⟨_,ha⟩,e⟩⟩
  ·exact Iff.rfl)
 exact h1.dev (Zm8 h.dim ok.hi) s
theorem Zpt (z:Siz N B n) (h:CaI N B n t [] c L) (hw:0<=c.1.2.2.2/\c.1.2.2.2<=1000000000):Q21.f c=some (0,false,c)\/
  ∃(f:Nat) (c':Ca) (L':List Nat),Q21.f c=some ((f:Int),true,c')/\CaI N B n t [f] c' L'/\c'.1.2.2.1=c.1.2.2.1/\(c.1.2.2.2<=c'.1.2.2.2/\c'.1.2.2.2<=c.1.2.2.2+1)/\∀ p∈c'.2.2.1,p∈c.2.2.1:=by
 have h64:=z.h64;have htot:=h.tot;have hfl:=h.frl;have wr:uH.wrap (c.1.2.2.2+1)=c.1.2.2.2+1:=by
  obtain ⟨m,hm⟩:=Int.eq_ofNat_of_zero_le hw.1;have:c.1.2.2.2+1=((m+1:Nat):Int):=by omega
  rw [this];simp [IntKind.wrap,IntKind.bits,IntKind.signed];omega
 by_cases he:c.2.2.2.1=[]
 ·have e0:(decide ((c.2.2.2.1.length:Int)=0))=true:=by rw [he]; rfl
  rcases List.eq_nil_or_concat L with rfl | ⟨L0,q,hq⟩
  ·left;unfold Q21.f;rw [iT e0,show Q25.f (c.2.2.2.2.1,c.2.2.2.2.2)=_ from Zfu h.chn,bS,iU]
  ·right;rw [List.concat_eq_append] at hq;subst hq;obtain ⟨⟨j,hj⟩,hp⟩:=(h.lok q).1 (by simp);obtain ⟨i,q',rfl,e2,ok⟩:=h.at hj;have:q=q':=by omega
   subst this;have hf:=ok.hf;unfold Q21.f;rw [iT e0,show Q25.f (c.2.2.2.2.1,c.2.2.2.2.2)=_ from Zpp h.chn (by omega),bS,vS]
   try dsimp only
   rw [iO];have one:w64 ((([] ++ [(q:Int)]:List Int).length:Int) - 1)=0:=by
    show w64 (((1:Nat):Int) - 1)=0;decide
   by_cases hd:(gt c.2.1 (q:Int)).2.2.1=true
   ·have hb:=h.back z hj (c.1.2.2.1,c.1.2.2.2+1);obtain ⟨ch,e,hl⟩:=Zea z hb (by exact hj);rw [iT hd,show Q53.f (c.1.1,c.1.2.1,(c.1.2.2.1,c.1.2.2.2)) (gt c.2.1 (q:Int)).1 (gt c.2.1 (q:Int)).2.1=_ from Znl z h hj,bS]
    try dsimp only
    rw [wr,tN,show Q19.f ((c.1.1,patch c.1.2.1 (i*B) B (gt c.2.1 (q:Int)).2.1,c.1.2.2.1,c.1.2.2.2+1),c.2.1.set q ((gt c.2.1 (q:Int)).1,(gt c.2.1 (q:Int)).2.1,false,(gt c.2.1 (q:Int)).2.2.2),c.2.2.1,c.2.2.2.1,c.2.2.2.2.1,c.2.2.2.2.2) (q:Int)=_ from e,bS]
    try dsimp only
    rw [he,one,iU,iU];refine ⟨q,_,_,rfl,hl.take (E:=[]) (by dsimp only; rw [he]),rfl,by dsimp only; omega,fun p hp=>mdel_sub.subset hp⟩
   ·obtain ⟨ch,e,hl⟩:=Zea z h hj;rw [iF hd,show Q19.f ((c.1.1,c.1.2.1,(c.1.2.2.1,c.1.2.2.2)),c.2.1,c.2.2.1,c.2.2.2.1,(c.2.2.2.2.1,c.2.2.2.2.2)) (q:Int)=_ from e,bS]
    try dsimp only
    rw [he,one,iU,iU];refine ⟨q,_,_,rfl,hl.take (E:=[]) (by dsimp only; rw [he]),rfl,by dsimp only; omega,fun p hp=>mdel_sub.subset hp⟩
 ·right;obtain ⟨E,x,hx⟩:∃ E x,c.2.2.2.1=E ++ [x]:=by
   rcases List.eq_nil_or_concat c.2.2.2.1 with e | ⟨E,x,e⟩
   ·exact absurd e he
   ·exact ⟨E,x,by rw [e,List.concat_eq_append]⟩
  obtain ⟨f,rfl,hf⟩:=h.emp x (by rw [hx]; simp);have hll:c.2.2.2.1.length=E.length+1:=by rw [hx]; simp
  have e1:w64 ((c.2.2.2.1.length:Int) - 1)=(E.length:Int):=by rw [wI2]; omega
  unfold Q21.f;rw [iN,e1,iO,iO,tN];have e2:gt c.2.2.2.1 (E.length:Int)=(f:Int):=by
   rw [Zt,hx,List.getD_eq_getElem?_getD,List.getElem?_append_right (Nat.le_refl _)]; simp
  have e3:c.2.2.2.1.take E.length=E:=by rw [hx,List.take_left]
  rw [e2,e3];exact ⟨f,_,_,rfl,h.take hx,rfl,by dsimp only; omega,fun p hp=>hp⟩
end
section
variable {N B n t:Nat} {c:Ca} {L:List Nat}
structure Few (c:Ca):Prop where
 rd:0<=c.1.2.2.1/\c.1.2.2.1<=100000000
 wr:0<=c.1.2.2.2/\c.1.2.2.2<=100000000
theorem Zpo {x:Int} (h:0<=x/\x<=1000000000):uH.wrap (x+1)=x+1:=by
 obtain ⟨m,hm⟩:=Int.eq_ofNat_of_zero_le h.1;have:x+1=((m+1:Nat):Int):=by omega
 rw [this];simp [IntKind.wrap,IntKind.bits,IntKind.signed];omega
theorem Zra (z:Siz N B n) {H:List Nat} (h:CaI N B n t H c L):Q50.f c.1=some (N:Int):=by
 have:=J1 (s:=c.1.2.2) z.hB h.dim z.hNB;rw [<- h.dsz] at this;exact this
theorem Zmm (z:Siz N B n) {H:List Nat} (h:CaI N B n t H c L) (i:Nat) (hi:i<4294967296):Q22.f c (i:Int)=some (if N<=i then 4 else 0):=by
 have hN:=z.N_le;unfold Q22.f Q20.f;rw [bS,vS,show Q50.f (c.1.1,c.1.2.1,(c.1.2.2.1,c.1.2.2.2))=_ from Zra z h,bS,wI2 (x:=(i:Int))];by_cases q:N<=i
 ·rw [iP,iT q]
 ·rw [iN,iF q]
theorem Zru (z:Siz N B n) {H:List Nat} (h:CaI N B n t H c L) {i:Nat} (hi:i<N):Q52.f c.1 (i:Int)=some (blk c.1.2.1 B i,0,(c.1.1,c.1.2.1,uH.wrap (c.1.2.2.1+1),c.1.2.2.2)):=by
 have hN:=z.N_le;have:=Zq3 (s:=c.1.2.2) z.hB z.hN h.dim z.hNB (show i<4294967296 by omega);rw [<- h.dsz] at this;rw [show Q52.f c.1 (i:Int)=_ from this,iQ]
theorem Zf9 {es:TU} {x v:Int} (h:∀ v,(x,v)∉es):X6 x v es=es ++ [(x,v)]:=Zdk (by
 cases q:Xa es x with
 | false=>rfl
 | true=>obtain ⟨v,hv⟩:=mhas_iff.1 q; exact absurd hv (h v))
theorem Zgf (h:CaI N B n t [] c L) {f:Nat} {p:Int} (hp:p≠0) (g:Nat):g∈L.erase f↔if g=f then p=0 else g∈L:=by
 rw [h.chn.nd.mem_erase_iff];split
 ·rename_i e; exact ⟨fun q=>absurd e q.1,fun q=>absurd q hp⟩
 ·rename_i e; exact ⟨fun q=>q.2,fun q=>⟨e,q⟩⟩
theorem Zo1 (h:CaI N B n t [] c L) {i f:Nat} (ha:((i:Int),(f:Int))∈c.2.2.1) (g:Nat):g∈L↔if g=f then (c.2.1.getD f default).2.2.2=0 else g∈L:=by
 split
 ·rename_i q;subst q;rw [h.lok g];exact ⟨fun e=>e.2,fun e=>⟨⟨_,ha⟩,e⟩⟩
 ·exact Iff.rfl
end
section
variable {N B n t:Nat} {c:Ca} {L:List Nat}
theorem Zrn (z:Siz N B n) {img:T3} (hl:img.length=N*B) (s:T2) {ch:Chn} (hc:ChI n ch []):CaI N B n 0 [] (((B:Int),img,s),List.replicate n (0,[],false,0),[],(List.range n).map (fun(i:Nat)=>(i:Int)),ch) []:=by
 refine ⟨rfl,hl,by simp,by simp,by simp,fun x hx=>?_,?_,by simp,by simp,hc,by simp⟩
 ·obtain ⟨i,hi,rfl⟩:=List.mem_map.1 hx;exact ⟨i,rfl,List.mem_range.1 hi⟩
 ·exact List.Pairwise.map _ (fun a b hne e=>hne (by have:(a:Int)=(b:Int):=e; omega)) List.nodup_range
end
def upd {α:Type} (g:Nat->α) (i:Nat) (v:α):Nat->α:=fun j=>if j=i then v else g j
theorem Z8 {α:Type} (g:Nat->α) (i:Nat) (v:α):upd g i v i=v:=iT rfl
theorem Yj {α:Type} {g:Nat->α} {i j:Nat} {v:α} (h:j≠i:=by omega):upd g i v j=g j:=iF h
structure Fm where
 b:List Int
 d:Bool
 p:Nat
structure MC where
 img:List Int
 rd:Int
 wr:Int
 fr:Nat->Option Fm
 used:Nat
 row:List Nat
def fm (x:Fr8):Fm:=⟨x.2.1,x.2.2.1,x.2.2.2.toNat⟩
def Xy (c:Ca) (i:Nat):Option Fm:=if Xa c.2.2.1 (i:Int)=true then some (fm (c.2.1.getD (Zr 0 c.2.2.1 (i:Int)).toNat default)) else none
def Wg (c:Ca) (f:Nat):Nat:=(c.2.1.getD f default).1.toNat
def Z6 (c:Ca) (L:List Nat):MC:=⟨c.1.2.1,c.1.2.2.1,c.1.2.2.2,Xy c,c.2.2.1.length,L.map (Wg c)⟩
namespace MC
def evict (B:Nat) (m:MC) (q:Nat):MC:=match m.fr q with
 | none=>m
 | some x=>⟨if x.d=true then patch m.img (q*B) B x.b else m.img,m.rd,if x.d=true then m.wr+1 else m.wr,upd m.fr q none,m.used - 1,m.row.erase q⟩
def room (B n:Nat) (m:MC):Option MC:=if m.used<n then some m else match m.row.getLast? with
 | none=>none
 | some q=>some (m.evict B q)
def come (m:MC) (i:Nat) (x:Fm):MC:=⟨m.img,m.rd,m.wr,upd m.fr i (some x),m.used+1,m.row⟩
def put (m:MC) (i:Nat) (x:Fm):MC:=⟨m.img,m.rd,m.wr,upd m.fr i (some x),m.used,m.row⟩
def cut (m:MC) (i:Nat):MC:=⟨m.img,m.rd,m.wr,m.fr,m.used,m.row.erase i⟩
def pin (N B n:Nat) (m:MC) (i:Nat):Int×MC:=
 if N<=i then (4,m) else match m.fr i with
 | some x=>(0,(m.put i ⟨x.b,x.d,x.p+1⟩).cut i)
 | none=>match m.room B n with
  | none=>(7,m)
  | some k=>(0,(⟨k.img,k.rd+1,k.wr,k.fr,k.used,k.row⟩:MC).come i ⟨blk k.img B i,false,1⟩)
def fresh (N B n:Nat) (m:MC) (i:Nat):Int×MC:=
 if N<=i then (4,m) else match m.fr i with
 | some x=>if 0<x.p then (8,m) else (0,(m.put i ⟨List.replicate B 0,true,1⟩).cut i)
 | none=>match m.room B n with
  | none=>(7,m)
  | some k=>(0,k.come i ⟨List.replicate B 0,true,1⟩)
def unpin (m:MC) (i:Nat):Int×MC:=match m.fr i with
 | none=>(8,m)
 | some x=>if x.p=0 then (8,m) else (0,if x.p=1 then ⟨m.img,m.rd,m.wr,upd m.fr i (some ⟨x.b,x.d,0⟩),m.used,i :: m.row⟩ else m.put i ⟨x.b,x.d,x.p - 1⟩)
def write (B:Nat) (m:MC) (i:Nat) (b:T3):Int×MC:=match m.fr i with
 | none=>(8,m)
 | some x=>if x.p=0 then (8,m) else if b.length=B then (0,m.put i ⟨b,true,x.p⟩) else (3,m)
def read (m:MC) (i:Nat):List Int×Int:=match m.fr i with
 | none=>([],8)
 | some x=>if x.p=0 then ([],8) else (x.b,0)
end MC
theorem MC.ext' {a b:MC} (h1:a.img=b.img) (h2:a.rd=b.rd) (h3:a.wr=b.wr) (h4:∀ i,a.fr i=b.fr i) (h5:a.used=b.used) (h6:a.row=b.row):a=b:=by
 cases a; cases b;simp only at h1 h2 h3 h4 h5 h6;subst h1 h2 h3 h5 h6;have:=funext h4;subst this;rfl
end Go.SK.T
