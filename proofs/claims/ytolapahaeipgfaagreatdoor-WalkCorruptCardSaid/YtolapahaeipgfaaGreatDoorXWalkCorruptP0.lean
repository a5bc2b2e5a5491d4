/- The plain law behind WalkCorrupt: what its code computes is true for all settings, trees, places and nodes. -/
import Derived.Test.YtolapahaeipgfaaGreatDoorXWalkCorruptF3
import Derived.KernelRfl
import Derived.Sort.Walk13a
import Derived.Sort.AssemblyPlain
set_option linter.unusedVariables false
set_option linter.unusedSimpArgs false
namespace Go.SK.T
open Go Go.SK
open BitVec (ofInt)
open List (length_set length_nil append_assoc length_cons drop_eq_nil_of_le length_take length_drop length_map length_range length_replicate)
theorem iN {p:Prop} [Decidable p] {α:Type} {a b:α} (h:¬ p:=by omega):(if decide p=true then a else b)=b:=if_neg (by simpa using h)
theorem iP {p:Prop} [Decidable p] {α:Type} {a b:α} (h:p:=by omega):(if decide p=true then a else b)=a:=if_pos (decide_eq_true h)
theorem kS1 (k:Nat) (h:1<=k:=by omega):∃ j,k=j+1:=⟨k - 1,by omega⟩
theorem kS2 (k:Nat) (h:2<=k:=by omega):∃ j,k=j+2:=⟨k - 2,by omega⟩
theorem kS3 (k:Nat) (h:3<=k:=by omega):∃ j,k=j+3:=⟨k - 3,by omega⟩
theorem bS {α β:Type} (a:α) (f:α->Option β):(some a).bind f=f a:=rfl
theorem iT.{u} {c:Prop} {h:Decidable c} (hc:c) {α:Sort u} {t e:α}:ite c t e=t:=if_pos hc
theorem iF.{u} {c:Prop} {h:Decidable c} (hc:¬ c) {α:Sort u} {t e:α}:ite c t e=e:=if_neg hc
theorem dE {p:Prop} [Decidable p]:(decide p=true)=p:=decide_eq_true_eq
theorem dT {p:Prop} [Decidable p] (h:p:=by omega):decide p=true:=decide_eq_true h
theorem dF {p:Prop} [Decidable p] (h:¬ p:=by omega):decide p=false:=decide_eq_false h
theorem tN (n:Nat):(n:Int).toNat=n:=rfl
theorem lA {α:Type} {a b:List α}:(a ++ b).length=a.length+b.length:=List.length_append
theorem iO.{u} {c:Prop} {_:Decidable c} {α:Sort u} {t e:α} (hc:c:=by omega):ite c t e=t:=if_pos hc
theorem iQ.{u} {c:Prop} {_:Decidable c} {α:Sort u} {t e:α} (hc:¬ c:=by omega):ite c t e=e:=if_neg hc
theorem vS.{u} {c:Prop} {_:Decidable c} {α:Sort u} {t e:α} (hc:¬ c:=by simp):ite c t e=e:=if_neg hc
theorem iU.{u} {c:Prop} {_:Decidable c} {α:Sort u} {t e:α} (hc:c:=by simp):ite c t e=t:=if_pos hc
theorem iV.{u} {c:Prop} {_:Decidable c} {α:Sort u} {t e:α} (hc:c:=by (simp; omega)):ite c t e=t:=if_pos hc
theorem iW.{u} {c:Prop} {_:Decidable c} {α:Sort u} {t e:α} (hc:¬ c:=by (simp; omega)):ite c t e=e:=if_neg hc
theorem dN {α:Type} {l:List α} {i:Nat} (h:l.length<=i:=by omega):l.drop i=[]:=drop_eq_nil_of_le h
theorem tO {α:Type} {l:List α} {i:Nat} (h:l.length<=i:=by omega):l.take i=l:=List.take_of_length_le h
theorem wS2 {i:Nat} (h:i<4611686018427387904:=by omega):w64 ((i:Int)+1)=((i+1:Nat):Int):=B9 h
theorem wI2 {x} (h0:-9223372036854775808<=x:=by omega) (h1:x<=9223372036854775807:=by omega):w64 x=x:=Bp h0 h1
theorem Zdh:∀(k:Nat) (a b:TY) (i:Nat),a.length<=4611686018427387904->b.length<=4611686018427387904->i<=a.length->i<=b.length->a.length - i<k->
  Q133.l0 k a b (i:Int)=some (Xm (a.drop i) (b.drop i))
 | 0,a,b,i,_,_,_,_,h=>by omega
 | k+1,a,b,i,ha,hb,hia,hib,hk=>by
  unfold Q133.l0;by_cases h1:i<a.length
  ·by_cases h2:i<b.length
   ·have g1:(0:Int)<=(i:Int)/\(i:Int)<(a.length:Int):=by omega
    have g2:(0:Int)<=(i:Int)/\(i:Int)<(b.length:Int):=by omega
    have w:w64 ((i:Int)+1)=((i+1:Nat):Int):=by rw [wI2]; omega
    have ih:=Zdh k a b (i+1) ha hb (by omega) (by omega) (by omega);simp only [g1.2,g2.2,g1,g2,decide_true,if_true,and_self,w,ih,Zq5,tN,Zfv h1,Zfv h2,Zm1,dE];split
    ·rfl
    ·split <;> rfl
   ·have g1:(i:Int)<(a.length:Int):=by omega
    have g2:¬ (i:Int)<(b.length:Int):=by omega
    have e:b.drop i=[]:=dN;have z1:¬ (a.length:Int)<(b.length:Int):=by omega
    have z2:(b.length:Int)<(a.length:Int):=by omega
    have z3:¬ (a.drop i).length=0:=by rw [length_drop]; omega
    simp [g1,g2,e,z1,z2,Zd8,z3];omega
  ·have g1:¬ (i:Int)<(a.length:Int):=by omega
   have e:a.drop i=[]:=dN;have z:(b.drop i).length=b.length - i:=length_drop ..;simp only [g1,e,Zgh,z,decide_false,Bool.false_eq_true,if_false,dE];by_cases h2:b.length=i
   ·have z1:¬ (a.length:Int)<(b.length:Int):=by omega
    have z2:¬ (b.length:Int)<(a.length:Int):=by omega
    have h3:a.length=i:=by omega
    simp [h2,h3]
   ·have z1:(a.length:Int)<(b.length:Int):=by omega
    have z2:¬ b.length - i=0:=by omega
    simp [z1,z2]
theorem V3 {k:Nat} {a b:TY} (ha:a.length<=2000) (hb:b.length<=2000) (hk:2000<k):Q133.f k a b=some (Xm a b):=by
 have:=Zdh k a b 0 (by omega) (by omega) (by omega) (by omega) (by omega);simpa [Q133.f] using this
abbrev Msg:=List UInt8×Bool×List UInt8
abbrev Cfg:=Int×Int×Int×Int×Int×Int×Int×Int
abbrev Pr:=List UInt8×List UInt8
abbrev Nd:=Int×List Int×List TY×List Msg×List Pr
structure SmallN (n:Nd):Prop where
 kids:n.2.1.length<=80
 pivs:n.2.2.1.length<=80
 buf:n.2.2.2.1.length<=150
 prs:n.2.2.2.2.length<=150
 pk:∀ p∈n.2.2.1,p.length<=200
 bk:∀ m∈n.2.2.2.1,m.1.length<=200
 rk:∀ m∈n.2.2.2.2,m.1.length<=200
theorem Zgu (n:Nd) (hb:n.2.2.2.2.length<=150):∀(k i:Nat),i<=n.2.2.2.2.length->n.2.2.2.2.length - i<k->(∀ m∈n.2.2.2.2.take i,m.1.length<=200)->
  ∃ g,Q120.l2 k n (i:Int)=some g/\(g=false->∀ m∈n.2.2.2.2,m.1.length<=200)
 | 0,i,_,h,_=>by omega
 | k+1,i,hi,hk,hm=>by
  rw [Q120.l2];by_cases h:i<n.2.2.2.2.length
  ·have g1:(0:Int)<=(i:Int)/\(i:Int)<(n.2.2.2.2.length:Int):=by omega
   rw [iT (dT g1.2),iT g1,Zv];by_cases h2:200<(n.2.2.2.2.getD i default).1.length
   ·exact ⟨true,by rw [iP],fun h=>by cases h⟩
   ·rw [iN,wS2];refine Zgu n hb k (i+1) (by omega) (by omega) fun m hm'=>?_;rw [List.take_add_one,List.mem_append] at hm';rcases hm' with hm' | hm'
    ·exact hm m hm'
    ·rw [List.getElem?_eq_getElem h] at hm';simp only [Option.toList_some,List.mem_singleton] at hm';subst hm';rw [List.getD_eq_getElem?_getD,List.getElem?_eq_getElem h] at h2;simp only [Option.getD_some] at h2;omega
  ·rw [iN];exact ⟨false,rfl,fun _=>by rwa [tO] at hm⟩
theorem Zhy (n:Nd) (hb:n.2.2.2.2.length<=150) (hc:n.2.2.2.1.length<=150):∀(k i:Nat),i<=n.2.2.2.1.length->200+(n.2.2.2.1.length - i)<k->(∀ m∈n.2.2.2.1.take i,m.1.length<=200)->
  ∃ g,Q120.l1 k n (i:Int)=some g/\(g=false->(∀ m∈n.2.2.2.1,m.1.length<=200)/\∀ m∈n.2.2.2.2,m.1.length<=200)
 | 0,i,_,h,_=>by omega
 | k+1,i,hi,hk,hm=>by
  rw [Q120.l1];by_cases h:i<n.2.2.2.1.length
  ·have g1:(0:Int)<=(i:Int)/\(i:Int)<(n.2.2.2.1.length:Int):=by omega
   rw [iT (dT g1.2),iT g1,Zv];by_cases h2:200<(n.2.2.2.1.getD i default).1.length
   ·exact ⟨true,by rw [iP],fun h=>by cases h⟩
   ·rw [iN,wS2];refine Zhy n hb hc k (i+1) (by omega) (by omega) fun m hm'=>?_;rw [List.take_add_one,List.mem_append] at hm';rcases hm' with hm' | hm'
    ·exact hm m hm'
    ·rw [List.getElem?_eq_getElem h] at hm';simp only [Option.toList_some,List.mem_singleton] at hm';subst hm';rw [List.getD_eq_getElem?_getD,List.getElem?_eq_getElem h] at h2;simp only [Option.getD_some] at h2;omega
  ·rw [iN];obtain ⟨g,e1,e2⟩:=Zgu n hb k 0 (by omega) (by omega) (by simp);rw [tO] at hm;exact ⟨g,e1,fun e=>⟨hm,e2 e⟩⟩
theorem Zhx (n:Nd) (hb:n.2.2.2.2.length<=150) (hc:n.2.2.2.1.length<=150) (hd:n.2.2.1.length<=80):∀(k i:Nat),i<=n.2.2.1.length->400+(n.2.2.1.length - i)<k->(∀ m∈n.2.2.1.take i,m.length<=200)->
  ∃ g,Q120.l0 k n (i:Int)=some g/\(g=false->(∀ m∈n.2.2.1,m.length<=200)/\(∀ m∈n.2.2.2.1,m.1.length<=200)/\∀ m∈n.2.2.2.2,m.1.length<=200)
 | 0,i,_,h,_=>by omega
 | k+1,i,hi,hk,hm=>by
  rw [Q120.l0];by_cases h:i<n.2.2.1.length
  ·have g1:(0:Int)<=(i:Int)/\(i:Int)<(n.2.2.1.length:Int):=by omega
   rw [iT (dT g1.2),iT g1,Zv];by_cases h2:200<(n.2.2.1.getD i default).length
   ·exact ⟨true,by rw [iP],fun h=>by cases h⟩
   ·rw [iN,wS2];refine Zhx n hb hc hd k (i+1) (by omega) (by omega) fun m hm'=>?_;rw [List.take_add_one,List.mem_append] at hm';rcases hm' with hm' | hm'
    ·exact hm m hm'
    ·rw [List.getElem?_eq_getElem h] at hm';simp only [Option.toList_some,List.mem_singleton] at hm';subst hm';rw [List.getD_eq_getElem?_getD,List.getElem?_eq_getElem h] at h2;simp only [Option.getD_some] at h2;omega
  ·rw [iN];obtain ⟨g,e1,e2⟩:=Zhy n hb hc k 0 (by omega) (by omega) (by simp);rw [tO] at hm;exact ⟨g,e1,fun e=>⟨hm,e2 e⟩⟩
theorem Zit (n:Nd) {k:Nat} (hk:1000<k):∃ g,Q120.f k n=some g/\(g=false->SmallN n):=by
 unfold Q120.f;by_cases h1:80<n.2.1.length
 ·exact ⟨true,by rw [iP],fun h=>by cases h⟩
 ·rw [iN];by_cases h2:80<n.2.2.1.length
  ·exact ⟨true,by rw [iP],fun h=>by cases h⟩
  ·rw [iN];by_cases h3:150<n.2.2.2.1.length
   ·exact ⟨true,by rw [iP],fun h=>by cases h⟩
   ·rw [iN];by_cases h4:150<n.2.2.2.2.length
    ·exact ⟨true,by rw [iP],fun h=>by cases h⟩
    ·rw [iN];obtain ⟨g,e1,e2⟩:=Zhx n (by omega) (by omega) (by omega) k 0 (by omega) (by omega) (by simp);exact ⟨g,e1,fun e=>⟨by omega,by omega,by omega,by omega,(e2 e).1,(e2 e).2.1,(e2 e).2.2⟩⟩
structure OkC (c:Cfg):Prop where
 fan:8<=c.2.2.2.1/\c.2.2.2.1<=64
 key:1<=c.2.2.2.2.2.2.1/\c.2.2.2.2.2.2.1<=64
 val:0<=c.2.2.2.2.2.2.2/\c.2.2.2.2.2.2.2<=256
 buf:16<=c.2.2.2.2.1/\c.2.2.2.2.1<=512
 leaf:c.2.2.2.2.1<=c.2.2.2.2.2.1/\c.2.2.2.2.2.1<=1024
abbrev Sp:=List UInt8×List UInt8×Bool
def inS (s:Sp) (x:TY):Bool:=!Op.bytesLess x s.1 && (s.2.2 || Op.bytesLess x s.2.1)
theorem Zo2 (a b:TY):decide (0<=Xm a b)=!Op.bytesLess a b:=by
 rcases Zfb a b with ⟨e,h⟩ | ⟨e,rfl⟩ | ⟨e,h⟩
 ·simp [e,h]
 ·simp [e,Vs]
 ·simp [e,Wl h]
def Zb2:List Pr->Bool
 | a :: b :: r=>Op.bytesLess a.1 b.1 && Zb2 (b :: r)
 | _=>true
def Xf (c:Cfg) (x:TY):Bool:=decide (1<=(x.length:Int)/\(x.length:Int)<=c.2.2.2.2.2.2.1)
theorem Zd1 (c:Cfg) (x:TY):Q144.f c x=some (Xf c x):=by
 unfold Q144.f Xf;by_cases h:1<=(x.length:Int) <;> simp [h]
def prB (c:Cfg) (s:Sp) (p:Pr):Bool:=Xf c p.1 && (inS s p.1 && decide ((p.2.length:Int)<=c.2.2.2.2.2.2.2))
def Zkl (c:Cfg) (s:Sp) (n:Nd):Bool:=n.2.2.2.2.all (prB c s) && (decide (n.2.1=[]) && (decide (n.2.2.1=[]) && (decide (n.2.2.2.1=[]) && (decide ((n.2.2.2.2.length:Int)<=c.2.2.2.2.2.1) && Zb2 n.2.2.2.2))))
theorem Zkj {l:TQ} {i:Nat} (h:i+1<l.length):Gm (l.drop i)=(Op.bytesLess (l.getD i []) (l.getD (i+1) []) && Gm (l.drop (i+1))):=by
 rw [Yu (show i<l.length by omega),Yu h];rfl
theorem Zld {l:TQ} {i:Nat} (h:l.length<=i+1):Gm (l.drop i)=true:=by
 by_cases h':i<l.length
 ·rw [Yu h',dN];rfl
 ·rw [dN];rfl
def piv (s:Sp) (p:TY):Bool:=inS s p && !decide (p=s.1)
def Zb7:List Msg->Bool
 | a :: b :: r=>Op.bytesLess a.1 b.1 && Zb7 (b :: r)
 | _=>true
def Zcv (c:Cfg) (s:Sp) (m:Msg):Bool:=Xf c m.1 && (inS s m.1 && (decide ((m.2.2.length:Int)<=c.2.2.2.2.2.2.2) && (!m.2.1 || decide (m.2.2=[]))))
def Zka (c:Cfg) (s:Sp) (n:Nd):Bool:=decide (n.1<=40) && (decide (n.2.2.2.2=[]) && (decide (1<=n.2.1.length) && (decide ((n.2.1.length:Int)<=c.2.2.2.1) && (decide (n.2.2.1.length+1=n.2.1.length) && ((n.2.2.1.all (piv s) && Gm n.2.2.1) && (decide ((n.2.2.2.1.length:Int)<=c.2.2.2.2.1) && Zb7 n.2.2.2.1))))))
def neB (l:T2) (i q:Nat):Bool:=!decide (l.getD q 0=l.getD i 0)
def Zal (c:Cfg) (l:T2) (i:Nat):Bool:=!decide (l.getD i 0=0) && (!decide (c.1<=w64 (l.getD i 0)) && (List.range' 0 i).all (neB l i))
def Zke (c:Cfg) (s:Sp) (n:Nd):Bool:=n.2.2.1.all (Xf c) && (n.2.2.2.1.all (Zcv c s) && Zka c s n)
def Zkw (c:Cfg) (s:Sp) (n:Nd):Bool:=(List.range' 0 n.2.1.length).all (Zal c n.2.1) && Zke c s n
theorem Zjj:∀ l:List Msg,Zb7 l=J4 (fun x=>x.1) l
 | []=>rfl
 | [_]=>rfl
 | a :: b :: r=>by rw [Zb7,J4,Zjj (b :: r)]
theorem Zi5:∀ l:List Pr,Zb2 l=J4 (fun x=>x.1) l
 | []=>rfl
 | [_]=>rfl
 | a :: b :: r=>by rw [Zb2,J4,Zi5 (b :: r)]
theorem SmallN.sub {n m:Nd} (h:SmallN n) (h1:m.2.1.length<=n.2.1.length) (h2:m.2.2.1.Sublist n.2.2.1) (h3:m.2.2.2.1.Sublist n.2.2.2.1) (h4:m.2.2.2.2.Sublist n.2.2.2.2):SmallN m:=
 ⟨by have:=h.kids; omega,by have:=h.pivs; have:=h2.length_le; omega,by have:=h.buf; have:=h3.length_le; omega,by have:=h.prs; have:=h4.length_le; omega,fun p hp=>h.pk p (h2.subset hp),fun p hp=>h.bk p (h3.subset hp),fun p hp=>h.rk p (h4.subset hp)⟩
theorem Zj9 {l:List Msg} (hl:l.length<=1000000):Q87.f l=some l:=by
 unfold Q87.f;rw [iV];rfl
theorem G5 {α:Type} [Inhabited α] [DecidableEq α] {F:Nat->Int->Option Bool} {a b:List α} {eqb:α->α->Bool} (he:∀ x y,eqb x y=decide (x=y)) (hab:a.length=b.length) (ha:a.length<=1000000)
  (hF:∀ k i,F (k+1) i=if (decide (i<(a.length:Int)))=true then (if 0<=i/\i<(a.length:Int) then (if 0<=i/\i<(b.length:Int) then (if (!(eqb (gt a i) (gt b i)))=true then (some false) else (F k (w64 (i+1)))) else none) else none) else (some true)) :
  ∀(k i:Nat),i<=a.length->a.length - i<k->F k (i:Int)=some (decide (a.drop i=b.drop i))
 | 0,i,_,h=>by omega
 | k+1,i,hi,hk=>by
  rw [hF];by_cases h:i<a.length
  ·have g1:(0:Int)<=(i:Int)/\(i:Int)<(a.length:Int):=by omega
   have g2:(0:Int)<=(i:Int)/\(i:Int)<(b.length:Int):=by omega
   rw [iT (dT g1.2),iT g1,iT g2,he,wS2,G5 he hab ha hF k (i+1) (by omega) (by omega),Yu h,Yu (show i<b.length by omega),Zv,Zv];generalize a.getD i default=x;generalize b.getD i default=y;by_cases e:x=y
   ·simp [e]
   ·simp [e]
  ·rw [iW,dN,dN];rfl
instance decNd4:DecidableEq (List Msg×List Pr):=instDecidableEqProd
instance decNd3:DecidableEq (List TY×List Msg×List Pr):=instDecidableEqProd
instance decNd2:DecidableEq (List Int×List TY×List Msg×List Pr):=instDecidableEqProd
instance decNd1:DecidableEq Nd:=instDecidableEqProd
theorem Zhf {l:T2} (hl:l.length<=1000000):Q91.f l=some l:=by
 unfold Q91.f;rw [iV];rfl
theorem Zir {l:TQ} (hl:l.length<=1000000):Q90.f l=some l:=by
 unfold Q90.f;rw [iV];rfl
theorem Zix {l:List Pr} (hl:l.length<=1000000):Q88.f l=some l:=by
 unfold Q88.f;rw [iV];rfl
abbrev ltI:=Go.Sort.ltInt
theorem Xi (x y:Int):Q32.f x y=some (ltI x y):=by
 unfold Q32.f Q33.f ltI Go.Sort.ltInt;simp
theorem gta (d:Array Int) (i:Nat):gt d.toList (i:Int)=d[i]!:=by
 rw [Zv,List.getD_eq_getElem?_getD];by_cases h:i<d.size
 ·simp [h]
 ·simp [h]
theorem Wt (d:Array Int) (i j:Nat):(d.toList.set i d[j]!).set j d[i]! = (Go.Sort.swp d i j).toList:=by
 simp [Go.Sort.swp]
theorem Ys (d:Array Int) (i j:Nat):(Go.Sort.swp d i j).size=d.size:=by simp [Go.Sort.swp]
theorem wn {x:Int} {n:Nat} (h:x=n) (hn:n<=4611686018427387904):w64 x=(n:Int):=by rw [wI2,h]
theorem Zfy {a b i:Nat} {r:T2}:∀(j:Nat) (d:Array Int),j<d.size->d.size<=1000000->i<1000000->Ev (fun k=>Q108.l0 k (a:Int) (b:Int) (Go.Sort.insInner ltI a j d).toList ((i+1:Nat):Int)) r->
  Ev (fun k=>Q108.l1 k (a:Int) (b:Int) (i:Int) d.toList (j:Int)) r
 | 0,d,hj,hd,hi,h=>h.step fun k hk=>by
  rw [Q108.l1,iN,wn (n:=i+1) (by omega) (by omega)];exact hk
 | j+1,d,hj,hd,hi,h=>by
  have e1:w64 (((j+1:Nat):Int) - 1)=(j:Int):=wn (by omega) (by omega);unfold Go.Sort.insInner at h;by_cases c:a<j+1
  ·by_cases q:ltI d[j+1]! d[j]! = true
   ·rw [iT (by simp [c,q])] at h;have:=Zfy j (Go.Sort.swp d (j+1) j) (by rw [Ys]; omega) (by rw [Ys]; omega) hi h;refine this.step fun k hk=>?_;rw [Q108.l1,iP,iV,e1,iV,gta,gta,Xi,bS,iT q,tN,tN,Wt];exact hk
   ·rw [iF (by simp [q])] at h;refine h.step fun k hk=>?_;rw [Q108.l1,iP,iV,e1,iV,gta,gta,Xi,bS,iF q,wn (n:=i+1) (by omega) (by omega)];exact hk
  ·rw [iF (by simp [c])] at h;refine h.step fun k hk=>?_;rw [Q108.l1,iN,wn (n:=i+1) (by omega) (by omega)];exact hk
theorem Zas (a:Nat):∀(j:Nat) (d:Array Int),(Go.Sort.insInner ltI a j d).size=d.size
 | 0,d=>rfl
 | j+1,d=>by
  unfold Go.Sort.insInner;split
  ·rw [Zas a j,Ys]
  ·rfl
theorem Zf3 {a b:Nat}:∀(m i:Nat) (d:Array Int),b - i=m->b<=d.size->d.size<=1000000->i<=1000000->Ev (fun k=>Q108.l0 k (a:Int) (b:Int) d.toList (i:Int)) (Go.Sort.insOuter ltI a b i d).toList
 | 0,i,d,hm,hb,hd,hi=>Ev.last fun k=>by
  rw [Q108.l0,iN];unfold Go.Sort.insOuter;rw [iQ]
 | m+1,i,d,hm,hb,hd,hi=>by
  have hs:=Zas a i d;have ih:=Zf3 (a:=a) (b:=b) m (i+1) (Go.Sort.insInner ltI a i d) (by omega) (by omega) (by omega) (by omega);unfold Go.Sort.insOuter;rw [iO];refine (Zfy (b:=b) i d (by omega) hd (by omega) ih).step fun k hk=>?_;rw [Q108.l0,iP];exact hk
theorem Zpf {a b:Nat} {d:Array Int} (hb:b<=d.size) (ha:a<=999999) (hd:d.size<=1000000):Ev (fun k=>Q108.f k d.toList (a:Int) (b:Int)) (Go.Sort.insertionSort ltI d a b).toList:=by
 refine (Zf3 (a:=a) (b:=b) (b - (a+1)) (a+1) d rfl hb hd (by omega)).next fun k hk=>?_;unfold Q108.f;rw [wn (n:=a+1) (by omega) (by omega)];exact hk
theorem G7 (hi first:Nat):∀(n root:Nat) (d:Array Int),hi - root<=n->(Go.Sort.siftDown ltI hi first root d).size=d.size
 | 0,root,d,h=>by
  rw [Go.Sort.siftDown,dif_pos (by omega)]
 | n+1,root,d,h=>by
  rw [Go.Sort.siftDown];split
  ·rfl
  ·split
   ·split
    ·rfl
    ·split
     ·rw [G7 hi first n _ _ (by omega),Ys]
     ·rfl
   ·split
    ·rfl
    ·rw [G7 hi first n _ _ (by omega),Ys]
theorem Zjy {hi first:Nat}:∀(n root:Nat) (d:Array Int),hi - root<=n->first+hi<=d.size->d.size<=1000000->root<=1000000->Ev (fun k=>Q118.l0 k (hi:Int) (first:Int) d.toList (root:Int)) (Go.Sort.siftDown ltI hi first root d).toList
 | n,root,d,hn,hf,hd,hr=>by
  have e1:w64 (2*(root:Int))=((2*root:Nat):Int):=wn (by omega) (by omega);have e2:w64 (((2*root:Nat):Int)+1)=((2*root+1:Nat):Int):=wn (by omega) (by omega);have e3:w64 (((2*root+1:Nat):Int)+1)=((2*root+2:Nat):Int):=wn (by omega) (by omega);have e4:w64 ((first:Int)+((2*root+1:Nat):Int))=((first+(2*root+1):Nat):Int):=wn (by omega) (by omega)
  have e5:w64 (((first+(2*root+1):Nat):Int)+1)=((first+(2*root+1)+1:Nat):Int):=wn (by omega) (by omega)
  have e6:w64 ((first:Int)+(root:Int))=((first+root:Nat):Int):=wn (by omega) (by omega)
  have e7:w64 ((first:Int)+((2*root+2:Nat):Int))=((first+(2*root+2):Nat):Int):=wn (by omega) (by omega)
  have un:∀ k,Q118.l0 (k+1) (hi:Int) (first:Int) d.toList (root:Int)=_:=fun k=>Q118.l0.eq_2 (hi:Int) (first:Int) d.toList (root:Int) k
  simp only [e1,e2,e3,e4,e5,e6,e7,gta,Xi,bS,tN,Wt] at un;rw [Go.Sort.siftDown];by_cases h1:2*root+1>=hi
  ·rw [dif_pos h1];exact Ev.last fun k=>by rw [un,iP]
  ·rw [dif_neg h1];cases n with
   | zero=>omega
   | succ n=>
   have go:∀(c:Nat),root<c->c<hi->Ev (fun k=>Q118.l0 k (hi:Int) (first:Int) (Go.Sort.swp d (first+root) (first+c)).toList (c:Int)) (Go.Sort.siftDown ltI hi first c (Go.Sort.swp d (first+root) (first+c))).toList:=fun c h2 h3=>
    Zjy n c _ (by omega) (by rw [Ys]; exact hf) (by rw [Ys]; exact hd) (by omega)
   have b0:(0:Int)<=((first+root:Nat):Int)/\((first+root:Nat):Int)<(d.toList.length:Int):=by simp; omega
   have b1:(0:Int)<=((first+(2*root+1):Nat):Int)/\((first+(2*root+1):Nat):Int)<(d.toList.length:Int):=by simp; omega
   have left:Ev (fun k=>Q118.l0 k (hi:Int) (first:Int) d.toList (root:Int)) (if !ltI d[first+root]! d[first+(2*root+1)]! then d else Go.Sort.siftDown ltI hi first (2*root+1) (Go.Sort.swp d (first+root) (first+(2*root+1)))).toList->True:=fun _=>trivial
   by_cases h2:2*root+1+1<hi
   ·have b2:(0:Int)<=((first+(2*root+1)+1:Nat):Int)/\((first+(2*root+1)+1:Nat):Int)<(d.toList.length:Int):=by simp; omega
    have b3:(0:Int)<=((first+(2*root+2):Nat):Int)/\((first+(2*root+2):Nat):Int)<(d.toList.length:Int):=by simp; omega
    by_cases h3:ltI d[first+(2*root+1)]! d[first+(2*root+1)+1]! = true
    ·rw [iT (by simp [h2,h3])];by_cases h4:ltI d[first+root]! d[first+(2*root+2)]! = true
     ·rw [iF (by simp [h4]),dif_pos (by omega)];refine (go (2*root+2) (by omega) (by omega)).step fun k hk=>?_;rw [un,iN,iP,iT b1,iT b2,iT h3,iT b0,iT b3,iF (by simp [h4])];exact hk
     ·rw [iT (by simp [h4])];refine Ev.last fun k=>?_;rw [un,iN,iP,iT b1,iT b2,iT h3,iT b0,iT b3,iT (by simp [h4])]
    ·rw [iF (by simp [h3])];by_cases h4:ltI d[first+root]! d[first+(2*root+1)]! = true
     ·rw [iF (by simp [h4])];refine (go (2*root+1) (by omega) (by omega)).step fun k hk=>?_;rw [un,iN,iP,iT b1,iT b2,iF h3,iT b0,iF (by simp [h4])];exact hk
     ·rw [iT (by simp [h4])];refine Ev.last fun k=>?_;rw [un,iN,iP,iT b1,iT b2,iF h3,iT b0,iT (by simp [h4])]
   ·rw [iF (by simp [h2])];by_cases h4:ltI d[first+root]! d[first+(2*root+1)]! = true
    ·rw [iF (by simp [h4])];refine (go (2*root+1) (by omega) (by omega)).step fun k hk=>?_;rw [un,iN,iN,iT b0,iT b1,iF (by simp [h4])];exact hk
    ·rw [iT (by simp [h4])];refine Ev.last fun k=>?_;rw [un,iN,iN,iT b0,iT b1,iT (by simp [h4])]
theorem Zow {hi first root:Nat} {d:Array Int} (hf:first+hi<=d.size) (hd:d.size<=1000000) (hr:root<=1000000):Ev (fun k=>Q118.f k d.toList (root:Int) (hi:Int) (first:Int)) (Go.Sort.siftDown ltI hi first root d).toList:=Zjy hi root d (by omega) hf hd hr
theorem Zg1 {a:Nat}:∀(m:Nat) (d:Array Int),a+m<=d.size->d.size<=1000000->Ev (fun k=>Q107.l1 k (a:Int) d.toList ((m:Int) - 1)) (Go.Sort.heapPop ltI a m d).toList
 | 0,d,h,hd=>Ev.last fun k=>by
  rw [Q107.l1,vS];rfl
 | m+1,d,h,hd=>by
  have e0:(((m+1:Nat):Int) - 1)=(m:Int):=by omega
  have e1:w64 ((a:Int)+(m:Int))=((a+m:Nat):Int):=wn (by omega) (by omega);have e2:w64 ((m:Int) - 1)=(m:Int) - 1:=wI2;have s1:=Zow (hi:=m) (first:=a) (root:=0) (d:=Go.Sort.swp d a (a+m)) (by rw [Ys]; omega) (by rw [Ys]; exact hd) (by omega)
  have sz:=G7 m a m 0 (Go.Sort.swp d a (a+m)) (by omega);rw [Ys] at sz;have ih:=Zg1 (a:=a) m (Go.Sort.siftDown ltI m a 0 (Go.Sort.swp d a (a+m))) (by omega) (by omega);rw [e0];refine Ev.step2 s1 ih fun k h1 h2=>?_;rw [Q107.l1,iP,e1,iV,iV,gta,gta,tN,tN,Wt,show Q118.f k (Go.Sort.swp d a (a+m)).toList 0 (m:Int) (a:Int)=_ from h1,bS,e2];exact h2
theorem Zdn {a b:Nat} (hab:a<=b):∀(m:Nat) (d:Array Int),b<=d.size->d.size<=1000000->m<=1000000->Ev (fun k=>Q107.l0 k (a:Int) (b:Int) d.toList ((m:Int) - 1)) (Go.Sort.heapPop ltI a (b - a) (Go.Sort.heapBuild ltI (b - a) a m d)).toList
 | 0,d,h,hd,hm=>by
  have e1:w64 ((b:Int) - (a:Int))=((b - a:Nat):Int):=wn (by omega) (by omega);have e2:w64 (((b - a:Nat):Int) - 1)=((b - a:Nat):Int) - 1:=wI2;refine (Zg1 (a:=a) (b - a) d (by omega) hd).step fun k hk=>?_;rw [Q107.l0,vS,e1,e2];exact hk
 | m+1,d,h,hd,hm=>by
  have e0:(((m+1:Nat):Int) - 1)=(m:Int):=by omega
  have e1:w64 ((b:Int) - (a:Int))=((b - a:Nat):Int):=wn (by omega) (by omega);have e2:w64 ((m:Int) - 1)=(m:Int) - 1:=wI2;have s1:=Zow (hi:=b - a) (first:=a) (root:=m) (d:=d) (by omega) hd (by omega)
  have sz:=G7 (b - a) a (b - a) m d (by omega);have ih:=Zdn hab m (Go.Sort.siftDown ltI (b - a) a m d) (by omega) (by omega) (by omega);rw [e0];refine Ev.step2 s1 ih fun k h1 h2=>?_;rw [Q107.l0,iP,e1,h1,bS,e2];exact h2
theorem Zsd {a b:Nat} {d:Array Int} (hab:a<=b) (hb:b<=d.size) (hd:d.size<=1000000):Ev (fun k=>Q107.f k d.toList (a:Int) (b:Int)) (Go.Sort.heapSort ltI d a b).toList:=by
 refine (Zdn hab ((b - a - 1) / 2+1) d hb hd (by omega)).next fun k hk=>?_;have e1:w64 ((b:Int) - (a:Int))=((b - a:Nat):Int):=wn (by omega) (by omega);have e2:w64 (((b - a:Nat):Int) - 1)=((b - a:Nat):Int) - 1:=wI2;have e3:Int.tdiv (((b - a:Nat):Int) - 1) 2=(((b - a - 1) / 2:Nat):Int):=by
  by_cases z:b - a=0
  ·rw [z]; rfl
  ·rw [show ((b - a:Nat):Int) - 1=((b - a - 1:Nat):Int) by omega];rfl
 unfold Q107.f;rw [e1,e2,e3,wI2];rw [show ((((b - a - 1) / 2+1:Nat):Int) - 1)=(((b - a - 1) / 2:Nat):Int) by omega] at hk;exact hk
theorem Zmz:∀(m i j:Nat) (d:Array Int),j - i<=m->i<=1000000->j<d.size->d.size<=1000000->Ev (fun k=>Q117.l0 k d.toList (i:Int) (j:Int)) (Go.Sort.reverseLoop i j d).toList
 | m,i,j,d,hm,hi,hj,hd=>by
  rw [Go.Sort.reverseLoop];by_cases c:i<j
  ·cases m with
   | zero=>omega
   | succ m=>
   rw [iT c];refine (Zmz m (i+1) (j - 1) (Go.Sort.swp d i j) (by omega) (by omega) (by rw [Ys]; omega) (by rw [Ys]; exact hd)).step fun k hk=>?_;rw [Q117.l0,iP,iV,iV,gta,gta,tN,tN,Wt,wn (n:=i+1) (by omega) (by omega),wn (x:=(j:Int) - 1) (n:=j - 1) (by omega) (by omega)];exact hk
  ·rw [iF c];exact Ev.last fun k=>by rw [Q117.l0,iN]
theorem Zsn {a b:Nat} {d:Array Int} (ha:a<=1000000) (h1:1<=b) (hb:b<=d.size) (hd:d.size<=1000000):Ev (fun k=>Q117.f k d.toList (a:Int) (b:Int)) (Go.Sort.reverseRange d a b).toList:=by
 refine (Zmz (b - 1 - a) a (b - 1) d (Nat.le_refl _) ha (by omega) hd).next fun k hk=>?_;unfold Q117.f;rw [wn (x:=(b:Int) - 1) (n:=b - 1) (by omega) (by omega)];exact hk
theorem Zeu {d:Array Int} {a b s:Nat} (ha:a<d.size) (hb:b<d.size) (hs:s<=1000):Q112.f d.toList (a:Int) (b:Int) (s:Int)=some (((Go.Sort.order2 ltI d a b s).1:Int),((Go.Sort.order2 ltI d a b s).2.1:Int),((Go.Sort.order2 ltI d a b s).2.2:Int)):=by
 unfold Q112.f Go.Sort.order2;rw [iV,iV,gta,gta,Xi,bS,wn (n:=s+1) (by omega) (by omega)];split <;> rfl
theorem Jm {P:Nat->Prop} {d:Array Int} {a b s:Nat} (ha:P a) (hb:P b):P (Go.Sort.order2 ltI d a b s).1/\P (Go.Sort.order2 ltI d a b s).2.1/\(Go.Sort.order2 ltI d a b s).2.2<=s+1:=by
 unfold Go.Sort.order2;split
 ·exact ⟨hb,ha,Nat.le_refl _⟩
 ·exact ⟨ha,hb,Nat.le_succ _⟩
theorem Zml {P:Nat->Prop} {d:Array Int} {a b c s:Nat} (ha:P a) (hb:P b) (hc:P c):P (Go.Sort.median ltI d a b c s).1/\(Go.Sort.median ltI d a b c s).2<=s+3:=by
 obtain ⟨a1,a2,a3⟩:=Jm (d:=d) (s:=s) ha hb;obtain ⟨b1,b2,b3⟩:=Jm (d:=d) (s:=(Go.Sort.order2 ltI d a b s).2.2) a2 hc;obtain ⟨c1,c2,c3⟩:=Jm (d:=d) (s:=(Go.Sort.order2 ltI d (Go.Sort.order2 ltI d a b s).2.1 c (Go.Sort.order2 ltI d a b s).2.2).2.2) a1 b1;unfold Go.Sort.median;exact ⟨c2,by dsimp only; omega⟩
theorem Zea {d:Array Int} {a b c s:Nat} (ha:a<d.size) (hb:b<d.size) (hc:c<d.size) (hs:s<=900):Q110.f d.toList (a:Int) (b:Int) (c:Int) (s:Int)=some (((Go.Sort.median ltI d a b c s).1:Int),((Go.Sort.median ltI d a b c s).2:Int)):=by
 obtain ⟨a1,a2,a3⟩:=Jm (P:=fun x=>x<d.size) (d:=d) (s:=s) ha hb;obtain ⟨b1,b2,b3⟩:=Jm (P:=fun x=>x<d.size) (d:=d) (s:=(Go.Sort.order2 ltI d a b s).2.2) a2 hc;unfold Q110.f Go.Sort.median;rw [Zeu ha hb (by omega),bS];dsimp only;rw [Zeu a2 hc (by omega),bS];dsimp only;rw [Zeu a1 b1 (by omega),bS]
theorem Zej {d:Array Int} {a s:Nat} (h1:1<=a) (ha:a+1<d.size) (hd:d.size<=1000000) (hs:s<=900):Q109.f d.toList (a:Int) (s:Int)=some (((Go.Sort.medianAdjacent ltI d a s).1:Int),((Go.Sort.medianAdjacent ltI d a s).2:Int)):=by
 unfold Q109.f Go.Sort.medianAdjacent;rw [wn (x:=(a:Int) - 1) (n:=a - 1) (by omega) (by omega),wn (n:=a+1) (by omega) (by omega),Zea (by omega) (by omega) (by omega) hs];rfl
theorem Zbc {d:Array Int} {a s:Nat} (ha:a+1<d.size):(Go.Sort.medianAdjacent ltI d a s).1<d.size/\(Go.Sort.medianAdjacent ltI d a s).2<=s+3:=by
 unfold Go.Sort.medianAdjacent;exact Zml (P:=fun x=>x<d.size) (by omega) (by omega) (by omega)
def Zdo:Go.Sort.Hint->Int
 | .unknown=>0
 | .increasing=>1
 | .decreasing=>2
theorem Zjn (x:Int) (n:Nat):(if (decide ((n:Int)=0))=true then (some (x,(1:Int))) else (if (decide ((n:Int)=12))=true then (some (x,2)) else (some (x,0))))=some (x,Zdo (if n=0 then Go.Sort.Hint.increasing else if n=12 then .decreasing else .unknown)):=by
 by_cases h1:n=0
 ·subst h1; rfl
 ·rw [iN,iF h1];by_cases h2:n=12
  ·subst h2; rfl
  ·rw [iN,iF h2];rfl
theorem Zrc {d:Array Int} {a b:Nat} (hab:a<=b) (hb:b<=d.size) (h12:12<b - a) (hd:d.size<=1000000):Q106.f d.toList (a:Int) (b:Int)=some (((Go.Sort.choosePivot ltI d a b).1:Int),Zdo (Go.Sort.choosePivot ltI d a b).2):=by
 have e1:w64 ((b:Int) - (a:Int))=((b - a:Nat):Int):=wn (by omega) (by omega);have e2:w64 (Int.tdiv ((b - a:Nat):Int) 4)=(((b - a) / 4:Nat):Int):=by
  rw [show Int.tdiv ((b - a:Nat):Int) 4=(((b - a) / 4:Nat):Int) from rfl,wI2]
 obtain ⟨q,hq⟩:∃ q,q=(b - a) / 4:=⟨_,rfl⟩;rw [<- hq] at e2;have e3:w64 ((q:Int)*1)=((q*1:Nat):Int):=wn (by omega) (by omega);have e4:w64 ((q:Int)*2)=((q*2:Nat):Int):=wn (by omega) (by omega);have e5:w64 ((q:Int)*3)=((q*3:Nat):Int):=wn (by omega) (by omega);have e6:w64 ((a:Int)+((q*1:Nat):Int))=((a+q*1:Nat):Int):=wn (by omega) (by omega);have e7:w64 ((a:Int)+((q*2:Nat):Int))=((a+q*2:Nat):Int):=wn (by omega) (by omega);have e8:w64 ((a:Int)+((q*3:Nat):Int))=((a+q*3:Nat):Int):=wn (by omega) (by omega);unfold Q106.f Go.Sort.choosePivot;simp only [e1,e2,e3,e4,e5,e6,e7,e8,<- hq];rw [iP,iT (show b - a>=8 by omega)];by_cases c:b - a>=50
 ·obtain ⟨i1,i2⟩:=Zbc (d:=d) (a:=a+q*1) (s:=0) (by omega);obtain ⟨j1,j2⟩:=Zbc (d:=d) (a:=a+q*2) (s:=(Go.Sort.medianAdjacent ltI d (a+q*1) 0).2) (by omega);obtain ⟨k1,k2⟩:=Zbc (d:=d) (a:=a+q*3) (s:=(Go.Sort.medianAdjacent ltI d (a+q*2) (Go.Sort.medianAdjacent ltI d (a+q*1) 0).2).2) (by omega);rw [iP,iT c,show Q109.f d.toList ((a+q*1:Nat):Int) 0=_ from Zej (s:=0) (by omega) (by omega) hd (by omega),bS];dsimp only;rw [Zej (by omega) (by omega) hd (by omega),bS];dsimp only;rw [Zej (by omega) (by omega) hd (by omega),bS];dsimp only;rw [Zea i1 j1 k1 (by omega),bS];exact Zjn _ _
 ·rw [iN,iF c,show Q110.f d.toList ((a+q*1:Nat):Int) ((a+q*2:Nat):Int) ((a+q*3:Nat):Int) 0=_ from Zea (s:=0) (by omega) (by omega) (by omega) (by omega),bS];exact Zjn _ _
theorem Zi6 {R:Type} {b:Nat} {r:R} {F:Nat->List Int->Int->Option R} {G:Nat->List Int->Option R}
  (hF:∀ k x j,F (k+1) x j=if (decide (j<(b:Int)))=true then (if 0<=j/\j<(x.length:Int) then (if 0<=(w64 (j - 1))/\(w64 (j - 1))<(x.length:Int) then ((Q32.f (gt x j) (gt x (w64 (j - 1)))).bind fun r3=>(if (!r3)=true then (G k x) else (F k ((x.set j.toNat (gt x (w64 (j - 1)))).set (w64 (j - 1)).toNat (gt x j)) (w64 (j+1))))) else none) else none) else (G k x)) :
  ∀(m j:Nat) (d:Array Int),b - j<=m->1<=j->b<=d.size->d.size<=1000000->Ev (fun k=>G k (Go.Sort.shiftUp ltI b j d).toList) r->Ev (fun k=>F k d.toList (j:Int)) r
 | m,j,d,hm,h1,hb,hd,h=>by
  rw [Go.Sort.shiftUp] at h;by_cases c:j<b
  ·cases m with
   | zero=>omega
   | succ m=>
   have e1:w64 ((j:Int) - 1)=((j - 1:Nat):Int):=wn (by omega) (by omega);have e2:w64 ((j:Int)+1)=((j+1:Nat):Int):=wn (by omega) (by omega);rw [iT c] at h;by_cases q:ltI d[j]! d[j - 1]! = true
   ·rw [iF (by simp [q])] at h;refine (Zi6 hF m (j+1) (Go.Sort.swp d j (j - 1)) (by omega) (by omega) (by rw [Ys]; exact hb) (by rw [Ys]; exact hd) h).step fun k hk=>?_;rw [hF,iP,e1,iV,iV,gta,gta,Xi,bS,iF (by simp [q]),tN,tN,Wt,e2];exact hk
   ·rw [iT (by simp [q])] at h;refine h.step fun k hk=>?_;rw [hF,iP,e1,iV,iV,gta,gta,Xi,bS,iT (by simp [q])];exact hk
  ·rw [iF c] at h;refine h.step fun k hk=>?_;rw [hF,iN];exact hk
theorem Zbi (b:Nat):∀(m j:Nat) (d:Array Int),b - j<=m->(Go.Sort.shiftUp ltI b j d).size=d.size
 | m,j,d,hm=>by
  rw [Go.Sort.shiftUp];by_cases c:j<b
  ·cases m with
   | zero=>omega
   | succ m=>
   rw [iT c];split
   ·rfl
   ·rw [Zbi b m _ _ (by omega),Ys]
  ·rw [iF c]
theorem Br:∀(j:Nat) (d:Array Int),(Go.Sort.shiftDown ltI j d).size=d.size
 | 0,d=>rfl
 | j+1,d=>by
  unfold Go.Sort.shiftDown;split
  ·rfl
  ·rw [Br j,Ys]
theorem Zfq {R:Type} {r:R} {F:Nat->List Int->Int->Option R} {G1 G2:Nat->List Int->Option R}
  (hF:∀ k x j,F (k+1) x j=if (decide (1<=j))=true then (if 0<=j/\j<(x.length:Int) then (if 0<=(w64 (j - 1))/\(w64 (j - 1))<(x.length:Int) then ((Q32.f (gt x j) (gt x (w64 (j - 1)))).bind fun r3=>(if (!r3)=true then (G1 k x) else (F k ((x.set j.toNat (gt x (w64 (j - 1)))).set (w64 (j - 1)).toNat (gt x j)) (w64 (j - 1))))) else none) else none) else (G2 k x)) :
  ∀(j:Nat) (d:Array Int),j<d.size->d.size<=1000000->Ev (fun k=>G1 k (Go.Sort.shiftDown ltI j d).toList) r->Ev (fun k=>G2 k (Go.Sort.shiftDown ltI j d).toList) r->Ev (fun k=>F k d.toList (j:Int)) r
 | 0,d,hj,hd,h1,h2=>h2.step fun k hk=>by
  rw [hF,vS];exact hk
 | j+1,d,hj,hd,h1,h2=>by
  have e1:w64 (((j+1:Nat):Int) - 1)=(j:Int):=wn (by omega) (by omega);unfold Go.Sort.shiftDown at h1 h2;by_cases q:ltI d[j+1]! d[j]! = true
  ·rw [iF (by simp [q])] at h1 h2;refine (Zfq hF j (Go.Sort.swp d (j+1) j) (by rw [Ys]; omega) (by rw [Ys]; exact hd) h1 h2).step fun k hk=>?_;rw [hF,iP,e1,iV,iV,gta,gta,Xi,bS,iF (by simp [q]),tN,tN,Wt];exact hk
  ·rw [iT (by simp [q])] at h1;refine h1.step fun k hk=>?_;rw [hF,iP,e1,iV,iV,gta,gta,Xi,bS,iT (by simp [q])];exact hk
def Zby (a b s i:Nat) (d:Array Int):Array Int×Bool:=
 if i=b then (d,true) else if b - a<50 then (d,false) else
  Go.Sort.partialIns ltI a b s i (let d1:=Go.Sort.swp d i (i - 1); let d2:=if i - a>=2 then Go.Sort.shiftDown ltI (i - 1) d1 else d1; if b - i>=2 then Go.Sort.shiftUp ltI b (i+1) d2 else d2)
theorem Zdk (a b s i:Nat) (d:Array Int):Go.Sort.partialIns ltI a b (s+1) i d=Zby a b s (Go.Sort.scanSorted ltI d b i) d:=rfl
def Jy (p:Array Int×Bool):Bool×List Int:=(p.2,p.1.toList)
theorem Zl2 {a b s i:Nat} {d:Array Int} (hs:s<5) (ha:a<i) (hi:i<b) (hb:b<=d.size) (hd:d.size<=1000000) (hq:ltI d[i]! d[i - 1]! = true)
  (ih:∀ d':Array Int,d'.size=d.size->Ev (fun k=>Q113.l0 k (a:Int) (b:Int) d'.toList (i:Int) ((5 - s:Nat):Int)) (Jy (Go.Sort.partialIns ltI a b s i d'))) :
  Ev (fun k=>Q113.l3 k (a:Int) (b:Int) d.toList ((4 - s:Nat):Int) (i:Int)) (Jy (Zby a b s i d)):=by
 have e1:w64 ((i:Int) - 1)=((i - 1:Nat):Int):=wn (by omega) (by omega);have e2:w64 ((b:Int) - (a:Int))=((b - a:Nat):Int):=wn (by omega) (by omega);have e3:w64 ((i:Int) - (a:Int))=((i - a:Nat):Int):=wn (by omega) (by omega);have e4:w64 ((b:Int) - (i:Int))=((b - i:Nat):Int):=wn (by omega) (by omega);have e5:w64 ((i:Int)+1)=((i+1:Nat):Int):=wn (by omega) (by omega);have e6:w64 (((4 - s:Nat):Int)+1)=((5 - s:Nat):Int):=wn (by omega) (by omega);have un:∀ k,Q113.l3 (k+1) (a:Int) (b:Int) d.toList ((4 - s:Nat):Int) (i:Int)=(if (decide (((b - a:Nat):Int)<50))=true then (some (false,d.toList)) else (if (decide (2<=((i - a:Nat):Int)))=true then (Q113.l2 k (a:Int) (b:Int) ((4 - s:Nat):Int) (i:Int) (Go.Sort.swp d i (i - 1)).toList ((i - 1:Nat):Int)) else (if (decide (2<=((b - i:Nat):Int)))=true then (Q113.l1 k (a:Int) (b:Int) ((4 - s:Nat):Int) (i:Int) (Go.Sort.swp d i (i - 1)).toList ((i+1:Nat):Int)) else (Q113.l0 k (a:Int) (b:Int) (Go.Sort.swp d i (i - 1)).toList (i:Int) ((5 - s:Nat):Int))))):=fun k=>by
  rw [Q113.l3,iP,e1,iV,iV,gta,gta,Xi,bS,iF (by simp [hq]),iN,iT (show 0<=((i - 1:Nat):Int)/\((i - 1:Nat):Int)<(d.toList.length:Int) by simp; omega),iT (show 0<=(i:Int)/\(i:Int)<(d.toList.length:Int) by simp; omega),e2,e3,e4,e5,e6,tN,tN,Wt]
 unfold Zby
 rw [iQ];by_cases c1:b - a<50
 ·rw [iT c1];exact Ev.last fun k=>by rw [un,iP]; rfl
 ·rw [iF c1];have sz:=Ys d i (i - 1);have fin:∀(d2:Array Int),d2.size=d.size->∀(F:Nat->List Int->Int->Option TV),(∀ k x j,F (k+1) x j=if (decide (j<(b:Int)))=true then (if 0<=j/\j<(x.length:Int) then (if 0<=(w64 (j - 1))/\(w64 (j - 1))<(x.length:Int) then ((Q32.f (gt x j) (gt x (w64 (j - 1)))).bind fun r3=>(if (!r3)=true then (Q113.l0 k (a:Int) (b:Int) x (i:Int) ((5 - s:Nat):Int)) else (F k ((x.set j.toNat (gt x (w64 (j - 1)))).set (w64 (j - 1)).toNat (gt x j)) (w64 (j+1))))) else none) else none) else (Q113.l0 k (a:Int) (b:Int) x (i:Int) ((5 - s:Nat):Int)))->
    Ev (fun k=>F k d2.toList ((i+1:Nat):Int)) (Jy (Go.Sort.partialIns ltI a b s i (Go.Sort.shiftUp ltI b (i+1) d2))):=fun d2 h2 F hF=>
   Zi6 (G:=fun k x=>Q113.l0 k (a:Int) (b:Int) x (i:Int) ((5 - s:Nat):Int)) hF b (i+1) d2 (by omega) (by omega) (by omega) (by omega) (ih _ (by rw [Zbi b b _ _ (by omega),h2]))
  by_cases c2:i - a>=2
  ·have sz2:(Go.Sort.shiftDown ltI (i - 1) (Go.Sort.swp d i (i - 1))).size=d.size:=by rw [Br,sz]
   have dn:=Zfq (r:=Jy (Go.Sort.partialIns ltI a b s i (if b - i>=2 then Go.Sort.shiftUp ltI b (i+1) (Go.Sort.shiftDown ltI (i - 1) (Go.Sort.swp d i (i - 1))) else Go.Sort.shiftDown ltI (i - 1) (Go.Sort.swp d i (i - 1)))))
    (F:=fun k x j=>Q113.l2 k (a:Int) (b:Int) ((4 - s:Nat):Int) (i:Int) x j)
    (G1:=fun k x=>if (decide (2<=((b - i:Nat):Int)))=true then (Q113.l1 k (a:Int) (b:Int) ((4 - s:Nat):Int) (i:Int) x ((i+1:Nat):Int)) else (Q113.l0 k (a:Int) (b:Int) x (i:Int) ((5 - s:Nat):Int)))
    (G2:=fun k x=>if (decide (2<=((b - i:Nat):Int)))=true then (Q113.l1 k (a:Int) (b:Int) ((4 - s:Nat):Int) (i:Int) x ((i+1:Nat):Int)) else (Q113.l0 k (a:Int) (b:Int) x (i:Int) ((5 - s:Nat):Int)))
    (fun k x j=>by rw [Q113.l2]; simp only [e4,e5,e6]) (i - 1) (Go.Sort.swp d i (i - 1)) (by omega) (by omega)
   have key:=dn (by
    by_cases c3:b - i>=2
    ·simp only [iT c3,iT (show decide (2<=((b - i:Nat):Int))=true from dT)];exact fin _ sz2 (fun k x j=>Q113.l1 k (a:Int) (b:Int) ((4 - s:Nat):Int) (i:Int) x j) (fun k x j=>by rw [Q113.l1]; simp only [e6])
    ·simp only [iF c3,iF (show ¬ decide (2<=((b - i:Nat):Int))=true by simp only [dE]; omega)];exact ih _ sz2) (by
    by_cases c3:b - i>=2
    ·simp only [iT c3,iT (show decide (2<=((b - i:Nat):Int))=true from dT)];exact fin _ sz2 (fun k x j=>Q113.l1 k (a:Int) (b:Int) ((4 - s:Nat):Int) (i:Int) x j) (fun k x j=>by rw [Q113.l1]; simp only [e6])
    ·simp only [iF c3,iF (show ¬ decide (2<=((b - i:Nat):Int))=true by simp only [dE]; omega)];exact ih _ sz2)
   refine key.step fun k hk=>?_;rw [un,iN,iP,hk];simp only [iT c2]
  ·by_cases c3:b - i>=2
   ·refine (fin _ sz (fun k x j=>Q113.l1 k (a:Int) (b:Int) ((4 - s:Nat):Int) (i:Int) x j) (fun k x j=>by rw [Q113.l1]; simp only [e6])).step fun k hk=>?_;rw [un,iN,iN,iP,hk];simp only [iF c2,iT c3]
   ·refine (ih _ sz).step fun k hk=>?_;rw [un,iN,iN,iN,hk];simp only [iF c2,iF c3]
theorem Zi4 {a b n:Nat} (hn:n<=1000000) (hb:b<=n):∀(s i:Nat) (d:Array Int),s<=5->a<i->i<=b->d.size=n->Ev (fun k=>Q113.l0 k (a:Int) (b:Int) d.toList (i:Int) ((5 - s:Nat):Int)) (Jy (Go.Sort.partialIns ltI a b s i d))
 | 0,i,d,hs,ha,hi,hd=>Ev.last fun k=>by
  rw [Q113.l0,vS];rfl
 | s+1,i,d,hs,ha,hi,hd=>by
  rw [Zdk];have scan:∀(m i:Nat),b - i<=m->a<i->i<=b->Ev (fun k=>Q113.l3 k (a:Int) (b:Int) d.toList ((4 - s:Nat):Int) (i:Int)) (Jy (Zby a b s (Go.Sort.scanSorted ltI d b i) d)):=fun m=>by
   induction m with
   | zero=>
    intro i hm ha hi;rw [Go.Sort.scanSorted,iW];unfold Zby
    rw [iO];exact Ev.last fun k=>by
     rw [Q113.l3,iN,iP];rfl
   | succ m ihm=>
    intro i hm ha hi;rw [Go.Sort.scanSorted];by_cases c:i<b
    ·by_cases q:ltI d[i]! d[i - 1]! = true
     ·rw [iF (by simp [q])];exact Zl2 (by omega) ha c (by omega) (by omega) q fun d' h'=>Zi4 hn hb s i d' (by omega) ha hi (by omega)
     ·rw [iT (by simp [c,q])];have e1:w64 ((i:Int) - 1)=((i - 1:Nat):Int):=wn (by omega) (by omega);have e5:w64 ((i:Int)+1)=((i+1:Nat):Int):=wn (by omega) (by omega);refine (ihm (i+1) (by omega) (by omega) (by omega)).step fun k hk=>?_;rw [Q113.l3,iP,e1,iV,iV,gta,gta,Xi,bS,iT (by simp [q]),e5];exact hk
    ·rw [iF (by simp [c])];unfold Zby
     rw [iO];exact Ev.last fun k=>by
      rw [Q113.l3,iN,iP];rfl
  refine (scan b i (by omega) ha hi).step fun k hk=>?_;rw [Q113.l0,iP,show ((5 - (s+1):Nat):Int)=((4 - s:Nat):Int) by omega];exact hk
theorem Zrv {a b:Nat} {d:Array Int} (hab:a<b) (hb:b<=d.size) (hd:d.size<=1000000):Ev (fun k=>Q113.f k d.toList (a:Int) (b:Int)) (Jy (Go.Sort.partialInsertionSort ltI d a b)):=by
 refine (Zi4 (a:=a) (b:=b) hd hb 5 (a+1) d (Nat.le_refl _) (by omega) (by omega) rfl).next fun k hk=>?_;unfold Q113.f;rw [wn (n:=a+1) (by omega) (by omega)];exact hk
theorem Za2 (p:Int->Bool) (d:Array Int) (j:Nat):∀(m i:Nat),j+1 - i<=m->i<=Go.Sort.scanUp p d j i/\(Go.Sort.scanUp p d j i<=j+1\/Go.Sort.scanUp p d j i=i)
 | m,i,hm=>by
  rw [Go.Sort.scanUp];by_cases c:(decide (i<=j) && p d[i]!)=true
  ·rw [iT c];have hij:i<=j:=by simp only [Bool.and_eq_true,dE] at c; exact c.1
   cases m with
   | zero=>omega
   | succ m=>
   have:=Za2 p d j m (i+1) (by omega);omega
  ·rw [iF c];exact ⟨Nat.le_refl _,.inr rfl⟩
theorem Ji (p:Int->Bool) (d:Array Int) (i:Nat):∀ j:Nat,Go.Sort.scanDown p d i j<=j
 | 0=>Nat.le_refl _
 | j+1=>by
  unfold Go.Sort.scanDown;split
  ·have:=Ji p d i j; omega
  ·exact Nat.le_refl _
def Zai (p:Nat×Array Int):Int×List Int:=((p.1:Int),p.2.toList)
def Gn (a i2 j2:Nat) (d:Array Int):Nat×Array Int:=if i2>j2 then (i2,d) else Go.Sort.partEqLoop ltI a (i2+1) (j2 - 1) (Go.Sort.swp d i2 j2)
theorem Zis {a i j:Nat} {d:Array Int} (h1:1<=i):Go.Sort.partEqLoop ltI a i j d=Gn a (Go.Sort.scanUp (fun x=>!ltI d[a]! x) d j i) (Go.Sort.scanDown (fun x=>ltI d[a]! x) d (Go.Sort.scanUp (fun x=>!ltI d[a]! x) d j i) j) d:=by
 have u:=(Za2 (fun x=>!ltI d[a]! x) d j _ i (Nat.le_refl _)).1;have v:=Ji (fun x=>ltI d[a]! x) d (Go.Sort.scanUp (fun x=>!ltI d[a]! x) d j i) j;rw [Go.Sort.partEqLoop];unfold Gn;split
 ·rfl
 ·rw [dif_pos (by omega)]
theorem Zjl {a i2:Nat} {d:Array Int} (hi:1<=i2) (ha:a<d.size) (hd:d.size<=1000000) (hi2:i2<=1000001):∀(j:Nat),j<d.size->(∀ j2,j2<=j->i2<=j2->Ev (fun k=>Q114.l0 k (a:Int) (Go.Sort.swp d i2 j2).toList ((i2+1:Nat):Int) ((j2 - 1:Nat):Int)) (Zai (Go.Sort.partEqLoop ltI a (i2+1) (j2 - 1) (Go.Sort.swp d i2 j2))))->
  Ev (fun k=>Q114.l2 k (a:Int) d.toList (i2:Int) (j:Int)) (Zai (Gn a i2 (Go.Sort.scanDown (fun x=>ltI d[a]! x) d i2 j) d))
 | 0,hj,h=>by
  unfold Go.Sort.scanDown Gn;rw [iO];exact Ev.last fun k=>by rw [Q114.l2,iN,iP]; rfl
 | j+1,hj,h=>by
  have e1:w64 (((j+1:Nat):Int) - 1)=(j:Int):=wn (by omega) (by omega);have e2:w64 ((i2:Int)+1)=((i2+1:Nat):Int):=wn (by omega) (by omega);unfold Go.Sort.scanDown;by_cases c:i2<=j+1
  ·by_cases q:ltI d[a]! d[j+1]! = true
   ·rw [iT (by simp [c,q])];refine (Zjl hi ha hd hi2 j (by omega) fun j2 a b=>h j2 (by omega) b).step fun k hk=>?_;rw [Q114.l2,iP,iV,gta,gta,Xi,bS,iT q,e1];exact hk
   ·rw [iF (by simp [q])];unfold Gn;rw [iQ];refine (h (j+1) (Nat.le_refl _) c).step fun k hk=>?_;rw [Q114.l2,iP,iV,gta,gta,Xi,bS,iF q,iN,gta,tN,tN,Wt,e1,e2];exact hk
  ·rw [iF (by simp [c])];unfold Gn;rw [iO];exact Ev.last fun k=>by rw [Q114.l2,iN,iP]; rfl
theorem Zox {a j:Nat} {d:Array Int} (ha:a<d.size) (hd:d.size<=1000000) (hj:j<d.size):∀(m i:Nat),j+1 - i<=m->1<=i->i<=1000001->(∀ i2 j2,i<=i2->j2<=j->i2<=j2->Ev (fun k=>Q114.l0 k (a:Int) (Go.Sort.swp d i2 j2).toList ((i2+1:Nat):Int) ((j2 - 1:Nat):Int)) (Zai (Go.Sort.partEqLoop ltI a (i2+1) (j2 - 1) (Go.Sort.swp d i2 j2))))->
  Ev (fun k=>Q114.l1 k (a:Int) d.toList (j:Int) (i:Int)) (Zai (Gn a (Go.Sort.scanUp (fun x=>!ltI d[a]! x) d j i) (Go.Sort.scanDown (fun x=>ltI d[a]! x) d (Go.Sort.scanUp (fun x=>!ltI d[a]! x) d j i) j) d))
 | m,i,hm,h1,hi,h=>by
  have e2:w64 ((i:Int)+1)=((i+1:Nat):Int):=wn (by omega) (by omega);rw [Go.Sort.scanUp];by_cases c:i<=j
  ·by_cases q:ltI d[a]! d[i]! = true
   ·rw [iF (by simp [q])];refine (Zjl h1 ha hd hi j hj fun j2 a b=>h i j2 (Nat.le_refl _) a b).step fun k hk=>?_;rw [Q114.l1,iP,iV,iV,gta,gta,Xi,bS,iF (by simp [q])];exact hk
   ·cases m with
    | zero=>omega
    | succ m=>
    rw [iT (by simp [c,q])];refine (Zox ha hd hj m (i+1) (by omega) (by omega) (by omega) fun i2 j2 a b c=>h i2 j2 (by omega) b c).step fun k hk=>?_;rw [Q114.l1,iP,iV,iV,gta,gta,Xi,bS,iT (by simp [q]),e2];exact hk
  ·rw [iF (by simp [c])];have v:=Ji (fun x=>ltI d[a]! x) d i j;unfold Gn;rw [iO];have:Ev (fun k=>Q114.l3 k (a:Int) d.toList (j:Int) (i:Int)) (Zai (i,d)):=Ev.last fun k=>by
    rw [Q114.l3,iP];rfl
   refine this.step fun k hk=>?_;rw [Q114.l1,iN];exact hk
theorem Zjr {a n:Nat} (hn:n<=1000000) (ha:a<n):∀(m i j:Nat) (d:Array Int),j+1 - i<=m->1<=i->i<=1000001->j<n->d.size=n->Ev (fun k=>Q114.l0 k (a:Int) d.toList (i:Int) (j:Int)) (Zai (Go.Sort.partEqLoop ltI a i j d))
 | m,i,j,d,hm,h1,hi,hj,hd=>by
  rw [Zis h1];refine (Zox (a:=a) (j:=j) (d:=d) (by omega) (by omega) (by omega) _ i (Nat.le_refl _) h1 hi fun i2 j2 a1 a2 a3=>?_).step fun k hk=>?_
  ·cases m with
   | zero=>omega
   | succ m=>exact Zjr hn ha m (i2+1) (j2 - 1) (Go.Sort.swp d i2 j2) (by omega) (by omega) (by omega) (by omega) (by rw [Ys]; exact hd)
  ·rw [Q114.l0];exact hk
theorem Zp3 {a b p:Nat} {d:Array Int} (hab:a<b) (hp:p<d.size) (hb:b<=d.size) (hd:d.size<=1000000):Ev (fun k=>Q114.f k d.toList (a:Int) (b:Int) (p:Int)) (Zai (Go.Sort.partitionEqual ltI d a b p)):=by
 refine (Zjr (a:=a) (n:=d.size) hd (by omega) _ (a+1) (b - 1) (Go.Sort.swp d a p) (Nat.le_refl _) (by omega) (by omega) (by omega) (Ys d a p)).next fun k hk=>?_;unfold Q114.f;rw [iV,iV,gta,gta,tN,tN,Wt,wn (n:=a+1) (by omega) (by omega),wn (x:=(b:Int) - 1) (n:=b - 1) (by omega) (by omega)];exact hk
def Zhz (d:Array Int) (a j:Nat):Int×Bool×List Int:=((j:Int),false,(Go.Sort.swp d j a).toList)
def Zak (a i2 j2:Nat) (d:Array Int):Nat×Array Int:=if i2>j2 then (j2,d) else Go.Sort.partLoop ltI a (i2+1) (j2 - 1) (Go.Sort.swp d i2 j2)
theorem Zmf {a i j:Nat} {d:Array Int} (h1:1<=i):Go.Sort.partLoop ltI a i j d=Zak a (Go.Sort.scanUp (fun x=>ltI x d[a]!) d j i) (Go.Sort.scanDown (fun x=>!ltI x d[a]!) d (Go.Sort.scanUp (fun x=>ltI x d[a]!) d j i) j) d:=by
 have u:=(Za2 (fun x=>ltI x d[a]!) d j _ i (Nat.le_refl _)).1;have v:=Ji (fun x=>!ltI x d[a]!) d (Go.Sort.scanUp (fun x=>ltI x d[a]!) d j i) j;rw [Go.Sort.partLoop];unfold Zak;split
 ·rfl
 ·rw [dif_pos (by omega)]
structure Part4 (a:Nat) (F2 F3 F4:Nat->List Int->Int->Int->Option TO):Prop where
 h2:∀ k x i j,F2 (k+1) x i j=F3 k x j i
 h3:∀ k x j i,F3 (k+1) x j i=if (decide (i<=j))=true then (if 0<=i/\i<(x.length:Int) then (if 0<=(a:Int)/\(a:Int)<(x.length:Int) then ((Q32.f (gt x i) (gt x (a:Int))).bind fun r3=>(if r3=true then (F3 k x j (w64 (i+1))) else (F4 k x i j))) else none) else none) else (F4 k x i j)
 h4:∀ k x i j,F4 (k+1) x i j=if (decide (i<=j))=true then (if 0<=j/\j<(x.length:Int) then (if 0<=(a:Int)/\(a:Int)<(x.length:Int) then ((Q32.f (gt x j) (gt x (a:Int))).bind fun r4=>(if (!r4)=true then (F4 k x i (w64 (j - 1))) else (if (decide (j<i))=true then (if 0<=(a:Int)/\(a:Int)<(x.length:Int) then (if 0<=j/\j<(x.length:Int) then (some (j,false,((x.set j.toNat (gt x (a:Int))).set (a:Int).toNat (gt x j)))) else none) else none) else (if 0<=j/\j<(x.length:Int) then (if 0<=i/\i<(x.length:Int) then (F2 k ((x.set i.toNat (gt x j)).set j.toNat (gt x i)) (w64 (i+1)) (w64 (j - 1))) else none) else none)))) else none) else none) else (if (decide (j<i))=true then (if 0<=(a:Int)/\(a:Int)<(x.length:Int) then (if 0<=j/\j<(x.length:Int) then (some (j,false,((x.set j.toNat (gt x (a:Int))).set (a:Int).toNat (gt x j)))) else none) else none) else (if 0<=j/\j<(x.length:Int) then (if 0<=i/\i<(x.length:Int) then (F2 k ((x.set i.toNat (gt x j)).set j.toNat (gt x i)) (w64 (i+1)) (w64 (j - 1))) else none) else none))
section
variable {a:Nat} {F2 F3 F4:Nat->List Int->Int->Int->Option TO} (P:Part4 a F2 F3 F4)
include P
theorem Zed {i2:Nat} {d:Array Int} (hi:1<=i2) (ha:a<d.size) (hd:d.size<=1000000) (hi2:i2<=1000001):∀(j:Nat),j<d.size->(∀ j2,j2<=j->i2<=j2->Ev (fun k=>F2 k (Go.Sort.swp d i2 j2).toList ((i2+1:Nat):Int) ((j2 - 1:Nat):Int)) (let r:=Go.Sort.partLoop ltI a (i2+1) (j2 - 1) (Go.Sort.swp d i2 j2); Zhz r.2 a r.1))->
  Ev (fun k=>F4 k d.toList (i2:Int) (j:Int)) (let r:=Zak a i2 (Go.Sort.scanDown (fun x=>!ltI x d[a]!) d i2 j) d; Zhz r.2 a r.1)
 | 0,hj,h=>by
  unfold Go.Sort.scanDown Zak;rw [iO];exact Ev.last fun k=>by rw [P.h4,iN,iP,iV,iV,gta,gta,tN,tN,Wt]; rfl
 | j+1,hj,h=>by
  have e1:w64 (((j+1:Nat):Int) - 1)=(j:Int):=wn (by omega) (by omega);have e2:w64 ((i2:Int)+1)=((i2+1:Nat):Int):=wn (by omega) (by omega);unfold Go.Sort.scanDown;by_cases c:i2<=j+1
  ·by_cases q:ltI d[j+1]! d[a]! = true
   ·rw [iF (by simp [q])];unfold Zak;rw [iQ];refine (h (j+1) (Nat.le_refl _) c).step fun k hk=>?_;rw [P.h4,iP,iV,iV,gta,gta,Xi,bS,iF (by simp [q]),iN,iV,iV,gta,tN,tN,Wt,e1,e2];exact hk
   ·rw [iT (by simp [c,q])];refine (Zed hi ha hd hi2 j (by omega) fun j2 a b=>h j2 (by omega) b).step fun k hk=>?_;rw [P.h4,iP,iV,iV,gta,gta,Xi,bS,iT (by simp [q]),e1];exact hk
  ·rw [iF (by simp [c])];unfold Zak;rw [iO];exact Ev.last fun k=>by rw [P.h4,iN,iP,iV,iV,gta,gta,tN,tN,Wt]; rfl
theorem Zon {j:Nat} {d:Array Int} (ha:a<d.size) (hd:d.size<=1000000) (hj:j<d.size):∀(m i:Nat),j+1 - i<=m->1<=i->i<=1000001->(∀ i2 j2,i<=i2->j2<=j->i2<=j2->Ev (fun k=>F2 k (Go.Sort.swp d i2 j2).toList ((i2+1:Nat):Int) ((j2 - 1:Nat):Int)) (let r:=Go.Sort.partLoop ltI a (i2+1) (j2 - 1) (Go.Sort.swp d i2 j2); Zhz r.2 a r.1))->
  Ev (fun k=>F3 k d.toList (j:Int) (i:Int)) (let r:=Zak a (Go.Sort.scanUp (fun x=>ltI x d[a]!) d j i) (Go.Sort.scanDown (fun x=>!ltI x d[a]!) d (Go.Sort.scanUp (fun x=>ltI x d[a]!) d j i) j) d; Zhz r.2 a r.1)
 | m,i,hm,h1,hi,h=>by
  have e2:w64 ((i:Int)+1)=((i+1:Nat):Int):=wn (by omega) (by omega);rw [Go.Sort.scanUp];by_cases c:i<=j
  ·by_cases q:ltI d[i]! d[a]! = true
   ·cases m with
    | zero=>omega
    | succ m=>
    rw [iT (by simp [c,q])];refine (Zon ha hd hj m (i+1) (by omega) (by omega) (by omega) fun i2 j2 a b c=>h i2 j2 (by omega) b c).step fun k hk=>?_;rw [P.h3,iP,iV,iV,gta,gta,Xi,bS,iT q,e2];exact hk
   ·rw [iF (by simp [q])];refine (Zed P h1 ha hd hi j hj fun j2 a b=>h i j2 (Nat.le_refl _) a b).step fun k hk=>?_;rw [P.h3,iP,iV,iV,gta,gta,Xi,bS,iF q];exact hk
  ·rw [iF (by simp [c])];refine (Zed P h1 ha hd hi j hj fun j2 a b=>h i j2 (Nat.le_refl _) a b).step fun k hk=>?_;rw [P.h3,iN];exact hk
theorem Zja {n:Nat} (hn:n<=1000000) (ha:a<n):∀(m i j:Nat) (d:Array Int),j+1 - i<=m->1<=i->i<=1000001->j<n->d.size=n->Ev (fun k=>F2 k d.toList (i:Int) (j:Int)) (let r:=Go.Sort.partLoop ltI a i j d; Zhz r.2 a r.1)
 | m,i,j,d,hm,h1,hi,hj,hd=>by
  rw [Zmf h1];refine (Zon P (j:=j) (d:=d) (by omega) (by omega) (by omega) _ i (Nat.le_refl _) h1 hi fun i2 j2 a1 a2 a3=>?_).step fun k hk=>?_
  ·cases m with
   | zero=>omega
   | succ m=>exact Zja hn ha m (i2+1) (j2 - 1) (Go.Sort.swp d i2 j2) (by omega) (by omega) (by omega) (by omega) (by rw [Ys]; exact hd)
  ·rw [P.h2];exact hk
end
theorem Zqc (a:Nat):Part4 a (fun k x i j=>Q115.l0 k (a:Int) x i j) (fun k x j i=>Q115.l2 k (a:Int) x j i) (fun k x i j=>Q115.l1 k (a:Int) x i j):=
 ⟨fun k x i j=>by rw [Q115.l0],fun k x j i=>by rw [Q115.l2],fun k x i j=>by rw [Q115.l1]⟩
def Zn0 (r:Nat×Bool×Array Int):Int×Bool×List Int:=((r.1:Int),r.2.1,r.2.2.toList)
def Zcb (a i j:Nat) (d:Array Int):Nat×Bool×Array Int:=if i>j then (j,true,Go.Sort.swp d j a) else ((Go.Sort.partLoop ltI a (i+1) (j - 1) (Go.Sort.swp d i j)).1,false,Go.Sort.swp (Go.Sort.partLoop ltI a (i+1) (j - 1) (Go.Sort.swp d i j)).2 (Go.Sort.partLoop ltI a (i+1) (j - 1) (Go.Sort.swp d i j)).1 a)
theorem Zem {a p i:Nat} {d e:Array Int} (he:e=Go.Sort.swp d a p) (hi:1<=i) (ha:a<d.size) (hp:p<d.size) (hd:d.size<=1000000) (hi2:i<=1000001):∀(j:Nat),j<d.size->Ev (fun k=>Q115.l3 k d.toList (a:Int) (p:Int) (i:Int) (j:Int)) (Zn0 (Zcb a i (Go.Sort.scanDown (fun x=>!ltI x e[a]!) e i j) e))
 | 0,hj=>by
  have se:e.size=d.size:=by rw [he,Ys]
  unfold Go.Sort.scanDown Zcb;rw [iO];exact Ev.last fun k=>by
   rw [Q115.l3,iN,iP,gta,gta,tN,tN,Wt,<- he,iV,iV,gta,gta,tN,Wt];rfl
 | j+1,hj=>by
  have se:e.size=d.size:=by rw [he,Ys]
  have e1:w64 (((j+1:Nat):Int) - 1)=(j:Int):=wn (by omega) (by omega);have e2:w64 ((i:Int)+1)=((i+1:Nat):Int):=wn (by omega) (by omega);unfold Go.Sort.scanDown;by_cases c:i<=j+1
  ·by_cases q:ltI e[j+1]! e[a]! = true
   ·rw [iF (by simp [q])];unfold Zcb;rw [iQ];refine (Zja (Zqc a) (n:=d.size) hd ha _ (i+1) j (Go.Sort.swp e i (j+1)) (Nat.le_refl _) (by omega) (by omega) (by omega) (by rw [Ys,se])).step fun k hk=>?_;rw [Q115.l3,iP,gta,gta,tN,tN,Wt,<- he,iV,iV,gta,gta,Xi,bS,iF (by simp [q]),iN,iV,iV,gta,tN,tN,Wt,e1,e2];exact hk
   ·rw [iT (by simp [c,q])];refine (Zem he hi ha hp hd hi2 j (by omega)).step fun k hk=>?_;rw [Q115.l3,iP,gta,gta,tN,tN,Wt,<- he,iV,iV,gta,gta,Xi,bS,iT (by simp [q]),e1];exact hk
  ·rw [iF (by simp [c])];unfold Zcb;rw [iO];exact Ev.last fun k=>by
    rw [Q115.l3,iN,iP,gta,gta,tN,tN,Wt,<- he,iV,iV,gta,gta,tN,Wt];rfl
theorem Zot {a b p:Nat} {d e:Array Int} (he:e=Go.Sort.swp d a p) (hab:a<b) (hb:b<=d.size) (hp:p<d.size) (hd:d.size<=1000000):∀(m i:Nat),b - i<=m->1<=i->i<=1000001->Ev (fun k=>Q115.l4 k d.toList (a:Int) (b:Int) (p:Int) (i:Int)) (Zn0 (Zcb a (Go.Sort.scanUp (fun x=>ltI x e[a]!) e (b - 1) i) (Go.Sort.scanDown (fun x=>!ltI x e[a]!) e (Go.Sort.scanUp (fun x=>ltI x e[a]!) e (b - 1) i) (b - 1)) e))
 | m,i,hm,h1,hi=>by
  have se:e.size=d.size:=by rw [he,Ys]
  have e2:w64 ((i:Int)+1)=((i+1:Nat):Int):=wn (by omega) (by omega);have e3:w64 ((b:Int) - 1)=((b - 1:Nat):Int):=wn (by omega) (by omega);rw [Go.Sort.scanUp];by_cases c:i<=b - 1
  ·by_cases q:ltI e[i]! e[a]! = true
   ·cases m with
    | zero=>omega
    | succ m=>
    rw [iT (by simp [c,q])];refine (Zot he hab hb hp hd m (i+1) (by omega) (by omega) (by omega)).step fun k hk=>?_;rw [Q115.l4,e3,iP,gta,gta,tN,tN,Wt,<- he,iV,iV,gta,gta,Xi,bS,iT q,e2];exact hk
   ·rw [iF (by simp [q])];refine (Zem he h1 (by omega) hp hd hi (b - 1) (by omega)).step fun k hk=>?_;rw [Q115.l4,e3,iP,gta,gta,tN,tN,Wt,<- he,iV,iV,gta,gta,Xi,bS,iF q];exact hk
  ·rw [iF (by simp [c])];refine (Zem he h1 (by omega) hp hd hi (b - 1) (by omega)).step fun k hk=>?_;rw [Q115.l4,e3,iN];exact hk
theorem Zrs {a b p:Nat} {d:Array Int} (hab:a<b) (hp:p<d.size) (hb:b<=d.size) (hd:d.size<=1000000):Ev (fun k=>Q115.f k d.toList (a:Int) (b:Int) (p:Int)) (Zn0 (Go.Sort.partition ltI d a b p)):=by
 have e:Go.Sort.partition ltI d a b p=Zcb a (Go.Sort.scanUp (fun x=>ltI x (Go.Sort.swp d a p)[a]!) (Go.Sort.swp d a p) (b - 1) (a+1)) (Go.Sort.scanDown (fun x=>!ltI x (Go.Sort.swp d a p)[a]!) (Go.Sort.swp d a p) (Go.Sort.scanUp (fun x=>ltI x (Go.Sort.swp d a p)[a]!) (Go.Sort.swp d a p) (b - 1) (a+1)) (b - 1)) (Go.Sort.swp d a p):=rfl;rw [e];refine (Zot (e:=Go.Sort.swp d a p) rfl hab hb hp hd _ (a+1) (Nat.le_refl _) (by omega) (by omega)).next fun k hk=>?_;unfold Q115.f;rw [iV,iV,wn (n:=a+1) (by omega) (by omega)];exact hk
theorem Zb3 (n:Nat):uH.wrap (n:Int)=((n % 18446744073709551616:Nat):Int):=by
 simp [IntKind.wrap,IntKind.bits,IntKind.signed]
theorem bvx {x y:Nat} (hx:x<18446744073709551616) (hy:y<18446744073709551616):((ofInt uH.bits (x:Int) ^^^ ofInt uH.bits (y:Int)).toNat)=x ^^^ y:=by
 show (ofInt 64 (x:Int) ^^^ ofInt 64 (y:Int)).toNat=x ^^^ y;rw [BitVec.toNat_xor,BitVec.ofInt_natCast,BitVec.ofInt_natCast,BitVec.toNat_ofNat,BitVec.toNat_ofNat,Nat.mod_eq_of_lt hx,Nat.mod_eq_of_lt hy]
theorem Zko {x:Nat} (r s:UInt64) (hx:x=s.toNat):uH.wrap (((ofInt uH.bits (r.toNat:Int) ^^^ ofInt uH.bits (x:Int)).toNat:Int))=((r ^^^ s).toNat:Int):=by
 have h1:r.toNat<18446744073709551616:=r.toNat_lt;have h2:s.toNat<18446744073709551616:=s.toNat_lt;have h3:(r ^^^ s).toNat<18446744073709551616:=(r ^^^ s).toNat_lt;rw [hx,bvx h1 h2,Zb3,UInt64.toNat_xor] at *;rw [Nat.mod_eq_of_lt h3]
theorem Zqk (r:UInt64) (n:Nat) (hn:n<64):uH.wrap ((r.toNat:Int)*2 ^ n)=(((r <<< (UInt64.ofNat n)).toNat:Nat):Int):=by
 rw [show (r.toNat:Int)*2 ^ n=((r.toNat*2 ^ n:Nat):Int) by simp,Zb3,UInt64.toNat_shiftLeft,Nat.shiftLeft_eq];have:(UInt64.ofNat n).toNat % 64=n:=by simp; omega
 rw [this]
theorem Zsk (r:UInt64) (n:Nat) (hn:n<64):Int.fdiv (r.toNat:Int) (2 ^ n)=(((r >>> (UInt64.ofNat n)).toNat:Nat):Int):=by
 rw [UInt64.toNat_shiftRight,Nat.shiftRight_eq_div_pow];have:(UInt64.ofNat n).toNat % 64=n:=by simp; omega
 rw [this,Int.fdiv_eq_ediv_of_nonneg _ (by exact_mod_cast Nat.zero_le _)];simp
theorem Zrp (r:UInt64):Q119.f (r.toNat:Int)=some (((Go.Sort.xorNext r).toNat:Int),((Go.Sort.xorNext r).toNat:Int)):=by
 have xe:Go.Sort.xorNext r=(fun r1:UInt64=>(fun r2:UInt64=>r2 ^^^ (r2 <<< 17)) (r1 ^^^ (r1 >>> 7))) (r ^^^ (r <<< 13)):=rfl;unfold Q119.f;rw [xe];dsimp only;have e1:uH.wrap ((r.toNat:Int)*2 ^ 13)=(((r <<< 13).toNat:Nat):Int):=Zqk r 13 (by decide);rw [e1,Zko r (r <<< 13) rfl];generalize r ^^^ (r <<< 13)=r1;have e2:Int.fdiv (r1.toNat:Int) (2 ^ 7)=(((r1 >>> 7).toNat:Nat):Int):=Zsk r1 7 (by decide);rw [e2,Zko r1 (r1 >>> 7) rfl];generalize r1 ^^^ (r1 >>> 7)=r2;have e3:uH.wrap ((r2.toNat:Int)*2 ^ 17)=(((r2 <<< 17).toNat:Nat):Int):=Zqk r2 17 (by decide);rw [e3,Zko r2 (r2 <<< 17) rfl]
theorem Zrr:∀ n:Fin 200,Q1.f ((n:Nat):Int)=some ((Go.Sort.bitsLen n:Nat):Int):=by decide +kernel
theorem Zqt:∀ n:Fin 200,Q111.f ((n:Nat):Int)=some ((1 <<< Go.Sort.bitsLen n:Nat):Int):=by decide +kernel
theorem Zsg {r:UInt64} {M:Nat} (h1:1<=M) (h2:M<=1000):w64 (uH.wrap (((ofInt uH.bits (r.toNat:Int) &&& (ofInt uH.bits (uH.wrap ((M:Int) - 1)))).toNat:Int)))=((r.toNat &&& (M - 1):Nat):Int):=by
 have hr:r.toNat<18446744073709551616:=r.toNat_lt;have e1:(M:Int) - 1=((M - 1:Nat):Int):=by omega
 have hle:r.toNat &&& (M - 1)<=M - 1:=Nat.and_le_right;have e2:(ofInt uH.bits (r.toNat:Int) &&& ofInt uH.bits ((M - 1:Nat):Int)).toNat=r.toNat &&& (M - 1):=by
  show (ofInt 64 (r.toNat:Int) &&& ofInt 64 ((M - 1:Nat):Int)).toNat=r.toNat &&& (M - 1);rw [BitVec.toNat_and,BitVec.ofInt_natCast,BitVec.ofInt_natCast,BitVec.toNat_ofNat,BitVec.toNat_ofNat,Nat.mod_eq_of_lt hr,Nat.mod_eq_of_lt (by omega)]
 rw [e1,show uH.wrap ((M - 1:Nat):Int)=((M - 1:Nat):Int) by rw [Zb3,Nat.mod_eq_of_lt (by omega)],e2,Zb3,Nat.mod_eq_of_lt (by omega),wI2]
theorem Zcy {a b M i:Nat} {d:Array Int} {r:UInt64} {R:T2} (h8:8<=b - a) (hb:b<=d.size) (hd:d.size<200) (ha:a<=i) (hi:i<=a+(b - a) / 4*2+1) (hM:M=1 <<< Go.Sort.bitsLen (b - a))
  (h:Ev (fun k=>Q105.l0 k (a:Int) (b:Int) (M:Int) (Go.Sort.breakStep a (b - a) M (r,d) i).2.toList ((Go.Sort.breakStep a (b - a) M (r,d) i).1.toNat:Int) ((i+1:Nat):Int)) R) :
  Ev (fun k=>Q105.l0 k (a:Int) (b:Int) (M:Int) d.toList (r.toNat:Int) (i:Int)) R:=by
 have e1:w64 ((b:Int) - (a:Int))=((b - a:Nat):Int):=wn (by omega) (by omega);have e2:w64 (Int.tdiv ((b - a:Nat):Int) 4)=(((b - a) / 4:Nat):Int):=by
  rw [show Int.tdiv ((b - a:Nat):Int) 4=(((b - a) / 4:Nat):Int) from rfl,wI2]
 have e3:w64 ((((b - a) / 4:Nat):Int)*2)=(((b - a) / 4*2:Nat):Int):=wn (by omega) (by omega);have e4:w64 ((a:Int)+(((b - a) / 4*2:Nat):Int))=((a+(b - a) / 4*2:Nat):Int):=wn (by omega) (by omega);have e5:w64 (((a+(b - a) / 4*2:Nat):Int)+1)=((a+(b - a) / 4*2+1:Nat):Int):=wn (by omega) (by omega);have e6:w64 ((i:Int)+1)=((i+1:Nat):Int):=wn (by omega) (by omega);have hp:=Go.Sort.two_pow_bitsLen_le (n:=b - a) (by omega);have hq:1<=2 ^ Go.Sort.bitsLen (b - a):=Nat.two_pow_pos _;rw [Nat.one_shiftLeft] at hM;rw [<- hM] at hp hq;have eb:Go.Sort.breakStep a (b - a) M (r,d) i=(Go.Sort.xorNext r,Go.Sort.swp d i (a+if (Go.Sort.xorNext r).toNat &&& (M - 1)>=b - a then ((Go.Sort.xorNext r).toNat &&& (M - 1)) - (b - a) else (Go.Sort.xorNext r).toNat &&& (M - 1))):=rfl
 rw [eb] at h;have hle:(Go.Sort.xorNext r).toNat &&& (M - 1)<=M - 1:=Nat.and_le_right;have hand:=Zsg (r:=Go.Sort.xorNext r) (M:=M) hq (by omega);refine h.step fun k hk=>?_;rw [Q105.l0,e1,e2,e3,e4,e5,iP,Zrp,bS];dsimp only;rw [hand];generalize (Go.Sort.xorNext r).toNat &&& (M - 1)=o at *;by_cases c:o>=b - a
 ·have e7:w64 ((o:Int) - ((b - a:Nat):Int))=((o - (b - a):Nat):Int):=wn (by omega) (by omega);have e8:w64 ((a:Int)+((o - (b - a):Nat):Int))=((a+(o - (b - a)):Nat):Int):=wn (by omega) (by omega);rw [iT c] at hk;rw [iP,e7,e8,iV,iV,gta,gta,tN,tN,Wt,e6];exact hk
 ·have e8:w64 ((a:Int)+(o:Int))=((a+o:Nat):Int):=wn (by omega) (by omega);rw [iF c] at hk;rw [iN,e8,iV,iV,gta,gta,tN,tN,Wt,e6];exact hk
theorem Zeq (a L M i:Nat) (st:UInt64×Array Int):(Go.Sort.breakStep a L M st i).2.size=st.2.size:=by
 unfold Go.Sort.breakStep;exact Ys _ _ _
theorem Zqr {a b:Nat} {d:Array Int} (hab:a<=b) (hb:b<=d.size) (hd:d.size<200):Ev (fun k=>Q105.f k d.toList (a:Int) (b:Int)) (Go.Sort.breakPatterns d a b).toList:=by
 have e1:w64 ((b:Int) - (a:Int))=((b - a:Nat):Int):=wn (by omega) (by omega);by_cases h8:b - a>=8
 ·have e2:w64 (Int.tdiv ((b - a:Nat):Int) 4)=(((b - a) / 4:Nat):Int):=by
   rw [show Int.tdiv ((b - a:Nat):Int) 4=(((b - a) / 4:Nat):Int) from rfl,wI2]
  have e3:w64 ((((b - a) / 4:Nat):Int)*2)=(((b - a) / 4*2:Nat):Int):=wn (by omega) (by omega);have e4:w64 ((a:Int)+(((b - a) / 4*2:Nat):Int))=((a+(b - a) / 4*2:Nat):Int):=wn (by omega) (by omega);have e5:w64 (((a+(b - a) / 4*2:Nat):Int) - 1)=((a+(b - a) / 4*2 - 1:Nat):Int):=wn (by omega) (by omega);have e6:w64 (((a+(b - a) / 4*2:Nat):Int)+1)=((a+(b - a) / 4*2+1:Nat):Int):=wn (by omega) (by omega);have hx:uH.wrap ((b - a:Nat):Int)=((UInt64.ofNat (b - a)).toNat:Int):=by
   rw [Zb3];have:(UInt64.ofNat (b - a)).toNat=(b - a) % 18446744073709551616:=by simp
   rw [this]
  have fin:∀(d':Array Int) (x:Int),Ev (fun k=>Q105.l0 k (a:Int) (b:Int) ((1 <<< Go.Sort.bitsLen (b - a):Nat):Int) d'.toList x ((a+(b - a) / 4*2 - 1+1+1+1:Nat):Int)) d'.toList:=fun d' x=>Ev.last fun k=>by
   rw [Q105.l0,e1,e2,e3,e4,e6,iN]
  have main:Ev (fun k=>Q105.l0 k (a:Int) (b:Int) ((1 <<< Go.Sort.bitsLen (b - a):Nat):Int) d.toList ((UInt64.ofNat (b - a)).toNat:Int) ((a+(b - a) / 4*2 - 1:Nat):Int)) (Go.Sort.breakPatterns d a b).toList:=by
   unfold Go.Sort.breakPatterns;rw [iT h8];refine Zcy h8 hb hd (by omega) (by omega) rfl (Zcy h8 ?_ ?_ (by omega) (by omega) rfl (Zcy h8 ?_ ?_ (by omega) (by omega) rfl (fin _ _)))
   all_goals simp only [Zeq]
   all_goals first | exact hb | exact hd
  refine main.next fun k hk=>?_;unfold Q105.f;rw [e1,iP,Zqt ⟨b - a,by omega⟩,bS,hx,e2,e3,e4,e5];exact hk
 ·refine Ev.all fun k=>?_;unfold Q105.f Go.Sort.breakPatterns;rw [e1,iN,iF h8]
def Zoa (k:Nat) (a b lim m:Int) (ap:Bool) (d:T2):Option T2:=if (decide ((w64 (m - a))<(w64 (b - m))))=true then ((Q116.f k d a m lim).bind fun r10=>(Q116.l0 k r10 (w64 (m+1)) b lim (decide ((w64 (Int.tdiv (w64 (b - a)) 8))<=(w64 (m - a)))) ap)) else ((Q116.f k d (w64 (m+1)) b lim).bind fun r11=>(Q116.l0 k r11 a m lim (decide ((w64 (Int.tdiv (w64 (b - a)) 8))<=(w64 (b - m)))) ap))
theorem Zd3 (k:Nat) (x1:T2) (x2 x3 x4:Int) (x5 x6:Bool):Q116.l0 (k+1) x1 x2 x3 x4 x5 x6=if (decide ((w64 (x3 - x2))<=12))=true then ((Q108.f k x1 x2 x3).bind fun r1=>(some r1)) else (if (decide (x4=0))=true then ((Q107.f k x1 x2 x3).bind fun r2=>(some r2)) else (if (!x5)=true then ((Q105.f k x1 x2 x3).bind fun r3=>Q116.l1 k x2 x3 x5 x6 r3 (w64 (x4 - 1))) else Q116.l1 k x2 x3 x5 x6 x1 x4)):=by
 rw [Q116.l0]
section
variable {a b p lim:Nat} {d:Array Int} {wb wp:Bool} {r:T2}
theorem Zq0 (h1:1<=a) (hab:a<b) (hp:p<d.size) (hb:b<=d.size) (hd:d.size<200) (hq:ltI d[a - 1]! d[p]! = false)
  (h:Ev (fun k=>Q116.l0 k (Go.Sort.partitionEqual ltI d a b p).2.toList ((Go.Sort.partitionEqual ltI d a b p).1:Int) (b:Int) (lim:Int) wb wp) r) :
  Ev (fun k=>Q116.l4 k (a:Int) (b:Int) wb wp (lim:Int) (p:Int) d.toList) r:=by
 have h5:Ev (fun k=>Q116.l5 k (a:Int) (b:Int) wb wp (lim:Int) (p:Int) d.toList true) r:=(Zp3 hab hp hb (by omega)).step2 h fun k h1' h2=>by
  rw [Q116.l5,iT rfl,h1',bS];exact h2
 refine h5.step fun k hk=>?_;rw [Q116.l4,iP,wn (x:=(a:Int) - 1) (n:=a - 1) (by omega) (by omega),iV,iV,gta,gta,Xi,bS,hq];exact hk
theorem Zrf (hab:a<b) (hp:p<d.size) (hb:b<=d.size) (hd:d.size<200) (hq:(decide (a>0) && !ltI d[a - 1]! d[p]!)=false)
  (h:Ev (fun k=>Zoa k (a:Int) (b:Int) (lim:Int) ((Go.Sort.partition ltI d a b p).1:Int) (Go.Sort.partition ltI d a b p).2.1 (Go.Sort.partition ltI d a b p).2.2.toList) r) :
  Ev (fun k=>Q116.l4 k (a:Int) (b:Int) wb wp (lim:Int) (p:Int) d.toList) r:=by
 have h5:Ev (fun k=>Q116.l5 k (a:Int) (b:Int) wb wp (lim:Int) (p:Int) d.toList false) r:=(Zrs hab hp hb (by omega)).step2 h fun k h1' h2=>by
  rw [Q116.l5,vS,h1',bS];exact h2
 refine h5.step fun k hk=>?_;by_cases c:0<a
 ·have hq':ltI d[a - 1]! d[p]! = true:=by simpa [c] using hq
  rw [Q116.l4,iP,wn (x:=(a:Int) - 1) (n:=a - 1) (by omega) (by omega),iV,iV,gta,gta,Xi,bS,hq'];exact hk
 ·rw [Q116.l4,iN];exact hk
theorem Zra (hab:a<b) (hb:b<=d.size) (hd:d.size<200) (h1:(Go.Sort.partialInsertionSort ltI d a b).2=true->(Go.Sort.partialInsertionSort ltI d a b).1.toList=r)
  (h2:(Go.Sort.partialInsertionSort ltI d a b).2=false->Ev (fun k=>Q116.l4 k (a:Int) (b:Int) wb wp (lim:Int) (p:Int) (Go.Sort.partialInsertionSort ltI d a b).1.toList) r):Ev (fun k=>Q116.l3 k (a:Int) (b:Int) wb wp (lim:Int) d.toList (p:Int) true) r:=by
 have h0:=Zrv hab hb (by omega);cases c:(Go.Sort.partialInsertionSort ltI d a b).2 with
 | true=>
  refine h0.step fun k hk=>?_;rw [Q116.l3,iT rfl,hk,bS,Jy,c,iT rfl,h1 c]
 | false=>
  refine h0.step2 (h2 c) fun k hk hk2=>?_;rw [Q116.l3,iT rfl,hk,bS,Jy,c,vS];exact hk2
end
def piP (k:Nat) (s:Go.Sort.Rd Int) (a b:Nat) (wb wp:Bool):Option T2:=if s.pi.2=true then some s.pi.1.toList else Q116.l4 k (a:Int) (b:Int) wb wp (s.lim:Int) (s.pivot:Int) s.pi.1.toList
theorem Zoi {h:Go.Sort.Hint}:decide (Zdo h=2)=decide (h=.decreasing):=by cases h <;> rfl
theorem Zr3 {h:Go.Sort.Hint}:decide (Zdo h=1)=decide (h=.increasing):=by cases h <;> rfl
section
variable {a b limit:Nat} {d:Array Int} {wb wp:Bool} {r:T2}
theorem Zqn {s:Go.Sort.Rd Int} {e:Array Int} (hab:a<b) (hb:b<=e.size) (hd:e.size<200) (he:s.pi=Go.Sort.partialInsertionSort ltI e a b) (h:Ev (fun k=>piP k s a b wb wp) r) :
  Ev (fun k=>Q116.l3 k (a:Int) (b:Int) wb wp (s.lim:Int) e.toList (s.pivot:Int) true) r:=by
 refine Zra hab hb hd (fun c=>?_) fun c=>?_
 ·obtain ⟨k,h⟩:=h.ok;unfold piP at h;rw [he,c,iT rfl] at h;exact Option.some.inj h
 ·refine h.next fun k hk=>?_;unfold piP at hk;rw [he,c,vS] at hk;exact hk
theorem Zh7 {s:Go.Sort.Rd Int} {e:Array Int} (he:s.pi=(e,false)) (h:Ev (fun k=>piP k s a b wb wp) r) :
  Ev (fun k=>Q116.l3 k (a:Int) (b:Int) wb wp (s.lim:Int) e.toList (s.pivot:Int) false) r:=by
 refine h.step fun k hk=>?_;unfold piP at hk;rw [he,vS] at hk;rw [Q116.l3,vS];exact hk
theorem Zrg {s:Go.Sort.Rd Int} (h12:12<b - a) (hb:b<=s.d1.size) (hd:s.d1.size<200) (ec:s.c=Go.Sort.choosePivot ltI s.d1 a b) (hc:a<=s.c.1/\s.c.1<b)
  (e2:s.d2=if s.c.2=.decreasing then Go.Sort.reverseRange s.d1 a b else s.d1) (s2:s.d2.size=s.d1.size) (ep:s.pivot=if s.c.2=.decreasing then (b - 1) - (s.c.1 - a) else s.c.1) (eh:s.hint=if s.c.2=.decreasing then Go.Sort.Hint.increasing else s.c.2)
  (ei:s.pi=if wb && wp && s.hint=.increasing then Go.Sort.partialInsertionSort ltI s.d2 a b else (s.d2,false)) (h:Ev (fun k=>piP k s a b wb wp) r) :
  Ev (fun k=>Q116.l1 k (a:Int) (b:Int) wb wp s.d1.toList (s.lim:Int)) r:=by
 have hpv:=Zrc (d:=s.d1) (a:=a) (b:=b) (by omega) hb h12 (by omega);rw [<- ec] at hpv;have fin:∀ hI:Int,decide (hI=1)=decide (s.hint=.increasing)->Ev (fun k=>Q116.l2 k (a:Int) (b:Int) wb wp (s.lim:Int) s.d2.toList (s.pivot:Int) hI) r:=fun hI hh=>by
  cases wb with
  | false=>exact (Zh7 (by simpa using ei) h).step fun k hk=>by rw [Q116.l2,vS]; exact hk
  | true=>
   cases wp with
   | false=>exact (Zh7 (by simpa using ei) h).step fun k hk=>by rw [Q116.l2,iT rfl,vS]; exact hk
   | true=>
    by_cases q:s.hint=.increasing
    ·exact (Zqn (e:=s.d2) (by omega) (by omega) (by omega) (by simpa [q] using ei) h).step fun k hk=>by rw [Q116.l2,iT rfl,iT rfl,hh,dT q]; exact hk
    ·exact (Zh7 (by simpa [q] using ei) h).step fun k hk=>by rw [Q116.l2,iT rfl,iT rfl,hh,dF q]; exact hk
 by_cases c:s.c.2=.decreasing
 ·rw [iT c] at e2 ep eh;have e3:w64 ((b:Int) - 1)=((b - 1:Nat):Int):=wn (by omega) (by omega);have e4:w64 ((s.c.1:Int) - (a:Int))=((s.c.1 - a:Nat):Int):=wn (by omega) (by omega);have e5:w64 (((b - 1:Nat):Int) - ((s.c.1 - a:Nat):Int))=(s.pivot:Int):=wn (by omega) (by omega);have hr:=Zsn (a:=a) (b:=b) (d:=s.d1) (by omega) (by omega) hb (by omega);rw [<- e2] at hr;refine hr.step2 (fin 1 (by rw [eh]; rfl)) fun k h1 h2=>?_;rw [Q116.l1,hpv,bS];dsimp only;rw [Zoi,iT (dT c),h1,bS,e3,e4,e5];exact h2
 ·rw [iF c] at e2 ep eh;refine (fin (Zdo s.c.2) (by rw [eh]; exact Zr3)).step fun k h2=>?_;rw [Q116.l1,hpv,bS];dsimp only;rw [Zoi,iF (by simpa using c)];rw [e2,ep] at h2;exact h2
theorem Zm0 (h12:12<b - a) (hb:b<=d.size) (hd:d.size<200) (hl:limit≠0) (hlim:limit<=100) (hB:Go.Sort.Below ltI a b d) (h:Ev (fun k=>piP k (Go.Sort.rd ltI d a b limit wb wp) a b wb wp) r) :
  Ev (fun k=>Q116.l0 k d.toList (a:Int) (b:Int) (limit:Int) wb wp) r:=by
 obtain ⟨f1,f2,f3,f4,f5,f6,f7,f8⟩:=Go.Sort.rd_facts (lt:=ltI) (wb:=wb) (wp:=wp) (limit:=limit) Go.Sort.swo_ltInt Go.Sort.partialInsertionSort_holds Go.Sort.reverseRange_holds (by omega) hb hB;have hm:=Zrg (s:=Go.Sort.rd ltI d a b limit wb wp) (wb:=wb) (wp:=wp) (r:=r) h12 (by rw [f1]; exact hb) (by rw [f1]; exact hd) rfl f3 rfl (by rw [f4,f1]) rfl rfl rfl h;have e1:w64 ((b:Int) - (a:Int))=((b - a:Nat):Int):=wn (by omega) (by omega);cases wb with
 | true=>
  refine hm.step fun k hk=>?_;rw [Zd3,e1,iN,iN,vS];exact hk
 | false=>
  refine (Zqr (a:=a) (b:=b) (d:=d) (by omega) hb hd).step2 hm fun k h1 hk=>?_;rw [Zd3,e1,iN,iN,iU,h1,bS,wn (x:=(limit:Int) - 1) (n:=limit - 1) (by omega) (by omega)];exact hk
end
theorem Zsi:∀(m:Nat) (d:Array Int) (a b limit:Nat) (wb wp:Bool),b - a<=m->a<=b->b<=d.size->d.size<200->limit<=100->Go.Sort.Below ltI a b d->
  Ev (fun k=>Q116.l0 k d.toList (a:Int) (b:Int) (limit:Int) wb wp) (Go.Sort.pdq ltI d a b limit wb wp).toList:=by
 intro m
 induction m using Nat.strongRecOn with
 | _ m ih=>
 intro d a b limit wb wp hm hab hb hd hlim hB;have e1:w64 ((b:Int) - (a:Int))=((b - a:Nat):Int):=wn (by omega) (by omega);by_cases h12:b - a<=12
 ·rw [Go.Sort.pdq_small h12];refine (Zpf (a:=a) (b:=b) (d:=d) hb (by omega) (by omega)).step fun k hk=>?_;rw [Zd3,e1,iP,hk,bS]
 by_cases h0:limit=0
 ·rw [Go.Sort.pdq_heap h12 h0];refine (Zsd (a:=a) (b:=b) (d:=d) hab hb (by omega)).step fun k hk=>?_;rw [Zd3,e1,iN,iP,hk,bS]
 refine Zm0 (by omega) hb hd h0 hlim hB ?_;obtain ⟨f1,f2,f3,f4,f5,f6,f7,f8⟩:=Go.Sort.rd_facts (lt:=ltI) (wb:=wb) (wp:=wp) (limit:=limit) Go.Sort.swo_ltInt Go.Sort.partialInsertionSort_holds Go.Sort.reverseRange_holds (by omega) hb hB;have hlm:(Go.Sort.rd ltI d a b limit wb wp).lim<=limit:=Go.Sort.rd_lim_le;cases hpi:(Go.Sort.rd ltI d a b limit wb wp).pi.2 with
 | true=>
  rw [Go.Sort.pdq_done h12 h0 hpi];exact Ev.all fun k=>by unfold piP; rw [iT hpi]
 | false=>
 have red:∀ {r:T2},Ev (fun k=>Q116.l4 k (a:Int) (b:Int) wb wp ((Go.Sort.rd ltI d a b limit wb wp).lim:Int) ((Go.Sort.rd ltI d a b limit wb wp).pivot:Int) (Go.Sort.rd ltI d a b limit wb wp).pi.1.toList) r->Ev (fun k=>piP k (Go.Sort.rd ltI d a b limit wb wp) a b wb wp) r:=fun h=>h.next fun k hk=>by
  unfold piP;rw [hpi,vS];exact hk
 have hsz:b<=(Go.Sort.rd ltI d a b limit wb wp).pi.1.size:=by rw [f7]; exact hb
 cases hq:(decide (a>0) && !ltI (Go.Sort.rd ltI d a b limit wb wp).pi.1[a - 1]! (Go.Sort.rd ltI d a b limit wb wp).pi.1[(Go.Sort.rd ltI d a b limit wb wp).pivot]!) with
 | true=>
  have hq':=hq;simp only [Bool.and_eq_true,dE,Bool.not_eq_true'] at hq';obtain ⟨g1,g2,g3,g4,g5⟩:=Go.Sort.round_eq (lt:=ltI) Go.Sort.swo_ltInt (Go.Sort.partitionEqual_holds ltI) hq'.1 f6.1 f6.2 hsz f8 hq'.2 (mid:=(Go.Sort.partitionEqual ltI (Go.Sort.rd ltI d a b limit wb wp).pi.1 a b (Go.Sort.rd ltI d a b limit wb wp).pivot).1) (d4:=(Go.Sort.partitionEqual ltI (Go.Sort.rd ltI d a b limit wb wp).pi.1 a b (Go.Sort.rd ltI d a b limit wb wp).pivot).2) rfl;rw [Go.Sort.pdq_eq h12 h0 hpi hq ⟨g1,g2⟩];refine red (Zq0 (by omega) (by omega) (by omega) hsz (by omega) hq'.2 ?_);exact ih (b - (Go.Sort.partitionEqual ltI (Go.Sort.rd ltI d a b limit wb wp).pi.1 a b (Go.Sort.rd ltI d a b limit wb wp).pivot).1) (by omega) _ _ _ _ _ _ (Nat.le_refl _) g2 (by rw [g3]; exact hsz) (by omega) (by omega) g4
 | false=>
  obtain ⟨g1,g2,g3,g4,g5,g6,g7⟩:=Go.Sort.round_part (lt:=ltI) Go.Sort.swo_ltInt (Go.Sort.partition_holds ltI) f6.1 f6.2 hsz f8 (mid:=(Go.Sort.partition ltI (Go.Sort.rd ltI d a b limit wb wp).pi.1 a b (Go.Sort.rd ltI d a b limit wb wp).pivot).1) (ap:=(Go.Sort.partition ltI (Go.Sort.rd ltI d a b limit wb wp).pi.1 a b (Go.Sort.rd ltI d a b limit wb wp).pivot).2.1) (d4:=(Go.Sort.partition ltI (Go.Sort.rd ltI d a b limit wb wp).pi.1 a b (Go.Sort.rd ltI d a b limit wb wp).pivot).2.2) rfl;refine red (Zrf (by omega) (by omega) hsz (by omega) hq ?_);have e2:∀ x:Nat,x=b - a->w64 (Int.tdiv (x:Int) 8)=(((b - a) / 8:Nat):Int):=fun x hx=>by
   rw [hx,show Int.tdiv ((b - a:Nat):Int) 8=(((b - a) / 8:Nat):Int) from rfl,wI2]
  by_cases hlt:(Go.Sort.partition ltI (Go.Sort.rd ltI d a b limit wb wp).pi.1 a b (Go.Sort.rd ltI d a b limit wb wp).pivot).1 - a<b - (Go.Sort.partition ltI (Go.Sort.rd ltI d a b limit wb wp).pi.1 a b (Go.Sort.rd ltI d a b limit wb wp).pivot).1
  ·rw [Go.Sort.pdq_left h12 h0 hpi hq ⟨g1,g2⟩ hlt];generalize Go.Sort.partition ltI (Go.Sort.rd ltI d a b limit wb wp).pi.1 a b (Go.Sort.rd ltI d a b limit wb wp).pivot=pt at *;have e3:w64 ((pt.1:Int) - (a:Int))=((pt.1 - a:Nat):Int):=wn (by omega) (by omega);have e4:w64 ((b:Int) - (pt.1:Int))=((b - pt.1:Nat):Int):=wn (by omega) (by omega);have e5:w64 ((pt.1:Int)+1)=((pt.1+1:Nat):Int):=wn (by omega) (by omega);have hs:=Go.Sort.pdq_sorts ltI Go.Sort.swo_ltInt pt.2.2 a pt.1 (Go.Sort.rd ltI d a b limit wb wp).lim true true g1 (by omega) g4;have c1:=(ih (pt.1 - a) (by omega) pt.2.2 a pt.1 (Go.Sort.rd ltI d a b limit wb wp).lim true true (Nat.le_refl _) g1 (by omega) (by omega) (by omega) g4).step (F:=fun k=>Q116.f k pt.2.2.toList (a:Int) (pt.1:Int) ((Go.Sort.rd ltI d a b limit wb wp).lim:Int)) fun k hk=>by rw [Q116.f]; exact hk
   have c2:=ih (b - (pt.1+1)) (by omega) (Go.Sort.pdq ltI pt.2.2 a pt.1 (Go.Sort.rd ltI d a b limit wb wp).lim true true) (pt.1+1) b (Go.Sort.rd ltI d a b limit wb wp).lim (decide (pt.1 - a>=(b - a) / 8)) pt.2.1 (Nat.le_refl _) (by omega) (by rw [hs.1.1]; omega) (by rw [hs.1.1]; omega) (by omega) (g6 _ hs.1 hs.2).1;refine c1.next2 c2 fun k k1 k2=>?_;unfold Zoa;rw [e3,e4,e5,e1,e2 _ rfl,iP,k1,bS,show decide ((((b - a) / 8:Nat):Int)<=((pt.1 - a:Nat):Int))=decide (pt.1 - a>=(b - a) / 8) by congr 1; exact propext (by omega)];exact k2
  ·rw [Go.Sort.pdq_right h12 h0 hpi hq ⟨g1,g2⟩ hlt];generalize Go.Sort.partition ltI (Go.Sort.rd ltI d a b limit wb wp).pi.1 a b (Go.Sort.rd ltI d a b limit wb wp).pivot=pt at *;have e3:w64 ((pt.1:Int) - (a:Int))=((pt.1 - a:Nat):Int):=wn (by omega) (by omega);have e4:w64 ((b:Int) - (pt.1:Int))=((b - pt.1:Nat):Int):=wn (by omega) (by omega);have e5:w64 ((pt.1:Int)+1)=((pt.1+1:Nat):Int):=wn (by omega) (by omega);have hs:=Go.Sort.pdq_sorts ltI Go.Sort.swo_ltInt pt.2.2 (pt.1+1) b (Go.Sort.rd ltI d a b limit wb wp).lim true true (by omega) (by omega) g5;have c1:=(ih (b - (pt.1+1)) (by omega) pt.2.2 (pt.1+1) b (Go.Sort.rd ltI d a b limit wb wp).lim true true (Nat.le_refl _) (by omega) (by omega) (by omega) (by omega) g5).step (F:=fun k=>Q116.f k pt.2.2.toList ((pt.1+1:Nat):Int) (b:Int) ((Go.Sort.rd ltI d a b limit wb wp).lim:Int)) fun k hk=>by rw [Q116.f]; exact hk
   have c2:=ih (pt.1 - a) (by omega) (Go.Sort.pdq ltI pt.2.2 (pt.1+1) b (Go.Sort.rd ltI d a b limit wb wp).lim true true) a pt.1 (Go.Sort.rd ltI d a b limit wb wp).lim (decide (b - pt.1>=(b - a) / 8)) pt.2.1 (Nat.le_refl _) (by omega) (by rw [hs.1.1]; omega) (by rw [hs.1.1]; omega) (by omega) (g7 _ hs.1 hs.2).1;refine c1.next2 c2 fun k k1 k2=>?_;unfold Zoa;rw [e3,e4,e5,e1,e2 _ rfl,iN,k1,bS,show decide ((((b - a) / 8:Nat):Int)<=((b - pt.1:Nat):Int))=decide (b - pt.1>=(b - a) / 8) by congr 1; exact propext (by omega)];exact k2
theorem Zp4 {n:Nat} (h:n<200):Q0.f (uH.wrap (n:Int))=some ((Go.Sort.bitsLen n:Nat):Int):=by
 unfold Q0.f;rw [Zb3,Nat.mod_eq_of_lt (by omega),Zrr ⟨n,h⟩,bS]
theorem Zro {l:T2} (h:l.length<200):Ev (fun k=>Q104.f k l) (l.mergeSort fun x y=>decide (x<=y)):=by
 have e:=Go.Sort.sortInt l;have hb:Go.Sort.bitsLen l.length<=100:=(Go.Sort.bitsLen_le_iff _ _).2 (Nat.lt_of_lt_of_le h (by decide));have hp:=Zsi l.length l.toArray 0 l.toArray.size (Go.Sort.bitsLen l.toArray.size) true true (by simp) (Nat.zero_le _) (Nat.le_refl _) (by simpa using h) (by simpa using hb) (Or.inl rfl);have e2:(Go.Sort.pdq ltI l.toArray 0 l.toArray.size (Go.Sort.bitsLen l.toArray.size) true true).toList=l.mergeSort fun x y=>decide (x<=y):=e;rw [e2] at hp;have hf:Ev (fun k=>Q116.f k l 0 (l.length:Int) ((Go.Sort.bitsLen l.length:Nat):Int)) (l.mergeSort fun x y=>decide (x<=y)):=hp.step fun k hk=>by
  rw [Q116.f];simpa using hk
 refine hf.next fun k hk=>?_;unfold Q104.f;rw [Zp4 h,bS,hk,bS]
theorem Zno {α:Type} {xs ys:List α} {l m:Nat} (h:l+m<=xs.length):(patch xs l m ys).length=xs.length:=by
 unfold patch;simp only [lA,length_take,length_drop];omega
theorem Zeb {n i:Nat} (hn:n<=1000) (hi:1<=i):∀(m t j:Nat) (x:T2),x.length=n->i+t+m=n->1<=t->i<=j->j+1<=i+t->∃ r,Ev (fun k=>Q92.l1 k (i:Int) x (j:Int) (t:Int)) r/\r.length<n
 | 0,t,j,x,hx,h,ht,hj,hjt=>by
  have hd:(x.drop j).length=n - j:=by rw [length_drop,hx]
  have hp:(patch x j (x.drop j).length (List.replicate (x.drop j).length (0:Int))).length=n:=by rw [Zno (by omega),hx]
  refine ⟨(patch x j (x.drop j).length (List.replicate (x.drop j).length (0:Int))).take j,Ev.last fun k=>?_,by rw [length_take]; omega⟩;rw [Q92.l1,iF (by simp only [tN,length_drop,dE]; omega),iO,tN,iO]
 | m+1,t,j,x,hx,h,ht,hj,hjt=>by
  have e1:w64 ((t:Int) - 1)=((t - 1:Nat):Int):=wn (by omega) (by omega);have e2:w64 ((t:Int)+1)=((t+1:Nat):Int):=wn (by omega) (by omega);have e3:w64 ((j:Int)+1)=((j+1:Nat):Int):=wn (by omega) (by omega);have hd:(x.drop i).length=n - i:=by rw [length_drop,hx]
  by_cases q:gt (x.drop i) (t:Int)=gt (x.drop i) ((t - 1:Nat):Int)
  ·obtain ⟨r,h1,h2⟩:=Zeb hn hi m (t+1) j x hx (by omega) (by omega) hj (by omega);refine ⟨r,h1.step fun k hk=>?_,h2⟩;rw [Q92.l1,tN,iP,iO,e1,iO,iF (by simp [q]),e2];exact hk
  ·obtain ⟨r,h1,h2⟩:=Zeb hn hi m (t+1) (j+1) (x.set j (gt (x.drop i) (t:Int))) (by rw [length_set,hx]) (by omega) (by omega) (by omega) (by omega);refine ⟨r,h1.step fun k hk=>?_,h2⟩;rw [Q92.l1,tN,iP,iO,e1,iO,iT (by simp [q]),iO,tN,e2,e3];exact hk
def Zn3 (l:T2):Prop:=∀ q,q+1<l.length->l.getD (q+1) 0≠l.getD q 0
theorem Zju {l:T2} (hn:l.length<=1000):∀(m i:Nat),i+m=l.length->1<=i->(∀ q,q+1<i->l.getD (q+1) 0≠l.getD q 0)->∃ r,Ev (fun k=>Q92.l0 k l (i:Int)) r/\(r.length=l.length↔Zn3 l)
 | 0,i,h,hi,hq=>by
  refine ⟨l,Ev.last fun k=>?_,fun _ q hq'=>hq q (by omega),fun _=>rfl⟩;rw [Q92.l0,iN]
 | m+1,i,h,hi,hq=>by
  have e1:w64 ((i:Int) - 1)=((i - 1:Nat):Int):=wn (by omega) (by omega);have e2:w64 ((i:Int)+1)=((i+1:Nat):Int):=wn (by omega) (by omega);have g1:gt l (i:Int)=l.getD i 0:=Zv l i;have g2:gt l ((i - 1:Nat):Int)=l.getD (i - 1) 0:=Zv l (i - 1);by_cases c:l.getD i 0=l.getD (i - 1) 0
  ·obtain ⟨r,h1,h2⟩:=Zeb hn hi (l.length - i - 1) 1 i l rfl (by omega) (Nat.le_refl _) (Nat.le_refl _) (Nat.le_refl _);refine ⟨r,h1.step fun k hk=>?_,fun e=>by omega,fun e=>absurd c (by have:=e (i - 1) (by omega); rwa [Nat.sub_add_cancel hi] at this)⟩;rw [Q92.l0,iP,iO,e1,iO,g1,g2,iT (dT c),iO];exact hk
  ·obtain ⟨r,h1,h2⟩:=Zju hn m (i+1) (by omega) (by omega) fun q hq'=>by
    by_cases e:q+1=i
    ·rw [e,show q=i - 1 by omega]; exact c
    ·exact hq q (by omega)
   refine ⟨r,h1.step fun k hk=>?_,h2⟩;rw [Q92.l0,iP,iO,e1,iO,g1,g2,iF (by simpa using c),e2];exact hk
theorem Zod {l:T2} (hn:l.length<=1000):∃ r,Ev (fun k=>Q92.f k l) r/\(r.length=l.length↔Zn3 l):=by
 by_cases h:l.length<2
 ·refine ⟨l,Ev.all fun k=>?_,fun _ q hq=>by omega,fun _=>rfl⟩;unfold Q92.f;rw [iP]
 ·obtain ⟨r,h1,h2⟩:=Zju hn (l.length - 1) 1 (by omega) (Nat.le_refl _) (fun q hq=>by omega);refine ⟨r,h1.next fun k hk=>?_,h2⟩;unfold Q92.f;rw [iN];exact hk
theorem Zll {l:T2} (hs:l.Pairwise (fun x y=>x<=y)):Zn3 l↔l.Nodup:=by
 constructor
 ·intro h;rw [List.Nodup,List.pairwise_iff_getElem];intro i j hi hj hij e;have h1:=h i (by omega);rw [List.getD_eq_getElem?_getD,List.getD_eq_getElem?_getD,List.getElem?_eq_getElem (by omega),List.getElem?_eq_getElem hi] at h1;simp only [Option.getD_some] at h1;have a:=List.pairwise_iff_getElem.1 hs i (i+1) hi (by omega) (by omega);by_cases e1:i+1=j
  ·subst e1; exact h1 e.symm
  ·have b:=List.pairwise_iff_getElem.1 hs (i+1) j (by omega) hj (by omega);omega
 ·intro h q hq e;rw [List.getD_eq_getElem?_getD,List.getD_eq_getElem?_getD,List.getElem?_eq_getElem hq,List.getElem?_eq_getElem (by omega)] at e;exact (List.pairwise_iff_getElem.1 h q (q+1) (by omega) hq (by omega)) e.symm
theorem kids_all {c:Cfg} {l:T2}:(List.range' 0 l.length).all (Zal c l)=true↔(∀ x∈l,x≠0/\¬ c.1<=w64 x)/\l.Nodup:=by
 have gd:∀ i (h:i<l.length),l.getD i 0=l[i]:=fun i h=>by rw [List.getD_eq_getElem?_getD,List.getElem?_eq_getElem h]; rfl
 rw [List.all_eq_true];constructor
 ·intro h;refine ⟨fun x hx=>?_,?_⟩
  ·obtain ⟨i,hi,rfl⟩:=List.mem_iff_getElem.1 hx;have:=h i (by simp [hi]);simp only [Zal,gd i hi,Bool.and_eq_true,Bool.not_eq_true',decide_eq_false_iff_not] at this;exact ⟨this.1,this.2.1⟩
  ·rw [List.Nodup,List.pairwise_iff_getElem];intro i j hi hj hij e;have:=h j (by simp [hj]);simp only [Zal,Bool.and_eq_true,List.all_eq_true] at this;have:=this.2.2 i (by simp [hij]);simp only [neB,gd i hi,gd j hj,Bool.not_eq_true',decide_eq_false_iff_not] at this;exact this e
 ·rintro ⟨h1,h2⟩ i hi;have hi:i<l.length:=by simpa using hi
  simp only [Zal,gd i hi,Bool.and_eq_true,Bool.not_eq_true',decide_eq_false_iff_not,List.all_eq_true];refine ⟨(h1 _ (List.getElem_mem hi)).1,(h1 _ (List.getElem_mem hi)).2,fun q hq=>?_⟩;have hq:q<i:=by simpa using hq
  simp only [neB,gd i hi,gd q (by omega),Bool.not_eq_true',decide_eq_false_iff_not];exact List.pairwise_iff_getElem.1 h2 q i (by omega) hi hq
def Zb0 (c:Cfg) (l:T2):Bool:=decide (1<=l.length) && (decide ((l.length:Int)<=c.2.2.2.1) && (List.range' 0 l.length).all (Zal c l))
theorem Zr1 {c:Cfg} {l:T2} (h80:l.length<=80) (hl:∀ x∈l,0<=x/\x<4294967296):Ev (fun k=>Q70.f k c l) (Zb0 c l):=by
 have hclone:Q91.f l=some l:=by
  unfold Q91.f;rw [iV]; rfl
 obtain ⟨S,hS⟩:∃ S,S=l.mergeSort fun x y=>decide (x<=y):=⟨_,rfl⟩;have hperm:S.Perm l:=hS ▸ List.mergeSort_perm _ _;have hlen:S.length=l.length:=hperm.length_eq;have hsort:S.Pairwise (fun x y=>x<=y):=by
  have:=List.pairwise_mergeSort (le:=fun x y:Int=>decide (x<=y)) (fun a b c h1 h2=>by simp only [dE] at *; omega) (fun a b=>by simp only [Bool.or_eq_true,dE]; omega) l;rw [<- hS] at this;exact this.imp fun h=>of_decide_eq_true h
 have hs:=Zro (l:=l) (by omega);rw [<- hS] at hs;obtain ⟨r,hr1,hr2⟩:=Zod (l:=S) (by omega);refine hs.next2 hr1 fun k k1 k2=>?_;unfold Q70.f;rw [hclone,bS,k1,bS];by_cases c1:l.length<1
 ·rw [iP];simp [Zb0,show ¬ 1<=l.length by omega]
 rw [iN];by_cases c2:c.2.2.2.1<(l.length:Int)
 ·rw [iT (dT c2)];simp [Zb0,show ¬ (l.length:Int)<=c.2.2.2.1 by omega]
 rw [iF (by simpa using c2),iO,wn (x:=(l.length:Int) - 1) (n:=l.length - 1) (by omega) (by omega)];have g0:gt S 0=S[0]'(by omega):=by
  rw [show (0:Int)=((0:Nat):Int) from rfl,Zv,List.getD_eq_getElem?_getD,List.getElem?_eq_getElem (by omega)]; rfl
 have g1:gt S ((l.length - 1:Nat):Int)=S[l.length - 1]'(by omega):=by
  rw [Zv,List.getD_eq_getElem?_getD,List.getElem?_eq_getElem (by omega)]; rfl
 have m0:S[0]'(by omega)∈l:=hperm.mem_iff.1 (List.getElem_mem _);have m1:S[l.length - 1]'(by omega)∈l:=hperm.mem_iff.1 (List.getElem_mem _);rw [g0,g1];have base:Zb0 c l=(List.range' 0 l.length).all (Zal c l):=by
  unfold Zb0;rw [dT (show 1<=l.length by omega),dT (show (l.length:Int)<=c.2.2.2.1 by omega)]; rfl
 rw [base];by_cases c3:S[0]'(by omega)=0
 ·rw [iT (dT c3)];refine congrArg some (Bool.eq_false_iff.2 fun e=>?_).symm;exact ((kids_all.1 e).1 _ m0).1 c3
 rw [iF (by simpa using c3),iO];by_cases c4:c.1<=w64 (S[l.length - 1]'(by omega))
 ·rw [iT (dT c4)];refine congrArg some (Bool.eq_false_iff.2 fun e=>?_).symm;exact ((kids_all.1 e).1 _ m1).2 c4
 rw [iF (by simpa using c4),k2,bS];have key:r.length=l.length↔(List.range' 0 l.length).all (Zal c l)=true:=by
  rw [<- hlen,hr2,Zll hsort,hperm.nodup_iff,hlen,kids_all];refine ⟨fun h=>⟨fun x hx=>?_,h⟩,fun h=>h.2⟩;obtain ⟨i,hi,rfl⟩:=List.mem_iff_getElem.1 (hperm.mem_iff.2 hx);have a0:=hl _ m0;have a1:=hl _ m1;have ax:=hl _ hx;have b0:S[0]'(by omega)<=S[i]:=by
   by_cases z:i=0
   ·subst z; exact Int.le_refl _
   ·exact List.pairwise_iff_getElem.1 hsort 0 i (by omega) hi (by omega)
  have b1:S[i]<=S[l.length - 1]'(by omega):=by
   by_cases z:i=l.length - 1
   ·subst z; exact Int.le_refl _
   ·exact List.pairwise_iff_getElem.1 hsort i (l.length - 1) hi (by omega) (by omega)
  rw [wI2] at c4 ⊢;exact ⟨by omega,by omega⟩
 refine congrArg some (Bool.eq_iff_iff.2 ?_);rw [dE,<- key];omega
theorem Zg9 (s:Sp) (x:TY):Q62.f s x=some (inS s x):=by
 unfold Q62.f inS;cases Op.bytesLess x s.1 <;> cases s.2.2 <;> rfl
theorem Zio (a b:TY):Q60.f a b=some (Xm a b):=rfl
theorem Za9 {l:TQ} (s:Sp) (hl:l.length<=80):∀(k i:Nat),i<=l.length->l.length - i<k->Q56.l0 k l s (i:Int)=some ((l.drop i).all (piv s) && Gm (l.drop (i - 1)))
 | 0,i,_,h=>by omega
 | k+1,i,hi,hk=>by
  rw [Q56.l0];by_cases h:i<l.length
  ·have g1:(0:Int)<=(i:Int)/\(i:Int)<(l.length:Int):=by omega
   have eta:(s.1,s.2.1,s.2.2)=s:=rfl;have ih:=Za9 s hl k (i+1) (by omega) (by omega);rw [iT (dT g1.2),iT g1,Zv]; (try rw [eta]); rw [Zg9,bS,wS2,ih,Yu h,List.all_cons,Nat.add_sub_cancel]
   simp only [piv];cases h1:inS s (l.getD i default) with
   | false=>rfl
   | true=>
    by_cases e:l.getD i default=s.1
    ·rw [vS,iT (dT e),dT e]; rfl
    ·rw [vS,iF (by simp only [e,decide_false]; simp)];by_cases h0:0<i
     ·have g2:(0:Int)<=((i - 1:Nat):Int)/\((i - 1:Nat):Int)<(l.length:Int):=by omega
      rw [iP,Zhn h0 (by omega),iT g2,Zv,Zio,bS,Zo2];have:=Zkj (l:=l) (i:=i - 1) (by omega);rw [Nat.sub_add_cancel h0] at this;rw [this,dF e];show (if (!Op.bytesLess (l.getD (i - 1) []) (l.getD i []))=true then _ else _)=_
      cases Op.bytesLess (l.getD (i - 1) []) (l.getD i []) <;> simp
     ·obtain rfl:i=0:=by omega
      rw [vS,dF e];simp
  ·rw [iN,dN,Zld (by omega)];rfl
theorem Zmj {l:TQ} (s:Sp) (hl:l.length<=80) {k:Nat} (hk:100<k):Q56.f k l s=some (l.all (piv s) && Gm l):=by
 have:=Za9 s hl k 0 (by omega) (by omega);simpa [Q56.f] using this
theorem Zj2 {l:List Pr} (hl:l.length<=100000) {k:Nat} (hk:l.length<k):Q58.f k l=some (Zb2 l):=by
 have:=Bh (key:=fun x:Pr=>x.1) (F:=fun k i=>Q58.l0 k l i) (by omega) (fun k i=>rfl) k 0 (by omega) (by omega);rw [Zi5];simpa [Q58.f] using this
theorem Zl6 {l:List Msg} (hl:l.length<=100000) {k:Nat} (hk:l.length<k):Q12.f k l=some (Zb7 l):=by
 have:=Bh (key:=fun x:Msg=>x.1) (F:=fun k i=>Q12.l0 k l i) (by omega) (fun k i=>rfl) k 0 (by omega) (by omega);rw [Zjj];simpa [Q12.f] using this
theorem U3 {α:Type} [Inhabited α] {l:List α} {F:Nat->Int->Option Int} {p:α->Bool} (hl:l.length<=100000)
  (hF:∀ k i,F (k+1) i=if (decide (i<(l.length:Int)))=true then (if 0<=i/\i<(l.length:Int) then (if p (gt l i)=true then (some i) else (F k (w64 (i+1)))) else none) else (some (-1))) :
  ∀(m i k:Nat),i+m=l.length->m<k->∃ r,F k (i:Int)=some r/\decide (0<=r)=(l.drop i).any p
 | 0,i,0,_,h=>by omega
 | m+1,i,0,_,h=>by omega
 | 0,i,k+1,h,_=>⟨-1,by rw [hF,iN],by rw [dN]; rfl⟩
 | m+1,i,k+1,h,hk=>by
  rw [hF,iP,iO,Zv,Yu (show i<l.length by omega),List.any_cons];by_cases c:p (l.getD i default)=true
  ·exact ⟨_,by rw [iT c],by rw [c,dT]; rfl⟩
  ·obtain ⟨r,h1,h2⟩:=U3 hl hF m (i+1) k (by omega) (by omega);exact ⟨r,by rw [iF c,wS2,h1],by rw [h2,Bool.eq_false_iff.2 c]; rfl⟩
theorem Zc6 (c:Cfg) (x:TY):Q65.f c x=some (Xf c x):=by
 unfold Q65.f Xf;by_cases h:1<=(x.length:Int) <;> simp [h]
theorem Zp1 (p:Pr) (c:Cfg) (s:Sp):Q72.f p c s=some (!prB c s p):=by
 unfold Q72.f prB;rw [show Q65.f (c.1,c.2.1,c.2.2.1,c.2.2.2.1,c.2.2.2.2.1,c.2.2.2.2.2.1,c.2.2.2.2.2.2.1,c.2.2.2.2.2.2.2) p.1=_ from Zc6 c p.1,bS,show Q62.f (s.1,s.2.1,s.2.2) p.1=_ from Zg9 s p.1,bS];by_cases e:c.2.2.2.2.2.2.2<(p.2.length:Int)
 ·rw [dT e,dF (show ¬ ((p.2.length:Int)<=c.2.2.2.2.2.2.2) by omega)];cases Xf c p.1 <;> cases inS s p.1 <;> rfl
 ·rw [dF e,dT (show ((p.2.length:Int)<=c.2.2.2.2.2.2.2) by omega)];cases Xf c p.1 <;> cases inS s p.1 <;> rfl
theorem Zo3 (x:TY) (c:Cfg):Q68.f x c=some (!Xf c x):=by
 unfold Q68.f;rw [show Q65.f (c.1,c.2.1,c.2.2.1,c.2.2.2.1,c.2.2.2.2.1,c.2.2.2.2.2.1,c.2.2.2.2.2.2.1,c.2.2.2.2.2.2.2) x=_ from Zc6 c x,bS]
theorem Zo5 (p:Msg) (c:Cfg) (s:Sp):Q69.f p c s=some (!Zcv c s p):=by
 unfold Q69.f Zcv;rw [show Q65.f (c.1,c.2.1,c.2.2.1,c.2.2.2.1,c.2.2.2.2.1,c.2.2.2.2.2.1,c.2.2.2.2.2.2.1,c.2.2.2.2.2.2.2) p.1=_ from Zc6 c p.1,bS,show Q62.f (s.1,s.2.1,s.2.2) p.1=_ from Zg9 s p.1,bS];by_cases e:c.2.2.2.2.2.2.2<(p.2.2.length:Int)
 ·rw [dT e,dF (show ¬ ((p.2.2.length:Int)<=c.2.2.2.2.2.2.2) by omega)];cases Xf c p.1 <;> cases inS s p.1 <;> rfl
 ·rw [dF e,dT (show ((p.2.2.length:Int)<=c.2.2.2.2.2.2.2) by omega)];cases Xf c p.1 <;> cases inS s p.1 <;> cases p.2.1 <;> cases decide (p.2.2=[]) <;> rfl
theorem Zkk {c:Cfg} {s:Sp} {l:List Pr} (hl:l.length<=100000) {k:Nat} (hk:l.length<k):Q94.f k l c s=some (!l.all (prB c s)):=by
 obtain ⟨r,h1,h2⟩:=U3 (l:=l) (F:=fun k i=>Q100.l0 k l c s i) (p:=fun x=>!prB c s x) hl (fun k i=>by
  show Q100.l0 (k+1) l c s i=_;rw [Q100.l0,Zp1,bS]) l.length 0 k (by omega) hk
 unfold Q94.f Q100.f;rw [show Q100.l0 k l (c.1,c.2.1,c.2.2.1,c.2.2.2.1,c.2.2.2.2.1,c.2.2.2.2.2.1,c.2.2.2.2.2.2.1,c.2.2.2.2.2.2.2) (s.1,s.2.1,s.2.2) 0=_ from h1,bS,h2,List.drop_zero];exact congrArg some (by rw [List.all_eq_not_any_not,Bool.not_not])
theorem Zky {c:Cfg} {l:TQ} (hl:l.length<=100000) {k:Nat} (hk:l.length<k):Q97.f k l c=some (!l.all (Xf c)):=by
 obtain ⟨r,h1,h2⟩:=U3 (l:=l) (F:=fun k i=>Q103.l0 k l c i) (p:=fun x=>!Xf c x) hl (fun k i=>by
  show Q103.l0 (k+1) l c i=_;rw [Q103.l0,Zo3,bS]) l.length 0 k (by omega) hk
 unfold Q97.f Q103.f;rw [show Q103.l0 k l (c.1,c.2.1,c.2.2.1,c.2.2.2.1,c.2.2.2.2.1,c.2.2.2.2.2.1,c.2.2.2.2.2.2.1,c.2.2.2.2.2.2.2) 0=_ from h1,bS,h2,List.drop_zero];exact congrArg some (by rw [List.all_eq_not_any_not,Bool.not_not])
theorem Zkx {c:Cfg} {s:Sp} {l:List Msg} (hl:l.length<=100000) {k:Nat} (hk:l.length<k):Q93.f k l c s=some (!l.all (Zcv c s)):=by
 obtain ⟨r,h1,h2⟩:=U3 (l:=l) (F:=fun k i=>Q99.l0 k l c s i) (p:=fun x=>!Zcv c s x) hl (fun k i=>by
  show Q99.l0 (k+1) l c s i=_;rw [Q99.l0,Zo5,bS]) l.length 0 k (by omega) hk
 unfold Q93.f Q99.f;rw [show Q99.l0 k l (c.1,c.2.1,c.2.2.1,c.2.2.2.1,c.2.2.2.2.1,c.2.2.2.2.2.1,c.2.2.2.2.2.2.1,c.2.2.2.2.2.2.2) (s.1,s.2.1,s.2.2) 0=_ from h1,bS,h2,List.drop_zero];exact congrArg some (by rw [List.all_eq_not_any_not,Bool.not_not])
theorem Zsp {α:Type} [DecidableEq α] (l:List α):decide (0<(l.length:Int))=!decide (l=[]):=by cases l <;> simp
theorem Zk7 {c:Cfg} {s:Sp} {n:Nd} (h1:n.2.1.length<=10000) (h2:n.2.2.1.length<=10000) (h3:n.2.2.2.1.length<=10000) (h4:n.2.2.2.2.length<=10000) {k:Nat} (hk:10000<k):Q71.f k c s n=some (Zkl c s n):=by
 unfold Q71.f Zkl;rw [show Q94.f k n.2.2.2.2 (c.1,c.2.1,c.2.2.1,c.2.2.2.1,c.2.2.2.2.1,c.2.2.2.2.2.1,c.2.2.2.2.2.2.1,c.2.2.2.2.2.2.2) (s.1,s.2.1,s.2.2)=_ from Zkk (c:=c) (s:=s) (by omega) (by omega),Zj2 (by omega) (by omega),bS,bS,
  wn (x:=(n.2.1.length:Int)+(n.2.2.1.length:Int)) (n:=n.2.1.length+n.2.2.1.length) (by omega) (by omega),wn (x:=((n.2.1.length+n.2.2.1.length:Nat):Int)+(n.2.2.2.1.length:Int)) (n:=n.2.1.length+n.2.2.1.length+n.2.2.2.1.length) (by omega) (by omega)]
 by_cases e1:n.2.1=[]
 ·by_cases e2:n.2.2.1=[]
  ·by_cases e3:n.2.2.2.1=[]
   ·by_cases e4:c.2.2.2.2.2.1<(n.2.2.2.2.length:Int)
    ·rw [iF (by simp [e1,e2,e3]),iT (dT e4),dF (show ¬ (n.2.2.2.2.length:Int)<=c.2.2.2.2.2.1 by omega)];simp
    ·rw [iF (by simp [e1,e2,e3]),iF (by simpa using e4),dT (show (n.2.2.2.2.length:Int)<=c.2.2.2.2.2.1 by omega),dT e1,dT e2,dT e3];cases Zb2 n.2.2.2.2 <;> cases n.2.2.2.2.all (prB c s) <;> rfl
   ·have:=List.length_pos_iff.2 e3;rw [iP,dF e3];simp
  ·have:=List.length_pos_iff.2 e2;rw [iP,dF e2];simp
 ·have:=List.length_pos_iff.2 e1;rw [iP,dF e1];simp
theorem Zk9 {c:Cfg} {s:Sp} {n:Nd} (h1:n.2.1.length<=80) (h2:n.2.2.1.length<=80) (h3:n.2.2.2.1.length<=10000) (h4:n.2.2.2.2.length<=10000) (hl:∀ x∈n.2.1,0<=x/\x<4294967296):Ev (fun k=>Q67.f k c s n) (Zkw c s n):=by
 have hk:=Zr1 (c:=c) h1 hl;have hbig:Ev (fun k=>if 10000<k then some () else none) ():=⟨10001,fun k hk=>iO⟩
 refine hk.next2 hbig fun k k1 k2=>?_;have k2:10000<k:=by
  by_cases z:10000<k
  ·exact z
  ·rw [iF z] at k2; cases k2
 unfold Q67.f Zkw Zke Zka;rw [show Q70.f k (c.1,c.2.1,c.2.2.1,c.2.2.2.1,c.2.2.2.2.1,c.2.2.2.2.2.1,c.2.2.2.2.2.2.1,c.2.2.2.2.2.2.2) n.2.1=_ from k1,show Q93.f k n.2.2.2.1 (c.1,c.2.1,c.2.2.1,c.2.2.2.1,c.2.2.2.2.1,c.2.2.2.2.2.1,c.2.2.2.2.2.2.1,c.2.2.2.2.2.2.2) (s.1,s.2.1,s.2.2)=_ from Zkx (c:=c) (s:=s) (by omega) (by omega),
  show Q97.f k n.2.2.1 (c.1,c.2.1,c.2.2.1,c.2.2.2.1,c.2.2.2.2.1,c.2.2.2.2.2.1,c.2.2.2.2.2.2.1,c.2.2.2.2.2.2.2)=_ from Zky (c:=c) (by omega) (by omega),show Q56.f k n.2.2.1 (s.1,s.2.1,s.2.2)=_ from Zmj s h2 (by omega),Zl6 (by omega) (by omega)]
 simp only [bS,Zb0];have y1:decide (40<n.1)=!decide (n.1<=40):=by by_cases q:n.1<=40 <;> simp [q] <;> omega
 have y3:decide (c.2.2.2.2.1<(n.2.2.2.1.length:Int))=!decide ((n.2.2.2.1.length:Int)<=c.2.2.2.2.1):=by by_cases q:(n.2.2.2.1.length:Int)<=c.2.2.2.2.1 <;> simp [q] <;> omega
 have y4:(1<=n.2.1.length)->decide ((n.2.2.1.length:Int)=w64 ((n.2.1.length:Int) - 1))=decide (n.2.2.1.length+1=n.2.1.length):=fun z=>by
  rw [wn (x:=(n.2.1.length:Int) - 1) (n:=n.2.1.length - 1) (by omega) (by omega)];congr 1;exact propext (by omega)
 rw [y1,y3,Zsp];by_cases z:1<=n.2.1.length
 ·rw [y4 z,dT z];cases decide (n.1<=40) <;> cases decide (n.2.2.2.2=[]) <;> cases decide ((n.2.1.length:Int)<=c.2.2.2.1) <;> cases (List.range' 0 n.2.1.length).all (Zal c n.2.1) <;> cases decide (n.2.2.1.length+1=n.2.1.length) <;> cases (n.2.2.1.all (piv s) && Gm n.2.2.1) <;> cases n.2.2.1.all (Xf c) <;> cases decide ((n.2.2.2.1.length:Int)<=c.2.2.2.2.1) <;> cases Zb7 n.2.2.2.1 <;> cases n.2.2.2.1.all (Zcv c s) <;> rfl
 ·rw [dF z];cases decide (n.1<=40) <;> cases decide (n.2.2.2.2=[]) <;> simp
def Ym (c:Cfg) (s:Sp) (n:Nd):Bool:=if n.1=0 then Zkl c s n else decide (0<n.1) && Zkw c s n
theorem Zd0 {c:Cfg} {s:Sp} {n:Nd} (h1:n.2.1.length<=80) (h2:n.2.2.1.length<=80) (h3:n.2.2.2.1.length<=10000) (h4:n.2.2.2.2.length<=10000) (hl:∀ x∈n.2.1,0<=x/\x<4294967296):Ev (fun k=>Q66.f k c s n) (Ym c s n):=by
 have hbig:Ev (fun k=>if 10000<k then some () else none) ():=⟨10001,fun k hk=>iO⟩
 refine (Zk9 (c:=c) (s:=s) h1 h2 h3 h4 hl).next2 hbig fun k k1 k2=>?_;have k2:10000<k:=by
  by_cases z:10000<k
  ·exact z
  ·rw [iF z] at k2; cases k2
 unfold Q66.f Ym;rw [show Q67.f k (c.1,c.2.1,c.2.2.1,c.2.2.2.1,c.2.2.2.2.1,c.2.2.2.2.2.1,c.2.2.2.2.2.2.1,c.2.2.2.2.2.2.2) (s.1,s.2.1,s.2.2) (n.1,n.2.1,n.2.2.1,n.2.2.2.1,n.2.2.2.2)=_ from k1,
  show Q71.f k (c.1,c.2.1,c.2.2.1,c.2.2.2.1,c.2.2.2.2.1,c.2.2.2.2.2.1,c.2.2.2.2.2.2.1,c.2.2.2.2.2.2.2) (s.1,s.2.1,s.2.2) (n.1,n.2.1,n.2.2.1,n.2.2.2.1,n.2.2.2.2)=_ from Zk7 (c:=c) (s:=s) (by omega) (by omega) h3 h4 k2,bS,bS]
 by_cases c1:n.1<0
 ·rw [iT (dT c1),iQ,dF (show ¬ 0<n.1 by omega)]; rfl
 ·rw [iF (by simpa using c1)];by_cases c2:n.1=0
  ·rw [iT (dT c2),iT c2]
  ·rw [iF (by simpa using c2),iF c2,dT (show 0<n.1 by omega)]; rfl
def be:Nat->Nat->List UInt8
 | 0,_=>[]
 | w+1,v=>UInt8.ofNat (v / 256 ^ w) :: be w v
theorem Xb:∀ w v,(be w v).length=w
 | 0,_=>rfl
 | w+1,v=>by rw [be,length_cons,Xb w v]
def rdv (l:TY):Nat:=l.foldl (fun a c=>a*256+c.toNat) 0
theorem Zcq:∀(l:TY) (a:Nat),l.foldl (fun a c=>a*256+c.toNat) a=a*256 ^ l.length+rdv l
 | [],a=>by simp [rdv]
 | c :: l,a=>by
  unfold rdv;rw [List.foldl_cons,List.foldl_cons,Zcq l,Zcq l (0*256+c.toNat),length_cons,Nat.pow_succ,Nat.add_mul,Nat.zero_mul,Nat.zero_add];rw [Nat.mul_assoc,Nat.mul_comm 256,Nat.add_assoc]
theorem Zhu (c:UInt8) (l:TY):rdv (c :: l)=c.toNat*256 ^ l.length+rdv l:=by
 unfold rdv;rw [List.foldl_cons,Zcq,Nat.zero_mul,Nat.zero_add]; rfl
theorem Zhl:∀ l:List UInt8,rdv l<256 ^ l.length
 | []=>by simp [rdv]
 | c :: l=>by
  have h1:=Zhl l;have h2:c.toNat<256:=c.toNat_lt;rw [Zhu,length_cons,Nat.pow_succ];have:c.toNat*256 ^ l.length<=255*256 ^ l.length:=Nat.mul_le_mul_right _ (by omega);omega
theorem Zmo:∀ w v,rdv (be w v)=v % 256 ^ w
 | 0,v=>by simp [be,rdv,Nat.mod_one]
 | w+1,v=>by
  rw [be,Zhu,Xb,Zmo w v];have e:(UInt8.ofNat (v / 256 ^ w)).toNat=v / 256 ^ w % 256:=by simp
  rw [e,Nat.pow_succ,Nat.mod_mul (a:=256 ^ w) (b:=256),Nat.mul_comm]; omega
theorem Zo7 {w v:Nat} (h:v<256 ^ w):rdv (be w v)=v:=by rw [Zmo,Nat.mod_eq_of_lt h]
def zs (n:Nat):List UInt8:=List.replicate n 0
theorem Jj (n:Nat):(zs n).length=n:=length_replicate
theorem Jr (a b:Nat):zs a ++ zs b=zs (a+b):=by unfold zs; rw [List.replicate_append_replicate]
def slt (s:TY) (n:Nat):List UInt8:=s ++ zs (n - s.length)
theorem U9 {s:TY} {n:Nat} (h:s.length<=n):(slt s n).length=n:=by unfold slt; rw [lA,Jj]; omega
def prS (K V:Nat) (p:TL):List UInt8:=be 1 p.1.length ++ (be 2 p.2.length ++ (slt p.1 K ++ slt p.2 V))
theorem Bq {K V:Nat} {p:TL} (h1:p.1.length<=K) (h2:p.2.length<=V):(prS K V p).length=3+K+V:=by
 unfold prS;rw [lA,lA,lA,Xb,Xb,U9 h1,U9 h2]; omega
def msS (K V:Nat) (m:TF):List UInt8:=(if m.2.1=true then 2 else 1) :: prS K V (m.1,m.2.2)
theorem Zpv {K V:Nat} {m:TF} (h1:m.1.length<=K) (h2:m.2.2.length<=V):(msS K V m).length=4+K+V:=by
 unfold msS;rw [length_cons,Bq h1 h2]; omega
def pvS (K:Nat) (p:TY):List UInt8:=be 1 p.length ++ slt p K
theorem Zec {K:Nat} {p:TY} (h1:p.length<=K):(pvS K p).length=1+K:=by
 unfold pvS;rw [lA,Xb,U9 h1]
def cat {α:Type} (f:α->List UInt8) (l:List α):List UInt8:=l.flatMap f
theorem Bs {α:Type} {f:α->List UInt8} {n:Nat}:∀ {l:List α},(∀ x∈l,(f x).length=n)->(cat f l).length=l.length*n
 | [],_=>by simp [cat]
 | x :: l,h=>by
  have:=Bs (l:=l) fun y hy=>h y (by simp [hy]);unfold cat at this ⊢;rw [List.flatMap_cons,lA,this,h x (by simp),length_cons,Nat.add_mul]; omega
def kdS (x:Int):List UInt8:=be 4 x.toNat
def cBy (c:Cfg):Nat:=c.2.1.toNat
def cFa (c:Cfg):Nat:=c.2.2.2.1.toNat
def cBu (c:Cfg):Nat:=c.2.2.2.2.1.toNat
def cLe (c:Cfg):Nat:=c.2.2.2.2.2.1.toNat
def cK (c:Cfg):Nat:=c.2.2.2.2.2.2.1.toNat
def cV (c:Cfg):Nat:=c.2.2.2.2.2.2.2.toNat
def hdO (n:Nd):List UInt8:=1 :: 0 :: (be 2 n.2.2.2.2.length ++ zs 4)
def hdI (n:Nd):List UInt8:=2 :: (be 1 n.1.toNat ++ (be 2 n.2.1.length ++ (be 2 n.2.2.2.1.length ++ zs 2)))
theorem Zjc (n:Nd):(hdO n).length=8:=by simp [hdO,Xb,Jj]
theorem Zjd (n:Nd):(hdI n).length=8:=by simp [hdI,Xb,Jj]
def bdO (c:Cfg) (n:Nd):List UInt8:=cat (prS (cK c) (cV c)) n.2.2.2.2
def bdI (c:Cfg) (n:Nd):List UInt8:=cat kdS n.2.1 ++ (zs (4*(cFa c - n.2.1.length)) ++ (cat (pvS (cK c)) n.2.2.1 ++ (zs ((1+cK c)*(cFa c - 1 - n.2.2.1.length)) ++ cat (msS (cK c) (cV c)) n.2.2.2.1)))
def Be (c:Cfg) (n:Nd):List UInt8:=if n.1=0 then hdO n ++ bdO c n else hdI n ++ bdI c n
def Bf (c:Cfg) (n:Nd):List UInt8:=slt (Be c n) (cBy c)
structure FitN (c:Cfg) (n:Nd):Prop where
 lv:0<=n.1/\n.1<=40
 kd:∀ x∈n.2.1,0<=x/\x<4294967296
 o:n.1=0->n.2.1=[]/\n.2.2.1=[]/\n.2.2.2.1=[]/\n.2.2.2.2.length<=cLe c
 i:n.1≠0->n.2.2.2.2=[]/\1<=n.2.1.length/\n.2.1.length<=cFa c/\n.2.2.1.length+1=n.2.1.length/\n.2.2.2.1.length<=cBu c
 pk:∀ p∈n.2.2.1,p.length<=cK c
 ms:∀ m∈n.2.2.2.1,m.1.length<=cK c/\m.2.2.length<=cV c
 rk:∀ p∈n.2.2.2.2,p.1.length<=cK c/\p.2.length<=cV c
theorem OkC.nat {c:Cfg} (h:OkC c):8<=cFa c/\cFa c<=64/\1<=cK c/\cK c<=64/\cV c<=256/\16<=cBu c/\cBu c<=512/\cBu c<=cLe c/\cLe c<=1024:=by
 have h1:=h.fan;have h2:=h.key;have h3:=h.val;have h4:=h.buf;have h5:=h.leaf;unfold cFa cK cV cBu cLe;omega
theorem Zpl {c:Cfg} {n:Nd} (h:FitN c n):(bdO c n).length=n.2.2.2.2.length*(3+cK c+cV c):=Bs fun p hp=>Bq (h.rk p hp).1 (h.rk p hp).2
theorem Zne (l:T2):(cat kdS l).length=l.length*4:=Bs fun p hp=>Xb 4 _
theorem Zng {c:Cfg} {n:Nd} (h:FitN c n):(cat (pvS (cK c)) n.2.2.1).length=n.2.2.1.length*(1+cK c):=Bs fun p hp=>Zec (h.pk p hp)
theorem Zny {c:Cfg} {n:Nd} (h:FitN c n):(cat (msS (cK c) (cV c)) n.2.2.2.1).length=n.2.2.2.1.length*(4+cK c+cV c):=Bs fun p hp=>Zpv (h.ms p hp).1 (h.ms p hp).2
theorem Zpj {c:Cfg} {n:Nd} (h:FitN c n) (h0:n.1≠0):(bdI c n).length=4*cFa c+(1+cK c)*(cFa c - 1)+n.2.2.2.1.length*(4+cK c+cV c):=by
 obtain ⟨_,i2,i3,i4,_⟩:=h.i h0;unfold bdI;rw [lA,lA,lA,lA,Zne,Jj,Zng h,Jj,Zny h,Nat.mul_comm n.2.2.1.length];have e:(1+cK c)*n.2.2.1.length+(1+cK c)*(cFa c - 1 - n.2.2.1.length)=(1+cK c)*(cFa c - 1):=by rw [<- Nat.mul_add]; congr 1; omega
 omega
def szB (c:Cfg):Bool:=decide (8<=c.2.2.2.1/\c.2.2.2.1<=64) && (decide (1<=c.2.2.2.2.2.2.1/\c.2.2.2.2.2.2.1<=64) && (decide (0<=c.2.2.2.2.2.2.2/\c.2.2.2.2.2.2.2<=256) && (decide (2*c.2.2.2.1<=c.2.2.2.2.1/\c.2.2.2.2.1<=512) && decide (c.2.2.2.2.1<=c.2.2.2.2.2.1/\c.2.2.2.2.2.1<=1024))))
theorem Bx {c:Cfg} (h:szB c=true):OkC c:=by
 simp only [szB,Bool.and_eq_true,dE] at h;exact ⟨h.1,h.2.1,h.2.2.1,by omega,h.2.2.2.2⟩
def Ju (c:Cfg):Int:=8+(4+(c.2.2.2.1 - 1)*(5+c.2.2.2.2.2.2.1)+c.2.2.2.2.1*(4+c.2.2.2.2.2.2.1+c.2.2.2.2.2.2.2))
def Gb (c:Cfg):Int:=8+c.2.2.2.2.2.1*(3+c.2.2.2.2.2.2.1+c.2.2.2.2.2.2.2)
def okB (c:Cfg):Bool:=szB c && (decide (5<=c.1/\c.1<=65536) && (decide (8<=c.2.2.1/\c.2.2.1<=64) && (decide (64<=c.2.1/\c.2.1<=65536) && (decide (Ju c<=c.2.1) && decide (Gb c<=c.2.1)))))
theorem Zls (a b c:Int):Q139.f a b c=some (decide (b<=a/\a<=c)):=by
 unfold Q139.f;by_cases h:b<=a <;> simp [h]
theorem Za4 (c:Cfg):Q138.f c=some (szB c):=by
 unfold Q138.f szB;simp only [Zls,bS];by_cases h1:8<=c.2.2.2.1/\c.2.2.2.1<=64
 ·have w:w64 (2*c.2.2.2.1)=2*c.2.2.2.1:=wI2;rw [w,dT h1];cases decide (1<=c.2.2.2.2.2.2.1/\c.2.2.2.2.2.2.1<=64) <;> cases decide (0<=c.2.2.2.2.2.2.2/\c.2.2.2.2.2.2.2<=256) <;> cases decide (2*c.2.2.2.1<=c.2.2.2.2.1/\c.2.2.2.2.1<=512) <;> rfl
 ·rw [dF h1]; rfl
theorem Zji {c:Cfg} (hc:OkC c):∀(m i k:Nat) (x:Int),c.2.2.2.2.1=(i:Int)+m->m<k->0<=x->x+m*324<=1000000000->Q135.l1 k c x (i:Int)=some (x+m*(4+c.2.2.2.2.2.2.1+c.2.2.2.2.2.2.2))
 | 0,i,k+1,x,h,_,_,_=>by
  rw [Q135.l1,iN]; simp
 | m+1,i,k+1,x,h,hk,h0,h1=>by
  have a1:=hc.key;have a2:=hc.val;have hb:=hc.buf;rw [Q135.l1,iP,wI2 (x:=x+4),wI2 (x:=x+4+c.2.2.2.2.2.2.1),wI2 (x:=x+4+c.2.2.2.2.2.2.1+c.2.2.2.2.2.2.2),wS2,Zji hc m (i+1) k _ (by omega) (by omega) (by omega) (by omega)];congr 1;rw [show ((m+1:Nat):Int)=(m:Int)+1 by omega,Int.add_mul]; omega
theorem Zjq {c:Cfg} (hc:OkC c):∀(m i k:Nat) (x:Int),1<=i->c.2.2.2.1=(i:Int)+m->m+600<k->0<=x->x+m*69<=100000->Q135.l0 k c x (i:Int)=some (x+m*(5+c.2.2.2.2.2.2.1)+c.2.2.2.2.1*(4+c.2.2.2.2.2.2.1+c.2.2.2.2.2.2.2))
 | 0,i,k+1,x,h2,h,hk,h0,h1=>by
  have hb:=hc.buf;obtain ⟨B,hB⟩:=Int.eq_ofNat_of_zero_le (show 0<=c.2.2.2.2.1 by omega);rw [Q135.l0,iN,show Q135.l1 k c x 0=_ from Zji hc B 0 k x (by rw [hB]; simp) (by omega) h0 (by omega),hB]; simp
 | m+1,i,k+1,x,h2,h,hk,h0,h1=>by
  have a1:=hc.key;have hb:=hc.fan;rw [Q135.l0,iP,iP,wI2 (x:=x+4),wI2 (x:=x+4+1),wI2 (x:=x+4+1+c.2.2.2.2.2.2.1),wS2,Zjq hc m (i+1) k _ (by omega) (by omega) (by omega) (by omega) (by omega)];congr 1;rw [show ((m+1:Nat):Int)=(m:Int)+1 by omega,Int.add_mul]; omega
theorem Zpt {c:Cfg} (h:szB c=true) {k:Nat} (hk:1000<k):Q135.f k c=some (Ju c):=by
 have hc:=Bx h;have hf:=hc.fan;obtain ⟨F,hF⟩:=Int.eq_ofNat_of_zero_le (show 0<=c.2.2.2.1 by omega);obtain ⟨k,rfl⟩:∃ q,k=q+1:=⟨k - 1,by omega⟩;unfold Q135.f;rw [show Q138.f (c.1,c.2.1,c.2.2.1,c.2.2.2.1,c.2.2.2.2.1,c.2.2.2.2.2.1,c.2.2.2.2.2.2.1,c.2.2.2.2.2.2.2)=_ from Za4 c,h,bS,vS,Q135.l0,iP,vS,show w64 (8+4)=12 from rfl,show w64 (0+1)=((1:Nat):Int) from rfl,Zjq hc (F - 1) 1 k 12 (Nat.le_refl _) (by omega) (by omega) (by omega) (by omega),show ((F - 1:Nat):Int)=c.2.2.2.1 - 1 by omega];unfold Ju;congr 1; omega
theorem Zjt {c:Cfg} (hc:OkC c):∀(m i k:Nat) (x:Int),c.2.2.2.2.2.1=(i:Int)+m->m<k->0<=x->x+m*324<=1000000000->Q136.l0 k c x (i:Int)=some (x+m*(3+c.2.2.2.2.2.2.1+c.2.2.2.2.2.2.2))
 | 0,i,k+1,x,h,_,_,_=>by
  rw [Q136.l0,iN]; simp
 | m+1,i,k+1,x,h,hk,h0,h1=>by
  have a1:=hc.key;have a2:=hc.val;have hb:=hc.leaf;rw [Q136.l0,iP,wI2 (x:=x+3),wI2 (x:=x+3+c.2.2.2.2.2.2.1),wI2 (x:=x+3+c.2.2.2.2.2.2.1+c.2.2.2.2.2.2.2),wS2,Zjt hc m (i+1) k _ (by omega) (by omega) (by omega) (by omega)];congr 1;rw [show ((m+1:Nat):Int)=(m:Int)+1 by omega,Int.add_mul]; omega
theorem Zoy {c:Cfg} (h:szB c=true) {k:Nat} (hk:2000<k):Q136.f k c=some (Gb c):=by
 have hc:=Bx h;have hf:=hc.leaf;have hb:=hc.buf;obtain ⟨L,hL⟩:=Int.eq_ofNat_of_zero_le (show 0<=c.2.2.2.2.2.1 by omega);unfold Q136.f;rw [show Q138.f (c.1,c.2.1,c.2.2.1,c.2.2.2.1,c.2.2.2.2.1,c.2.2.2.2.2.1,c.2.2.2.2.2.2.1,c.2.2.2.2.2.2.2)=_ from Za4 c,h,bS,vS,show Q136.l0 k c 8 0=_ from Zjt hc L 0 k 8 (by omega) (by omega) (by omega) (by omega),<- hL];rfl
theorem Zlh (c:Cfg) {k:Nat} (hk:2000<k):Q137.f k c=some (okB c):=by
 unfold Q137.f okB;rw [show Q138.f (c.1,c.2.1,c.2.2.1,c.2.2.2.1,c.2.2.2.2.1,c.2.2.2.2.2.1,c.2.2.2.2.2.2.1,c.2.2.2.2.2.2.2)=_ from Za4 c,bS];cases h:szB c with
 | false=>rfl
 | true=>
  rw [iT rfl,show Q135.f k (c.1,c.2.1,c.2.2.1,c.2.2.2.1,c.2.2.2.2.1,c.2.2.2.2.2.1,c.2.2.2.2.2.2.1,c.2.2.2.2.2.2.2)=_ from Zpt h (by omega),show Q136.f k (c.1,c.2.1,c.2.2.1,c.2.2.2.1,c.2.2.2.2.1,c.2.2.2.2.2.1,c.2.2.2.2.2.2.1,c.2.2.2.2.2.2.2)=_ from Zoy h hk];simp only [Zls,bS];cases decide (5<=c.1/\c.1<=65536) <;> cases decide (8<=c.2.2.1/\c.2.2.1<=64) <;> cases decide (64<=c.2.1/\c.2.1<=65536) <;> cases decide (Ju c<=c.2.1) <;> rfl
abbrev X9:Sp:=([],[],true)
theorem Zdp (c:Cfg):Q49.f c=some (szB c):=by
 unfold Q49.f szB;by_cases h1:8<=c.2.2.2.1/\c.2.2.2.1<=64
 ·have w:w64 (2*c.2.2.2.1)=2*c.2.2.2.1:=wI2;rw [w,iN,iN,dT h1];by_cases h2:1<=c.2.2.2.2.2.2.1/\c.2.2.2.2.2.2.1<=64
  ·by_cases h3:0<=c.2.2.2.2.2.2.2/\c.2.2.2.2.2.2.2<=256
   ·by_cases h4:2*c.2.2.2.1<=c.2.2.2.2.1/\c.2.2.2.2.1<=512
    ·by_cases h5:c.2.2.2.2.1<=c.2.2.2.2.2.1/\c.2.2.2.2.2.1<=1024
     ·rw [iN,iN,iN,iN,iN,iN,iN,iN,dT h2,dT h3,dT h4,dT h5];rfl
     ·rw [iN,iN,dF h5];simp only [Bool.and_false];by_cases q:c.2.2.2.2.2.1<c.2.2.2.2.1
      ·rw [iT (dT q)]
      ·rw [iF (by simpa using q),iP]
    ·rw [dF h4];simp only [Bool.false_and,Bool.and_false];by_cases q:c.2.2.2.2.1<2*c.2.2.2.1
     ·rw [iT (dT q)]
     ·rw [iF (by simpa using q),iP]
   ·rw [dF h3];simp only [Bool.false_and,Bool.and_false]
    repeat' split
    all_goals first | rfl | (simp only [dE] at *; omega)
  ·rw [dF h2];simp only [Bool.false_and,Bool.and_false]
   repeat' split
   all_goals first | rfl | (simp only [dE] at *; omega)
 ·rw [dF h1];simp only [Bool.false_and];by_cases q:c.2.2.2.1<8
  ·rw [iT (dT q)]
  ·rw [iF (by simpa using q),iP]
theorem Gh (c:Cfg):(c.1,c.2.1,c.2.2.1,c.2.2.2.1,c.2.2.2.2.1,c.2.2.2.2.2.1,c.2.2.2.2.2.2.1,c.2.2.2.2.2.2.2)=c:=rfl
theorem Zsq (n:Nd):(n.1,n.2.1,n.2.2.1,n.2.2.2.1,n.2.2.2.2)=n:=rfl
theorem Zso {c:Cfg} (h:szB c=true):Q46.f c=some (Ju c)/\8<=Ju c/\Ju c<=200000:=by
 have hc:=Bx h;have a1:=hc.fan;have a2:=hc.key;have a3:=hc.val;have a4:=hc.buf;have p0:0<=(c.2.2.2.1 - 1)*(1+c.2.2.2.2.2.2.1):=Int.mul_nonneg (by omega) (by omega);have p1:(c.2.2.2.1 - 1)*(1+c.2.2.2.2.2.2.1)<=63*65:=Int.mul_le_mul (by omega) (by omega) (by omega) (by omega);have q0:0<=c.2.2.2.2.1*(4+c.2.2.2.2.2.2.1+c.2.2.2.2.2.2.2):=Int.mul_nonneg (by omega) (by omega);have q1:c.2.2.2.2.1*(4+c.2.2.2.2.2.2.1+c.2.2.2.2.2.2.2)<=512*324:=Int.mul_le_mul (by omega) (by omega) (by omega) (by omega);have e:Ju c=8+4*c.2.2.2.1+(c.2.2.2.1 - 1)*(1+c.2.2.2.2.2.2.1)+c.2.2.2.2.1*(4+c.2.2.2.2.2.2.1+c.2.2.2.2.2.2.2):=by
  unfold Ju;rw [show 5+c.2.2.2.2.2.2.1=4+(1+c.2.2.2.2.2.2.1) by omega,Int.mul_add]; omega
 refine ⟨?_,by omega,by omega⟩;unfold Q46.f
 (try rw [Gh]); rw [Zdp,h,bS,vS,wI2 (x:=4*c.2.2.2.1),wI2 (x:=8+4*c.2.2.2.1),wI2 (x:=c.2.2.2.1 - 1),wI2 (x:=1+c.2.2.2.2.2.2.1),wI2 (x:=4+c.2.2.2.2.2.2.1),wI2 (x:=4+c.2.2.2.2.2.2.1+c.2.2.2.2.2.2.2),
  wI2 (x:=(c.2.2.2.1 - 1)*(1+c.2.2.2.2.2.2.1)),wI2 (x:=c.2.2.2.2.1*(4+c.2.2.2.2.2.2.1+c.2.2.2.2.2.2.2)),wI2 (x:=8+4*c.2.2.2.1+(c.2.2.2.1 - 1)*(1+c.2.2.2.2.2.2.1)),wI2,e]
theorem Zsj {c:Cfg} (h:szB c=true):Q48.f c=some (Gb c)/\8<=Gb c/\Gb c<=400000:=by
 have hc:=Bx h;have a2:=hc.key;have a3:=hc.val;have a4:=hc.buf;have a5:=hc.leaf;have q0:0<=c.2.2.2.2.2.1*(3+c.2.2.2.2.2.2.1+c.2.2.2.2.2.2.2):=Int.mul_nonneg (by omega) (by omega);have q1:c.2.2.2.2.2.1*(3+c.2.2.2.2.2.2.1+c.2.2.2.2.2.2.2)<=1024*323:=Int.mul_le_mul (by omega) (by omega) (by omega) (by omega);refine ⟨?_,by unfold Gb; omega,by unfold Gb; omega⟩;unfold Q48.f Gb
 (try rw [Gh]); rw [Zdp,h,bS,vS,wI2 (x:=3+c.2.2.2.2.2.2.1),wI2 (x:=3+c.2.2.2.2.2.2.1+c.2.2.2.2.2.2.2),wI2 (x:=c.2.2.2.2.2.1*(3+c.2.2.2.2.2.2.1+c.2.2.2.2.2.2.2)),wI2]
theorem Zdq (c:Cfg):Q45.f c=some (if okB c=true then 0 else 2):=by
 unfold Q45.f okB
 (try rw [Gh]); rw [Zdp,bS]
 cases h:szB c with
 | false=>rfl
 | true=>
  obtain ⟨i1,i2,i3⟩:=Zso h;obtain ⟨o1,o2,o3⟩:=Zsj h;rw [iT rfl];by_cases a1:5<=c.1/\c.1<=65536
  ·rw [iT (dT a1.1),iT (dT a1.2),dT a1];by_cases a2:8<=c.2.2.1/\c.2.2.1<=64
   ·rw [iT (dT a2.1),iF (by simp [a2.2]),dT a2];by_cases a3:65536<c.2.1
    ·rw [iT (dT a3),dF (show ¬ (64<=c.2.1/\c.2.1<=65536) by omega)]; rfl
    ·rw [iF (by simpa using a3)];unfold Q47.f
     (try rw [Gh]); rw [Zdp,h,bS,iT rfl,i1,o1,bS,bS,bS]
     dsimp only;generalize Ju c=I at *;generalize Gb c=O at *;by_cases b1:c.2.1<64
     ·rw [iT (dT (by split <;> split <;> omega)),dF (show ¬ (64<=c.2.1/\c.2.1<=65536) by omega)]; rfl
     ·rw [dT (show 64<=c.2.1/\c.2.1<=65536 by omega)];by_cases b2:I<=c.2.1
      ·rw [dT b2];by_cases b3:O<=c.2.1
       ·rw [dT b3,iF (by simp only [dE]; split <;> split <;> omega)]; rfl
       ·rw [dF b3,iT (dT (by split <;> split <;> omega))]; rfl
      ·rw [dF b2,iT (dT (by split <;> split <;> omega))]; rfl
   ·rw [dF a2];by_cases q:8<=c.2.2.1
    ·rw [iT (dT q),iV]; rfl
    ·rw [iF (by simpa using q)]; rfl
  ·rw [dF a1];by_cases q:5<=c.1
   ·rw [iT (dT q),iN]; rfl
   ·rw [iF (by simpa using q)]; rfl
theorem X8 (a b:TY):toB (a ++ b)=toB a ++ toB b:=by simp [toB]
theorem Z5 (a:TY):(toB a).length=a.length:=by simp [toB]
theorem Zgz (n:Nat):toB (zs n)=List.replicate n 0:=by simp [toB,zs]
theorem Zca (a:TY):toS (toB a)=a:=by
 unfold toS toB;rw [List.map_map]
 conv=>rhs; rw [<- List.map_id a]
 apply List.map_congr_left;intro x _;simp
theorem Zrx (n:Nat):uH.wrap (n:Int)=((n % 18446744073709551616:Nat):Int):=by
 simp [IntKind.wrap,IntKind.bits,IntKind.signed]
theorem V0 {n:Nat} (h:n<18446744073709551616:=by omega):uH.wrap (n:Int)=(n:Int):=by rw [Zrx,Nat.mod_eq_of_lt h]
theorem Zrt (v i:Nat) (hi:i<8):uA.wrap (Int.fdiv (v:Int) (2 ^ (min (w64 (8*(i:Int))).toNat 64)))=((UInt8.ofNat (v / 256 ^ i)).toNat:Int):=by
 have e1:w64 (8*(i:Int))=((8*i:Nat):Int):=by rw [wI2]; omega
 rw [e1,tN,show min (8*i) 64=8*i by omega,Int.fdiv_eq_ediv_of_nonneg _ (by exact_mod_cast Nat.zero_le _)];have e2:((v:Int) / 2 ^ (8*i))=((v / 256 ^ i:Nat):Int):=by
  rw [show (256:Nat)=2 ^ 8 from rfl,<- Nat.pow_mul]
  push_cast
  rfl
 rw [e2];simp [IntKind.wrap,IntKind.bits,IntKind.signed]
theorem Zmd (v:Nat):∀(i:Nat) (x:T2) (k:Nat),i<=8->i<k->x.length+i<=1000->Q155.l0 k (v:Int) x ((i:Int) - 1)=some (x ++ toB (be i v))
 | 0,x,k+1,_,_,_=>by
  rw [Q155.l0,vS];simp [be,toB]
 | i+1,x,k+1,hi,hk,hx=>by
  have e:((i+1:Nat):Int) - 1=(i:Int):=by omega
  rw [e,Q155.l0,iP,iT (by rw [wI2]; omega),iT (by simp only [List.length_singleton]; omega),Zrt v i (by omega),wI2 (x:=(i:Int) - 1),Zmd v i _ k (by omega) (by omega) (by simp; omega)];simp [be,toB]
theorem U5 {a:T2} {w v:Nat} (hw:w=1\/w=2\/w=4) (ha:a.length<=10000000) {k:Nat} (hk:10<k):Q37.f k a (w:Int) (v:Int)=some (a ++ toB (be w v)):=by
 have h0:Q155.f k ([]:List Int) (w:Int) (v:Int)=some (toB (be w v)):=by
  unfold Q155.f Q89.f Q164.f;rw [iU,bS];have hr:(if (decide ((w:Int)=1))=true then (some true) else (if (decide ((w:Int)=2))=true then (some true) else (if (decide ((w:Int)=4))=true then (some true) else (some (decide ((w:Int)=8))))))=some true:=by
   rcases hw with rfl | rfl | rfl <;> rfl
  rw [hr,bS,vS,wI2];have:=Zmd v w ([] ++ []) k (by omega) (by omega) (by simp; omega);simpa using this
 unfold Q37.f;rw [h0,bS,iT (by rw [Z5,Xb]; omega)]
theorem Zgm {a:T2} {s:TY} {n:Nat} (ha:a.length<=10000000) (hs:s.length<=n) (hn:n<=100000):Q42.f a s (n:Int)=some (a ++ toB (slt s n)):=by
 have e:w64 ((n:Int) - (s.length:Int))=((n - s.length:Nat):Int):=by rw [wI2]; omega
 unfold Q42.f;rw [iO,e,iT (by rw [lA,Z5]; omega),tN];unfold slt;rw [X8,Zgz,append_assoc]
structure NatC (c:Cfg):Prop where
 f:c.2.2.2.1=(cFa c:Int)
 k:c.2.2.2.2.2.2.1=(cK c:Int)
 v:c.2.2.2.2.2.2.2=(cV c:Int)
 b:c.2.2.2.2.1=(cBu c:Int)
 l:c.2.2.2.2.2.1=(cLe c:Int)
theorem OkC.int {c:Cfg} (h:OkC c):NatC c:=by
 have h1:=h.fan;have h2:=h.key;have h3:=h.val;have h4:=h.buf;have h5:=h.leaf;constructor <;> simp only [cFa,cK,cV,cBu,cLe] <;> omega
theorem Zkb {c:Cfg} (hc:OkC c) {a:T2} {x y:TY} (ha:a.length<=9000000) (hx:x.length<=cK c) (hy:y.length<=cV c) {k:Nat} (hk:10<k):Q38.f k c a x y=some (a ++ toB (prS (cK c) (cV c) (x,y))):=by
 obtain ⟨c1,c2,c3,c4,c5,c6,c7,c8,c9⟩:=hc.nat
 unfold Q38.f;rw [V0,V0,show Q37.f k a 1 (x.length:Int)=_ from U5 (w:=1) (.inl rfl) (by omega) hk,bS,show Q37.f k (a ++ toB (be 1 x.length)) 2 (y.length:Int)=_ from U5 (w:=2) (.inr (.inl rfl)) (by rw [lA,Z5,Xb]; omega) hk,bS,
  hc.int.k,Zgm (by rw [lA,lA,Z5,Z5,Xb,Xb]; omega) hx (by omega),bS,hc.int.v,Zgm (by rw [lA,lA,lA,Z5,Z5,Z5,Xb,Xb,U9 hx]; omega) hy (by omega),bS]
 unfold prS;simp only [X8,append_assoc]
theorem Zmq {a b d e:Nat} (ha:a<256) (hb:b<256) (hd:d<65536) (he:e<65536) {k:Nat} (hk:10<k):Q36.f k (a:Int) (b:Int) (d:Int) (e:Int)=some (toB (be 1 a ++ (be 1 b ++ (be 2 d ++ (be 2 e ++ zs 2))))):=by
 unfold Q36.f;rw [V0,V0,V0,V0,show Q37.f k ([]:List Int) 1 (a:Int)=_ from U5 (w:=1) (.inl rfl) (by simp) hk,bS,show Q37.f k _ 1 (b:Int)=_ from U5 (w:=1) (.inl rfl) (by simp [Z5,Xb]) hk,bS,
  show Q37.f k _ 2 (d:Int)=_ from U5 (w:=2) (.inr (.inl rfl)) (by simp [Z5,Xb]) hk,bS,show Q37.f k _ 2 (e:Int)=_ from U5 (w:=2) (.inr (.inl rfl)) (by simp [Z5,Xb]) hk,bS,show Q37.f k _ 2 0=_ from U5 (w:=2) (v:=0) (.inr (.inl rfl)) (by simp [Z5,Xb]) hk,bS]
 have z:be 2 0=zs 2:=by decide
 rw [z];simp only [X8,append_assoc,List.nil_append]
theorem B1 {α:Type} (f:α->List UInt8) (x:α) (l:List α):cat f (x :: l)=f x ++ cat f l:=by unfold cat; rw [List.flatMap_cons]
theorem Zf9 {c:Cfg} {n:Nd} (hc:OkC c) (hr:∀ p∈n.2.2.2.2,p.1.length<=cK c/\p.2.length<=cV c) (hl:n.2.2.2.2.length<=2000):∀(m i k:Nat) (x:T2),n.2.2.2.2.length=i+m->m+20<k->x.length+m*400<=9000000->Q44.l0 k c n x (i:Int)=some (x ++ toB (cat (prS (cK c) (cV c)) (n.2.2.2.2.drop i)))
 | 0,i,k+1,x,h,hk,hx=>by
  rw [Q44.l0,iN,dN];simp [cat,toB]
 | m+1,i,k+1,x,h,hk,hx=>by
  obtain ⟨c1,c2,c3,c4,c5,c6,c7,c8,c9⟩:=hc.nat
  have hi:i<n.2.2.2.2.length:=by omega
  have hp:=hr _ (Yw (d:=default) hi);rw [Q44.l0,iP,iO,Zv]; (try rw [Gh]); rw [Zkb hc (by omega) hp.1 hp.2 (by omega),bS,wS2,Zf9 hc hr hl m (i+1) k _ (by omega) (by omega) (by rw [lA,Z5,Bq hp.1 hp.2]; omega),Yu hi,B1,X8,append_assoc]
theorem Zp5 {c:Cfg} {n:Nd} (hc:OkC c) (hr:∀ p∈n.2.2.2.2,p.1.length<=cK c/\p.2.length<=cV c) (hl:n.2.2.2.2.length<=2000) {k:Nat} (hk:3000<k):Q44.f k c n=some (toB (hdO n ++ bdO c n)):=by
 have e:be 1 1 ++ (be 1 0 ++ (be 2 n.2.2.2.2.length ++ (be 2 0 ++ zs 2)))=hdO n:=by
  unfold hdO;rw [show be 2 0=zs 2 by decide,Jr]; rfl
 unfold Q44.f;rw [show Q36.f k 1 0 (n.2.2.2.2.length:Int) 0=_ from Zmq (a:=1) (b:=0) (e:=0) (by omega) (by omega) (by omega) (by omega) (by omega),bS,e,show Q44.l0 k c n (toB (hdO n)) 0=_ from Zf9 hc hr hl n.2.2.2.2.length 0 k _ (by omega) (by omega) (by rw [Z5,Zjc]; omega),List.drop_zero,<- X8];rfl
theorem Zaz {c:Cfg} {n:Nd} (hc:OkC c) (hr:∀ m∈n.2.2.2.1,m.1.length<=cK c/\m.2.2.length<=cV c) (hl:n.2.2.2.1.length<=2000):∀(m i k:Nat) (x:T2),n.2.2.2.1.length=i+m->m+20<k->x.length+m*400<=8000000->Q43.l2 k c n x (i:Int)=some (x ++ toB (cat (msS (cK c) (cV c)) (n.2.2.2.1.drop i)))
 | 0,i,k+1,x,h,hk,hx=>by
  rw [Q43.l2,iN,dN];simp [cat,toB]
 | m+1,i,k+1,x,h,hk,hx=>by
  obtain ⟨c1,c2,c3,c4,c5,c6,c7,c8,c9⟩:=hc.nat
  have hi:i<n.2.2.2.1.length:=by omega
  have hp:=hr _ (Yw (d:=default) hi);rw [Q43.l2,iP,iO,Zv]; (try rw [Gh]); rw [show Q37.f k x 1 2=_ from U5 (w:=1) (v:=2) (.inl rfl) (by omega) (by omega),show Q37.f k x 1 1=_ from U5 (w:=1) (v:=1) (.inl rfl) (by omega) (by omega),bS,bS,
   Zkb hc (by rw [lA,Z5,Xb]; omega) hp.1 hp.2 (by omega),Zkb hc (by rw [lA,Z5,Xb]; omega) hp.1 hp.2 (by omega),bS,bS,wS2,
   Zaz hc hr hl m (i+1) k _ (by omega) (by omega) (by rw [lA,lA,Z5,Z5,Xb,Bq hp.1 hp.2]; omega),Zaz hc hr hl m (i+1) k _ (by omega) (by omega) (by rw [lA,lA,Z5,Z5,Xb,Bq hp.1 hp.2]; omega),Yu hi,B1]
  unfold msS;cases (n.2.2.2.1.getD i default).2.1
  ·rw [vS,vS,show be 1 1=[1] by decide,X8,append_assoc,append_assoc]; rfl
  ·rw [iT rfl,iT rfl,show be 1 2=[2] by decide,X8,append_assoc,append_assoc]; rfl
theorem Zpp (K:Nat):pvS K []=zs (1+K):=by
 unfold pvS slt;rw [show be 1 ([]:List UInt8).length=zs 1 by decide,List.nil_append,Jr]; rfl
theorem Zdr {c:Cfg} {n:Nd} (hc:OkC c) (hr:∀ m∈n.2.2.2.1,m.1.length<=cK c/\m.2.2.length<=cV c) (hl:n.2.2.2.1.length<=2000):∀(m i k:Nat) (x:T2),cFa c - 1=i+m->n.2.2.1.length<=i->m+2100<k->x.length+m*400<=7000000->Q43.l1 k c n x (i:Int)=some (x ++ toB (zs ((1+cK c)*m) ++ cat (msS (cK c) (cV c)) n.2.2.2.1))
 | 0,i,k+1,x,h,hz,hk,hx=>by
  replace hx:x.length<=7000000:=by simpa using hx
  obtain ⟨c1,c2,c3,c4,c5,c6,c7,c8,c9⟩:=hc.nat
  have e:w64 (c.2.2.2.1 - 1)=((cFa c - 1:Nat):Int):=by rw [hc.int.f,wI2]; omega
  rw [Q43.l1,e,iN,show Q43.l2 k c n x 0=_ from Zaz hc hr hl n.2.2.2.1.length 0 k x (by omega) (by omega) (by omega),List.drop_zero];simp [zs]
 | m+1,i,k+1,x,h,hz,hk,hx=>by
  obtain ⟨c1,c2,c3,c4,c5,c6,c7,c8,c9⟩:=hc.nat
  have e:w64 (c.2.2.2.1 - 1)=((cFa c - 1:Nat):Int):=by rw [hc.int.f,wI2]; omega
  have hp:(pvS (cK c) []).length=1+cK c:=Zec (Nat.zero_le _);rw [Q43.l1,e,iP,iN,show uH.wrap ((([]:List UInt8).length:Nat):Int)=((0:Nat):Int) from rfl,show Q37.f k x 1 ((0:Nat):Int)=_ from U5 (w:=1) (.inl rfl) (by omega) (by omega),bS,hc.int.k,Zgm (by rw [lA,Z5,Xb]; omega) (Nat.zero_le _) (by omega),bS,wS2];have e2:(x ++ toB (be 1 0)) ++ toB (slt [] (cK c))=x ++ toB (zs (1+cK c)):=by
   rw [append_assoc,<- X8,<- Zpp]; rfl
  rw [e2,Zdr hc hr hl m (i+1) k _ (by omega) (by omega) (by omega) (by rw [lA,Z5,Jj]; omega),append_assoc,<- X8,<- append_assoc (zs (1+cK c)),Jr,show 1+cK c+(1+cK c)*m=(1+cK c)*(m+1) by rw [Nat.mul_add]; omega]
theorem Zfd {c:Cfg} {n:Nd} (hc:OkC c) (hp:∀ p∈n.2.2.1,p.length<=cK c) (hpl:n.2.2.1.length<=cFa c - 1) (hr:∀ m∈n.2.2.2.1,m.1.length<=cK c/\m.2.2.length<=cV c) (hl:n.2.2.2.1.length<=2000):∀(m i k:Nat) (x:T2),n.2.2.1.length=i+m->m+2300<k->x.length+m*400<=6000000->Q43.l1 k c n x (i:Int)=some (x ++ toB (cat (pvS (cK c)) (n.2.2.1.drop i) ++ (zs ((1+cK c)*(cFa c - 1 - n.2.2.1.length)) ++ cat (msS (cK c) (cV c)) n.2.2.2.1)))
 | 0,i,k,x,h,hk,hx=>by
  replace hx:x.length<=6000000:=by simpa using hx
  obtain ⟨c1,c2,c3,c4,c5,c6,c7,c8,c9⟩:=hc.nat
  rw [Zdr hc hr hl (cFa c - 1 - n.2.2.1.length) i k x (by omega) (by omega) (by omega) (by omega),dN];simp [cat]
 | m+1,i,k+1,x,h,hk,hx=>by
  obtain ⟨c1,c2,c3,c4,c5,c6,c7,c8,c9⟩:=hc.nat
  have hi:i<n.2.2.1.length:=by omega
  have hpi:=hp _ (Yw (d:=default) hi);have e:w64 (c.2.2.2.1 - 1)=((cFa c - 1:Nat):Int):=by rw [hc.int.f,wI2]; omega
  rw [Q43.l1,e,iP,iP,iO,Zv,V0,show Q37.f k x 1 (((n.2.2.1.getD i default).length:Nat):Int)=_ from U5 (w:=1) (.inl rfl) (by omega) (by omega),bS,hc.int.k,Zgm (by rw [lA,Z5,Xb]; omega) hpi (by omega),bS,wS2];have e2:(x ++ toB (be 1 (n.2.2.1.getD i default).length)) ++ toB (slt (n.2.2.1.getD i default) (cK c))=x ++ toB (pvS (cK c) (n.2.2.1.getD i default)):=by
   rw [append_assoc,<- X8]; rfl
  rw [e2,Zfd hc hp hpl hr hl m (i+1) k _ (by omega) (by omega) (by rw [lA,Z5,Zec hpi]; omega),append_assoc,<- X8,Yu hi,B1,append_assoc]
def Zks (c:Cfg) (n:Nd):List UInt8:=cat (pvS (cK c)) n.2.2.1 ++ (zs ((1+cK c)*(cFa c - 1 - n.2.2.1.length)) ++ cat (msS (cK c) (cV c)) n.2.2.2.1)
theorem Zdl {c:Cfg} {n:Nd} (hc:OkC c) (hp:∀ p∈n.2.2.1,p.length<=cK c) (hpl:n.2.2.1.length<=cFa c - 1) (hr:∀ m∈n.2.2.2.1,m.1.length<=cK c/\m.2.2.length<=cV c) (hl:n.2.2.2.1.length<=2000):∀(m i k:Nat) (x:T2),cFa c=i+m->n.2.1.length<=i->m+2500<k->x.length+m*400<=5000000->Q43.l0 k c n x (i:Int)=some (x ++ toB (zs (4*m) ++ Zks c n))
 | 0,i,k+1,x,h,hz,hk,hx=>by
  replace hx:x.length<=5000000:=by simpa using hx
  obtain ⟨c1,c2,c3,c4,c5,c6,c7,c8,c9⟩:=hc.nat
  rw [Q43.l0,hc.int.f,iN,show Q43.l1 k c n x 0=_ from Zfd hc hp hpl hr hl n.2.2.1.length 0 k x (by omega) (by omega) (by omega),List.drop_zero];simp [zs,Zks]
 | m+1,i,k+1,x,h,hz,hk,hx=>by
  obtain ⟨c1,c2,c3,c4,c5,c6,c7,c8,c9⟩:=hc.nat
  rw [Q43.l0,hc.int.f,iP,iN,show Q37.f k x 4 0=_ from U5 (w:=4) (v:=0) (.inr (.inr rfl)) (by omega) (by omega),bS,wS2,show be 4 0=zs 4 by decide,
   Zdl hc hp hpl hr hl m (i+1) k _ (by omega) (by omega) (by omega) (by rw [lA,Z5,Jj]; omega),append_assoc,<- X8,<- append_assoc (zs 4),Jr,show 4+4*m=4*(m+1) by omega]
theorem Zfn {c:Cfg} {n:Nd} (hc:OkC c) (hkd:∀ x∈n.2.1,0<=x/\x<4294967296) (hkl:n.2.1.length<=cFa c) (hp:∀ p∈n.2.2.1,p.length<=cK c) (hpl:n.2.2.1.length<=cFa c - 1) (hr:∀ m∈n.2.2.2.1,m.1.length<=cK c/\m.2.2.length<=cV c) (hl:n.2.2.2.1.length<=2000):∀(m i k:Nat) (x:T2),n.2.1.length=i+m->m+2700<k->x.length+m*400<=4000000->Q43.l0 k c n x (i:Int)=some (x ++ toB (cat kdS (n.2.1.drop i) ++ (zs (4*(cFa c - n.2.1.length)) ++ Zks c n)))
 | 0,i,k,x,h,hk,hx=>by
  replace hx:x.length<=4000000:=by simpa using hx
  obtain ⟨c1,c2,c3,c4,c5,c6,c7,c8,c9⟩:=hc.nat
  rw [Zdl hc hp hpl hr hl (cFa c - n.2.1.length) i k x (by omega) (by omega) (by omega) (by omega),dN];simp [cat]
 | m+1,i,k+1,x,h,hk,hx=>by
  obtain ⟨c1,c2,c3,c4,c5,c6,c7,c8,c9⟩:=hc.nat
  have hi:i<n.2.1.length:=by omega
  have hki:=hkd _ (Yw (d:=default) hi);obtain ⟨q,hq⟩:=Int.eq_ofNat_of_zero_le hki.1;rw [Q43.l0,hc.int.f,iP,iP,iO,Zv,hq,V0,show Q37.f k x 4 (q:Int)=_ from U5 (w:=4) (.inr (.inr rfl)) (by omega) (by omega),bS,wS2];have e2:be 4 q=kdS (n.2.1.getD i default):=by unfold kdS; rw [hq]; rfl
  rw [e2,Zfn hc hkd hkl hp hpl hr hl m (i+1) k _ (by omega) (by omega) (by rw [lA,Z5,show (kdS (n.2.1.getD i default)).length=4 from Xb _ _]; omega),append_assoc,<- X8,Yu hi,B1,append_assoc]
theorem Zpk {c:Cfg} {n:Nd} (hc:OkC c) (hn:FitN c n) (h0:n.1≠0) {k:Nat} (hk:3000<k):Q43.f k c n=some (toB (hdI n ++ bdI c n)):=by
 obtain ⟨c1,c2,c3,c4,c5,c6,c7,c8,c9⟩:=hc.nat
 obtain ⟨a1,a2,a3,a4,a5⟩:=hn.i h0;have hlv:=hn.lv;obtain ⟨lv,hl⟩:=Int.eq_ofNat_of_zero_le hlv.1;have e:be 1 2 ++ (be 1 lv ++ (be 2 n.2.1.length ++ (be 2 n.2.2.2.1.length ++ zs 2)))=hdI n:=by
  unfold hdI;rw [hl,tN]; rfl
 unfold Q43.f;rw [hl,show Q36.f k 2 (lv:Int) (n.2.1.length:Int) (n.2.2.2.1.length:Int)=_ from Zmq (a:=2) (by omega) (by omega) (by omega) (by omega) (by omega),bS,e,show Q43.l0 k c n (toB (hdI n)) 0=_ from Zfn hc hn.kd (by omega) hn.pk (by omega) hn.ms (by omega) n.2.1.length 0 k _ (by omega) (by omega) (by rw [Z5,Zjd]; omega),List.drop_zero,<- X8];rfl
theorem Zbx {c:Cfg} {n:Nd} (hok:okB c=true) (hn:FitN c n):(Be c n).length<=cBy c/\cBy c<=65536/\c.2.1=(cBy c:Int):=by
 simp only [okB,Bool.and_eq_true,dE] at hok;obtain ⟨h1,h2,h3,h4,h5,h6⟩:=hok;have hc:=Bx h1;obtain ⟨c1,c2,c3,c4,c5,c6,c7,c8,c9⟩:=hc.nat
 have hi:=hc.int;have hB:c.2.1=(cBy c:Int):=by unfold cBy; omega
 refine ⟨?_,by omega,hB⟩;unfold Be;by_cases h0:n.1=0
 ·rw [iT h0,lA,Zjc,Zpl hn];have hl:=(hn.o h0).2.2.2;have hm:n.2.2.2.2.length*(3+cK c+cV c)<=cLe c*(3+cK c+cV c):=Nat.mul_le_mul_right _ hl;have:Gb c=((8+cLe c*(3+cK c+cV c):Nat):Int):=by
   unfold Gb;rw [hi.l,hi.k,hi.v]
   push_cast
   rfl
  omega
 ·rw [iF h0,lA,Zjd,Zpj hn h0];have hl:=(hn.i h0).2.2.2.2;have hm:n.2.2.2.1.length*(4+cK c+cV c)<=cBu c*(4+cK c+cV c):=Nat.mul_le_mul_right _ hl;have:Ju c=((8+(4+(cFa c - 1)*(5+cK c)+cBu c*(4+cK c+cV c)):Nat):Int):=by
   unfold Ju;rw [hi.f,hi.b,hi.k,hi.v];have:((cFa c:Int) - 1)=((cFa c - 1:Nat):Int):=by omega
   rw [this]
   push_cast
   rfl
  have e2:(cFa c - 1)*(5+cK c)=4*(cFa c - 1)+(1+cK c)*(cFa c - 1):=by
   rw [show 5+cK c=4+(1+cK c) by omega,Nat.mul_add,Nat.mul_comm _ 4,Nat.mul_comm (cFa c - 1) (1+cK c)]
  omega
theorem Jp {c:Cfg} {n:Nd} (hc:OkC c) (hkd:∀ x∈n.2.1,0<=x/\x<4294967296) (h:Ym c X9 n=true):FitN c n:=by
 have hi:=hc.int;unfold Ym at h;by_cases h0:n.1=0
 ·rw [iT h0] at h;simp only [Zkl,prB,Xf,Bool.and_eq_true,dE,List.all_eq_true] at h;obtain ⟨a1,a2,a3,a4,a5,a6⟩:=h;refine ⟨by omega,hkd,fun _=>⟨a2,a3,a4,by have:=hi.l; omega⟩,fun z=>absurd h0 z,fun p hp=>by rw [a3] at hp; simp at hp,fun p hp=>by rw [a4] at hp; simp at hp,fun p hp=>?_⟩;have:=a1 p hp;have hk:=hi.k;have hv:=hi.v;exact ⟨by omega,by omega⟩
 ·rw [iF h0] at h;simp only [Zkw,Zke,Zka,Zcv,Xf,Bool.and_eq_true,dE,List.all_eq_true] at h;obtain ⟨b0,b1,b2,b3,b4,b5,b6,b7,b8,b9,b10,b11⟩:=h;have hk:=hi.k;have hv:=hi.v;have hf:=hi.f;have hb:=hi.b;exact ⟨by omega,hkd,fun z=>absurd z h0,fun _=>⟨b5,b6,by omega,by omega,by omega⟩,fun p hp=>by have:=b2 p hp; omega,fun p hp=>by have:=b3 p hp; omega,fun p hp=>by rw [b5] at hp; simp at hp⟩
def Uj (c:Cfg) (n:Nd):List Int×Int:=if okB c=true then (if Ym c X9 n=true then (toB (Bf c n),0) else ([],3)) else ([],2)
theorem Jw {c:Cfg} (h:okB c=true):OkC c:=by
 simp only [okB,Bool.and_eq_true] at h;exact Bx h.1
theorem Zqy {c:Cfg} {n:Nd} (h1:n.2.1.length<=80) (h2:n.2.2.1.length<=80) (h3:n.2.2.2.1.length<=2000) (h4:n.2.2.2.2.length<=2000) (hl:∀ x∈n.2.1,0<=x/\x<4294967296):Ev (fun k=>Q35.f k c n) (Uj c n):=by
 have hbig:Ev (fun k=>if 10000<k then some () else none) ():=⟨10001,fun k hk=>iO⟩
 refine (Zd0 (c:=c) (s:=X9) h1 h2 (by omega) (by omega) hl).next2 hbig fun k k1 k2=>?_;have k2:10000<k:=by
  by_cases z:10000<k
  ·exact z
  ·rw [iF z] at k2; cases k2
 unfold Q35.f Uj
 (try rw [Gh]); (try rw [Zsq]); rw [Zdq,bS]
 cases hok:okB c with
 | false=>rfl
 | true=>
  have hc:=Jw hok;rw [iT rfl,vS,iT rfl,Q59.f,bS,show Q66.f k c (([]:List UInt8),([]:List UInt8),true) n=_ from k1,bS];cases hr:Ym c X9 n with
  | false=>rfl
  | true=>
   have hn:=Jp hc hl hr;obtain ⟨r1,r2,r3⟩:=Zbx hok hn;rw [vS,iT rfl];by_cases h0:n.1=0
   ·have er:Be c n=hdO n ++ bdO c n:=iT h0;have e:w64 ((cBy c:Int) - ((hdO n ++ bdO c n).length:Int))=((cBy c - (Be c n).length:Nat):Int):=by rw [<- er,wI2]; omega
    rw [iN,Zp5 hc hn.rk h4 (by omega),bS,Z5,r3,e,iT (by rw [<- er]; omega),tN,<- Zgz,<- X8];unfold Bf slt;rw [er]
   ·have hlv:=hn.lv;have er:Be c n=hdI n ++ bdI c n:=iF h0;have e:w64 ((cBy c:Int) - ((hdI n ++ bdI c n).length:Int))=((cBy c - (Be c n).length:Nat):Int):=by rw [<- er,wI2]; omega
    rw [iP,Zpk hc hn h0 (by omega),bS,Z5,r3,e,iT (by rw [<- er]; omega),tN,<- Zgz,<- X8];unfold Bf slt;rw [er]
def rbS (s:TU) (n:Nat):List UInt8×TU:=if s.2=0 then (if s.1.length<n then ([],([],5)) else (s.1.take n,(s.1.drop n,0))) else ([],s)
def iS (s:TU):List Int×Int:=(toB s.1,s.2)
def spS (s:TU) (x:Int):List UInt8×Int:=([],if s.2=0 then x else s.2)
theorem Zih (a:TY) (n:Nat):(toB a).take n=toB (a.take n):=by simp [toB,List.map_take]
theorem Zho (a:TY) (n:Nat):(toB a).drop n=toB (a.drop n):=by simp [toB,List.map_drop]
theorem Zbo (s:TU) (x:Int):Q163.f ((iS s).1,(iS s).2) x=some (iS (spS s x)):=by
 unfold Q163.f iS spS;by_cases h:s.2=0 <;> simp [h,toB]
theorem Znb (s:TU) {n:Nat} (hn:n<=100000):Q158.f (iS s) (n:Int)=some (toB (rbS s n).1,iS (rbS s n).2):=by
 unfold Q158.f;rw [Zbo,Zbo,bS,bS];unfold rbS iS spS;by_cases h:s.2=0
 ·rw [iF (by simp [h]),vS,iT h];by_cases h2:s.1.length<n
  ·rw [iT (dT (by rw [Z5]; omega)),iT h2];simp [h,toB]
  ·rw [iF (by simp only [Z5,dE]; omega),iF h2,iO,iT (by rw [Z5]; omega),tN];have:patch (List.replicate n (0:Int)) 0 (List.replicate n (0:Int)).length (toB s.1)=toB (s.1.take n):=by
    unfold patch;rw [length_replicate,Z5,show 0+min n s.1.length=n by omega,drop_eq_nil_of_le (by simp),List.take_zero,List.nil_append,List.append_nil,Zih]
   rw [this,Zho,h];simp
 ·rw [iT (by simp [h]),iF h];rfl
def Zx (s:TU) (w:Nat):Nat×TU:=(rdv (rbS s w).1,(rbS s w).2)
theorem Zbu (s:TU) (n:Nat):(rbS s n).1.length<=n:=by
 unfold rbS;split
 ·split
  ·exact Nat.zero_le _
  ·rw [length_take]; omega
 ·exact Nat.zero_le _
theorem V8 (s:TU) (w:Nat):(Zx s w).1<256 ^ w:=Nat.lt_of_lt_of_le (Zhl _) (Nat.pow_le_pow_right (by omega) (Zbu s w))
theorem Znx (l:TY) (c:UInt8):rdv (l ++ [c])=rdv l*256+c.toNat:=by
 unfold rdv;rw [List.foldl_append]; rfl
theorem orb {x c:Nat} (hx:x<4294967296) (hc:c<256):uH.wrap (((ofInt uH.bits (uH.wrap ((x:Int)*2 ^ 8)) ||| (ofInt uH.bits (uH.wrap (c:Int)))).toNat:Int))=((x*256+c:Nat):Int):=by
 have e1:(x:Int)*2 ^ 8=((x*256:Nat):Int):=by omega
 rw [e1,V0 (n:=x*256) (by omega),V0 (n:=c) (by omega)];have e2:(ofInt uH.bits ((x*256:Nat):Int) ||| ofInt uH.bits (c:Int)).toNat=x*256+c:=by
  show (ofInt 64 ((x*256:Nat):Int) ||| ofInt 64 (c:Int)).toNat=x*256+c;rw [BitVec.toNat_or,BitVec.ofInt_natCast,BitVec.ofInt_natCast,BitVec.toNat_ofNat,BitVec.toNat_ofNat,Nat.mod_eq_of_lt (by omega),Nat.mod_eq_of_lt (by omega)];have:=Nat.shiftLeft_add_eq_or_of_lt (i:=8) (b:=c) hc x;rw [Nat.shiftLeft_eq] at this;rw [show x*256=x*2 ^ 8 from rfl,<- this]
 rw [e2,V0]
theorem Zmv (l:TY) (st:TX) (hl:l.length<=4):∀(m i k:Nat),l.length=i+m->m<k->Q157.l0 k (toB l,st) ((rdv (l.take i):Nat):Int) (i:Int)=some (((rdv l:Nat):Int),st)
 | 0,i,k+1,h,_=>by
  rw [Q157.l0,iF (by simp only [Z5,dE]; omega),tO]
 | m+1,i,k+1,h,hk=>by
  have hi:i<l.length:=by omega
  have hv:=Zhl (l.take i);have hv2:256 ^ (l.take i).length<=256 ^ 3:=Nat.pow_le_pow_right (by omega) (by rw [length_take]; omega);have e:gt (toB l) (i:Int)=(((l[i]'hi).toNat:Nat):Int):=by
   rw [Zv,List.getD_eq_getElem?_getD];simp [toB,hi]
  have hc:=(l[i]'hi).toNat_lt;rw [Q157.l0,iT (dT (by rw [Z5]; omega)),iT (by rw [Z5]; omega),e,orb (by omega) (by omega),wS2,<- Znx];have:=Zmv l st hl m (i+1) k (by omega) (by omega);rw [List.take_add_one,List.getElem?_eq_getElem hi] at this;exact this
theorem J0 (s:TU) {w:Nat} (hw:w=1\/w=2\/w=4) {k:Nat} (hk:10<k):Q157.f k ((iS s).1,(iS s).2) (w:Int)=some (((Zx s w).1:Int),((iS (Zx s w).2).1,(iS (Zx s w).2).2)):=by
 unfold Q157.f Q164.f;have hr:(if (decide ((w:Int)=1))=true then (some true) else (if (decide ((w:Int)=2))=true then (some true) else (if (decide ((w:Int)=4))=true then (some true) else (some (decide ((w:Int)=8))))))=some true:=by
  rcases hw with rfl | rfl | rfl <;> rfl
 have hl:=Zbu s w;rw [hr,bS,vS,show Q158.f ((iS s).1,(iS s).2) (w:Int)=_ from Znb s (by omega),bS];have:=Zmv (rbS s w).1 (iS (rbS s w).2) (by omega) (rbS s w).1.length 0 k (by omega) (by omega);exact this
def nzS (l:TY):Bool:=l.any fun x=>!decide (x=0)
theorem Zm2 (l:TY):((toB l).any fun x=>!decide (x=0))=nzS l:=by
 unfold nzS toB;rw [List.any_map];congr 1;funext x;have:((x.toNat:Int)=0)↔x=0:=by
  constructor
  ·intro h;have h2:x.toNat=0:=by omega
   exact UInt8.toNat_inj.1 (by simpa using h2)
  ·rintro rfl; rfl
 simp only [Function.comp,this]
theorem Zri (l:TY) {k:Nat} (hl:l.length<=10000) (hk:l.length<k):Q96.f k (toB l)=some (nzS l):=by
 obtain ⟨r,h1,h2⟩:=U3 (l:=toB l) (F:=fun k i=>Q102.l0 k (toB l) i) (p:=fun x:Int=>!decide (x=0)) (by rw [Z5]; omega) (fun k i=>by
  show Q102.l0 (k+1) (toB l) i=_;rw [Q102.l0,Q162.f,bS]) (toB l).length 0 k (by omega) (by rw [Z5]; exact hk)
 unfold Q96.f Q102.f;rw [show Q102.l0 k (toB l) 0=_ from h1,bS,h2,List.drop_zero,Zm2]
theorem Zrz (l:TY) {k:Nat} (hl:l.length<=10000) (hk:l.length<k):Q95.f k (toB l)=some (nzS l):=by
 obtain ⟨r,h1,h2⟩:=U3 (l:=toB l) (F:=fun k i=>Q101.l0 k (toB l) i) (p:=fun x:Int=>!decide (x=0)) (by rw [Z5]; omega) (fun k i=>by
  show Q101.l0 (k+1) (toB l) i=_;rw [Q101.l0,Q160.f,bS]) (toB l).length 0 k (by omega) (by rw [Z5]; exact hk)
 unfold Q95.f Q101.f;rw [show Q101.l0 k (toB l) 0=_ from h1,bS,h2,List.drop_zero,Zm2]
def Ur (s:TU) (n:Nat):List UInt8×Int:=if nzS (rbS s n).1=true then spS (rbS s n).2 3 else (rbS s n).2
theorem Zpx (s:TU) {n:Nat} (hn:n<=100) {k:Nat} (hk:1000<k):Q161.f k ((iS s).1,(iS s).2) (n:Int)=some ((iS (Ur s n)).1,(iS (Ur s n)).2):=by
 have hl:=Zbu s n;unfold Q161.f Ur;rw [show Q158.f ((iS s).1,(iS s).2) (n:Int)=_ from Znb s (by omega),bS,Zri _ (by omega) (by omega),bS];cases nzS (rbS s n).1
 ·rfl
 ·rw [iT rfl,iT rfl,Zbo,bS]
def Vz (s:TU) (n most:Nat):List UInt8×TU:=if most<n then ([],spS s 2) else if (rbS s most).1.length<most then ([],(rbS s most).2) else if nzS ((rbS s most).1.drop n)=true then ([],spS (rbS s most).2 3) else ((rbS s most).1.take n,(rbS s most).2)
theorem Zim (s:TU) (n:Nat) {most:Nat} (hm:most<=1000) {k:Nat} (hk:2000<k):Q159.f k ((iS s).1,(iS s).2) (n:Int) (most:Int)=some ((Vz s n most).1,((iS (Vz s n most).2).1,(iS (Vz s n most).2).2)):=by
 have hl:=Zbu s most;unfold Q159.f Vz;rw [vS,show Q158.f ((iS s).1,(iS s).2) (most:Int)=_ from Znb s (by omega),Zbo,bS,bS];by_cases h1:most<n
 ·rw [iP,iT h1]
 ·rw [iN,iF h1];dsimp only;by_cases h2:(rbS s most).1.length<most
  ·rw [iT (dT (by rw [Z5]; omega)),iT h2]
  ·rw [iF (by simp only [Z5,dE]; omega),iF h2,iT (by rw [Z5]; omega),tN,Zho,Zrz _ (by rw [length_drop]; omega) (by rw [length_drop]; omega),bS];cases nzS ((rbS s most).1.drop n)
   ·rw [vS,iT (by rw [Z5]; omega),vS,Zih,Zca]
   ·rw [iT rfl,iT rfl,Zbo,bS]
def Vy (c:Cfg) (s:TU):Pr×TU:=
 let k:=Zx s 1
 let v:=Zx k.2 2
 let x:=Vz v.2 k.1 (cK c)
 let y:=Vz x.2 v.1 (cV c)
 ((x.1,y.1),y.2)
theorem Zlg {c:Cfg} (hc:OkC c) (s:TU) {k:Nat} (hk:2000<k):Q41.f k c ((iS s).1,(iS s).2)=some ((Vy c s).1.1,(Vy c s).1.2,((iS (Vy c s).2).1,(iS (Vy c s).2).2)):=by
 obtain ⟨c1,c2,c3,c4,c5,c6,c7,c8,c9⟩:=hc.nat
 have l1:=V8 s 1;have l2:=V8 (Zx s 1).2 2;unfold Q41.f Vy;rw [show Q157.f k ((iS s).1,(iS s).2) 1=_ from J0 s (w:=1) (.inl rfl) (by omega),bS,show Q157.f k _ 2=_ from J0 (Zx s 1).2 (w:=2) (.inr (.inl rfl)) (by omega),bS];dsimp only;rw [wI2 (x:=((Zx s 1).1:Int)),wI2 (x:=((Zx (Zx s 1).2 2).1:Int)),hc.int.k,hc.int.v,Zim _ _ (by omega) (by omega),bS];dsimp only;rw [Zim _ _ (by omega) (by omega),bS]
def Ge (c:Cfg):Nat->List UInt8×Int->List Pr->List Pr×TU
 | 0,s,acc=>(acc,s)
 | m+1,s,acc=>Ge c m (Vy c s).2 (acc ++ [(Vy c s).1])
theorem Zig {c:Cfg} (hc:OkC c) (cnt:Nat):∀(m i k:Nat) (s:TU) (acc:List Pr),min (cLe c) cnt=i+m->m+2100<k->acc.length+m<=5000->Q40.l0 k c (cnt:Int) (iS s).1 (iS s).2 acc (i:Int)=some ((0,([]:List Int),([]:List TY),([]:List Msg),(Ge c m s acc).1),((iS (Ge c m s acc).2).1,(iS (Ge c m s acc).2).2))
 | 0,i,k+1,s,acc,h,hk,ha=>by
  have hi:=hc.int;rw [Q40.l0,hi.l,iF (by simp only [dE]; split <;> omega)];rfl
 | m+1,i,k+1,s,acc,h,hk,ha=>by
  obtain ⟨c1,c2,c3,c4,c5,c6,c7,c8,c9⟩:=hc.nat
  have hi:=hc.int;rw [Q40.l0]; (try rw [Gh]); rw [hi.l,iT (dT (by split <;> omega)),Zlg hc s (by omega),bS,iT (by simp only [List.length_singleton]; omega),wS2]
  exact Zig hc cnt m (i+1) k (Vy c s).2 (acc ++ [(Vy c s).1]) (by omega) (by omega) (by simp; omega)
def W0:Nat->Nat->Nat->List UInt8×Int->List Int->List Int×TU
 | 0,_,_,s,acc=>(acc,s)
 | m+1,i,cnt,s,acc=>W0 m (i+1) cnt (Zx s 4).2 (if i<cnt then acc ++ [((Zx s 4).1:Int)] else acc)
def Wp (c:Cfg):Nat->Nat->Nat->List UInt8×Int->List TY->List TY×TU
 | 0,_,_,s,acc=>(acc,s)
 | m+1,i,cnt,s,acc=>Wp c m (i+1) cnt (Vz (Zx s 1).2 (Zx s 1).1 (cK c)).2 (if i+1<cnt then acc ++ [(Vz (Zx s 1).2 (Zx s 1).1 (cK c)).1] else acc)
def Va (c:Cfg):Nat->List UInt8×Int->List Msg->List Msg×TU
 | 0,s,acc=>(acc,s)
 | m+1,s,acc=>Va c m (Vy c (Zx s 1).2).2 (acc ++ [((Vy c (Zx s 1).2).1.1,decide (((Zx s 1).1:Int)=2),(Vy c (Zx s 1).2).1.2)])
theorem Zi1 {c:Cfg} (hc:OkC c) (lv:Int) (bf:Nat) (ks:T2) (ps:TQ):∀(m i k:Nat) (s:TU) (acc:List Msg),min (cBu c) bf=i+m->m+2100<k->acc.length+m<=5000->Q39.l2 k c lv (bf:Int) ks ps (iS s).1 (iS s).2 acc (i:Int)=some ((lv,ks,ps,(Va c m s acc).1,([]:List Pr)),((iS (Va c m s acc).2).1,(iS (Va c m s acc).2).2))
 | 0,i,k+1,s,acc,h,hk,ha=>by
  have hi:=hc.int;rw [Q39.l2,hi.b,iF (by simp only [dE]; split <;> omega)];rfl
 | m+1,i,k+1,s,acc,h,hk,ha=>by
  obtain ⟨c1,c2,c3,c4,c5,c6,c7,c8,c9⟩:=hc.nat
  have hi:=hc.int;rw [Q39.l2]; (try rw [Gh]); rw [hi.b,iT (dT (by split <;> omega)),show Q157.f k ((iS s).1,(iS s).2) 1=_ from J0 s (w:=1) (.inl rfl) (by omega),bS]
  dsimp only;rw [Zlg hc _ (by omega),bS,iT (by simp only [List.length_singleton]; omega),wS2];exact Zi1 hc lv bf ks ps m (i+1) k _ _ (by omega) (by omega) (by simp; omega)
theorem Zeg {c:Cfg} (hc:OkC c) (lv:Int) (cnt bf:Nat) (hcnt:cnt<=100000) (ks:T2):∀(m i k:Nat) (s:TU) (acc:TQ),cFa c - 1=i+m->m+3200<k->acc.length+m<=5000->
  Q39.l1 k c lv (cnt:Int) (bf:Int) ks (iS s).1 (iS s).2 acc (i:Int)=some ((lv,ks,(Wp c m i cnt s acc).1,(Va c (min (cBu c) bf) (Wp c m i cnt s acc).2 []).1,([]:List Pr)),((iS (Va c (min (cBu c) bf) (Wp c m i cnt s acc).2 []).2).1,(iS (Va c (min (cBu c) bf) (Wp c m i cnt s acc).2 []).2).2))
 | 0,i,k+1,s,acc,h,hk,ha=>by
  obtain ⟨c1,c2,c3,c4,c5,c6,c7,c8,c9⟩:=hc.nat
  have hi:=hc.int;rw [Q39.l1,hi.f,wI2 (x:=(cFa c:Int) - 1),iN];exact Zi1 hc lv bf ks acc (min (cBu c) bf) 0 k s [] (by omega) (by omega) (by simp; omega)
 | m+1,i,k+1,s,acc,h,hk,ha=>by
  obtain ⟨c1,c2,c3,c4,c5,c6,c7,c8,c9⟩:=hc.nat
  have hi:=hc.int;have l1:=V8 s 1;rw [Q39.l1,hi.f,wI2 (x:=(cFa c:Int) - 1),iP,show Q157.f k ((iS s).1,(iS s).2) 1=_ from J0 s (w:=1) (.inl rfl) (by omega),bS];dsimp only;rw [wI2 (x:=((Zx s 1).1:Int)),hi.k,Zim _ _ (by omega) (by omega),bS,wS2];dsimp only;by_cases q:i+1<cnt
  ·rw [iP,iT (by simp only [List.length_singleton]; omega)];have:=Zeg hc lv cnt bf hcnt ks m (i+1) k (Vz (Zx s 1).2 (Zx s 1).1 (cK c)).2 (acc ++ [(Vz (Zx s 1).2 (Zx s 1).1 (cK c)).1]) (by omega) (by omega) (by simp; omega);rw [this,Wp,iT q]
  ·rw [iN];have:=Zeg hc lv cnt bf hcnt ks m (i+1) k (Vz (Zx s 1).2 (Zx s 1).1 (cK c)).2 acc (by omega) (by omega) (by omega);rw [this,Wp,iF q]
def Znu (c:Cfg) (lv:Int) (cnt bf:Nat) (s:TU):Nd×TU:=
 let a:=W0 (cFa c) 0 cnt s []
 let b:=Wp c (cFa c - 1) 0 cnt a.2 []
 let d:=Va c (min (cBu c) bf) b.2 []
 ((lv,a.1,b.1,d.1,[]),d.2)
theorem Zp8 {n:Nat} (h:n<4294967296):uD.wrap (n:Int)=(n:Int):=by
 have:uD.wrap (n:Int)=((n % 4294967296:Nat):Int):=by simp [IntKind.wrap,IntKind.bits,IntKind.signed]
 rw [this,Nat.mod_eq_of_lt h]
theorem Zef {c:Cfg} (hc:OkC c) (lv:Int) (cnt bf:Nat) (hcnt:cnt<=100000):∀(m i k:Nat) (s:TU) (acc:T2),cFa c=i+m->m+4000<k->acc.length+m<=5000->
  Q39.l0 k c lv (cnt:Int) (bf:Int) (iS s).1 (iS s).2 acc (i:Int)=some ((lv,(W0 m i cnt s acc).1,(Wp c (cFa c - 1) 0 cnt (W0 m i cnt s acc).2 []).1,(Va c (min (cBu c) bf) (Wp c (cFa c - 1) 0 cnt (W0 m i cnt s acc).2 []).2 []).1,([]:List Pr)),((iS (Va c (min (cBu c) bf) (Wp c (cFa c - 1) 0 cnt (W0 m i cnt s acc).2 []).2 []).2).1,(iS (Va c (min (cBu c) bf) (Wp c (cFa c - 1) 0 cnt (W0 m i cnt s acc).2 []).2 []).2).2))
 | 0,i,k+1,s,acc,h,hk,ha=>by
  obtain ⟨c1,c2,c3,c4,c5,c6,c7,c8,c9⟩:=hc.nat
  have hi:=hc.int;rw [Q39.l0,hi.f,iN];exact Zeg hc lv cnt bf hcnt acc (cFa c - 1) 0 k s [] (by omega) (by omega) (by simp; omega)
 | m+1,i,k+1,s,acc,h,hk,ha=>by
  obtain ⟨c1,c2,c3,c4,c5,c6,c7,c8,c9⟩:=hc.nat
  have hi:=hc.int;have l1:=V8 s 4;rw [Q39.l0,hi.f,iP,show Q157.f k ((iS s).1,(iS s).2) 4=_ from J0 s (w:=4) (.inr (.inr rfl)) (by omega),bS,wS2];dsimp only;rw [Zp8 (by omega)];by_cases q:i<cnt
  ·rw [iP,iT (by simp only [List.length_singleton]; omega)];have:=Zef hc lv cnt bf hcnt m (i+1) k (Zx s 4).2 (acc ++ [((Zx s 4).1:Int)]) (by omega) (by omega) (by simp; omega);rw [this,W0,iT q]
  ·rw [iN];have:=Zef hc lv cnt bf hcnt m (i+1) k (Zx s 4).2 acc (by omega) (by omega) (by omega);rw [this,W0,iF q]
def Ud (c:Cfg) (b:TY):Nd×TU:=
 let a1:=Zx (b,0) 1
 let a2:=Zx a1.2 1
 let a3:=Zx a2.2 2
 let a4:=Zx a3.2 2
 let z:=Ur a4.2 2
 if a1.1=1 then ((0,[],[],[],(Ge c (min (cLe c) a3.1) z []).1),(Ge c (min (cLe c) a3.1) z []).2)
 else if a1.1=2 then Znu c (if a2.1>1 then (a2.1:Int) else 1) a3.1 a4.1 z
 else ((-1,[],[],[],[]),z)
theorem Zg6 {α:Type} {a b:List α} {n:Nat} (h:a.length=n):(a ++ b).drop n=b:=by rw [<- h,List.drop_left]
theorem Zil {α:Type} {a b:List α} {n:Nat} (h:a.length=n):(a ++ b).take n=a:=by rw [<- h,List.take_left]
theorem Zen {a r:TY} {n:Nat} (h:a.length=n):rbS (a ++ r,0) n=(a,(r,0)):=by
 unfold rbS;rw [iT rfl,iF (by simp only [lA]; omega),Zil h,Zg6 h]
theorem Wd {w v:Nat} {r:TY} (h:v<256 ^ w):Zx (be w v ++ r,0) w=(v,(r,0)):=by
 unfold Zx;rw [Zen (Xb w v),Zo7 h]
theorem Zmy (n:Nat):nzS (zs n)=false:=by
 unfold nzS zs;rw [List.any_eq_false];intro x hx;rw [List.mem_replicate] at hx;simp [hx.2]
theorem Ze7 (n:Nat) (r:TY):Ur (zs n ++ r,0) n=(r,0):=by
 unfold Ur;rw [Zen (Jj n),iF (by rw [Zmy]; simp)]
theorem G0 {s r:TY} {most:Nat} (h:s.length<=most):Vz (slt s most ++ r,0) s.length most=(s,(r,0)):=by
 unfold Vz;rw [Zen (U9 h),iQ,iF (by rw [U9 h]; omega)];dsimp only;unfold slt;rw [Zg6 rfl,Zil rfl,iF (by rw [Zmy]; simp)]
theorem Zf4 {c:Cfg} (hc:OkC c) {p:Pr} {r:TY} (h1:p.1.length<=cK c) (h2:p.2.length<=cV c):Vy c (prS (cK c) (cV c) p ++ r,0)=(p,(r,0)):=by
 obtain ⟨c1,c2,c3,c4,c5,c6,c7,c8,c9⟩:=hc.nat
 have e:prS (cK c) (cV c) p ++ r=be 1 p.1.length ++ (be 2 p.2.length ++ (slt p.1 (cK c) ++ (slt p.2 (cV c) ++ r))):=by unfold prS; simp only [append_assoc]
 unfold Vy;rw [e,Wd (by omega)];dsimp only;rw [Wd (by omega)];dsimp only;rw [G0 h1];dsimp only;rw [G0 h2]
theorem Zb6 {α:Type} (f:α->List UInt8) (x:α) (l:List α) (r:TY):cat f (x :: l) ++ r=f x ++ (cat f l ++ r):=by unfold cat; rw [List.flatMap_cons,append_assoc]
theorem Zh4 {c:Cfg} (hc:OkC c):∀(l acc:List Pr) (r:TY),(∀ p∈l,p.1.length<=cK c/\p.2.length<=cV c)->Ge c l.length (cat (prS (cK c) (cV c)) l ++ r,0) acc=(acc ++ l,(r,0))
 | [],acc,r,_=>by rw [List.append_nil]; rfl
 | p :: l,acc,r,h=>by
  have hp:=h p (by simp);rw [length_cons,Ge,Zb6,Zf4 hc hp.1 hp.2];dsimp only;rw [Zh4 hc l _ r fun q hq=>h q (by simp [hq]),append_assoc]; rfl
theorem Zhg:∀(z i cnt:Nat) (acc:T2) (r:TY),cnt<=i->W0 z i cnt (zs (4*z) ++ r,0) acc=(acc,(r,0))
 | 0,_,_,_,_,_=>rfl
 | z+1,i,cnt,acc,r,h=>by
  have e:zs (4*(z+1))=be 4 0 ++ zs (4*z):=by
   rw [show be 4 0=zs 4 by decide,Jr]; congr 1; omega
  rw [W0,e,append_assoc,Wd (by decide),iQ];exact Zhg z (i+1) cnt acc r (by omega)
theorem Ze6 (cnt z:Nat) (r:TY):∀(l:T2) (i:Nat) (acc:T2),i+l.length=cnt->(∀ x∈l,0<=x/\x<4294967296)->W0 (l.length+z) i cnt (cat kdS l ++ (zs (4*z) ++ r),0) acc=(acc ++ l,(r,0))
 | [],i,acc,h,_=>by
  rw [List.append_nil,length_nil,Nat.zero_add];exact Zhg z i cnt acc r (by simpa using Nat.le_of_eq h.symm)
 | x :: l,i,acc,h,hx=>by
  have hx0:=hx x (by simp);rw [length_cons] at h;rw [length_cons,show l.length+1+z=(l.length+z)+1 by omega,W0,Zb6];unfold kdS;rw [Wd (v:=x.toNat) (by omega)];dsimp only;rw [iO,show ((x.toNat:Nat):Int)=x by omega];have:=Ze6 cnt z r l (i+1) (acc ++ [x]) (by omega) fun y hy=>hx y (by simp [hy]);rw [append_assoc] at this;exact this
theorem Zhb {c:Cfg} (hc:OkC c):∀(z i cnt:Nat) (acc:TQ) (r:TY),cnt<=i+1->Wp c z i cnt (zs ((1+cK c)*z) ++ r,0) acc=(acc,(r,0))
 | 0,_,_,_,_,_=>rfl
 | z+1,i,cnt,acc,r,h=>by
  have e:zs ((1+cK c)*(z+1))=be 1 0 ++ (slt [] (cK c) ++ zs ((1+cK c)*z)):=by
   unfold slt;rw [show be 1 0=zs 1 by decide,List.nil_append,Jr,Jr,length_nil,Nat.mul_succ]; congr 1; omega
  have e2:Vz (slt [] (cK c) ++ (zs ((1+cK c)*z) ++ r),0) 0 (cK c)=(([]:List UInt8),(zs ((1+cK c)*z) ++ r,0)):=G0 (s:=[]) (Nat.zero_le _);rw [Wp,e,append_assoc,append_assoc,Wd (by decide)];dsimp only;rw [e2,iQ];exact Zhb hc z (i+1) cnt acc r (by omega)
theorem Ze1 {c:Cfg} (hc:OkC c) (cnt z:Nat) (r:TY):∀(l:TQ) (i:Nat) (acc:TQ),i+l.length+1=cnt->(∀ x∈l,x.length<=cK c)->Wp c (l.length+z) i cnt (cat (pvS (cK c)) l ++ (zs ((1+cK c)*z) ++ r),0) acc=(acc ++ l,(r,0))
 | [],i,acc,h,_=>by
  rw [List.append_nil,length_nil,Nat.zero_add];exact Zhb hc z i cnt acc r (by simpa using Nat.le_of_eq h.symm)
 | x :: l,i,acc,h,hx=>by
  obtain ⟨c1,c2,c3,c4,c5,c6,c7,c8,c9⟩:=hc.nat
  have hx0:=hx x (by simp);rw [length_cons] at h;rw [length_cons,show l.length+1+z=(l.length+z)+1 by omega,Wp,Zb6];unfold pvS;rw [append_assoc,Wd (v:=x.length) (by omega)];dsimp only;rw [G0 hx0,iO];dsimp only;have:=Ze1 hc cnt z r l (i+1) (acc ++ [x]) (by omega) fun y hy=>hx y (by simp [hy]);rw [append_assoc] at this;exact this
theorem Zfp {c:Cfg} (hc:OkC c):∀(l acc:List Msg) (r:TY),(∀ p∈l,p.1.length<=cK c/\p.2.2.length<=cV c)->Va c l.length (cat (msS (cK c) (cV c)) l ++ r,0) acc=(acc ++ l,(r,0))
 | [],acc,r,_=>by rw [List.append_nil]; rfl
 | p :: l,acc,r,h=>by
  have hp:=h p (by simp);have e:msS (cK c) (cV c) p ++ (cat (msS (cK c) (cV c)) l ++ r)=be 1 (if p.2.1=true then 2 else 1) ++ (prS (cK c) (cV c) (p.1,p.2.2) ++ (cat (msS (cK c) (cV c)) l ++ r)):=by
   unfold msS;cases p.2.1 <;> rfl
  rw [length_cons,Va,Zb6,e,Wd (by split <;> decide)];dsimp only;rw [Zf4 hc (p:=(p.1,p.2.2)) hp.1 hp.2];dsimp only;rw [show (decide ((((if p.2.1=true then 2 else 1:Nat)):Int)=2))=p.2.1 by cases p.2.1 <;> rfl,Zfp hc l _ r fun q hq=>h q (by simp [hq]),append_assoc]; rfl
theorem Zlr {c:Cfg} {n:Nd} (hc:OkC c) (hn:FitN c n):∃ r,Ud c (Bf c n)=(n,(r,0)):=by
 obtain ⟨c1,c2,c3,c4,c5,c6,c7,c8,c9⟩:=hc.nat
 unfold Bf slt;generalize hz:zs (cBy c - (Be c n).length)=Z;refine ⟨Z,?_⟩;by_cases h0:n.1=0
 ·obtain ⟨a1,a2,a3,a4⟩:=hn.o h0;rw [show Be c n=hdO n ++ bdO c n from iT h0];have e:hdO n ++ bdO c n ++ Z=be 1 1 ++ (be 1 0 ++ (be 2 n.2.2.2.2.length ++ (be 2 0 ++ (zs 2 ++ (cat (prS (cK c) (cV c)) n.2.2.2.2 ++ Z))))):=by
   unfold hdO bdO;rw [show be 1 1=[1] by decide,show be 1 0=[0] by decide,show be 2 0=zs 2 by decide,<- append_assoc (zs 2),Jr];simp only [append_assoc,List.cons_append,List.nil_append]
  unfold Ud;rw [e,Wd (by decide)];dsimp only;rw [Wd (by decide)];dsimp only;rw [Wd (by omega)];dsimp only;rw [Wd (by decide)];dsimp only;rw [Ze7,iT rfl,show min (cLe c) n.2.2.2.2.length=n.2.2.2.2.length by omega,Zh4 hc _ _ _ hn.rk];rw [List.nil_append];exact Prod.ext (Prod.ext h0.symm (Prod.ext a1.symm (Prod.ext a2.symm (Prod.ext a3.symm rfl)))) rfl
 ·obtain ⟨a1,a2,a3,a4,a5⟩:=hn.i h0;have hlv:=hn.lv;rw [show Be c n=hdI n ++ bdI c n from iF h0];have e:hdI n ++ bdI c n ++ Z=be 1 2 ++ (be 1 n.1.toNat ++ (be 2 n.2.1.length ++ (be 2 n.2.2.2.1.length ++ (zs 2 ++ (cat kdS n.2.1 ++ (zs (4*(cFa c - n.2.1.length)) ++ (cat (pvS (cK c)) n.2.2.1 ++ (zs ((1+cK c)*(cFa c - 1 - n.2.2.1.length)) ++ (cat (msS (cK c) (cV c)) n.2.2.2.1 ++ Z))))))))):=by
   unfold hdI bdI;rw [show be 1 2=[2] by decide];simp only [append_assoc,List.cons_append,List.nil_append]
  unfold Ud;rw [e,Wd (by decide)];dsimp only;rw [Wd (by omega)];dsimp only;rw [Wd (by omega)];dsimp only;rw [Wd (by omega)];dsimp only;rw [Ze7,iF (by decide),iT rfl];unfold Znu;have k1:=Ze6 n.2.1.length (cFa c - n.2.1.length) (cat (pvS (cK c)) n.2.2.1 ++ (zs ((1+cK c)*(cFa c - 1 - n.2.2.1.length)) ++ (cat (msS (cK c) (cV c)) n.2.2.2.1 ++ Z))) n.2.1 0 [] (by omega) hn.kd;rw [show n.2.1.length+(cFa c - n.2.1.length)=cFa c by omega] at k1;have k2:=Ze1 hc n.2.1.length (cFa c - 1 - n.2.2.1.length) (cat (msS (cK c) (cV c)) n.2.2.2.1 ++ Z) n.2.2.1 0 [] (by omega) hn.pk;rw [show n.2.2.1.length+(cFa c - 1 - n.2.2.1.length)=cFa c - 1 by omega] at k2;rw [k1];dsimp only;rw [k2];dsimp only;rw [show min (cBu c) n.2.2.2.1.length=n.2.2.2.1.length by omega,Zfp hc _ _ _ hn.ms];refine Prod.ext (Prod.ext ?_ (Prod.ext rfl (Prod.ext rfl (Prod.ext rfl a1.symm)))) rfl;show (if n.1.toNat>1 then (n.1.toNat:Int) else 1)=n.1
  split <;> omega
theorem Zif (c:Cfg):∀(m:Nat) (s:TU) (acc:List Pr),(Ge c m s acc).1.length=acc.length+m
 | 0,_,_=>rfl
 | m+1,s,acc=>by rw [Ge,Zif c m,lA,List.length_singleton]; omega
theorem Zfe (c:Cfg):∀(m:Nat) (s:TU) (acc:List Msg),(Va c m s acc).1.length=acc.length+m
 | 0,_,_=>rfl
 | m+1,s,acc=>by rw [Va,Zfe c m,lA,List.length_singleton]; omega
theorem Ze4 (c:Cfg):∀(m i cnt:Nat) (s:TU) (acc:TQ),(Wp c m i cnt s acc).1.length<=acc.length+m
 | 0,_,_,_,_=>Nat.le_refl _
 | m+1,i,cnt,s,acc=>by
  rw [Wp];refine Nat.le_trans (Ze4 c m _ _ _ _) ?_;split
  ·rw [lA,List.length_singleton]; omega
  ·omega
theorem Za0:∀(m i cnt:Nat) (s:TU) (acc:T2),(∀ x∈acc,0<=x/\x<4294967296)->(W0 m i cnt s acc).1.length<=acc.length+m/\∀ x∈(W0 m i cnt s acc).1,0<=x/\x<4294967296
 | 0,_,_,_,_,h=>⟨Nat.le_refl _,h⟩
 | m+1,i,cnt,s,acc,h=>by
  rw [W0];have hv:=V8 s 4;by_cases q:i<cnt
  ·rw [iT q];obtain ⟨g1,g2⟩:=Za0 m (i+1) cnt (Zx s 4).2 (acc ++ [((Zx s 4).1:Int)]) (by
    intro x hx;rcases List.mem_append.1 hx with hx | hx
    ·exact h x hx
    ·rw [List.mem_singleton] at hx; omega)
   rw [lA,List.length_singleton] at g1;exact ⟨by omega,g2⟩
  ·rw [iF q];obtain ⟨g1,g2⟩:=Za0 m (i+1) cnt (Zx s 4).2 acc h;exact ⟨by omega,g2⟩
structure Rd (n:Nd):Prop where
 kids:n.2.1.length<=64
 pivs:n.2.2.1.length<=64
 buf:n.2.2.2.1.length<=512
 prs:n.2.2.2.2.length<=1024
 kd:∀ x∈n.2.1,0<=x/\x<4294967296
theorem Zog {c:Cfg} (hc:OkC c) (b:TY):Rd (Ud c b).1:=by
 obtain ⟨c1,c2,c3,c4,c5,c6,c7,c8,c9⟩:=hc.nat
 unfold Ud;dsimp only;split
 ·refine ⟨by simp,by simp,by simp,?_,by simp⟩;show (Ge c _ _ []).1.length<=1024;rw [Zif,length_nil]; omega
 ·split
  ·unfold Znu;dsimp only;obtain ⟨g1,g2⟩:=Za0 (cFa c) 0 (Zx (Zx (Zx (b,0) 1).2 1).2 2).1 (Ur (Zx (Zx (Zx (Zx (b,0) 1).2 1).2 2).2 2).2 2) [] (by simp);rw [length_nil] at g1;refine ⟨by show (W0 _ _ _ _ _).1.length<=64; omega,?_,?_,by simp,g2⟩
   ·show (Wp c _ _ _ _ []).1.length<=64;refine Nat.le_trans (Ze4 c _ _ _ _ _) ?_;rw [length_nil]; omega
   ·show (Va c _ _ []).1.length<=512;rw [Zfe,length_nil]; omega
  ·exact ⟨by simp,by simp,by simp,by simp,by simp⟩
theorem Zsy {k:Nat} {a b:T2} (ha:a.length<=1000000) (hk:a.length<k):Q98.f k a b=some (decide (a=b)):=by
 unfold Q98.f;by_cases h:a.length=b.length
 ·rw [iF (by simp [h])];have:=G5 (F:=fun k i=>Q98.l0 k a b i) (eqb:=fun x y=>decide (x=y)) (fun x y=>rfl) h ha (fun k i=>rfl) k 0 (by omega) (by omega);simpa using this
 ·rw [iV];have:a≠b:=fun e=>h (by rw [e]);simp [this]
def Gw:Nd:=(0,[],[],[],[])
def Zki (c:Cfg) (b:TY) (n:Nd) (e:Int):Nd×Int:=if e=0 then (if Ym c X9 n=true then (if Bf c n=b then (n,0) else (Gw,12)) else (Gw,12)) else (Gw,12)
def Zel (c:Cfg) (b:TY):Nd×Int:=if okB c=true then Zki c b (Ud c b).1 (Ud c b).2.2 else (Gw,2)
theorem Zp0 {a b:TY}:toB a=toB b↔a=b:=⟨fun e=>by rw [<- Zca a,e,Zca],fun e=>by rw [e]⟩
theorem Zev {c:Cfg} {n:Nd} (hok:okB c=true) (hn:FitN c n):(Bf c n).length=cBy c:=U9 (Zbx hok hn).1
theorem Zr9 {c:Cfg} {b:TY} (hok:okB c=true) {n:Nd} {s:TU} {k:Nat} (hk:70000<k) (hl:∀ x∈n.2.1,0<=x/\x<4294967296) (he:Q35.f k c n=some (Uj c n)):((Q156.f ((iS s).1,(iS s).2)).bind fun r9=>(if (!decide (r9=0))=true then (some (Gw,(12:Int))) else ((Q35.f k c n).bind fun r10=>(if (!decide (r10.2=0))=true then some (Gw,(12:Int)) else ((Q98.f k r10.1 (toB b)).bind fun r11=>(if (!r11)=true then some (Gw,(12:Int)) else some (n,(0:Int))))))))=some (Zki c b n s.2):=by
 unfold Q156.f Zki iS;rw [bS,he]
 try dsimp only
 by_cases h0:s.2=0
 ·rw [iF (by simp [h0]),iT h0,bS];unfold Uj;rw [iT hok];cases hr:Ym c X9 n with
  | false=>rfl
  | true=>
   have hn:=Jp (Jw hok) hl hr;have r2:=(Zbx hok hn).2.1;rw [iT rfl,iT rfl]
   try dsimp only
   rw [vS,Zsy (by rw [Z5,Zev hok hn]; omega) (by rw [Z5,Zev hok hn]; omega),bS];by_cases e:Bf c n=b
   ·rw [iF (by simp [e]),iT e]
   ·rw [iT (by simp [Zp0,e]),iF e]
 ·rw [iT (by simp [h0]),iF h0]
theorem Zrj {l:T2} (hl:l.length<=1000000):Q89.f l=some l:=by
 unfold Q89.f;rw [iV];simp
theorem Zsh {c:Cfg} {b:TY} (hb:b.length<=100000):Ev (fun k=>Q34.f k c (toB b)) (Zel c b):=by
 by_cases hok:okB c=true
 ·have hc:=Jw hok;have hr:=Zog hc b;obtain ⟨k1,h1⟩:=Zqy (c:=c) (n:=(Ud c b).1) (by have:=hr.kids; omega) (by have:=hr.pivs; omega) (by have:=hr.buf; omega) (by have:=hr.prs; omega) hr.kd;refine ⟨k1+80000,fun k hk=>?_⟩;have he:=h1 k (by omega);have tl:=Zr9 (b:=b) (s:=(Ud c b).2) hok (show 70000<k by omega) hr.kd he;have hi:=hc.int;unfold Zel;rw [iT hok,<- tl];show Q34.f k c (toB b)=_;unfold Q34.f Q154.f
  (try rw [Gh]); rw [Zdq,bS,iT hok,vS,Zrj (by rw [Z5]; omega),bS,bS]
  try dsimp only
  have l1:=V8 (b,0) 1;have l2:=V8 (Zx (b,0) 1).2 1;have l3:=V8 (Zx (Zx (b,0) 1).2 1).2 2;have l4:=V8 (Zx (Zx (Zx (b,0) 1).2 1).2 2).2 2;rw [show Q157.f k (toB b,(0:Int)) 1=_ from J0 (b,0) (w:=1) (.inl rfl) (by omega),bS]
  try dsimp only
  rw [show Q157.f k _ 1=_ from J0 (Zx (b,0) 1).2 (w:=1) (.inl rfl) (by omega),bS]
  try dsimp only
  rw [show Q157.f k _ 2=_ from J0 (Zx (Zx (b,0) 1).2 1).2 (w:=2) (.inr (.inl rfl)) (by omega),bS]
  try dsimp only
  rw [show Q157.f k _ 2=_ from J0 (Zx (Zx (Zx (b,0) 1).2 1).2 2).2 (w:=2) (.inr (.inl rfl)) (by omega),bS]
  try dsimp only
  rw [show Q161.f k _ 2=_ from Zpx (Zx (Zx (Zx (Zx (b,0) 1).2 1).2 2).2 2).2 (n:=2) (by omega) (by omega),bS]
  try dsimp only
  by_cases q1:(Zx (b,0) 1).1=1
  ·have er:Ud c b=_:=iT q1;rw [er,iP,wI2 (x:=((Zx (Zx (Zx (b,0) 1).2 1).2 2).1:Int))];rw [show Q40.f k c _ (((Zx (Zx (Zx (b,0) 1).2 1).2 2).1:Nat):Int)=_ from Zig hc (Zx (Zx (Zx (b,0) 1).2 1).2 2).1 (min (cLe c) (Zx (Zx (Zx (b,0) 1).2 1).2 2).1) 0 k (Ur (Zx (Zx (Zx (Zx (b,0) 1).2 1).2 2).2 2).2 2) [] (by omega) (by have:=hc.nat; omega) (by have:=hc.nat; simp; omega),bS];rfl
  ·rw [iN];by_cases q2:(Zx (b,0) 1).1=2
   ·have er:Ud c b=_:=(iF q1).trans (iT q2);rw [er,iP,wI2 (x:=((Zx (Zx (Zx (b,0) 1).2 1).2 2).1:Int)),wI2 (x:=((Zx (Zx (b,0) 1).2 1).1:Int)),wI2 (x:=((Zx (Zx (Zx (Zx (b,0) 1).2 1).2 2).2 2).1:Int)),
     show (if (((Zx (Zx (b,0) 1).2 1).1:Nat):Int)>1 then (((Zx (Zx (b,0) 1).2 1).1:Nat):Int) else 1)=(if (Zx (Zx (b,0) 1).2 1).1>1 then (((Zx (Zx (b,0) 1).2 1).1:Nat):Int) else 1) by split <;> split <;> omega]
    rw [show Q39.f k c _ _ _ _=_ from Zef hc (if (Zx (Zx (b,0) 1).2 1).1>1 then (((Zx (Zx (b,0) 1).2 1).1:Nat):Int) else 1) (Zx (Zx (Zx (b,0) 1).2 1).2 2).1 (Zx (Zx (Zx (Zx (b,0) 1).2 1).2 2).2 2).1 (by omega) (cFa c) 0 k (Ur (Zx (Zx (Zx (Zx (b,0) 1).2 1).2 2).2 2).2 2) [] (by omega) (by have:=hc.nat; omega) (by have:=hc.nat; simp; omega),bS]
    rfl
   ·have er:Ud c b=_:=(iF q1).trans (iF q2);rw [er,iN];rfl
 ·refine ⟨0,fun k _=>?_⟩;show Q34.f k c (toB b)=_;unfold Q34.f Zel
  (try rw [Gh]); rw [Zdq,bS,iF hok,iF hok,iU]
  rfl
theorem Zn4 {c:Cfg} {n:Nd} (hok:okB c=true) (hl:∀ x∈n.2.1,0<=x/\x<4294967296) (hr:Ym c X9 n=true):Zel c (Bf c n)=(n,0):=by
 obtain ⟨r,h⟩:=Zlr (Jw hok) (Jp (Jw hok) hl hr);unfold Zel Zki;rw [iT hok,h]
 try dsimp only
 rw [iT rfl,iT hr,iT rfl]
abbrev Lnk:=Int×Int×Bool
abbrev Chn:=List Lnk×Int
def ah (l:List Lnk) (k:Nat):Int:=(l.getD k default).1
def bh (l:List Lnk) (k:Nat):Int:=(l.getD k default).2.1
def inn (l:List Lnk) (k:Nat):Bool:=(l.getD k default).2.2
theorem Xc {α:Type} {l:List α} {j k:Nat} {v d:α} (hj:j<l.length:=by omega):(l.set j v).getD k d=if j=k then v else l.getD k d:=by
 rw [List.getD_eq_getElem?_getD,List.getD_eq_getElem?_getD,List.getElem?_set];split
 ·rename_i h;subst h;simp [hj]
 ·rfl
def Lk (l:List Lnk) (a b:Nat):Prop:=bh l a=(b:Int)/\ah l b=(a:Int)
def Wu (l:List Lnk):Nat->List Nat->Prop
 | _,[]=>True
 | a,x :: L=>Lk l a x/\Wu l x L
def Uf:Nat->List Nat->Nat
 | a,[]=>a
 | _,x :: L=>Uf x L
theorem Zag {l:List Lnk}:∀ {a:Nat} {X Y:List Nat},Wu l a (X ++ Y)↔Wu l a X/\Wu l (Uf a X) Y
 | a,[],Y=>by simp [Wu,Uf]
 | a,x :: X,Y=>by
  rw [List.cons_append,Wu,Wu,Uf,Zag,and_assoc]
theorem Jq:∀ {a:Nat} {L:List Nat},Uf a L∈a :: L
 | a,[]=>by simp [Uf]
 | a,x :: L=>by
  rw [Uf];have:=Jq (a:=x) (L:=L);simp only [List.mem_cons] at this ⊢;rcases this with h | h
  ·exact .inr (.inl h)
  ·exact .inr (.inr h)
theorem Gt {l l':List Lnk}:∀ {a:Nat} {L:List Nat},(∀ x∈(a :: L).dropLast,bh l' x=bh l x)->(∀ y∈L,ah l' y=ah l y)->Wu l a L->Wu l' a L
 | a,[],_,_,_=>trivial
 | a,x :: L,h1,h2,h=>by
  rw [Wu] at h ⊢;refine ⟨⟨?_,?_⟩,Gt (fun y hy=>h1 y ?_) (fun y hy=>h2 y (by simp [hy])) h.2⟩
  ·rw [h1 a (by simp)]; exact h.1.1
  ·rw [h2 x (by simp)]; exact h.1.2
  ·rw [List.dropLast_cons_of_ne_nil (by simp)];exact List.mem_cons_of_mem _ hy
structure ChI (n:Nat) (c:Chn) (L:List Nat):Prop where
 len:c.1.length=n+1
 cnt:c.2=(L.length:Int)
 nd:L.Nodup
 lt:∀ x∈L,x<n
 inn:∀ x,x<=n->(inn c.1 x=true↔x∈L)
 ring:Wu c.1 n (L ++ [n])
theorem Zic:∀ {n:Nat} {L:List Nat},L.Nodup->(∀ x∈L,x<n)->L.length<=n
 | 0,[],_,_=>Nat.le_refl _
 | 0,x :: L,_,h=>by have:=h x (by simp); omega
 | n+1,L,hd,h=>by
  have:=Zic (n:=n) (hd.erase n) fun x hx=>by
   have h1:=h x (List.mem_of_mem_erase hx);have h2:=(hd.mem_erase_iff.1 hx).1;omega
  rw [List.length_erase] at this;split at this <;> omega
theorem ChI.short {n:Nat} {c:Chn} {L:List Nat} (h:ChI n c L):L.length<=n:=Zic h.nd h.lt
theorem Bu:∀ {a:Nat} {L:List Nat},(a :: L).Nodup->∀ x∈(a :: L).dropLast,x≠Uf a L
 | a,[],_,x,hx=>by simp at hx
 | a,y :: L,hd,x,hx=>by
  rw [List.dropLast_cons_of_ne_nil (by simp),List.mem_cons] at hx;rw [Uf];rcases hx with rfl | hx
  ·exact fun e=>(List.nodup_cons.1 hd).1 (e ▸ Jq)
  ·exact Bu (List.nodup_cons.1 hd).2 x hx
theorem gtl (l:List Lnk) (k:Nat):gt l (k:Int)=(ah l k,bh l k,SK.T.inn l k):=by
 rw [Zv]; rfl
section
variable {n:Nat} {c:Chn} {L:List Nat}
theorem ChI.split (h:ChI n c L) {i:Nat} (hi:i∈L):∃(P S:List Nat) (s:Nat) (T:List Nat),L=P ++ i :: S/\S ++ [n]=s :: T/\Wu c.1 n P/\Lk c.1 (Uf n P) i/\Lk c.1 i s/\Wu c.1 s T/\Uf n P<=n/\s<=n:=by
 obtain ⟨P,S,rfl⟩:=List.append_of_mem hi;obtain ⟨s,T,e⟩:∃ s T,S ++ [n]=s :: T:=by
  cases S with
  | nil=>exact ⟨n,[],rfl⟩
  | cons x S=>exact ⟨x,S ++ [n],rfl⟩
 have hr:=h.ring;rw [append_assoc,List.cons_append,Zag,Wu,e,Wu] at hr;refine ⟨P,S,s,T,rfl,e,hr.1,hr.2.1,hr.2.2.1,hr.2.2.2,?_,?_⟩
 ·have:=Jq (a:=n) (L:=P);rcases List.mem_cons.1 this with h1 | h1
  ·omega
  ·have:=h.lt _ (List.mem_append_left _ h1); omega
 ·have:s∈S ++ [n]:=by rw [e]; simp
  rcases List.mem_append.1 this with h1 | h1
  ·have:=h.lt s (by simp [h1]); omega
  ·simp at h1; omega
theorem Zsr (h:ChI n c L) {i:Nat} (hi:i∈L) (hn:n<=1000):∃ c',Q27.f c (i:Int)=some c'/\ChI n c' (L.erase i):=by
 obtain ⟨P,S,s,T,e1,e2,r1,r2,r3,r4,hp,hs⟩:=h.split hi;have hin:=h.lt i hi;have hlen:=h.len;generalize hpe:Uf n P=p at *;have ei:SK.T.inn c.1 i=true:=(h.inn i (by omega)).2 hi;have nd:(P ++ i :: S).Nodup:=e1 ▸ h.nd;have nd2:=List.nodup_append.1 nd;have ndS:=(List.nodup_cons.1 nd2.2.1);have hnP:n∉P:=fun hx=>by have:=h.lt n (by rw [e1]; simp [hx]); omega
 have hnS:n∉S:=fun hx=>by have:=h.lt n (by rw [e1]; simp [hx]); omega
 have hiP:i∉P:=fun hx=>nd2.2.2 i hx i (by simp) rfl;have hpi:p≠i:=fun e=>by
  have:p∈n :: P:=hpe ▸ Jq;rcases List.mem_cons.1 this with h1 | h1
  ·omega
  ·exact hiP (e ▸ h1)
 have hsi:s≠i:=fun e=>by
  have:s∈S ++ [n]:=by rw [e2]; simp
  rcases List.mem_append.1 this with h1 | h1
  ·exact ndS.1 (e ▸ h1)
  ·simp at h1; omega
 have a1:(gt c.1 (i:Int)).1=(p:Int):=by rw [gtl]; exact r2.2
 have a2:(gt c.1 (i:Int)).2.1=(s:Int):=by rw [gtl]; exact r3.1
 have a3:(gt c.1 (i:Int)).2.2=true:=by rw [gtl]; exact ei
 unfold Q27.f;rw [iO,a3,vS,a1,a2,iO,iT (by rw [length_set]; omega),iT (by rw [length_set,length_set]; omega)];simp only [tN,gtl];generalize hl1:c.1.set p (ah c.1 p,(s:Int),SK.T.inn c.1 p)=l1;have hl1l:l1.length=n+1:=by rw [<- hl1,length_set,hlen]
 generalize hl2:l1.set s ((p:Int),bh l1 s,SK.T.inn l1 s)=l2;have hl2l:l2.length=n+1:=by rw [<- hl2,length_set,hl1l]
 have g1:∀ k,l1.getD k default=if p=k then (ah c.1 p,(s:Int),SK.T.inn c.1 p) else c.1.getD k default:=fun k=>by rw [<- hl1]; exact Xc
 have g2:∀ k,l2.getD k default=if s=k then ((p:Int),bh l1 s,SK.T.inn l1 s) else l1.getD k default:=fun k=>by rw [<- hl2]; exact Xc
 have g3:∀ k,(l2.set i (0,0,false)).getD k default=if i=k then (0,0,false) else l2.getD k default:=fun k=>Xc
 have b1:∀ k,bh l1 k=if p=k then (s:Int) else bh c.1 k:=fun k=>by unfold bh; rw [g1 k]; split <;> rfl
 have n1:∀ k,SK.T.inn l1 k=SK.T.inn c.1 k:=fun k=>by
  show (l1.getD k default).2.2=_;rw [g1 k]; split
  ·rename_i e; rw [<- e]
  ·rfl
 have c1:∀ k,ah l1 k=ah c.1 k:=fun k=>by
  show (l1.getD k default).1=_;rw [g1 k]; split
  ·rename_i e; rw [<- e]
  ·rfl
 have b3:∀ k,k≠i->bh (l2.set i (0,0,false)) k=if p=k then (s:Int) else bh c.1 k:=fun k hk=>by
  show ((l2.set i (0,0,false)).getD k default).2.1=_;rw [g3 k,iF (Ne.symm hk),g2 k];split
  ·rename_i e; rw [<- e]; exact b1 s
  ·exact b1 k
 have c3:∀ k,k≠i->ah (l2.set i (0,0,false)) k=if s=k then (p:Int) else ah c.1 k:=fun k hk=>by
  show ((l2.set i (0,0,false)).getD k default).1=_;rw [g3 k,iF (Ne.symm hk),g2 k];split
  ·rfl
  ·exact c1 k
 have n3:∀ k,SK.T.inn (l2.set i (0,0,false)) k=if i=k then false else SK.T.inn c.1 k:=fun k=>by
  show ((l2.set i (0,0,false)).getD k default).2.2=_;rw [g3 k];split
  ·rfl
  ·rw [g2 k];split
   ·rename_i e; rw [<- e]; exact n1 s
   ·exact n1 k
 have el:L.erase i=P ++ S:=by
  rw [e1,List.erase_append_right _ hiP,List.erase_cons_head]
 refine ⟨_,rfl,⟨by rw [length_set,hl2l],?_,?_,?_,?_,?_⟩⟩
 ·rw [el,h.cnt,e1];have:=h.short;rw [e1] at this;simp only [lA,length_cons] at this ⊢;rw [wI2]; omega
 ·exact h.nd.erase i
 ·exact fun x hx=>h.lt x (List.mem_of_mem_erase hx)
 ·intro x hx;rw [n3 x,h.nd.mem_erase_iff];split
  ·rename_i e; simp [e]
  ·rename_i e;rw [h.inn x hx];exact ⟨fun g=>⟨fun e'=>e e'.symm,g⟩,fun g=>g.2⟩
 ·rw [el,append_assoc,e2,Zag,hpe,Wu];have hTs:∀ y∈T,y≠s/\y≠i:=fun y hy=>by
   have hnd:(S ++ [n]).Nodup:=List.nodup_append.2 ⟨ndS.2,by simp,fun a ha b hb e=>by simp at hb; exact hnS (hb ▸ e ▸ ha)⟩;rw [e2] at hnd;refine ⟨fun e=>(List.nodup_cons.1 hnd).1 (e ▸ hy),fun e=>?_⟩;have:y∈S ++ [n]:=by rw [e2]; simp [hy]
   rcases List.mem_append.1 this with h1 | h1
   ·exact ndS.1 (e ▸ h1)
   ·simp at h1; omega
  have hsT:∀ x∈(s :: T).dropLast,x≠p/\x≠i:=fun x hx=>by
   rw [<- e2,List.dropLast_concat] at hx;refine ⟨fun e=>?_,fun e=>ndS.1 (e ▸ hx)⟩;have:p∈n :: P:=hpe ▸ Jq;rcases List.mem_cons.1 this with h1 | h1
   ·exact hnS (h1 ▸ e ▸ hx)
   ·exact nd2.2.2 p h1 x (by simp [hx]) e.symm
  have hPp:∀ x∈(n :: P).dropLast,x≠p/\x≠i:=fun x hx=>by
   have hnd:(n :: P).Nodup:=List.nodup_cons.2 ⟨hnP,nd2.1⟩;refine ⟨hpe ▸ Bu hnd x hx,fun e=>?_⟩;have:=List.dropLast_subset _ hx;rcases List.mem_cons.1 this with h1 | h1
   ·omega
   ·exact hiP (e ▸ h1)
  have hPs:∀ y∈P,y≠s/\y≠i:=fun y hy=>by
   refine ⟨fun e=>?_,fun e=>hiP (e ▸ hy)⟩;have:s∈S ++ [n]:=by rw [e2]; simp
   rcases List.mem_append.1 this with h1 | h1
   ·exact nd2.2.2 y hy s (by simp [h1]) e
   ·simp at h1; exact hnP (h1 ▸ e ▸ hy)
  refine ⟨Gt (fun x hx=>by rw [b3 x (hPp x hx).2,iF (Ne.symm (hPp x hx).1)]) (fun y hy=>by rw [c3 y (hPs y hy).2,iF (Ne.symm (hPs y hy).1)]) r1,⟨by rw [b3 p hpi,iT rfl],by rw [c3 s hsi,iT rfl]⟩,
   Gt (fun x hx=>by rw [b3 x (hsT x hx).2,iF (Ne.symm (hsT x hx).1)]) (fun y hy=>by rw [c3 y (hTs y hy).2,iF (Ne.symm (hTs y hy).1)]) r4⟩
theorem Zm4 (h:ChI n c L) {i:Nat} (hi:i<n) (hn:n<=1000):Q30.f c (i:Int)=some 0:=by
 have hlen:=h.len;unfold Q30.f Q29.f
 try dsimp only
 rw [iN,iN,bS,wI2,iN]
theorem Zhv (h:ChI n c L) {i:Nat} (hi:i<n) (hn:n<=1000):∃ r c',Q23.f c (i:Int)=some (r,c')/\ChI n c' (L.erase i):=by
 have hlen:=h.len;unfold Q23.f;rw [show Q30.f (c.1,c.2) (i:Int)=_ from Zm4 h hi hn,bS,vS,iO,gtl];by_cases hm:i∈L
 ·rw [iF (by simp [(h.inn i (by omega)).2 hm])];obtain ⟨c',e,h'⟩:=Zsr h hm hn;rw [show Q27.f (c.1,c.2) (i:Int)=_ from e,bS];exact ⟨_,_,rfl,h'⟩
 ·have:SK.T.inn c.1 i=false:=by
   cases q:SK.T.inn c.1 i with
   | false=>rfl
   | true=>exact absurd ((h.inn i (by omega)).1 q) hm
  rw [iT (by simp [this])];exact ⟨_,_,rfl,by rw [List.erase_of_not_mem hm]; exact h⟩
theorem Zss (h:ChI n c L) {i:Nat} (hi:i<n) (hm:i∉L) (hn:n<=1000):∃ c',Q28.f c (i:Int) (n:Int)=some c'/\ChI n c' (i :: L):=by
 have hlen:=h.len;have hsh:=h.short;have hnL:n∉L:=fun hx=>by have:=h.lt n hx; omega
 obtain ⟨s,T,e⟩:∃ s T,L ++ [n]=s :: T:=by
  cases L with
  | nil=>exact ⟨n,[],rfl⟩
  | cons x S=>exact ⟨x,S ++ [n],rfl⟩
 have hr:=h.ring;rw [e,Wu] at hr;have hs:s<=n:=by
  have:s∈L ++ [n]:=by rw [e]; simp
  rcases List.mem_append.1 this with h1 | h1
  ·have:=h.lt s h1; omega
  ·simp at h1; omega
 have hsi:s≠i:=fun q=>by
  have:s∈L ++ [n]:=by rw [e]; simp
  rcases List.mem_append.1 this with h1 | h1
  ·exact hm (q ▸ h1)
  ·simp at h1; omega
 have a2:(gt c.1 (n:Int)).2.1=(s:Int):=by rw [gtl]; exact hr.1.1
 unfold Q28.f;rw [iO,iO,iT (by rw [length_set]; omega),a2,iT (by rw [length_set,length_set]; omega)];simp only [tN,gtl];generalize hl1:c.1.set i ((n:Int),(s:Int),true)=l1;have hl1l:l1.length=n+1:=by rw [<- hl1,length_set,hlen]
 generalize hl2:l1.set n (ah l1 n,(i:Int),SK.T.inn l1 n)=l2;have hl2l:l2.length=n+1:=by rw [<- hl2,length_set,hl1l]
 have g1:∀ k,l1.getD k default=if i=k then ((n:Int),(s:Int),true) else c.1.getD k default:=fun k=>by rw [<- hl1]; exact Xc
 have g2:∀ k,l2.getD k default=if n=k then (ah l1 n,(i:Int),SK.T.inn l1 n) else l1.getD k default:=fun k=>by rw [<- hl2]; exact Xc
 have g3:∀ k,(l2.set s ((i:Int),bh l2 s,SK.T.inn l2 s)).getD k default=if s=k then ((i:Int),bh l2 s,SK.T.inn l2 s) else l2.getD k default:=fun k=>Xc
 have b2:∀ k,bh l2 k=if n=k then (i:Int) else if i=k then (s:Int) else bh c.1 k:=fun k=>by
  show (l2.getD k default).2.1=_;rw [g2 k];split
  ·rfl
  ·rw [g1 k]; split <;> rfl
 have c2:∀ k,ah l2 k=if i=k then (n:Int) else ah c.1 k:=fun k=>by
  show (l2.getD k default).1=_;rw [g2 k];split
  ·rename_i q;rw [<- q,iQ];show (l1.getD n default).1=_;rw [g1 n,iQ]; rfl
  ·rw [g1 k]; split <;> rfl
 have n2:∀ k,SK.T.inn l2 k=if i=k then true else SK.T.inn c.1 k:=fun k=>by
  show (l2.getD k default).2.2=_;rw [g2 k];split
  ·rename_i q;rw [<- q,iQ];show (l1.getD n default).2.2=_;rw [g1 n,iQ]; rfl
  ·rw [g1 k]; split <;> rfl
 have b3:∀ k,bh (l2.set s ((i:Int),bh l2 s,SK.T.inn l2 s)) k=bh l2 k:=fun k=>by
  show ((l2.set s ((i:Int),bh l2 s,SK.T.inn l2 s)).getD k default).2.1=_;rw [g3 k]; split
  ·rename_i q; rw [<- q]
  ·rfl
 have c3:∀ k,ah (l2.set s ((i:Int),bh l2 s,SK.T.inn l2 s)) k=if s=k then (i:Int) else ah l2 k:=fun k=>by
  show ((l2.set s ((i:Int),bh l2 s,SK.T.inn l2 s)).getD k default).1=_;rw [g3 k]; split <;> rfl
 have n3:∀ k,SK.T.inn (l2.set s ((i:Int),bh l2 s,SK.T.inn l2 s)) k=SK.T.inn l2 k:=fun k=>by
  show ((l2.set s ((i:Int),bh l2 s,SK.T.inn l2 s)).getD k default).2.2=_;rw [g3 k]; split
  ·rename_i q; rw [<- q]
  ·rfl
 refine ⟨_,rfl,⟨by rw [length_set,hl2l],?_,List.nodup_cons.2 ⟨hm,h.nd⟩,?_,?_,?_⟩⟩
 ·rw [h.cnt,length_cons,wI2]; omega
 ·intro x hx;rcases List.mem_cons.1 hx with q | q
  ·omega
  ·exact h.lt x q
 ·intro x hx;rw [n3 x,n2 x,List.mem_cons];split
  ·rename_i q; simp [q]
  ·rename_i q;rw [h.inn x hx];exact ⟨fun g=>.inr g,fun g=>g.elim (fun e'=>absurd e'.symm q) id⟩
 ·rw [List.cons_append,Wu,e,Wu];have hnd:(L ++ [n]).Nodup:=List.nodup_append.2 ⟨h.nd,by simp,fun a ha b hb q=>by simp at hb; exact hnL (hb ▸ q ▸ ha)⟩;rw [e] at hnd;refine ⟨⟨by rw [b3,b2,iT rfl],by rw [c3,iF hsi,c2,iT rfl]⟩,⟨by rw [b3,b2,iQ,iT rfl],by rw [c3,iT rfl]⟩,Gt (fun x hx=>?_) (fun y hy=>?_) hr.2⟩
  ·rw [<- e,List.dropLast_concat] at hx;rw [b3,b2,iF (fun q:n=x=>hnL (q ▸ hx)),iF (fun q:i=x=>hm (q ▸ hx))]
  ·have hyL:y∈L ++ [n]:=by rw [e]; simp [hy]
   have hyi:i≠y:=fun q=>by
    rcases List.mem_append.1 hyL with h1 | h1
    ·exact hm (q ▸ h1)
    ·simp at h1; omega
   rw [c3,iF (fun q:s=y=>(List.nodup_cons.1 hnd).1 (q ▸ hy)),c2,iF hyi]
theorem Zq1 (h:ChI n c L) {i:Nat} (hi:i<n) (hm:i∉L) (hn:n<=1000):∃ c',Q24.f c (i:Int)=some (0,c')/\ChI n c' (i :: L):=by
 have hlen:=h.len;have hf:SK.T.inn c.1 i=false:=by
  cases q:SK.T.inn c.1 i with
  | false=>rfl
  | true=>exact absurd ((h.inn i (by omega)).1 q) hm
 have ho:Q27.f (c.1,c.2) (i:Int)=some c:=by
  unfold Q27.f
  try dsimp only
  rw [iO,gtl,iT (by simp [hf])]
 obtain ⟨c',e,h'⟩:=Zss h hi hm hn;unfold Q24.f Q29.f;rw [show Q30.f (c.1,c.2) (i:Int)=_ from Zm4 h hi hn,bS,iU,ho,bS,bS]
 try dsimp only
 rw [show w64 ((c.1.length:Int) - 1)=(n:Int) by rw [wI2]; omega,show Q28.f (c.1,c.2) (i:Int) (n:Int)=_ from e,bS];exact ⟨_,rfl,h'⟩
theorem Ze0 (h:ChI n c []):Q25.f c=some (0,false):=by
 have:=h.cnt;unfold Q25.f Q26.f;rw [bS,iT (by simp [this])]
theorem Zou {q:Nat} (h:ChI n c (L ++ [q])) (hn:n<=1000):Q25.f c=some ((q:Int),true):=by
 have hcnt:=h.cnt;have hlen:=h.len;unfold Q25.f Q26.f Q29.f;have hr:=h.ring;rw [append_assoc,List.cons_append,List.nil_append,Zag,Wu,Wu] at hr;have:ah c.1 n=(q:Int):=hr.2.2.1.2;rw [bS,iF (by simp [hcnt]; omega),bS,show w64 ((c.1.length:Int) - 1)=(n:Int) by rw [wI2]; omega,iO,gtl,this]
theorem Zsx (hn:1<=n) (h64:n<=64):∃ c',Q31.f (n:Int)=some (some c',0)/\ChI n c' []:=by
 unfold Q31.f;have e:(w64 ((n:Int)+1))=((n+1:Nat):Int):=by rw [wI2]; omega
 rw [iN,iN,e,iO,tN,iT (by rw [length_replicate]; omega),tN];have g:∀ k,((List.replicate (n+1) ((0,0,false):Lnk)).set n ((n:Int),(n:Int),false)).getD k default=if n=k then ((n:Int),(n:Int),false) else (List.replicate (n+1) ((0,0,false):Lnk)).getD k default:=fun k=>Xc (by rw [length_replicate]; omega)
 refine ⟨_,rfl,⟨by simp,rfl,by simp,by simp,fun x hx=>?_,?_⟩⟩
 ·show (_:Lnk).2.2=true↔_;rw [g x];split
  ·simp
  ·rw [List.getD_eq_getElem?_getD,List.getElem?_replicate,iO]; simp
 ·rw [List.nil_append,Wu,Wu];refine ⟨⟨?_,?_⟩,trivial⟩
  ·show (_:Lnk).2.1=_;rw [g n,iT rfl]
  ·show (_:Lnk).1=_;rw [g n,iT rfl]
end
abbrev Dv:=Int×List Int×T1
def blk (img:T2) (n i:Nat):List Int:=(img.drop (i*n)).take n
theorem Gd {N n i:Nat} (h:i<N):i*n+n<=N*n:=by
 have:=Nat.mul_le_mul_right n h;rw [Nat.succ_mul] at this;exact this
theorem Zdw {img:T2} {N n i:Nat} (hl:img.length=N*n) (h:i<N):(blk img n i).length=n:=by
 have:=Gd (n:=n) h;unfold blk;rw [length_take,length_drop];omega
theorem Zbm {img b:T2} {N n i:Nat} (hl:img.length=N*n) (h:i<N) (hb:b.length=n) (j:Nat) (hj:j<N):blk (patch img (i*n) n b) n j=if j=i then b else blk img n j:=by
 have h1:=Gd (n:=n) h;have h2:=Gd (n:=n) hj;have e0:(img.take (i*n)).length=i*n:=by rw [length_take]; omega
 unfold blk patch;rw [List.take_of_length_le (i:=n) (l:=b) (by omega),show i*n+min n b.length=i*n+n from by omega];by_cases e:j=i
 ·subst e;rw [iT rfl,append_assoc,List.drop_append_of_le_length (by omega),List.drop_of_length_le (by omega),List.nil_append,List.take_append_of_le_length (by omega),tO]
 ·rw [iF e];by_cases lt:j<i
  ·have h3:=Nat.mul_le_mul_right n (show j+1<=i from lt);rw [Nat.succ_mul] at h3;rw [append_assoc,List.drop_append_of_le_length (by omega),List.take_append_of_le_length (by rw [length_drop]; omega),List.drop_take,List.take_take];congr 1;omega
  ·have h3:=Nat.mul_le_mul_right n (show i+1<=j from by omega);rw [Nat.succ_mul] at h3;rw [List.drop_append,List.drop_of_length_le (by rw [lA]; omega),List.nil_append,List.drop_drop];congr 2;rw [lA,e0];omega
theorem Zl4 {img b:T2} {N n i:Nat} (hl:img.length=N*n) (h:i<N):(patch img (i*n) n b).length=N*n:=by
 have:=Gd (n:=n) h;rw [X6 (by omega),hl]
theorem Jn {N n:Nat} {img:T2} {s:T1} (hn:1<=n) (hl:img.length=N*n) (hb:N*n<=4294967296):Q50.f ((n:Int),img,s)=some (N:Int):=by
 have hN:N<=4294967296:=Nat.le_trans (Nat.le_mul_of_pos_right N hn) hb;have e:Int.tdiv (img.length:Int) (n:Int)=N:=by
  rw [hl,Int.natCast_mul];exact Int.mul_tdiv_cancel _ (by omega)
 unfold Q50.f;dsimp only;rw [iN,iO,e,wI2]
theorem Zok {n i N:Nat} (hb:N*n<=4294967296) (hn:1<=n) (h:i<N):w64 (i:Int)=i/\w64 ((i:Int)*(n:Int))=((i*n:Nat):Int)/\w64 (((i*n:Nat):Int)+(n:Int))=((i*n+n:Nat):Int):=by
 have h1:=Gd (n:=n) h;have h2:i<=i*n:=Nat.le_mul_of_pos_right i hn;refine ⟨wI2,?_,?_⟩
 ·rw [<- Int.natCast_mul];exact wI2
 ·rw [wI2];rfl
theorem Zn5 {N n i:Nat} {img b:T2} {s:T1} (hn:1<=n) (hN:1<=N) (hl:img.length=N*n) (hb:N*n<=4294967296) (hi:i<4294967296) :
  Q53.f ((n:Int),img,s) (i:Int) b=some (if N<=i then (4,((n:Int),img,s)) else if b.length=n then (0,((n:Int),patch img (i*n) n b,s.1,uH.wrap (s.2+1))) else (3,((n:Int),img,s))):=by
 have e:=Jn (s:=(s.1,s.2)) hn hl hb;unfold Q53.f;dsimp only;rw [e,bS,iN,bS];by_cases h:N<=i
 ·rw [wI2 (x:=(i:Int)),iP,iT h]
 ·obtain ⟨a1,a2,a3⟩:=Zok hb hn (show i<N from by omega);have h1:=Gd (n:=n) (show i<N from by omega);rw [a1,a2,a3,iN,iO,iF h];by_cases hq:b.length=n
  ·rw [iF (by simp only [Bool.not_eq_true',decide_eq_false_iff_not]; omega),iT hq];simp only [tN];rw [length_take,length_drop,show min (i*n+n - i*n) (img.length - i*n)=n from by omega]
  ·rw [iT (by simp only [Bool.not_eq_true',decide_eq_false_iff_not]; omega),iF hq]
theorem B3 {l:T2} (h:l.length<=140737488355328):Q89.f l=some l:=by
 unfold Q89.f;rw [iT (by simpa using h)];rfl
theorem Zpq {N n i:Nat} {img:T2} {s:T1} (hn:1<=n) (hN:1<=N) (hl:img.length=N*n) (hb:N*n<=4294967296) (hi:i<4294967296) :
  Q52.f ((n:Int),img,s) (i:Int)=some (if N<=i then ([],4,((n:Int),img,s)) else (blk img n i,0,((n:Int),img,uH.wrap (s.1+1),s.2))):=by
 have e:=Jn (s:=(s.1,s.2)) hn hl hb;unfold Q52.f;dsimp only;rw [e,bS,iN,bS];by_cases h:N<=i
 ·rw [wI2 (x:=(i:Int)),iP,iT h]
 ·obtain ⟨a1,a2,a3⟩:=Zok hb hn (show i<N from by omega);have h1:=Gd (n:=n) (show i<N from by omega);rw [a1,a2,a3,iN,iO,iF h];simp only [tN];have hbl:(blk img n i).length=n:=Zdw hl (by omega);have:(img.drop (i*n)).take (i*n+n - i*n)=blk img n i:=by unfold blk; congr 1; omega
  have hnb:n<=N*n:=Nat.le_mul_of_pos_left n hN;rw [this,B3 (by omega),bS]
abbrev Fr8:=Int×List Int×Bool×Int
abbrev Ca:=Dv×List Fr8×List T1×List Int×Chn
section
variable {es:TS} {x v d:Int}
theorem mhas_iff:∀ {es:TS},Y6 es x=true↔∃ v,(x,v)∈es
 | []=>by simp [Y6]
 | p :: es=>by
  rw [Y6];split
  ·rename_i h;exact ⟨fun _=>⟨p.2,by simp [<- h]⟩,fun _=>rfl⟩
  ·rename_i h;rw [mhas_iff];constructor
   ·rintro ⟨v,hv⟩; exact ⟨v,by simp [hv]⟩
   ·rintro ⟨v,hv⟩;rcases List.mem_cons.1 hv with e | e
    ·exact absurd (by rw [<- e]) h
    ·exact ⟨v,e⟩
theorem We:∀ {es:TS},(es.map Prod.fst).Nodup->(x,v)∈es->Zm d es x=v
 | [],_,h=>by simp at h
 | p :: es,nd,h=>by
  rw [List.map_cons,List.nodup_cons] at nd;rw [Zm];rcases List.mem_cons.1 h with e | e
  ·rw [iT (by rw [<- e]),<- e]
  ·rw [iF (fun q=>nd.1 (List.mem_map.2 ⟨_,e,by simpa using q.symm⟩)),We nd.2 e]
theorem Uh {p:T1}:∀ {es:TS},(es.map Prod.fst).Nodup->(p∈Wm x es↔p∈es/\p.1≠x)
 | [],_=>by simp [Wm]
 | q :: es,nd=>by
  rw [List.map_cons,List.nodup_cons] at nd;rw [Wm];split
  ·rename_i h;constructor
   ·intro hp;refine ⟨by simp [hp],fun e=>nd.1 ?_⟩;rw [h,<- e]; exact List.mem_map_of_mem hp
   ·rintro ⟨hp,hne⟩;rcases List.mem_cons.1 hp with e | e
    ·exact absurd (e ▸ h) hne
    ·exact e
  ·rename_i h;rw [List.mem_cons,Uh nd.2,List.mem_cons];constructor
   ·rintro (e | e)
    ·exact ⟨.inl e,e ▸ h⟩
    ·exact ⟨.inr e.1,e.2⟩
   ·rintro ⟨e | e,hne⟩
    ·exact .inl e
    ·exact .inr ⟨e,hne⟩
theorem mdel_sub:∀ {es:TS},(Wm x es).Sublist es
 | []=>List.Sublist.refl _
 | q :: es=>by
  rw [Wm];split
  ·exact List.sublist_cons_self _ _
  ·exact mdel_sub.cons_cons _
theorem Zco:∀ {es:TS},Y6 es x=true->(Wm x es).length+1=es.length
 | [],h=>by simp [Y6] at h
 | q :: es,h=>by
  rw [Y6] at h;rw [Wm];split
  ·rfl
  ·rename_i hn;rw [iF hn] at h;rw [length_cons,length_cons,Zco h]
theorem Zga:∀ {es:TS},(es.map Prod.fst).Nodup->(x,v)∈es->Yz x v es=es
 | [],_,h=>by simp at h
 | p :: es,nd,h=>by
  rw [List.map_cons,List.nodup_cons] at nd;rw [Yz];rcases List.mem_cons.1 h with e | e
  ·rw [iT (by rw [<- e]),e]
  ·rw [iF (fun q=>nd.1 (List.mem_map.2 ⟨_,e,by simpa using q.symm⟩)),Zga nd.2 e]
end
structure Okf (N B n t:Nat) (c:Ca) (i f:Nat):Prop where
 hi:i<N
 hf:f<n
 blk:(c.2.1.getD f default).1=(i:Int)
 len:(c.2.1.getD f default).2.1.length=B
 pin:0<=(c.2.1.getD f default).2.2.2/\(c.2.1.getD f default).2.2.2<=t
 emp:(f:Int)∉c.2.2.2.1
structure CaI (N B n t:Nat) (H:List Nat) (c:Ca) (L:List Nat):Prop where
 dsz:c.1.1=(B:Int)
 dim:c.1.2.1.length=N*B
 frl:c.2.1.length=n
 mnd:(c.2.2.1.map Prod.fst).Nodup
 mok:∀ p∈c.2.2.1,∃ i f:Nat,p=((i:Int),(f:Int))/\Okf N B n t c i f
 emp:∀ x∈c.2.2.2.1,∃ f:Nat,x=(f:Int)/\f<n
 end_:c.2.2.2.1.Nodup
 hol:∀ f∈H,f<n/\(f:Int)∉c.2.2.2.1/\∀ i:Int,(i,(f:Int))∉c.2.2.1
 tot:c.2.2.1.length+c.2.2.2.1.length+H.length=n
 chn:ChI n c.2.2.2.2 L
 lok:∀ f:Nat,f∈L↔(∃ i:Int,(i,(f:Int))∈c.2.2.1)/\(c.2.1.getD f default).2.2.2=0
section
variable {N B n t:Nat} {H:List Nat} {c:Ca} {L:List Nat}
theorem CaI.at (h:CaI N B n t H c L) {i f:Int} (hp:(i,f)∈c.2.2.1):∃ i' f':Nat,i=(i':Int)/\f=(f':Int)/\Okf N B n t c i' f':=by
 obtain ⟨i',f',e,ok⟩:=h.mok _ hp;rw [Prod.mk.injEq] at e;exact ⟨i',f',e.1,e.2,ok⟩
theorem CaI.atN (h:CaI N B n t H c L) {i f:Nat} (hp:((i:Int),(f:Int))∈c.2.2.1):Okf N B n t c i f:=by
 obtain ⟨i',f',e1,e2,ok⟩:=h.at hp;have:i=i':=by omega
 have:f=f':=by omega
 subst_vars;exact ok
theorem CaI.one (h:CaI N B n t H c L) {i j f:Nat} (hi:((i:Int),(f:Int))∈c.2.2.1) (hj:((j:Int),(f:Int))∈c.2.2.1):i=j:=by
 have h1:=(h.atN hi).blk;have h2:=(h.atN hj).blk;omega
theorem CaI.get (h:CaI N B n t H c L) (i:Nat):(Y6 c.2.2.1 (i:Int)=false/\∀ v,((i:Int),v)∉c.2.2.1)\/∃ f:Nat,((i:Int),(f:Int))∈c.2.2.1/\Y6 c.2.2.1 (i:Int)=true/\Zm 0 c.2.2.1 (i:Int)=(f:Int)/\Okf N B n t c i f:=by
 cases q:Y6 c.2.2.1 (i:Int) with
 | false=>exact .inl ⟨rfl,fun v hv=>by rw [mhas_iff.2 ⟨v,hv⟩] at q; cases q⟩
 | true=>
  obtain ⟨v,hv⟩:=mhas_iff.1 q;obtain ⟨i',f,e1,rfl,ok⟩:=h.at hv;have:i=i':=by omega
  subst this;exact .inr ⟨f,hv,rfl,We h.mnd hv,ok⟩
theorem CaI.used (h:CaI N B n t H c L):c.2.2.1.length<=n:=by have:=h.tot; omega
theorem CaI.mono (h:CaI N B n t H c L) {t':Nat} (ht:t<=t'):CaI N B n t' H c L:=
 ⟨h.dsz,h.dim,h.frl,h.mnd,fun p hp=>by
  obtain ⟨i,f,e,ok⟩:=h.mok p hp;exact ⟨i,f,e,ok.hi,ok.hf,ok.blk,ok.len,⟨ok.pin.1,by have:=ok.pin.2; omega⟩,ok.emp⟩,h.emp,h.end_,h.hol,h.tot,h.chn,h.lok⟩
theorem CaI.dev (h:CaI N B n t H c L) {img:T2} (hl:img.length=N*B) (s:T1):CaI N B n t H ((c.1.1,img,s),c.2) L:=
 ⟨h.dsz,hl,h.frl,h.mnd,fun p hp=>by
  obtain ⟨i,f,e,ok⟩:=h.mok p hp;exact ⟨i,f,e,ok.hi,ok.hf,ok.blk,ok.len,ok.pin,ok.emp⟩,h.emp,h.end_,h.hol,h.tot,h.chn,h.lok⟩
theorem CaI.setfr (h:CaI N B n t H c L) {i f:Nat} (ha:((i:Int),(f:Int))∈c.2.2.1) {x:Fr8} (h1:x.1=(i:Int)) (h2:x.2.1.length=B) {t':Nat} (h3:0<=x.2.2.2/\x.2.2.2<=t') (ht:t<=t') {ch:Chn} {L':List Nat} (hc:ChI n ch L')
  (hL:∀ g,g∈L'↔if g=f then x.2.2.2=0 else g∈L):CaI N B n t' H (c.1,c.2.1.set f x,c.2.2.1,c.2.2.2.1,ch) L':=by
 have ok:=h.atN ha;have hfl:f<c.2.1.length:=by rw [h.frl]; exact ok.hf
 have g:∀ k,(c.2.1.set f x).getD k default=if f=k then x else c.2.1.getD k default:=fun k=>Xc hfl
 refine ⟨h.dsz,h.dim,by rw [length_set,h.frl],h.mnd,fun p hp=>?_,h.emp,h.end_,h.hol,h.tot,hc,fun k=>?_⟩
 ·obtain ⟨j,k,e,okk⟩:=h.mok p hp;refine ⟨j,k,e,okk.hi,okk.hf,?_,?_,?_,okk.emp⟩
  all_goals
   show _
   try dsimp only
   rw [g k];split
  ·rename_i q;subst q;have:i=j:=h.one ha (by rw [<- e]; exact hp);subst this; exact h1
  ·exact okk.blk
  ·exact h2
  ·exact okk.len
  ·exact h3
  ·exact ⟨okk.pin.1,by have:=okk.pin.2; omega⟩
 ·rw [hL k]
  try dsimp only
  rw [g k];by_cases q:k=f
  ·subst q;rw [iT rfl,iT rfl];exact ⟨fun e=>⟨⟨_,ha⟩,e⟩,fun e=>e.2⟩
  ·rw [iF q,iF (Ne.symm q)];exact h.lok k
theorem CaI.leave (h:CaI N B n t [] c L) {i f:Nat} (ha:((i:Int),(f:Int))∈c.2.2.1) (hn:n<=64) {ch:Chn} (hc:ChI n ch (L.erase f)):CaI N B n t [] (c.1,c.2.1.set f (0,[],false,0),Wm (i:Int) c.2.2.1,c.2.2.2.1 ++ [(f:Int)],ch) (L.erase f):=by
 have ok:=h.atN ha;have hfl:f<c.2.1.length:=by rw [h.frl]; exact ok.hf
 have g:∀ k,(c.2.1.set f (0,[],false,0)).getD k default=if f=k then (0,[],false,0) else c.2.1.getD k default:=fun k=>Xc hfl
 have hne:∀ {j k:Nat},((j:Int),(k:Int))∈c.2.2.1->(j:Int)≠(i:Int)->f≠k:=fun {j k} hjk hji e=>by
  subst e;exact hji (by rw [h.one ha hjk])
 refine ⟨h.dsz,h.dim,by rw [length_set,h.frl],(mdel_sub.map _).nodup h.mnd,fun p hp=>?_,fun x hx=>?_,?_,by simp,?_,hc,fun k=>?_⟩
 ·rw [Uh h.mnd] at hp;obtain ⟨j,k,e,okk⟩:=h.mok p hp.1;have hjk:((j:Int),(k:Int))∈c.2.2.1:=by rw [<- e]; exact hp.1
  have hk:f≠k:=hne hjk (by rw [e] at hp; exact hp.2);refine ⟨j,k,e,okk.hi,okk.hf,?_,?_,?_,?_⟩
  ·dsimp only; rw [g k,iF hk]; exact okk.blk
  ·dsimp only; rw [g k,iF hk]; exact okk.len
  ·dsimp only; rw [g k,iF hk]; exact okk.pin
  ·dsimp only;rw [List.mem_append,List.mem_singleton];rintro (q | q)
   ·exact okk.emp q
   ·exact hk (by omega)
 ·rcases List.mem_append.1 hx with q | q
  ·exact h.emp x q
  ·rw [List.mem_singleton] at q; exact ⟨f,q,ok.hf⟩
 ·exact List.nodup_append.2 ⟨h.end_,by simp,fun a hb b hb' e=>by rw [List.mem_singleton] at hb'; exact ok.emp (hb' ▸ e ▸ hb)⟩
 ·have h1:=h.tot;have h2:=Zco (mhas_iff.2 ⟨_,ha⟩);simp only [lA,List.length_singleton,length_nil] at h1 ⊢;omega
 ·rw [h.chn.nd.mem_erase_iff]
  try dsimp only
  rw [g k];constructor
  ·rintro ⟨hk,hkL⟩;obtain ⟨⟨j,hj⟩,hp⟩:=(h.lok k).1 hkL;rw [iF (Ne.symm hk)];obtain ⟨j',k',e1,e2,okk⟩:=h.at hj;refine ⟨⟨j,(Uh h.mnd).2 ⟨hj,fun e=>hk ?_⟩⟩,hp⟩;have h1:Zm 0 c.2.2.1 (i:Int)=(f:Int):=We h.mnd ha;have h2:Zm 0 c.2.2.1 (i:Int)=(k:Int):=We h.mnd (by rw [<- show j=(i:Int) from e]; exact hj);omega
  ·rintro ⟨⟨j,hj⟩,hp⟩;rw [Uh h.mnd] at hj;obtain ⟨j',k',e1,e2,okk⟩:=h.at hj.1;have hk:f≠k:=hne (j:=j') (by rw [<- e1]; exact hj.1) (by rw [<- e1]; exact hj.2);rw [iF hk] at hp;exact ⟨Ne.symm hk,(h.lok k).2 ⟨⟨j,hj.1⟩,hp⟩⟩
theorem CaI.take (h:CaI N B n t [] c L) {E:T2} {f:Nat} (he:c.2.2.2.1=E ++ [(f:Int)]):CaI N B n t [f] (c.1,c.2.1,c.2.2.1,E,c.2.2.2.2) L:=by
 have hnd:=h.end_;rw [he] at hnd;have hnd2:=List.nodup_append.1 hnd;refine ⟨h.dsz,h.dim,h.frl,h.mnd,fun p hp=>?_,fun x hx=>h.emp x (by rw [he]; simp [hx]),hnd2.1,fun g hg=>?_,?_,h.chn,h.lok⟩
 ·obtain ⟨i,k,e,ok⟩:=h.mok p hp;exact ⟨i,k,e,ok.hi,ok.hf,ok.blk,ok.len,ok.pin,fun q=>ok.emp (by rw [he]; simp [show (k:Int)∈E from q])⟩
 ·rw [List.mem_singleton] at hg;subst hg;refine ⟨?_,fun q=>hnd2.2.2 _ q (g:Int) (by simp) rfl,fun i hi=>?_⟩
  ·obtain ⟨f',e,hf⟩:=h.emp (g:Int) (by rw [he]; simp);omega
  ·obtain ⟨j,k,e1,e2,ok⟩:=h.at hi;exact ok.emp (by rw [<- e2,he]; simp)
 ·have h1:=h.tot;rw [he] at h1;simp only [lA,List.length_singleton,length_nil] at h1 ⊢;omega
theorem CaI.come {f:Nat} (h:CaI N B n t [f] c L) {i:Nat} (hi:i<N) (hno:∀ v,((i:Int),v)∉c.2.2.1) {x:Fr8} (h1:x.1=(i:Int)) (h2:x.2.1.length=B) (h3:x.2.2.2=1) (ht:1<=t) {ch:Chn} (hc:ChI n ch L) :
  CaI N B n t [] (c.1,c.2.1.set f x,c.2.2.1 ++ [((i:Int),(f:Int))],c.2.2.2.1,ch) L:=by
 obtain ⟨hf,hfe,hfm⟩:=h.hol f (by simp);have hfl:f<c.2.1.length:=by rw [h.frl]; exact hf
 have g:∀ k,(c.2.1.set f x).getD k default=if f=k then x else c.2.1.getD k default:=fun k=>Xc hfl
 have hne:∀ {j:Int} {k:Nat},(j,(k:Int))∈c.2.2.1->f≠k:=fun {j k} hjk e=>hfm j (by rw [e]; exact hjk);refine ⟨h.dsz,h.dim,by rw [length_set,h.frl],?_,fun p hp=>?_,h.emp,h.end_,by simp,?_,hc,fun k=>?_⟩
 ·dsimp only;rw [List.map_append,List.nodup_append];refine ⟨h.mnd,by simp,fun a ha b hb e=>?_⟩;obtain ⟨p,hp,rfl⟩:=List.mem_map.1 ha;simp only [List.map_cons,List.map_nil,List.mem_singleton] at hb;exact hno p.2 (by rw [<- hb,<- e]; exact hp)
 ·rcases List.mem_append.1 hp with q | q
  ·obtain ⟨j,k,e,okk⟩:=h.mok p q;have hk:f≠k:=hne (j:=(j:Int)) (by rw [<- e]; exact q);refine ⟨j,k,e,okk.hi,okk.hf,?_,?_,?_,okk.emp⟩
   ·dsimp only; rw [g k,iF hk]; exact okk.blk
   ·dsimp only; rw [g k,iF hk]; exact okk.len
   ·dsimp only; rw [g k,iF hk]; exact okk.pin
  ·rw [List.mem_singleton] at q;refine ⟨i,f,q,hi,hf,?_,?_,?_,hfe⟩
   ·dsimp only; rw [g f,iT rfl]; exact h1
   ·dsimp only; rw [g f,iT rfl]; exact h2
   ·dsimp only; rw [g f,iT rfl,h3]; omega
 ·have h1:=h.tot;simp only [lA,List.length_singleton,length_nil] at h1 ⊢;omega
 ·dsimp only;rw [g k];constructor
  ·intro hk;obtain ⟨⟨j,hj⟩,hp⟩:=(h.lok k).1 hk;rw [iF (hne hj)];exact ⟨⟨j,by simp [hj]⟩,hp⟩
  ·rintro ⟨⟨j,hj⟩,hp⟩;rcases List.mem_append.1 hj with q | q
   ·rw [iF (hne q)] at hp;exact (h.lok k).2 ⟨⟨j,q⟩,hp⟩
   ·rw [List.mem_singleton,Prod.mk.injEq] at q;have:f=k:=by omega
    rw [iT this,h3] at hp;omega
end
structure Siz (N B n:Nat):Prop where
 hB:1<=B
 hN:1<=N
 hNB:N*B<=4294967296
 hn:1<=n
 h64:n<=64
section
variable {N B n t:Nat} {H:List Nat} {c:Ca} {L:List Nat}
theorem Siz.N_le (z:Siz N B n):N<=4294967296:=Nat.le_trans (Nat.le_mul_of_pos_right N z.hB) z.hNB
theorem Siz.B_le (z:Siz N B n):B<=4294967296:=Nat.le_trans (Nat.le_mul_of_pos_left B z.hN) z.hNB
theorem Zdt (z:Siz N B n) (h:CaI N B n t [] c L) {i f:Nat} (ha:((i:Int),(f:Int))∈c.2.2.1):∃ ch,Q19.f c (f:Int)=some (c.1,c.2.1.set f (0,[],false,0),Wm (i:Int) c.2.2.1,c.2.2.2.1 ++ [(f:Int)],ch)/\CaI N B n t [] (c.1,c.2.1.set f (0,[],false,0),Wm (i:Int) c.2.2.1,c.2.2.2.1 ++ [(f:Int)],ch) (L.erase f):=by
 have ok:=h.atN ha;have h64:=z.h64;obtain ⟨r,ch,e,hc⟩:=Zhv h.chn ok.hf (by omega);have hfl:=h.frl;have htot:=h.tot;have hf:=ok.hf;refine ⟨ch,?_,h.leave ha h64 hc⟩;unfold Q19.f;rw [iO,show Q23.f (c.2.2.2.2.1,c.2.2.2.2.2) (f:Int)=_ from e,bS,iT (by simp only [List.length_singleton]; omega),show (gt c.2.1 (f:Int)).1=(i:Int) by rw [Zv]; exact ok.blk,tN]
theorem Zlw (z:Siz N B n) (h:CaI N B n t H c L) {i f:Nat} (ha:((i:Int),(f:Int))∈c.2.2.1):Q53.f c.1 (gt c.2.1 (f:Int)).1 (gt c.2.1 (f:Int)).2.1=some (0,c.1.1,patch c.1.2.1 (i*B) B (gt c.2.1 (f:Int)).2.1,c.1.2.2.1,uH.wrap (c.1.2.2.2+1)):=by
 have ok:=h.atN ha;have hi:=ok.hi;have hNl:=z.N_le;rw [show (gt c.2.1 (f:Int)).1=(i:Int) by rw [Zv]; exact ok.blk];have:=Zn5 (b:=(gt c.2.1 (f:Int)).2.1) (s:=c.1.2.2) z.hB z.hN h.dim z.hNB (show i<4294967296 by omega);rw [<- h.dsz] at this;rw [show Q53.f c.1 (i:Int) (gt c.2.1 (f:Int)).2.1=_ from this,iQ,iT (by rw [Zv]; exact ok.len)]
theorem CaI.back (z:Siz N B n) (h:CaI N B n t H c L) {i f:Nat} (ha:((i:Int),(f:Int))∈c.2.2.1) (s:T1):CaI N B n t H ((c.1.1,patch c.1.2.1 (i*B) B (gt c.2.1 (f:Int)).2.1,s),c.2.1.set f ((gt c.2.1 (f:Int)).1,(gt c.2.1 (f:Int)).2.1,false,(gt c.2.1 (f:Int)).2.2.2),c.2.2) L:=by
 have ok:=h.atN ha;have g:gt c.2.1 (f:Int)=c.2.1.getD f default:=Zv _ _;have h1:=h.setfr ha (x:=((gt c.2.1 (f:Int)).1,(gt c.2.1 (f:Int)).2.1,false,(gt c.2.1 (f:Int)).2.2.2)) (by rw [g]; exact ok.blk) (by rw [g]; exact ok.len) (by rw [g]; exact ok.pin) (Nat.le_refl t) h.chn (fun k=>by
  split
  ·rename_i q;subst q;rw [h.lok k,g];exact ⟨fun e=>e.2,fun e=>⟨⟨_,ha⟩,e⟩⟩
  ·exact Iff.rfl)
 exact h1.dev (Zl4 h.dim ok.hi) s
theorem Zos (z:Siz N B n) (h:CaI N B n t [] c L) (hw:0<=c.1.2.2.2/\c.1.2.2.2<=1000000000):Q21.f c=some (0,false,c)\/
  ∃(f:Nat) (c':Ca) (L':List Nat),Q21.f c=some ((f:Int),true,c')/\CaI N B n t [f] c' L'/\c'.1.2.2.1=c.1.2.2.1/\(c.1.2.2.2<=c'.1.2.2.2/\c'.1.2.2.2<=c.1.2.2.2+1)/\∀ p∈c'.2.2.1,p∈c.2.2.1:=by
 have h64:=z.h64;have htot:=h.tot;have hfl:=h.frl;have wr:uH.wrap (c.1.2.2.2+1)=c.1.2.2.2+1:=by
  obtain ⟨m,hm⟩:=Int.eq_ofNat_of_zero_le hw.1;have:c.1.2.2.2+1=((m+1:Nat):Int):=by omega
  rw [this];simp [IntKind.wrap,IntKind.bits,IntKind.signed];omega
 by_cases he:c.2.2.2.1=[]
 ·have e0:(decide ((c.2.2.2.1.length:Int)=0))=true:=by rw [he]; rfl
  rcases List.eq_nil_or_concat L with rfl | ⟨L0,q,hq⟩
  ·left;unfold Q21.f;rw [iT e0,show Q25.f (c.2.2.2.2.1,c.2.2.2.2.2)=_ from Ze0 h.chn,bS,iU]
  ·right;rw [List.concat_eq_append] at hq;subst hq;obtain ⟨⟨j,hj⟩,hp⟩:=(h.lok q).1 (by simp);obtain ⟨i,q',rfl,e2,ok⟩:=h.at hj;have:q=q':=by omega
   subst this;have hf:=ok.hf;unfold Q21.f;rw [iT e0,show Q25.f (c.2.2.2.2.1,c.2.2.2.2.2)=_ from Zou h.chn (by omega),bS,vS]
   try dsimp only
   rw [iO];have one:w64 ((([] ++ [(q:Int)]:List Int).length:Int) - 1)=0:=by
    show w64 (((1:Nat):Int) - 1)=0;decide
   by_cases hd:(gt c.2.1 (q:Int)).2.2.1=true
   ·have hb:=h.back z hj (c.1.2.2.1,c.1.2.2.2+1);obtain ⟨ch,e,hl⟩:=Zdt z hb (by exact hj);rw [iT hd,show Q53.f (c.1.1,c.1.2.1,(c.1.2.2.1,c.1.2.2.2)) (gt c.2.1 (q:Int)).1 (gt c.2.1 (q:Int)).2.1=_ from Zlw z h hj,bS]
    try dsimp only
    rw [wr,tN,show Q19.f ((c.1.1,patch c.1.2.1 (i*B) B (gt c.2.1 (q:Int)).2.1,c.1.2.2.1,c.1.2.2.2+1),c.2.1.set q ((gt c.2.1 (q:Int)).1,(gt c.2.1 (q:Int)).2.1,false,(gt c.2.1 (q:Int)).2.2.2),c.2.2.1,c.2.2.2.1,c.2.2.2.2.1,c.2.2.2.2.2) (q:Int)=_ from e,bS]
    try dsimp only
    rw [he,one,iU,iU];refine ⟨q,_,_,rfl,hl.take (E:=[]) (by dsimp only; rw [he]),rfl,by dsimp only; omega,fun p hp=>mdel_sub.subset hp⟩
   ·obtain ⟨ch,e,hl⟩:=Zdt z h hj;rw [iF hd,show Q19.f ((c.1.1,c.1.2.1,(c.1.2.2.1,c.1.2.2.2)),c.2.1,c.2.2.1,c.2.2.2.1,(c.2.2.2.2.1,c.2.2.2.2.2)) (q:Int)=_ from e,bS]
    try dsimp only
    rw [he,one,iU,iU];refine ⟨q,_,_,rfl,hl.take (E:=[]) (by dsimp only; rw [he]),rfl,by dsimp only; omega,fun p hp=>mdel_sub.subset hp⟩
 ·right;obtain ⟨E,x,hx⟩:∃ E x,c.2.2.2.1=E ++ [x]:=by
   rcases List.eq_nil_or_concat c.2.2.2.1 with e | ⟨E,x,e⟩
   ·exact absurd e he
   ·exact ⟨E,x,by rw [e,List.concat_eq_append]⟩
  obtain ⟨f,rfl,hf⟩:=h.emp x (by rw [hx]; simp);have hll:c.2.2.2.1.length=E.length+1:=by rw [hx]; simp
  have e1:w64 ((c.2.2.2.1.length:Int) - 1)=(E.length:Int):=by rw [wI2]; omega
  unfold Q21.f;rw [iN,e1,iO,iO,tN];have e2:gt c.2.2.2.1 (E.length:Int)=(f:Int):=by
   rw [Zv,hx,List.getD_eq_getElem?_getD,List.getElem?_append_right (Nat.le_refl _)]; simp
  have e3:c.2.2.2.1.take E.length=E:=by rw [hx,List.take_left]
  rw [e2,e3];exact ⟨f,_,_,rfl,h.take hx,rfl,by dsimp only; omega,fun p hp=>hp⟩
end
section
variable {N B n t:Nat} {c:Ca} {L:List Nat}
structure Few (c:Ca):Prop where
 rd:0<=c.1.2.2.1/\c.1.2.2.1<=100000000
 wr:0<=c.1.2.2.2/\c.1.2.2.2<=100000000
theorem Zoq {x:Int} (h:0<=x/\x<=1000000000):uH.wrap (x+1)=x+1:=by
 obtain ⟨m,hm⟩:=Int.eq_ofNat_of_zero_le h.1;have:x+1=((m+1:Nat):Int):=by omega
 rw [this];simp [IntKind.wrap,IntKind.bits,IntKind.signed];omega
theorem Zpz (z:Siz N B n) {H:List Nat} (h:CaI N B n t H c L):Q50.f c.1=some (N:Int):=by
 have:=Jn (s:=c.1.2.2) z.hB h.dim z.hNB;rw [<- h.dsz] at this;exact this
theorem Zmr (z:Siz N B n) {H:List Nat} (h:CaI N B n t H c L) (i:Nat) (hi:i<4294967296):Q22.f c (i:Int)=some (if N<=i then 4 else 0):=by
 have hN:=z.N_le;unfold Q22.f Q20.f;rw [bS,vS,show Q50.f (c.1.1,c.1.2.1,(c.1.2.2.1,c.1.2.2.2))=_ from Zpz z h,bS,wI2 (x:=(i:Int))];by_cases q:N<=i
 ·rw [iP,iT q]
 ·rw [iN,iF q]
theorem Zqs (z:Siz N B n) {H:List Nat} (h:CaI N B n t H c L) {i:Nat} (hi:i<N):Q52.f c.1 (i:Int)=some (blk c.1.2.1 B i,0,(c.1.1,c.1.2.1,uH.wrap (c.1.2.2.1+1),c.1.2.2.2)):=by
 have hN:=z.N_le;have:=Zpq (s:=c.1.2.2) z.hB z.hN h.dim z.hNB (show i<4294967296 by omega);rw [<- h.dsz] at this;rw [show Q52.f c.1 (i:Int)=_ from this,iQ]
theorem Zf2 {es:TS} {x v:Int} (h:∀ v,(x,v)∉es):Yz x v es=es ++ [(x,v)]:=Zdb (by
 cases q:Y6 es x with
 | false=>rfl
 | true=>obtain ⟨v,hv⟩:=mhas_iff.1 q; exact absurd hv (h v))
theorem Zff (h:CaI N B n t [] c L) {f:Nat} {p:Int} (hp:p≠0) (g:Nat):g∈L.erase f↔if g=f then p=0 else g∈L:=by
 rw [h.chn.nd.mem_erase_iff];split
 ·rename_i e; exact ⟨fun q=>absurd e q.1,fun q=>absurd q hp⟩
 ·rename_i e; exact ⟨fun q=>q.2,fun q=>⟨e,q⟩⟩
theorem Znl (h:CaI N B n t [] c L) {i f:Nat} (ha:((i:Int),(f:Int))∈c.2.2.1) (g:Nat):g∈L↔if g=f then (c.2.1.getD f default).2.2.2=0 else g∈L:=by
 split
 ·rename_i q;subst q;rw [h.lok g];exact ⟨fun e=>e.2,fun e=>⟨⟨_,ha⟩,e⟩⟩
 ·exact Iff.rfl
end
section
variable {N B n t:Nat} {c:Ca} {L:List Nat}
theorem Zrh (z:Siz N B n) {img:T2} (hl:img.length=N*B) (s:T1) {ch:Chn} (hc:ChI n ch []):CaI N B n 0 [] (((B:Int),img,s),List.replicate n (0,[],false,0),[],(List.range n).map (fun(i:Nat)=>(i:Int)),ch) []:=by
 refine ⟨rfl,hl,by simp,by simp,by simp,fun x hx=>?_,?_,by simp,by simp,hc,by simp⟩
 ·obtain ⟨i,hi,rfl⟩:=List.mem_map.1 hx;exact ⟨i,rfl,List.mem_range.1 hi⟩
 ·exact List.Pairwise.map _ (fun a b hne e=>hne (by have:(a:Int)=(b:Int):=e; omega)) List.nodup_range
end
def upd {α:Type} (g:Nat->α) (i:Nat) (v:α):Nat->α:=fun j=>if j=i then v else g j
theorem Z7 {α:Type} (g:Nat->α) (i:Nat) (v:α):upd g i v i=v:=iT rfl
theorem Yf {α:Type} {g:Nat->α} {i j:Nat} {v:α} (h:j≠i:=by omega):upd g i v j=g j:=iF h
structure Fm where
 b:List Int
 d:Bool
 p:Nat
structure MC where
 img:List Int
 rd:Int
 wr:Int
 fr:Nat->Option Fm
 used:Nat
 row:List Nat
def fm (x:Fr8):Fm:=⟨x.2.1,x.2.2.1,x.2.2.2.toNat⟩
def Xq (c:Ca) (i:Nat):Option Fm:=if Y6 c.2.2.1 (i:Int)=true then some (fm (c.2.1.getD (Zm 0 c.2.2.1 (i:Int)).toNat default)) else none
def Wa (c:Ca) (f:Nat):Nat:=(c.2.1.getD f default).1.toNat
def Z6 (c:Ca) (L:List Nat):MC:=⟨c.1.2.1,c.1.2.2.1,c.1.2.2.2,Xq c,c.2.2.1.length,L.map (Wa c)⟩
namespace MC
def evict (B:Nat) (m:MC) (q:Nat):MC:=match m.fr q with
 | none=>m
 | some x=>⟨if x.d=true then patch m.img (q*B) B x.b else m.img,m.rd,if x.d=true then m.wr+1 else m.wr,upd m.fr q none,m.used - 1,m.row.erase q⟩
def room (B n:Nat) (m:MC):Option MC:=if m.used<n then some m else match m.row.getLast? with
 | none=>none
 | some q=>some (m.evict B q)
def come (m:MC) (i:Nat) (x:Fm):MC:=⟨m.img,m.rd,m.wr,upd m.fr i (some x),m.used+1,m.row⟩
def put (m:MC) (i:Nat) (x:Fm):MC:=⟨m.img,m.rd,m.wr,upd m.fr i (some x),m.used,m.row⟩
def cut (m:MC) (i:Nat):MC:=⟨m.img,m.rd,m.wr,m.fr,m.used,m.row.erase i⟩
def pin (N B n:Nat) (m:MC) (i:Nat):Int×MC:=
 if N<=i then (4,m) else match m.fr i with
 | some x=>(0,(m.put i ⟨x.b,x.d,x.p+1⟩).cut i)
 | none=>match m.room B n with
  | none=>(7,m)
  | some k=>(0,(⟨k.img,k.rd+1,k.wr,k.fr,k.used,k.row⟩:MC).come i ⟨blk k.img B i,false,1⟩)
def fresh (N B n:Nat) (m:MC) (i:Nat):Int×MC:=
 if N<=i then (4,m) else match m.fr i with
 | some x=>if 0<x.p then (8,m) else (0,(m.put i ⟨List.replicate B 0,true,1⟩).cut i)
 | none=>match m.room B n with
  | none=>(7,m)
  | some k=>(0,k.come i ⟨List.replicate B 0,true,1⟩)
def unpin (m:MC) (i:Nat):Int×MC:=match m.fr i with
 | none=>(8,m)
 | some x=>if x.p=0 then (8,m) else (0,if x.p=1 then ⟨m.img,m.rd,m.wr,upd m.fr i (some ⟨x.b,x.d,0⟩),m.used,i :: m.row⟩ else m.put i ⟨x.b,x.d,x.p - 1⟩)
def write (B:Nat) (m:MC) (i:Nat) (b:T2):Int×MC:=match m.fr i with
 | none=>(8,m)
 | some x=>if x.p=0 then (8,m) else if b.length=B then (0,m.put i ⟨b,true,x.p⟩) else (3,m)
def read (m:MC) (i:Nat):List Int×Int:=match m.fr i with
 | none=>([],8)
 | some x=>if x.p=0 then ([],8) else (x.b,0)
end MC
theorem MC.ext' {a b:MC} (h1:a.img=b.img) (h2:a.rd=b.rd) (h3:a.wr=b.wr) (h4:∀ i,a.fr i=b.fr i) (h5:a.used=b.used) (h6:a.row=b.row):a=b:=by
 cases a; cases b;simp only at h1 h2 h3 h4 h5 h6;subst h1 h2 h3 h5 h6;have:=funext h4;subst this;rfl
end Go.SK.T
