/- The plain law behind WalkLooks: what its code computes is true for all settings, trees and heights. -/
import Derived.Test.YtolapahaeipgfaaGreatDoorXWalkLooksF3
import Derived.KernelRfl
import Derived.Sort.Walk13a
import Derived.Sort.AssemblyPlain
set_option linter.unusedVariables false
set_option linter.unusedSimpArgs false
namespace Go.SK.T
open Go Go.SK
open BitVec (ofInt)
open List (length_set length_nil append_assoc length_cons drop_eq_nil_of_le length_take length_drop length_map length_range length_replicate)
theorem iN {p:Prop} [Decidable p] {α:Type} {a b:α} (h:¬ p:=by omega):(if decide p=true then a else b)=b:=if_neg (by simpa using h)
theorem iP {p:Prop} [Decidable p] {α:Type} {a b:α} (h:p:=by omega):(if decide p=true then a else b)=a:=if_pos (decide_eq_true h)
theorem kS1 (k:Nat) (h:1<=k:=by omega):∃ j,k=j+1:=⟨k - 1,by omega⟩
theorem kS2 (k:Nat) (h:2<=k:=by omega):∃ j,k=j+2:=⟨k - 2,by omega⟩
theorem kS3 (k:Nat) (h:3<=k:=by omega):∃ j,k=j+3:=⟨k - 3,by omega⟩
theorem bS {α β:Type} (a:α) (f:α->Option β):(some a).bind f=f a:=rfl
theorem iT.{u} {c:Prop} {h:Decidable c} (hc:c) {α:Sort u} {t e:α}:ite c t e=t:=if_pos hc
theorem iF.{u} {c:Prop} {h:Decidable c} (hc:¬ c) {α:Sort u} {t e:α}:ite c t e=e:=if_neg hc
theorem dE {p:Prop} [Decidable p]:(decide p=true)=p:=decide_eq_true_eq
theorem dT {p:Prop} [Decidable p] (h:p:=by omega):decide p=true:=decide_eq_true h
theorem dF {p:Prop} [Decidable p] (h:¬ p:=by omega):decide p=false:=decide_eq_false h
theorem tN (n:Nat):(n:Int).toNat=n:=rfl
theorem lA {α:Type} {a b:List α}:(a ++ b).length=a.length+b.length:=List.length_append
theorem iO.{u} {c:Prop} {_:Decidable c} {α:Sort u} {t e:α} (hc:c:=by omega):ite c t e=t:=if_pos hc
theorem iQ.{u} {c:Prop} {_:Decidable c} {α:Sort u} {t e:α} (hc:¬ c:=by omega):ite c t e=e:=if_neg hc
theorem vS.{u} {c:Prop} {_:Decidable c} {α:Sort u} {t e:α} (hc:¬ c:=by simp):ite c t e=e:=if_neg hc
theorem iU.{u} {c:Prop} {_:Decidable c} {α:Sort u} {t e:α} (hc:c:=by simp):ite c t e=t:=if_pos hc
theorem iV.{u} {c:Prop} {_:Decidable c} {α:Sort u} {t e:α} (hc:c:=by (simp; omega)):ite c t e=t:=if_pos hc
theorem iW.{u} {c:Prop} {_:Decidable c} {α:Sort u} {t e:α} (hc:¬ c:=by (simp; omega)):ite c t e=e:=if_neg hc
theorem dN {α:Type} {l:List α} {i:Nat} (h:l.length<=i:=by omega):l.drop i=[]:=drop_eq_nil_of_le h
theorem tO {α:Type} {l:List α} {i:Nat} (h:l.length<=i:=by omega):l.take i=l:=List.take_of_length_le h
theorem wS2 {i:Nat} (h:i<4611686018427387904:=by omega):w64 ((i:Int)+1)=((i+1:Nat):Int):=Gf h
theorem wI2 {x} (h0:-9223372036854775808<=x:=by omega) (h1:x<=9223372036854775807:=by omega):w64 x=x:=Bw h0 h1
theorem Zd3:∀(k:Nat) (a b:TX) (i:Nat),a.length<=4611686018427387904->b.length<=4611686018427387904->i<=a.length->i<=b.length->a.length - i<k->
  Q131.l0 k a b (i:Int)=some (Xq (a.drop i) (b.drop i))
 | 0,a,b,i,_,_,_,_,h=>by omega
 | k+1,a,b,i,ha,hb,hia,hib,hk=>by
  unfold Q131.l0;by_cases h1:i<a.length
  ·by_cases h2:i<b.length
   ·have g1:(0:Int)<=(i:Int)/\(i:Int)<(a.length:Int):=by omega
    have g2:(0:Int)<=(i:Int)/\(i:Int)<(b.length:Int):=by omega
    have w:w64 ((i:Int)+1)=((i+1:Nat):Int):=by rw [wI2]; omega
    have ih:=Zd3 k a b (i+1) ha hb (by omega) (by omega) (by omega);simp only [g1.2,g2.2,g1,g2,decide_true,if_true,and_self,w,ih,Zsa,tN,Zgu h1,Zgu h2,Znz,dE];split
    ·rfl
    ·split <;> rfl
   ·have g1:(i:Int)<(a.length:Int):=by omega
    have g2:¬ (i:Int)<(b.length:Int):=by omega
    have e:b.drop i=[]:=dN;have z1:¬ (a.length:Int)<(b.length:Int):=by omega
    have z2:(b.length:Int)<(a.length:Int):=by omega
    have z3:¬ (a.drop i).length=0:=by rw [length_drop]; omega
    simp [g1,g2,e,z1,z2,Ze3,z3];omega
  ·have g1:¬ (i:Int)<(a.length:Int):=by omega
   have e:a.drop i=[]:=dN;have z:(b.drop i).length=b.length - i:=length_drop ..;simp only [g1,e,Zg4,z,decide_false,Bool.false_eq_true,if_false,dE];by_cases h2:b.length=i
   ·have z1:¬ (a.length:Int)<(b.length:Int):=by omega
    have z2:¬ (b.length:Int)<(a.length:Int):=by omega
    have h3:a.length=i:=by omega
    simp [h2,h3]
   ·have z1:(a.length:Int)<(b.length:Int):=by omega
    have z2:¬ b.length - i=0:=by omega
    simp [z1,z2]
theorem V1 {k:Nat} {a b:TX} (ha:a.length<=2000) (hb:b.length<=2000) (hk:2000<k):Q131.f k a b=some (Xq a b):=by
 have:=Zd3 k a b 0 (by omega) (by omega) (by omega) (by omega) (by omega);simpa [Q131.f] using this
abbrev Msg:=List UInt8×Bool×List UInt8
abbrev Cfg:=Int×Int×Int×Int×Int×Int×Int×Int
abbrev Pr:=List UInt8×List UInt8
abbrev Nd:=Int×List Int×List TX×List Msg×List Pr
structure SmallN (n:Nd):Prop where
 kids:n.2.1.length<=80
 pivs:n.2.2.1.length<=80
 buf:n.2.2.2.1.length<=150
 prs:n.2.2.2.2.length<=150
 pk:∀ p∈n.2.2.1,p.length<=200
 bk:∀ m∈n.2.2.2.1,m.1.length<=200
 rk:∀ m∈n.2.2.2.2,m.1.length<=200
structure OkC (c:Cfg):Prop where
 fan:8<=c.2.2.2.1/\c.2.2.2.1<=64
 key:1<=c.2.2.2.2.2.2.1/\c.2.2.2.2.2.2.1<=64
 val:0<=c.2.2.2.2.2.2.2/\c.2.2.2.2.2.2.2<=256
 buf:16<=c.2.2.2.2.1/\c.2.2.2.2.1<=512
 leaf:c.2.2.2.2.1<=c.2.2.2.2.2.1/\c.2.2.2.2.2.1<=1024
abbrev Sp:=List UInt8×List UInt8×Bool
def inS (s:Sp) (x:TX):Bool:=!Op.bytesLess x s.1 && (s.2.2 || Op.bytesLess x s.2.1)
theorem Zqt (a b:TX):decide (0<=Xq a b)=!Op.bytesLess a b:=by
 rcases Zgr a b with ⟨e,h⟩ | ⟨e,rfl⟩ | ⟨e,h⟩
 ·simp [e,h]
 ·simp [e,Vf]
 ·simp [e,Xx h]
def Zcb:List Pr->Bool
 | a :: b :: r=>Op.bytesLess a.1 b.1 && Zcb (b :: r)
 | _=>true
def Xh (c:Cfg) (x:TX):Bool:=decide (1<=(x.length:Int)/\(x.length:Int)<=c.2.2.2.2.2.2.1)
theorem Zef (c:Cfg) (x:TX):Q143.f c x=some (Xh c x):=by
 unfold Q143.f Xh;by_cases h:1<=(x.length:Int) <;> simp [h]
def prB (c:Cfg) (s:Sp) (p:Pr):Bool:=Xh c p.1 && (inS s p.1 && decide ((p.2.length:Int)<=c.2.2.2.2.2.2.2))
def Zev (c:Cfg) (s:Sp) (n:Nd):Bool:=n.2.2.2.2.all (prB c s) && (decide (n.2.1=[]) && (decide (n.2.2.1=[]) && (decide (n.2.2.2.1=[]) && (decide ((n.2.2.2.2.length:Int)<=c.2.2.2.2.2.1) && Zcb n.2.2.2.2))))
theorem Zea {l:TO} {i:Nat} (h:i+1<l.length):W7 (l.drop i)=(Op.bytesLess (l.getD i []) (l.getD (i+1) []) && W7 (l.drop (i+1))):=by
 rw [Yv (show i<l.length by omega),Yv h];rfl
theorem Zmu {l:TO} {i:Nat} (h:l.length<=i+1):W7 (l.drop i)=true:=by
 by_cases h':i<l.length
 ·rw [Yv h',dN];rfl
 ·rw [dN];rfl
def piv (s:Sp) (p:TX):Bool:=inS s p && !decide (p=s.1)
def Zci:List Msg->Bool
 | a :: b :: r=>Op.bytesLess a.1 b.1 && Zci (b :: r)
 | _=>true
def Zb5 (c:Cfg) (s:Sp) (m:Msg):Bool:=Xh c m.1 && (inS s m.1 && (decide ((m.2.2.length:Int)<=c.2.2.2.2.2.2.2) && (!m.2.1 || decide (m.2.2=[]))))
def Zhe (c:Cfg) (s:Sp) (n:Nd):Bool:=decide (n.1<=40) && (decide (n.2.2.2.2=[]) && (decide (1<=n.2.1.length) && (decide ((n.2.1.length:Int)<=c.2.2.2.1) && (decide (n.2.2.1.length+1=n.2.1.length) && ((n.2.2.1.all (piv s) && W7 n.2.2.1) && (decide ((n.2.2.2.1.length:Int)<=c.2.2.2.2.1) && Zci n.2.2.2.1))))))
def neB (l:T0) (i q:Nat):Bool:=!decide (l.getD q 0=l.getD i 0)
def Zas (c:Cfg) (l:T0) (i:Nat):Bool:=!decide (l.getD i 0=0) && (!decide (c.1<=w64 (l.getD i 0)) && (List.range' 0 i).all (neB l i))
def Zha (c:Cfg) (s:Sp) (n:Nd):Bool:=n.2.2.1.all (Xh c) && (n.2.2.2.1.all (Zb5 c s) && Zhe c s n)
def Zit (c:Cfg) (s:Sp) (n:Nd):Bool:=(List.range' 0 n.2.1.length).all (Zas c n.2.1) && Zha c s n
theorem Zjz:∀ l,W7 l=Vq (fun x=>x) l
 | []=>rfl
 | [_]=>rfl
 | a :: b :: r=>by rw [W7,Vq,Zjz (b :: r)]
theorem Zkf:∀ l:List Msg,Zci l=Vq (fun x=>x.1) l
 | []=>rfl
 | [_]=>rfl
 | a :: b :: r=>by rw [Zci,Vq,Zkf (b :: r)]
theorem Zki:∀ l:List Pr,Zcb l=Vq (fun x=>x.1) l
 | []=>rfl
 | [_]=>rfl
 | a :: b :: r=>by rw [Zcb,Vq,Zki (b :: r)]
theorem Zk5 {l:List Msg} (hl:l.length<=1000000):Q88.f l=some l:=by
 unfold Q88.f;rw [iV];rfl
theorem Bh {α:Type} [Inhabited α] [DecidableEq α] {F:Nat->Int->Option Bool} {a b:List α} {eqb:α->α->Bool} (he:∀ x y,eqb x y=decide (x=y)) (hab:a.length=b.length) (ha:a.length<=1000000)
  (hF:∀ k i,F (k+1) i=if (decide (i<(a.length:Int)))=true then (if 0<=i/\i<(a.length:Int) then (if 0<=i/\i<(b.length:Int) then (if (!(eqb (gt a i) (gt b i)))=true then (some false) else (F k (w64 (i+1)))) else none) else none) else (some true)) :
  ∀(k i:Nat),i<=a.length->a.length - i<k->F k (i:Int)=some (decide (a.drop i=b.drop i))
 | 0,i,_,h=>by omega
 | k+1,i,hi,hk=>by
  rw [hF];by_cases h:i<a.length
  ·have g1:(0:Int)<=(i:Int)/\(i:Int)<(a.length:Int):=by omega
   have g2:(0:Int)<=(i:Int)/\(i:Int)<(b.length:Int):=by omega
   rw [iT (dT g1.2),iT g1,iT g2,he,wS2,Bh he hab ha hF k (i+1) (by omega) (by omega),Yv h,Yv (show i<b.length by omega),Zw,Zw];generalize a.getD i default=x;generalize b.getD i default=y;by_cases e:x=y
   ·simp [e]
   ·simp [e]
  ·rw [iW,dN,dN];rfl
instance decNd4:DecidableEq (List Msg×List Pr):=instDecidableEqProd
instance decNd3:DecidableEq (List TX×List Msg×List Pr):=instDecidableEqProd
instance decNd2:DecidableEq (List Int×List TX×List Msg×List Pr):=instDecidableEqProd
instance decNd1:DecidableEq Nd:=instDecidableEqProd
theorem Ziw {l:T0} (hl:l.length<=1000000):Q92.f l=some l:=by
 unfold Q92.f;rw [iV];rfl
theorem Zjr {l:TO} (hl:l.length<=1000000):Q91.f l=some l:=by
 unfold Q91.f;rw [iV];rfl
theorem Zjl {l:List Pr} (hl:l.length<=1000000):Q89.f l=some l:=by
 unfold Q89.f;rw [iV];rfl
abbrev ltI:=Go.Sort.ltInt
theorem Xm (x y:Int):Q33.f x y=some (ltI x y):=by
 unfold Q33.f Q34.f ltI Go.Sort.ltInt;simp
theorem gta (d:Array Int) (i:Nat):gt d.toList (i:Int)=d[i]!:=by
 rw [Zw,List.getD_eq_getElem?_getD];by_cases h:i<d.size
 ·simp [h]
 ·simp [h]
theorem Ww (d:Array Int) (i j:Nat):(d.toList.set i d[j]!).set j d[i]! = (Go.Sort.swp d i j).toList:=by
 simp [Go.Sort.swp]
theorem Yp (d:Array Int) (i j:Nat):(Go.Sort.swp d i j).size=d.size:=by simp [Go.Sort.swp]
theorem wn {x:Int} {n:Nat} (h:x=n) (hn:n<=4611686018427387904):w64 x=(n:Int):=by rw [wI2,h]
theorem Zgf {a b i:Nat} {r:T0}:∀(j:Nat) (d:Array Int),j<d.size->d.size<=1000000000000000->i<1000000000000000->Ev (fun k=>Q109.l0 k (a:Int) (b:Int) (Go.Sort.insInner ltI a j d).toList ((i+1:Nat):Int)) r->
  Ev (fun k=>Q109.l1 k (a:Int) (b:Int) (i:Int) d.toList (j:Int)) r
 | 0,d,hj,hd,hi,h=>h.step fun k hk=>by
  rw [Q109.l1,iN,wn (n:=i+1) (by omega) (by omega)];exact hk
 | j+1,d,hj,hd,hi,h=>by
  have e1:w64 (((j+1:Nat):Int) - 1)=(j:Int):=wn (by omega) (by omega);unfold Go.Sort.insInner at h;by_cases c:a<j+1
  ·by_cases q:ltI d[j+1]! d[j]! = true
   ·rw [iT (by simp [c,q])] at h;have:=Zgf j (Go.Sort.swp d (j+1) j) (by rw [Yp]; omega) (by rw [Yp]; omega) hi h;refine this.step fun k hk=>?_;rw [Q109.l1,iP,iV,e1,iV,gta,gta,Xm,bS,iT q,tN,tN,Ww];exact hk
   ·rw [iF (by simp [q])] at h;refine h.step fun k hk=>?_;rw [Q109.l1,iP,iV,e1,iV,gta,gta,Xm,bS,iF q,wn (n:=i+1) (by omega) (by omega)];exact hk
  ·rw [iF (by simp [c])] at h;refine h.step fun k hk=>?_;rw [Q109.l1,iN,wn (n:=i+1) (by omega) (by omega)];exact hk
theorem Za0 (a:Nat):∀(j:Nat) (d:Array Int),(Go.Sort.insInner ltI a j d).size=d.size
 | 0,d=>rfl
 | j+1,d=>by
  unfold Go.Sort.insInner;split
  ·rw [Za0 a j,Yp]
  ·rfl
theorem Zgw {a b:Nat}:∀(m i:Nat) (d:Array Int),b - i=m->b<=d.size->d.size<=1000000000000000->i<=1000000000000000->Ev (fun k=>Q109.l0 k (a:Int) (b:Int) d.toList (i:Int)) (Go.Sort.insOuter ltI a b i d).toList
 | 0,i,d,hm,hb,hd,hi=>Ev.last fun k=>by
  rw [Q109.l0,iN];unfold Go.Sort.insOuter;rw [iQ]
 | m+1,i,d,hm,hb,hd,hi=>by
  have hs:=Za0 a i d;have ih:=Zgw (a:=a) (b:=b) m (i+1) (Go.Sort.insInner ltI a i d) (by omega) (by omega) (by omega) (by omega);unfold Go.Sort.insOuter;rw [iO];refine (Zgf (b:=b) i d (by omega) hd (by omega) ih).step fun k hk=>?_;rw [Q109.l0,iP];exact hk
theorem Zra {a b:Nat} {d:Array Int} (hb:b<=d.size) (ha:a<=999999999999999) (hd:d.size<=1000000000000000):Ev (fun k=>Q109.f k d.toList (a:Int) (b:Int)) (Go.Sort.insertionSort ltI d a b).toList:=by
 refine (Zgw (a:=a) (b:=b) (b - (a+1)) (a+1) d rfl hb hd (by omega)).next fun k hk=>?_;unfold Q109.f;rw [wn (n:=a+1) (by omega) (by omega)];exact hk
theorem Gy (hi first:Nat):∀(n root:Nat) (d:Array Int),hi - root<=n->(Go.Sort.siftDown ltI hi first root d).size=d.size
 | 0,root,d,h=>by
  rw [Go.Sort.siftDown,dif_pos (by omega)]
 | n+1,root,d,h=>by
  rw [Go.Sort.siftDown];split
  ·rfl
  ·split
   ·split
    ·rfl
    ·split
     ·rw [Gy hi first n _ _ (by omega),Yp]
     ·rfl
   ·split
    ·rfl
    ·rw [Gy hi first n _ _ (by omega),Yp]
theorem Zke {hi first:Nat}:∀(n root:Nat) (d:Array Int),hi - root<=n->first+hi<=d.size->d.size<=1000000000000000->root<=1000000000000000->Ev (fun k=>Q119.l0 k (hi:Int) (first:Int) d.toList (root:Int)) (Go.Sort.siftDown ltI hi first root d).toList
 | n,root,d,hn,hf,hd,hr=>by
  have e1:w64 (2*(root:Int))=((2*root:Nat):Int):=wn (by omega) (by omega);have e2:w64 (((2*root:Nat):Int)+1)=((2*root+1:Nat):Int):=wn (by omega) (by omega);have e3:w64 (((2*root+1:Nat):Int)+1)=((2*root+2:Nat):Int):=wn (by omega) (by omega);have e4:w64 ((first:Int)+((2*root+1:Nat):Int))=((first+(2*root+1):Nat):Int):=wn (by omega) (by omega)
  have e5:w64 (((first+(2*root+1):Nat):Int)+1)=((first+(2*root+1)+1:Nat):Int):=wn (by omega) (by omega)
  have e6:w64 ((first:Int)+(root:Int))=((first+root:Nat):Int):=wn (by omega) (by omega)
  have e7:w64 ((first:Int)+((2*root+2:Nat):Int))=((first+(2*root+2):Nat):Int):=wn (by omega) (by omega)
  have un:∀ k,Q119.l0 (k+1) (hi:Int) (first:Int) d.toList (root:Int)=_:=fun k=>Q119.l0.eq_2 (hi:Int) (first:Int) d.toList (root:Int) k
  simp only [e1,e2,e3,e4,e5,e6,e7,gta,Xm,bS,tN,Ww] at un;rw [Go.Sort.siftDown];by_cases h1:2*root+1>=hi
  ·rw [dif_pos h1];exact Ev.last fun k=>by rw [un,iP]
  ·rw [dif_neg h1];cases n with
   | zero=>omega
   | succ n=>
   have go:∀(c:Nat),root<c->c<hi->Ev (fun k=>Q119.l0 k (hi:Int) (first:Int) (Go.Sort.swp d (first+root) (first+c)).toList (c:Int)) (Go.Sort.siftDown ltI hi first c (Go.Sort.swp d (first+root) (first+c))).toList:=fun c h2 h3=>
    Zke n c _ (by omega) (by rw [Yp]; exact hf) (by rw [Yp]; exact hd) (by omega)
   have b0:(0:Int)<=((first+root:Nat):Int)/\((first+root:Nat):Int)<(d.toList.length:Int):=by simp; omega
   have b1:(0:Int)<=((first+(2*root+1):Nat):Int)/\((first+(2*root+1):Nat):Int)<(d.toList.length:Int):=by simp; omega
   have left:Ev (fun k=>Q119.l0 k (hi:Int) (first:Int) d.toList (root:Int)) (if !ltI d[first+root]! d[first+(2*root+1)]! then d else Go.Sort.siftDown ltI hi first (2*root+1) (Go.Sort.swp d (first+root) (first+(2*root+1)))).toList->True:=fun _=>trivial
   by_cases h2:2*root+1+1<hi
   ·have b2:(0:Int)<=((first+(2*root+1)+1:Nat):Int)/\((first+(2*root+1)+1:Nat):Int)<(d.toList.length:Int):=by simp; omega
    have b3:(0:Int)<=((first+(2*root+2):Nat):Int)/\((first+(2*root+2):Nat):Int)<(d.toList.length:Int):=by simp; omega
    by_cases h3:ltI d[first+(2*root+1)]! d[first+(2*root+1)+1]! = true
    ·rw [iT (by simp [h2,h3])];by_cases h4:ltI d[first+root]! d[first+(2*root+2)]! = true
     ·rw [iF (by simp [h4]),dif_pos (by omega)];refine (go (2*root+2) (by omega) (by omega)).step fun k hk=>?_;rw [un,iN,iP,iT b1,iT b2,iT h3,iT b0,iT b3,iF (by simp [h4])];exact hk
     ·rw [iT (by simp [h4])];refine Ev.last fun k=>?_;rw [un,iN,iP,iT b1,iT b2,iT h3,iT b0,iT b3,iT (by simp [h4])]
    ·rw [iF (by simp [h3])];by_cases h4:ltI d[first+root]! d[first+(2*root+1)]! = true
     ·rw [iF (by simp [h4])];refine (go (2*root+1) (by omega) (by omega)).step fun k hk=>?_;rw [un,iN,iP,iT b1,iT b2,iF h3,iT b0,iF (by simp [h4])];exact hk
     ·rw [iT (by simp [h4])];refine Ev.last fun k=>?_;rw [un,iN,iP,iT b1,iT b2,iF h3,iT b0,iT (by simp [h4])]
   ·rw [iF (by simp [h2])];by_cases h4:ltI d[first+root]! d[first+(2*root+1)]! = true
    ·rw [iF (by simp [h4])];refine (go (2*root+1) (by omega) (by omega)).step fun k hk=>?_;rw [un,iN,iN,iT b0,iT b1,iF (by simp [h4])];exact hk
    ·rw [iT (by simp [h4])];refine Ev.last fun k=>?_;rw [un,iN,iN,iT b0,iT b1,iT (by simp [h4])]
theorem Zps {hi first root:Nat} {d:Array Int} (hf:first+hi<=d.size) (hd:d.size<=1000000000000000) (hr:root<=1000000000000000):Ev (fun k=>Q119.f k d.toList (root:Int) (hi:Int) (first:Int)) (Go.Sort.siftDown ltI hi first root d).toList:=Zke hi root d (by omega) hf hd hr
theorem Zhw {a:Nat}:∀(m:Nat) (d:Array Int),a+m<=d.size->d.size<=1000000000000000->Ev (fun k=>Q108.l1 k (a:Int) d.toList ((m:Int) - 1)) (Go.Sort.heapPop ltI a m d).toList
 | 0,d,h,hd=>Ev.last fun k=>by
  rw [Q108.l1,vS];rfl
 | m+1,d,h,hd=>by
  have e0:(((m+1:Nat):Int) - 1)=(m:Int):=by omega
  have e1:w64 ((a:Int)+(m:Int))=((a+m:Nat):Int):=wn (by omega) (by omega);have e2:w64 ((m:Int) - 1)=(m:Int) - 1:=wI2;have s1:=Zps (hi:=m) (first:=a) (root:=0) (d:=Go.Sort.swp d a (a+m)) (by rw [Yp]; omega) (by rw [Yp]; exact hd) (by omega)
  have sz:=Gy m a m 0 (Go.Sort.swp d a (a+m)) (by omega);rw [Yp] at sz;have ih:=Zhw (a:=a) m (Go.Sort.siftDown ltI m a 0 (Go.Sort.swp d a (a+m))) (by omega) (by omega);rw [e0];refine Ev.step2 s1 ih fun k h1 h2=>?_;rw [Q108.l1,iP,e1,iV,iV,gta,gta,tN,tN,Ww,show Q119.f k (Go.Sort.swp d a (a+m)).toList 0 (m:Int) (a:Int)=_ from h1,bS,e2];exact h2
theorem Zeb {a b:Nat} (hab:a<=b):∀(m:Nat) (d:Array Int),b<=d.size->d.size<=1000000000000000->m<=1000000000000000->Ev (fun k=>Q108.l0 k (a:Int) (b:Int) d.toList ((m:Int) - 1)) (Go.Sort.heapPop ltI a (b - a) (Go.Sort.heapBuild ltI (b - a) a m d)).toList
 | 0,d,h,hd,hm=>by
  have e1:w64 ((b:Int) - (a:Int))=((b - a:Nat):Int):=wn (by omega) (by omega);have e2:w64 (((b - a:Nat):Int) - 1)=((b - a:Nat):Int) - 1:=wI2;refine (Zhw (a:=a) (b - a) d (by omega) hd).step fun k hk=>?_;rw [Q108.l0,vS,e1,e2];exact hk
 | m+1,d,h,hd,hm=>by
  have e0:(((m+1:Nat):Int) - 1)=(m:Int):=by omega
  have e1:w64 ((b:Int) - (a:Int))=((b - a:Nat):Int):=wn (by omega) (by omega);have e2:w64 ((m:Int) - 1)=(m:Int) - 1:=wI2;have s1:=Zps (hi:=b - a) (first:=a) (root:=m) (d:=d) (by omega) hd (by omega)
  have sz:=Gy (b - a) a (b - a) m d (by omega);have ih:=Zeb hab m (Go.Sort.siftDown ltI (b - a) a m d) (by omega) (by omega) (by omega);rw [e0];refine Ev.step2 s1 ih fun k h1 h2=>?_;rw [Q108.l0,iP,e1,h1,bS,e2];exact h2
theorem Zsy {a b:Nat} {d:Array Int} (hab:a<=b) (hb:b<=d.size) (hd:d.size<=1000000000000000):Ev (fun k=>Q108.f k d.toList (a:Int) (b:Int)) (Go.Sort.heapSort ltI d a b).toList:=by
 refine (Zeb hab ((b - a - 1) / 2+1) d hb hd (by omega)).next fun k hk=>?_;have e1:w64 ((b:Int) - (a:Int))=((b - a:Nat):Int):=wn (by omega) (by omega);have e2:w64 (((b - a:Nat):Int) - 1)=((b - a:Nat):Int) - 1:=wI2;have e3:Int.tdiv (((b - a:Nat):Int) - 1) 2=(((b - a - 1) / 2:Nat):Int):=by
  by_cases z:b - a=0
  ·rw [z]; rfl
  ·rw [show ((b - a:Nat):Int) - 1=((b - a - 1:Nat):Int) by omega];rfl
 unfold Q108.f;rw [e1,e2,e3,wI2];rw [show ((((b - a - 1) / 2+1:Nat):Int) - 1)=(((b - a - 1) / 2:Nat):Int) by omega] at hk;exact hk
theorem Zme:∀(m i j:Nat) (d:Array Int),j - i<=m->i<=1000000000000000->j<d.size->d.size<=1000000000000000->Ev (fun k=>Q118.l0 k d.toList (i:Int) (j:Int)) (Go.Sort.reverseLoop i j d).toList
 | m,i,j,d,hm,hi,hj,hd=>by
  rw [Go.Sort.reverseLoop];by_cases c:i<j
  ·cases m with
   | zero=>omega
   | succ m=>
   rw [iT c];refine (Zme m (i+1) (j - 1) (Go.Sort.swp d i j) (by omega) (by omega) (by rw [Yp]; omega) (by rw [Yp]; exact hd)).step fun k hk=>?_;rw [Q118.l0,iP,iV,iV,gta,gta,tN,tN,Ww,wn (n:=i+1) (by omega) (by omega),wn (x:=(j:Int) - 1) (n:=j - 1) (by omega) (by omega)];exact hk
  ·rw [iF c];exact Ev.last fun k=>by rw [Q118.l0,iN]
theorem Ztn {a b:Nat} {d:Array Int} (ha:a<=1000000000000000) (h1:1<=b) (hb:b<=d.size) (hd:d.size<=1000000000000000):Ev (fun k=>Q118.f k d.toList (a:Int) (b:Int)) (Go.Sort.reverseRange d a b).toList:=by
 refine (Zme (b - 1 - a) a (b - 1) d (Nat.le_refl _) ha (by omega) hd).next fun k hk=>?_;unfold Q118.f;rw [wn (x:=(b:Int) - 1) (n:=b - 1) (by omega) (by omega)];exact hk
theorem Zfg {d:Array Int} {a b s:Nat} (ha:a<d.size) (hb:b<d.size) (hs:s<=1000):Q113.f d.toList (a:Int) (b:Int) (s:Int)=some (((Go.Sort.order2 ltI d a b s).1:Int),((Go.Sort.order2 ltI d a b s).2.1:Int),((Go.Sort.order2 ltI d a b s).2.2:Int)):=by
 unfold Q113.f Go.Sort.order2;rw [iV,iV,gta,gta,Xm,bS,wn (n:=s+1) (by omega) (by omega)];split <;> rfl
theorem Js {P:Nat->Prop} {d:Array Int} {a b s:Nat} (ha:P a) (hb:P b):P (Go.Sort.order2 ltI d a b s).1/\P (Go.Sort.order2 ltI d a b s).2.1/\(Go.Sort.order2 ltI d a b s).2.2<=s+1:=by
 unfold Go.Sort.order2;split
 ·exact ⟨hb,ha,Nat.le_refl _⟩
 ·exact ⟨ha,hb,Nat.le_succ _⟩
theorem Zl6 {P:Nat->Prop} {d:Array Int} {a b c s:Nat} (ha:P a) (hb:P b) (hc:P c):P (Go.Sort.median ltI d a b c s).1/\(Go.Sort.median ltI d a b c s).2<=s+3:=by
 obtain ⟨a1,a2,a3⟩:=Js (d:=d) (s:=s) ha hb;obtain ⟨b1,b2,b3⟩:=Js (d:=d) (s:=(Go.Sort.order2 ltI d a b s).2.2) a2 hc;obtain ⟨c1,c2,c3⟩:=Js (d:=d) (s:=(Go.Sort.order2 ltI d (Go.Sort.order2 ltI d a b s).2.1 c (Go.Sort.order2 ltI d a b s).2.2).2.2) a1 b1;unfold Go.Sort.median;exact ⟨c2,by dsimp only; omega⟩
theorem Zfh {d:Array Int} {a b c s:Nat} (ha:a<d.size) (hb:b<d.size) (hc:c<d.size) (hs:s<=900):Q111.f d.toList (a:Int) (b:Int) (c:Int) (s:Int)=some (((Go.Sort.median ltI d a b c s).1:Int),((Go.Sort.median ltI d a b c s).2:Int)):=by
 obtain ⟨a1,a2,a3⟩:=Js (P:=fun x=>x<d.size) (d:=d) (s:=s) ha hb;obtain ⟨b1,b2,b3⟩:=Js (P:=fun x=>x<d.size) (d:=d) (s:=(Go.Sort.order2 ltI d a b s).2.2) a2 hc;unfold Q111.f Go.Sort.median;rw [Zfg ha hb (by omega),bS];dsimp only;rw [Zfg a2 hc (by omega),bS];dsimp only;rw [Zfg a1 b1 (by omega),bS]
theorem Zfd {d:Array Int} {a s:Nat} (h1:1<=a) (ha:a+1<d.size) (hd:d.size<=1000000000000000) (hs:s<=900):Q110.f d.toList (a:Int) (s:Int)=some (((Go.Sort.medianAdjacent ltI d a s).1:Int),((Go.Sort.medianAdjacent ltI d a s).2:Int)):=by
 unfold Q110.f Go.Sort.medianAdjacent;rw [wn (x:=(a:Int) - 1) (n:=a - 1) (by omega) (by omega),wn (n:=a+1) (by omega) (by omega),Zfh (by omega) (by omega) (by omega) hs];rfl
theorem Zb1 {d:Array Int} {a s:Nat} (ha:a+1<d.size):(Go.Sort.medianAdjacent ltI d a s).1<d.size/\(Go.Sort.medianAdjacent ltI d a s).2<=s+3:=by
 unfold Go.Sort.medianAdjacent;exact Zl6 (P:=fun x=>x<d.size) (by omega) (by omega) (by omega)
def Zeh:Go.Sort.Hint->Int
 | .unknown=>0
 | .increasing=>1
 | .decreasing=>2
theorem Zj9 (x:Int) (n:Nat):(if (decide ((n:Int)=0))=true then (some (x,(1:Int))) else (if (decide ((n:Int)=12))=true then (some (x,2)) else (some (x,0))))=some (x,Zeh (if n=0 then Go.Sort.Hint.increasing else if n=12 then .decreasing else .unknown)):=by
 by_cases h1:n=0
 ·subst h1; rfl
 ·rw [iN,iF h1];by_cases h2:n=12
  ·subst h2; rfl
  ·rw [iN,iF h2];rfl
theorem Zsj {d:Array Int} {a b:Nat} (hab:a<=b) (hb:b<=d.size) (h12:12<b - a) (hd:d.size<=1000000000000000):Q107.f d.toList (a:Int) (b:Int)=some (((Go.Sort.choosePivot ltI d a b).1:Int),Zeh (Go.Sort.choosePivot ltI d a b).2):=by
 have e1:w64 ((b:Int) - (a:Int))=((b - a:Nat):Int):=wn (by omega) (by omega);have e2:w64 (Int.tdiv ((b - a:Nat):Int) 4)=(((b - a) / 4:Nat):Int):=by
  rw [show Int.tdiv ((b - a:Nat):Int) 4=(((b - a) / 4:Nat):Int) from rfl,wI2]
 obtain ⟨q,hq⟩:∃ q,q=(b - a) / 4:=⟨_,rfl⟩;rw [<- hq] at e2;have e3:w64 ((q:Int)*1)=((q*1:Nat):Int):=wn (by omega) (by omega);have e4:w64 ((q:Int)*2)=((q*2:Nat):Int):=wn (by omega) (by omega);have e5:w64 ((q:Int)*3)=((q*3:Nat):Int):=wn (by omega) (by omega);have e6:w64 ((a:Int)+((q*1:Nat):Int))=((a+q*1:Nat):Int):=wn (by omega) (by omega);have e7:w64 ((a:Int)+((q*2:Nat):Int))=((a+q*2:Nat):Int):=wn (by omega) (by omega);have e8:w64 ((a:Int)+((q*3:Nat):Int))=((a+q*3:Nat):Int):=wn (by omega) (by omega);unfold Q107.f Go.Sort.choosePivot;simp only [e1,e2,e3,e4,e5,e6,e7,e8,<- hq];rw [iP,iT (show b - a>=8 by omega)];by_cases c:b - a>=50
 ·obtain ⟨i1,i2⟩:=Zb1 (d:=d) (a:=a+q*1) (s:=0) (by omega);obtain ⟨j1,j2⟩:=Zb1 (d:=d) (a:=a+q*2) (s:=(Go.Sort.medianAdjacent ltI d (a+q*1) 0).2) (by omega);obtain ⟨k1,k2⟩:=Zb1 (d:=d) (a:=a+q*3) (s:=(Go.Sort.medianAdjacent ltI d (a+q*2) (Go.Sort.medianAdjacent ltI d (a+q*1) 0).2).2) (by omega);rw [iP,iT c,show Q110.f d.toList ((a+q*1:Nat):Int) 0=_ from Zfd (s:=0) (by omega) (by omega) hd (by omega),bS];dsimp only;rw [Zfd (by omega) (by omega) hd (by omega),bS];dsimp only;rw [Zfd (by omega) (by omega) hd (by omega),bS];dsimp only;rw [Zfh i1 j1 k1 (by omega),bS];exact Zj9 _ _
 ·rw [iN,iF c,show Q111.f d.toList ((a+q*1:Nat):Int) ((a+q*2:Nat):Int) ((a+q*3:Nat):Int) 0=_ from Zfh (s:=0) (by omega) (by omega) (by omega) (by omega),bS];exact Zj9 _ _
theorem Zkr {R:Type} {b:Nat} {r:R} {F:Nat->List Int->Int->Option R} {G:Nat->List Int->Option R}
  (hF:∀ k x j,F (k+1) x j=if (decide (j<(b:Int)))=true then (if 0<=j/\j<(x.length:Int) then (if 0<=(w64 (j - 1))/\(w64 (j - 1))<(x.length:Int) then ((Q33.f (gt x j) (gt x (w64 (j - 1)))).bind fun r3=>(if (!r3)=true then (G k x) else (F k ((x.set j.toNat (gt x (w64 (j - 1)))).set (w64 (j - 1)).toNat (gt x j)) (w64 (j+1))))) else none) else none) else (G k x)) :
  ∀(m j:Nat) (d:Array Int),b - j<=m->1<=j->b<=d.size->d.size<=1000000000000000->Ev (fun k=>G k (Go.Sort.shiftUp ltI b j d).toList) r->Ev (fun k=>F k d.toList (j:Int)) r
 | m,j,d,hm,h1,hb,hd,h=>by
  rw [Go.Sort.shiftUp] at h;by_cases c:j<b
  ·cases m with
   | zero=>omega
   | succ m=>
   have e1:w64 ((j:Int) - 1)=((j - 1:Nat):Int):=wn (by omega) (by omega);have e2:w64 ((j:Int)+1)=((j+1:Nat):Int):=wn (by omega) (by omega);rw [iT c] at h;by_cases q:ltI d[j]! d[j - 1]! = true
   ·rw [iF (by simp [q])] at h;refine (Zkr hF m (j+1) (Go.Sort.swp d j (j - 1)) (by omega) (by omega) (by rw [Yp]; exact hb) (by rw [Yp]; exact hd) h).step fun k hk=>?_;rw [hF,iP,e1,iV,iV,gta,gta,Xm,bS,iF (by simp [q]),tN,tN,Ww,e2];exact hk
   ·rw [iT (by simp [q])] at h;refine h.step fun k hk=>?_;rw [hF,iP,e1,iV,iV,gta,gta,Xm,bS,iT (by simp [q])];exact hk
  ·rw [iF c] at h;refine h.step fun k hk=>?_;rw [hF,iN];exact hk
theorem Zb0 (b:Nat):∀(m j:Nat) (d:Array Int),b - j<=m->(Go.Sort.shiftUp ltI b j d).size=d.size
 | m,j,d,hm=>by
  rw [Go.Sort.shiftUp];by_cases c:j<b
  ·cases m with
   | zero=>omega
   | succ m=>
   rw [iT c];split
   ·rfl
   ·rw [Zb0 b m _ _ (by omega),Yp]
  ·rw [iF c]
theorem B0:∀(j:Nat) (d:Array Int),(Go.Sort.shiftDown ltI j d).size=d.size
 | 0,d=>rfl
 | j+1,d=>by
  unfold Go.Sort.shiftDown;split
  ·rfl
  ·rw [B0 j,Yp]
theorem Zfm {R:Type} {r:R} {F:Nat->List Int->Int->Option R} {G1 G2:Nat->List Int->Option R}
  (hF:∀ k x j,F (k+1) x j=if (decide (1<=j))=true then (if 0<=j/\j<(x.length:Int) then (if 0<=(w64 (j - 1))/\(w64 (j - 1))<(x.length:Int) then ((Q33.f (gt x j) (gt x (w64 (j - 1)))).bind fun r3=>(if (!r3)=true then (G1 k x) else (F k ((x.set j.toNat (gt x (w64 (j - 1)))).set (w64 (j - 1)).toNat (gt x j)) (w64 (j - 1))))) else none) else none) else (G2 k x)) :
  ∀(j:Nat) (d:Array Int),j<d.size->d.size<=1000000000000000->Ev (fun k=>G1 k (Go.Sort.shiftDown ltI j d).toList) r->Ev (fun k=>G2 k (Go.Sort.shiftDown ltI j d).toList) r->Ev (fun k=>F k d.toList (j:Int)) r
 | 0,d,hj,hd,h1,h2=>h2.step fun k hk=>by
  rw [hF,vS];exact hk
 | j+1,d,hj,hd,h1,h2=>by
  have e1:w64 (((j+1:Nat):Int) - 1)=(j:Int):=wn (by omega) (by omega);unfold Go.Sort.shiftDown at h1 h2;by_cases q:ltI d[j+1]! d[j]! = true
  ·rw [iF (by simp [q])] at h1 h2;refine (Zfm hF j (Go.Sort.swp d (j+1) j) (by rw [Yp]; omega) (by rw [Yp]; exact hd) h1 h2).step fun k hk=>?_;rw [hF,iP,e1,iV,iV,gta,gta,Xm,bS,iF (by simp [q]),tN,tN,Ww];exact hk
  ·rw [iT (by simp [q])] at h1;refine h1.step fun k hk=>?_;rw [hF,iP,e1,iV,iV,gta,gta,Xm,bS,iT (by simp [q])];exact hk
def Zck (a b s i:Nat) (d:Array Int):Array Int×Bool:=
 if i=b then (d,true) else if b - a<50 then (d,false) else
  Go.Sort.partialIns ltI a b s i (let d1:=Go.Sort.swp d i (i - 1); let d2:=if i - a>=2 then Go.Sort.shiftDown ltI (i - 1) d1 else d1; if b - i>=2 then Go.Sort.shiftUp ltI b (i+1) d2 else d2)
theorem Zeg (a b s i:Nat) (d:Array Int):Go.Sort.partialIns ltI a b (s+1) i d=Zck a b s (Go.Sort.scanSorted ltI d b i) d:=rfl
def J0 (p:Array Int×Bool):Bool×List Int:=(p.2,p.1.toList)
theorem Znj {a b s i:Nat} {d:Array Int} (hs:s<5) (ha:a<i) (hi:i<b) (hb:b<=d.size) (hd:d.size<=1000000000000000) (hq:ltI d[i]! d[i - 1]! = true)
  (ih:∀ d':Array Int,d'.size=d.size->Ev (fun k=>Q114.l0 k (a:Int) (b:Int) d'.toList (i:Int) ((5 - s:Nat):Int)) (J0 (Go.Sort.partialIns ltI a b s i d'))) :
  Ev (fun k=>Q114.l3 k (a:Int) (b:Int) d.toList ((4 - s:Nat):Int) (i:Int)) (J0 (Zck a b s i d)):=by
 have e1:w64 ((i:Int) - 1)=((i - 1:Nat):Int):=wn (by omega) (by omega);have e2:w64 ((b:Int) - (a:Int))=((b - a:Nat):Int):=wn (by omega) (by omega);have e3:w64 ((i:Int) - (a:Int))=((i - a:Nat):Int):=wn (by omega) (by omega);have e4:w64 ((b:Int) - (i:Int))=((b - i:Nat):Int):=wn (by omega) (by omega);have e5:w64 ((i:Int)+1)=((i+1:Nat):Int):=wn (by omega) (by omega);have e6:w64 (((4 - s:Nat):Int)+1)=((5 - s:Nat):Int):=wn (by omega) (by omega);have un:∀ k,Q114.l3 (k+1) (a:Int) (b:Int) d.toList ((4 - s:Nat):Int) (i:Int)=(if (decide (((b - a:Nat):Int)<50))=true then (some (false,d.toList)) else (if (decide (2<=((i - a:Nat):Int)))=true then (Q114.l2 k (a:Int) (b:Int) ((4 - s:Nat):Int) (i:Int) (Go.Sort.swp d i (i - 1)).toList ((i - 1:Nat):Int)) else (if (decide (2<=((b - i:Nat):Int)))=true then (Q114.l1 k (a:Int) (b:Int) ((4 - s:Nat):Int) (i:Int) (Go.Sort.swp d i (i - 1)).toList ((i+1:Nat):Int)) else (Q114.l0 k (a:Int) (b:Int) (Go.Sort.swp d i (i - 1)).toList (i:Int) ((5 - s:Nat):Int))))):=fun k=>by
  rw [Q114.l3,iP,e1,iV,iV,gta,gta,Xm,bS,iF (by simp [hq]),iN,iT (show 0<=((i - 1:Nat):Int)/\((i - 1:Nat):Int)<(d.toList.length:Int) by simp; omega),iT (show 0<=(i:Int)/\(i:Int)<(d.toList.length:Int) by simp; omega),e2,e3,e4,e5,e6,tN,tN,Ww]
 unfold Zck;rw [iQ];by_cases c1:b - a<50
 ·rw [iT c1];exact Ev.last fun k=>by rw [un,iP]; rfl
 ·rw [iF c1];have sz:=Yp d i (i - 1);have fin:∀(d2:Array Int),d2.size=d.size->∀(F:Nat->List Int->Int->Option TU),(∀ k x j,F (k+1) x j=if (decide (j<(b:Int)))=true then (if 0<=j/\j<(x.length:Int) then (if 0<=(w64 (j - 1))/\(w64 (j - 1))<(x.length:Int) then ((Q33.f (gt x j) (gt x (w64 (j - 1)))).bind fun r3=>(if (!r3)=true then (Q114.l0 k (a:Int) (b:Int) x (i:Int) ((5 - s:Nat):Int)) else (F k ((x.set j.toNat (gt x (w64 (j - 1)))).set (w64 (j - 1)).toNat (gt x j)) (w64 (j+1))))) else none) else none) else (Q114.l0 k (a:Int) (b:Int) x (i:Int) ((5 - s:Nat):Int)))->
    Ev (fun k=>F k d2.toList ((i+1:Nat):Int)) (J0 (Go.Sort.partialIns ltI a b s i (Go.Sort.shiftUp ltI b (i+1) d2))):=fun d2 h2 F hF=>
   Zkr (G:=fun k x=>Q114.l0 k (a:Int) (b:Int) x (i:Int) ((5 - s:Nat):Int)) hF b (i+1) d2 (by omega) (by omega) (by omega) (by omega) (ih _ (by rw [Zb0 b b _ _ (by omega),h2]))
  by_cases c2:i - a>=2
  ·have sz2:(Go.Sort.shiftDown ltI (i - 1) (Go.Sort.swp d i (i - 1))).size=d.size:=by rw [B0,sz]
   have dn:=Zfm (r:=J0 (Go.Sort.partialIns ltI a b s i (if b - i>=2 then Go.Sort.shiftUp ltI b (i+1) (Go.Sort.shiftDown ltI (i - 1) (Go.Sort.swp d i (i - 1))) else Go.Sort.shiftDown ltI (i - 1) (Go.Sort.swp d i (i - 1)))))
    (F:=fun k x j=>Q114.l2 k (a:Int) (b:Int) ((4 - s:Nat):Int) (i:Int) x j)
    (G1:=fun k x=>if (decide (2<=((b - i:Nat):Int)))=true then (Q114.l1 k (a:Int) (b:Int) ((4 - s:Nat):Int) (i:Int) x ((i+1:Nat):Int)) else (Q114.l0 k (a:Int) (b:Int) x (i:Int) ((5 - s:Nat):Int)))
    (G2:=fun k x=>if (decide (2<=((b - i:Nat):Int)))=true then (Q114.l1 k (a:Int) (b:Int) ((4 - s:Nat):Int) (i:Int) x ((i+1:Nat):Int)) else (Q114.l0 k (a:Int) (b:Int) x (i:Int) ((5 - s:Nat):Int)))
    (fun k x j=>by rw [Q114.l2]; simp only [e4,e5,e6]) (i - 1) (Go.Sort.swp d i (i - 1)) (by omega) (by omega)
   have key:=dn (by
    by_cases c3:b - i>=2
    ·simp only [iT c3,iT (show decide (2<=((b - i:Nat):Int))=true from dT)];exact fin _ sz2 (fun k x j=>Q114.l1 k (a:Int) (b:Int) ((4 - s:Nat):Int) (i:Int) x j) (fun k x j=>by rw [Q114.l1]; simp only [e6])
    ·simp only [iF c3,iF (show ¬ decide (2<=((b - i:Nat):Int))=true by simp only [dE]; omega)];exact ih _ sz2) (by
    by_cases c3:b - i>=2
    ·simp only [iT c3,iT (show decide (2<=((b - i:Nat):Int))=true from dT)];exact fin _ sz2 (fun k x j=>Q114.l1 k (a:Int) (b:Int) ((4 - s:Nat):Int) (i:Int) x j) (fun k x j=>by rw [Q114.l1]; simp only [e6])
    ·simp only [iF c3,iF (show ¬ decide (2<=((b - i:Nat):Int))=true by simp only [dE]; omega)];exact ih _ sz2)
   refine key.step fun k hk=>?_;rw [un,iN,iP,hk];simp only [iT c2]
  ·by_cases c3:b - i>=2
   ·refine (fin _ sz (fun k x j=>Q114.l1 k (a:Int) (b:Int) ((4 - s:Nat):Int) (i:Int) x j) (fun k x j=>by rw [Q114.l1]; simp only [e6])).step fun k hk=>?_;rw [un,iN,iN,iP,hk];simp only [iF c2,iT c3]
   ·refine (ih _ sz).step fun k hk=>?_;rw [un,iN,iN,iN,hk];simp only [iF c2,iF c3]
theorem Zkv {a b n:Nat} (hn:n<=1000000000000000) (hb:b<=n):∀(s i:Nat) (d:Array Int),s<=5->a<i->i<=b->d.size=n->Ev (fun k=>Q114.l0 k (a:Int) (b:Int) d.toList (i:Int) ((5 - s:Nat):Int)) (J0 (Go.Sort.partialIns ltI a b s i d))
 | 0,i,d,hs,ha,hi,hd=>Ev.last fun k=>by
  rw [Q114.l0,vS];rfl
 | s+1,i,d,hs,ha,hi,hd=>by
  rw [Zeg];have scan:∀(m i:Nat),b - i<=m->a<i->i<=b->Ev (fun k=>Q114.l3 k (a:Int) (b:Int) d.toList ((4 - s:Nat):Int) (i:Int)) (J0 (Zck a b s (Go.Sort.scanSorted ltI d b i) d)):=fun m=>by
   induction m with
   | zero=>
    intro i hm ha hi;rw [Go.Sort.scanSorted,iW];unfold Zck;rw [iO];exact Ev.last fun k=>by
     rw [Q114.l3,iN,iP];rfl
   | succ m ihm=>
    intro i hm ha hi;rw [Go.Sort.scanSorted];by_cases c:i<b
    ·by_cases q:ltI d[i]! d[i - 1]! = true
     ·rw [iF (by simp [q])];exact Znj (by omega) ha c (by omega) (by omega) q fun d' h'=>Zkv hn hb s i d' (by omega) ha hi (by omega)
     ·rw [iT (by simp [c,q])];have e1:w64 ((i:Int) - 1)=((i - 1:Nat):Int):=wn (by omega) (by omega);have e5:w64 ((i:Int)+1)=((i+1:Nat):Int):=wn (by omega) (by omega);refine (ihm (i+1) (by omega) (by omega) (by omega)).step fun k hk=>?_;rw [Q114.l3,iP,e1,iV,iV,gta,gta,Xm,bS,iT (by simp [q]),e5];exact hk
    ·rw [iF (by simp [c])];unfold Zck;rw [iO];exact Ev.last fun k=>by
      rw [Q114.l3,iN,iP];rfl
  refine (scan b i (by omega) ha hi).step fun k hk=>?_;rw [Q114.l0,iP,show ((5 - (s+1):Nat):Int)=((4 - s:Nat):Int) by omega];exact hk
theorem Ztc {a b:Nat} {d:Array Int} (hab:a<b) (hb:b<=d.size) (hd:d.size<=1000000000000000):Ev (fun k=>Q114.f k d.toList (a:Int) (b:Int)) (J0 (Go.Sort.partialInsertionSort ltI d a b)):=by
 refine (Zkv (a:=a) (b:=b) hd hb 5 (a+1) d (Nat.le_refl _) (by omega) (by omega) rfl).next fun k hk=>?_;unfold Q114.f;rw [wn (n:=a+1) (by omega) (by omega)];exact hk
theorem Zb3 (p:Int->Bool) (d:Array Int) (j:Nat):∀(m i:Nat),j+1 - i<=m->i<=Go.Sort.scanUp p d j i/\(Go.Sort.scanUp p d j i<=j+1\/Go.Sort.scanUp p d j i=i)
 | m,i,hm=>by
  rw [Go.Sort.scanUp];by_cases c:(decide (i<=j) && p d[i]!)=true
  ·rw [iT c];have hij:i<=j:=by simp only [Bool.and_eq_true,dE] at c; exact c.1
   cases m with
   | zero=>omega
   | succ m=>
   have:=Zb3 p d j m (i+1) (by omega);omega
  ·rw [iF c];exact ⟨Nat.le_refl _,.inr rfl⟩
theorem Jj (p:Int->Bool) (d:Array Int) (i:Nat):∀ j:Nat,Go.Sort.scanDown p d i j<=j
 | 0=>Nat.le_refl _
 | j+1=>by
  unfold Go.Sort.scanDown;split
  ·have:=Jj p d i j; omega
  ·exact Nat.le_refl _
def Zah (p:Nat×Array Int):Int×List Int:=((p.1:Int),p.2.toList)
def Bc (a i2 j2:Nat) (d:Array Int):Nat×Array Int:=if i2>j2 then (i2,d) else Go.Sort.partEqLoop ltI a (i2+1) (j2 - 1) (Go.Sort.swp d i2 j2)
theorem Zjh {a i j:Nat} {d:Array Int} (h1:1<=i):Go.Sort.partEqLoop ltI a i j d=Bc a (Go.Sort.scanUp (fun x=>!ltI d[a]! x) d j i) (Go.Sort.scanDown (fun x=>ltI d[a]! x) d (Go.Sort.scanUp (fun x=>!ltI d[a]! x) d j i) j) d:=by
 have u:=(Zb3 (fun x=>!ltI d[a]! x) d j _ i (Nat.le_refl _)).1;have v:=Jj (fun x=>ltI d[a]! x) d (Go.Sort.scanUp (fun x=>!ltI d[a]! x) d j i) j;rw [Go.Sort.partEqLoop];unfold Bc;split
 ·rfl
 ·rw [dif_pos (by omega)]
theorem Zkg {a i2:Nat} {d:Array Int} (hi:1<=i2) (ha:a<d.size) (hd:d.size<=1000000000000000) (hi2:i2<=1000000000000001):∀(j:Nat),j<d.size->(∀ j2,j2<=j->i2<=j2->Ev (fun k=>Q115.l0 k (a:Int) (Go.Sort.swp d i2 j2).toList ((i2+1:Nat):Int) ((j2 - 1:Nat):Int)) (Zah (Go.Sort.partEqLoop ltI a (i2+1) (j2 - 1) (Go.Sort.swp d i2 j2))))->
  Ev (fun k=>Q115.l2 k (a:Int) d.toList (i2:Int) (j:Int)) (Zah (Bc a i2 (Go.Sort.scanDown (fun x=>ltI d[a]! x) d i2 j) d))
 | 0,hj,h=>by
  unfold Go.Sort.scanDown Bc;rw [iO];exact Ev.last fun k=>by rw [Q115.l2,iN,iP]; rfl
 | j+1,hj,h=>by
  have e1:w64 (((j+1:Nat):Int) - 1)=(j:Int):=wn (by omega) (by omega);have e2:w64 ((i2:Int)+1)=((i2+1:Nat):Int):=wn (by omega) (by omega);unfold Go.Sort.scanDown;by_cases c:i2<=j+1
  ·by_cases q:ltI d[a]! d[j+1]! = true
   ·rw [iT (by simp [c,q])];refine (Zkg hi ha hd hi2 j (by omega) fun j2 a b=>h j2 (by omega) b).step fun k hk=>?_;rw [Q115.l2,iP,iV,gta,gta,Xm,bS,iT q,e1];exact hk
   ·rw [iF (by simp [q])];unfold Bc;rw [iQ];refine (h (j+1) (Nat.le_refl _) c).step fun k hk=>?_;rw [Q115.l2,iP,iV,gta,gta,Xm,bS,iF q,iN,gta,tN,tN,Ww,e1,e2];exact hk
  ·rw [iF (by simp [c])];unfold Bc;rw [iO];exact Ev.last fun k=>by rw [Q115.l2,iN,iP]; rfl
theorem Zph {a j:Nat} {d:Array Int} (ha:a<d.size) (hd:d.size<=1000000000000000) (hj:j<d.size):∀(m i:Nat),j+1 - i<=m->1<=i->i<=1000000000000001->(∀ i2 j2,i<=i2->j2<=j->i2<=j2->Ev (fun k=>Q115.l0 k (a:Int) (Go.Sort.swp d i2 j2).toList ((i2+1:Nat):Int) ((j2 - 1:Nat):Int)) (Zah (Go.Sort.partEqLoop ltI a (i2+1) (j2 - 1) (Go.Sort.swp d i2 j2))))->
  Ev (fun k=>Q115.l1 k (a:Int) d.toList (j:Int) (i:Int)) (Zah (Bc a (Go.Sort.scanUp (fun x=>!ltI d[a]! x) d j i) (Go.Sort.scanDown (fun x=>ltI d[a]! x) d (Go.Sort.scanUp (fun x=>!ltI d[a]! x) d j i) j) d))
 | m,i,hm,h1,hi,h=>by
  have e2:w64 ((i:Int)+1)=((i+1:Nat):Int):=wn (by omega) (by omega);rw [Go.Sort.scanUp];by_cases c:i<=j
  ·by_cases q:ltI d[a]! d[i]! = true
   ·rw [iF (by simp [q])];refine (Zkg h1 ha hd hi j hj fun j2 a b=>h i j2 (Nat.le_refl _) a b).step fun k hk=>?_;rw [Q115.l1,iP,iV,iV,gta,gta,Xm,bS,iF (by simp [q])];exact hk
   ·cases m with
    | zero=>omega
    | succ m=>
    rw [iT (by simp [c,q])];refine (Zph ha hd hj m (i+1) (by omega) (by omega) (by omega) fun i2 j2 a b c=>h i2 j2 (by omega) b c).step fun k hk=>?_;rw [Q115.l1,iP,iV,iV,gta,gta,Xm,bS,iT (by simp [q]),e2];exact hk
  ·rw [iF (by simp [c])];have v:=Jj (fun x=>ltI d[a]! x) d i j;unfold Bc;rw [iO];have:Ev (fun k=>Q115.l3 k (a:Int) d.toList (j:Int) (i:Int)) (Zah (i,d)):=Ev.last fun k=>by
    rw [Q115.l3,iP];rfl
   refine this.step fun k hk=>?_;rw [Q115.l1,iN];exact hk
theorem Zks {a n:Nat} (hn:n<=1000000000000000) (ha:a<n):∀(m i j:Nat) (d:Array Int),j+1 - i<=m->1<=i->i<=1000000000000001->j<n->d.size=n->Ev (fun k=>Q115.l0 k (a:Int) d.toList (i:Int) (j:Int)) (Zah (Go.Sort.partEqLoop ltI a i j d))
 | m,i,j,d,hm,h1,hi,hj,hd=>by
  rw [Zjh h1];refine (Zph (a:=a) (j:=j) (d:=d) (by omega) (by omega) (by omega) _ i (Nat.le_refl _) h1 hi fun i2 j2 a1 a2 a3=>?_).step fun k hk=>?_
  ·cases m with
   | zero=>omega
   | succ m=>exact Zks hn ha m (i2+1) (j2 - 1) (Go.Sort.swp d i2 j2) (by omega) (by omega) (by omega) (by omega) (by rw [Yp]; exact hd)
  ·rw [Q115.l0];exact hk
theorem Zqp {a b p:Nat} {d:Array Int} (hab:a<b) (hp:p<d.size) (hb:b<=d.size) (hd:d.size<=1000000000000000):Ev (fun k=>Q115.f k d.toList (a:Int) (b:Int) (p:Int)) (Zah (Go.Sort.partitionEqual ltI d a b p)):=by
 refine (Zks (a:=a) (n:=d.size) hd (by omega) _ (a+1) (b - 1) (Go.Sort.swp d a p) (Nat.le_refl _) (by omega) (by omega) (by omega) (Yp d a p)).next fun k hk=>?_;unfold Q115.f;rw [iV,iV,gta,gta,tN,tN,Ww,wn (n:=a+1) (by omega) (by omega),wn (x:=(b:Int) - 1) (n:=b - 1) (by omega) (by omega)];exact hk
def Zhp (d:Array Int) (a j:Nat):Int×Bool×List Int:=((j:Int),false,(Go.Sort.swp d j a).toList)
def Zab (a i2 j2:Nat) (d:Array Int):Nat×Array Int:=if i2>j2 then (j2,d) else Go.Sort.partLoop ltI a (i2+1) (j2 - 1) (Go.Sort.swp d i2 j2)
theorem Zno {a i j:Nat} {d:Array Int} (h1:1<=i):Go.Sort.partLoop ltI a i j d=Zab a (Go.Sort.scanUp (fun x=>ltI x d[a]!) d j i) (Go.Sort.scanDown (fun x=>!ltI x d[a]!) d (Go.Sort.scanUp (fun x=>ltI x d[a]!) d j i) j) d:=by
 have u:=(Zb3 (fun x=>ltI x d[a]!) d j _ i (Nat.le_refl _)).1;have v:=Jj (fun x=>!ltI x d[a]!) d (Go.Sort.scanUp (fun x=>ltI x d[a]!) d j i) j;rw [Go.Sort.partLoop];unfold Zab;split
 ·rfl
 ·rw [dif_pos (by omega)]
structure Part4 (a:Nat) (F2 F3 F4:Nat->List Int->Int->Int->Option TM):Prop where
 h2:∀ k x i j,F2 (k+1) x i j=F3 k x j i
 h3:∀ k x j i,F3 (k+1) x j i=if (decide (i<=j))=true then (if 0<=i/\i<(x.length:Int) then (if 0<=(a:Int)/\(a:Int)<(x.length:Int) then ((Q33.f (gt x i) (gt x (a:Int))).bind fun r3=>(if r3=true then (F3 k x j (w64 (i+1))) else (F4 k x i j))) else none) else none) else (F4 k x i j)
 h4:∀ k x i j,F4 (k+1) x i j=if (decide (i<=j))=true then (if 0<=j/\j<(x.length:Int) then (if 0<=(a:Int)/\(a:Int)<(x.length:Int) then ((Q33.f (gt x j) (gt x (a:Int))).bind fun r4=>(if (!r4)=true then (F4 k x i (w64 (j - 1))) else (if (decide (j<i))=true then (if 0<=(a:Int)/\(a:Int)<(x.length:Int) then (if 0<=j/\j<(x.length:Int) then (some (j,false,((x.set j.toNat (gt x (a:Int))).set (a:Int).toNat (gt x j)))) else none) else none) else (if 0<=j/\j<(x.length:Int) then (if 0<=i/\i<(x.length:Int) then (F2 k ((x.set i.toNat (gt x j)).set j.toNat (gt x i)) (w64 (i+1)) (w64 (j - 1))) else none) else none)))) else none) else none) else (if (decide (j<i))=true then (if 0<=(a:Int)/\(a:Int)<(x.length:Int) then (if 0<=j/\j<(x.length:Int) then (some (j,false,((x.set j.toNat (gt x (a:Int))).set (a:Int).toNat (gt x j)))) else none) else none) else (if 0<=j/\j<(x.length:Int) then (if 0<=i/\i<(x.length:Int) then (F2 k ((x.set i.toNat (gt x j)).set j.toNat (gt x i)) (w64 (i+1)) (w64 (j - 1))) else none) else none))
section
variable {a:Nat} {F2 F3 F4:Nat->List Int->Int->Int->Option TM} (P:Part4 a F2 F3 F4)
include P
theorem Zfc {i2:Nat} {d:Array Int} (hi:1<=i2) (ha:a<d.size) (hd:d.size<=1000000000000000) (hi2:i2<=1000000000000001):∀(j:Nat),j<d.size->(∀ j2,j2<=j->i2<=j2->Ev (fun k=>F2 k (Go.Sort.swp d i2 j2).toList ((i2+1:Nat):Int) ((j2 - 1:Nat):Int)) (let r:=Go.Sort.partLoop ltI a (i2+1) (j2 - 1) (Go.Sort.swp d i2 j2); Zhp r.2 a r.1))->
  Ev (fun k=>F4 k d.toList (i2:Int) (j:Int)) (let r:=Zab a i2 (Go.Sort.scanDown (fun x=>!ltI x d[a]!) d i2 j) d; Zhp r.2 a r.1)
 | 0,hj,h=>by
  unfold Go.Sort.scanDown Zab;rw [iO];exact Ev.last fun k=>by rw [P.h4,iN,iP,iV,iV,gta,gta,tN,tN,Ww]; rfl
 | j+1,hj,h=>by
  have e1:w64 (((j+1:Nat):Int) - 1)=(j:Int):=wn (by omega) (by omega);have e2:w64 ((i2:Int)+1)=((i2+1:Nat):Int):=wn (by omega) (by omega);unfold Go.Sort.scanDown;by_cases c:i2<=j+1
  ·by_cases q:ltI d[j+1]! d[a]! = true
   ·rw [iF (by simp [q])];unfold Zab;rw [iQ];refine (h (j+1) (Nat.le_refl _) c).step fun k hk=>?_;rw [P.h4,iP,iV,iV,gta,gta,Xm,bS,iF (by simp [q]),iN,iV,iV,gta,tN,tN,Ww,e1,e2];exact hk
   ·rw [iT (by simp [c,q])];refine (Zfc hi ha hd hi2 j (by omega) fun j2 a b=>h j2 (by omega) b).step fun k hk=>?_;rw [P.h4,iP,iV,iV,gta,gta,Xm,bS,iT (by simp [q]),e1];exact hk
  ·rw [iF (by simp [c])];unfold Zab;rw [iO];exact Ev.last fun k=>by rw [P.h4,iN,iP,iV,iV,gta,gta,tN,tN,Ww]; rfl
theorem Zpn {j:Nat} {d:Array Int} (ha:a<d.size) (hd:d.size<=1000000000000000) (hj:j<d.size):∀(m i:Nat),j+1 - i<=m->1<=i->i<=1000000000000001->(∀ i2 j2,i<=i2->j2<=j->i2<=j2->Ev (fun k=>F2 k (Go.Sort.swp d i2 j2).toList ((i2+1:Nat):Int) ((j2 - 1:Nat):Int)) (let r:=Go.Sort.partLoop ltI a (i2+1) (j2 - 1) (Go.Sort.swp d i2 j2); Zhp r.2 a r.1))->
  Ev (fun k=>F3 k d.toList (j:Int) (i:Int)) (let r:=Zab a (Go.Sort.scanUp (fun x=>ltI x d[a]!) d j i) (Go.Sort.scanDown (fun x=>!ltI x d[a]!) d (Go.Sort.scanUp (fun x=>ltI x d[a]!) d j i) j) d; Zhp r.2 a r.1)
 | m,i,hm,h1,hi,h=>by
  have e2:w64 ((i:Int)+1)=((i+1:Nat):Int):=wn (by omega) (by omega);rw [Go.Sort.scanUp];by_cases c:i<=j
  ·by_cases q:ltI d[i]! d[a]! = true
   ·cases m with
    | zero=>omega
    | succ m=>
    rw [iT (by simp [c,q])];refine (Zpn ha hd hj m (i+1) (by omega) (by omega) (by omega) fun i2 j2 a b c=>h i2 j2 (by omega) b c).step fun k hk=>?_;rw [P.h3,iP,iV,iV,gta,gta,Xm,bS,iT q,e2];exact hk
   ·rw [iF (by simp [q])];refine (Zfc P h1 ha hd hi j hj fun j2 a b=>h i j2 (Nat.le_refl _) a b).step fun k hk=>?_;rw [P.h3,iP,iV,iV,gta,gta,Xm,bS,iF q];exact hk
  ·rw [iF (by simp [c])];refine (Zfc P h1 ha hd hi j hj fun j2 a b=>h i j2 (Nat.le_refl _) a b).step fun k hk=>?_;rw [P.h3,iN];exact hk
theorem Zkj {n:Nat} (hn:n<=1000000000000000) (ha:a<n):∀(m i j:Nat) (d:Array Int),j+1 - i<=m->1<=i->i<=1000000000000001->j<n->d.size=n->Ev (fun k=>F2 k d.toList (i:Int) (j:Int)) (let r:=Go.Sort.partLoop ltI a i j d; Zhp r.2 a r.1)
 | m,i,j,d,hm,h1,hi,hj,hd=>by
  rw [Zno h1];refine (Zpn P (j:=j) (d:=d) (by omega) (by omega) (by omega) _ i (Nat.le_refl _) h1 hi fun i2 j2 a1 a2 a3=>?_).step fun k hk=>?_
  ·cases m with
   | zero=>omega
   | succ m=>exact Zkj hn ha m (i2+1) (j2 - 1) (Go.Sort.swp d i2 j2) (by omega) (by omega) (by omega) (by omega) (by rw [Yp]; exact hd)
  ·rw [P.h2];exact hk
end
theorem Zsp (a:Nat):Part4 a (fun k x i j=>Q116.l0 k (a:Int) x i j) (fun k x j i=>Q116.l2 k (a:Int) x j i) (fun k x i j=>Q116.l1 k (a:Int) x i j):=
 ⟨fun k x i j=>by rw [Q116.l0],fun k x j i=>by rw [Q116.l2],fun k x i j=>by rw [Q116.l1]⟩
def Zo5 (r:Nat×Bool×Array Int):Int×Bool×List Int:=((r.1:Int),r.2.1,r.2.2.toList)
def Zb7 (a i j:Nat) (d:Array Int):Nat×Bool×Array Int:=if i>j then (j,true,Go.Sort.swp d j a) else ((Go.Sort.partLoop ltI a (i+1) (j - 1) (Go.Sort.swp d i j)).1,false,Go.Sort.swp (Go.Sort.partLoop ltI a (i+1) (j - 1) (Go.Sort.swp d i j)).2 (Go.Sort.partLoop ltI a (i+1) (j - 1) (Go.Sort.swp d i j)).1 a)
theorem Ze1 {a p i:Nat} {d e:Array Int} (he:e=Go.Sort.swp d a p) (hi:1<=i) (ha:a<d.size) (hp:p<d.size) (hd:d.size<=1000000000000000) (hi2:i<=1000000000000001):∀(j:Nat),j<d.size->Ev (fun k=>Q116.l3 k d.toList (a:Int) (p:Int) (i:Int) (j:Int)) (Zo5 (Zb7 a i (Go.Sort.scanDown (fun x=>!ltI x e[a]!) e i j) e))
 | 0,hj=>by
  have se:e.size=d.size:=by rw [he,Yp]
  unfold Go.Sort.scanDown Zb7;rw [iO];exact Ev.last fun k=>by
   rw [Q116.l3,iN,iP,gta,gta,tN,tN,Ww,<- he,iV,iV,gta,gta,tN,Ww];rfl
 | j+1,hj=>by
  have se:e.size=d.size:=by rw [he,Yp]
  have e1:w64 (((j+1:Nat):Int) - 1)=(j:Int):=wn (by omega) (by omega);have e2:w64 ((i:Int)+1)=((i+1:Nat):Int):=wn (by omega) (by omega);unfold Go.Sort.scanDown;by_cases c:i<=j+1
  ·by_cases q:ltI e[j+1]! e[a]! = true
   ·rw [iF (by simp [q])];unfold Zb7;rw [iQ];refine (Zkj (Zsp a) (n:=d.size) hd ha _ (i+1) j (Go.Sort.swp e i (j+1)) (Nat.le_refl _) (by omega) (by omega) (by omega) (by rw [Yp,se])).step fun k hk=>?_;rw [Q116.l3,iP,gta,gta,tN,tN,Ww,<- he,iV,iV,gta,gta,Xm,bS,iF (by simp [q]),iN,iV,iV,gta,tN,tN,Ww,e1,e2];exact hk
   ·rw [iT (by simp [c,q])];refine (Ze1 he hi ha hp hd hi2 j (by omega)).step fun k hk=>?_;rw [Q116.l3,iP,gta,gta,tN,tN,Ww,<- he,iV,iV,gta,gta,Xm,bS,iT (by simp [q]),e1];exact hk
  ·rw [iF (by simp [c])];unfold Zb7;rw [iO];exact Ev.last fun k=>by
    rw [Q116.l3,iN,iP,gta,gta,tN,tN,Ww,<- he,iV,iV,gta,gta,tN,Ww];rfl
theorem Zpf {a b p:Nat} {d e:Array Int} (he:e=Go.Sort.swp d a p) (hab:a<b) (hb:b<=d.size) (hp:p<d.size) (hd:d.size<=1000000000000000):∀(m i:Nat),b - i<=m->1<=i->i<=1000000000000001->Ev (fun k=>Q116.l4 k d.toList (a:Int) (b:Int) (p:Int) (i:Int)) (Zo5 (Zb7 a (Go.Sort.scanUp (fun x=>ltI x e[a]!) e (b - 1) i) (Go.Sort.scanDown (fun x=>!ltI x e[a]!) e (Go.Sort.scanUp (fun x=>ltI x e[a]!) e (b - 1) i) (b - 1)) e))
 | m,i,hm,h1,hi=>by
  have se:e.size=d.size:=by rw [he,Yp]
  have e2:w64 ((i:Int)+1)=((i+1:Nat):Int):=wn (by omega) (by omega);have e3:w64 ((b:Int) - 1)=((b - 1:Nat):Int):=wn (by omega) (by omega);rw [Go.Sort.scanUp];by_cases c:i<=b - 1
  ·by_cases q:ltI e[i]! e[a]! = true
   ·cases m with
    | zero=>omega
    | succ m=>
    rw [iT (by simp [c,q])];refine (Zpf he hab hb hp hd m (i+1) (by omega) (by omega) (by omega)).step fun k hk=>?_;rw [Q116.l4,e3,iP,gta,gta,tN,tN,Ww,<- he,iV,iV,gta,gta,Xm,bS,iT q,e2];exact hk
   ·rw [iF (by simp [q])];refine (Ze1 he h1 (by omega) hp hd hi (b - 1) (by omega)).step fun k hk=>?_;rw [Q116.l4,e3,iP,gta,gta,tN,tN,Ww,<- he,iV,iV,gta,gta,Xm,bS,iF q];exact hk
  ·rw [iF (by simp [c])];refine (Ze1 he h1 (by omega) hp hd hi (b - 1) (by omega)).step fun k hk=>?_;rw [Q116.l4,e3,iN];exact hk
theorem Ztb {a b p:Nat} {d:Array Int} (hab:a<b) (hp:p<d.size) (hb:b<=d.size) (hd:d.size<=1000000000000000):Ev (fun k=>Q116.f k d.toList (a:Int) (b:Int) (p:Int)) (Zo5 (Go.Sort.partition ltI d a b p)):=by
 have e:Go.Sort.partition ltI d a b p=Zb7 a (Go.Sort.scanUp (fun x=>ltI x (Go.Sort.swp d a p)[a]!) (Go.Sort.swp d a p) (b - 1) (a+1)) (Go.Sort.scanDown (fun x=>!ltI x (Go.Sort.swp d a p)[a]!) (Go.Sort.swp d a p) (Go.Sort.scanUp (fun x=>ltI x (Go.Sort.swp d a p)[a]!) (Go.Sort.swp d a p) (b - 1) (a+1)) (b - 1)) (Go.Sort.swp d a p):=rfl;rw [e];refine (Zpf (e:=Go.Sort.swp d a p) rfl hab hb hp hd _ (a+1) (Nat.le_refl _) (by omega) (by omega)).next fun k hk=>?_;unfold Q116.f;rw [iV,iV,wn (n:=a+1) (by omega) (by omega)];exact hk
theorem Gz (n:Nat):uH.wrap (n:Int)=((n % 18446744073709551616:Nat):Int):=by
 simp [IntKind.wrap,IntKind.bits,IntKind.signed]
theorem bvx {x y:Nat} (hx:x<18446744073709551616) (hy:y<18446744073709551616):((ofInt uH.bits (x:Int) ^^^ ofInt uH.bits (y:Int)).toNat)=x ^^^ y:=by
 show (ofInt 64 (x:Int) ^^^ ofInt 64 (y:Int)).toNat=x ^^^ y;rw [BitVec.toNat_xor,BitVec.ofInt_natCast,BitVec.ofInt_natCast,BitVec.toNat_ofNat,BitVec.toNat_ofNat,Nat.mod_eq_of_lt hx,Nat.mod_eq_of_lt hy]
theorem Zlr {x:Nat} (r s:UInt64) (hx:x=s.toNat):uH.wrap (((ofInt uH.bits (r.toNat:Int) ^^^ ofInt uH.bits (x:Int)).toNat:Int))=((r ^^^ s).toNat:Int):=by
 have h1:r.toNat<18446744073709551616:=r.toNat_lt;have h2:s.toNat<18446744073709551616:=s.toNat_lt;have h3:(r ^^^ s).toNat<18446744073709551616:=(r ^^^ s).toNat_lt;rw [hx,bvx h1 h2,Gz,UInt64.toNat_xor] at *;rw [Nat.mod_eq_of_lt h3]
theorem Zsh (r:UInt64) (n:Nat) (hn:n<64):uH.wrap ((r.toNat:Int)*2 ^ n)=(((r <<< (UInt64.ofNat n)).toNat:Nat):Int):=by
 rw [show (r.toNat:Int)*2 ^ n=((r.toNat*2 ^ n:Nat):Int) by simp,Gz,UInt64.toNat_shiftLeft,Nat.shiftLeft_eq];have:(UInt64.ofNat n).toNat % 64=n:=by simp; omega
 rw [this]
theorem Ztt (r:UInt64) (n:Nat) (hn:n<64):Int.fdiv (r.toNat:Int) (2 ^ n)=(((r >>> (UInt64.ofNat n)).toNat:Nat):Int):=by
 rw [UInt64.toNat_shiftRight,Nat.shiftRight_eq_div_pow];have:(UInt64.ofNat n).toNat % 64=n:=by simp; omega
 rw [this,Int.fdiv_eq_ediv_of_nonneg _ (by exact_mod_cast Nat.zero_le _)];simp
theorem Zs7 (r:UInt64):Q120.f (r.toNat:Int)=some (((Go.Sort.xorNext r).toNat:Int),((Go.Sort.xorNext r).toNat:Int)):=by
 have xe:Go.Sort.xorNext r=(fun r1:UInt64=>(fun r2:UInt64=>r2 ^^^ (r2 <<< 17)) (r1 ^^^ (r1 >>> 7))) (r ^^^ (r <<< 13)):=rfl;unfold Q120.f;rw [xe];dsimp only;have e1:uH.wrap ((r.toNat:Int)*2 ^ 13)=(((r <<< 13).toNat:Nat):Int):=Zsh r 13 (by decide);rw [e1,Zlr r (r <<< 13) rfl];generalize r ^^^ (r <<< 13)=r1;have e2:Int.fdiv (r1.toNat:Int) (2 ^ 7)=(((r1 >>> 7).toNat:Nat):Int):=Ztt r1 7 (by decide);rw [e2,Zlr r1 (r1 >>> 7) rfl];generalize r1 ^^^ (r1 >>> 7)=r2;have e3:uH.wrap ((r2.toNat:Int)*2 ^ 17)=(((r2 <<< 17).toNat:Nat):Int):=Zsh r2 17 (by decide);rw [e3,Zlr r2 (r2 <<< 17) rfl]
theorem fdN (n k:Nat):Int.fdiv (n:Int) (2 ^ k)=((n / 2 ^ k:Nat):Int):=by
 rw [Int.fdiv_eq_ediv_of_nonneg _ (by exact Int.le_of_lt (Int.pow_pos (by decide))),Int.natCast_ediv,Int.natCast_pow]; rfl
theorem U3 {n k:Nat} (h:2 ^ k<=n):Go.Sort.bitsLen n=k+Go.Sort.bitsLen (n / 2 ^ k):=by
 have hp:0<2 ^ k:=Nat.two_pow_pos k;refine Nat.le_antisymm ((Go.Sort.bitsLen_le_iff _ _).2 ?_) ?_
 ·have:=(Go.Sort.bitsLen_le_iff (n / 2 ^ k) _).1 (Nat.le_refl _);rw [Nat.pow_add,Nat.mul_comm];exact (Nat.div_lt_iff_lt_mul hp).1 this
 ·have hm:=(Go.Sort.bitsLen_le_iff n _).1 (Nat.le_refl _);have hk:k<=Go.Sort.bitsLen n:=by
   rcases Nat.lt_or_ge (Go.Sort.bitsLen n) k with z | z
   ·have:=Nat.pow_le_pow_right (n:=2) (by decide) (Nat.le_of_lt z); omega
   ·exact z
  have:=(Go.Sort.bitsLen_le_iff (n / 2 ^ k) (Go.Sort.bitsLen n - k)).2 ((Nat.div_lt_iff_lt_mul hp).2 (by rw [<- Nat.pow_add,Nat.sub_add_cancel hk]; exact hm));omega
theorem G0 {T:TX} (hT:∀ x:Fin 256,(0<=uA.wrap ((x:Nat):Int)/\uA.wrap ((x:Nat):Int)<(T.length:Int))/\w64 (gtb T (uA.wrap ((x:Nat):Int)))=((Go.Sort.bitsLen x:Nat):Int)) {c:Int} {m n x:Nat} (hx:x<256) (hc:c=(m:Int)) (hm:m<=60) (e:n=m+Go.Sort.bitsLen x):(if 0<=uA.wrap (x:Int)/\uA.wrap (x:Int)<(T.length:Int) then some (w64 (c+w64 (gtb T (uA.wrap (x:Int))))) else none)=some (n:Int):=by
 obtain ⟨h1,h2⟩:=hT ⟨x,hx⟩;replace h2:w64 (gtb T (uA.wrap (x:Int)))=((Go.Sort.bitsLen x:Nat):Int):=h2;have hb:Go.Sort.bitsLen x<=8:=(Go.Sort.bitsLen_le_iff _ _).2 hx;rw [iT h1,h2,hc,wI2,e];congr 1
set_option maxRecDepth 20000 in
theorem Zmh {n:Nat} (h:n<1000000000000000):Q1.f (n:Int)=some ((Go.Sort.bitsLen n:Nat):Int):=by
 unfold Q1.f;simp only [fdN];by_cases a:2 ^ 32<=n
 ·rw [iP,U3 a];by_cases b:2 ^ 16<=n / 2 ^ 32
  ·rw [iP,U3 b];by_cases d:2 ^ 8<=n / 2 ^ 32 / 2 ^ 16
   ·rw [iP,U3 d];exact G0 (by decide +kernel) (by omega) (m:=56) rfl (by decide) (by omega)
   ·rw [iN];exact G0 (by decide +kernel) (by omega) (m:=48) rfl (by decide) (by omega)
  ·rw [iN];by_cases d:2 ^ 8<=n / 2 ^ 32
   ·rw [iP,U3 d];exact G0 (by decide +kernel) (by omega) (m:=40) rfl (by decide) (by omega)
   ·rw [iN];exact G0 (by decide +kernel) (by omega) (m:=32) rfl (by decide) (by omega)
 ·rw [iN];by_cases b:2 ^ 16<=n
  ·rw [iP,U3 b];by_cases d:2 ^ 8<=n / 2 ^ 16
   ·rw [iP,U3 d];exact G0 (by decide +kernel) (by omega) (m:=24) rfl (by decide) (by omega)
   ·rw [iN];exact G0 (by decide +kernel) (by omega) (m:=16) rfl (by decide) (by omega)
  ·rw [iN];by_cases d:2 ^ 8<=n
   ·rw [iP,U3 d];exact G0 (by decide +kernel) (by omega) (m:=8) rfl (by decide) (by omega)
   ·rw [iN];exact G0 (by decide +kernel) (by omega) (m:=0) rfl (by decide) (by omega)
theorem Ztr {n:Nat} (h:n<1000000000000000):Q112.f (n:Int)=some ((1 <<< Go.Sort.bitsLen n:Nat):Int):=by
 have hb:Go.Sort.bitsLen n<=50:=(Go.Sort.bitsLen_le_iff _ _).2 (Nat.lt_of_lt_of_le h (by decide));have hq:2 ^ Go.Sort.bitsLen n<=2 ^ 50:=Nat.pow_le_pow_right (by decide) hb;unfold Q112.f Q0.f;rw [Gz,Nat.mod_eq_of_lt (by omega),Zmh h,bS,bS,iO,tN,Nat.min_eq_left (by omega),Nat.one_shiftLeft,Int.one_mul,show ((2:Int) ^ Go.Sort.bitsLen n)=((2 ^ Go.Sort.bitsLen n:Nat):Int) by rw [Int.natCast_pow]; rfl,Gz,Nat.mod_eq_of_lt (by omega)]
theorem Zt1 {r:UInt64} {M:Nat} (h1:1<=M) (h2:M<=4000000000000000):w64 (uH.wrap (((ofInt uH.bits (r.toNat:Int) &&& (ofInt uH.bits (uH.wrap ((M:Int) - 1)))).toNat:Int)))=((r.toNat &&& (M - 1):Nat):Int):=by
 have hr:r.toNat<18446744073709551616:=r.toNat_lt;have e1:(M:Int) - 1=((M - 1:Nat):Int):=by omega
 have hle:r.toNat &&& (M - 1)<=M - 1:=Nat.and_le_right;have e2:(ofInt uH.bits (r.toNat:Int) &&& ofInt uH.bits ((M - 1:Nat):Int)).toNat=r.toNat &&& (M - 1):=by
  show (ofInt 64 (r.toNat:Int) &&& ofInt 64 ((M - 1:Nat):Int)).toNat=r.toNat &&& (M - 1);rw [BitVec.toNat_and,BitVec.ofInt_natCast,BitVec.ofInt_natCast,BitVec.toNat_ofNat,BitVec.toNat_ofNat,Nat.mod_eq_of_lt hr,Nat.mod_eq_of_lt (by omega)]
 rw [e1,show uH.wrap ((M - 1:Nat):Int)=((M - 1:Nat):Int) by rw [Gz,Nat.mod_eq_of_lt (by omega)],e2,Gz,Nat.mod_eq_of_lt (by omega),wI2]
theorem Zdj {a b M i:Nat} {d:Array Int} {r:UInt64} {R:T0} (h8:8<=b - a) (hb:b<=d.size) (hd:d.size<1000000000000000) (ha:a<=i) (hi:i<=a+(b - a) / 4*2+1) (hM:M=1 <<< Go.Sort.bitsLen (b - a))
  (h:Ev (fun k=>Q106.l0 k (a:Int) (b:Int) (M:Int) (Go.Sort.breakStep a (b - a) M (r,d) i).2.toList ((Go.Sort.breakStep a (b - a) M (r,d) i).1.toNat:Int) ((i+1:Nat):Int)) R) :
  Ev (fun k=>Q106.l0 k (a:Int) (b:Int) (M:Int) d.toList (r.toNat:Int) (i:Int)) R:=by
 have e1:w64 ((b:Int) - (a:Int))=((b - a:Nat):Int):=wn (by omega) (by omega);have e2:w64 (Int.tdiv ((b - a:Nat):Int) 4)=(((b - a) / 4:Nat):Int):=by
  rw [show Int.tdiv ((b - a:Nat):Int) 4=(((b - a) / 4:Nat):Int) from rfl,wI2]
 have e3:w64 ((((b - a) / 4:Nat):Int)*2)=(((b - a) / 4*2:Nat):Int):=wn (by omega) (by omega);have e4:w64 ((a:Int)+(((b - a) / 4*2:Nat):Int))=((a+(b - a) / 4*2:Nat):Int):=wn (by omega) (by omega);have e5:w64 (((a+(b - a) / 4*2:Nat):Int)+1)=((a+(b - a) / 4*2+1:Nat):Int):=wn (by omega) (by omega);have e6:w64 ((i:Int)+1)=((i+1:Nat):Int):=wn (by omega) (by omega);have hp:=Go.Sort.two_pow_bitsLen_le (n:=b - a) (by omega);have hq:1<=2 ^ Go.Sort.bitsLen (b - a):=Nat.two_pow_pos _;rw [Nat.one_shiftLeft] at hM;rw [<- hM] at hp hq;have eb:Go.Sort.breakStep a (b - a) M (r,d) i=(Go.Sort.xorNext r,Go.Sort.swp d i (a+if (Go.Sort.xorNext r).toNat &&& (M - 1)>=b - a then ((Go.Sort.xorNext r).toNat &&& (M - 1)) - (b - a) else (Go.Sort.xorNext r).toNat &&& (M - 1))):=rfl
 rw [eb] at h;have hle:(Go.Sort.xorNext r).toNat &&& (M - 1)<=M - 1:=Nat.and_le_right;have hand:=Zt1 (r:=Go.Sort.xorNext r) (M:=M) hq (by omega);refine h.step fun k hk=>?_;rw [Q106.l0,e1,e2,e3,e4,e5,iP,Zs7,bS];dsimp only;rw [hand];generalize (Go.Sort.xorNext r).toNat &&& (M - 1)=o at *;by_cases c:o>=b - a
 ·have e7:w64 ((o:Int) - ((b - a:Nat):Int))=((o - (b - a):Nat):Int):=wn (by omega) (by omega);have e8:w64 ((a:Int)+((o - (b - a):Nat):Int))=((a+(o - (b - a)):Nat):Int):=wn (by omega) (by omega);rw [iT c] at hk;rw [iP,e7,e8,iV,iV,gta,gta,tN,tN,Ww,e6];exact hk
 ·have e8:w64 ((a:Int)+(o:Int))=((a+o:Nat):Int):=wn (by omega) (by omega);rw [iF c] at hk;rw [iN,e8,iV,iV,gta,gta,tN,tN,Ww,e6];exact hk
theorem Ze7 (a L M i:Nat) (st:UInt64×Array Int):(Go.Sort.breakStep a L M st i).2.size=st.2.size:=by
 unfold Go.Sort.breakStep;exact Yp _ _ _
theorem Zrs {a b:Nat} {d:Array Int} (hab:a<=b) (hb:b<=d.size) (hd:d.size<1000000000000000):Ev (fun k=>Q106.f k d.toList (a:Int) (b:Int)) (Go.Sort.breakPatterns d a b).toList:=by
 have e1:w64 ((b:Int) - (a:Int))=((b - a:Nat):Int):=wn (by omega) (by omega);by_cases h8:b - a>=8
 ·have e2:w64 (Int.tdiv ((b - a:Nat):Int) 4)=(((b - a) / 4:Nat):Int):=by
   rw [show Int.tdiv ((b - a:Nat):Int) 4=(((b - a) / 4:Nat):Int) from rfl,wI2]
  have e3:w64 ((((b - a) / 4:Nat):Int)*2)=(((b - a) / 4*2:Nat):Int):=wn (by omega) (by omega);have e4:w64 ((a:Int)+(((b - a) / 4*2:Nat):Int))=((a+(b - a) / 4*2:Nat):Int):=wn (by omega) (by omega);have e5:w64 (((a+(b - a) / 4*2:Nat):Int) - 1)=((a+(b - a) / 4*2 - 1:Nat):Int):=wn (by omega) (by omega);have e6:w64 (((a+(b - a) / 4*2:Nat):Int)+1)=((a+(b - a) / 4*2+1:Nat):Int):=wn (by omega) (by omega);have hx:uH.wrap ((b - a:Nat):Int)=((UInt64.ofNat (b - a)).toNat:Int):=by
   rw [Gz];have:(UInt64.ofNat (b - a)).toNat=(b - a) % 18446744073709551616:=by simp
   rw [this]
  have fin:∀(d':Array Int) (x:Int),Ev (fun k=>Q106.l0 k (a:Int) (b:Int) ((1 <<< Go.Sort.bitsLen (b - a):Nat):Int) d'.toList x ((a+(b - a) / 4*2 - 1+1+1+1:Nat):Int)) d'.toList:=fun d' x=>Ev.last fun k=>by
   rw [Q106.l0,e1,e2,e3,e4,e6,iN]
  have main:Ev (fun k=>Q106.l0 k (a:Int) (b:Int) ((1 <<< Go.Sort.bitsLen (b - a):Nat):Int) d.toList ((UInt64.ofNat (b - a)).toNat:Int) ((a+(b - a) / 4*2 - 1:Nat):Int)) (Go.Sort.breakPatterns d a b).toList:=by
   unfold Go.Sort.breakPatterns;rw [iT h8];refine Zdj h8 hb hd (by omega) (by omega) rfl (Zdj h8 ?_ ?_ (by omega) (by omega) rfl (Zdj h8 ?_ ?_ (by omega) (by omega) rfl (fin _ _)))
   all_goals simp only [Ze7]
   all_goals first | exact hb | exact hd
  refine main.next fun k hk=>?_;unfold Q106.f;rw [e1,iP,Ztr (n:=b - a) (by omega),bS,hx,e2,e3,e4,e5];exact hk
 ·refine Ev.all fun k=>?_;unfold Q106.f Go.Sort.breakPatterns;rw [e1,iN,iF h8]
def Zoh (k:Nat) (a b lim m:Int) (ap:Bool) (d:T0):Option T0:=if (decide ((w64 (m - a))<(w64 (b - m))))=true then ((Q117.f k d a m lim).bind fun r10=>(Q117.l0 k r10 (w64 (m+1)) b lim (decide ((w64 (Int.tdiv (w64 (b - a)) 8))<=(w64 (m - a)))) ap)) else ((Q117.f k d (w64 (m+1)) b lim).bind fun r11=>(Q117.l0 k r11 a m lim (decide ((w64 (Int.tdiv (w64 (b - a)) 8))<=(w64 (b - m)))) ap))
theorem Zel (k:Nat) (x1:T0) (x2 x3 x4:Int) (x5 x6:Bool):Q117.l0 (k+1) x1 x2 x3 x4 x5 x6=if (decide ((w64 (x3 - x2))<=12))=true then ((Q109.f k x1 x2 x3).bind fun r1=>(some r1)) else (if (decide (x4=0))=true then ((Q108.f k x1 x2 x3).bind fun r2=>(some r2)) else (if (!x5)=true then ((Q106.f k x1 x2 x3).bind fun r3=>Q117.l1 k x2 x3 x5 x6 r3 (w64 (x4 - 1))) else Q117.l1 k x2 x3 x5 x6 x1 x4)):=by
 rw [Q117.l0]
section
variable {a b p lim:Nat} {d:Array Int} {wb wp:Bool} {r:T0}
theorem Zr1 (h1:1<=a) (hab:a<b) (hp:p<d.size) (hb:b<=d.size) (hd:d.size<1000000000000000) (hq:ltI d[a - 1]! d[p]! = false)
  (h:Ev (fun k=>Q117.l0 k (Go.Sort.partitionEqual ltI d a b p).2.toList ((Go.Sort.partitionEqual ltI d a b p).1:Int) (b:Int) (lim:Int) wb wp) r) :
  Ev (fun k=>Q117.l4 k (a:Int) (b:Int) wb wp (lim:Int) (p:Int) d.toList) r:=by
 have h5:Ev (fun k=>Q117.l5 k (a:Int) (b:Int) wb wp (lim:Int) (p:Int) d.toList true) r:=(Zqp hab hp hb (by omega)).step2 h fun k h1' h2=>by
  rw [Q117.l5,iT rfl,h1',bS];exact h2
 refine h5.step fun k hk=>?_;rw [Q117.l4,iP,wn (x:=(a:Int) - 1) (n:=a - 1) (by omega) (by omega),iV,iV,gta,gta,Xm,bS,hq];exact hk
theorem Zry (hab:a<b) (hp:p<d.size) (hb:b<=d.size) (hd:d.size<1000000000000000) (hq:(decide (a>0) && !ltI d[a - 1]! d[p]!)=false)
  (h:Ev (fun k=>Zoh k (a:Int) (b:Int) (lim:Int) ((Go.Sort.partition ltI d a b p).1:Int) (Go.Sort.partition ltI d a b p).2.1 (Go.Sort.partition ltI d a b p).2.2.toList) r) :
  Ev (fun k=>Q117.l4 k (a:Int) (b:Int) wb wp (lim:Int) (p:Int) d.toList) r:=by
 have h5:Ev (fun k=>Q117.l5 k (a:Int) (b:Int) wb wp (lim:Int) (p:Int) d.toList false) r:=(Ztb hab hp hb (by omega)).step2 h fun k h1' h2=>by
  rw [Q117.l5,vS,h1',bS];exact h2
 refine h5.step fun k hk=>?_;by_cases c:0<a
 ·have hq':ltI d[a - 1]! d[p]! = true:=by simpa [c] using hq
  rw [Q117.l4,iP,wn (x:=(a:Int) - 1) (n:=a - 1) (by omega) (by omega),iV,iV,gta,gta,Xm,bS,hq'];exact hk
 ·rw [Q117.l4,iN];exact hk
theorem Zrt (hab:a<b) (hb:b<=d.size) (hd:d.size<1000000000000000) (h1:(Go.Sort.partialInsertionSort ltI d a b).2=true->(Go.Sort.partialInsertionSort ltI d a b).1.toList=r)
  (h2:(Go.Sort.partialInsertionSort ltI d a b).2=false->Ev (fun k=>Q117.l4 k (a:Int) (b:Int) wb wp (lim:Int) (p:Int) (Go.Sort.partialInsertionSort ltI d a b).1.toList) r):Ev (fun k=>Q117.l3 k (a:Int) (b:Int) wb wp (lim:Int) d.toList (p:Int) true) r:=by
 have h0:=Ztc hab hb (by omega);cases c:(Go.Sort.partialInsertionSort ltI d a b).2 with
 | true=>
  refine h0.step fun k hk=>?_;rw [Q117.l3,iT rfl,hk,bS,J0,c,iT rfl,h1 c]
 | false=>
  refine h0.step2 (h2 c) fun k hk hk2=>?_;rw [Q117.l3,iT rfl,hk,bS,J0,c,vS];exact hk2
end
def piP (k:Nat) (s:Go.Sort.Rd Int) (a b:Nat) (wb wp:Bool):Option T0:=if s.pi.2=true then some s.pi.1.toList else Q117.l4 k (a:Int) (b:Int) wb wp (s.lim:Int) (s.pivot:Int) s.pi.1.toList
theorem Zpm {h:Go.Sort.Hint}:decide (Zeh h=2)=decide (h=.decreasing):=by cases h <;> rfl
theorem Ztj {h:Go.Sort.Hint}:decide (Zeh h=1)=decide (h=.increasing):=by cases h <;> rfl
section
variable {a b limit:Nat} {d:Array Int} {wb wp:Bool} {r:T0}
theorem Zsc {s:Go.Sort.Rd Int} {e:Array Int} (hab:a<b) (hb:b<=e.size) (hd:e.size<1000000000000000) (he:s.pi=Go.Sort.partialInsertionSort ltI e a b) (h:Ev (fun k=>piP k s a b wb wp) r) :
  Ev (fun k=>Q117.l3 k (a:Int) (b:Int) wb wp (s.lim:Int) e.toList (s.pivot:Int) true) r:=by
 refine Zrt hab hb hd (fun c=>?_) fun c=>?_
 ·obtain ⟨k,h⟩:=h.ok;unfold piP at h;rw [he,c,iT rfl] at h;exact Option.some.inj h
 ·refine h.next fun k hk=>?_;unfold piP at hk;rw [he,c,vS] at hk;exact hk
theorem Zi2 {s:Go.Sort.Rd Int} {e:Array Int} (he:s.pi=(e,false)) (h:Ev (fun k=>piP k s a b wb wp) r) :
  Ev (fun k=>Q117.l3 k (a:Int) (b:Int) wb wp (s.lim:Int) e.toList (s.pivot:Int) false) r:=by
 refine h.step fun k hk=>?_;unfold piP at hk;rw [he,vS] at hk;rw [Q117.l3,vS];exact hk
theorem Zrp {s:Go.Sort.Rd Int} (h12:12<b - a) (hb:b<=s.d1.size) (hd:s.d1.size<1000000000000000) (ec:s.c=Go.Sort.choosePivot ltI s.d1 a b) (hc:a<=s.c.1/\s.c.1<b)
  (e2:s.d2=if s.c.2=.decreasing then Go.Sort.reverseRange s.d1 a b else s.d1) (s2:s.d2.size=s.d1.size) (ep:s.pivot=if s.c.2=.decreasing then (b - 1) - (s.c.1 - a) else s.c.1) (eh:s.hint=if s.c.2=.decreasing then Go.Sort.Hint.increasing else s.c.2)
  (ei:s.pi=if wb && wp && s.hint=.increasing then Go.Sort.partialInsertionSort ltI s.d2 a b else (s.d2,false)) (h:Ev (fun k=>piP k s a b wb wp) r) :
  Ev (fun k=>Q117.l1 k (a:Int) (b:Int) wb wp s.d1.toList (s.lim:Int)) r:=by
 have hpv:=Zsj (d:=s.d1) (a:=a) (b:=b) (by omega) hb h12 (by omega);rw [<- ec] at hpv;have fin:∀ hI:Int,decide (hI=1)=decide (s.hint=.increasing)->Ev (fun k=>Q117.l2 k (a:Int) (b:Int) wb wp (s.lim:Int) s.d2.toList (s.pivot:Int) hI) r:=fun hI hh=>by
  cases wb with
  | false=>exact (Zi2 (by simpa using ei) h).step fun k hk=>by rw [Q117.l2,vS]; exact hk
  | true=>
   cases wp with
   | false=>exact (Zi2 (by simpa using ei) h).step fun k hk=>by rw [Q117.l2,iT rfl,vS]; exact hk
   | true=>
    by_cases q:s.hint=.increasing
    ·exact (Zsc (e:=s.d2) (by omega) (by omega) (by omega) (by simpa [q] using ei) h).step fun k hk=>by rw [Q117.l2,iT rfl,iT rfl,hh,dT q]; exact hk
    ·exact (Zi2 (by simpa [q] using ei) h).step fun k hk=>by rw [Q117.l2,iT rfl,iT rfl,hh,dF q]; exact hk
 by_cases c:s.c.2=.decreasing
 ·rw [iT c] at e2 ep eh;have e3:w64 ((b:Int) - 1)=((b - 1:Nat):Int):=wn (by omega) (by omega);have e4:w64 ((s.c.1:Int) - (a:Int))=((s.c.1 - a:Nat):Int):=wn (by omega) (by omega);have e5:w64 (((b - 1:Nat):Int) - ((s.c.1 - a:Nat):Int))=(s.pivot:Int):=wn (by omega) (by omega);have hr:=Ztn (a:=a) (b:=b) (d:=s.d1) (by omega) (by omega) hb (by omega);rw [<- e2] at hr;refine hr.step2 (fin 1 (by rw [eh]; rfl)) fun k h1 h2=>?_;rw [Q117.l1,hpv,bS];dsimp only;rw [Zpm,iT (dT c),h1,bS,e3,e4,e5];exact h2
 ·rw [iF c] at e2 ep eh;refine (fin (Zeh s.c.2) (by rw [eh]; exact Ztj)).step fun k h2=>?_;rw [Q117.l1,hpv,bS];dsimp only;rw [Zpm,iF (by simpa using c)];rw [e2,ep] at h2;exact h2
theorem Zms (h12:12<b - a) (hb:b<=d.size) (hd:d.size<1000000000000000) (hl:limit≠0) (hlim:limit<=100) (hB:Go.Sort.Below ltI a b d) (h:Ev (fun k=>piP k (Go.Sort.rd ltI d a b limit wb wp) a b wb wp) r) :
  Ev (fun k=>Q117.l0 k d.toList (a:Int) (b:Int) (limit:Int) wb wp) r:=by
 obtain ⟨f1,f2,f3,f4,f5,f6,f7,f8⟩:=Go.Sort.rd_facts (lt:=ltI) (wb:=wb) (wp:=wp) (limit:=limit) Go.Sort.swo_ltInt Go.Sort.partialInsertionSort_holds Go.Sort.reverseRange_holds (by omega) hb hB;have hm:=Zrp (s:=Go.Sort.rd ltI d a b limit wb wp) (wb:=wb) (wp:=wp) (r:=r) h12 (by rw [f1]; exact hb) (by rw [f1]; exact hd) rfl f3 rfl (by rw [f4,f1]) rfl rfl rfl h;have e1:w64 ((b:Int) - (a:Int))=((b - a:Nat):Int):=wn (by omega) (by omega);cases wb with
 | true=>
  refine hm.step fun k hk=>?_;rw [Zel,e1,iN,iN,vS];exact hk
 | false=>
  refine (Zrs (a:=a) (b:=b) (d:=d) (by omega) hb hd).step2 hm fun k h1 hk=>?_;rw [Zel,e1,iN,iN,iU,h1,bS,wn (x:=(limit:Int) - 1) (n:=limit - 1) (by omega) (by omega)];exact hk
end
theorem Ztk:∀(m:Nat) (d:Array Int) (a b limit:Nat) (wb wp:Bool),b - a<=m->a<=b->b<=d.size->d.size<1000000000000000->limit<=100->Go.Sort.Below ltI a b d->
  Ev (fun k=>Q117.l0 k d.toList (a:Int) (b:Int) (limit:Int) wb wp) (Go.Sort.pdq ltI d a b limit wb wp).toList:=by
 intro m
 induction m using Nat.strongRecOn with
 | _ m ih=>
 intro d a b limit wb wp hm hab hb hd hlim hB;have e1:w64 ((b:Int) - (a:Int))=((b - a:Nat):Int):=wn (by omega) (by omega);by_cases h12:b - a<=12
 ·rw [Go.Sort.pdq_small h12];refine (Zra (a:=a) (b:=b) (d:=d) hb (by omega) (by omega)).step fun k hk=>?_;rw [Zel,e1,iP,hk,bS]
 by_cases h0:limit=0
 ·rw [Go.Sort.pdq_heap h12 h0];refine (Zsy (a:=a) (b:=b) (d:=d) hab hb (by omega)).step fun k hk=>?_;rw [Zel,e1,iN,iP,hk,bS]
 refine Zms (by omega) hb hd h0 hlim hB ?_;obtain ⟨f1,f2,f3,f4,f5,f6,f7,f8⟩:=Go.Sort.rd_facts (lt:=ltI) (wb:=wb) (wp:=wp) (limit:=limit) Go.Sort.swo_ltInt Go.Sort.partialInsertionSort_holds Go.Sort.reverseRange_holds (by omega) hb hB;have hlm:(Go.Sort.rd ltI d a b limit wb wp).lim<=limit:=Go.Sort.rd_lim_le;cases hpi:(Go.Sort.rd ltI d a b limit wb wp).pi.2 with
 | true=>
  rw [Go.Sort.pdq_done h12 h0 hpi];exact Ev.all fun k=>by unfold piP; rw [iT hpi]
 | false=>
 have red:∀ {r:T0},Ev (fun k=>Q117.l4 k (a:Int) (b:Int) wb wp ((Go.Sort.rd ltI d a b limit wb wp).lim:Int) ((Go.Sort.rd ltI d a b limit wb wp).pivot:Int) (Go.Sort.rd ltI d a b limit wb wp).pi.1.toList) r->Ev (fun k=>piP k (Go.Sort.rd ltI d a b limit wb wp) a b wb wp) r:=fun h=>h.next fun k hk=>by
  unfold piP;rw [hpi,vS];exact hk
 have hsz:b<=(Go.Sort.rd ltI d a b limit wb wp).pi.1.size:=by rw [f7]; exact hb
 cases hq:(decide (a>0) && !ltI (Go.Sort.rd ltI d a b limit wb wp).pi.1[a - 1]! (Go.Sort.rd ltI d a b limit wb wp).pi.1[(Go.Sort.rd ltI d a b limit wb wp).pivot]!) with
 | true=>
  have hq':=hq;simp only [Bool.and_eq_true,dE,Bool.not_eq_true'] at hq';obtain ⟨g1,g2,g3,g4,g5⟩:=Go.Sort.round_eq (lt:=ltI) Go.Sort.swo_ltInt (Go.Sort.partitionEqual_holds ltI) hq'.1 f6.1 f6.2 hsz f8 hq'.2 (mid:=(Go.Sort.partitionEqual ltI (Go.Sort.rd ltI d a b limit wb wp).pi.1 a b (Go.Sort.rd ltI d a b limit wb wp).pivot).1) (d4:=(Go.Sort.partitionEqual ltI (Go.Sort.rd ltI d a b limit wb wp).pi.1 a b (Go.Sort.rd ltI d a b limit wb wp).pivot).2) rfl;rw [Go.Sort.pdq_eq h12 h0 hpi hq ⟨g1,g2⟩];refine red (Zr1 (by omega) (by omega) (by omega) hsz (by omega) hq'.2 ?_);exact ih (b - (Go.Sort.partitionEqual ltI (Go.Sort.rd ltI d a b limit wb wp).pi.1 a b (Go.Sort.rd ltI d a b limit wb wp).pivot).1) (by omega) _ _ _ _ _ _ (Nat.le_refl _) g2 (by rw [g3]; exact hsz) (by omega) (by omega) g4
 | false=>
  obtain ⟨g1,g2,g3,g4,g5,g6,g7⟩:=Go.Sort.round_part (lt:=ltI) Go.Sort.swo_ltInt (Go.Sort.partition_holds ltI) f6.1 f6.2 hsz f8 (mid:=(Go.Sort.partition ltI (Go.Sort.rd ltI d a b limit wb wp).pi.1 a b (Go.Sort.rd ltI d a b limit wb wp).pivot).1) (ap:=(Go.Sort.partition ltI (Go.Sort.rd ltI d a b limit wb wp).pi.1 a b (Go.Sort.rd ltI d a b limit wb wp).pivot).2.1) (d4:=(Go.Sort.partition ltI (Go.Sort.rd ltI d a b limit wb wp).pi.1 a b (Go.Sort.rd ltI d a b limit wb wp).pivot).2.2) rfl;refine red (Zry (by omega) (by omega) hsz (by omega) hq ?_);have e2:∀ x:Nat,x=b - a->w64 (Int.tdiv (x:Int) 8)=(((b - a) / 8:Nat):Int):=fun x hx=>by
   rw [hx,show Int.tdiv ((b - a:Nat):Int) 8=(((b - a) / 8:Nat):Int) from rfl,wI2]
  by_cases hlt:(Go.Sort.partition ltI (Go.Sort.rd ltI d a b limit wb wp).pi.1 a b (Go.Sort.rd ltI d a b limit wb wp).pivot).1 - a<b - (Go.Sort.partition ltI (Go.Sort.rd ltI d a b limit wb wp).pi.1 a b (Go.Sort.rd ltI d a b limit wb wp).pivot).1
  ·rw [Go.Sort.pdq_left h12 h0 hpi hq ⟨g1,g2⟩ hlt];generalize Go.Sort.partition ltI (Go.Sort.rd ltI d a b limit wb wp).pi.1 a b (Go.Sort.rd ltI d a b limit wb wp).pivot=pt at *;have e3:w64 ((pt.1:Int) - (a:Int))=((pt.1 - a:Nat):Int):=wn (by omega) (by omega);have e4:w64 ((b:Int) - (pt.1:Int))=((b - pt.1:Nat):Int):=wn (by omega) (by omega);have e5:w64 ((pt.1:Int)+1)=((pt.1+1:Nat):Int):=wn (by omega) (by omega);have hs:=Go.Sort.pdq_sorts ltI Go.Sort.swo_ltInt pt.2.2 a pt.1 (Go.Sort.rd ltI d a b limit wb wp).lim true true g1 (by omega) g4;have c1:=(ih (pt.1 - a) (by omega) pt.2.2 a pt.1 (Go.Sort.rd ltI d a b limit wb wp).lim true true (Nat.le_refl _) g1 (by omega) (by omega) (by omega) g4).step (F:=fun k=>Q117.f k pt.2.2.toList (a:Int) (pt.1:Int) ((Go.Sort.rd ltI d a b limit wb wp).lim:Int)) fun k hk=>by rw [Q117.f]; exact hk
   have c2:=ih (b - (pt.1+1)) (by omega) (Go.Sort.pdq ltI pt.2.2 a pt.1 (Go.Sort.rd ltI d a b limit wb wp).lim true true) (pt.1+1) b (Go.Sort.rd ltI d a b limit wb wp).lim (decide (pt.1 - a>=(b - a) / 8)) pt.2.1 (Nat.le_refl _) (by omega) (by rw [hs.1.1]; omega) (by rw [hs.1.1]; omega) (by omega) (g6 _ hs.1 hs.2).1;refine c1.next2 c2 fun k k1 k2=>?_;unfold Zoh;rw [e3,e4,e5,e1,e2 _ rfl,iP,k1,bS,show decide ((((b - a) / 8:Nat):Int)<=((pt.1 - a:Nat):Int))=decide (pt.1 - a>=(b - a) / 8) by congr 1; exact propext (by omega)];exact k2
  ·rw [Go.Sort.pdq_right h12 h0 hpi hq ⟨g1,g2⟩ hlt];generalize Go.Sort.partition ltI (Go.Sort.rd ltI d a b limit wb wp).pi.1 a b (Go.Sort.rd ltI d a b limit wb wp).pivot=pt at *;have e3:w64 ((pt.1:Int) - (a:Int))=((pt.1 - a:Nat):Int):=wn (by omega) (by omega);have e4:w64 ((b:Int) - (pt.1:Int))=((b - pt.1:Nat):Int):=wn (by omega) (by omega);have e5:w64 ((pt.1:Int)+1)=((pt.1+1:Nat):Int):=wn (by omega) (by omega);have hs:=Go.Sort.pdq_sorts ltI Go.Sort.swo_ltInt pt.2.2 (pt.1+1) b (Go.Sort.rd ltI d a b limit wb wp).lim true true (by omega) (by omega) g5;have c1:=(ih (b - (pt.1+1)) (by omega) pt.2.2 (pt.1+1) b (Go.Sort.rd ltI d a b limit wb wp).lim true true (Nat.le_refl _) (by omega) (by omega) (by omega) (by omega) g5).step (F:=fun k=>Q117.f k pt.2.2.toList ((pt.1+1:Nat):Int) (b:Int) ((Go.Sort.rd ltI d a b limit wb wp).lim:Int)) fun k hk=>by rw [Q117.f]; exact hk
   have c2:=ih (pt.1 - a) (by omega) (Go.Sort.pdq ltI pt.2.2 (pt.1+1) b (Go.Sort.rd ltI d a b limit wb wp).lim true true) a pt.1 (Go.Sort.rd ltI d a b limit wb wp).lim (decide (b - pt.1>=(b - a) / 8)) pt.2.1 (Nat.le_refl _) (by omega) (by rw [hs.1.1]; omega) (by rw [hs.1.1]; omega) (by omega) (g7 _ hs.1 hs.2).1;refine c1.next2 c2 fun k k1 k2=>?_;unfold Zoh;rw [e3,e4,e5,e1,e2 _ rfl,iN,k1,bS,show decide ((((b - a) / 8:Nat):Int)<=((b - pt.1:Nat):Int))=decide (b - pt.1>=(b - a) / 8) by congr 1; exact propext (by omega)];exact k2
theorem Zp1 {n:Nat} (h:n<1000000000000000):Q0.f (uH.wrap (n:Int))=some ((Go.Sort.bitsLen n:Nat):Int):=by
 unfold Q0.f;rw [Gz,Nat.mod_eq_of_lt (by omega),Zmh (n:=n) (by omega),bS]
theorem Zpk {l:T0} (h:l.length<1000000000000000):Ev (fun k=>Q105.f k l) (l.mergeSort fun x y=>decide (x<=y)):=by
 have e:=Go.Sort.sortInt l;have hb:Go.Sort.bitsLen l.length<=100:=(Go.Sort.bitsLen_le_iff _ _).2 (Nat.lt_of_lt_of_le h (by decide));have hp:=Ztk l.length l.toArray 0 l.toArray.size (Go.Sort.bitsLen l.toArray.size) true true (by simp) (Nat.zero_le _) (Nat.le_refl _) (by simpa using h) (by simpa using hb) (Or.inl rfl);have e2:(Go.Sort.pdq ltI l.toArray 0 l.toArray.size (Go.Sort.bitsLen l.toArray.size) true true).toList=l.mergeSort fun x y=>decide (x<=y):=e;rw [e2] at hp;have hf:Ev (fun k=>Q117.f k l 0 (l.length:Int) ((Go.Sort.bitsLen l.length:Nat):Int)) (l.mergeSort fun x y=>decide (x<=y)):=hp.step fun k hk=>by
  rw [Q117.f];simpa using hk
 refine hf.next fun k hk=>?_;unfold Q105.f;rw [Zp1 h,bS,hk,bS]
theorem Zo2 {α:Type} {xs ys:List α} {l m:Nat} (h:l+m<=xs.length):(patch xs l m ys).length=xs.length:=by
 unfold patch;simp only [lA,length_take,length_drop];omega
theorem Zew {n i:Nat} (hn:n<=1000000000000000) (hi:1<=i):∀(m t j:Nat) (x:T0),x.length=n->i+t+m=n->1<=t->i<=j->j+1<=i+t->∃ r,Ev (fun k=>Q93.l1 k (i:Int) x (j:Int) (t:Int)) r/\r.length<n
 | 0,t,j,x,hx,h,ht,hj,hjt=>by
  have hd:(x.drop j).length=n - j:=by rw [length_drop,hx]
  have hp:(patch x j (x.drop j).length (List.replicate (x.drop j).length (0:Int))).length=n:=by rw [Zo2 (by omega),hx]
  refine ⟨(patch x j (x.drop j).length (List.replicate (x.drop j).length (0:Int))).take j,Ev.last fun k=>?_,by rw [length_take]; omega⟩;rw [Q93.l1,iF (by simp only [tN,length_drop,dE]; omega),iO,tN,iO]
 | m+1,t,j,x,hx,h,ht,hj,hjt=>by
  have e1:w64 ((t:Int) - 1)=((t - 1:Nat):Int):=wn (by omega) (by omega);have e2:w64 ((t:Int)+1)=((t+1:Nat):Int):=wn (by omega) (by omega);have e3:w64 ((j:Int)+1)=((j+1:Nat):Int):=wn (by omega) (by omega);have hd:(x.drop i).length=n - i:=by rw [length_drop,hx]
  by_cases q:gt (x.drop i) (t:Int)=gt (x.drop i) ((t - 1:Nat):Int)
  ·obtain ⟨r,h1,h2⟩:=Zew hn hi m (t+1) j x hx (by omega) (by omega) hj (by omega);refine ⟨r,h1.step fun k hk=>?_,h2⟩;rw [Q93.l1,tN,iP,iO,e1,iO,iF (by simp [q]),e2];exact hk
  ·obtain ⟨r,h1,h2⟩:=Zew hn hi m (t+1) (j+1) (x.set j (gt (x.drop i) (t:Int))) (by rw [length_set,hx]) (by omega) (by omega) (by omega) (by omega);refine ⟨r,h1.step fun k hk=>?_,h2⟩;rw [Q93.l1,tN,iP,iO,e1,iO,iT (by simp [q]),iO,tN,e2,e3];exact hk
def Zor (l:T0):Prop:=∀ q,q+1<l.length->l.getD (q+1) 0≠l.getD q 0
theorem Zkn {l:T0} (hn:l.length<=1000000000000000):∀(m i:Nat),i+m=l.length->1<=i->(∀ q,q+1<i->l.getD (q+1) 0≠l.getD q 0)->∃ r,Ev (fun k=>Q93.l0 k l (i:Int)) r/\(r.length=l.length↔Zor l)
 | 0,i,h,hi,hq=>by
  refine ⟨l,Ev.last fun k=>?_,fun _ q hq'=>hq q (by omega),fun _=>rfl⟩;rw [Q93.l0,iN]
 | m+1,i,h,hi,hq=>by
  have e1:w64 ((i:Int) - 1)=((i - 1:Nat):Int):=wn (by omega) (by omega);have e2:w64 ((i:Int)+1)=((i+1:Nat):Int):=wn (by omega) (by omega);have g1:gt l (i:Int)=l.getD i 0:=Zw l i;have g2:gt l ((i - 1:Nat):Int)=l.getD (i - 1) 0:=Zw l (i - 1);by_cases c:l.getD i 0=l.getD (i - 1) 0
  ·obtain ⟨r,h1,h2⟩:=Zew hn hi (l.length - i - 1) 1 i l rfl (by omega) (Nat.le_refl _) (Nat.le_refl _) (Nat.le_refl _);refine ⟨r,h1.step fun k hk=>?_,fun e=>by omega,fun e=>absurd c (by have:=e (i - 1) (by omega); rwa [Nat.sub_add_cancel hi] at this)⟩;rw [Q93.l0,iP,iO,e1,iO,g1,g2,iT (dT c),iO];exact hk
  ·obtain ⟨r,h1,h2⟩:=Zkn hn m (i+1) (by omega) (by omega) fun q hq'=>by
    by_cases e:q+1=i
    ·rw [e,show q=i - 1 by omega]; exact c
    ·exact hq q (by omega)
   refine ⟨r,h1.step fun k hk=>?_,h2⟩;rw [Q93.l0,iP,iO,e1,iO,g1,g2,iF (by simpa using c),e2];exact hk
theorem Zoj {l:T0} (hn:l.length<=1000000000000000):∃ r,Ev (fun k=>Q93.f k l) r/\(r.length=l.length↔Zor l):=by
 by_cases h:l.length<2
 ·refine ⟨l,Ev.all fun k=>?_,fun _ q hq=>by omega,fun _=>rfl⟩;unfold Q93.f;rw [iP]
 ·obtain ⟨r,h1,h2⟩:=Zkn hn (l.length - 1) 1 (by omega) (Nat.le_refl _) (fun q hq=>by omega);refine ⟨r,h1.next fun k hk=>?_,h2⟩;unfold Q93.f;rw [iN];exact hk
theorem Zmy {l:T0} (hs:l.Pairwise (fun x y=>x<=y)):Zor l↔l.Nodup:=by
 constructor
 ·intro h;rw [List.Nodup,List.pairwise_iff_getElem];intro i j hi hj hij e;have h1:=h i (by omega);rw [List.getD_eq_getElem?_getD,List.getD_eq_getElem?_getD,List.getElem?_eq_getElem (by omega),List.getElem?_eq_getElem hi] at h1;simp only [Option.getD_some] at h1;have a:=List.pairwise_iff_getElem.1 hs i (i+1) hi (by omega) (by omega);by_cases e1:i+1=j
  ·subst e1; exact h1 e.symm
  ·have b:=List.pairwise_iff_getElem.1 hs (i+1) j (by omega) hj (by omega);omega
 ·intro h q hq e;rw [List.getD_eq_getElem?_getD,List.getD_eq_getElem?_getD,List.getElem?_eq_getElem hq,List.getElem?_eq_getElem (by omega)] at e;exact (List.pairwise_iff_getElem.1 h q (q+1) (by omega) hq (by omega)) e.symm
theorem kids_all {c:Cfg} {l:T0}:(List.range' 0 l.length).all (Zas c l)=true↔(∀ x∈l,x≠0/\¬ c.1<=w64 x)/\l.Nodup:=by
 have gd:∀ i (h:i<l.length),l.getD i 0=l[i]:=fun i h=>by rw [List.getD_eq_getElem?_getD,List.getElem?_eq_getElem h]; rfl
 rw [List.all_eq_true];constructor
 ·intro h;refine ⟨fun x hx=>?_,?_⟩
  ·obtain ⟨i,hi,rfl⟩:=List.mem_iff_getElem.1 hx;have:=h i (by simp [hi]);simp only [Zas,gd i hi,Bool.and_eq_true,Bool.not_eq_true',decide_eq_false_iff_not] at this;exact ⟨this.1,this.2.1⟩
  ·rw [List.Nodup,List.pairwise_iff_getElem];intro i j hi hj hij e;have:=h j (by simp [hj]);simp only [Zas,Bool.and_eq_true,List.all_eq_true] at this;have:=this.2.2 i (by simp [hij]);simp only [neB,gd i hi,gd j hj,Bool.not_eq_true',decide_eq_false_iff_not] at this;exact this e
 ·rintro ⟨h1,h2⟩ i hi;have hi:i<l.length:=by simpa using hi
  simp only [Zas,gd i hi,Bool.and_eq_true,Bool.not_eq_true',decide_eq_false_iff_not,List.all_eq_true];refine ⟨(h1 _ (List.getElem_mem hi)).1,(h1 _ (List.getElem_mem hi)).2,fun q hq=>?_⟩;have hq:q<i:=by simpa using hq
  simp only [neB,gd i hi,gd q (by omega),Bool.not_eq_true',decide_eq_false_iff_not];exact List.pairwise_iff_getElem.1 h2 q i (by omega) hi hq
def Zcp (c:Cfg) (l:T0):Bool:=decide (1<=l.length) && (decide ((l.length:Int)<=c.2.2.2.1) && (List.range' 0 l.length).all (Zas c l))
theorem Ztf {c:Cfg} {l:T0} (h80:l.length<=35184372087808) (hl:∀ x∈l,0<=x/\x<4294967296):Ev (fun k=>Q71.f k c l) (Zcp c l):=by
 have hclone:Q92.f l=some l:=by
  unfold Q92.f;rw [iV]; rfl
 obtain ⟨S,hS⟩:∃ S,S=l.mergeSort fun x y=>decide (x<=y):=⟨_,rfl⟩;have hperm:S.Perm l:=hS ▸ List.mergeSort_perm _ _;have hlen:S.length=l.length:=hperm.length_eq;have hsort:S.Pairwise (fun x y=>x<=y):=by
  have:=List.pairwise_mergeSort (le:=fun x y:Int=>decide (x<=y)) (fun a b c h1 h2=>by simp only [dE] at *; omega) (fun a b=>by simp only [Bool.or_eq_true,dE]; omega) l;rw [<- hS] at this;exact this.imp fun h=>of_decide_eq_true h
 have hs:=Zpk (l:=l) (by omega);rw [<- hS] at hs;obtain ⟨r,hr1,hr2⟩:=Zoj (l:=S) (by omega);refine hs.next2 hr1 fun k k1 k2=>?_;unfold Q71.f;rw [hclone,bS,k1,bS];by_cases c1:l.length<1
 ·rw [iP];simp [Zcp,show ¬ 1<=l.length by omega]
 rw [iN];by_cases c2:c.2.2.2.1<(l.length:Int)
 ·rw [iT (dT c2)];simp [Zcp,show ¬ (l.length:Int)<=c.2.2.2.1 by omega]
 rw [iF (by simpa using c2),iO,wn (x:=(l.length:Int) - 1) (n:=l.length - 1) (by omega) (by omega)];have g0:gt S 0=S[0]'(by omega):=by
  rw [show (0:Int)=((0:Nat):Int) from rfl,Zw,List.getD_eq_getElem?_getD,List.getElem?_eq_getElem (by omega)]; rfl
 have g1:gt S ((l.length - 1:Nat):Int)=S[l.length - 1]'(by omega):=by
  rw [Zw,List.getD_eq_getElem?_getD,List.getElem?_eq_getElem (by omega)]; rfl
 have m0:S[0]'(by omega)∈l:=hperm.mem_iff.1 (List.getElem_mem _);have m1:S[l.length - 1]'(by omega)∈l:=hperm.mem_iff.1 (List.getElem_mem _);rw [g0,g1];have base:Zcp c l=(List.range' 0 l.length).all (Zas c l):=by
  unfold Zcp;rw [dT (show 1<=l.length by omega),dT (show (l.length:Int)<=c.2.2.2.1 by omega)]; rfl
 rw [base];by_cases c3:S[0]'(by omega)=0
 ·rw [iT (dT c3)];refine congrArg some (Bool.eq_false_iff.2 fun e=>?_).symm;exact ((kids_all.1 e).1 _ m0).1 c3
 rw [iF (by simpa using c3),iO];by_cases c4:c.1<=w64 (S[l.length - 1]'(by omega))
 ·rw [iT (dT c4)];refine congrArg some (Bool.eq_false_iff.2 fun e=>?_).symm;exact ((kids_all.1 e).1 _ m1).2 c4
 rw [iF (by simpa using c4),k2,bS];have key:r.length=l.length↔(List.range' 0 l.length).all (Zas c l)=true:=by
  rw [<- hlen,hr2,Zmy hsort,hperm.nodup_iff,hlen,kids_all];refine ⟨fun h=>⟨fun x hx=>?_,h⟩,fun h=>h.2⟩;obtain ⟨i,hi,rfl⟩:=List.mem_iff_getElem.1 (hperm.mem_iff.2 hx);have a0:=hl _ m0;have a1:=hl _ m1;have ax:=hl _ hx;have b0:S[0]'(by omega)<=S[i]:=by
   by_cases z:i=0
   ·subst z; exact Int.le_refl _
   ·exact List.pairwise_iff_getElem.1 hsort 0 i (by omega) hi (by omega)
  have b1:S[i]<=S[l.length - 1]'(by omega):=by
   by_cases z:i=l.length - 1
   ·subst z; exact Int.le_refl _
   ·exact List.pairwise_iff_getElem.1 hsort i (l.length - 1) hi (by omega) (by omega)
  rw [wI2] at c4 ⊢;exact ⟨by omega,by omega⟩
 refine congrArg some (Bool.eq_iff_iff.2 ?_);rw [dE,<- key];omega
theorem Zi5 (s:Sp) (x:TX):Q63.f s x=some (inS s x):=by
 unfold Q63.f inS;cases Op.bytesLess x s.1 <;> cases s.2.2 <;> rfl
theorem Zjk (a b:TX):Q61.f a b=some (Xq a b):=rfl
theorem Zbn {l:TO} (s:Sp) (hl:l.length<=35184372087808):∀(k i:Nat),i<=l.length->l.length - i<k->Q57.l0 k l s (i:Int)=some ((l.drop i).all (piv s) && W7 (l.drop (i - 1)))
 | 0,i,_,h=>by omega
 | k+1,i,hi,hk=>by
  rw [Q57.l0];by_cases h:i<l.length
  ·have g1:(0:Int)<=(i:Int)/\(i:Int)<(l.length:Int):=by omega
   have eta:(s.1,s.2.1,s.2.2)=s:=rfl;have ih:=Zbn s hl k (i+1) (by omega) (by omega);rw [iT (dT g1.2),iT g1,Zw]; (try rw [eta]); rw [Zi5,bS,wS2,ih,Yv h,List.all_cons,Nat.add_sub_cancel]
   simp only [piv];cases h1:inS s (l.getD i default) with
   | false=>rfl
   | true=>
    by_cases e:l.getD i default=s.1
    ·rw [vS,iT (dT e),dT e]; rfl
    ·rw [vS,iF (by simp only [e,decide_false]; simp)];by_cases h0:0<i
     ·have g2:(0:Int)<=((i - 1:Nat):Int)/\((i - 1:Nat):Int)<(l.length:Int):=by omega
      rw [iP,Zi1 h0 (by omega),iT g2,Zw,Zjk,bS,Zqt];have:=Zea (l:=l) (i:=i - 1) (by omega);rw [Nat.sub_add_cancel h0] at this;rw [this,dF e];show (if (!Op.bytesLess (l.getD (i - 1) []) (l.getD i []))=true then _ else _)=_
      cases Op.bytesLess (l.getD (i - 1) []) (l.getD i []) <;> simp
     ·obtain rfl:i=0:=by omega
      rw [vS,dF e];simp
  ·rw [iN,dN,Zmu (by omega)];rfl
theorem Znr {l:TO} (s:Sp) (hl:l.length<=35184372087808) {k:Nat} (hk:l.length+100<k):Q57.f k l s=some (l.all (piv s) && W7 l):=by
 have:=Zbn s hl k 0 (by omega) (by omega);simpa [Q57.f] using this
theorem Zla {l:List Pr} (hl:l.length<=35184372087808) {k:Nat} (hk:l.length<k):Q59.f k l=some (Zcb l):=by
 have:=Bn (key:=fun x:Pr=>x.1) (F:=fun k i=>Q59.l0 k l i) (by omega) (fun k i=>rfl) k 0 (by omega) (by omega);rw [Zki];simpa [Q59.f] using this
theorem Zmk {l:List Msg} (hl:l.length<=35184372087808) {k:Nat} (hk:l.length<k):Q13.f k l=some (Zci l):=by
 have:=Bn (key:=fun x:Msg=>x.1) (F:=fun k i=>Q13.l0 k l i) (by omega) (fun k i=>rfl) k 0 (by omega) (by omega);rw [Zkf];simpa [Q13.f] using this
theorem Ja {α:Type} [Inhabited α] {l:List α} {F:Nat->Int->Option Int} {p:α->Bool} (hl:l.length<=35184372087808)
  (hF:∀ k i,F (k+1) i=if (decide (i<(l.length:Int)))=true then (if 0<=i/\i<(l.length:Int) then (if p (gt l i)=true then (some i) else (F k (w64 (i+1)))) else none) else (some (-1))) :
  ∀(m i k:Nat),i+m=l.length->m<k->∃ r,F k (i:Int)=some r/\decide (0<=r)=(l.drop i).any p
 | 0,i,0,_,h=>by omega
 | m+1,i,0,_,h=>by omega
 | 0,i,k+1,h,_=>⟨-1,by rw [hF,iN],by rw [dN]; rfl⟩
 | m+1,i,k+1,h,hk=>by
  rw [hF,iP,iO,Zw,Yv (show i<l.length by omega),List.any_cons];by_cases c:p (l.getD i default)=true
  ·exact ⟨_,by rw [iT c],by rw [c,dT]; rfl⟩
  ·obtain ⟨r,h1,h2⟩:=Ja hl hF m (i+1) k (by omega) (by omega);exact ⟨r,by rw [iF c,wS2,h1],by rw [h2,Bool.eq_false_iff.2 c]; rfl⟩
theorem Zdt (c:Cfg) (x:TX):Q66.f c x=some (Xh c x):=by
 unfold Q66.f Xh;by_cases h:1<=(x.length:Int) <;> simp [h]
theorem Zqb (p:Pr) (c:Cfg) (s:Sp):Q73.f p c s=some (!prB c s p):=by
 unfold Q73.f prB;rw [show Q66.f (c.1,c.2.1,c.2.2.1,c.2.2.2.1,c.2.2.2.2.1,c.2.2.2.2.2.1,c.2.2.2.2.2.2.1,c.2.2.2.2.2.2.2) p.1=_ from Zdt c p.1,bS,show Q63.f (s.1,s.2.1,s.2.2) p.1=_ from Zi5 s p.1,bS];by_cases e:c.2.2.2.2.2.2.2<(p.2.length:Int)
 ·rw [dT e,dF (show ¬ ((p.2.length:Int)<=c.2.2.2.2.2.2.2) by omega)];cases Xh c p.1 <;> cases inS s p.1 <;> rfl
 ·rw [dF e,dT (show ((p.2.length:Int)<=c.2.2.2.2.2.2.2) by omega)];cases Xh c p.1 <;> cases inS s p.1 <;> rfl
theorem Zqr (x:TX) (c:Cfg):Q69.f x c=some (!Xh c x):=by
 unfold Q69.f;rw [show Q66.f (c.1,c.2.1,c.2.2.1,c.2.2.2.1,c.2.2.2.2.1,c.2.2.2.2.2.1,c.2.2.2.2.2.2.1,c.2.2.2.2.2.2.2) x=_ from Zdt c x,bS]
theorem Zq8 (p:Msg) (c:Cfg) (s:Sp):Q70.f p c s=some (!Zb5 c s p):=by
 unfold Q70.f Zb5;rw [show Q66.f (c.1,c.2.1,c.2.2.1,c.2.2.2.1,c.2.2.2.2.1,c.2.2.2.2.2.1,c.2.2.2.2.2.2.1,c.2.2.2.2.2.2.2) p.1=_ from Zdt c p.1,bS,show Q63.f (s.1,s.2.1,s.2.2) p.1=_ from Zi5 s p.1,bS];by_cases e:c.2.2.2.2.2.2.2<(p.2.2.length:Int)
 ·rw [dT e,dF (show ¬ ((p.2.2.length:Int)<=c.2.2.2.2.2.2.2) by omega)];cases Xh c p.1 <;> cases inS s p.1 <;> rfl
 ·rw [dF e,dT (show ((p.2.2.length:Int)<=c.2.2.2.2.2.2.2) by omega)];cases Xh c p.1 <;> cases inS s p.1 <;> cases p.2.1 <;> cases decide (p.2.2=[]) <;> rfl
theorem Zlc {c:Cfg} {s:Sp} {l:List Pr} (hl:l.length<=35184372087808) {k:Nat} (hk:l.length<k):Q95.f k l c s=some (!l.all (prB c s)):=by
 obtain ⟨r,h1,h2⟩:=Ja (l:=l) (F:=fun k i=>Q101.l0 k l c s i) (p:=fun x=>!prB c s x) hl (fun k i=>by
  show Q101.l0 (k+1) l c s i=_;rw [Q101.l0,Zqb,bS]) l.length 0 k (by omega) hk
 unfold Q95.f Q101.f;rw [show Q101.l0 k l (c.1,c.2.1,c.2.2.1,c.2.2.2.1,c.2.2.2.2.1,c.2.2.2.2.2.1,c.2.2.2.2.2.2.1,c.2.2.2.2.2.2.2) (s.1,s.2.1,s.2.2) 0=_ from h1,bS,h2,List.drop_zero];exact congrArg some (by rw [List.all_eq_not_any_not,Bool.not_not])
theorem Zk1 {c:Cfg} {l:TO} (hl:l.length<=35184372087808) {k:Nat} (hk:l.length<k):Q98.f k l c=some (!l.all (Xh c)):=by
 obtain ⟨r,h1,h2⟩:=Ja (l:=l) (F:=fun k i=>Q104.l0 k l c i) (p:=fun x=>!Xh c x) hl (fun k i=>by
  show Q104.l0 (k+1) l c i=_;rw [Q104.l0,Zqr,bS]) l.length 0 k (by omega) hk
 unfold Q98.f Q104.f;rw [show Q104.l0 k l (c.1,c.2.1,c.2.2.1,c.2.2.2.1,c.2.2.2.2.1,c.2.2.2.2.2.1,c.2.2.2.2.2.2.1,c.2.2.2.2.2.2.2) 0=_ from h1,bS,h2,List.drop_zero];exact congrArg some (by rw [List.all_eq_not_any_not,Bool.not_not])
theorem Zlh {c:Cfg} {s:Sp} {l:List Msg} (hl:l.length<=35184372087808) {k:Nat} (hk:l.length<k):Q94.f k l c s=some (!l.all (Zb5 c s)):=by
 obtain ⟨r,h1,h2⟩:=Ja (l:=l) (F:=fun k i=>Q100.l0 k l c s i) (p:=fun x=>!Zb5 c s x) hl (fun k i=>by
  show Q100.l0 (k+1) l c s i=_;rw [Q100.l0,Zq8,bS]) l.length 0 k (by omega) hk
 unfold Q94.f Q100.f;rw [show Q100.l0 k l (c.1,c.2.1,c.2.2.1,c.2.2.2.1,c.2.2.2.2.1,c.2.2.2.2.2.1,c.2.2.2.2.2.2.1,c.2.2.2.2.2.2.2) (s.1,s.2.1,s.2.2) 0=_ from h1,bS,h2,List.drop_zero];exact congrArg some (by rw [List.all_eq_not_any_not,Bool.not_not])
theorem Ztx {α:Type} [DecidableEq α] (l:List α):decide (0<(l.length:Int))=!decide (l=[]):=by cases l <;> simp
theorem Zk7 {c:Cfg} {s:Sp} {n:Nd} (h1:n.2.1.length<=35184372087808) (h2:n.2.2.1.length<=35184372087808) (h3:n.2.2.2.1.length<=35184372087808) (h4:n.2.2.2.2.length<=35184372087808) {k:Nat} (hk:n.2.2.2.2.length+100<k):Q72.f k c s n=some (Zev c s n):=by
 unfold Q72.f Zev;rw [show Q95.f k n.2.2.2.2 (c.1,c.2.1,c.2.2.1,c.2.2.2.1,c.2.2.2.2.1,c.2.2.2.2.2.1,c.2.2.2.2.2.2.1,c.2.2.2.2.2.2.2) (s.1,s.2.1,s.2.2)=_ from Zlc (c:=c) (s:=s) (by omega) (by omega),Zla (by omega) (by omega),bS,bS,
  wn (x:=(n.2.1.length:Int)+(n.2.2.1.length:Int)) (n:=n.2.1.length+n.2.2.1.length) (by omega) (by omega),wn (x:=((n.2.1.length+n.2.2.1.length:Nat):Int)+(n.2.2.2.1.length:Int)) (n:=n.2.1.length+n.2.2.1.length+n.2.2.2.1.length) (by omega) (by omega)]
 by_cases e1:n.2.1=[]
 ·by_cases e2:n.2.2.1=[]
  ·by_cases e3:n.2.2.2.1=[]
   ·by_cases e4:c.2.2.2.2.2.1<(n.2.2.2.2.length:Int)
    ·rw [iF (by simp [e1,e2,e3]),iT (dT e4),dF (show ¬ (n.2.2.2.2.length:Int)<=c.2.2.2.2.2.1 by omega)];simp
    ·rw [iF (by simp [e1,e2,e3]),iF (by simpa using e4),dT (show (n.2.2.2.2.length:Int)<=c.2.2.2.2.2.1 by omega),dT e1,dT e2,dT e3];cases Zcb n.2.2.2.2 <;> cases n.2.2.2.2.all (prB c s) <;> rfl
   ·have:=List.length_pos_iff.2 e3;rw [iP,dF e3];simp
  ·have:=List.length_pos_iff.2 e2;rw [iP,dF e2];simp
 ·have:=List.length_pos_iff.2 e1;rw [iP,dF e1];simp
theorem Zkz {c:Cfg} {s:Sp} {n:Nd} (h1:n.2.1.length<=35184372087808) (h2:n.2.2.1.length<=35184372087808) (h3:n.2.2.2.1.length<=35184372087808) (h4:n.2.2.2.2.length<=35184372087808) (hl:∀ x∈n.2.1,0<=x/\x<4294967296):Ev (fun k=>Q68.f k c s n) (Zit c s n):=by
 have hk:=Ztf (c:=c) h1 hl;have hbig:Ev (fun k=>if n.2.2.1.length+n.2.2.2.1.length+n.2.2.2.2.length+10000<k then some () else none) ():=⟨n.2.2.1.length+n.2.2.2.1.length+n.2.2.2.2.length+10000+1,fun k hk=>iO⟩
 refine hk.next2 hbig fun k k1 k2=>?_;have k2:n.2.2.1.length+n.2.2.2.1.length+n.2.2.2.2.length+10000<k:=by
  by_cases z:n.2.2.1.length+n.2.2.2.1.length+n.2.2.2.2.length+10000<k
  ·exact z
  ·rw [iF z] at k2; cases k2
 unfold Q68.f Zit Zha Zhe;rw [show Q71.f k (c.1,c.2.1,c.2.2.1,c.2.2.2.1,c.2.2.2.2.1,c.2.2.2.2.2.1,c.2.2.2.2.2.2.1,c.2.2.2.2.2.2.2) n.2.1=_ from k1,show Q94.f k n.2.2.2.1 (c.1,c.2.1,c.2.2.1,c.2.2.2.1,c.2.2.2.2.1,c.2.2.2.2.2.1,c.2.2.2.2.2.2.1,c.2.2.2.2.2.2.2) (s.1,s.2.1,s.2.2)=_ from Zlh (c:=c) (s:=s) (by omega) (by omega),
  show Q98.f k n.2.2.1 (c.1,c.2.1,c.2.2.1,c.2.2.2.1,c.2.2.2.2.1,c.2.2.2.2.2.1,c.2.2.2.2.2.2.1,c.2.2.2.2.2.2.2)=_ from Zk1 (c:=c) (by omega) (by omega),show Q57.f k n.2.2.1 (s.1,s.2.1,s.2.2)=_ from Znr s h2 (by omega),Zmk (by omega) (by omega)]
 simp only [bS,Zcp];have y1:decide (40<n.1)=!decide (n.1<=40):=by by_cases q:n.1<=40 <;> simp [q] <;> omega
 have y3:decide (c.2.2.2.2.1<(n.2.2.2.1.length:Int))=!decide ((n.2.2.2.1.length:Int)<=c.2.2.2.2.1):=by by_cases q:(n.2.2.2.1.length:Int)<=c.2.2.2.2.1 <;> simp [q] <;> omega
 have y4:(1<=n.2.1.length)->decide ((n.2.2.1.length:Int)=w64 ((n.2.1.length:Int) - 1))=decide (n.2.2.1.length+1=n.2.1.length):=fun z=>by
  rw [wn (x:=(n.2.1.length:Int) - 1) (n:=n.2.1.length - 1) (by omega) (by omega)];congr 1;exact propext (by omega)
 rw [y1,y3,Ztx];by_cases z:1<=n.2.1.length
 ·rw [y4 z,dT z];cases decide (n.1<=40) <;> cases decide (n.2.2.2.2=[]) <;> cases decide ((n.2.1.length:Int)<=c.2.2.2.1) <;> cases (List.range' 0 n.2.1.length).all (Zas c n.2.1) <;> cases decide (n.2.2.1.length+1=n.2.1.length) <;> cases (n.2.2.1.all (piv s) && W7 n.2.2.1) <;> cases n.2.2.1.all (Xh c) <;> cases decide ((n.2.2.2.1.length:Int)<=c.2.2.2.2.1) <;> cases Zci n.2.2.2.1 <;> cases n.2.2.2.1.all (Zb5 c s) <;> rfl
 ·rw [dF z];cases decide (n.1<=40) <;> cases decide (n.2.2.2.2=[]) <;> simp
def Xc (c:Cfg) (s:Sp) (n:Nd):Bool:=if n.1=0 then Zev c s n else decide (0<n.1) && Zit c s n
theorem Zdz {c:Cfg} {s:Sp} {n:Nd} (h1:n.2.1.length<=35184372087808) (h2:n.2.2.1.length<=35184372087808) (h3:n.2.2.2.1.length<=35184372087808) (h4:n.2.2.2.2.length<=35184372087808) (hl:∀ x∈n.2.1,0<=x/\x<4294967296):Ev (fun k=>Q67.f k c s n) (Xc c s n):=by
 have hbig:Ev (fun k=>if n.2.2.1.length+n.2.2.2.1.length+n.2.2.2.2.length+10000<k then some () else none) ():=⟨n.2.2.1.length+n.2.2.2.1.length+n.2.2.2.2.length+10000+1,fun k hk=>iO⟩
 refine (Zkz (c:=c) (s:=s) h1 h2 h3 h4 hl).next2 hbig fun k k1 k2=>?_;have k2:n.2.2.1.length+n.2.2.2.1.length+n.2.2.2.2.length+10000<k:=by
  by_cases z:n.2.2.1.length+n.2.2.2.1.length+n.2.2.2.2.length+10000<k
  ·exact z
  ·rw [iF z] at k2; cases k2
 unfold Q67.f Xc;rw [show Q68.f k (c.1,c.2.1,c.2.2.1,c.2.2.2.1,c.2.2.2.2.1,c.2.2.2.2.2.1,c.2.2.2.2.2.2.1,c.2.2.2.2.2.2.2) (s.1,s.2.1,s.2.2) (n.1,n.2.1,n.2.2.1,n.2.2.2.1,n.2.2.2.2)=_ from k1,
  show Q72.f k (c.1,c.2.1,c.2.2.1,c.2.2.2.1,c.2.2.2.2.1,c.2.2.2.2.2.1,c.2.2.2.2.2.2.1,c.2.2.2.2.2.2.2) (s.1,s.2.1,s.2.2) (n.1,n.2.1,n.2.2.1,n.2.2.2.1,n.2.2.2.2)=_ from Zk7 (c:=c) (s:=s) (by omega) (by omega) h3 h4 (by omega),bS,bS]
 by_cases c1:n.1<0
 ·rw [iT (dT c1),iQ,dF (show ¬ 0<n.1 by omega)]; rfl
 ·rw [iF (by simpa using c1)];by_cases c2:n.1=0
  ·rw [iT (dT c2),iT c2]
  ·rw [iF (by simpa using c2),iF c2,dT (show 0<n.1 by omega)]; rfl
def be:Nat->Nat->List UInt8
 | 0,_=>[]
 | w+1,v=>UInt8.ofNat (v / 256 ^ w) :: be w v
theorem Xd:∀ w v,(be w v).length=w
 | 0,_=>rfl
 | w+1,v=>by rw [be,length_cons,Xd w v]
def rdv (l:TX):Nat:=l.foldl (fun a c=>a*256+c.toNat) 0
theorem Zdo:∀(l:TX) (a:Nat),l.foldl (fun a c=>a*256+c.toNat) a=a*256 ^ l.length+rdv l
 | [],a=>by simp [rdv]
 | c :: l,a=>by
  unfold rdv;rw [List.foldl_cons,List.foldl_cons,Zdo l,Zdo l (0*256+c.toNat),length_cons,Nat.pow_succ,Nat.add_mul,Nat.zero_mul,Nat.zero_add];rw [Nat.mul_assoc,Nat.mul_comm 256,Nat.add_assoc]
theorem Zja (c:UInt8) (l:TX):rdv (c :: l)=c.toNat*256 ^ l.length+rdv l:=by
 unfold rdv;rw [List.foldl_cons,Zdo,Nat.zero_mul,Nat.zero_add]; rfl
theorem Zi0:∀ l:List UInt8,rdv l<256 ^ l.length
 | []=>by simp [rdv]
 | c :: l=>by
  have h1:=Zi0 l;have h2:c.toNat<256:=c.toNat_lt;rw [Zja,length_cons,Nat.pow_succ];have:c.toNat*256 ^ l.length<=255*256 ^ l.length:=Nat.mul_le_mul_right _ (by omega);omega
theorem Znl:∀ w v,rdv (be w v)=v % 256 ^ w
 | 0,v=>by simp [be,rdv,Nat.mod_one]
 | w+1,v=>by
  rw [be,Zja,Xd,Znl w v];have e:(UInt8.ofNat (v / 256 ^ w)).toNat=v / 256 ^ w % 256:=by simp
  rw [e,Nat.pow_succ,Nat.mod_mul (a:=256 ^ w) (b:=256),Nat.mul_comm]; omega
theorem Zqq {w v:Nat} (h:v<256 ^ w):rdv (be w v)=v:=by rw [Znl,Nat.mod_eq_of_lt h]
def zs (n:Nat):List UInt8:=List.replicate n 0
theorem Jm (n:Nat):(zs n).length=n:=length_replicate
theorem Jr (a b:Nat):zs a ++ zs b=zs (a+b):=by unfold zs; rw [List.replicate_append_replicate]
def slt (s:TX) (n:Nat):List UInt8:=s ++ zs (n - s.length)
theorem U5 {s:TX} {n:Nat} (h:s.length<=n):(slt s n).length=n:=by unfold slt; rw [lA,Jm]; omega
def prS (K V:Nat) (p:TH):List UInt8:=be 1 p.1.length ++ (be 2 p.2.length ++ (slt p.1 K ++ slt p.2 V))
theorem B6 {K V:Nat} {p:TH} (h1:p.1.length<=K) (h2:p.2.length<=V):(prS K V p).length=3+K+V:=by
 unfold prS;rw [lA,lA,lA,Xd,Xd,U5 h1,U5 h2]; omega
def msS (K V:Nat) (m:TB):List UInt8:=(if m.2.1=true then 2 else 1) :: prS K V (m.1,m.2.2)
theorem Zqz {K V:Nat} {m:TB} (h1:m.1.length<=K) (h2:m.2.2.length<=V):(msS K V m).length=4+K+V:=by
 unfold msS;rw [length_cons,B6 h1 h2]; omega
def pvS (K:Nat) (p:TX):List UInt8:=be 1 p.length ++ slt p K
theorem Ze4 {K:Nat} {p:TX} (h1:p.length<=K):(pvS K p).length=1+K:=by
 unfold pvS;rw [lA,Xd,U5 h1]
def cat {α:Type} (f:α->List UInt8) (l:List α):List UInt8:=l.flatMap f
theorem Bx {α:Type} {f:α->List UInt8} {n:Nat}:∀ {l:List α},(∀ x∈l,(f x).length=n)->(cat f l).length=l.length*n
 | [],_=>by simp [cat]
 | x :: l,h=>by
  have:=Bx (l:=l) fun y hy=>h y (by simp [hy]);unfold cat at this ⊢;rw [List.flatMap_cons,lA,this,h x (by simp),length_cons,Nat.add_mul]; omega
def kdS (x:Int):List UInt8:=be 4 x.toNat
def cBy (c:Cfg):Nat:=c.2.1.toNat
def cFa (c:Cfg):Nat:=c.2.2.2.1.toNat
def cBu (c:Cfg):Nat:=c.2.2.2.2.1.toNat
def cLe (c:Cfg):Nat:=c.2.2.2.2.2.1.toNat
def cK (c:Cfg):Nat:=c.2.2.2.2.2.2.1.toNat
def cV (c:Cfg):Nat:=c.2.2.2.2.2.2.2.toNat
def hdO (n:Nd):List UInt8:=1 :: 0 :: (be 2 n.2.2.2.2.length ++ zs 4)
def hdI (n:Nd):List UInt8:=2 :: (be 1 n.1.toNat ++ (be 2 n.2.1.length ++ (be 2 n.2.2.2.1.length ++ zs 2)))
theorem Zj8 (n:Nd):(hdO n).length=8:=by simp [hdO,Xd,Jm]
theorem Zkd (n:Nd):(hdI n).length=8:=by simp [hdI,Xd,Jm]
def bdO (c:Cfg) (n:Nd):List UInt8:=cat (prS (cK c) (cV c)) n.2.2.2.2
def bdI (c:Cfg) (n:Nd):List UInt8:=cat kdS n.2.1 ++ (zs (4*(cFa c - n.2.1.length)) ++ (cat (pvS (cK c)) n.2.2.1 ++ (zs ((1+cK c)*(cFa c - 1 - n.2.2.1.length)) ++ cat (msS (cK c) (cV c)) n.2.2.2.1)))
def Bu (c:Cfg) (n:Nd):List UInt8:=if n.1=0 then hdO n ++ bdO c n else hdI n ++ bdI c n
def Bl (c:Cfg) (n:Nd):List UInt8:=slt (Bu c n) (cBy c)
structure FitN (c:Cfg) (n:Nd):Prop where
 lv:0<=n.1/\n.1<=40
 kd:∀ x∈n.2.1,0<=x/\x<4294967296
 o:n.1=0->n.2.1=[]/\n.2.2.1=[]/\n.2.2.2.1=[]/\n.2.2.2.2.length<=cLe c
 i:n.1≠0->n.2.2.2.2=[]/\1<=n.2.1.length/\n.2.1.length<=cFa c/\n.2.2.1.length+1=n.2.1.length/\n.2.2.2.1.length<=cBu c
 pk:∀ p∈n.2.2.1,p.length<=cK c
 ms:∀ m∈n.2.2.2.1,m.1.length<=cK c/\m.2.2.length<=cV c
 rk:∀ p∈n.2.2.2.2,p.1.length<=cK c/\p.2.length<=cV c
theorem OkC.nat {c:Cfg} (h:OkC c):8<=cFa c/\cFa c<=64/\1<=cK c/\cK c<=64/\cV c<=256/\16<=cBu c/\cBu c<=512/\cBu c<=cLe c/\cLe c<=1024:=by
 have h1:=h.fan;have h2:=h.key;have h3:=h.val;have h4:=h.buf;have h5:=h.leaf;unfold cFa cK cV cBu cLe;omega
theorem Zp0 {c:Cfg} {n:Nd} (h:FitN c n):(bdO c n).length=n.2.2.2.2.length*(3+cK c+cV c):=Bx fun p hp=>B6 (h.rk p hp).1 (h.rk p hp).2
theorem Zo8 (l:T0):(cat kdS l).length=l.length*4:=Bx fun p hp=>Xd 4 _
theorem Zon {c:Cfg} {n:Nd} (h:FitN c n):(cat (pvS (cK c)) n.2.2.1).length=n.2.2.1.length*(1+cK c):=Bx fun p hp=>Ze4 (h.pk p hp)
theorem Zoy {c:Cfg} {n:Nd} (h:FitN c n):(cat (msS (cK c) (cV c)) n.2.2.2.1).length=n.2.2.2.1.length*(4+cK c+cV c):=Bx fun p hp=>Zqz (h.ms p hp).1 (h.ms p hp).2
theorem Zp6 {c:Cfg} {n:Nd} (h:FitN c n) (h0:n.1≠0):(bdI c n).length=4*cFa c+(1+cK c)*(cFa c - 1)+n.2.2.2.1.length*(4+cK c+cV c):=by
 obtain ⟨_,i2,i3,i4,_⟩:=h.i h0;unfold bdI;rw [lA,lA,lA,lA,Zo8,Jm,Zon h,Jm,Zoy h,Nat.mul_comm n.2.2.1.length];have e:(1+cK c)*n.2.2.1.length+(1+cK c)*(cFa c - 1 - n.2.2.1.length)=(1+cK c)*(cFa c - 1):=by rw [<- Nat.mul_add]; congr 1; omega
 omega
def szB (c:Cfg):Bool:=decide (8<=c.2.2.2.1/\c.2.2.2.1<=64) && (decide (1<=c.2.2.2.2.2.2.1/\c.2.2.2.2.2.2.1<=64) && (decide (0<=c.2.2.2.2.2.2.2/\c.2.2.2.2.2.2.2<=256) && (decide (2*c.2.2.2.1<=c.2.2.2.2.1/\c.2.2.2.2.1<=512) && decide (c.2.2.2.2.1<=c.2.2.2.2.2.1/\c.2.2.2.2.2.1<=1024))))
theorem B4 {c:Cfg} (h:szB c=true):OkC c:=by
 simp only [szB,Bool.and_eq_true,dE] at h;exact ⟨h.1,h.2.1,h.2.2.1,by omega,h.2.2.2.2⟩
def Jx (c:Cfg):Int:=8+(4+(c.2.2.2.1 - 1)*(5+c.2.2.2.2.2.2.1)+c.2.2.2.2.1*(4+c.2.2.2.2.2.2.1+c.2.2.2.2.2.2.2))
def Gp (c:Cfg):Int:=8+c.2.2.2.2.2.1*(3+c.2.2.2.2.2.2.1+c.2.2.2.2.2.2.2)
def okB (c:Cfg):Bool:=szB c && (decide (5<=c.1/\c.1<=65536) && (decide (8<=c.2.2.1/\c.2.2.1<=64) && (decide (64<=c.2.1/\c.2.1<=65536) && (decide (Jx c<=c.2.1) && decide (Gp c<=c.2.1)))))
theorem Zl8 (a b c:Int):Q138.f a b c=some (decide (b<=a/\a<=c)):=by
 unfold Q138.f;by_cases h:b<=a <;> simp [h]
theorem Zbv (c:Cfg):Q137.f c=some (szB c):=by
 unfold Q137.f szB;simp only [Zl8,bS];by_cases h1:8<=c.2.2.2.1/\c.2.2.2.1<=64
 ·have w:w64 (2*c.2.2.2.1)=2*c.2.2.2.1:=wI2;rw [w,dT h1];cases decide (1<=c.2.2.2.2.2.2.1/\c.2.2.2.2.2.2.1<=64) <;> cases decide (0<=c.2.2.2.2.2.2.2/\c.2.2.2.2.2.2.2<=256) <;> cases decide (2*c.2.2.2.1<=c.2.2.2.2.1/\c.2.2.2.2.1<=512) <;> rfl
 ·rw [dF h1]; rfl
theorem Zj3 {c:Cfg} (hc:OkC c):∀(m i k:Nat) (x:Int),c.2.2.2.2.1=(i:Int)+m->m<k->0<=x->x+m*324<=1000000000->Q134.l1 k c x (i:Int)=some (x+m*(4+c.2.2.2.2.2.2.1+c.2.2.2.2.2.2.2))
 | 0,i,k+1,x,h,_,_,_=>by
  rw [Q134.l1,iN]; simp
 | m+1,i,k+1,x,h,hk,h0,h1=>by
  have a1:=hc.key;have a2:=hc.val;have hb:=hc.buf;rw [Q134.l1,iP,wI2 (x:=x+4),wI2 (x:=x+4+c.2.2.2.2.2.2.1),wI2 (x:=x+4+c.2.2.2.2.2.2.1+c.2.2.2.2.2.2.2),wS2,Zj3 hc m (i+1) k _ (by omega) (by omega) (by omega) (by omega)];congr 1;rw [show ((m+1:Nat):Int)=(m:Int)+1 by omega,Int.add_mul]; omega
theorem Zkl {c:Cfg} (hc:OkC c):∀(m i k:Nat) (x:Int),1<=i->c.2.2.2.1=(i:Int)+m->m+600<k->0<=x->x+m*69<=100000->Q134.l0 k c x (i:Int)=some (x+m*(5+c.2.2.2.2.2.2.1)+c.2.2.2.2.1*(4+c.2.2.2.2.2.2.1+c.2.2.2.2.2.2.2))
 | 0,i,k+1,x,h2,h,hk,h0,h1=>by
  have hb:=hc.buf;obtain ⟨B,hB⟩:=Int.eq_ofNat_of_zero_le (show 0<=c.2.2.2.2.1 by omega);rw [Q134.l0,iN,show Q134.l1 k c x 0=_ from Zj3 hc B 0 k x (by rw [hB]; simp) (by omega) h0 (by omega),hB]; simp
 | m+1,i,k+1,x,h2,h,hk,h0,h1=>by
  have a1:=hc.key;have hb:=hc.fan;rw [Q134.l0,iP,iP,wI2 (x:=x+4),wI2 (x:=x+4+1),wI2 (x:=x+4+1+c.2.2.2.2.2.2.1),wS2,Zkl hc m (i+1) k _ (by omega) (by omega) (by omega) (by omega) (by omega)];congr 1;rw [show ((m+1:Nat):Int)=(m:Int)+1 by omega,Int.add_mul]; omega
theorem Zql {c:Cfg} (h:szB c=true) {k:Nat} (hk:1000<k):Q134.f k c=some (Jx c):=by
 have hc:=B4 h;have hf:=hc.fan;obtain ⟨F,hF⟩:=Int.eq_ofNat_of_zero_le (show 0<=c.2.2.2.1 by omega);obtain ⟨k,rfl⟩:∃ q,k=q+1:=⟨k - 1,by omega⟩;unfold Q134.f;rw [show Q137.f (c.1,c.2.1,c.2.2.1,c.2.2.2.1,c.2.2.2.2.1,c.2.2.2.2.2.1,c.2.2.2.2.2.2.1,c.2.2.2.2.2.2.2)=_ from Zbv c,h,bS,vS,Q134.l0,iP,vS,show w64 (8+4)=12 from rfl,show w64 (0+1)=((1:Nat):Int) from rfl,Zkl hc (F - 1) 1 k 12 (Nat.le_refl _) (by omega) (by omega) (by omega) (by omega),show ((F - 1:Nat):Int)=c.2.2.2.1 - 1 by omega];unfold Jx;congr 1; omega
theorem Zkp {c:Cfg} (hc:OkC c):∀(m i k:Nat) (x:Int),c.2.2.2.2.2.1=(i:Int)+m->m<k->0<=x->x+m*324<=1000000000->Q135.l0 k c x (i:Int)=some (x+m*(3+c.2.2.2.2.2.2.1+c.2.2.2.2.2.2.2))
 | 0,i,k+1,x,h,_,_,_=>by
  rw [Q135.l0,iN]; simp
 | m+1,i,k+1,x,h,hk,h0,h1=>by
  have a1:=hc.key;have a2:=hc.val;have hb:=hc.leaf;rw [Q135.l0,iP,wI2 (x:=x+3),wI2 (x:=x+3+c.2.2.2.2.2.2.1),wI2 (x:=x+3+c.2.2.2.2.2.2.1+c.2.2.2.2.2.2.2),wS2,Zkp hc m (i+1) k _ (by omega) (by omega) (by omega) (by omega)];congr 1;rw [show ((m+1:Nat):Int)=(m:Int)+1 by omega,Int.add_mul]; omega
theorem Zqg {c:Cfg} (h:szB c=true) {k:Nat} (hk:2000<k):Q135.f k c=some (Gp c):=by
 have hc:=B4 h;have hf:=hc.leaf;have hb:=hc.buf;obtain ⟨L,hL⟩:=Int.eq_ofNat_of_zero_le (show 0<=c.2.2.2.2.2.1 by omega);unfold Q135.f;rw [show Q137.f (c.1,c.2.1,c.2.2.1,c.2.2.2.1,c.2.2.2.2.1,c.2.2.2.2.2.1,c.2.2.2.2.2.2.1,c.2.2.2.2.2.2.2)=_ from Zbv c,h,bS,vS,show Q135.l0 k c 8 0=_ from Zkp hc L 0 k 8 (by omega) (by omega) (by omega) (by omega),<- hL];rfl
theorem Zbb (c:Cfg) {k:Nat} (hk:2000<k):Q136.f k c=some (okB c):=by
 unfold Q136.f okB;rw [show Q137.f (c.1,c.2.1,c.2.2.1,c.2.2.2.1,c.2.2.2.2.1,c.2.2.2.2.2.1,c.2.2.2.2.2.2.1,c.2.2.2.2.2.2.2)=_ from Zbv c,bS];cases h:szB c with
 | false=>rfl
 | true=>
  rw [iT rfl,show Q134.f k (c.1,c.2.1,c.2.2.1,c.2.2.2.1,c.2.2.2.2.1,c.2.2.2.2.2.1,c.2.2.2.2.2.2.1,c.2.2.2.2.2.2.2)=_ from Zql h (by omega),show Q135.f k (c.1,c.2.1,c.2.2.1,c.2.2.2.1,c.2.2.2.2.1,c.2.2.2.2.2.1,c.2.2.2.2.2.2.1,c.2.2.2.2.2.2.2)=_ from Zqg h hk];simp only [Zl8,bS];cases decide (5<=c.1/\c.1<=65536) <;> cases decide (8<=c.2.2.1/\c.2.2.1<=64) <;> cases decide (64<=c.2.1/\c.2.1<=65536) <;> cases decide (Jx c<=c.2.1) <;> rfl
abbrev V2:Sp:=([],[],true)
theorem Zek (c:Cfg):Q50.f c=some (szB c):=by
 unfold Q50.f szB;by_cases h1:8<=c.2.2.2.1/\c.2.2.2.1<=64
 ·have w:w64 (2*c.2.2.2.1)=2*c.2.2.2.1:=wI2;rw [w,iN,iN,dT h1];by_cases h2:1<=c.2.2.2.2.2.2.1/\c.2.2.2.2.2.2.1<=64
  ·by_cases h3:0<=c.2.2.2.2.2.2.2/\c.2.2.2.2.2.2.2<=256
   ·by_cases h4:2*c.2.2.2.1<=c.2.2.2.2.1/\c.2.2.2.2.1<=512
    ·by_cases h5:c.2.2.2.2.1<=c.2.2.2.2.2.1/\c.2.2.2.2.2.1<=1024
     ·rw [iN,iN,iN,iN,iN,iN,iN,iN,dT h2,dT h3,dT h4,dT h5];rfl
     ·rw [iN,iN,dF h5];simp only [Bool.and_false];by_cases q:c.2.2.2.2.2.1<c.2.2.2.2.1
      ·rw [iT (dT q)]
      ·rw [iF (by simpa using q),iP]
    ·rw [dF h4];simp only [Bool.false_and,Bool.and_false];by_cases q:c.2.2.2.2.1<2*c.2.2.2.1
     ·rw [iT (dT q)]
     ·rw [iF (by simpa using q),iP]
   ·rw [dF h3];simp only [Bool.false_and,Bool.and_false]
    repeat' split
    all_goals first | rfl | (simp only [dE] at *; omega)
  ·rw [dF h2];simp only [Bool.false_and,Bool.and_false]
   repeat' split
   all_goals first | rfl | (simp only [dE] at *; omega)
 ·rw [dF h1];simp only [Bool.false_and];by_cases q:c.2.2.2.1<8
  ·rw [iT (dT q)]
  ·rw [iF (by simpa using q),iP]
theorem Gl (c:Cfg):(c.1,c.2.1,c.2.2.1,c.2.2.2.1,c.2.2.2.2.1,c.2.2.2.2.2.1,c.2.2.2.2.2.2.1,c.2.2.2.2.2.2.2)=c:=rfl
theorem Ztv (n:Nd):(n.1,n.2.1,n.2.2.1,n.2.2.2.1,n.2.2.2.2)=n:=rfl
theorem Zt6 {c:Cfg} (h:szB c=true):Q47.f c=some (Jx c)/\8<=Jx c/\Jx c<=200000:=by
 have hc:=B4 h;have a1:=hc.fan;have a2:=hc.key;have a3:=hc.val;have a4:=hc.buf;have p0:0<=(c.2.2.2.1 - 1)*(1+c.2.2.2.2.2.2.1):=Int.mul_nonneg (by omega) (by omega);have p1:(c.2.2.2.1 - 1)*(1+c.2.2.2.2.2.2.1)<=63*65:=Int.mul_le_mul (by omega) (by omega) (by omega) (by omega);have q0:0<=c.2.2.2.2.1*(4+c.2.2.2.2.2.2.1+c.2.2.2.2.2.2.2):=Int.mul_nonneg (by omega) (by omega);have q1:c.2.2.2.2.1*(4+c.2.2.2.2.2.2.1+c.2.2.2.2.2.2.2)<=512*324:=Int.mul_le_mul (by omega) (by omega) (by omega) (by omega);have e:Jx c=8+4*c.2.2.2.1+(c.2.2.2.1 - 1)*(1+c.2.2.2.2.2.2.1)+c.2.2.2.2.1*(4+c.2.2.2.2.2.2.1+c.2.2.2.2.2.2.2):=by
  unfold Jx;rw [show 5+c.2.2.2.2.2.2.1=4+(1+c.2.2.2.2.2.2.1) by omega,Int.mul_add]; omega
 refine ⟨?_,by omega,by omega⟩;unfold Q47.f
 (try rw [Gl]); rw [Zek,h,bS,vS,wI2 (x:=4*c.2.2.2.1),wI2 (x:=8+4*c.2.2.2.1),wI2 (x:=c.2.2.2.1 - 1),wI2 (x:=1+c.2.2.2.2.2.2.1),wI2 (x:=4+c.2.2.2.2.2.2.1),wI2 (x:=4+c.2.2.2.2.2.2.1+c.2.2.2.2.2.2.2),
  wI2 (x:=(c.2.2.2.1 - 1)*(1+c.2.2.2.2.2.2.1)),wI2 (x:=c.2.2.2.2.1*(4+c.2.2.2.2.2.2.1+c.2.2.2.2.2.2.2)),wI2 (x:=8+4*c.2.2.2.1+(c.2.2.2.1 - 1)*(1+c.2.2.2.2.2.2.1)),wI2,e]
theorem Ztw {c:Cfg} (h:szB c=true):Q49.f c=some (Gp c)/\8<=Gp c/\Gp c<=400000:=by
 have hc:=B4 h;have a2:=hc.key;have a3:=hc.val;have a4:=hc.buf;have a5:=hc.leaf;have q0:0<=c.2.2.2.2.2.1*(3+c.2.2.2.2.2.2.1+c.2.2.2.2.2.2.2):=Int.mul_nonneg (by omega) (by omega);have q1:c.2.2.2.2.2.1*(3+c.2.2.2.2.2.2.1+c.2.2.2.2.2.2.2)<=1024*323:=Int.mul_le_mul (by omega) (by omega) (by omega) (by omega);refine ⟨?_,by unfold Gp; omega,by unfold Gp; omega⟩;unfold Q49.f Gp
 (try rw [Gl]); rw [Zek,h,bS,vS,wI2 (x:=3+c.2.2.2.2.2.2.1),wI2 (x:=3+c.2.2.2.2.2.2.1+c.2.2.2.2.2.2.2),wI2 (x:=c.2.2.2.2.2.1*(3+c.2.2.2.2.2.2.1+c.2.2.2.2.2.2.2)),wI2]
theorem B5 (c:Cfg):Q46.f c=some (if okB c=true then 0 else 2):=by
 unfold Q46.f okB
 (try rw [Gl]); rw [Zek,bS]
 cases h:szB c with
 | false=>rfl
 | true=>
  obtain ⟨i1,i2,i3⟩:=Zt6 h;obtain ⟨o1,o2,o3⟩:=Ztw h;rw [iT rfl];by_cases a1:5<=c.1/\c.1<=65536
  ·rw [iT (dT a1.1),iT (dT a1.2),dT a1];by_cases a2:8<=c.2.2.1/\c.2.2.1<=64
   ·rw [iT (dT a2.1),iF (by simp [a2.2]),dT a2];by_cases a3:65536<c.2.1
    ·rw [iT (dT a3),dF (show ¬ (64<=c.2.1/\c.2.1<=65536) by omega)]; rfl
    ·rw [iF (by simpa using a3)];unfold Q48.f
     (try rw [Gl]); rw [Zek,h,bS,iT rfl,i1,o1,bS,bS,bS]
     dsimp only;generalize Jx c=I at *;generalize Gp c=O at *;by_cases b1:c.2.1<64
     ·rw [iT (dT (by split <;> split <;> omega)),dF (show ¬ (64<=c.2.1/\c.2.1<=65536) by omega)]; rfl
     ·rw [dT (show 64<=c.2.1/\c.2.1<=65536 by omega)];by_cases b2:I<=c.2.1
      ·rw [dT b2];by_cases b3:O<=c.2.1
       ·rw [dT b3,iF (by simp only [dE]; split <;> split <;> omega)]; rfl
       ·rw [dF b3,iT (dT (by split <;> split <;> omega))]; rfl
      ·rw [dF b2,iT (dT (by split <;> split <;> omega))]; rfl
   ·rw [dF a2];by_cases q:8<=c.2.2.1
    ·rw [iT (dT q),iV]; rfl
    ·rw [iF (by simpa using q)]; rfl
  ·rw [dF a1];by_cases q:5<=c.1
   ·rw [iT (dT q),iN]; rfl
   ·rw [iF (by simpa using q)]; rfl
theorem Wd (a b:TX):toB (a ++ b)=toB a ++ toB b:=by simp [toB]
theorem Z3 (a:TX):(toB a).length=a.length:=by simp [toB]
theorem Zhy (n:Nat):toB (zs n)=List.replicate n 0:=by simp [toB,zs]
theorem Zb9 (a:TX):toS (toB a)=a:=by
 unfold toS toB;rw [List.map_map]
 conv=>rhs; rw [<- List.map_id a]
 apply List.map_congr_left;intro x _;simp
theorem Zs2 (n:Nat):uH.wrap (n:Int)=((n % 18446744073709551616:Nat):Int):=by
 simp [IntKind.wrap,IntKind.bits,IntKind.signed]
theorem V0 {n:Nat} (h:n<18446744073709551616:=by omega):uH.wrap (n:Int)=(n:Int):=by rw [Zs2,Nat.mod_eq_of_lt h]
theorem Zta (v i:Nat) (hi:i<8):uA.wrap (Int.fdiv (v:Int) (2 ^ (min (w64 (8*(i:Int))).toNat 64)))=((UInt8.ofNat (v / 256 ^ i)).toNat:Int):=by
 have e1:w64 (8*(i:Int))=((8*i:Nat):Int):=by rw [wI2]; omega
 rw [e1,tN,show min (8*i) 64=8*i by omega,Int.fdiv_eq_ediv_of_nonneg _ (by exact_mod_cast Nat.zero_le _)];have e2:((v:Int) / 2 ^ (8*i))=((v / 256 ^ i:Nat):Int):=by
  rw [show (256:Nat)=2 ^ 8 from rfl,<- Nat.pow_mul]
  push_cast
  rfl
 rw [e2];simp [IntKind.wrap,IntKind.bits,IntKind.signed]
theorem Zml (v:Nat):∀(i:Nat) (x:T0) (k:Nat),i<=8->i<k->x.length+i<=1000->Q159.l0 k (v:Int) x ((i:Int) - 1)=some (x ++ toB (be i v))
 | 0,x,k+1,_,_,_=>by
  rw [Q159.l0,vS];simp [be,toB]
 | i+1,x,k+1,hi,hk,hx=>by
  have e:((i+1:Nat):Int) - 1=(i:Int):=by omega
  rw [e,Q159.l0,iP,iT (by rw [wI2]; omega),iT (by simp only [List.length_singleton]; omega),Zta v i (by omega),wI2 (x:=(i:Int) - 1),Zml v i _ k (by omega) (by omega) (by simp; omega)];simp [be,toB]
theorem U9 {a:T0} {w v:Nat} (hw:w=1\/w=2\/w=4) (ha:a.length<=10000000) {k:Nat} (hk:10<k):Q38.f k a (w:Int) (v:Int)=some (a ++ toB (be w v)):=by
 have h0:Q159.f k ([]:List Int) (w:Int) (v:Int)=some (toB (be w v)):=by
  unfold Q159.f Q90.f Q168.f;rw [iU,bS];have hr:(if (decide ((w:Int)=1))=true then (some true) else (if (decide ((w:Int)=2))=true then (some true) else (if (decide ((w:Int)=4))=true then (some true) else (some (decide ((w:Int)=8))))))=some true:=by
   rcases hw with rfl | rfl | rfl <;> rfl
  rw [hr,bS,vS,wI2];have:=Zml v w ([] ++ []) k (by omega) (by omega) (by simp; omega);simpa using this
 unfold Q38.f;rw [h0,bS,iT (by rw [Z3,Xd]; omega)]
theorem Zhg {a:T0} {s:TX} {n:Nat} (ha:a.length<=10000000) (hs:s.length<=n) (hn:n<=100000):Q43.f a s (n:Int)=some (a ++ toB (slt s n)):=by
 have e:w64 ((n:Int) - (s.length:Int))=((n - s.length:Nat):Int):=by rw [wI2]; omega
 unfold Q43.f;rw [iO,e,iT (by rw [lA,Z3]; omega),tN];unfold slt;rw [Wd,Zhy,append_assoc]
structure NatC (c:Cfg):Prop where
 f:c.2.2.2.1=(cFa c:Int)
 k:c.2.2.2.2.2.2.1=(cK c:Int)
 v:c.2.2.2.2.2.2.2=(cV c:Int)
 b:c.2.2.2.2.1=(cBu c:Int)
 l:c.2.2.2.2.2.1=(cLe c:Int)
theorem OkC.int {c:Cfg} (h:OkC c):NatC c:=by
 have h1:=h.fan;have h2:=h.key;have h3:=h.val;have h4:=h.buf;have h5:=h.leaf;constructor <;> simp only [cFa,cK,cV,cBu,cLe] <;> omega
theorem Zlp {c:Cfg} (hc:OkC c) {a:T0} {x y:TX} (ha:a.length<=9000000) (hx:x.length<=cK c) (hy:y.length<=cV c) {k:Nat} (hk:10<k):Q39.f k c a x y=some (a ++ toB (prS (cK c) (cV c) (x,y))):=by
 obtain ⟨c1,c2,c3,c4,c5,c6,c7,c8,c9⟩:=hc.nat
 unfold Q39.f;rw [V0,V0,show Q38.f k a 1 (x.length:Int)=_ from U9 (w:=1) (.inl rfl) (by omega) hk,bS,show Q38.f k (a ++ toB (be 1 x.length)) 2 (y.length:Int)=_ from U9 (w:=2) (.inr (.inl rfl)) (by rw [lA,Z3,Xd]; omega) hk,bS,
  hc.int.k,Zhg (by rw [lA,lA,Z3,Z3,Xd,Xd]; omega) hx (by omega),bS,hc.int.v,Zhg (by rw [lA,lA,lA,Z3,Z3,Z3,Xd,Xd,U5 hx]; omega) hy (by omega),bS]
 unfold prS;simp only [Wd,append_assoc]
theorem Zmd {a b d e:Nat} (ha:a<256) (hb:b<256) (hd:d<65536) (he:e<65536) {k:Nat} (hk:10<k):Q37.f k (a:Int) (b:Int) (d:Int) (e:Int)=some (toB (be 1 a ++ (be 1 b ++ (be 2 d ++ (be 2 e ++ zs 2))))):=by
 unfold Q37.f;rw [V0,V0,V0,V0,show Q38.f k ([]:List Int) 1 (a:Int)=_ from U9 (w:=1) (.inl rfl) (by simp) hk,bS,show Q38.f k _ 1 (b:Int)=_ from U9 (w:=1) (.inl rfl) (by simp [Z3,Xd]) hk,bS,
  show Q38.f k _ 2 (d:Int)=_ from U9 (w:=2) (.inr (.inl rfl)) (by simp [Z3,Xd]) hk,bS,show Q38.f k _ 2 (e:Int)=_ from U9 (w:=2) (.inr (.inl rfl)) (by simp [Z3,Xd]) hk,bS,show Q38.f k _ 2 0=_ from U9 (w:=2) (v:=0) (.inr (.inl rfl)) (by simp [Z3,Xd]) hk,bS]
 have z:be 2 0=zs 2:=by decide
 rw [z];simp only [Wd,append_assoc,List.nil_append]
theorem Zaw {α:Type} (f:α->List UInt8) (x:α) (l:List α):cat f (x :: l)=f x ++ cat f l:=by unfold cat; rw [List.flatMap_cons]
theorem Zfr {c:Cfg} {n:Nd} (hc:OkC c) (hr:∀ p∈n.2.2.2.2,p.1.length<=cK c/\p.2.length<=cV c) (hl:n.2.2.2.2.length<=2000):∀(m i k:Nat) (x:T0),n.2.2.2.2.length=i+m->m+20<k->x.length+m*400<=9000000->Q45.l0 k c n x (i:Int)=some (x ++ toB (cat (prS (cK c) (cV c)) (n.2.2.2.2.drop i)))
 | 0,i,k+1,x,h,hk,hx=>by
  rw [Q45.l0,iN,dN];simp [cat,toB]
 | m+1,i,k+1,x,h,hk,hx=>by
  obtain ⟨c1,c2,c3,c4,c5,c6,c7,c8,c9⟩:=hc.nat
  have hi:i<n.2.2.2.2.length:=by omega
  have hp:=hr _ (Xl (d:=default) hi);rw [Q45.l0,iP,iO,Zw]; (try rw [Gl]); rw [Zlp hc (by omega) hp.1 hp.2 (by omega),bS,wS2,Zfr hc hr hl m (i+1) k _ (by omega) (by omega) (by rw [lA,Z3,B6 hp.1 hp.2]; omega),Yv hi,Zaw,Wd,append_assoc]
theorem Zqo {c:Cfg} {n:Nd} (hc:OkC c) (hr:∀ p∈n.2.2.2.2,p.1.length<=cK c/\p.2.length<=cV c) (hl:n.2.2.2.2.length<=2000) {k:Nat} (hk:3000<k):Q45.f k c n=some (toB (hdO n ++ bdO c n)):=by
 have e:be 1 1 ++ (be 1 0 ++ (be 2 n.2.2.2.2.length ++ (be 2 0 ++ zs 2)))=hdO n:=by
  unfold hdO;rw [show be 2 0=zs 2 by decide,Jr]; rfl
 unfold Q45.f;rw [show Q37.f k 1 0 (n.2.2.2.2.length:Int) 0=_ from Zmd (a:=1) (b:=0) (e:=0) (by omega) (by omega) (by omega) (by omega) (by omega),bS,e,show Q45.l0 k c n (toB (hdO n)) 0=_ from Zfr hc hr hl n.2.2.2.2.length 0 k _ (by omega) (by omega) (by rw [Z3,Zj8]; omega),List.drop_zero,<- Wd];rfl
theorem Zbx {c:Cfg} {n:Nd} (hc:OkC c) (hr:∀ m∈n.2.2.2.1,m.1.length<=cK c/\m.2.2.length<=cV c) (hl:n.2.2.2.1.length<=2000):∀(m i k:Nat) (x:T0),n.2.2.2.1.length=i+m->m+20<k->x.length+m*400<=8000000->Q44.l2 k c n x (i:Int)=some (x ++ toB (cat (msS (cK c) (cV c)) (n.2.2.2.1.drop i)))
 | 0,i,k+1,x,h,hk,hx=>by
  rw [Q44.l2,iN,dN];simp [cat,toB]
 | m+1,i,k+1,x,h,hk,hx=>by
  obtain ⟨c1,c2,c3,c4,c5,c6,c7,c8,c9⟩:=hc.nat
  have hi:i<n.2.2.2.1.length:=by omega
  have hp:=hr _ (Xl (d:=default) hi);rw [Q44.l2,iP,iO,Zw]; (try rw [Gl]); rw [show Q38.f k x 1 2=_ from U9 (w:=1) (v:=2) (.inl rfl) (by omega) (by omega),show Q38.f k x 1 1=_ from U9 (w:=1) (v:=1) (.inl rfl) (by omega) (by omega),bS,bS,
   Zlp hc (by rw [lA,Z3,Xd]; omega) hp.1 hp.2 (by omega),Zlp hc (by rw [lA,Z3,Xd]; omega) hp.1 hp.2 (by omega),bS,bS,wS2,
   Zbx hc hr hl m (i+1) k _ (by omega) (by omega) (by rw [lA,lA,Z3,Z3,Xd,B6 hp.1 hp.2]; omega),Zbx hc hr hl m (i+1) k _ (by omega) (by omega) (by rw [lA,lA,Z3,Z3,Xd,B6 hp.1 hp.2]; omega),Yv hi,Zaw]
  unfold msS;cases (n.2.2.2.1.getD i default).2.1
  ·rw [vS,vS,show be 1 1=[1] by decide,Wd,append_assoc,append_assoc]; rfl
  ·rw [iT rfl,iT rfl,show be 1 2=[2] by decide,Wd,append_assoc,append_assoc]; rfl
theorem Zp3 (K:Nat):pvS K []=zs (1+K):=by
 unfold pvS slt;rw [show be 1 ([]:List UInt8).length=zs 1 by decide,List.nil_append,Jr]; rfl
theorem Zed {c:Cfg} {n:Nd} (hc:OkC c) (hr:∀ m∈n.2.2.2.1,m.1.length<=cK c/\m.2.2.length<=cV c) (hl:n.2.2.2.1.length<=2000):∀(m i k:Nat) (x:T0),cFa c - 1=i+m->n.2.2.1.length<=i->m+2100<k->x.length+m*400<=7000000->Q44.l1 k c n x (i:Int)=some (x ++ toB (zs ((1+cK c)*m) ++ cat (msS (cK c) (cV c)) n.2.2.2.1))
 | 0,i,k+1,x,h,hz,hk,hx=>by
  replace hx:x.length<=7000000:=by simpa using hx
  obtain ⟨c1,c2,c3,c4,c5,c6,c7,c8,c9⟩:=hc.nat
  have e:w64 (c.2.2.2.1 - 1)=((cFa c - 1:Nat):Int):=by rw [hc.int.f,wI2]; omega
  rw [Q44.l1,e,iN,show Q44.l2 k c n x 0=_ from Zbx hc hr hl n.2.2.2.1.length 0 k x (by omega) (by omega) (by omega),List.drop_zero];simp [zs]
 | m+1,i,k+1,x,h,hz,hk,hx=>by
  obtain ⟨c1,c2,c3,c4,c5,c6,c7,c8,c9⟩:=hc.nat
  have e:w64 (c.2.2.2.1 - 1)=((cFa c - 1:Nat):Int):=by rw [hc.int.f,wI2]; omega
  have hp:(pvS (cK c) []).length=1+cK c:=Ze4 (Nat.zero_le _);rw [Q44.l1,e,iP,iN,show uH.wrap ((([]:List UInt8).length:Nat):Int)=((0:Nat):Int) from rfl,show Q38.f k x 1 ((0:Nat):Int)=_ from U9 (w:=1) (.inl rfl) (by omega) (by omega),bS,hc.int.k,Zhg (by rw [lA,Z3,Xd]; omega) (Nat.zero_le _) (by omega),bS,wS2];have e2:(x ++ toB (be 1 0)) ++ toB (slt [] (cK c))=x ++ toB (zs (1+cK c)):=by
   rw [append_assoc,<- Wd,<- Zp3]; rfl
  rw [e2,Zed hc hr hl m (i+1) k _ (by omega) (by omega) (by omega) (by rw [lA,Z3,Jm]; omega),append_assoc,<- Wd,<- append_assoc (zs (1+cK c)),Jr,show 1+cK c+(1+cK c)*m=(1+cK c)*(m+1) by rw [Nat.mul_add]; omega]
theorem Zgv {c:Cfg} {n:Nd} (hc:OkC c) (hp:∀ p∈n.2.2.1,p.length<=cK c) (hpl:n.2.2.1.length<=cFa c - 1) (hr:∀ m∈n.2.2.2.1,m.1.length<=cK c/\m.2.2.length<=cV c) (hl:n.2.2.2.1.length<=2000):∀(m i k:Nat) (x:T0),n.2.2.1.length=i+m->m+2300<k->x.length+m*400<=6000000->Q44.l1 k c n x (i:Int)=some (x ++ toB (cat (pvS (cK c)) (n.2.2.1.drop i) ++ (zs ((1+cK c)*(cFa c - 1 - n.2.2.1.length)) ++ cat (msS (cK c) (cV c)) n.2.2.2.1)))
 | 0,i,k,x,h,hk,hx=>by
  replace hx:x.length<=6000000:=by simpa using hx
  obtain ⟨c1,c2,c3,c4,c5,c6,c7,c8,c9⟩:=hc.nat
  rw [Zed hc hr hl (cFa c - 1 - n.2.2.1.length) i k x (by omega) (by omega) (by omega) (by omega),dN];simp [cat]
 | m+1,i,k+1,x,h,hk,hx=>by
  obtain ⟨c1,c2,c3,c4,c5,c6,c7,c8,c9⟩:=hc.nat
  have hi:i<n.2.2.1.length:=by omega
  have hpi:=hp _ (Xl (d:=default) hi);have e:w64 (c.2.2.2.1 - 1)=((cFa c - 1:Nat):Int):=by rw [hc.int.f,wI2]; omega
  rw [Q44.l1,e,iP,iP,iO,Zw,V0,show Q38.f k x 1 (((n.2.2.1.getD i default).length:Nat):Int)=_ from U9 (w:=1) (.inl rfl) (by omega) (by omega),bS,hc.int.k,Zhg (by rw [lA,Z3,Xd]; omega) hpi (by omega),bS,wS2];have e2:(x ++ toB (be 1 (n.2.2.1.getD i default).length)) ++ toB (slt (n.2.2.1.getD i default) (cK c))=x ++ toB (pvS (cK c) (n.2.2.1.getD i default)):=by
   rw [append_assoc,<- Wd]; rfl
  rw [e2,Zgv hc hp hpl hr hl m (i+1) k _ (by omega) (by omega) (by rw [lA,Z3,Ze4 hpi]; omega),append_assoc,<- Wd,Yv hi,Zaw,append_assoc]
def Zle (c:Cfg) (n:Nd):List UInt8:=cat (pvS (cK c)) n.2.2.1 ++ (zs ((1+cK c)*(cFa c - 1 - n.2.2.1.length)) ++ cat (msS (cK c) (cV c)) n.2.2.2.1)
theorem Zd1 {c:Cfg} {n:Nd} (hc:OkC c) (hp:∀ p∈n.2.2.1,p.length<=cK c) (hpl:n.2.2.1.length<=cFa c - 1) (hr:∀ m∈n.2.2.2.1,m.1.length<=cK c/\m.2.2.length<=cV c) (hl:n.2.2.2.1.length<=2000):∀(m i k:Nat) (x:T0),cFa c=i+m->n.2.1.length<=i->m+2500<k->x.length+m*400<=5000000->Q44.l0 k c n x (i:Int)=some (x ++ toB (zs (4*m) ++ Zle c n))
 | 0,i,k+1,x,h,hz,hk,hx=>by
  replace hx:x.length<=5000000:=by simpa using hx
  obtain ⟨c1,c2,c3,c4,c5,c6,c7,c8,c9⟩:=hc.nat
  rw [Q44.l0,hc.int.f,iN,show Q44.l1 k c n x 0=_ from Zgv hc hp hpl hr hl n.2.2.1.length 0 k x (by omega) (by omega) (by omega),List.drop_zero];simp [zs,Zle]
 | m+1,i,k+1,x,h,hz,hk,hx=>by
  obtain ⟨c1,c2,c3,c4,c5,c6,c7,c8,c9⟩:=hc.nat
  rw [Q44.l0,hc.int.f,iP,iN,show Q38.f k x 4 0=_ from U9 (w:=4) (v:=0) (.inr (.inr rfl)) (by omega) (by omega),bS,wS2,show be 4 0=zs 4 by decide,
   Zd1 hc hp hpl hr hl m (i+1) k _ (by omega) (by omega) (by omega) (by rw [lA,Z3,Jm]; omega),append_assoc,<- Wd,<- append_assoc (zs 4),Jr,show 4+4*m=4*(m+1) by omega]
theorem Zgz {c:Cfg} {n:Nd} (hc:OkC c) (hkd:∀ x∈n.2.1,0<=x/\x<4294967296) (hkl:n.2.1.length<=cFa c) (hp:∀ p∈n.2.2.1,p.length<=cK c) (hpl:n.2.2.1.length<=cFa c - 1) (hr:∀ m∈n.2.2.2.1,m.1.length<=cK c/\m.2.2.length<=cV c) (hl:n.2.2.2.1.length<=2000):∀(m i k:Nat) (x:T0),n.2.1.length=i+m->m+2700<k->x.length+m*400<=4000000->Q44.l0 k c n x (i:Int)=some (x ++ toB (cat kdS (n.2.1.drop i) ++ (zs (4*(cFa c - n.2.1.length)) ++ Zle c n)))
 | 0,i,k,x,h,hk,hx=>by
  replace hx:x.length<=4000000:=by simpa using hx
  obtain ⟨c1,c2,c3,c4,c5,c6,c7,c8,c9⟩:=hc.nat
  rw [Zd1 hc hp hpl hr hl (cFa c - n.2.1.length) i k x (by omega) (by omega) (by omega) (by omega),dN];simp [cat]
 | m+1,i,k+1,x,h,hk,hx=>by
  obtain ⟨c1,c2,c3,c4,c5,c6,c7,c8,c9⟩:=hc.nat
  have hi:i<n.2.1.length:=by omega
  have hki:=hkd _ (Xl (d:=default) hi);obtain ⟨q,hq⟩:=Int.eq_ofNat_of_zero_le hki.1;rw [Q44.l0,hc.int.f,iP,iP,iO,Zw,hq,V0,show Q38.f k x 4 (q:Int)=_ from U9 (w:=4) (.inr (.inr rfl)) (by omega) (by omega),bS,wS2];have e2:be 4 q=kdS (n.2.1.getD i default):=by unfold kdS; rw [hq]; rfl
  rw [e2,Zgz hc hkd hkl hp hpl hr hl m (i+1) k _ (by omega) (by omega) (by rw [lA,Z3,show (kdS (n.2.1.getD i default)).length=4 from Xd _ _]; omega),append_assoc,<- Wd,Yv hi,Zaw,append_assoc]
theorem Zqa {c:Cfg} {n:Nd} (hc:OkC c) (hn:FitN c n) (h0:n.1≠0) {k:Nat} (hk:3000<k):Q44.f k c n=some (toB (hdI n ++ bdI c n)):=by
 obtain ⟨c1,c2,c3,c4,c5,c6,c7,c8,c9⟩:=hc.nat
 obtain ⟨a1,a2,a3,a4,a5⟩:=hn.i h0;have hlv:=hn.lv;obtain ⟨lv,hl⟩:=Int.eq_ofNat_of_zero_le hlv.1;have e:be 1 2 ++ (be 1 lv ++ (be 2 n.2.1.length ++ (be 2 n.2.2.2.1.length ++ zs 2)))=hdI n:=by
  unfold hdI;rw [hl,tN]; rfl
 unfold Q44.f;rw [hl,show Q37.f k 2 (lv:Int) (n.2.1.length:Int) (n.2.2.2.1.length:Int)=_ from Zmd (a:=2) (by omega) (by omega) (by omega) (by omega) (by omega),bS,e,show Q44.l0 k c n (toB (hdI n)) 0=_ from Zgz hc hn.kd (by omega) hn.pk (by omega) hn.ms (by omega) n.2.1.length 0 k _ (by omega) (by omega) (by rw [Z3,Zkd]; omega),List.drop_zero,<- Wd];rfl
theorem Zcn {c:Cfg} {n:Nd} (hok:okB c=true) (hn:FitN c n):(Bu c n).length<=cBy c/\cBy c<=65536/\c.2.1=(cBy c:Int):=by
 simp only [okB,Bool.and_eq_true,dE] at hok;obtain ⟨h1,h2,h3,h4,h5,h6⟩:=hok;have hc:=B4 h1;obtain ⟨c1,c2,c3,c4,c5,c6,c7,c8,c9⟩:=hc.nat
 have hi:=hc.int;have hB:c.2.1=(cBy c:Int):=by unfold cBy; omega
 refine ⟨?_,by omega,hB⟩;unfold Bu;by_cases h0:n.1=0
 ·rw [iT h0,lA,Zj8,Zp0 hn];have hl:=(hn.o h0).2.2.2;have hm:n.2.2.2.2.length*(3+cK c+cV c)<=cLe c*(3+cK c+cV c):=Nat.mul_le_mul_right _ hl;have:Gp c=((8+cLe c*(3+cK c+cV c):Nat):Int):=by
   unfold Gp;rw [hi.l,hi.k,hi.v]
   push_cast
   rfl
  omega
 ·rw [iF h0,lA,Zkd,Zp6 hn h0];have hl:=(hn.i h0).2.2.2.2;have hm:n.2.2.2.1.length*(4+cK c+cV c)<=cBu c*(4+cK c+cV c):=Nat.mul_le_mul_right _ hl;have:Jx c=((8+(4+(cFa c - 1)*(5+cK c)+cBu c*(4+cK c+cV c)):Nat):Int):=by
   unfold Jx;rw [hi.f,hi.b,hi.k,hi.v];have:((cFa c:Int) - 1)=((cFa c - 1:Nat):Int):=by omega
   rw [this]
   push_cast
   rfl
  have e2:(cFa c - 1)*(5+cK c)=4*(cFa c - 1)+(1+cK c)*(cFa c - 1):=by
   rw [show 5+cK c=4+(1+cK c) by omega,Nat.mul_add,Nat.mul_comm _ 4,Nat.mul_comm (cFa c - 1) (1+cK c)]
  omega
theorem Jn {c:Cfg} {n:Nd} (hc:OkC c) (hkd:∀ x∈n.2.1,0<=x/\x<4294967296) (h:Xc c V2 n=true):FitN c n:=by
 have hi:=hc.int;unfold Xc at h;by_cases h0:n.1=0
 ·rw [iT h0] at h;simp only [Zev,prB,Xh,Bool.and_eq_true,dE,List.all_eq_true] at h;obtain ⟨a1,a2,a3,a4,a5,a6⟩:=h;refine ⟨by omega,hkd,fun _=>⟨a2,a3,a4,by have:=hi.l; omega⟩,fun z=>absurd h0 z,fun p hp=>by rw [a3] at hp; simp at hp,fun p hp=>by rw [a4] at hp; simp at hp,fun p hp=>?_⟩;have:=a1 p hp;have hk:=hi.k;have hv:=hi.v;exact ⟨by omega,by omega⟩
 ·rw [iF h0] at h;simp only [Zit,Zha,Zhe,Zb5,Xh,Bool.and_eq_true,dE,List.all_eq_true] at h;obtain ⟨b0,b1,b2,b3,b4,b5,b6,b7,b8,b9,b10,b11⟩:=h;have hk:=hi.k;have hv:=hi.v;have hf:=hi.f;have hb:=hi.b;exact ⟨by omega,hkd,fun z=>absurd z h0,fun _=>⟨b5,b6,by omega,by omega,by omega⟩,fun p hp=>by have:=b2 p hp; omega,fun p hp=>by have:=b3 p hp; omega,fun p hp=>by rw [b5] at hp; simp at hp⟩
def Bq (c:Cfg) (n:Nd):List Int×Int:=if okB c=true then (if Xc c V2 n=true then (toB (Bl c n),0) else ([],3)) else ([],2)
theorem Uf {c:Cfg} (h:okB c=true):OkC c:=by
 simp only [okB,Bool.and_eq_true] at h;exact B4 h.1
theorem Zr2 {c:Cfg} {n:Nd} (h1:n.2.1.length<=35184372087808) (h2:n.2.2.1.length<=35184372087808) (h3:n.2.2.2.1.length<=35184372087808) (h4:n.2.2.2.2.length<=35184372087808) (hl:∀ x∈n.2.1,0<=x/\x<4294967296):Ev (fun k=>Q36.f k c n) (Bq c n):=by
 have hbig:Ev (fun k=>if n.2.2.1.length+n.2.2.2.1.length+n.2.2.2.2.length+10000<k then some () else none) ():=⟨n.2.2.1.length+n.2.2.2.1.length+n.2.2.2.2.length+10000+1,fun k hk=>iO⟩
 refine (Zdz (c:=c) (s:=V2) h1 h2 (by omega) (by omega) hl).next2 hbig fun k k1 k2=>?_;have k2:n.2.2.1.length+n.2.2.2.1.length+n.2.2.2.2.length+10000<k:=by
  by_cases z:n.2.2.1.length+n.2.2.2.1.length+n.2.2.2.2.length+10000<k
  ·exact z
  ·rw [iF z] at k2; cases k2
 unfold Q36.f Bq
 (try rw [Gl]); (try rw [Ztv]); rw [B5,bS]
 cases hok:okB c with
 | false=>rfl
 | true=>
  have hc:=Uf hok;rw [iT rfl,vS,iT rfl,Q60.f,bS,show Q67.f k c (([]:List UInt8),([]:List UInt8),true) n=_ from k1,bS];cases hr:Xc c V2 n with
  | false=>rfl
  | true=>
   have hn:=Jn hc hl hr;obtain ⟨r1,r2,r3⟩:=Zcn hok hn;rw [vS,iT rfl];by_cases h0:n.1=0
   ·have er:Bu c n=hdO n ++ bdO c n:=iT h0;have e:w64 ((cBy c:Int) - ((hdO n ++ bdO c n).length:Int))=((cBy c - (Bu c n).length:Nat):Int):=by rw [<- er,wI2]; omega
    rw [iN,Zqo hc hn.rk (by have:=(hn.o h0).2.2.2; have:=hc.nat; omega) (by omega),bS,Z3,r3,e,iT (by rw [<- er]; omega),tN,<- Zhy,<- Wd];unfold Bl slt;rw [er]
   ·have hlv:=hn.lv;have er:Bu c n=hdI n ++ bdI c n:=iF h0;have e:w64 ((cBy c:Int) - ((hdI n ++ bdI c n).length:Int))=((cBy c - (Bu c n).length:Nat):Int):=by rw [<- er,wI2]; omega
    rw [iP,Zqa hc hn h0 (by omega),bS,Z3,r3,e,iT (by rw [<- er]; omega),tN,<- Zhy,<- Wd];unfold Bl slt;rw [er]
def rbS (s:TQ) (n:Nat):List UInt8×TQ:=if s.2=0 then (if s.1.length<n then ([],([],5)) else (s.1.take n,(s.1.drop n,0))) else ([],s)
def iS (s:TQ):List Int×Int:=(toB s.1,s.2)
def spS (s:TQ) (x:Int):List UInt8×Int:=([],if s.2=0 then x else s.2)
theorem Zi6 (a:TX) (n:Nat):(toB a).take n=toB (a.take n):=by simp [toB,List.map_take]
theorem Zip (a:TX) (n:Nat):(toB a).drop n=toB (a.drop n):=by simp [toB,List.map_drop]
theorem Zbs (s:TQ) (x:Int):Q167.f ((iS s).1,(iS s).2) x=some (iS (spS s x)):=by
 unfold Q167.f iS spS;by_cases h:s.2=0 <;> simp [h,toB]
theorem Zou (s:TQ) {n:Nat} (hn:n<=100000):Q162.f (iS s) (n:Int)=some (toB (rbS s n).1,iS (rbS s n).2):=by
 unfold Q162.f;rw [Zbs,Zbs,bS,bS];unfold rbS iS spS;by_cases h:s.2=0
 ·rw [iF (by simp [h]),vS,iT h];by_cases h2:s.1.length<n
  ·rw [iT (dT (by rw [Z3]; omega)),iT h2];simp [h,toB]
  ·rw [iF (by simp only [Z3,dE]; omega),iF h2,iO,iT (by rw [Z3]; omega),tN];have:patch (List.replicate n (0:Int)) 0 (List.replicate n (0:Int)).length (toB s.1)=toB (s.1.take n):=by
    unfold patch;rw [length_replicate,Z3,show 0+min n s.1.length=n by omega,drop_eq_nil_of_le (by simp),List.take_zero,List.nil_append,List.append_nil,Zi6]
   rw [this,Zip,h];simp
 ·rw [iT (by simp [h]),iF h];rfl
def Zx (s:TQ) (w:Nat):Nat×TQ:=(rdv (rbS s w).1,(rbS s w).2)
theorem Zb8 (s:TQ) (n:Nat):(rbS s n).1.length<=n:=by
 unfold rbS;split
 ·split
  ·exact Nat.zero_le _
  ·rw [length_take]; omega
 ·exact Nat.zero_le _
theorem V8 (s:TQ) (w:Nat):(Zx s w).1<256 ^ w:=Nat.lt_of_lt_of_le (Zi0 _) (Nat.pow_le_pow_right (by omega) (Zb8 s w))
theorem Zol (l:TX) (c:UInt8):rdv (l ++ [c])=rdv l*256+c.toNat:=by
 unfold rdv;rw [List.foldl_append]; rfl
theorem orb {x c:Nat} (hx:x<4294967296) (hc:c<256):uH.wrap (((ofInt uH.bits (uH.wrap ((x:Int)*2 ^ 8)) ||| (ofInt uH.bits (uH.wrap (c:Int)))).toNat:Int))=((x*256+c:Nat):Int):=by
 have e1:(x:Int)*2 ^ 8=((x*256:Nat):Int):=by omega
 rw [e1,V0 (n:=x*256) (by omega),V0 (n:=c) (by omega)];have e2:(ofInt uH.bits ((x*256:Nat):Int) ||| ofInt uH.bits (c:Int)).toNat=x*256+c:=by
  show (ofInt 64 ((x*256:Nat):Int) ||| ofInt 64 (c:Int)).toNat=x*256+c;rw [BitVec.toNat_or,BitVec.ofInt_natCast,BitVec.ofInt_natCast,BitVec.toNat_ofNat,BitVec.toNat_ofNat,Nat.mod_eq_of_lt (by omega),Nat.mod_eq_of_lt (by omega)];have:=Nat.shiftLeft_add_eq_or_of_lt (i:=8) (b:=c) hc x;rw [Nat.shiftLeft_eq] at this;rw [show x*256=x*2 ^ 8 from rfl,<- this]
 rw [e2,V0]
theorem Zmx (l:TX) (st:TV) (hl:l.length<=4):∀(m i k:Nat),l.length=i+m->m<k->Q161.l0 k (toB l,st) ((rdv (l.take i):Nat):Int) (i:Int)=some (((rdv l:Nat):Int),st)
 | 0,i,k+1,h,_=>by
  rw [Q161.l0,iF (by simp only [Z3,dE]; omega),tO]
 | m+1,i,k+1,h,hk=>by
  have hi:i<l.length:=by omega
  have hv:=Zi0 (l.take i);have hv2:256 ^ (l.take i).length<=256 ^ 3:=Nat.pow_le_pow_right (by omega) (by rw [length_take]; omega);have e:gt (toB l) (i:Int)=(((l[i]'hi).toNat:Nat):Int):=by
   rw [Zw,List.getD_eq_getElem?_getD];simp [toB,hi]
  have hc:=(l[i]'hi).toNat_lt;rw [Q161.l0,iT (dT (by rw [Z3]; omega)),iT (by rw [Z3]; omega),e,orb (by omega) (by omega),wS2,<- Zol];have:=Zmx l st hl m (i+1) k (by omega) (by omega);rw [List.take_add_one,List.getElem?_eq_getElem hi] at this;exact this
theorem J1 (s:TQ) {w:Nat} (hw:w=1\/w=2\/w=4) {k:Nat} (hk:10<k):Q161.f k ((iS s).1,(iS s).2) (w:Int)=some (((Zx s w).1:Int),((iS (Zx s w).2).1,(iS (Zx s w).2).2)):=by
 unfold Q161.f Q168.f;have hr:(if (decide ((w:Int)=1))=true then (some true) else (if (decide ((w:Int)=2))=true then (some true) else (if (decide ((w:Int)=4))=true then (some true) else (some (decide ((w:Int)=8))))))=some true:=by
  rcases hw with rfl | rfl | rfl <;> rfl
 have hl:=Zb8 s w;rw [hr,bS,vS,show Q162.f ((iS s).1,(iS s).2) (w:Int)=_ from Zou s (by omega),bS];have:=Zmx (rbS s w).1 (iS (rbS s w).2) (by omega) (rbS s w).1.length 0 k (by omega) (by omega);exact this
def nzS (l:TX):Bool:=l.any fun x=>!decide (x=0)
theorem Znu (l:TX):((toB l).any fun x=>!decide (x=0))=nzS l:=by
 unfold nzS toB;rw [List.any_map];congr 1;funext x;have:((x.toNat:Int)=0)↔x=0:=by
  constructor
  ·intro h;have h2:x.toNat=0:=by omega
   exact UInt8.toNat_inj.1 (by simpa using h2)
  ·rintro rfl; rfl
 simp only [Function.comp,this]
theorem Zrm (l:TX) {k:Nat} (hl:l.length<=10000) (hk:l.length<k):Q97.f k (toB l)=some (nzS l):=by
 obtain ⟨r,h1,h2⟩:=Ja (l:=toB l) (F:=fun k i=>Q103.l0 k (toB l) i) (p:=fun x:Int=>!decide (x=0)) (by rw [Z3]; omega) (fun k i=>by
  show Q103.l0 (k+1) (toB l) i=_;rw [Q103.l0,Q166.f,bS]) (toB l).length 0 k (by omega) (by rw [Z3]; exact hk)
 unfold Q97.f Q103.f;rw [show Q103.l0 k (toB l) 0=_ from h1,bS,h2,List.drop_zero,Znu]
theorem Zs4 (l:TX) {k:Nat} (hl:l.length<=10000) (hk:l.length<k):Q96.f k (toB l)=some (nzS l):=by
 obtain ⟨r,h1,h2⟩:=Ja (l:=toB l) (F:=fun k i=>Q102.l0 k (toB l) i) (p:=fun x:Int=>!decide (x=0)) (by rw [Z3]; omega) (fun k i=>by
  show Q102.l0 (k+1) (toB l) i=_;rw [Q102.l0,Q164.f,bS]) (toB l).length 0 k (by omega) (by rw [Z3]; exact hk)
 unfold Q96.f Q102.f;rw [show Q102.l0 k (toB l) 0=_ from h1,bS,h2,List.drop_zero,Znu]
def Uu (s:TQ) (n:Nat):List UInt8×Int:=if nzS (rbS s n).1=true then spS (rbS s n).2 3 else (rbS s n).2
theorem Zqk (s:TQ) {n:Nat} (hn:n<=100) {k:Nat} (hk:1000<k):Q165.f k ((iS s).1,(iS s).2) (n:Int)=some ((iS (Uu s n)).1,(iS (Uu s n)).2):=by
 have hl:=Zb8 s n;unfold Q165.f Uu;rw [show Q162.f ((iS s).1,(iS s).2) (n:Int)=_ from Zou s (by omega),bS,Zrm _ (by omega) (by omega),bS];cases nzS (rbS s n).1
 ·rfl
 ·rw [iT rfl,iT rfl,Zbs,bS]
def Vw (s:TQ) (n most:Nat):List UInt8×TQ:=if most<n then ([],spS s 2) else if (rbS s most).1.length<most then ([],(rbS s most).2) else if nzS ((rbS s most).1.drop n)=true then ([],spS (rbS s most).2 3) else ((rbS s most).1.take n,(rbS s most).2)
theorem Zhj (s:TQ) (n:Nat) {most:Nat} (hm:most<=1000) {k:Nat} (hk:2000<k):Q163.f k ((iS s).1,(iS s).2) (n:Int) (most:Int)=some ((Vw s n most).1,((iS (Vw s n most).2).1,(iS (Vw s n most).2).2)):=by
 have hl:=Zb8 s most;unfold Q163.f Vw;rw [vS,show Q162.f ((iS s).1,(iS s).2) (most:Int)=_ from Zou s (by omega),Zbs,bS,bS];by_cases h1:most<n
 ·rw [iP,iT h1]
 ·rw [iN,iF h1];dsimp only;by_cases h2:(rbS s most).1.length<most
  ·rw [iT (dT (by rw [Z3]; omega)),iT h2]
  ·rw [iF (by simp only [Z3,dE]; omega),iF h2,iT (by rw [Z3]; omega),tN,Zip,Zs4 _ (by rw [length_drop]; omega) (by rw [length_drop]; omega),bS];cases nzS ((rbS s most).1.drop n)
   ·rw [vS,iT (by rw [Z3]; omega),vS,Zi6,Zb9]
   ·rw [iT rfl,iT rfl,Zbs,bS]
def Vy (c:Cfg) (s:TQ):Pr×TQ:=
 let k:=Zx s 1
 let v:=Zx k.2 2
 let x:=Vw v.2 k.1 (cK c)
 let y:=Vw x.2 v.1 (cV c)
 ((x.1,y.1),y.2)
theorem Zn2 {c:Cfg} (hc:OkC c) (s:TQ) {k:Nat} (hk:2000<k):Q42.f k c ((iS s).1,(iS s).2)=some ((Vy c s).1.1,(Vy c s).1.2,((iS (Vy c s).2).1,(iS (Vy c s).2).2)):=by
 obtain ⟨c1,c2,c3,c4,c5,c6,c7,c8,c9⟩:=hc.nat
 have l1:=V8 s 1;have l2:=V8 (Zx s 1).2 2;unfold Q42.f Vy;rw [show Q161.f k ((iS s).1,(iS s).2) 1=_ from J1 s (w:=1) (.inl rfl) (by omega),bS,show Q161.f k _ 2=_ from J1 (Zx s 1).2 (w:=2) (.inr (.inl rfl)) (by omega),bS];dsimp only;rw [wI2 (x:=((Zx s 1).1:Int)),wI2 (x:=((Zx (Zx s 1).2 2).1:Int)),hc.int.k,hc.int.v,Zhj _ _ (by omega) (by omega),bS];dsimp only;rw [Zhj _ _ (by omega) (by omega),bS]
def Gt (c:Cfg):Nat->List UInt8×Int->List Pr->List Pr×TQ
 | 0,s,acc=>(acc,s)
 | m+1,s,acc=>Gt c m (Vy c s).2 (acc ++ [(Vy c s).1])
theorem Ziy {c:Cfg} (hc:OkC c) (cnt:Nat):∀(m i k:Nat) (s:TQ) (acc:List Pr),min (cLe c) cnt=i+m->m+2100<k->acc.length+m<=5000->Q41.l0 k c (cnt:Int) (iS s).1 (iS s).2 acc (i:Int)=some ((0,([]:List Int),([]:List TX),([]:List Msg),(Gt c m s acc).1),((iS (Gt c m s acc).2).1,(iS (Gt c m s acc).2).2))
 | 0,i,k+1,s,acc,h,hk,ha=>by
  have hi:=hc.int;rw [Q41.l0,hi.l,iF (by simp only [dE]; split <;> omega)];rfl
 | m+1,i,k+1,s,acc,h,hk,ha=>by
  obtain ⟨c1,c2,c3,c4,c5,c6,c7,c8,c9⟩:=hc.nat
  have hi:=hc.int;rw [Q41.l0]; (try rw [Gl]); rw [hi.l,iT (dT (by split <;> omega)),Zn2 hc s (by omega),bS,iT (by simp only [List.length_singleton]; omega),wS2]
  exact Ziy hc cnt m (i+1) k (Vy c s).2 (acc ++ [(Vy c s).1]) (by omega) (by omega) (by simp; omega)
def W1:Nat->Nat->Nat->List UInt8×Int->List Int->List Int×TQ
 | 0,_,_,s,acc=>(acc,s)
 | m+1,i,cnt,s,acc=>W1 m (i+1) cnt (Zx s 4).2 (if i<cnt then acc ++ [((Zx s 4).1:Int)] else acc)
def Wr (c:Cfg):Nat->Nat->Nat->List UInt8×Int->List TX->List TX×TQ
 | 0,_,_,s,acc=>(acc,s)
 | m+1,i,cnt,s,acc=>Wr c m (i+1) cnt (Vw (Zx s 1).2 (Zx s 1).1 (cK c)).2 (if i+1<cnt then acc ++ [(Vw (Zx s 1).2 (Zx s 1).1 (cK c)).1] else acc)
def Vb (c:Cfg):Nat->List UInt8×Int->List Msg->List Msg×TQ
 | 0,s,acc=>(acc,s)
 | m+1,s,acc=>Vb c m (Vy c (Zx s 1).2).2 (acc ++ [((Vy c (Zx s 1).2).1.1,decide (((Zx s 1).1:Int)=2),(Vy c (Zx s 1).2).1.2)])
theorem Zjx {c:Cfg} (hc:OkC c) (lv:Int) (bf:Nat) (ks:T0) (ps:TO):∀(m i k:Nat) (s:TQ) (acc:List Msg),min (cBu c) bf=i+m->m+2100<k->acc.length+m<=5000->Q40.l2 k c lv (bf:Int) ks ps (iS s).1 (iS s).2 acc (i:Int)=some ((lv,ks,ps,(Vb c m s acc).1,([]:List Pr)),((iS (Vb c m s acc).2).1,(iS (Vb c m s acc).2).2))
 | 0,i,k+1,s,acc,h,hk,ha=>by
  have hi:=hc.int;rw [Q40.l2,hi.b,iF (by simp only [dE]; split <;> omega)];rfl
 | m+1,i,k+1,s,acc,h,hk,ha=>by
  obtain ⟨c1,c2,c3,c4,c5,c6,c7,c8,c9⟩:=hc.nat
  have hi:=hc.int;rw [Q40.l2]; (try rw [Gl]); rw [hi.b,iT (dT (by split <;> omega)),show Q161.f k ((iS s).1,(iS s).2) 1=_ from J1 s (w:=1) (.inl rfl) (by omega),bS]
  dsimp only;rw [Zn2 hc _ (by omega),bS,iT (by simp only [List.length_singleton]; omega),wS2];exact Zjx hc lv bf ks ps m (i+1) k _ _ (by omega) (by omega) (by simp; omega)
theorem Zez {c:Cfg} (hc:OkC c) (lv:Int) (cnt bf:Nat) (hcnt:cnt<=100000) (ks:T0):∀(m i k:Nat) (s:TQ) (acc:TO),cFa c - 1=i+m->m+3200<k->acc.length+m<=5000->
  Q40.l1 k c lv (cnt:Int) (bf:Int) ks (iS s).1 (iS s).2 acc (i:Int)=some ((lv,ks,(Wr c m i cnt s acc).1,(Vb c (min (cBu c) bf) (Wr c m i cnt s acc).2 []).1,([]:List Pr)),((iS (Vb c (min (cBu c) bf) (Wr c m i cnt s acc).2 []).2).1,(iS (Vb c (min (cBu c) bf) (Wr c m i cnt s acc).2 []).2).2))
 | 0,i,k+1,s,acc,h,hk,ha=>by
  obtain ⟨c1,c2,c3,c4,c5,c6,c7,c8,c9⟩:=hc.nat
  have hi:=hc.int;rw [Q40.l1,hi.f,wI2 (x:=(cFa c:Int) - 1),iN];exact Zjx hc lv bf ks acc (min (cBu c) bf) 0 k s [] (by omega) (by omega) (by simp; omega)
 | m+1,i,k+1,s,acc,h,hk,ha=>by
  obtain ⟨c1,c2,c3,c4,c5,c6,c7,c8,c9⟩:=hc.nat
  have hi:=hc.int;have l1:=V8 s 1;rw [Q40.l1,hi.f,wI2 (x:=(cFa c:Int) - 1),iP,show Q161.f k ((iS s).1,(iS s).2) 1=_ from J1 s (w:=1) (.inl rfl) (by omega),bS];dsimp only;rw [wI2 (x:=((Zx s 1).1:Int)),hi.k,Zhj _ _ (by omega) (by omega),bS,wS2];dsimp only;by_cases q:i+1<cnt
  ·rw [iP,iT (by simp only [List.length_singleton]; omega)];have:=Zez hc lv cnt bf hcnt ks m (i+1) k (Vw (Zx s 1).2 (Zx s 1).1 (cK c)).2 (acc ++ [(Vw (Zx s 1).2 (Zx s 1).1 (cK c)).1]) (by omega) (by omega) (by simp; omega);rw [this,Wr,iT q]
  ·rw [iN];have:=Zez hc lv cnt bf hcnt ks m (i+1) k (Vw (Zx s 1).2 (Zx s 1).1 (cK c)).2 acc (by omega) (by omega) (by omega);rw [this,Wr,iF q]
def Zo0 (c:Cfg) (lv:Int) (cnt bf:Nat) (s:TQ):Nd×TQ:=
 let a:=W1 (cFa c) 0 cnt s []
 let b:=Wr c (cFa c - 1) 0 cnt a.2 []
 let d:=Vb c (min (cBu c) bf) b.2 []
 ((lv,a.1,b.1,d.1,[]),d.2)
theorem Zso {n:Nat} (h:n<4294967296):uD.wrap (n:Int)=(n:Int):=by
 have:uD.wrap (n:Int)=((n % 4294967296:Nat):Int):=by simp [IntKind.wrap,IntKind.bits,IntKind.signed]
 rw [this,Nat.mod_eq_of_lt h]
theorem Ze0 {c:Cfg} (hc:OkC c) (lv:Int) (cnt bf:Nat) (hcnt:cnt<=100000):∀(m i k:Nat) (s:TQ) (acc:T0),cFa c=i+m->m+4000<k->acc.length+m<=5000->
  Q40.l0 k c lv (cnt:Int) (bf:Int) (iS s).1 (iS s).2 acc (i:Int)=some ((lv,(W1 m i cnt s acc).1,(Wr c (cFa c - 1) 0 cnt (W1 m i cnt s acc).2 []).1,(Vb c (min (cBu c) bf) (Wr c (cFa c - 1) 0 cnt (W1 m i cnt s acc).2 []).2 []).1,([]:List Pr)),((iS (Vb c (min (cBu c) bf) (Wr c (cFa c - 1) 0 cnt (W1 m i cnt s acc).2 []).2 []).2).1,(iS (Vb c (min (cBu c) bf) (Wr c (cFa c - 1) 0 cnt (W1 m i cnt s acc).2 []).2 []).2).2))
 | 0,i,k+1,s,acc,h,hk,ha=>by
  obtain ⟨c1,c2,c3,c4,c5,c6,c7,c8,c9⟩:=hc.nat
  have hi:=hc.int;rw [Q40.l0,hi.f,iN];exact Zez hc lv cnt bf hcnt acc (cFa c - 1) 0 k s [] (by omega) (by omega) (by simp; omega)
 | m+1,i,k+1,s,acc,h,hk,ha=>by
  obtain ⟨c1,c2,c3,c4,c5,c6,c7,c8,c9⟩:=hc.nat
  have hi:=hc.int;have l1:=V8 s 4;rw [Q40.l0,hi.f,iP,show Q161.f k ((iS s).1,(iS s).2) 4=_ from J1 s (w:=4) (.inr (.inr rfl)) (by omega),bS,wS2];dsimp only;rw [Zso (by omega)];by_cases q:i<cnt
  ·rw [iP,iT (by simp only [List.length_singleton]; omega)];have:=Ze0 hc lv cnt bf hcnt m (i+1) k (Zx s 4).2 (acc ++ [((Zx s 4).1:Int)]) (by omega) (by omega) (by simp; omega);rw [this,W1,iT q]
  ·rw [iN];have:=Ze0 hc lv cnt bf hcnt m (i+1) k (Zx s 4).2 acc (by omega) (by omega) (by omega);rw [this,W1,iF q]
def Ud (c:Cfg) (b:TX):Nd×TQ:=
 let a1:=Zx (b,0) 1
 let a2:=Zx a1.2 1
 let a3:=Zx a2.2 2
 let a4:=Zx a3.2 2
 let z:=Uu a4.2 2
 if a1.1=1 then ((0,[],[],[],(Gt c (min (cLe c) a3.1) z []).1),(Gt c (min (cLe c) a3.1) z []).2)
 else if a1.1=2 then Zo0 c (if a2.1>1 then (a2.1:Int) else 1) a3.1 a4.1 z
 else ((-1,[],[],[],[]),z)
theorem Zjb {α:Type} {a b:List α} {n:Nat} (h:a.length=n):(a ++ b).drop n=b:=by rw [<- h,List.drop_left]
theorem Zi4 {α:Type} {a b:List α} {n:Nat} (h:a.length=n):(a ++ b).take n=a:=by rw [<- h,List.take_left]
theorem Zff {a r:TX} {n:Nat} (h:a.length=n):rbS (a ++ r,0) n=(a,(r,0)):=by
 unfold rbS;rw [iT rfl,iF (by simp only [lA]; omega),Zi4 h,Zjb h]
theorem Wf {w v:Nat} {r:TX} (h:v<256 ^ w):Zx (be w v ++ r,0) w=(v,(r,0)):=by
 unfold Zx;rw [Zff (Xd w v),Zqq h]
theorem Zl9 (n:Nat):nzS (zs n)=false:=by
 unfold nzS zs;rw [List.any_eq_false];intro x hx;rw [List.mem_replicate] at hx;simp [hx.2]
theorem Zgg (n:Nat) (r:TX):Uu (zs n ++ r,0) n=(r,0):=by
 unfold Uu;rw [Zff (Jm n),iF (by rw [Zl9]; simp)]
theorem G7 {s r:TX} {most:Nat} (h:s.length<=most):Vw (slt s most ++ r,0) s.length most=(s,(r,0)):=by
 unfold Vw;rw [Zff (U5 h),iQ,iF (by rw [U5 h]; omega)];dsimp only;unfold slt;rw [Zjb rfl,Zi4 rfl,iF (by rw [Zl9]; simp)]
theorem Zfs {c:Cfg} (hc:OkC c) {p:Pr} {r:TX} (h1:p.1.length<=cK c) (h2:p.2.length<=cV c):Vy c (prS (cK c) (cV c) p ++ r,0)=(p,(r,0)):=by
 obtain ⟨c1,c2,c3,c4,c5,c6,c7,c8,c9⟩:=hc.nat
 have e:prS (cK c) (cV c) p ++ r=be 1 p.1.length ++ (be 2 p.2.length ++ (slt p.1 (cK c) ++ (slt p.2 (cV c) ++ r))):=by unfold prS; simp only [append_assoc]
 unfold Vy;rw [e,Wf (by omega)];dsimp only;rw [Wf (by omega)];dsimp only;rw [G7 h1];dsimp only;rw [G7 h2]
theorem Zch {α:Type} (f:α->List UInt8) (x:α) (l:List α) (r:TX):cat f (x :: l) ++ r=f x ++ (cat f l ++ r):=by unfold cat; rw [List.flatMap_cons,append_assoc]
theorem Zid {c:Cfg} (hc:OkC c):∀(l acc:List Pr) (r:TX),(∀ p∈l,p.1.length<=cK c/\p.2.length<=cV c)->Gt c l.length (cat (prS (cK c) (cV c)) l ++ r,0) acc=(acc ++ l,(r,0))
 | [],acc,r,_=>by rw [List.append_nil]; rfl
 | p :: l,acc,r,h=>by
  have hp:=h p (by simp);rw [length_cons,Gt,Zch,Zfs hc hp.1 hp.2];dsimp only;rw [Zid hc l _ r fun q hq=>h q (by simp [hq]),append_assoc]; rfl
theorem Zik:∀(z i cnt:Nat) (acc:T0) (r:TX),cnt<=i->W1 z i cnt (zs (4*z) ++ r,0) acc=(acc,(r,0))
 | 0,_,_,_,_,_=>rfl
 | z+1,i,cnt,acc,r,h=>by
  have e:zs (4*(z+1))=be 4 0 ++ zs (4*z):=by
   rw [show be 4 0=zs 4 by decide,Jr]; congr 1; omega
  rw [W1,e,append_assoc,Wf (by decide),iQ];exact Zik z (i+1) cnt acc r (by omega)
theorem Zfp (cnt z:Nat) (r:TX):∀(l:T0) (i:Nat) (acc:T0),i+l.length=cnt->(∀ x∈l,0<=x/\x<4294967296)->W1 (l.length+z) i cnt (cat kdS l ++ (zs (4*z) ++ r),0) acc=(acc ++ l,(r,0))
 | [],i,acc,h,_=>by
  rw [List.append_nil,length_nil,Nat.zero_add];exact Zik z i cnt acc r (by simpa using Nat.le_of_eq h.symm)
 | x :: l,i,acc,h,hx=>by
  have hx0:=hx x (by simp);rw [length_cons] at h;rw [length_cons,show l.length+1+z=(l.length+z)+1 by omega,W1,Zch];unfold kdS;rw [Wf (v:=x.toNat) (by omega)];dsimp only;rw [iO,show ((x.toNat:Nat):Int)=x by omega];have:=Zfp cnt z r l (i+1) (acc ++ [x]) (by omega) fun y hy=>hx y (by simp [hy]);rw [append_assoc] at this;exact this
theorem Zh5 {c:Cfg} (hc:OkC c):∀(z i cnt:Nat) (acc:TO) (r:TX),cnt<=i+1->Wr c z i cnt (zs ((1+cK c)*z) ++ r,0) acc=(acc,(r,0))
 | 0,_,_,_,_,_=>rfl
 | z+1,i,cnt,acc,r,h=>by
  have e:zs ((1+cK c)*(z+1))=be 1 0 ++ (slt [] (cK c) ++ zs ((1+cK c)*z)):=by
   unfold slt;rw [show be 1 0=zs 1 by decide,List.nil_append,Jr,Jr,length_nil,Nat.mul_succ]; congr 1; omega
  have e2:Vw (slt [] (cK c) ++ (zs ((1+cK c)*z) ++ r),0) 0 (cK c)=(([]:List UInt8),(zs ((1+cK c)*z) ++ r,0)):=G7 (s:=[]) (Nat.zero_le _);rw [Wr,e,append_assoc,append_assoc,Wf (by decide)];dsimp only;rw [e2,iQ];exact Zh5 hc z (i+1) cnt acc r (by omega)
theorem Zgm {c:Cfg} (hc:OkC c) (cnt z:Nat) (r:TX):∀(l:TO) (i:Nat) (acc:TO),i+l.length+1=cnt->(∀ x∈l,x.length<=cK c)->Wr c (l.length+z) i cnt (cat (pvS (cK c)) l ++ (zs ((1+cK c)*z) ++ r),0) acc=(acc ++ l,(r,0))
 | [],i,acc,h,_=>by
  rw [List.append_nil,length_nil,Nat.zero_add];exact Zh5 hc z i cnt acc r (by simpa using Nat.le_of_eq h.symm)
 | x :: l,i,acc,h,hx=>by
  obtain ⟨c1,c2,c3,c4,c5,c6,c7,c8,c9⟩:=hc.nat
  have hx0:=hx x (by simp);rw [length_cons] at h;rw [length_cons,show l.length+1+z=(l.length+z)+1 by omega,Wr,Zch];unfold pvS;rw [append_assoc,Wf (v:=x.length) (by omega)];dsimp only;rw [G7 hx0,iO];dsimp only;have:=Zgm hc cnt z r l (i+1) (acc ++ [x]) (by omega) fun y hy=>hx y (by simp [hy]);rw [append_assoc] at this;exact this
theorem Zfn {c:Cfg} (hc:OkC c):∀(l acc:List Msg) (r:TX),(∀ p∈l,p.1.length<=cK c/\p.2.2.length<=cV c)->Vb c l.length (cat (msS (cK c) (cV c)) l ++ r,0) acc=(acc ++ l,(r,0))
 | [],acc,r,_=>by rw [List.append_nil]; rfl
 | p :: l,acc,r,h=>by
  have hp:=h p (by simp);have e:msS (cK c) (cV c) p ++ (cat (msS (cK c) (cV c)) l ++ r)=be 1 (if p.2.1=true then 2 else 1) ++ (prS (cK c) (cV c) (p.1,p.2.2) ++ (cat (msS (cK c) (cV c)) l ++ r)):=by
   unfold msS;cases p.2.1 <;> rfl
  rw [length_cons,Vb,Zch,e,Wf (by split <;> decide)];dsimp only;rw [Zfs hc (p:=(p.1,p.2.2)) hp.1 hp.2];dsimp only;rw [show (decide ((((if p.2.1=true then 2 else 1:Nat)):Int)=2))=p.2.1 by cases p.2.1 <;> rfl,Zfn hc l _ r fun q hq=>h q (by simp [hq]),append_assoc]; rfl
theorem Znw {c:Cfg} {n:Nd} (hc:OkC c) (hn:FitN c n):∃ r,Ud c (Bl c n)=(n,(r,0)):=by
 obtain ⟨c1,c2,c3,c4,c5,c6,c7,c8,c9⟩:=hc.nat
 unfold Bl slt;generalize hz:zs (cBy c - (Bu c n).length)=Z;refine ⟨Z,?_⟩;by_cases h0:n.1=0
 ·obtain ⟨a1,a2,a3,a4⟩:=hn.o h0;rw [show Bu c n=hdO n ++ bdO c n from iT h0];have e:hdO n ++ bdO c n ++ Z=be 1 1 ++ (be 1 0 ++ (be 2 n.2.2.2.2.length ++ (be 2 0 ++ (zs 2 ++ (cat (prS (cK c) (cV c)) n.2.2.2.2 ++ Z))))):=by
   unfold hdO bdO;rw [show be 1 1=[1] by decide,show be 1 0=[0] by decide,show be 2 0=zs 2 by decide,<- append_assoc (zs 2),Jr];simp only [append_assoc,List.cons_append,List.nil_append]
  unfold Ud;rw [e,Wf (by decide)];dsimp only;rw [Wf (by decide)];dsimp only;rw [Wf (by omega)];dsimp only;rw [Wf (by decide)];dsimp only;rw [Zgg,iT rfl,show min (cLe c) n.2.2.2.2.length=n.2.2.2.2.length by omega,Zid hc _ _ _ hn.rk];rw [List.nil_append];exact Prod.ext (Prod.ext h0.symm (Prod.ext a1.symm (Prod.ext a2.symm (Prod.ext a3.symm rfl)))) rfl
 ·obtain ⟨a1,a2,a3,a4,a5⟩:=hn.i h0;have hlv:=hn.lv;rw [show Bu c n=hdI n ++ bdI c n from iF h0];have e:hdI n ++ bdI c n ++ Z=be 1 2 ++ (be 1 n.1.toNat ++ (be 2 n.2.1.length ++ (be 2 n.2.2.2.1.length ++ (zs 2 ++ (cat kdS n.2.1 ++ (zs (4*(cFa c - n.2.1.length)) ++ (cat (pvS (cK c)) n.2.2.1 ++ (zs ((1+cK c)*(cFa c - 1 - n.2.2.1.length)) ++ (cat (msS (cK c) (cV c)) n.2.2.2.1 ++ Z))))))))):=by
   unfold hdI bdI;rw [show be 1 2=[2] by decide];simp only [append_assoc,List.cons_append,List.nil_append]
  unfold Ud;rw [e,Wf (by decide)];dsimp only;rw [Wf (by omega)];dsimp only;rw [Wf (by omega)];dsimp only;rw [Wf (by omega)];dsimp only;rw [Zgg,iF (by decide),iT rfl];unfold Zo0;have k1:=Zfp n.2.1.length (cFa c - n.2.1.length) (cat (pvS (cK c)) n.2.2.1 ++ (zs ((1+cK c)*(cFa c - 1 - n.2.2.1.length)) ++ (cat (msS (cK c) (cV c)) n.2.2.2.1 ++ Z))) n.2.1 0 [] (by omega) hn.kd;rw [show n.2.1.length+(cFa c - n.2.1.length)=cFa c by omega] at k1;have k2:=Zgm hc n.2.1.length (cFa c - 1 - n.2.2.1.length) (cat (msS (cK c) (cV c)) n.2.2.2.1 ++ Z) n.2.2.1 0 [] (by omega) hn.pk;rw [show n.2.2.1.length+(cFa c - 1 - n.2.2.1.length)=cFa c - 1 by omega] at k2;rw [k1];dsimp only;rw [k2];dsimp only;rw [show min (cBu c) n.2.2.2.1.length=n.2.2.2.1.length by omega,Zfn hc _ _ _ hn.ms];refine Prod.ext (Prod.ext ?_ (Prod.ext rfl (Prod.ext rfl (Prod.ext rfl a1.symm)))) rfl;show (if n.1.toNat>1 then (n.1.toNat:Int) else 1)=n.1
  split <;> omega
theorem Zio (c:Cfg):∀(m:Nat) (s:TQ) (acc:List Pr),(Gt c m s acc).1.length=acc.length+m
 | 0,_,_=>rfl
 | m+1,s,acc=>by rw [Gt,Zio c m,lA,List.length_singleton]; omega
theorem Zf2 (c:Cfg):∀(m:Nat) (s:TQ) (acc:List Msg),(Vb c m s acc).1.length=acc.length+m
 | 0,_,_=>rfl
 | m+1,s,acc=>by rw [Vb,Zf2 c m,lA,List.length_singleton]; omega
theorem Zfv (c:Cfg):∀(m i cnt:Nat) (s:TQ) (acc:TO),(Wr c m i cnt s acc).1.length<=acc.length+m
 | 0,_,_,_,_=>Nat.le_refl _
 | m+1,i,cnt,s,acc=>by
  rw [Wr];refine Nat.le_trans (Zfv c m _ _ _ _) ?_;split
  ·rw [lA,List.length_singleton]; omega
  ·omega
theorem Zba:∀(m i cnt:Nat) (s:TQ) (acc:T0),(∀ x∈acc,0<=x/\x<4294967296)->(W1 m i cnt s acc).1.length<=acc.length+m/\∀ x∈(W1 m i cnt s acc).1,0<=x/\x<4294967296
 | 0,_,_,_,_,h=>⟨Nat.le_refl _,h⟩
 | m+1,i,cnt,s,acc,h=>by
  rw [W1];have hv:=V8 s 4;by_cases q:i<cnt
  ·rw [iT q];obtain ⟨g1,g2⟩:=Zba m (i+1) cnt (Zx s 4).2 (acc ++ [((Zx s 4).1:Int)]) (by
    intro x hx;rcases List.mem_append.1 hx with hx | hx
    ·exact h x hx
    ·rw [List.mem_singleton] at hx; omega)
   rw [lA,List.length_singleton] at g1;exact ⟨by omega,g2⟩
  ·rw [iF q];obtain ⟨g1,g2⟩:=Zba m (i+1) cnt (Zx s 4).2 acc h;exact ⟨by omega,g2⟩
structure Rd (n:Nd):Prop where
 kids:n.2.1.length<=64
 pivs:n.2.2.1.length<=64
 buf:n.2.2.2.1.length<=512
 prs:n.2.2.2.2.length<=1024
 kd:∀ x∈n.2.1,0<=x/\x<4294967296
theorem Zok {c:Cfg} (hc:OkC c) (b:TX):Rd (Ud c b).1:=by
 obtain ⟨c1,c2,c3,c4,c5,c6,c7,c8,c9⟩:=hc.nat
 unfold Ud;dsimp only;split
 ·refine ⟨by simp,by simp,by simp,?_,by simp⟩;show (Gt c _ _ []).1.length<=1024;rw [Zio,length_nil]; omega
 ·split
  ·unfold Zo0;dsimp only;obtain ⟨g1,g2⟩:=Zba (cFa c) 0 (Zx (Zx (Zx (b,0) 1).2 1).2 2).1 (Uu (Zx (Zx (Zx (Zx (b,0) 1).2 1).2 2).2 2).2 2) [] (by simp);rw [length_nil] at g1;refine ⟨by show (W1 _ _ _ _ _).1.length<=64; omega,?_,?_,by simp,g2⟩
   ·show (Wr c _ _ _ _ []).1.length<=64;refine Nat.le_trans (Zfv c _ _ _ _ _) ?_;rw [length_nil]; omega
   ·show (Vb c _ _ []).1.length<=512;rw [Zf2,length_nil]; omega
  ·exact ⟨by simp,by simp,by simp,by simp,by simp⟩
theorem Zt2 {k:Nat} {a b:T0} (ha:a.length<=1000000) (hk:a.length<k):Q99.f k a b=some (decide (a=b)):=by
 unfold Q99.f;by_cases h:a.length=b.length
 ·rw [iF (by simp [h])];have:=Bh (F:=fun k i=>Q99.l0 k a b i) (eqb:=fun x y=>decide (x=y)) (fun x y=>rfl) h ha (fun k i=>rfl) k 0 (by omega) (by omega);simpa using this
 ·rw [iV];have:a≠b:=fun e=>h (by rw [e]);simp [this]
def G5:Nd:=(0,[],[],[],[])
def Zls (c:Cfg) (b:TX) (n:Nd) (e:Int):Nd×Int:=if e=0 then (if Xc c V2 n=true then (if Bl c n=b then (n,0) else (G5,12)) else (G5,12)) else (G5,12)
def Zex (c:Cfg) (b:TX):Nd×Int:=if okB c=true then Zls c b (Ud c b).1 (Ud c b).2.2 else (G5,2)
theorem Zpz {a b:TX}:toB a=toB b↔a=b:=⟨fun e=>by rw [<- Zb9 a,e,Zb9],fun e=>by rw [e]⟩
theorem Zfe {c:Cfg} {n:Nd} (hok:okB c=true) (hn:FitN c n):(Bl c n).length=cBy c:=U5 (Zcn hok hn).1
theorem Ztg {c:Cfg} {b:TX} (hok:okB c=true) {n:Nd} {s:TQ} {k:Nat} (hk:70000<k) (hl:∀ x∈n.2.1,0<=x/\x<4294967296) (he:Q36.f k c n=some (Bq c n)):((Q160.f ((iS s).1,(iS s).2)).bind fun r9=>(if (!decide (r9=0))=true then (some (G5,(12:Int))) else ((Q36.f k c n).bind fun r10=>(if (!decide (r10.2=0))=true then some (G5,(12:Int)) else ((Q99.f k r10.1 (toB b)).bind fun r11=>(if (!r11)=true then some (G5,(12:Int)) else some (n,(0:Int))))))))=some (Zls c b n s.2):=by
 unfold Q160.f Zls iS;rw [bS,he]
 try dsimp only
 by_cases h0:s.2=0
 ·rw [iF (by simp [h0]),iT h0,bS];unfold Bq;rw [iT hok];cases hr:Xc c V2 n with
  | false=>rfl
  | true=>
   have hn:=Jn (Uf hok) hl hr;have r2:=(Zcn hok hn).2.1;rw [iT rfl,iT rfl]
   try dsimp only
   rw [vS,Zt2 (by rw [Z3,Zfe hok hn]; omega) (by rw [Z3,Zfe hok hn]; omega),bS];by_cases e:Bl c n=b
   ·rw [iF (by simp [e]),iT e]
   ·rw [iT (by simp [Zpz,e]),iF e]
 ·rw [iT (by simp [h0]),iF h0]
theorem Zrh {l:T0} (hl:l.length<=1000000):Q90.f l=some l:=by
 unfold Q90.f;rw [iV];simp
theorem Ztz {c:Cfg} {b:TX} (hb:b.length<=100000):Ev (fun k=>Q35.f k c (toB b)) (Zex c b):=by
 by_cases hok:okB c=true
 ·have hc:=Uf hok;have hr:=Zok hc b;obtain ⟨k1,h1⟩:=Zr2 (c:=c) (n:=(Ud c b).1) (by have:=hr.kids; omega) (by have:=hr.pivs; omega) (by have:=hr.buf; omega) (by have:=hr.prs; omega) hr.kd;refine ⟨k1+80000,fun k hk=>?_⟩;have he:=h1 k (by omega);have tl:=Ztg (b:=b) (s:=(Ud c b).2) hok (show 70000<k by omega) hr.kd he;have hi:=hc.int;unfold Zex;rw [iT hok,<- tl];show Q35.f k c (toB b)=_;unfold Q35.f Q158.f
  (try rw [Gl]); rw [B5,bS,iT hok,vS,Zrh (by rw [Z3]; omega),bS,bS]
  try dsimp only
  have l1:=V8 (b,0) 1;have l2:=V8 (Zx (b,0) 1).2 1;have l3:=V8 (Zx (Zx (b,0) 1).2 1).2 2;have l4:=V8 (Zx (Zx (Zx (b,0) 1).2 1).2 2).2 2;rw [show Q161.f k (toB b,(0:Int)) 1=_ from J1 (b,0) (w:=1) (.inl rfl) (by omega),bS]
  try dsimp only
  rw [show Q161.f k _ 1=_ from J1 (Zx (b,0) 1).2 (w:=1) (.inl rfl) (by omega),bS]
  try dsimp only
  rw [show Q161.f k _ 2=_ from J1 (Zx (Zx (b,0) 1).2 1).2 (w:=2) (.inr (.inl rfl)) (by omega),bS]
  try dsimp only
  rw [show Q161.f k _ 2=_ from J1 (Zx (Zx (Zx (b,0) 1).2 1).2 2).2 (w:=2) (.inr (.inl rfl)) (by omega),bS]
  try dsimp only
  rw [show Q165.f k _ 2=_ from Zqk (Zx (Zx (Zx (Zx (b,0) 1).2 1).2 2).2 2).2 (n:=2) (by omega) (by omega),bS]
  try dsimp only
  by_cases q1:(Zx (b,0) 1).1=1
  ·have er:Ud c b=_:=iT q1;rw [er,iP,wI2 (x:=((Zx (Zx (Zx (b,0) 1).2 1).2 2).1:Int))];rw [show Q41.f k c _ (((Zx (Zx (Zx (b,0) 1).2 1).2 2).1:Nat):Int)=_ from Ziy hc (Zx (Zx (Zx (b,0) 1).2 1).2 2).1 (min (cLe c) (Zx (Zx (Zx (b,0) 1).2 1).2 2).1) 0 k (Uu (Zx (Zx (Zx (Zx (b,0) 1).2 1).2 2).2 2).2 2) [] (by omega) (by have:=hc.nat; omega) (by have:=hc.nat; simp; omega),bS];rfl
  ·rw [iN];by_cases q2:(Zx (b,0) 1).1=2
   ·have er:Ud c b=_:=(iF q1).trans (iT q2);rw [er,iP,wI2 (x:=((Zx (Zx (Zx (b,0) 1).2 1).2 2).1:Int)),wI2 (x:=((Zx (Zx (b,0) 1).2 1).1:Int)),wI2 (x:=((Zx (Zx (Zx (Zx (b,0) 1).2 1).2 2).2 2).1:Int)),
     show (if (((Zx (Zx (b,0) 1).2 1).1:Nat):Int)>1 then (((Zx (Zx (b,0) 1).2 1).1:Nat):Int) else 1)=(if (Zx (Zx (b,0) 1).2 1).1>1 then (((Zx (Zx (b,0) 1).2 1).1:Nat):Int) else 1) by split <;> split <;> omega]
    rw [show Q40.f k c _ _ _ _=_ from Ze0 hc (if (Zx (Zx (b,0) 1).2 1).1>1 then (((Zx (Zx (b,0) 1).2 1).1:Nat):Int) else 1) (Zx (Zx (Zx (b,0) 1).2 1).2 2).1 (Zx (Zx (Zx (Zx (b,0) 1).2 1).2 2).2 2).1 (by omega) (cFa c) 0 k (Uu (Zx (Zx (Zx (Zx (b,0) 1).2 1).2 2).2 2).2 2) [] (by omega) (by have:=hc.nat; omega) (by have:=hc.nat; simp; omega),bS]
    rfl
   ·have er:Ud c b=_:=(iF q1).trans (iF q2);rw [er,iN];rfl
 ·refine ⟨0,fun k _=>?_⟩;show Q35.f k c (toB b)=_;unfold Q35.f Zex
  (try rw [Gl]); rw [B5,bS,iF hok,iF hok,iU]
  rfl
theorem Zn7 {c:Cfg} {n:Nd} (hok:okB c=true) (hl:∀ x∈n.2.1,0<=x/\x<4294967296) (hr:Xc c V2 n=true):Zex c (Bl c n)=(n,0):=by
 obtain ⟨r,h⟩:=Znw (Uf hok) (Jn (Uf hok) hl hr);unfold Zex Zls;rw [iT hok,h]
 try dsimp only
 rw [iT rfl,iT hr,iT rfl]
abbrev Lnk:=Int×Int×Bool
abbrev Chn:=List Lnk×Int
def ah (l:List Lnk) (k:Nat):Int:=(l.getD k default).1
def bh (l:List Lnk) (k:Nat):Int:=(l.getD k default).2.1
def inn (l:List Lnk) (k:Nat):Bool:=(l.getD k default).2.2
theorem Xe {α:Type} {l:List α} {j k:Nat} {v d:α} (hj:j<l.length:=by omega):(l.set j v).getD k d=if j=k then v else l.getD k d:=by
 rw [List.getD_eq_getElem?_getD,List.getD_eq_getElem?_getD,List.getElem?_set];split
 ·rename_i h;subst h;simp [hj]
 ·rfl
def Lk (l:List Lnk) (a b:Nat):Prop:=bh l a=(b:Int)/\ah l b=(a:Int)
def Wv (l:List Lnk):Nat->List Nat->Prop
 | _,[]=>True
 | a,x :: L=>Lk l a x/\Wv l x L
def Uh:Nat->List Nat->Nat
 | a,[]=>a
 | _,x :: L=>Uh x L
theorem Zaz {l:List Lnk}:∀ {a:Nat} {X Y:List Nat},Wv l a (X ++ Y)↔Wv l a X/\Wv l (Uh a X) Y
 | a,[],Y=>by simp [Wv,Uh]
 | a,x :: X,Y=>by
  rw [List.cons_append,Wv,Wv,Uh,Zaz,and_assoc]
theorem Jq:∀ {a:Nat} {L:List Nat},Uh a L∈a :: L
 | a,[]=>by simp [Uh]
 | a,x :: L=>by
  rw [Uh];have:=Jq (a:=x) (L:=L);simp only [List.mem_cons] at this ⊢;rcases this with h | h
  ·exact .inr (.inl h)
  ·exact .inr (.inr h)
theorem G9 {l l':List Lnk}:∀ {a:Nat} {L:List Nat},(∀ x∈(a :: L).dropLast,bh l' x=bh l x)->(∀ y∈L,ah l' y=ah l y)->Wv l a L->Wv l' a L
 | a,[],_,_,_=>trivial
 | a,x :: L,h1,h2,h=>by
  rw [Wv] at h ⊢;refine ⟨⟨?_,?_⟩,G9 (fun y hy=>h1 y ?_) (fun y hy=>h2 y (by simp [hy])) h.2⟩
  ·rw [h1 a (by simp)]; exact h.1.1
  ·rw [h2 x (by simp)]; exact h.1.2
  ·rw [List.dropLast_cons_of_ne_nil (by simp)];exact List.mem_cons_of_mem _ hy
structure ChI (n:Nat) (c:Chn) (L:List Nat):Prop where
 len:c.1.length=n+1
 cnt:c.2=(L.length:Int)
 nd:L.Nodup
 lt:∀ x∈L,x<n
 inn:∀ x,x<=n->(inn c.1 x=true↔x∈L)
 ring:Wv c.1 n (L ++ [n])
theorem Zhq:∀ {n:Nat} {L:List Nat},L.Nodup->(∀ x∈L,x<n)->L.length<=n
 | 0,[],_,_=>Nat.le_refl _
 | 0,x :: L,_,h=>by have:=h x (by simp); omega
 | n+1,L,hd,h=>by
  have:=Zhq (n:=n) (hd.erase n) fun x hx=>by
   have h1:=h x (List.mem_of_mem_erase hx);have h2:=(hd.mem_erase_iff.1 hx).1;omega
  rw [List.length_erase] at this;split at this <;> omega
theorem ChI.short {n:Nat} {c:Chn} {L:List Nat} (h:ChI n c L):L.length<=n:=Zhq h.nd h.lt
theorem B3:∀ {a:Nat} {L:List Nat},(a :: L).Nodup->∀ x∈(a :: L).dropLast,x≠Uh a L
 | a,[],_,x,hx=>by simp at hx
 | a,y :: L,hd,x,hx=>by
  rw [List.dropLast_cons_of_ne_nil (by simp),List.mem_cons] at hx;rw [Uh];rcases hx with rfl | hx
  ·exact fun e=>(List.nodup_cons.1 hd).1 (e ▸ Jq)
  ·exact B3 (List.nodup_cons.1 hd).2 x hx
theorem gtl (l:List Lnk) (k:Nat):gt l (k:Int)=(ah l k,bh l k,SK.T.inn l k):=by
 rw [Zw]; rfl
section
variable {n:Nat} {c:Chn} {L:List Nat}
theorem ChI.split (h:ChI n c L) {i:Nat} (hi:i∈L):∃(P S:List Nat) (s:Nat) (T:List Nat),L=P ++ i :: S/\S ++ [n]=s :: T/\Wv c.1 n P/\Lk c.1 (Uh n P) i/\Lk c.1 i s/\Wv c.1 s T/\Uh n P<=n/\s<=n:=by
 obtain ⟨P,S,rfl⟩:=List.append_of_mem hi;obtain ⟨s,T,e⟩:∃ s T,S ++ [n]=s :: T:=by
  cases S with
  | nil=>exact ⟨n,[],rfl⟩
  | cons x S=>exact ⟨x,S ++ [n],rfl⟩
 have hr:=h.ring;rw [append_assoc,List.cons_append,Zaz,Wv,e,Wv] at hr;refine ⟨P,S,s,T,rfl,e,hr.1,hr.2.1,hr.2.2.1,hr.2.2.2,?_,?_⟩
 ·have:=Jq (a:=n) (L:=P);rcases List.mem_cons.1 this with h1 | h1
  ·omega
  ·have:=h.lt _ (List.mem_append_left _ h1); omega
 ·have:s∈S ++ [n]:=by rw [e]; simp
  rcases List.mem_append.1 this with h1 | h1
  ·have:=h.lt s (by simp [h1]); omega
  ·simp at h1; omega
theorem Ztu (h:ChI n c L) {i:Nat} (hi:i∈L) (hn:n<=1000):∃ c',Q28.f c (i:Int)=some c'/\ChI n c' (L.erase i):=by
 obtain ⟨P,S,s,T,e1,e2,r1,r2,r3,r4,hp,hs⟩:=h.split hi;have hin:=h.lt i hi;have hlen:=h.len;generalize hpe:Uh n P=p at *;have ei:SK.T.inn c.1 i=true:=(h.inn i (by omega)).2 hi;have nd:(P ++ i :: S).Nodup:=e1 ▸ h.nd;have nd2:=List.nodup_append.1 nd;have ndS:=(List.nodup_cons.1 nd2.2.1);have hnP:n∉P:=fun hx=>by have:=h.lt n (by rw [e1]; simp [hx]); omega
 have hnS:n∉S:=fun hx=>by have:=h.lt n (by rw [e1]; simp [hx]); omega
 have hiP:i∉P:=fun hx=>nd2.2.2 i hx i (by simp) rfl;have hpi:p≠i:=fun e=>by
  have:p∈n :: P:=hpe ▸ Jq;rcases List.mem_cons.1 this with h1 | h1
  ·omega
  ·exact hiP (e ▸ h1)
 have hsi:s≠i:=fun e=>by
  have:s∈S ++ [n]:=by rw [e2]; simp
  rcases List.mem_append.1 this with h1 | h1
  ·exact ndS.1 (e ▸ h1)
  ·simp at h1; omega
 have a1:(gt c.1 (i:Int)).1=(p:Int):=by rw [gtl]; exact r2.2
 have a2:(gt c.1 (i:Int)).2.1=(s:Int):=by rw [gtl]; exact r3.1
 have a3:(gt c.1 (i:Int)).2.2=true:=by rw [gtl]; exact ei
 unfold Q28.f;rw [iO,a3,vS,a1,a2,iO,iT (by rw [length_set]; omega),iT (by rw [length_set,length_set]; omega)];simp only [tN,gtl];generalize hl1:c.1.set p (ah c.1 p,(s:Int),SK.T.inn c.1 p)=l1;have hl1l:l1.length=n+1:=by rw [<- hl1,length_set,hlen]
 generalize hl2:l1.set s ((p:Int),bh l1 s,SK.T.inn l1 s)=l2;have hl2l:l2.length=n+1:=by rw [<- hl2,length_set,hl1l]
 have g1:∀ k,l1.getD k default=if p=k then (ah c.1 p,(s:Int),SK.T.inn c.1 p) else c.1.getD k default:=fun k=>by rw [<- hl1]; exact Xe
 have g2:∀ k,l2.getD k default=if s=k then ((p:Int),bh l1 s,SK.T.inn l1 s) else l1.getD k default:=fun k=>by rw [<- hl2]; exact Xe
 have g3:∀ k,(l2.set i (0,0,false)).getD k default=if i=k then (0,0,false) else l2.getD k default:=fun k=>Xe
 have b1:∀ k,bh l1 k=if p=k then (s:Int) else bh c.1 k:=fun k=>by unfold bh; rw [g1 k]; split <;> rfl
 have n1:∀ k,SK.T.inn l1 k=SK.T.inn c.1 k:=fun k=>by
  show (l1.getD k default).2.2=_;rw [g1 k]; split
  ·rename_i e; rw [<- e]
  ·rfl
 have c1:∀ k,ah l1 k=ah c.1 k:=fun k=>by
  show (l1.getD k default).1=_;rw [g1 k]; split
  ·rename_i e; rw [<- e]
  ·rfl
 have b3:∀ k,k≠i->bh (l2.set i (0,0,false)) k=if p=k then (s:Int) else bh c.1 k:=fun k hk=>by
  show ((l2.set i (0,0,false)).getD k default).2.1=_;rw [g3 k,iF (Ne.symm hk),g2 k];split
  ·rename_i e; rw [<- e]; exact b1 s
  ·exact b1 k
 have c3:∀ k,k≠i->ah (l2.set i (0,0,false)) k=if s=k then (p:Int) else ah c.1 k:=fun k hk=>by
  show ((l2.set i (0,0,false)).getD k default).1=_;rw [g3 k,iF (Ne.symm hk),g2 k];split
  ·rfl
  ·exact c1 k
 have n3:∀ k,SK.T.inn (l2.set i (0,0,false)) k=if i=k then false else SK.T.inn c.1 k:=fun k=>by
  show ((l2.set i (0,0,false)).getD k default).2.2=_;rw [g3 k];split
  ·rfl
  ·rw [g2 k];split
   ·rename_i e; rw [<- e]; exact n1 s
   ·exact n1 k
 have el:L.erase i=P ++ S:=by
  rw [e1,List.erase_append_right _ hiP,List.erase_cons_head]
 refine ⟨_,rfl,⟨by rw [length_set,hl2l],?_,?_,?_,?_,?_⟩⟩
 ·rw [el,h.cnt,e1];have:=h.short;rw [e1] at this;simp only [lA,length_cons] at this ⊢;rw [wI2]; omega
 ·exact h.nd.erase i
 ·exact fun x hx=>h.lt x (List.mem_of_mem_erase hx)
 ·intro x hx;rw [n3 x,h.nd.mem_erase_iff];split
  ·rename_i e; simp [e]
  ·rename_i e;rw [h.inn x hx];exact ⟨fun g=>⟨fun e'=>e e'.symm,g⟩,fun g=>g.2⟩
 ·rw [el,append_assoc,e2,Zaz,hpe,Wv];have hTs:∀ y∈T,y≠s/\y≠i:=fun y hy=>by
   have hnd:(S ++ [n]).Nodup:=List.nodup_append.2 ⟨ndS.2,by simp,fun a ha b hb e=>by simp at hb; exact hnS (hb ▸ e ▸ ha)⟩;rw [e2] at hnd;refine ⟨fun e=>(List.nodup_cons.1 hnd).1 (e ▸ hy),fun e=>?_⟩;have:y∈S ++ [n]:=by rw [e2]; simp [hy]
   rcases List.mem_append.1 this with h1 | h1
   ·exact ndS.1 (e ▸ h1)
   ·simp at h1; omega
  have hsT:∀ x∈(s :: T).dropLast,x≠p/\x≠i:=fun x hx=>by
   rw [<- e2,List.dropLast_concat] at hx;refine ⟨fun e=>?_,fun e=>ndS.1 (e ▸ hx)⟩;have:p∈n :: P:=hpe ▸ Jq;rcases List.mem_cons.1 this with h1 | h1
   ·exact hnS (h1 ▸ e ▸ hx)
   ·exact nd2.2.2 p h1 x (by simp [hx]) e.symm
  have hPp:∀ x∈(n :: P).dropLast,x≠p/\x≠i:=fun x hx=>by
   have hnd:(n :: P).Nodup:=List.nodup_cons.2 ⟨hnP,nd2.1⟩;refine ⟨hpe ▸ B3 hnd x hx,fun e=>?_⟩;have:=List.dropLast_subset _ hx;rcases List.mem_cons.1 this with h1 | h1
   ·omega
   ·exact hiP (e ▸ h1)
  have hPs:∀ y∈P,y≠s/\y≠i:=fun y hy=>by
   refine ⟨fun e=>?_,fun e=>hiP (e ▸ hy)⟩;have:s∈S ++ [n]:=by rw [e2]; simp
   rcases List.mem_append.1 this with h1 | h1
   ·exact nd2.2.2 y hy s (by simp [h1]) e
   ·simp at h1; exact hnP (h1 ▸ e ▸ hy)
  refine ⟨G9 (fun x hx=>by rw [b3 x (hPp x hx).2,iF (Ne.symm (hPp x hx).1)]) (fun y hy=>by rw [c3 y (hPs y hy).2,iF (Ne.symm (hPs y hy).1)]) r1,⟨by rw [b3 p hpi,iT rfl],by rw [c3 s hsi,iT rfl]⟩,
   G9 (fun x hx=>by rw [b3 x (hsT x hx).2,iF (Ne.symm (hsT x hx).1)]) (fun y hy=>by rw [c3 y (hTs y hy).2,iF (Ne.symm (hTs y hy).1)]) r4⟩
theorem Zm1 (h:ChI n c L) {i:Nat} (hi:i<n) (hn:n<=1000):Q31.f c (i:Int)=some 0:=by
 have hlen:=h.len;unfold Q31.f Q30.f
 try dsimp only
 rw [iN,iN,bS,wI2,iN]
theorem Zil (h:ChI n c L) {i:Nat} (hi:i<n) (hn:n<=1000):∃ r c',Q24.f c (i:Int)=some (r,c')/\ChI n c' (L.erase i):=by
 have hlen:=h.len;unfold Q24.f;rw [show Q31.f (c.1,c.2) (i:Int)=_ from Zm1 h hi hn,bS,vS,iO,gtl];by_cases hm:i∈L
 ·rw [iF (by simp [(h.inn i (by omega)).2 hm])];obtain ⟨c',e,h'⟩:=Ztu h hm hn;rw [show Q28.f (c.1,c.2) (i:Int)=_ from e,bS];exact ⟨_,_,rfl,h'⟩
 ·have:SK.T.inn c.1 i=false:=by
   cases q:SK.T.inn c.1 i with
   | false=>rfl
   | true=>exact absurd ((h.inn i (by omega)).1 q) hm
  rw [iT (by simp [this])];exact ⟨_,_,rfl,by rw [List.erase_of_not_mem hm]; exact h⟩
theorem Ztq (h:ChI n c L) {i:Nat} (hi:i<n) (hm:i∉L) (hn:n<=1000):∃ c',Q29.f c (i:Int) (n:Int)=some c'/\ChI n c' (i :: L):=by
 have hlen:=h.len;have hsh:=h.short;have hnL:n∉L:=fun hx=>by have:=h.lt n hx; omega
 obtain ⟨s,T,e⟩:∃ s T,L ++ [n]=s :: T:=by
  cases L with
  | nil=>exact ⟨n,[],rfl⟩
  | cons x S=>exact ⟨x,S ++ [n],rfl⟩
 have hr:=h.ring;rw [e,Wv] at hr;have hs:s<=n:=by
  have:s∈L ++ [n]:=by rw [e]; simp
  rcases List.mem_append.1 this with h1 | h1
  ·have:=h.lt s h1; omega
  ·simp at h1; omega
 have hsi:s≠i:=fun q=>by
  have:s∈L ++ [n]:=by rw [e]; simp
  rcases List.mem_append.1 this with h1 | h1
  ·exact hm (q ▸ h1)
  ·simp at h1; omega
 have a2:(gt c.1 (n:Int)).2.1=(s:Int):=by rw [gtl]; exact hr.1.1
 unfold Q29.f;rw [iO,iO,iT (by rw [length_set]; omega),a2,iT (by rw [length_set,length_set]; omega)];simp only [tN,gtl];generalize hl1:c.1.set i ((n:Int),(s:Int),true)=l1;have hl1l:l1.length=n+1:=by rw [<- hl1,length_set,hlen]
 generalize hl2:l1.set n (ah l1 n,(i:Int),SK.T.inn l1 n)=l2;have hl2l:l2.length=n+1:=by rw [<- hl2,length_set,hl1l]
 have g1:∀ k,l1.getD k default=if i=k then ((n:Int),(s:Int),true) else c.1.getD k default:=fun k=>by rw [<- hl1]; exact Xe
 have g2:∀ k,l2.getD k default=if n=k then (ah l1 n,(i:Int),SK.T.inn l1 n) else l1.getD k default:=fun k=>by rw [<- hl2]; exact Xe
 have g3:∀ k,(l2.set s ((i:Int),bh l2 s,SK.T.inn l2 s)).getD k default=if s=k then ((i:Int),bh l2 s,SK.T.inn l2 s) else l2.getD k default:=fun k=>Xe
 have b2:∀ k,bh l2 k=if n=k then (i:Int) else if i=k then (s:Int) else bh c.1 k:=fun k=>by
  show (l2.getD k default).2.1=_;rw [g2 k];split
  ·rfl
  ·rw [g1 k]; split <;> rfl
 have c2:∀ k,ah l2 k=if i=k then (n:Int) else ah c.1 k:=fun k=>by
  show (l2.getD k default).1=_;rw [g2 k];split
  ·rename_i q;rw [<- q,iQ];show (l1.getD n default).1=_;rw [g1 n,iQ]; rfl
  ·rw [g1 k]; split <;> rfl
 have n2:∀ k,SK.T.inn l2 k=if i=k then true else SK.T.inn c.1 k:=fun k=>by
  show (l2.getD k default).2.2=_;rw [g2 k];split
  ·rename_i q;rw [<- q,iQ];show (l1.getD n default).2.2=_;rw [g1 n,iQ]; rfl
  ·rw [g1 k]; split <;> rfl
 have b3:∀ k,bh (l2.set s ((i:Int),bh l2 s,SK.T.inn l2 s)) k=bh l2 k:=fun k=>by
  show ((l2.set s ((i:Int),bh l2 s,SK.T.inn l2 s)).getD k default).2.1=_;rw [g3 k]; split
  ·rename_i q; rw [<- q]
  ·rfl
 have c3:∀ k,ah (l2.set s ((i:Int),bh l2 s,SK.T.inn l2 s)) k=if s=k then (i:Int) else ah l2 k:=fun k=>by
  show ((l2.set s ((i:Int),bh l2 s,SK.T.inn l2 s)).getD k default).1=_;rw [g3 k]; split <;> rfl
 have n3:∀ k,SK.T.inn (l2.set s ((i:Int),bh l2 s,SK.T.inn l2 s)) k=SK.T.inn l2 k:=fun k=>by
  show ((l2.set s ((i:Int),bh l2 s,SK.T.inn l2 s)).getD k default).2.2=_;rw [g3 k]; split
  ·rename_i q; rw [<- q]
  ·rfl
 refine ⟨_,rfl,⟨by rw [length_set,hl2l],?_,List.nodup_cons.2 ⟨hm,h.nd⟩,?_,?_,?_⟩⟩
 ·rw [h.cnt,length_cons,wI2]; omega
 ·intro x hx;rcases List.mem_cons.1 hx with q | q
  ·omega
  ·exact h.lt x q
 ·intro x hx;rw [n3 x,n2 x,List.mem_cons];split
  ·rename_i q; simp [q]
  ·rename_i q;rw [h.inn x hx];exact ⟨fun g=>.inr g,fun g=>g.elim (fun e'=>absurd e'.symm q) id⟩
 ·rw [List.cons_append,Wv,e,Wv];have hnd:(L ++ [n]).Nodup:=List.nodup_append.2 ⟨h.nd,by simp,fun a ha b hb q=>by simp at hb; exact hnL (hb ▸ q ▸ ha)⟩;rw [e] at hnd;refine ⟨⟨by rw [b3,b2,iT rfl],by rw [c3,iF hsi,c2,iT rfl]⟩,⟨by rw [b3,b2,iQ,iT rfl],by rw [c3,iT rfl]⟩,G9 (fun x hx=>?_) (fun y hy=>?_) hr.2⟩
  ·rw [<- e,List.dropLast_concat] at hx;rw [b3,b2,iF (fun q:n=x=>hnL (q ▸ hx)),iF (fun q:i=x=>hm (q ▸ hx))]
  ·have hyL:y∈L ++ [n]:=by rw [e]; simp [hy]
   have hyi:i≠y:=fun q=>by
    rcases List.mem_append.1 hyL with h1 | h1
    ·exact hm (q ▸ h1)
    ·simp at h1; omega
   rw [c3,iF (fun q:s=y=>(List.nodup_cons.1 hnd).1 (q ▸ hy)),c2,iF hyi]
theorem Zrj (h:ChI n c L) {i:Nat} (hi:i<n) (hm:i∉L) (hn:n<=1000):∃ c',Q25.f c (i:Int)=some (0,c')/\ChI n c' (i :: L):=by
 have hlen:=h.len;have hf:SK.T.inn c.1 i=false:=by
  cases q:SK.T.inn c.1 i with
  | false=>rfl
  | true=>exact absurd ((h.inn i (by omega)).1 q) hm
 have ho:Q28.f (c.1,c.2) (i:Int)=some c:=by
  unfold Q28.f
  try dsimp only
  rw [iO,gtl,iT (by simp [hf])]
 obtain ⟨c',e,h'⟩:=Ztq h hi hm hn;unfold Q25.f Q30.f;rw [show Q31.f (c.1,c.2) (i:Int)=_ from Zm1 h hi hn,bS,iU,ho,bS,bS]
 try dsimp only
 rw [show w64 ((c.1.length:Int) - 1)=(n:Int) by rw [wI2]; omega,show Q29.f (c.1,c.2) (i:Int) (n:Int)=_ from e,bS];exact ⟨_,rfl,h'⟩
theorem Zf8 (h:ChI n c []):Q26.f c=some (0,false):=by
 have:=h.cnt;unfold Q26.f Q27.f;rw [bS,iT (by simp [this])]
theorem Zpu {q:Nat} (h:ChI n c (L ++ [q])) (hn:n<=1000):Q26.f c=some ((q:Int),true):=by
 have hcnt:=h.cnt;have hlen:=h.len;unfold Q26.f Q27.f Q30.f;have hr:=h.ring;rw [append_assoc,List.cons_append,List.nil_append,Zaz,Wv,Wv] at hr;have:ah c.1 n=(q:Int):=hr.2.2.1.2;rw [bS,iF (by simp [hcnt]; omega),bS,show w64 ((c.1.length:Int) - 1)=(n:Int) by rw [wI2]; omega,iO,gtl,this]
theorem Zto (hn:1<=n) (h64:n<=64):∃ c',Q32.f (n:Int)=some (some c',0)/\ChI n c' []:=by
 unfold Q32.f;have e:(w64 ((n:Int)+1))=((n+1:Nat):Int):=by rw [wI2]; omega
 rw [iN,iN,e,iO,tN,iT (by rw [length_replicate]; omega),tN];have g:∀ k,((List.replicate (n+1) ((0,0,false):Lnk)).set n ((n:Int),(n:Int),false)).getD k default=if n=k then ((n:Int),(n:Int),false) else (List.replicate (n+1) ((0,0,false):Lnk)).getD k default:=fun k=>Xe (by rw [length_replicate]; omega)
 refine ⟨_,rfl,⟨by simp,rfl,by simp,by simp,fun x hx=>?_,?_⟩⟩
 ·show (_:Lnk).2.2=true↔_;rw [g x];split
  ·simp
  ·rw [List.getD_eq_getElem?_getD,List.getElem?_replicate,iO]; simp
 ·rw [List.nil_append,Wv,Wv];refine ⟨⟨?_,?_⟩,trivial⟩
  ·show (_:Lnk).2.1=_;rw [g n,iT rfl]
  ·show (_:Lnk).1=_;rw [g n,iT rfl]
end
abbrev Dv:=Int×List Int×T1
def blk (img:T0) (n i:Nat):List Int:=(img.drop (i*n)).take n
theorem Gn {N n i:Nat} (h:i<N):i*n+n<=N*n:=by
 have:=Nat.mul_le_mul_right n h;rw [Nat.succ_mul] at this;exact this
theorem Zdv {img:T0} {N n i:Nat} (hl:img.length=N*n) (h:i<N):(blk img n i).length=n:=by
 have:=Gn (n:=n) h;unfold blk;rw [length_take,length_drop];omega
theorem Zbe {img b:T0} {N n i:Nat} (hl:img.length=N*n) (h:i<N) (hb:b.length=n) (j:Nat) (hj:j<N):blk (patch img (i*n) n b) n j=if j=i then b else blk img n j:=by
 have h1:=Gn (n:=n) h;have h2:=Gn (n:=n) hj;have e0:(img.take (i*n)).length=i*n:=by rw [length_take]; omega
 unfold blk patch;rw [List.take_of_length_le (i:=n) (l:=b) (by omega),show i*n+min n b.length=i*n+n from by omega];by_cases e:j=i
 ·subst e;rw [iT rfl,append_assoc,List.drop_append_of_le_length (by omega),List.drop_of_length_le (by omega),List.nil_append,List.take_append_of_le_length (by omega),tO]
 ·rw [iF e];by_cases lt:j<i
  ·have h3:=Nat.mul_le_mul_right n (show j+1<=i from lt);rw [Nat.succ_mul] at h3;rw [append_assoc,List.drop_append_of_le_length (by omega),List.take_append_of_le_length (by rw [length_drop]; omega),List.drop_take,List.take_take];congr 1;omega
  ·have h3:=Nat.mul_le_mul_right n (show i+1<=j from by omega);rw [Nat.succ_mul] at h3;rw [List.drop_append,List.drop_of_length_le (by rw [lA]; omega),List.nil_append,List.drop_drop];congr 2;rw [lA,e0];omega
theorem Znp {img b:T0} {N n i:Nat} (hl:img.length=N*n) (h:i<N):(patch img (i*n) n b).length=N*n:=by
 have:=Gn (n:=n) h;rw [Wa (by omega),hl]
theorem Jt {N n:Nat} {img:T0} {s:T1} (hn:1<=n) (hl:img.length=N*n) (hb:N*n<=4294967296):Q51.f ((n:Int),img,s)=some (N:Int):=by
 have hN:N<=4294967296:=Nat.le_trans (Nat.le_mul_of_pos_right N hn) hb;have e:Int.tdiv (img.length:Int) (n:Int)=N:=by
  rw [hl,Int.natCast_mul];exact Int.mul_tdiv_cancel _ (by omega)
 unfold Q51.f;dsimp only;rw [iN,iO,e,wI2]
theorem Zpg {n i N:Nat} (hb:N*n<=4294967296) (hn:1<=n) (h:i<N):w64 (i:Int)=i/\w64 ((i:Int)*(n:Int))=((i*n:Nat):Int)/\w64 (((i*n:Nat):Int)+(n:Int))=((i*n+n:Nat):Int):=by
 have h1:=Gn (n:=n) h;have h2:i<=i*n:=Nat.le_mul_of_pos_right i hn;refine ⟨wI2,?_,?_⟩
 ·rw [<- Int.natCast_mul];exact wI2
 ·rw [wI2];rfl
theorem Zo6 {N n i:Nat} {img b:T0} {s:T1} (hn:1<=n) (hN:1<=N) (hl:img.length=N*n) (hb:N*n<=4294967296) (hi:i<4294967296) :
  Q54.f ((n:Int),img,s) (i:Int) b=some (if N<=i then (4,((n:Int),img,s)) else if b.length=n then (0,((n:Int),patch img (i*n) n b,s.1,uH.wrap (s.2+1))) else (3,((n:Int),img,s))):=by
 have e:=Jt (s:=(s.1,s.2)) hn hl hb;unfold Q54.f;dsimp only;rw [e,bS,iN,bS];by_cases h:N<=i
 ·rw [wI2 (x:=(i:Int)),iP,iT h]
 ·obtain ⟨a1,a2,a3⟩:=Zpg hb hn (show i<N from by omega);have h1:=Gn (n:=n) (show i<N from by omega);rw [a1,a2,a3,iN,iO,iF h];by_cases hq:b.length=n
  ·rw [iF (by simp only [Bool.not_eq_true',decide_eq_false_iff_not]; omega),iT hq];simp only [tN];rw [length_take,length_drop,show min (i*n+n - i*n) (img.length - i*n)=n from by omega]
  ·rw [iT (by simp only [Bool.not_eq_true',decide_eq_false_iff_not]; omega),iF hq]
theorem Zan {l:T0} (h:l.length<=140737488355328):Q90.f l=some l:=by
 unfold Q90.f;rw [iT (by simpa using h)];rfl
theorem Zp8 {N n i:Nat} {img:T0} {s:T1} (hn:1<=n) (hN:1<=N) (hl:img.length=N*n) (hb:N*n<=4294967296) (hi:i<4294967296) :
  Q53.f ((n:Int),img,s) (i:Int)=some (if N<=i then ([],4,((n:Int),img,s)) else (blk img n i,0,((n:Int),img,uH.wrap (s.1+1),s.2))):=by
 have e:=Jt (s:=(s.1,s.2)) hn hl hb;unfold Q53.f;dsimp only;rw [e,bS,iN,bS];by_cases h:N<=i
 ·rw [wI2 (x:=(i:Int)),iP,iT h]
 ·obtain ⟨a1,a2,a3⟩:=Zpg hb hn (show i<N from by omega);have h1:=Gn (n:=n) (show i<N from by omega);rw [a1,a2,a3,iN,iO,iF h];simp only [tN];have hbl:(blk img n i).length=n:=Zdv hl (by omega);have:(img.drop (i*n)).take (i*n+n - i*n)=blk img n i:=by unfold blk; congr 1; omega
  have hnb:n<=N*n:=Nat.le_mul_of_pos_left n hN;rw [this,Zan (by omega),bS]
abbrev Fr8:=Int×List Int×Bool×Int
abbrev Ca:=Dv×List Fr8×List T1×List Int×Chn
section
variable {es:TR} {x v d:Int}
theorem mhas_iff:∀ {es:TR},Y6 es x=true↔∃ v,(x,v)∈es
 | []=>by simp [Y6]
 | p :: es=>by
  rw [Y6];split
  ·rename_i h;exact ⟨fun _=>⟨p.2,by simp [<- h]⟩,fun _=>rfl⟩
  ·rename_i h;rw [mhas_iff];constructor
   ·rintro ⟨v,hv⟩; exact ⟨v,by simp [hv]⟩
   ·rintro ⟨v,hv⟩;rcases List.mem_cons.1 hv with e | e
    ·exact absurd (by rw [<- e]) h
    ·exact ⟨v,e⟩
theorem Wj:∀ {es:TR},(es.map Prod.fst).Nodup->(x,v)∈es->Zp d es x=v
 | [],_,h=>by simp at h
 | p :: es,nd,h=>by
  rw [List.map_cons,List.nodup_cons] at nd;rw [Zp];rcases List.mem_cons.1 h with e | e
  ·rw [iT (by rw [<- e]),<- e]
  ·rw [iF (fun q=>nd.1 (List.mem_map.2 ⟨_,e,by simpa using q.symm⟩)),Wj nd.2 e]
theorem Ui {p:T1}:∀ {es:TR},(es.map Prod.fst).Nodup->(p∈Wo x es↔p∈es/\p.1≠x)
 | [],_=>by simp [Wo]
 | q :: es,nd=>by
  rw [List.map_cons,List.nodup_cons] at nd;rw [Wo];split
  ·rename_i h;constructor
   ·intro hp;refine ⟨by simp [hp],fun e=>nd.1 ?_⟩;rw [h,<- e]; exact List.mem_map_of_mem hp
   ·rintro ⟨hp,hne⟩;rcases List.mem_cons.1 hp with e | e
    ·exact absurd (e ▸ h) hne
    ·exact e
  ·rename_i h;rw [List.mem_cons,Ui nd.2,List.mem_cons];constructor
   ·rintro (e | e)
    ·exact ⟨.inl e,e ▸ h⟩
    ·exact ⟨.inr e.1,e.2⟩
   ·rintro ⟨e | e,hne⟩
    ·exact .inl e
    ·exact .inr ⟨e,hne⟩
theorem mdel_sub:∀ {es:TR},(Wo x es).Sublist es
 | []=>List.Sublist.refl _
 | q :: es=>by
  rw [Wo];split
  ·exact List.sublist_cons_self _ _
  ·exact mdel_sub.cons_cons _
theorem Zdb:∀ {es:TR},Y6 es x=true->(Wo x es).length+1=es.length
 | [],h=>by simp [Y6] at h
 | q :: es,h=>by
  rw [Y6] at h;rw [Wo];split
  ·rfl
  ·rename_i hn;rw [iF hn] at h;rw [length_cons,length_cons,Zdb h]
theorem Zgl:∀ {es:TR},(es.map Prod.fst).Nodup->(x,v)∈es->X5 x v es=es
 | [],_,h=>by simp at h
 | p :: es,nd,h=>by
  rw [List.map_cons,List.nodup_cons] at nd;rw [X5];rcases List.mem_cons.1 h with e | e
  ·rw [iT (by rw [<- e]),e]
  ·rw [iF (fun q=>nd.1 (List.mem_map.2 ⟨_,e,by simpa using q.symm⟩)),Zgl nd.2 e]
end
structure Okf (N B n t:Nat) (c:Ca) (i f:Nat):Prop where
 hi:i<N
 hf:f<n
 blk:(c.2.1.getD f default).1=(i:Int)
 len:(c.2.1.getD f default).2.1.length=B
 pin:0<=(c.2.1.getD f default).2.2.2/\(c.2.1.getD f default).2.2.2<=t
 emp:(f:Int)∉c.2.2.2.1
structure CaI (N B n t:Nat) (H:List Nat) (c:Ca) (L:List Nat):Prop where
 dsz:c.1.1=(B:Int)
 dim:c.1.2.1.length=N*B
 frl:c.2.1.length=n
 mnd:(c.2.2.1.map Prod.fst).Nodup
 mok:∀ p∈c.2.2.1,∃ i f:Nat,p=((i:Int),(f:Int))/\Okf N B n t c i f
 emp:∀ x∈c.2.2.2.1,∃ f:Nat,x=(f:Int)/\f<n
 end_:c.2.2.2.1.Nodup
 hol:∀ f∈H,f<n/\(f:Int)∉c.2.2.2.1/\∀ i:Int,(i,(f:Int))∉c.2.2.1
 tot:c.2.2.1.length+c.2.2.2.1.length+H.length=n
 chn:ChI n c.2.2.2.2 L
 lok:∀ f:Nat,f∈L↔(∃ i:Int,(i,(f:Int))∈c.2.2.1)/\(c.2.1.getD f default).2.2.2=0
section
variable {N B n t:Nat} {H:List Nat} {c:Ca} {L:List Nat}
theorem CaI.at (h:CaI N B n t H c L) {i f:Int} (hp:(i,f)∈c.2.2.1):∃ i' f':Nat,i=(i':Int)/\f=(f':Int)/\Okf N B n t c i' f':=by
 obtain ⟨i',f',e,ok⟩:=h.mok _ hp;rw [Prod.mk.injEq] at e;exact ⟨i',f',e.1,e.2,ok⟩
theorem CaI.atN (h:CaI N B n t H c L) {i f:Nat} (hp:((i:Int),(f:Int))∈c.2.2.1):Okf N B n t c i f:=by
 obtain ⟨i',f',e1,e2,ok⟩:=h.at hp;have:i=i':=by omega
 have:f=f':=by omega
 subst_vars;exact ok
theorem CaI.one (h:CaI N B n t H c L) {i j f:Nat} (hi:((i:Int),(f:Int))∈c.2.2.1) (hj:((j:Int),(f:Int))∈c.2.2.1):i=j:=by
 have h1:=(h.atN hi).blk;have h2:=(h.atN hj).blk;omega
theorem CaI.get (h:CaI N B n t H c L) (i:Nat):(Y6 c.2.2.1 (i:Int)=false/\∀ v,((i:Int),v)∉c.2.2.1)\/∃ f:Nat,((i:Int),(f:Int))∈c.2.2.1/\Y6 c.2.2.1 (i:Int)=true/\Zp 0 c.2.2.1 (i:Int)=(f:Int)/\Okf N B n t c i f:=by
 cases q:Y6 c.2.2.1 (i:Int) with
 | false=>exact .inl ⟨rfl,fun v hv=>by rw [mhas_iff.2 ⟨v,hv⟩] at q; cases q⟩
 | true=>
  obtain ⟨v,hv⟩:=mhas_iff.1 q;obtain ⟨i',f,e1,rfl,ok⟩:=h.at hv;have:i=i':=by omega
  subst this;exact .inr ⟨f,hv,rfl,Wj h.mnd hv,ok⟩
theorem CaI.used (h:CaI N B n t H c L):c.2.2.1.length<=n:=by have:=h.tot; omega
theorem CaI.mono (h:CaI N B n t H c L) {t':Nat} (ht:t<=t'):CaI N B n t' H c L:=
 ⟨h.dsz,h.dim,h.frl,h.mnd,fun p hp=>by
  obtain ⟨i,f,e,ok⟩:=h.mok p hp;exact ⟨i,f,e,ok.hi,ok.hf,ok.blk,ok.len,⟨ok.pin.1,by have:=ok.pin.2; omega⟩,ok.emp⟩,h.emp,h.end_,h.hol,h.tot,h.chn,h.lok⟩
theorem CaI.dev (h:CaI N B n t H c L) {img:T0} (hl:img.length=N*B) (s:T1):CaI N B n t H ((c.1.1,img,s),c.2) L:=
 ⟨h.dsz,hl,h.frl,h.mnd,fun p hp=>by
  obtain ⟨i,f,e,ok⟩:=h.mok p hp;exact ⟨i,f,e,ok.hi,ok.hf,ok.blk,ok.len,ok.pin,ok.emp⟩,h.emp,h.end_,h.hol,h.tot,h.chn,h.lok⟩
theorem CaI.setfr (h:CaI N B n t H c L) {i f:Nat} (ha:((i:Int),(f:Int))∈c.2.2.1) {x:Fr8} (h1:x.1=(i:Int)) (h2:x.2.1.length=B) {t':Nat} (h3:0<=x.2.2.2/\x.2.2.2<=t') (ht:t<=t') {ch:Chn} {L':List Nat} (hc:ChI n ch L')
  (hL:∀ g,g∈L'↔if g=f then x.2.2.2=0 else g∈L):CaI N B n t' H (c.1,c.2.1.set f x,c.2.2.1,c.2.2.2.1,ch) L':=by
 have ok:=h.atN ha;have hfl:f<c.2.1.length:=by rw [h.frl]; exact ok.hf
 have g:∀ k,(c.2.1.set f x).getD k default=if f=k then x else c.2.1.getD k default:=fun k=>Xe hfl
 refine ⟨h.dsz,h.dim,by rw [length_set,h.frl],h.mnd,fun p hp=>?_,h.emp,h.end_,h.hol,h.tot,hc,fun k=>?_⟩
 ·obtain ⟨j,k,e,okk⟩:=h.mok p hp;refine ⟨j,k,e,okk.hi,okk.hf,?_,?_,?_,okk.emp⟩
  all_goals
   show _
   try dsimp only
   rw [g k];split
  ·rename_i q;subst q;have:i=j:=h.one ha (by rw [<- e]; exact hp);subst this; exact h1
  ·exact okk.blk
  ·exact h2
  ·exact okk.len
  ·exact h3
  ·exact ⟨okk.pin.1,by have:=okk.pin.2; omega⟩
 ·rw [hL k]
  try dsimp only
  rw [g k];by_cases q:k=f
  ·subst q;rw [iT rfl,iT rfl];exact ⟨fun e=>⟨⟨_,ha⟩,e⟩,fun e=>e.2⟩
  ·rw [iF q,iF (Ne.symm q)];exact h.lok k
theorem CaI.leave (h:CaI N B n t [] c L) {i f:Nat} (ha:((i:Int),(f:Int))∈c.2.2.1) (hn:n<=64) {ch:Chn} (hc:ChI n ch (L.erase f)):CaI N B n t [] (c.1,c.2.1.set f (0,[],false,0),Wo (i:Int) c.2.2.1,c.2.2.2.1 ++ [(f:Int)],ch) (L.erase f):=by
 have ok:=h.atN ha;have hfl:f<c.2.1.length:=by rw [h.frl]; exact ok.hf
 have g:∀ k,(c.2.1.set f (0,[],false,0)).getD k default=if f=k then (0,[],false,0) else c.2.1.getD k default:=fun k=>Xe hfl
 have hne:∀ {j k:Nat},((j:Int),(k:Int))∈c.2.2.1->(j:Int)≠(i:Int)->f≠k:=fun {j k} hjk hji e=>by
  subst e;exact hji (by rw [h.one ha hjk])
 refine ⟨h.dsz,h.dim,by rw [length_set,h.frl],(mdel_sub.map _).nodup h.mnd,fun p hp=>?_,fun x hx=>?_,?_,by simp,?_,hc,fun k=>?_⟩
 ·rw [Ui h.mnd] at hp;obtain ⟨j,k,e,okk⟩:=h.mok p hp.1;have hjk:((j:Int),(k:Int))∈c.2.2.1:=by rw [<- e]; exact hp.1
  have hk:f≠k:=hne hjk (by rw [e] at hp; exact hp.2);refine ⟨j,k,e,okk.hi,okk.hf,?_,?_,?_,?_⟩
  ·dsimp only; rw [g k,iF hk]; exact okk.blk
  ·dsimp only; rw [g k,iF hk]; exact okk.len
  ·dsimp only; rw [g k,iF hk]; exact okk.pin
  ·dsimp only;rw [List.mem_append,List.mem_singleton];rintro (q | q)
   ·exact okk.emp q
   ·exact hk (by omega)
 ·rcases List.mem_append.1 hx with q | q
  ·exact h.emp x q
  ·rw [List.mem_singleton] at q; exact ⟨f,q,ok.hf⟩
 ·exact List.nodup_append.2 ⟨h.end_,by simp,fun a hb b hb' e=>by rw [List.mem_singleton] at hb'; exact ok.emp (hb' ▸ e ▸ hb)⟩
 ·have h1:=h.tot;have h2:=Zdb (mhas_iff.2 ⟨_,ha⟩);simp only [lA,List.length_singleton,length_nil] at h1 ⊢;omega
 ·rw [h.chn.nd.mem_erase_iff]
  try dsimp only
  rw [g k];constructor
  ·rintro ⟨hk,hkL⟩;obtain ⟨⟨j,hj⟩,hp⟩:=(h.lok k).1 hkL;rw [iF (Ne.symm hk)];obtain ⟨j',k',e1,e2,okk⟩:=h.at hj;refine ⟨⟨j,(Ui h.mnd).2 ⟨hj,fun e=>hk ?_⟩⟩,hp⟩;have h1:Zp 0 c.2.2.1 (i:Int)=(f:Int):=Wj h.mnd ha;have h2:Zp 0 c.2.2.1 (i:Int)=(k:Int):=Wj h.mnd (by rw [<- show j=(i:Int) from e]; exact hj);omega
  ·rintro ⟨⟨j,hj⟩,hp⟩;rw [Ui h.mnd] at hj;obtain ⟨j',k',e1,e2,okk⟩:=h.at hj.1;have hk:f≠k:=hne (j:=j') (by rw [<- e1]; exact hj.1) (by rw [<- e1]; exact hj.2);rw [iF hk] at hp;exact ⟨Ne.symm hk,(h.lok k).2 ⟨⟨j,hj.1⟩,hp⟩⟩
theorem CaI.take (h:CaI N B n t [] c L) {E:T0} {f:Nat} (he:c.2.2.2.1=E ++ [(f:Int)]):CaI N B n t [f] (c.1,c.2.1,c.2.2.1,E,c.2.2.2.2) L:=by
 have hnd:=h.end_;rw [he] at hnd;have hnd2:=List.nodup_append.1 hnd;refine ⟨h.dsz,h.dim,h.frl,h.mnd,fun p hp=>?_,fun x hx=>h.emp x (by rw [he]; simp [hx]),hnd2.1,fun g hg=>?_,?_,h.chn,h.lok⟩
 ·obtain ⟨i,k,e,ok⟩:=h.mok p hp;exact ⟨i,k,e,ok.hi,ok.hf,ok.blk,ok.len,ok.pin,fun q=>ok.emp (by rw [he]; simp [show (k:Int)∈E from q])⟩
 ·rw [List.mem_singleton] at hg;subst hg;refine ⟨?_,fun q=>hnd2.2.2 _ q (g:Int) (by simp) rfl,fun i hi=>?_⟩
  ·obtain ⟨f',e,hf⟩:=h.emp (g:Int) (by rw [he]; simp);omega
  ·obtain ⟨j,k,e1,e2,ok⟩:=h.at hi;exact ok.emp (by rw [<- e2,he]; simp)
 ·have h1:=h.tot;rw [he] at h1;simp only [lA,List.length_singleton,length_nil] at h1 ⊢;omega
theorem CaI.come {f:Nat} (h:CaI N B n t [f] c L) {i:Nat} (hi:i<N) (hno:∀ v,((i:Int),v)∉c.2.2.1) {x:Fr8} (h1:x.1=(i:Int)) (h2:x.2.1.length=B) (h3:x.2.2.2=1) (ht:1<=t) {ch:Chn} (hc:ChI n ch L) :
  CaI N B n t [] (c.1,c.2.1.set f x,c.2.2.1 ++ [((i:Int),(f:Int))],c.2.2.2.1,ch) L:=by
 obtain ⟨hf,hfe,hfm⟩:=h.hol f (by simp);have hfl:f<c.2.1.length:=by rw [h.frl]; exact hf
 have g:∀ k,(c.2.1.set f x).getD k default=if f=k then x else c.2.1.getD k default:=fun k=>Xe hfl
 have hne:∀ {j:Int} {k:Nat},(j,(k:Int))∈c.2.2.1->f≠k:=fun {j k} hjk e=>hfm j (by rw [e]; exact hjk);refine ⟨h.dsz,h.dim,by rw [length_set,h.frl],?_,fun p hp=>?_,h.emp,h.end_,by simp,?_,hc,fun k=>?_⟩
 ·dsimp only;rw [List.map_append,List.nodup_append];refine ⟨h.mnd,by simp,fun a ha b hb e=>?_⟩;obtain ⟨p,hp,rfl⟩:=List.mem_map.1 ha;simp only [List.map_cons,List.map_nil,List.mem_singleton] at hb;exact hno p.2 (by rw [<- hb,<- e]; exact hp)
 ·rcases List.mem_append.1 hp with q | q
  ·obtain ⟨j,k,e,okk⟩:=h.mok p q;have hk:f≠k:=hne (j:=(j:Int)) (by rw [<- e]; exact q);refine ⟨j,k,e,okk.hi,okk.hf,?_,?_,?_,okk.emp⟩
   ·dsimp only; rw [g k,iF hk]; exact okk.blk
   ·dsimp only; rw [g k,iF hk]; exact okk.len
   ·dsimp only; rw [g k,iF hk]; exact okk.pin
  ·rw [List.mem_singleton] at q;refine ⟨i,f,q,hi,hf,?_,?_,?_,hfe⟩
   ·dsimp only; rw [g f,iT rfl]; exact h1
   ·dsimp only; rw [g f,iT rfl]; exact h2
   ·dsimp only; rw [g f,iT rfl,h3]; omega
 ·have h1:=h.tot;simp only [lA,List.length_singleton,length_nil] at h1 ⊢;omega
 ·dsimp only;rw [g k];constructor
  ·intro hk;obtain ⟨⟨j,hj⟩,hp⟩:=(h.lok k).1 hk;rw [iF (hne hj)];exact ⟨⟨j,by simp [hj]⟩,hp⟩
  ·rintro ⟨⟨j,hj⟩,hp⟩;rcases List.mem_append.1 hj with q | q
   ·rw [iF (hne q)] at hp;exact (h.lok k).2 ⟨⟨j,q⟩,hp⟩
   ·rw [List.mem_singleton,Prod.mk.injEq] at q;have:f=k:=by omega
    rw [iT this,h3] at hp;omega
end
structure Siz (N B n:Nat):Prop where
 hB:1<=B
 hN:1<=N
 hNB:N*B<=4294967296
 hn:1<=n
 h64:n<=64
section
variable {N B n t:Nat} {H:List Nat} {c:Ca} {L:List Nat}
theorem Siz.N_le (z:Siz N B n):N<=4294967296:=Nat.le_trans (Nat.le_mul_of_pos_right N z.hB) z.hNB
theorem Siz.B_le (z:Siz N B n):B<=4294967296:=Nat.le_trans (Nat.le_mul_of_pos_left B z.hN) z.hNB
theorem Zd2 (z:Siz N B n) (h:CaI N B n t [] c L) {i f:Nat} (ha:((i:Int),(f:Int))∈c.2.2.1):∃ ch,Q20.f c (f:Int)=some (c.1,c.2.1.set f (0,[],false,0),Wo (i:Int) c.2.2.1,c.2.2.2.1 ++ [(f:Int)],ch)/\CaI N B n t [] (c.1,c.2.1.set f (0,[],false,0),Wo (i:Int) c.2.2.1,c.2.2.2.1 ++ [(f:Int)],ch) (L.erase f):=by
 have ok:=h.atN ha;have h64:=z.h64;obtain ⟨r,ch,e,hc⟩:=Zil h.chn ok.hf (by omega);have hfl:=h.frl;have htot:=h.tot;have hf:=ok.hf;refine ⟨ch,?_,h.leave ha h64 hc⟩;unfold Q20.f;rw [iO,show Q24.f (c.2.2.2.2.1,c.2.2.2.2.2) (f:Int)=_ from e,bS,iT (by simp only [List.length_singleton]; omega),show (gt c.2.1 (f:Int)).1=(i:Int) by rw [Zw]; exact ok.blk,tN]
theorem Zmf (z:Siz N B n) (h:CaI N B n t H c L) {i f:Nat} (ha:((i:Int),(f:Int))∈c.2.2.1):Q54.f c.1 (gt c.2.1 (f:Int)).1 (gt c.2.1 (f:Int)).2.1=some (0,c.1.1,patch c.1.2.1 (i*B) B (gt c.2.1 (f:Int)).2.1,c.1.2.2.1,uH.wrap (c.1.2.2.2+1)):=by
 have ok:=h.atN ha;have hi:=ok.hi;have hNl:=z.N_le;rw [show (gt c.2.1 (f:Int)).1=(i:Int) by rw [Zw]; exact ok.blk];have:=Zo6 (b:=(gt c.2.1 (f:Int)).2.1) (s:=c.1.2.2) z.hB z.hN h.dim z.hNB (show i<4294967296 by omega);rw [<- h.dsz] at this;rw [show Q54.f c.1 (i:Int) (gt c.2.1 (f:Int)).2.1=_ from this,iQ,iT (by rw [Zw]; exact ok.len)]
theorem CaI.back (z:Siz N B n) (h:CaI N B n t H c L) {i f:Nat} (ha:((i:Int),(f:Int))∈c.2.2.1) (s:T1):CaI N B n t H ((c.1.1,patch c.1.2.1 (i*B) B (gt c.2.1 (f:Int)).2.1,s),c.2.1.set f ((gt c.2.1 (f:Int)).1,(gt c.2.1 (f:Int)).2.1,false,(gt c.2.1 (f:Int)).2.2.2),c.2.2) L:=by
 have ok:=h.atN ha;have g:gt c.2.1 (f:Int)=c.2.1.getD f default:=Zw _ _;have h1:=h.setfr ha (x:=((gt c.2.1 (f:Int)).1,(gt c.2.1 (f:Int)).2.1,false,(gt c.2.1 (f:Int)).2.2.2)) (by rw [g]; exact ok.blk) (by rw [g]; exact ok.len) (by rw [g]; exact ok.pin) (Nat.le_refl t) h.chn (fun k=>by
  split
  ·rename_i q;subst q;rw [h.lok k,g];exact ⟨fun e=>e.2,fun e=>⟨⟨_,ha⟩,e⟩⟩
  ·exact Iff.rfl)
 exact h1.dev (Znp h.dim ok.hi) s
theorem Zpi (z:Siz N B n) (h:CaI N B n t [] c L) (hw:0<=c.1.2.2.2/\c.1.2.2.2<=1000000000):Q22.f c=some (0,false,c)\/
  ∃(f:Nat) (c':Ca) (L':List Nat),Q22.f c=some ((f:Int),true,c')/\CaI N B n t [f] c' L'/\c'.1.2.2.1=c.1.2.2.1/\(c.1.2.2.2<=c'.1.2.2.2/\c'.1.2.2.2<=c.1.2.2.2+1)/\∀ p∈c'.2.2.1,p∈c.2.2.1:=by
 have h64:=z.h64;have htot:=h.tot;have hfl:=h.frl;have wr:uH.wrap (c.1.2.2.2+1)=c.1.2.2.2+1:=by
  obtain ⟨m,hm⟩:=Int.eq_ofNat_of_zero_le hw.1;have:c.1.2.2.2+1=((m+1:Nat):Int):=by omega
  rw [this];simp [IntKind.wrap,IntKind.bits,IntKind.signed];omega
 by_cases he:c.2.2.2.1=[]
 ·have e0:(decide ((c.2.2.2.1.length:Int)=0))=true:=by rw [he]; rfl
  rcases List.eq_nil_or_concat L with rfl | ⟨L0,q,hq⟩
  ·left;unfold Q22.f;rw [iT e0,show Q26.f (c.2.2.2.2.1,c.2.2.2.2.2)=_ from Zf8 h.chn,bS,iU]
  ·right;rw [List.concat_eq_append] at hq;subst hq;obtain ⟨⟨j,hj⟩,hp⟩:=(h.lok q).1 (by simp);obtain ⟨i,q',rfl,e2,ok⟩:=h.at hj;have:q=q':=by omega
   subst this;have hf:=ok.hf;unfold Q22.f;rw [iT e0,show Q26.f (c.2.2.2.2.1,c.2.2.2.2.2)=_ from Zpu h.chn (by omega),bS,vS]
   try dsimp only
   rw [iO];have one:w64 ((([] ++ [(q:Int)]:List Int).length:Int) - 1)=0:=by
    show w64 (((1:Nat):Int) - 1)=0;decide
   by_cases hd:(gt c.2.1 (q:Int)).2.2.1=true
   ·have hb:=h.back z hj (c.1.2.2.1,c.1.2.2.2+1);obtain ⟨ch,e,hl⟩:=Zd2 z hb (by exact hj);rw [iT hd,show Q54.f (c.1.1,c.1.2.1,(c.1.2.2.1,c.1.2.2.2)) (gt c.2.1 (q:Int)).1 (gt c.2.1 (q:Int)).2.1=_ from Zmf z h hj,bS]
    try dsimp only
    rw [wr,tN,show Q20.f ((c.1.1,patch c.1.2.1 (i*B) B (gt c.2.1 (q:Int)).2.1,c.1.2.2.1,c.1.2.2.2+1),c.2.1.set q ((gt c.2.1 (q:Int)).1,(gt c.2.1 (q:Int)).2.1,false,(gt c.2.1 (q:Int)).2.2.2),c.2.2.1,c.2.2.2.1,c.2.2.2.2.1,c.2.2.2.2.2) (q:Int)=_ from e,bS]
    try dsimp only
    rw [he,one,iU,iU];refine ⟨q,_,_,rfl,hl.take (E:=[]) (by dsimp only; rw [he]),rfl,by dsimp only; omega,fun p hp=>mdel_sub.subset hp⟩
   ·obtain ⟨ch,e,hl⟩:=Zd2 z h hj;rw [iF hd,show Q20.f ((c.1.1,c.1.2.1,(c.1.2.2.1,c.1.2.2.2)),c.2.1,c.2.2.1,c.2.2.2.1,(c.2.2.2.2.1,c.2.2.2.2.2)) (q:Int)=_ from e,bS]
    try dsimp only
    rw [he,one,iU,iU];refine ⟨q,_,_,rfl,hl.take (E:=[]) (by dsimp only; rw [he]),rfl,by dsimp only; omega,fun p hp=>mdel_sub.subset hp⟩
 ·right;obtain ⟨E,x,hx⟩:∃ E x,c.2.2.2.1=E ++ [x]:=by
   rcases List.eq_nil_or_concat c.2.2.2.1 with e | ⟨E,x,e⟩
   ·exact absurd e he
   ·exact ⟨E,x,by rw [e,List.concat_eq_append]⟩
  obtain ⟨f,rfl,hf⟩:=h.emp x (by rw [hx]; simp);have hll:c.2.2.2.1.length=E.length+1:=by rw [hx]; simp
  have e1:w64 ((c.2.2.2.1.length:Int) - 1)=(E.length:Int):=by rw [wI2]; omega
  unfold Q22.f;rw [iN,e1,iO,iO,tN];have e2:gt c.2.2.2.1 (E.length:Int)=(f:Int):=by
   rw [Zw,hx,List.getD_eq_getElem?_getD,List.getElem?_append_right (Nat.le_refl _)]; simp
  have e3:c.2.2.2.1.take E.length=E:=by rw [hx,List.take_left]
  rw [e2,e3];exact ⟨f,_,_,rfl,h.take hx,rfl,by dsimp only; omega,fun p hp=>hp⟩
end
section
variable {N B n t:Nat} {c:Ca} {L:List Nat}
structure Few (c:Ca):Prop where
 rd:0<=c.1.2.2.1/\c.1.2.2.1<=100000000
 wr:0<=c.1.2.2.2/\c.1.2.2.2<=100000000
theorem Zpj {x:Int} (h:0<=x/\x<=1000000000):uH.wrap (x+1)=x+1:=by
 obtain ⟨m,hm⟩:=Int.eq_ofNat_of_zero_le h.1;have:x+1=((m+1:Nat):Int):=by omega
 rw [this];simp [IntKind.wrap,IntKind.bits,IntKind.signed];omega
theorem Zqs (z:Siz N B n) {H:List Nat} (h:CaI N B n t H c L):Q51.f c.1=some (N:Int):=by
 have:=Jt (s:=c.1.2.2) z.hB h.dim z.hNB;rw [<- h.dsz] at this;exact this
theorem Zmr (z:Siz N B n) {H:List Nat} (h:CaI N B n t H c L) (i:Nat) (hi:i<4294967296):Q23.f c (i:Int)=some (if N<=i then 4 else 0):=by
 have hN:=z.N_le;unfold Q23.f Q21.f;rw [bS,vS,show Q51.f (c.1.1,c.1.2.1,(c.1.2.2.1,c.1.2.2.2))=_ from Zqs z h,bS,wI2 (x:=(i:Int))];by_cases q:N<=i
 ·rw [iP,iT q]
 ·rw [iN,iF q]
theorem Zsg (z:Siz N B n) {H:List Nat} (h:CaI N B n t H c L) {i:Nat} (hi:i<N):Q53.f c.1 (i:Int)=some (blk c.1.2.1 B i,0,(c.1.1,c.1.2.1,uH.wrap (c.1.2.2.1+1),c.1.2.2.2)):=by
 have hN:=z.N_le;have:=Zp8 (s:=c.1.2.2) z.hB z.hN h.dim z.hNB (show i<4294967296 by omega);rw [<- h.dsz] at this;rw [show Q53.f c.1 (i:Int)=_ from this,iQ]
theorem Zf6 {es:TR} {x v:Int} (h:∀ v,(x,v)∉es):X5 x v es=es ++ [(x,v)]:=Zc7 (by
 cases q:Y6 es x with
 | false=>rfl
 | true=>obtain ⟨v,hv⟩:=mhas_iff.1 q; exact absurd hv (h v))
theorem Zf7 (h:CaI N B n t [] c L) {f:Nat} {p:Int} (hp:p≠0) (g:Nat):g∈L.erase f↔if g=f then p=0 else g∈L:=by
 rw [h.chn.nd.mem_erase_iff];split
 ·rename_i e; exact ⟨fun q=>absurd e q.1,fun q=>absurd q hp⟩
 ·rename_i e; exact ⟨fun q=>q.2,fun q=>⟨e,q⟩⟩
theorem Zn9 (h:CaI N B n t [] c L) {i f:Nat} (ha:((i:Int),(f:Int))∈c.2.2.1) (g:Nat):g∈L↔if g=f then (c.2.1.getD f default).2.2.2=0 else g∈L:=by
 split
 ·rename_i q;subst q;rw [h.lok g];exact ⟨fun e=>e.2,fun e=>⟨⟨_,ha⟩,e⟩⟩
 ·exact Iff.rfl
end
section
variable {N B n t:Nat} {c:Ca} {L:List Nat}
theorem Zsd (z:Siz N B n) {img:T0} (hl:img.length=N*B) (s:T1) {ch:Chn} (hc:ChI n ch []):CaI N B n 0 [] (((B:Int),img,s),List.replicate n (0,[],false,0),[],(List.range n).map (fun(i:Nat)=>(i:Int)),ch) []:=by
 refine ⟨rfl,hl,by simp,by simp,by simp,fun x hx=>?_,?_,by simp,by simp,hc,by simp⟩
 ·obtain ⟨i,hi,rfl⟩:=List.mem_map.1 hx;exact ⟨i,rfl,List.mem_range.1 hi⟩
 ·exact List.Pairwise.map _ (fun a b hne e=>hne (by have:(a:Int)=(b:Int):=e; omega)) List.nodup_range
end
def upd {α:Type} (g:Nat->α) (i:Nat) (v:α):Nat->α:=fun j=>if j=i then v else g j
theorem Z5 {α:Type} (g:Nat->α) (i:Nat) (v:α):upd g i v i=v:=iT rfl
theorem Yh {α:Type} {g:Nat->α} {i j:Nat} {v:α} (h:j≠i:=by omega):upd g i v j=g j:=iF h
structure Fm where
 b:List Int
 d:Bool
 p:Nat
structure MC where
 img:List Int
 rd:Int
 wr:Int
 fr:Nat->Option Fm
 used:Nat
 row:List Nat
def fm (x:Fr8):Fm:=⟨x.2.1,x.2.2.1,x.2.2.2.toNat⟩
def Xu (c:Ca) (i:Nat):Option Fm:=if Y6 c.2.2.1 (i:Int)=true then some (fm (c.2.1.getD (Zp 0 c.2.2.1 (i:Int)).toNat default)) else none
def We (c:Ca) (f:Nat):Nat:=(c.2.1.getD f default).1.toNat
def Z6 (c:Ca) (L:List Nat):MC:=⟨c.1.2.1,c.1.2.2.1,c.1.2.2.2,Xu c,c.2.2.1.length,L.map (We c)⟩
namespace MC
def evict (B:Nat) (m:MC) (q:Nat):MC:=match m.fr q with
 | none=>m
 | some x=>⟨if x.d=true then patch m.img (q*B) B x.b else m.img,m.rd,if x.d=true then m.wr+1 else m.wr,upd m.fr q none,m.used - 1,m.row.erase q⟩
def room (B n:Nat) (m:MC):Option MC:=if m.used<n then some m else match m.row.getLast? with
 | none=>none
 | some q=>some (m.evict B q)
def come (m:MC) (i:Nat) (x:Fm):MC:=⟨m.img,m.rd,m.wr,upd m.fr i (some x),m.used+1,m.row⟩
def put (m:MC) (i:Nat) (x:Fm):MC:=⟨m.img,m.rd,m.wr,upd m.fr i (some x),m.used,m.row⟩
def cut (m:MC) (i:Nat):MC:=⟨m.img,m.rd,m.wr,m.fr,m.used,m.row.erase i⟩
def pin (N B n:Nat) (m:MC) (i:Nat):Int×MC:=
 if N<=i then (4,m) else match m.fr i with
 | some x=>(0,(m.put i ⟨x.b,x.d,x.p+1⟩).cut i)
 | none=>match m.room B n with
  | none=>(7,m)
  | some k=>(0,(⟨k.img,k.rd+1,k.wr,k.fr,k.used,k.row⟩:MC).come i ⟨blk k.img B i,false,1⟩)
def fresh (N B n:Nat) (m:MC) (i:Nat):Int×MC:=
 if N<=i then (4,m) else match m.fr i with
 | some x=>if 0<x.p then (8,m) else (0,(m.put i ⟨List.replicate B 0,true,1⟩).cut i)
 | none=>match m.room B n with
  | none=>(7,m)
  | some k=>(0,k.come i ⟨List.replicate B 0,true,1⟩)
def unpin (m:MC) (i:Nat):Int×MC:=match m.fr i with
 | none=>(8,m)
 | some x=>if x.p=0 then (8,m) else (0,if x.p=1 then ⟨m.img,m.rd,m.wr,upd m.fr i (some ⟨x.b,x.d,0⟩),m.used,i :: m.row⟩ else m.put i ⟨x.b,x.d,x.p - 1⟩)
def write (B:Nat) (m:MC) (i:Nat) (b:T0):Int×MC:=match m.fr i with
 | none=>(8,m)
 | some x=>if x.p=0 then (8,m) else if b.length=B then (0,m.put i ⟨b,true,x.p⟩) else (3,m)
def read (m:MC) (i:Nat):List Int×Int:=match m.fr i with
 | none=>([],8)
 | some x=>if x.p=0 then ([],8) else (x.b,0)
end MC
theorem MC.ext' {a b:MC} (h1:a.img=b.img) (h2:a.rd=b.rd) (h3:a.wr=b.wr) (h4:∀ i,a.fr i=b.fr i) (h5:a.used=b.used) (h6:a.row=b.row):a=b:=by
 cases a; cases b;simp only at h1 h2 h3 h4 h5 h6;subst h1 h2 h3 h5 h6;have:=funext h4;subst this;rfl
theorem Zbo {g:Nat->Nat}:∀ {L:List Nat} {a:Nat},(∀ x∈L,g x=g a->x=a)->(L.erase a).map g=(L.map g).erase (g a)
 | [],_,_=>rfl
 | x :: L,a,h=>by
  rw [List.map_cons,List.erase_cons,List.erase_cons];by_cases q:x=a
  ·subst q; simp
  ·have:¬ g x=g a:=fun e=>q (h x (by simp) e);simp only [beq_iff_eq,q,this,if_false,List.map_cons];rw [Zbo fun y hy=>h y (by simp [hy])]
section
variable {N B n t:Nat} {H:List Nat} {c:Ca} {L:List Nat}
theorem V7 (h:CaI N B n t H c L) {i f:Nat} (ha:((i:Int),(f:Int))∈c.2.2.1):Xu c i=some (fm (c.2.1.getD f default)):=by
 unfold Xu;rw [iT (mhas_iff.2 ⟨_,ha⟩),Wj h.mnd ha,tN]
theorem U6 {i:Nat} (h:∀ v,((i:Int),v)∉c.2.2.1):Xu c i=none:=by
 unfold Xu;rw [iF fun q=>by obtain ⟨v,hv⟩:=mhas_iff.1 q; exact h v hv]
theorem Vu (h:CaI N B n t [] c L) {f:Nat} (hf:f∈L):∃ i:Nat,((i:Int),(f:Int))∈c.2.2.1/\We c f=i/\(c.2.1.getD f default).2.2.2=0/\Okf N B n t c i f:=by
 obtain ⟨⟨j,hj⟩,hp⟩:=(h.lok f).1 hf;obtain ⟨i,f',e1,e2,ok⟩:=h.at hj;have:f=f':=by omega
 subst this;refine ⟨i,by rw [<- e1]; exact hj,?_,hp,ok⟩;unfold We;rw [ok.blk,tN]
theorem Ge (h:CaI N B n t H c L) {i f:Nat} (ha:((i:Int),(f:Int))∈c.2.2.1):We c f=i:=by
 unfold We; rw [(h.atN ha).blk,tN]
theorem Zb4 (h:CaI N B n t H c L) {i f f':Nat} (h1:((i:Int),(f:Int))∈c.2.2.1) (h2:((i:Int),(f':Int))∈c.2.2.1):f=f':=by
 have a1:=Wj (d:=0) h.mnd h1;have a2:=Wj (d:=0) h.mnd h2;omega
theorem Bk (h:CaI N B n t [] c L) {i f:Nat} (ha:((i:Int),(f:Int))∈c.2.2.1):(L.erase f).map (We c)=(L.map (We c)).erase i:=by
 have e:=Ge h ha
 conv=>rhs; rw [<- e]
 refine Zbo fun x hx q=>?_;obtain ⟨j,hj,e2,_⟩:=Vu h hx;have:j=i:=by omega
 subst this;exact Zb4 h hj ha
theorem Zqn (h:CaI N B n t [] c L) {i f:Nat} (ha:((i:Int),(f:Int))∈c.2.2.1):i∈L.map (We c)↔f∈L:=by
 constructor
 ·intro q;obtain ⟨x,hx,e⟩:=List.mem_map.1 q;obtain ⟨j,hj,e2,_⟩:=Vu h hx;have:j=i:=by omega
  subst this;rw [<- Zb4 h hj ha]; exact hx
 ·intro q;exact List.mem_map.2 ⟨f,q,Ge h ha⟩
theorem Zgi {f:Nat} {x:Fr8} (hf:f<c.2.1.length) {d:Dv} {mp:TR} {E:T0} {ch:Chn} (k:Nat):We (d,c.2.1.set f x,mp,E,ch) k=if f=k then x.1.toNat else We c k:=by
 unfold We
 try dsimp only
 rw [Xe hf];split <;> rfl
theorem Vg {f:Nat} {x:Fr8} (hf:f<c.2.1.length) (hx:x.1.toNat=We c f) {d:Dv} {mp:TR} {E:T0} {ch:Chn} (M:List Nat):M.map (We (d,c.2.1.set f x,mp,E,ch))=M.map (We c):=List.map_congr_left fun k _=>by
 rw [Zgi hf];split
 ·rename_i q; rw [hx,q]
 ·rfl
theorem Jf {f:Nat} {x:Fr8} (hf:f<c.2.1.length) {d:Dv} {mp:TR} {E:T0} {ch:Chn} {M:List Nat} (hM:f∉M):M.map (We (d,c.2.1.set f x,mp,E,ch))=M.map (We c):=List.map_congr_left fun k hk=>by
 rw [Zgi hf,iF fun q=>hM (by rw [q]; exact hk)]
theorem U7 (h:CaI N B n t H c L) {i f:Nat} (ha:((i:Int),(f:Int))∈c.2.2.1) {x:Fr8} {d:Dv} {E:T0} {ch:Chn} (j:Nat):Xu (d,c.2.1.set f x,c.2.2.1,E,ch) j=upd (Xu c) i (some (fm x)) j:=by
 have ok:=h.atN ha;have hfl:f<c.2.1.length:=by rw [h.frl]; exact ok.hf
 by_cases q:j=i
 ·subst q;rw [Z5];unfold Xu
  try dsimp only
  rw [iT (mhas_iff.2 ⟨_,ha⟩),Wj h.mnd ha,tN,Xe hfl,iT rfl]
 ·rw [Yh q];unfold Xu
  try dsimp only
  split
  ·rename_i hm;obtain ⟨v,hv⟩:=mhas_iff.1 hm;obtain ⟨j',f',e1,rfl,ok'⟩:=h.at hv;have e3:j=j':=by omega
   subst e3;rw [Wj h.mnd hv,tN,Xe hfl,iF];intro e; subst e; exact q (h.one hv ha)
  ·rfl
theorem Zgs (h:CaI N B n t H c L) (i j:Nat):Y6 (Wo (i:Int) c.2.2.1) (j:Int)=(Y6 c.2.2.1 (j:Int) && decide (j≠i)):=by
 rw [Bool.eq_iff_iff,mhas_iff,Bool.and_eq_true,mhas_iff,dE];constructor
 ·rintro ⟨v,hv⟩;rw [Ui h.mnd] at hv;exact ⟨⟨v,hv.1⟩,fun e=>hv.2 (by rw [e])⟩
 ·rintro ⟨⟨v,hv⟩,e⟩;exact ⟨v,(Ui h.mnd).2 ⟨hv,fun q=>e (by have:(j:Int)=i:=q; omega)⟩⟩
theorem Zej (h:CaI N B n t H c L) {i f:Nat} (ha:((i:Int),(f:Int))∈c.2.2.1) {x:Fr8} {d:Dv} {E:T0} {ch:Chn} (j:Nat):Xu (d,c.2.1.set f x,Wo (i:Int) c.2.2.1,E,ch) j=upd (Xu c) i none j:=by
 have ok:=h.atN ha;have hfl:f<c.2.1.length:=by rw [h.frl]; exact ok.hf
 by_cases q:j=i
 ·subst q;rw [Z5];unfold Xu
  try dsimp only
  rw [iF (by rw [Zgs h]; simp)]
 ·rw [Yh q];unfold Xu
  try dsimp only
  rw [Zgs h];by_cases hm:Y6 c.2.2.1 (j:Int)=true
  ·obtain ⟨v,hv⟩:=mhas_iff.1 hm;obtain ⟨j',f',e1,rfl,ok'⟩:=h.at hv;have e3:j=j':=by omega
   subst e3;have hv':((j:Int),(f':Int))∈Wo (i:Int) c.2.2.1:=(Ui h.mnd).2 ⟨hv,fun e=>q (by have:(j:Int)=i:=e; omega)⟩;rw [iT (by rw [hm]; simp [q]),iT hm,Wj ((mdel_sub.map _).nodup h.mnd) hv',Wj h.mnd hv,tN,Xe hfl,iF];intro e; subst e; exact q (h.one hv ha)
  ·rw [iF hm,iF (by simp [hm])]
theorem Zfq {f:Nat} (h:CaI N B n t [f] c L) {i:Nat} (hno:∀ v,((i:Int),v)∉c.2.2.1) {x:Fr8} {d:Dv} {E:T0} {ch:Chn} (j:Nat):Xu (d,c.2.1.set f x,c.2.2.1 ++ [((i:Int),(f:Int))],E,ch) j=upd (Xu c) i (some (fm x)) j:=by
 obtain ⟨hf,hfe,hfm⟩:=h.hol f (by simp);have hfl:f<c.2.1.length:=by rw [h.frl]; exact hf
 have hnd:((c.2.2.1 ++ [((i:Int),(f:Int))]).map Prod.fst).Nodup:=by
  rw [List.map_append,List.nodup_append];refine ⟨h.mnd,by simp,fun a ha b hb e=>?_⟩;obtain ⟨p,hp,rfl⟩:=List.mem_map.1 ha;simp only [List.map_cons,List.map_nil,List.mem_singleton] at hb;exact hno p.2 (by rw [<- hb,<- e]; exact hp)
 unfold Xu
 try dsimp only
 by_cases q:j=i
 ·subst q;have hv:((j:Int),(f:Int))∈c.2.2.1 ++ [((j:Int),(f:Int))]:=by simp
  rw [Z5,iT (mhas_iff.2 ⟨_,hv⟩),Wj hnd hv,tN,Xe hfl,iT rfl]
 ·rw [Yh q];by_cases hm:Y6 c.2.2.1 (j:Int)=true
  ·obtain ⟨v,hv⟩:=mhas_iff.1 hm;obtain ⟨j',f',e1,rfl,ok'⟩:=h.at hv;have e3:j=j':=by omega
   subst e3;have hv':((j:Int),(f':Int))∈c.2.2.1 ++ [((i:Int),(f:Int))]:=by simp [hv]
   rw [iT (mhas_iff.2 ⟨_,hv'⟩),iT hm,Wj hnd hv',Wj h.mnd hv,tN,Xe hfl,iF];intro e; subst e; exact hfm _ hv
  ·rw [iF hm,iF];intro hm2;obtain ⟨v,hv⟩:=mhas_iff.1 hm2;rcases List.mem_append.1 hv with hv | hv
   ·exact hm (mhas_iff.2 ⟨v,hv⟩)
   ·rw [List.mem_singleton,Prod.mk.injEq] at hv;exact q (by omega)
theorem Zq4 (h:CaI N B n t H c L) {i:Nat} {x:Fm} (hx:Xu c i=some x):i<N/\x.b.length=B/\x.p<=t:=by
 unfold Xu at hx;split at hx
 ·rename_i hm;obtain ⟨v,hv⟩:=mhas_iff.1 hm;obtain ⟨j',f',e1,rfl,ok'⟩:=h.at hv;have e3:i=j':=by omega
  subst e3;rw [Wj h.mnd hv,tN] at hx;injection hx with hx;subst hx;refine ⟨ok'.hi,ok'.len,?_⟩;have:=ok'.pin;unfold fm
  try dsimp only
  omega
 ·cases hx
end
namespace MC
section
variable {N B n i:Nat} {m k:MC} {x:Fm} {b:T0}
theorem pin_out (h:N<=i):m.pin N B n i=(4,m):=by unfold pin; rw [iT h]
theorem pin_hit (h:¬ N<=i) (e:m.fr i=some x):m.pin N B n i=(0,(m.put i ⟨x.b,x.d,x.p+1⟩).cut i):=by unfold pin; rw [iF h,e]
theorem pin_full (h:¬ N<=i) (e:m.fr i=none) (r:m.room B n=none):m.pin N B n i=(7,m):=by unfold pin; rw [iF h,e,r]
theorem pin_miss (h:¬ N<=i) (e:m.fr i=none) (r:m.room B n=some k):m.pin N B n i=(0,(⟨k.img,k.rd+1,k.wr,k.fr,k.used,k.row⟩:MC).come i ⟨blk k.img B i,false,1⟩):=by unfold pin; rw [iF h,e,r]
theorem fresh_out (h:N<=i):m.fresh N B n i=(4,m):=by unfold fresh; rw [iT h]
theorem fresh_pin (h:¬ N<=i) (e:m.fr i=some x) (p:0<x.p):m.fresh N B n i=(8,m):=by unfold fresh; rw [iF h,e]; exact iT p
theorem fresh_hit (h:¬ N<=i) (e:m.fr i=some x) (p:¬ 0<x.p):m.fresh N B n i=(0,(m.put i ⟨List.replicate B 0,true,1⟩).cut i):=by unfold fresh; rw [iF h,e]; exact iF p
theorem fresh_full (h:¬ N<=i) (e:m.fr i=none) (r:m.room B n=none):m.fresh N B n i=(7,m):=by unfold fresh; rw [iF h,e,r]
theorem fresh_miss (h:¬ N<=i) (e:m.fr i=none) (r:m.room B n=some k):m.fresh N B n i=(0,k.come i ⟨List.replicate B 0,true,1⟩):=by unfold fresh; rw [iF h,e,r]
theorem unpin_no (e:m.fr i=none):m.unpin i=(8,m):=by unfold unpin; rw [e]
theorem unpin_out (e:m.fr i=some x) (p:x.p=0):m.unpin i=(8,m):=by unfold unpin; rw [e]; exact iT p
theorem unpin_one (e:m.fr i=some x) (p:x.p=1):m.unpin i=(0,⟨m.img,m.rd,m.wr,upd m.fr i (some ⟨x.b,x.d,0⟩),m.used,i :: m.row⟩):=by unfold unpin; rw [e]; dsimp only; rw [iQ,iT p]
theorem unpin_more (e:m.fr i=some x) (p:x.p≠0) (q:x.p≠1):m.unpin i=(0,m.put i ⟨x.b,x.d,x.p - 1⟩):=by unfold unpin; rw [e]; dsimp only; rw [iF p,iF q]
theorem write_no (e:m.fr i=none):m.write B i b=(8,m):=by unfold write; rw [e]
theorem write_out (e:m.fr i=some x) (p:x.p=0):m.write B i b=(8,m):=by unfold write; rw [e]; exact iT p
theorem write_form (e:m.fr i=some x) (p:x.p≠0) (q:b.length≠B):m.write B i b=(3,m):=by unfold write; rw [e]; dsimp only; rw [iF p,iF q]
theorem write_hit (e:m.fr i=some x) (p:x.p≠0) (q:b.length=B):m.write B i b=(0,m.put i ⟨b,true,x.p⟩):=by unfold write; rw [e]; dsimp only; rw [iF p,iT q]
theorem read_no (e:m.fr i=none):m.read i=([],8):=by unfold read; rw [e]
theorem read_out (e:m.fr i=some x) (p:x.p=0):m.read i=([],8):=by unfold read; rw [e]; exact iT p
theorem read_hit (e:m.fr i=some x) (p:x.p≠0):m.read i=(x.b,0):=by unfold read; rw [e]; exact iF p
theorem evict_eq (e:m.fr i=some x):m.evict B i=⟨if x.d=true then patch m.img (i*B) B x.b else m.img,m.rd,if x.d=true then m.wr+1 else m.wr,upd m.fr i none,m.used - 1,m.row.erase i⟩:=by unfold evict; rw [e]
end
end MC
section
variable {N B n t:Nat} {H:List Nat} {c:Ca} {L:List Nat}
theorem Zqf {α:Type} (g:Nat->α) (i:Nat) (u v:α) (j:Nat):upd (upd g i u) i v j=upd g i v j:=by unfold upd; split <;> rfl
theorem Zm5 {α:Type} {g g':Nat->α} (h:∀ j,g j=g' j) (i:Nat) (v:α) (j:Nat):upd g i v j=upd g' i v j:=by unfold upd; split; rfl; exact h j
theorem Zi9 (h:CaI N B n t [] c L) (f:Nat):f∉L.erase f:=fun q=>(h.chn.nd.mem_erase_iff.1 q).1 rfl
theorem Zpq (z:Siz N B n) (h:CaI N B n t [] c L) (hw:0<=c.1.2.2.2/\c.1.2.2.2<=1000000000):(Q22.f c=some (0,false,c)/\(Z6 c L).room B n=none)\/
  ∃(f:Nat) (c':Ca) (L':List Nat),Q22.f c=some ((f:Int),true,c')/\CaI N B n t [f] c' L'/\(Z6 c L).room B n=some (Z6 c' L')/\f∉L':=by
 have h64:=z.h64;have htot:=h.tot;have hfl:=h.frl;have wr:uH.wrap (c.1.2.2.2+1)=c.1.2.2.2+1:=Zpj hw;have hru:(Z6 c L).used=c.2.2.1.length:=rfl;by_cases he:c.2.2.2.1=[]
 ·have e0:(decide ((c.2.2.2.1.length:Int)=0))=true:=by rw [he]; rfl
  have eu:¬ (Z6 c L).used<n:=by rw [hru]; rw [he] at htot; simp only [length_nil] at htot; omega
  rcases List.eq_nil_or_concat L with rfl | ⟨L0,q,hq⟩
  ·left;refine ⟨?_,?_⟩
   ·unfold Q22.f;rw [iT e0,show Q26.f (c.2.2.2.2.1,c.2.2.2.2.2)=_ from Zf8 h.chn,bS,iU]
   ·unfold MC.room;rw [iF eu];rfl
  ·right;rw [List.concat_eq_append] at hq;subst hq;obtain ⟨⟨j,hj⟩,hp⟩:=(h.lok q).1 (by simp);obtain ⟨i,q',rfl,e2,ok⟩:=h.at hj;have:q=q':=by omega
   subst this;have hf:=ok.hf;have hqn:q∉(L0 ++ [q]).erase q:=Zi9 h q;have hfr:=V7 h hj;have g:gt c.2.1 (q:Int)=c.2.1.getD q default:=Zw _ _;have hrm:(Z6 c (L0 ++ [q])).room B n=some ((Z6 c (L0 ++ [q])).evict B i):=by
    unfold MC.room;rw [iF eu];have:(Z6 c (L0 ++ [q])).row.getLast?=some i:=by
     show ((L0 ++ [q]).map (We c)).getLast?=_;rw [List.map_append,List.map_cons,List.map_nil,List.getLast?_concat,Ge h hj]
    rw [this]
   have hml:=Zdb (mhas_iff.2 ⟨_,hj⟩);unfold Q22.f;rw [iT e0,show Q26.f (c.2.2.2.2.1,c.2.2.2.2.2)=_ from Zpu h.chn (by omega),bS,vS]
   try dsimp only
   rw [iO];have one:w64 ((([] ++ [(q:Int)]:List Int).length:Int) - 1)=0:=by
    show w64 (((1:Nat):Int) - 1)=0;decide
   rw [hrm,MC.evict_eq (show (Z6 c (L0 ++ [q])).fr i=_ from hfr)];by_cases hd:(gt c.2.1 (q:Int)).2.2.1=true
   ·have hb:=h.back z hj (c.1.2.2.1,c.1.2.2.2+1);obtain ⟨ch,e,hl⟩:=Zd2 z hb (by exact hj);have hd':(fm (c.2.1.getD q default)).d=true:=by rw [<- g]; exact hd
    rw [iT hd,show Q54.f (c.1.1,c.1.2.1,(c.1.2.2.1,c.1.2.2.2)) (gt c.2.1 (q:Int)).1 (gt c.2.1 (q:Int)).2.1=_ from Zmf z h hj,bS]
    try dsimp only
    rw [wr,tN,show Q20.f ((c.1.1,patch c.1.2.1 (i*B) B (gt c.2.1 (q:Int)).2.1,c.1.2.2.1,c.1.2.2.2+1),c.2.1.set q ((gt c.2.1 (q:Int)).1,(gt c.2.1 (q:Int)).2.1,false,(gt c.2.1 (q:Int)).2.2.2),c.2.2.1,c.2.2.2.1,c.2.2.2.2.1,c.2.2.2.2.2) (q:Int)=_ from e,bS]
    try dsimp only
    rw [he,one,iU,iU,iT hd',iT hd'];refine ⟨q,_,(L0 ++ [q]).erase q,rfl,hl.take (E:=[]) (by dsimp only; rw [he]),congrArg some (MC.ext' ?_ rfl rfl ?_ ?_ ?_),hqn⟩
    ·show patch c.1.2.1 (i*B) B (fm (c.2.1.getD q default)).b=_;rw [<- g]; rfl
    ·intro j;show upd (Xu c) i none j=_;refine Eq.trans ?_ (Zej hb hj j).symm;refine Eq.trans (Zqf (Xu c) i _ none j).symm (Zm5 (fun j=>(U7 h hj j).symm) i none j)
    ·show c.2.2.1.length - 1=(Wo (i:Int) c.2.2.1).length;omega
    ·show ((L0 ++ [q]).map (We c)).erase i=_;have hfl2:=hb.frl;refine Eq.trans (Bk h hj).symm ?_;refine Eq.trans ?_ (Jf (c:=((c.1.1,patch c.1.2.1 (i*B) B (gt c.2.1 (q:Int)).2.1,c.1.2.2.1,c.1.2.2.2+1),c.2.1.set q ((gt c.2.1 (q:Int)).1,(gt c.2.1 (q:Int)).2.1,false,(gt c.2.1 (q:Int)).2.2.2),c.2.2)) (by rw [hfl2]; exact hf) hqn).symm;exact (Vg (by omega) (by rw [g]; rfl) _).symm
   ·obtain ⟨ch,e,hl⟩:=Zd2 z h hj;have hd':¬ (fm (c.2.1.getD q default)).d=true:=by rw [<- g]; exact hd
    rw [iF hd,show Q20.f ((c.1.1,c.1.2.1,(c.1.2.2.1,c.1.2.2.2)),c.2.1,c.2.2.1,c.2.2.2.1,(c.2.2.2.2.1,c.2.2.2.2.2)) (q:Int)=_ from e,bS]
    try dsimp only
    rw [he,one,iU,iU,iF hd',iF hd'];refine ⟨q,_,(L0 ++ [q]).erase q,rfl,hl.take (E:=[]) (by dsimp only; rw [he]),congrArg some (MC.ext' rfl rfl rfl ?_ ?_ ?_),hqn⟩
    ·intro j;exact (Zej h hj j).symm
    ·show c.2.2.1.length - 1=(Wo (i:Int) c.2.2.1).length;omega
    ·show ((L0 ++ [q]).map (We c)).erase i=_;refine Eq.trans (Bk h hj).symm ?_;exact (Jf (by omega) hqn).symm
 ·right;obtain ⟨E,x,hx⟩:∃ E x,c.2.2.2.1=E ++ [x]:=by
   rcases List.eq_nil_or_concat c.2.2.2.1 with e | ⟨E,x,e⟩
   ·exact absurd e he
   ·exact ⟨E,x,by rw [e,List.concat_eq_append]⟩
  obtain ⟨f,rfl,hf⟩:=h.emp x (by rw [hx]; simp);have hll:c.2.2.2.1.length=E.length+1:=by rw [hx]; simp
  have e1:w64 ((c.2.2.2.1.length:Int) - 1)=(E.length:Int):=by rw [wI2]; omega
  unfold Q22.f;rw [iN,e1,iO,iO,tN];have e2:gt c.2.2.2.1 (E.length:Int)=(f:Int):=by
   rw [Zw,hx,List.getD_eq_getElem?_getD,List.getElem?_append_right (Nat.le_refl _)]; simp
  have e3:c.2.2.2.1.take E.length=E:=by rw [hx,List.take_left]
  rw [e2,e3];refine ⟨f,_,L,rfl,h.take hx,?_,fun q=>?_⟩
  ·unfold MC.room;rw [iT (by rw [hru]; omega)];rfl
  ·obtain ⟨i,hi,_,_,ok⟩:=Vu h q;exact ok.emp (by rw [hx]; simp)
theorem Zts (z:Siz N B n) (h:CaI N B n t [] c L) (fw:Few c) (ht:t<=1000000) (i:Nat) (hi:i<4294967296):∃ c' L',Q16.f c (i:Int)=some (((Z6 c L).pin N B n i).1,c')/\CaI N B n (t+1) [] c' L'/\Z6 c' L'=((Z6 c L).pin N B n i).2:=by
 have h64:=z.h64;have hfl:=h.frl;unfold Q16.f;rw [show Q23.f ((c.1.1,c.1.2.1,(c.1.2.2.1,c.1.2.2.2)),c.2.1,c.2.2.1,c.2.2.2.1,(c.2.2.2.2.1,c.2.2.2.2.2)) (i:Int)=_ from Zmr z h i hi,bS];by_cases q:N<=i
 ·rw [iT q,iU,MC.pin_out q];exact ⟨_,L,rfl,h.mono (Nat.le_succ t),rfl⟩
 ·rw [iF q,vS];rcases h.get i with ⟨g1,g2⟩ | ⟨f,ha,g1,g2,ok⟩
  ·have hno:(Z6 c L).fr i=none:=U6 g2;rw [iF (by simp [g1])];rcases Zpq z h ⟨fw.wr.1,by have:=fw.wr.2; omega⟩ with ⟨e,er⟩ | ⟨f,c1,L1,e,h1,er,hfL⟩
   ·rw [show Q22.f ((c.1.1,c.1.2.1,(c.1.2.2.1,c.1.2.2.2)),c.2.1,c.2.2.1,c.2.2.2.1,(c.2.2.2.2.1,c.2.2.2.2.2))=_ from e,bS,iU,MC.pin_full q hno er];exact ⟨_,L,rfl,h.mono (Nat.le_succ t),rfl⟩
   ·rcases Zpi z h ⟨fw.wr.1,by have:=fw.wr.2; omega⟩ with e' | ⟨f',c1',L1',e',_,k1,k2,k3⟩
    ·rw [e] at e'; simp at e'
    ·rw [e] at e';simp only [Option.some.injEq,Prod.mk.injEq,true_and] at e';have ec:c1=c1':=e'.2;subst ec;obtain ⟨hf,hfe,hfm⟩:=h1.hol f (by simp);have hfl1:=h1.frl;have hno1:∀ v,((i:Int),v)∉c1.2.2.1:=fun v hv=>g2 v (k3 _ hv);obtain ⟨r5,ch,e5,hc5⟩:=Zil h1.chn hf (by omega);rw [List.erase_of_not_mem hfL] at hc5;rw [show Q22.f ((c.1.1,c.1.2.1,(c.1.2.2.1,c.1.2.2.2)),c.2.1,c.2.2.1,c.2.2.2.1,(c.2.2.2.2.1,c.2.2.2.2.2))=_ from e,bS,vS]
     try dsimp only
     rw [show Q53.f (c1.1.1,c1.1.2.1,(c1.1.2.2.1,c1.1.2.2.2)) (i:Int)=_ from Zsg z h1 (by omega),bS,vS,iO,show Q24.f (c1.2.2.2.2.1,c1.2.2.2.2.2) (f:Int)=_ from e5,bS];have hcm:=(h1.mono (Nat.le_succ t)).come (show i<N by omega) hno1 (x:=((i:Int),blk c1.1.2.1 B i,false,1)) rfl (Zdv h1.dim (by omega)) rfl (by omega) hc5
     try dsimp only
     rw [Zpj (by rw [k1]; have:=fw.rd; omega),Zf6 hno1,tN,MC.pin_miss q hno er];refine ⟨_,L1,rfl,hcm.dev (s:=(c1.1.2.2.1+1,c1.1.2.2.2)) h1.dim,MC.ext' rfl rfl rfl ?_ ?_ ?_⟩
     ·intro j; exact Zfq h1 hno1 j
     ·show (c1.2.2.1 ++ [((i:Int),(f:Int))]).length=c1.2.2.1.length+1;simp
     ·exact Jf (by omega) hfL
  ·have hf:=ok.hf;have hp:=ok.pin;have hfr:(Z6 c L).fr i=_:=V7 h ha;obtain ⟨r2,ch,e2,hc2⟩:=Zil h.chn ok.hf (by omega);have g:gt c.2.1 (f:Int)=c.2.1.getD f default:=Zw _ _;have wp:w64 ((c.2.1.getD f default).2.2.2+1)=(c.2.1.getD f default).2.2.2+1:=wI2;have hs:=h.setfr ha (x:=((gt c.2.1 (f:Int)).1,(gt c.2.1 (f:Int)).2.1,(gt c.2.1 (f:Int)).2.2.1,w64 ((gt c.2.1 (f:Int)).2.2.2+1))) (t':=t+1) (by rw [g]; exact ok.blk) (by rw [g]; exact ok.len) (by rw [g]; dsimp only; rw [wp]; omega) (Nat.le_succ t) hc2 (Zf7 h (by rw [g]; dsimp only; rw [wp]; omega));rw [iT g1,g2,iO,show Q24.f (c.2.2.2.2.1,c.2.2.2.2.2) (f:Int)=_ from e2,bS,tN,MC.pin_hit q hfr];refine ⟨_,L.erase f,rfl,hs,MC.ext' rfl rfl rfl (fun j=>?_) rfl ?_⟩
   ·refine Eq.trans (U7 h ha j) ?_;show upd (Xu c) i _ j=upd (Xu c) i _ j;congr 2;unfold fm;rw [g]
    try dsimp only
    rw [wp,show ((c.2.1.getD f default).2.2.2+1).toNat=(c.2.1.getD f default).2.2.2.toNat+1 by omega]
   ·exact Eq.trans (Vg (by omega) (by rw [g]; rfl) _) (Bk h ha)
theorem Zrv (z:Siz N B n) (h:CaI N B n t [] c L) (fw:Few c) (ht:t<=1000000) (i:Nat) (hi:i<4294967296):∃ c' L',Q15.f c (i:Int)=some (((Z6 c L).fresh N B n i).1,c')/\CaI N B n (t+1) [] c' L'/\Z6 c' L'=((Z6 c L).fresh N B n i).2:=by
 have h64:=z.h64;have hB:=z.B_le;have hfl:=h.frl;have hsz:=h.dsz;unfold Q15.f Q52.f;rw [show Q23.f ((c.1.1,c.1.2.1,(c.1.2.2.1,c.1.2.2.2)),c.2.1,c.2.2.1,c.2.2.2.1,(c.2.2.2.2.1,c.2.2.2.2.2)) (i:Int)=_ from Zmr z h i hi,bS];by_cases q:N<=i
 ·rw [iT q,iU,MC.fresh_out q];exact ⟨_,L,rfl,h.mono (Nat.le_succ t),rfl⟩
 ·rw [iF q,vS];rcases h.get i with ⟨g1,g2⟩ | ⟨f,ha,g1,g2,ok⟩
  ·have hno:(Z6 c L).fr i=none:=U6 g2;rw [iF (by simp [g1]),iT (by simp [g1])];rcases Zpq z h ⟨fw.wr.1,by have:=fw.wr.2; omega⟩ with ⟨e,er⟩ | ⟨f,c1,L1,e,h1,er,hfL⟩
   ·rw [show Q22.f ((c.1.1,c.1.2.1,(c.1.2.2.1,c.1.2.2.2)),c.2.1,c.2.2.1,c.2.2.2.1,(c.2.2.2.2.1,c.2.2.2.2.2))=_ from e,bS,iU,MC.fresh_full q hno er];exact ⟨_,L,rfl,h.mono (Nat.le_succ t),rfl⟩
   ·rcases Zpi z h ⟨fw.wr.1,by have:=fw.wr.2; omega⟩ with e' | ⟨f',c1',L1',e',_,k1,k2,k3⟩
    ·rw [e] at e'; simp at e'
    ·rw [e] at e';simp only [Option.some.injEq,Prod.mk.injEq,true_and] at e';have ec:c1=c1':=e'.2;subst ec;obtain ⟨hf,hfe,hfm⟩:=h1.hol f (by simp);have hfl1:=h1.frl;have hsz1:=h1.dsz;have hno1:∀ v,((i:Int),v)∉c1.2.2.1:=fun v hv=>g2 v (k3 _ hv);obtain ⟨r5,ch,e5,hc5⟩:=Zil h1.chn hf (by omega);rw [List.erase_of_not_mem hfL] at hc5;rw [show Q22.f ((c.1.1,c.1.2.1,(c.1.2.2.1,c.1.2.2.2)),c.2.1,c.2.2.1,c.2.2.2.1,(c.2.2.2.2.1,c.2.2.2.2.2))=_ from e,bS,vS,bS]
     try dsimp only
     rw [iO,iO,show Q24.f (c1.2.2.2.2.1,c1.2.2.2.2.2) (f:Int)=_ from e5,bS];have hBt:c1.1.1.toNat=B:=by omega
     have hcm:=(h1.mono (Nat.le_succ t)).come (show i<N by omega) hno1 (x:=((i:Int),List.replicate c1.1.1.toNat (0:Int),true,1)) rfl (by rw [length_replicate]; omega) rfl (by omega) hc5
     try dsimp only
     rw [Zf6 hno1,tN,MC.fresh_miss q hno er];refine ⟨_,L1,rfl,hcm,MC.ext' rfl rfl rfl ?_ ?_ ?_⟩
     ·intro j;refine Eq.trans (Zfq h1 hno1 j) ?_;show upd (Xu c1) i (some ⟨List.replicate c1.1.1.toNat 0,true,1⟩) j=_;rw [hBt]; rfl
     ·show (c1.2.2.1 ++ [((i:Int),(f:Int))]).length=c1.2.2.1.length+1;simp
     ·exact Jf (by omega) hfL
  ·have hf:=ok.hf;have hp:=ok.pin;have hfr:(Z6 c L).fr i=_:=V7 h ha;have g:gt c.2.1 (f:Int)=c.2.1.getD f default:=Zw _ _;rw [iT g1,g2,iO];by_cases hpp:0<(gt c.2.1 (f:Int)).2.2.2
   ·rw [iT (dT hpp),MC.fresh_pin q hfr (by unfold fm; dsimp only; rw [g] at hpp; omega)];exact ⟨_,L,rfl,h.mono (Nat.le_succ t),rfl⟩
   ·obtain ⟨r2,ch,e2,hc2⟩:=Zil h.chn ok.hf (by omega);have hBt:c.1.1.toNat=B:=by omega
    have hs:=h.setfr ha (x:=((i:Int),List.replicate c.1.1.toNat (0:Int),true,1)) (t':=t+1) rfl (by rw [length_replicate]; omega) (by dsimp only; omega) (Nat.le_succ t) hc2 (Zf7 h (show (1:Int)≠0 by decide));rw [iF (by simpa using hpp),iF (by simp [g1]),bS,iO,show Q24.f (c.2.2.2.2.1,c.2.2.2.2.2) (f:Int)=_ from e2,bS,tN,Zgl h.mnd ha,MC.fresh_hit q hfr (by unfold fm; dsimp only; rw [g] at hpp; omega)]
    try rw [iT (show 0<=(f:Int)/\(f:Int)<(c.2.1.length:Int) by omega)]
    refine ⟨_,L.erase f,rfl,hs,MC.ext' rfl rfl rfl (fun j=>?_) rfl ?_⟩
    ·refine Eq.trans (U7 h ha j) ?_;show upd (Xu c) i (some ⟨List.replicate c.1.1.toNat 0,true,1⟩) j=_;rw [hBt]; rfl
    ·exact Eq.trans (Vg (by omega) (by rw [Ge h ha]; rfl) _) (Bk h ha)
theorem Znt (z:Siz N B n) (h:CaI N B n t [] c L) (ht:t<=1000000) (i:Nat):∃ c' L',Q18.f c (i:Int)=some (((Z6 c L).unpin i).1,c')/\CaI N B n t [] c' L'/\Z6 c' L'=((Z6 c L).unpin i).2:=by
 have h64:=z.h64;have hfl:=h.frl;unfold Q18.f Q21.f;rw [bS,vS];rcases h.get i with ⟨g1,g2⟩ | ⟨f,ha,g1,g2,ok⟩
 ·rw [iT (by simp [g1]),MC.unpin_no (show (Z6 c L).fr i=none from U6 g2)];exact ⟨_,L,rfl,h,rfl⟩
 ·have hf:=ok.hf;have hp:=ok.pin;have hfr:(Z6 c L).fr i=_:=V7 h ha;have g:gt c.2.1 (f:Int)=c.2.1.getD f default:=Zw _ _;rw [iF (by simp [g1]),g2,iO];by_cases hp0:(gt c.2.1 (f:Int)).2.2.2=0
  ·rw [iT (dT hp0),MC.unpin_out hfr (by unfold fm; dsimp only; rw [<- g,hp0]; rfl)];exact ⟨_,L,rfl,h,rfl⟩
  ·have wp:w64 ((gt c.2.1 (f:Int)).2.2.2 - 1)=(gt c.2.1 (f:Int)).2.2.2 - 1:=by rw [g]; exact wI2
   have hp1:0<(gt c.2.1 (f:Int)).2.2.2:=by rw [g] at hp0 ⊢; omega
   have hp2:(gt c.2.1 (f:Int)).2.2.2<=t:=by rw [g]; omega
   have hset:gt (c.2.1.set f ((gt c.2.1 (f:Int)).1,(gt c.2.1 (f:Int)).2.1,(gt c.2.1 (f:Int)).2.2.1,w64 ((gt c.2.1 (f:Int)).2.2.2 - 1))) (f:Int)=((gt c.2.1 (f:Int)).1,(gt c.2.1 (f:Int)).2.1,(gt c.2.1 (f:Int)).2.2.1,w64 ((gt c.2.1 (f:Int)).2.2.2 - 1)):=by
    rw [Zw,Xe,iT rfl]
   have hfL:f∉L:=fun hx=>by have:=((h.lok f).1 hx).2; rw [<- g] at this; omega
   have hx0:(fm (c.2.1.getD f default)).p=(c.2.1.getD f default).2.2.2.toNat:=rfl;rw [iF (by simpa using hp0),tN,hset,wp];by_cases hp3:(gt c.2.1 (f:Int)).2.2.2 - 1=0
   ·obtain ⟨ch,e2,hc2⟩:=Zrj h.chn ok.hf hfL (by omega);rw [iT (dT hp3),show Q25.f (c.2.2.2.2.1,c.2.2.2.2.2) (f:Int)=_ from e2,bS,MC.unpin_one hfr (by rw [hx0,<- g]; omega)];have hs:=h.setfr ha (x:=((gt c.2.1 (f:Int)).1,(gt c.2.1 (f:Int)).2.1,(gt c.2.1 (f:Int)).2.2.1,(gt c.2.1 (f:Int)).2.2.2 - 1)) (t':=t) (by rw [g]; exact ok.blk) (by rw [g]; exact ok.len) (by dsimp only; omega) (Nat.le_refl t) hc2 (fun k=>by
     rw [List.mem_cons];split
     ·rename_i e; exact ⟨fun _=>hp3,fun _=>.inl e⟩
     ·rename_i e; exact ⟨fun q=>q.elim (fun e'=>absurd e' e) id,.inr⟩)
    refine ⟨_,f :: L,rfl,hs,MC.ext' rfl rfl rfl (fun j=>?_) rfl ?_⟩
    ·refine Eq.trans (U7 h ha j) ?_;show upd (Xu c) i _ j=upd (Xu c) i _ j;congr 2;unfold fm
     try dsimp only
     rw [hp3,g]; rfl
    ·refine Eq.trans (Vg (by omega) (by rw [g]; rfl) _) ?_;show We c f :: L.map (We c)=_;rw [Ge h ha]; rfl
   ·rw [iF (by simpa using hp3),MC.unpin_more hfr (by rw [hx0,<- g]; omega) (by rw [hx0,<- g]; omega)];have hs:=h.setfr ha (x:=((gt c.2.1 (f:Int)).1,(gt c.2.1 (f:Int)).2.1,(gt c.2.1 (f:Int)).2.2.1,(gt c.2.1 (f:Int)).2.2.2 - 1)) (t':=t) (by rw [g]; exact ok.blk) (by rw [g]; exact ok.len) (by dsimp only; omega) (Nat.le_refl t) h.chn (fun k=>by
     split
     ·rename_i e; subst e; exact ⟨fun q=>absurd q hfL,fun q=>absurd q hp3⟩
     ·exact Iff.rfl)
    refine ⟨_,L,rfl,hs,MC.ext' rfl rfl rfl (fun j=>?_) rfl ?_⟩
    ·refine Eq.trans (U7 h ha j) ?_;show upd (Xu c) i _ j=upd (Xu c) i _ j;congr 2;unfold fm
     try dsimp only
     rw [g,show ((c.2.1.getD f default).2.2.2 - 1).toNat=(c.2.1.getD f default).2.2.2.toNat - 1 by omega]
    ·exact Vg (by omega) (by rw [g]; rfl) _
theorem Zm9 (z:Siz N B n) (h:CaI N B n t [] c L) (i:Nat) (b:T0):∃ c' L',Q19.f c (i:Int) b=some (((Z6 c L).write B i b).1,c')/\CaI N B n t [] c' L'/\Z6 c' L'=((Z6 c L).write B i b).2:=by
 have h64:=z.h64;have hB:=z.B_le;have hfl:=h.frl;have hsz:=h.dsz;unfold Q19.f Q21.f Q52.f;rw [bS,vS];rcases h.get i with ⟨g1,g2⟩ | ⟨f,ha,g1,g2,ok⟩
 ·rw [iT (by simp [g1]),MC.write_no (show (Z6 c L).fr i=none from U6 g2)];exact ⟨_,L,rfl,h,rfl⟩
 ·have hf:=ok.hf;have hp:=ok.pin;have hfr:(Z6 c L).fr i=_:=V7 h ha;have hx0:(fm (c.2.1.getD f default)).p=(c.2.1.getD f default).2.2.2.toNat:=rfl;have g:gt c.2.1 (f:Int)=c.2.1.getD f default:=Zw _ _;rw [iF (by simp [g1]),g2,iO];by_cases hp0:(gt c.2.1 (f:Int)).2.2.2=0
  ·rw [iT (dT hp0),MC.write_out hfr (by rw [hx0,<- g,hp0]; rfl)];exact ⟨_,L,rfl,h,rfl⟩
  ·have hp1:(fm (c.2.1.getD f default)).p≠0:=by rw [hx0]; rw [g] at hp0; omega
   rw [iF (by simpa using hp0),bS]
   try dsimp only
   by_cases hb:(b.length:Int)=c.1.1
   ·have hset:gt (c.2.1.set f ((gt c.2.1 (f:Int)).1,b,(gt c.2.1 (f:Int)).2.2.1,(gt c.2.1 (f:Int)).2.2.2)) (f:Int)=((gt c.2.1 (f:Int)).1,b,(gt c.2.1 (f:Int)).2.2.1,(gt c.2.1 (f:Int)).2.2.2):=by
     rw [Zw,Xe,iT rfl]
    have hs:=h.setfr ha (x:=((gt c.2.1 (f:Int)).1,b,true,(gt c.2.1 (f:Int)).2.2.2)) (t':=t) (by rw [g]; exact ok.blk) (by dsimp only; omega) (by dsimp only; rw [g]; exact hp) (Nat.le_refl t) h.chn (by rw [g]; exact Zn9 h ha);rw [iF (by simp [hb]),Zan (by omega),bS,tN,hset,List.set_set,MC.write_hit hfr hp1 (by omega)];refine ⟨_,L,rfl,hs,MC.ext' rfl rfl rfl (fun j=>?_) rfl ?_⟩
    ·refine Eq.trans (U7 h ha j) ?_;show upd (Xu c) i _ j=upd (Xu c) i _ j;rw [g]; rfl
    ·exact Vg (by omega) (by rw [g]; rfl) _
   ·rw [iT (by simp [hb]),MC.write_form hfr hp1 (by omega)];exact ⟨_,L,rfl,h,rfl⟩
theorem Zs0 (z:Siz N B n) (h:CaI N B n t [] c L) (i:Nat):Q17.f c (i:Int)=some ((Z6 c L).read i):=by
 have hfl:=h.frl;have hB:=z.B_le;unfold Q17.f Q21.f;rw [bS,vS];rcases h.get i with ⟨g1,g2⟩ | ⟨f,ha,g1,g2,ok⟩
 ·rw [iT (by simp [g1]),MC.read_no (show (Z6 c L).fr i=none from U6 g2)]
 ·have hf:=ok.hf;have hp:=ok.pin;have hfr:(Z6 c L).fr i=_:=V7 h ha;have hx0:(fm (c.2.1.getD f default)).p=(c.2.1.getD f default).2.2.2.toNat:=rfl;have g:gt c.2.1 (f:Int)=c.2.1.getD f default:=Zw _ _;rw [iF (by simp [g1]),g2,iO];by_cases hp0:(gt c.2.1 (f:Int)).2.2.2=0
  ·rw [iT (dT hp0),MC.read_out hfr (by rw [hx0,<- g,hp0]; rfl)]
  ·rw [iF (by simpa using hp0),Zan (by rw [g,ok.len]; omega),bS,MC.read_hit hfr (by rw [hx0]; rw [g] at hp0; omega),g]; rfl
end
end Go.SK.T
