/- The plain law behind WalkNobody: what its code computes is true for all settings and blocks. -/
import Derived.Test.YtbalmcdgclcimaaGreatDoorXWalkNobodyF3
import Derived.KernelRfl
import Derived.Sort.Walk13a
import Derived.Sort.AssemblyPlain
set_option linter.unusedVariables false
set_option linter.unusedSimpArgs false
namespace Go.SK.T
open Go Go.SK
open BitVec (ofInt)
open List (length_set length_nil append_assoc length_cons drop_eq_nil_of_le length_take length_drop length_map length_range length_replicate)
theorem iN {p:Prop} [Decidable p] {α:Type} {a b:α} (h:¬ p:=by omega):(if decide p=true then a else b)=b:=if_neg (by simpa using h)
theorem iP {p:Prop} [Decidable p] {α:Type} {a b:α} (h:p:=by omega):(if decide p=true then a else b)=a:=if_pos (decide_eq_true h)
theorem kS1 (k:Nat) (h:1<=k:=by omega):∃ j,k=j+1:=⟨k - 1,by omega⟩
theorem kS2 (k:Nat) (h:2<=k:=by omega):∃ j,k=j+2:=⟨k - 2,by omega⟩
theorem kS3 (k:Nat) (h:3<=k:=by omega):∃ j,k=j+3:=⟨k - 3,by omega⟩
theorem bS {α β:Type} (a:α) (f:α->Option β):(some a).bind f=f a:=rfl
theorem iT.{u} {c:Prop} {h:Decidable c} (hc:c) {α:Sort u} {t e:α}:ite c t e=t:=if_pos hc
theorem iF.{u} {c:Prop} {h:Decidable c} (hc:¬ c) {α:Sort u} {t e:α}:ite c t e=e:=if_neg hc
theorem dE {p:Prop} [Decidable p]:(decide p=true)=p:=decide_eq_true_eq
theorem dT {p:Prop} [Decidable p] (h:p:=by omega):decide p=true:=decide_eq_true h
theorem dF {p:Prop} [Decidable p] (h:¬ p:=by omega):decide p=false:=decide_eq_false h
theorem tN (n:Nat):(n:Int).toNat=n:=rfl
theorem lA {α:Type} {a b:List α}:(a ++ b).length=a.length+b.length:=List.length_append
theorem iO.{u} {c:Prop} {_:Decidable c} {α:Sort u} {t e:α} (hc:c:=by omega):ite c t e=t:=if_pos hc
theorem iQ.{u} {c:Prop} {_:Decidable c} {α:Sort u} {t e:α} (hc:¬ c:=by omega):ite c t e=e:=if_neg hc
theorem vS.{u} {c:Prop} {_:Decidable c} {α:Sort u} {t e:α} (hc:¬ c:=by simp):ite c t e=e:=if_neg hc
theorem iU.{u} {c:Prop} {_:Decidable c} {α:Sort u} {t e:α} (hc:c:=by simp):ite c t e=t:=if_pos hc
theorem iV.{u} {c:Prop} {_:Decidable c} {α:Sort u} {t e:α} (hc:c:=by (simp; omega)):ite c t e=t:=if_pos hc
theorem iW.{u} {c:Prop} {_:Decidable c} {α:Sort u} {t e:α} (hc:¬ c:=by (simp; omega)):ite c t e=e:=if_neg hc
theorem dN {α:Type} {l:List α} {i:Nat} (h:l.length<=i:=by omega):l.drop i=[]:=drop_eq_nil_of_le h
theorem tO {α:Type} {l:List α} {i:Nat} (h:l.length<=i:=by omega):l.take i=l:=List.take_of_length_le h
theorem wS2 {i:Nat} (h:i<4611686018427387904:=by omega):w64 ((i:Int)+1)=((i+1:Nat):Int):=Zbd h
theorem wI2 {x} (h0:-9223372036854775808<=x:=by omega) (h1:x<=9223372036854775807:=by omega):w64 x=x:=Zbx h0 h1
abbrev Msg:=List UInt8×Bool×List UInt8
abbrev Cfg:=Int×Int×Int×Int×Int×Int×Int×Int
abbrev Pr:=List UInt8×List UInt8
abbrev Nd:=Int×List Int×List TV×List Msg×List Pr
structure OkC (c:Cfg):Prop where
 fan:8<=c.2.2.2.1/\c.2.2.2.1<=64
 key:1<=c.2.2.2.2.2.2.1/\c.2.2.2.2.2.2.1<=64
 val:0<=c.2.2.2.2.2.2.2/\c.2.2.2.2.2.2.2<=256
 buf:16<=c.2.2.2.2.1/\c.2.2.2.2.1<=512
 leaf:c.2.2.2.2.1<=c.2.2.2.2.2.1/\c.2.2.2.2.2.1<=1024
abbrev Sp:=List UInt8×List UInt8×Bool
def inS (s:Sp) (x:TV):Bool:=!Op.bytesLess x s.1 && (s.2.2 || Op.bytesLess x s.2.1)
theorem Zk1 (a b:TV):decide (0<=Wu a b)=!Op.bytesLess a b:=by
 rcases Zc8 a b with ⟨e,h⟩ | ⟨e,rfl⟩ | ⟨e,h⟩
 ·simp [e,h]
 ·simp [e,U6]
 ·simp [e,J6 h]
def Zah:List Pr->Bool
 | a :: b :: r=>Op.bytesLess a.1 b.1 && Zah (b :: r)
 | _=>true
def Vl (c:Cfg) (x:TV):Bool:=decide (1<=(x.length:Int)/\(x.length:Int)<=c.2.2.2.2.2.2.1)
def prB (c:Cfg) (s:Sp) (p:Pr):Bool:=Vl c p.1 && (inS s p.1 && decide ((p.2.length:Int)<=c.2.2.2.2.2.2.2))
def Zg1 (c:Cfg) (s:Sp) (n:Nd):Bool:=n.2.2.2.2.all (prB c s) && (decide (n.2.1=[]) && (decide (n.2.2.1=[]) && (decide (n.2.2.2.1=[]) && (decide ((n.2.2.2.2.length:Int)<=c.2.2.2.2.2.1) && Zah n.2.2.2.2))))
theorem Zg3 {l:TO} {i:Nat} (h:i+1<l.length):Jk (l.drop i)=(Op.bytesLess (l.getD i []) (l.getD (i+1) []) && Jk (l.drop (i+1))):=by
 rw [Y1 (show i<l.length by omega),Y1 h];rfl
theorem Zhz {l:TO} {i:Nat} (h:l.length<=i+1):Jk (l.drop i)=true:=by
 by_cases h':i<l.length
 ·rw [Y1 h',dN];rfl
 ·rw [dN];rfl
def piv (s:Sp) (p:TV):Bool:=inS s p && !decide (p=s.1)
def Zak:List Msg->Bool
 | a :: b :: r=>Op.bytesLess a.1 b.1 && Zak (b :: r)
 | _=>true
def Zbl (c:Cfg) (s:Sp) (m:Msg):Bool:=Vl c m.1 && (inS s m.1 && (decide ((m.2.2.length:Int)<=c.2.2.2.2.2.2.2) && (!m.2.1 || decide (m.2.2=[]))))
def Zhf (c:Cfg) (s:Sp) (n:Nd):Bool:=decide (n.1<=40) && (decide (n.2.2.2.2=[]) && (decide (1<=n.2.1.length) && (decide ((n.2.1.length:Int)<=c.2.2.2.1) && (decide (n.2.2.1.length+1=n.2.1.length) && ((n.2.2.1.all (piv s) && Jk n.2.2.1) && (decide ((n.2.2.2.1.length:Int)<=c.2.2.2.2.1) && Zak n.2.2.2.1))))))
def neB (l:TZ) (i q:Nat):Bool:=!decide (l.getD q 0=l.getD i 0)
def J9 (c:Cfg) (l:TZ) (i:Nat):Bool:=!decide (l.getD i 0=0) && (!decide (c.1<=w64 (l.getD i 0)) && (List.range' 0 i).all (neB l i))
def Zhn (c:Cfg) (s:Sp) (n:Nd):Bool:=n.2.2.1.all (Vl c) && (n.2.2.2.1.all (Zbl c s) && Zhf c s n)
def Zgh (c:Cfg) (s:Sp) (n:Nd):Bool:=(List.range' 0 n.2.1.length).all (J9 c n.2.1) && Zhn c s n
theorem Zft:∀ l:List Msg,Zak l=Uw (fun x=>x.1) l
 | []=>rfl
 | [_]=>rfl
 | a :: b :: r=>by rw [Zak,Uw,Zft (b :: r)]
theorem Zga:∀ l:List Pr,Zah l=Uw (fun x=>x.1) l
 | []=>rfl
 | [_]=>rfl
 | a :: b :: r=>by rw [Zah,Uw,Zga (b :: r)]
theorem Jf {α:Type} [Inhabited α] [DecidableEq α] {F:Nat->Int->Option Bool} {a b:List α} {eqb:α->α->Bool} (he:∀ x y,eqb x y=decide (x=y)) (hab:a.length=b.length) (ha:a.length<=1000000)
  (hF:∀ k i,F (k+1) i=if (decide (i<(a.length:Int)))=true then (if 0<=i/\i<(a.length:Int) then (if 0<=i/\i<(b.length:Int) then (if (!(eqb (gt a i) (gt b i)))=true then (some false) else (F k (w64 (i+1)))) else none) else none) else (some true)) :
  ∀(k i:Nat),i<=a.length->a.length - i<k->F k (i:Int)=some (decide (a.drop i=b.drop i))
 | 0,i,_,h=>by omega
 | k+1,i,hi,hk=>by
  rw [hF];by_cases h:i<a.length
  ·have g1:(0:Int)<=(i:Int)/\(i:Int)<(a.length:Int):=by omega
   have g2:(0:Int)<=(i:Int)/\(i:Int)<(b.length:Int):=by omega
   rw [iT (dT g1.2),iT g1,iT g2,he,wS2,Jf he hab ha hF k (i+1) (by omega) (by omega),Y1 h,Y1 (show i<b.length by omega),Yo,Yo];generalize a.getD i default=x;generalize b.getD i default=y;by_cases e:x=y
   ·simp [e]
   ·simp [e]
  ·rw [iW,dN,dN];rfl
instance decNd4:DecidableEq (List Msg×List Pr):=instDecidableEqProd
instance decNd3:DecidableEq (List TV×List Msg×List Pr):=instDecidableEqProd
instance decNd2:DecidableEq (List Int×List TV×List Msg×List Pr):=instDecidableEqProd
instance decNd1:DecidableEq Nd:=instDecidableEqProd
abbrev ltI:=Go.Sort.ltInt
theorem Y7 (x y:Int):Q32.f x y=some (ltI x y):=by
 unfold Q32.f Q33.f ltI Go.Sort.ltInt;simp
theorem gta (d:Array Int) (i:Nat):gt d.toList (i:Int)=d[i]!:=by
 rw [Yo,List.getD_eq_getElem?_getD];by_cases h:i<d.size
 ·simp [h]
 ·simp [h]
theorem X4 (d:Array Int) (i j:Nat):(d.toList.set i d[j]!).set j d[i]! = (Go.Sort.swp d i j).toList:=by
 simp [Go.Sort.swp]
theorem Yi (d:Array Int) (i j:Nat):(Go.Sort.swp d i j).size=d.size:=by simp [Go.Sort.swp]
theorem wn {x:Int} {n:Nat} (h:x=n) (hn:n<=4611686018427387904):w64 x=(n:Int):=by rw [wI2,h]
theorem Zc9 {a b i:Nat} {r:TZ}:∀(j:Nat) (d:Array Int),j<d.size->d.size<=1000000->i<1000000->Ev (fun k=>Q107.l0 k (a:Int) (b:Int) (Go.Sort.insInner ltI a j d).toList ((i+1:Nat):Int)) r->
  Ev (fun k=>Q107.l1 k (a:Int) (b:Int) (i:Int) d.toList (j:Int)) r
 | 0,d,hj,hd,hi,h=>h.step fun k hk=>by
  rw [Q107.l1,iN,wn (n:=i+1) (by omega) (by omega)];exact hk
 | j+1,d,hj,hd,hi,h=>by
  have e1:w64 (((j+1:Nat):Int) - 1)=(j:Int):=wn (by omega) (by omega);unfold Go.Sort.insInner at h;by_cases c:a<j+1
  ·by_cases q:ltI d[j+1]! d[j]! = true
   ·rw [iT (by simp [c,q])] at h;have:=Zc9 j (Go.Sort.swp d (j+1) j) (by rw [Yi]; omega) (by rw [Yi]; omega) hi h;refine this.step fun k hk=>?_;rw [Q107.l1,iP,iV,e1,iV,gta,gta,Y7,bS,iT q,tN,tN,X4];exact hk
   ·rw [iF (by simp [q])] at h;refine h.step fun k hk=>?_;rw [Q107.l1,iP,iV,e1,iV,gta,gta,Y7,bS,iF q,wn (n:=i+1) (by omega) (by omega)];exact hk
  ·rw [iF (by simp [c])] at h;refine h.step fun k hk=>?_;rw [Q107.l1,iN,wn (n:=i+1) (by omega) (by omega)];exact hk
theorem G4 (a:Nat):∀(j:Nat) (d:Array Int),(Go.Sort.insInner ltI a j d).size=d.size
 | 0,d=>rfl
 | j+1,d=>by
  unfold Go.Sort.insInner;split
  ·rw [G4 a j,Yi]
  ·rfl
theorem Zdp {a b:Nat}:∀(m i:Nat) (d:Array Int),b - i=m->b<=d.size->d.size<=1000000->i<=1000000->Ev (fun k=>Q107.l0 k (a:Int) (b:Int) d.toList (i:Int)) (Go.Sort.insOuter ltI a b i d).toList
 | 0,i,d,hm,hb,hd,hi=>Ev.last fun k=>by
  rw [Q107.l0,iN];unfold Go.Sort.insOuter;rw [iQ]
 | m+1,i,d,hm,hb,hd,hi=>by
  have hs:=G4 a i d;have ih:=Zdp (a:=a) (b:=b) m (i+1) (Go.Sort.insInner ltI a i d) (by omega) (by omega) (by omega) (by omega);unfold Go.Sort.insOuter;rw [iO];refine (Zc9 (b:=b) i d (by omega) hd (by omega) ih).step fun k hk=>?_;rw [Q107.l0,iP];exact hk
theorem Zkr {a b:Nat} {d:Array Int} (hb:b<=d.size) (ha:a<=999999) (hd:d.size<=1000000):Ev (fun k=>Q107.f k d.toList (a:Int) (b:Int)) (Go.Sort.insertionSort ltI d a b).toList:=by
 refine (Zdp (a:=a) (b:=b) (b - (a+1)) (a+1) d rfl hb hd (by omega)).next fun k hk=>?_;unfold Q107.f;rw [wn (n:=a+1) (by omega) (by omega)];exact hk
theorem Jb (hi first:Nat):∀(n root:Nat) (d:Array Int),hi - root<=n->(Go.Sort.siftDown ltI hi first root d).size=d.size
 | 0,root,d,h=>by
  rw [Go.Sort.siftDown,dif_pos (by omega)]
 | n+1,root,d,h=>by
  rw [Go.Sort.siftDown];split
  ·rfl
  ·split
   ·split
    ·rfl
    ·split
     ·rw [Jb hi first n _ _ (by omega),Yi]
     ·rfl
   ·split
    ·rfl
    ·rw [Jb hi first n _ _ (by omega),Yi]
theorem Zgc {hi first:Nat}:∀(n root:Nat) (d:Array Int),hi - root<=n->first+hi<=d.size->d.size<=1000000->root<=1000000->Ev (fun k=>Q117.l0 k (hi:Int) (first:Int) d.toList (root:Int)) (Go.Sort.siftDown ltI hi first root d).toList
 | n,root,d,hn,hf,hd,hr=>by
  have e1:w64 (2*(root:Int))=((2*root:Nat):Int):=wn (by omega) (by omega);have e2:w64 (((2*root:Nat):Int)+1)=((2*root+1:Nat):Int):=wn (by omega) (by omega);have e3:w64 (((2*root+1:Nat):Int)+1)=((2*root+2:Nat):Int):=wn (by omega) (by omega);have e4:w64 ((first:Int)+((2*root+1:Nat):Int))=((first+(2*root+1):Nat):Int):=wn (by omega) (by omega)
  have e5:w64 (((first+(2*root+1):Nat):Int)+1)=((first+(2*root+1)+1:Nat):Int):=wn (by omega) (by omega)
  have e6:w64 ((first:Int)+(root:Int))=((first+root:Nat):Int):=wn (by omega) (by omega)
  have e7:w64 ((first:Int)+((2*root+2:Nat):Int))=((first+(2*root+2):Nat):Int):=wn (by omega) (by omega)
  have un:∀ k,Q117.l0 (k+1) (hi:Int) (first:Int) d.toList (root:Int)=_:=fun k=>Q117.l0.eq_2 (hi:Int) (first:Int) d.toList (root:Int) k
  simp only [e1,e2,e3,e4,e5,e6,e7,gta,Y7,bS,tN,X4] at un;rw [Go.Sort.siftDown];by_cases h1:2*root+1>=hi
  ·rw [dif_pos h1];exact Ev.last fun k=>by rw [un,iP]
  ·rw [dif_neg h1];cases n with
   | zero=>omega
   | succ n=>
   have go:∀(c:Nat),root<c->c<hi->Ev (fun k=>Q117.l0 k (hi:Int) (first:Int) (Go.Sort.swp d (first+root) (first+c)).toList (c:Int)) (Go.Sort.siftDown ltI hi first c (Go.Sort.swp d (first+root) (first+c))).toList:=fun c h2 h3=>
    Zgc n c _ (by omega) (by rw [Yi]; exact hf) (by rw [Yi]; exact hd) (by omega)
   have b0:(0:Int)<=((first+root:Nat):Int)/\((first+root:Nat):Int)<(d.toList.length:Int):=by simp; omega
   have b1:(0:Int)<=((first+(2*root+1):Nat):Int)/\((first+(2*root+1):Nat):Int)<(d.toList.length:Int):=by simp; omega
   have left:Ev (fun k=>Q117.l0 k (hi:Int) (first:Int) d.toList (root:Int)) (if !ltI d[first+root]! d[first+(2*root+1)]! then d else Go.Sort.siftDown ltI hi first (2*root+1) (Go.Sort.swp d (first+root) (first+(2*root+1)))).toList->True:=fun _=>trivial
   by_cases h2:2*root+1+1<hi
   ·have b2:(0:Int)<=((first+(2*root+1)+1:Nat):Int)/\((first+(2*root+1)+1:Nat):Int)<(d.toList.length:Int):=by simp; omega
    have b3:(0:Int)<=((first+(2*root+2):Nat):Int)/\((first+(2*root+2):Nat):Int)<(d.toList.length:Int):=by simp; omega
    by_cases h3:ltI d[first+(2*root+1)]! d[first+(2*root+1)+1]! = true
    ·rw [iT (by simp [h2,h3])];by_cases h4:ltI d[first+root]! d[first+(2*root+2)]! = true
     ·rw [iF (by simp [h4]),dif_pos (by omega)];refine (go (2*root+2) (by omega) (by omega)).step fun k hk=>?_;rw [un,iN,iP,iT b1,iT b2,iT h3,iT b0,iT b3,iF (by simp [h4])];exact hk
     ·rw [iT (by simp [h4])];refine Ev.last fun k=>?_;rw [un,iN,iP,iT b1,iT b2,iT h3,iT b0,iT b3,iT (by simp [h4])]
    ·rw [iF (by simp [h3])];by_cases h4:ltI d[first+root]! d[first+(2*root+1)]! = true
     ·rw [iF (by simp [h4])];refine (go (2*root+1) (by omega) (by omega)).step fun k hk=>?_;rw [un,iN,iP,iT b1,iT b2,iF h3,iT b0,iF (by simp [h4])];exact hk
     ·rw [iT (by simp [h4])];refine Ev.last fun k=>?_;rw [un,iN,iP,iT b1,iT b2,iF h3,iT b0,iT (by simp [h4])]
   ·rw [iF (by simp [h2])];by_cases h4:ltI d[first+root]! d[first+(2*root+1)]! = true
    ·rw [iF (by simp [h4])];refine (go (2*root+1) (by omega) (by omega)).step fun k hk=>?_;rw [un,iN,iN,iT b0,iT b1,iF (by simp [h4])];exact hk
    ·rw [iT (by simp [h4])];refine Ev.last fun k=>?_;rw [un,iN,iN,iT b0,iT b1,iT (by simp [h4])]
theorem Zkg {hi first root:Nat} {d:Array Int} (hf:first+hi<=d.size) (hd:d.size<=1000000) (hr:root<=1000000):Ev (fun k=>Q117.f k d.toList (root:Int) (hi:Int) (first:Int)) (Go.Sort.siftDown ltI hi first root d).toList:=Zgc hi root d (by omega) hf hd hr
theorem Zej {a:Nat}:∀(m:Nat) (d:Array Int),a+m<=d.size->d.size<=1000000->Ev (fun k=>Q106.l1 k (a:Int) d.toList ((m:Int) - 1)) (Go.Sort.heapPop ltI a m d).toList
 | 0,d,h,hd=>Ev.last fun k=>by
  rw [Q106.l1,vS];rfl
 | m+1,d,h,hd=>by
  have e0:(((m+1:Nat):Int) - 1)=(m:Int):=by omega
  have e1:w64 ((a:Int)+(m:Int))=((a+m:Nat):Int):=wn (by omega) (by omega);have e2:w64 ((m:Int) - 1)=(m:Int) - 1:=wI2;have s1:=Zkg (hi:=m) (first:=a) (root:=0) (d:=Go.Sort.swp d a (a+m)) (by rw [Yi]; omega) (by rw [Yi]; exact hd) (by omega)
  have sz:=Jb m a m 0 (Go.Sort.swp d a (a+m)) (by omega);rw [Yi] at sz;have ih:=Zej (a:=a) m (Go.Sort.siftDown ltI m a 0 (Go.Sort.swp d a (a+m))) (by omega) (by omega);rw [e0];refine Ev.step2 s1 ih fun k h1 h2=>?_;rw [Q106.l1,iP,e1,iV,iV,gta,gta,tN,tN,X4,show Q117.f k (Go.Sort.swp d a (a+m)).toList 0 (m:Int) (a:Int)=_ from h1,bS,e2];exact h2
theorem Zb3 {a b:Nat} (hab:a<=b):∀(m:Nat) (d:Array Int),b<=d.size->d.size<=1000000->m<=1000000->Ev (fun k=>Q106.l0 k (a:Int) (b:Int) d.toList ((m:Int) - 1)) (Go.Sort.heapPop ltI a (b - a) (Go.Sort.heapBuild ltI (b - a) a m d)).toList
 | 0,d,h,hd,hm=>by
  have e1:w64 ((b:Int) - (a:Int))=((b - a:Nat):Int):=wn (by omega) (by omega);have e2:w64 (((b - a:Nat):Int) - 1)=((b - a:Nat):Int) - 1:=wI2;refine (Zej (a:=a) (b - a) d (by omega) hd).step fun k hk=>?_;rw [Q106.l0,vS,e1,e2];exact hk
 | m+1,d,h,hd,hm=>by
  have e0:(((m+1:Nat):Int) - 1)=(m:Int):=by omega
  have e1:w64 ((b:Int) - (a:Int))=((b - a:Nat):Int):=wn (by omega) (by omega);have e2:w64 ((m:Int) - 1)=(m:Int) - 1:=wI2;have s1:=Zkg (hi:=b - a) (first:=a) (root:=m) (d:=d) (by omega) hd (by omega)
  have sz:=Jb (b - a) a (b - a) m d (by omega);have ih:=Zb3 hab m (Go.Sort.siftDown ltI (b - a) a m d) (by omega) (by omega) (by omega);rw [e0];refine Ev.step2 s1 ih fun k h1 h2=>?_;rw [Q106.l0,iP,e1,h1,bS,e2];exact h2
theorem Zmq {a b:Nat} {d:Array Int} (hab:a<=b) (hb:b<=d.size) (hd:d.size<=1000000):Ev (fun k=>Q106.f k d.toList (a:Int) (b:Int)) (Go.Sort.heapSort ltI d a b).toList:=by
 refine (Zb3 hab ((b - a - 1) / 2+1) d hb hd (by omega)).next fun k hk=>?_;have e1:w64 ((b:Int) - (a:Int))=((b - a:Nat):Int):=wn (by omega) (by omega);have e2:w64 (((b - a:Nat):Int) - 1)=((b - a:Nat):Int) - 1:=wI2;have e3:Int.tdiv (((b - a:Nat):Int) - 1) 2=(((b - a - 1) / 2:Nat):Int):=by
  by_cases z:b - a=0
  ·rw [z]; rfl
  ·rw [show ((b - a:Nat):Int) - 1=((b - a - 1:Nat):Int) by omega];rfl
 unfold Q106.f;rw [e1,e2,e3,wI2];rw [show ((((b - a - 1) / 2+1:Nat):Int) - 1)=(((b - a - 1) / 2:Nat):Int) by omega] at hk;exact hk
theorem Zht:∀(m i j:Nat) (d:Array Int),j - i<=m->i<=1000000->j<d.size->d.size<=1000000->Ev (fun k=>Q116.l0 k d.toList (i:Int) (j:Int)) (Go.Sort.reverseLoop i j d).toList
 | m,i,j,d,hm,hi,hj,hd=>by
  rw [Go.Sort.reverseLoop];by_cases c:i<j
  ·cases m with
   | zero=>omega
   | succ m=>
   rw [iT c];refine (Zht m (i+1) (j - 1) (Go.Sort.swp d i j) (by omega) (by omega) (by rw [Yi]; omega) (by rw [Yi]; exact hd)).step fun k hk=>?_;rw [Q116.l0,iP,iV,iV,gta,gta,tN,tN,X4,wn (n:=i+1) (by omega) (by omega),wn (x:=(j:Int) - 1) (n:=j - 1) (by omega) (by omega)];exact hk
  ·rw [iF c];exact Ev.last fun k=>by rw [Q116.l0,iN]
theorem Zna {a b:Nat} {d:Array Int} (ha:a<=1000000) (h1:1<=b) (hb:b<=d.size) (hd:d.size<=1000000):Ev (fun k=>Q116.f k d.toList (a:Int) (b:Int)) (Go.Sort.reverseRange d a b).toList:=by
 refine (Zht (b - 1 - a) a (b - 1) d (Nat.le_refl _) ha (by omega) hd).next fun k hk=>?_;unfold Q116.f;rw [wn (x:=(b:Int) - 1) (n:=b - 1) (by omega) (by omega)];exact hk
theorem Zco {d:Array Int} {a b s:Nat} (ha:a<d.size) (hb:b<d.size) (hs:s<=1000):Q111.f d.toList (a:Int) (b:Int) (s:Int)=some (((Go.Sort.order2 ltI d a b s).1:Int),((Go.Sort.order2 ltI d a b s).2.1:Int),((Go.Sort.order2 ltI d a b s).2.2:Int)):=by
 unfold Q111.f Go.Sort.order2;rw [iV,iV,gta,gta,Y7,bS,wn (n:=s+1) (by omega) (by omega)];split <;> rfl
theorem Uj {P:Nat->Prop} {d:Array Int} {a b s:Nat} (ha:P a) (hb:P b):P (Go.Sort.order2 ltI d a b s).1/\P (Go.Sort.order2 ltI d a b s).2.1/\(Go.Sort.order2 ltI d a b s).2.2<=s+1:=by
 unfold Go.Sort.order2;split
 ·exact ⟨hb,ha,Nat.le_refl _⟩
 ·exact ⟨ha,hb,Nat.le_succ _⟩
theorem Zh4 {P:Nat->Prop} {d:Array Int} {a b c s:Nat} (ha:P a) (hb:P b) (hc:P c):P (Go.Sort.median ltI d a b c s).1/\(Go.Sort.median ltI d a b c s).2<=s+3:=by
 obtain ⟨a1,a2,a3⟩:=Uj (d:=d) (s:=s) ha hb;obtain ⟨b1,b2,b3⟩:=Uj (d:=d) (s:=(Go.Sort.order2 ltI d a b s).2.2) a2 hc;obtain ⟨c1,c2,c3⟩:=Uj (d:=d) (s:=(Go.Sort.order2 ltI d (Go.Sort.order2 ltI d a b s).2.1 c (Go.Sort.order2 ltI d a b s).2.2).2.2) a1 b1;unfold Go.Sort.median;exact ⟨c2,by dsimp only; omega⟩
theorem Zcj {d:Array Int} {a b c s:Nat} (ha:a<d.size) (hb:b<d.size) (hc:c<d.size) (hs:s<=900):Q109.f d.toList (a:Int) (b:Int) (c:Int) (s:Int)=some (((Go.Sort.median ltI d a b c s).1:Int),((Go.Sort.median ltI d a b c s).2:Int)):=by
 obtain ⟨a1,a2,a3⟩:=Uj (P:=fun x=>x<d.size) (d:=d) (s:=s) ha hb;obtain ⟨b1,b2,b3⟩:=Uj (P:=fun x=>x<d.size) (d:=d) (s:=(Go.Sort.order2 ltI d a b s).2.2) a2 hc;unfold Q109.f Go.Sort.median;rw [Zco ha hb (by omega),bS];dsimp only;rw [Zco a2 hc (by omega),bS];dsimp only;rw [Zco a1 b1 (by omega),bS]
theorem Zck {d:Array Int} {a s:Nat} (h1:1<=a) (ha:a+1<d.size) (hd:d.size<=1000000) (hs:s<=900):Q108.f d.toList (a:Int) (s:Int)=some (((Go.Sort.medianAdjacent ltI d a s).1:Int),((Go.Sort.medianAdjacent ltI d a s).2:Int)):=by
 unfold Q108.f Go.Sort.medianAdjacent;rw [wn (x:=(a:Int) - 1) (n:=a - 1) (by omega) (by omega),wn (n:=a+1) (by omega) (by omega),Zcj (by omega) (by omega) (by omega) hs];rfl
theorem B2 {d:Array Int} {a s:Nat} (ha:a+1<d.size):(Go.Sort.medianAdjacent ltI d a s).1<d.size/\(Go.Sort.medianAdjacent ltI d a s).2<=s+3:=by
 unfold Go.Sort.medianAdjacent;exact Zh4 (P:=fun x=>x<d.size) (by omega) (by omega) (by omega)
def Zb0:Go.Sort.Hint->Int
 | .unknown=>0
 | .increasing=>1
 | .decreasing=>2
theorem Zf5 (x:Int) (n:Nat):(if (decide ((n:Int)=0))=true then (some (x,(1:Int))) else (if (decide ((n:Int)=12))=true then (some (x,2)) else (some (x,0))))=some (x,Zb0 (if n=0 then Go.Sort.Hint.increasing else if n=12 then .decreasing else .unknown)):=by
 by_cases h1:n=0
 ·subst h1; rfl
 ·rw [iN,iF h1];by_cases h2:n=12
  ·subst h2; rfl
  ·rw [iN,iF h2];rfl
theorem Zmg {d:Array Int} {a b:Nat} (hab:a<=b) (hb:b<=d.size) (h12:12<b - a) (hd:d.size<=1000000):Q105.f d.toList (a:Int) (b:Int)=some (((Go.Sort.choosePivot ltI d a b).1:Int),Zb0 (Go.Sort.choosePivot ltI d a b).2):=by
 have e1:w64 ((b:Int) - (a:Int))=((b - a:Nat):Int):=wn (by omega) (by omega);have e2:w64 (Int.tdiv ((b - a:Nat):Int) 4)=(((b - a) / 4:Nat):Int):=by
  rw [show Int.tdiv ((b - a:Nat):Int) 4=(((b - a) / 4:Nat):Int) from rfl,wI2]
 obtain ⟨q,hq⟩:∃ q,q=(b - a) / 4:=⟨_,rfl⟩;rw [<- hq] at e2;have e3:w64 ((q:Int)*1)=((q*1:Nat):Int):=wn (by omega) (by omega);have e4:w64 ((q:Int)*2)=((q*2:Nat):Int):=wn (by omega) (by omega);have e5:w64 ((q:Int)*3)=((q*3:Nat):Int):=wn (by omega) (by omega);have e6:w64 ((a:Int)+((q*1:Nat):Int))=((a+q*1:Nat):Int):=wn (by omega) (by omega);have e7:w64 ((a:Int)+((q*2:Nat):Int))=((a+q*2:Nat):Int):=wn (by omega) (by omega);have e8:w64 ((a:Int)+((q*3:Nat):Int))=((a+q*3:Nat):Int):=wn (by omega) (by omega);unfold Q105.f Go.Sort.choosePivot;simp only [e1,e2,e3,e4,e5,e6,e7,e8,<- hq];rw [iP,iT (show b - a>=8 by omega)];by_cases c:b - a>=50
 ·obtain ⟨i1,i2⟩:=B2 (d:=d) (a:=a+q*1) (s:=0) (by omega);obtain ⟨j1,j2⟩:=B2 (d:=d) (a:=a+q*2) (s:=(Go.Sort.medianAdjacent ltI d (a+q*1) 0).2) (by omega);obtain ⟨k1,k2⟩:=B2 (d:=d) (a:=a+q*3) (s:=(Go.Sort.medianAdjacent ltI d (a+q*2) (Go.Sort.medianAdjacent ltI d (a+q*1) 0).2).2) (by omega);rw [iP,iT c,show Q108.f d.toList ((a+q*1:Nat):Int) 0=_ from Zck (s:=0) (by omega) (by omega) hd (by omega),bS];dsimp only;rw [Zck (by omega) (by omega) hd (by omega),bS];dsimp only;rw [Zck (by omega) (by omega) hd (by omega),bS];dsimp only;rw [Zcj i1 j1 k1 (by omega),bS];exact Zf5 _ _
 ·rw [iN,iF c,show Q109.f d.toList ((a+q*1:Nat):Int) ((a+q*2:Nat):Int) ((a+q*3:Nat):Int) 0=_ from Zcj (s:=0) (by omega) (by omega) (by omega) (by omega),bS];exact Zf5 _ _
theorem Zf3 {R:Type} {b:Nat} {r:R} {F:Nat->List Int->Int->Option R} {G:Nat->List Int->Option R}
  (hF:∀ k x j,F (k+1) x j=if (decide (j<(b:Int)))=true then (if 0<=j/\j<(x.length:Int) then (if 0<=(w64 (j - 1))/\(w64 (j - 1))<(x.length:Int) then ((Q32.f (gt x j) (gt x (w64 (j - 1)))).bind fun r3=>(if (!r3)=true then (G k x) else (F k ((x.set j.toNat (gt x (w64 (j - 1)))).set (w64 (j - 1)).toNat (gt x j)) (w64 (j+1))))) else none) else none) else (G k x)) :
  ∀(m j:Nat) (d:Array Int),b - j<=m->1<=j->b<=d.size->d.size<=1000000->Ev (fun k=>G k (Go.Sort.shiftUp ltI b j d).toList) r->Ev (fun k=>F k d.toList (j:Int)) r
 | m,j,d,hm,h1,hb,hd,h=>by
  rw [Go.Sort.shiftUp] at h;by_cases c:j<b
  ·cases m with
   | zero=>omega
   | succ m=>
   have e1:w64 ((j:Int) - 1)=((j - 1:Nat):Int):=wn (by omega) (by omega);have e2:w64 ((j:Int)+1)=((j+1:Nat):Int):=wn (by omega) (by omega);rw [iT c] at h;by_cases q:ltI d[j]! d[j - 1]! = true
   ·rw [iF (by simp [q])] at h;refine (Zf3 hF m (j+1) (Go.Sort.swp d j (j - 1)) (by omega) (by omega) (by rw [Yi]; exact hb) (by rw [Yi]; exact hd) h).step fun k hk=>?_;rw [hF,iP,e1,iV,iV,gta,gta,Y7,bS,iF (by simp [q]),tN,tN,X4,e2];exact hk
   ·rw [iT (by simp [q])] at h;refine h.step fun k hk=>?_;rw [hF,iP,e1,iV,iV,gta,gta,Y7,bS,iT (by simp [q])];exact hk
  ·rw [iF c] at h;refine h.step fun k hk=>?_;rw [hF,iN];exact hk
theorem Ba (b:Nat):∀(m j:Nat) (d:Array Int),b - j<=m->(Go.Sort.shiftUp ltI b j d).size=d.size
 | m,j,d,hm=>by
  rw [Go.Sort.shiftUp];by_cases c:j<b
  ·cases m with
   | zero=>omega
   | succ m=>
   rw [iT c];split
   ·rfl
   ·rw [Ba b m _ _ (by omega),Yi]
  ·rw [iF c]
theorem J1:∀(j:Nat) (d:Array Int),(Go.Sort.shiftDown ltI j d).size=d.size
 | 0,d=>rfl
 | j+1,d=>by
  unfold Go.Sort.shiftDown;split
  ·rfl
  ·rw [J1 j,Yi]
theorem Zdn {R:Type} {r:R} {F:Nat->List Int->Int->Option R} {G1 G2:Nat->List Int->Option R}
  (hF:∀ k x j,F (k+1) x j=if (decide (1<=j))=true then (if 0<=j/\j<(x.length:Int) then (if 0<=(w64 (j - 1))/\(w64 (j - 1))<(x.length:Int) then ((Q32.f (gt x j) (gt x (w64 (j - 1)))).bind fun r3=>(if (!r3)=true then (G1 k x) else (F k ((x.set j.toNat (gt x (w64 (j - 1)))).set (w64 (j - 1)).toNat (gt x j)) (w64 (j - 1))))) else none) else none) else (G2 k x)) :
  ∀(j:Nat) (d:Array Int),j<d.size->d.size<=1000000->Ev (fun k=>G1 k (Go.Sort.shiftDown ltI j d).toList) r->Ev (fun k=>G2 k (Go.Sort.shiftDown ltI j d).toList) r->Ev (fun k=>F k d.toList (j:Int)) r
 | 0,d,hj,hd,h1,h2=>h2.step fun k hk=>by
  rw [hF,vS];exact hk
 | j+1,d,hj,hd,h1,h2=>by
  have e1:w64 (((j+1:Nat):Int) - 1)=(j:Int):=wn (by omega) (by omega);unfold Go.Sort.shiftDown at h1 h2;by_cases q:ltI d[j+1]! d[j]! = true
  ·rw [iF (by simp [q])] at h1 h2;refine (Zdn hF j (Go.Sort.swp d (j+1) j) (by rw [Yi]; omega) (by rw [Yi]; exact hd) h1 h2).step fun k hk=>?_;rw [hF,iP,e1,iV,iV,gta,gta,Y7,bS,iF (by simp [q]),tN,tN,X4];exact hk
  ·rw [iT (by simp [q])] at h1;refine h1.step fun k hk=>?_;rw [hF,iP,e1,iV,iV,gta,gta,Y7,bS,iT (by simp [q])];exact hk
def Zam (a b s i:Nat) (d:Array Int):Array Int×Bool:=
 if i=b then (d,true) else if b - a<50 then (d,false) else
  Go.Sort.partialIns ltI a b s i (let d1:=Go.Sort.swp d i (i - 1); let d2:=if i - a>=2 then Go.Sort.shiftDown ltI (i - 1) d1 else d1; if b - i>=2 then Go.Sort.shiftUp ltI b (i+1) d2 else d2)
theorem Zbt (a b s i:Nat) (d:Array Int):Go.Sort.partialIns ltI a b (s+1) i d=Zam a b s (Go.Sort.scanSorted ltI d b i) d:=rfl
def Ux (p:Array Int×Bool):Bool×List Int:=(p.2,p.1.toList)
theorem Zh6 {a b s i:Nat} {d:Array Int} (hs:s<5) (ha:a<i) (hi:i<b) (hb:b<=d.size) (hd:d.size<=1000000) (hq:ltI d[i]! d[i - 1]! = true)
  (ih:∀ d':Array Int,d'.size=d.size->Ev (fun k=>Q112.l0 k (a:Int) (b:Int) d'.toList (i:Int) ((5 - s:Nat):Int)) (Ux (Go.Sort.partialIns ltI a b s i d'))) :
  Ev (fun k=>Q112.l3 k (a:Int) (b:Int) d.toList ((4 - s:Nat):Int) (i:Int)) (Ux (Zam a b s i d)):=by
 have e1:w64 ((i:Int) - 1)=((i - 1:Nat):Int):=wn (by omega) (by omega);have e2:w64 ((b:Int) - (a:Int))=((b - a:Nat):Int):=wn (by omega) (by omega);have e3:w64 ((i:Int) - (a:Int))=((i - a:Nat):Int):=wn (by omega) (by omega);have e4:w64 ((b:Int) - (i:Int))=((b - i:Nat):Int):=wn (by omega) (by omega);have e5:w64 ((i:Int)+1)=((i+1:Nat):Int):=wn (by omega) (by omega);have e6:w64 (((4 - s:Nat):Int)+1)=((5 - s:Nat):Int):=wn (by omega) (by omega);have un:∀ k,Q112.l3 (k+1) (a:Int) (b:Int) d.toList ((4 - s:Nat):Int) (i:Int)=(if (decide (((b - a:Nat):Int)<50))=true then (some (false,d.toList)) else (if (decide (2<=((i - a:Nat):Int)))=true then (Q112.l2 k (a:Int) (b:Int) ((4 - s:Nat):Int) (i:Int) (Go.Sort.swp d i (i - 1)).toList ((i - 1:Nat):Int)) else (if (decide (2<=((b - i:Nat):Int)))=true then (Q112.l1 k (a:Int) (b:Int) ((4 - s:Nat):Int) (i:Int) (Go.Sort.swp d i (i - 1)).toList ((i+1:Nat):Int)) else (Q112.l0 k (a:Int) (b:Int) (Go.Sort.swp d i (i - 1)).toList (i:Int) ((5 - s:Nat):Int))))):=fun k=>by
  rw [Q112.l3,iP,e1,iV,iV,gta,gta,Y7,bS,iF (by simp [hq]),iN,iT (show 0<=((i - 1:Nat):Int)/\((i - 1:Nat):Int)<(d.toList.length:Int) by simp; omega),iT (show 0<=(i:Int)/\(i:Int)<(d.toList.length:Int) by simp; omega),e2,e3,e4,e5,e6,tN,tN,X4]
 unfold Zam;rw [iQ];by_cases c1:b - a<50
 ·rw [iT c1];exact Ev.last fun k=>by rw [un,iP]; rfl
 ·rw [iF c1];have sz:=Yi d i (i - 1);have fin:∀(d2:Array Int),d2.size=d.size->∀(F:Nat->List Int->Int->Option TR),(∀ k x j,F (k+1) x j=if (decide (j<(b:Int)))=true then (if 0<=j/\j<(x.length:Int) then (if 0<=(w64 (j - 1))/\(w64 (j - 1))<(x.length:Int) then ((Q32.f (gt x j) (gt x (w64 (j - 1)))).bind fun r3=>(if (!r3)=true then (Q112.l0 k (a:Int) (b:Int) x (i:Int) ((5 - s:Nat):Int)) else (F k ((x.set j.toNat (gt x (w64 (j - 1)))).set (w64 (j - 1)).toNat (gt x j)) (w64 (j+1))))) else none) else none) else (Q112.l0 k (a:Int) (b:Int) x (i:Int) ((5 - s:Nat):Int)))->
    Ev (fun k=>F k d2.toList ((i+1:Nat):Int)) (Ux (Go.Sort.partialIns ltI a b s i (Go.Sort.shiftUp ltI b (i+1) d2))):=fun d2 h2 F hF=>
   Zf3 (G:=fun k x=>Q112.l0 k (a:Int) (b:Int) x (i:Int) ((5 - s:Nat):Int)) hF b (i+1) d2 (by omega) (by omega) (by omega) (by omega) (ih _ (by rw [Ba b b _ _ (by omega),h2]))
  by_cases c2:i - a>=2
  ·have sz2:(Go.Sort.shiftDown ltI (i - 1) (Go.Sort.swp d i (i - 1))).size=d.size:=by rw [J1,sz]
   have dn:=Zdn (r:=Ux (Go.Sort.partialIns ltI a b s i (if b - i>=2 then Go.Sort.shiftUp ltI b (i+1) (Go.Sort.shiftDown ltI (i - 1) (Go.Sort.swp d i (i - 1))) else Go.Sort.shiftDown ltI (i - 1) (Go.Sort.swp d i (i - 1)))))
    (F:=fun k x j=>Q112.l2 k (a:Int) (b:Int) ((4 - s:Nat):Int) (i:Int) x j)
    (G1:=fun k x=>if (decide (2<=((b - i:Nat):Int)))=true then (Q112.l1 k (a:Int) (b:Int) ((4 - s:Nat):Int) (i:Int) x ((i+1:Nat):Int)) else (Q112.l0 k (a:Int) (b:Int) x (i:Int) ((5 - s:Nat):Int)))
    (G2:=fun k x=>if (decide (2<=((b - i:Nat):Int)))=true then (Q112.l1 k (a:Int) (b:Int) ((4 - s:Nat):Int) (i:Int) x ((i+1:Nat):Int)) else (Q112.l0 k (a:Int) (b:Int) x (i:Int) ((5 - s:Nat):Int)))
    (fun k x j=>by rw [Q112.l2]; simp only [e4,e5,e6]) (i - 1) (Go.Sort.swp d i (i - 1)) (by omega) (by omega)
   have key:=dn (by
    by_cases c3:b - i>=2
    ·simp only [iT c3,iT (show decide (2<=((b - i:Nat):Int))=true from dT)];exact fin _ sz2 (fun k x j=>Q112.l1 k (a:Int) (b:Int) ((4 - s:Nat):Int) (i:Int) x j) (fun k x j=>by rw [Q112.l1]; simp only [e6])
    ·simp only [iF c3,iF (show ¬ decide (2<=((b - i:Nat):Int))=true by simp only [dE]; omega)];exact ih _ sz2) (by
    by_cases c3:b - i>=2
    ·simp only [iT c3,iT (show decide (2<=((b - i:Nat):Int))=true from dT)];exact fin _ sz2 (fun k x j=>Q112.l1 k (a:Int) (b:Int) ((4 - s:Nat):Int) (i:Int) x j) (fun k x j=>by rw [Q112.l1]; simp only [e6])
    ·simp only [iF c3,iF (show ¬ decide (2<=((b - i:Nat):Int))=true by simp only [dE]; omega)];exact ih _ sz2)
   refine key.step fun k hk=>?_;rw [un,iN,iP,hk];simp only [iT c2]
  ·by_cases c3:b - i>=2
   ·refine (fin _ sz (fun k x j=>Q112.l1 k (a:Int) (b:Int) ((4 - s:Nat):Int) (i:Int) x j) (fun k x j=>by rw [Q112.l1]; simp only [e6])).step fun k hk=>?_;rw [un,iN,iN,iP,hk];simp only [iF c2,iT c3]
   ·refine (ih _ sz).step fun k hk=>?_;rw [un,iN,iN,iN,hk];simp only [iF c2,iF c3]
theorem Zfv {a b n:Nat} (hn:n<=1000000) (hb:b<=n):∀(s i:Nat) (d:Array Int),s<=5->a<i->i<=b->d.size=n->Ev (fun k=>Q112.l0 k (a:Int) (b:Int) d.toList (i:Int) ((5 - s:Nat):Int)) (Ux (Go.Sort.partialIns ltI a b s i d))
 | 0,i,d,hs,ha,hi,hd=>Ev.last fun k=>by
  rw [Q112.l0,vS];rfl
 | s+1,i,d,hs,ha,hi,hd=>by
  rw [Zbt];have scan:∀(m i:Nat),b - i<=m->a<i->i<=b->Ev (fun k=>Q112.l3 k (a:Int) (b:Int) d.toList ((4 - s:Nat):Int) (i:Int)) (Ux (Zam a b s (Go.Sort.scanSorted ltI d b i) d)):=fun m=>by
   induction m with
   | zero=>
    intro i hm ha hi;rw [Go.Sort.scanSorted,iW];unfold Zam;rw [iO];exact Ev.last fun k=>by
     rw [Q112.l3,iN,iP];rfl
   | succ m ihm=>
    intro i hm ha hi;rw [Go.Sort.scanSorted];by_cases c:i<b
    ·by_cases q:ltI d[i]! d[i - 1]! = true
     ·rw [iF (by simp [q])];exact Zh6 (by omega) ha c (by omega) (by omega) q fun d' h'=>Zfv hn hb s i d' (by omega) ha hi (by omega)
     ·rw [iT (by simp [c,q])];have e1:w64 ((i:Int) - 1)=((i - 1:Nat):Int):=wn (by omega) (by omega);have e5:w64 ((i:Int)+1)=((i+1:Nat):Int):=wn (by omega) (by omega);refine (ihm (i+1) (by omega) (by omega) (by omega)).step fun k hk=>?_;rw [Q112.l3,iP,e1,iV,iV,gta,gta,Y7,bS,iT (by simp [q]),e5];exact hk
    ·rw [iF (by simp [c])];unfold Zam;rw [iO];exact Ev.last fun k=>by
      rw [Q112.l3,iN,iP];rfl
  refine (scan b i (by omega) ha hi).step fun k hk=>?_;rw [Q112.l0,iP,show ((5 - (s+1):Nat):Int)=((4 - s:Nat):Int) by omega];exact hk
theorem Zm7 {a b:Nat} {d:Array Int} (hab:a<b) (hb:b<=d.size) (hd:d.size<=1000000):Ev (fun k=>Q112.f k d.toList (a:Int) (b:Int)) (Ux (Go.Sort.partialInsertionSort ltI d a b)):=by
 refine (Zfv (a:=a) (b:=b) hd hb 5 (a+1) d (Nat.le_refl _) (by omega) (by omega) rfl).next fun k hk=>?_;unfold Q112.f;rw [wn (n:=a+1) (by omega) (by omega)];exact hk
theorem B0 (p:Int->Bool) (d:Array Int) (j:Nat):∀(m i:Nat),j+1 - i<=m->i<=Go.Sort.scanUp p d j i/\(Go.Sort.scanUp p d j i<=j+1\/Go.Sort.scanUp p d j i=i)
 | m,i,hm=>by
  rw [Go.Sort.scanUp];by_cases c:(decide (i<=j) && p d[i]!)=true
  ·rw [iT c];have hij:i<=j:=by simp only [Bool.and_eq_true,dE] at c; exact c.1
   cases m with
   | zero=>omega
   | succ m=>
   have:=B0 p d j m (i+1) (by omega);omega
  ·rw [iF c];exact ⟨Nat.le_refl _,.inr rfl⟩
theorem Ua (p:Int->Bool) (d:Array Int) (i:Nat):∀ j:Nat,Go.Sort.scanDown p d i j<=j
 | 0=>Nat.le_refl _
 | j+1=>by
  unfold Go.Sort.scanDown;split
  ·have:=Ua p d i j; omega
  ·exact Nat.le_refl _
def J8 (p:Nat×Array Int):Int×List Int:=((p.1:Int),p.2.toList)
def Jh (a i2 j2:Nat) (d:Array Int):Nat×Array Int:=if i2>j2 then (i2,d) else Go.Sort.partEqLoop ltI a (i2+1) (j2 - 1) (Go.Sort.swp d i2 j2)
theorem Zfq {a i j:Nat} {d:Array Int} (h1:1<=i):Go.Sort.partEqLoop ltI a i j d=Jh a (Go.Sort.scanUp (fun x=>!ltI d[a]! x) d j i) (Go.Sort.scanDown (fun x=>ltI d[a]! x) d (Go.Sort.scanUp (fun x=>!ltI d[a]! x) d j i) j) d:=by
 have u:=(B0 (fun x=>!ltI d[a]! x) d j _ i (Nat.le_refl _)).1;have v:=Ua (fun x=>ltI d[a]! x) d (Go.Sort.scanUp (fun x=>!ltI d[a]! x) d j i) j;rw [Go.Sort.partEqLoop];unfold Jh;split
 ·rfl
 ·rw [dif_pos (by omega)]
theorem Zf0 {a i2:Nat} {d:Array Int} (hi:1<=i2) (ha:a<d.size) (hd:d.size<=1000000) (hi2:i2<=1000001):∀(j:Nat),j<d.size->(∀ j2,j2<=j->i2<=j2->Ev (fun k=>Q113.l0 k (a:Int) (Go.Sort.swp d i2 j2).toList ((i2+1:Nat):Int) ((j2 - 1:Nat):Int)) (J8 (Go.Sort.partEqLoop ltI a (i2+1) (j2 - 1) (Go.Sort.swp d i2 j2))))->
  Ev (fun k=>Q113.l2 k (a:Int) d.toList (i2:Int) (j:Int)) (J8 (Jh a i2 (Go.Sort.scanDown (fun x=>ltI d[a]! x) d i2 j) d))
 | 0,hj,h=>by
  unfold Go.Sort.scanDown Jh;rw [iO];exact Ev.last fun k=>by rw [Q113.l2,iN,iP]; rfl
 | j+1,hj,h=>by
  have e1:w64 (((j+1:Nat):Int) - 1)=(j:Int):=wn (by omega) (by omega);have e2:w64 ((i2:Int)+1)=((i2+1:Nat):Int):=wn (by omega) (by omega);unfold Go.Sort.scanDown;by_cases c:i2<=j+1
  ·by_cases q:ltI d[a]! d[j+1]! = true
   ·rw [iT (by simp [c,q])];refine (Zf0 hi ha hd hi2 j (by omega) fun j2 a b=>h j2 (by omega) b).step fun k hk=>?_;rw [Q113.l2,iP,iV,gta,gta,Y7,bS,iT q,e1];exact hk
   ·rw [iF (by simp [q])];unfold Jh;rw [iQ];refine (h (j+1) (Nat.le_refl _) c).step fun k hk=>?_;rw [Q113.l2,iP,iV,gta,gta,Y7,bS,iF q,iN,gta,tN,tN,X4,e1,e2];exact hk
  ·rw [iF (by simp [c])];unfold Jh;rw [iO];exact Ev.last fun k=>by rw [Q113.l2,iN,iP]; rfl
theorem Zj8 {a j:Nat} {d:Array Int} (ha:a<d.size) (hd:d.size<=1000000) (hj:j<d.size):∀(m i:Nat),j+1 - i<=m->1<=i->i<=1000001->(∀ i2 j2,i<=i2->j2<=j->i2<=j2->Ev (fun k=>Q113.l0 k (a:Int) (Go.Sort.swp d i2 j2).toList ((i2+1:Nat):Int) ((j2 - 1:Nat):Int)) (J8 (Go.Sort.partEqLoop ltI a (i2+1) (j2 - 1) (Go.Sort.swp d i2 j2))))->
  Ev (fun k=>Q113.l1 k (a:Int) d.toList (j:Int) (i:Int)) (J8 (Jh a (Go.Sort.scanUp (fun x=>!ltI d[a]! x) d j i) (Go.Sort.scanDown (fun x=>ltI d[a]! x) d (Go.Sort.scanUp (fun x=>!ltI d[a]! x) d j i) j) d))
 | m,i,hm,h1,hi,h=>by
  have e2:w64 ((i:Int)+1)=((i+1:Nat):Int):=wn (by omega) (by omega);rw [Go.Sort.scanUp];by_cases c:i<=j
  ·by_cases q:ltI d[a]! d[i]! = true
   ·rw [iF (by simp [q])];refine (Zf0 h1 ha hd hi j hj fun j2 a b=>h i j2 (Nat.le_refl _) a b).step fun k hk=>?_;rw [Q113.l1,iP,iV,iV,gta,gta,Y7,bS,iF (by simp [q])];exact hk
   ·cases m with
    | zero=>omega
    | succ m=>
    rw [iT (by simp [c,q])];refine (Zj8 ha hd hj m (i+1) (by omega) (by omega) (by omega) fun i2 j2 a b c=>h i2 j2 (by omega) b c).step fun k hk=>?_;rw [Q113.l1,iP,iV,iV,gta,gta,Y7,bS,iT (by simp [q]),e2];exact hk
  ·rw [iF (by simp [c])];have v:=Ua (fun x=>ltI d[a]! x) d i j;unfold Jh;rw [iO];have:Ev (fun k=>Q113.l3 k (a:Int) d.toList (j:Int) (i:Int)) (J8 (i,d)):=Ev.last fun k=>by
    rw [Q113.l3,iP];rfl
   refine this.step fun k hk=>?_;rw [Q113.l1,iN];exact hk
theorem Zf4 {a n:Nat} (hn:n<=1000000) (ha:a<n):∀(m i j:Nat) (d:Array Int),j+1 - i<=m->1<=i->i<=1000001->j<n->d.size=n->Ev (fun k=>Q113.l0 k (a:Int) d.toList (i:Int) (j:Int)) (J8 (Go.Sort.partEqLoop ltI a i j d))
 | m,i,j,d,hm,h1,hi,hj,hd=>by
  rw [Zfq h1];refine (Zj8 (a:=a) (j:=j) (d:=d) (by omega) (by omega) (by omega) _ i (Nat.le_refl _) h1 hi fun i2 j2 a1 a2 a3=>?_).step fun k hk=>?_
  ·cases m with
   | zero=>omega
   | succ m=>exact Zf4 hn ha m (i2+1) (j2 - 1) (Go.Sort.swp d i2 j2) (by omega) (by omega) (by omega) (by omega) (by rw [Yi]; exact hd)
  ·rw [Q113.l0];exact hk
theorem Zlg {a b p:Nat} {d:Array Int} (hab:a<b) (hp:p<d.size) (hb:b<=d.size) (hd:d.size<=1000000):Ev (fun k=>Q113.f k d.toList (a:Int) (b:Int) (p:Int)) (J8 (Go.Sort.partitionEqual ltI d a b p)):=by
 refine (Zf4 (a:=a) (n:=d.size) hd (by omega) _ (a+1) (b - 1) (Go.Sort.swp d a p) (Nat.le_refl _) (by omega) (by omega) (by omega) (Yi d a p)).next fun k hk=>?_;unfold Q113.f;rw [iV,iV,gta,gta,tN,tN,X4,wn (n:=a+1) (by omega) (by omega),wn (x:=(b:Int) - 1) (n:=b - 1) (by omega) (by omega)];exact hk
def Ze9 (d:Array Int) (a j:Nat):Int×Bool×List Int:=((j:Int),false,(Go.Sort.swp d j a).toList)
def Gh (a i2 j2:Nat) (d:Array Int):Nat×Array Int:=if i2>j2 then (j2,d) else Go.Sort.partLoop ltI a (i2+1) (j2 - 1) (Go.Sort.swp d i2 j2)
theorem Zh7 {a i j:Nat} {d:Array Int} (h1:1<=i):Go.Sort.partLoop ltI a i j d=Gh a (Go.Sort.scanUp (fun x=>ltI x d[a]!) d j i) (Go.Sort.scanDown (fun x=>!ltI x d[a]!) d (Go.Sort.scanUp (fun x=>ltI x d[a]!) d j i) j) d:=by
 have u:=(B0 (fun x=>ltI x d[a]!) d j _ i (Nat.le_refl _)).1;have v:=Ua (fun x=>!ltI x d[a]!) d (Go.Sort.scanUp (fun x=>ltI x d[a]!) d j i) j;rw [Go.Sort.partLoop];unfold Gh;split
 ·rfl
 ·rw [dif_pos (by omega)]
structure Part4 (a:Nat) (F2 F3 F4:Nat->List Int->Int->Int->Option TM):Prop where
 h2:∀ k x i j,F2 (k+1) x i j=F3 k x j i
 h3:∀ k x j i,F3 (k+1) x j i=if (decide (i<=j))=true then (if 0<=i/\i<(x.length:Int) then (if 0<=(a:Int)/\(a:Int)<(x.length:Int) then ((Q32.f (gt x i) (gt x (a:Int))).bind fun r3=>(if r3=true then (F3 k x j (w64 (i+1))) else (F4 k x i j))) else none) else none) else (F4 k x i j)
 h4:∀ k x i j,F4 (k+1) x i j=if (decide (i<=j))=true then (if 0<=j/\j<(x.length:Int) then (if 0<=(a:Int)/\(a:Int)<(x.length:Int) then ((Q32.f (gt x j) (gt x (a:Int))).bind fun r4=>(if (!r4)=true then (F4 k x i (w64 (j - 1))) else (if (decide (j<i))=true then (if 0<=(a:Int)/\(a:Int)<(x.length:Int) then (if 0<=j/\j<(x.length:Int) then (some (j,false,((x.set j.toNat (gt x (a:Int))).set (a:Int).toNat (gt x j)))) else none) else none) else (if 0<=j/\j<(x.length:Int) then (if 0<=i/\i<(x.length:Int) then (F2 k ((x.set i.toNat (gt x j)).set j.toNat (gt x i)) (w64 (i+1)) (w64 (j - 1))) else none) else none)))) else none) else none) else (if (decide (j<i))=true then (if 0<=(a:Int)/\(a:Int)<(x.length:Int) then (if 0<=j/\j<(x.length:Int) then (some (j,false,((x.set j.toNat (gt x (a:Int))).set (a:Int).toNat (gt x j)))) else none) else none) else (if 0<=j/\j<(x.length:Int) then (if 0<=i/\i<(x.length:Int) then (F2 k ((x.set i.toNat (gt x j)).set j.toNat (gt x i)) (w64 (i+1)) (w64 (j - 1))) else none) else none))
section
variable {a:Nat} {F2 F3 F4:Nat->List Int->Int->Int->Option TM} (P:Part4 a F2 F3 F4)
include P
theorem Zcs {i2:Nat} {d:Array Int} (hi:1<=i2) (ha:a<d.size) (hd:d.size<=1000000) (hi2:i2<=1000001):∀(j:Nat),j<d.size->(∀ j2,j2<=j->i2<=j2->Ev (fun k=>F2 k (Go.Sort.swp d i2 j2).toList ((i2+1:Nat):Int) ((j2 - 1:Nat):Int)) (let r:=Go.Sort.partLoop ltI a (i2+1) (j2 - 1) (Go.Sort.swp d i2 j2); Ze9 r.2 a r.1))->
  Ev (fun k=>F4 k d.toList (i2:Int) (j:Int)) (let r:=Gh a i2 (Go.Sort.scanDown (fun x=>!ltI x d[a]!) d i2 j) d; Ze9 r.2 a r.1)
 | 0,hj,h=>by
  unfold Go.Sort.scanDown Gh;rw [iO];exact Ev.last fun k=>by rw [P.h4,iN,iP,iV,iV,gta,gta,tN,tN,X4]; rfl
 | j+1,hj,h=>by
  have e1:w64 (((j+1:Nat):Int) - 1)=(j:Int):=wn (by omega) (by omega);have e2:w64 ((i2:Int)+1)=((i2+1:Nat):Int):=wn (by omega) (by omega);unfold Go.Sort.scanDown;by_cases c:i2<=j+1
  ·by_cases q:ltI d[j+1]! d[a]! = true
   ·rw [iF (by simp [q])];unfold Gh;rw [iQ];refine (h (j+1) (Nat.le_refl _) c).step fun k hk=>?_;rw [P.h4,iP,iV,iV,gta,gta,Y7,bS,iF (by simp [q]),iN,iV,iV,gta,tN,tN,X4,e1,e2];exact hk
   ·rw [iT (by simp [c,q])];refine (Zcs hi ha hd hi2 j (by omega) fun j2 a b=>h j2 (by omega) b).step fun k hk=>?_;rw [P.h4,iP,iV,iV,gta,gta,Y7,bS,iT (by simp [q]),e1];exact hk
  ·rw [iF (by simp [c])];unfold Gh;rw [iO];exact Ev.last fun k=>by rw [P.h4,iN,iP,iV,iV,gta,gta,tN,tN,X4]; rfl
theorem Zj9 {j:Nat} {d:Array Int} (ha:a<d.size) (hd:d.size<=1000000) (hj:j<d.size):∀(m i:Nat),j+1 - i<=m->1<=i->i<=1000001->(∀ i2 j2,i<=i2->j2<=j->i2<=j2->Ev (fun k=>F2 k (Go.Sort.swp d i2 j2).toList ((i2+1:Nat):Int) ((j2 - 1:Nat):Int)) (let r:=Go.Sort.partLoop ltI a (i2+1) (j2 - 1) (Go.Sort.swp d i2 j2); Ze9 r.2 a r.1))->
  Ev (fun k=>F3 k d.toList (j:Int) (i:Int)) (let r:=Gh a (Go.Sort.scanUp (fun x=>ltI x d[a]!) d j i) (Go.Sort.scanDown (fun x=>!ltI x d[a]!) d (Go.Sort.scanUp (fun x=>ltI x d[a]!) d j i) j) d; Ze9 r.2 a r.1)
 | m,i,hm,h1,hi,h=>by
  have e2:w64 ((i:Int)+1)=((i+1:Nat):Int):=wn (by omega) (by omega);rw [Go.Sort.scanUp];by_cases c:i<=j
  ·by_cases q:ltI d[i]! d[a]! = true
   ·cases m with
    | zero=>omega
    | succ m=>
    rw [iT (by simp [c,q])];refine (Zj9 ha hd hj m (i+1) (by omega) (by omega) (by omega) fun i2 j2 a b c=>h i2 j2 (by omega) b c).step fun k hk=>?_;rw [P.h3,iP,iV,iV,gta,gta,Y7,bS,iT q,e2];exact hk
   ·rw [iF (by simp [q])];refine (Zcs P h1 ha hd hi j hj fun j2 a b=>h i j2 (Nat.le_refl _) a b).step fun k hk=>?_;rw [P.h3,iP,iV,iV,gta,gta,Y7,bS,iF q];exact hk
  ·rw [iF (by simp [c])];refine (Zcs P h1 ha hd hi j hj fun j2 a b=>h i j2 (Nat.le_refl _) a b).step fun k hk=>?_;rw [P.h3,iN];exact hk
theorem Zf7 {n:Nat} (hn:n<=1000000) (ha:a<n):∀(m i j:Nat) (d:Array Int),j+1 - i<=m->1<=i->i<=1000001->j<n->d.size=n->Ev (fun k=>F2 k d.toList (i:Int) (j:Int)) (let r:=Go.Sort.partLoop ltI a i j d; Ze9 r.2 a r.1)
 | m,i,j,d,hm,h1,hi,hj,hd=>by
  rw [Zh7 h1];refine (Zj9 P (j:=j) (d:=d) (by omega) (by omega) (by omega) _ i (Nat.le_refl _) h1 hi fun i2 j2 a1 a2 a3=>?_).step fun k hk=>?_
  ·cases m with
   | zero=>omega
   | succ m=>exact Zf7 hn ha m (i2+1) (j2 - 1) (Go.Sort.swp d i2 j2) (by omega) (by omega) (by omega) (by omega) (by rw [Yi]; exact hd)
  ·rw [P.h2];exact hk
end
theorem Zma (a:Nat):Part4 a (fun k x i j=>Q114.l0 k (a:Int) x i j) (fun k x j i=>Q114.l2 k (a:Int) x j i) (fun k x i j=>Q114.l1 k (a:Int) x i j):=
 ⟨fun k x i j=>by rw [Q114.l0],fun k x j i=>by rw [Q114.l2],fun k x i j=>by rw [Q114.l1]⟩
def Zjz (r:Nat×Bool×Array Int):Int×Bool×List Int:=((r.1:Int),r.2.1,r.2.2.toList)
def Zag (a i j:Nat) (d:Array Int):Nat×Bool×Array Int:=if i>j then (j,true,Go.Sort.swp d j a) else ((Go.Sort.partLoop ltI a (i+1) (j - 1) (Go.Sort.swp d i j)).1,false,Go.Sort.swp (Go.Sort.partLoop ltI a (i+1) (j - 1) (Go.Sort.swp d i j)).2 (Go.Sort.partLoop ltI a (i+1) (j - 1) (Go.Sort.swp d i j)).1 a)
theorem Zcw {a p i:Nat} {d e:Array Int} (he:e=Go.Sort.swp d a p) (hi:1<=i) (ha:a<d.size) (hp:p<d.size) (hd:d.size<=1000000) (hi2:i<=1000001):∀(j:Nat),j<d.size->Ev (fun k=>Q114.l3 k d.toList (a:Int) (p:Int) (i:Int) (j:Int)) (Zjz (Zag a i (Go.Sort.scanDown (fun x=>!ltI x e[a]!) e i j) e))
 | 0,hj=>by
  have se:e.size=d.size:=by rw [he,Yi]
  unfold Go.Sort.scanDown Zag;rw [iO];exact Ev.last fun k=>by
   rw [Q114.l3,iN,iP,gta,gta,tN,tN,X4,<- he,iV,iV,gta,gta,tN,X4];rfl
 | j+1,hj=>by
  have se:e.size=d.size:=by rw [he,Yi]
  have e1:w64 (((j+1:Nat):Int) - 1)=(j:Int):=wn (by omega) (by omega);have e2:w64 ((i:Int)+1)=((i+1:Nat):Int):=wn (by omega) (by omega);unfold Go.Sort.scanDown;by_cases c:i<=j+1
  ·by_cases q:ltI e[j+1]! e[a]! = true
   ·rw [iF (by simp [q])];unfold Zag;rw [iQ];refine (Zf7 (Zma a) (n:=d.size) hd ha _ (i+1) j (Go.Sort.swp e i (j+1)) (Nat.le_refl _) (by omega) (by omega) (by omega) (by rw [Yi,se])).step fun k hk=>?_;rw [Q114.l3,iP,gta,gta,tN,tN,X4,<- he,iV,iV,gta,gta,Y7,bS,iF (by simp [q]),iN,iV,iV,gta,tN,tN,X4,e1,e2];exact hk
   ·rw [iT (by simp [c,q])];refine (Zcw he hi ha hp hd hi2 j (by omega)).step fun k hk=>?_;rw [Q114.l3,iP,gta,gta,tN,tN,X4,<- he,iV,iV,gta,gta,Y7,bS,iT (by simp [q]),e1];exact hk
  ·rw [iF (by simp [c])];unfold Zag;rw [iO];exact Ev.last fun k=>by
    rw [Q114.l3,iN,iP,gta,gta,tN,tN,X4,<- he,iV,iV,gta,gta,tN,X4];rfl
theorem Zj4 {a b p:Nat} {d e:Array Int} (he:e=Go.Sort.swp d a p) (hab:a<b) (hb:b<=d.size) (hp:p<d.size) (hd:d.size<=1000000):∀(m i:Nat),b - i<=m->1<=i->i<=1000001->Ev (fun k=>Q114.l4 k d.toList (a:Int) (b:Int) (p:Int) (i:Int)) (Zjz (Zag a (Go.Sort.scanUp (fun x=>ltI x e[a]!) e (b - 1) i) (Go.Sort.scanDown (fun x=>!ltI x e[a]!) e (Go.Sort.scanUp (fun x=>ltI x e[a]!) e (b - 1) i) (b - 1)) e))
 | m,i,hm,h1,hi=>by
  have se:e.size=d.size:=by rw [he,Yi]
  have e2:w64 ((i:Int)+1)=((i+1:Nat):Int):=wn (by omega) (by omega);have e3:w64 ((b:Int) - 1)=((b - 1:Nat):Int):=wn (by omega) (by omega);rw [Go.Sort.scanUp];by_cases c:i<=b - 1
  ·by_cases q:ltI e[i]! e[a]! = true
   ·cases m with
    | zero=>omega
    | succ m=>
    rw [iT (by simp [c,q])];refine (Zj4 he hab hb hp hd m (i+1) (by omega) (by omega) (by omega)).step fun k hk=>?_;rw [Q114.l4,e3,iP,gta,gta,tN,tN,X4,<- he,iV,iV,gta,gta,Y7,bS,iT q,e2];exact hk
   ·rw [iF (by simp [q])];refine (Zcw he h1 (by omega) hp hd hi (b - 1) (by omega)).step fun k hk=>?_;rw [Q114.l4,e3,iP,gta,gta,tN,tN,X4,<- he,iV,iV,gta,gta,Y7,bS,iF q];exact hk
  ·rw [iF (by simp [c])];refine (Zcw he h1 (by omega) hp hd hi (b - 1) (by omega)).step fun k hk=>?_;rw [Q114.l4,e3,iN];exact hk
theorem Zmt {a b p:Nat} {d:Array Int} (hab:a<b) (hp:p<d.size) (hb:b<=d.size) (hd:d.size<=1000000):Ev (fun k=>Q114.f k d.toList (a:Int) (b:Int) (p:Int)) (Zjz (Go.Sort.partition ltI d a b p)):=by
 have e:Go.Sort.partition ltI d a b p=Zag a (Go.Sort.scanUp (fun x=>ltI x (Go.Sort.swp d a p)[a]!) (Go.Sort.swp d a p) (b - 1) (a+1)) (Go.Sort.scanDown (fun x=>!ltI x (Go.Sort.swp d a p)[a]!) (Go.Sort.swp d a p) (Go.Sort.scanUp (fun x=>ltI x (Go.Sort.swp d a p)[a]!) (Go.Sort.swp d a p) (b - 1) (a+1)) (b - 1)) (Go.Sort.swp d a p):=rfl;rw [e];refine (Zj4 (e:=Go.Sort.swp d a p) rfl hab hb hp hd _ (a+1) (Nat.le_refl _) (by omega) (by omega)).next fun k hk=>?_;unfold Q114.f;rw [iV,iV,wn (n:=a+1) (by omega) (by omega)];exact hk
theorem Zab (n:Nat):uH.wrap (n:Int)=((n % 18446744073709551616:Nat):Int):=by
 simp [IntKind.wrap,IntKind.bits,IntKind.signed]
theorem bvx {x y:Nat} (hx:x<18446744073709551616) (hy:y<18446744073709551616):((ofInt uH.bits (x:Int) ^^^ ofInt uH.bits (y:Int)).toNat)=x ^^^ y:=by
 show (ofInt 64 (x:Int) ^^^ ofInt 64 (y:Int)).toNat=x ^^^ y;rw [BitVec.toNat_xor,BitVec.ofInt_natCast,BitVec.ofInt_natCast,BitVec.toNat_ofNat,BitVec.toNat_ofNat,Nat.mod_eq_of_lt hx,Nat.mod_eq_of_lt hy]
theorem Zgl {x:Nat} (r s:UInt64) (hx:x=s.toNat):uH.wrap (((ofInt uH.bits (r.toNat:Int) ^^^ ofInt uH.bits (x:Int)).toNat:Int))=((r ^^^ s).toNat:Int):=by
 have h1:r.toNat<18446744073709551616:=r.toNat_lt;have h2:s.toNat<18446744073709551616:=s.toNat_lt;have h3:(r ^^^ s).toNat<18446744073709551616:=(r ^^^ s).toNat_lt;rw [hx,bvx h1 h2,Zab,UInt64.toNat_xor] at *;rw [Nat.mod_eq_of_lt h3]
theorem Zme (r:UInt64) (n:Nat) (hn:n<64):uH.wrap ((r.toNat:Int)*2 ^ n)=(((r <<< (UInt64.ofNat n)).toNat:Nat):Int):=by
 rw [show (r.toNat:Int)*2 ^ n=((r.toNat*2 ^ n:Nat):Int) by simp,Zab,UInt64.toNat_shiftLeft,Nat.shiftLeft_eq];have:(UInt64.ofNat n).toNat % 64=n:=by simp; omega
 rw [this]
theorem Zm8 (r:UInt64) (n:Nat) (hn:n<64):Int.fdiv (r.toNat:Int) (2 ^ n)=(((r >>> (UInt64.ofNat n)).toNat:Nat):Int):=by
 rw [UInt64.toNat_shiftRight,Nat.shiftRight_eq_div_pow];have:(UInt64.ofNat n).toNat % 64=n:=by simp; omega
 rw [this,Int.fdiv_eq_ediv_of_nonneg _ (by exact_mod_cast Nat.zero_le _)];simp
theorem Zmx (r:UInt64):Q118.f (r.toNat:Int)=some (((Go.Sort.xorNext r).toNat:Int),((Go.Sort.xorNext r).toNat:Int)):=by
 have xe:Go.Sort.xorNext r=(fun r1:UInt64=>(fun r2:UInt64=>r2 ^^^ (r2 <<< 17)) (r1 ^^^ (r1 >>> 7))) (r ^^^ (r <<< 13)):=rfl;unfold Q118.f;rw [xe];dsimp only;have e1:uH.wrap ((r.toNat:Int)*2 ^ 13)=(((r <<< 13).toNat:Nat):Int):=Zme r 13 (by decide);rw [e1,Zgl r (r <<< 13) rfl];generalize r ^^^ (r <<< 13)=r1;have e2:Int.fdiv (r1.toNat:Int) (2 ^ 7)=(((r1 >>> 7).toNat:Nat):Int):=Zm8 r1 7 (by decide);rw [e2,Zgl r1 (r1 >>> 7) rfl];generalize r1 ^^^ (r1 >>> 7)=r2;have e3:uH.wrap ((r2.toNat:Int)*2 ^ 17)=(((r2 <<< 17).toNat:Nat):Int):=Zme r2 17 (by decide);rw [e3,Zgl r2 (r2 <<< 17) rfl]
theorem Zm6:∀ n:Fin 200,Q1.f ((n:Nat):Int)=some ((Go.Sort.bitsLen n:Nat):Int):=by decide +kernel
theorem Zls:∀ n:Fin 200,Q110.f ((n:Nat):Int)=some ((1 <<< Go.Sort.bitsLen n:Nat):Int):=by decide +kernel
theorem Zm9 {r:UInt64} {M:Nat} (h1:1<=M) (h2:M<=1000):w64 (uH.wrap (((ofInt uH.bits (r.toNat:Int) &&& (ofInt uH.bits (uH.wrap ((M:Int) - 1)))).toNat:Int)))=((r.toNat &&& (M - 1):Nat):Int):=by
 have hr:r.toNat<18446744073709551616:=r.toNat_lt;have e1:(M:Int) - 1=((M - 1:Nat):Int):=by omega
 have hle:r.toNat &&& (M - 1)<=M - 1:=Nat.and_le_right;have e2:(ofInt uH.bits (r.toNat:Int) &&& ofInt uH.bits ((M - 1:Nat):Int)).toNat=r.toNat &&& (M - 1):=by
  show (ofInt 64 (r.toNat:Int) &&& ofInt 64 ((M - 1:Nat):Int)).toNat=r.toNat &&& (M - 1);rw [BitVec.toNat_and,BitVec.ofInt_natCast,BitVec.ofInt_natCast,BitVec.toNat_ofNat,BitVec.toNat_ofNat,Nat.mod_eq_of_lt hr,Nat.mod_eq_of_lt (by omega)]
 rw [e1,show uH.wrap ((M - 1:Nat):Int)=((M - 1:Nat):Int) by rw [Zab,Nat.mod_eq_of_lt (by omega)],e2,Zab,Nat.mod_eq_of_lt (by omega),wI2]
theorem Zbe {a b M i:Nat} {d:Array Int} {r:UInt64} {R:TZ} (h8:8<=b - a) (hb:b<=d.size) (hd:d.size<200) (ha:a<=i) (hi:i<=a+(b - a) / 4*2+1) (hM:M=1 <<< Go.Sort.bitsLen (b - a))
  (h:Ev (fun k=>Q104.l0 k (a:Int) (b:Int) (M:Int) (Go.Sort.breakStep a (b - a) M (r,d) i).2.toList ((Go.Sort.breakStep a (b - a) M (r,d) i).1.toNat:Int) ((i+1:Nat):Int)) R) :
  Ev (fun k=>Q104.l0 k (a:Int) (b:Int) (M:Int) d.toList (r.toNat:Int) (i:Int)) R:=by
 have e1:w64 ((b:Int) - (a:Int))=((b - a:Nat):Int):=wn (by omega) (by omega);have e2:w64 (Int.tdiv ((b - a:Nat):Int) 4)=(((b - a) / 4:Nat):Int):=by
  rw [show Int.tdiv ((b - a:Nat):Int) 4=(((b - a) / 4:Nat):Int) from rfl,wI2]
 have e3:w64 ((((b - a) / 4:Nat):Int)*2)=(((b - a) / 4*2:Nat):Int):=wn (by omega) (by omega);have e4:w64 ((a:Int)+(((b - a) / 4*2:Nat):Int))=((a+(b - a) / 4*2:Nat):Int):=wn (by omega) (by omega);have e5:w64 (((a+(b - a) / 4*2:Nat):Int)+1)=((a+(b - a) / 4*2+1:Nat):Int):=wn (by omega) (by omega);have e6:w64 ((i:Int)+1)=((i+1:Nat):Int):=wn (by omega) (by omega);have hp:=Go.Sort.two_pow_bitsLen_le (n:=b - a) (by omega);have hq:1<=2 ^ Go.Sort.bitsLen (b - a):=Nat.two_pow_pos _;rw [Nat.one_shiftLeft] at hM;rw [<- hM] at hp hq;have eb:Go.Sort.breakStep a (b - a) M (r,d) i=(Go.Sort.xorNext r,Go.Sort.swp d i (a+if (Go.Sort.xorNext r).toNat &&& (M - 1)>=b - a then ((Go.Sort.xorNext r).toNat &&& (M - 1)) - (b - a) else (Go.Sort.xorNext r).toNat &&& (M - 1))):=rfl
 rw [eb] at h;have hle:(Go.Sort.xorNext r).toNat &&& (M - 1)<=M - 1:=Nat.and_le_right;have hand:=Zm9 (r:=Go.Sort.xorNext r) (M:=M) hq (by omega);refine h.step fun k hk=>?_;rw [Q104.l0,e1,e2,e3,e4,e5,iP,Zmx,bS];dsimp only;rw [hand];generalize (Go.Sort.xorNext r).toNat &&& (M - 1)=o at *;by_cases c:o>=b - a
 ·have e7:w64 ((o:Int) - ((b - a:Nat):Int))=((o - (b - a):Nat):Int):=wn (by omega) (by omega);have e8:w64 ((a:Int)+((o - (b - a):Nat):Int))=((a+(o - (b - a)):Nat):Int):=wn (by omega) (by omega);rw [iT c] at hk;rw [iP,e7,e8,iV,iV,gta,gta,tN,tN,X4,e6];exact hk
 ·have e8:w64 ((a:Int)+(o:Int))=((a+o:Nat):Int):=wn (by omega) (by omega);rw [iF c] at hk;rw [iN,e8,iV,iV,gta,gta,tN,tN,X4,e6];exact hk
theorem Zce (a L M i:Nat) (st:UInt64×Array Int):(Go.Sort.breakStep a L M st i).2.size=st.2.size:=by
 unfold Go.Sort.breakStep;exact Yi _ _ _
theorem Zlm {a b:Nat} {d:Array Int} (hab:a<=b) (hb:b<=d.size) (hd:d.size<200):Ev (fun k=>Q104.f k d.toList (a:Int) (b:Int)) (Go.Sort.breakPatterns d a b).toList:=by
 have e1:w64 ((b:Int) - (a:Int))=((b - a:Nat):Int):=wn (by omega) (by omega);by_cases h8:b - a>=8
 ·have e2:w64 (Int.tdiv ((b - a:Nat):Int) 4)=(((b - a) / 4:Nat):Int):=by
   rw [show Int.tdiv ((b - a:Nat):Int) 4=(((b - a) / 4:Nat):Int) from rfl,wI2]
  have e3:w64 ((((b - a) / 4:Nat):Int)*2)=(((b - a) / 4*2:Nat):Int):=wn (by omega) (by omega);have e4:w64 ((a:Int)+(((b - a) / 4*2:Nat):Int))=((a+(b - a) / 4*2:Nat):Int):=wn (by omega) (by omega);have e5:w64 (((a+(b - a) / 4*2:Nat):Int) - 1)=((a+(b - a) / 4*2 - 1:Nat):Int):=wn (by omega) (by omega);have e6:w64 (((a+(b - a) / 4*2:Nat):Int)+1)=((a+(b - a) / 4*2+1:Nat):Int):=wn (by omega) (by omega);have hx:uH.wrap ((b - a:Nat):Int)=((UInt64.ofNat (b - a)).toNat:Int):=by
   rw [Zab];have:(UInt64.ofNat (b - a)).toNat=(b - a) % 18446744073709551616:=by simp
   rw [this]
  have fin:∀(d':Array Int) (x:Int),Ev (fun k=>Q104.l0 k (a:Int) (b:Int) ((1 <<< Go.Sort.bitsLen (b - a):Nat):Int) d'.toList x ((a+(b - a) / 4*2 - 1+1+1+1:Nat):Int)) d'.toList:=fun d' x=>Ev.last fun k=>by
   rw [Q104.l0,e1,e2,e3,e4,e6,iN]
  have main:Ev (fun k=>Q104.l0 k (a:Int) (b:Int) ((1 <<< Go.Sort.bitsLen (b - a):Nat):Int) d.toList ((UInt64.ofNat (b - a)).toNat:Int) ((a+(b - a) / 4*2 - 1:Nat):Int)) (Go.Sort.breakPatterns d a b).toList:=by
   unfold Go.Sort.breakPatterns;rw [iT h8];refine Zbe h8 hb hd (by omega) (by omega) rfl (Zbe h8 ?_ ?_ (by omega) (by omega) rfl (Zbe h8 ?_ ?_ (by omega) (by omega) rfl (fin _ _)))
   all_goals simp only [Zce]
   all_goals first | exact hb | exact hd
  refine main.next fun k hk=>?_;unfold Q104.f;rw [e1,iP,Zls ⟨b - a,by omega⟩,bS,hx,e2,e3,e4,e5];exact hk
 ·refine Ev.all fun k=>?_;unfold Q104.f Go.Sort.breakPatterns;rw [e1,iN,iF h8]
def Zjr (k:Nat) (a b lim m:Int) (ap:Bool) (d:TZ):Option TZ:=if (decide ((w64 (m - a))<(w64 (b - m))))=true then ((Q115.f k d a m lim).bind fun r10=>(Q115.l0 k r10 (w64 (m+1)) b lim (decide ((w64 (Int.tdiv (w64 (b - a)) 8))<=(w64 (m - a)))) ap)) else ((Q115.f k d (w64 (m+1)) b lim).bind fun r11=>(Q115.l0 k r11 a m lim (decide ((w64 (Int.tdiv (w64 (b - a)) 8))<=(w64 (b - m)))) ap))
theorem Zbz (k:Nat) (x1:TZ) (x2 x3 x4:Int) (x5 x6:Bool):Q115.l0 (k+1) x1 x2 x3 x4 x5 x6=if (decide ((w64 (x3 - x2))<=12))=true then ((Q107.f k x1 x2 x3).bind fun r1=>(some r1)) else (if (decide (x4=0))=true then ((Q106.f k x1 x2 x3).bind fun r2=>(some r2)) else (if (!x5)=true then ((Q104.f k x1 x2 x3).bind fun r3=>Q115.l1 k x2 x3 x5 x6 r3 (w64 (x4 - 1))) else Q115.l1 k x2 x3 x5 x6 x1 x4)):=by
 rw [Q115.l0]
section
variable {a b p lim:Nat} {d:Array Int} {wb wp:Bool} {r:TZ}
theorem Zl5 (h1:1<=a) (hab:a<b) (hp:p<d.size) (hb:b<=d.size) (hd:d.size<200) (hq:ltI d[a - 1]! d[p]! = false)
  (h:Ev (fun k=>Q115.l0 k (Go.Sort.partitionEqual ltI d a b p).2.toList ((Go.Sort.partitionEqual ltI d a b p).1:Int) (b:Int) (lim:Int) wb wp) r) :
  Ev (fun k=>Q115.l4 k (a:Int) (b:Int) wb wp (lim:Int) (p:Int) d.toList) r:=by
 have h5:Ev (fun k=>Q115.l5 k (a:Int) (b:Int) wb wp (lim:Int) (p:Int) d.toList true) r:=(Zlg hab hp hb (by omega)).step2 h fun k h1' h2=>by
  rw [Q115.l5,iT rfl,h1',bS];exact h2
 refine h5.step fun k hk=>?_;rw [Q115.l4,iP,wn (x:=(a:Int) - 1) (n:=a - 1) (by omega) (by omega),iV,iV,gta,gta,Y7,bS,hq];exact hk
theorem Zl4 (hab:a<b) (hp:p<d.size) (hb:b<=d.size) (hd:d.size<200) (hq:(decide (a>0) && !ltI d[a - 1]! d[p]!)=false)
  (h:Ev (fun k=>Zjr k (a:Int) (b:Int) (lim:Int) ((Go.Sort.partition ltI d a b p).1:Int) (Go.Sort.partition ltI d a b p).2.1 (Go.Sort.partition ltI d a b p).2.2.toList) r) :
  Ev (fun k=>Q115.l4 k (a:Int) (b:Int) wb wp (lim:Int) (p:Int) d.toList) r:=by
 have h5:Ev (fun k=>Q115.l5 k (a:Int) (b:Int) wb wp (lim:Int) (p:Int) d.toList false) r:=(Zmt hab hp hb (by omega)).step2 h fun k h1' h2=>by
  rw [Q115.l5,vS,h1',bS];exact h2
 refine h5.step fun k hk=>?_;by_cases c:0<a
 ·have hq':ltI d[a - 1]! d[p]! = true:=by simpa [c] using hq
  rw [Q115.l4,iP,wn (x:=(a:Int) - 1) (n:=a - 1) (by omega) (by omega),iV,iV,gta,gta,Y7,bS,hq'];exact hk
 ·rw [Q115.l4,iN];exact hk
theorem Zmh (hab:a<b) (hb:b<=d.size) (hd:d.size<200) (h1:(Go.Sort.partialInsertionSort ltI d a b).2=true->(Go.Sort.partialInsertionSort ltI d a b).1.toList=r)
  (h2:(Go.Sort.partialInsertionSort ltI d a b).2=false->Ev (fun k=>Q115.l4 k (a:Int) (b:Int) wb wp (lim:Int) (p:Int) (Go.Sort.partialInsertionSort ltI d a b).1.toList) r):Ev (fun k=>Q115.l3 k (a:Int) (b:Int) wb wp (lim:Int) d.toList (p:Int) true) r:=by
 have h0:=Zm7 hab hb (by omega);cases c:(Go.Sort.partialInsertionSort ltI d a b).2 with
 | true=>
  refine h0.step fun k hk=>?_;rw [Q115.l3,iT rfl,hk,bS,Ux,c,iT rfl,h1 c]
 | false=>
  refine h0.step2 (h2 c) fun k hk hk2=>?_;rw [Q115.l3,iT rfl,hk,bS,Ux,c,vS];exact hk2
end
def piP (k:Nat) (s:Go.Sort.Rd Int) (a b:Nat) (wb wp:Bool):Option TZ:=if s.pi.2=true then some s.pi.1.toList else Q115.l4 k (a:Int) (b:Int) wb wp (s.lim:Int) (s.pivot:Int) s.pi.1.toList
theorem Zkf {h:Go.Sort.Hint}:decide (Zb0 h=2)=decide (h=.decreasing):=by cases h <;> rfl
theorem Zmu {h:Go.Sort.Hint}:decide (Zb0 h=1)=decide (h=.increasing):=by cases h <;> rfl
section
variable {a b limit:Nat} {d:Array Int} {wb wp:Bool} {r:TZ}
theorem Zl9 {s:Go.Sort.Rd Int} {e:Array Int} (hab:a<b) (hb:b<=e.size) (hd:e.size<200) (he:s.pi=Go.Sort.partialInsertionSort ltI e a b) (h:Ev (fun k=>piP k s a b wb wp) r) :
  Ev (fun k=>Q115.l3 k (a:Int) (b:Int) wb wp (s.lim:Int) e.toList (s.pivot:Int) true) r:=by
 refine Zmh hab hb hd (fun c=>?_) fun c=>?_
 ·obtain ⟨k,h⟩:=h.ok;unfold piP at h;rw [he,c,iT rfl] at h;exact Option.some.inj h
 ·refine h.next fun k hk=>?_;unfold piP at hk;rw [he,c,vS] at hk;exact hk
theorem Zep {s:Go.Sort.Rd Int} {e:Array Int} (he:s.pi=(e,false)) (h:Ev (fun k=>piP k s a b wb wp) r) :
  Ev (fun k=>Q115.l3 k (a:Int) (b:Int) wb wp (s.lim:Int) e.toList (s.pivot:Int) false) r:=by
 refine h.step fun k hk=>?_;unfold piP at hk;rw [he,vS] at hk;rw [Q115.l3,vS];exact hk
theorem Zl3 {s:Go.Sort.Rd Int} (h12:12<b - a) (hb:b<=s.d1.size) (hd:s.d1.size<200) (ec:s.c=Go.Sort.choosePivot ltI s.d1 a b) (hc:a<=s.c.1/\s.c.1<b)
  (e2:s.d2=if s.c.2=.decreasing then Go.Sort.reverseRange s.d1 a b else s.d1) (s2:s.d2.size=s.d1.size) (ep:s.pivot=if s.c.2=.decreasing then (b - 1) - (s.c.1 - a) else s.c.1) (eh:s.hint=if s.c.2=.decreasing then Go.Sort.Hint.increasing else s.c.2)
  (ei:s.pi=if wb && wp && s.hint=.increasing then Go.Sort.partialInsertionSort ltI s.d2 a b else (s.d2,false)) (h:Ev (fun k=>piP k s a b wb wp) r) :
  Ev (fun k=>Q115.l1 k (a:Int) (b:Int) wb wp s.d1.toList (s.lim:Int)) r:=by
 have hpv:=Zmg (d:=s.d1) (a:=a) (b:=b) (by omega) hb h12 (by omega);rw [<- ec] at hpv;have fin:∀ hI:Int,decide (hI=1)=decide (s.hint=.increasing)->Ev (fun k=>Q115.l2 k (a:Int) (b:Int) wb wp (s.lim:Int) s.d2.toList (s.pivot:Int) hI) r:=fun hI hh=>by
  cases wb with
  | false=>exact (Zep (by simpa using ei) h).step fun k hk=>by rw [Q115.l2,vS]; exact hk
  | true=>
   cases wp with
   | false=>exact (Zep (by simpa using ei) h).step fun k hk=>by rw [Q115.l2,iT rfl,vS]; exact hk
   | true=>
    by_cases q:s.hint=.increasing
    ·exact (Zl9 (e:=s.d2) (by omega) (by omega) (by omega) (by simpa [q] using ei) h).step fun k hk=>by rw [Q115.l2,iT rfl,iT rfl,hh,dT q]; exact hk
    ·exact (Zep (by simpa [q] using ei) h).step fun k hk=>by rw [Q115.l2,iT rfl,iT rfl,hh,dF q]; exact hk
 by_cases c:s.c.2=.decreasing
 ·rw [iT c] at e2 ep eh;have e3:w64 ((b:Int) - 1)=((b - 1:Nat):Int):=wn (by omega) (by omega);have e4:w64 ((s.c.1:Int) - (a:Int))=((s.c.1 - a:Nat):Int):=wn (by omega) (by omega);have e5:w64 (((b - 1:Nat):Int) - ((s.c.1 - a:Nat):Int))=(s.pivot:Int):=wn (by omega) (by omega);have hr:=Zna (a:=a) (b:=b) (d:=s.d1) (by omega) (by omega) hb (by omega);rw [<- e2] at hr;refine hr.step2 (fin 1 (by rw [eh]; rfl)) fun k h1 h2=>?_;rw [Q115.l1,hpv,bS];dsimp only;rw [Zkf,iT (dT c),h1,bS,e3,e4,e5];exact h2
 ·rw [iF c] at e2 ep eh;refine (fin (Zb0 s.c.2) (by rw [eh]; exact Zmu)).step fun k h2=>?_;rw [Q115.l1,hpv,bS];dsimp only;rw [Zkf,iF (by simpa using c)];rw [e2,ep] at h2;exact h2
theorem Zin (h12:12<b - a) (hb:b<=d.size) (hd:d.size<200) (hl:limit≠0) (hlim:limit<=100) (hB:Go.Sort.Below ltI a b d) (h:Ev (fun k=>piP k (Go.Sort.rd ltI d a b limit wb wp) a b wb wp) r) :
  Ev (fun k=>Q115.l0 k d.toList (a:Int) (b:Int) (limit:Int) wb wp) r:=by
 obtain ⟨f1,f2,f3,f4,f5,f6,f7,f8⟩:=Go.Sort.rd_facts (lt:=ltI) (wb:=wb) (wp:=wp) (limit:=limit) Go.Sort.swo_ltInt Go.Sort.partialInsertionSort_holds Go.Sort.reverseRange_holds (by omega) hb hB;have hm:=Zl3 (s:=Go.Sort.rd ltI d a b limit wb wp) (wb:=wb) (wp:=wp) (r:=r) h12 (by rw [f1]; exact hb) (by rw [f1]; exact hd) rfl f3 rfl (by rw [f4,f1]) rfl rfl rfl h;have e1:w64 ((b:Int) - (a:Int))=((b - a:Nat):Int):=wn (by omega) (by omega);cases wb with
 | true=>
  refine hm.step fun k hk=>?_;rw [Zbz,e1,iN,iN,vS];exact hk
 | false=>
  refine (Zlm (a:=a) (b:=b) (d:=d) (by omega) hb hd).step2 hm fun k h1 hk=>?_;rw [Zbz,e1,iN,iN,iU,h1,bS,wn (x:=(limit:Int) - 1) (n:=limit - 1) (by omega) (by omega)];exact hk
end
theorem Zno:∀(m:Nat) (d:Array Int) (a b limit:Nat) (wb wp:Bool),b - a<=m->a<=b->b<=d.size->d.size<200->limit<=100->Go.Sort.Below ltI a b d->
  Ev (fun k=>Q115.l0 k d.toList (a:Int) (b:Int) (limit:Int) wb wp) (Go.Sort.pdq ltI d a b limit wb wp).toList:=by
 intro m
 induction m using Nat.strongRecOn with
 | _ m ih=>
 intro d a b limit wb wp hm hab hb hd hlim hB;have e1:w64 ((b:Int) - (a:Int))=((b - a:Nat):Int):=wn (by omega) (by omega);by_cases h12:b - a<=12
 ·rw [Go.Sort.pdq_small h12];refine (Zkr (a:=a) (b:=b) (d:=d) hb (by omega) (by omega)).step fun k hk=>?_;rw [Zbz,e1,iP,hk,bS]
 by_cases h0:limit=0
 ·rw [Go.Sort.pdq_heap h12 h0];refine (Zmq (a:=a) (b:=b) (d:=d) hab hb (by omega)).step fun k hk=>?_;rw [Zbz,e1,iN,iP,hk,bS]
 refine Zin (by omega) hb hd h0 hlim hB ?_;obtain ⟨f1,f2,f3,f4,f5,f6,f7,f8⟩:=Go.Sort.rd_facts (lt:=ltI) (wb:=wb) (wp:=wp) (limit:=limit) Go.Sort.swo_ltInt Go.Sort.partialInsertionSort_holds Go.Sort.reverseRange_holds (by omega) hb hB;have hlm:(Go.Sort.rd ltI d a b limit wb wp).lim<=limit:=Go.Sort.rd_lim_le;cases hpi:(Go.Sort.rd ltI d a b limit wb wp).pi.2 with
 | true=>
  rw [Go.Sort.pdq_done h12 h0 hpi];exact Ev.all fun k=>by unfold piP; rw [iT hpi]
 | false=>
 have red:∀ {r:TZ},Ev (fun k=>Q115.l4 k (a:Int) (b:Int) wb wp ((Go.Sort.rd ltI d a b limit wb wp).lim:Int) ((Go.Sort.rd ltI d a b limit wb wp).pivot:Int) (Go.Sort.rd ltI d a b limit wb wp).pi.1.toList) r->Ev (fun k=>piP k (Go.Sort.rd ltI d a b limit wb wp) a b wb wp) r:=fun h=>h.next fun k hk=>by
  unfold piP;rw [hpi,vS];exact hk
 have hsz:b<=(Go.Sort.rd ltI d a b limit wb wp).pi.1.size:=by rw [f7]; exact hb
 cases hq:(decide (a>0) && !ltI (Go.Sort.rd ltI d a b limit wb wp).pi.1[a - 1]! (Go.Sort.rd ltI d a b limit wb wp).pi.1[(Go.Sort.rd ltI d a b limit wb wp).pivot]!) with
 | true=>
  have hq':=hq;simp only [Bool.and_eq_true,dE,Bool.not_eq_true'] at hq';obtain ⟨g1,g2,g3,g4,g5⟩:=Go.Sort.round_eq (lt:=ltI) Go.Sort.swo_ltInt (Go.Sort.partitionEqual_holds ltI) hq'.1 f6.1 f6.2 hsz f8 hq'.2 (mid:=(Go.Sort.partitionEqual ltI (Go.Sort.rd ltI d a b limit wb wp).pi.1 a b (Go.Sort.rd ltI d a b limit wb wp).pivot).1) (d4:=(Go.Sort.partitionEqual ltI (Go.Sort.rd ltI d a b limit wb wp).pi.1 a b (Go.Sort.rd ltI d a b limit wb wp).pivot).2) rfl;rw [Go.Sort.pdq_eq h12 h0 hpi hq ⟨g1,g2⟩];refine red (Zl5 (by omega) (by omega) (by omega) hsz (by omega) hq'.2 ?_);exact ih (b - (Go.Sort.partitionEqual ltI (Go.Sort.rd ltI d a b limit wb wp).pi.1 a b (Go.Sort.rd ltI d a b limit wb wp).pivot).1) (by omega) _ _ _ _ _ _ (Nat.le_refl _) g2 (by rw [g3]; exact hsz) (by omega) (by omega) g4
 | false=>
  obtain ⟨g1,g2,g3,g4,g5,g6,g7⟩:=Go.Sort.round_part (lt:=ltI) Go.Sort.swo_ltInt (Go.Sort.partition_holds ltI) f6.1 f6.2 hsz f8 (mid:=(Go.Sort.partition ltI (Go.Sort.rd ltI d a b limit wb wp).pi.1 a b (Go.Sort.rd ltI d a b limit wb wp).pivot).1) (ap:=(Go.Sort.partition ltI (Go.Sort.rd ltI d a b limit wb wp).pi.1 a b (Go.Sort.rd ltI d a b limit wb wp).pivot).2.1) (d4:=(Go.Sort.partition ltI (Go.Sort.rd ltI d a b limit wb wp).pi.1 a b (Go.Sort.rd ltI d a b limit wb wp).pivot).2.2) rfl;refine red (Zl4 (by omega) (by omega) hsz (by omega) hq ?_);have e2:∀ x:Nat,x=b - a->w64 (Int.tdiv (x:Int) 8)=(((b - a) / 8:Nat):Int):=fun x hx=>by
   rw [hx,show Int.tdiv ((b - a:Nat):Int) 8=(((b - a) / 8:Nat):Int) from rfl,wI2]
  by_cases hlt:(Go.Sort.partition ltI (Go.Sort.rd ltI d a b limit wb wp).pi.1 a b (Go.Sort.rd ltI d a b limit wb wp).pivot).1 - a<b - (Go.Sort.partition ltI (Go.Sort.rd ltI d a b limit wb wp).pi.1 a b (Go.Sort.rd ltI d a b limit wb wp).pivot).1
  ·rw [Go.Sort.pdq_left h12 h0 hpi hq ⟨g1,g2⟩ hlt];generalize Go.Sort.partition ltI (Go.Sort.rd ltI d a b limit wb wp).pi.1 a b (Go.Sort.rd ltI d a b limit wb wp).pivot=pt at *;have e3:w64 ((pt.1:Int) - (a:Int))=((pt.1 - a:Nat):Int):=wn (by omega) (by omega);have e4:w64 ((b:Int) - (pt.1:Int))=((b - pt.1:Nat):Int):=wn (by omega) (by omega);have e5:w64 ((pt.1:Int)+1)=((pt.1+1:Nat):Int):=wn (by omega) (by omega);have hs:=Go.Sort.pdq_sorts ltI Go.Sort.swo_ltInt pt.2.2 a pt.1 (Go.Sort.rd ltI d a b limit wb wp).lim true true g1 (by omega) g4;have c1:=(ih (pt.1 - a) (by omega) pt.2.2 a pt.1 (Go.Sort.rd ltI d a b limit wb wp).lim true true (Nat.le_refl _) g1 (by omega) (by omega) (by omega) g4).step (F:=fun k=>Q115.f k pt.2.2.toList (a:Int) (pt.1:Int) ((Go.Sort.rd ltI d a b limit wb wp).lim:Int)) fun k hk=>by rw [Q115.f]; exact hk
   have c2:=ih (b - (pt.1+1)) (by omega) (Go.Sort.pdq ltI pt.2.2 a pt.1 (Go.Sort.rd ltI d a b limit wb wp).lim true true) (pt.1+1) b (Go.Sort.rd ltI d a b limit wb wp).lim (decide (pt.1 - a>=(b - a) / 8)) pt.2.1 (Nat.le_refl _) (by omega) (by rw [hs.1.1]; omega) (by rw [hs.1.1]; omega) (by omega) (g6 _ hs.1 hs.2).1;refine c1.next2 c2 fun k k1 k2=>?_;unfold Zjr;rw [e3,e4,e5,e1,e2 _ rfl,iP,k1,bS,show decide ((((b - a) / 8:Nat):Int)<=((pt.1 - a:Nat):Int))=decide (pt.1 - a>=(b - a) / 8) by congr 1; exact propext (by omega)];exact k2
  ·rw [Go.Sort.pdq_right h12 h0 hpi hq ⟨g1,g2⟩ hlt];generalize Go.Sort.partition ltI (Go.Sort.rd ltI d a b limit wb wp).pi.1 a b (Go.Sort.rd ltI d a b limit wb wp).pivot=pt at *;have e3:w64 ((pt.1:Int) - (a:Int))=((pt.1 - a:Nat):Int):=wn (by omega) (by omega);have e4:w64 ((b:Int) - (pt.1:Int))=((b - pt.1:Nat):Int):=wn (by omega) (by omega);have e5:w64 ((pt.1:Int)+1)=((pt.1+1:Nat):Int):=wn (by omega) (by omega);have hs:=Go.Sort.pdq_sorts ltI Go.Sort.swo_ltInt pt.2.2 (pt.1+1) b (Go.Sort.rd ltI d a b limit wb wp).lim true true (by omega) (by omega) g5;have c1:=(ih (b - (pt.1+1)) (by omega) pt.2.2 (pt.1+1) b (Go.Sort.rd ltI d a b limit wb wp).lim true true (Nat.le_refl _) (by omega) (by omega) (by omega) (by omega) g5).step (F:=fun k=>Q115.f k pt.2.2.toList ((pt.1+1:Nat):Int) (b:Int) ((Go.Sort.rd ltI d a b limit wb wp).lim:Int)) fun k hk=>by rw [Q115.f]; exact hk
   have c2:=ih (pt.1 - a) (by omega) (Go.Sort.pdq ltI pt.2.2 (pt.1+1) b (Go.Sort.rd ltI d a b limit wb wp).lim true true) a pt.1 (Go.Sort.rd ltI d a b limit wb wp).lim (decide (b - pt.1>=(b - a) / 8)) pt.2.1 (Nat.le_refl _) (by omega) (by rw [hs.1.1]; omega) (by rw [hs.1.1]; omega) (by omega) (g7 _ hs.1 hs.2).1;refine c1.next2 c2 fun k k1 k2=>?_;unfold Zjr;rw [e3,e4,e5,e1,e2 _ rfl,iN,k1,bS,show decide ((((b - a) / 8:Nat):Int)<=((b - pt.1:Nat):Int))=decide (b - pt.1>=(b - a) / 8) by congr 1; exact propext (by omega)];exact k2
theorem Zk9 {n:Nat} (h:n<200):Q0.f (uH.wrap (n:Int))=some ((Go.Sort.bitsLen n:Nat):Int):=by
 unfold Q0.f;rw [Zab,Nat.mod_eq_of_lt (by omega),Zm6 ⟨n,h⟩,bS]
theorem Zmz {l:TZ} (h:l.length<200):Ev (fun k=>Q103.f k l) (l.mergeSort fun x y=>decide (x<=y)):=by
 have e:=Go.Sort.sortInt l;have hb:Go.Sort.bitsLen l.length<=100:=(Go.Sort.bitsLen_le_iff _ _).2 (Nat.lt_of_lt_of_le h (by decide));have hp:=Zno l.length l.toArray 0 l.toArray.size (Go.Sort.bitsLen l.toArray.size) true true (by simp) (Nat.zero_le _) (Nat.le_refl _) (by simpa using h) (by simpa using hb) (Or.inl rfl);have e2:(Go.Sort.pdq ltI l.toArray 0 l.toArray.size (Go.Sort.bitsLen l.toArray.size) true true).toList=l.mergeSort fun x y=>decide (x<=y):=e;rw [e2] at hp;have hf:Ev (fun k=>Q115.f k l 0 (l.length:Int) ((Go.Sort.bitsLen l.length:Nat):Int)) (l.mergeSort fun x y=>decide (x<=y)):=hp.step fun k hk=>by
  rw [Q115.f];simpa using hk
 refine hf.next fun k hk=>?_;unfold Q103.f;rw [Zk9 h,bS,hk,bS]
theorem Zjk {α:Type} {xs ys:List α} {l m:Nat} (h:l+m<=xs.length):(patch xs l m ys).length=xs.length:=by
 unfold patch;simp only [lA,length_take,length_drop];omega
theorem Zcv {n i:Nat} (hn:n<=1000) (hi:1<=i):∀(m t j:Nat) (x:TZ),x.length=n->i+t+m=n->1<=t->i<=j->j+1<=i+t->∃ r,Ev (fun k=>Q91.l1 k (i:Int) x (j:Int) (t:Int)) r/\r.length<n
 | 0,t,j,x,hx,h,ht,hj,hjt=>by
  have hd:(x.drop j).length=n - j:=by rw [length_drop,hx]
  have hp:(patch x j (x.drop j).length (List.replicate (x.drop j).length (0:Int))).length=n:=by rw [Zjk (by omega),hx]
  refine ⟨(patch x j (x.drop j).length (List.replicate (x.drop j).length (0:Int))).take j,Ev.last fun k=>?_,by rw [length_take]; omega⟩;rw [Q91.l1,iF (by simp only [tN,length_drop,dE]; omega),iO,tN,iO]
 | m+1,t,j,x,hx,h,ht,hj,hjt=>by
  have e1:w64 ((t:Int) - 1)=((t - 1:Nat):Int):=wn (by omega) (by omega);have e2:w64 ((t:Int)+1)=((t+1:Nat):Int):=wn (by omega) (by omega);have e3:w64 ((j:Int)+1)=((j+1:Nat):Int):=wn (by omega) (by omega);have hd:(x.drop i).length=n - i:=by rw [length_drop,hx]
  by_cases q:gt (x.drop i) (t:Int)=gt (x.drop i) ((t - 1:Nat):Int)
  ·obtain ⟨r,h1,h2⟩:=Zcv hn hi m (t+1) j x hx (by omega) (by omega) hj (by omega);refine ⟨r,h1.step fun k hk=>?_,h2⟩;rw [Q91.l1,tN,iP,iO,e1,iO,iF (by simp [q]),e2];exact hk
  ·obtain ⟨r,h1,h2⟩:=Zcv hn hi m (t+1) (j+1) (x.set j (gt (x.drop i) (t:Int))) (by rw [length_set,hx]) (by omega) (by omega) (by omega) (by omega);refine ⟨r,h1.step fun k hk=>?_,h2⟩;rw [Q91.l1,tN,iP,iO,e1,iO,iT (by simp [q]),iO,tN,e2,e3];exact hk
def Zji (l:TZ):Prop:=∀ q,q+1<l.length->l.getD (q+1) 0≠l.getD q 0
theorem Zf9 {l:TZ} (hn:l.length<=1000):∀(m i:Nat),i+m=l.length->1<=i->(∀ q,q+1<i->l.getD (q+1) 0≠l.getD q 0)->∃ r,Ev (fun k=>Q91.l0 k l (i:Int)) r/\(r.length=l.length↔Zji l)
 | 0,i,h,hi,hq=>by
  refine ⟨l,Ev.last fun k=>?_,fun _ q hq'=>hq q (by omega),fun _=>rfl⟩;rw [Q91.l0,iN]
 | m+1,i,h,hi,hq=>by
  have e1:w64 ((i:Int) - 1)=((i - 1:Nat):Int):=wn (by omega) (by omega);have e2:w64 ((i:Int)+1)=((i+1:Nat):Int):=wn (by omega) (by omega);have g1:gt l (i:Int)=l.getD i 0:=Yo l i;have g2:gt l ((i - 1:Nat):Int)=l.getD (i - 1) 0:=Yo l (i - 1);by_cases c:l.getD i 0=l.getD (i - 1) 0
  ·obtain ⟨r,h1,h2⟩:=Zcv hn hi (l.length - i - 1) 1 i l rfl (by omega) (Nat.le_refl _) (Nat.le_refl _) (Nat.le_refl _);refine ⟨r,h1.step fun k hk=>?_,fun e=>by omega,fun e=>absurd c (by have:=e (i - 1) (by omega); rwa [Nat.sub_add_cancel hi] at this)⟩;rw [Q91.l0,iP,iO,e1,iO,g1,g2,iT (dT c),iO];exact hk
  ·obtain ⟨r,h1,h2⟩:=Zf9 hn m (i+1) (by omega) (by omega) fun q hq'=>by
    by_cases e:q+1=i
    ·rw [e,show q=i - 1 by omega]; exact c
    ·exact hq q (by omega)
   refine ⟨r,h1.step fun k hk=>?_,h2⟩;rw [Q91.l0,iP,iO,e1,iO,g1,g2,iF (by simpa using c),e2];exact hk
theorem Zjg {l:TZ} (hn:l.length<=1000):∃ r,Ev (fun k=>Q91.f k l) r/\(r.length=l.length↔Zji l):=by
 by_cases h:l.length<2
 ·refine ⟨l,Ev.all fun k=>?_,fun _ q hq=>by omega,fun _=>rfl⟩;unfold Q91.f;rw [iP]
 ·obtain ⟨r,h1,h2⟩:=Zf9 hn (l.length - 1) 1 (by omega) (Nat.le_refl _) (fun q hq=>by omega);refine ⟨r,h1.next fun k hk=>?_,h2⟩;unfold Q91.f;rw [iN];exact hk
theorem Zic {l:TZ} (hs:l.Pairwise (fun x y=>x<=y)):Zji l↔l.Nodup:=by
 constructor
 ·intro h;rw [List.Nodup,List.pairwise_iff_getElem];intro i j hi hj hij e;have h1:=h i (by omega);rw [List.getD_eq_getElem?_getD,List.getD_eq_getElem?_getD,List.getElem?_eq_getElem (by omega),List.getElem?_eq_getElem hi] at h1;simp only [Option.getD_some] at h1;have a:=List.pairwise_iff_getElem.1 hs i (i+1) hi (by omega) (by omega);by_cases e1:i+1=j
  ·subst e1; exact h1 e.symm
  ·have b:=List.pairwise_iff_getElem.1 hs (i+1) j (by omega) hj (by omega);omega
 ·intro h q hq e;rw [List.getD_eq_getElem?_getD,List.getD_eq_getElem?_getD,List.getElem?_eq_getElem hq,List.getElem?_eq_getElem (by omega)] at e;exact (List.pairwise_iff_getElem.1 h q (q+1) (by omega) hq (by omega)) e.symm
theorem kids_all {c:Cfg} {l:TZ}:(List.range' 0 l.length).all (J9 c l)=true↔(∀ x∈l,x≠0/\¬ c.1<=w64 x)/\l.Nodup:=by
 have gd:∀ i (h:i<l.length),l.getD i 0=l[i]:=fun i h=>by rw [List.getD_eq_getElem?_getD,List.getElem?_eq_getElem h]; rfl
 rw [List.all_eq_true];constructor
 ·intro h;refine ⟨fun x hx=>?_,?_⟩
  ·obtain ⟨i,hi,rfl⟩:=List.mem_iff_getElem.1 hx;have:=h i (by simp [hi]);simp only [J9,gd i hi,Bool.and_eq_true,Bool.not_eq_true',decide_eq_false_iff_not] at this;exact ⟨this.1,this.2.1⟩
  ·rw [List.Nodup,List.pairwise_iff_getElem];intro i j hi hj hij e;have:=h j (by simp [hj]);simp only [J9,Bool.and_eq_true,List.all_eq_true] at this;have:=this.2.2 i (by simp [hij]);simp only [neB,gd i hi,gd j hj,Bool.not_eq_true',decide_eq_false_iff_not] at this;exact this e
 ·rintro ⟨h1,h2⟩ i hi;have hi:i<l.length:=by simpa using hi
  simp only [J9,gd i hi,Bool.and_eq_true,Bool.not_eq_true',decide_eq_false_iff_not,List.all_eq_true];refine ⟨(h1 _ (List.getElem_mem hi)).1,(h1 _ (List.getElem_mem hi)).2,fun q hq=>?_⟩;have hq:q<i:=by simpa using hq
  simp only [neB,gd i hi,gd q (by omega),Bool.not_eq_true',decide_eq_false_iff_not];exact List.pairwise_iff_getElem.1 h2 q i (by omega) hi hq
def Zaf (c:Cfg) (l:TZ):Bool:=decide (1<=l.length) && (decide ((l.length:Int)<=c.2.2.2.1) && (List.range' 0 l.length).all (J9 c l))
theorem Zms {c:Cfg} {l:TZ} (h80:l.length<=80) (hl:∀ x∈l,0<=x/\x<4294967296):Ev (fun k=>Q70.f k c l) (Zaf c l):=by
 have hclone:Q90.f l=some l:=by
  unfold Q90.f;rw [iV]; rfl
 obtain ⟨S,hS⟩:∃ S,S=l.mergeSort fun x y=>decide (x<=y):=⟨_,rfl⟩;have hperm:S.Perm l:=hS ▸ List.mergeSort_perm _ _;have hlen:S.length=l.length:=hperm.length_eq;have hsort:S.Pairwise (fun x y=>x<=y):=by
  have:=List.pairwise_mergeSort (le:=fun x y:Int=>decide (x<=y)) (fun a b c h1 h2=>by simp only [dE] at *; omega) (fun a b=>by simp only [Bool.or_eq_true,dE]; omega) l;rw [<- hS] at this;exact this.imp fun h=>of_decide_eq_true h
 have hs:=Zmz (l:=l) (by omega);rw [<- hS] at hs;obtain ⟨r,hr1,hr2⟩:=Zjg (l:=S) (by omega);refine hs.next2 hr1 fun k k1 k2=>?_;unfold Q70.f;rw [hclone,bS,k1,bS];by_cases c1:l.length<1
 ·rw [iP];simp [Zaf,show ¬ 1<=l.length by omega]
 rw [iN];by_cases c2:c.2.2.2.1<(l.length:Int)
 ·rw [iT (dT c2)];simp [Zaf,show ¬ (l.length:Int)<=c.2.2.2.1 by omega]
 rw [iF (by simpa using c2),iO,wn (x:=(l.length:Int) - 1) (n:=l.length - 1) (by omega) (by omega)];have g0:gt S 0=S[0]'(by omega):=by
  rw [show (0:Int)=((0:Nat):Int) from rfl,Yo,List.getD_eq_getElem?_getD,List.getElem?_eq_getElem (by omega)]; rfl
 have g1:gt S ((l.length - 1:Nat):Int)=S[l.length - 1]'(by omega):=by
  rw [Yo,List.getD_eq_getElem?_getD,List.getElem?_eq_getElem (by omega)]; rfl
 have m0:S[0]'(by omega)∈l:=hperm.mem_iff.1 (List.getElem_mem _);have m1:S[l.length - 1]'(by omega)∈l:=hperm.mem_iff.1 (List.getElem_mem _);rw [g0,g1];have base:Zaf c l=(List.range' 0 l.length).all (J9 c l):=by
  unfold Zaf;rw [dT (show 1<=l.length by omega),dT (show (l.length:Int)<=c.2.2.2.1 by omega)]; rfl
 rw [base];by_cases c3:S[0]'(by omega)=0
 ·rw [iT (dT c3)];refine congrArg some (Bool.eq_false_iff.2 fun e=>?_).symm;exact ((kids_all.1 e).1 _ m0).1 c3
 rw [iF (by simpa using c3),iO];by_cases c4:c.1<=w64 (S[l.length - 1]'(by omega))
 ·rw [iT (dT c4)];refine congrArg some (Bool.eq_false_iff.2 fun e=>?_).symm;exact ((kids_all.1 e).1 _ m1).2 c4
 rw [iF (by simpa using c4),k2,bS];have key:r.length=l.length↔(List.range' 0 l.length).all (J9 c l)=true:=by
  rw [<- hlen,hr2,Zic hsort,hperm.nodup_iff,hlen,kids_all];refine ⟨fun h=>⟨fun x hx=>?_,h⟩,fun h=>h.2⟩;obtain ⟨i,hi,rfl⟩:=List.mem_iff_getElem.1 (hperm.mem_iff.2 hx);have a0:=hl _ m0;have a1:=hl _ m1;have ax:=hl _ hx;have b0:S[0]'(by omega)<=S[i]:=by
   by_cases z:i=0
   ·subst z; exact Int.le_refl _
   ·exact List.pairwise_iff_getElem.1 hsort 0 i (by omega) hi (by omega)
  have b1:S[i]<=S[l.length - 1]'(by omega):=by
   by_cases z:i=l.length - 1
   ·subst z; exact Int.le_refl _
   ·exact List.pairwise_iff_getElem.1 hsort i (l.length - 1) hi (by omega) (by omega)
  rw [wI2] at c4 ⊢;exact ⟨by omega,by omega⟩
 refine congrArg some (Bool.eq_iff_iff.2 ?_);rw [dE,<- key];omega
theorem Zff (s:Sp) (x:TV):Q62.f s x=some (inS s x):=by
 unfold Q62.f inS;cases Op.bytesLess x s.1 <;> cases s.2.2 <;> rfl
theorem Zfo (a b:TV):Q60.f a b=some (Wu a b):=rfl
theorem Be {l:TO} (s:Sp) (hl:l.length<=80):∀(k i:Nat),i<=l.length->l.length - i<k->Q56.l0 k l s (i:Int)=some ((l.drop i).all (piv s) && Jk (l.drop (i - 1)))
 | 0,i,_,h=>by omega
 | k+1,i,hi,hk=>by
  rw [Q56.l0];by_cases h:i<l.length
  ·have g1:(0:Int)<=(i:Int)/\(i:Int)<(l.length:Int):=by omega
   have eta:(s.1,s.2.1,s.2.2)=s:=rfl;have ih:=Be s hl k (i+1) (by omega) (by omega);rw [iT (dT g1.2),iT g1,Yo]; (try rw [eta]); rw [Zff,bS,wS2,ih,Y1 h,List.all_cons,Nat.add_sub_cancel]
   simp only [piv];cases h1:inS s (l.getD i default) with
   | false=>rfl
   | true=>
    by_cases e:l.getD i default=s.1
    ·rw [vS,iT (dT e),dT e]; rfl
    ·rw [vS,iF (by simp only [e,decide_false]; simp)];by_cases h0:0<i
     ·have g2:(0:Int)<=((i - 1:Nat):Int)/\((i - 1:Nat):Int)<(l.length:Int):=by omega
      rw [iP,Zja h0 (by omega),iT g2,Yo,Zfo,bS,Zk1];have:=Zg3 (l:=l) (i:=i - 1) (by omega);rw [Nat.sub_add_cancel h0] at this;rw [this,dF e];show (if (!Op.bytesLess (l.getD (i - 1) []) (l.getD i []))=true then _ else _)=_
      cases Op.bytesLess (l.getD (i - 1) []) (l.getD i []) <;> simp
     ·obtain rfl:i=0:=by omega
      rw [vS,dF e];simp
  ·rw [iN,dN,Zhz (by omega)];rfl
theorem Zhv {l:TO} (s:Sp) (hl:l.length<=80) {k:Nat} (hk:100<k):Q56.f k l s=some (l.all (piv s) && Jk l):=by
 have:=Be s hl k 0 (by omega) (by omega);simpa [Q56.f] using this
theorem Zgz {l:List Pr} (hl:l.length<=100000) {k:Nat} (hk:l.length<k):Q58.f k l=some (Zah l):=by
 have:=Js (key:=fun x:Pr=>x.1) (F:=fun k i=>Q58.l0 k l i) (by omega) (fun k i=>rfl) k 0 (by omega) (by omega);rw [Zga];simpa [Q58.f] using this
theorem Zhq {l:List Msg} (hl:l.length<=100000) {k:Nat} (hk:l.length<k):Q12.f k l=some (Zak l):=by
 have:=Js (key:=fun x:Msg=>x.1) (F:=fun k i=>Q12.l0 k l i) (by omega) (fun k i=>rfl) k 0 (by omega) (by omega);rw [Zft];simpa [Q12.f] using this
theorem V8 {α:Type} [Inhabited α] {l:List α} {F:Nat->Int->Option Int} {p:α->Bool} (hl:l.length<=100000)
  (hF:∀ k i,F (k+1) i=if (decide (i<(l.length:Int)))=true then (if 0<=i/\i<(l.length:Int) then (if p (gt l i)=true then (some i) else (F k (w64 (i+1)))) else none) else (some (-1))) :
  ∀(m i k:Nat),i+m=l.length->m<k->∃ r,F k (i:Int)=some r/\decide (0<=r)=(l.drop i).any p
 | 0,i,0,_,h=>by omega
 | m+1,i,0,_,h=>by omega
 | 0,i,k+1,h,_=>⟨-1,by rw [hF,iN],by rw [dN]; rfl⟩
 | m+1,i,k+1,h,hk=>by
  rw [hF,iP,iO,Yo,Y1 (show i<l.length by omega),List.any_cons];by_cases c:p (l.getD i default)=true
  ·exact ⟨_,by rw [iT c],by rw [c,dT]; rfl⟩
  ·obtain ⟨r,h1,h2⟩:=V8 hl hF m (i+1) k (by omega) (by omega);exact ⟨r,by rw [iF c,wS2,h1],by rw [h2,Bool.eq_false_iff.2 c]; rfl⟩
theorem Za5 (c:Cfg) (x:TV):Q65.f c x=some (Vl c x):=by
 unfold Q65.f Vl;by_cases h:1<=(x.length:Int) <;> simp [h]
theorem Zkn (p:Pr) (c:Cfg) (s:Sp):Q72.f p c s=some (!prB c s p):=by
 unfold Q72.f prB;rw [show Q65.f (c.1,c.2.1,c.2.2.1,c.2.2.2.1,c.2.2.2.2.1,c.2.2.2.2.2.1,c.2.2.2.2.2.2.1,c.2.2.2.2.2.2.2) p.1=_ from Za5 c p.1,bS,show Q62.f (s.1,s.2.1,s.2.2) p.1=_ from Zff s p.1,bS];by_cases e:c.2.2.2.2.2.2.2<(p.2.length:Int)
 ·rw [dT e,dF (show ¬ ((p.2.length:Int)<=c.2.2.2.2.2.2.2) by omega)];cases Vl c p.1 <;> cases inS s p.1 <;> rfl
 ·rw [dF e,dT (show ((p.2.length:Int)<=c.2.2.2.2.2.2.2) by omega)];cases Vl c p.1 <;> cases inS s p.1 <;> rfl
theorem Zla (x:TV) (c:Cfg):Q68.f x c=some (!Vl c x):=by
 unfold Q68.f;rw [show Q65.f (c.1,c.2.1,c.2.2.1,c.2.2.2.1,c.2.2.2.2.1,c.2.2.2.2.2.1,c.2.2.2.2.2.2.1,c.2.2.2.2.2.2.2) x=_ from Za5 c x,bS]
theorem Zld (p:Msg) (c:Cfg) (s:Sp):Q69.f p c s=some (!Zbl c s p):=by
 unfold Q69.f Zbl;rw [show Q65.f (c.1,c.2.1,c.2.2.1,c.2.2.2.1,c.2.2.2.2.1,c.2.2.2.2.2.1,c.2.2.2.2.2.2.1,c.2.2.2.2.2.2.2) p.1=_ from Za5 c p.1,bS,show Q62.f (s.1,s.2.1,s.2.2) p.1=_ from Zff s p.1,bS];by_cases e:c.2.2.2.2.2.2.2<(p.2.2.length:Int)
 ·rw [dT e,dF (show ¬ ((p.2.2.length:Int)<=c.2.2.2.2.2.2.2) by omega)];cases Vl c p.1 <;> cases inS s p.1 <;> rfl
 ·rw [dF e,dT (show ((p.2.2.length:Int)<=c.2.2.2.2.2.2.2) by omega)];cases Vl c p.1 <;> cases inS s p.1 <;> cases p.2.1 <;> cases decide (p.2.2=[]) <;> rfl
theorem Zhe {c:Cfg} {s:Sp} {l:List Pr} (hl:l.length<=100000) {k:Nat} (hk:l.length<k):Q93.f k l c s=some (!l.all (prB c s)):=by
 obtain ⟨r,h1,h2⟩:=V8 (l:=l) (F:=fun k i=>Q99.l0 k l c s i) (p:=fun x=>!prB c s x) hl (fun k i=>by
  show Q99.l0 (k+1) l c s i=_;rw [Q99.l0,Zkn,bS]) l.length 0 k (by omega) hk
 unfold Q93.f Q99.f;rw [show Q99.l0 k l (c.1,c.2.1,c.2.2.1,c.2.2.2.1,c.2.2.2.2.1,c.2.2.2.2.2.1,c.2.2.2.2.2.2.1,c.2.2.2.2.2.2.2) (s.1,s.2.1,s.2.2) 0=_ from h1,bS,h2,List.drop_zero];exact congrArg some (by rw [List.all_eq_not_any_not,Bool.not_not])
theorem Zg0 {c:Cfg} {l:TO} (hl:l.length<=100000) {k:Nat} (hk:l.length<k):Q96.f k l c=some (!l.all (Vl c)):=by
 obtain ⟨r,h1,h2⟩:=V8 (l:=l) (F:=fun k i=>Q102.l0 k l c i) (p:=fun x=>!Vl c x) hl (fun k i=>by
  show Q102.l0 (k+1) l c i=_;rw [Q102.l0,Zla,bS]) l.length 0 k (by omega) hk
 unfold Q96.f Q102.f;rw [show Q102.l0 k l (c.1,c.2.1,c.2.2.1,c.2.2.2.1,c.2.2.2.2.1,c.2.2.2.2.2.1,c.2.2.2.2.2.2.1,c.2.2.2.2.2.2.2) 0=_ from h1,bS,h2,List.drop_zero];exact congrArg some (by rw [List.all_eq_not_any_not,Bool.not_not])
theorem Zgx {c:Cfg} {s:Sp} {l:List Msg} (hl:l.length<=100000) {k:Nat} (hk:l.length<k):Q92.f k l c s=some (!l.all (Zbl c s)):=by
 obtain ⟨r,h1,h2⟩:=V8 (l:=l) (F:=fun k i=>Q98.l0 k l c s i) (p:=fun x=>!Zbl c s x) hl (fun k i=>by
  show Q98.l0 (k+1) l c s i=_;rw [Q98.l0,Zld,bS]) l.length 0 k (by omega) hk
 unfold Q92.f Q98.f;rw [show Q98.l0 k l (c.1,c.2.1,c.2.2.1,c.2.2.2.1,c.2.2.2.2.1,c.2.2.2.2.2.1,c.2.2.2.2.2.2.1,c.2.2.2.2.2.2.2) (s.1,s.2.1,s.2.2) 0=_ from h1,bS,h2,List.drop_zero];exact congrArg some (by rw [List.all_eq_not_any_not,Bool.not_not])
theorem Znp {α:Type} [DecidableEq α] (l:List α):decide (0<(l.length:Int))=!decide (l=[]):=by cases l <;> simp
theorem Zg2 {c:Cfg} {s:Sp} {n:Nd} (h1:n.2.1.length<=10000) (h2:n.2.2.1.length<=10000) (h3:n.2.2.2.1.length<=10000) (h4:n.2.2.2.2.length<=10000) {k:Nat} (hk:10000<k):Q71.f k c s n=some (Zg1 c s n):=by
 unfold Q71.f Zg1;rw [show Q93.f k n.2.2.2.2 (c.1,c.2.1,c.2.2.1,c.2.2.2.1,c.2.2.2.2.1,c.2.2.2.2.2.1,c.2.2.2.2.2.2.1,c.2.2.2.2.2.2.2) (s.1,s.2.1,s.2.2)=_ from Zhe (c:=c) (s:=s) (by omega) (by omega),Zgz (by omega) (by omega),bS,bS,
  wn (x:=(n.2.1.length:Int)+(n.2.2.1.length:Int)) (n:=n.2.1.length+n.2.2.1.length) (by omega) (by omega),wn (x:=((n.2.1.length+n.2.2.1.length:Nat):Int)+(n.2.2.2.1.length:Int)) (n:=n.2.1.length+n.2.2.1.length+n.2.2.2.1.length) (by omega) (by omega)]
 by_cases e1:n.2.1=[]
 ·by_cases e2:n.2.2.1=[]
  ·by_cases e3:n.2.2.2.1=[]
   ·by_cases e4:c.2.2.2.2.2.1<(n.2.2.2.2.length:Int)
    ·rw [iF (by simp [e1,e2,e3]),iT (dT e4),dF (show ¬ (n.2.2.2.2.length:Int)<=c.2.2.2.2.2.1 by omega)];simp
    ·rw [iF (by simp [e1,e2,e3]),iF (by simpa using e4),dT (show (n.2.2.2.2.length:Int)<=c.2.2.2.2.2.1 by omega),dT e1,dT e2,dT e3];cases Zah n.2.2.2.2 <;> cases n.2.2.2.2.all (prB c s) <;> rfl
   ·have:=List.length_pos_iff.2 e3;rw [iP,dF e3];simp
  ·have:=List.length_pos_iff.2 e2;rw [iP,dF e2];simp
 ·have:=List.length_pos_iff.2 e1;rw [iP,dF e1];simp
theorem Zgm {c:Cfg} {s:Sp} {n:Nd} (h1:n.2.1.length<=80) (h2:n.2.2.1.length<=80) (h3:n.2.2.2.1.length<=10000) (h4:n.2.2.2.2.length<=10000) (hl:∀ x∈n.2.1,0<=x/\x<4294967296):Ev (fun k=>Q67.f k c s n) (Zgh c s n):=by
 have hk:=Zms (c:=c) h1 hl;have hbig:Ev (fun k=>if 10000<k then some () else none) ():=⟨10001,fun k hk=>iO⟩
 refine hk.next2 hbig fun k k1 k2=>?_;have k2:10000<k:=by
  by_cases z:10000<k
  ·exact z
  ·rw [iF z] at k2; cases k2
 unfold Q67.f Zgh Zhn Zhf;rw [show Q70.f k (c.1,c.2.1,c.2.2.1,c.2.2.2.1,c.2.2.2.2.1,c.2.2.2.2.2.1,c.2.2.2.2.2.2.1,c.2.2.2.2.2.2.2) n.2.1=_ from k1,show Q92.f k n.2.2.2.1 (c.1,c.2.1,c.2.2.1,c.2.2.2.1,c.2.2.2.2.1,c.2.2.2.2.2.1,c.2.2.2.2.2.2.1,c.2.2.2.2.2.2.2) (s.1,s.2.1,s.2.2)=_ from Zgx (c:=c) (s:=s) (by omega) (by omega),
  show Q96.f k n.2.2.1 (c.1,c.2.1,c.2.2.1,c.2.2.2.1,c.2.2.2.2.1,c.2.2.2.2.2.1,c.2.2.2.2.2.2.1,c.2.2.2.2.2.2.2)=_ from Zg0 (c:=c) (by omega) (by omega),show Q56.f k n.2.2.1 (s.1,s.2.1,s.2.2)=_ from Zhv s h2 (by omega),Zhq (by omega) (by omega)]
 simp only [bS,Zaf];have y1:decide (40<n.1)=!decide (n.1<=40):=by by_cases q:n.1<=40 <;> simp [q] <;> omega
 have y3:decide (c.2.2.2.2.1<(n.2.2.2.1.length:Int))=!decide ((n.2.2.2.1.length:Int)<=c.2.2.2.2.1):=by by_cases q:(n.2.2.2.1.length:Int)<=c.2.2.2.2.1 <;> simp [q] <;> omega
 have y4:(1<=n.2.1.length)->decide ((n.2.2.1.length:Int)=w64 ((n.2.1.length:Int) - 1))=decide (n.2.2.1.length+1=n.2.1.length):=fun z=>by
  rw [wn (x:=(n.2.1.length:Int) - 1) (n:=n.2.1.length - 1) (by omega) (by omega)];congr 1;exact propext (by omega)
 rw [y1,y3,Znp];by_cases z:1<=n.2.1.length
 ·rw [y4 z,dT z];cases decide (n.1<=40) <;> cases decide (n.2.2.2.2=[]) <;> cases decide ((n.2.1.length:Int)<=c.2.2.2.1) <;> cases (List.range' 0 n.2.1.length).all (J9 c n.2.1) <;> cases decide (n.2.2.1.length+1=n.2.1.length) <;> cases (n.2.2.1.all (piv s) && Jk n.2.2.1) <;> cases n.2.2.1.all (Vl c) <;> cases decide ((n.2.2.2.1.length:Int)<=c.2.2.2.2.1) <;> cases Zak n.2.2.2.1 <;> cases n.2.2.2.1.all (Zbl c s) <;> rfl
 ·rw [dF z];cases decide (n.1<=40) <;> cases decide (n.2.2.2.2=[]) <;> simp
def Vd (c:Cfg) (s:Sp) (n:Nd):Bool:=if n.1=0 then Zg1 c s n else decide (0<n.1) && Zgh c s n
theorem Zhm {c:Cfg} {s:Sp} {n:Nd} (h1:n.2.1.length<=80) (h2:n.2.2.1.length<=80) (h3:n.2.2.2.1.length<=10000) (h4:n.2.2.2.2.length<=10000) (hl:∀ x∈n.2.1,0<=x/\x<4294967296):Ev (fun k=>Q66.f k c s n) (Vd c s n):=by
 have hbig:Ev (fun k=>if 10000<k then some () else none) ():=⟨10001,fun k hk=>iO⟩
 refine (Zgm (c:=c) (s:=s) h1 h2 h3 h4 hl).next2 hbig fun k k1 k2=>?_;have k2:10000<k:=by
  by_cases z:10000<k
  ·exact z
  ·rw [iF z] at k2; cases k2
 unfold Q66.f Vd;rw [show Q67.f k (c.1,c.2.1,c.2.2.1,c.2.2.2.1,c.2.2.2.2.1,c.2.2.2.2.2.1,c.2.2.2.2.2.2.1,c.2.2.2.2.2.2.2) (s.1,s.2.1,s.2.2) (n.1,n.2.1,n.2.2.1,n.2.2.2.1,n.2.2.2.2)=_ from k1,
  show Q71.f k (c.1,c.2.1,c.2.2.1,c.2.2.2.1,c.2.2.2.2.1,c.2.2.2.2.2.1,c.2.2.2.2.2.2.1,c.2.2.2.2.2.2.2) (s.1,s.2.1,s.2.2) (n.1,n.2.1,n.2.2.1,n.2.2.2.1,n.2.2.2.2)=_ from Zg2 (c:=c) (s:=s) (by omega) (by omega) h3 h4 k2,bS,bS]
 by_cases c1:n.1<0
 ·rw [iT (dT c1),iQ,dF (show ¬ 0<n.1 by omega)]; rfl
 ·rw [iF (by simpa using c1)];by_cases c2:n.1=0
  ·rw [iT (dT c2),iT c2]
  ·rw [iF (by simpa using c2),iF c2,dT (show 0<n.1 by omega)]; rfl
def be:Nat->Nat->List UInt8
 | 0,_=>[]
 | w+1,v=>UInt8.ofNat (v / 256 ^ w) :: be w v
theorem Y5:∀ w v,(be w v).length=w
 | 0,_=>rfl
 | w+1,v=>by rw [be,length_cons,Y5 w v]
def rdv (l:TV):Nat:=l.foldl (fun a c=>a*256+c.toNat) 0
theorem Za0:∀(l:TV) (a:Nat),l.foldl (fun a c=>a*256+c.toNat) a=a*256 ^ l.length+rdv l
 | [],a=>by simp [rdv]
 | c :: l,a=>by
  unfold rdv;rw [List.foldl_cons,List.foldl_cons,Za0 l,Za0 l (0*256+c.toNat),length_cons,Nat.pow_succ,Nat.add_mul,Nat.zero_mul,Nat.zero_add];rw [Nat.mul_assoc,Nat.mul_comm 256,Nat.add_assoc]
theorem Zjm (c:UInt8) (l:TV):rdv (c :: l)=c.toNat*256 ^ l.length+rdv l:=by
 unfold rdv;rw [List.foldl_cons,Za0,Nat.zero_mul,Nat.zero_add]; rfl
theorem Zfc:∀ l:List UInt8,rdv l<256 ^ l.length
 | []=>by simp [rdv]
 | c :: l=>by
  have h1:=Zfc l;have h2:c.toNat<256:=c.toNat_lt;rw [Zjm,length_cons,Nat.pow_succ];have:c.toNat*256 ^ l.length<=255*256 ^ l.length:=Nat.mul_le_mul_right _ (by omega);omega
def zs (n:Nat):List UInt8:=List.replicate n 0
theorem U1 (n:Nat):(zs n).length=n:=length_replicate
theorem Zb7 (a b:Nat):zs a ++ zs b=zs (a+b):=by unfold zs; rw [List.replicate_append_replicate]
def slt (s:TV) (n:Nat):List UInt8:=s ++ zs (n - s.length)
theorem Jv {s:TV} {n:Nat} (h:s.length<=n):(slt s n).length=n:=by unfold slt; rw [lA,U1]; omega
def prS (K V:Nat) (p:TH):List UInt8:=be 1 p.1.length ++ (be 2 p.2.length ++ (slt p.1 K ++ slt p.2 V))
theorem Jx {K V:Nat} {p:TH} (h1:p.1.length<=K) (h2:p.2.length<=V):(prS K V p).length=3+K+V:=by
 unfold prS;rw [lA,lA,lA,Y5,Y5,Jv h1,Jv h2]; omega
def msS (K V:Nat) (m:TC):List UInt8:=(if m.2.1=true then 2 else 1) :: prS K V (m.1,m.2.2)
theorem Zk5 {K V:Nat} {m:TC} (h1:m.1.length<=K) (h2:m.2.2.length<=V):(msS K V m).length=4+K+V:=by
 unfold msS;rw [length_cons,Jx h1 h2]; omega
def pvS (K:Nat) (p:TV):List UInt8:=be 1 p.length ++ slt p K
theorem Zcf {K:Nat} {p:TV} (h1:p.length<=K):(pvS K p).length=1+K:=by
 unfold pvS;rw [lA,Y5,Jv h1]
def cat {α:Type} (f:α->List UInt8) (l:List α):List UInt8:=l.flatMap f
theorem Jw {α:Type} {f:α->List UInt8} {n:Nat}:∀ {l:List α},(∀ x∈l,(f x).length=n)->(cat f l).length=l.length*n
 | [],_=>by simp [cat]
 | x :: l,h=>by
  have:=Jw (l:=l) fun y hy=>h y (by simp [hy]);unfold cat at this ⊢;rw [List.flatMap_cons,lA,this,h x (by simp),length_cons,Nat.add_mul]; omega
def kdS (x:Int):List UInt8:=be 4 x.toNat
def cBy (c:Cfg):Nat:=c.2.1.toNat
def cFa (c:Cfg):Nat:=c.2.2.2.1.toNat
def cBu (c:Cfg):Nat:=c.2.2.2.2.1.toNat
def cLe (c:Cfg):Nat:=c.2.2.2.2.2.1.toNat
def cK (c:Cfg):Nat:=c.2.2.2.2.2.2.1.toNat
def cV (c:Cfg):Nat:=c.2.2.2.2.2.2.2.toNat
def hdO (n:Nd):List UInt8:=1 :: 0 :: (be 2 n.2.2.2.2.length ++ zs 4)
def hdI (n:Nd):List UInt8:=2 :: (be 1 n.1.toNat ++ (be 2 n.2.1.length ++ (be 2 n.2.2.2.1.length ++ zs 2)))
theorem Zgb (n:Nd):(hdO n).length=8:=by simp [hdO,Y5,U1]
theorem Zfz (n:Nd):(hdI n).length=8:=by simp [hdI,Y5,U1]
def bdO (c:Cfg) (n:Nd):List UInt8:=cat (prS (cK c) (cV c)) n.2.2.2.2
def bdI (c:Cfg) (n:Nd):List UInt8:=cat kdS n.2.1 ++ (zs (4*(cFa c - n.2.1.length)) ++ (cat (pvS (cK c)) n.2.2.1 ++ (zs ((1+cK c)*(cFa c - 1 - n.2.2.1.length)) ++ cat (msS (cK c) (cV c)) n.2.2.2.1)))
def Bj (c:Cfg) (n:Nd):List UInt8:=if n.1=0 then hdO n ++ bdO c n else hdI n ++ bdI c n
def U8 (c:Cfg) (n:Nd):List UInt8:=slt (Bj c n) (cBy c)
structure FitN (c:Cfg) (n:Nd):Prop where
 lv:0<=n.1/\n.1<=40
 kd:∀ x∈n.2.1,0<=x/\x<4294967296
 o:n.1=0->n.2.1=[]/\n.2.2.1=[]/\n.2.2.2.1=[]/\n.2.2.2.2.length<=cLe c
 i:n.1≠0->n.2.2.2.2=[]/\1<=n.2.1.length/\n.2.1.length<=cFa c/\n.2.2.1.length+1=n.2.1.length/\n.2.2.2.1.length<=cBu c
 pk:∀ p∈n.2.2.1,p.length<=cK c
 ms:∀ m∈n.2.2.2.1,m.1.length<=cK c/\m.2.2.length<=cV c
 rk:∀ p∈n.2.2.2.2,p.1.length<=cK c/\p.2.length<=cV c
theorem OkC.nat {c:Cfg} (h:OkC c):8<=cFa c/\cFa c<=64/\1<=cK c/\cK c<=64/\cV c<=256/\16<=cBu c/\cBu c<=512/\cBu c<=cLe c/\cLe c<=1024:=by
 have h1:=h.fan;have h2:=h.key;have h3:=h.val;have h4:=h.buf;have h5:=h.leaf;unfold cFa cK cV cBu cLe;omega
theorem Zkj {c:Cfg} {n:Nd} (h:FitN c n):(bdO c n).length=n.2.2.2.2.length*(3+cK c+cV c):=Jw fun p hp=>Jx (h.rk p hp).1 (h.rk p hp).2
theorem Zi2 (l:TZ):(cat kdS l).length=l.length*4:=Jw fun p hp=>Y5 4 _
theorem Zjj {c:Cfg} {n:Nd} (h:FitN c n):(cat (pvS (cK c)) n.2.2.1).length=n.2.2.1.length*(1+cK c):=Jw fun p hp=>Zcf (h.pk p hp)
theorem Zjl {c:Cfg} {n:Nd} (h:FitN c n):(cat (msS (cK c) (cV c)) n.2.2.2.1).length=n.2.2.2.1.length*(4+cK c+cV c):=Jw fun p hp=>Zk5 (h.ms p hp).1 (h.ms p hp).2
theorem Zkv {c:Cfg} {n:Nd} (h:FitN c n) (h0:n.1≠0):(bdI c n).length=4*cFa c+(1+cK c)*(cFa c - 1)+n.2.2.2.1.length*(4+cK c+cV c):=by
 obtain ⟨_,i2,i3,i4,_⟩:=h.i h0;unfold bdI;rw [lA,lA,lA,lA,Zi2,U1,Zjj h,U1,Zjl h,Nat.mul_comm n.2.2.1.length];have e:(1+cK c)*n.2.2.1.length+(1+cK c)*(cFa c - 1 - n.2.2.1.length)=(1+cK c)*(cFa c - 1):=by rw [<- Nat.mul_add]; congr 1; omega
 omega
def szB (c:Cfg):Bool:=decide (8<=c.2.2.2.1/\c.2.2.2.1<=64) && (decide (1<=c.2.2.2.2.2.2.1/\c.2.2.2.2.2.2.1<=64) && (decide (0<=c.2.2.2.2.2.2.2/\c.2.2.2.2.2.2.2<=256) && (decide (2*c.2.2.2.1<=c.2.2.2.2.1/\c.2.2.2.2.1<=512) && decide (c.2.2.2.2.1<=c.2.2.2.2.2.1/\c.2.2.2.2.2.1<=1024))))
theorem Jy {c:Cfg} (h:szB c=true):OkC c:=by
 simp only [szB,Bool.and_eq_true,dE] at h;exact ⟨h.1,h.2.1,h.2.2.1,by omega,h.2.2.2.2⟩
def Un (c:Cfg):Int:=8+(4+(c.2.2.2.1 - 1)*(5+c.2.2.2.2.2.2.1)+c.2.2.2.2.1*(4+c.2.2.2.2.2.2.1+c.2.2.2.2.2.2.2))
def Uz (c:Cfg):Int:=8+c.2.2.2.2.2.1*(3+c.2.2.2.2.2.2.1+c.2.2.2.2.2.2.2)
def okB (c:Cfg):Bool:=szB c && (decide (5<=c.1/\c.1<=65536) && (decide (8<=c.2.2.1/\c.2.2.1<=64) && (decide (64<=c.2.1/\c.2.1<=65536) && (decide (Un c<=c.2.1) && decide (Uz c<=c.2.1)))))
theorem Zif (a b c:Int):Q134.f a b c=some (decide (b<=a/\a<=c)):=by
 unfold Q134.f;by_cases h:b<=a <;> simp [h]
theorem B1 (c:Cfg):Q133.f c=some (szB c):=by
 unfold Q133.f szB;simp only [Zif,bS];by_cases h1:8<=c.2.2.2.1/\c.2.2.2.1<=64
 ·have w:w64 (2*c.2.2.2.1)=2*c.2.2.2.1:=wI2;rw [w,dT h1];cases decide (1<=c.2.2.2.2.2.2.1/\c.2.2.2.2.2.2.1<=64) <;> cases decide (0<=c.2.2.2.2.2.2.2/\c.2.2.2.2.2.2.2<=256) <;> cases decide (2*c.2.2.2.1<=c.2.2.2.2.1/\c.2.2.2.2.1<=512) <;> rfl
 ·rw [dF h1]; rfl
theorem Zfu {c:Cfg} (hc:OkC c):∀(m i k:Nat) (x:Int),c.2.2.2.2.1=(i:Int)+m->m<k->0<=x->x+m*324<=1000000000->Q130.l1 k c x (i:Int)=some (x+m*(4+c.2.2.2.2.2.2.1+c.2.2.2.2.2.2.2))
 | 0,i,k+1,x,h,_,_,_=>by
  rw [Q130.l1,iN]; simp
 | m+1,i,k+1,x,h,hk,h0,h1=>by
  have a1:=hc.key;have a2:=hc.val;have hb:=hc.buf;rw [Q130.l1,iP,wI2 (x:=x+4),wI2 (x:=x+4+c.2.2.2.2.2.2.1),wI2 (x:=x+4+c.2.2.2.2.2.2.1+c.2.2.2.2.2.2.2),wS2,Zfu hc m (i+1) k _ (by omega) (by omega) (by omega) (by omega)];congr 1;rw [show ((m+1:Nat):Int)=(m:Int)+1 by omega,Int.add_mul]; omega
theorem Zfw {c:Cfg} (hc:OkC c):∀(m i k:Nat) (x:Int),1<=i->c.2.2.2.1=(i:Int)+m->m+600<k->0<=x->x+m*69<=100000->Q130.l0 k c x (i:Int)=some (x+m*(5+c.2.2.2.2.2.2.1)+c.2.2.2.2.1*(4+c.2.2.2.2.2.2.1+c.2.2.2.2.2.2.2))
 | 0,i,k+1,x,h2,h,hk,h0,h1=>by
  have hb:=hc.buf;obtain ⟨B,hB⟩:=Int.eq_ofNat_of_zero_le (show 0<=c.2.2.2.2.1 by omega);rw [Q130.l0,iN,show Q130.l1 k c x 0=_ from Zfu hc B 0 k x (by rw [hB]; simp) (by omega) h0 (by omega),hB]; simp
 | m+1,i,k+1,x,h2,h,hk,h0,h1=>by
  have a1:=hc.key;have hb:=hc.fan;rw [Q130.l0,iP,iP,wI2 (x:=x+4),wI2 (x:=x+4+1),wI2 (x:=x+4+1+c.2.2.2.2.2.2.1),wS2,Zfw hc m (i+1) k _ (by omega) (by omega) (by omega) (by omega) (by omega)];congr 1;rw [show ((m+1:Nat):Int)=(m:Int)+1 by omega,Int.add_mul]; omega
theorem Zkm {c:Cfg} (h:szB c=true) {k:Nat} (hk:1000<k):Q130.f k c=some (Un c):=by
 have hc:=Jy h;have hf:=hc.fan;obtain ⟨F,hF⟩:=Int.eq_ofNat_of_zero_le (show 0<=c.2.2.2.1 by omega);obtain ⟨k,rfl⟩:∃ q,k=q+1:=⟨k - 1,by omega⟩;unfold Q130.f;rw [show Q133.f (c.1,c.2.1,c.2.2.1,c.2.2.2.1,c.2.2.2.2.1,c.2.2.2.2.2.1,c.2.2.2.2.2.2.1,c.2.2.2.2.2.2.2)=_ from B1 c,h,bS,vS,Q130.l0,iP,vS,show w64 (8+4)=12 from rfl,show w64 (0+1)=((1:Nat):Int) from rfl,Zfw hc (F - 1) 1 k 12 (Nat.le_refl _) (by omega) (by omega) (by omega) (by omega),show ((F - 1:Nat):Int)=c.2.2.2.1 - 1 by omega];unfold Un;congr 1; omega
theorem Zfs {c:Cfg} (hc:OkC c):∀(m i k:Nat) (x:Int),c.2.2.2.2.2.1=(i:Int)+m->m<k->0<=x->x+m*324<=1000000000->Q131.l0 k c x (i:Int)=some (x+m*(3+c.2.2.2.2.2.2.1+c.2.2.2.2.2.2.2))
 | 0,i,k+1,x,h,_,_,_=>by
  rw [Q131.l0,iN]; simp
 | m+1,i,k+1,x,h,hk,h0,h1=>by
  have a1:=hc.key;have a2:=hc.val;have hb:=hc.leaf;rw [Q131.l0,iP,wI2 (x:=x+3),wI2 (x:=x+3+c.2.2.2.2.2.2.1),wI2 (x:=x+3+c.2.2.2.2.2.2.1+c.2.2.2.2.2.2.2),wS2,Zfs hc m (i+1) k _ (by omega) (by omega) (by omega) (by omega)];congr 1;rw [show ((m+1:Nat):Int)=(m:Int)+1 by omega,Int.add_mul]; omega
theorem Zku {c:Cfg} (h:szB c=true) {k:Nat} (hk:2000<k):Q131.f k c=some (Uz c):=by
 have hc:=Jy h;have hf:=hc.leaf;have hb:=hc.buf;obtain ⟨L,hL⟩:=Int.eq_ofNat_of_zero_le (show 0<=c.2.2.2.2.2.1 by omega);unfold Q131.f;rw [show Q133.f (c.1,c.2.1,c.2.2.1,c.2.2.2.1,c.2.2.2.2.1,c.2.2.2.2.2.1,c.2.2.2.2.2.2.1,c.2.2.2.2.2.2.2)=_ from B1 c,h,bS,vS,show Q131.l0 k c 8 0=_ from Zfs hc L 0 k 8 (by omega) (by omega) (by omega) (by omega),<- hL];rfl
theorem Zh8 (c:Cfg) {k:Nat} (hk:2000<k):Q132.f k c=some (okB c):=by
 unfold Q132.f okB;rw [show Q133.f (c.1,c.2.1,c.2.2.1,c.2.2.2.1,c.2.2.2.2.1,c.2.2.2.2.2.1,c.2.2.2.2.2.2.1,c.2.2.2.2.2.2.2)=_ from B1 c,bS];cases h:szB c with
 | false=>rfl
 | true=>
  rw [iT rfl,show Q130.f k (c.1,c.2.1,c.2.2.1,c.2.2.2.1,c.2.2.2.2.1,c.2.2.2.2.2.1,c.2.2.2.2.2.2.1,c.2.2.2.2.2.2.2)=_ from Zkm h (by omega),show Q131.f k (c.1,c.2.1,c.2.2.1,c.2.2.2.1,c.2.2.2.2.1,c.2.2.2.2.2.1,c.2.2.2.2.2.2.1,c.2.2.2.2.2.2.2)=_ from Zku h hk];simp only [Zif,bS];cases decide (5<=c.1/\c.1<=65536) <;> cases decide (8<=c.2.2.1/\c.2.2.1<=64) <;> cases decide (64<=c.2.1/\c.2.1<=65536) <;> cases decide (Un c<=c.2.1) <;> rfl
abbrev Bq:Sp:=([],[],true)
theorem Zcc (c:Cfg):Q49.f c=some (szB c):=by
 unfold Q49.f szB;by_cases h1:8<=c.2.2.2.1/\c.2.2.2.1<=64
 ·have w:w64 (2*c.2.2.2.1)=2*c.2.2.2.1:=wI2;rw [w,iN,iN,dT h1];by_cases h2:1<=c.2.2.2.2.2.2.1/\c.2.2.2.2.2.2.1<=64
  ·by_cases h3:0<=c.2.2.2.2.2.2.2/\c.2.2.2.2.2.2.2<=256
   ·by_cases h4:2*c.2.2.2.1<=c.2.2.2.2.1/\c.2.2.2.2.1<=512
    ·by_cases h5:c.2.2.2.2.1<=c.2.2.2.2.2.1/\c.2.2.2.2.2.1<=1024
     ·rw [iN,iN,iN,iN,iN,iN,iN,iN,dT h2,dT h3,dT h4,dT h5];rfl
     ·rw [iN,iN,dF h5];simp only [Bool.and_false];by_cases q:c.2.2.2.2.2.1<c.2.2.2.2.1
      ·rw [iT (dT q)]
      ·rw [iF (by simpa using q),iP]
    ·rw [dF h4];simp only [Bool.false_and,Bool.and_false];by_cases q:c.2.2.2.2.1<2*c.2.2.2.1
     ·rw [iT (dT q)]
     ·rw [iF (by simpa using q),iP]
   ·rw [dF h3];simp only [Bool.false_and,Bool.and_false]
    repeat' split
    all_goals first | rfl | (simp only [dE] at *; omega)
  ·rw [dF h2];simp only [Bool.false_and,Bool.and_false]
   repeat' split
   all_goals first | rfl | (simp only [dE] at *; omega)
 ·rw [dF h1];simp only [Bool.false_and];by_cases q:c.2.2.2.1<8
  ·rw [iT (dT q)]
  ·rw [iF (by simpa using q),iP]
theorem Uy (c:Cfg):(c.1,c.2.1,c.2.2.1,c.2.2.2.1,c.2.2.2.2.1,c.2.2.2.2.2.1,c.2.2.2.2.2.2.1,c.2.2.2.2.2.2.2)=c:=rfl
theorem Zne (n:Nd):(n.1,n.2.1,n.2.2.1,n.2.2.2.1,n.2.2.2.2)=n:=rfl
theorem Znj {c:Cfg} (h:szB c=true):Q46.f c=some (Un c)/\8<=Un c/\Un c<=200000:=by
 have hc:=Jy h;have a1:=hc.fan;have a2:=hc.key;have a3:=hc.val;have a4:=hc.buf;have p0:0<=(c.2.2.2.1 - 1)*(1+c.2.2.2.2.2.2.1):=Int.mul_nonneg (by omega) (by omega);have p1:(c.2.2.2.1 - 1)*(1+c.2.2.2.2.2.2.1)<=63*65:=Int.mul_le_mul (by omega) (by omega) (by omega) (by omega);have q0:0<=c.2.2.2.2.1*(4+c.2.2.2.2.2.2.1+c.2.2.2.2.2.2.2):=Int.mul_nonneg (by omega) (by omega);have q1:c.2.2.2.2.1*(4+c.2.2.2.2.2.2.1+c.2.2.2.2.2.2.2)<=512*324:=Int.mul_le_mul (by omega) (by omega) (by omega) (by omega);have e:Un c=8+4*c.2.2.2.1+(c.2.2.2.1 - 1)*(1+c.2.2.2.2.2.2.1)+c.2.2.2.2.1*(4+c.2.2.2.2.2.2.1+c.2.2.2.2.2.2.2):=by
  unfold Un;rw [show 5+c.2.2.2.2.2.2.1=4+(1+c.2.2.2.2.2.2.1) by omega,Int.mul_add]; omega
 refine ⟨?_,by omega,by omega⟩;unfold Q46.f
 (try rw [Uy]); rw [Zcc,h,bS,vS,wI2 (x:=4*c.2.2.2.1),wI2 (x:=8+4*c.2.2.2.1),wI2 (x:=c.2.2.2.1 - 1),wI2 (x:=1+c.2.2.2.2.2.2.1),wI2 (x:=4+c.2.2.2.2.2.2.1),wI2 (x:=4+c.2.2.2.2.2.2.1+c.2.2.2.2.2.2.2),
  wI2 (x:=(c.2.2.2.1 - 1)*(1+c.2.2.2.2.2.2.1)),wI2 (x:=c.2.2.2.2.1*(4+c.2.2.2.2.2.2.1+c.2.2.2.2.2.2.2)),wI2 (x:=8+4*c.2.2.2.1+(c.2.2.2.1 - 1)*(1+c.2.2.2.2.2.2.1)),wI2,e]
theorem Znn {c:Cfg} (h:szB c=true):Q48.f c=some (Uz c)/\8<=Uz c/\Uz c<=400000:=by
 have hc:=Jy h;have a2:=hc.key;have a3:=hc.val;have a4:=hc.buf;have a5:=hc.leaf;have q0:0<=c.2.2.2.2.2.1*(3+c.2.2.2.2.2.2.1+c.2.2.2.2.2.2.2):=Int.mul_nonneg (by omega) (by omega);have q1:c.2.2.2.2.2.1*(3+c.2.2.2.2.2.2.1+c.2.2.2.2.2.2.2)<=1024*323:=Int.mul_le_mul (by omega) (by omega) (by omega) (by omega);refine ⟨?_,by unfold Uz; omega,by unfold Uz; omega⟩;unfold Q48.f Uz
 (try rw [Uy]); rw [Zcc,h,bS,vS,wI2 (x:=3+c.2.2.2.2.2.2.1),wI2 (x:=3+c.2.2.2.2.2.2.1+c.2.2.2.2.2.2.2),wI2 (x:=c.2.2.2.2.2.1*(3+c.2.2.2.2.2.2.1+c.2.2.2.2.2.2.2)),wI2]
theorem Zb1 (c:Cfg):Q45.f c=some (if okB c=true then 0 else 2):=by
 unfold Q45.f okB
 (try rw [Uy]); rw [Zcc,bS]
 cases h:szB c with
 | false=>rfl
 | true=>
  obtain ⟨i1,i2,i3⟩:=Znj h;obtain ⟨o1,o2,o3⟩:=Znn h;rw [iT rfl];by_cases a1:5<=c.1/\c.1<=65536
  ·rw [iT (dT a1.1),iT (dT a1.2),dT a1];by_cases a2:8<=c.2.2.1/\c.2.2.1<=64
   ·rw [iT (dT a2.1),iF (by simp [a2.2]),dT a2];by_cases a3:65536<c.2.1
    ·rw [iT (dT a3),dF (show ¬ (64<=c.2.1/\c.2.1<=65536) by omega)]; rfl
    ·rw [iF (by simpa using a3)];unfold Q47.f
     (try rw [Uy]); rw [Zcc,h,bS,iT rfl,i1,o1,bS,bS,bS]
     dsimp only;generalize Un c=I at *;generalize Uz c=O at *;by_cases b1:c.2.1<64
     ·rw [iT (dT (by split <;> split <;> omega)),dF (show ¬ (64<=c.2.1/\c.2.1<=65536) by omega)]; rfl
     ·rw [dT (show 64<=c.2.1/\c.2.1<=65536 by omega)];by_cases b2:I<=c.2.1
      ·rw [dT b2];by_cases b3:O<=c.2.1
       ·rw [dT b3,iF (by simp only [dE]; split <;> split <;> omega)]; rfl
       ·rw [dF b3,iT (dT (by split <;> split <;> omega))]; rfl
      ·rw [dF b2,iT (dT (by split <;> split <;> omega))]; rfl
   ·rw [dF a2];by_cases q:8<=c.2.2.1
    ·rw [iT (dT q),iV]; rfl
    ·rw [iF (by simpa using q)]; rfl
  ·rw [dF a1];by_cases q:5<=c.1
   ·rw [iT (dT q),iN]; rfl
   ·rw [iF (by simpa using q)]; rfl
theorem Xn (a b:TV):toB (a ++ b)=toB a ++ toB b:=by simp [toB]
theorem Z5 (a:TV):(toB a).length=a.length:=by simp [toB]
theorem Zer (n:Nat):toB (zs n)=List.replicate n 0:=by simp [toB,zs]
theorem Zcr (a:TV):toS (toB a)=a:=by
 unfold toS toB;rw [List.map_map]
 conv=>rhs; rw [<- List.map_id a]
 apply List.map_congr_left;intro x _;simp
theorem Zmm (n:Nat):uH.wrap (n:Int)=((n % 18446744073709551616:Nat):Int):=by
 simp [IntKind.wrap,IntKind.bits,IntKind.signed]
theorem W7 {n:Nat} (h:n<18446744073709551616:=by omega):uH.wrap (n:Int)=(n:Int):=by rw [Zmm,Nat.mod_eq_of_lt h]
theorem Zm5 (v i:Nat) (hi:i<8):uA.wrap (Int.fdiv (v:Int) (2 ^ (min (w64 (8*(i:Int))).toNat 64)))=((UInt8.ofNat (v / 256 ^ i)).toNat:Int):=by
 have e1:w64 (8*(i:Int))=((8*i:Nat):Int):=by rw [wI2]; omega
 rw [e1,tN,show min (8*i) 64=8*i by omega,Int.fdiv_eq_ediv_of_nonneg _ (by exact_mod_cast Nat.zero_le _)];have e2:((v:Int) / 2 ^ (8*i))=((v / 256 ^ i:Nat):Int):=by
  rw [show (256:Nat)=2 ^ 8 from rfl,<- Nat.pow_mul]
  push_cast
  rfl
 rw [e2];simp [IntKind.wrap,IntKind.bits,IntKind.signed]
theorem Zhy (v:Nat):∀(i:Nat) (x:TZ) (k:Nat),i<=8->i<k->x.length+i<=1000->Q152.l0 k (v:Int) x ((i:Int) - 1)=some (x ++ toB (be i v))
 | 0,x,k+1,_,_,_=>by
  rw [Q152.l0,vS];simp [be,toB]
 | i+1,x,k+1,hi,hk,hx=>by
  have e:((i+1:Nat):Int) - 1=(i:Int):=by omega
  rw [e,Q152.l0,iP,iT (by rw [wI2]; omega),iT (by simp only [List.length_singleton]; omega),Zm5 v i (by omega),wI2 (x:=(i:Int) - 1),Zhy v i _ k (by omega) (by omega) (by simp; omega)];simp [be,toB]
theorem V7 {a:TZ} {w v:Nat} (hw:w=1\/w=2\/w=4) (ha:a.length<=10000000) {k:Nat} (hk:10<k):Q37.f k a (w:Int) (v:Int)=some (a ++ toB (be w v)):=by
 have h0:Q152.f k ([]:List Int) (w:Int) (v:Int)=some (toB (be w v)):=by
  unfold Q152.f Q88.f Q161.f;rw [iU,bS];have hr:(if (decide ((w:Int)=1))=true then (some true) else (if (decide ((w:Int)=2))=true then (some true) else (if (decide ((w:Int)=4))=true then (some true) else (some (decide ((w:Int)=8))))))=some true:=by
   rcases hw with rfl | rfl | rfl <;> rfl
  rw [hr,bS,vS,wI2];have:=Zhy v w ([] ++ []) k (by omega) (by omega) (by simp; omega);simpa using this
 unfold Q37.f;rw [h0,bS,iT (by rw [Z5,Y5]; omega)]
theorem Zd1 {a:TZ} {s:TV} {n:Nat} (ha:a.length<=10000000) (hs:s.length<=n) (hn:n<=100000):Q42.f a s (n:Int)=some (a ++ toB (slt s n)):=by
 have e:w64 ((n:Int) - (s.length:Int))=((n - s.length:Nat):Int):=by rw [wI2]; omega
 unfold Q42.f;rw [iO,e,iT (by rw [lA,Z5]; omega),tN];unfold slt;rw [Xn,Zer,append_assoc]
structure NatC (c:Cfg):Prop where
 f:c.2.2.2.1=(cFa c:Int)
 k:c.2.2.2.2.2.2.1=(cK c:Int)
 v:c.2.2.2.2.2.2.2=(cV c:Int)
 b:c.2.2.2.2.1=(cBu c:Int)
 l:c.2.2.2.2.2.1=(cLe c:Int)
theorem OkC.int {c:Cfg} (h:OkC c):NatC c:=by
 have h1:=h.fan;have h2:=h.key;have h3:=h.val;have h4:=h.buf;have h5:=h.leaf;constructor <;> simp only [cFa,cK,cV,cBu,cLe] <;> omega
theorem Zhg {c:Cfg} (hc:OkC c) {a:TZ} {x y:TV} (ha:a.length<=9000000) (hx:x.length<=cK c) (hy:y.length<=cV c) {k:Nat} (hk:10<k):Q38.f k c a x y=some (a ++ toB (prS (cK c) (cV c) (x,y))):=by
 obtain ⟨c1,c2,c3,c4,c5,c6,c7,c8,c9⟩:=hc.nat
 unfold Q38.f;rw [W7,W7,show Q37.f k a 1 (x.length:Int)=_ from V7 (w:=1) (.inl rfl) (by omega) hk,bS,show Q37.f k (a ++ toB (be 1 x.length)) 2 (y.length:Int)=_ from V7 (w:=2) (.inr (.inl rfl)) (by rw [lA,Z5,Y5]; omega) hk,bS,
  hc.int.k,Zd1 (by rw [lA,lA,Z5,Z5,Y5,Y5]; omega) hx (by omega),bS,hc.int.v,Zd1 (by rw [lA,lA,lA,Z5,Z5,Z5,Y5,Y5,Jv hx]; omega) hy (by omega),bS]
 unfold prS;simp only [Xn,append_assoc]
theorem Zia {a b d e:Nat} (ha:a<256) (hb:b<256) (hd:d<65536) (he:e<65536) {k:Nat} (hk:10<k):Q36.f k (a:Int) (b:Int) (d:Int) (e:Int)=some (toB (be 1 a ++ (be 1 b ++ (be 2 d ++ (be 2 e ++ zs 2))))):=by
 unfold Q36.f;rw [W7,W7,W7,W7,show Q37.f k ([]:List Int) 1 (a:Int)=_ from V7 (w:=1) (.inl rfl) (by simp) hk,bS,show Q37.f k _ 1 (b:Int)=_ from V7 (w:=1) (.inl rfl) (by simp [Z5,Y5]) hk,bS,
  show Q37.f k _ 2 (d:Int)=_ from V7 (w:=2) (.inr (.inl rfl)) (by simp [Z5,Y5]) hk,bS,show Q37.f k _ 2 (e:Int)=_ from V7 (w:=2) (.inr (.inl rfl)) (by simp [Z5,Y5]) hk,bS,show Q37.f k _ 2 0=_ from V7 (w:=2) (v:=0) (.inr (.inl rfl)) (by simp [Z5,Y5]) hk,bS]
 have z:be 2 0=zs 2:=by decide
 rw [z];simp only [Xn,append_assoc,List.nil_append]
theorem Gb {α:Type} (f:α->List UInt8) (x:α) (l:List α):cat f (x :: l)=f x ++ cat f l:=by unfold cat; rw [List.flatMap_cons]
theorem Zdl {c:Cfg} {n:Nd} (hc:OkC c) (hr:∀ p∈n.2.2.2.2,p.1.length<=cK c/\p.2.length<=cV c) (hl:n.2.2.2.2.length<=2000):∀(m i k:Nat) (x:TZ),n.2.2.2.2.length=i+m->m+20<k->x.length+m*400<=9000000->Q44.l0 k c n x (i:Int)=some (x ++ toB (cat (prS (cK c) (cV c)) (n.2.2.2.2.drop i)))
 | 0,i,k+1,x,h,hk,hx=>by
  rw [Q44.l0,iN,dN];simp [cat,toB]
 | m+1,i,k+1,x,h,hk,hx=>by
  obtain ⟨c1,c2,c3,c4,c5,c6,c7,c8,c9⟩:=hc.nat
  have hi:i<n.2.2.2.2.length:=by omega
  have hp:=hr _ (Gg (d:=default) hi);rw [Q44.l0,iP,iO,Yo]; (try rw [Uy]); rw [Zhg hc (by omega) hp.1 hp.2 (by omega),bS,wS2,Zdl hc hr hl m (i+1) k _ (by omega) (by omega) (by rw [lA,Z5,Jx hp.1 hp.2]; omega),Y1 hi,Gb,Xn,append_assoc]
theorem Zk6 {c:Cfg} {n:Nd} (hc:OkC c) (hr:∀ p∈n.2.2.2.2,p.1.length<=cK c/\p.2.length<=cV c) (hl:n.2.2.2.2.length<=2000) {k:Nat} (hk:3000<k):Q44.f k c n=some (toB (hdO n ++ bdO c n)):=by
 have e:be 1 1 ++ (be 1 0 ++ (be 2 n.2.2.2.2.length ++ (be 2 0 ++ zs 2)))=hdO n:=by
  unfold hdO;rw [show be 2 0=zs 2 by decide,Zb7]; rfl
 unfold Q44.f;rw [show Q36.f k 1 0 (n.2.2.2.2.length:Int) 0=_ from Zia (a:=1) (b:=0) (e:=0) (by omega) (by omega) (by omega) (by omega) (by omega),bS,e,show Q44.l0 k c n (toB (hdO n)) 0=_ from Zdl hc hr hl n.2.2.2.2.length 0 k _ (by omega) (by omega) (by rw [Z5,Zgb]; omega),List.drop_zero,<- Xn];rfl
theorem Bl {c:Cfg} {n:Nd} (hc:OkC c) (hr:∀ m∈n.2.2.2.1,m.1.length<=cK c/\m.2.2.length<=cV c) (hl:n.2.2.2.1.length<=2000):∀(m i k:Nat) (x:TZ),n.2.2.2.1.length=i+m->m+20<k->x.length+m*400<=8000000->Q43.l2 k c n x (i:Int)=some (x ++ toB (cat (msS (cK c) (cV c)) (n.2.2.2.1.drop i)))
 | 0,i,k+1,x,h,hk,hx=>by
  rw [Q43.l2,iN,dN];simp [cat,toB]
 | m+1,i,k+1,x,h,hk,hx=>by
  obtain ⟨c1,c2,c3,c4,c5,c6,c7,c8,c9⟩:=hc.nat
  have hi:i<n.2.2.2.1.length:=by omega
  have hp:=hr _ (Gg (d:=default) hi);rw [Q43.l2,iP,iO,Yo]; (try rw [Uy]); rw [show Q37.f k x 1 2=_ from V7 (w:=1) (v:=2) (.inl rfl) (by omega) (by omega),show Q37.f k x 1 1=_ from V7 (w:=1) (v:=1) (.inl rfl) (by omega) (by omega),bS,bS,
   Zhg hc (by rw [lA,Z5,Y5]; omega) hp.1 hp.2 (by omega),Zhg hc (by rw [lA,Z5,Y5]; omega) hp.1 hp.2 (by omega),bS,bS,wS2,
   Bl hc hr hl m (i+1) k _ (by omega) (by omega) (by rw [lA,lA,Z5,Z5,Y5,Jx hp.1 hp.2]; omega),Bl hc hr hl m (i+1) k _ (by omega) (by omega) (by rw [lA,lA,Z5,Z5,Y5,Jx hp.1 hp.2]; omega),Y1 hi,Gb]
  unfold msS;cases (n.2.2.2.1.getD i default).2.1
  ·rw [vS,vS,show be 1 1=[1] by decide,Xn,append_assoc,append_assoc]; rfl
  ·rw [iT rfl,iT rfl,show be 1 2=[2] by decide,Xn,append_assoc,append_assoc]; rfl
theorem Zkx (K:Nat):pvS K []=zs (1+K):=by
 unfold pvS slt;rw [show be 1 ([]:List UInt8).length=zs 1 by decide,List.nil_append,Zb7]; rfl
theorem Zbv {c:Cfg} {n:Nd} (hc:OkC c) (hr:∀ m∈n.2.2.2.1,m.1.length<=cK c/\m.2.2.length<=cV c) (hl:n.2.2.2.1.length<=2000):∀(m i k:Nat) (x:TZ),cFa c - 1=i+m->n.2.2.1.length<=i->m+2100<k->x.length+m*400<=7000000->Q43.l1 k c n x (i:Int)=some (x ++ toB (zs ((1+cK c)*m) ++ cat (msS (cK c) (cV c)) n.2.2.2.1))
 | 0,i,k+1,x,h,hz,hk,hx=>by
  replace hx:x.length<=7000000:=by simpa using hx
  obtain ⟨c1,c2,c3,c4,c5,c6,c7,c8,c9⟩:=hc.nat
  have e:w64 (c.2.2.2.1 - 1)=((cFa c - 1:Nat):Int):=by rw [hc.int.f,wI2]; omega
  rw [Q43.l1,e,iN,show Q43.l2 k c n x 0=_ from Bl hc hr hl n.2.2.2.1.length 0 k x (by omega) (by omega) (by omega),List.drop_zero];simp [zs]
 | m+1,i,k+1,x,h,hz,hk,hx=>by
  obtain ⟨c1,c2,c3,c4,c5,c6,c7,c8,c9⟩:=hc.nat
  have e:w64 (c.2.2.2.1 - 1)=((cFa c - 1:Nat):Int):=by rw [hc.int.f,wI2]; omega
  have hp:(pvS (cK c) []).length=1+cK c:=Zcf (Nat.zero_le _);rw [Q43.l1,e,iP,iN,show uH.wrap ((([]:List UInt8).length:Nat):Int)=((0:Nat):Int) from rfl,show Q37.f k x 1 ((0:Nat):Int)=_ from V7 (w:=1) (.inl rfl) (by omega) (by omega),bS,hc.int.k,Zd1 (by rw [lA,Z5,Y5]; omega) (Nat.zero_le _) (by omega),bS,wS2];have e2:(x ++ toB (be 1 0)) ++ toB (slt [] (cK c))=x ++ toB (zs (1+cK c)):=by
   rw [append_assoc,<- Xn,<- Zkx]; rfl
  rw [e2,Zbv hc hr hl m (i+1) k _ (by omega) (by omega) (by omega) (by rw [lA,Z5,U1]; omega),append_assoc,<- Xn,<- append_assoc (zs (1+cK c)),Zb7,show 1+cK c+(1+cK c)*m=(1+cK c)*(m+1) by rw [Nat.mul_add]; omega]
theorem Zdg {c:Cfg} {n:Nd} (hc:OkC c) (hp:∀ p∈n.2.2.1,p.length<=cK c) (hpl:n.2.2.1.length<=cFa c - 1) (hr:∀ m∈n.2.2.2.1,m.1.length<=cK c/\m.2.2.length<=cV c) (hl:n.2.2.2.1.length<=2000):∀(m i k:Nat) (x:TZ),n.2.2.1.length=i+m->m+2300<k->x.length+m*400<=6000000->Q43.l1 k c n x (i:Int)=some (x ++ toB (cat (pvS (cK c)) (n.2.2.1.drop i) ++ (zs ((1+cK c)*(cFa c - 1 - n.2.2.1.length)) ++ cat (msS (cK c) (cV c)) n.2.2.2.1)))
 | 0,i,k,x,h,hk,hx=>by
  replace hx:x.length<=6000000:=by simpa using hx
  obtain ⟨c1,c2,c3,c4,c5,c6,c7,c8,c9⟩:=hc.nat
  rw [Zbv hc hr hl (cFa c - 1 - n.2.2.1.length) i k x (by omega) (by omega) (by omega) (by omega),dN];simp [cat]
 | m+1,i,k+1,x,h,hk,hx=>by
  obtain ⟨c1,c2,c3,c4,c5,c6,c7,c8,c9⟩:=hc.nat
  have hi:i<n.2.2.1.length:=by omega
  have hpi:=hp _ (Gg (d:=default) hi);have e:w64 (c.2.2.2.1 - 1)=((cFa c - 1:Nat):Int):=by rw [hc.int.f,wI2]; omega
  rw [Q43.l1,e,iP,iP,iO,Yo,W7,show Q37.f k x 1 (((n.2.2.1.getD i default).length:Nat):Int)=_ from V7 (w:=1) (.inl rfl) (by omega) (by omega),bS,hc.int.k,Zd1 (by rw [lA,Z5,Y5]; omega) hpi (by omega),bS,wS2];have e2:(x ++ toB (be 1 (n.2.2.1.getD i default).length)) ++ toB (slt (n.2.2.1.getD i default) (cK c))=x ++ toB (pvS (cK c) (n.2.2.1.getD i default)):=by
   rw [append_assoc,<- Xn]; rfl
  rw [e2,Zdg hc hp hpl hr hl m (i+1) k _ (by omega) (by omega) (by rw [lA,Z5,Zcf hpi]; omega),append_assoc,<- Xn,Y1 hi,Gb,append_assoc]
def Zg7 (c:Cfg) (n:Nd):List UInt8:=cat (pvS (cK c)) n.2.2.1 ++ (zs ((1+cK c)*(cFa c - 1 - n.2.2.1.length)) ++ cat (msS (cK c) (cV c)) n.2.2.2.1)
theorem Zb9 {c:Cfg} {n:Nd} (hc:OkC c) (hp:∀ p∈n.2.2.1,p.length<=cK c) (hpl:n.2.2.1.length<=cFa c - 1) (hr:∀ m∈n.2.2.2.1,m.1.length<=cK c/\m.2.2.length<=cV c) (hl:n.2.2.2.1.length<=2000):∀(m i k:Nat) (x:TZ),cFa c=i+m->n.2.1.length<=i->m+2500<k->x.length+m*400<=5000000->Q43.l0 k c n x (i:Int)=some (x ++ toB (zs (4*m) ++ Zg7 c n))
 | 0,i,k+1,x,h,hz,hk,hx=>by
  replace hx:x.length<=5000000:=by simpa using hx
  obtain ⟨c1,c2,c3,c4,c5,c6,c7,c8,c9⟩:=hc.nat
  rw [Q43.l0,hc.int.f,iN,show Q43.l1 k c n x 0=_ from Zdg hc hp hpl hr hl n.2.2.1.length 0 k x (by omega) (by omega) (by omega),List.drop_zero];simp [zs,Zg7]
 | m+1,i,k+1,x,h,hz,hk,hx=>by
  obtain ⟨c1,c2,c3,c4,c5,c6,c7,c8,c9⟩:=hc.nat
  rw [Q43.l0,hc.int.f,iP,iN,show Q37.f k x 4 0=_ from V7 (w:=4) (v:=0) (.inr (.inr rfl)) (by omega) (by omega),bS,wS2,show be 4 0=zs 4 by decide,
   Zb9 hc hp hpl hr hl m (i+1) k _ (by omega) (by omega) (by omega) (by rw [lA,Z5,U1]; omega),append_assoc,<- Xn,<- append_assoc (zs 4),Zb7,show 4+4*m=4*(m+1) by omega]
theorem Zdb {c:Cfg} {n:Nd} (hc:OkC c) (hkd:∀ x∈n.2.1,0<=x/\x<4294967296) (hkl:n.2.1.length<=cFa c) (hp:∀ p∈n.2.2.1,p.length<=cK c) (hpl:n.2.2.1.length<=cFa c - 1) (hr:∀ m∈n.2.2.2.1,m.1.length<=cK c/\m.2.2.length<=cV c) (hl:n.2.2.2.1.length<=2000):∀(m i k:Nat) (x:TZ),n.2.1.length=i+m->m+2700<k->x.length+m*400<=4000000->Q43.l0 k c n x (i:Int)=some (x ++ toB (cat kdS (n.2.1.drop i) ++ (zs (4*(cFa c - n.2.1.length)) ++ Zg7 c n)))
 | 0,i,k,x,h,hk,hx=>by
  replace hx:x.length<=4000000:=by simpa using hx
  obtain ⟨c1,c2,c3,c4,c5,c6,c7,c8,c9⟩:=hc.nat
  rw [Zb9 hc hp hpl hr hl (cFa c - n.2.1.length) i k x (by omega) (by omega) (by omega) (by omega),dN];simp [cat]
 | m+1,i,k+1,x,h,hk,hx=>by
  obtain ⟨c1,c2,c3,c4,c5,c6,c7,c8,c9⟩:=hc.nat
  have hi:i<n.2.1.length:=by omega
  have hki:=hkd _ (Gg (d:=default) hi);obtain ⟨q,hq⟩:=Int.eq_ofNat_of_zero_le hki.1;rw [Q43.l0,hc.int.f,iP,iP,iO,Yo,hq,W7,show Q37.f k x 4 (q:Int)=_ from V7 (w:=4) (.inr (.inr rfl)) (by omega) (by omega),bS,wS2];have e2:be 4 q=kdS (n.2.1.getD i default):=by unfold kdS; rw [hq]; rfl
  rw [e2,Zdb hc hkd hkl hp hpl hr hl m (i+1) k _ (by omega) (by omega) (by rw [lA,Z5,show (kdS (n.2.1.getD i default)).length=4 from Y5 _ _]; omega),append_assoc,<- Xn,Y1 hi,Gb,append_assoc]
theorem Zko {c:Cfg} {n:Nd} (hc:OkC c) (hn:FitN c n) (h0:n.1≠0) {k:Nat} (hk:3000<k):Q43.f k c n=some (toB (hdI n ++ bdI c n)):=by
 obtain ⟨c1,c2,c3,c4,c5,c6,c7,c8,c9⟩:=hc.nat
 obtain ⟨a1,a2,a3,a4,a5⟩:=hn.i h0;have hlv:=hn.lv;obtain ⟨lv,hl⟩:=Int.eq_ofNat_of_zero_le hlv.1;have e:be 1 2 ++ (be 1 lv ++ (be 2 n.2.1.length ++ (be 2 n.2.2.2.1.length ++ zs 2)))=hdI n:=by
  unfold hdI;rw [hl,tN]; rfl
 unfold Q43.f;rw [hl,show Q36.f k 2 (lv:Int) (n.2.1.length:Int) (n.2.2.2.1.length:Int)=_ from Zia (a:=2) (by omega) (by omega) (by omega) (by omega) (by omega),bS,e,show Q43.l0 k c n (toB (hdI n)) 0=_ from Zdb hc hn.kd (by omega) hn.pk (by omega) hn.ms (by omega) n.2.1.length 0 k _ (by omega) (by omega) (by rw [Z5,Zfz]; omega),List.drop_zero,<- Xn];rfl
theorem Zcp {c:Cfg} {n:Nd} (hok:okB c=true) (hn:FitN c n):(Bj c n).length<=cBy c/\cBy c<=65536/\c.2.1=(cBy c:Int):=by
 simp only [okB,Bool.and_eq_true,dE] at hok;obtain ⟨h1,h2,h3,h4,h5,h6⟩:=hok;have hc:=Jy h1;obtain ⟨c1,c2,c3,c4,c5,c6,c7,c8,c9⟩:=hc.nat
 have hi:=hc.int;have hB:c.2.1=(cBy c:Int):=by unfold cBy; omega
 refine ⟨?_,by omega,hB⟩;unfold Bj;by_cases h0:n.1=0
 ·rw [iT h0,lA,Zgb,Zkj hn];have hl:=(hn.o h0).2.2.2;have hm:n.2.2.2.2.length*(3+cK c+cV c)<=cLe c*(3+cK c+cV c):=Nat.mul_le_mul_right _ hl;have:Uz c=((8+cLe c*(3+cK c+cV c):Nat):Int):=by
   unfold Uz;rw [hi.l,hi.k,hi.v]
   push_cast
   rfl
  omega
 ·rw [iF h0,lA,Zfz,Zkv hn h0];have hl:=(hn.i h0).2.2.2.2;have hm:n.2.2.2.1.length*(4+cK c+cV c)<=cBu c*(4+cK c+cV c):=Nat.mul_le_mul_right _ hl;have:Un c=((8+(4+(cFa c - 1)*(5+cK c)+cBu c*(4+cK c+cV c)):Nat):Int):=by
   unfold Un;rw [hi.f,hi.b,hi.k,hi.v];have:((cFa c:Int) - 1)=((cFa c - 1:Nat):Int):=by omega
   rw [this]
   push_cast
   rfl
  have e2:(cFa c - 1)*(5+cK c)=4*(cFa c - 1)+(1+cK c)*(cFa c - 1):=by
   rw [show 5+cK c=4+(1+cK c) by omega,Nat.mul_add,Nat.mul_comm _ 4,Nat.mul_comm (cFa c - 1) (1+cK c)]
  omega
theorem Zc5 {c:Cfg} {n:Nd} (hc:OkC c) (hkd:∀ x∈n.2.1,0<=x/\x<4294967296) (h:Vd c Bq n=true):FitN c n:=by
 have hi:=hc.int;unfold Vd at h;by_cases h0:n.1=0
 ·rw [iT h0] at h;simp only [Zg1,prB,Vl,Bool.and_eq_true,dE,List.all_eq_true] at h;obtain ⟨a1,a2,a3,a4,a5,a6⟩:=h;refine ⟨by omega,hkd,fun _=>⟨a2,a3,a4,by have:=hi.l; omega⟩,fun z=>absurd h0 z,fun p hp=>by rw [a3] at hp; simp at hp,fun p hp=>by rw [a4] at hp; simp at hp,fun p hp=>?_⟩;have:=a1 p hp;have hk:=hi.k;have hv:=hi.v;exact ⟨by omega,by omega⟩
 ·rw [iF h0] at h;simp only [Zgh,Zhn,Zhf,Zbl,Vl,Bool.and_eq_true,dE,List.all_eq_true] at h;obtain ⟨b0,b1,b2,b3,b4,b5,b6,b7,b8,b9,b10,b11⟩:=h;have hk:=hi.k;have hv:=hi.v;have hf:=hi.f;have hb:=hi.b;exact ⟨by omega,hkd,fun z=>absurd z h0,fun _=>⟨b5,b6,by omega,by omega,by omega⟩,fun p hp=>by have:=b2 p hp; omega,fun p hp=>by have:=b3 p hp; omega,fun p hp=>by rw [b5] at hp; simp at hp⟩
def Zgt (c:Cfg) (n:Nd):List Int×Int:=if okB c=true then (if Vd c Bq n=true then (toB (U8 c n),0) else ([],3)) else ([],2)
theorem Zgs {c:Cfg} (h:okB c=true):OkC c:=by
 simp only [okB,Bool.and_eq_true] at h;exact Jy h.1
theorem Znd {c:Cfg} {n:Nd} (h1:n.2.1.length<=80) (h2:n.2.2.1.length<=80) (h3:n.2.2.2.1.length<=2000) (h4:n.2.2.2.2.length<=2000) (hl:∀ x∈n.2.1,0<=x/\x<4294967296):Ev (fun k=>Q35.f k c n) (Zgt c n):=by
 have hbig:Ev (fun k=>if 10000<k then some () else none) ():=⟨10001,fun k hk=>iO⟩
 refine (Zhm (c:=c) (s:=Bq) h1 h2 (by omega) (by omega) hl).next2 hbig fun k k1 k2=>?_;have k2:10000<k:=by
  by_cases z:10000<k
  ·exact z
  ·rw [iF z] at k2; cases k2
 unfold Q35.f Zgt
 (try rw [Uy]); (try rw [Zne]); rw [Zb1,bS]
 cases hok:okB c with
 | false=>rfl
 | true=>
  have hc:=Zgs hok;rw [iT rfl,vS,iT rfl,Q59.f,bS,show Q66.f k c (([]:List UInt8),([]:List UInt8),true) n=_ from k1,bS];cases hr:Vd c Bq n with
  | false=>rfl
  | true=>
   have hn:=Zc5 hc hl hr;obtain ⟨r1,r2,r3⟩:=Zcp hok hn;rw [vS,iT rfl];by_cases h0:n.1=0
   ·have er:Bj c n=hdO n ++ bdO c n:=iT h0;have e:w64 ((cBy c:Int) - ((hdO n ++ bdO c n).length:Int))=((cBy c - (Bj c n).length:Nat):Int):=by rw [<- er,wI2]; omega
    rw [iN,Zk6 hc hn.rk h4 (by omega),bS,Z5,r3,e,iT (by rw [<- er]; omega),tN,<- Zer,<- Xn];unfold U8 slt;rw [er]
   ·have hlv:=hn.lv;have er:Bj c n=hdI n ++ bdI c n:=iF h0;have e:w64 ((cBy c:Int) - ((hdI n ++ bdI c n).length:Int))=((cBy c - (Bj c n).length:Nat):Int):=by rw [<- er,wI2]; omega
    rw [iP,Zko hc hn h0 (by omega),bS,Z5,r3,e,iT (by rw [<- er]; omega),tN,<- Zer,<- Xn];unfold U8 slt;rw [er]
def rbS (s:TQ) (n:Nat):List UInt8×TQ:=if s.2=0 then (if s.1.length<n then ([],([],5)) else (s.1.take n,(s.1.drop n,0))) else ([],s)
def iS (s:TQ):List Int×Int:=(toB s.1,s.2)
def spS (s:TQ) (x:Int):List UInt8×Int:=([],if s.2=0 then x else s.2)
theorem Zeu (a:TV) (n:Nat):(toB a).take n=toB (a.take n):=by simp [toB,List.map_take]
theorem Zd4 (a:TV) (n:Nat):(toB a).drop n=toB (a.drop n):=by simp [toB,List.map_drop]
theorem B6 (s:TQ) (x:Int):Q160.f ((iS s).1,(iS s).2) x=some (iS (spS s x)):=by
 unfold Q160.f iS spS;by_cases h:s.2=0 <;> simp [h,toB]
theorem Zju (s:TQ) {n:Nat} (hn:n<=100000):Q155.f (iS s) (n:Int)=some (toB (rbS s n).1,iS (rbS s n).2):=by
 unfold Q155.f;rw [B6,B6,bS,bS];unfold rbS iS spS;by_cases h:s.2=0
 ·rw [iF (by simp [h]),vS,iT h];by_cases h2:s.1.length<n
  ·rw [iT (dT (by rw [Z5]; omega)),iT h2];simp [h,toB]
  ·rw [iF (by simp only [Z5,dE]; omega),iF h2,iO,iT (by rw [Z5]; omega),tN];have:patch (List.replicate n (0:Int)) 0 (List.replicate n (0:Int)).length (toB s.1)=toB (s.1.take n):=by
    unfold patch;rw [length_replicate,Z5,show 0+min n s.1.length=n by omega,drop_eq_nil_of_le (by simp),List.take_zero,List.nil_append,List.append_nil,Zeu]
   rw [this,Zd4,h];simp
 ·rw [iT (by simp [h]),iF h];rfl
def Zw (s:TQ) (w:Nat):Nat×TQ:=(rdv (rbS s w).1,(rbS s w).2)
theorem Zad (s:TQ) (n:Nat):(rbS s n).1.length<=n:=by
 unfold rbS;split
 ·split
  ·exact Nat.zero_le _
  ·rw [length_take]; omega
 ·exact Nat.zero_le _
theorem Vc (s:TQ) (w:Nat):(Zw s w).1<256 ^ w:=Nat.lt_of_lt_of_le (Zfc _) (Nat.pow_le_pow_right (by omega) (Zad s w))
theorem Zjc (l:TV) (c:UInt8):rdv (l ++ [c])=rdv l*256+c.toNat:=by
 unfold rdv;rw [List.foldl_append]; rfl
theorem orb {x c:Nat} (hx:x<4294967296) (hc:c<256):uH.wrap (((ofInt uH.bits (uH.wrap ((x:Int)*2 ^ 8)) ||| (ofInt uH.bits (uH.wrap (c:Int)))).toNat:Int))=((x*256+c:Nat):Int):=by
 have e1:(x:Int)*2 ^ 8=((x*256:Nat):Int):=by omega
 rw [e1,W7 (n:=x*256) (by omega),W7 (n:=c) (by omega)];have e2:(ofInt uH.bits ((x*256:Nat):Int) ||| ofInt uH.bits (c:Int)).toNat=x*256+c:=by
  show (ofInt 64 ((x*256:Nat):Int) ||| ofInt 64 (c:Int)).toNat=x*256+c;rw [BitVec.toNat_or,BitVec.ofInt_natCast,BitVec.ofInt_natCast,BitVec.toNat_ofNat,BitVec.toNat_ofNat,Nat.mod_eq_of_lt (by omega),Nat.mod_eq_of_lt (by omega)];have:=Nat.shiftLeft_add_eq_or_of_lt (i:=8) (b:=c) hc x;rw [Nat.shiftLeft_eq] at this;rw [show x*256=x*2 ^ 8 from rfl,<- this]
 rw [e2,W7]
theorem Zhp (l:TV) (st:TU) (hl:l.length<=4):∀(m i k:Nat),l.length=i+m->m<k->Q154.l0 k (toB l,st) ((rdv (l.take i):Nat):Int) (i:Int)=some (((rdv l:Nat):Int),st)
 | 0,i,k+1,h,_=>by
  rw [Q154.l0,iF (by simp only [Z5,dE]; omega),tO]
 | m+1,i,k+1,h,hk=>by
  have hi:i<l.length:=by omega
  have hv:=Zfc (l.take i);have hv2:256 ^ (l.take i).length<=256 ^ 3:=Nat.pow_le_pow_right (by omega) (by rw [length_take]; omega);have e:gt (toB l) (i:Int)=(((l[i]'hi).toNat:Nat):Int):=by
   rw [Yo,List.getD_eq_getElem?_getD];simp [toB,hi]
  have hc:=(l[i]'hi).toNat_lt;rw [Q154.l0,iT (dT (by rw [Z5]; omega)),iT (by rw [Z5]; omega),e,orb (by omega) (by omega),wS2,<- Zjc];have:=Zhp l st hl m (i+1) k (by omega) (by omega);rw [List.take_add_one,List.getElem?_eq_getElem hi] at this;exact this
theorem Uq (s:TQ) {w:Nat} (hw:w=1\/w=2\/w=4) {k:Nat} (hk:10<k):Q154.f k ((iS s).1,(iS s).2) (w:Int)=some (((Zw s w).1:Int),((iS (Zw s w).2).1,(iS (Zw s w).2).2)):=by
 unfold Q154.f Q161.f;have hr:(if (decide ((w:Int)=1))=true then (some true) else (if (decide ((w:Int)=2))=true then (some true) else (if (decide ((w:Int)=4))=true then (some true) else (some (decide ((w:Int)=8))))))=some true:=by
  rcases hw with rfl | rfl | rfl <;> rfl
 have hl:=Zad s w;rw [hr,bS,vS,show Q155.f ((iS s).1,(iS s).2) (w:Int)=_ from Zju s (by omega),bS];have:=Zhp (rbS s w).1 (iS (rbS s w).2) (by omega) (rbS s w).1.length 0 k (by omega) (by omega);exact this
def nzS (l:TV):Bool:=l.any fun x=>!decide (x=0)
theorem Zh5 (l:TV):((toB l).any fun x=>!decide (x=0))=nzS l:=by
 unfold nzS toB;rw [List.any_map];congr 1;funext x;have:((x.toNat:Int)=0)↔x=0:=by
  constructor
  ·intro h;have h2:x.toNat=0:=by omega
   exact UInt8.toNat_inj.1 (by simpa using h2)
  ·rintro rfl; rfl
 simp only [Function.comp,this]
theorem Zlj (l:TV) {k:Nat} (hl:l.length<=10000) (hk:l.length<k):Q95.f k (toB l)=some (nzS l):=by
 obtain ⟨r,h1,h2⟩:=V8 (l:=toB l) (F:=fun k i=>Q101.l0 k (toB l) i) (p:=fun x:Int=>!decide (x=0)) (by rw [Z5]; omega) (fun k i=>by
  show Q101.l0 (k+1) (toB l) i=_;rw [Q101.l0,Q159.f,bS]) (toB l).length 0 k (by omega) (by rw [Z5]; exact hk)
 unfold Q95.f Q101.f;rw [show Q101.l0 k (toB l) 0=_ from h1,bS,h2,List.drop_zero,Zh5]
theorem Zm4 (l:TV) {k:Nat} (hl:l.length<=10000) (hk:l.length<k):Q94.f k (toB l)=some (nzS l):=by
 obtain ⟨r,h1,h2⟩:=V8 (l:=toB l) (F:=fun k i=>Q100.l0 k (toB l) i) (p:=fun x:Int=>!decide (x=0)) (by rw [Z5]; omega) (fun k i=>by
  show Q100.l0 (k+1) (toB l) i=_;rw [Q100.l0,Q157.f,bS]) (toB l).length 0 k (by omega) (by rw [Z5]; exact hk)
 unfold Q94.f Q100.f;rw [show Q100.l0 k (toB l) 0=_ from h1,bS,h2,List.drop_zero,Zh5]
def U9 (s:TQ) (n:Nat):List UInt8×Int:=if nzS (rbS s n).1=true then spS (rbS s n).2 3 else (rbS s n).2
theorem Zk7 (s:TQ) {n:Nat} (hn:n<=100) {k:Nat} (hk:1000<k):Q158.f k ((iS s).1,(iS s).2) (n:Int)=some ((iS (U9 s n)).1,(iS (U9 s n)).2):=by
 have hl:=Zad s n;unfold Q158.f U9;rw [show Q155.f ((iS s).1,(iS s).2) (n:Int)=_ from Zju s (by omega),bS,Zlj _ (by omega) (by omega),bS];cases nzS (rbS s n).1
 ·rfl
 ·rw [iT rfl,iT rfl,B6,bS]
def V1 (s:TQ) (n most:Nat):List UInt8×TQ:=if most<n then ([],spS s 2) else if (rbS s most).1.length<most then ([],(rbS s most).2) else if nzS ((rbS s most).1.drop n)=true then ([],spS (rbS s most).2 3) else ((rbS s most).1.take n,(rbS s most).2)
theorem Zd7 (s:TQ) (n:Nat) {most:Nat} (hm:most<=1000) {k:Nat} (hk:2000<k):Q156.f k ((iS s).1,(iS s).2) (n:Int) (most:Int)=some ((V1 s n most).1,((iS (V1 s n most).2).1,(iS (V1 s n most).2).2)):=by
 have hl:=Zad s most;unfold Q156.f V1;rw [vS,show Q155.f ((iS s).1,(iS s).2) (most:Int)=_ from Zju s (by omega),B6,bS,bS];by_cases h1:most<n
 ·rw [iP,iT h1]
 ·rw [iN,iF h1];dsimp only;by_cases h2:(rbS s most).1.length<most
  ·rw [iT (dT (by rw [Z5]; omega)),iT h2]
  ·rw [iF (by simp only [Z5,dE]; omega),iF h2,iT (by rw [Z5]; omega),tN,Zd4,Zm4 _ (by rw [length_drop]; omega) (by rw [length_drop]; omega),bS];cases nzS ((rbS s most).1.drop n)
   ·rw [vS,iT (by rw [Z5]; omega),vS,Zeu,Zcr]
   ·rw [iT rfl,iT rfl,B6,bS]
def Vi (c:Cfg) (s:TQ):Pr×TQ:=
 let k:=Zw s 1
 let v:=Zw k.2 2
 let x:=V1 v.2 k.1 (cK c)
 let y:=V1 x.2 v.1 (cV c)
 ((x.1,y.1),y.2)
theorem Ziz {c:Cfg} (hc:OkC c) (s:TQ) {k:Nat} (hk:2000<k):Q41.f k c ((iS s).1,(iS s).2)=some ((Vi c s).1.1,(Vi c s).1.2,((iS (Vi c s).2).1,(iS (Vi c s).2).2)):=by
 obtain ⟨c1,c2,c3,c4,c5,c6,c7,c8,c9⟩:=hc.nat
 have l1:=Vc s 1;have l2:=Vc (Zw s 1).2 2;unfold Q41.f Vi;rw [show Q154.f k ((iS s).1,(iS s).2) 1=_ from Uq s (w:=1) (.inl rfl) (by omega),bS,show Q154.f k _ 2=_ from Uq (Zw s 1).2 (w:=2) (.inr (.inl rfl)) (by omega),bS];dsimp only;rw [wI2 (x:=((Zw s 1).1:Int)),wI2 (x:=((Zw (Zw s 1).2 2).1:Int)),hc.int.k,hc.int.v,Zd7 _ _ (by omega) (by omega),bS];dsimp only;rw [Zd7 _ _ (by omega) (by omega),bS]
def Gw (c:Cfg):Nat->List UInt8×Int->List Pr->List Pr×TQ
 | 0,s,acc=>(acc,s)
 | m+1,s,acc=>Gw c m (Vi c s).2 (acc ++ [(Vi c s).1])
theorem Zed {c:Cfg} (hc:OkC c) (cnt:Nat):∀(m i k:Nat) (s:TQ) (acc:List Pr),min (cLe c) cnt=i+m->m+2100<k->acc.length+m<=5000->Q40.l0 k c (cnt:Int) (iS s).1 (iS s).2 acc (i:Int)=some ((0,([]:List Int),([]:List TV),([]:List Msg),(Gw c m s acc).1),((iS (Gw c m s acc).2).1,(iS (Gw c m s acc).2).2))
 | 0,i,k+1,s,acc,h,hk,ha=>by
  have hi:=hc.int;rw [Q40.l0,hi.l,iF (by simp only [dE]; split <;> omega)];rfl
 | m+1,i,k+1,s,acc,h,hk,ha=>by
  obtain ⟨c1,c2,c3,c4,c5,c6,c7,c8,c9⟩:=hc.nat
  have hi:=hc.int;rw [Q40.l0]; (try rw [Uy]); rw [hi.l,iT (dT (by split <;> omega)),Ziz hc s (by omega),bS,iT (by simp only [List.length_singleton]; omega),wS2]
  exact Zed hc cnt m (i+1) k (Vi c s).2 (acc ++ [(Vi c s).1]) (by omega) (by omega) (by simp; omega)
def Vb:Nat->Nat->Nat->List UInt8×Int->List Int->List Int×TQ
 | 0,_,_,s,acc=>(acc,s)
 | m+1,i,cnt,s,acc=>Vb m (i+1) cnt (Zw s 4).2 (if i<cnt then acc ++ [((Zw s 4).1:Int)] else acc)
def Wq (c:Cfg):Nat->Nat->Nat->List UInt8×Int->List TV->List TV×TQ
 | 0,_,_,s,acc=>(acc,s)
 | m+1,i,cnt,s,acc=>Wq c m (i+1) cnt (V1 (Zw s 1).2 (Zw s 1).1 (cK c)).2 (if i+1<cnt then acc ++ [(V1 (Zw s 1).2 (Zw s 1).1 (cK c)).1] else acc)
def W2 (c:Cfg):Nat->List UInt8×Int->List Msg->List Msg×TQ
 | 0,s,acc=>(acc,s)
 | m+1,s,acc=>W2 c m (Vi c (Zw s 1).2).2 (acc ++ [((Vi c (Zw s 1).2).1.1,decide (((Zw s 1).1:Int)=2),(Vi c (Zw s 1).2).1.2)])
theorem Zf6 {c:Cfg} (hc:OkC c) (lv:Int) (bf:Nat) (ks:TZ) (ps:TO):∀(m i k:Nat) (s:TQ) (acc:List Msg),min (cBu c) bf=i+m->m+2100<k->acc.length+m<=5000->Q39.l2 k c lv (bf:Int) ks ps (iS s).1 (iS s).2 acc (i:Int)=some ((lv,ks,ps,(W2 c m s acc).1,([]:List Pr)),((iS (W2 c m s acc).2).1,(iS (W2 c m s acc).2).2))
 | 0,i,k+1,s,acc,h,hk,ha=>by
  have hi:=hc.int;rw [Q39.l2,hi.b,iF (by simp only [dE]; split <;> omega)];rfl
 | m+1,i,k+1,s,acc,h,hk,ha=>by
  obtain ⟨c1,c2,c3,c4,c5,c6,c7,c8,c9⟩:=hc.nat
  have hi:=hc.int;rw [Q39.l2]; (try rw [Uy]); rw [hi.b,iT (dT (by split <;> omega)),show Q154.f k ((iS s).1,(iS s).2) 1=_ from Uq s (w:=1) (.inl rfl) (by omega),bS]
  dsimp only;rw [Ziz hc _ (by omega),bS,iT (by simp only [List.length_singleton]; omega),wS2];exact Zf6 hc lv bf ks ps m (i+1) k _ _ (by omega) (by omega) (by simp; omega)
theorem Zcq {c:Cfg} (hc:OkC c) (lv:Int) (cnt bf:Nat) (hcnt:cnt<=100000) (ks:TZ):∀(m i k:Nat) (s:TQ) (acc:TO),cFa c - 1=i+m->m+3200<k->acc.length+m<=5000->
  Q39.l1 k c lv (cnt:Int) (bf:Int) ks (iS s).1 (iS s).2 acc (i:Int)=some ((lv,ks,(Wq c m i cnt s acc).1,(W2 c (min (cBu c) bf) (Wq c m i cnt s acc).2 []).1,([]:List Pr)),((iS (W2 c (min (cBu c) bf) (Wq c m i cnt s acc).2 []).2).1,(iS (W2 c (min (cBu c) bf) (Wq c m i cnt s acc).2 []).2).2))
 | 0,i,k+1,s,acc,h,hk,ha=>by
  obtain ⟨c1,c2,c3,c4,c5,c6,c7,c8,c9⟩:=hc.nat
  have hi:=hc.int;rw [Q39.l1,hi.f,wI2 (x:=(cFa c:Int) - 1),iN];exact Zf6 hc lv bf ks acc (min (cBu c) bf) 0 k s [] (by omega) (by omega) (by simp; omega)
 | m+1,i,k+1,s,acc,h,hk,ha=>by
  obtain ⟨c1,c2,c3,c4,c5,c6,c7,c8,c9⟩:=hc.nat
  have hi:=hc.int;have l1:=Vc s 1;rw [Q39.l1,hi.f,wI2 (x:=(cFa c:Int) - 1),iP,show Q154.f k ((iS s).1,(iS s).2) 1=_ from Uq s (w:=1) (.inl rfl) (by omega),bS];dsimp only;rw [wI2 (x:=((Zw s 1).1:Int)),hi.k,Zd7 _ _ (by omega) (by omega),bS,wS2];dsimp only;by_cases q:i+1<cnt
  ·rw [iP,iT (by simp only [List.length_singleton]; omega)];have:=Zcq hc lv cnt bf hcnt ks m (i+1) k (V1 (Zw s 1).2 (Zw s 1).1 (cK c)).2 (acc ++ [(V1 (Zw s 1).2 (Zw s 1).1 (cK c)).1]) (by omega) (by omega) (by simp; omega);rw [this,Wq,iT q]
  ·rw [iN];have:=Zcq hc lv cnt bf hcnt ks m (i+1) k (V1 (Zw s 1).2 (Zw s 1).1 (cK c)).2 acc (by omega) (by omega) (by omega);rw [this,Wq,iF q]
def Zmb (c:Cfg) (lv:Int) (cnt bf:Nat) (s:TQ):Nd×TQ:=
 let a:=Vb (cFa c) 0 cnt s []
 let b:=Wq c (cFa c - 1) 0 cnt a.2 []
 let d:=W2 c (min (cBu c) bf) b.2 []
 ((lv,a.1,b.1,d.1,[]),d.2)
theorem Zlq {n:Nat} (h:n<4294967296):uD.wrap (n:Int)=(n:Int):=by
 have:uD.wrap (n:Int)=((n % 4294967296:Nat):Int):=by simp [IntKind.wrap,IntKind.bits,IntKind.signed]
 rw [this,Nat.mod_eq_of_lt h]
theorem Zcl {c:Cfg} (hc:OkC c) (lv:Int) (cnt bf:Nat) (hcnt:cnt<=100000):∀(m i k:Nat) (s:TQ) (acc:TZ),cFa c=i+m->m+4000<k->acc.length+m<=5000->
  Q39.l0 k c lv (cnt:Int) (bf:Int) (iS s).1 (iS s).2 acc (i:Int)=some ((lv,(Vb m i cnt s acc).1,(Wq c (cFa c - 1) 0 cnt (Vb m i cnt s acc).2 []).1,(W2 c (min (cBu c) bf) (Wq c (cFa c - 1) 0 cnt (Vb m i cnt s acc).2 []).2 []).1,([]:List Pr)),((iS (W2 c (min (cBu c) bf) (Wq c (cFa c - 1) 0 cnt (Vb m i cnt s acc).2 []).2 []).2).1,(iS (W2 c (min (cBu c) bf) (Wq c (cFa c - 1) 0 cnt (Vb m i cnt s acc).2 []).2 []).2).2))
 | 0,i,k+1,s,acc,h,hk,ha=>by
  obtain ⟨c1,c2,c3,c4,c5,c6,c7,c8,c9⟩:=hc.nat
  have hi:=hc.int;rw [Q39.l0,hi.f,iN];exact Zcq hc lv cnt bf hcnt acc (cFa c - 1) 0 k s [] (by omega) (by omega) (by simp; omega)
 | m+1,i,k+1,s,acc,h,hk,ha=>by
  obtain ⟨c1,c2,c3,c4,c5,c6,c7,c8,c9⟩:=hc.nat
  have hi:=hc.int;have l1:=Vc s 4;rw [Q39.l0,hi.f,iP,show Q154.f k ((iS s).1,(iS s).2) 4=_ from Uq s (w:=4) (.inr (.inr rfl)) (by omega),bS,wS2];dsimp only;rw [Zlq (by omega)];by_cases q:i<cnt
  ·rw [iP,iT (by simp only [List.length_singleton]; omega)];have:=Zcl hc lv cnt bf hcnt m (i+1) k (Zw s 4).2 (acc ++ [((Zw s 4).1:Int)]) (by omega) (by omega) (by simp; omega);rw [this,Vb,iT q]
  ·rw [iN];have:=Zcl hc lv cnt bf hcnt m (i+1) k (Zw s 4).2 acc (by omega) (by omega) (by omega);rw [this,Vb,iF q]
def X8 (c:Cfg) (b:TV):Nd×TQ:=
 let a1:=Zw (b,0) 1
 let a2:=Zw a1.2 1
 let a3:=Zw a2.2 2
 let a4:=Zw a3.2 2
 let z:=U9 a4.2 2
 if a1.1=1 then ((0,[],[],[],(Gw c (min (cLe c) a3.1) z []).1),(Gw c (min (cLe c) a3.1) z []).2)
 else if a1.1=2 then Zmb c (if a2.1>1 then (a2.1:Int) else 1) a3.1 a4.1 z
 else ((-1,[],[],[],[]),z)
theorem Ze5 (c:Cfg):∀(m:Nat) (s:TQ) (acc:List Pr),(Gw c m s acc).1.length=acc.length+m
 | 0,_,_=>rfl
 | m+1,s,acc=>by rw [Gw,Ze5 c m,lA,List.length_singleton]; omega
theorem Zda (c:Cfg):∀(m:Nat) (s:TQ) (acc:List Msg),(W2 c m s acc).1.length=acc.length+m
 | 0,_,_=>rfl
 | m+1,s,acc=>by rw [W2,Zda c m,lA,List.length_singleton]; omega
theorem Zc2 (c:Cfg):∀(m i cnt:Nat) (s:TQ) (acc:TO),(Wq c m i cnt s acc).1.length<=acc.length+m
 | 0,_,_,_,_=>Nat.le_refl _
 | m+1,i,cnt,s,acc=>by
  rw [Wq];refine Nat.le_trans (Zc2 c m _ _ _ _) ?_;split
  ·rw [lA,List.length_singleton]; omega
  ·omega
theorem Br:∀(m i cnt:Nat) (s:TQ) (acc:TZ),(∀ x∈acc,0<=x/\x<4294967296)->(Vb m i cnt s acc).1.length<=acc.length+m/\∀ x∈(Vb m i cnt s acc).1,0<=x/\x<4294967296
 | 0,_,_,_,_,h=>⟨Nat.le_refl _,h⟩
 | m+1,i,cnt,s,acc,h=>by
  rw [Vb];have hv:=Vc s 4;by_cases q:i<cnt
  ·rw [iT q];obtain ⟨g1,g2⟩:=Br m (i+1) cnt (Zw s 4).2 (acc ++ [((Zw s 4).1:Int)]) (by
    intro x hx;rcases List.mem_append.1 hx with hx | hx
    ·exact h x hx
    ·rw [List.mem_singleton] at hx; omega)
   rw [lA,List.length_singleton] at g1;exact ⟨by omega,g2⟩
  ·rw [iF q];obtain ⟨g1,g2⟩:=Br m (i+1) cnt (Zw s 4).2 acc h;exact ⟨by omega,g2⟩
structure Rd (n:Nd):Prop where
 kids:n.2.1.length<=64
 pivs:n.2.2.1.length<=64
 buf:n.2.2.2.1.length<=512
 prs:n.2.2.2.2.length<=1024
 kd:∀ x∈n.2.1,0<=x/\x<4294967296
theorem Zjv {c:Cfg} (hc:OkC c) (b:TV):Rd (X8 c b).1:=by
 obtain ⟨c1,c2,c3,c4,c5,c6,c7,c8,c9⟩:=hc.nat
 unfold X8;dsimp only;split
 ·refine ⟨by simp,by simp,by simp,?_,by simp⟩;show (Gw c _ _ []).1.length<=1024;rw [Ze5,length_nil]; omega
 ·split
  ·unfold Zmb;dsimp only;obtain ⟨g1,g2⟩:=Br (cFa c) 0 (Zw (Zw (Zw (b,0) 1).2 1).2 2).1 (U9 (Zw (Zw (Zw (Zw (b,0) 1).2 1).2 2).2 2).2 2) [] (by simp);rw [length_nil] at g1;refine ⟨by show (Vb _ _ _ _ _).1.length<=64; omega,?_,?_,by simp,g2⟩
   ·show (Wq c _ _ _ _ []).1.length<=64;refine Nat.le_trans (Zc2 c _ _ _ _ _) ?_;rw [length_nil]; omega
   ·show (W2 c _ _ []).1.length<=512;rw [Zda,length_nil]; omega
  ·exact ⟨by simp,by simp,by simp,by simp,by simp⟩
theorem Znl {k:Nat} {a b:TZ} (ha:a.length<=1000000) (hk:a.length<k):Q97.f k a b=some (decide (a=b)):=by
 unfold Q97.f;by_cases h:a.length=b.length
 ·rw [iF (by simp [h])];have:=Jf (F:=fun k i=>Q97.l0 k a b i) (eqb:=fun x y=>decide (x=y)) (fun x y=>rfl) h ha (fun k i=>rfl) k 0 (by omega) (by omega);simpa using this
 ·rw [iV];have:a≠b:=fun e=>h (by rw [e]);simp [this]
def Ue:Nd:=(0,[],[],[],[])
def Zg4 (c:Cfg) (b:TV) (n:Nd) (e:Int):Nd×Int:=if e=0 then (if Vd c Bq n=true then (if U8 c n=b then (n,0) else (Ue,12)) else (Ue,12)) else (Ue,12)
def Za7 (c:Cfg) (b:TV):Nd×Int:=if okB c=true then Zg4 c b (X8 c b).1 (X8 c b).2.2 else (Ue,2)
theorem Zkp {a b:TV}:toB a=toB b↔a=b:=⟨fun e=>by rw [<- Zcr a,e,Zcr],fun e=>by rw [e]⟩
theorem Zfy {c:Cfg} {n:Nd} (hok:okB c=true) (hn:FitN c n):(U8 c n).length=cBy c:=Jv (Zcp hok hn).1
theorem Zml {c:Cfg} {b:TV} (hok:okB c=true) {n:Nd} {s:TQ} {k:Nat} (hk:70000<k) (hl:∀ x∈n.2.1,0<=x/\x<4294967296) (he:Q35.f k c n=some (Zgt c n)):((Q153.f ((iS s).1,(iS s).2)).bind fun r9=>(if (!decide (r9=0))=true then (some (Ue,(12:Int))) else ((Q35.f k c n).bind fun r10=>(if (!decide (r10.2=0))=true then some (Ue,(12:Int)) else ((Q97.f k r10.1 (toB b)).bind fun r11=>(if (!r11)=true then some (Ue,(12:Int)) else some (n,(0:Int))))))))=some (Zg4 c b n s.2):=by
 unfold Q153.f Zg4 iS;rw [bS,he]
 try dsimp only
 by_cases h0:s.2=0
 ·rw [iF (by simp [h0]),iT h0,bS];unfold Zgt;rw [iT hok];cases hr:Vd c Bq n with
  | false=>rfl
  | true=>
   have hn:=Zc5 (Zgs hok) hl hr;have r2:=(Zcp hok hn).2.1;rw [iT rfl,iT rfl]
   try dsimp only
   rw [vS,Znl (by rw [Z5,Zfy hok hn]; omega) (by rw [Z5,Zfy hok hn]; omega),bS];by_cases e:U8 c n=b
   ·rw [iF (by simp [e]),iT e]
   ·rw [iT (by simp [Zkp,e]),iF e]
 ·rw [iT (by simp [h0]),iF h0]
theorem Zl6 {l:TZ} (hl:l.length<=1000000):Q88.f l=some l:=by
 unfold Q88.f;rw [iV];simp
theorem Znh {c:Cfg} {b:TV} (hb:b.length<=100000):Ev (fun k=>Q34.f k c (toB b)) (Za7 c b):=by
 by_cases hok:okB c=true
 ·have hc:=Zgs hok;have hr:=Zjv hc b;obtain ⟨k1,h1⟩:=Znd (c:=c) (n:=(X8 c b).1) (by have:=hr.kids; omega) (by have:=hr.pivs; omega) (by have:=hr.buf; omega) (by have:=hr.prs; omega) hr.kd;refine ⟨k1+80000,fun k hk=>?_⟩;have he:=h1 k (by omega);have tl:=Zml (b:=b) (s:=(X8 c b).2) hok (show 70000<k by omega) hr.kd he;have hi:=hc.int;unfold Za7;rw [iT hok,<- tl];show Q34.f k c (toB b)=_;unfold Q34.f Q151.f
  (try rw [Uy]); rw [Zb1,bS,iT hok,vS,Zl6 (by rw [Z5]; omega),bS,bS]
  try dsimp only
  have l1:=Vc (b,0) 1;have l2:=Vc (Zw (b,0) 1).2 1;have l3:=Vc (Zw (Zw (b,0) 1).2 1).2 2;have l4:=Vc (Zw (Zw (Zw (b,0) 1).2 1).2 2).2 2;rw [show Q154.f k (toB b,(0:Int)) 1=_ from Uq (b,0) (w:=1) (.inl rfl) (by omega),bS]
  try dsimp only
  rw [show Q154.f k _ 1=_ from Uq (Zw (b,0) 1).2 (w:=1) (.inl rfl) (by omega),bS]
  try dsimp only
  rw [show Q154.f k _ 2=_ from Uq (Zw (Zw (b,0) 1).2 1).2 (w:=2) (.inr (.inl rfl)) (by omega),bS]
  try dsimp only
  rw [show Q154.f k _ 2=_ from Uq (Zw (Zw (Zw (b,0) 1).2 1).2 2).2 (w:=2) (.inr (.inl rfl)) (by omega),bS]
  try dsimp only
  rw [show Q158.f k _ 2=_ from Zk7 (Zw (Zw (Zw (Zw (b,0) 1).2 1).2 2).2 2).2 (n:=2) (by omega) (by omega),bS]
  try dsimp only
  by_cases q1:(Zw (b,0) 1).1=1
  ·have er:X8 c b=_:=iT q1;rw [er,iP,wI2 (x:=((Zw (Zw (Zw (b,0) 1).2 1).2 2).1:Int))];rw [show Q40.f k c _ (((Zw (Zw (Zw (b,0) 1).2 1).2 2).1:Nat):Int)=_ from Zed hc (Zw (Zw (Zw (b,0) 1).2 1).2 2).1 (min (cLe c) (Zw (Zw (Zw (b,0) 1).2 1).2 2).1) 0 k (U9 (Zw (Zw (Zw (Zw (b,0) 1).2 1).2 2).2 2).2 2) [] (by omega) (by have:=hc.nat; omega) (by have:=hc.nat; simp; omega),bS];rfl
  ·rw [iN];by_cases q2:(Zw (b,0) 1).1=2
   ·have er:X8 c b=_:=(iF q1).trans (iT q2);rw [er,iP,wI2 (x:=((Zw (Zw (Zw (b,0) 1).2 1).2 2).1:Int)),wI2 (x:=((Zw (Zw (b,0) 1).2 1).1:Int)),wI2 (x:=((Zw (Zw (Zw (Zw (b,0) 1).2 1).2 2).2 2).1:Int)),
     show (if (((Zw (Zw (b,0) 1).2 1).1:Nat):Int)>1 then (((Zw (Zw (b,0) 1).2 1).1:Nat):Int) else 1)=(if (Zw (Zw (b,0) 1).2 1).1>1 then (((Zw (Zw (b,0) 1).2 1).1:Nat):Int) else 1) by split <;> split <;> omega]
    rw [show Q39.f k c _ _ _ _=_ from Zcl hc (if (Zw (Zw (b,0) 1).2 1).1>1 then (((Zw (Zw (b,0) 1).2 1).1:Nat):Int) else 1) (Zw (Zw (Zw (b,0) 1).2 1).2 2).1 (Zw (Zw (Zw (Zw (b,0) 1).2 1).2 2).2 2).1 (by omega) (cFa c) 0 k (U9 (Zw (Zw (Zw (Zw (b,0) 1).2 1).2 2).2 2).2 2) [] (by omega) (by have:=hc.nat; omega) (by have:=hc.nat; simp; omega),bS]
    rfl
   ·have er:X8 c b=_:=(iF q1).trans (iF q2);rw [er,iN];rfl
 ·refine ⟨0,fun k _=>?_⟩;show Q34.f k c (toB b)=_;unfold Q34.f Za7
  (try rw [Uy]); rw [Zb1,bS,iF hok,iF hok,iU]
  rfl
theorem Zkz {c:Cfg} {b:TV} (hok:okB c=true):(Za7 c b=((X8 c b).1,0)/\Vd c Bq (X8 c b).1=true/\U8 c (X8 c b).1=b)\/Za7 c b=(Ue,12):=by
 unfold Za7 Zg4;rw [iT hok];by_cases h1:(X8 c b).2.2=0
 ·rw [iT h1];by_cases h2:Vd c Bq (X8 c b).1=true
  ·rw [iT h2];by_cases h3:U8 c (X8 c b).1=b
   ·rw [iT h3]; exact .inl ⟨rfl,h2,h3⟩
   ·rw [iF h3]; exact .inr rfl
  ·rw [iF h2]; exact .inr rfl
 ·rw [iF h1]; exact .inr rfl
abbrev Lnk:=Int×Int×Bool
abbrev Chn:=List Lnk×Int
def ah (l:List Lnk) (k:Nat):Int:=(l.getD k default).1
def bh (l:List Lnk) (k:Nat):Int:=(l.getD k default).2.1
def inn (l:List Lnk) (k:Nat):Bool:=(l.getD k default).2.2
theorem Y2 {α:Type} {l:List α} {j k:Nat} {v d:α} (hj:j<l.length:=by omega):(l.set j v).getD k d=if j=k then v else l.getD k d:=by
 rw [List.getD_eq_getElem?_getD,List.getD_eq_getElem?_getD,List.getElem?_set];split
 ·rename_i h;subst h;simp [hj]
 ·rfl
def Lk (l:List Lnk) (a b:Nat):Prop:=bh l a=(b:Int)/\ah l b=(a:Int)
def X5 (l:List Lnk):Nat->List Nat->Prop
 | _,[]=>True
 | a,x :: L=>Lk l a x/\X5 l x L
def Vh:Nat->List Nat->Nat
 | a,[]=>a
 | _,x :: L=>Vh x L
theorem J5 {l:List Lnk}:∀ {a:Nat} {X Y:List Nat},X5 l a (X ++ Y)↔X5 l a X/\X5 l (Vh a X) Y
 | a,[],Y=>by simp [X5,Vh]
 | a,x :: X,Y=>by
  rw [List.cons_append,X5,X5,Vh,J5,and_assoc]
theorem Uk:∀ {a:Nat} {L:List Nat},Vh a L∈a :: L
 | a,[]=>by simp [Vh]
 | a,x :: L=>by
  rw [Vh];have:=Uk (a:=x) (L:=L);simp only [List.mem_cons] at this ⊢;rcases this with h | h
  ·exact .inr (.inl h)
  ·exact .inr (.inr h)
theorem Jg {l l':List Lnk}:∀ {a:Nat} {L:List Nat},(∀ x∈(a :: L).dropLast,bh l' x=bh l x)->(∀ y∈L,ah l' y=ah l y)->X5 l a L->X5 l' a L
 | a,[],_,_,_=>trivial
 | a,x :: L,h1,h2,h=>by
  rw [X5] at h ⊢;refine ⟨⟨?_,?_⟩,Jg (fun y hy=>h1 y ?_) (fun y hy=>h2 y (by simp [hy])) h.2⟩
  ·rw [h1 a (by simp)]; exact h.1.1
  ·rw [h2 x (by simp)]; exact h.1.2
  ·rw [List.dropLast_cons_of_ne_nil (by simp)];exact List.mem_cons_of_mem _ hy
structure ChI (n:Nat) (c:Chn) (L:List Nat):Prop where
 len:c.1.length=n+1
 cnt:c.2=(L.length:Int)
 nd:L.Nodup
 lt:∀ x∈L,x<n
 inn:∀ x,x<=n->(inn c.1 x=true↔x∈L)
 ring:X5 c.1 n (L ++ [n])
theorem Zef:∀ {n:Nat} {L:List Nat},L.Nodup->(∀ x∈L,x<n)->L.length<=n
 | 0,[],_,_=>Nat.le_refl _
 | 0,x :: L,_,h=>by have:=h x (by simp); omega
 | n+1,L,hd,h=>by
  have:=Zef (n:=n) (hd.erase n) fun x hx=>by
   have h1:=h x (List.mem_of_mem_erase hx);have h2:=(hd.mem_erase_iff.1 hx).1;omega
  rw [List.length_erase] at this;split at this <;> omega
theorem ChI.short {n:Nat} {c:Chn} {L:List Nat} (h:ChI n c L):L.length<=n:=Zef h.nd h.lt
theorem J3:∀ {a:Nat} {L:List Nat},(a :: L).Nodup->∀ x∈(a :: L).dropLast,x≠Vh a L
 | a,[],_,x,hx=>by simp at hx
 | a,y :: L,hd,x,hx=>by
  rw [List.dropLast_cons_of_ne_nil (by simp),List.mem_cons] at hx;rw [Vh];rcases hx with rfl | hx
  ·exact fun e=>(List.nodup_cons.1 hd).1 (e ▸ Uk)
  ·exact J3 (List.nodup_cons.1 hd).2 x hx
theorem gtl (l:List Lnk) (k:Nat):gt l (k:Int)=(ah l k,bh l k,SK.T.inn l k):=by
 rw [Yo]; rfl
section
variable {n:Nat} {c:Chn} {L:List Nat}
theorem ChI.split (h:ChI n c L) {i:Nat} (hi:i∈L):∃(P S:List Nat) (s:Nat) (T:List Nat),L=P ++ i :: S/\S ++ [n]=s :: T/\X5 c.1 n P/\Lk c.1 (Vh n P) i/\Lk c.1 i s/\X5 c.1 s T/\Vh n P<=n/\s<=n:=by
 obtain ⟨P,S,rfl⟩:=List.append_of_mem hi;obtain ⟨s,T,e⟩:∃ s T,S ++ [n]=s :: T:=by
  cases S with
  | nil=>exact ⟨n,[],rfl⟩
  | cons x S=>exact ⟨x,S ++ [n],rfl⟩
 have hr:=h.ring;rw [append_assoc,List.cons_append,J5,X5,e,X5] at hr;refine ⟨P,S,s,T,rfl,e,hr.1,hr.2.1,hr.2.2.1,hr.2.2.2,?_,?_⟩
 ·have:=Uk (a:=n) (L:=P);rcases List.mem_cons.1 this with h1 | h1
  ·omega
  ·have:=h.lt _ (List.mem_append_left _ h1); omega
 ·have:s∈S ++ [n]:=by rw [e]; simp
  rcases List.mem_append.1 this with h1 | h1
  ·have:=h.lt s (by simp [h1]); omega
  ·simp at h1; omega
theorem Znf (h:ChI n c L) {i:Nat} (hi:i∈L) (hn:n<=1000):∃ c',Q27.f c (i:Int)=some c'/\ChI n c' (L.erase i):=by
 obtain ⟨P,S,s,T,e1,e2,r1,r2,r3,r4,hp,hs⟩:=h.split hi;have hin:=h.lt i hi;have hlen:=h.len;generalize hpe:Vh n P=p at *;have ei:SK.T.inn c.1 i=true:=(h.inn i (by omega)).2 hi;have nd:(P ++ i :: S).Nodup:=e1 ▸ h.nd;have nd2:=List.nodup_append.1 nd;have ndS:=(List.nodup_cons.1 nd2.2.1);have hnP:n∉P:=fun hx=>by have:=h.lt n (by rw [e1]; simp [hx]); omega
 have hnS:n∉S:=fun hx=>by have:=h.lt n (by rw [e1]; simp [hx]); omega
 have hiP:i∉P:=fun hx=>nd2.2.2 i hx i (by simp) rfl;have hpi:p≠i:=fun e=>by
  have:p∈n :: P:=hpe ▸ Uk;rcases List.mem_cons.1 this with h1 | h1
  ·omega
  ·exact hiP (e ▸ h1)
 have hsi:s≠i:=fun e=>by
  have:s∈S ++ [n]:=by rw [e2]; simp
  rcases List.mem_append.1 this with h1 | h1
  ·exact ndS.1 (e ▸ h1)
  ·simp at h1; omega
 have a1:(gt c.1 (i:Int)).1=(p:Int):=by rw [gtl]; exact r2.2
 have a2:(gt c.1 (i:Int)).2.1=(s:Int):=by rw [gtl]; exact r3.1
 have a3:(gt c.1 (i:Int)).2.2=true:=by rw [gtl]; exact ei
 unfold Q27.f;rw [iO,a3,vS,a1,a2,iO,iT (by rw [length_set]; omega),iT (by rw [length_set,length_set]; omega)];simp only [tN,gtl];generalize hl1:c.1.set p (ah c.1 p,(s:Int),SK.T.inn c.1 p)=l1;have hl1l:l1.length=n+1:=by rw [<- hl1,length_set,hlen]
 generalize hl2:l1.set s ((p:Int),bh l1 s,SK.T.inn l1 s)=l2;have hl2l:l2.length=n+1:=by rw [<- hl2,length_set,hl1l]
 have g1:∀ k,l1.getD k default=if p=k then (ah c.1 p,(s:Int),SK.T.inn c.1 p) else c.1.getD k default:=fun k=>by rw [<- hl1]; exact Y2
 have g2:∀ k,l2.getD k default=if s=k then ((p:Int),bh l1 s,SK.T.inn l1 s) else l1.getD k default:=fun k=>by rw [<- hl2]; exact Y2
 have g3:∀ k,(l2.set i (0,0,false)).getD k default=if i=k then (0,0,false) else l2.getD k default:=fun k=>Y2
 have b1:∀ k,bh l1 k=if p=k then (s:Int) else bh c.1 k:=fun k=>by unfold bh; rw [g1 k]; split <;> rfl
 have n1:∀ k,SK.T.inn l1 k=SK.T.inn c.1 k:=fun k=>by
  show (l1.getD k default).2.2=_;rw [g1 k]; split
  ·rename_i e; rw [<- e]
  ·rfl
 have c1:∀ k,ah l1 k=ah c.1 k:=fun k=>by
  show (l1.getD k default).1=_;rw [g1 k]; split
  ·rename_i e; rw [<- e]
  ·rfl
 have b3:∀ k,k≠i->bh (l2.set i (0,0,false)) k=if p=k then (s:Int) else bh c.1 k:=fun k hk=>by
  show ((l2.set i (0,0,false)).getD k default).2.1=_;rw [g3 k,iF (Ne.symm hk),g2 k];split
  ·rename_i e; rw [<- e]; exact b1 s
  ·exact b1 k
 have c3:∀ k,k≠i->ah (l2.set i (0,0,false)) k=if s=k then (p:Int) else ah c.1 k:=fun k hk=>by
  show ((l2.set i (0,0,false)).getD k default).1=_;rw [g3 k,iF (Ne.symm hk),g2 k];split
  ·rfl
  ·exact c1 k
 have n3:∀ k,SK.T.inn (l2.set i (0,0,false)) k=if i=k then false else SK.T.inn c.1 k:=fun k=>by
  show ((l2.set i (0,0,false)).getD k default).2.2=_;rw [g3 k];split
  ·rfl
  ·rw [g2 k];split
   ·rename_i e; rw [<- e]; exact n1 s
   ·exact n1 k
 have el:L.erase i=P ++ S:=by
  rw [e1,List.erase_append_right _ hiP,List.erase_cons_head]
 refine ⟨_,rfl,⟨by rw [length_set,hl2l],?_,?_,?_,?_,?_⟩⟩
 ·rw [el,h.cnt,e1];have:=h.short;rw [e1] at this;simp only [lA,length_cons] at this ⊢;rw [wI2]; omega
 ·exact h.nd.erase i
 ·exact fun x hx=>h.lt x (List.mem_of_mem_erase hx)
 ·intro x hx;rw [n3 x,h.nd.mem_erase_iff];split
  ·rename_i e; simp [e]
  ·rename_i e;rw [h.inn x hx];exact ⟨fun g=>⟨fun e'=>e e'.symm,g⟩,fun g=>g.2⟩
 ·rw [el,append_assoc,e2,J5,hpe,X5];have hTs:∀ y∈T,y≠s/\y≠i:=fun y hy=>by
   have hnd:(S ++ [n]).Nodup:=List.nodup_append.2 ⟨ndS.2,by simp,fun a ha b hb e=>by simp at hb; exact hnS (hb ▸ e ▸ ha)⟩;rw [e2] at hnd;refine ⟨fun e=>(List.nodup_cons.1 hnd).1 (e ▸ hy),fun e=>?_⟩;have:y∈S ++ [n]:=by rw [e2]; simp [hy]
   rcases List.mem_append.1 this with h1 | h1
   ·exact ndS.1 (e ▸ h1)
   ·simp at h1; omega
  have hsT:∀ x∈(s :: T).dropLast,x≠p/\x≠i:=fun x hx=>by
   rw [<- e2,List.dropLast_concat] at hx;refine ⟨fun e=>?_,fun e=>ndS.1 (e ▸ hx)⟩;have:p∈n :: P:=hpe ▸ Uk;rcases List.mem_cons.1 this with h1 | h1
   ·exact hnS (h1 ▸ e ▸ hx)
   ·exact nd2.2.2 p h1 x (by simp [hx]) e.symm
  have hPp:∀ x∈(n :: P).dropLast,x≠p/\x≠i:=fun x hx=>by
   have hnd:(n :: P).Nodup:=List.nodup_cons.2 ⟨hnP,nd2.1⟩;refine ⟨hpe ▸ J3 hnd x hx,fun e=>?_⟩;have:=List.dropLast_subset _ hx;rcases List.mem_cons.1 this with h1 | h1
   ·omega
   ·exact hiP (e ▸ h1)
  have hPs:∀ y∈P,y≠s/\y≠i:=fun y hy=>by
   refine ⟨fun e=>?_,fun e=>hiP (e ▸ hy)⟩;have:s∈S ++ [n]:=by rw [e2]; simp
   rcases List.mem_append.1 this with h1 | h1
   ·exact nd2.2.2 y hy s (by simp [h1]) e
   ·simp at h1; exact hnP (h1 ▸ e ▸ hy)
  refine ⟨Jg (fun x hx=>by rw [b3 x (hPp x hx).2,iF (Ne.symm (hPp x hx).1)]) (fun y hy=>by rw [c3 y (hPs y hy).2,iF (Ne.symm (hPs y hy).1)]) r1,⟨by rw [b3 p hpi,iT rfl],by rw [c3 s hsi,iT rfl]⟩,
   Jg (fun x hx=>by rw [b3 x (hsT x hx).2,iF (Ne.symm (hsT x hx).1)]) (fun y hy=>by rw [c3 y (hTs y hy).2,iF (Ne.symm (hTs y hy).1)]) r4⟩
theorem Zib (h:ChI n c L) {i:Nat} (hi:i<n) (hn:n<=1000):Q30.f c (i:Int)=some 0:=by
 have hlen:=h.len;unfold Q30.f Q29.f
 try dsimp only
 rw [iN,iN,bS,wI2,iN]
theorem Zjd (h:ChI n c L) {i:Nat} (hi:i<n) (hn:n<=1000):∃ r c',Q23.f c (i:Int)=some (r,c')/\ChI n c' (L.erase i):=by
 have hlen:=h.len;unfold Q23.f;rw [show Q30.f (c.1,c.2) (i:Int)=_ from Zib h hi hn,bS,vS,iO,gtl];by_cases hm:i∈L
 ·rw [iF (by simp [(h.inn i (by omega)).2 hm])];obtain ⟨c',e,h'⟩:=Znf h hm hn;rw [show Q27.f (c.1,c.2) (i:Int)=_ from e,bS];exact ⟨_,_,rfl,h'⟩
 ·have:SK.T.inn c.1 i=false:=by
   cases q:SK.T.inn c.1 i with
   | false=>rfl
   | true=>exact absurd ((h.inn i (by omega)).1 q) hm
  rw [iT (by simp [this])];exact ⟨_,_,rfl,by rw [List.erase_of_not_mem hm]; exact h⟩
theorem Znk (h:ChI n c L) {i:Nat} (hi:i<n) (hm:i∉L) (hn:n<=1000):∃ c',Q28.f c (i:Int) (n:Int)=some c'/\ChI n c' (i :: L):=by
 have hlen:=h.len;have hsh:=h.short;have hnL:n∉L:=fun hx=>by have:=h.lt n hx; omega
 obtain ⟨s,T,e⟩:∃ s T,L ++ [n]=s :: T:=by
  cases L with
  | nil=>exact ⟨n,[],rfl⟩
  | cons x S=>exact ⟨x,S ++ [n],rfl⟩
 have hr:=h.ring;rw [e,X5] at hr;have hs:s<=n:=by
  have:s∈L ++ [n]:=by rw [e]; simp
  rcases List.mem_append.1 this with h1 | h1
  ·have:=h.lt s h1; omega
  ·simp at h1; omega
 have hsi:s≠i:=fun q=>by
  have:s∈L ++ [n]:=by rw [e]; simp
  rcases List.mem_append.1 this with h1 | h1
  ·exact hm (q ▸ h1)
  ·simp at h1; omega
 have a2:(gt c.1 (n:Int)).2.1=(s:Int):=by rw [gtl]; exact hr.1.1
 unfold Q28.f;rw [iO,iO,iT (by rw [length_set]; omega),a2,iT (by rw [length_set,length_set]; omega)];simp only [tN,gtl];generalize hl1:c.1.set i ((n:Int),(s:Int),true)=l1;have hl1l:l1.length=n+1:=by rw [<- hl1,length_set,hlen]
 generalize hl2:l1.set n (ah l1 n,(i:Int),SK.T.inn l1 n)=l2;have hl2l:l2.length=n+1:=by rw [<- hl2,length_set,hl1l]
 have g1:∀ k,l1.getD k default=if i=k then ((n:Int),(s:Int),true) else c.1.getD k default:=fun k=>by rw [<- hl1]; exact Y2
 have g2:∀ k,l2.getD k default=if n=k then (ah l1 n,(i:Int),SK.T.inn l1 n) else l1.getD k default:=fun k=>by rw [<- hl2]; exact Y2
 have g3:∀ k,(l2.set s ((i:Int),bh l2 s,SK.T.inn l2 s)).getD k default=if s=k then ((i:Int),bh l2 s,SK.T.inn l2 s) else l2.getD k default:=fun k=>Y2
 have b2:∀ k,bh l2 k=if n=k then (i:Int) else if i=k then (s:Int) else bh c.1 k:=fun k=>by
  show (l2.getD k default).2.1=_;rw [g2 k];split
  ·rfl
  ·rw [g1 k]; split <;> rfl
 have c2:∀ k,ah l2 k=if i=k then (n:Int) else ah c.1 k:=fun k=>by
  show (l2.getD k default).1=_;rw [g2 k];split
  ·rename_i q;rw [<- q,iQ];show (l1.getD n default).1=_;rw [g1 n,iQ]; rfl
  ·rw [g1 k]; split <;> rfl
 have n2:∀ k,SK.T.inn l2 k=if i=k then true else SK.T.inn c.1 k:=fun k=>by
  show (l2.getD k default).2.2=_;rw [g2 k];split
  ·rename_i q;rw [<- q,iQ];show (l1.getD n default).2.2=_;rw [g1 n,iQ]; rfl
  ·rw [g1 k]; split <;> rfl
 have b3:∀ k,bh (l2.set s ((i:Int),bh l2 s,SK.T.inn l2 s)) k=bh l2 k:=fun k=>by
  show ((l2.set s ((i:Int),bh l2 s,SK.T.inn l2 s)).getD k default).2.1=_;rw [g3 k]; split
  ·rename_i q; rw [<- q]
  ·rfl
 have c3:∀ k,ah (l2.set s ((i:Int),bh l2 s,SK.T.inn l2 s)) k=if s=k then (i:Int) else ah l2 k:=fun k=>by
  show ((l2.set s ((i:Int),bh l2 s,SK.T.inn l2 s)).getD k default).1=_;rw [g3 k]; split <;> rfl
 have n3:∀ k,SK.T.inn (l2.set s ((i:Int),bh l2 s,SK.T.inn l2 s)) k=SK.T.inn l2 k:=fun k=>by
  show ((l2.set s ((i:Int),bh l2 s,SK.T.inn l2 s)).getD k default).2.2=_;rw [g3 k]; split
  ·rename_i q; rw [<- q]
  ·rfl
 refine ⟨_,rfl,⟨by rw [length_set,hl2l],?_,List.nodup_cons.2 ⟨hm,h.nd⟩,?_,?_,?_⟩⟩
 ·rw [h.cnt,length_cons,wI2]; omega
 ·intro x hx;rcases List.mem_cons.1 hx with q | q
  ·omega
  ·exact h.lt x q
 ·intro x hx;rw [n3 x,n2 x,List.mem_cons];split
  ·rename_i q; simp [q]
  ·rename_i q;rw [h.inn x hx];exact ⟨fun g=>.inr g,fun g=>g.elim (fun e'=>absurd e'.symm q) id⟩
 ·rw [List.cons_append,X5,e,X5];have hnd:(L ++ [n]).Nodup:=List.nodup_append.2 ⟨h.nd,by simp,fun a ha b hb q=>by simp at hb; exact hnL (hb ▸ q ▸ ha)⟩;rw [e] at hnd;refine ⟨⟨by rw [b3,b2,iT rfl],by rw [c3,iF hsi,c2,iT rfl]⟩,⟨by rw [b3,b2,iQ,iT rfl],by rw [c3,iT rfl]⟩,Jg (fun x hx=>?_) (fun y hy=>?_) hr.2⟩
  ·rw [<- e,List.dropLast_concat] at hx;rw [b3,b2,iF (fun q:n=x=>hnL (q ▸ hx)),iF (fun q:i=x=>hm (q ▸ hx))]
  ·have hyL:y∈L ++ [n]:=by rw [e]; simp [hy]
   have hyi:i≠y:=fun q=>by
    rcases List.mem_append.1 hyL with h1 | h1
    ·exact hm (q ▸ h1)
    ·simp at h1; omega
   rw [c3,iF (fun q:s=y=>(List.nodup_cons.1 hnd).1 (q ▸ hy)),c2,iF hyi]
theorem Zlz (h:ChI n c L) {i:Nat} (hi:i<n) (hm:i∉L) (hn:n<=1000):∃ c',Q24.f c (i:Int)=some (0,c')/\ChI n c' (i :: L):=by
 have hlen:=h.len;have hf:SK.T.inn c.1 i=false:=by
  cases q:SK.T.inn c.1 i with
  | false=>rfl
  | true=>exact absurd ((h.inn i (by omega)).1 q) hm
 have ho:Q27.f (c.1,c.2) (i:Int)=some c:=by
  unfold Q27.f
  try dsimp only
  rw [iO,gtl,iT (by simp [hf])]
 obtain ⟨c',e,h'⟩:=Znk h hi hm hn;unfold Q24.f Q29.f;rw [show Q30.f (c.1,c.2) (i:Int)=_ from Zib h hi hn,bS,iU,ho,bS,bS]
 try dsimp only
 rw [show w64 ((c.1.length:Int) - 1)=(n:Int) by rw [wI2]; omega,show Q28.f (c.1,c.2) (i:Int) (n:Int)=_ from e,bS];exact ⟨_,rfl,h'⟩
theorem Zc6 (h:ChI n c []):Q25.f c=some (0,false):=by
 have:=h.cnt;unfold Q25.f Q26.f;rw [bS,iT (by simp [this])]
theorem Zkc {q:Nat} (h:ChI n c (L ++ [q])) (hn:n<=1000):Q25.f c=some ((q:Int),true):=by
 have hcnt:=h.cnt;have hlen:=h.len;unfold Q25.f Q26.f Q29.f;have hr:=h.ring;rw [append_assoc,List.cons_append,List.nil_append,J5,X5,X5] at hr;have:ah c.1 n=(q:Int):=hr.2.2.1.2;rw [bS,iF (by simp [hcnt]; omega),bS,show w64 ((c.1.length:Int) - 1)=(n:Int) by rw [wI2]; omega,iO,gtl,this]
theorem Znm (hn:1<=n) (h64:n<=64):∃ c',Q31.f (n:Int)=some (some c',0)/\ChI n c' []:=by
 unfold Q31.f;have e:(w64 ((n:Int)+1))=((n+1:Nat):Int):=by rw [wI2]; omega
 rw [iN,iN,e,iO,tN,iT (by rw [length_replicate]; omega),tN];have g:∀ k,((List.replicate (n+1) ((0,0,false):Lnk)).set n ((n:Int),(n:Int),false)).getD k default=if n=k then ((n:Int),(n:Int),false) else (List.replicate (n+1) ((0,0,false):Lnk)).getD k default:=fun k=>Y2 (by rw [length_replicate]; omega)
 refine ⟨_,rfl,⟨by simp,rfl,by simp,by simp,fun x hx=>?_,?_⟩⟩
 ·show (_:Lnk).2.2=true↔_;rw [g x];split
  ·simp
  ·rw [List.getD_eq_getElem?_getD,List.getElem?_replicate,iO]; simp
 ·rw [List.nil_append,X5,X5];refine ⟨⟨?_,?_⟩,trivial⟩
  ·show (_:Lnk).2.1=_;rw [g n,iT rfl]
  ·show (_:Lnk).1=_;rw [g n,iT rfl]
end
abbrev Dv:=Int×List Int×TY
def blk (img:TZ) (n i:Nat):List Int:=(img.drop (i*n)).take n
theorem U3 {N n i:Nat} (h:i<N):i*n+n<=N*n:=by
 have:=Nat.mul_le_mul_right n h;rw [Nat.succ_mul] at this;exact this
theorem Zca {img:TZ} {N n i:Nat} (hl:img.length=N*n) (h:i<N):(blk img n i).length=n:=by
 have:=U3 (n:=n) h;unfold blk;rw [length_take,length_drop];omega
theorem Bx {img b:TZ} {N n i:Nat} (hl:img.length=N*n) (h:i<N) (hb:b.length=n) (j:Nat) (hj:j<N):blk (patch img (i*n) n b) n j=if j=i then b else blk img n j:=by
 have h1:=U3 (n:=n) h;have h2:=U3 (n:=n) hj;have e0:(img.take (i*n)).length=i*n:=by rw [length_take]; omega
 unfold blk patch;rw [List.take_of_length_le (i:=n) (l:=b) (by omega),show i*n+min n b.length=i*n+n from by omega];by_cases e:j=i
 ·subst e;rw [iT rfl,append_assoc,List.drop_append_of_le_length (by omega),List.drop_of_length_le (by omega),List.nil_append,List.take_append_of_le_length (by omega),tO]
 ·rw [iF e];by_cases lt:j<i
  ·have h3:=Nat.mul_le_mul_right n (show j+1<=i from lt);rw [Nat.succ_mul] at h3;rw [append_assoc,List.drop_append_of_le_length (by omega),List.take_append_of_le_length (by rw [length_drop]; omega),List.drop_take,List.take_take];congr 1;omega
  ·have h3:=Nat.mul_le_mul_right n (show i+1<=j from by omega);rw [Nat.succ_mul] at h3;rw [List.drop_append,List.drop_of_length_le (by rw [lA]; omega),List.nil_append,List.drop_drop];congr 2;rw [lA,e0];omega
theorem Zhr {img b:TZ} {N n i:Nat} (hl:img.length=N*n) (h:i<N):(patch img (i*n) n b).length=N*n:=by
 have:=U3 (n:=n) h;rw [Xm (by omega),hl]
theorem Uh {N n:Nat} {img:TZ} {s:TY} (hn:1<=n) (hl:img.length=N*n) (hb:N*n<=4294967296):Q50.f ((n:Int),img,s)=some (N:Int):=by
 have hN:N<=4294967296:=Nat.le_trans (Nat.le_mul_of_pos_right N hn) hb;have e:Int.tdiv (img.length:Int) (n:Int)=N:=by
  rw [hl,Int.natCast_mul];exact Int.mul_tdiv_cancel _ (by omega)
 unfold Q50.f;dsimp only;rw [iN,iO,e,wI2]
theorem Zj6 {n i N:Nat} (hb:N*n<=4294967296) (hn:1<=n) (h:i<N):w64 (i:Int)=i/\w64 ((i:Int)*(n:Int))=((i*n:Nat):Int)/\w64 (((i*n:Nat):Int)+(n:Int))=((i*n+n:Nat):Int):=by
 have h1:=U3 (n:=n) h;have h2:i<=i*n:=Nat.le_mul_of_pos_right i hn;refine ⟨wI2,?_,?_⟩
 ·rw [<- Int.natCast_mul];exact wI2
 ·rw [wI2];rfl
theorem Zi6 {N n i:Nat} {img b:TZ} {s:TY} (hn:1<=n) (hN:1<=N) (hl:img.length=N*n) (hb:N*n<=4294967296) (hi:i<4294967296) :
  Q53.f ((n:Int),img,s) (i:Int) b=some (if N<=i then (4,((n:Int),img,s)) else if b.length=n then (0,((n:Int),patch img (i*n) n b,s.1,uH.wrap (s.2+1))) else (3,((n:Int),img,s))):=by
 have e:=Uh (s:=(s.1,s.2)) hn hl hb;unfold Q53.f;dsimp only;rw [e,bS,iN,bS];by_cases h:N<=i
 ·rw [wI2 (x:=(i:Int)),iP,iT h]
 ·obtain ⟨a1,a2,a3⟩:=Zj6 hb hn (show i<N from by omega);have h1:=U3 (n:=n) (show i<N from by omega);rw [a1,a2,a3,iN,iO,iF h];by_cases hq:b.length=n
  ·rw [iF (by simp only [Bool.not_eq_true',decide_eq_false_iff_not]; omega),iT hq];simp only [tN];rw [length_take,length_drop,show min (i*n+n - i*n) (img.length - i*n)=n from by omega]
  ·rw [iT (by simp only [Bool.not_eq_true',decide_eq_false_iff_not]; omega),iF hq]
theorem Zbq {l:TZ} (h:l.length<=140737488355328):Q88.f l=some l:=by
 unfold Q88.f;rw [iT (by simpa using h)];rfl
theorem Zkq {N n i:Nat} {img:TZ} {s:TY} (hn:1<=n) (hN:1<=N) (hl:img.length=N*n) (hb:N*n<=4294967296) (hi:i<4294967296) :
  Q52.f ((n:Int),img,s) (i:Int)=some (if N<=i then ([],4,((n:Int),img,s)) else (blk img n i,0,((n:Int),img,uH.wrap (s.1+1),s.2))):=by
 have e:=Uh (s:=(s.1,s.2)) hn hl hb;unfold Q52.f;dsimp only;rw [e,bS,iN,bS];by_cases h:N<=i
 ·rw [wI2 (x:=(i:Int)),iP,iT h]
 ·obtain ⟨a1,a2,a3⟩:=Zj6 hb hn (show i<N from by omega);have h1:=U3 (n:=n) (show i<N from by omega);rw [a1,a2,a3,iN,iO,iF h];simp only [tN];have hbl:(blk img n i).length=n:=Zca hl (by omega);have:(img.drop (i*n)).take (i*n+n - i*n)=blk img n i:=by unfold blk; congr 1; omega
  have hnb:n<=N*n:=Nat.le_mul_of_pos_left n hN;rw [this,Zbq (by omega),bS]
abbrev Fr8:=Int×List Int×Bool×Int
abbrev Ca:=Dv×List Fr8×List TY×List Int×Chn
section
variable {es:TP} {x v d:Int}
theorem mhas_iff:∀ {es:TP},Yw es x=true↔∃ v,(x,v)∈es
 | []=>by simp [Yw]
 | p :: es=>by
  rw [Yw];split
  ·rename_i h;exact ⟨fun _=>⟨p.2,by simp [<- h]⟩,fun _=>rfl⟩
  ·rename_i h;rw [mhas_iff];constructor
   ·rintro ⟨v,hv⟩; exact ⟨v,by simp [hv]⟩
   ·rintro ⟨v,hv⟩;rcases List.mem_cons.1 hv with e | e
    ·exact absurd (by rw [<- e]) h
    ·exact ⟨v,e⟩
theorem Xs:∀ {es:TP},(es.map Prod.fst).Nodup->(x,v)∈es->Zq d es x=v
 | [],_,h=>by simp at h
 | p :: es,nd,h=>by
  rw [List.map_cons,List.nodup_cons] at nd;rw [Zq];rcases List.mem_cons.1 h with e | e
  ·rw [iT (by rw [<- e]),<- e]
  ·rw [iF (fun q=>nd.1 (List.mem_map.2 ⟨_,e,by simpa using q.symm⟩)),Xs nd.2 e]
theorem Vj {p:TY}:∀ {es:TP},(es.map Prod.fst).Nodup->(p∈Xy x es↔p∈es/\p.1≠x)
 | [],_=>by simp [Xy]
 | q :: es,nd=>by
  rw [List.map_cons,List.nodup_cons] at nd;rw [Xy];split
  ·rename_i h;constructor
   ·intro hp;refine ⟨by simp [hp],fun e=>nd.1 ?_⟩;rw [h,<- e]; exact List.mem_map_of_mem hp
   ·rintro ⟨hp,hne⟩;rcases List.mem_cons.1 hp with e | e
    ·exact absurd (e ▸ h) hne
    ·exact e
  ·rename_i h;rw [List.mem_cons,Vj nd.2,List.mem_cons];constructor
   ·rintro (e | e)
    ·exact ⟨.inl e,e ▸ h⟩
    ·exact ⟨.inr e.1,e.2⟩
   ·rintro ⟨e | e,hne⟩
    ·exact .inl e
    ·exact .inr ⟨e,hne⟩
theorem mdel_sub:∀ {es:TP},(Xy x es).Sublist es
 | []=>List.Sublist.refl _
 | q :: es=>by
  rw [Xy];split
  ·exact List.sublist_cons_self _ _
  ·exact mdel_sub.cons_cons _
theorem Za2:∀ {es:TP},Yw es x=true->(Xy x es).length+1=es.length
 | [],h=>by simp [Yw] at h
 | q :: es,h=>by
  rw [Yw] at h;rw [Xy];split
  ·rfl
  ·rename_i hn;rw [iF hn] at h;rw [length_cons,length_cons,Za2 h]
end
structure Okf (N B n t:Nat) (c:Ca) (i f:Nat):Prop where
 hi:i<N
 hf:f<n
 blk:(c.2.1.getD f default).1=(i:Int)
 len:(c.2.1.getD f default).2.1.length=B
 pin:0<=(c.2.1.getD f default).2.2.2/\(c.2.1.getD f default).2.2.2<=t
 emp:(f:Int)∉c.2.2.2.1
structure CaI (N B n t:Nat) (H:List Nat) (c:Ca) (L:List Nat):Prop where
 dsz:c.1.1=(B:Int)
 dim:c.1.2.1.length=N*B
 frl:c.2.1.length=n
 mnd:(c.2.2.1.map Prod.fst).Nodup
 mok:∀ p∈c.2.2.1,∃ i f:Nat,p=((i:Int),(f:Int))/\Okf N B n t c i f
 emp:∀ x∈c.2.2.2.1,∃ f:Nat,x=(f:Int)/\f<n
 end_:c.2.2.2.1.Nodup
 hol:∀ f∈H,f<n/\(f:Int)∉c.2.2.2.1/\∀ i:Int,(i,(f:Int))∉c.2.2.1
 tot:c.2.2.1.length+c.2.2.2.1.length+H.length=n
 chn:ChI n c.2.2.2.2 L
 lok:∀ f:Nat,f∈L↔(∃ i:Int,(i,(f:Int))∈c.2.2.1)/\(c.2.1.getD f default).2.2.2=0
section
variable {N B n t:Nat} {H:List Nat} {c:Ca} {L:List Nat}
theorem CaI.at (h:CaI N B n t H c L) {i f:Int} (hp:(i,f)∈c.2.2.1):∃ i' f':Nat,i=(i':Int)/\f=(f':Int)/\Okf N B n t c i' f':=by
 obtain ⟨i',f',e,ok⟩:=h.mok _ hp;rw [Prod.mk.injEq] at e;exact ⟨i',f',e.1,e.2,ok⟩
theorem CaI.atN (h:CaI N B n t H c L) {i f:Nat} (hp:((i:Int),(f:Int))∈c.2.2.1):Okf N B n t c i f:=by
 obtain ⟨i',f',e1,e2,ok⟩:=h.at hp;have:i=i':=by omega
 have:f=f':=by omega
 subst_vars;exact ok
theorem CaI.one (h:CaI N B n t H c L) {i j f:Nat} (hi:((i:Int),(f:Int))∈c.2.2.1) (hj:((j:Int),(f:Int))∈c.2.2.1):i=j:=by
 have h1:=(h.atN hi).blk;have h2:=(h.atN hj).blk;omega
theorem CaI.get (h:CaI N B n t H c L) (i:Nat):(Yw c.2.2.1 (i:Int)=false/\∀ v,((i:Int),v)∉c.2.2.1)\/∃ f:Nat,((i:Int),(f:Int))∈c.2.2.1/\Yw c.2.2.1 (i:Int)=true/\Zq 0 c.2.2.1 (i:Int)=(f:Int)/\Okf N B n t c i f:=by
 cases q:Yw c.2.2.1 (i:Int) with
 | false=>exact .inl ⟨rfl,fun v hv=>by rw [mhas_iff.2 ⟨v,hv⟩] at q; cases q⟩
 | true=>
  obtain ⟨v,hv⟩:=mhas_iff.1 q;obtain ⟨i',f,e1,rfl,ok⟩:=h.at hv;have:i=i':=by omega
  subst this;exact .inr ⟨f,hv,rfl,Xs h.mnd hv,ok⟩
theorem CaI.used (h:CaI N B n t H c L):c.2.2.1.length<=n:=by have:=h.tot; omega
theorem CaI.mono (h:CaI N B n t H c L) {t':Nat} (ht:t<=t'):CaI N B n t' H c L:=
 ⟨h.dsz,h.dim,h.frl,h.mnd,fun p hp=>by
  obtain ⟨i,f,e,ok⟩:=h.mok p hp;exact ⟨i,f,e,ok.hi,ok.hf,ok.blk,ok.len,⟨ok.pin.1,by have:=ok.pin.2; omega⟩,ok.emp⟩,h.emp,h.end_,h.hol,h.tot,h.chn,h.lok⟩
theorem CaI.dev (h:CaI N B n t H c L) {img:TZ} (hl:img.length=N*B) (s:TY):CaI N B n t H ((c.1.1,img,s),c.2) L:=
 ⟨h.dsz,hl,h.frl,h.mnd,fun p hp=>by
  obtain ⟨i,f,e,ok⟩:=h.mok p hp;exact ⟨i,f,e,ok.hi,ok.hf,ok.blk,ok.len,ok.pin,ok.emp⟩,h.emp,h.end_,h.hol,h.tot,h.chn,h.lok⟩
theorem CaI.setfr (h:CaI N B n t H c L) {i f:Nat} (ha:((i:Int),(f:Int))∈c.2.2.1) {x:Fr8} (h1:x.1=(i:Int)) (h2:x.2.1.length=B) {t':Nat} (h3:0<=x.2.2.2/\x.2.2.2<=t') (ht:t<=t') {ch:Chn} {L':List Nat} (hc:ChI n ch L')
  (hL:∀ g,g∈L'↔if g=f then x.2.2.2=0 else g∈L):CaI N B n t' H (c.1,c.2.1.set f x,c.2.2.1,c.2.2.2.1,ch) L':=by
 have ok:=h.atN ha;have hfl:f<c.2.1.length:=by rw [h.frl]; exact ok.hf
 have g:∀ k,(c.2.1.set f x).getD k default=if f=k then x else c.2.1.getD k default:=fun k=>Y2 hfl
 refine ⟨h.dsz,h.dim,by rw [length_set,h.frl],h.mnd,fun p hp=>?_,h.emp,h.end_,h.hol,h.tot,hc,fun k=>?_⟩
 ·obtain ⟨j,k,e,okk⟩:=h.mok p hp;refine ⟨j,k,e,okk.hi,okk.hf,?_,?_,?_,okk.emp⟩
  all_goals
   show _
   try dsimp only
   rw [g k];split
  ·rename_i q;subst q;have:i=j:=h.one ha (by rw [<- e]; exact hp);subst this; exact h1
  ·exact okk.blk
  ·exact h2
  ·exact okk.len
  ·exact h3
  ·exact ⟨okk.pin.1,by have:=okk.pin.2; omega⟩
 ·rw [hL k]
  try dsimp only
  rw [g k];by_cases q:k=f
  ·subst q;rw [iT rfl,iT rfl];exact ⟨fun e=>⟨⟨_,ha⟩,e⟩,fun e=>e.2⟩
  ·rw [iF q,iF (Ne.symm q)];exact h.lok k
theorem CaI.leave (h:CaI N B n t [] c L) {i f:Nat} (ha:((i:Int),(f:Int))∈c.2.2.1) (hn:n<=64) {ch:Chn} (hc:ChI n ch (L.erase f)):CaI N B n t [] (c.1,c.2.1.set f (0,[],false,0),Xy (i:Int) c.2.2.1,c.2.2.2.1 ++ [(f:Int)],ch) (L.erase f):=by
 have ok:=h.atN ha;have hfl:f<c.2.1.length:=by rw [h.frl]; exact ok.hf
 have g:∀ k,(c.2.1.set f (0,[],false,0)).getD k default=if f=k then (0,[],false,0) else c.2.1.getD k default:=fun k=>Y2 hfl
 have hne:∀ {j k:Nat},((j:Int),(k:Int))∈c.2.2.1->(j:Int)≠(i:Int)->f≠k:=fun {j k} hjk hji e=>by
  subst e;exact hji (by rw [h.one ha hjk])
 refine ⟨h.dsz,h.dim,by rw [length_set,h.frl],(mdel_sub.map _).nodup h.mnd,fun p hp=>?_,fun x hx=>?_,?_,by simp,?_,hc,fun k=>?_⟩
 ·rw [Vj h.mnd] at hp;obtain ⟨j,k,e,okk⟩:=h.mok p hp.1;have hjk:((j:Int),(k:Int))∈c.2.2.1:=by rw [<- e]; exact hp.1
  have hk:f≠k:=hne hjk (by rw [e] at hp; exact hp.2);refine ⟨j,k,e,okk.hi,okk.hf,?_,?_,?_,?_⟩
  ·dsimp only; rw [g k,iF hk]; exact okk.blk
  ·dsimp only; rw [g k,iF hk]; exact okk.len
  ·dsimp only; rw [g k,iF hk]; exact okk.pin
  ·dsimp only;rw [List.mem_append,List.mem_singleton];rintro (q | q)
   ·exact okk.emp q
   ·exact hk (by omega)
 ·rcases List.mem_append.1 hx with q | q
  ·exact h.emp x q
  ·rw [List.mem_singleton] at q; exact ⟨f,q,ok.hf⟩
 ·exact List.nodup_append.2 ⟨h.end_,by simp,fun a hb b hb' e=>by rw [List.mem_singleton] at hb'; exact ok.emp (hb' ▸ e ▸ hb)⟩
 ·have h1:=h.tot;have h2:=Za2 (mhas_iff.2 ⟨_,ha⟩);simp only [lA,List.length_singleton,length_nil] at h1 ⊢;omega
 ·rw [h.chn.nd.mem_erase_iff]
  try dsimp only
  rw [g k];constructor
  ·rintro ⟨hk,hkL⟩;obtain ⟨⟨j,hj⟩,hp⟩:=(h.lok k).1 hkL;rw [iF (Ne.symm hk)];obtain ⟨j',k',e1,e2,okk⟩:=h.at hj;refine ⟨⟨j,(Vj h.mnd).2 ⟨hj,fun e=>hk ?_⟩⟩,hp⟩;have h1:Zq 0 c.2.2.1 (i:Int)=(f:Int):=Xs h.mnd ha;have h2:Zq 0 c.2.2.1 (i:Int)=(k:Int):=Xs h.mnd (by rw [<- show j=(i:Int) from e]; exact hj);omega
  ·rintro ⟨⟨j,hj⟩,hp⟩;rw [Vj h.mnd] at hj;obtain ⟨j',k',e1,e2,okk⟩:=h.at hj.1;have hk:f≠k:=hne (j:=j') (by rw [<- e1]; exact hj.1) (by rw [<- e1]; exact hj.2);rw [iF hk] at hp;exact ⟨Ne.symm hk,(h.lok k).2 ⟨⟨j,hj.1⟩,hp⟩⟩
theorem CaI.take (h:CaI N B n t [] c L) {E:TZ} {f:Nat} (he:c.2.2.2.1=E ++ [(f:Int)]):CaI N B n t [f] (c.1,c.2.1,c.2.2.1,E,c.2.2.2.2) L:=by
 have hnd:=h.end_;rw [he] at hnd;have hnd2:=List.nodup_append.1 hnd;refine ⟨h.dsz,h.dim,h.frl,h.mnd,fun p hp=>?_,fun x hx=>h.emp x (by rw [he]; simp [hx]),hnd2.1,fun g hg=>?_,?_,h.chn,h.lok⟩
 ·obtain ⟨i,k,e,ok⟩:=h.mok p hp;exact ⟨i,k,e,ok.hi,ok.hf,ok.blk,ok.len,ok.pin,fun q=>ok.emp (by rw [he]; simp [show (k:Int)∈E from q])⟩
 ·rw [List.mem_singleton] at hg;subst hg;refine ⟨?_,fun q=>hnd2.2.2 _ q (g:Int) (by simp) rfl,fun i hi=>?_⟩
  ·obtain ⟨f',e,hf⟩:=h.emp (g:Int) (by rw [he]; simp);omega
  ·obtain ⟨j,k,e1,e2,ok⟩:=h.at hi;exact ok.emp (by rw [<- e2,he]; simp)
 ·have h1:=h.tot;rw [he] at h1;simp only [lA,List.length_singleton,length_nil] at h1 ⊢;omega
theorem CaI.come {f:Nat} (h:CaI N B n t [f] c L) {i:Nat} (hi:i<N) (hno:∀ v,((i:Int),v)∉c.2.2.1) {x:Fr8} (h1:x.1=(i:Int)) (h2:x.2.1.length=B) (h3:x.2.2.2=1) (ht:1<=t) {ch:Chn} (hc:ChI n ch L) :
  CaI N B n t [] (c.1,c.2.1.set f x,c.2.2.1 ++ [((i:Int),(f:Int))],c.2.2.2.1,ch) L:=by
 obtain ⟨hf,hfe,hfm⟩:=h.hol f (by simp);have hfl:f<c.2.1.length:=by rw [h.frl]; exact hf
 have g:∀ k,(c.2.1.set f x).getD k default=if f=k then x else c.2.1.getD k default:=fun k=>Y2 hfl
 have hne:∀ {j:Int} {k:Nat},(j,(k:Int))∈c.2.2.1->f≠k:=fun {j k} hjk e=>hfm j (by rw [e]; exact hjk);refine ⟨h.dsz,h.dim,by rw [length_set,h.frl],?_,fun p hp=>?_,h.emp,h.end_,by simp,?_,hc,fun k=>?_⟩
 ·dsimp only;rw [List.map_append,List.nodup_append];refine ⟨h.mnd,by simp,fun a ha b hb e=>?_⟩;obtain ⟨p,hp,rfl⟩:=List.mem_map.1 ha;simp only [List.map_cons,List.map_nil,List.mem_singleton] at hb;exact hno p.2 (by rw [<- hb,<- e]; exact hp)
 ·rcases List.mem_append.1 hp with q | q
  ·obtain ⟨j,k,e,okk⟩:=h.mok p q;have hk:f≠k:=hne (j:=(j:Int)) (by rw [<- e]; exact q);refine ⟨j,k,e,okk.hi,okk.hf,?_,?_,?_,okk.emp⟩
   ·dsimp only; rw [g k,iF hk]; exact okk.blk
   ·dsimp only; rw [g k,iF hk]; exact okk.len
   ·dsimp only; rw [g k,iF hk]; exact okk.pin
  ·rw [List.mem_singleton] at q;refine ⟨i,f,q,hi,hf,?_,?_,?_,hfe⟩
   ·dsimp only; rw [g f,iT rfl]; exact h1
   ·dsimp only; rw [g f,iT rfl]; exact h2
   ·dsimp only; rw [g f,iT rfl,h3]; omega
 ·have h1:=h.tot;simp only [lA,List.length_singleton,length_nil] at h1 ⊢;omega
 ·dsimp only;rw [g k];constructor
  ·intro hk;obtain ⟨⟨j,hj⟩,hp⟩:=(h.lok k).1 hk;rw [iF (hne hj)];exact ⟨⟨j,by simp [hj]⟩,hp⟩
  ·rintro ⟨⟨j,hj⟩,hp⟩;rcases List.mem_append.1 hj with q | q
   ·rw [iF (hne q)] at hp;exact (h.lok k).2 ⟨⟨j,q⟩,hp⟩
   ·rw [List.mem_singleton,Prod.mk.injEq] at q;have:f=k:=by omega
    rw [iT this,h3] at hp;omega
end
structure Siz (N B n:Nat):Prop where
 hB:1<=B
 hN:1<=N
 hNB:N*B<=4294967296
 hn:1<=n
 h64:n<=64
section
variable {N B n t:Nat} {H:List Nat} {c:Ca} {L:List Nat}
theorem Siz.N_le (z:Siz N B n):N<=4294967296:=Nat.le_trans (Nat.le_mul_of_pos_right N z.hB) z.hNB
theorem Siz.B_le (z:Siz N B n):B<=4294967296:=Nat.le_trans (Nat.le_mul_of_pos_left B z.hN) z.hNB
theorem Zbu (z:Siz N B n) (h:CaI N B n t [] c L) {i f:Nat} (ha:((i:Int),(f:Int))∈c.2.2.1):∃ ch,Q19.f c (f:Int)=some (c.1,c.2.1.set f (0,[],false,0),Xy (i:Int) c.2.2.1,c.2.2.2.1 ++ [(f:Int)],ch)/\CaI N B n t [] (c.1,c.2.1.set f (0,[],false,0),Xy (i:Int) c.2.2.1,c.2.2.2.1 ++ [(f:Int)],ch) (L.erase f):=by
 have ok:=h.atN ha;have h64:=z.h64;obtain ⟨r,ch,e,hc⟩:=Zjd h.chn ok.hf (by omega);have hfl:=h.frl;have htot:=h.tot;have hf:=ok.hf;refine ⟨ch,?_,h.leave ha h64 hc⟩;unfold Q19.f;rw [iO,show Q23.f (c.2.2.2.2.1,c.2.2.2.2.2) (f:Int)=_ from e,bS,iT (by simp only [List.length_singleton]; omega),show (gt c.2.1 (f:Int)).1=(i:Int) by rw [Yo]; exact ok.blk,tN]
theorem Zh2 (z:Siz N B n) (h:CaI N B n t H c L) {i f:Nat} (ha:((i:Int),(f:Int))∈c.2.2.1):Q53.f c.1 (gt c.2.1 (f:Int)).1 (gt c.2.1 (f:Int)).2.1=some (0,c.1.1,patch c.1.2.1 (i*B) B (gt c.2.1 (f:Int)).2.1,c.1.2.2.1,uH.wrap (c.1.2.2.2+1)):=by
 have ok:=h.atN ha;have hi:=ok.hi;have hNl:=z.N_le;rw [show (gt c.2.1 (f:Int)).1=(i:Int) by rw [Yo]; exact ok.blk];have:=Zi6 (b:=(gt c.2.1 (f:Int)).2.1) (s:=c.1.2.2) z.hB z.hN h.dim z.hNB (show i<4294967296 by omega);rw [<- h.dsz] at this;rw [show Q53.f c.1 (i:Int) (gt c.2.1 (f:Int)).2.1=_ from this,iQ,iT (by rw [Yo]; exact ok.len)]
theorem CaI.back (z:Siz N B n) (h:CaI N B n t H c L) {i f:Nat} (ha:((i:Int),(f:Int))∈c.2.2.1) (s:TY):CaI N B n t H ((c.1.1,patch c.1.2.1 (i*B) B (gt c.2.1 (f:Int)).2.1,s),c.2.1.set f ((gt c.2.1 (f:Int)).1,(gt c.2.1 (f:Int)).2.1,false,(gt c.2.1 (f:Int)).2.2.2),c.2.2) L:=by
 have ok:=h.atN ha;have g:gt c.2.1 (f:Int)=c.2.1.getD f default:=Yo _ _;have h1:=h.setfr ha (x:=((gt c.2.1 (f:Int)).1,(gt c.2.1 (f:Int)).2.1,false,(gt c.2.1 (f:Int)).2.2.2)) (by rw [g]; exact ok.blk) (by rw [g]; exact ok.len) (by rw [g]; exact ok.pin) (Nat.le_refl t) h.chn (fun k=>by
  split
  ·rename_i q;subst q;rw [h.lok k,g];exact ⟨fun e=>e.2,fun e=>⟨⟨_,ha⟩,e⟩⟩
  ·exact Iff.rfl)
 exact h1.dev (Zhr h.dim ok.hi) s
theorem Zmw (z:Siz N B n) (h:CaI N B n t [] c L) (hw:0<=c.1.2.2.2/\c.1.2.2.2<=1000000000):Q21.f c=some (0,false,c)\/
  ∃(f:Nat) (c':Ca) (L':List Nat),Q21.f c=some ((f:Int),true,c')/\CaI N B n t [f] c' L'/\c'.1.2.2.1=c.1.2.2.1/\(c.1.2.2.2<=c'.1.2.2.2/\c'.1.2.2.2<=c.1.2.2.2+1)/\∀ p∈c'.2.2.1,p∈c.2.2.1:=by
 have h64:=z.h64;have htot:=h.tot;have hfl:=h.frl;have wr:uH.wrap (c.1.2.2.2+1)=c.1.2.2.2+1:=by
  obtain ⟨m,hm⟩:=Int.eq_ofNat_of_zero_le hw.1;have:c.1.2.2.2+1=((m+1:Nat):Int):=by omega
  rw [this];simp [IntKind.wrap,IntKind.bits,IntKind.signed];omega
 by_cases he:c.2.2.2.1=[]
 ·have e0:(decide ((c.2.2.2.1.length:Int)=0))=true:=by rw [he]; rfl
  rcases List.eq_nil_or_concat L with rfl | ⟨L0,q,hq⟩
  ·left;unfold Q21.f;rw [iT e0,show Q25.f (c.2.2.2.2.1,c.2.2.2.2.2)=_ from Zc6 h.chn,bS,iU]
  ·right;rw [List.concat_eq_append] at hq;subst hq;obtain ⟨⟨j,hj⟩,hp⟩:=(h.lok q).1 (by simp);obtain ⟨i,q',rfl,e2,ok⟩:=h.at hj;have:q=q':=by omega
   subst this;have hf:=ok.hf;unfold Q21.f;rw [iT e0,show Q25.f (c.2.2.2.2.1,c.2.2.2.2.2)=_ from Zkc h.chn (by omega),bS,vS]
   try dsimp only
   rw [iO];have one:w64 ((([] ++ [(q:Int)]:List Int).length:Int) - 1)=0:=by
    show w64 (((1:Nat):Int) - 1)=0;decide
   by_cases hd:(gt c.2.1 (q:Int)).2.2.1=true
   ·have hb:=h.back z hj (c.1.2.2.1,c.1.2.2.2+1);obtain ⟨ch,e,hl⟩:=Zbu z hb (by exact hj);rw [iT hd,show Q53.f (c.1.1,c.1.2.1,(c.1.2.2.1,c.1.2.2.2)) (gt c.2.1 (q:Int)).1 (gt c.2.1 (q:Int)).2.1=_ from Zh2 z h hj,bS]
    try dsimp only
    rw [wr,tN,show Q19.f ((c.1.1,patch c.1.2.1 (i*B) B (gt c.2.1 (q:Int)).2.1,c.1.2.2.1,c.1.2.2.2+1),c.2.1.set q ((gt c.2.1 (q:Int)).1,(gt c.2.1 (q:Int)).2.1,false,(gt c.2.1 (q:Int)).2.2.2),c.2.2.1,c.2.2.2.1,c.2.2.2.2.1,c.2.2.2.2.2) (q:Int)=_ from e,bS]
    try dsimp only
    rw [he,one,iU,iU];refine ⟨q,_,_,rfl,hl.take (E:=[]) (by dsimp only; rw [he]),rfl,by dsimp only; omega,fun p hp=>mdel_sub.subset hp⟩
   ·obtain ⟨ch,e,hl⟩:=Zbu z h hj;rw [iF hd,show Q19.f ((c.1.1,c.1.2.1,(c.1.2.2.1,c.1.2.2.2)),c.2.1,c.2.2.1,c.2.2.2.1,(c.2.2.2.2.1,c.2.2.2.2.2)) (q:Int)=_ from e,bS]
    try dsimp only
    rw [he,one,iU,iU];refine ⟨q,_,_,rfl,hl.take (E:=[]) (by dsimp only; rw [he]),rfl,by dsimp only; omega,fun p hp=>mdel_sub.subset hp⟩
 ·right;obtain ⟨E,x,hx⟩:∃ E x,c.2.2.2.1=E ++ [x]:=by
   rcases List.eq_nil_or_concat c.2.2.2.1 with e | ⟨E,x,e⟩
   ·exact absurd e he
   ·exact ⟨E,x,by rw [e,List.concat_eq_append]⟩
  obtain ⟨f,rfl,hf⟩:=h.emp x (by rw [hx]; simp);have hll:c.2.2.2.1.length=E.length+1:=by rw [hx]; simp
  have e1:w64 ((c.2.2.2.1.length:Int) - 1)=(E.length:Int):=by rw [wI2]; omega
  unfold Q21.f;rw [iN,e1,iO,iO,tN];have e2:gt c.2.2.2.1 (E.length:Int)=(f:Int):=by
   rw [Yo,hx,List.getD_eq_getElem?_getD,List.getElem?_append_right (Nat.le_refl _)]; simp
  have e3:c.2.2.2.1.take E.length=E:=by rw [hx,List.take_left]
  rw [e2,e3];exact ⟨f,_,_,rfl,h.take hx,rfl,by dsimp only; omega,fun p hp=>hp⟩
end
section
variable {N B n t:Nat} {c:Ca} {L:List Nat}
structure Few (c:Ca):Prop where
 rd:0<=c.1.2.2.1/\c.1.2.2.1<=100000000
 wr:0<=c.1.2.2.2/\c.1.2.2.2<=100000000
theorem Zkb {x:Int} (h:0<=x/\x<=1000000000):uH.wrap (x+1)=x+1:=by
 obtain ⟨m,hm⟩:=Int.eq_ofNat_of_zero_le h.1;have:x+1=((m+1:Nat):Int):=by omega
 rw [this];simp [IntKind.wrap,IntKind.bits,IntKind.signed];omega
theorem Zk4 (z:Siz N B n) {H:List Nat} (h:CaI N B n t H c L):Q50.f c.1=some (N:Int):=by
 have:=Uh (s:=c.1.2.2) z.hB h.dim z.hNB;rw [<- h.dsz] at this;exact this
theorem Zlw (z:Siz N B n) {H:List Nat} (h:CaI N B n t H c L) (i:Nat) (hi:i<4294967296):Q22.f c (i:Int)=some (if N<=i then 4 else 0):=by
 have hN:=z.N_le;unfold Q22.f Q20.f;rw [bS,vS,show Q50.f (c.1.1,c.1.2.1,(c.1.2.2.1,c.1.2.2.2))=_ from Zk4 z h,bS,wI2 (x:=(i:Int))];by_cases q:N<=i
 ·rw [iP,iT q]
 ·rw [iN,iF q]
theorem Zmj (z:Siz N B n) {H:List Nat} (h:CaI N B n t H c L) {i:Nat} (hi:i<N):Q52.f c.1 (i:Int)=some (blk c.1.2.1 B i,0,(c.1.1,c.1.2.1,uH.wrap (c.1.2.2.1+1),c.1.2.2.2)):=by
 have hN:=z.N_le;have:=Zkq (s:=c.1.2.2) z.hB z.hN h.dim z.hNB (show i<4294967296 by omega);rw [<- h.dsz] at this;rw [show Q52.f c.1 (i:Int)=_ from this,iQ]
theorem Zhu {es:TP} {x v:Int} (h:∀ v,(x,v)∉es):X2 x v es=es ++ [(x,v)]:=Zbh (by
 cases q:Yw es x with
 | false=>rfl
 | true=>obtain ⟨v,hv⟩:=mhas_iff.1 q; exact absurd hv (h v))
theorem Zio (h:CaI N B n t [] c L) {f:Nat} {p:Int} (hp:p≠0) (g:Nat):g∈L.erase f↔if g=f then p=0 else g∈L:=by
 rw [h.chn.nd.mem_erase_iff];split
 ·rename_i e; exact ⟨fun q=>absurd e q.1,fun q=>absurd q hp⟩
 ·rename_i e; exact ⟨fun q=>q.2,fun q=>⟨e,q⟩⟩
end
section
variable {N B n t:Nat} {c:Ca} {L:List Nat}
theorem Zmi (z:Siz N B n) {img:TZ} (hl:img.length=N*B) (s:TY) {ch:Chn} (hc:ChI n ch []):CaI N B n 0 [] (((B:Int),img,s),List.replicate n (0,[],false,0),[],(List.range n).map (fun(i:Nat)=>(i:Int)),ch) []:=by
 refine ⟨rfl,hl,by simp,by simp,by simp,fun x hx=>?_,?_,by simp,by simp,hc,by simp⟩
 ·obtain ⟨i,hi,rfl⟩:=List.mem_map.1 hx;exact ⟨i,rfl,List.mem_range.1 hi⟩
 ·exact List.Pairwise.map _ (fun a b hne e=>hne (by have:(a:Int)=(b:Int):=e; omega)) List.nodup_range
end
def upd {α:Type} (g:Nat->α) (i:Nat) (v:α):Nat->α:=fun j=>if j=i then v else g j
theorem Y3 {α:Type} (g:Nat->α) (i:Nat) (v:α):upd g i v i=v:=iT rfl
theorem Xh {α:Type} {g:Nat->α} {i j:Nat} {v:α} (h:j≠i:=by omega):upd g i v j=g j:=iF h
structure Fm where
 b:List Int
 d:Bool
 p:Nat
structure MC where
 img:List Int
 rd:Int
 wr:Int
 fr:Nat->Option Fm
 used:Nat
 row:List Nat
def fm (x:Fr8):Fm:=⟨x.2.1,x.2.2.1,x.2.2.2.toNat⟩
def Xk (c:Ca) (i:Nat):Option Fm:=if Yw c.2.2.1 (i:Int)=true then some (fm (c.2.1.getD (Zq 0 c.2.2.1 (i:Int)).toNat default)) else none
def Xp (c:Ca) (f:Nat):Nat:=(c.2.1.getD f default).1.toNat
def Yk (c:Ca) (L:List Nat):MC:=⟨c.1.2.1,c.1.2.2.1,c.1.2.2.2,Xk c,c.2.2.1.length,L.map (Xp c)⟩
namespace MC
def evict (B:Nat) (m:MC) (q:Nat):MC:=match m.fr q with
 | none=>m
 | some x=>⟨if x.d=true then patch m.img (q*B) B x.b else m.img,m.rd,if x.d=true then m.wr+1 else m.wr,upd m.fr q none,m.used - 1,m.row.erase q⟩
def room (B n:Nat) (m:MC):Option MC:=if m.used<n then some m else match m.row.getLast? with
 | none=>none
 | some q=>some (m.evict B q)
def come (m:MC) (i:Nat) (x:Fm):MC:=⟨m.img,m.rd,m.wr,upd m.fr i (some x),m.used+1,m.row⟩
def put (m:MC) (i:Nat) (x:Fm):MC:=⟨m.img,m.rd,m.wr,upd m.fr i (some x),m.used,m.row⟩
def cut (m:MC) (i:Nat):MC:=⟨m.img,m.rd,m.wr,m.fr,m.used,m.row.erase i⟩
def pin (N B n:Nat) (m:MC) (i:Nat):Int×MC:=
 if N<=i then (4,m) else match m.fr i with
 | some x=>(0,(m.put i ⟨x.b,x.d,x.p+1⟩).cut i)
 | none=>match m.room B n with
  | none=>(7,m)
  | some k=>(0,(⟨k.img,k.rd+1,k.wr,k.fr,k.used,k.row⟩:MC).come i ⟨blk k.img B i,false,1⟩)
def unpin (m:MC) (i:Nat):Int×MC:=match m.fr i with
 | none=>(8,m)
 | some x=>if x.p=0 then (8,m) else (0,if x.p=1 then ⟨m.img,m.rd,m.wr,upd m.fr i (some ⟨x.b,x.d,0⟩),m.used,i :: m.row⟩ else m.put i ⟨x.b,x.d,x.p - 1⟩)
def read (m:MC) (i:Nat):List Int×Int:=match m.fr i with
 | none=>([],8)
 | some x=>if x.p=0 then ([],8) else (x.b,0)
end MC
theorem MC.ext' {a b:MC} (h1:a.img=b.img) (h2:a.rd=b.rd) (h3:a.wr=b.wr) (h4:∀ i,a.fr i=b.fr i) (h5:a.used=b.used) (h6:a.row=b.row):a=b:=by
 cases a; cases b;simp only at h1 h2 h3 h4 h5 h6;subst h1 h2 h3 h5 h6;have:=funext h4;subst this;rfl
theorem Bh {g:Nat->Nat}:∀ {L:List Nat} {a:Nat},(∀ x∈L,g x=g a->x=a)->(L.erase a).map g=(L.map g).erase (g a)
 | [],_,_=>rfl
 | x :: L,a,h=>by
  rw [List.map_cons,List.erase_cons,List.erase_cons];by_cases q:x=a
  ·subst q; simp
  ·have:¬ g x=g a:=fun e=>q (h x (by simp) e);simp only [beq_iff_eq,q,this,if_false,List.map_cons];rw [Bh fun y hy=>h y (by simp [hy])]
section
variable {N B n t:Nat} {H:List Nat} {c:Ca} {L:List Nat}
theorem V9 (h:CaI N B n t H c L) {i f:Nat} (ha:((i:Int),(f:Int))∈c.2.2.1):Xk c i=some (fm (c.2.1.getD f default)):=by
 unfold Xk;rw [iT (mhas_iff.2 ⟨_,ha⟩),Xs h.mnd ha,tN]
theorem J0 {i:Nat} (h:∀ v,((i:Int),v)∉c.2.2.1):Xk c i=none:=by
 unfold Xk;rw [iF fun q=>by obtain ⟨v,hv⟩:=mhas_iff.1 q; exact h v hv]
theorem Wz (h:CaI N B n t [] c L) {f:Nat} (hf:f∈L):∃ i:Nat,((i:Int),(f:Int))∈c.2.2.1/\Xp c f=i/\(c.2.1.getD f default).2.2.2=0/\Okf N B n t c i f:=by
 obtain ⟨⟨j,hj⟩,hp⟩:=(h.lok f).1 hf;obtain ⟨i,f',e1,e2,ok⟩:=h.at hj;have:f=f':=by omega
 subst this;refine ⟨i,by rw [<- e1]; exact hj,?_,hp,ok⟩;unfold Xp;rw [ok.blk,tN]
theorem Gf (h:CaI N B n t H c L) {i f:Nat} (ha:((i:Int),(f:Int))∈c.2.2.1):Xp c f=i:=by
 unfold Xp; rw [(h.atN ha).blk,tN]
theorem Bn (h:CaI N B n t H c L) {i f f':Nat} (h1:((i:Int),(f:Int))∈c.2.2.1) (h2:((i:Int),(f':Int))∈c.2.2.1):f=f':=by
 have a1:=Xs (d:=0) h.mnd h1;have a2:=Xs (d:=0) h.mnd h2;omega
theorem G9 (h:CaI N B n t [] c L) {i f:Nat} (ha:((i:Int),(f:Int))∈c.2.2.1):(L.erase f).map (Xp c)=(L.map (Xp c)).erase i:=by
 have e:=Gf h ha
 conv=>rhs; rw [<- e]
 refine Bh fun x hx q=>?_;obtain ⟨j,hj,e2,_⟩:=Wz h hx;have:j=i:=by omega
 subst this;exact Bn h hj ha
theorem Zlc (h:CaI N B n t [] c L) {i f:Nat} (ha:((i:Int),(f:Int))∈c.2.2.1):i∈L.map (Xp c)↔f∈L:=by
 constructor
 ·intro q;obtain ⟨x,hx,e⟩:=List.mem_map.1 q;obtain ⟨j,hj,e2,_⟩:=Wz h hx;have:j=i:=by omega
  subst this;rw [<- Bn h hj ha]; exact hx
 ·intro q;exact List.mem_map.2 ⟨f,q,Gf h ha⟩
theorem Zdr {f:Nat} {x:Fr8} (hf:f<c.2.1.length) {d:Dv} {mp:TP} {E:TZ} {ch:Chn} (k:Nat):Xp (d,c.2.1.set f x,mp,E,ch) k=if f=k then x.1.toNat else Xp c k:=by
 unfold Xp
 try dsimp only
 rw [Y2 hf];split <;> rfl
theorem Vv {f:Nat} {x:Fr8} (hf:f<c.2.1.length) (hx:x.1.toNat=Xp c f) {d:Dv} {mp:TP} {E:TZ} {ch:Chn} (M:List Nat):M.map (Xp (d,c.2.1.set f x,mp,E,ch))=M.map (Xp c):=List.map_congr_left fun k _=>by
 rw [Zdr hf];split
 ·rename_i q; rw [hx,q]
 ·rfl
theorem Jt {f:Nat} {x:Fr8} (hf:f<c.2.1.length) {d:Dv} {mp:TP} {E:TZ} {ch:Chn} {M:List Nat} (hM:f∉M):M.map (Xp (d,c.2.1.set f x,mp,E,ch))=M.map (Xp c):=List.map_congr_left fun k hk=>by
 rw [Zdr hf,iF fun q=>hM (by rw [q]; exact hk)]
theorem Gj (h:CaI N B n t H c L) {i f:Nat} (ha:((i:Int),(f:Int))∈c.2.2.1) {x:Fr8} {d:Dv} {E:TZ} {ch:Chn} (j:Nat):Xk (d,c.2.1.set f x,c.2.2.1,E,ch) j=upd (Xk c) i (some (fm x)) j:=by
 have ok:=h.atN ha;have hfl:f<c.2.1.length:=by rw [h.frl]; exact ok.hf
 by_cases q:j=i
 ·subst q;rw [Y3];unfold Xk
  try dsimp only
  rw [iT (mhas_iff.2 ⟨_,ha⟩),Xs h.mnd ha,tN,Y2 hfl,iT rfl]
 ·rw [Xh q];unfold Xk
  try dsimp only
  split
  ·rename_i hm;obtain ⟨v,hv⟩:=mhas_iff.1 hm;obtain ⟨j',f',e1,rfl,ok'⟩:=h.at hv;have e3:j=j':=by omega
   subst e3;rw [Xs h.mnd hv,tN,Y2 hfl,iF];intro e; subst e; exact q (h.one hv ha)
  ·rfl
theorem Zde (h:CaI N B n t H c L) (i j:Nat):Yw (Xy (i:Int) c.2.2.1) (j:Int)=(Yw c.2.2.1 (j:Int) && decide (j≠i)):=by
 rw [Bool.eq_iff_iff,mhas_iff,Bool.and_eq_true,mhas_iff,dE];constructor
 ·rintro ⟨v,hv⟩;rw [Vj h.mnd] at hv;exact ⟨⟨v,hv.1⟩,fun e=>hv.2 (by rw [e])⟩
 ·rintro ⟨⟨v,hv⟩,e⟩;exact ⟨v,(Vj h.mnd).2 ⟨hv,fun q=>e (by have:(j:Int)=i:=q; omega)⟩⟩
theorem Zbm (h:CaI N B n t H c L) {i f:Nat} (ha:((i:Int),(f:Int))∈c.2.2.1) {x:Fr8} {d:Dv} {E:TZ} {ch:Chn} (j:Nat):Xk (d,c.2.1.set f x,Xy (i:Int) c.2.2.1,E,ch) j=upd (Xk c) i none j:=by
 have ok:=h.atN ha;have hfl:f<c.2.1.length:=by rw [h.frl]; exact ok.hf
 by_cases q:j=i
 ·subst q;rw [Y3];unfold Xk
  try dsimp only
  rw [iF (by rw [Zde h]; simp)]
 ·rw [Xh q];unfold Xk
  try dsimp only
  rw [Zde h];by_cases hm:Yw c.2.2.1 (j:Int)=true
  ·obtain ⟨v,hv⟩:=mhas_iff.1 hm;obtain ⟨j',f',e1,rfl,ok'⟩:=h.at hv;have e3:j=j':=by omega
   subst e3;have hv':((j:Int),(f':Int))∈Xy (i:Int) c.2.2.1:=(Vj h.mnd).2 ⟨hv,fun e=>q (by have:(j:Int)=i:=e; omega)⟩;rw [iT (by rw [hm]; simp [q]),iT hm,Xs ((mdel_sub.map _).nodup h.mnd) hv',Xs h.mnd hv,tN,Y2 hfl,iF];intro e; subst e; exact q (h.one hv ha)
  ·rw [iF hm,iF (by simp [hm])]
theorem Zik {f:Nat} (h:CaI N B n t [f] c L) {i:Nat} (hno:∀ v,((i:Int),v)∉c.2.2.1) {x:Fr8} {d:Dv} {E:TZ} {ch:Chn} (j:Nat):Xk (d,c.2.1.set f x,c.2.2.1 ++ [((i:Int),(f:Int))],E,ch) j=upd (Xk c) i (some (fm x)) j:=by
 obtain ⟨hf,hfe,hfm⟩:=h.hol f (by simp);have hfl:f<c.2.1.length:=by rw [h.frl]; exact hf
 have hnd:((c.2.2.1 ++ [((i:Int),(f:Int))]).map Prod.fst).Nodup:=by
  rw [List.map_append,List.nodup_append];refine ⟨h.mnd,by simp,fun a ha b hb e=>?_⟩;obtain ⟨p,hp,rfl⟩:=List.mem_map.1 ha;simp only [List.map_cons,List.map_nil,List.mem_singleton] at hb;exact hno p.2 (by rw [<- hb,<- e]; exact hp)
 unfold Xk
 try dsimp only
 by_cases q:j=i
 ·subst q;have hv:((j:Int),(f:Int))∈c.2.2.1 ++ [((j:Int),(f:Int))]:=by simp
  rw [Y3,iT (mhas_iff.2 ⟨_,hv⟩),Xs hnd hv,tN,Y2 hfl,iT rfl]
 ·rw [Xh q];by_cases hm:Yw c.2.2.1 (j:Int)=true
  ·obtain ⟨v,hv⟩:=mhas_iff.1 hm;obtain ⟨j',f',e1,rfl,ok'⟩:=h.at hv;have e3:j=j':=by omega
   subst e3;have hv':((j:Int),(f':Int))∈c.2.2.1 ++ [((i:Int),(f:Int))]:=by simp [hv]
   rw [iT (mhas_iff.2 ⟨_,hv'⟩),iT hm,Xs hnd hv',Xs h.mnd hv,tN,Y2 hfl,iF];intro e; subst e; exact hfm _ hv
  ·rw [iF hm,iF];intro hm2;obtain ⟨v,hv⟩:=mhas_iff.1 hm2;rcases List.mem_append.1 hv with hv | hv
   ·exact hm (mhas_iff.2 ⟨v,hv⟩)
   ·rw [List.mem_singleton,Prod.mk.injEq] at hv;exact q (by omega)
theorem Zlf (h:CaI N B n t H c L) {i:Nat} {x:Fm} (hx:Xk c i=some x):i<N/\x.b.length=B/\x.p<=t:=by
 unfold Xk at hx;split at hx
 ·rename_i hm;obtain ⟨v,hv⟩:=mhas_iff.1 hm;obtain ⟨j',f',e1,rfl,ok'⟩:=h.at hv;have e3:i=j':=by omega
  subst e3;rw [Xs h.mnd hv,tN] at hx;injection hx with hx;subst hx;refine ⟨ok'.hi,ok'.len,?_⟩;have:=ok'.pin;unfold fm
  try dsimp only
  omega
 ·cases hx
end
namespace MC
section
variable {N B n i:Nat} {m k:MC} {x:Fm} {b:TZ}
theorem pin_out (h:N<=i):m.pin N B n i=(4,m):=by unfold pin; rw [iT h]
theorem pin_hit (h:¬ N<=i) (e:m.fr i=some x):m.pin N B n i=(0,(m.put i ⟨x.b,x.d,x.p+1⟩).cut i):=by unfold pin; rw [iF h,e]
theorem pin_full (h:¬ N<=i) (e:m.fr i=none) (r:m.room B n=none):m.pin N B n i=(7,m):=by unfold pin; rw [iF h,e,r]
theorem pin_miss (h:¬ N<=i) (e:m.fr i=none) (r:m.room B n=some k):m.pin N B n i=(0,(⟨k.img,k.rd+1,k.wr,k.fr,k.used,k.row⟩:MC).come i ⟨blk k.img B i,false,1⟩):=by unfold pin; rw [iF h,e,r]
theorem unpin_no (e:m.fr i=none):m.unpin i=(8,m):=by unfold unpin; rw [e]
theorem unpin_out (e:m.fr i=some x) (p:x.p=0):m.unpin i=(8,m):=by unfold unpin; rw [e]; exact iT p
theorem unpin_one (e:m.fr i=some x) (p:x.p=1):m.unpin i=(0,⟨m.img,m.rd,m.wr,upd m.fr i (some ⟨x.b,x.d,0⟩),m.used,i :: m.row⟩):=by unfold unpin; rw [e]; dsimp only; rw [iQ,iT p]
theorem unpin_more (e:m.fr i=some x) (p:x.p≠0) (q:x.p≠1):m.unpin i=(0,m.put i ⟨x.b,x.d,x.p - 1⟩):=by unfold unpin; rw [e]; dsimp only; rw [iF p,iF q]
theorem read_no (e:m.fr i=none):m.read i=([],8):=by unfold read; rw [e]
theorem read_out (e:m.fr i=some x) (p:x.p=0):m.read i=([],8):=by unfold read; rw [e]; exact iT p
theorem read_hit (e:m.fr i=some x) (p:x.p≠0):m.read i=(x.b,0):=by unfold read; rw [e]; exact iF p
theorem evict_eq (e:m.fr i=some x):m.evict B i=⟨if x.d=true then patch m.img (i*B) B x.b else m.img,m.rd,if x.d=true then m.wr+1 else m.wr,upd m.fr i none,m.used - 1,m.row.erase i⟩:=by unfold evict; rw [e]
end
end MC
section
variable {N B n t:Nat} {H:List Nat} {c:Ca} {L:List Nat}
theorem Zk2 {α:Type} (g:Nat->α) (i:Nat) (u v:α) (j:Nat):upd (upd g i u) i v j=upd g i v j:=by unfold upd; split <;> rfl
theorem Zi0 {α:Type} {g g':Nat->α} (h:∀ j,g j=g' j) (i:Nat) (v:α) (j:Nat):upd g i v j=upd g' i v j:=by unfold upd; split; rfl; exact h j
theorem Zd6 (h:CaI N B n t [] c L) (f:Nat):f∉L.erase f:=fun q=>(h.chn.nd.mem_erase_iff.1 q).1 rfl
theorem Zm2 (z:Siz N B n) (h:CaI N B n t [] c L) (hw:0<=c.1.2.2.2/\c.1.2.2.2<=1000000000):(Q21.f c=some (0,false,c)/\(Yk c L).room B n=none)\/
  ∃(f:Nat) (c':Ca) (L':List Nat),Q21.f c=some ((f:Int),true,c')/\CaI N B n t [f] c' L'/\(Yk c L).room B n=some (Yk c' L')/\f∉L':=by
 have h64:=z.h64;have htot:=h.tot;have hfl:=h.frl;have wr:uH.wrap (c.1.2.2.2+1)=c.1.2.2.2+1:=Zkb hw;have hru:(Yk c L).used=c.2.2.1.length:=rfl;by_cases he:c.2.2.2.1=[]
 ·have e0:(decide ((c.2.2.2.1.length:Int)=0))=true:=by rw [he]; rfl
  have eu:¬ (Yk c L).used<n:=by rw [hru]; rw [he] at htot; simp only [length_nil] at htot; omega
  rcases List.eq_nil_or_concat L with rfl | ⟨L0,q,hq⟩
  ·left;refine ⟨?_,?_⟩
   ·unfold Q21.f;rw [iT e0,show Q25.f (c.2.2.2.2.1,c.2.2.2.2.2)=_ from Zc6 h.chn,bS,iU]
   ·unfold MC.room;rw [iF eu];rfl
  ·right;rw [List.concat_eq_append] at hq;subst hq;obtain ⟨⟨j,hj⟩,hp⟩:=(h.lok q).1 (by simp);obtain ⟨i,q',rfl,e2,ok⟩:=h.at hj;have:q=q':=by omega
   subst this;have hf:=ok.hf;have hqn:q∉(L0 ++ [q]).erase q:=Zd6 h q;have hfr:=V9 h hj;have g:gt c.2.1 (q:Int)=c.2.1.getD q default:=Yo _ _;have hrm:(Yk c (L0 ++ [q])).room B n=some ((Yk c (L0 ++ [q])).evict B i):=by
    unfold MC.room;rw [iF eu];have:(Yk c (L0 ++ [q])).row.getLast?=some i:=by
     show ((L0 ++ [q]).map (Xp c)).getLast?=_;rw [List.map_append,List.map_cons,List.map_nil,List.getLast?_concat,Gf h hj]
    rw [this]
   have hml:=Za2 (mhas_iff.2 ⟨_,hj⟩);unfold Q21.f;rw [iT e0,show Q25.f (c.2.2.2.2.1,c.2.2.2.2.2)=_ from Zkc h.chn (by omega),bS,vS]
   try dsimp only
   rw [iO];have one:w64 ((([] ++ [(q:Int)]:List Int).length:Int) - 1)=0:=by
    show w64 (((1:Nat):Int) - 1)=0;decide
   rw [hrm,MC.evict_eq (show (Yk c (L0 ++ [q])).fr i=_ from hfr)];by_cases hd:(gt c.2.1 (q:Int)).2.2.1=true
   ·have hb:=h.back z hj (c.1.2.2.1,c.1.2.2.2+1);obtain ⟨ch,e,hl⟩:=Zbu z hb (by exact hj);have hd':(fm (c.2.1.getD q default)).d=true:=by rw [<- g]; exact hd
    rw [iT hd,show Q53.f (c.1.1,c.1.2.1,(c.1.2.2.1,c.1.2.2.2)) (gt c.2.1 (q:Int)).1 (gt c.2.1 (q:Int)).2.1=_ from Zh2 z h hj,bS]
    try dsimp only
    rw [wr,tN,show Q19.f ((c.1.1,patch c.1.2.1 (i*B) B (gt c.2.1 (q:Int)).2.1,c.1.2.2.1,c.1.2.2.2+1),c.2.1.set q ((gt c.2.1 (q:Int)).1,(gt c.2.1 (q:Int)).2.1,false,(gt c.2.1 (q:Int)).2.2.2),c.2.2.1,c.2.2.2.1,c.2.2.2.2.1,c.2.2.2.2.2) (q:Int)=_ from e,bS]
    try dsimp only
    rw [he,one,iU,iU,iT hd',iT hd'];refine ⟨q,_,(L0 ++ [q]).erase q,rfl,hl.take (E:=[]) (by dsimp only; rw [he]),congrArg some (MC.ext' ?_ rfl rfl ?_ ?_ ?_),hqn⟩
    ·show patch c.1.2.1 (i*B) B (fm (c.2.1.getD q default)).b=_;rw [<- g]; rfl
    ·intro j;show upd (Xk c) i none j=_;refine Eq.trans ?_ (Zbm hb hj j).symm;refine Eq.trans (Zk2 (Xk c) i _ none j).symm (Zi0 (fun j=>(Gj h hj j).symm) i none j)
    ·show c.2.2.1.length - 1=(Xy (i:Int) c.2.2.1).length;omega
    ·show ((L0 ++ [q]).map (Xp c)).erase i=_;have hfl2:=hb.frl;refine Eq.trans (G9 h hj).symm ?_;refine Eq.trans ?_ (Jt (c:=((c.1.1,patch c.1.2.1 (i*B) B (gt c.2.1 (q:Int)).2.1,c.1.2.2.1,c.1.2.2.2+1),c.2.1.set q ((gt c.2.1 (q:Int)).1,(gt c.2.1 (q:Int)).2.1,false,(gt c.2.1 (q:Int)).2.2.2),c.2.2)) (by rw [hfl2]; exact hf) hqn).symm;exact (Vv (by omega) (by rw [g]; rfl) _).symm
   ·obtain ⟨ch,e,hl⟩:=Zbu z h hj;have hd':¬ (fm (c.2.1.getD q default)).d=true:=by rw [<- g]; exact hd
    rw [iF hd,show Q19.f ((c.1.1,c.1.2.1,(c.1.2.2.1,c.1.2.2.2)),c.2.1,c.2.2.1,c.2.2.2.1,(c.2.2.2.2.1,c.2.2.2.2.2)) (q:Int)=_ from e,bS]
    try dsimp only
    rw [he,one,iU,iU,iF hd',iF hd'];refine ⟨q,_,(L0 ++ [q]).erase q,rfl,hl.take (E:=[]) (by dsimp only; rw [he]),congrArg some (MC.ext' rfl rfl rfl ?_ ?_ ?_),hqn⟩
    ·intro j;exact (Zbm h hj j).symm
    ·show c.2.2.1.length - 1=(Xy (i:Int) c.2.2.1).length;omega
    ·show ((L0 ++ [q]).map (Xp c)).erase i=_;refine Eq.trans (G9 h hj).symm ?_;exact (Jt (by omega) hqn).symm
 ·right;obtain ⟨E,x,hx⟩:∃ E x,c.2.2.2.1=E ++ [x]:=by
   rcases List.eq_nil_or_concat c.2.2.2.1 with e | ⟨E,x,e⟩
   ·exact absurd e he
   ·exact ⟨E,x,by rw [e,List.concat_eq_append]⟩
  obtain ⟨f,rfl,hf⟩:=h.emp x (by rw [hx]; simp);have hll:c.2.2.2.1.length=E.length+1:=by rw [hx]; simp
  have e1:w64 ((c.2.2.2.1.length:Int) - 1)=(E.length:Int):=by rw [wI2]; omega
  unfold Q21.f;rw [iN,e1,iO,iO,tN];have e2:gt c.2.2.2.1 (E.length:Int)=(f:Int):=by
   rw [Yo,hx,List.getD_eq_getElem?_getD,List.getElem?_append_right (Nat.le_refl _)]; simp
  have e3:c.2.2.2.1.take E.length=E:=by rw [hx,List.take_left]
  rw [e2,e3];refine ⟨f,_,L,rfl,h.take hx,?_,fun q=>?_⟩
  ·unfold MC.room;rw [iT (by rw [hru]; omega)];rfl
  ·obtain ⟨i,hi,_,_,ok⟩:=Wz h q;exact ok.emp (by rw [hx]; simp)
theorem Znq (z:Siz N B n) (h:CaI N B n t [] c L) (fw:Few c) (ht:t<=1000000) (i:Nat) (hi:i<4294967296):∃ c' L',Q15.f c (i:Int)=some (((Yk c L).pin N B n i).1,c')/\CaI N B n (t+1) [] c' L'/\Yk c' L'=((Yk c L).pin N B n i).2:=by
 have h64:=z.h64;have hfl:=h.frl;unfold Q15.f;rw [show Q22.f ((c.1.1,c.1.2.1,(c.1.2.2.1,c.1.2.2.2)),c.2.1,c.2.2.1,c.2.2.2.1,(c.2.2.2.2.1,c.2.2.2.2.2)) (i:Int)=_ from Zlw z h i hi,bS];by_cases q:N<=i
 ·rw [iT q,iU,MC.pin_out q];exact ⟨_,L,rfl,h.mono (Nat.le_succ t),rfl⟩
 ·rw [iF q,vS];rcases h.get i with ⟨g1,g2⟩ | ⟨f,ha,g1,g2,ok⟩
  ·have hno:(Yk c L).fr i=none:=J0 g2;rw [iF (by simp [g1])];rcases Zm2 z h ⟨fw.wr.1,by have:=fw.wr.2; omega⟩ with ⟨e,er⟩ | ⟨f,c1,L1,e,h1,er,hfL⟩
   ·rw [show Q21.f ((c.1.1,c.1.2.1,(c.1.2.2.1,c.1.2.2.2)),c.2.1,c.2.2.1,c.2.2.2.1,(c.2.2.2.2.1,c.2.2.2.2.2))=_ from e,bS,iU,MC.pin_full q hno er];exact ⟨_,L,rfl,h.mono (Nat.le_succ t),rfl⟩
   ·rcases Zmw z h ⟨fw.wr.1,by have:=fw.wr.2; omega⟩ with e' | ⟨f',c1',L1',e',_,k1,k2,k3⟩
    ·rw [e] at e'; simp at e'
    ·rw [e] at e';simp only [Option.some.injEq,Prod.mk.injEq,true_and] at e';have ec:c1=c1':=e'.2;subst ec;obtain ⟨hf,hfe,hfm⟩:=h1.hol f (by simp);have hfl1:=h1.frl;have hno1:∀ v,((i:Int),v)∉c1.2.2.1:=fun v hv=>g2 v (k3 _ hv);obtain ⟨r5,ch,e5,hc5⟩:=Zjd h1.chn hf (by omega);rw [List.erase_of_not_mem hfL] at hc5;rw [show Q21.f ((c.1.1,c.1.2.1,(c.1.2.2.1,c.1.2.2.2)),c.2.1,c.2.2.1,c.2.2.2.1,(c.2.2.2.2.1,c.2.2.2.2.2))=_ from e,bS,vS]
     try dsimp only
     rw [show Q52.f (c1.1.1,c1.1.2.1,(c1.1.2.2.1,c1.1.2.2.2)) (i:Int)=_ from Zmj z h1 (by omega),bS,vS,iO,show Q23.f (c1.2.2.2.2.1,c1.2.2.2.2.2) (f:Int)=_ from e5,bS];have hcm:=(h1.mono (Nat.le_succ t)).come (show i<N by omega) hno1 (x:=((i:Int),blk c1.1.2.1 B i,false,1)) rfl (Zca h1.dim (by omega)) rfl (by omega) hc5
     try dsimp only
     rw [Zkb (by rw [k1]; have:=fw.rd; omega),Zhu hno1,tN,MC.pin_miss q hno er];refine ⟨_,L1,rfl,hcm.dev (s:=(c1.1.2.2.1+1,c1.1.2.2.2)) h1.dim,MC.ext' rfl rfl rfl ?_ ?_ ?_⟩
     ·intro j; exact Zik h1 hno1 j
     ·show (c1.2.2.1 ++ [((i:Int),(f:Int))]).length=c1.2.2.1.length+1;simp
     ·exact Jt (by omega) hfL
  ·have hf:=ok.hf;have hp:=ok.pin;have hfr:(Yk c L).fr i=_:=V9 h ha;obtain ⟨r2,ch,e2,hc2⟩:=Zjd h.chn ok.hf (by omega);have g:gt c.2.1 (f:Int)=c.2.1.getD f default:=Yo _ _;have wp:w64 ((c.2.1.getD f default).2.2.2+1)=(c.2.1.getD f default).2.2.2+1:=wI2;have hs:=h.setfr ha (x:=((gt c.2.1 (f:Int)).1,(gt c.2.1 (f:Int)).2.1,(gt c.2.1 (f:Int)).2.2.1,w64 ((gt c.2.1 (f:Int)).2.2.2+1))) (t':=t+1) (by rw [g]; exact ok.blk) (by rw [g]; exact ok.len) (by rw [g]; dsimp only; rw [wp]; omega) (Nat.le_succ t) hc2 (Zio h (by rw [g]; dsimp only; rw [wp]; omega));rw [iT g1,g2,iO,show Q23.f (c.2.2.2.2.1,c.2.2.2.2.2) (f:Int)=_ from e2,bS,tN,MC.pin_hit q hfr];refine ⟨_,L.erase f,rfl,hs,MC.ext' rfl rfl rfl (fun j=>?_) rfl ?_⟩
   ·refine Eq.trans (Gj h ha j) ?_;show upd (Xk c) i _ j=upd (Xk c) i _ j;congr 2;unfold fm;rw [g]
    try dsimp only
    rw [wp,show ((c.2.1.getD f default).2.2.2+1).toNat=(c.2.1.getD f default).2.2.2.toNat+1 by omega]
   ·exact Eq.trans (Vv (by omega) (by rw [g]; rfl) _) (G9 h ha)
theorem Zlk (z:Siz N B n) (h:CaI N B n t [] c L) (ht:t<=1000000) (i:Nat):∃ c' L',Q17.f c (i:Int)=some (((Yk c L).unpin i).1,c')/\CaI N B n t [] c' L'/\Yk c' L'=((Yk c L).unpin i).2:=by
 have h64:=z.h64;have hfl:=h.frl;unfold Q17.f Q20.f;rw [bS,vS];rcases h.get i with ⟨g1,g2⟩ | ⟨f,ha,g1,g2,ok⟩
 ·rw [iT (by simp [g1]),MC.unpin_no (show (Yk c L).fr i=none from J0 g2)];exact ⟨_,L,rfl,h,rfl⟩
 ·have hf:=ok.hf;have hp:=ok.pin;have hfr:(Yk c L).fr i=_:=V9 h ha;have g:gt c.2.1 (f:Int)=c.2.1.getD f default:=Yo _ _;rw [iF (by simp [g1]),g2,iO];by_cases hp0:(gt c.2.1 (f:Int)).2.2.2=0
  ·rw [iT (dT hp0),MC.unpin_out hfr (by unfold fm; dsimp only; rw [<- g,hp0]; rfl)];exact ⟨_,L,rfl,h,rfl⟩
  ·have wp:w64 ((gt c.2.1 (f:Int)).2.2.2 - 1)=(gt c.2.1 (f:Int)).2.2.2 - 1:=by rw [g]; exact wI2
   have hp1:0<(gt c.2.1 (f:Int)).2.2.2:=by rw [g] at hp0 ⊢; omega
   have hp2:(gt c.2.1 (f:Int)).2.2.2<=t:=by rw [g]; omega
   have hset:gt (c.2.1.set f ((gt c.2.1 (f:Int)).1,(gt c.2.1 (f:Int)).2.1,(gt c.2.1 (f:Int)).2.2.1,w64 ((gt c.2.1 (f:Int)).2.2.2 - 1))) (f:Int)=((gt c.2.1 (f:Int)).1,(gt c.2.1 (f:Int)).2.1,(gt c.2.1 (f:Int)).2.2.1,w64 ((gt c.2.1 (f:Int)).2.2.2 - 1)):=by
    rw [Yo,Y2,iT rfl]
   have hfL:f∉L:=fun hx=>by have:=((h.lok f).1 hx).2; rw [<- g] at this; omega
   have hx0:(fm (c.2.1.getD f default)).p=(c.2.1.getD f default).2.2.2.toNat:=rfl;rw [iF (by simpa using hp0),tN,hset,wp];by_cases hp3:(gt c.2.1 (f:Int)).2.2.2 - 1=0
   ·obtain ⟨ch,e2,hc2⟩:=Zlz h.chn ok.hf hfL (by omega);rw [iT (dT hp3),show Q24.f (c.2.2.2.2.1,c.2.2.2.2.2) (f:Int)=_ from e2,bS,MC.unpin_one hfr (by rw [hx0,<- g]; omega)];have hs:=h.setfr ha (x:=((gt c.2.1 (f:Int)).1,(gt c.2.1 (f:Int)).2.1,(gt c.2.1 (f:Int)).2.2.1,(gt c.2.1 (f:Int)).2.2.2 - 1)) (t':=t) (by rw [g]; exact ok.blk) (by rw [g]; exact ok.len) (by dsimp only; omega) (Nat.le_refl t) hc2 (fun k=>by
     rw [List.mem_cons];split
     ·rename_i e; exact ⟨fun _=>hp3,fun _=>.inl e⟩
     ·rename_i e; exact ⟨fun q=>q.elim (fun e'=>absurd e' e) id,.inr⟩)
    refine ⟨_,f :: L,rfl,hs,MC.ext' rfl rfl rfl (fun j=>?_) rfl ?_⟩
    ·refine Eq.trans (Gj h ha j) ?_;show upd (Xk c) i _ j=upd (Xk c) i _ j;congr 2;unfold fm
     try dsimp only
     rw [hp3,g]; rfl
    ·refine Eq.trans (Vv (by omega) (by rw [g]; rfl) _) ?_;show Xp c f :: L.map (Xp c)=_;rw [Gf h ha]; rfl
   ·rw [iF (by simpa using hp3),MC.unpin_more hfr (by rw [hx0,<- g]; omega) (by rw [hx0,<- g]; omega)];have hs:=h.setfr ha (x:=((gt c.2.1 (f:Int)).1,(gt c.2.1 (f:Int)).2.1,(gt c.2.1 (f:Int)).2.2.1,(gt c.2.1 (f:Int)).2.2.2 - 1)) (t':=t) (by rw [g]; exact ok.blk) (by rw [g]; exact ok.len) (by dsimp only; omega) (Nat.le_refl t) h.chn (fun k=>by
     split
     ·rename_i e; subst e; exact ⟨fun q=>absurd q hfL,fun q=>absurd q hp3⟩
     ·exact Iff.rfl)
    refine ⟨_,L,rfl,hs,MC.ext' rfl rfl rfl (fun j=>?_) rfl ?_⟩
    ·refine Eq.trans (Gj h ha j) ?_;show upd (Xk c) i _ j=upd (Xk c) i _ j;congr 2;unfold fm
     try dsimp only
     rw [g,show ((c.2.1.getD f default).2.2.2 - 1).toNat=(c.2.1.getD f default).2.2.2.toNat - 1 by omega]
    ·exact Vv (by omega) (by rw [g]; rfl) _
theorem Zmr (z:Siz N B n) (h:CaI N B n t [] c L) (i:Nat):Q16.f c (i:Int)=some ((Yk c L).read i):=by
 have hfl:=h.frl;have hB:=z.B_le;unfold Q16.f Q20.f;rw [bS,vS];rcases h.get i with ⟨g1,g2⟩ | ⟨f,ha,g1,g2,ok⟩
 ·rw [iT (by simp [g1]),MC.read_no (show (Yk c L).fr i=none from J0 g2)]
 ·have hf:=ok.hf;have hp:=ok.pin;have hfr:(Yk c L).fr i=_:=V9 h ha;have hx0:(fm (c.2.1.getD f default)).p=(c.2.1.getD f default).2.2.2.toNat:=rfl;have g:gt c.2.1 (f:Int)=c.2.1.getD f default:=Yo _ _;rw [iF (by simp [g1]),g2,iO];by_cases hp0:(gt c.2.1 (f:Int)).2.2.2=0
  ·rw [iT (dT hp0),MC.read_out hfr (by rw [hx0,<- g,hp0]; rfl)]
  ·rw [iF (by simpa using hp0),Zbq (by rw [g,ok.len]; omega),bS,MC.read_hit hfr (by rw [hx0]; rw [g] at hp0; omega),g]; rfl
end
abbrev Rf:=Int×List UInt8×Bool×Int
abbrev Rc:=(Int×List TV×Int×Int)×List Rf×Int×List Int
section
variable {l:List Rf} {g:Nat->Option Fm} {i:Nat} {f:Fm}
end
structure MI (N B n t:Nat) (m:MC):Prop where
 dim:m.img.length=N*B
 len:∀ i f,m.fr i=some f->i<N/\f.b.length=B/\f.p<=t
 rnd:m.row.Nodup
 rfr:∀ q,q∈m.row↔∃ f,m.fr q=some f/\f.p=0
 ule:m.used<=n
 rle:m.row.length<=n
theorem Zdi {g:Nat->Nat}:∀ {L:List Nat},L.Nodup->(∀ x∈L,∀ y∈L,g x=g y->x=y)->(L.map g).Nodup
 | [],_,_=>by simp
 | x :: L,nd,h=>by
  rw [List.nodup_cons] at nd;rw [List.map_cons,List.nodup_cons];refine ⟨fun q=>?_,Zdi nd.2 fun a ha b hb=>h a (by simp [ha]) b (by simp [hb])⟩;obtain ⟨y,hy,e⟩:=List.mem_map.1 q;exact nd.1 (by rw [h x (by simp) y (by simp [hy]) e.symm]; exact hy)
theorem CaI.mi {N B n t:Nat} {c:Ca} {L:List Nat} (h:CaI N B n t [] c L):MI N B n t (Yk c L) where
 dim:=h.dim
 len i f hf:=Zlf h hf
 rnd:=Zdi h.chn.nd fun x hx y hy e=>by
  obtain ⟨i,hi,e1,_⟩:=Wz h hx;obtain ⟨j,hj,e2,_⟩:=Wz h hy;have:i=j:=by omega
  subst this;exact Bn h hi hj
 rfr q:=by
  constructor
  ·intro hq;obtain ⟨f,hf,e⟩:=List.mem_map.1 hq;obtain ⟨i,hi,e1,hp,_⟩:=Wz h hf;have:i=q:=by omega
   subst this;exact ⟨_,V9 h hi,by unfold fm; dsimp only; rw [hp]; rfl⟩
  ·rintro ⟨f,hf,hp⟩;rcases h.get q with ⟨_,g2⟩ | ⟨f',ha,_,_,ok⟩
   ·have:=J0 g2;rw [show Xk c q=some f from hf] at this; cases this
   ·have h1:=V9 h ha;rw [show Xk c q=some f from hf] at h1;injection h1 with h1;subst h1;refine (Zlc h ha).2 ((h.lok f').2 ⟨⟨_,ha⟩,?_⟩);have:=ok.pin;unfold fm at hp;dsimp only at hp;omega
 ule:=h.used
 rle:=by
  show (L.map (Xp c)).length<=n;rw [length_map];exact h.chn.short
section
variable {N B n t:Nat} {w:Rc} {m:MC} {i:Nat} {f:Fm}
end
section
variable {N B n t:Nat} {w:Rc} {m:MC} {i:Nat} {f:Fm}
end
section
variable {N B n t:Nat} {w:Rc} {m:MC} {i:Nat} {f:Fm}
end
section
variable {N B n t:Nat} {c:Ca} {L:List Nat}
end
section
variable {N B n t:Nat} {c:Ca} {L:List Nat} {w:Rc} {m:MC}
end
def Byt (l:TZ):Prop:=∀ x∈l,0<=x/\x<256
theorem Byt.rep (n:Nat):Byt (List.replicate n 0):=fun x hx=>by rw [List.eq_of_mem_replicate hx]; omega
theorem Byt.blk {img:TZ} (h:Byt img) (B i:Nat):Byt (blk img B i):=fun x hx=>h x (List.mem_of_mem_drop (List.mem_of_mem_take hx))
theorem Byt.patch {img b:TZ} (h:Byt img) (hb:Byt b) (a n:Nat):Byt (patch img a n b):=fun x hx=>by
 unfold SK.patch at hx;rcases List.mem_append.1 hx with hx | hx
 ·rcases List.mem_append.1 hx with hx | hx
  ·exact h x (List.mem_of_mem_take hx)
  ·exact hb x (List.mem_of_mem_take hx)
 ·exact h x (List.mem_of_mem_drop hx)
namespace MC
def cnt (m:MC) (i:Nat):Nat:=match m.fr i with
 | none=>0
 | some x=>x.p
theorem cnt_no {m:MC} {i:Nat} (e:m.fr i=none):m.cnt i=0:=by unfold cnt; rw [e]
theorem cnt_at {m:MC} {i:Nat} {x:Fm} (e:m.fr i=some x):m.cnt i=x.p:=by unfold cnt; rw [e]
structure By (m:MC):Prop where
 img:Byt m.img
 fr:∀ i x,m.fr i=some x->Byt x.b
structure To (a b:Nat) (m m':MC):Prop where
 rd:m.rd<=m'.rd/\m'.rd<=m.rd+a
 wr:m.wr<=m'.wr/\m'.wr<=m.wr+b
 by':By m->By m'
theorem To.refl (m:MC):To 0 0 m m:=⟨⟨Int.le_refl _,by omega⟩,⟨Int.le_refl _,by omega⟩,id⟩
theorem To.le {a b a' b':Nat} {m m':MC} (h:To a b m m') (ha:a<=a') (hb:b<=b'):To a' b' m m':=⟨⟨h.rd.1,by have:=h.rd.2; omega⟩,⟨h.wr.1,by have:=h.wr.2; omega⟩,h.by'⟩
theorem To.trans {a b a' b':Nat} {m m' m'':MC} (h:To a b m m') (g:To a' b' m' m''):To (a+a') (b+b') m m'':=⟨⟨Int.le_trans h.rd.1 g.rd.1,by have:=h.rd.2; have:=g.rd.2; omega⟩,⟨Int.le_trans h.wr.1 g.wr.1,by have:=h.wr.2; have:=g.wr.2; omega⟩,fun y=>g.by' (h.by' y)⟩
end MC
section
variable {N B n t:Nat} {m k:MC} {i:Nat} {x:Fm}
theorem Pm.lay {img:TZ} {rd wr:Int} {fr:Nat->Option Fm} {u u':Nat} {row row':List Nat} (hx:Byt x.b):(MC.By ⟨img,rd,wr,fr,u,row⟩->MC.By ⟨img,rd,wr,upd fr i (some x),u',row'⟩)/\∀ j,(⟨img,rd,wr,upd fr i (some x),u',row'⟩:MC).cnt j=if j=i then x.p else (⟨img,rd,wr,fr,u,row⟩:MC).cnt j:=by
 refine ⟨fun h=>⟨h.img,fun j y hj=>?_⟩,fun j=>?_⟩
 ·have hj':upd fr i (some x) j=some y:=hj;by_cases q:j=i
  ·subst q; rw [Y3] at hj'; injection hj' with hj'; subst hj'; exact hx
  ·rw [Xh q] at hj'; exact h.fr j y hj'
 ·by_cases q:j=i
  ·subst q; rw [iT rfl]; exact MC.cnt_at (Y3 _ _ _)
  ·rw [iF q]; unfold MC.cnt; dsimp only; rw [Xh q]
theorem Pm.evict (e:m.fr i=some x) (p:x.p=0):MC.To 0 1 m (m.evict B i)/\(∀ j,(m.evict B i).cnt j=m.cnt j)/\∀ j,m.fr j=none->(m.evict B i).fr j=none:=by
 rw [MC.evict_eq e];refine ⟨⟨⟨Int.le_refl _,by dsimp only; omega⟩,by dsimp only; split <;> omega,fun h=>⟨?_,fun j y hj=>?_⟩⟩,fun j=>?_,fun j hj=>?_⟩
 ·dsimp only;split
  ·exact h.img.patch (h.fr i x e) _ _
  ·exact h.img
 ·have hj':upd m.fr i none j=some y:=hj;by_cases q:j=i
  ·subst q; rw [Y3] at hj'; cases hj'
  ·rw [Xh q] at hj'; exact h.fr j y hj'
 ·by_cases q:j=i
  ·subst q; rw [MC.cnt_at e,MC.cnt_no (Y3 _ _ _),p]
  ·unfold MC.cnt; dsimp only; rw [Xh q]
 ·show upd m.fr i none j=none;by_cases q:j=i
  ·subst q; exact Y3 _ _ _
  ·rw [Xh q]; exact hj
theorem Pm.room (mi:MI N B n t m) (h:m.room B n=some k):MC.To 0 1 m k/\(∀ j,k.cnt j=m.cnt j)/\∀ j,m.fr j=none->k.fr j=none:=by
 unfold MC.room at h;split at h
 ·injection h with h; subst h; exact ⟨(MC.To.refl _).le (by omega) (by omega),fun _=>rfl,fun _ h=>h⟩
 ·split at h
  ·cases h
  ·rename_i q hq;injection h with h; subst h;obtain ⟨x,e,p⟩:=(mi.rfr q).1 (List.mem_of_getLast? hq);exact Pm.evict e p
theorem Pm.pin (mi:MI N B n t m) (hy:m.By) (i:Nat):MC.To 1 1 m (m.pin N B n i).2/\(1<=m.cnt i->MC.To 0 0 m (m.pin N B n i).2)/\∀ j,(m.pin N B n i).2.cnt j=if (m.pin N B n i).1=0/\j=i then m.cnt i+1 else m.cnt j:=by
 have r0:=(MC.To.refl m).le (Nat.zero_le 1) (Nat.zero_le 1);by_cases h:N<=i
 ·rw [MC.pin_out h]; exact ⟨r0,fun _=>MC.To.refl m,fun _=>by rw [vS]⟩
 cases e:m.fr i with
 | some x=>
  obtain ⟨h1,h2⟩:=Pm.lay (img:=m.img) (rd:=m.rd) (wr:=m.wr) (fr:=m.fr) (u:=m.used) (row:=m.row) (i:=i) (x:=⟨x.b,x.d,x.p+1⟩) (u':=m.used) (row':=m.row.erase i) (hy.fr i x e);have t0:MC.To 0 0 m (m.pin N B n i).2:=by rw [MC.pin_hit h e]; exact ⟨⟨Int.le_refl _,by show m.rd<=_; omega⟩,⟨Int.le_refl _,by show m.wr<=_; omega⟩,h1⟩
  refine ⟨t0.le (by omega) (by omega),fun _=>t0,fun j=>?_⟩;rw [MC.pin_hit h e,show ((m.put i ⟨x.b,x.d,x.p+1⟩).cut i).cnt j=_ from h2 j];by_cases q:j=i
  ·rw [iT q,iT ⟨rfl,q⟩,MC.cnt_at e]
  ·rw [iF q,iF (fun z=>q z.2)]
 | none=>
  cases r:m.room B n with
  | none=>rw [MC.pin_full h e r]; exact ⟨r0,fun _=>MC.To.refl m,fun _=>by rw [vS]⟩
  | some k=>
   obtain ⟨c1,c2,c3⟩:=Pm.room mi r;have hk:=c1.by' hy;obtain ⟨h1,h2⟩:=Pm.lay (img:=k.img) (rd:=k.rd+1) (wr:=k.wr) (fr:=k.fr) (u:=k.used) (row:=k.row) (i:=i) (x:=⟨blk k.img B i,false,1⟩) (u':=k.used+1) (row':=k.row) (hk.img.blk B i);rw [MC.pin_miss h e r];refine ⟨⟨by show m.rd<=k.rd+1/\k.rd+1<=_; have:=c1.rd; omega,by show m.wr<=k.wr/\k.wr<=_; have:=c1.wr; omega,fun _=>h1 ⟨hk.img,hk.fr⟩⟩,fun c=>by rw [MC.cnt_no e] at c; omega,fun j=>?_⟩;rw [show ((⟨k.img,k.rd+1,k.wr,k.fr,k.used,k.row⟩:MC).come i ⟨blk k.img B i,false,1⟩).cnt j=_ from h2 j];by_cases q:j=i
   ·rw [iT q,iT ⟨rfl,q⟩,MC.cnt_no e]
   ·rw [iF q,iF (fun z=>q z.2)]; exact c2 j
theorem Pm.unpin (hy:m.By) (i:Nat):MC.To 0 0 m (m.unpin i).2/\∀ j,(m.unpin i).2.cnt j=if j=i then m.cnt i - 1 else m.cnt j:=by
 have same:(∀ j,m.cnt j=if j=i then m.cnt i - 1 else m.cnt j)↔m.cnt i=0:=⟨fun h=>by have:=h i; rw [iT rfl] at this; omega,fun h j=>by split; rename_i q; subst q; omega; rfl⟩
 cases e:m.fr i with
 | none=>rw [MC.unpin_no e]; exact ⟨MC.To.refl m,same.2 (MC.cnt_no e)⟩
 | some x=>
  have key:∀(p u:Nat) (row:List Nat),p=x.p - 1->MC.To 0 0 m (⟨m.img,m.rd,m.wr,upd m.fr i (some ⟨x.b,x.d,p⟩),u,row⟩:MC)/\∀ j,(⟨m.img,m.rd,m.wr,upd m.fr i (some ⟨x.b,x.d,p⟩),u,row⟩:MC).cnt j=if j=i then m.cnt i - 1 else m.cnt j:=fun p u row hp=>by
   obtain ⟨h1,h2⟩:=Pm.lay (img:=m.img) (rd:=m.rd) (wr:=m.wr) (fr:=m.fr) (u:=m.used) (row:=m.row) (i:=i) (x:=⟨x.b,x.d,p⟩) (u':=u) (row':=row) (hy.fr i x e);refine ⟨⟨⟨Int.le_refl _,by show m.rd<=_; omega⟩,⟨Int.le_refl _,by show m.wr<=_; omega⟩,h1⟩,fun j=>?_⟩;rw [h2 j,MC.cnt_at e];split
   ·exact hp
   ·rfl
  by_cases p:x.p=0
  ·rw [MC.unpin_out e p]; exact ⟨MC.To.refl m,same.2 (by rw [MC.cnt_at e]; exact p)⟩
  ·by_cases p1:x.p=1
   ·rw [MC.unpin_one e p1]; exact key _ _ _ (by omega)
   ·rw [MC.unpin_more e p p1]; exact key _ _ _ rfl
end
abbrev Bt:=Int×Int×List Int
theorem Zkt:uH.bits=64:=rfl
theorem wrB {m:Nat} (h:m<18446744073709551616):uH.wrap (m:Int)=(m:Int):=by
 have:uH.wrap (m:Int)=((m % 18446744073709551616:Nat):Int):=by simp [IntKind.wrap,IntKind.bits,IntKind.signed]
 rw [this,Nat.mod_eq_of_lt h]
theorem ofB {x:Nat} (h:x<18446744073709551616):(ofInt uH.bits (x:Int)).toNat=x:=by
 rw [BitVec.ofInt_natCast,BitVec.toNat_ofNat,Zkt];exact Nat.mod_eq_of_lt h
theorem Znc (v:BitVec uH.bits):v.toNat<18446744073709551616:=v.isLt
theorem anB {x y:Nat} (hx:x<18446744073709551616) (hy:y<18446744073709551616):(ofInt uH.bits (x:Int) &&& ofInt uH.bits (y:Int)).toNat=x &&& y:=by rw [BitVec.toNat_and,ofB hx,ofB hy]
theorem orB {x y:Nat} (hx:x<18446744073709551616) (hy:y<18446744073709551616):(ofInt uH.bits (x:Int) ||| ofInt uH.bits (y:Int)).toNat=x ||| y:=by rw [BitVec.toNat_or,ofB hx,ofB hy]
theorem Zki {b:Nat} (h:b<64):uH.wrap ((1:Int)*2 ^ (min b 64))=((2 ^ b:Nat):Int):=by
 have hb:min b 64=b:=by omega
 have hl:2 ^ b<18446744073709551616:=Nat.lt_of_lt_of_le (Nat.pow_lt_pow_right (by decide) h) (by decide);rw [hb,Int.one_mul,<- wrB hl];congr 1
theorem Zmv {b:Nat} (h:b<64):2 ^ b<18446744073709551616:=Nat.lt_of_lt_of_le (Nat.pow_lt_pow_right (by decide) h) (by decide)
structure BR (N:Nat) (p:Bt) (h:Nat->Bool):Prop where
 n:p.1=(N:Int)
 N1:1<=N/\N<=65536
 cnt:p.2.1=(((List.range N).filter h).length:Int)
 len:p.2.2.length=(N+63) / 64
 bit:∀ w,w<p.2.2.length->∃ x:Nat,p.2.2.getD w default=(x:Int)/\x<18446744073709551616/\∀ b,b<64->x.testBit b=(decide (64*w+b<N) && h (64*w+b))
section
variable {N:Nat} {p:Bt} {h:Nat->Bool}
theorem Zka {i:Nat} (hi:i<4294967296):w64 (Int.tdiv (i:Int) 64)=((i / 64:Nat):Int)/\Int.tmod (i:Int) 64=((i % 64:Nat):Int):=by
 constructor
 ·rw [show Int.tdiv (i:Int) 64=((i / 64:Nat):Int) from rfl,wI2]
 ·rfl
theorem BR.there (b:BR N p h) {i:Nat}:Q10.f p (i:Int)=some (if N<=i then 4 else 0):=by
 have hN:=b.N1;unfold Q10.f Q7.f;rw [bS,b.n,iN,iN];by_cases q:N<=i
 ·rw [iP,iT q]
 ·rw [iN,iF q]
theorem BR.has (b:BR N p h) {i:Nat} (hi:i<4294967296):Q6.f p (i:Int)=some (decide (i<N) && h i):=by
 have hN:=b.N1;unfold Q6.f;rw [b.there,bS];by_cases q:N<=i
 ·rw [iT q,iF (by decide)];have:¬ i<N:=by omega
  simp [this]
 ·obtain ⟨e1,e2⟩:=Zka hi;have hl:=b.len;have hw:i / 64<p.2.2.length:=by omega
  obtain ⟨x,hx,hx2,hx3⟩:=b.bit _ hw;have hm:i % 64<64:=Nat.mod_lt _ (by decide);rw [iF q,iT (by decide),e1,e2,iO,iO,Yo,hx,tN,show min (i % 64) 64=i % 64 by omega];have e3:Int.fdiv (x:Int) (2 ^ (i % 64))=((x / 2 ^ (i % 64):Nat):Int):=by
   rw [Int.fdiv_eq_ediv_of_nonneg _ (Int.pow_nonneg (by decide)),Int.natCast_ediv,Int.natCast_pow]; rfl
  have hlt:x / 2 ^ (i % 64)<18446744073709551616:=Nat.lt_of_le_of_lt (Nat.div_le_self _ _) hx2;rw [e3,show (ofInt uH.bits ((x / 2 ^ (i % 64):Nat):Int) &&& ofInt uH.bits 1).toNat=x / 2 ^ (i % 64) &&& 1 from anB (y:=1) hlt (by decide),Nat.and_one_is_mod,wrB (by omega)];have h1:=hx3 _ hm;rw [show 64*(i / 64)+i % 64=i by omega] at h1;rw [<- h1,Nat.testBit_eq_decide_div_mod_eq];congr 1;exact decide_eq_decide.2 (by omega)
theorem Zhd {N i:Nat} (hi:i<N) (hn:h i=false):((List.range N).filter (upd h i true)).length=((List.range N).filter h).length+1:=by
 have key:∀ l:List Nat,l.Nodup->i∈l->(l.filter (upd h i true)).length=(l.filter h).length+1:=by
  intro l
  induction l with
  | nil=>intro _ hx; simp at hx
  | cons y l ih=>
   intro nd hx;rw [List.nodup_cons] at nd;by_cases q:y=i
   ·subst q;have hl:l.filter (upd h y true)=l.filter h:=List.filter_congr fun z hz=>Xh (fun e=>nd.1 (by rw [<- e]; exact hz));rw [List.filter_cons_of_pos (by rw [Y3]),List.filter_cons_of_neg (by simp [hn]),hl,length_cons]
   ·have hx':i∈l:=by
     rcases List.mem_cons.1 hx with e | e
     ·exact absurd e.symm q
     ·exact e
    have:=ih nd.2 hx';by_cases hy:h y=true
    ·rw [List.filter_cons_of_pos (by rw [Xh q]; exact hy),List.filter_cons_of_pos hy,length_cons,length_cons,this]
    ·rw [List.filter_cons_of_neg (by rw [Xh q]; exact hy),List.filter_cons_of_neg hy,this]
 exact key _ List.nodup_range (List.mem_range.2 hi)
theorem BR.word (b:BR N p h) {i:Nat} (hi:i<N) {v:Bool} {y:Nat} (hy:y<18446744073709551616) (ht:∀ x:Nat,p.2.2.getD (i / 64) default=(x:Int)->∀ j,j<64->y.testBit j=if j=i % 64 then v else x.testBit j) {cnt:Int} (hc:cnt=(((List.range N).filter (upd h i v)).length:Int)) :
  BR N (p.1,cnt,p.2.2.set (i / 64) (y:Int)) (upd h i v):=by
 have hl:=b.len;have hN:=b.N1;have hw:i / 64<p.2.2.length:=by omega
 refine ⟨b.n,hN,hc,by rw [length_set]; exact hl,fun w hw2=>?_⟩;rw [length_set] at hw2;dsimp only;rw [Y2 hw];obtain ⟨x,hx,hx2,hx3⟩:=b.bit w hw2;by_cases q:i / 64=w
 ·subst q;refine ⟨y,iT rfl,hy,fun j hj=>?_⟩;rw [ht x hx j hj];by_cases qj:j=i % 64
  ·subst qj;rw [iT rfl,show 64*(i / 64)+i % 64=i by omega,Y3];simp [hi]
  ·rw [iF qj,hx3 j hj,Xh]
 ·refine ⟨x,by rw [iF q]; exact hx,hx2,fun j hj=>?_⟩;rw [hx3 j hj,Xh]
theorem Zl7 (b:BR N p h):((List.range N).filter h).length<=N:=by
 have:=List.length_filter_le h (List.range N);rw [length_range] at this;exact this
theorem BR.set (b:BR N p h) {i:Nat} (hi:i<4294967296):∃ p',Q8.f p (i:Int)=some (if N<=i then 4 else if h i=true then 10 else 0,p')/\BR N p' (if N<=i then h else upd h i true):=by
 have hN:=b.N1;unfold Q8.f;rw [b.there,bS];by_cases q:N<=i
 ·rw [iT q,iT (by decide),iT q,iT q];exact ⟨p,rfl,b⟩
 ·rw [iF q,iF (by decide),b.has hi,bS,iF q,iF q];have hi':i<N:=by omega
  by_cases hh:h i=true
  ·rw [iT (by simp [hi',hh]),iT hh];refine ⟨p,rfl,?_⟩;rw [show upd h i true=h from funext fun j=>by
    by_cases qj:j=i
    ·subst qj; rw [Y3,hh]
    ·rw [Xh qj]]
   exact b
  ·obtain ⟨e1,e2⟩:=Zka hi;have hl:=b.len;have hw:i / 64<p.2.2.length:=by omega
   obtain ⟨x,hx,hx2,hx3⟩:=b.bit _ hw;have hm:i % 64<64:=Nat.mod_lt _ (by decide);have hp:=Zmv hm;have hcl:=Zl7 b;have hcn:=b.cnt;rw [iF (by simp [hh]),iF hh,e1,e2,iO,iO,Yo,hx,tN,tN,Zki hm,orB hx2 hp];have hor:x ||| 2 ^ (i % 64)<18446744073709551616:=by rw [<- orB hx2 hp]; exact Znc _
   rw [wrB hor];have hf:h i=false:=by simpa using hh
   refine ⟨_,rfl,b.word hi' hor (fun x' hx' j hj=>?_) ?_⟩
   ·have:x'=x:=by rw [hx] at hx'; omega
    subst this;rw [Nat.testBit_or,Nat.testBit_two_pow];by_cases qj:j=i % 64
    ·subst qj; simp
    ·rw [iF qj];have:¬ i % 64=j:=fun e=>qj e.symm;simp [this]
   ·rw [Zhd hi' hf,hcn,wI2]; omega
end
namespace MC
def cont (B:Nat) (m:MC) (i:Nat):List Int:=match m.fr i with
 | none=>blk m.img B i
 | some x=>x.b
theorem cont_no {B:Nat} {m:MC} {i:Nat} (e:m.fr i=none):m.cont B i=blk m.img B i:=by unfold cont; rw [e]
theorem cont_at {B:Nat} {m:MC} {i:Nat} {x:Fm} (e:m.fr i=some x):m.cont B i=x.b:=by unfold cont; rw [e]
def Cl (B:Nat) (m:MC):Prop:=∀ i x,m.fr i=some x->x.d=false->x.b=blk m.img B i
end MC
section
variable {N B n t:Nat} {m k:MC} {i:Nat} {x:Fm}
theorem Cl.evict (mi:MI N B n t m) (cl:m.Cl B) (q:Nat):(m.evict B q).Cl B/\(∀ j,j<N->(m.evict B q).cont B j=m.cont B j)/\((m.evict B q).fr q=none)/\∀ j,m.fr j=none->(m.evict B q).fr j=none:=by
 cases e:m.fr q with
 | none=>
  have:m.evict B q=m:=by unfold MC.evict; rw [e]
  rw [this];exact ⟨cl,fun _ _=>rfl,e,fun _ h=>h⟩
 | some x=>
  obtain ⟨hq,hb,_⟩:=mi.len q x e;rw [MC.evict_eq e];refine ⟨fun j y hj hd=>?_,fun j hj=>?_,Y3 _ _ _,fun j hj=>?_⟩
  ·dsimp only at hj ⊢;by_cases qj:j=q
   ·subst qj; rw [Y3] at hj; cases hj
   ·rw [Xh qj] at hj;have h1:=cl j y hj hd;split
    ·rw [Bx mi.dim hq hb j (mi.len j y hj).1,iF qj]; exact h1
    ·exact h1
  ·by_cases qj:j=q
   ·subst qj;rw [MC.cont_at e,MC.cont_no (Y3 _ _ _)];dsimp only;split
    ·rw [Bx mi.dim hq hb j hq,iT rfl]
    ·rename_i hd;exact (cl j x e (by simpa using hd)).symm
   ·cases ej:m.fr j with
    | none=>
     rw [MC.cont_no ej,MC.cont_no (by show upd m.fr q none j=none; rw [Xh qj]; exact ej)];dsimp only;split
     ·rw [Bx mi.dim hq hb j hj,iF qj]
     ·rfl
    | some y=>rw [MC.cont_at ej,MC.cont_at (show upd m.fr q none j=some y by rw [Xh qj]; exact ej)]
  ·show upd m.fr q none j=none;by_cases qj:j=q
   ·subst qj; exact Y3 _ _ _
   ·rw [Xh qj]; exact hj
theorem Cl.room (mi:MI N B n t m) (cl:m.Cl B) (h:m.room B n=some k):k.Cl B/\(∀ j,j<N->k.cont B j=m.cont B j)/\∀ j,m.fr j=none->k.fr j=none:=by
 unfold MC.room at h;split at h
 ·injection h with h; subst h; exact ⟨cl,fun _ _=>rfl,fun _ h=>h⟩
 ·split at h
  ·cases h
  ·rename_i q _;injection h with h; subst h;obtain ⟨h1,h2,_,h3⟩:=Cl.evict mi cl q;exact ⟨h1,h2,h3⟩
theorem Cl.lay {img:TZ} {rd wr:Int} {fr:Nat->Option Fm} {u u':Nat} {row row':List Nat} (cl:(⟨img,rd,wr,fr,u,row⟩:MC).Cl B) {x:Fm} (hx:x.d=false->x.b=blk img B i) {rd':Int}:(⟨img,rd',wr,upd fr i (some x),u',row'⟩:MC).Cl B/\∀ j,(⟨img,rd',wr,upd fr i (some x),u',row'⟩:MC).cont B j=if j=i then x.b else (⟨img,rd,wr,fr,u,row⟩:MC).cont B j:=by
 refine ⟨fun j y hj hd=>?_,fun j=>?_⟩
 ·have hj':upd fr i (some x) j=some y:=hj;by_cases q:j=i
  ·subst q; rw [Y3] at hj'; injection hj' with hj'; subst hj'; exact hx hd
  ·rw [Xh q] at hj'; exact cl j y hj' hd
 ·by_cases q:j=i
  ·subst q; rw [iT rfl]; exact MC.cont_at (Y3 _ _ _)
  ·rw [iF q]; unfold MC.cont; dsimp only; rw [Xh q]
theorem Cl.pin (mi:MI N B n t m) (cl:m.Cl B) (i:Nat):(m.pin N B n i).2.Cl B/\∀ j,j<N->(m.pin N B n i).2.cont B j=m.cont B j:=by
 by_cases h:N<=i
 ·rw [MC.pin_out h]; exact ⟨cl,fun _ _=>rfl⟩
 cases e:m.fr i with
 | some x=>
  rw [MC.pin_hit h e];obtain ⟨h1,h2⟩:=Cl.lay (i:=i) (x:=⟨x.b,x.d,x.p+1⟩) (u':=m.used) (row':=m.row.erase i) (rd':=m.rd) (cl:(⟨m.img,m.rd,m.wr,m.fr,m.used,m.row⟩:MC).Cl B) (fun hd=>cl i x e hd);refine ⟨h1,fun j hj=>?_⟩;rw [show (((m.put i ⟨x.b,x.d,x.p+1⟩).cut i).cont B j)=_ from h2 j];split
  ·rename_i q; subst q; exact (MC.cont_at e).symm
  ·rfl
 | none=>
  cases r:m.room B n with
  | none=>rw [MC.pin_full h e r]; exact ⟨cl,fun _ _=>rfl⟩
  | some k=>
   obtain ⟨c1,c2,c3⟩:=Cl.room mi cl r;rw [MC.pin_miss h e r];obtain ⟨h1,h2⟩:=Cl.lay (i:=i) (x:=⟨blk k.img B i,false,1⟩) (u':=k.used+1) (row':=k.row) (rd':=k.rd+1) (c1:(⟨k.img,k.rd,k.wr,k.fr,k.used,k.row⟩:MC).Cl B) (fun _=>rfl);refine ⟨h1,fun j hj=>?_⟩;rw [show ((⟨k.img,k.rd+1,k.wr,k.fr,k.used,k.row⟩:MC).come i ⟨blk k.img B i,false,1⟩).cont B j=_ from h2 j];split
   ·rename_i q; subst q; rw [<- c2 j hj]; exact (MC.cont_no (c3 j e)).symm
   ·exact c2 j hj
theorem Cl.unpin (cl:m.Cl B) (i:Nat):(m.unpin i).2.Cl B/\∀ j,(m.unpin i).2.cont B j=m.cont B j:=by
 cases e:m.fr i with
 | none=>rw [MC.unpin_no e]; exact ⟨cl,fun _=>rfl⟩
 | some x=>
  have key:∀(p u:Nat) (row:List Nat),(⟨m.img,m.rd,m.wr,upd m.fr i (some ⟨x.b,x.d,p⟩),u,row⟩:MC).Cl B/\∀ j,(⟨m.img,m.rd,m.wr,upd m.fr i (some ⟨x.b,x.d,p⟩),u,row⟩:MC).cont B j=m.cont B j:=fun p u row=>by
   obtain ⟨h1,h2⟩:=Cl.lay (i:=i) (x:=⟨x.b,x.d,p⟩) (u':=u) (row':=row) (rd':=m.rd) (cl:(⟨m.img,m.rd,m.wr,m.fr,m.used,m.row⟩:MC).Cl B) (fun hd=>cl i x e hd);refine ⟨h1,fun j=>?_⟩;rw [h2 j];split
   ·rename_i q; subst q; exact (MC.cont_at e).symm
   ·rfl
  by_cases p:x.p=0
  ·rw [MC.unpin_out e p]; exact ⟨cl,fun _=>rfl⟩
  ·by_cases p1:x.p=1
   ·rw [MC.unpin_one e p1]; exact key _ _ _
   ·rw [MC.unpin_more e p p1]; exact key _ _ _
end
abbrev Shf:=Cfg×Ca×Bt×Int
section
variable {c:Cfg} {N B n t q:Nat} {s:Shf} {L:List Nat}
theorem Zay:∀ {l:TZ},Byt l->toB (toS l)=l
 | [],_=>rfl
 | x :: l,h=>by
  have hx:=h x (by simp);have ih:=Zay (l:=l) fun y hy=>h y (List.mem_cons_of_mem _ hy);obtain ⟨v,rfl⟩:=Int.eq_ofNat_of_zero_le hx.1;unfold toS toB at *;rw [List.map_cons,List.map_cons,ih];congr 1;rw [tN,UInt8.toNat_ofNat'];rw [Nat.mod_eq_of_lt (by omega)]
end
theorem Zl0 {N B:Nat} (h:5<=N/\N<=65536/\1<=B/\B<=65536):Q54.f (N:Int) (B:Int)=some (some ((B:Int),List.replicate (N*B) 0,(0,0)),0):=by
 have hb:N*B<=65536*65536:=Nat.mul_le_mul h.2.1 h.2.2.2;have e:w64 ((N:Int)*(B:Int))=((N*B:Nat):Int):=by rw [show (N:Int)*(B:Int)=((N*B:Nat):Int) by simp,wI2]
 unfold Q54.f Q55.f;rw [iP,iP,iP,bS,iW,e,iO,tN]
structure Geo (c:Cfg) (N B n:Nat):Prop where
 ok:okB c=true
 z:Siz N B n
 n8:8<=n
 N5:5<=N/\N<=65536
 hB:B<=65536
 eN:c.1=(N:Int)
 eB:c.2.1=(B:Int)
 en:c.2.2.1=(n:Int)
structure ShK (c:Cfg) (N B n t:Nat) (s:Shf) (L:List Nat) (q:Nat) (K:Nat->List Int) (h:Nat->Bool):Prop where
 cfg:s.1=c
 ca:CaI N B n t [] s.2.1 L
 by':(Yk s.2.1 L).By
 cl:(Yk s.2.1 L).Cl B
 ct:∀ j,j<N->(Yk s.2.1 L).cont B j=K j
 bits:BR N s.2.2.1 h
 h0:h 0=true
 kp:s.2.2.2=(q:Int)
 qN:q<N
 pin:∀ j,(Yk s.2.1 L).cnt j=if j=q/\q≠0 then 1 else 0
 rd:0<=s.2.1.1.2.2.1/\s.2.1.1.2.2.1<=t
 wr:0<=s.2.1.1.2.2.2/\s.2.1.1.2.2.2<=64*t
section
variable {c:Cfg} {N B n t q:Nat} {s:Shf} {L:List Nat} {K:Nat->List Int} {h:Nat->Bool}
theorem ShK.few (H:ShK c N B n t s L q K h) (ht:t<=900000):Few s.2.1:=⟨⟨H.rd.1,by have:=H.rd.2; omega⟩,⟨H.wr.1,by have:=H.wr.2; omega⟩⟩
theorem ShK.up (H:ShK c N B n t s L q K h) {t':Nat} (ht:t<=t'):ShK c N B n t' s L q K h:=⟨H.cfg,H.ca.mono ht,H.by',H.cl,H.ct,H.bits,H.h0,H.kp,H.qN,H.pin,⟨H.rd.1,by have:=H.rd.2; omega⟩,⟨H.wr.1,by have:=H.wr.2; omega⟩⟩
theorem Zl1 (g:Geo c N B n) (ca:CaI N B n t [] s.2.1 L) (hp:∀ j,(Yk s.2.1 L).cnt j=if j=q/\q≠0 then 1 else 0):∃ k,(Yk s.2.1 L).room B n=some k:=by
 unfold MC.room;by_cases hu:(Yk s.2.1 L).used<n
 ·exact ⟨_,iT hu⟩
 ·rw [iF hu];have hlen:2<=s.2.1.2.2.1.length:=by
   have:=g.n8;have e:(Yk s.2.1 L).used=s.2.1.2.2.1.length:=rfl;omega
  have hne:(Yk s.2.1 L).row≠[]:=by
   have free:∀ i f:Nat,((i:Int),(f:Int))∈s.2.1.2.2.1->i≠q->(Yk s.2.1 L).row≠[]:=fun i f hm hi e=>by
    have h1:=V9 ca hm;have h2:=hp i;rw [iF (fun z=>hi z.1)] at h2;have h3:(Yk s.2.1 L).fr i=some (fm (s.2.1.2.1.getD f default)):=h1;rw [MC.cnt_at h3] at h2;have:=(ca.mi.rfr i).2 ⟨_,h3,h2⟩;rw [e] at this; cases this
   match hm:s.2.1.2.2.1,hlen with
   | a :: b :: r,_=>
    obtain ⟨i,f,ea,_⟩:=ca.mok a (by rw [hm]; simp);obtain ⟨j,f',eb,_⟩:=ca.mok b (by rw [hm]; simp);have hnd:=ca.mnd;rw [hm,List.map_cons,List.map_cons,List.nodup_cons,List.mem_cons,ea,eb] at hnd;by_cases q1:i=q
    ·refine free j f' (by rw [hm,eb]; simp) fun q2=>hnd.1 (.inl ?_);rw [q1,q2]
    ·exact free i f (by rw [hm,ea]; simp) q1
  cases e:(Yk s.2.1 L).row.getLast? with
  | none=>exact absurd (List.getLast?_eq_none_iff.1 e) hne
  | some x=>exact ⟨_,rfl⟩
theorem MC.pin_ok {m:MC} {i:Nat} (hr:∃ k,m.room B n=some k) (hi:i<N):(m.pin N B n i).1=0:=by
 obtain ⟨k,hk⟩:=hr;unfold MC.pin;rw [iQ];cases m.fr i with
 | some x=>rfl
 | none=>rw [hk]
theorem MC.read_ok {m:MC} {i:Nat} (h1:1<=m.cnt i):m.read i=(m.cont B i,0):=by
 cases e:m.fr i with
 | none=>rw [MC.cnt_no e] at h1; omega
 | some x=>rw [MC.cnt_at e] at h1; rw [MC.read_hit e (by omega),MC.cont_at e]
theorem ShK.there (g:Geo c N B n) (H:ShK c N B n t s L q K h) {i:Nat} (hi:i<4294967296):Q85.f s (i:Int)=some (if 1<=i/\i<N then 0 else 4):=by
 have e:=g.eN;have hN:=g.N5;unfold Q85.f;rw [H.cfg,e];by_cases q0:i=0
 ·rw [iP,iQ]
 ·have w1:w64 (i:Int)=(i:Int):=wI2;rw [iN,w1];by_cases q1:N<=i
  ·rw [iP,iQ]
  ·rw [iN,iO]
theorem ShK.put (H:ShK c N B n t s L q K h) {c':Ca} {L':List Nat} {t' a b:Nat} {K':Nat->List Int} (hca:CaI N B n t' [] c' L') (hto:MC.To a b (Yk s.2.1 L) (Yk c' L')) (hcl:(Yk c' L').Cl B) (hct:∀ j,j<N->(Yk c' L').cont B j=K' j) (hpin:∀ j,(Yk c' L').cnt j=if j=q/\q≠0 then 1 else 0) (ht:t+a<=t') (hb:b<=64*(t' - t)):ShK c N B n t' (s.1,c',s.2.2.1,s.2.2.2) L' q K' h:=
 ⟨H.cfg,hca,hto.by' H.by',hcl,hct,H.bits,H.h0,H.kp,H.qN,hpin,by
  have r1:=hto.rd;have r2:=H.rd;have e1:(Yk s.2.1 L).rd=s.2.1.1.2.2.1:=rfl;have e2:(Yk c' L').rd=c'.1.2.2.1:=rfl;show 0<=c'.1.2.2.1/\c'.1.2.2.1<=t';omega,by
  have r1:=hto.wr;have r2:=H.wr;have e1:(Yk s.2.1 L).wr=s.2.1.1.2.2.2:=rfl;have e2:(Yk c' L').wr=c'.1.2.2.2:=rfl;show 0<=c'.1.2.2.2/\c'.1.2.2.2<=64*t';omega⟩
def Zby (c:Cfg) (b:TZ):Nd×Int:=Za7 c (toS b)
theorem Zm3 (g:Geo c N B n) (H:ShK c N B n t s L q K h) (ht:t<=800000) {i:Nat} (hi:i<4294967296):∃(s':Shf) (L':List Nat),Ev (fun k=>Q81.f k s (i:Int)) (if 1<=i/\i<N then ((Zby c (K i)).1,(Zby c (K i)).2,s') else (Ue,4,s'))/\ShK c N B n (t+1) s' L' q K h/\MC.To 1 1 (Yk s.2.1 L) (Yk s'.2.1 L')/\(i=q->MC.To 0 0 (Yk s.2.1 L) (Yk s'.2.1 L')):=by
 have ht':=H.there g hi;by_cases q1:1<=i/\i<N
 ·rw [iT q1] at ht';have hr:=Zl1 g H.ca H.pin;obtain ⟨c1,L1,e1,hc1,ha1⟩:=Znq g.z H.ca (H.few (by omega)) (by omega) i hi;obtain ⟨f1,f0,f2⟩:=Pm.pin H.ca.mi H.by' i;obtain ⟨cl1,ct1⟩:=Cl.pin H.ca.mi H.cl i;have r0:=MC.pin_ok (i:=i) hr q1.2;rw [<- ha1] at f1 f0 f2 cl1 ct1;have y1:=f1.by' H.by';have p1:1<=(Yk c1 L1).cnt i:=by rw [f2,iT ⟨r0,rfl⟩]; omega
  obtain ⟨c3,L3,e3,hc3,ha3⟩:=Zlk g.z hc1 (by omega) i;obtain ⟨u1,u2⟩:=Pm.unpin y1 i;obtain ⟨cl3,ct3⟩:=Cl.unpin cl1 i;rw [<- ha3] at u1 u2 cl3 ct3;have er:=Zmr g.z hc1 i;rw [MC.read_ok (B:=B) p1,ct1 i q1.2,H.ct i q1.2] at er;have hbK:Byt (K i)/\(K i).length=B:=by
   rw [<- H.ct i q1.2,<- ct1 i q1.2];cases ef:(Yk c1 L1).fr i with
   | none=>rw [MC.cnt_no ef] at p1; omega
   | some x=>rw [MC.cont_at ef]; exact ⟨y1.fr i x ef,(hc1.mi.len i x ef).2.1⟩
  obtain ⟨k0,hk⟩:=Znh (c:=c) (b:=toS (K i)) (by have:=hbK.2; have:=g.hB; rw [<- Z5,Zay hbK.1]; omega);refine ⟨(s.1,c3,s.2.2.1,s.2.2.2),L3,⟨k0,fun k kk=>?_⟩,H.put (a:=1) (b:=1) hc3 ((f1.trans u1).le (by omega) (by omega)) cl3 (fun j hj=>by rw [ct3,ct1 j hj,H.ct j hj]) (fun j=>?_) (by omega) (by omega),(f1.trans u1).le (by omega) (by omega),fun e=>?_⟩
  ·show Q81.f k s (i:Int)=_;have hcfg:=H.cfg;unfold Q81.f;rw [ht',bS,vS,e1,bS,iF (by simpa using r0)];dsimp only;rw [er,bS,e3,bS,vS,hcfg,iT q1];have:=hk k kk;rw [Zay hbK.1] at this;rw [show Q34.f k c (K i)=_ from this,bS];rfl
  ·rw [u2];by_cases e:j=i
   ·subst e;rw [iT rfl,f2,iT ⟨r0,rfl⟩,Nat.add_sub_cancel,H.pin]
   ·rw [iF e,f2,iF (fun z=>e z.2),H.pin]
  ·subst e;have:1<=(Yk s.2.1 L).cnt i:=by rw [H.pin,iT ⟨rfl,by omega⟩]; omega
   exact ((f0 this).trans u1).le (by omega) (by omega)
 ·rw [iF q1] at ht';refine ⟨s,L,⟨0,fun k _=>?_⟩,H.up (by omega),(MC.To.refl _).le (by omega) (by omega),fun _=>MC.To.refl _⟩;show Q81.f k s (i:Int)=_;unfold Q81.f;rw [ht',bS,iU,iF q1];rfl
end
section
variable {c:Cfg} {N B n t q:Nat} {s:Shf} {L:List Nat} {K:Nat->List Int} {h:Nat->Bool} {p:Bt}
end
section
variable {c:Cfg} {N B n t q:Nat} {s:Shf} {L:List Nat} {K:Nat->List Int} {h:Nat->Bool} {p:Bt}
theorem Zje {N:Nat} (h5:5<=N) (h:N<=65536):∃ p,Q73.f (N:Int)=some (some p,0)/\BR N p (upd (fun _=>false) 0 true):=by
 have e1:w64 ((N:Int)+64)=((N+64:Nat):Int):=by rw [wI2]; omega
 have e2:w64 (((N+64:Nat):Int) - 1)=((N+63:Nat):Int):=by rw [wI2]; omega
 have e3:w64 (Int.tdiv ((N+63:Nat):Int) 64)=(((N+63) / 64:Nat):Int):=by
  rw [show Int.tdiv ((N+63:Nat):Int) 64=(((N+63) / 64:Nat):Int) from rfl,wI2]
 have b0:BR N ((N:Int),0,List.replicate ((N+63) / 64) (0:Int)) (fun _=>false):=by
  refine ⟨rfl,by omega,?_,by simp,fun w hw=>⟨0,?_,by decide,fun b hb=>?_⟩⟩
  ·have:(List.range N).filter (fun _=>false)=[]:=List.filter_eq_nil_iff.2 (by simp);rw [this]; rfl
  ·rw [length_replicate] at hw;rw [List.getD_eq_getElem?_getD,List.getElem?_replicate,iT hw]; rfl
  ·simp
 obtain ⟨p',es,b'⟩:=b0.set (i:=0) (by omega);rw [iQ] at b';refine ⟨p',?_,b'⟩;unfold Q73.f Q2.f;rw [iN,iN,iN,e1,e2,e3,iO,bS];dsimp only [W3];rw [iU,tN,show Q8.f ((N:Int),0,List.replicate ((N+63) / 64) (0:Int)) 0=_ from es,bS]
def Zfd (c:Cfg) (N B n:Nat) (ch:Chn) (p:Bt):Shf:=(c,(((B:Int),List.replicate (N*B) 0,(0,0)),List.replicate n (0,[],false,0),[],(List.range n).map (fun(i:Nat)=>(i:Int)),ch),p,0)
theorem Znb (g:Geo c N B n) {ch:Chn} (hc:ChI n ch []) {p:Bt} (hp:BR N p (upd (fun _=>false) 0 true)):ShK c N B n 0 (Zfd c N B n ch p) [] 0 (fun _=>List.replicate B 0) (upd (fun _=>false) 0 true):=by
 have hi:=Zmi g.z (img:=List.replicate (N*B) 0) (by simp) (0,0) hc;have fr0:∀ i,(Yk (Zfd c N B n ch p).2.1 []).fr i=none:=fun i=>by
  show Xk (Zfd c N B n ch p).2.1 i=none;exact J0 (by simp [Zfd])
 refine ⟨rfl,hi,⟨Byt.rep _,fun i x hx=>by rw [fr0 i] at hx; cases hx⟩,fun i x hx=>(by rw [fr0 i] at hx; cases hx),fun j hj=>?_,hp,Y3 _ _ _,rfl,by have:=g.N5; omega,fun j=>?_,⟨Int.le_refl _,Int.le_refl _⟩,⟨Int.le_refl _,Int.le_refl _⟩⟩
 ·rw [MC.cont_no (fr0 j)];show blk (List.replicate (N*B) 0) B j=_;unfold blk;have:j*B+B<=N*B:=by rw [<- Nat.succ_mul]; exact Nat.mul_le_mul_right _ hj
  rw [List.drop_replicate,List.take_replicate,Nat.min_eq_left (by omega)]
 ·rw [show (Yk (Zfd c N B n ch p).2.1 []).cnt j=0 from MC.cnt_no (fr0 j),iF (fun z=>z.2 rfl)]
theorem Zfn (hok:okB c=true):Zby c (List.replicate B 0)=(Ue,12):=by
 unfold Zby
 rcases Zkz (c:=c) (b:=toS (List.replicate B 0)) hok with ⟨e,h1,h2⟩ | e
 ·exfalso;have hb:toS (List.replicate B 0)=zs B:=by unfold toS zs; rw [List.map_replicate]; rfl
  rw [hb] at h2;have hx:∀ x∈U8 c (X8 c (zs B)).1,x=0:=by
   rw [hb] at e;rw [h2]; intro x hx; exact List.eq_of_mem_replicate hx
  have:∃ x∈U8 c (X8 c (zs B)).1,x≠0:=by
   unfold U8 slt Bj;split
   ·exact ⟨1,by unfold hdO; simp,by decide⟩
   ·exact ⟨2,by unfold hdI; simp,by decide⟩
  obtain ⟨x,hm,hne⟩:=this;exact hne (hx x hm)
 ·exact e
end
theorem Zil (c:Cfg) {k:Nat} (hk:2000<k):Q119.f k c=some (okB c && (decide (c.2.1<=3000) && decide (c.1<=400))):=by
 unfold Q119.f;rw [Zh8 c hk,bS];cases okB c with
 | false=>rw [iF (by decide)]; rfl
 | true=>
  rw [iT rfl];by_cases q:c.2.1<=3000
  ·rw [iT (dT q),dT q]; rfl
  ·rw [iF (by simpa using q),dF q]; rfl
theorem Zmo {c:Cfg} (h:(okB c && (decide (c.2.1<=3000) && decide (c.1<=400)))=true):∃ N B n:Nat,Geo c N B n/\N<=400/\B<=3000:=by
 simp only [Bool.and_eq_true,dE] at h;obtain ⟨hok,h1,h2⟩:=h;have hc:=hok;unfold okB at hc;simp only [Bool.and_eq_true,dE] at hc;obtain ⟨_,hN,hn,hB,_⟩:=hc;obtain ⟨N,eN⟩:=Int.eq_ofNat_of_zero_le (show 0<=c.1 by omega);obtain ⟨B,eB⟩:=Int.eq_ofNat_of_zero_le (show 0<=c.2.1 by omega);obtain ⟨n,en⟩:=Int.eq_ofNat_of_zero_le (show 0<=c.2.2.1 by omega);have hNB:N*B<=400*3000:=Nat.mul_le_mul (by omega) (by omega);exact ⟨N,B,n,⟨hok,⟨by omega,by omega,by omega,by omega,by omega⟩,by omega,by omega,by omega,eN,eB,en⟩,by omega,by omega⟩
theorem Zgd (k:Nat) (hk:3000<=k):Q127.f k=some true:=by
 obtain ⟨k,rfl⟩:∃ k2,k=k2+3000:=⟨k - 3000,by omega⟩;kernel_rfl
def Bm (N i:Nat):Int:=if 1<=i/\i<N then 12 else 4
section
variable {c:Cfg} {N B n t q:Nat} {s:Shf} {L:List Nat} {K:Nat->List Int} {h:Nat->Bool}
theorem Zig (g:Geo c N B n) (H:ShK c N B n t s L q (fun _=>List.replicate B 0) h) (ht:t<=800000) {i:Nat} (hi:i<4294967296):∃ s',Ev (fun k=>Q147.f k s (i:Int)) ((0,0,0,0,0),Bm N i,s'):=by
 obtain ⟨s',L',⟨b,hb⟩,_⟩:=Zm3 g H ht hi;refine ⟨s',b+1,fun k hk=>?_⟩;obtain ⟨k,rfl⟩:=kS1 k;have ev:Q150.f (k+1) (s,[],false) (i:Int) (-1) ([],[],true) (0,0,0,0,0)=some (Bm N i,(0,0,0,0,0),(s',[],false)):=by
  have hb2:=hb k (by omega);unfold Bm;rw [Q150.f,show Q81.f k s (i:Int)=_ from hb2,Zfn g.ok];by_cases q3:1<=i/\i<N
  ·rw [iT q3,iT q3,bS,iU]
  ·rw [iF q3,iF q3,bS,iU]
 show Q147.f (k+1) s (i:Int)=_;unfold Q147.f Q145.f Q59.f;rw [bS,ev,bS,bS,iT (by unfold Bm; split <;> simp)]
theorem Zm1 (g:Geo c N B n) {i:Nat} (hi:i<4294967296) (s':Shf) {k:Nat} (hk:3000<k):(if decide (0<(i:Int))=true then Q126.l2 k ((0,0,0,0,0),Bm N i,s') (decide (w64 (i:Int)<c.1)) else Q126.l2 k ((0,0,0,0,0),Bm N i,s') false)=some true:=by
 have hN:=g.N5;obtain ⟨k,rfl⟩:=kS1 k;have w1:w64 (i:Int)=(i:Int):=wI2;have l2:∀(e:Int) (b:Bool),e=(if b=true then 12 else 4)->Q126.l2 (k+1) ((0,0,0,0,0),e,s') b=some true:=fun e b h=>by
  rw [Q126.l2,Zgd k (by omega),bS,h];cases b <;> simp
 unfold Bm;rw [w1,g.eN];by_cases q1:i=0
 ·rw [iF (show ¬ decide ((0:Int)<(i:Int))=true by simp [q1])];exact l2 _ _ (by rw [iQ]; rfl)
 ·rw [iT (show decide ((0:Int)<(i:Int))=true by simp; omega)];refine l2 _ _ ?_;by_cases q2:i<N
  ·rw [iT (show 1<=i/\i<N by omega),iV]
  ·rw [iF (show ¬ (1<=i/\i<N) by omega),iW]
theorem Zke (g:Geo c N B n) {i:Nat} (hi:i<4294967296) {ch:Chn} (hc:ChI n ch []):∀(m j:Nat),j+m=n->Ev (fun k=>Q126.l1 k c (i:Int) ((B:Int),List.replicate (N*B) 0,(0,0)) ch ((List.range j).map fun(i:Nat)=>(i:Int)) (j:Int)) true
 | 0,j,hj=>by
  have e:j=n:=by omega
  subst e;have h64:=g.z.h64;obtain ⟨p,ep,bp⟩:=Zje g.N5.1 g.N5.2;obtain ⟨s',b1,hb1⟩:=Zig g (Znb g hc bp) (by omega) hi;refine ⟨b1+3002,fun k hk=>?_⟩;obtain ⟨k,rfl⟩:=kS1 k;have hx:=hb1 k (by omega);have eb:=Uh (s:=(0,0)) (N:=N) (n:=B) g.z.hB (img:=List.replicate (N*B) 0) (by simp) g.z.hNB;show Q126.l1 (k+1) c _ _ _ _ _=_;rw [Q126.l1,g.en,vS,eb,bS,g.eN,vS,Q51.f,bS,g.eB,vS,ep,bS];dsimp only [W3];rw [iU,tN];have hx':Q147.f k (c,(((B:Int),List.replicate (N*B) 0,(0,0)),List.replicate j (0,[],false,0),[],(List.range j).map (fun(i:Nat)=>(i:Int)),ch),p,0) (i:Int)=some ((0,0,0,0,0),Bm N i,s'):=hx;rw [hx',bS,<- g.eN];exact Zm1 g hi s' (by omega)
 | m+1,j,hj=>by
  have h64:=g.z.h64;obtain ⟨k0,hk⟩:=Zke g hi hc m (j+1) (by omega);refine ⟨k0+1,fun k hk2=>?_⟩;obtain ⟨k,rfl⟩:=kS1 k;have hx:=hk k (by omega);show Q126.l1 (k+1) c _ _ _ _ _=_;rw [Q126.l1,g.en,iP,iV,wS2];dsimp only at hx;rw [List.range_succ,List.map_append] at hx;exact hx
end
theorem Zmp {c:Cfg} {i:Nat} (hi:i<4294967296):Ev (fun k=>Q126.l0 k c (i:Int) false) true:=by
 by_cases light:(okB c && (decide (c.2.1<=3000) && decide (c.1<=400)))=true
 ·obtain ⟨N,B,n,g,hN,hB⟩:=Zmo light;obtain ⟨ch,ec,hch⟩:=Znm (n:=n) g.z.hn g.z.h64;obtain ⟨k0,hk⟩:=Zke g hi hch n 0 (by omega);have eb:=Uh (s:=(0,0)) (N:=N) (n:=B) g.z.hB (img:=List.replicate (N*B) 0) (by simp) g.z.hNB;have h5:=g.N5;have h8:=g.n8;have h64:=g.z.h64;refine ⟨k0+3000,fun k hk2=>?_⟩;obtain ⟨k,rfl⟩:=kS1 k;have hx:=hk k (by omega);show Q126.l0 (k+1) c _ _=_;rw [Q126.l0,vS,Zil c (by omega),light,bS,vS,g.eN,g.eB,Zl0 ⟨g.N5.1,g.N5.2,g.z.hB,g.hB⟩,bS];dsimp only [W3];rw [iU,show Q45.f c=_ from Zb1 c,iT g.ok,bS,vS,eb,bS,iN,g.en,iN,iN,ec,bS];dsimp only [W3];rw [iU,iO];exact hx
 ·refine ⟨4000,fun k hk=>?_⟩;obtain ⟨k,rfl⟩:=kS1 k;show Q126.l0 (k+1) c _ _=_;rw [Q126.l0,vS,Zil c (by omega),Bool.eq_false_iff.2 light,bS,iT (show (!false)=true from rfl),Zgd k (by omega),bS]
theorem Zfm {c:Cfg} {i:Nat} (hi:i<4294967296):∃ k,Q126.f k c (i:Int)=some true:=by
 obtain ⟨b,hb⟩:=Zmp (c:=c) hi;refine ⟨b,?_⟩;have hx:=hb b (by omega);unfold Q126.f Q149.f Q146.f Q144.f Q143.f Q59.f;simp only [bS];rw [iU,bS,iU,bS,vS,vS];exact hx
theorem WalkNobody_pure {p:Prop} (c:Cfg) (a:Int) (_:p) (ha:Ty.fit (Zcg tt) (.int .u32) a):∃ k,Q126.f k c a=some true:=by
 have h1:IntKind.u32.min=0:=rfl;have h2:IntKind.u32.max=4294967295:=rfl;have ha':0<=a/\a<4294967296:=by simp [Ty.fit,Lit.wf] at ha; omega
 obtain ⟨a,rfl⟩:=Int.eq_ofNat_of_zero_le ha'.1;exact Zfm (by omega)
end Go.SK.T
