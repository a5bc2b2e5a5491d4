/- The plain law behind ScanNone: what its code computes is true for all settings, blocks, spans and limits. -/
import Derived.Test.YtgdmpkhmedbnpaaGreatDoorXScanNoneF3
import Derived.KernelRfl
import Derived.Sort.Walk13a
import Derived.Sort.AssemblyPlain
set_option linter.unusedVariables false
set_option linter.unusedSimpArgs false
namespace Go.SK.T
open Go Go.SK
theorem Zbt:∀(k:Nat) (a b:TS) (i:Nat),a.length≤4611686018427387904→b.length≤4611686018427387904→i≤a.length→i≤b.length→a.length - i<k→
  Q140.l0 k a b (i:Int)=some (Xm (a.drop i) (b.drop i))
 | 0,a,b,i,_,_,_,_,h=>by omega
 | k+1,a,b,i,ha,hb,hia,hib,hk=>by
  unfold Q140.l0
  by_cases h1:i<a.length
  ·by_cases h2:i<b.length
   ·have g1:(0:Int)≤(i:Int)∧(i:Int)<(a.length:Int):=by omega
    have g2:(0:Int)≤(i:Int)∧(i:Int)<(b.length:Int):=by omega
    have w:w64 ((i:Int)+1)=((i+1:Nat):Int):=by rw [Z3 (by omega) (by omega)]; omega
    have ih:=Zbt k a b (i+1) ha hb (by omega) (by omega) (by omega)
    simp only [g1.2,g2.2,g1,g2,decide_true,if_true,and_self,w,ih,Zl3,Int.toNat_natCast,Zde h1,Zde h2,Zib,decide_eq_true_eq]
    split
    ·rfl
    ·split <;> rfl
   ·have g1:(i:Int)<(a.length:Int):=by omega
    have g2:¬ (i:Int)<(b.length:Int):=by omega
    have e:b.drop i=[]:=List.drop_eq_nil_of_le (by omega)
    have z1:¬ (a.length:Int)<(b.length:Int):=by omega
    have z2:(b.length:Int)<(a.length:Int):=by omega
    have z3:¬ (a.drop i).length=0:=by rw [List.length_drop]; omega
    simp [g1,g2,e,z1,z2,Zcn,z3]
    omega
  ·have g1:¬ (i:Int)<(a.length:Int):=by omega
   have e:a.drop i=[]:=List.drop_eq_nil_of_le (by omega)
   have z:(b.drop i).length=b.length - i:=List.length_drop ..
   simp only [g1,e,Zdy,z,decide_false,Bool.false_eq_true,if_false,decide_eq_true_eq]
   by_cases h2:b.length=i
   ·have z1:¬ (a.length:Int)<(b.length:Int):=by omega
    have z2:¬ (b.length:Int)<(a.length:Int):=by omega
    have h3:a.length=i:=by omega
    simp [h2,h3]
   ·have z1:(a.length:Int)<(b.length:Int):=by omega
    have z2:¬ b.length - i=0:=by omega
    simp [z1,z2]
abbrev Msg:=List UInt8×Bool×List UInt8
abbrev Cfg:=Int×Int×Int×Int×Int×Int×Int×Int
abbrev Pr:=List UInt8×List UInt8
abbrev Nd:=Int×List Int×List TS×List Msg×List Pr
structure SmallN (n:Nd):Prop where
 kids:n.2.1.length≤80
 pivs:n.2.2.1.length≤80
 buf:n.2.2.2.1.length≤150
 prs:n.2.2.2.2.length≤150
 pk:∀ p∈n.2.2.1,p.length≤200
 bk:∀ m∈n.2.2.2.1,m.1.length≤200
 rk:∀ m∈n.2.2.2.2,m.1.length≤200
structure MidN (n:Nd):Prop where
 kids:n.2.1.length≤80
 pivs:n.2.2.1.length≤80
 buf:n.2.2.2.1.length≤800
 prs:n.2.2.2.2.length≤800
 pk:∀ p∈n.2.2.1,p.length≤300
 bk:∀ m∈n.2.2.2.1,m.1.length≤300
 rk:∀ m∈n.2.2.2.2,m.1.length≤300
theorem SmallN.mid {n:Nd} (h:SmallN n):MidN n:=⟨h.kids,h.pivs,by have:=h.buf; omega,by have:=h.prs; omega,fun p hp=>by have:=h.pk p hp; omega,fun p hp=>by have:=h.bk p hp; omega,fun p hp=>by have:=h.rk p hp; omega⟩
structure OkC (c:Cfg):Prop where
 fan:8≤c.2.2.2.1∧c.2.2.2.1≤64
 key:1≤c.2.2.2.2.2.2.1∧c.2.2.2.2.2.2.1≤64
 val:0≤c.2.2.2.2.2.2.2∧c.2.2.2.2.2.2.2≤256
 buf:16≤c.2.2.2.2.1∧c.2.2.2.2.1≤512
 leaf:c.2.2.2.2.1≤c.2.2.2.2.2.1∧c.2.2.2.2.2.1≤1024
abbrev Sp:=List UInt8×List UInt8×Bool
def inS (s:Sp) (x:TS):Bool:=!Op.bytesLess x s.1 && (s.2.2 || Op.bytesLess x s.2.1)
theorem Zkq (a b:TS):decide (0≤Xm a b)=!Op.bytesLess a b:=by
 rcases Zdw a b with ⟨e,h⟩ | ⟨e,rfl⟩ | ⟨e,h⟩
 ·simp [e,h]
 ·simp [e,Vn]
 ·simp [e,Vr h]
def Zaq:List Pr→Bool
 | a :: b :: r=>Op.bytesLess a.1 b.1 && Zaq (b :: r)
 | _=>true
def Vt (c:Cfg) (x:TS):Bool:=decide (1≤(x.length:Int)∧(x.length:Int)≤c.2.2.2.2.2.2.1)
def prB (c:Cfg) (s:Sp) (p:Pr):Bool:=Vt c p.1 && (inS s p.1 && decide ((p.2.length:Int)≤c.2.2.2.2.2.2.2))
def Zep (c:Cfg) (s:Sp) (n:Nd):Bool:=n.2.2.2.2.all (prB c s) && (decide (n.2.1=[]) && (decide (n.2.2.1=[]) && (decide (n.2.2.2.1=[]) && (decide ((n.2.2.2.2.length:Int)≤c.2.2.2.2.2.1) && Zaq n.2.2.2.2))))
theorem Zhb {l:TM} {i:Nat} (h:i+1<l.length):J3 (l.drop i)=(Op.bytesLess (l.getD i []) (l.getD (i+1) []) && J3 (l.drop (i+1))):=by
 rw [Xf (show i<l.length by omega),Xf h]
 rfl
theorem Zhz {l:TM} {i:Nat} (h:l.length≤i+1):J3 (l.drop i)=true:=by
 by_cases h':i<l.length
 ·rw [Xf h',List.drop_eq_nil_of_le (by omega)]
  rfl
 ·rw [List.drop_eq_nil_of_le (by omega)]
  rfl
structure SmallL (l:TM) (s:Sp):Prop where
 len:l.length≤80
 all:∀ p∈l,p.length≤300
 lo:s.1.length≤300
 hi:s.2.1.length≤300
theorem SmallL.get {l:TM} {s:Sp} (h:SmallL l s) (i:Nat):(l.getD i []).length≤300:=by
 by_cases hi:i<l.length
 ·exact h.all _ (Jd hi)
 ·rw [List.getD_eq_getElem?_getD,List.getElem?_eq_none (by omega)]
  exact Nat.zero_le _
def piv (s:Sp) (p:TS):Bool:=inS s p && !decide (p=s.1)
def Zam:List Msg→Bool
 | a :: b :: r=>Op.bytesLess a.1 b.1 && Zam (b :: r)
 | _=>true
def Zbf (c:Cfg) (s:Sp) (m:Msg):Bool:=Vt c m.1 && (inS s m.1 && (decide ((m.2.2.length:Int)≤c.2.2.2.2.2.2.2) && (!m.2.1 || decide (m.2.2=[]))))
def Zg9 (c:Cfg) (s:Sp) (n:Nd):Bool:=decide (n.1≤40) && (decide (n.2.2.2.2=[]) && (decide (1≤n.2.1.length) && (decide ((n.2.1.length:Int)≤c.2.2.2.1) && (decide (n.2.2.1.length+1=n.2.1.length) && ((n.2.2.1.all (piv s) && J3 n.2.2.1) && (decide ((n.2.2.2.1.length:Int)≤c.2.2.2.2.1) && Zam n.2.2.2.1))))))
theorem MidN.l {n:Nd} (hn:MidN n) {s:Sp} (h1:s.1.length≤300) (h2:s.2.1.length≤300):SmallL n.2.2.1 s:=⟨hn.pivs,fun p hp=>by have:=hn.pk p hp; omega,h1,h2⟩
def neB (l:TX) (i q:Nat):Bool:=!decide (l.getD q 0=l.getD i 0)
def Gx (c:Cfg) (l:TX) (i:Nat):Bool:=!decide (l.getD i 0=0) && (!decide (c.1≤w64 (l.getD i 0)) && (List.range' 0 i).all (neB l i))
def Zgv (c:Cfg) (s:Sp) (n:Nd):Bool:=n.2.2.1.all (Vt c) && (n.2.2.2.1.all (Zbf c s) && Zg9 c s n)
def Ze1 (c:Cfg) (s:Sp) (n:Nd):Bool:=(List.range' 0 n.2.1.length).all (Gx c n.2.1) && Zgv c s n
structure RightN (c:Cfg) (s:Sp) (n:Nd):Prop where
 small:SmallN n
 cfg:OkC c
 lo:s.1.length≤200
 hi:s.2.1.length≤200
 leaf:n.1=0→Zep c s n=true
 node:n.1≠0→0<n.1∧Ze1 c s n=true
theorem Zf4:∀ l:List Msg,Zam l=U7 (fun x=>x.1) l
 | []=>rfl
 | [_]=>rfl
 | a :: b :: r=>by rw [Zam,U7,Zf4 (b :: r)]
theorem Zgc:∀ l:List Pr,Zaq l=U7 (fun x=>x.1) l
 | []=>rfl
 | [_]=>rfl
 | a :: b :: r=>by rw [Zaq,U7,Zgc (b :: r)]
theorem Jy {α:Type} [Inhabited α] [DecidableEq α] {F:Nat→Int→Option Bool} {a b:List α} {eqb:α→α→Bool} (he:∀ x y,eqb x y=decide (x=y)) (hab:a.length=b.length) (ha:a.length≤1000000)
  (hF:∀ k i,F (k+1) i=if (decide (i<(a.length:Int)))=true then (if 0≤i∧i<(a.length:Int) then (if 0≤i∧i<(b.length:Int) then (if (!(eqb (gt a i) (gt b i)))=true then (some false) else (F k (w64 (i+1)))) else none) else none) else (some true)) :
  ∀(k i:Nat),i≤a.length→a.length - i<k→F k (i:Int)=some (decide (a.drop i=b.drop i))
 | 0,i,_,h=>by omega
 | k+1,i,hi,hk=>by
  rw [hF]
  by_cases h:i<a.length
  ·have g1:(0:Int)≤(i:Int)∧(i:Int)<(a.length:Int):=by omega
   have g2:(0:Int)≤(i:Int)∧(i:Int)<(b.length:Int):=by omega
   rw [if_pos (decide_eq_true g1.2),if_pos g1,if_pos g2,he,Y8 (by omega),Jy he hab ha hF k (i+1) (by omega) (by omega),Xf h,Xf (show i<b.length by omega),Yx,Yx]
   generalize a.getD i default=x
   generalize b.getD i default=y
   by_cases e:x=y
   ·simp [e]
   ·simp [e]
  ·rw [if_neg (by simp; omega),List.drop_eq_nil_of_le (by omega),List.drop_eq_nil_of_le (by omega)]
   rfl
structure Short (n:Nd):Prop where
 kids:n.2.1.length≤1000
 pivs:n.2.2.1.length≤1000
 buf:n.2.2.2.1.length≤1000
 prs:n.2.2.2.2.length≤1000
theorem SmallN.short {n:Nd} (h:SmallN n):Short n:=⟨by have:=h.kids; omega,by have:=h.pivs; omega,by have:=h.buf; omega,by have:=h.prs; omega⟩
instance decNd4:DecidableEq (List Msg×List Pr):=instDecidableEqProd
instance decNd3:DecidableEq (List TS×List Msg×List Pr):=instDecidableEqProd
instance decNd2:DecidableEq (List Int×List TS×List Msg×List Pr):=instDecidableEqProd
instance decNd1:DecidableEq Nd:=instDecidableEqProd
def joinN (a:Nd) (p:TS) (b:Nd):Nd×Bool:=
 if a.1=b.1 then ((a.1,a.2.1 ++ b.2.1,if 0<a.1 then a.2.2.1 ++ [p] ++ b.2.2.1 else a.2.2.1,a.2.2.2.1 ++ b.2.2.2.1,a.2.2.2.2 ++ b.2.2.2.2),true) else ((0,[],[],[],[]),false)
def fitsN (c:Cfg) (a b:Nd):Bool:=decide (a.1=b.1) && (if a.1=0 then decide (2*((a.2.2.2.2.length+b.2.2.2.2.length:Nat):Int)≤c.2.2.2.2.2.1) else decide (2*((a.2.1.length+b.2.1.length:Nat):Int)≤c.2.2.2.1) && decide (((a.2.2.2.1.length+b.2.2.2.1.length:Nat):Int)≤c.2.2.2.2.1))
abbrev ltI:=Go.Sort.ltInt
theorem Xl (x y:Int):Q36.f x y=some (ltI x y):=by
 unfold Q36.f Q37.f ltI Go.Sort.ltInt
 simp
theorem gta (d:Array Int) (i:Nat):gt d.toList (i:Int)=d[i]!:=by
 rw [Yx,List.getD_eq_getElem?_getD]
 by_cases h:i<d.size
 ·simp [h]
 ·simp [h]
theorem Wi (d:Array Int) (i j:Nat):(d.toList.set i d[j]!).set j d[i]! = (Go.Sort.swp d i j).toList:=by
 simp [Go.Sort.swp]
theorem Ys (d:Array Int) (i j:Nat):(Go.Sort.swp d i j).size=d.size:=by simp [Go.Sort.swp]
theorem wn {x:Int} {n:Nat} (h:x=n) (hn:n≤4611686018427387904):w64 x=(n:Int):=by rw [Z3 (by omega) (by omega),h]
theorem Zda {a b i:Nat} {r:TX}:∀(j:Nat) (d:Array Int),j<d.size→d.size≤1000000→i<1000000→Ev (fun k=>Q119.l0 k (a:Int) (b:Int) (Go.Sort.insInner ltI a j d).toList ((i+1:Nat):Int)) r→
  Ev (fun k=>Q119.l1 k (a:Int) (b:Int) (i:Int) d.toList (j:Int)) r
 | 0,d,hj,hd,hi,h=>h.step fun k hk=>by
  rw [Q119.l1,if_neg (by simp only [decide_eq_true_eq]; omega),wn (n:=i+1) (by omega) (by omega)]
  exact hk
 | j+1,d,hj,hd,hi,h=>by
  have e1:w64 (((j+1:Nat):Int) - 1)=(j:Int):=wn (by omega) (by omega)
  unfold Go.Sort.insInner at h
  by_cases c:a<j+1
  ·by_cases q:ltI d[j+1]! d[j]! = true
   ·rw [if_pos (by simp [c,q])] at h
    have:=Zda j (Go.Sort.swp d (j+1) j) (by rw [Ys]; omega) (by rw [Ys]; omega) hi h
    refine this.step fun k hk=>?_
    rw [Q119.l1,if_pos (decide_eq_true (by omega)),if_pos (by simp; omega),e1,if_pos (by simp; omega),gta,gta,Xl,Option.bind_some,if_pos q,Int.toNat_natCast,Int.toNat_natCast,Wi]
    exact hk
   ·rw [if_neg (by simp [q])] at h
    refine h.step fun k hk=>?_
    rw [Q119.l1,if_pos (decide_eq_true (by omega)),if_pos (by simp; omega),e1,if_pos (by simp; omega),gta,gta,Xl,Option.bind_some,if_neg q,wn (n:=i+1) (by omega) (by omega)]
    exact hk
  ·rw [if_neg (by simp [c])] at h
   refine h.step fun k hk=>?_
   rw [Q119.l1,if_neg (by simp only [decide_eq_true_eq]; omega),wn (n:=i+1) (by omega) (by omega)]
   exact hk
theorem Bk (a:Nat):∀(j:Nat) (d:Array Int),(Go.Sort.insInner ltI a j d).size=d.size
 | 0,d=>rfl
 | j+1,d=>by
  unfold Go.Sort.insInner
  split
  ·rw [Bk a j,Ys]
  ·rfl
theorem Zdd {a b:Nat}:∀(m i:Nat) (d:Array Int),b - i=m→b≤d.size→d.size≤1000000→i≤1000000→Ev (fun k=>Q119.l0 k (a:Int) (b:Int) d.toList (i:Int)) (Go.Sort.insOuter ltI a b i d).toList
 | 0,i,d,hm,hb,hd,hi=>Ev.last fun k=>by
  rw [Q119.l0,if_neg (by simp only [decide_eq_true_eq]; omega)]
  unfold Go.Sort.insOuter
  rw [if_neg (by omega)]
 | m+1,i,d,hm,hb,hd,hi=>by
  have hs:=Bk a i d
  have ih:=Zdd (a:=a) (b:=b) m (i+1) (Go.Sort.insInner ltI a i d) (by omega) (by omega) (by omega) (by omega)
  unfold Go.Sort.insOuter
  rw [if_pos (by omega)]
  refine (Zda (b:=b) i d (by omega) hd (by omega) ih).step fun k hk=>?_
  rw [Q119.l0,if_pos (decide_eq_true (by omega))]
  exact hk
theorem Zkp {a b:Nat} {d:Array Int} (hb:b≤d.size) (ha:a≤999999) (hd:d.size≤1000000):Ev (fun k=>Q119.f k d.toList (a:Int) (b:Int)) (Go.Sort.insertionSort ltI d a b).toList:=by
 refine (Zdd (a:=a) (b:=b) (b - (a+1)) (a+1) d rfl hb hd (by omega)).next fun k hk=>?_
 unfold Q119.f
 rw [wn (n:=a+1) (by omega) (by omega)]
 exact hk
theorem Js (hi first:Nat):∀(n root:Nat) (d:Array Int),hi - root≤n→(Go.Sort.siftDown ltI hi first root d).size=d.size
 | 0,root,d,h=>by
  rw [Go.Sort.siftDown,dif_pos (by omega)]
 | n+1,root,d,h=>by
  rw [Go.Sort.siftDown]
  split
  ·rfl
  ·split
   ·split
    ·rfl
    ·split
     ·rw [Js hi first n _ _ (by omega),Ys]
     ·rfl
   ·split
    ·rfl
    ·rw [Js hi first n _ _ (by omega),Ys]
theorem Zgg {hi first:Nat}:∀(n root:Nat) (d:Array Int),hi - root≤n→first+hi≤d.size→d.size≤1000000→root≤1000000→Ev (fun k=>Q129.l0 k (hi:Int) (first:Int) d.toList (root:Int)) (Go.Sort.siftDown ltI hi first root d).toList
 | n,root,d,hn,hf,hd,hr=>by
  have e1:w64 (2*(root:Int))=((2*root:Nat):Int):=wn (by omega) (by omega)
  have e2:w64 (((2*root:Nat):Int)+1)=((2*root+1:Nat):Int):=wn (by omega) (by omega)
  have e3:w64 (((2*root+1:Nat):Int)+1)=((2*root+2:Nat):Int):=wn (by omega) (by omega)
  have e4:w64 ((first:Int)+((2*root+1:Nat):Int))=((first+(2*root+1):Nat):Int):=wn (by omega) (by omega)
  have e5:w64 (((first+(2*root+1):Nat):Int)+1)=((first+(2*root+1)+1:Nat):Int):=wn (by omega) (by omega)
  have e6:w64 ((first:Int)+(root:Int))=((first+root:Nat):Int):=wn (by omega) (by omega)
  have e7:w64 ((first:Int)+((2*root+2:Nat):Int))=((first+(2*root+2):Nat):Int):=wn (by omega) (by omega)
  have un:∀ k,Q129.l0 (k+1) (hi:Int) (first:Int) d.toList (root:Int)=_:=fun k=>Q129.l0.eq_2 (hi:Int) (first:Int) d.toList (root:Int) k
  simp only [e1,e2,e3,e4,e5,e6,e7,gta,Xl,Option.bind_some,Int.toNat_natCast,Wi] at un
  rw [Go.Sort.siftDown]
  by_cases h1:2*root+1≥hi
  ·rw [dif_pos h1]
   exact Ev.last fun k=>by rw [un,if_pos (decide_eq_true (by omega))]
  ·rw [dif_neg h1]
   cases n with
   | zero=>omega
   | succ n=>
   have go:∀(c:Nat),root<c→c<hi→Ev (fun k=>Q129.l0 k (hi:Int) (first:Int) (Go.Sort.swp d (first+root) (first+c)).toList (c:Int)) (Go.Sort.siftDown ltI hi first c (Go.Sort.swp d (first+root) (first+c))).toList:=fun c h2 h3=>
    Zgg n c _ (by omega) (by rw [Ys]; exact hf) (by rw [Ys]; exact hd) (by omega)
   have b0:(0:Int)≤((first+root:Nat):Int)∧((first+root:Nat):Int)<(d.toList.length:Int):=by simp; omega
   have b1:(0:Int)≤((first+(2*root+1):Nat):Int)∧((first+(2*root+1):Nat):Int)<(d.toList.length:Int):=by simp; omega
   have left:Ev (fun k=>Q129.l0 k (hi:Int) (first:Int) d.toList (root:Int)) (if !ltI d[first+root]! d[first+(2*root+1)]! then d else Go.Sort.siftDown ltI hi first (2*root+1) (Go.Sort.swp d (first+root) (first+(2*root+1)))).toList→True:=fun _=>trivial
   by_cases h2:2*root+1+1<hi
   ·have b2:(0:Int)≤((first+(2*root+1)+1:Nat):Int)∧((first+(2*root+1)+1:Nat):Int)<(d.toList.length:Int):=by simp; omega
    have b3:(0:Int)≤((first+(2*root+2):Nat):Int)∧((first+(2*root+2):Nat):Int)<(d.toList.length:Int):=by simp; omega
    by_cases h3:ltI d[first+(2*root+1)]! d[first+(2*root+1)+1]! = true
    ·rw [if_pos (by simp [h2,h3])]
     by_cases h4:ltI d[first+root]! d[first+(2*root+2)]! = true
     ·rw [if_neg (by simp [h4]),dif_pos (by omega)]
      refine (go (2*root+2) (by omega) (by omega)).step fun k hk=>?_
      rw [un,if_neg (by simp only [decide_eq_true_eq]; omega),if_pos (decide_eq_true (by omega)),if_pos b1,if_pos b2,if_pos h3,if_pos b0,if_pos b3,if_neg (by simp [h4])]
      exact hk
     ·rw [if_pos (by simp [h4])]
      refine Ev.last fun k=>?_
      rw [un,if_neg (by simp only [decide_eq_true_eq]; omega),if_pos (decide_eq_true (by omega)),if_pos b1,if_pos b2,if_pos h3,if_pos b0,if_pos b3,if_pos (by simp [h4])]
    ·rw [if_neg (by simp [h3])]
     by_cases h4:ltI d[first+root]! d[first+(2*root+1)]! = true
     ·rw [if_neg (by simp [h4])]
      refine (go (2*root+1) (by omega) (by omega)).step fun k hk=>?_
      rw [un,if_neg (by simp only [decide_eq_true_eq]; omega),if_pos (decide_eq_true (by omega)),if_pos b1,if_pos b2,if_neg h3,if_pos b0,if_neg (by simp [h4])]
      exact hk
     ·rw [if_pos (by simp [h4])]
      refine Ev.last fun k=>?_
      rw [un,if_neg (by simp only [decide_eq_true_eq]; omega),if_pos (decide_eq_true (by omega)),if_pos b1,if_pos b2,if_neg h3,if_pos b0,if_pos (by simp [h4])]
   ·rw [if_neg (by simp [h2])]
    by_cases h4:ltI d[first+root]! d[first+(2*root+1)]! = true
    ·rw [if_neg (by simp [h4])]
     refine (go (2*root+1) (by omega) (by omega)).step fun k hk=>?_
     rw [un,if_neg (by simp only [decide_eq_true_eq]; omega),if_neg (by simp only [decide_eq_true_eq]; omega),if_pos b0,if_pos b1,if_neg (by simp [h4])]
     exact hk
    ·rw [if_pos (by simp [h4])]
     refine Ev.last fun k=>?_
     rw [un,if_neg (by simp only [decide_eq_true_eq]; omega),if_neg (by simp only [decide_eq_true_eq]; omega),if_pos b0,if_pos b1,if_pos (by simp [h4])]
theorem Zkh {hi first root:Nat} {d:Array Int} (hf:first+hi≤d.size) (hd:d.size≤1000000) (hr:root≤1000000):Ev (fun k=>Q129.f k d.toList (root:Int) (hi:Int) (first:Int)) (Go.Sort.siftDown ltI hi first root d).toList:=Zgg hi root d (by omega) hf hd hr
theorem Ze9 {a:Nat}:∀(m:Nat) (d:Array Int),a+m≤d.size→d.size≤1000000→Ev (fun k=>Q118.l1 k (a:Int) d.toList ((m:Int) - 1)) (Go.Sort.heapPop ltI a m d).toList
 | 0,d,h,hd=>Ev.last fun k=>by
  rw [Q118.l1,if_neg (by simp)]
  rfl
 | m+1,d,h,hd=>by
  have e0:(((m+1:Nat):Int) - 1)=(m:Int):=by omega
  have e1:w64 ((a:Int)+(m:Int))=((a+m:Nat):Int):=wn (by omega) (by omega)
  have e2:w64 ((m:Int) - 1)=(m:Int) - 1:=Z3 (by omega) (by omega)
  have s1:=Zkh (hi:=m) (first:=a) (root:=0) (d:=Go.Sort.swp d a (a+m)) (by rw [Ys]; omega) (by rw [Ys]; exact hd) (by omega)
  have sz:=Js m a m 0 (Go.Sort.swp d a (a+m)) (by omega)
  rw [Ys] at sz
  have ih:=Ze9 (a:=a) m (Go.Sort.siftDown ltI m a 0 (Go.Sort.swp d a (a+m))) (by omega) (by omega)
  rw [e0]
  refine Ev.step2 s1 ih fun k h1 h2=>?_
  rw [Q118.l1,if_pos (decide_eq_true (by omega)),e1,if_pos (by simp; omega),if_pos (by simp; omega),gta,gta,Int.toNat_natCast,Int.toNat_natCast,Wi,show Q129.f k (Go.Sort.swp d a (a+m)).toList 0 (m:Int) (a:Int)=_ from h1,Option.bind_some,e2]
  exact h2
theorem Zbu {a b:Nat} (hab:a≤b):∀(m:Nat) (d:Array Int),b≤d.size→d.size≤1000000→m≤1000000→Ev (fun k=>Q118.l0 k (a:Int) (b:Int) d.toList ((m:Int) - 1)) (Go.Sort.heapPop ltI a (b - a) (Go.Sort.heapBuild ltI (b - a) a m d)).toList
 | 0,d,h,hd,hm=>by
  have e1:w64 ((b:Int) - (a:Int))=((b - a:Nat):Int):=wn (by omega) (by omega)
  have e2:w64 (((b - a:Nat):Int) - 1)=((b - a:Nat):Int) - 1:=Z3 (by omega) (by omega)
  refine (Ze9 (a:=a) (b - a) d (by omega) hd).step fun k hk=>?_
  rw [Q118.l0,if_neg (by simp),e1,e2]
  exact hk
 | m+1,d,h,hd,hm=>by
  have e0:(((m+1:Nat):Int) - 1)=(m:Int):=by omega
  have e1:w64 ((b:Int) - (a:Int))=((b - a:Nat):Int):=wn (by omega) (by omega)
  have e2:w64 ((m:Int) - 1)=(m:Int) - 1:=Z3 (by omega) (by omega)
  have s1:=Zkh (hi:=b - a) (first:=a) (root:=m) (d:=d) (by omega) hd (by omega)
  have sz:=Js (b - a) a (b - a) m d (by omega)
  have ih:=Zbu hab m (Go.Sort.siftDown ltI (b - a) a m d) (by omega) (by omega) (by omega)
  rw [e0]
  refine Ev.step2 s1 ih fun k h1 h2=>?_
  rw [Q118.l0,if_pos (decide_eq_true (by omega)),e1,h1,Option.bind_some,e2]
  exact h2
theorem Zna {a b:Nat} {d:Array Int} (hab:a≤b) (hb:b≤d.size) (hd:d.size≤1000000):Ev (fun k=>Q118.f k d.toList (a:Int) (b:Int)) (Go.Sort.heapSort ltI d a b).toList:=by
 refine (Zbu hab ((b - a - 1) / 2+1) d hb hd (by omega)).next fun k hk=>?_
 have e1:w64 ((b:Int) - (a:Int))=((b - a:Nat):Int):=wn (by omega) (by omega)
 have e2:w64 (((b - a:Nat):Int) - 1)=((b - a:Nat):Int) - 1:=Z3 (by omega) (by omega)
 have e3:Int.tdiv (((b - a:Nat):Int) - 1) 2=(((b - a - 1) / 2:Nat):Int):=by
  by_cases z:b - a=0
  ·rw [z]; rfl
  ·rw [show ((b - a:Nat):Int) - 1=((b - a - 1:Nat):Int) by omega]
   rfl
 unfold Q118.f
 rw [e1,e2,e3,Z3 (by omega) (by omega)]
 rw [show ((((b - a - 1) / 2+1:Nat):Int) - 1)=(((b - a - 1) / 2:Nat):Int) by omega] at hk
 exact hk
theorem Zil:∀(m i j:Nat) (d:Array Int),j - i≤m→i≤1000000→j<d.size→d.size≤1000000→Ev (fun k=>Q128.l0 k d.toList (i:Int) (j:Int)) (Go.Sort.reverseLoop i j d).toList
 | m,i,j,d,hm,hi,hj,hd=>by
  rw [Go.Sort.reverseLoop]
  by_cases c:i<j
  ·cases m with
   | zero=>omega
   | succ m=>
   rw [if_pos c]
   refine (Zil m (i+1) (j - 1) (Go.Sort.swp d i j) (by omega) (by omega) (by rw [Ys]; omega) (by rw [Ys]; exact hd)).step fun k hk=>?_
   rw [Q128.l0,if_pos (decide_eq_true (by omega)),if_pos (by simp; omega),if_pos (by simp; omega),gta,gta,Int.toNat_natCast,Int.toNat_natCast,Wi,wn (n:=i+1) (by omega) (by omega),wn (x:=(j:Int) - 1) (n:=j - 1) (by omega) (by omega)]
   exact hk
  ·rw [if_neg c]
   exact Ev.last fun k=>by rw [Q128.l0,if_neg (by simp only [decide_eq_true_eq]; omega)]
theorem Znv {a b:Nat} {d:Array Int} (ha:a≤1000000) (h1:1≤b) (hb:b≤d.size) (hd:d.size≤1000000):Ev (fun k=>Q128.f k d.toList (a:Int) (b:Int)) (Go.Sort.reverseRange d a b).toList:=by
 refine (Zil (b - 1 - a) a (b - 1) d (Nat.le_refl _) ha (by omega) hd).next fun k hk=>?_
 unfold Q128.f
 rw [wn (x:=(b:Int) - 1) (n:=b - 1) (by omega) (by omega)]
 exact hk
theorem Zcj {d:Array Int} {a b s:Nat} (ha:a<d.size) (hb:b<d.size) (hs:s≤1000):Q123.f d.toList (a:Int) (b:Int) (s:Int)=some (((Go.Sort.order2 ltI d a b s).1:Int),((Go.Sort.order2 ltI d a b s).2.1:Int),((Go.Sort.order2 ltI d a b s).2.2:Int)):=by
 unfold Q123.f Go.Sort.order2
 rw [if_pos (by simp; omega),if_pos (by simp; omega),gta,gta,Xl,Option.bind_some,wn (n:=s+1) (by omega) (by omega)]
 split <;> rfl
theorem Uv {P:Nat→Prop} {d:Array Int} {a b s:Nat} (ha:P a) (hb:P b):P (Go.Sort.order2 ltI d a b s).1∧P (Go.Sort.order2 ltI d a b s).2.1∧(Go.Sort.order2 ltI d a b s).2.2≤s+1:=by
 unfold Go.Sort.order2
 split
 ·exact ⟨hb,ha,Nat.le_refl _⟩
 ·exact ⟨ha,hb,Nat.le_succ _⟩
theorem Zh1 {P:Nat→Prop} {d:Array Int} {a b c s:Nat} (ha:P a) (hb:P b) (hc:P c):P (Go.Sort.median ltI d a b c s).1∧(Go.Sort.median ltI d a b c s).2≤s+3:=by
 obtain ⟨a1,a2,a3⟩:=Uv (d:=d) (s:=s) ha hb
 obtain ⟨b1,b2,b3⟩:=Uv (d:=d) (s:=(Go.Sort.order2 ltI d a b s).2.2) a2 hc
 obtain ⟨c1,c2,c3⟩:=Uv (d:=d) (s:=(Go.Sort.order2 ltI d (Go.Sort.order2 ltI d a b s).2.1 c (Go.Sort.order2 ltI d a b s).2.2).2.2) a1 b1
 unfold Go.Sort.median
 exact ⟨c2,by dsimp only; omega⟩
theorem Zc1 {d:Array Int} {a b c s:Nat} (ha:a<d.size) (hb:b<d.size) (hc:c<d.size) (hs:s≤900):Q121.f d.toList (a:Int) (b:Int) (c:Int) (s:Int)=some (((Go.Sort.median ltI d a b c s).1:Int),((Go.Sort.median ltI d a b c s).2:Int)):=by
 obtain ⟨a1,a2,a3⟩:=Uv (P:=fun x=>x<d.size) (d:=d) (s:=s) ha hb
 obtain ⟨b1,b2,b3⟩:=Uv (P:=fun x=>x<d.size) (d:=d) (s:=(Go.Sort.order2 ltI d a b s).2.2) a2 hc
 unfold Q121.f Go.Sort.median
 rw [Zcj ha hb (by omega),Option.bind_some]
 dsimp only
 rw [Zcj a2 hc (by omega),Option.bind_some]
 dsimp only
 rw [Zcj a1 b1 (by omega),Option.bind_some]
theorem Zcq {d:Array Int} {a s:Nat} (h1:1≤a) (ha:a+1<d.size) (hd:d.size≤1000000) (hs:s≤900):Q120.f d.toList (a:Int) (s:Int)=some (((Go.Sort.medianAdjacent ltI d a s).1:Int),((Go.Sort.medianAdjacent ltI d a s).2:Int)):=by
 unfold Q120.f Go.Sort.medianAdjacent
 rw [wn (x:=(a:Int) - 1) (n:=a - 1) (by omega) (by omega),wn (n:=a+1) (by omega) (by omega),Zc1 (by omega) (by omega) (by omega) hs]
 rfl
theorem Bl {d:Array Int} {a s:Nat} (ha:a+1<d.size):(Go.Sort.medianAdjacent ltI d a s).1<d.size∧(Go.Sort.medianAdjacent ltI d a s).2≤s+3:=by
 unfold Go.Sort.medianAdjacent
 exact Zh1 (P:=fun x=>x<d.size) (by omega) (by omega) (by omega)
def Zcf:Go.Sort.Hint→Int
 | .unknown=>0
 | .increasing=>1
 | .decreasing=>2
theorem Zgf (x:Int) (n:Nat):(if (decide ((n:Int)=0))=true then (some (x,(1:Int))) else (if (decide ((n:Int)=12))=true then (some (x,2)) else (some (x,0))))=some (x,Zcf (if n=0 then Go.Sort.Hint.increasing else if n=12 then .decreasing else .unknown)):=by
 by_cases h1:n=0
 ·subst h1; rfl
 ·rw [if_neg (by simp only [decide_eq_true_eq]; omega),if_neg h1]
  by_cases h2:n=12
  ·subst h2; rfl
  ·rw [if_neg (by simp only [decide_eq_true_eq]; omega),if_neg h2]
   rfl
theorem Zmi {d:Array Int} {a b:Nat} (hab:a≤b) (hb:b≤d.size) (h12:12<b - a) (hd:d.size≤1000000):Q117.f d.toList (a:Int) (b:Int)=some (((Go.Sort.choosePivot ltI d a b).1:Int),Zcf (Go.Sort.choosePivot ltI d a b).2):=by
 have e1:w64 ((b:Int) - (a:Int))=((b - a:Nat):Int):=wn (by omega) (by omega)
 have e2:w64 (Int.tdiv ((b - a:Nat):Int) 4)=(((b - a) / 4:Nat):Int):=by
  rw [show Int.tdiv ((b - a:Nat):Int) 4=(((b - a) / 4:Nat):Int) from rfl,Z3 (by omega) (by omega)]
 obtain ⟨q,hq⟩:∃ q,q=(b - a) / 4:=⟨_,rfl⟩
 rw [← hq] at e2
 have e3:w64 ((q:Int)*1)=((q*1:Nat):Int):=wn (by omega) (by omega)
 have e4:w64 ((q:Int)*2)=((q*2:Nat):Int):=wn (by omega) (by omega)
 have e5:w64 ((q:Int)*3)=((q*3:Nat):Int):=wn (by omega) (by omega)
 have e6:w64 ((a:Int)+((q*1:Nat):Int))=((a+q*1:Nat):Int):=wn (by omega) (by omega)
 have e7:w64 ((a:Int)+((q*2:Nat):Int))=((a+q*2:Nat):Int):=wn (by omega) (by omega)
 have e8:w64 ((a:Int)+((q*3:Nat):Int))=((a+q*3:Nat):Int):=wn (by omega) (by omega)
 unfold Q117.f Go.Sort.choosePivot
 simp only [e1,e2,e3,e4,e5,e6,e7,e8,← hq]
 rw [if_pos (decide_eq_true (by omega)),if_pos (show b - a≥8 by omega)]
 by_cases c:b - a≥50
 ·obtain ⟨i1,i2⟩:=Bl (d:=d) (a:=a+q*1) (s:=0) (by omega)
  obtain ⟨j1,j2⟩:=Bl (d:=d) (a:=a+q*2) (s:=(Go.Sort.medianAdjacent ltI d (a+q*1) 0).2) (by omega)
  obtain ⟨k1,k2⟩:=Bl (d:=d) (a:=a+q*3) (s:=(Go.Sort.medianAdjacent ltI d (a+q*2) (Go.Sort.medianAdjacent ltI d (a+q*1) 0).2).2) (by omega)
  rw [if_pos (decide_eq_true (by omega)),if_pos c,show Q120.f d.toList ((a+q*1:Nat):Int) 0=_ from Zcq (s:=0) (by omega) (by omega) hd (by omega),Option.bind_some]
  dsimp only
  rw [Zcq (by omega) (by omega) hd (by omega),Option.bind_some]
  dsimp only
  rw [Zcq (by omega) (by omega) hd (by omega),Option.bind_some]
  dsimp only
  rw [Zc1 i1 j1 k1 (by omega),Option.bind_some]
  exact Zgf _ _
 ·rw [if_neg (by simp only [decide_eq_true_eq]; omega),if_neg c,show Q121.f d.toList ((a+q*1:Nat):Int) ((a+q*2:Nat):Int) ((a+q*3:Nat):Int) 0=_ from Zc1 (s:=0) (by omega) (by omega) (by omega) (by omega),Option.bind_some]
  exact Zgf _ _
theorem Zf3 {R:Type} {b:Nat} {r:R} {F:Nat→List Int→Int→Option R} {G:Nat→List Int→Option R}
  (hF:∀ k x j,F (k+1) x j=if (decide (j<(b:Int)))=true then (if 0≤j∧j<(x.length:Int) then (if 0≤(w64 (j - 1))∧(w64 (j - 1))<(x.length:Int) then ((Q36.f (gt x j) (gt x (w64 (j - 1)))).bind fun r3=>(if (!r3)=true then (G k x) else (F k ((x.set j.toNat (gt x (w64 (j - 1)))).set (w64 (j - 1)).toNat (gt x j)) (w64 (j+1))))) else none) else none) else (G k x)) :
  ∀(m j:Nat) (d:Array Int),b - j≤m→1≤j→b≤d.size→d.size≤1000000→Ev (fun k=>G k (Go.Sort.shiftUp ltI b j d).toList) r→Ev (fun k=>F k d.toList (j:Int)) r
 | m,j,d,hm,h1,hb,hd,h=>by
  rw [Go.Sort.shiftUp] at h
  by_cases c:j<b
  ·cases m with
   | zero=>omega
   | succ m=>
   have e1:w64 ((j:Int) - 1)=((j - 1:Nat):Int):=wn (by omega) (by omega)
   have e2:w64 ((j:Int)+1)=((j+1:Nat):Int):=wn (by omega) (by omega)
   rw [if_pos c] at h
   by_cases q:ltI d[j]! d[j - 1]! = true
   ·rw [if_neg (by simp [q])] at h
    refine (Zf3 hF m (j+1) (Go.Sort.swp d j (j - 1)) (by omega) (by omega) (by rw [Ys]; exact hb) (by rw [Ys]; exact hd) h).step fun k hk=>?_
    rw [hF,if_pos (decide_eq_true (by omega)),e1,if_pos (by simp; omega),if_pos (by simp; omega),gta,gta,Xl,Option.bind_some,if_neg (by simp [q]),Int.toNat_natCast,Int.toNat_natCast,Wi,e2]
    exact hk
   ·rw [if_pos (by simp [q])] at h
    refine h.step fun k hk=>?_
    rw [hF,if_pos (decide_eq_true (by omega)),e1,if_pos (by simp; omega),if_pos (by simp; omega),gta,gta,Xl,Option.bind_some,if_pos (by simp [q])]
    exact hk
  ·rw [if_neg c] at h
   refine h.step fun k hk=>?_
   rw [hF,if_neg (by simp only [decide_eq_true_eq]; omega)]
   exact hk
theorem B0 (b:Nat):∀(m j:Nat) (d:Array Int),b - j≤m→(Go.Sort.shiftUp ltI b j d).size=d.size
 | m,j,d,hm=>by
  rw [Go.Sort.shiftUp]
  by_cases c:j<b
  ·cases m with
   | zero=>omega
   | succ m=>
   rw [if_pos c]
   split
   ·rfl
   ·rw [B0 b m _ _ (by omega),Ys]
  ·rw [if_neg c]
theorem Gj:∀(j:Nat) (d:Array Int),(Go.Sort.shiftDown ltI j d).size=d.size
 | 0,d=>rfl
 | j+1,d=>by
  unfold Go.Sort.shiftDown
  split
  ·rfl
  ·rw [Gj j,Ys]
theorem Zdt {R:Type} {r:R} {F:Nat→List Int→Int→Option R} {G1 G2:Nat→List Int→Option R}
  (hF:∀ k x j,F (k+1) x j=if (decide (1≤j))=true then (if 0≤j∧j<(x.length:Int) then (if 0≤(w64 (j - 1))∧(w64 (j - 1))<(x.length:Int) then ((Q36.f (gt x j) (gt x (w64 (j - 1)))).bind fun r3=>(if (!r3)=true then (G1 k x) else (F k ((x.set j.toNat (gt x (w64 (j - 1)))).set (w64 (j - 1)).toNat (gt x j)) (w64 (j - 1))))) else none) else none) else (G2 k x)) :
  ∀(j:Nat) (d:Array Int),j<d.size→d.size≤1000000→Ev (fun k=>G1 k (Go.Sort.shiftDown ltI j d).toList) r→Ev (fun k=>G2 k (Go.Sort.shiftDown ltI j d).toList) r→Ev (fun k=>F k d.toList (j:Int)) r
 | 0,d,hj,hd,h1,h2=>h2.step fun k hk=>by
  rw [hF,if_neg (by simp)]
  exact hk
 | j+1,d,hj,hd,h1,h2=>by
  have e1:w64 (((j+1:Nat):Int) - 1)=(j:Int):=wn (by omega) (by omega)
  unfold Go.Sort.shiftDown at h1 h2
  by_cases q:ltI d[j+1]! d[j]! = true
  ·rw [if_neg (by simp [q])] at h1 h2
   refine (Zdt hF j (Go.Sort.swp d (j+1) j) (by rw [Ys]; omega) (by rw [Ys]; exact hd) h1 h2).step fun k hk=>?_
   rw [hF,if_pos (decide_eq_true (by omega)),e1,if_pos (by simp; omega),if_pos (by simp; omega),gta,gta,Xl,Option.bind_some,if_neg (by simp [q]),Int.toNat_natCast,Int.toNat_natCast,Wi]
   exact hk
  ·rw [if_pos (by simp [q])] at h1
   refine h1.step fun k hk=>?_
   rw [hF,if_pos (decide_eq_true (by omega)),e1,if_pos (by simp; omega),if_pos (by simp; omega),gta,gta,Xl,Option.bind_some,if_pos (by simp [q])]
   exact hk
def Zal (a b s i:Nat) (d:Array Int):Array Int×Bool:=
 if i=b then (d,true) else if b - a<50 then (d,false) else
  Go.Sort.partialIns ltI a b s i (let d1:=Go.Sort.swp d i (i - 1); let d2:=if i - a≥2 then Go.Sort.shiftDown ltI (i - 1) d1 else d1; if b - i≥2 then Go.Sort.shiftUp ltI b (i+1) d2 else d2)
theorem Zb8 (a b s i:Nat) (d:Array Int):Go.Sort.partialIns ltI a b (s+1) i d=Zal a b s (Go.Sort.scanSorted ltI d b i) d:=rfl
def U6 (p:Array Int×Bool):Bool×List Int:=(p.2,p.1.toList)
theorem Zh8 {a b s i:Nat} {d:Array Int} (hs:s<5) (ha:a<i) (hi:i<b) (hb:b≤d.size) (hd:d.size≤1000000) (hq:ltI d[i]! d[i - 1]! = true)
  (ih:∀ d':Array Int,d'.size=d.size→Ev (fun k=>Q124.l0 k (a:Int) (b:Int) d'.toList (i:Int) ((5 - s:Nat):Int)) (U6 (Go.Sort.partialIns ltI a b s i d'))) :
  Ev (fun k=>Q124.l3 k (a:Int) (b:Int) d.toList ((4 - s:Nat):Int) (i:Int)) (U6 (Zal a b s i d)):=by
 have e1:w64 ((i:Int) - 1)=((i - 1:Nat):Int):=wn (by omega) (by omega)
 have e2:w64 ((b:Int) - (a:Int))=((b - a:Nat):Int):=wn (by omega) (by omega)
 have e3:w64 ((i:Int) - (a:Int))=((i - a:Nat):Int):=wn (by omega) (by omega)
 have e4:w64 ((b:Int) - (i:Int))=((b - i:Nat):Int):=wn (by omega) (by omega)
 have e5:w64 ((i:Int)+1)=((i+1:Nat):Int):=wn (by omega) (by omega)
 have e6:w64 (((4 - s:Nat):Int)+1)=((5 - s:Nat):Int):=wn (by omega) (by omega)
 have un:∀ k,Q124.l3 (k+1) (a:Int) (b:Int) d.toList ((4 - s:Nat):Int) (i:Int)=(if (decide (((b - a:Nat):Int)<50))=true then (some (false,d.toList)) else (if (decide (2≤((i - a:Nat):Int)))=true then (Q124.l2 k (a:Int) (b:Int) ((4 - s:Nat):Int) (i:Int) (Go.Sort.swp d i (i - 1)).toList ((i - 1:Nat):Int)) else (if (decide (2≤((b - i:Nat):Int)))=true then (Q124.l1 k (a:Int) (b:Int) ((4 - s:Nat):Int) (i:Int) (Go.Sort.swp d i (i - 1)).toList ((i+1:Nat):Int)) else (Q124.l0 k (a:Int) (b:Int) (Go.Sort.swp d i (i - 1)).toList (i:Int) ((5 - s:Nat):Int))))):=fun k=>by
  rw [Q124.l3,if_pos (decide_eq_true (by omega)),e1,if_pos (by simp; omega),if_pos (by simp; omega),gta,gta,Xl,Option.bind_some,if_neg (by simp [hq]),if_neg (by simp only [decide_eq_true_eq]; omega),if_pos (show 0≤((i - 1:Nat):Int)∧((i - 1:Nat):Int)<(d.toList.length:Int) by simp; omega),if_pos (show 0≤(i:Int)∧(i:Int)<(d.toList.length:Int) by simp; omega),e2,e3,e4,e5,e6,Int.toNat_natCast,Int.toNat_natCast,Wi]
 unfold Zal
 rw [if_neg (by omega)]
 by_cases c1:b - a<50
 ·rw [if_pos c1]
  exact Ev.last fun k=>by rw [un,if_pos (decide_eq_true (by omega))]; rfl
 ·rw [if_neg c1]
  have sz:=Ys d i (i - 1)
  have fin:∀(d2:Array Int),d2.size=d.size→∀(F:Nat→List Int→Int→Option TP),(∀ k x j,F (k+1) x j=if (decide (j<(b:Int)))=true then (if 0≤j∧j<(x.length:Int) then (if 0≤(w64 (j - 1))∧(w64 (j - 1))<(x.length:Int) then ((Q36.f (gt x j) (gt x (w64 (j - 1)))).bind fun r3=>(if (!r3)=true then (Q124.l0 k (a:Int) (b:Int) x (i:Int) ((5 - s:Nat):Int)) else (F k ((x.set j.toNat (gt x (w64 (j - 1)))).set (w64 (j - 1)).toNat (gt x j)) (w64 (j+1))))) else none) else none) else (Q124.l0 k (a:Int) (b:Int) x (i:Int) ((5 - s:Nat):Int)))→
    Ev (fun k=>F k d2.toList ((i+1:Nat):Int)) (U6 (Go.Sort.partialIns ltI a b s i (Go.Sort.shiftUp ltI b (i+1) d2))):=fun d2 h2 F hF=>
   Zf3 (G:=fun k x=>Q124.l0 k (a:Int) (b:Int) x (i:Int) ((5 - s:Nat):Int)) hF b (i+1) d2 (by omega) (by omega) (by omega) (by omega) (ih _ (by rw [B0 b b _ _ (by omega),h2]))
  by_cases c2:i - a≥2
  ·have sz2:(Go.Sort.shiftDown ltI (i - 1) (Go.Sort.swp d i (i - 1))).size=d.size:=by rw [Gj,sz]
   have dn:=Zdt (r:=U6 (Go.Sort.partialIns ltI a b s i (if b - i≥2 then Go.Sort.shiftUp ltI b (i+1) (Go.Sort.shiftDown ltI (i - 1) (Go.Sort.swp d i (i - 1))) else Go.Sort.shiftDown ltI (i - 1) (Go.Sort.swp d i (i - 1)))))
    (F:=fun k x j=>Q124.l2 k (a:Int) (b:Int) ((4 - s:Nat):Int) (i:Int) x j)
    (G1:=fun k x=>if (decide (2≤((b - i:Nat):Int)))=true then (Q124.l1 k (a:Int) (b:Int) ((4 - s:Nat):Int) (i:Int) x ((i+1:Nat):Int)) else (Q124.l0 k (a:Int) (b:Int) x (i:Int) ((5 - s:Nat):Int)))
    (G2:=fun k x=>if (decide (2≤((b - i:Nat):Int)))=true then (Q124.l1 k (a:Int) (b:Int) ((4 - s:Nat):Int) (i:Int) x ((i+1:Nat):Int)) else (Q124.l0 k (a:Int) (b:Int) x (i:Int) ((5 - s:Nat):Int)))
    (fun k x j=>by rw [Q124.l2]; simp only [e4,e5,e6]) (i - 1) (Go.Sort.swp d i (i - 1)) (by omega) (by omega)
   have key:=dn (by
    by_cases c3:b - i≥2
    ·simp only [if_pos c3,if_pos (show decide (2≤((b - i:Nat):Int))=true from decide_eq_true (by omega))]
     exact fin _ sz2 (fun k x j=>Q124.l1 k (a:Int) (b:Int) ((4 - s:Nat):Int) (i:Int) x j) (fun k x j=>by rw [Q124.l1]; simp only [e6])
    ·simp only [if_neg c3,if_neg (show ¬ decide (2≤((b - i:Nat):Int))=true by simp only [decide_eq_true_eq]; omega)]
     exact ih _ sz2) (by
    by_cases c3:b - i≥2
    ·simp only [if_pos c3,if_pos (show decide (2≤((b - i:Nat):Int))=true from decide_eq_true (by omega))]
     exact fin _ sz2 (fun k x j=>Q124.l1 k (a:Int) (b:Int) ((4 - s:Nat):Int) (i:Int) x j) (fun k x j=>by rw [Q124.l1]; simp only [e6])
    ·simp only [if_neg c3,if_neg (show ¬ decide (2≤((b - i:Nat):Int))=true by simp only [decide_eq_true_eq]; omega)]
     exact ih _ sz2)
   refine key.step fun k hk=>?_
   rw [un,if_neg (by simp only [decide_eq_true_eq]; omega),if_pos (decide_eq_true (by omega)),hk]
   simp only [if_pos c2]
  ·by_cases c3:b - i≥2
   ·refine (fin _ sz (fun k x j=>Q124.l1 k (a:Int) (b:Int) ((4 - s:Nat):Int) (i:Int) x j) (fun k x j=>by rw [Q124.l1]; simp only [e6])).step fun k hk=>?_
    rw [un,if_neg (by simp only [decide_eq_true_eq]; omega),if_neg (by simp only [decide_eq_true_eq]; omega),if_pos (decide_eq_true (by omega)),hk]
    simp only [if_neg c2,if_pos c3]
   ·refine (ih _ sz).step fun k hk=>?_
    rw [un,if_neg (by simp only [decide_eq_true_eq]; omega),if_neg (by simp only [decide_eq_true_eq]; omega),if_neg (by simp only [decide_eq_true_eq]; omega),hk]
    simp only [if_neg c2,if_neg c3]
theorem Zga {a b n:Nat} (hn:n≤1000000) (hb:b≤n):∀(s i:Nat) (d:Array Int),s≤5→a<i→i≤b→d.size=n→Ev (fun k=>Q124.l0 k (a:Int) (b:Int) d.toList (i:Int) ((5 - s:Nat):Int)) (U6 (Go.Sort.partialIns ltI a b s i d))
 | 0,i,d,hs,ha,hi,hd=>Ev.last fun k=>by
  rw [Q124.l0,if_neg (by simp)]
  rfl
 | s+1,i,d,hs,ha,hi,hd=>by
  rw [Zb8]
  have scan:∀(m i:Nat),b - i≤m→a<i→i≤b→Ev (fun k=>Q124.l3 k (a:Int) (b:Int) d.toList ((4 - s:Nat):Int) (i:Int)) (U6 (Zal a b s (Go.Sort.scanSorted ltI d b i) d)):=fun m=>by
   induction m with
   | zero=>
    intro i hm ha hi
    rw [Go.Sort.scanSorted,if_neg (by simp; omega)]
    unfold Zal
    rw [if_pos (by omega)]
    exact Ev.last fun k=>by
     rw [Q124.l3,if_neg (by simp only [decide_eq_true_eq]; omega),if_pos (decide_eq_true (by omega))]
     rfl
   | succ m ihm=>
    intro i hm ha hi
    rw [Go.Sort.scanSorted]
    by_cases c:i<b
    ·by_cases q:ltI d[i]! d[i - 1]! = true
     ·rw [if_neg (by simp [q])]
      exact Zh8 (by omega) ha c (by omega) (by omega) q fun d' h'=>Zga hn hb s i d' (by omega) ha hi (by omega)
     ·rw [if_pos (by simp [c,q])]
      have e1:w64 ((i:Int) - 1)=((i - 1:Nat):Int):=wn (by omega) (by omega)
      have e5:w64 ((i:Int)+1)=((i+1:Nat):Int):=wn (by omega) (by omega)
      refine (ihm (i+1) (by omega) (by omega) (by omega)).step fun k hk=>?_
      rw [Q124.l3,if_pos (decide_eq_true (by omega)),e1,if_pos (by simp; omega),if_pos (by simp; omega),gta,gta,Xl,Option.bind_some,if_pos (by simp [q]),e5]
      exact hk
    ·rw [if_neg (by simp [c])]
     unfold Zal
     rw [if_pos (by omega)]
     exact Ev.last fun k=>by
      rw [Q124.l3,if_neg (by simp only [decide_eq_true_eq]; omega),if_pos (decide_eq_true (by omega))]
      rfl
  refine (scan b i (by omega) ha hi).step fun k hk=>?_
  rw [Q124.l0,if_pos (decide_eq_true (by omega)),show ((5 - (s+1):Nat):Int)=((4 - s:Nat):Int) by omega]
  exact hk
theorem Zm5 {a b:Nat} {d:Array Int} (hab:a<b) (hb:b≤d.size) (hd:d.size≤1000000):Ev (fun k=>Q124.f k d.toList (a:Int) (b:Int)) (U6 (Go.Sort.partialInsertionSort ltI d a b)):=by
 refine (Zga (a:=a) (b:=b) hd hb 5 (a+1) d (Nat.le_refl _) (by omega) (by omega) rfl).next fun k hk=>?_
 unfold Q124.f
 rw [wn (n:=a+1) (by omega) (by omega)]
 exact hk
theorem B1 (p:Int→Bool) (d:Array Int) (j:Nat):∀(m i:Nat),j+1 - i≤m→i≤Go.Sort.scanUp p d j i∧(Go.Sort.scanUp p d j i≤j+1∨Go.Sort.scanUp p d j i=i)
 | m,i,hm=>by
  rw [Go.Sort.scanUp]
  by_cases c:(decide (i≤j) && p d[i]!)=true
  ·rw [if_pos c]
   have hij:i≤j:=by simp only [Bool.and_eq_true,decide_eq_true_eq] at c; exact c.1
   cases m with
   | zero=>omega
   | succ m=>
   have:=B1 p d j m (i+1) (by omega)
   omega
  ·rw [if_neg c]
   exact ⟨Nat.le_refl _,.inr rfl⟩
theorem Un (p:Int→Bool) (d:Array Int) (i:Nat):∀ j:Nat,Go.Sort.scanDown p d i j≤j
 | 0=>Nat.le_refl _
 | j+1=>by
  unfold Go.Sort.scanDown
  split
  ·have:=Un p d i j; omega
  ·exact Nat.le_refl _
def Gr (p:Nat×Array Int):Int×List Int:=((p.1:Int),p.2.toList)
def Jt (a i2 j2:Nat) (d:Array Int):Nat×Array Int:=if i2>j2 then (i2,d) else Go.Sort.partEqLoop ltI a (i2+1) (j2 - 1) (Go.Sort.swp d i2 j2)
theorem Zfu {a i j:Nat} {d:Array Int} (h1:1≤i):Go.Sort.partEqLoop ltI a i j d=Jt a (Go.Sort.scanUp (fun x=>!ltI d[a]! x) d j i) (Go.Sort.scanDown (fun x=>ltI d[a]! x) d (Go.Sort.scanUp (fun x=>!ltI d[a]! x) d j i) j) d:=by
 have u:=(B1 (fun x=>!ltI d[a]! x) d j _ i (Nat.le_refl _)).1
 have v:=Un (fun x=>ltI d[a]! x) d (Go.Sort.scanUp (fun x=>!ltI d[a]! x) d j i) j
 rw [Go.Sort.partEqLoop]
 unfold Jt
 split
 ·rfl
 ·rw [dif_pos (by omega)]
theorem Zge {a i2:Nat} {d:Array Int} (hi:1≤i2) (ha:a<d.size) (hd:d.size≤1000000) (hi2:i2≤1000001):∀(j:Nat),j<d.size→(∀ j2,j2≤j→i2≤j2→Ev (fun k=>Q125.l0 k (a:Int) (Go.Sort.swp d i2 j2).toList ((i2+1:Nat):Int) ((j2 - 1:Nat):Int)) (Gr (Go.Sort.partEqLoop ltI a (i2+1) (j2 - 1) (Go.Sort.swp d i2 j2))))→
  Ev (fun k=>Q125.l2 k (a:Int) d.toList (i2:Int) (j:Int)) (Gr (Jt a i2 (Go.Sort.scanDown (fun x=>ltI d[a]! x) d i2 j) d))
 | 0,hj,h=>by
  unfold Go.Sort.scanDown Jt
  rw [if_pos (by omega)]
  exact Ev.last fun k=>by rw [Q125.l2,if_neg (by simp only [decide_eq_true_eq]; omega),if_pos (decide_eq_true (by omega))]; rfl
 | j+1,hj,h=>by
  have e1:w64 (((j+1:Nat):Int) - 1)=(j:Int):=wn (by omega) (by omega)
  have e2:w64 ((i2:Int)+1)=((i2+1:Nat):Int):=wn (by omega) (by omega)
  unfold Go.Sort.scanDown
  by_cases c:i2≤j+1
  ·by_cases q:ltI d[a]! d[j+1]! = true
   ·rw [if_pos (by simp [c,q])]
    refine (Zge hi ha hd hi2 j (by omega) fun j2 a b=>h j2 (by omega) b).step fun k hk=>?_
    rw [Q125.l2,if_pos (decide_eq_true (by omega)),if_pos (by simp; omega),gta,gta,Xl,Option.bind_some,if_pos q,e1]
    exact hk
   ·rw [if_neg (by simp [q])]
    unfold Jt
    rw [if_neg (by omega)]
    refine (h (j+1) (Nat.le_refl _) c).step fun k hk=>?_
    rw [Q125.l2,if_pos (decide_eq_true (by omega)),if_pos (by simp; omega),gta,gta,Xl,Option.bind_some,if_neg q,if_neg (by simp only [decide_eq_true_eq]; omega),gta,Int.toNat_natCast,Int.toNat_natCast,Wi,e1,e2]
    exact hk
  ·rw [if_neg (by simp [c])]
   unfold Jt
   rw [if_pos (by omega)]
   exact Ev.last fun k=>by rw [Q125.l2,if_neg (by simp only [decide_eq_true_eq]; omega),if_pos (decide_eq_true (by omega))]; rfl
theorem Zkn {a j:Nat} {d:Array Int} (ha:a<d.size) (hd:d.size≤1000000) (hj:j<d.size):∀(m i:Nat),j+1 - i≤m→1≤i→i≤1000001→(∀ i2 j2,i≤i2→j2≤j→i2≤j2→Ev (fun k=>Q125.l0 k (a:Int) (Go.Sort.swp d i2 j2).toList ((i2+1:Nat):Int) ((j2 - 1:Nat):Int)) (Gr (Go.Sort.partEqLoop ltI a (i2+1) (j2 - 1) (Go.Sort.swp d i2 j2))))→
  Ev (fun k=>Q125.l1 k (a:Int) d.toList (j:Int) (i:Int)) (Gr (Jt a (Go.Sort.scanUp (fun x=>!ltI d[a]! x) d j i) (Go.Sort.scanDown (fun x=>ltI d[a]! x) d (Go.Sort.scanUp (fun x=>!ltI d[a]! x) d j i) j) d))
 | m,i,hm,h1,hi,h=>by
  have e2:w64 ((i:Int)+1)=((i+1:Nat):Int):=wn (by omega) (by omega)
  rw [Go.Sort.scanUp]
  by_cases c:i≤j
  ·by_cases q:ltI d[a]! d[i]! = true
   ·rw [if_neg (by simp [q])]
    refine (Zge h1 ha hd hi j hj fun j2 a b=>h i j2 (Nat.le_refl _) a b).step fun k hk=>?_
    rw [Q125.l1,if_pos (decide_eq_true (by omega)),if_pos (by simp; omega),if_pos (by simp; omega),gta,gta,Xl,Option.bind_some,if_neg (by simp [q])]
    exact hk
   ·cases m with
    | zero=>omega
    | succ m=>
    rw [if_pos (by simp [c,q])]
    refine (Zkn ha hd hj m (i+1) (by omega) (by omega) (by omega) fun i2 j2 a b c=>h i2 j2 (by omega) b c).step fun k hk=>?_
    rw [Q125.l1,if_pos (decide_eq_true (by omega)),if_pos (by simp; omega),if_pos (by simp; omega),gta,gta,Xl,Option.bind_some,if_pos (by simp [q]),e2]
    exact hk
  ·rw [if_neg (by simp [c])]
   have v:=Un (fun x=>ltI d[a]! x) d i j
   unfold Jt
   rw [if_pos (by omega)]
   have:Ev (fun k=>Q125.l3 k (a:Int) d.toList (j:Int) (i:Int)) (Gr (i,d)):=Ev.last fun k=>by
    rw [Q125.l3,if_pos (decide_eq_true (by omega))]
    rfl
   refine this.step fun k hk=>?_
   rw [Q125.l1,if_neg (by simp only [decide_eq_true_eq]; omega)]
   exact hk
theorem Zgp {a n:Nat} (hn:n≤1000000) (ha:a<n):∀(m i j:Nat) (d:Array Int),j+1 - i≤m→1≤i→i≤1000001→j<n→d.size=n→Ev (fun k=>Q125.l0 k (a:Int) d.toList (i:Int) (j:Int)) (Gr (Go.Sort.partEqLoop ltI a i j d))
 | m,i,j,d,hm,h1,hi,hj,hd=>by
  rw [Zfu h1]
  refine (Zkn (a:=a) (j:=j) (d:=d) (by omega) (by omega) (by omega) _ i (Nat.le_refl _) h1 hi fun i2 j2 a1 a2 a3=>?_).step fun k hk=>?_
  ·cases m with
   | zero=>omega
   | succ m=>exact Zgp hn ha m (i2+1) (j2 - 1) (Go.Sort.swp d i2 j2) (by omega) (by omega) (by omega) (by omega) (by rw [Ys]; exact hd)
  ·rw [Q125.l0]
   exact hk
theorem Zlo {a b p:Nat} {d:Array Int} (hab:a<b) (hp:p<d.size) (hb:b≤d.size) (hd:d.size≤1000000):Ev (fun k=>Q125.f k d.toList (a:Int) (b:Int) (p:Int)) (Gr (Go.Sort.partitionEqual ltI d a b p)):=by
 refine (Zgp (a:=a) (n:=d.size) hd (by omega) _ (a+1) (b - 1) (Go.Sort.swp d a p) (Nat.le_refl _) (by omega) (by omega) (by omega) (Ys d a p)).next fun k hk=>?_
 unfold Q125.f
 rw [if_pos (by simp; omega),if_pos (by simp; omega),gta,gta,Int.toNat_natCast,Int.toNat_natCast,Wi,wn (n:=a+1) (by omega) (by omega),wn (x:=(b:Int) - 1) (n:=b - 1) (by omega) (by omega)]
 exact hk
def Zfr (d:Array Int) (a j:Nat):Int×Bool×List Int:=((j:Int),false,(Go.Sort.swp d j a).toList)
def Gm (a i2 j2:Nat) (d:Array Int):Nat×Array Int:=if i2>j2 then (j2,d) else Go.Sort.partLoop ltI a (i2+1) (j2 - 1) (Go.Sort.swp d i2 j2)
theorem Zi0 {a i j:Nat} {d:Array Int} (h1:1≤i):Go.Sort.partLoop ltI a i j d=Gm a (Go.Sort.scanUp (fun x=>ltI x d[a]!) d j i) (Go.Sort.scanDown (fun x=>!ltI x d[a]!) d (Go.Sort.scanUp (fun x=>ltI x d[a]!) d j i) j) d:=by
 have u:=(B1 (fun x=>ltI x d[a]!) d j _ i (Nat.le_refl _)).1
 have v:=Un (fun x=>!ltI x d[a]!) d (Go.Sort.scanUp (fun x=>ltI x d[a]!) d j i) j
 rw [Go.Sort.partLoop]
 unfold Gm
 split
 ·rfl
 ·rw [dif_pos (by omega)]
structure Part4 (a:Nat) (F2 F3 F4:Nat→List Int→Int→Int→Option TJ):Prop where
 h2:∀ k x i j,F2 (k+1) x i j=F3 k x j i
 h3:∀ k x j i,F3 (k+1) x j i=if (decide (i≤j))=true then (if 0≤i∧i<(x.length:Int) then (if 0≤(a:Int)∧(a:Int)<(x.length:Int) then ((Q36.f (gt x i) (gt x (a:Int))).bind fun r3=>(if r3=true then (F3 k x j (w64 (i+1))) else (F4 k x i j))) else none) else none) else (F4 k x i j)
 h4:∀ k x i j,F4 (k+1) x i j=if (decide (i≤j))=true then (if 0≤j∧j<(x.length:Int) then (if 0≤(a:Int)∧(a:Int)<(x.length:Int) then ((Q36.f (gt x j) (gt x (a:Int))).bind fun r4=>(if (!r4)=true then (F4 k x i (w64 (j - 1))) else (if (decide (j<i))=true then (if 0≤(a:Int)∧(a:Int)<(x.length:Int) then (if 0≤j∧j<(x.length:Int) then (some (j,false,((x.set j.toNat (gt x (a:Int))).set (a:Int).toNat (gt x j)))) else none) else none) else (if 0≤j∧j<(x.length:Int) then (if 0≤i∧i<(x.length:Int) then (F2 k ((x.set i.toNat (gt x j)).set j.toNat (gt x i)) (w64 (i+1)) (w64 (j - 1))) else none) else none)))) else none) else none) else (if (decide (j<i))=true then (if 0≤(a:Int)∧(a:Int)<(x.length:Int) then (if 0≤j∧j<(x.length:Int) then (some (j,false,((x.set j.toNat (gt x (a:Int))).set (a:Int).toNat (gt x j)))) else none) else none) else (if 0≤j∧j<(x.length:Int) then (if 0≤i∧i<(x.length:Int) then (F2 k ((x.set i.toNat (gt x j)).set j.toNat (gt x i)) (w64 (i+1)) (w64 (j - 1))) else none) else none))
section
variable {a:Nat} {F2 F3 F4:Nat→List Int→Int→Int→Option TJ} (P:Part4 a F2 F3 F4)
include P
theorem Zcy {i2:Nat} {d:Array Int} (hi:1≤i2) (ha:a<d.size) (hd:d.size≤1000000) (hi2:i2≤1000001):∀(j:Nat),j<d.size→(∀ j2,j2≤j→i2≤j2→Ev (fun k=>F2 k (Go.Sort.swp d i2 j2).toList ((i2+1:Nat):Int) ((j2 - 1:Nat):Int)) (let r:=Go.Sort.partLoop ltI a (i2+1) (j2 - 1) (Go.Sort.swp d i2 j2); Zfr r.2 a r.1))→
  Ev (fun k=>F4 k d.toList (i2:Int) (j:Int)) (let r:=Gm a i2 (Go.Sort.scanDown (fun x=>!ltI x d[a]!) d i2 j) d; Zfr r.2 a r.1)
 | 0,hj,h=>by
  unfold Go.Sort.scanDown Gm
  rw [if_pos (by omega)]
  exact Ev.last fun k=>by rw [P.h4,if_neg (by simp only [decide_eq_true_eq]; omega),if_pos (decide_eq_true (by omega)),if_pos (by simp; omega),if_pos (by simp; omega),gta,gta,Int.toNat_natCast,Int.toNat_natCast,Wi]; rfl
 | j+1,hj,h=>by
  have e1:w64 (((j+1:Nat):Int) - 1)=(j:Int):=wn (by omega) (by omega)
  have e2:w64 ((i2:Int)+1)=((i2+1:Nat):Int):=wn (by omega) (by omega)
  unfold Go.Sort.scanDown
  by_cases c:i2≤j+1
  ·by_cases q:ltI d[j+1]! d[a]! = true
   ·rw [if_neg (by simp [q])]
    unfold Gm
    rw [if_neg (by omega)]
    refine (h (j+1) (Nat.le_refl _) c).step fun k hk=>?_
    rw [P.h4,if_pos (decide_eq_true (by omega)),if_pos (by simp; omega),if_pos (by simp; omega),gta,gta,Xl,Option.bind_some,if_neg (by simp [q]),if_neg (by simp only [decide_eq_true_eq]; omega),if_pos (by simp; omega),if_pos (by simp; omega),gta,Int.toNat_natCast,Int.toNat_natCast,Wi,e1,e2]
    exact hk
   ·rw [if_pos (by simp [c,q])]
    refine (Zcy hi ha hd hi2 j (by omega) fun j2 a b=>h j2 (by omega) b).step fun k hk=>?_
    rw [P.h4,if_pos (decide_eq_true (by omega)),if_pos (by simp; omega),if_pos (by simp; omega),gta,gta,Xl,Option.bind_some,if_pos (by simp [q]),e1]
    exact hk
  ·rw [if_neg (by simp [c])]
   unfold Gm
   rw [if_pos (by omega)]
   exact Ev.last fun k=>by rw [P.h4,if_neg (by simp only [decide_eq_true_eq]; omega),if_pos (decide_eq_true (by omega)),if_pos (by simp; omega),if_pos (by simp; omega),gta,gta,Int.toNat_natCast,Int.toNat_natCast,Wi]; rfl
theorem Zki {j:Nat} {d:Array Int} (ha:a<d.size) (hd:d.size≤1000000) (hj:j<d.size):∀(m i:Nat),j+1 - i≤m→1≤i→i≤1000001→(∀ i2 j2,i≤i2→j2≤j→i2≤j2→Ev (fun k=>F2 k (Go.Sort.swp d i2 j2).toList ((i2+1:Nat):Int) ((j2 - 1:Nat):Int)) (let r:=Go.Sort.partLoop ltI a (i2+1) (j2 - 1) (Go.Sort.swp d i2 j2); Zfr r.2 a r.1))→
  Ev (fun k=>F3 k d.toList (j:Int) (i:Int)) (let r:=Gm a (Go.Sort.scanUp (fun x=>ltI x d[a]!) d j i) (Go.Sort.scanDown (fun x=>!ltI x d[a]!) d (Go.Sort.scanUp (fun x=>ltI x d[a]!) d j i) j) d; Zfr r.2 a r.1)
 | m,i,hm,h1,hi,h=>by
  have e2:w64 ((i:Int)+1)=((i+1:Nat):Int):=wn (by omega) (by omega)
  rw [Go.Sort.scanUp]
  by_cases c:i≤j
  ·by_cases q:ltI d[i]! d[a]! = true
   ·cases m with
    | zero=>omega
    | succ m=>
    rw [if_pos (by simp [c,q])]
    refine (Zki ha hd hj m (i+1) (by omega) (by omega) (by omega) fun i2 j2 a b c=>h i2 j2 (by omega) b c).step fun k hk=>?_
    rw [P.h3,if_pos (decide_eq_true (by omega)),if_pos (by simp; omega),if_pos (by simp; omega),gta,gta,Xl,Option.bind_some,if_pos q,e2]
    exact hk
   ·rw [if_neg (by simp [q])]
    refine (Zcy P h1 ha hd hi j hj fun j2 a b=>h i j2 (Nat.le_refl _) a b).step fun k hk=>?_
    rw [P.h3,if_pos (decide_eq_true (by omega)),if_pos (by simp; omega),if_pos (by simp; omega),gta,gta,Xl,Option.bind_some,if_neg q]
    exact hk
  ·rw [if_neg (by simp [c])]
   refine (Zcy P h1 ha hd hi j hj fun j2 a b=>h i j2 (Nat.le_refl _) a b).step fun k hk=>?_
   rw [P.h3,if_neg (by simp only [decide_eq_true_eq]; omega)]
   exact hk
theorem Zgi {n:Nat} (hn:n≤1000000) (ha:a<n):∀(m i j:Nat) (d:Array Int),j+1 - i≤m→1≤i→i≤1000001→j<n→d.size=n→Ev (fun k=>F2 k d.toList (i:Int) (j:Int)) (let r:=Go.Sort.partLoop ltI a i j d; Zfr r.2 a r.1)
 | m,i,j,d,hm,h1,hi,hj,hd=>by
  rw [Zi0 h1]
  refine (Zki P (j:=j) (d:=d) (by omega) (by omega) (by omega) _ i (Nat.le_refl _) h1 hi fun i2 j2 a1 a2 a3=>?_).step fun k hk=>?_
  ·cases m with
   | zero=>omega
   | succ m=>exact Zgi hn ha m (i2+1) (j2 - 1) (Go.Sort.swp d i2 j2) (by omega) (by omega) (by omega) (by omega) (by rw [Ys]; exact hd)
  ·rw [P.h2]
   exact hk
end
theorem Zl5 (a:Nat):Part4 a (fun k x i j=>Q126.l0 k (a:Int) x i j) (fun k x j i=>Q126.l2 k (a:Int) x j i) (fun k x i j=>Q126.l1 k (a:Int) x i j):=
 ⟨fun k x i j=>by rw [Q126.l0],fun k x j i=>by rw [Q126.l2],fun k x i j=>by rw [Q126.l1]⟩
def Zke (r:Nat×Bool×Array Int):Int×Bool×List Int:=((r.1:Int),r.2.1,r.2.2.toList)
def Zag (a i j:Nat) (d:Array Int):Nat×Bool×Array Int:=if i>j then (j,true,Go.Sort.swp d j a) else ((Go.Sort.partLoop ltI a (i+1) (j - 1) (Go.Sort.swp d i j)).1,false,Go.Sort.swp (Go.Sort.partLoop ltI a (i+1) (j - 1) (Go.Sort.swp d i j)).2 (Go.Sort.partLoop ltI a (i+1) (j - 1) (Go.Sort.swp d i j)).1 a)
theorem Zcm {a p i:Nat} {d e:Array Int} (he:e=Go.Sort.swp d a p) (hi:1≤i) (ha:a<d.size) (hp:p<d.size) (hd:d.size≤1000000) (hi2:i≤1000001):∀(j:Nat),j<d.size→Ev (fun k=>Q126.l3 k d.toList (a:Int) (p:Int) (i:Int) (j:Int)) (Zke (Zag a i (Go.Sort.scanDown (fun x=>!ltI x e[a]!) e i j) e))
 | 0,hj=>by
  have se:e.size=d.size:=by rw [he,Ys]
  unfold Go.Sort.scanDown Zag
  rw [if_pos (by omega)]
  exact Ev.last fun k=>by
   rw [Q126.l3,if_neg (by simp only [decide_eq_true_eq]; omega),if_pos (decide_eq_true (by omega)),gta,gta,Int.toNat_natCast,Int.toNat_natCast,Wi,← he,if_pos (by simp; omega),if_pos (by simp; omega),gta,gta,Int.toNat_natCast,Wi]
   rfl
 | j+1,hj=>by
  have se:e.size=d.size:=by rw [he,Ys]
  have e1:w64 (((j+1:Nat):Int) - 1)=(j:Int):=wn (by omega) (by omega)
  have e2:w64 ((i:Int)+1)=((i+1:Nat):Int):=wn (by omega) (by omega)
  unfold Go.Sort.scanDown
  by_cases c:i≤j+1
  ·by_cases q:ltI e[j+1]! e[a]! = true
   ·rw [if_neg (by simp [q])]
    unfold Zag
    rw [if_neg (by omega)]
    refine (Zgi (Zl5 a) (n:=d.size) hd ha _ (i+1) j (Go.Sort.swp e i (j+1)) (Nat.le_refl _) (by omega) (by omega) (by omega) (by rw [Ys,se])).step fun k hk=>?_
    rw [Q126.l3,if_pos (decide_eq_true (by omega)),gta,gta,Int.toNat_natCast,Int.toNat_natCast,Wi,← he,if_pos (by simp; omega),if_pos (by simp; omega),gta,gta,Xl,Option.bind_some,if_neg (by simp [q]),if_neg (by simp only [decide_eq_true_eq]; omega),if_pos (by simp; omega),if_pos (by simp; omega),gta,Int.toNat_natCast,Int.toNat_natCast,Wi,e1,e2]
    exact hk
   ·rw [if_pos (by simp [c,q])]
    refine (Zcm he hi ha hp hd hi2 j (by omega)).step fun k hk=>?_
    rw [Q126.l3,if_pos (decide_eq_true (by omega)),gta,gta,Int.toNat_natCast,Int.toNat_natCast,Wi,← he,if_pos (by simp; omega),if_pos (by simp; omega),gta,gta,Xl,Option.bind_some,if_pos (by simp [q]),e1]
    exact hk
  ·rw [if_neg (by simp [c])]
   unfold Zag
   rw [if_pos (by omega)]
   exact Ev.last fun k=>by
    rw [Q126.l3,if_neg (by simp only [decide_eq_true_eq]; omega),if_pos (decide_eq_true (by omega)),gta,gta,Int.toNat_natCast,Int.toNat_natCast,Wi,← he,if_pos (by simp; omega),if_pos (by simp; omega),gta,gta,Int.toNat_natCast,Wi]
    rfl
theorem Zkl {a b p:Nat} {d e:Array Int} (he:e=Go.Sort.swp d a p) (hab:a<b) (hb:b≤d.size) (hp:p<d.size) (hd:d.size≤1000000):∀(m i:Nat),b - i≤m→1≤i→i≤1000001→Ev (fun k=>Q126.l4 k d.toList (a:Int) (b:Int) (p:Int) (i:Int)) (Zke (Zag a (Go.Sort.scanUp (fun x=>ltI x e[a]!) e (b - 1) i) (Go.Sort.scanDown (fun x=>!ltI x e[a]!) e (Go.Sort.scanUp (fun x=>ltI x e[a]!) e (b - 1) i) (b - 1)) e))
 | m,i,hm,h1,hi=>by
  have se:e.size=d.size:=by rw [he,Ys]
  have e2:w64 ((i:Int)+1)=((i+1:Nat):Int):=wn (by omega) (by omega)
  have e3:w64 ((b:Int) - 1)=((b - 1:Nat):Int):=wn (by omega) (by omega)
  rw [Go.Sort.scanUp]
  by_cases c:i≤b - 1
  ·by_cases q:ltI e[i]! e[a]! = true
   ·cases m with
    | zero=>omega
    | succ m=>
    rw [if_pos (by simp [c,q])]
    refine (Zkl he hab hb hp hd m (i+1) (by omega) (by omega) (by omega)).step fun k hk=>?_
    rw [Q126.l4,e3,if_pos (decide_eq_true (by omega)),gta,gta,Int.toNat_natCast,Int.toNat_natCast,Wi,← he,if_pos (by simp; omega),if_pos (by simp; omega),gta,gta,Xl,Option.bind_some,if_pos q,e2]
    exact hk
   ·rw [if_neg (by simp [q])]
    refine (Zcm he h1 (by omega) hp hd hi (b - 1) (by omega)).step fun k hk=>?_
    rw [Q126.l4,e3,if_pos (decide_eq_true (by omega)),gta,gta,Int.toNat_natCast,Int.toNat_natCast,Wi,← he,if_pos (by simp; omega),if_pos (by simp; omega),gta,gta,Xl,Option.bind_some,if_neg q]
    exact hk
  ·rw [if_neg (by simp [c])]
   refine (Zcm he h1 (by omega) hp hd hi (b - 1) (by omega)).step fun k hk=>?_
   rw [Q126.l4,e3,if_neg (by simp only [decide_eq_true_eq]; omega)]
   exact hk
theorem Zm7 {a b p:Nat} {d:Array Int} (hab:a<b) (hp:p<d.size) (hb:b≤d.size) (hd:d.size≤1000000):Ev (fun k=>Q126.f k d.toList (a:Int) (b:Int) (p:Int)) (Zke (Go.Sort.partition ltI d a b p)):=by
 have e:Go.Sort.partition ltI d a b p=Zag a (Go.Sort.scanUp (fun x=>ltI x (Go.Sort.swp d a p)[a]!) (Go.Sort.swp d a p) (b - 1) (a+1)) (Go.Sort.scanDown (fun x=>!ltI x (Go.Sort.swp d a p)[a]!) (Go.Sort.swp d a p) (Go.Sort.scanUp (fun x=>ltI x (Go.Sort.swp d a p)[a]!) (Go.Sort.swp d a p) (b - 1) (a+1)) (b - 1)) (Go.Sort.swp d a p):=rfl
 rw [e]
 refine (Zkl (e:=Go.Sort.swp d a p) rfl hab hb hp hd _ (a+1) (Nat.le_refl _) (by omega) (by omega)).next fun k hk=>?_
 unfold Q126.f
 rw [if_pos (by simp; omega),if_pos (by simp; omega),wn (n:=a+1) (by omega) (by omega)]
 exact hk
theorem Zaw (n:Nat):IntKind.u64.wrap (n:Int)=((n % 18446744073709551616:Nat):Int):=by
 simp [IntKind.wrap,IntKind.bits,IntKind.signed]
theorem bvx {x y:Nat} (hx:x<18446744073709551616) (hy:y<18446744073709551616):((BitVec.ofInt IntKind.u64.bits (x:Int) ^^^ BitVec.ofInt IntKind.u64.bits (y:Int)).toNat)=x ^^^ y:=by
 show (BitVec.ofInt 64 (x:Int) ^^^ BitVec.ofInt 64 (y:Int)).toNat=x ^^^ y
 rw [BitVec.toNat_xor,BitVec.ofInt_natCast,BitVec.ofInt_natCast,BitVec.toNat_ofNat,BitVec.toNat_ofNat,Nat.mod_eq_of_lt hx,Nat.mod_eq_of_lt hy]
theorem Zg8 {x:Nat} (r s:UInt64) (hx:x=s.toNat):IntKind.u64.wrap (((BitVec.ofInt IntKind.u64.bits (r.toNat:Int) ^^^ BitVec.ofInt IntKind.u64.bits (x:Int)).toNat:Int))=((r ^^^ s).toNat:Int):=by
 have h1:r.toNat<18446744073709551616:=r.toNat_lt
 have h2:s.toNat<18446744073709551616:=s.toNat_lt
 have h3:(r ^^^ s).toNat<18446744073709551616:=(r ^^^ s).toNat_lt
 rw [hx,bvx h1 h2,Zaw,UInt64.toNat_xor] at *
 rw [Nat.mod_eq_of_lt h3]
theorem Zlz (r:UInt64) (n:Nat) (hn:n<64):IntKind.u64.wrap ((r.toNat:Int)*2 ^ n)=(((r <<< (UInt64.ofNat n)).toNat:Nat):Int):=by
 rw [show (r.toNat:Int)*2 ^ n=((r.toNat*2 ^ n:Nat):Int) by simp,Zaw,UInt64.toNat_shiftLeft,Nat.shiftLeft_eq]
 have:(UInt64.ofNat n).toNat % 64=n:=by simp; omega
 rw [this]
theorem Zn5 (r:UInt64) (n:Nat) (hn:n<64):Int.fdiv (r.toNat:Int) (2 ^ n)=(((r >>> (UInt64.ofNat n)).toNat:Nat):Int):=by
 rw [UInt64.toNat_shiftRight,Nat.shiftRight_eq_div_pow]
 have:(UInt64.ofNat n).toNat % 64=n:=by simp; omega
 rw [this,Int.fdiv_eq_ediv_of_nonneg _ (by exact_mod_cast Nat.zero_le _)]
 simp
theorem Zm4 (r:UInt64):Q130.f (r.toNat:Int)=some (((Go.Sort.xorNext r).toNat:Int),((Go.Sort.xorNext r).toNat:Int)):=by
 have xe:Go.Sort.xorNext r=(fun r1:UInt64=>(fun r2:UInt64=>r2 ^^^ (r2 <<< 17)) (r1 ^^^ (r1 >>> 7))) (r ^^^ (r <<< 13)):=rfl
 unfold Q130.f
 rw [xe]
 dsimp only
 have e1:IntKind.u64.wrap ((r.toNat:Int)*2 ^ 13)=(((r <<< 13).toNat:Nat):Int):=Zlz r 13 (by decide)
 rw [e1,Zg8 r (r <<< 13) rfl]
 generalize r ^^^ (r <<< 13)=r1
 have e2:Int.fdiv (r1.toNat:Int) (2 ^ 7)=(((r1 >>> 7).toNat:Nat):Int):=Zn5 r1 7 (by decide)
 rw [e2,Zg8 r1 (r1 >>> 7) rfl]
 generalize r1 ^^^ (r1 >>> 7)=r2
 have e3:IntKind.u64.wrap ((r2.toNat:Int)*2 ^ 17)=(((r2 <<< 17).toNat:Nat):Int):=Zlz r2 17 (by decide)
 rw [e3,Zg8 r2 (r2 <<< 17) rfl]
theorem Zm6:∀ n:Fin 200,Q1.f ((n:Nat):Int)=some ((Go.Sort.bitsLen n:Nat):Int):=by decide +kernel
theorem Zmt:∀ n:Fin 200,Q122.f ((n:Nat):Int)=some ((1 <<< Go.Sort.bitsLen n:Nat):Int):=by decide +kernel
theorem Znq {r:UInt64} {M:Nat} (h1:1≤M) (h2:M≤1000):w64 (IntKind.u64.wrap (((BitVec.ofInt IntKind.u64.bits (r.toNat:Int) &&& (BitVec.ofInt IntKind.u64.bits (IntKind.u64.wrap ((M:Int) - 1)))).toNat:Int)))=((r.toNat &&& (M - 1):Nat):Int):=by
 have hr:r.toNat<18446744073709551616:=r.toNat_lt
 have e1:(M:Int) - 1=((M - 1:Nat):Int):=by omega
 have hle:r.toNat &&& (M - 1)≤M - 1:=Nat.and_le_right
 have e2:(BitVec.ofInt IntKind.u64.bits (r.toNat:Int) &&& BitVec.ofInt IntKind.u64.bits ((M - 1:Nat):Int)).toNat=r.toNat &&& (M - 1):=by
  show (BitVec.ofInt 64 (r.toNat:Int) &&& BitVec.ofInt 64 ((M - 1:Nat):Int)).toNat=r.toNat &&& (M - 1)
  rw [BitVec.toNat_and,BitVec.ofInt_natCast,BitVec.ofInt_natCast,BitVec.toNat_ofNat,BitVec.toNat_ofNat,Nat.mod_eq_of_lt hr,Nat.mod_eq_of_lt (by omega)]
 rw [e1,show IntKind.u64.wrap ((M - 1:Nat):Int)=((M - 1:Nat):Int) by rw [Zaw,Nat.mod_eq_of_lt (by omega)],e2,Zaw,Nat.mod_eq_of_lt (by omega),Z3 (by omega) (by omega)]
theorem Zbk {a b M i:Nat} {d:Array Int} {r:UInt64} {R:TX} (h8:8≤b - a) (hb:b≤d.size) (hd:d.size<200) (ha:a≤i) (hi:i≤a+(b - a) / 4*2+1) (hM:M=1 <<< Go.Sort.bitsLen (b - a))
  (h:Ev (fun k=>Q116.l0 k (a:Int) (b:Int) (M:Int) (Go.Sort.breakStep a (b - a) M (r,d) i).2.toList ((Go.Sort.breakStep a (b - a) M (r,d) i).1.toNat:Int) ((i+1:Nat):Int)) R) :
  Ev (fun k=>Q116.l0 k (a:Int) (b:Int) (M:Int) d.toList (r.toNat:Int) (i:Int)) R:=by
 have e1:w64 ((b:Int) - (a:Int))=((b - a:Nat):Int):=wn (by omega) (by omega)
 have e2:w64 (Int.tdiv ((b - a:Nat):Int) 4)=(((b - a) / 4:Nat):Int):=by
  rw [show Int.tdiv ((b - a:Nat):Int) 4=(((b - a) / 4:Nat):Int) from rfl,Z3 (by omega) (by omega)]
 have e3:w64 ((((b - a) / 4:Nat):Int)*2)=(((b - a) / 4*2:Nat):Int):=wn (by omega) (by omega)
 have e4:w64 ((a:Int)+(((b - a) / 4*2:Nat):Int))=((a+(b - a) / 4*2:Nat):Int):=wn (by omega) (by omega)
 have e5:w64 (((a+(b - a) / 4*2:Nat):Int)+1)=((a+(b - a) / 4*2+1:Nat):Int):=wn (by omega) (by omega)
 have e6:w64 ((i:Int)+1)=((i+1:Nat):Int):=wn (by omega) (by omega)
 have hp:=Go.Sort.two_pow_bitsLen_le (n:=b - a) (by omega)
 have hq:1≤2 ^ Go.Sort.bitsLen (b - a):=Nat.two_pow_pos _
 rw [Nat.one_shiftLeft] at hM
 rw [← hM] at hp hq
 have eb:Go.Sort.breakStep a (b - a) M (r,d) i=(Go.Sort.xorNext r,Go.Sort.swp d i (a+if (Go.Sort.xorNext r).toNat &&& (M - 1)≥b - a then ((Go.Sort.xorNext r).toNat &&& (M - 1)) - (b - a) else (Go.Sort.xorNext r).toNat &&& (M - 1))):=rfl
 rw [eb] at h
 have hle:(Go.Sort.xorNext r).toNat &&& (M - 1)≤M - 1:=Nat.and_le_right
 have hand:=Znq (r:=Go.Sort.xorNext r) (M:=M) hq (by omega)
 refine h.step fun k hk=>?_
 rw [Q116.l0,e1,e2,e3,e4,e5,if_pos (decide_eq_true (by omega)),Zm4,Option.bind_some]
 dsimp only
 rw [hand]
 generalize (Go.Sort.xorNext r).toNat &&& (M - 1)=o at *
 by_cases c:o≥b - a
 ·have e7:w64 ((o:Int) - ((b - a:Nat):Int))=((o - (b - a):Nat):Int):=wn (by omega) (by omega)
  have e8:w64 ((a:Int)+((o - (b - a):Nat):Int))=((a+(o - (b - a)):Nat):Int):=wn (by omega) (by omega)
  rw [if_pos c] at hk
  rw [if_pos (decide_eq_true (by omega)),e7,e8,if_pos (by simp; omega),if_pos (by simp; omega),gta,gta,Int.toNat_natCast,Int.toNat_natCast,Wi,e6]
  exact hk
 ·have e8:w64 ((a:Int)+(o:Int))=((a+o:Nat):Int):=wn (by omega) (by omega)
  rw [if_neg c] at hk
  rw [if_neg (by simp only [decide_eq_true_eq]; omega),e8,if_pos (by simp; omega),if_pos (by simp; omega),gta,gta,Int.toNat_natCast,Int.toNat_natCast,Wi,e6]
  exact hk
theorem Zcl (a L M i:Nat) (st:UInt64×Array Int):(Go.Sort.breakStep a L M st i).2.size=st.2.size:=by
 unfold Go.Sort.breakStep
 exact Ys _ _ _
theorem Zmp {a b:Nat} {d:Array Int} (hab:a≤b) (hb:b≤d.size) (hd:d.size<200):Ev (fun k=>Q116.f k d.toList (a:Int) (b:Int)) (Go.Sort.breakPatterns d a b).toList:=by
 have e1:w64 ((b:Int) - (a:Int))=((b - a:Nat):Int):=wn (by omega) (by omega)
 by_cases h8:b - a≥8
 ·have e2:w64 (Int.tdiv ((b - a:Nat):Int) 4)=(((b - a) / 4:Nat):Int):=by
   rw [show Int.tdiv ((b - a:Nat):Int) 4=(((b - a) / 4:Nat):Int) from rfl,Z3 (by omega) (by omega)]
  have e3:w64 ((((b - a) / 4:Nat):Int)*2)=(((b - a) / 4*2:Nat):Int):=wn (by omega) (by omega)
  have e4:w64 ((a:Int)+(((b - a) / 4*2:Nat):Int))=((a+(b - a) / 4*2:Nat):Int):=wn (by omega) (by omega)
  have e5:w64 (((a+(b - a) / 4*2:Nat):Int) - 1)=((a+(b - a) / 4*2 - 1:Nat):Int):=wn (by omega) (by omega)
  have e6:w64 (((a+(b - a) / 4*2:Nat):Int)+1)=((a+(b - a) / 4*2+1:Nat):Int):=wn (by omega) (by omega)
  have hx:IntKind.u64.wrap ((b - a:Nat):Int)=((UInt64.ofNat (b - a)).toNat:Int):=by
   rw [Zaw]
   have:(UInt64.ofNat (b - a)).toNat=(b - a) % 18446744073709551616:=by simp
   rw [this]
  have fin:∀(d':Array Int) (x:Int),Ev (fun k=>Q116.l0 k (a:Int) (b:Int) ((1 <<< Go.Sort.bitsLen (b - a):Nat):Int) d'.toList x ((a+(b - a) / 4*2 - 1+1+1+1:Nat):Int)) d'.toList:=fun d' x=>Ev.last fun k=>by
   rw [Q116.l0,e1,e2,e3,e4,e6,if_neg (by simp only [decide_eq_true_eq]; omega)]
  have main:Ev (fun k=>Q116.l0 k (a:Int) (b:Int) ((1 <<< Go.Sort.bitsLen (b - a):Nat):Int) d.toList ((UInt64.ofNat (b - a)).toNat:Int) ((a+(b - a) / 4*2 - 1:Nat):Int)) (Go.Sort.breakPatterns d a b).toList:=by
   unfold Go.Sort.breakPatterns
   rw [if_pos h8]
   refine Zbk h8 hb hd (by omega) (by omega) rfl (Zbk h8 ?_ ?_ (by omega) (by omega) rfl (Zbk h8 ?_ ?_ (by omega) (by omega) rfl (fin _ _)))
   all_goals simp only [Zcl]
   all_goals first | exact hb | exact hd
  refine main.next fun k hk=>?_
  unfold Q116.f
  rw [e1,if_pos (decide_eq_true (by omega)),Zmt ⟨b - a,by omega⟩,Option.bind_some,hx,e2,e3,e4,e5]
  exact hk
 ·refine Ev.all fun k=>?_
  unfold Q116.f Go.Sort.breakPatterns
  rw [e1,if_neg (by simp only [decide_eq_true_eq]; omega),if_neg h8]
def Zkb (k:Nat) (a b lim m:Int) (ap:Bool) (d:TX):Option TX:=if (decide ((w64 (m - a))<(w64 (b - m))))=true then ((Q127.f k d a m lim).bind fun r10=>(Q127.l0 k r10 (w64 (m+1)) b lim (decide ((w64 (Int.tdiv (w64 (b - a)) 8))≤(w64 (m - a)))) ap)) else ((Q127.f k d (w64 (m+1)) b lim).bind fun r11=>(Q127.l0 k r11 a m lim (decide ((w64 (Int.tdiv (w64 (b - a)) 8))≤(w64 (b - m)))) ap))
theorem Zby (k:Nat) (x1:TX) (x2 x3 x4:Int) (x5 x6:Bool):Q127.l0 (k+1) x1 x2 x3 x4 x5 x6=if (decide ((w64 (x3 - x2))≤12))=true then ((Q119.f k x1 x2 x3).bind fun r1=>(some r1)) else (if (decide (x4=0))=true then ((Q118.f k x1 x2 x3).bind fun r2=>(some r2)) else (if (!x5)=true then ((Q116.f k x1 x2 x3).bind fun r3=>Q127.l1 k x2 x3 x5 x6 r3 (w64 (x4 - 1))) else Q127.l1 k x2 x3 x5 x6 x1 x4)):=by
 rw [Q127.l0]
section
variable {a b p lim:Nat} {d:Array Int} {wb wp:Bool} {r:TX}
theorem Zlx (h1:1≤a) (hab:a<b) (hp:p<d.size) (hb:b≤d.size) (hd:d.size<200) (hq:ltI d[a - 1]! d[p]! = false)
  (h:Ev (fun k=>Q127.l0 k (Go.Sort.partitionEqual ltI d a b p).2.toList ((Go.Sort.partitionEqual ltI d a b p).1:Int) (b:Int) (lim:Int) wb wp) r) :
  Ev (fun k=>Q127.l4 k (a:Int) (b:Int) wb wp (lim:Int) (p:Int) d.toList) r:=by
 have h5:Ev (fun k=>Q127.l5 k (a:Int) (b:Int) wb wp (lim:Int) (p:Int) d.toList true) r:=(Zlo hab hp hb (by omega)).step2 h fun k h1' h2=>by
  rw [Q127.l5,if_pos rfl,h1',Option.bind_some]
  exact h2
 refine h5.step fun k hk=>?_
 rw [Q127.l4,if_pos (decide_eq_true (by omega)),wn (x:=(a:Int) - 1) (n:=a - 1) (by omega) (by omega),if_pos (by simp; omega),if_pos (by simp; omega),gta,gta,Xl,Option.bind_some,hq]
 exact hk
theorem Zmu (hab:a<b) (hp:p<d.size) (hb:b≤d.size) (hd:d.size<200) (hq:(decide (a>0) && !ltI d[a - 1]! d[p]!)=false)
  (h:Ev (fun k=>Zkb k (a:Int) (b:Int) (lim:Int) ((Go.Sort.partition ltI d a b p).1:Int) (Go.Sort.partition ltI d a b p).2.1 (Go.Sort.partition ltI d a b p).2.2.toList) r) :
  Ev (fun k=>Q127.l4 k (a:Int) (b:Int) wb wp (lim:Int) (p:Int) d.toList) r:=by
 have h5:Ev (fun k=>Q127.l5 k (a:Int) (b:Int) wb wp (lim:Int) (p:Int) d.toList false) r:=(Zm7 hab hp hb (by omega)).step2 h fun k h1' h2=>by
  rw [Q127.l5,if_neg (by simp),h1',Option.bind_some]
  exact h2
 refine h5.step fun k hk=>?_
 by_cases c:0<a
 ·have hq':ltI d[a - 1]! d[p]! = true:=by simpa [c] using hq
  rw [Q127.l4,if_pos (decide_eq_true (by omega)),wn (x:=(a:Int) - 1) (n:=a - 1) (by omega) (by omega),if_pos (by simp; omega),if_pos (by simp; omega),gta,gta,Xl,Option.bind_some,hq']
  exact hk
 ·rw [Q127.l4,if_neg (by simp only [decide_eq_true_eq]; omega)]
  exact hk
theorem Zml (hab:a<b) (hb:b≤d.size) (hd:d.size<200) (h1:(Go.Sort.partialInsertionSort ltI d a b).2=true→(Go.Sort.partialInsertionSort ltI d a b).1.toList=r)
  (h2:(Go.Sort.partialInsertionSort ltI d a b).2=false→Ev (fun k=>Q127.l4 k (a:Int) (b:Int) wb wp (lim:Int) (p:Int) (Go.Sort.partialInsertionSort ltI d a b).1.toList) r):Ev (fun k=>Q127.l3 k (a:Int) (b:Int) wb wp (lim:Int) d.toList (p:Int) true) r:=by
 have h0:=Zm5 hab hb (by omega)
 cases c:(Go.Sort.partialInsertionSort ltI d a b).2 with
 | true=>
  refine h0.step fun k hk=>?_
  rw [Q127.l3,if_pos rfl,hk,Option.bind_some,U6,c,if_pos rfl,h1 c]
 | false=>
  refine h0.step2 (h2 c) fun k hk hk2=>?_
  rw [Q127.l3,if_pos rfl,hk,Option.bind_some,U6,c,if_neg (by simp)]
  exact hk2
end
def piP (k:Nat) (s:Go.Sort.Rd Int) (a b:Nat) (wb wp:Bool):Option TX:=if s.pi.2=true then some s.pi.1.toList else Q127.l4 k (a:Int) (b:Int) wb wp (s.lim:Int) (s.pivot:Int) s.pi.1.toList
theorem Zkm {h:Go.Sort.Hint}:decide (Zcf h=2)=decide (h=.decreasing):=by cases h <;> rfl
theorem Zm8 {h:Go.Sort.Hint}:decide (Zcf h=1)=decide (h=.increasing):=by cases h <;> rfl
section
variable {a b limit:Nat} {d:Array Int} {wb wp:Bool} {r:TX}
theorem Zmh {s:Go.Sort.Rd Int} {e:Array Int} (hab:a<b) (hb:b≤e.size) (hd:e.size<200) (he:s.pi=Go.Sort.partialInsertionSort ltI e a b) (h:Ev (fun k=>piP k s a b wb wp) r) :
  Ev (fun k=>Q127.l3 k (a:Int) (b:Int) wb wp (s.lim:Int) e.toList (s.pivot:Int) true) r:=by
 refine Zml hab hb hd (fun c=>?_) fun c=>?_
 ·obtain ⟨k,h⟩:=h.ok
  unfold piP at h
  rw [he,c,if_pos rfl] at h
  exact Option.some.inj h
 ·refine h.next fun k hk=>?_
  unfold piP at hk
  rw [he,c,if_neg (by simp)] at hk
  exact hk
theorem Zex {s:Go.Sort.Rd Int} {e:Array Int} (he:s.pi=(e,false)) (h:Ev (fun k=>piP k s a b wb wp) r) :
  Ev (fun k=>Q127.l3 k (a:Int) (b:Int) wb wp (s.lim:Int) e.toList (s.pivot:Int) false) r:=by
 refine h.step fun k hk=>?_
 unfold piP at hk
 rw [he,if_neg (by simp)] at hk
 rw [Q127.l3,if_neg (by simp)]
 exact hk
theorem Zl9 {s:Go.Sort.Rd Int} (h12:12<b - a) (hb:b≤s.d1.size) (hd:s.d1.size<200) (ec:s.c=Go.Sort.choosePivot ltI s.d1 a b) (hc:a≤s.c.1∧s.c.1<b)
  (e2:s.d2=if s.c.2=.decreasing then Go.Sort.reverseRange s.d1 a b else s.d1) (s2:s.d2.size=s.d1.size) (ep:s.pivot=if s.c.2=.decreasing then (b - 1) - (s.c.1 - a) else s.c.1) (eh:s.hint=if s.c.2=.decreasing then Go.Sort.Hint.increasing else s.c.2)
  (ei:s.pi=if wb && wp && s.hint=.increasing then Go.Sort.partialInsertionSort ltI s.d2 a b else (s.d2,false)) (h:Ev (fun k=>piP k s a b wb wp) r) :
  Ev (fun k=>Q127.l1 k (a:Int) (b:Int) wb wp s.d1.toList (s.lim:Int)) r:=by
 have hpv:=Zmi (d:=s.d1) (a:=a) (b:=b) (by omega) hb h12 (by omega)
 rw [← ec] at hpv
 have fin:∀ hI:Int,decide (hI=1)=decide (s.hint=.increasing)→Ev (fun k=>Q127.l2 k (a:Int) (b:Int) wb wp (s.lim:Int) s.d2.toList (s.pivot:Int) hI) r:=fun hI hh=>by
  cases wb with
  | false=>exact (Zex (by simpa using ei) h).step fun k hk=>by rw [Q127.l2,if_neg (by simp)]; exact hk
  | true=>
   cases wp with
   | false=>exact (Zex (by simpa using ei) h).step fun k hk=>by rw [Q127.l2,if_pos rfl,if_neg (by simp)]; exact hk
   | true=>
    by_cases q:s.hint=.increasing
    ·exact (Zmh (e:=s.d2) (by omega) (by omega) (by omega) (by simpa [q] using ei) h).step fun k hk=>by rw [Q127.l2,if_pos rfl,if_pos rfl,hh,decide_eq_true q]; exact hk
    ·exact (Zex (by simpa [q] using ei) h).step fun k hk=>by rw [Q127.l2,if_pos rfl,if_pos rfl,hh,decide_eq_false q]; exact hk
 by_cases c:s.c.2=.decreasing
 ·rw [if_pos c] at e2 ep eh
  have e3:w64 ((b:Int) - 1)=((b - 1:Nat):Int):=wn (by omega) (by omega)
  have e4:w64 ((s.c.1:Int) - (a:Int))=((s.c.1 - a:Nat):Int):=wn (by omega) (by omega)
  have e5:w64 (((b - 1:Nat):Int) - ((s.c.1 - a:Nat):Int))=(s.pivot:Int):=wn (by omega) (by omega)
  have hr:=Znv (a:=a) (b:=b) (d:=s.d1) (by omega) (by omega) hb (by omega)
  rw [← e2] at hr
  refine hr.step2 (fin 1 (by rw [eh]; rfl)) fun k h1 h2=>?_
  rw [Q127.l1,hpv,Option.bind_some]
  dsimp only
  rw [Zkm,if_pos (decide_eq_true c),h1,Option.bind_some,e3,e4,e5]
  exact h2
 ·rw [if_neg c] at e2 ep eh
  refine (fin (Zcf s.c.2) (by rw [eh]; exact Zm8)).step fun k h2=>?_
  rw [Q127.l1,hpv,Option.bind_some]
  dsimp only
  rw [Zkm,if_neg (by simpa using c)]
  rw [e2,ep] at h2
  exact h2
theorem Zip (h12:12<b - a) (hb:b≤d.size) (hd:d.size<200) (hl:limit≠0) (hlim:limit≤100) (hB:Go.Sort.Below ltI a b d) (h:Ev (fun k=>piP k (Go.Sort.rd ltI d a b limit wb wp) a b wb wp) r) :
  Ev (fun k=>Q127.l0 k d.toList (a:Int) (b:Int) (limit:Int) wb wp) r:=by
 obtain ⟨f1,f2,f3,f4,f5,f6,f7,f8⟩:=Go.Sort.rd_facts (lt:=ltI) (wb:=wb) (wp:=wp) (limit:=limit) Go.Sort.swo_ltInt Go.Sort.partialInsertionSort_holds Go.Sort.reverseRange_holds (by omega) hb hB
 have hm:=Zl9 (s:=Go.Sort.rd ltI d a b limit wb wp) (wb:=wb) (wp:=wp) (r:=r) h12 (by rw [f1]; exact hb) (by rw [f1]; exact hd) rfl f3 rfl (by rw [f4,f1]) rfl rfl rfl h
 have e1:w64 ((b:Int) - (a:Int))=((b - a:Nat):Int):=wn (by omega) (by omega)
 cases wb with
 | true=>
  refine hm.step fun k hk=>?_
  rw [Zby,e1,if_neg (by simp only [decide_eq_true_eq]; omega),if_neg (by simp only [decide_eq_true_eq]; omega),if_neg (by simp)]
  exact hk
 | false=>
  refine (Zmp (a:=a) (b:=b) (d:=d) (by omega) hb hd).step2 hm fun k h1 hk=>?_
  rw [Zby,e1,if_neg (by simp only [decide_eq_true_eq]; omega),if_neg (by simp only [decide_eq_true_eq]; omega),if_pos (by simp),h1,Option.bind_some,wn (x:=(limit:Int) - 1) (n:=limit - 1) (by omega) (by omega)]
  exact hk
end
theorem Znz:∀(m:Nat) (d:Array Int) (a b limit:Nat) (wb wp:Bool),b - a≤m→a≤b→b≤d.size→d.size<200→limit≤100→Go.Sort.Below ltI a b d→
  Ev (fun k=>Q127.l0 k d.toList (a:Int) (b:Int) (limit:Int) wb wp) (Go.Sort.pdq ltI d a b limit wb wp).toList:=by
 intro m
 induction m using Nat.strongRecOn with
 | _ m ih=>
 intro d a b limit wb wp hm hab hb hd hlim hB
 have e1:w64 ((b:Int) - (a:Int))=((b - a:Nat):Int):=wn (by omega) (by omega)
 by_cases h12:b - a≤12
 ·rw [Go.Sort.pdq_small h12]
  refine (Zkp (a:=a) (b:=b) (d:=d) hb (by omega) (by omega)).step fun k hk=>?_
  rw [Zby,e1,if_pos (decide_eq_true (by omega)),hk,Option.bind_some]
 by_cases h0:limit=0
 ·rw [Go.Sort.pdq_heap h12 h0]
  refine (Zna (a:=a) (b:=b) (d:=d) hab hb (by omega)).step fun k hk=>?_
  rw [Zby,e1,if_neg (by simp only [decide_eq_true_eq]; omega),if_pos (decide_eq_true (by omega)),hk,Option.bind_some]
 refine Zip (by omega) hb hd h0 hlim hB ?_
 obtain ⟨f1,f2,f3,f4,f5,f6,f7,f8⟩:=Go.Sort.rd_facts (lt:=ltI) (wb:=wb) (wp:=wp) (limit:=limit) Go.Sort.swo_ltInt Go.Sort.partialInsertionSort_holds Go.Sort.reverseRange_holds (by omega) hb hB
 have hlm:(Go.Sort.rd ltI d a b limit wb wp).lim≤limit:=Go.Sort.rd_lim_le
 cases hpi:(Go.Sort.rd ltI d a b limit wb wp).pi.2 with
 | true=>
  rw [Go.Sort.pdq_done h12 h0 hpi]
  exact Ev.all fun k=>by unfold piP; rw [if_pos hpi]
 | false=>
 have red:∀ {r:TX},Ev (fun k=>Q127.l4 k (a:Int) (b:Int) wb wp ((Go.Sort.rd ltI d a b limit wb wp).lim:Int) ((Go.Sort.rd ltI d a b limit wb wp).pivot:Int) (Go.Sort.rd ltI d a b limit wb wp).pi.1.toList) r→Ev (fun k=>piP k (Go.Sort.rd ltI d a b limit wb wp) a b wb wp) r:=fun h=>h.next fun k hk=>by
  unfold piP
  rw [hpi,if_neg (by simp)]
  exact hk
 have hsz:b≤(Go.Sort.rd ltI d a b limit wb wp).pi.1.size:=by rw [f7]; exact hb
 cases hq:(decide (a>0) && !ltI (Go.Sort.rd ltI d a b limit wb wp).pi.1[a - 1]! (Go.Sort.rd ltI d a b limit wb wp).pi.1[(Go.Sort.rd ltI d a b limit wb wp).pivot]!) with
 | true=>
  have hq':=hq
  simp only [Bool.and_eq_true,decide_eq_true_eq,Bool.not_eq_true'] at hq'
  obtain ⟨g1,g2,g3,g4,g5⟩:=Go.Sort.round_eq (lt:=ltI) Go.Sort.swo_ltInt (Go.Sort.partitionEqual_holds ltI) hq'.1 f6.1 f6.2 hsz f8 hq'.2 (mid:=(Go.Sort.partitionEqual ltI (Go.Sort.rd ltI d a b limit wb wp).pi.1 a b (Go.Sort.rd ltI d a b limit wb wp).pivot).1) (d4:=(Go.Sort.partitionEqual ltI (Go.Sort.rd ltI d a b limit wb wp).pi.1 a b (Go.Sort.rd ltI d a b limit wb wp).pivot).2) rfl
  rw [Go.Sort.pdq_eq h12 h0 hpi hq ⟨g1,g2⟩]
  refine red (Zlx (by omega) (by omega) (by omega) hsz (by omega) hq'.2 ?_)
  exact ih (b - (Go.Sort.partitionEqual ltI (Go.Sort.rd ltI d a b limit wb wp).pi.1 a b (Go.Sort.rd ltI d a b limit wb wp).pivot).1) (by omega) _ _ _ _ _ _ (Nat.le_refl _) g2 (by rw [g3]; exact hsz) (by omega) (by omega) g4
 | false=>
  obtain ⟨g1,g2,g3,g4,g5,g6,g7⟩:=Go.Sort.round_part (lt:=ltI) Go.Sort.swo_ltInt (Go.Sort.partition_holds ltI) f6.1 f6.2 hsz f8 (mid:=(Go.Sort.partition ltI (Go.Sort.rd ltI d a b limit wb wp).pi.1 a b (Go.Sort.rd ltI d a b limit wb wp).pivot).1) (ap:=(Go.Sort.partition ltI (Go.Sort.rd ltI d a b limit wb wp).pi.1 a b (Go.Sort.rd ltI d a b limit wb wp).pivot).2.1) (d4:=(Go.Sort.partition ltI (Go.Sort.rd ltI d a b limit wb wp).pi.1 a b (Go.Sort.rd ltI d a b limit wb wp).pivot).2.2) rfl
  refine red (Zmu (by omega) (by omega) hsz (by omega) hq ?_)
  have e2:∀ x:Nat,x=b - a→w64 (Int.tdiv (x:Int) 8)=(((b - a) / 8:Nat):Int):=fun x hx=>by
   rw [hx,show Int.tdiv ((b - a:Nat):Int) 8=(((b - a) / 8:Nat):Int) from rfl,Z3 (by omega) (by omega)]
  by_cases hlt:(Go.Sort.partition ltI (Go.Sort.rd ltI d a b limit wb wp).pi.1 a b (Go.Sort.rd ltI d a b limit wb wp).pivot).1 - a<b - (Go.Sort.partition ltI (Go.Sort.rd ltI d a b limit wb wp).pi.1 a b (Go.Sort.rd ltI d a b limit wb wp).pivot).1
  ·rw [Go.Sort.pdq_left h12 h0 hpi hq ⟨g1,g2⟩ hlt]
   generalize Go.Sort.partition ltI (Go.Sort.rd ltI d a b limit wb wp).pi.1 a b (Go.Sort.rd ltI d a b limit wb wp).pivot=pt at *
   have e3:w64 ((pt.1:Int) - (a:Int))=((pt.1 - a:Nat):Int):=wn (by omega) (by omega)
   have e4:w64 ((b:Int) - (pt.1:Int))=((b - pt.1:Nat):Int):=wn (by omega) (by omega)
   have e5:w64 ((pt.1:Int)+1)=((pt.1+1:Nat):Int):=wn (by omega) (by omega)
   have hs:=Go.Sort.pdq_sorts ltI Go.Sort.swo_ltInt pt.2.2 a pt.1 (Go.Sort.rd ltI d a b limit wb wp).lim true true g1 (by omega) g4
   have c1:=(ih (pt.1 - a) (by omega) pt.2.2 a pt.1 (Go.Sort.rd ltI d a b limit wb wp).lim true true (Nat.le_refl _) g1 (by omega) (by omega) (by omega) g4).step (F:=fun k=>Q127.f k pt.2.2.toList (a:Int) (pt.1:Int) ((Go.Sort.rd ltI d a b limit wb wp).lim:Int)) fun k hk=>by rw [Q127.f]; exact hk
   have c2:=ih (b - (pt.1+1)) (by omega) (Go.Sort.pdq ltI pt.2.2 a pt.1 (Go.Sort.rd ltI d a b limit wb wp).lim true true) (pt.1+1) b (Go.Sort.rd ltI d a b limit wb wp).lim (decide (pt.1 - a≥(b - a) / 8)) pt.2.1 (Nat.le_refl _) (by omega) (by rw [hs.1.1]; omega) (by rw [hs.1.1]; omega) (by omega) (g6 _ hs.1 hs.2).1
   refine c1.next2 c2 fun k k1 k2=>?_
   unfold Zkb
   rw [e3,e4,e5,e1,e2 _ rfl,if_pos (decide_eq_true (by omega)),k1,Option.bind_some,show decide ((((b - a) / 8:Nat):Int)≤((pt.1 - a:Nat):Int))=decide (pt.1 - a≥(b - a) / 8) by congr 1; exact propext (by omega)]
   exact k2
  ·rw [Go.Sort.pdq_right h12 h0 hpi hq ⟨g1,g2⟩ hlt]
   generalize Go.Sort.partition ltI (Go.Sort.rd ltI d a b limit wb wp).pi.1 a b (Go.Sort.rd ltI d a b limit wb wp).pivot=pt at *
   have e3:w64 ((pt.1:Int) - (a:Int))=((pt.1 - a:Nat):Int):=wn (by omega) (by omega)
   have e4:w64 ((b:Int) - (pt.1:Int))=((b - pt.1:Nat):Int):=wn (by omega) (by omega)
   have e5:w64 ((pt.1:Int)+1)=((pt.1+1:Nat):Int):=wn (by omega) (by omega)
   have hs:=Go.Sort.pdq_sorts ltI Go.Sort.swo_ltInt pt.2.2 (pt.1+1) b (Go.Sort.rd ltI d a b limit wb wp).lim true true (by omega) (by omega) g5
   have c1:=(ih (b - (pt.1+1)) (by omega) pt.2.2 (pt.1+1) b (Go.Sort.rd ltI d a b limit wb wp).lim true true (Nat.le_refl _) (by omega) (by omega) (by omega) (by omega) g5).step (F:=fun k=>Q127.f k pt.2.2.toList ((pt.1+1:Nat):Int) (b:Int) ((Go.Sort.rd ltI d a b limit wb wp).lim:Int)) fun k hk=>by rw [Q127.f]; exact hk
   have c2:=ih (pt.1 - a) (by omega) (Go.Sort.pdq ltI pt.2.2 (pt.1+1) b (Go.Sort.rd ltI d a b limit wb wp).lim true true) a pt.1 (Go.Sort.rd ltI d a b limit wb wp).lim (decide (b - pt.1≥(b - a) / 8)) pt.2.1 (Nat.le_refl _) (by omega) (by rw [hs.1.1]; omega) (by rw [hs.1.1]; omega) (by omega) (g7 _ hs.1 hs.2).1
   refine c1.next2 c2 fun k k1 k2=>?_
   unfold Zkb
   rw [e3,e4,e5,e1,e2 _ rfl,if_neg (by simp only [decide_eq_true_eq]; omega),k1,Option.bind_some,show decide ((((b - a) / 8:Nat):Int)≤((b - pt.1:Nat):Int))=decide (b - pt.1≥(b - a) / 8) by congr 1; exact propext (by omega)]
   exact k2
theorem Zk6 {n:Nat} (h:n<200):Q0.f (IntKind.u64.wrap (n:Int))=some ((Go.Sort.bitsLen n:Nat):Int):=by
 unfold Q0.f
 rw [Zaw,Nat.mod_eq_of_lt (by omega),Zm6 ⟨n,h⟩,Option.bind_some]
theorem Znf {l:TX} (h:l.length<200):Ev (fun k=>Q115.f k l) (l.mergeSort fun x y=>decide (x≤y)):=by
 have e:=Go.Sort.sortInt l
 have hb:Go.Sort.bitsLen l.length≤100:=(Go.Sort.bitsLen_le_iff _ _).2 (Nat.lt_of_lt_of_le h (by decide))
 have hp:=Znz l.length l.toArray 0 l.toArray.size (Go.Sort.bitsLen l.toArray.size) true true (by simp) (Nat.zero_le _) (Nat.le_refl _) (by simpa using h) (by simpa using hb) (Or.inl rfl)
 have e2:(Go.Sort.pdq ltI l.toArray 0 l.toArray.size (Go.Sort.bitsLen l.toArray.size) true true).toList=l.mergeSort fun x y=>decide (x≤y):=e
 rw [e2] at hp
 have hf:Ev (fun k=>Q127.f k l 0 (l.length:Int) ((Go.Sort.bitsLen l.length:Nat):Int)) (l.mergeSort fun x y=>decide (x≤y)):=hp.step fun k hk=>by
  rw [Q127.f]
  simpa using hk
 refine hf.next fun k hk=>?_
 unfold Q115.f
 rw [Zk6 h,Option.bind_some,hk,Option.bind_some]
theorem Zka {α:Type} {xs ys:List α} {l m:Nat} (h:l+m≤xs.length):(patch xs l m ys).length=xs.length:=by
 unfold patch
 simp only [List.length_append,List.length_take,List.length_drop]
 omega
theorem Zcr {n i:Nat} (hn:n≤1000) (hi:1≤i):∀(m t j:Nat) (x:TX),x.length=n→i+t+m=n→1≤t→i≤j→j+1≤i+t→∃ r,Ev (fun k=>Q101.l1 k (i:Int) x (j:Int) (t:Int)) r∧r.length<n
 | 0,t,j,x,hx,h,ht,hj,hjt=>by
  have hd:(x.drop j).length=n - j:=by rw [List.length_drop,hx]
  have hp:(patch x j (x.drop j).length (List.replicate (x.drop j).length (0:Int))).length=n:=by rw [Zka (by omega),hx]
  refine ⟨(patch x j (x.drop j).length (List.replicate (x.drop j).length (0:Int))).take j,Ev.last fun k=>?_,by rw [List.length_take]; omega⟩
  rw [Q101.l1,if_neg (by simp only [Int.toNat_natCast,List.length_drop,decide_eq_true_eq]; omega),if_pos (by omega),Int.toNat_natCast,if_pos (by omega)]
 | m+1,t,j,x,hx,h,ht,hj,hjt=>by
  have e1:w64 ((t:Int) - 1)=((t - 1:Nat):Int):=wn (by omega) (by omega)
  have e2:w64 ((t:Int)+1)=((t+1:Nat):Int):=wn (by omega) (by omega)
  have e3:w64 ((j:Int)+1)=((j+1:Nat):Int):=wn (by omega) (by omega)
  have hd:(x.drop i).length=n - i:=by rw [List.length_drop,hx]
  by_cases q:gt (x.drop i) (t:Int)=gt (x.drop i) ((t - 1:Nat):Int)
  ·obtain ⟨r,h1,h2⟩:=Zcr hn hi m (t+1) j x hx (by omega) (by omega) hj (by omega)
   refine ⟨r,h1.step fun k hk=>?_,h2⟩
   rw [Q101.l1,Int.toNat_natCast,if_pos (decide_eq_true (by omega)),if_pos (by omega),e1,if_pos (by omega),if_neg (by simp [q]),e2]
   exact hk
  ·obtain ⟨r,h1,h2⟩:=Zcr hn hi m (t+1) (j+1) (x.set j (gt (x.drop i) (t:Int))) (by rw [List.length_set,hx]) (by omega) (by omega) (by omega) (by omega)
   refine ⟨r,h1.step fun k hk=>?_,h2⟩
   rw [Q101.l1,Int.toNat_natCast,if_pos (decide_eq_true (by omega)),if_pos (by omega),e1,if_pos (by omega),if_pos (by simp [q]),if_pos (by omega),Int.toNat_natCast,e2,e3]
   exact hk
def Zj6 (l:TX):Prop:=∀ q,q+1<l.length→l.getD (q+1) 0≠l.getD q 0
theorem Zgk {l:TX} (hn:l.length≤1000):∀(m i:Nat),i+m=l.length→1≤i→(∀ q,q+1<i→l.getD (q+1) 0≠l.getD q 0)→∃ r,Ev (fun k=>Q101.l0 k l (i:Int)) r∧(r.length=l.length↔Zj6 l)
 | 0,i,h,hi,hq=>by
  refine ⟨l,Ev.last fun k=>?_,fun _ q hq'=>hq q (by omega),fun _=>rfl⟩
  rw [Q101.l0,if_neg (by simp only [decide_eq_true_eq]; omega)]
 | m+1,i,h,hi,hq=>by
  have e1:w64 ((i:Int) - 1)=((i - 1:Nat):Int):=wn (by omega) (by omega)
  have e2:w64 ((i:Int)+1)=((i+1:Nat):Int):=wn (by omega) (by omega)
  have g1:gt l (i:Int)=l.getD i 0:=Yx l i
  have g2:gt l ((i - 1:Nat):Int)=l.getD (i - 1) 0:=Yx l (i - 1)
  by_cases c:l.getD i 0=l.getD (i - 1) 0
  ·obtain ⟨r,h1,h2⟩:=Zcr hn hi (l.length - i - 1) 1 i l rfl (by omega) (Nat.le_refl _) (Nat.le_refl _) (Nat.le_refl _)
   refine ⟨r,h1.step fun k hk=>?_,fun e=>by omega,fun e=>absurd c (by have:=e (i - 1) (by omega); rwa [Nat.sub_add_cancel hi] at this)⟩
   rw [Q101.l0,if_pos (decide_eq_true (by omega)),if_pos (by omega),e1,if_pos (by omega),g1,g2,if_pos (decide_eq_true c),if_pos (by omega)]
   exact hk
  ·obtain ⟨r,h1,h2⟩:=Zgk hn m (i+1) (by omega) (by omega) fun q hq'=>by
    by_cases e:q+1=i
    ·rw [e,show q=i - 1 by omega]; exact c
    ·exact hq q (by omega)
   refine ⟨r,h1.step fun k hk=>?_,h2⟩
   rw [Q101.l0,if_pos (decide_eq_true (by omega)),if_pos (by omega),e1,if_pos (by omega),g1,g2,if_neg (by simpa using c),e2]
   exact hk
theorem Zjp {l:TX} (hn:l.length≤1000):∃ r,Ev (fun k=>Q101.f k l) r∧(r.length=l.length↔Zj6 l):=by
 by_cases h:l.length<2
 ·refine ⟨l,Ev.all fun k=>?_,fun _ q hq=>by omega,fun _=>rfl⟩
  unfold Q101.f
  rw [if_pos (decide_eq_true (by omega))]
 ·obtain ⟨r,h1,h2⟩:=Zgk hn (l.length - 1) 1 (by omega) (Nat.le_refl _) (fun q hq=>by omega)
  refine ⟨r,h1.next fun k hk=>?_,h2⟩
  unfold Q101.f
  rw [if_neg (by simp only [decide_eq_true_eq]; omega)]
  exact hk
theorem Zi5 {l:TX} (hs:l.Pairwise (fun x y=>x≤y)):Zj6 l↔l.Nodup:=by
 constructor
 ·intro h
  rw [List.Nodup,List.pairwise_iff_getElem]
  intro i j hi hj hij e
  have h1:=h i (by omega)
  rw [List.getD_eq_getElem?_getD,List.getD_eq_getElem?_getD,List.getElem?_eq_getElem (by omega),List.getElem?_eq_getElem hi] at h1
  simp only [Option.getD_some] at h1
  have a:=List.pairwise_iff_getElem.1 hs i (i+1) hi (by omega) (by omega)
  by_cases e1:i+1=j
  ·subst e1; exact h1 e.symm
  ·have b:=List.pairwise_iff_getElem.1 hs (i+1) j (by omega) hj (by omega)
   omega
 ·intro h q hq e
  rw [List.getD_eq_getElem?_getD,List.getD_eq_getElem?_getD,List.getElem?_eq_getElem hq,List.getElem?_eq_getElem (by omega)] at e
  exact (List.pairwise_iff_getElem.1 h q (q+1) (by omega) hq (by omega)) e.symm
theorem kids_all {c:Cfg} {l:TX}:(List.range' 0 l.length).all (Gx c l)=true↔(∀ x∈l,x≠0∧¬ c.1≤w64 x)∧l.Nodup:=by
 have gd:∀ i (h:i<l.length),l.getD i 0=l[i]:=fun i h=>by rw [List.getD_eq_getElem?_getD,List.getElem?_eq_getElem h]; rfl
 rw [List.all_eq_true]
 constructor
 ·intro h
  refine ⟨fun x hx=>?_,?_⟩
  ·obtain ⟨i,hi,rfl⟩:=List.mem_iff_getElem.1 hx
   have:=h i (by simp [hi])
   simp only [Gx,gd i hi,Bool.and_eq_true,Bool.not_eq_true',decide_eq_false_iff_not] at this
   exact ⟨this.1,this.2.1⟩
  ·rw [List.Nodup,List.pairwise_iff_getElem]
   intro i j hi hj hij e
   have:=h j (by simp [hj])
   simp only [Gx,Bool.and_eq_true,List.all_eq_true] at this
   have:=this.2.2 i (by simp [hij])
   simp only [neB,gd i hi,gd j hj,Bool.not_eq_true',decide_eq_false_iff_not] at this
   exact this e
 ·rintro ⟨h1,h2⟩ i hi
  have hi:i<l.length:=by simpa using hi
  simp only [Gx,gd i hi,Bool.and_eq_true,Bool.not_eq_true',decide_eq_false_iff_not,List.all_eq_true]
  refine ⟨(h1 _ (List.getElem_mem hi)).1,(h1 _ (List.getElem_mem hi)).2,fun q hq=>?_⟩
  have hq:q<i:=by simpa using hq
  simp only [neB,gd i hi,gd q (by omega),Bool.not_eq_true',decide_eq_false_iff_not]
  exact List.pairwise_iff_getElem.1 h2 q i (by omega) hi hq
def Zas (c:Cfg) (l:TX):Bool:=decide (1≤l.length) && (decide ((l.length:Int)≤c.2.2.2.1) && (List.range' 0 l.length).all (Gx c l))
theorem Znd {c:Cfg} {l:TX} (h80:l.length≤80) (hl:∀ x∈l,0≤x∧x<4294967296):Ev (fun k=>Q76.f k c l) (Zas c l):=by
 have hclone:Q100.f l=some l:=by
  unfold Q100.f
  rw [if_pos (by simp; omega)]; rfl
 obtain ⟨S,hS⟩:∃ S,S=l.mergeSort fun x y=>decide (x≤y):=⟨_,rfl⟩
 have hperm:S.Perm l:=hS ▸ List.mergeSort_perm _ _
 have hlen:S.length=l.length:=hperm.length_eq
 have hsort:S.Pairwise (fun x y=>x≤y):=by
  have:=List.pairwise_mergeSort (le:=fun x y:Int=>decide (x≤y)) (fun a b c h1 h2=>by simp only [decide_eq_true_eq] at *; omega) (fun a b=>by simp only [Bool.or_eq_true,decide_eq_true_eq]; omega) l
  rw [← hS] at this
  exact this.imp fun h=>of_decide_eq_true h
 have hs:=Znf (l:=l) (by omega)
 rw [← hS] at hs
 obtain ⟨r,hr1,hr2⟩:=Zjp (l:=S) (by omega)
 refine hs.next2 hr1 fun k k1 k2=>?_
 unfold Q76.f
 rw [hclone,Option.bind_some,k1,Option.bind_some]
 by_cases c1:l.length<1
 ·rw [if_pos (decide_eq_true (by omega))]
  simp [Zas,show ¬ 1≤l.length by omega]
 rw [if_neg (by simp only [decide_eq_true_eq]; omega)]
 by_cases c2:c.2.2.2.1<(l.length:Int)
 ·rw [if_pos (decide_eq_true c2)]
  simp [Zas,show ¬ (l.length:Int)≤c.2.2.2.1 by omega]
 rw [if_neg (by simpa using c2),if_pos (by omega),wn (x:=(l.length:Int) - 1) (n:=l.length - 1) (by omega) (by omega)]
 have g0:gt S 0=S[0]'(by omega):=by
  rw [show (0:Int)=((0:Nat):Int) from rfl,Yx,List.getD_eq_getElem?_getD,List.getElem?_eq_getElem (by omega)]; rfl
 have g1:gt S ((l.length - 1:Nat):Int)=S[l.length - 1]'(by omega):=by
  rw [Yx,List.getD_eq_getElem?_getD,List.getElem?_eq_getElem (by omega)]; rfl
 have m0:S[0]'(by omega)∈l:=hperm.mem_iff.1 (List.getElem_mem _)
 have m1:S[l.length - 1]'(by omega)∈l:=hperm.mem_iff.1 (List.getElem_mem _)
 rw [g0,g1]
 have base:Zas c l=(List.range' 0 l.length).all (Gx c l):=by
  unfold Zas
  rw [decide_eq_true (show 1≤l.length by omega),decide_eq_true (show (l.length:Int)≤c.2.2.2.1 by omega)]; rfl
 rw [base]
 by_cases c3:S[0]'(by omega)=0
 ·rw [if_pos (decide_eq_true c3)]
  refine congrArg some (Bool.eq_false_iff.2 fun e=>?_).symm
  exact ((kids_all.1 e).1 _ m0).1 c3
 rw [if_neg (by simpa using c3),if_pos (by omega)]
 by_cases c4:c.1≤w64 (S[l.length - 1]'(by omega))
 ·rw [if_pos (decide_eq_true c4)]
  refine congrArg some (Bool.eq_false_iff.2 fun e=>?_).symm
  exact ((kids_all.1 e).1 _ m1).2 c4
 rw [if_neg (by simpa using c4),k2,Option.bind_some]
 have key:r.length=l.length↔(List.range' 0 l.length).all (Gx c l)=true:=by
  rw [← hlen,hr2,Zi5 hsort,hperm.nodup_iff,hlen,kids_all]
  refine ⟨fun h=>⟨fun x hx=>?_,h⟩,fun h=>h.2⟩
  obtain ⟨i,hi,rfl⟩:=List.mem_iff_getElem.1 (hperm.mem_iff.2 hx)
  have a0:=hl _ m0
  have a1:=hl _ m1
  have ax:=hl _ hx
  have b0:S[0]'(by omega)≤S[i]:=by
   by_cases z:i=0
   ·subst z; exact Int.le_refl _
   ·exact List.pairwise_iff_getElem.1 hsort 0 i (by omega) hi (by omega)
  have b1:S[i]≤S[l.length - 1]'(by omega):=by
   by_cases z:i=l.length - 1
   ·subst z; exact Int.le_refl _
   ·exact List.pairwise_iff_getElem.1 hsort i (l.length - 1) hi (by omega) (by omega)
  rw [Z3 (by omega) (by omega)] at c4 ⊢
  exact ⟨by omega,by omega⟩
 refine congrArg some (Bool.eq_iff_iff.2 ?_)
 rw [decide_eq_true_eq,← key]
 omega
theorem Zei (s:Sp) (x:TS):Q69.f s x=some (inS s x):=by
 unfold Q69.f inS
 cases Op.bytesLess x s.1 <;> cases s.2.2 <;> rfl
theorem Zfx (a b:TS):Q67.f a b=some (Xm a b):=rfl
theorem B2 {l:TM} (s:Sp) (hl:l.length≤80):∀(k i:Nat),i≤l.length→l.length - i<k→Q60.l0 k l s (i:Int)=some ((l.drop i).all (piv s) && J3 (l.drop (i - 1)))
 | 0,i,_,h=>by omega
 | k+1,i,hi,hk=>by
  rw [Q60.l0]
  by_cases h:i<l.length
  ·have g1:(0:Int)≤(i:Int)∧(i:Int)<(l.length:Int):=by omega
   have eta:(s.1,s.2.1,s.2.2)=s:=rfl
   have ih:=B2 s hl k (i+1) (by omega) (by omega)
   rw [if_pos (decide_eq_true g1.2),if_pos g1,Yx]; (try rw [eta]); rw [Zei,Option.bind_some,Y8 (by omega),ih,Xf h,List.all_cons,Nat.add_sub_cancel]
   simp only [piv]
   cases h1:inS s (l.getD i default) with
   | false=>rfl
   | true=>
    by_cases e:l.getD i default=s.1
    ·rw [if_neg (by simp),if_pos (decide_eq_true e),decide_eq_true e]; rfl
    ·rw [if_neg (by simp),if_neg (by simp only [e,decide_false]; simp)]
     by_cases h0:0<i
     ·have g2:(0:Int)≤((i - 1:Nat):Int)∧((i - 1:Nat):Int)<(l.length:Int):=by omega
      rw [if_pos (decide_eq_true (by omega)),Zjq h0 (by omega),if_pos g2,Yx,Zfx,Option.bind_some,Zkq]
      have:=Zhb (l:=l) (i:=i - 1) (by omega)
      rw [Nat.sub_add_cancel h0] at this
      rw [this,decide_eq_false e]
      show (if (!Op.bytesLess (l.getD (i - 1) []) (l.getD i []))=true then _ else _)=_
      cases Op.bytesLess (l.getD (i - 1) []) (l.getD i []) <;> simp
     ·obtain rfl:i=0:=by omega
      rw [if_neg (by simp),decide_eq_false e]
      simp
  ·rw [if_neg (by simp only [decide_eq_true_eq]; omega),List.drop_eq_nil_of_le (by omega),Zhz (by omega)]
   rfl
theorem Zh9 {l:TM} (s:Sp) (hl:l.length≤80) {k:Nat} (hk:100<k):Q60.f k l s=some (l.all (piv s) && J3 l):=by
 have:=B2 s hl k 0 (by omega) (by omega)
 simpa [Q60.f] using this
theorem Zhi {l:List Pr} (hl:l.length≤100000) {k:Nat} (hk:l.length<k):Q64.f k l=some (Zaq l):=by
 have:=J4 (key:=fun x:Pr=>x.1) (F:=fun k i=>Q64.l0 k l i) (by omega) (fun k i=>rfl) k 0 (by omega) (by omega)
 rw [Zgc]
 simpa [Q64.f] using this
theorem Zht {l:List Msg} (hl:l.length≤100000) {k:Nat} (hk:l.length<k):Q14.f k l=some (Zam l):=by
 have:=J4 (key:=fun x:Msg=>x.1) (F:=fun k i=>Q14.l0 k l i) (by omega) (fun k i=>rfl) k 0 (by omega) (by omega)
 rw [Zf4]
 simpa [Q14.f] using this
theorem Ui {α:Type} [Inhabited α] {l:List α} {F:Nat→Int→Option Int} {p:α→Bool} (hl:l.length≤100000)
  (hF:∀ k i,F (k+1) i=if (decide (i<(l.length:Int)))=true then (if 0≤i∧i<(l.length:Int) then (if p (gt l i)=true then (some i) else (F k (w64 (i+1)))) else none) else (some (-1))) :
  ∀(m i k:Nat),i+m=l.length→m<k→∃ r,F k (i:Int)=some r∧decide (0≤r)=(l.drop i).any p
 | 0,i,0,_,h=>by omega
 | m+1,i,0,_,h=>by omega
 | 0,i,k+1,h,_=>⟨-1,by rw [hF,if_neg (by simp only [decide_eq_true_eq]; omega)],by rw [List.drop_eq_nil_of_le (by omega)]; rfl⟩
 | m+1,i,k+1,h,hk=>by
  rw [hF,if_pos (decide_eq_true (by omega)),if_pos (by omega),Yx,Xf (show i<l.length by omega),List.any_cons]
  by_cases c:p (l.getD i default)=true
  ·exact ⟨_,by rw [if_pos c],by rw [c,decide_eq_true (by omega)]; rfl⟩
  ·obtain ⟨r,h1,h2⟩:=Ui hl hF m (i+1) k (by omega) (by omega)
   exact ⟨r,by rw [if_neg c,Y8 (by omega),h1],by rw [h2,Bool.eq_false_iff.2 c]; rfl⟩
theorem Zbc (c:Cfg) (x:TS):Q71.f c x=some (Vt c x):=by
 unfold Q71.f Vt
 by_cases h:1≤(x.length:Int) <;> simp [h]
theorem Zld (p:Pr) (c:Cfg) (s:Sp):Q78.f p c s=some (!prB c s p):=by
 unfold Q78.f prB
 rw [show Q71.f (c.1,c.2.1,c.2.2.1,c.2.2.2.1,c.2.2.2.2.1,c.2.2.2.2.2.1,c.2.2.2.2.2.2.1,c.2.2.2.2.2.2.2) p.1=_ from Zbc c p.1,Option.bind_some,show Q69.f (s.1,s.2.1,s.2.2) p.1=_ from Zei s p.1,Option.bind_some]
 by_cases e:c.2.2.2.2.2.2.2<(p.2.length:Int)
 ·rw [decide_eq_true e,decide_eq_false (show ¬ ((p.2.length:Int)≤c.2.2.2.2.2.2.2) by omega)]
  cases Vt c p.1 <;> cases inS s p.1 <;> rfl
 ·rw [decide_eq_false e,decide_eq_true (show ((p.2.length:Int)≤c.2.2.2.2.2.2.2) by omega)]
  cases Vt c p.1 <;> cases inS s p.1 <;> rfl
theorem Zla (x:TS) (c:Cfg):Q74.f x c=some (!Vt c x):=by
 unfold Q74.f
 rw [show Q71.f (c.1,c.2.1,c.2.2.1,c.2.2.2.1,c.2.2.2.2.1,c.2.2.2.2.2.1,c.2.2.2.2.2.2.1,c.2.2.2.2.2.2.2) x=_ from Zbc c x,Option.bind_some]
theorem Zlr (p:Msg) (c:Cfg) (s:Sp):Q75.f p c s=some (!Zbf c s p):=by
 unfold Q75.f Zbf
 rw [show Q71.f (c.1,c.2.1,c.2.2.1,c.2.2.2.1,c.2.2.2.2.1,c.2.2.2.2.2.1,c.2.2.2.2.2.2.1,c.2.2.2.2.2.2.2) p.1=_ from Zbc c p.1,Option.bind_some,show Q69.f (s.1,s.2.1,s.2.2) p.1=_ from Zei s p.1,Option.bind_some]
 by_cases e:c.2.2.2.2.2.2.2<(p.2.2.length:Int)
 ·rw [decide_eq_true e,decide_eq_false (show ¬ ((p.2.2.length:Int)≤c.2.2.2.2.2.2.2) by omega)]
  cases Vt c p.1 <;> cases inS s p.1 <;> rfl
 ·rw [decide_eq_false e,decide_eq_true (show ((p.2.2.length:Int)≤c.2.2.2.2.2.2.2) by omega)]
  cases Vt c p.1 <;> cases inS s p.1 <;> cases p.2.1 <;> cases decide (p.2.2=[]) <;> rfl
theorem Zha {c:Cfg} {s:Sp} {l:List Pr} (hl:l.length≤100000) {k:Nat} (hk:l.length<k):Q103.f k l c s=some (!l.all (prB c s)):=by
 obtain ⟨r,h1,h2⟩:=Ui (l:=l) (F:=fun k i=>Q110.l0 k l c s i) (p:=fun x=>!prB c s x) hl (fun k i=>by
  show Q110.l0 (k+1) l c s i=_
  rw [Q110.l0,Zld,Option.bind_some]) l.length 0 k (by omega) hk
 unfold Q103.f Q110.f
 rw [show Q110.l0 k l (c.1,c.2.1,c.2.2.1,c.2.2.2.1,c.2.2.2.2.1,c.2.2.2.2.2.1,c.2.2.2.2.2.2.1,c.2.2.2.2.2.2.2) (s.1,s.2.1,s.2.2) 0=_ from h1,Option.bind_some,h2,List.drop_zero]
 exact congrArg some (by rw [List.all_eq_not_any_not,Bool.not_not])
theorem Zhp {c:Cfg} {l:TM} (hl:l.length≤100000) {k:Nat} (hk:l.length<k):Q106.f k l c=some (!l.all (Vt c)):=by
 obtain ⟨r,h1,h2⟩:=Ui (l:=l) (F:=fun k i=>Q113.l0 k l c i) (p:=fun x=>!Vt c x) hl (fun k i=>by
  show Q113.l0 (k+1) l c i=_
  rw [Q113.l0,Zla,Option.bind_some]) l.length 0 k (by omega) hk
 unfold Q106.f Q113.f
 rw [show Q113.l0 k l (c.1,c.2.1,c.2.2.1,c.2.2.2.1,c.2.2.2.2.1,c.2.2.2.2.2.1,c.2.2.2.2.2.2.1,c.2.2.2.2.2.2.2) 0=_ from h1,Option.bind_some,h2,List.drop_zero]
 exact congrArg some (by rw [List.all_eq_not_any_not,Bool.not_not])
theorem Zg2 {c:Cfg} {s:Sp} {l:List Msg} (hl:l.length≤100000) {k:Nat} (hk:l.length<k):Q102.f k l c s=some (!l.all (Zbf c s)):=by
 obtain ⟨r,h1,h2⟩:=Ui (l:=l) (F:=fun k i=>Q109.l0 k l c s i) (p:=fun x=>!Zbf c s x) hl (fun k i=>by
  show Q109.l0 (k+1) l c s i=_
  rw [Q109.l0,Zlr,Option.bind_some]) l.length 0 k (by omega) hk
 unfold Q102.f Q109.f
 rw [show Q109.l0 k l (c.1,c.2.1,c.2.2.1,c.2.2.2.1,c.2.2.2.2.1,c.2.2.2.2.2.1,c.2.2.2.2.2.2.1,c.2.2.2.2.2.2.2) (s.1,s.2.1,s.2.2) 0=_ from h1,Option.bind_some,h2,List.drop_zero]
 exact congrArg some (by rw [List.all_eq_not_any_not,Bool.not_not])
theorem Zn0 {α:Type} [DecidableEq α] (l:List α):decide (0<(l.length:Int))=!decide (l=[]):=by cases l <;> simp
theorem Zhk {c:Cfg} {s:Sp} {n:Nd} (h1:n.2.1.length≤10000) (h2:n.2.2.1.length≤10000) (h3:n.2.2.2.1.length≤10000) (h4:n.2.2.2.2.length≤10000) {k:Nat} (hk:10000<k):Q77.f k c s n=some (Zep c s n):=by
 unfold Q77.f Zep
 rw [show Q103.f k n.2.2.2.2 (c.1,c.2.1,c.2.2.1,c.2.2.2.1,c.2.2.2.2.1,c.2.2.2.2.2.1,c.2.2.2.2.2.2.1,c.2.2.2.2.2.2.2) (s.1,s.2.1,s.2.2)=_ from Zha (c:=c) (s:=s) (by omega) (by omega),Zhi (by omega) (by omega),Option.bind_some,Option.bind_some,
  wn (x:=(n.2.1.length:Int)+(n.2.2.1.length:Int)) (n:=n.2.1.length+n.2.2.1.length) (by omega) (by omega),wn (x:=((n.2.1.length+n.2.2.1.length:Nat):Int)+(n.2.2.2.1.length:Int)) (n:=n.2.1.length+n.2.2.1.length+n.2.2.2.1.length) (by omega) (by omega)]
 by_cases e1:n.2.1=[]
 ·by_cases e2:n.2.2.1=[]
  ·by_cases e3:n.2.2.2.1=[]
   ·by_cases e4:c.2.2.2.2.2.1<(n.2.2.2.2.length:Int)
    ·rw [if_neg (by simp [e1,e2,e3]),if_pos (decide_eq_true e4),decide_eq_false (show ¬ (n.2.2.2.2.length:Int)≤c.2.2.2.2.2.1 by omega)]
     simp
    ·rw [if_neg (by simp [e1,e2,e3]),if_neg (by simpa using e4),decide_eq_true (show (n.2.2.2.2.length:Int)≤c.2.2.2.2.2.1 by omega),decide_eq_true e1,decide_eq_true e2,decide_eq_true e3]
     cases Zaq n.2.2.2.2 <;> cases n.2.2.2.2.all (prB c s) <;> rfl
   ·have:=List.length_pos_iff.2 e3
    rw [if_pos (decide_eq_true (by omega)),decide_eq_false e3]
    simp
  ·have:=List.length_pos_iff.2 e2
   rw [if_pos (decide_eq_true (by omega)),decide_eq_false e2]
   simp
 ·have:=List.length_pos_iff.2 e1
  rw [if_pos (decide_eq_true (by omega)),decide_eq_false e1]
  simp
theorem Zhj {c:Cfg} {s:Sp} {n:Nd} (h1:n.2.1.length≤80) (h2:n.2.2.1.length≤80) (h3:n.2.2.2.1.length≤10000) (h4:n.2.2.2.2.length≤10000) (hl:∀ x∈n.2.1,0≤x∧x<4294967296):Ev (fun k=>Q73.f k c s n) (Ze1 c s n):=by
 have hk:=Znd (c:=c) h1 hl
 have hbig:Ev (fun k=>if 10000<k then some () else none) ():=⟨10001,fun k hk=>if_pos (by omega)⟩
 refine hk.next2 hbig fun k k1 k2=>?_
 have k2:10000<k:=by
  by_cases z:10000<k
  ·exact z
  ·rw [if_neg z] at k2; cases k2
 unfold Q73.f Ze1 Zgv Zg9
 rw [show Q76.f k (c.1,c.2.1,c.2.2.1,c.2.2.2.1,c.2.2.2.2.1,c.2.2.2.2.2.1,c.2.2.2.2.2.2.1,c.2.2.2.2.2.2.2) n.2.1=_ from k1,show Q102.f k n.2.2.2.1 (c.1,c.2.1,c.2.2.1,c.2.2.2.1,c.2.2.2.2.1,c.2.2.2.2.2.1,c.2.2.2.2.2.2.1,c.2.2.2.2.2.2.2) (s.1,s.2.1,s.2.2)=_ from Zg2 (c:=c) (s:=s) (by omega) (by omega),
  show Q106.f k n.2.2.1 (c.1,c.2.1,c.2.2.1,c.2.2.2.1,c.2.2.2.2.1,c.2.2.2.2.2.1,c.2.2.2.2.2.2.1,c.2.2.2.2.2.2.2)=_ from Zhp (c:=c) (by omega) (by omega),show Q60.f k n.2.2.1 (s.1,s.2.1,s.2.2)=_ from Zh9 s h2 (by omega),Zht (by omega) (by omega)]
 simp only [Option.bind_some,Zas]
 have y1:decide (40<n.1)=!decide (n.1≤40):=by by_cases q:n.1≤40 <;> simp [q] <;> omega
 have y3:decide (c.2.2.2.2.1<(n.2.2.2.1.length:Int))=!decide ((n.2.2.2.1.length:Int)≤c.2.2.2.2.1):=by by_cases q:(n.2.2.2.1.length:Int)≤c.2.2.2.2.1 <;> simp [q] <;> omega
 have y4:(1≤n.2.1.length)→decide ((n.2.2.1.length:Int)=w64 ((n.2.1.length:Int) - 1))=decide (n.2.2.1.length+1=n.2.1.length):=fun z=>by
  rw [wn (x:=(n.2.1.length:Int) - 1) (n:=n.2.1.length - 1) (by omega) (by omega)]
  congr 1
  exact propext (by omega)
 rw [y1,y3,Zn0]
 by_cases z:1≤n.2.1.length
 ·rw [y4 z,decide_eq_true z]
  cases decide (n.1≤40) <;> cases decide (n.2.2.2.2=[]) <;> cases decide ((n.2.1.length:Int)≤c.2.2.2.1) <;> cases (List.range' 0 n.2.1.length).all (Gx c n.2.1) <;> cases decide (n.2.2.1.length+1=n.2.1.length) <;> cases (n.2.2.1.all (piv s) && J3 n.2.2.1) <;> cases n.2.2.1.all (Vt c) <;> cases decide ((n.2.2.2.1.length:Int)≤c.2.2.2.2.1) <;> cases Zam n.2.2.2.1 <;> cases n.2.2.2.1.all (Zbf c s) <;> rfl
 ·rw [decide_eq_false z]
  cases decide (n.1≤40) <;> cases decide (n.2.2.2.2=[]) <;> simp
def Vm (c:Cfg) (s:Sp) (n:Nd):Bool:=if n.1=0 then Zep c s n else decide (0<n.1) && Ze1 c s n
theorem Zhe {c:Cfg} {s:Sp} {n:Nd} (h1:n.2.1.length≤80) (h2:n.2.2.1.length≤80) (h3:n.2.2.2.1.length≤10000) (h4:n.2.2.2.2.length≤10000) (hl:∀ x∈n.2.1,0≤x∧x<4294967296):Ev (fun k=>Q72.f k c s n) (Vm c s n):=by
 have hbig:Ev (fun k=>if 10000<k then some () else none) ():=⟨10001,fun k hk=>if_pos (by omega)⟩
 refine (Zhj (c:=c) (s:=s) h1 h2 h3 h4 hl).next2 hbig fun k k1 k2=>?_
 have k2:10000<k:=by
  by_cases z:10000<k
  ·exact z
  ·rw [if_neg z] at k2; cases k2
 unfold Q72.f Vm
 rw [show Q73.f k (c.1,c.2.1,c.2.2.1,c.2.2.2.1,c.2.2.2.2.1,c.2.2.2.2.2.1,c.2.2.2.2.2.2.1,c.2.2.2.2.2.2.2) (s.1,s.2.1,s.2.2) (n.1,n.2.1,n.2.2.1,n.2.2.2.1,n.2.2.2.2)=_ from k1,
  show Q77.f k (c.1,c.2.1,c.2.2.1,c.2.2.2.1,c.2.2.2.2.1,c.2.2.2.2.2.1,c.2.2.2.2.2.2.1,c.2.2.2.2.2.2.2) (s.1,s.2.1,s.2.2) (n.1,n.2.1,n.2.2.1,n.2.2.2.1,n.2.2.2.2)=_ from Zhk (c:=c) (s:=s) (by omega) (by omega) h3 h4 k2,Option.bind_some,Option.bind_some]
 by_cases c1:n.1<0
 ·rw [if_pos (decide_eq_true c1),if_neg (by omega),decide_eq_false (show ¬ 0<n.1 by omega)]; rfl
 ·rw [if_neg (by simpa using c1)]
  by_cases c2:n.1=0
  ·rw [if_pos (decide_eq_true c2),if_pos c2]
  ·rw [if_neg (by simpa using c2),if_neg c2,decide_eq_true (show 0<n.1 by omega)]; rfl
def be:Nat→Nat→List UInt8
 | 0,_=>[]
 | w+1,v=>UInt8.ofNat (v / 256 ^ w) :: be w v
theorem Xk:∀ w v,(be w v).length=w
 | 0,_=>rfl
 | w+1,v=>by rw [be,List.length_cons,Xk w v]
def rdv (l:TS):Nat:=l.foldl (fun a c=>a*256+c.toNat) 0
theorem Zbs:∀(l:TS) (a:Nat),l.foldl (fun a c=>a*256+c.toNat) a=a*256 ^ l.length+rdv l
 | [],a=>by simp [rdv]
 | c :: l,a=>by
  unfold rdv
  rw [List.foldl_cons,List.foldl_cons,Zbs l,Zbs l (0*256+c.toNat),List.length_cons,Nat.pow_succ,Nat.add_mul,Nat.zero_mul,Nat.zero_add]
  rw [Nat.mul_assoc,Nat.mul_comm 256,Nat.add_assoc]
theorem Zkc (c:UInt8) (l:TS):rdv (c :: l)=c.toNat*256 ^ l.length+rdv l:=by
 unfold rdv
 rw [List.foldl_cons,Zbs,Nat.zero_mul,Nat.zero_add]; rfl
theorem Ze3:∀ l:List UInt8,rdv l<256 ^ l.length
 | []=>by simp [rdv]
 | c :: l=>by
  have h1:=Ze3 l
  have h2:c.toNat<256:=c.toNat_lt
  rw [Zkc,List.length_cons,Nat.pow_succ]
  have:c.toNat*256 ^ l.length≤255*256 ^ l.length:=Nat.mul_le_mul_right _ (by omega)
  omega
def zs (n:Nat):List UInt8:=List.replicate n 0
theorem Jh (n:Nat):(zs n).length=n:=List.length_replicate
theorem Zcc (a b:Nat):zs a ++ zs b=zs (a+b):=by unfold zs; rw [List.replicate_append_replicate]
def slt (s:TS) (n:Nat):List UInt8:=s ++ zs (n - s.length)
theorem Gh {s:TS} {n:Nat} (h:s.length≤n):(slt s n).length=n:=by unfold slt; rw [List.length_append,Jh]; omega
def prS (K V:Nat) (p:TF):List UInt8:=be 1 p.1.length ++ (be 2 p.2.length ++ (slt p.1 K ++ slt p.2 V))
theorem Gf {K V:Nat} {p:TF} (h1:p.1.length≤K) (h2:p.2.length≤V):(prS K V p).length=3+K+V:=by
 unfold prS
 rw [List.length_append,List.length_append,List.length_append,Xk,Xk,Gh h1,Gh h2]; omega
def msS (K V:Nat) (m:TB):List UInt8:=(if m.2.1=true then 2 else 1) :: prS K V (m.1,m.2.2)
theorem Zk0 {K V:Nat} {m:TB} (h1:m.1.length≤K) (h2:m.2.2.length≤V):(msS K V m).length=4+K+V:=by
 unfold msS
 rw [List.length_cons,Gf h1 h2]; omega
def pvS (K:Nat) (p:TS):List UInt8:=be 1 p.length ++ slt p K
theorem Zco {K:Nat} {p:TS} (h1:p.length≤K):(pvS K p).length=1+K:=by
 unfold pvS
 rw [List.length_append,Xk,Gh h1]
def cat {α:Type} (f:α→List UInt8) (l:List α):List UInt8:=l.flatMap f
theorem Ge {α:Type} {f:α→List UInt8} {n:Nat}:∀ {l:List α},(∀ x∈l,(f x).length=n)→(cat f l).length=l.length*n
 | [],_=>by simp [cat]
 | x :: l,h=>by
  have:=Ge (l:=l) fun y hy=>h y (by simp [hy])
  unfold cat at this ⊢
  rw [List.flatMap_cons,List.length_append,this,h x (by simp),List.length_cons,Nat.add_mul]; omega
def kdS (x:Int):List UInt8:=be 4 x.toNat
def cBy (c:Cfg):Nat:=c.2.1.toNat
def cFa (c:Cfg):Nat:=c.2.2.2.1.toNat
def cBu (c:Cfg):Nat:=c.2.2.2.2.1.toNat
def cLe (c:Cfg):Nat:=c.2.2.2.2.2.1.toNat
def cK (c:Cfg):Nat:=c.2.2.2.2.2.2.1.toNat
def cV (c:Cfg):Nat:=c.2.2.2.2.2.2.2.toNat
def hdO (n:Nd):List UInt8:=1 :: 0 :: (be 2 n.2.2.2.2.length ++ zs 4)
def hdI (n:Nd):List UInt8:=2 :: (be 1 n.1.toNat ++ (be 2 n.2.1.length ++ (be 2 n.2.2.2.1.length ++ zs 2)))
theorem Zgj (n:Nd):(hdO n).length=8:=by simp [hdO,Xk,Jh]
theorem Zf6 (n:Nd):(hdI n).length=8:=by simp [hdI,Xk,Jh]
def bdO (c:Cfg) (n:Nd):List UInt8:=cat (prS (cK c) (cV c)) n.2.2.2.2
def bdI (c:Cfg) (n:Nd):List UInt8:=cat kdS n.2.1 ++ (zs (4*(cFa c - n.2.1.length)) ++ (cat (pvS (cK c)) n.2.2.1 ++ (zs ((1+cK c)*(cFa c - 1 - n.2.2.1.length)) ++ cat (msS (cK c) (cV c)) n.2.2.2.1)))
def Bm (c:Cfg) (n:Nd):List UInt8:=if n.1=0 then hdO n ++ bdO c n else hdI n ++ bdI c n
def Uw (c:Cfg) (n:Nd):List UInt8:=slt (Bm c n) (cBy c)
structure FitN (c:Cfg) (n:Nd):Prop where
 lv:0≤n.1∧n.1≤40
 kd:∀ x∈n.2.1,0≤x∧x<4294967296
 o:n.1=0→n.2.1=[]∧n.2.2.1=[]∧n.2.2.2.1=[]∧n.2.2.2.2.length≤cLe c
 i:n.1≠0→n.2.2.2.2=[]∧1≤n.2.1.length∧n.2.1.length≤cFa c∧n.2.2.1.length+1=n.2.1.length∧n.2.2.2.1.length≤cBu c
 pk:∀ p∈n.2.2.1,p.length≤cK c
 ms:∀ m∈n.2.2.2.1,m.1.length≤cK c∧m.2.2.length≤cV c
 rk:∀ p∈n.2.2.2.2,p.1.length≤cK c∧p.2.length≤cV c
theorem OkC.nat {c:Cfg} (h:OkC c):8≤cFa c∧cFa c≤64∧1≤cK c∧cK c≤64∧cV c≤256∧16≤cBu c∧cBu c≤512∧cBu c≤cLe c∧cLe c≤1024:=by
 have h1:=h.fan
 have h2:=h.key
 have h3:=h.val
 have h4:=h.buf
 have h5:=h.leaf
 unfold cFa cK cV cBu cLe
 omega
theorem Zlj {c:Cfg} {n:Nd} (h:FitN c n):(bdO c n).length=n.2.2.2.2.length*(3+cK c+cV c):=Ge fun p hp=>Gf (h.rk p hp).1 (h.rk p hp).2
theorem Zjj (l:TX):(cat kdS l).length=l.length*4:=Ge fun p hp=>Xk 4 _
theorem Zjz {c:Cfg} {n:Nd} (h:FitN c n):(cat (pvS (cK c)) n.2.2.1).length=n.2.2.1.length*(1+cK c):=Ge fun p hp=>Zco (h.pk p hp)
theorem Zjl {c:Cfg} {n:Nd} (h:FitN c n):(cat (msS (cK c) (cV c)) n.2.2.2.1).length=n.2.2.2.1.length*(4+cK c+cV c):=Ge fun p hp=>Zk0 (h.ms p hp).1 (h.ms p hp).2
theorem Zlc {c:Cfg} {n:Nd} (h:FitN c n) (h0:n.1≠0):(bdI c n).length=4*cFa c+(1+cK c)*(cFa c - 1)+n.2.2.2.1.length*(4+cK c+cV c):=by
 obtain ⟨_,i2,i3,i4,_⟩:=h.i h0
 unfold bdI
 rw [List.length_append,List.length_append,List.length_append,List.length_append,Zjj,Jh,Zjz h,Jh,Zjl h,Nat.mul_comm n.2.2.1.length]
 have e:(1+cK c)*n.2.2.1.length+(1+cK c)*(cFa c - 1 - n.2.2.1.length)=(1+cK c)*(cFa c - 1):=by rw [← Nat.mul_add]; congr 1; omega
 omega
def szB (c:Cfg):Bool:=decide (8≤c.2.2.2.1∧c.2.2.2.1≤64) && (decide (1≤c.2.2.2.2.2.2.1∧c.2.2.2.2.2.2.1≤64) && (decide (0≤c.2.2.2.2.2.2.2∧c.2.2.2.2.2.2.2≤256) && (decide (2*c.2.2.2.1≤c.2.2.2.2.1∧c.2.2.2.2.1≤512) && decide (c.2.2.2.2.1≤c.2.2.2.2.2.1∧c.2.2.2.2.2.1≤1024))))
theorem Gl {c:Cfg} (h:szB c=true):OkC c:=by
 simp only [szB,Bool.and_eq_true,decide_eq_true_eq] at h
 exact ⟨h.1,h.2.1,h.2.2.1,by omega,h.2.2.2.2⟩
def U1 (c:Cfg):Int:=8+(4+(c.2.2.2.1 - 1)*(5+c.2.2.2.2.2.2.1)+c.2.2.2.2.1*(4+c.2.2.2.2.2.2.1+c.2.2.2.2.2.2.2))
def Ji (c:Cfg):Int:=8+c.2.2.2.2.2.1*(3+c.2.2.2.2.2.2.1+c.2.2.2.2.2.2.2)
def okB (c:Cfg):Bool:=szB c && (decide (5≤c.1∧c.1≤65536) && (decide (8≤c.2.2.1∧c.2.2.1≤64) && (decide (64≤c.2.1∧c.2.1≤65536) && (decide (U1 c≤c.2.1) && decide (Ji c≤c.2.1)))))
theorem Zi4 (a b c:Int):Q147.f a b c=some (decide (b≤a∧a≤c)):=by
 unfold Q147.f
 by_cases h:b≤a <;> simp [h]
theorem Bw (c:Cfg):Q146.f c=some (szB c):=by
 unfold Q146.f szB
 simp only [Zi4,Option.bind_some]
 by_cases h1:8≤c.2.2.2.1∧c.2.2.2.1≤64
 ·have w:w64 (2*c.2.2.2.1)=2*c.2.2.2.1:=Z3 (by omega) (by omega)
  rw [w,decide_eq_true h1]
  cases decide (1≤c.2.2.2.2.2.2.1∧c.2.2.2.2.2.2.1≤64) <;> cases decide (0≤c.2.2.2.2.2.2.2∧c.2.2.2.2.2.2.2≤256) <;> cases decide (2*c.2.2.2.1≤c.2.2.2.2.1∧c.2.2.2.2.1≤512) <;> rfl
 ·rw [decide_eq_false h1]; rfl
theorem Zgo {c:Cfg} (hc:OkC c):∀(m i k:Nat) (x:Int),c.2.2.2.2.1=(i:Int)+m→m<k→0≤x→x+m*324≤1000000000→Q143.l1 k c x (i:Int)=some (x+m*(4+c.2.2.2.2.2.2.1+c.2.2.2.2.2.2.2))
 | 0,i,k+1,x,h,_,_,_=>by
  rw [Q143.l1,if_neg (by simp only [decide_eq_true_eq]; omega)]; simp
 | m+1,i,k+1,x,h,hk,h0,h1=>by
  have a1:=hc.key
  have a2:=hc.val
  have hb:=hc.buf
  rw [Q143.l1,if_pos (decide_eq_true (by omega)),Z3 (x:=x+4) (by omega) (by omega),Z3 (x:=x+4+c.2.2.2.2.2.2.1) (by omega) (by omega),Z3 (x:=x+4+c.2.2.2.2.2.2.1+c.2.2.2.2.2.2.2) (by omega) (by omega),Y8 (by omega),Zgo hc m (i+1) k _ (by omega) (by omega) (by omega) (by omega)]
  congr 1
  rw [show ((m+1:Nat):Int)=(m:Int)+1 by omega,Int.add_mul]; omega
theorem Zf7 {c:Cfg} (hc:OkC c):∀(m i k:Nat) (x:Int),1≤i→c.2.2.2.1=(i:Int)+m→m+600<k→0≤x→x+m*69≤100000→Q143.l0 k c x (i:Int)=some (x+m*(5+c.2.2.2.2.2.2.1)+c.2.2.2.2.1*(4+c.2.2.2.2.2.2.1+c.2.2.2.2.2.2.2))
 | 0,i,k+1,x,h2,h,hk,h0,h1=>by
  have hb:=hc.buf
  obtain ⟨B,hB⟩:=Int.eq_ofNat_of_zero_le (show 0≤c.2.2.2.2.1 by omega)
  rw [Q143.l0,if_neg (by simp only [decide_eq_true_eq]; omega),show Q143.l1 k c x 0=_ from Zgo hc B 0 k x (by rw [hB]; simp) (by omega) h0 (by omega),hB]; simp
 | m+1,i,k+1,x,h2,h,hk,h0,h1=>by
  have a1:=hc.key
  have hb:=hc.fan
  rw [Q143.l0,if_pos (decide_eq_true (by omega)),if_pos (decide_eq_true (by omega)),Z3 (x:=x+4) (by omega) (by omega),Z3 (x:=x+4+1) (by omega) (by omega),Z3 (x:=x+4+1+c.2.2.2.2.2.2.1) (by omega) (by omega),Y8 (by omega),Zf7 hc m (i+1) k _ (by omega) (by omega) (by omega) (by omega) (by omega)]
  congr 1
  rw [show ((m+1:Nat):Int)=(m:Int)+1 by omega,Int.add_mul]; omega
theorem Zk3 {c:Cfg} (h:szB c=true) {k:Nat} (hk:1000<k):Q143.f k c=some (U1 c):=by
 have hc:=Gl h
 have hf:=hc.fan
 obtain ⟨F,hF⟩:=Int.eq_ofNat_of_zero_le (show 0≤c.2.2.2.1 by omega)
 obtain ⟨k,rfl⟩:∃ q,k=q+1:=⟨k - 1,by omega⟩
 unfold Q143.f
 rw [show Q146.f (c.1,c.2.1,c.2.2.1,c.2.2.2.1,c.2.2.2.2.1,c.2.2.2.2.2.1,c.2.2.2.2.2.2.1,c.2.2.2.2.2.2.2)=_ from Bw c,h,Option.bind_some,if_neg (by simp),Q143.l0,if_pos (decide_eq_true (by omega)),if_neg (by simp),show w64 (8+4)=12 from rfl,show w64 (0+1)=((1:Nat):Int) from rfl,Zf7 hc (F - 1) 1 k 12 (Nat.le_refl _) (by omega) (by omega) (by omega) (by omega),show ((F - 1:Nat):Int)=c.2.2.2.1 - 1 by omega]
 unfold U1
 congr 1; omega
theorem Zf5 {c:Cfg} (hc:OkC c):∀(m i k:Nat) (x:Int),c.2.2.2.2.2.1=(i:Int)+m→m<k→0≤x→x+m*324≤1000000000→Q144.l0 k c x (i:Int)=some (x+m*(3+c.2.2.2.2.2.2.1+c.2.2.2.2.2.2.2))
 | 0,i,k+1,x,h,_,_,_=>by
  rw [Q144.l0,if_neg (by simp only [decide_eq_true_eq]; omega)]; simp
 | m+1,i,k+1,x,h,hk,h0,h1=>by
  have a1:=hc.key
  have a2:=hc.val
  have hb:=hc.leaf
  rw [Q144.l0,if_pos (decide_eq_true (by omega)),Z3 (x:=x+3) (by omega) (by omega),Z3 (x:=x+3+c.2.2.2.2.2.2.1) (by omega) (by omega),Z3 (x:=x+3+c.2.2.2.2.2.2.1+c.2.2.2.2.2.2.2) (by omega) (by omega),Y8 (by omega),Zf5 hc m (i+1) k _ (by omega) (by omega) (by omega) (by omega)]
  congr 1
  rw [show ((m+1:Nat):Int)=(m:Int)+1 by omega,Int.add_mul]; omega
theorem Zlq {c:Cfg} (h:szB c=true) {k:Nat} (hk:2000<k):Q144.f k c=some (Ji c):=by
 have hc:=Gl h
 have hf:=hc.leaf
 have hb:=hc.buf
 obtain ⟨L,hL⟩:=Int.eq_ofNat_of_zero_le (show 0≤c.2.2.2.2.2.1 by omega)
 unfold Q144.f
 rw [show Q146.f (c.1,c.2.1,c.2.2.1,c.2.2.2.1,c.2.2.2.2.1,c.2.2.2.2.2.1,c.2.2.2.2.2.2.1,c.2.2.2.2.2.2.2)=_ from Bw c,h,Option.bind_some,if_neg (by simp),show Q144.l0 k c 8 0=_ from Zf5 hc L 0 k 8 (by omega) (by omega) (by omega) (by omega),← hL]
 rfl
theorem Ziw (c:Cfg) {k:Nat} (hk:2000<k):Q145.f k c=some (okB c):=by
 unfold Q145.f okB
 rw [show Q146.f (c.1,c.2.1,c.2.2.1,c.2.2.2.1,c.2.2.2.2.1,c.2.2.2.2.2.1,c.2.2.2.2.2.2.1,c.2.2.2.2.2.2.2)=_ from Bw c,Option.bind_some]
 cases h:szB c with
 | false=>rfl
 | true=>
  rw [if_pos rfl,show Q143.f k (c.1,c.2.1,c.2.2.1,c.2.2.2.1,c.2.2.2.2.1,c.2.2.2.2.2.1,c.2.2.2.2.2.2.1,c.2.2.2.2.2.2.2)=_ from Zk3 h (by omega),show Q144.f k (c.1,c.2.1,c.2.2.1,c.2.2.2.1,c.2.2.2.2.1,c.2.2.2.2.2.1,c.2.2.2.2.2.2.1,c.2.2.2.2.2.2.2)=_ from Zlq h hk]
  simp only [Zi4,Option.bind_some]
  cases decide (5≤c.1∧c.1≤65536) <;> cases decide (8≤c.2.2.1∧c.2.2.1≤64) <;> cases decide (64≤c.2.1∧c.2.1≤65536) <;> cases decide (U1 c≤c.2.1) <;> rfl
abbrev Bx:Sp:=([],[],true)
theorem Zca (c:Cfg):Q53.f c=some (szB c):=by
 unfold Q53.f szB
 by_cases h1:8≤c.2.2.2.1∧c.2.2.2.1≤64
 ·have w:w64 (2*c.2.2.2.1)=2*c.2.2.2.1:=Z3 (by omega) (by omega)
  rw [w,if_neg (by simp only [decide_eq_true_eq]; omega),if_neg (by simp only [decide_eq_true_eq]; omega),decide_eq_true h1]
  by_cases h2:1≤c.2.2.2.2.2.2.1∧c.2.2.2.2.2.2.1≤64
  ·by_cases h3:0≤c.2.2.2.2.2.2.2∧c.2.2.2.2.2.2.2≤256
   ·by_cases h4:2*c.2.2.2.1≤c.2.2.2.2.1∧c.2.2.2.2.1≤512
    ·by_cases h5:c.2.2.2.2.1≤c.2.2.2.2.2.1∧c.2.2.2.2.2.1≤1024
     ·rw [if_neg (by simp only [decide_eq_true_eq]; omega),if_neg (by simp only [decide_eq_true_eq]; omega),if_neg (by simp only [decide_eq_true_eq]; omega),if_neg (by simp only [decide_eq_true_eq]; omega),if_neg (by simp only [decide_eq_true_eq]; omega),if_neg (by simp only [decide_eq_true_eq]; omega),if_neg (by simp only [decide_eq_true_eq]; omega),if_neg (by simp only [decide_eq_true_eq]; omega),decide_eq_true h2,decide_eq_true h3,decide_eq_true h4,decide_eq_true h5]
      rfl
     ·rw [if_neg (by simp only [decide_eq_true_eq]; omega),if_neg (by simp only [decide_eq_true_eq]; omega),decide_eq_false h5]
      simp only [Bool.and_false]
      by_cases q:c.2.2.2.2.2.1<c.2.2.2.2.1
      ·rw [if_pos (decide_eq_true q)]
      ·rw [if_neg (by simpa using q),if_pos (decide_eq_true (by omega))]
    ·rw [decide_eq_false h4]
     simp only [Bool.false_and,Bool.and_false]
     by_cases q:c.2.2.2.2.1<2*c.2.2.2.1
     ·rw [if_pos (decide_eq_true q)]
     ·rw [if_neg (by simpa using q),if_pos (decide_eq_true (by omega))]
   ·rw [decide_eq_false h3]
    simp only [Bool.false_and,Bool.and_false]
    repeat' split
    all_goals first | rfl | (simp only [decide_eq_true_eq] at *; omega)
  ·rw [decide_eq_false h2]
   simp only [Bool.false_and,Bool.and_false]
   repeat' split
   all_goals first | rfl | (simp only [decide_eq_true_eq] at *; omega)
 ·rw [decide_eq_false h1]
  simp only [Bool.false_and]
  by_cases q:c.2.2.2.1<8
  ·rw [if_pos (decide_eq_true q)]
  ·rw [if_neg (by simpa using q),if_pos (decide_eq_true (by omega))]
theorem Jc (c:Cfg):(c.1,c.2.1,c.2.2.1,c.2.2.2.1,c.2.2.2.2.1,c.2.2.2.2.2.1,c.2.2.2.2.2.2.1,c.2.2.2.2.2.2.2)=c:=rfl
theorem Znw (n:Nd):(n.1,n.2.1,n.2.2.1,n.2.2.2.1,n.2.2.2.2)=n:=rfl
theorem Zny {c:Cfg} (h:szB c=true):Q50.f c=some (U1 c)∧8≤U1 c∧U1 c≤200000:=by
 have hc:=Gl h
 have a1:=hc.fan
 have a2:=hc.key
 have a3:=hc.val
 have a4:=hc.buf
 have p0:0≤(c.2.2.2.1 - 1)*(1+c.2.2.2.2.2.2.1):=Int.mul_nonneg (by omega) (by omega)
 have p1:(c.2.2.2.1 - 1)*(1+c.2.2.2.2.2.2.1)≤63*65:=Int.mul_le_mul (by omega) (by omega) (by omega) (by omega)
 have q0:0≤c.2.2.2.2.1*(4+c.2.2.2.2.2.2.1+c.2.2.2.2.2.2.2):=Int.mul_nonneg (by omega) (by omega)
 have q1:c.2.2.2.2.1*(4+c.2.2.2.2.2.2.1+c.2.2.2.2.2.2.2)≤512*324:=Int.mul_le_mul (by omega) (by omega) (by omega) (by omega)
 have e:U1 c=8+4*c.2.2.2.1+(c.2.2.2.1 - 1)*(1+c.2.2.2.2.2.2.1)+c.2.2.2.2.1*(4+c.2.2.2.2.2.2.1+c.2.2.2.2.2.2.2):=by
  unfold U1
  rw [show 5+c.2.2.2.2.2.2.1=4+(1+c.2.2.2.2.2.2.1) by omega,Int.mul_add]; omega
 refine ⟨?_,by omega,by omega⟩
 unfold Q50.f
 (try rw [Jc]); rw [Zca,h,Option.bind_some,if_neg (by simp),Z3 (x:=4*c.2.2.2.1) (by omega) (by omega),Z3 (x:=8+4*c.2.2.2.1) (by omega) (by omega),Z3 (x:=c.2.2.2.1 - 1) (by omega) (by omega),Z3 (x:=1+c.2.2.2.2.2.2.1) (by omega) (by omega),Z3 (x:=4+c.2.2.2.2.2.2.1) (by omega) (by omega),Z3 (x:=4+c.2.2.2.2.2.2.1+c.2.2.2.2.2.2.2) (by omega) (by omega),
  Z3 (x:=(c.2.2.2.1 - 1)*(1+c.2.2.2.2.2.2.1)) (by omega) (by omega),Z3 (x:=c.2.2.2.2.1*(4+c.2.2.2.2.2.2.1+c.2.2.2.2.2.2.2)) (by omega) (by omega),Z3 (x:=8+4*c.2.2.2.1+(c.2.2.2.1 - 1)*(1+c.2.2.2.2.2.2.1)) (by omega) (by omega),Z3 (by omega) (by omega),e]
theorem Zn2 {c:Cfg} (h:szB c=true):Q52.f c=some (Ji c)∧8≤Ji c∧Ji c≤400000:=by
 have hc:=Gl h
 have a2:=hc.key
 have a3:=hc.val
 have a4:=hc.buf
 have a5:=hc.leaf
 have q0:0≤c.2.2.2.2.2.1*(3+c.2.2.2.2.2.2.1+c.2.2.2.2.2.2.2):=Int.mul_nonneg (by omega) (by omega)
 have q1:c.2.2.2.2.2.1*(3+c.2.2.2.2.2.2.1+c.2.2.2.2.2.2.2)≤1024*323:=Int.mul_le_mul (by omega) (by omega) (by omega) (by omega)
 refine ⟨?_,by unfold Ji; omega,by unfold Ji; omega⟩
 unfold Q52.f Ji
 (try rw [Jc]); rw [Zca,h,Option.bind_some,if_neg (by simp),Z3 (x:=3+c.2.2.2.2.2.2.1) (by omega) (by omega),Z3 (x:=3+c.2.2.2.2.2.2.1+c.2.2.2.2.2.2.2) (by omega) (by omega),Z3 (x:=c.2.2.2.2.2.1*(3+c.2.2.2.2.2.2.1+c.2.2.2.2.2.2.2)) (by omega) (by omega),Z3 (by omega) (by omega)]
theorem Zb9 (c:Cfg):Q49.f c=some (if okB c=true then 0 else 2):=by
 unfold Q49.f okB
 (try rw [Jc]); rw [Zca,Option.bind_some]
 cases h:szB c with
 | false=>rfl
 | true=>
  obtain ⟨i1,i2,i3⟩:=Zny h
  obtain ⟨o1,o2,o3⟩:=Zn2 h
  rw [if_pos rfl]
  by_cases a1:5≤c.1∧c.1≤65536
  ·rw [if_pos (decide_eq_true a1.1),if_pos (decide_eq_true a1.2),decide_eq_true a1]
   by_cases a2:8≤c.2.2.1∧c.2.2.1≤64
   ·rw [if_pos (decide_eq_true a2.1),if_neg (by simp [a2.2]),decide_eq_true a2]
    by_cases a3:65536<c.2.1
    ·rw [if_pos (decide_eq_true a3),decide_eq_false (show ¬ (64≤c.2.1∧c.2.1≤65536) by omega)]; rfl
    ·rw [if_neg (by simpa using a3)]
     unfold Q51.f
     (try rw [Jc]); rw [Zca,h,Option.bind_some,if_pos rfl,i1,o1,Option.bind_some,Option.bind_some,Option.bind_some]
     dsimp only
     generalize U1 c=I at *
     generalize Ji c=O at *
     by_cases b1:c.2.1<64
     ·rw [if_pos (decide_eq_true (by split <;> split <;> omega)),decide_eq_false (show ¬ (64≤c.2.1∧c.2.1≤65536) by omega)]; rfl
     ·rw [decide_eq_true (show 64≤c.2.1∧c.2.1≤65536 by omega)]
      by_cases b2:I≤c.2.1
      ·rw [decide_eq_true b2]
       by_cases b3:O≤c.2.1
       ·rw [decide_eq_true b3,if_neg (by simp only [decide_eq_true_eq]; split <;> split <;> omega)]; rfl
       ·rw [decide_eq_false b3,if_pos (decide_eq_true (by split <;> split <;> omega))]; rfl
      ·rw [decide_eq_false b2,if_pos (decide_eq_true (by split <;> split <;> omega))]; rfl
   ·rw [decide_eq_false a2]
    by_cases q:8≤c.2.2.1
    ·rw [if_pos (decide_eq_true q),if_pos (by simp; omega)]; rfl
    ·rw [if_neg (by simpa using q)]; rfl
  ·rw [decide_eq_false a1]
   by_cases q:5≤c.1
   ·rw [if_pos (decide_eq_true q),if_neg (by simp only [decide_eq_true_eq]; omega)]; rfl
   ·rw [if_neg (by simpa using q)]; rfl
theorem X0 (a b:TS):toB (a ++ b)=toB a ++ toB b:=by simp [toB]
theorem Yd (a:TS):(toB a).length=a.length:=by simp [toB]
theorem Ze8 (n:Nat):toB (zs n)=List.replicate n 0:=by simp [toB,zs]
theorem Zcx (a:TS):toS (toB a)=a:=by
 unfold toS toB
 rw [List.map_map]
 conv=>rhs; rw [← List.map_id a]
 apply List.map_congr_left
 intro x _
 simp
theorem Znc (n:Nat):IntKind.u64.wrap (n:Int)=((n % 18446744073709551616:Nat):Int):=by
 simp [IntKind.wrap,IntKind.bits,IntKind.signed]
theorem Vc {n:Nat} (h:n<18446744073709551616):IntKind.u64.wrap (n:Int)=(n:Int):=by rw [Znc,Nat.mod_eq_of_lt h]
theorem Znm (v i:Nat) (hi:i<8):IntKind.u8.wrap (Int.fdiv (v:Int) (2 ^ (min (w64 (8*(i:Int))).toNat 64)))=((UInt8.ofNat (v / 256 ^ i)).toNat:Int):=by
 have e1:w64 (8*(i:Int))=((8*i:Nat):Int):=by rw [Z3 (by omega) (by omega)]; omega
 rw [e1,Int.toNat_natCast,show min (8*i) 64=8*i by omega,Int.fdiv_eq_ediv_of_nonneg _ (by exact_mod_cast Nat.zero_le _)]
 have e2:((v:Int) / 2 ^ (8*i))=((v / 256 ^ i:Nat):Int):=by
  rw [show (256:Nat)=2 ^ 8 from rfl,← Nat.pow_mul]
  push_cast
  rfl
 rw [e2]
 simp [IntKind.wrap,IntKind.bits,IntKind.signed]
theorem Zic (v:Nat):∀(i:Nat) (x:TX) (k:Nat),i≤8→i<k→x.length+i≤1000→Q157.l0 k (v:Int) x ((i:Int) - 1)=some (x ++ toB (be i v))
 | 0,x,k+1,_,_,_=>by
  rw [Q157.l0,if_neg (by simp)]
  simp [be,toB]
 | i+1,x,k+1,hi,hk,hx=>by
  have e:((i+1:Nat):Int) - 1=(i:Int):=by omega
  rw [e,Q157.l0,if_pos (decide_eq_true (by omega)),if_pos (by rw [Z3 (by omega) (by omega)]; omega),if_pos (by simp only [List.length_singleton]; omega),Znm v i (by omega),Z3 (x:=(i:Int) - 1) (by omega) (by omega),Zic v i _ k (by omega) (by omega) (by simp; omega)]
  simp [be,toB]
theorem Uh {a:TX} {w v:Nat} (hw:w=1∨w=2∨w=4) (ha:a.length≤10000000) {k:Nat} (hk:10<k):Q41.f k a (w:Int) (v:Int)=some (a ++ toB (be w v)):=by
 have h0:Q157.f k ([]:List Int) (w:Int) (v:Int)=some (toB (be w v)):=by
  unfold Q157.f Q99.f Q166.f
  rw [if_pos (by simp),Option.bind_some]
  have hr:(if (decide ((w:Int)=1))=true then (some true) else (if (decide ((w:Int)=2))=true then (some true) else (if (decide ((w:Int)=4))=true then (some true) else (some (decide ((w:Int)=8))))))=some true:=by
   rcases hw with rfl | rfl | rfl <;> rfl
  rw [hr,Option.bind_some,if_neg (by simp),Z3 (by omega) (by omega)]
  have:=Zic v w ([] ++ []) k (by omega) (by omega) (by simp; omega)
  simpa using this
 unfold Q41.f
 rw [h0,Option.bind_some,if_pos (by rw [Yd,Xk]; omega)]
theorem Zd6 {a:TX} {s:TS} {n:Nat} (ha:a.length≤10000000) (hs:s.length≤n) (hn:n≤100000):Q46.f a s (n:Int)=some (a ++ toB (slt s n)):=by
 have e:w64 ((n:Int) - (s.length:Int))=((n - s.length:Nat):Int):=by rw [Z3 (by omega) (by omega)]; omega
 unfold Q46.f
 rw [if_pos (by omega),e,if_pos (by rw [List.length_append,Yd]; omega),Int.toNat_natCast]
 unfold slt
 rw [X0,Ze8,List.append_assoc]
structure NatC (c:Cfg):Prop where
 f:c.2.2.2.1=(cFa c:Int)
 k:c.2.2.2.2.2.2.1=(cK c:Int)
 v:c.2.2.2.2.2.2.2=(cV c:Int)
 b:c.2.2.2.2.1=(cBu c:Int)
 l:c.2.2.2.2.2.1=(cLe c:Int)
theorem OkC.int {c:Cfg} (h:OkC c):NatC c:=by
 have h1:=h.fan
 have h2:=h.key
 have h3:=h.val
 have h4:=h.buf
 have h5:=h.leaf
 constructor <;> simp only [cFa,cK,cV,cBu,cLe] <;> omega
theorem Zgu {c:Cfg} (hc:OkC c) {a:TX} {x y:TS} (ha:a.length≤9000000) (hx:x.length≤cK c) (hy:y.length≤cV c) {k:Nat} (hk:10<k):Q42.f k c a x y=some (a ++ toB (prS (cK c) (cV c) (x,y))):=by
 obtain ⟨c1,c2,c3,c4,c5,c6,c7,c8,c9⟩:=hc.nat
 unfold Q42.f
 rw [Vc (by omega),Vc (by omega),show Q41.f k a 1 (x.length:Int)=_ from Uh (w:=1) (.inl rfl) (by omega) hk,Option.bind_some,show Q41.f k (a ++ toB (be 1 x.length)) 2 (y.length:Int)=_ from Uh (w:=2) (.inr (.inl rfl)) (by rw [List.length_append,Yd,Xk]; omega) hk,Option.bind_some,
  hc.int.k,Zd6 (by rw [List.length_append,List.length_append,Yd,Yd,Xk,Xk]; omega) hx (by omega),Option.bind_some,hc.int.v,Zd6 (by rw [List.length_append,List.length_append,List.length_append,Yd,Yd,Yd,Xk,Xk,Gh hx]; omega) hy (by omega),Option.bind_some]
 unfold prS
 simp only [X0,List.append_assoc]
theorem Zii {a b d e:Nat} (ha:a<256) (hb:b<256) (hd:d<65536) (he:e<65536) {k:Nat} (hk:10<k):Q40.f k (a:Int) (b:Int) (d:Int) (e:Int)=some (toB (be 1 a ++ (be 1 b ++ (be 2 d ++ (be 2 e ++ zs 2))))):=by
 unfold Q40.f
 rw [Vc (by omega),Vc (by omega),Vc (by omega),Vc (by omega),show Q41.f k ([]:List Int) 1 (a:Int)=_ from Uh (w:=1) (.inl rfl) (by simp) hk,Option.bind_some,show Q41.f k _ 1 (b:Int)=_ from Uh (w:=1) (.inl rfl) (by simp [Yd,Xk]) hk,Option.bind_some,
  show Q41.f k _ 2 (d:Int)=_ from Uh (w:=2) (.inr (.inl rfl)) (by simp [Yd,Xk]) hk,Option.bind_some,show Q41.f k _ 2 (e:Int)=_ from Uh (w:=2) (.inr (.inl rfl)) (by simp [Yd,Xk]) hk,Option.bind_some,show Q41.f k _ 2 0=_ from Uh (w:=2) (v:=0) (.inr (.inl rfl)) (by simp [Yd,Xk]) hk,Option.bind_some]
 have z:be 2 0=zs 2:=by decide
 rw [z]
 simp only [X0,List.append_assoc,List.nil_append]
theorem Gz {α:Type} (f:α→List UInt8) (x:α) (l:List α):cat f (x :: l)=f x ++ cat f l:=by unfold cat; rw [List.flatMap_cons]
theorem Zc5 {c:Cfg} {n:Nd} (hc:OkC c) (hr:∀ p∈n.2.2.2.2,p.1.length≤cK c∧p.2.length≤cV c) (hl:n.2.2.2.2.length≤2000):∀(m i k:Nat) (x:TX),n.2.2.2.2.length=i+m→m+20<k→x.length+m*400≤9000000→Q48.l0 k c n x (i:Int)=some (x ++ toB (cat (prS (cK c) (cV c)) (n.2.2.2.2.drop i)))
 | 0,i,k+1,x,h,hk,hx=>by
  rw [Q48.l0,if_neg (by simp only [decide_eq_true_eq]; omega),List.drop_eq_nil_of_le (by omega)]
  simp [cat,toB]
 | m+1,i,k+1,x,h,hk,hx=>by
  obtain ⟨c1,c2,c3,c4,c5,c6,c7,c8,c9⟩:=hc.nat
  have hi:i<n.2.2.2.2.length:=by omega
  have hp:=hr _ (Jd (d:=default) hi)
  rw [Q48.l0,if_pos (decide_eq_true (by omega)),if_pos (by omega),Yx]; (try rw [Jc]); rw [Zgu hc (by omega) hp.1 hp.2 (by omega),Option.bind_some,Y8 (by omega),Zc5 hc hr hl m (i+1) k _ (by omega) (by omega) (by rw [List.length_append,Yd,Gf hp.1 hp.2]; omega),Xf hi,Gz,X0,List.append_assoc]
theorem Zkt {c:Cfg} {n:Nd} (hc:OkC c) (hr:∀ p∈n.2.2.2.2,p.1.length≤cK c∧p.2.length≤cV c) (hl:n.2.2.2.2.length≤2000) {k:Nat} (hk:3000<k):Q48.f k c n=some (toB (hdO n ++ bdO c n)):=by
 have e:be 1 1 ++ (be 1 0 ++ (be 2 n.2.2.2.2.length ++ (be 2 0 ++ zs 2)))=hdO n:=by
  unfold hdO
  rw [show be 2 0=zs 2 by decide,Zcc]; rfl
 unfold Q48.f
 rw [show Q40.f k 1 0 (n.2.2.2.2.length:Int) 0=_ from Zii (a:=1) (b:=0) (e:=0) (by omega) (by omega) (by omega) (by omega) (by omega),Option.bind_some,e,show Q48.l0 k c n (toB (hdO n)) 0=_ from Zc5 hc hr hl n.2.2.2.2.length 0 k _ (by omega) (by omega) (by rw [Yd,Zgj]; omega),List.drop_zero,← X0]
 rfl
theorem B9 {c:Cfg} {n:Nd} (hc:OkC c) (hr:∀ m∈n.2.2.2.1,m.1.length≤cK c∧m.2.2.length≤cV c) (hl:n.2.2.2.1.length≤2000):∀(m i k:Nat) (x:TX),n.2.2.2.1.length=i+m→m+20<k→x.length+m*400≤8000000→Q47.l2 k c n x (i:Int)=some (x ++ toB (cat (msS (cK c) (cV c)) (n.2.2.2.1.drop i)))
 | 0,i,k+1,x,h,hk,hx=>by
  rw [Q47.l2,if_neg (by simp only [decide_eq_true_eq]; omega),List.drop_eq_nil_of_le (by omega)]
  simp [cat,toB]
 | m+1,i,k+1,x,h,hk,hx=>by
  obtain ⟨c1,c2,c3,c4,c5,c6,c7,c8,c9⟩:=hc.nat
  have hi:i<n.2.2.2.1.length:=by omega
  have hp:=hr _ (Jd (d:=default) hi)
  rw [Q47.l2,if_pos (decide_eq_true (by omega)),if_pos (by omega),Yx]; (try rw [Jc]); rw [show Q41.f k x 1 2=_ from Uh (w:=1) (v:=2) (.inl rfl) (by omega) (by omega),show Q41.f k x 1 1=_ from Uh (w:=1) (v:=1) (.inl rfl) (by omega) (by omega),Option.bind_some,Option.bind_some,
   Zgu hc (by rw [List.length_append,Yd,Xk]; omega) hp.1 hp.2 (by omega),Zgu hc (by rw [List.length_append,Yd,Xk]; omega) hp.1 hp.2 (by omega),Option.bind_some,Option.bind_some,Y8 (by omega),
   B9 hc hr hl m (i+1) k _ (by omega) (by omega) (by rw [List.length_append,List.length_append,Yd,Yd,Xk,Gf hp.1 hp.2]; omega),B9 hc hr hl m (i+1) k _ (by omega) (by omega) (by rw [List.length_append,List.length_append,Yd,Yd,Xk,Gf hp.1 hp.2]; omega),Xf hi,Gz]
  unfold msS
  cases (n.2.2.2.1.getD i default).2.1
  ·rw [if_neg (by simp),if_neg (by simp),show be 1 1=[1] by decide,X0,List.append_assoc,List.append_assoc]; rfl
  ·rw [if_pos rfl,if_pos rfl,show be 1 2=[2] by decide,X0,List.append_assoc,List.append_assoc]; rfl
theorem Zkw (K:Nat):pvS K []=zs (1+K):=by
 unfold pvS slt
 rw [show be 1 ([]:List UInt8).length=zs 1 by decide,List.nil_append,Zcc]; rfl
theorem Zb1 {c:Cfg} {n:Nd} (hc:OkC c) (hr:∀ m∈n.2.2.2.1,m.1.length≤cK c∧m.2.2.length≤cV c) (hl:n.2.2.2.1.length≤2000):∀(m i k:Nat) (x:TX),cFa c - 1=i+m→n.2.2.1.length≤i→m+2100<k→x.length+m*400≤7000000→Q47.l1 k c n x (i:Int)=some (x ++ toB (zs ((1+cK c)*m) ++ cat (msS (cK c) (cV c)) n.2.2.2.1))
 | 0,i,k+1,x,h,hz,hk,hx=>by
  replace hx:x.length≤7000000:=by simpa using hx
  obtain ⟨c1,c2,c3,c4,c5,c6,c7,c8,c9⟩:=hc.nat
  have e:w64 (c.2.2.2.1 - 1)=((cFa c - 1:Nat):Int):=by rw [hc.int.f,Z3 (by omega) (by omega)]; omega
  rw [Q47.l1,e,if_neg (by simp only [decide_eq_true_eq]; omega),show Q47.l2 k c n x 0=_ from B9 hc hr hl n.2.2.2.1.length 0 k x (by omega) (by omega) (by omega),List.drop_zero]
  simp [zs]
 | m+1,i,k+1,x,h,hz,hk,hx=>by
  obtain ⟨c1,c2,c3,c4,c5,c6,c7,c8,c9⟩:=hc.nat
  have e:w64 (c.2.2.2.1 - 1)=((cFa c - 1:Nat):Int):=by rw [hc.int.f,Z3 (by omega) (by omega)]; omega
  have hp:(pvS (cK c) []).length=1+cK c:=Zco (Nat.zero_le _)
  rw [Q47.l1,e,if_pos (decide_eq_true (by omega)),if_neg (by simp only [decide_eq_true_eq]; omega),show IntKind.u64.wrap ((([]:List UInt8).length:Nat):Int)=((0:Nat):Int) from rfl,show Q41.f k x 1 ((0:Nat):Int)=_ from Uh (w:=1) (.inl rfl) (by omega) (by omega),Option.bind_some,hc.int.k,Zd6 (by rw [List.length_append,Yd,Xk]; omega) (Nat.zero_le _) (by omega),Option.bind_some,Y8 (by omega)]
  have e2:(x ++ toB (be 1 0)) ++ toB (slt [] (cK c))=x ++ toB (zs (1+cK c)):=by
   rw [List.append_assoc,← X0,← Zkw]; rfl
  rw [e2,Zb1 hc hr hl m (i+1) k _ (by omega) (by omega) (by omega) (by rw [List.length_append,Yd,Jh]; omega),List.append_assoc,← X0,← List.append_assoc (zs (1+cK c)),Zcc,show 1+cK c+(1+cK c)*m=(1+cK c)*(m+1) by rw [Nat.mul_add]; omega]
theorem Zdv {c:Cfg} {n:Nd} (hc:OkC c) (hp:∀ p∈n.2.2.1,p.length≤cK c) (hpl:n.2.2.1.length≤cFa c - 1) (hr:∀ m∈n.2.2.2.1,m.1.length≤cK c∧m.2.2.length≤cV c) (hl:n.2.2.2.1.length≤2000):∀(m i k:Nat) (x:TX),n.2.2.1.length=i+m→m+2300<k→x.length+m*400≤6000000→Q47.l1 k c n x (i:Int)=some (x ++ toB (cat (pvS (cK c)) (n.2.2.1.drop i) ++ (zs ((1+cK c)*(cFa c - 1 - n.2.2.1.length)) ++ cat (msS (cK c) (cV c)) n.2.2.2.1)))
 | 0,i,k,x,h,hk,hx=>by
  replace hx:x.length≤6000000:=by simpa using hx
  obtain ⟨c1,c2,c3,c4,c5,c6,c7,c8,c9⟩:=hc.nat
  rw [Zb1 hc hr hl (cFa c - 1 - n.2.2.1.length) i k x (by omega) (by omega) (by omega) (by omega),List.drop_eq_nil_of_le (by omega)]
  simp [cat]
 | m+1,i,k+1,x,h,hk,hx=>by
  obtain ⟨c1,c2,c3,c4,c5,c6,c7,c8,c9⟩:=hc.nat
  have hi:i<n.2.2.1.length:=by omega
  have hpi:=hp _ (Jd (d:=default) hi)
  have e:w64 (c.2.2.2.1 - 1)=((cFa c - 1:Nat):Int):=by rw [hc.int.f,Z3 (by omega) (by omega)]; omega
  rw [Q47.l1,e,if_pos (decide_eq_true (by omega)),if_pos (decide_eq_true (by omega)),if_pos (by omega),Yx,Vc (by omega),show Q41.f k x 1 (((n.2.2.1.getD i default).length:Nat):Int)=_ from Uh (w:=1) (.inl rfl) (by omega) (by omega),Option.bind_some,hc.int.k,Zd6 (by rw [List.length_append,Yd,Xk]; omega) hpi (by omega),Option.bind_some,Y8 (by omega)]
  have e2:(x ++ toB (be 1 (n.2.2.1.getD i default).length)) ++ toB (slt (n.2.2.1.getD i default) (cK c))=x ++ toB (pvS (cK c) (n.2.2.1.getD i default)):=by
   rw [List.append_assoc,← X0]; rfl
  rw [e2,Zdv hc hp hpl hr hl m (i+1) k _ (by omega) (by omega) (by rw [List.length_append,Yd,Zco hpi]; omega),List.append_assoc,← X0,Xf hi,Gz,List.append_assoc]
def Zg6 (c:Cfg) (n:Nd):List UInt8:=cat (pvS (cK c)) n.2.2.1 ++ (zs ((1+cK c)*(cFa c - 1 - n.2.2.1.length)) ++ cat (msS (cK c) (cV c)) n.2.2.2.1)
theorem Zcb {c:Cfg} {n:Nd} (hc:OkC c) (hp:∀ p∈n.2.2.1,p.length≤cK c) (hpl:n.2.2.1.length≤cFa c - 1) (hr:∀ m∈n.2.2.2.1,m.1.length≤cK c∧m.2.2.length≤cV c) (hl:n.2.2.2.1.length≤2000):∀(m i k:Nat) (x:TX),cFa c=i+m→n.2.1.length≤i→m+2500<k→x.length+m*400≤5000000→Q47.l0 k c n x (i:Int)=some (x ++ toB (zs (4*m) ++ Zg6 c n))
 | 0,i,k+1,x,h,hz,hk,hx=>by
  replace hx:x.length≤5000000:=by simpa using hx
  obtain ⟨c1,c2,c3,c4,c5,c6,c7,c8,c9⟩:=hc.nat
  rw [Q47.l0,hc.int.f,if_neg (by simp only [decide_eq_true_eq]; omega),show Q47.l1 k c n x 0=_ from Zdv hc hp hpl hr hl n.2.2.1.length 0 k x (by omega) (by omega) (by omega),List.drop_zero]
  simp [zs,Zg6]
 | m+1,i,k+1,x,h,hz,hk,hx=>by
  obtain ⟨c1,c2,c3,c4,c5,c6,c7,c8,c9⟩:=hc.nat
  rw [Q47.l0,hc.int.f,if_pos (decide_eq_true (by omega)),if_neg (by simp only [decide_eq_true_eq]; omega),show Q41.f k x 4 0=_ from Uh (w:=4) (v:=0) (.inr (.inr rfl)) (by omega) (by omega),Option.bind_some,Y8 (by omega),show be 4 0=zs 4 by decide,
   Zcb hc hp hpl hr hl m (i+1) k _ (by omega) (by omega) (by omega) (by rw [List.length_append,Yd,Jh]; omega),List.append_assoc,← X0,← List.append_assoc (zs 4),Zcc,show 4+4*m=4*(m+1) by omega]
theorem Zc7 {c:Cfg} {n:Nd} (hc:OkC c) (hkd:∀ x∈n.2.1,0≤x∧x<4294967296) (hkl:n.2.1.length≤cFa c) (hp:∀ p∈n.2.2.1,p.length≤cK c) (hpl:n.2.2.1.length≤cFa c - 1) (hr:∀ m∈n.2.2.2.1,m.1.length≤cK c∧m.2.2.length≤cV c) (hl:n.2.2.2.1.length≤2000):∀(m i k:Nat) (x:TX),n.2.1.length=i+m→m+2700<k→x.length+m*400≤4000000→Q47.l0 k c n x (i:Int)=some (x ++ toB (cat kdS (n.2.1.drop i) ++ (zs (4*(cFa c - n.2.1.length)) ++ Zg6 c n)))
 | 0,i,k,x,h,hk,hx=>by
  replace hx:x.length≤4000000:=by simpa using hx
  obtain ⟨c1,c2,c3,c4,c5,c6,c7,c8,c9⟩:=hc.nat
  rw [Zcb hc hp hpl hr hl (cFa c - n.2.1.length) i k x (by omega) (by omega) (by omega) (by omega),List.drop_eq_nil_of_le (by omega)]
  simp [cat]
 | m+1,i,k+1,x,h,hk,hx=>by
  obtain ⟨c1,c2,c3,c4,c5,c6,c7,c8,c9⟩:=hc.nat
  have hi:i<n.2.1.length:=by omega
  have hki:=hkd _ (Jd (d:=default) hi)
  obtain ⟨q,hq⟩:=Int.eq_ofNat_of_zero_le hki.1
  rw [Q47.l0,hc.int.f,if_pos (decide_eq_true (by omega)),if_pos (decide_eq_true (by omega)),if_pos (by omega),Yx,hq,Vc (by omega),show Q41.f k x 4 (q:Int)=_ from Uh (w:=4) (.inr (.inr rfl)) (by omega) (by omega),Option.bind_some,Y8 (by omega)]
  have e2:be 4 q=kdS (n.2.1.getD i default):=by unfold kdS; rw [hq]; rfl
  rw [e2,Zc7 hc hkd hkl hp hpl hr hl m (i+1) k _ (by omega) (by omega) (by rw [List.length_append,Yd,show (kdS (n.2.1.getD i default)).length=4 from Xk _ _]; omega),List.append_assoc,← X0,Xf hi,Gz,List.append_assoc]
theorem Zle {c:Cfg} {n:Nd} (hc:OkC c) (hn:FitN c n) (h0:n.1≠0) {k:Nat} (hk:3000<k):Q47.f k c n=some (toB (hdI n ++ bdI c n)):=by
 obtain ⟨c1,c2,c3,c4,c5,c6,c7,c8,c9⟩:=hc.nat
 obtain ⟨a1,a2,a3,a4,a5⟩:=hn.i h0
 have hlv:=hn.lv
 obtain ⟨lv,hl⟩:=Int.eq_ofNat_of_zero_le hlv.1
 have e:be 1 2 ++ (be 1 lv ++ (be 2 n.2.1.length ++ (be 2 n.2.2.2.1.length ++ zs 2)))=hdI n:=by
  unfold hdI
  rw [hl,Int.toNat_natCast]; rfl
 unfold Q47.f
 rw [hl,show Q40.f k 2 (lv:Int) (n.2.1.length:Int) (n.2.2.2.1.length:Int)=_ from Zii (a:=2) (by omega) (by omega) (by omega) (by omega) (by omega),Option.bind_some,e,show Q47.l0 k c n (toB (hdI n)) 0=_ from Zc7 hc hn.kd (by omega) hn.pk (by omega) hn.ms (by omega) n.2.1.length 0 k _ (by omega) (by omega) (by rw [Yd,Zf6]; omega),List.drop_zero,← X0]
 rfl
theorem Zcs {c:Cfg} {n:Nd} (hok:okB c=true) (hn:FitN c n):(Bm c n).length≤cBy c∧cBy c≤65536∧c.2.1=(cBy c:Int):=by
 simp only [okB,Bool.and_eq_true,decide_eq_true_eq] at hok
 obtain ⟨h1,h2,h3,h4,h5,h6⟩:=hok
 have hc:=Gl h1
 obtain ⟨c1,c2,c3,c4,c5,c6,c7,c8,c9⟩:=hc.nat
 have hi:=hc.int
 have hB:c.2.1=(cBy c:Int):=by unfold cBy; omega
 refine ⟨?_,by omega,hB⟩
 unfold Bm
 by_cases h0:n.1=0
 ·rw [if_pos h0,List.length_append,Zgj,Zlj hn]
  have hl:=(hn.o h0).2.2.2
  have hm:n.2.2.2.2.length*(3+cK c+cV c)≤cLe c*(3+cK c+cV c):=Nat.mul_le_mul_right _ hl
  have:Ji c=((8+cLe c*(3+cK c+cV c):Nat):Int):=by
   unfold Ji
   rw [hi.l,hi.k,hi.v]
   push_cast
   rfl
  omega
 ·rw [if_neg h0,List.length_append,Zf6,Zlc hn h0]
  have hl:=(hn.i h0).2.2.2.2
  have hm:n.2.2.2.1.length*(4+cK c+cV c)≤cBu c*(4+cK c+cV c):=Nat.mul_le_mul_right _ hl
  have:U1 c=((8+(4+(cFa c - 1)*(5+cK c)+cBu c*(4+cK c+cV c)):Nat):Int):=by
   unfold U1
   rw [hi.f,hi.b,hi.k,hi.v]
   have:((cFa c:Int) - 1)=((cFa c - 1:Nat):Int):=by omega
   rw [this]
   push_cast
   rfl
  have e2:(cFa c - 1)*(5+cK c)=4*(cFa c - 1)+(1+cK c)*(cFa c - 1):=by
   rw [show 5+cK c=4+(1+cK c) by omega,Nat.mul_add,Nat.mul_comm _ 4,Nat.mul_comm (cFa c - 1) (1+cK c)]
  omega
theorem Zdj {c:Cfg} {n:Nd} (hc:OkC c) (hkd:∀ x∈n.2.1,0≤x∧x<4294967296) (h:Vm c Bx n=true):FitN c n:=by
 have hi:=hc.int
 unfold Vm at h
 by_cases h0:n.1=0
 ·rw [if_pos h0] at h
  simp only [Zep,prB,Vt,Bool.and_eq_true,decide_eq_true_eq,List.all_eq_true] at h
  obtain ⟨a1,a2,a3,a4,a5,a6⟩:=h
  refine ⟨by omega,hkd,fun _=>⟨a2,a3,a4,by have:=hi.l; omega⟩,fun z=>absurd h0 z,fun p hp=>by rw [a3] at hp; simp at hp,fun p hp=>by rw [a4] at hp; simp at hp,fun p hp=>?_⟩
  have:=a1 p hp
  have hk:=hi.k
  have hv:=hi.v
  exact ⟨by omega,by omega⟩
 ·rw [if_neg h0] at h
  simp only [Ze1,Zgv,Zg9,Zbf,Vt,Bool.and_eq_true,decide_eq_true_eq,List.all_eq_true] at h
  obtain ⟨b0,b1,b2,b3,b4,b5,b6,b7,b8,b9,b10,b11⟩:=h
  have hk:=hi.k
  have hv:=hi.v
  have hf:=hi.f
  have hb:=hi.b
  exact ⟨by omega,hkd,fun z=>absurd z h0,fun _=>⟨b5,b6,by omega,by omega,by omega⟩,fun p hp=>by have:=b2 p hp; omega,fun p hp=>by have:=b3 p hp; omega,fun p hp=>by rw [b5] at hp; simp at hp⟩
def Ze0 (c:Cfg) (n:Nd):List Int×Int:=if okB c=true then (if Vm c Bx n=true then (toB (Uw c n),0) else ([],3)) else ([],2)
theorem Zhq {c:Cfg} (h:okB c=true):OkC c:=by
 simp only [okB,Bool.and_eq_true] at h
 exact Gl h.1
theorem Zmb {c:Cfg} {n:Nd} (h1:n.2.1.length≤80) (h2:n.2.2.1.length≤80) (h3:n.2.2.2.1.length≤2000) (h4:n.2.2.2.2.length≤2000) (hl:∀ x∈n.2.1,0≤x∧x<4294967296):Ev (fun k=>Q39.f k c n) (Ze0 c n):=by
 have hbig:Ev (fun k=>if 10000<k then some () else none) ():=⟨10001,fun k hk=>if_pos (by omega)⟩
 refine (Zhe (c:=c) (s:=Bx) h1 h2 (by omega) (by omega) hl).next2 hbig fun k k1 k2=>?_
 have k2:10000<k:=by
  by_cases z:10000<k
  ·exact z
  ·rw [if_neg z] at k2; cases k2
 unfold Q39.f Ze0
 (try rw [Jc]); (try rw [Znw]); rw [Zb9,Option.bind_some]
 cases hok:okB c with
 | false=>rfl
 | true=>
  have hc:=Zhq hok
  rw [if_pos rfl,if_neg (by simp),if_pos rfl,Q66.f,Option.bind_some,show Q72.f k c (([]:List UInt8),([]:List UInt8),true) n=_ from k1,Option.bind_some]
  cases hr:Vm c Bx n with
  | false=>rfl
  | true=>
   have hn:=Zdj hc hl hr
   obtain ⟨r1,r2,r3⟩:=Zcs hok hn
   rw [if_neg (by simp),if_pos rfl]
   by_cases h0:n.1=0
   ·have er:Bm c n=hdO n ++ bdO c n:=if_pos h0
    have e:w64 ((cBy c:Int) - ((hdO n ++ bdO c n).length:Int))=((cBy c - (Bm c n).length:Nat):Int):=by rw [← er,Z3 (by omega) (by omega)]; omega
    rw [if_neg (by simp only [decide_eq_true_eq]; omega),Zkt hc hn.rk h4 (by omega),Option.bind_some,Yd,r3,e,if_pos (by rw [← er]; omega),Int.toNat_natCast,← Ze8,← X0]
    unfold Uw slt
    rw [er]
   ·have hlv:=hn.lv
    have er:Bm c n=hdI n ++ bdI c n:=if_neg h0
    have e:w64 ((cBy c:Int) - ((hdI n ++ bdI c n).length:Int))=((cBy c - (Bm c n).length:Nat):Int):=by rw [← er,Z3 (by omega) (by omega)]; omega
    rw [if_pos (decide_eq_true (by omega)),Zle hc hn h0 (by omega),Option.bind_some,Yd,r3,e,if_pos (by rw [← er]; omega),Int.toNat_natCast,← Ze8,← X0]
    unfold Uw slt
    rw [er]
def rbS (s:TN) (n:Nat):List UInt8×TN:=if s.2=0 then (if s.1.length<n then ([],([],5)) else (s.1.take n,(s.1.drop n,0))) else ([],s)
def iS (s:TN):List Int×Int:=(toB s.1,s.2)
def spS (s:TN) (x:Int):List UInt8×Int:=([],if s.2=0 then x else s.2)
theorem Zfp (a:TS) (n:Nat):(toB a).take n=toB (a.take n):=by simp [toB,List.map_take]
theorem Zer (a:TS) (n:Nat):(toB a).drop n=toB (a.drop n):=by simp [toB,List.map_drop]
theorem Bv (s:TN) (x:Int):Q165.f ((iS s).1,(iS s).2) x=some (iS (spS s x)):=by
 unfold Q165.f iS spS
 by_cases h:s.2=0 <;> simp [h,toB]
theorem Zjd (s:TN) {n:Nat} (hn:n≤100000):Q160.f (iS s) (n:Int)=some (toB (rbS s n).1,iS (rbS s n).2):=by
 unfold Q160.f
 rw [Bv,Bv,Option.bind_some,Option.bind_some]
 unfold rbS iS spS
 by_cases h:s.2=0
 ·rw [if_neg (by simp [h]),if_neg (by simp),if_pos h]
  by_cases h2:s.1.length<n
  ·rw [if_pos (decide_eq_true (by rw [Yd]; omega)),if_pos h2]
   simp [h,toB]
  ·rw [if_neg (by simp only [Yd,decide_eq_true_eq]; omega),if_neg h2,if_pos (by omega),if_pos (by rw [Yd]; omega),Int.toNat_natCast]
   have:patch (List.replicate n (0:Int)) 0 (List.replicate n (0:Int)).length (toB s.1)=toB (s.1.take n):=by
    unfold patch
    rw [List.length_replicate,Yd,show 0+min n s.1.length=n by omega,List.drop_eq_nil_of_le (by simp),List.take_zero,List.nil_append,List.append_nil,Zfp]
   rw [this,Zer,h]
   simp
 ·rw [if_pos (by simp [h]),if_neg h]
  rfl
def Z7 (s:TN) (w:Nat):Nat×TN:=(rdv (rbS s w).1,(rbS s w).2)
theorem Zao (s:TN) (n:Nat):(rbS s n).1.length≤n:=by
 unfold rbS
 split
 ·split
  ·exact Nat.zero_le _
  ·rw [List.length_take]; omega
 ·exact Nat.zero_le _
theorem Vj (s:TN) (w:Nat):(Z7 s w).1<256 ^ w:=Nat.lt_of_lt_of_le (Ze3 _) (Nat.pow_le_pow_right (by omega) (Zao s w))
theorem Zjh (l:TS) (c:UInt8):rdv (l ++ [c])=rdv l*256+c.toNat:=by
 unfold rdv
 rw [List.foldl_append]; rfl
theorem orb {x c:Nat} (hx:x<4294967296) (hc:c<256):IntKind.u64.wrap (((BitVec.ofInt IntKind.u64.bits (IntKind.u64.wrap ((x:Int)*2 ^ 8)) ||| (BitVec.ofInt IntKind.u64.bits (IntKind.u64.wrap (c:Int)))).toNat:Int))=((x*256+c:Nat):Int):=by
 have e1:(x:Int)*2 ^ 8=((x*256:Nat):Int):=by omega
 rw [e1,Vc (n:=x*256) (by omega),Vc (n:=c) (by omega)]
 have e2:(BitVec.ofInt IntKind.u64.bits ((x*256:Nat):Int) ||| BitVec.ofInt IntKind.u64.bits (c:Int)).toNat=x*256+c:=by
  show (BitVec.ofInt 64 ((x*256:Nat):Int) ||| BitVec.ofInt 64 (c:Int)).toNat=x*256+c
  rw [BitVec.toNat_or,BitVec.ofInt_natCast,BitVec.ofInt_natCast,BitVec.toNat_ofNat,BitVec.toNat_ofNat,Nat.mod_eq_of_lt (by omega),Nat.mod_eq_of_lt (by omega)]
  have:=Nat.shiftLeft_add_eq_or_of_lt (i:=8) (b:=c) hc x
  rw [Nat.shiftLeft_eq] at this
  rw [show x*256=x*2 ^ 8 from rfl,← this]
 rw [e2,Vc (by omega)]
theorem Zhw (l:TS) (st:TQ) (hl:l.length≤4):∀(m i k:Nat),l.length=i+m→m<k→Q159.l0 k (toB l,st) ((rdv (l.take i):Nat):Int) (i:Int)=some (((rdv l:Nat):Int),st)
 | 0,i,k+1,h,_=>by
  rw [Q159.l0,if_neg (by simp only [Yd,decide_eq_true_eq]; omega),List.take_of_length_le (by omega)]
 | m+1,i,k+1,h,hk=>by
  have hi:i<l.length:=by omega
  have hv:=Ze3 (l.take i)
  have hv2:256 ^ (l.take i).length≤256 ^ 3:=Nat.pow_le_pow_right (by omega) (by rw [List.length_take]; omega)
  have e:gt (toB l) (i:Int)=(((l[i]'hi).toNat:Nat):Int):=by
   rw [Yx,List.getD_eq_getElem?_getD]
   simp [toB,hi]
  have hc:=(l[i]'hi).toNat_lt
  rw [Q159.l0,if_pos (decide_eq_true (by rw [Yd]; omega)),if_pos (by rw [Yd]; omega),e,orb (by omega) (by omega),Y8 (by omega),← Zjh]
  have:=Zhw l st hl m (i+1) k (by omega) (by omega)
  rw [List.take_add_one,List.getElem?_eq_getElem hi] at this
  exact this
theorem U8 (s:TN) {w:Nat} (hw:w=1∨w=2∨w=4) {k:Nat} (hk:10<k):Q159.f k ((iS s).1,(iS s).2) (w:Int)=some (((Z7 s w).1:Int),((iS (Z7 s w).2).1,(iS (Z7 s w).2).2)):=by
 unfold Q159.f Q166.f
 have hr:(if (decide ((w:Int)=1))=true then (some true) else (if (decide ((w:Int)=2))=true then (some true) else (if (decide ((w:Int)=4))=true then (some true) else (some (decide ((w:Int)=8))))))=some true:=by
  rcases hw with rfl | rfl | rfl <;> rfl
 have hl:=Zao s w
 rw [hr,Option.bind_some,if_neg (by simp),show Q160.f ((iS s).1,(iS s).2) (w:Int)=_ from Zjd s (by omega),Option.bind_some]
 have:=Zhw (rbS s w).1 (iS (rbS s w).2) (by omega) (rbS s w).1.length 0 k (by omega) (by omega)
 exact this
def nzS (l:TS):Bool:=l.any fun x=>!decide (x=0)
theorem Zhs (l:TS):((toB l).any fun x=>!decide (x=0))=nzS l:=by
 unfold nzS toB
 rw [List.any_map]
 congr 1
 funext x
 have:((x.toNat:Int)=0)↔x=0:=by
  constructor
  ·intro h
   have h2:x.toNat=0:=by omega
   exact UInt8.toNat_inj.1 (by simpa using h2)
  ·rintro rfl; rfl
 simp only [Function.comp,this]
theorem Zlu (l:TS) {k:Nat} (hl:l.length≤10000) (hk:l.length<k):Q105.f k (toB l)=some (nzS l):=by
 obtain ⟨r,h1,h2⟩:=Ui (l:=toB l) (F:=fun k i=>Q112.l0 k (toB l) i) (p:=fun x:Int=>!decide (x=0)) (by rw [Yd]; omega) (fun k i=>by
  show Q112.l0 (k+1) (toB l) i=_
  rw [Q112.l0,Q164.f,Option.bind_some]) (toB l).length 0 k (by omega) (by rw [Yd]; exact hk)
 unfold Q105.f Q112.f
 rw [show Q112.l0 k (toB l) 0=_ from h1,Option.bind_some,h2,List.drop_zero,Zhs]
theorem Znb (l:TS) {k:Nat} (hl:l.length≤10000) (hk:l.length<k):Q104.f k (toB l)=some (nzS l):=by
 obtain ⟨r,h1,h2⟩:=Ui (l:=toB l) (F:=fun k i=>Q111.l0 k (toB l) i) (p:=fun x:Int=>!decide (x=0)) (by rw [Yd]; omega) (fun k i=>by
  show Q111.l0 (k+1) (toB l) i=_
  rw [Q111.l0,Q162.f,Option.bind_some]) (toB l).length 0 k (by omega) (by rw [Yd]; exact hk)
 unfold Q104.f Q111.f
 rw [show Q111.l0 k (toB l) 0=_ from h1,Option.bind_some,h2,List.drop_zero,Zhs]
def Jl (s:TN) (n:Nat):List UInt8×Int:=if nzS (rbS s n).1=true then spS (rbS s n).2 3 else (rbS s n).2
theorem Zks (s:TN) {n:Nat} (hn:n≤100) {k:Nat} (hk:1000<k):Q163.f k ((iS s).1,(iS s).2) (n:Int)=some ((iS (Jl s n)).1,(iS (Jl s n)).2):=by
 have hl:=Zao s n
 unfold Q163.f Jl
 rw [show Q160.f ((iS s).1,(iS s).2) (n:Int)=_ from Zjd s (by omega),Option.bind_some,Zlu _ (by omega) (by omega),Option.bind_some]
 cases nzS (rbS s n).1
 ·rfl
 ·rw [if_pos rfl,if_pos rfl,Bv,Option.bind_some]
def Ub (s:TN) (n most:Nat):List UInt8×TN:=if most<n then ([],spS s 2) else if (rbS s most).1.length<most then ([],(rbS s most).2) else if nzS ((rbS s most).1.drop n)=true then ([],spS (rbS s most).2 3) else ((rbS s most).1.take n,(rbS s most).2)
theorem Zee (s:TN) (n:Nat) {most:Nat} (hm:most≤1000) {k:Nat} (hk:2000<k):Q161.f k ((iS s).1,(iS s).2) (n:Int) (most:Int)=some ((Ub s n most).1,((iS (Ub s n most).2).1,(iS (Ub s n most).2).2)):=by
 have hl:=Zao s most
 unfold Q161.f Ub
 rw [if_neg (by simp),show Q160.f ((iS s).1,(iS s).2) (most:Int)=_ from Zjd s (by omega),Bv,Option.bind_some,Option.bind_some]
 by_cases h1:most<n
 ·rw [if_pos (decide_eq_true (by omega)),if_pos h1]
 ·rw [if_neg (by simp only [decide_eq_true_eq]; omega),if_neg h1]
  dsimp only
  by_cases h2:(rbS s most).1.length<most
  ·rw [if_pos (decide_eq_true (by rw [Yd]; omega)),if_pos h2]
  ·rw [if_neg (by simp only [Yd,decide_eq_true_eq]; omega),if_neg h2,if_pos (by rw [Yd]; omega),Int.toNat_natCast,Zer,Znb _ (by rw [List.length_drop]; omega) (by rw [List.length_drop]; omega),Option.bind_some]
   cases nzS ((rbS s most).1.drop n)
   ·rw [if_neg (by simp),if_pos (by rw [Yd]; omega),if_neg (by simp),Zfp,Zcx]
   ·rw [if_pos rfl,if_pos rfl,Bv,Option.bind_some]
def Vp (c:Cfg) (s:TN):Pr×TN:=
 let k:=Z7 s 1
 let v:=Z7 k.2 2
 let x:=Ub v.2 k.1 (cK c)
 let y:=Ub x.2 v.1 (cV c)
 ((x.1,y.1),y.2)
theorem Zig {c:Cfg} (hc:OkC c) (s:TN) {k:Nat} (hk:2000<k):Q45.f k c ((iS s).1,(iS s).2)=some ((Vp c s).1.1,(Vp c s).1.2,((iS (Vp c s).2).1,(iS (Vp c s).2).2)):=by
 obtain ⟨c1,c2,c3,c4,c5,c6,c7,c8,c9⟩:=hc.nat
 have l1:=Vj s 1
 have l2:=Vj (Z7 s 1).2 2
 unfold Q45.f Vp
 rw [show Q159.f k ((iS s).1,(iS s).2) 1=_ from U8 s (w:=1) (.inl rfl) (by omega),Option.bind_some,show Q159.f k _ 2=_ from U8 (Z7 s 1).2 (w:=2) (.inr (.inl rfl)) (by omega),Option.bind_some]
 dsimp only
 rw [Z3 (x:=((Z7 s 1).1:Int)) (by omega) (by omega),Z3 (x:=((Z7 (Z7 s 1).2 2).1:Int)) (by omega) (by omega),hc.int.k,hc.int.v,Zee _ _ (by omega) (by omega),Option.bind_some]
 dsimp only
 rw [Zee _ _ (by omega) (by omega),Option.bind_some]
def G7 (c:Cfg):Nat→List UInt8×Int→List Pr→List Pr×TN
 | 0,s,acc=>(acc,s)
 | m+1,s,acc=>G7 c m (Vp c s).2 (acc ++ [(Vp c s).1])
theorem Zfi {c:Cfg} (hc:OkC c) (cnt:Nat):∀(m i k:Nat) (s:TN) (acc:List Pr),min (cLe c) cnt=i+m→m+2100<k→acc.length+m≤5000→Q44.l0 k c (cnt:Int) (iS s).1 (iS s).2 acc (i:Int)=some ((0,([]:List Int),([]:List TS),([]:List Msg),(G7 c m s acc).1),((iS (G7 c m s acc).2).1,(iS (G7 c m s acc).2).2))
 | 0,i,k+1,s,acc,h,hk,ha=>by
  have hi:=hc.int
  rw [Q44.l0,hi.l,if_neg (by simp only [decide_eq_true_eq]; split <;> omega)]
  rfl
 | m+1,i,k+1,s,acc,h,hk,ha=>by
  obtain ⟨c1,c2,c3,c4,c5,c6,c7,c8,c9⟩:=hc.nat
  have hi:=hc.int
  rw [Q44.l0]; (try rw [Jc]); rw [hi.l,if_pos (decide_eq_true (by split <;> omega)),Zig hc s (by omega),Option.bind_some,if_pos (by simp only [List.length_singleton]; omega),Y8 (by omega)]
  exact Zfi hc cnt m (i+1) k (Vp c s).2 (acc ++ [(Vp c s).1]) (by omega) (by omega) (by simp; omega)
def Vh:Nat→Nat→Nat→List UInt8×Int→List Int→List Int×TN
 | 0,_,_,s,acc=>(acc,s)
 | m+1,i,cnt,s,acc=>Vh m (i+1) cnt (Z7 s 4).2 (if i<cnt then acc ++ [((Z7 s 4).1:Int)] else acc)
def W6 (c:Cfg):Nat→Nat→Nat→List UInt8×Int→List TS→List TS×TN
 | 0,_,_,s,acc=>(acc,s)
 | m+1,i,cnt,s,acc=>W6 c m (i+1) cnt (Ub (Z7 s 1).2 (Z7 s 1).1 (cK c)).2 (if i+1<cnt then acc ++ [(Ub (Z7 s 1).2 (Z7 s 1).1 (cK c)).1] else acc)
end Go.SK.T
