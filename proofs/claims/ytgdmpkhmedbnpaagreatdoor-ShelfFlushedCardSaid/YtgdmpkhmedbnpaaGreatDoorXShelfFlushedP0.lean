/- The plain law behind ShelfFlushed: what its code computes is true for all settings and calls. -/
import Derived.Test.YtgdmpkhmedbnpaaGreatDoorXShelfFlushedF8
import Derived.KernelRfl
import Derived.Sort.Walk13a
import Derived.Sort.AssemblyPlain
set_option linter.unusedVariables false
set_option linter.unusedSimpArgs false
namespace Go.SK.T
open Go Go.SK
theorem Zc0:∀(k:Nat) (a b:TP) (i:Nat),a.length≤4611686018427387904→b.length≤4611686018427387904→i≤a.length→i≤b.length→a.length - i<k→
  Q130.l0 k a b (i:Int)=some (Xh (a.drop i) (b.drop i))
 | 0,a,b,i,_,_,_,_,h=>by omega
 | k+1,a,b,i,ha,hb,hia,hib,hk=>by
  unfold Q130.l0
  by_cases h1:i<a.length
  ·by_cases h2:i<b.length
   ·have g1:(0:Int)≤(i:Int)∧(i:Int)<(a.length:Int):=by omega
    have g2:(0:Int)≤(i:Int)∧(i:Int)<(b.length:Int):=by omega
    have w:w64 ((i:Int)+1)=((i+1:Nat):Int):=by rw [Zy (by omega) (by omega)]; omega
    have ih:=Zc0 k a b (i+1) ha hb (by omega) (by omega) (by omega)
    simp only [g1.2,g2.2,g1,g2,decide_true,if_true,and_self,w,ih,Zo7,Int.toNat_natCast,Ze0 h1,Ze0 h2,Zkn,decide_eq_true_eq]
    split
    ·rfl
    ·split <;> rfl
   ·have g1:(i:Int)<(a.length:Int):=by omega
    have g2:¬ (i:Int)<(b.length:Int):=by omega
    have e:b.drop i=[]:=List.drop_eq_nil_of_le (by omega)
    have z1:¬ (a.length:Int)<(b.length:Int):=by omega
    have z2:(b.length:Int)<(a.length:Int):=by omega
    have z3:¬ (a.drop i).length=0:=by rw [List.length_drop]; omega
    simp [g1,g2,e,z1,z2,Zd0,z3]
    omega
  ·have g1:¬ (i:Int)<(a.length:Int):=by omega
   have e:a.drop i=[]:=List.drop_eq_nil_of_le (by omega)
   have z:(b.drop i).length=b.length - i:=List.length_drop ..
   simp only [g1,e,Zff,z,decide_false,Bool.false_eq_true,if_false,decide_eq_true_eq]
   by_cases h2:b.length=i
   ·have z1:¬ (a.length:Int)<(b.length:Int):=by omega
    have z2:¬ (b.length:Int)<(a.length:Int):=by omega
    have h3:a.length=i:=by omega
    simp [h2,h3]
   ·have z1:(a.length:Int)<(b.length:Int):=by omega
    have z2:¬ b.length - i=0:=by omega
    simp [z1,z2]
theorem Vu {k:Nat} {a b:TP} (ha:a.length≤2000) (hb:b.length≤2000) (hk:2000<k):Q130.f k a b=some (Xh a b):=by
 have:=Zc0 k a b 0 (by omega) (by omega) (by omega) (by omega) (by omega)
 simpa [Q130.f] using this
abbrev Msg:=List UInt8×Bool×List UInt8
theorem Zou (x y:Msg):(decide (x.1=y.1) && ((x.2.1 == y.2.1) && (decide (x.2.2=y.2.2) && true)))=decide (x=y):=by
 obtain ⟨a,b,c⟩:=x
 obtain ⟨d,e,f⟩:=y
 by_cases h1:a=d <;> by_cases h2:b=e <;> by_cases h3:c=f <;> simp [h1,h2,h3]
theorem Zda:∀(k:Nat) (a b:List Msg) (i:Nat),a.length≤1000000→a.length=b.length→i≤a.length→a.length - i<k→Q144.l0 k a b (i:Int)=some (decide (a.drop i=b.drop i))
 | 0,a,b,i,_,_,_,h=>by omega
 | k+1,a,b,i,ha,hab,hi,hk=>by
  rw [Q144.l0]
  by_cases h:i<a.length
  ·have g1:(0:Int)≤(i:Int)∧(i:Int)<(a.length:Int):=by omega
   have g2:(0:Int)≤(i:Int)∧(i:Int)<(b.length:Int):=by omega
   rw [if_pos (decide_eq_true g1.2),if_pos g1,if_pos g2,Zou,Z9 (by omega),Zda k a b (i+1) ha hab (by omega) (by omega),Yi h,Yi (show i<b.length by omega),Z8,Z8]
   generalize a.getD i default=x
   generalize b.getD i default=y
   by_cases e:x=y
   ·simp [e]
   ·simp [e]
  ·rw [if_neg (by simp; omega),List.drop_eq_nil_of_le (by omega),List.drop_eq_nil_of_le (by omega)]
   rfl
theorem Zgc {k:Nat} {a b:List Msg} (ha:a.length≤1000000) (hk:a.length<k):Q144.f k a b=some (decide (a=b)):=by
 unfold Q144.f
 by_cases h:a.length=b.length
 ·rw [if_neg (by simp [h])]
  have:=Zda k a b 0 ha h (by omega) (by omega)
  simpa using this
 ·rw [if_pos (by simp; omega)]
  have:a≠b:=fun e=>h (by rw [e])
  simp [this]
abbrev Cfg:=Int×Int×Int×Int×Int×Int×Int×Int
abbrev Pr:=List UInt8×List UInt8
abbrev Nd:=Int×List Int×List TP×List Msg×List Pr
structure SmallN (n:Nd):Prop where
 kids:n.2.1.length≤80
 pivs:n.2.2.1.length≤80
 buf:n.2.2.2.1.length≤150
 prs:n.2.2.2.2.length≤150
 pk:∀ p∈n.2.2.1,p.length≤200
 bk:∀ m∈n.2.2.2.1,m.1.length≤200
 rk:∀ m∈n.2.2.2.2,m.1.length≤200
structure MidN (n:Nd):Prop where
 kids:n.2.1.length≤80
 pivs:n.2.2.1.length≤80
 buf:n.2.2.2.1.length≤800
 prs:n.2.2.2.2.length≤800
 pk:∀ p∈n.2.2.1,p.length≤300
 bk:∀ m∈n.2.2.2.1,m.1.length≤300
 rk:∀ m∈n.2.2.2.2,m.1.length≤300
theorem SmallN.mid {n:Nd} (h:SmallN n):MidN n:=⟨h.kids,h.pivs,by have:=h.buf; omega,by have:=h.prs; omega,fun p hp=>by have:=h.pk p hp; omega,fun p hp=>by have:=h.bk p hp; omega,fun p hp=>by have:=h.rk p hp; omega⟩
theorem Zg1 (n:Nd) (hb:n.2.2.2.2.length≤150):∀(k i:Nat),i≤n.2.2.2.2.length→n.2.2.2.2.length - i<k→(∀ m∈n.2.2.2.2.take i,m.1.length≤200)→
  ∃ g,Q123.l2 k n (i:Int)=some g∧(g=false→∀ m∈n.2.2.2.2,m.1.length≤200)
 | 0,i,_,h,_=>by omega
 | k+1,i,hi,hk,hm=>by
  rw [Q123.l2]
  by_cases h:i<n.2.2.2.2.length
  ·have g1:(0:Int)≤(i:Int)∧(i:Int)<(n.2.2.2.2.length:Int):=by omega
   rw [if_pos (decide_eq_true g1.2),if_pos g1,Z8]
   by_cases h2:200<(n.2.2.2.2.getD i default).1.length
   ·exact ⟨true,by rw [if_pos (decide_eq_true (by omega))],fun h=>by cases h⟩
   ·rw [if_neg (by simp only [decide_eq_true_eq]; omega),Z9 (by omega)]
    refine Zg1 n hb k (i+1) (by omega) (by omega) fun m hm'=>?_
    rw [List.take_add_one,List.mem_append] at hm'
    rcases hm' with hm' | hm'
    ·exact hm m hm'
    ·rw [List.getElem?_eq_getElem h] at hm'
     simp only [Option.toList_some,List.mem_singleton] at hm'
     subst hm'
     rw [List.getD_eq_getElem?_getD,List.getElem?_eq_getElem h] at h2
     simp only [Option.getD_some] at h2
     omega
  ·rw [if_neg (by simp only [decide_eq_true_eq]; omega)]
   exact ⟨false,rfl,fun _=>by rwa [List.take_of_length_le (by omega)] at hm⟩
theorem Zg8 (n:Nd) (hb:n.2.2.2.2.length≤150) (hc:n.2.2.2.1.length≤150):∀(k i:Nat),i≤n.2.2.2.1.length→200+(n.2.2.2.1.length - i)<k→(∀ m∈n.2.2.2.1.take i,m.1.length≤200)→
  ∃ g,Q123.l1 k n (i:Int)=some g∧(g=false→(∀ m∈n.2.2.2.1,m.1.length≤200)∧∀ m∈n.2.2.2.2,m.1.length≤200)
 | 0,i,_,h,_=>by omega
 | k+1,i,hi,hk,hm=>by
  rw [Q123.l1]
  by_cases h:i<n.2.2.2.1.length
  ·have g1:(0:Int)≤(i:Int)∧(i:Int)<(n.2.2.2.1.length:Int):=by omega
   rw [if_pos (decide_eq_true g1.2),if_pos g1,Z8]
   by_cases h2:200<(n.2.2.2.1.getD i default).1.length
   ·exact ⟨true,by rw [if_pos (decide_eq_true (by omega))],fun h=>by cases h⟩
   ·rw [if_neg (by simp only [decide_eq_true_eq]; omega),Z9 (by omega)]
    refine Zg8 n hb hc k (i+1) (by omega) (by omega) fun m hm'=>?_
    rw [List.take_add_one,List.mem_append] at hm'
    rcases hm' with hm' | hm'
    ·exact hm m hm'
    ·rw [List.getElem?_eq_getElem h] at hm'
     simp only [Option.toList_some,List.mem_singleton] at hm'
     subst hm'
     rw [List.getD_eq_getElem?_getD,List.getElem?_eq_getElem h] at h2
     simp only [Option.getD_some] at h2
     omega
  ·rw [if_neg (by simp only [decide_eq_true_eq]; omega)]
   obtain ⟨g,e1,e2⟩:=Zg1 n hb k 0 (by omega) (by omega) (by simp)
   rw [List.take_of_length_le (by omega)] at hm
   exact ⟨g,e1,fun e=>⟨hm,e2 e⟩⟩
theorem Zgq (n:Nd) (hb:n.2.2.2.2.length≤150) (hc:n.2.2.2.1.length≤150) (hd:n.2.2.1.length≤80):∀(k i:Nat),i≤n.2.2.1.length→400+(n.2.2.1.length - i)<k→(∀ m∈n.2.2.1.take i,m.length≤200)→
  ∃ g,Q123.l0 k n (i:Int)=some g∧(g=false→(∀ m∈n.2.2.1,m.length≤200)∧(∀ m∈n.2.2.2.1,m.1.length≤200)∧∀ m∈n.2.2.2.2,m.1.length≤200)
 | 0,i,_,h,_=>by omega
 | k+1,i,hi,hk,hm=>by
  rw [Q123.l0]
  by_cases h:i<n.2.2.1.length
  ·have g1:(0:Int)≤(i:Int)∧(i:Int)<(n.2.2.1.length:Int):=by omega
   rw [if_pos (decide_eq_true g1.2),if_pos g1,Z8]
   by_cases h2:200<(n.2.2.1.getD i default).length
   ·exact ⟨true,by rw [if_pos (decide_eq_true (by omega))],fun h=>by cases h⟩
   ·rw [if_neg (by simp only [decide_eq_true_eq]; omega),Z9 (by omega)]
    refine Zgq n hb hc hd k (i+1) (by omega) (by omega) fun m hm'=>?_
    rw [List.take_add_one,List.mem_append] at hm'
    rcases hm' with hm' | hm'
    ·exact hm m hm'
    ·rw [List.getElem?_eq_getElem h] at hm'
     simp only [Option.toList_some,List.mem_singleton] at hm'
     subst hm'
     rw [List.getD_eq_getElem?_getD,List.getElem?_eq_getElem h] at h2
     simp only [Option.getD_some] at h2
     omega
  ·rw [if_neg (by simp only [decide_eq_true_eq]; omega)]
   obtain ⟨g,e1,e2⟩:=Zg8 n hb hc k 0 (by omega) (by omega) (by simp)
   rw [List.take_of_length_le (by omega)] at hm
   exact ⟨g,e1,fun e=>⟨hm,e2 e⟩⟩
theorem Zhu (n:Nd) {k:Nat} (hk:1000<k):∃ g,Q123.f k n=some g∧(g=false→SmallN n):=by
 unfold Q123.f
 by_cases h1:80<n.2.1.length
 ·exact ⟨true,by rw [if_pos (decide_eq_true (by omega))],fun h=>by cases h⟩
 ·rw [if_neg (by simp only [decide_eq_true_eq]; omega)]
  by_cases h2:80<n.2.2.1.length
  ·exact ⟨true,by rw [if_pos (decide_eq_true (by omega))],fun h=>by cases h⟩
  ·rw [if_neg (by simp only [decide_eq_true_eq]; omega)]
   by_cases h3:150<n.2.2.2.1.length
   ·exact ⟨true,by rw [if_pos (decide_eq_true (by omega))],fun h=>by cases h⟩
   ·rw [if_neg (by simp only [decide_eq_true_eq]; omega)]
    by_cases h4:150<n.2.2.2.2.length
    ·exact ⟨true,by rw [if_pos (decide_eq_true (by omega))],fun h=>by cases h⟩
    ·rw [if_neg (by simp only [decide_eq_true_eq]; omega)]
     obtain ⟨g,e1,e2⟩:=Zgq n (by omega) (by omega) (by omega) k 0 (by omega) (by omega) (by simp)
     exact ⟨g,e1,fun e=>⟨by omega,by omega,by omega,by omega,(e2 e).1,(e2 e).2.1,(e2 e).2.2⟩⟩
structure OkC (c:Cfg):Prop where
 fan:8≤c.2.2.2.1∧c.2.2.2.1≤64
 key:1≤c.2.2.2.2.2.2.1∧c.2.2.2.2.2.2.1≤64
 val:0≤c.2.2.2.2.2.2.2∧c.2.2.2.2.2.2.2≤256
 buf:16≤c.2.2.2.2.1∧c.2.2.2.2.1≤512
 leaf:c.2.2.2.2.1≤c.2.2.2.2.2.1∧c.2.2.2.2.2.1≤1024
abbrev Sp:=List UInt8×List UInt8×Bool
def inS (s:Sp) (x:TP):Bool:=!Op.bytesLess x s.1 && (s.2.2 || Op.bytesLess x s.2.1)
theorem Bn {k:Nat} {s:Sp} {x:TP} (h1:s.1.length≤2000) (h2:s.2.1.length≤2000) (hx:x.length≤2000) (hk:2000<k):Q131.f k s x=some (inS s x):=by
 unfold Q131.f inS
 rw [Vu h1 hx hk,Vu hx h2 hk]
 simp only [Option.bind_some,Zn2,Znj,decide_eq_true_eq]
 cases h:Op.bytesLess x s.1 <;> cases s.2.2 <;> simp
theorem Zbj (a b:TP):decide (0≤Xh a b)=!Op.bytesLess a b:=by
 rcases Ze2 a b with ⟨e,h⟩ | ⟨e,rfl⟩ | ⟨e,h⟩
 ·simp [e,h]
 ·simp [e,U9]
 ·simp [e,Jz h]
def V6:List Pr→Bool
 | a :: b :: r=>Op.bytesLess a.1 b.1 && V6 (b :: r)
 | _=>true
theorem Zjt {l:List Pr} {i:Nat} (h:i+1<l.length):V6 (l.drop i)=(Op.bytesLess (l.getD i default).1 (l.getD (i+1) default).1 && V6 (l.drop (i+1))):=by
 rw [Yi (show i<l.length by omega),Yi h]
 rfl
theorem Zka {l:List Pr} {i:Nat} (h:l.length≤i+1):V6 (l.drop i)=true:=by
 by_cases h':i<l.length
 ·rw [Yi h',List.drop_eq_nil_of_le (by omega)]
  rfl
 ·rw [List.drop_eq_nil_of_le (by omega)]
  rfl
theorem Zc6 {l:List Pr} (h150:l.length≤800) (hl:∀ m∈l,m.1.length≤300):∀(k i:Nat),i≤l.length→2001+(l.length - i)<k→Q145.l0 k l ((i+1:Nat):Int)=some (V6 (l.drop i))
 | 0,i,_,h=>by omega
 | k+1,i,hi,hk=>by
  rw [Q145.l0]
  by_cases h:i+1<l.length
  ·have g1:(0:Int)≤(i:Int)∧(i:Int)<(l.length:Int):=by omega
   have g2:(0:Int)≤((i+1:Nat):Int)∧((i+1:Nat):Int)<(l.length:Int):=by omega
   have k1:=hl _ (Xs (d:=default) (show i<l.length by omega))
   have k2:=hl _ (Xs (d:=default) h)
   rw [if_pos (decide_eq_true g2.2),Bb (by omega) (by omega),Nat.add_sub_cancel,if_pos g1,if_pos g2,Z8,Z8,Vu (by omega) (by omega) (by omega),Option.bind_some,Zbj,Z9 (by omega),Zc6 h150 hl k (i+1) (by omega) (by omega),Zjt h]
   cases Op.bytesLess (l.getD i default).1 (l.getD (i+1) default).1 <;> rfl
  ·rw [if_neg (by simp only [decide_eq_true_eq]; omega),Zka (by omega)]
theorem Zgi {l:List Pr} (h150:l.length≤800) (hl:∀ m∈l,m.1.length≤300) {k:Nat} (hk:3000<k):Q145.f k l=some (V6 l):=by
 have:=Zc6 h150 hl k 0 (by omega) (by omega)
 simpa [Q145.f] using this
def Wn (c:Cfg) (x:TP):Bool:=decide (1≤(x.length:Int)∧(x.length:Int)≤c.2.2.2.2.2.2.1)
theorem Bk (c:Cfg) (x:TP):Q151.f c x=some (Wn c x):=by
 unfold Q151.f Wn
 by_cases h:1≤(x.length:Int) <;> simp [h]
def prB (c:Cfg) (s:Sp) (p:Pr):Bool:=Wn c p.1 && (inS s p.1 && decide ((p.2.length:Int)≤c.2.2.2.2.2.2.2))
def Zae (c:Cfg) (s:Sp) (n:Nd):Bool:=n.2.2.2.2.all (prB c s) && (decide (n.2.1=[]) && (decide (n.2.2.1=[]) && (decide (n.2.2.2.1=[]) && (decide ((n.2.2.2.2.length:Int)≤c.2.2.2.2.2.1) && V6 n.2.2.2.2))))
theorem Zcn {c:Cfg} {s:Sp} {n:Nd} (hn:MidN n) (h1:s.1.length≤2000) (h2:s.2.1.length≤2000):∀(k i:Nat),i≤n.2.2.2.2.length→3001+(n.2.2.2.2.length - i)<k→
  Q155.l0 k c s n (i:Int)=some ((n.2.2.2.2.drop i).all (prB c s) && (decide (n.2.1=[]) && (decide (n.2.2.1=[]) && (decide (n.2.2.2.1=[]) && (decide ((n.2.2.2.2.length:Int)≤c.2.2.2.2.2.1) && V6 n.2.2.2.2)))))
 | 0,i,_,h=>by omega
 | k+1,i,hi,hk=>by
  have h150:=hn.prs
  rw [Q155.l0]
  by_cases h:i<n.2.2.2.2.length
  ·have g1:(0:Int)≤(i:Int)∧(i:Int)<(n.2.2.2.2.length:Int):=by omega
   have k1:=hn.rk _ (Xs (d:=default) h)
   have etc:(c.1,c.2.1,c.2.2.1,c.2.2.2.1,c.2.2.2.2.1,c.2.2.2.2.2.1,c.2.2.2.2.2.2.1,c.2.2.2.2.2.2.2)=c:=rfl
   have eta:(s.1,s.2.1,s.2.2)=s:=rfl
   rw [if_pos (decide_eq_true g1.2),if_pos g1,Z8,Bk,Option.bind_some,Bn h1 h2 (by omega) (by omega),Option.bind_some,Z9 (by omega),Zcn hn h1 h2 k (i+1) (by omega) (by omega),Yi h,List.all_cons]
   simp only [prB]
   generalize n.2.2.2.2.getD i default=p
   by_cases e:c.2.2.2.2.2.2.2<(p.2.length:Int)
   ·rw [decide_eq_true e,decide_eq_false (show ¬ ((p.2.length:Int)≤c.2.2.2.2.2.2.2) by omega)]
    cases Wn c p.1 <;> cases inS s p.1 <;> rfl
   ·rw [decide_eq_false e,decide_eq_true (show ((p.2.length:Int)≤c.2.2.2.2.2.2.2) by omega)]
    cases Wn c p.1 <;> cases inS s p.1 <;> simp
  ·have z:∀ {α:Type} [DecidableEq α] (l:List α),decide ((l.length:Int)=0)=decide (l=[]):=fun l=>by
    cases l <;> simp
    omega
   rw [if_neg (by simp only [decide_eq_true_eq]; omega),Zgi h150 hn.rk (by omega),Option.bind_some,List.drop_eq_nil_of_le (by omega),z,z,z]
   cases decide (n.2.1=[]) <;> cases decide (n.2.2.1=[]) <;> cases decide (n.2.2.2.1=[]) <;> cases decide ((n.2.2.2.2.length:Int)≤c.2.2.2.2.2.1) <;> rfl
theorem Zf2 {c:Cfg} {s:Sp} {n:Nd} (hn:MidN n) (h1:s.1.length≤2000) (h2:s.2.1.length≤2000) {k:Nat} (hk:4000<k):Q155.f k c s n=some (Zae c s n):=by
 have:=Zcn (c:=c) hn h1 h2 k 0 (by omega) (by have:=hn.prs; omega)
 simpa [Q155.f,Zae] using this
theorem Zc8 {l:TH} {i:Nat} (h:i+1<l.length):Vm (l.drop i)=(Op.bytesLess (l.getD i []) (l.getD (i+1) []) && Vm (l.drop (i+1))):=by
 rw [Yi (show i<l.length by omega),Yi h]
 rfl
theorem Zes {l:TH} {i:Nat} (h:l.length≤i+1):Vm (l.drop i)=true:=by
 by_cases h':i<l.length
 ·rw [Yi h',List.drop_eq_nil_of_le (by omega)]
  rfl
 ·rw [List.drop_eq_nil_of_le (by omega)]
  rfl
structure SmallL (l:TH) (s:Sp):Prop where
 len:l.length≤80
 all:∀ p∈l,p.length≤300
 lo:s.1.length≤300
 hi:s.2.1.length≤300
theorem SmallL.get {l:TH} {s:Sp} (h:SmallL l s) (i:Nat):(l.getD i []).length≤300:=by
 by_cases hi:i<l.length
 ·exact h.all _ (Xs hi)
 ·rw [List.getD_eq_getElem?_getD,List.getElem?_eq_none (by omega)]
  exact Nat.zero_le _
theorem Zih {s:Sp} {l:TH} (hs:SmallL l s):∀(k i:Nat),i≤l.length→2001+(l.length - i)<k→Q148.l0 k l ((i+1:Nat):Int)=some (Vm (l.drop i))
 | 0,i,_,h=>by omega
 | k+1,i,hi,hk=>by
  have h80:=hs.len
  rw [Q148.l0]
  by_cases h:i+1<l.length
  ·have g1:(0:Int)≤(i:Int)∧(i:Int)<(l.length:Int):=by omega
   have g2:(0:Int)≤((i+1:Nat):Int)∧((i+1:Nat):Int)<(l.length:Int):=by omega
   have k1:(l.getD i default).length≤300:=hs.get i
   have k2:(l.getD (i+1) default).length≤300:=hs.get (i+1)
   rw [if_pos (decide_eq_true g2.2),Bb (by omega) (by omega),Nat.add_sub_cancel,if_pos g1,if_pos g2,Z8,Z8,Vu (by omega) (by omega) (by omega),Option.bind_some,Zbj,Z9 (by omega),Zih hs k (i+1) (by omega) (by omega),Zc8 h]
   show (if (!Op.bytesLess (l.getD i []) (l.getD (i+1) []))=true then some false else some (Vm (l.drop (i+1))))=_
   cases Op.bytesLess (l.getD i []) (l.getD (i+1) []) <;> rfl
  ·rw [if_neg (by simp only [decide_eq_true_eq]; omega),Zes (by omega)]
theorem Zkx {s:Sp} {l:TH} (hs:SmallL l s) {k:Nat} (hk:3000<k):Q148.f k l=some (Vm l):=by
 have:=Zih hs k 0 (by omega) (by have:=hs.len; omega)
 simpa [Q148.f] using this
def piv (s:Sp) (p:TP):Bool:=inS s p && !decide (p=s.1)
theorem Zbq {s:Sp} {l:TH} (hs:SmallL l s):∀(k i:Nat),i≤l.length→3001+(l.length - i)<k→Q147.l0 k l s (i:Int)=some ((l.drop i).all (piv s) && Vm l)
 | 0,i,_,h=>by omega
 | k+1,i,hi,hk=>by
  have h80:=hs.len
  rw [Q147.l0]
  by_cases h:i<l.length
  ·have g1:(0:Int)≤(i:Int)∧(i:Int)<(l.length:Int):=by omega
   have k1:(l.getD i default).length≤300:=hs.get i
   have hlo:=hs.lo
   have hhi:=hs.hi
   have eta:(s.1,s.2.1,s.2.2)=s:=rfl
   rw [if_pos (decide_eq_true g1.2),if_pos g1,Z8,Bn (by omega) (by omega) (by omega) (by omega),Option.bind_some,Z9 (by omega),Zbq hs k (i+1) (by omega) (by omega),Yi h,List.all_cons]
   simp only [piv]
   cases inS s (l.getD i default) <;> by_cases e:l.getD i default=s.1 <;> simp only [e,decide_true,decide_false] <;> rfl
  ·rw [if_neg (by simp only [decide_eq_true_eq]; omega),Zkx hs (by omega),List.drop_eq_nil_of_le (by omega)]
   rfl
theorem Zfj {s:Sp} {l:TH} (hs:SmallL l s) {k:Nat} (hk:4000<k):Q147.f k l s=some (l.all (piv s) && Vm l):=by
 have:=Zbq hs k 0 (by omega) (by have:=hs.len; omega)
 simpa [Q147.f] using this
def Uo:List Msg→Bool
 | a :: b :: r=>Op.bytesLess a.1 b.1 && Uo (b :: r)
 | _=>true
theorem Zjz {l:List Msg} {i:Nat} (h:i+1<l.length):Uo (l.drop i)=(Op.bytesLess (l.getD i default).1 (l.getD (i+1) default).1 && Uo (l.drop (i+1))):=by
 rw [Yi (show i<l.length by omega),Yi h]
 rfl
theorem Zk8 {l:List Msg} {i:Nat} (h:l.length≤i+1):Uo (l.drop i)=true:=by
 by_cases h':i<l.length
 ·rw [Yi h',List.drop_eq_nil_of_le (by omega)]
  rfl
 ·rw [List.drop_eq_nil_of_le (by omega)]
  rfl
theorem Zbu:∀(k:Nat) (l:List Msg) (i:Nat),(l.length≤800∧∀ m∈l,m.1.length≤300)→i≤l.length→2001+(l.length - i)<k→Q143.l0 k l ((i+1:Nat):Int)=some (Uo (l.drop i))
 | 0,l,i,_,_,h=>by omega
 | k+1,l,i,hl,hi,hk=>by
  have h150:=hl.1
  rw [Q143.l0]
  by_cases h:i+1<l.length
  ·have g1:(0:Int)≤(i:Int)∧(i:Int)<(l.length:Int):=by omega
   have g2:(0:Int)≤((i+1:Nat):Int)∧((i+1:Nat):Int)<(l.length:Int):=by omega
   have k1:=hl.2 _ (Xs (d:=default) (show i<l.length by omega))
   have k2:=hl.2 _ (Xs (d:=default) h)
   rw [if_pos (decide_eq_true g2.2),Bb (by omega) (by omega),Nat.add_sub_cancel,if_pos g1,if_pos g2,Z8,Z8,Vu (by omega) (by omega) (by omega),Option.bind_some,Zbj,Z9 (by omega),Zbu k l (i+1) hl (by omega) (by omega),Zjz h]
   cases Op.bytesLess (l.getD i default).1 (l.getD (i+1) default).1 <;> rfl
  ·rw [if_neg (by simp only [decide_eq_true_eq]; omega),Zk8 (by omega)]
def Gn (c:Cfg) (s:Sp) (m:Msg):Bool:=Wn c m.1 && (inS s m.1 && (decide ((m.2.2.length:Int)≤c.2.2.2.2.2.2.2) && (!m.2.1 || decide (m.2.2=[]))))
def Zbd (c:Cfg) (s:Sp) (n:Nd):Bool:=decide (n.1≤40) && (decide (n.2.2.2.2=[]) && (decide (1≤n.2.1.length) && (decide ((n.2.1.length:Int)≤c.2.2.2.1) && (decide (n.2.2.1.length+1=n.2.1.length) && ((n.2.2.1.all (piv s) && Vm n.2.2.1) && (decide ((n.2.2.2.1.length:Int)≤c.2.2.2.2.1) && Uo n.2.2.2.1))))))
theorem MidN.l {n:Nd} (hn:MidN n) {s:Sp} (h1:s.1.length≤300) (h2:s.2.1.length≤300):SmallL n.2.2.1 s:=⟨hn.pivs,fun p hp=>by have:=hn.pk p hp; omega,h1,h2⟩
theorem Zfh {n:Nd} (hn:MidN n) {k:Nat} (hk:3000<k):Q143.f k n.2.2.2.1=some (Uo n.2.2.2.1):=by
 have:=Zbu k n.2.2.2.1 0 ⟨hn.buf,fun m hm=>by have:=hn.bk m hm; omega⟩ (by omega) (by have:=hn.buf; omega)
 simpa [Q143.f] using this
theorem Zc7 {c:Cfg} {s:Sp} {n:Nd} (hn:MidN n) (h1:s.1.length≤300) (h2:s.2.1.length≤300):∀(k i:Nat),i≤n.2.2.2.1.length→5001+(n.2.2.2.1.length - i)<k→
  Q154.l3 k c s n (i:Int)=some ((n.2.2.2.1.drop i).all (Gn c s) && Zbd c s n)
 | 0,i,_,h=>by omega
 | k+1,i,hi,hk=>by
  have h150:=hn.buf
  have h80:=hn.pivs
  have hk80:=hn.kids
  have eta:(s.1,s.2.1,s.2.2)=s:=rfl
  rw [Q154.l3]
  by_cases h:i<n.2.2.2.1.length
  ·have g1:(0:Int)≤(i:Int)∧(i:Int)<(n.2.2.2.1.length:Int):=by omega
   have k1:=hn.bk _ (Xs (d:=default) h)
   have etc:(c.1,c.2.1,c.2.2.1,c.2.2.2.1,c.2.2.2.2.1,c.2.2.2.2.2.1,c.2.2.2.2.2.2.1,c.2.2.2.2.2.2.2)=c:=rfl
   rw [if_pos (decide_eq_true g1.2),if_pos g1,Z8,Bk,Option.bind_some,Bn (by omega) (by omega) (by omega) (by omega),Option.bind_some,Z9 (by omega),Zc7 hn h1 h2 k (i+1) (by omega) (by omega),Yi h,List.all_cons]
   simp only [Gn]
   generalize n.2.2.2.1.getD i default=p
   by_cases e:c.2.2.2.2.2.2.2<(p.2.2.length:Int)
   ·rw [decide_eq_true e,decide_eq_false (show ¬ ((p.2.2.length:Int)≤c.2.2.2.2.2.2.2) by omega)]
    cases Wn c p.1 <;> cases inS s p.1 <;> rfl
   ·rw [decide_eq_false e,decide_eq_true (show ((p.2.2.length:Int)≤c.2.2.2.2.2.2.2) by omega)]
    cases Wn c p.1 <;> cases inS s p.1 <;> cases p.2.1 <;> cases decide (p.2.2=[]) <;> simp
  ·have z:decide (0<(n.2.2.2.2.length:Int))=!decide (n.2.2.2.2=[]):=by
    cases n.2.2.2.2 <;> simp
   have y1:decide (40<n.1)=!decide (n.1≤40):=by by_cases q:n.1≤40 <;> simp [q] <;> omega
   have y2:decide ((n.2.1.length:Int)<1)=!decide (1≤n.2.1.length):=by by_cases q:1≤n.2.1.length <;> simp [q] <;> omega
   have y3:decide (c.2.2.2.1<(n.2.1.length:Int))=!decide ((n.2.1.length:Int)≤c.2.2.2.1):=by by_cases q:(n.2.1.length:Int)≤c.2.2.2.1 <;> simp [q] <;> omega
   have y4:decide (w64 ((n.2.2.1.length:Int)+1)=(n.2.1.length:Int))=decide (n.2.2.1.length+1=n.2.1.length):=by
    rw [Z9 (by omega)]
    congr 1
    exact propext (by omega)
   rw [if_neg (by simp only [decide_eq_true_eq]; omega),Zfj (hn.l h1 h2) (by omega),Zfh hn (by omega),List.drop_eq_nil_of_le (by omega),z,y1,y2,y3,y4]
   simp only [Zbd,Option.bind_some,List.all_nil,Bool.true_and]
   cases decide (n.1≤40) <;> cases decide (n.2.2.2.2=[]) <;> cases decide (1≤n.2.1.length) <;> cases decide ((n.2.1.length:Int)≤c.2.2.2.1) <;> cases decide (n.2.2.1.length+1=n.2.1.length) <;> cases (n.2.2.1.all (piv s) && Vm n.2.2.1) <;> cases decide ((n.2.2.2.1.length:Int)≤c.2.2.2.2.1) <;> rfl
theorem Zcp {c:Cfg} {s:Sp} {n:Nd} (hn:MidN n) (h1:s.1.length≤300) (h2:s.2.1.length≤300):∀(k i:Nat),i≤n.2.2.1.length→6001+(n.2.2.1.length - i)<k→
  Q154.l2 k c s n (i:Int)=some ((n.2.2.1.drop i).all (Wn c) && (n.2.2.2.1.all (Gn c s) && Zbd c s n))
 | 0,i,_,h=>by omega
 | k+1,i,hi,hk=>by
  have h80:=hn.pivs
  have h150:=hn.buf
  rw [Q154.l2]
  by_cases h:i<n.2.2.1.length
  ·have g1:(0:Int)≤(i:Int)∧(i:Int)<(n.2.2.1.length:Int):=by omega
   have etc:(c.1,c.2.1,c.2.2.1,c.2.2.2.1,c.2.2.2.2.1,c.2.2.2.2.2.1,c.2.2.2.2.2.2.1,c.2.2.2.2.2.2.2)=c:=rfl
   rw [if_pos (decide_eq_true g1.2),if_pos g1,Z8,Bk,Option.bind_some,Z9 (by omega),Zcp hn h1 h2 k (i+1) (by omega) (by omega),Yi h,List.all_cons]
   cases Wn c (n.2.2.1.getD i default) <;> rfl
  ·rw [if_neg (by simp only [decide_eq_true_eq]; omega),List.drop_eq_nil_of_le (by omega)]
   have:=Zc7 (c:=c) hn h1 h2 k 0 (by omega) (by omega)
   simpa using this
def neB (l:TU) (i q:Nat):Bool:=!decide (l.getD q 0=l.getD i 0)
def Je (c:Cfg) (l:TU) (i:Nat):Bool:=!decide (l.getD i 0=0) && (!decide (c.1≤w64 (l.getD i 0)) && (List.range' 0 i).all (neB l i))
def Za8 (c:Cfg) (s:Sp) (n:Nd):Bool:=n.2.2.1.all (Wn c) && (n.2.2.2.1.all (Gn c s) && Zbd c s n)
theorem Zax {c:Cfg} {s:Sp} {n:Nd} (hn:MidN n) (h1:s.1.length≤300) (h2:s.2.1.length≤300):∀(k:Nat),
  (∀ i:Nat,i≤n.2.1.length→6100+(n.2.1.length - i)*100<k→Q154.l0 k c s n (i:Int)=some ((List.range' i (n.2.1.length - i)).all (Je c n.2.1) && Za8 c s n))∧
  (∀ i q:Nat,i<n.2.1.length→q≤i→6100+(n.2.1.length - i - 1)*100+(i - q)+1<k→Q154.l1 k c s n (i:Int) (q:Int)=some ((List.range' q (i - q)).all (neB n.2.1 i) && ((List.range' (i+1) (n.2.1.length - i - 1)).all (Je c n.2.1) && Za8 c s n)))
 | 0=>⟨fun i _ h=>by omega,fun i q _ _ h=>by omega⟩
 | k+1=>by
  have h80:=hn.kids
  have h80':=hn.pivs
  obtain ⟨ih0,ih1⟩:=Zax (c:=c) hn h1 h2 k
  refine ⟨fun i hi hk=>?_,fun i q hi hq hk=>?_⟩
  ·rw [Q154.l0]
   by_cases h:i<n.2.1.length
   ·have g1:(0:Int)≤(i:Int)∧(i:Int)<(n.2.1.length:Int):=by omega
    have:=ih1 i 0 h (by omega) (by omega)
    simp only [Int.natCast_zero,Int.ofNat_eq_natCast,Nat.sub_zero] at this
    have e0:gt n.2.1 (i:Int)=n.2.1.getD i 0:=Z8 n.2.1 i
    rw [if_pos (decide_eq_true g1.2),if_pos g1,e0,show Q154.l1 k c s n (i:Int) 0=_ from this,show n.2.1.length - i=(n.2.1.length - i - 1)+1 by omega,List.range'_succ,List.all_cons]
    simp only [Je,Nat.add_sub_cancel]
    cases decide (n.2.1.getD i 0=0) <;> cases decide (c.1≤w64 (n.2.1.getD i 0)) <;> simp [Bool.and_assoc]
   ·rw [if_neg (by simp only [decide_eq_true_eq]; omega),show n.2.1.length - i=0 by omega]
    have:=Zcp (c:=c) hn h1 h2 k 0 (by omega) (by omega)
    simpa [Za8] using this
  ·rw [Q154.l1]
   by_cases h:q<i
   ·have g1:(0:Int)≤(q:Int)∧(q:Int)<(n.2.1.length:Int):=by omega
    have e0:gt n.2.1 (i:Int)=n.2.1.getD i 0:=Z8 n.2.1 i
    have e1:gt n.2.1 (q:Int)=n.2.1.getD q 0:=Z8 n.2.1 q
    rw [if_pos (decide_eq_true (by omega)),if_pos g1,e0,e1,Z9 (by omega),ih1 i (q+1) hi (by omega) (by omega),show i - q=(i - (q+1))+1 by omega,List.range'_succ,List.all_cons]
    simp only [neB]
    cases decide (n.2.1.getD q 0=n.2.1.getD i 0) <;> rfl
   ·rw [if_neg (by simp only [decide_eq_true_eq]; omega),Z9 (by omega),ih0 (i+1) (by omega) (by omega),show i - q=0 by omega,show n.2.1.length - (i+1)=n.2.1.length - i - 1 by omega]
    rfl
def Za2 (c:Cfg) (s:Sp) (n:Nd):Bool:=(List.range' 0 n.2.1.length).all (Je c n.2.1) && Za8 c s n
theorem Zga {c:Cfg} {s:Sp} {n:Nd} (hn:MidN n) (h1:s.1.length≤300) (h2:s.2.1.length≤300) {k:Nat} (hk:15000<k):Q154.f k c s n=some (Za2 c s n):=by
 have h80:=hn.kids
 have:=(Zax (c:=c) hn h1 h2 k).1 0 (by omega) (by omega)
 simpa [Q154.f,Za2] using this
structure RightN (c:Cfg) (s:Sp) (n:Nd):Prop where
 small:SmallN n
 cfg:OkC c
 lo:s.1.length≤200
 hi:s.2.1.length≤200
 leaf:n.1=0→Zae c s n=true
 node:n.1≠0→0<n.1∧Za2 c s n=true
theorem Zfw {c:Cfg} {s:Sp} {n:Nd} (hn:MidN n) (h1:s.1.length≤300) (h2:s.2.1.length≤300) {k:Nat} (hk:15000<k) :
  Q152.f k c s n=some (if n.1=0 then Zae c s n else decide (0<n.1) && Za2 c s n):=by
 unfold Q152.f
 by_cases h:n.1=0
 ·rw [if_pos (decide_eq_true h),if_pos h]
  rw [show Q155.f k _ _ _=_ from Zf2 (c:=c) (s:=s) hn (by omega) (by omega) (by omega)]
  rfl
 ·rw [if_neg (by simp only [decide_eq_true_eq]; exact h),if_neg h]
  by_cases h0:0<n.1
  ·rw [if_pos (decide_eq_true h0),show Q154.f k _ _ _=_ from Zga (c:=c) (s:=s) hn h1 h2 hk,decide_eq_true h0]
   rfl
  ·rw [if_neg (by simp only [decide_eq_true_eq]; exact h0),decide_eq_false h0]
   rfl
theorem Zio:∀ l:List Msg,Uo l=Ji (fun x=>x.1) l
 | []=>rfl
 | [_]=>rfl
 | a :: b :: r=>by rw [Uo,Ji,Zio (b :: r)]
theorem Zh2:∀ l:List Pr,V6 l=Ji (fun x=>x.1) l
 | []=>rfl
 | [_]=>rfl
 | a :: b :: r=>by rw [V6,Ji,Zh2 (b :: r)]
theorem Vv {α:Type} [Inhabited α] [DecidableEq α] {F:Nat→Int→Option Bool} {a b:List α} {eqb:α→α→Bool} (he:∀ x y,eqb x y=decide (x=y)) (hab:a.length=b.length) (ha:a.length≤1000000)
  (hF:∀ k i,F (k+1) i=if (decide (i<(a.length:Int)))=true then (if 0≤i∧i<(a.length:Int) then (if 0≤i∧i<(b.length:Int) then (if (!(eqb (gt a i) (gt b i)))=true then (some false) else (F k (w64 (i+1)))) else none) else none) else (some true)) :
  ∀(k i:Nat),i≤a.length→a.length - i<k→F k (i:Int)=some (decide (a.drop i=b.drop i))
 | 0,i,_,h=>by omega
 | k+1,i,hi,hk=>by
  rw [hF]
  by_cases h:i<a.length
  ·have g1:(0:Int)≤(i:Int)∧(i:Int)<(a.length:Int):=by omega
   have g2:(0:Int)≤(i:Int)∧(i:Int)<(b.length:Int):=by omega
   rw [if_pos (decide_eq_true g1.2),if_pos g1,if_pos g2,he,Z9 (by omega),Vv he hab ha hF k (i+1) (by omega) (by omega),Yi h,Yi (show i<b.length by omega),Z8,Z8]
   generalize a.getD i default=x
   generalize b.getD i default=y
   by_cases e:x=y
   ·simp [e]
   ·simp [e]
  ·rw [if_neg (by simp; omega),List.drop_eq_nil_of_le (by omega),List.drop_eq_nil_of_le (by omega)]
   rfl
theorem Zhm {k:Nat} {a b:TU} (ha:a.length≤1000000) (hk:a.length<k):Q150.f k a b=some (decide (a=b)):=by
 unfold Q150.f
 by_cases h:a.length=b.length
 ·rw [if_neg (by simp [h])]
  have:=Vv (F:=fun k i=>Q150.l0 k a b i) (eqb:=fun x y=>decide (x=y)) (fun x y=>rfl) h ha (fun k i=>rfl) k 0 (by omega) (by omega)
  simpa using this
 ·rw [if_pos (by simp; omega)]
  have:a≠b:=fun e=>h (by rw [e])
  simp [this]
theorem Zhl {k:Nat} {a b:TH} (ha:a.length≤1000000) (hk:a.length<k):Q149.f k a b=some (decide (a=b)):=by
 unfold Q149.f
 by_cases h:a.length=b.length
 ·rw [if_neg (by simp [h])]
  have:=Vv (F:=fun k i=>Q149.l0 k a b i) (eqb:=fun x y=>decide (x=y)) (fun x y=>rfl) h ha (fun k i=>rfl) k 0 (by omega) (by omega)
  simpa using this
 ·rw [if_pos (by simp; omega)]
  have:a≠b:=fun e=>h (by rw [e])
  simp [this]
theorem Zpy (x y:Pr):(decide (x.1=y.1) && (decide (x.2=y.2) && true))=decide (x=y):=by
 obtain ⟨a,b⟩:=x
 obtain ⟨d,e⟩:=y
 by_cases h1:a=d <;> by_cases h2:b=e <;> simp [h1,h2]
theorem Zhr {k:Nat} {a b:List Pr} (ha:a.length≤1000000) (hk:a.length<k):Q146.f k a b=some (decide (a=b)):=by
 unfold Q146.f
 by_cases h:a.length=b.length
 ·rw [if_neg (by simp [h])]
  have:=Vv (F:=fun k i=>Q146.l0 k a b i) (eqb:=fun x y=>decide (x.1=y.1) && (decide (x.2=y.2) && true)) Zpy h ha (fun k i=>rfl) k 0 (by omega) (by omega)
  simpa using this
 ·rw [if_pos (by simp; omega)]
  have:a≠b:=fun e=>h (by rw [e])
  simp [this]
structure Short (n:Nd):Prop where
 kids:n.2.1.length≤1000
 pivs:n.2.2.1.length≤1000
 buf:n.2.2.2.1.length≤1000
 prs:n.2.2.2.2.length≤1000
theorem SmallN.short {n:Nd} (h:SmallN n):Short n:=⟨by have:=h.kids; omega,by have:=h.pivs; omega,by have:=h.buf; omega,by have:=h.prs; omega⟩
instance decNd4:DecidableEq (List Msg×List Pr):=instDecidableEqProd
instance decNd3:DecidableEq (List TP×List Msg×List Pr):=instDecidableEqProd
instance decNd2:DecidableEq (List Int×List TP×List Msg×List Pr):=instDecidableEqProd
instance decNd1:DecidableEq Nd:=instDecidableEqProd
def joinN (a:Nd) (p:TP) (b:Nd):Nd×Bool:=
 if a.1=b.1 then ((a.1,a.2.1 ++ b.2.1,if 0<a.1 then a.2.2.1 ++ [p] ++ b.2.2.1 else a.2.2.1,a.2.2.2.1 ++ b.2.2.2.1,a.2.2.2.2 ++ b.2.2.2.2),true) else ((0,[],[],[],[]),false)
def fitsN (c:Cfg) (a b:Nd):Bool:=decide (a.1=b.1) && (if a.1=0 then decide (2*((a.2.2.2.2.length+b.2.2.2.2.length:Nat):Int)≤c.2.2.2.2.2.1) else decide (2*((a.2.1.length+b.2.1.length:Nat):Int)≤c.2.2.2.1) && decide (((a.2.2.2.1.length+b.2.2.2.1.length:Nat):Int)≤c.2.2.2.2.1))
theorem Zmm {α:Type} {xs ys:List α} {l m:Nat} (h:l+m≤xs.length):(patch xs l m ys).length=xs.length:=by
 unfold patch
 simp only [List.length_append,List.length_take,List.length_drop]
 omega
theorem Zdy {n i:Nat} (hn:n≤1000) (hi:1≤i):∀(m t j:Nat) (x:TU),x.length=n→i+t+m=n→1≤t→i≤j→j+1≤i+t→∃ r,Ev (fun k=>Q95.l1 k (i:Int) x (j:Int) (t:Int)) r∧r.length<n
 | 0,t,j,x,hx,h,ht,hj,hjt=>by
  have hd:(x.drop j).length=n - j:=by rw [List.length_drop,hx]
  have hp:(patch x j (x.drop j).length (List.replicate (x.drop j).length (0:Int))).length=n:=by rw [Zmm (by omega),hx]
  refine ⟨(patch x j (x.drop j).length (List.replicate (x.drop j).length (0:Int))).take j,Ev.last fun k=>?_,by rw [List.length_take]; omega⟩
  rw [Q95.l1,if_neg (by simp only [Int.toNat_natCast,List.length_drop,decide_eq_true_eq]; omega),if_pos (by omega),Int.toNat_natCast,if_pos (by omega)]
 | m+1,t,j,x,hx,h,ht,hj,hjt=>by
  have e1:w64 ((t:Int) - 1)=((t - 1:Nat):Int):=wn (by omega) (by omega)
  have e2:w64 ((t:Int)+1)=((t+1:Nat):Int):=wn (by omega) (by omega)
  have e3:w64 ((j:Int)+1)=((j+1:Nat):Int):=wn (by omega) (by omega)
  have hd:(x.drop i).length=n - i:=by rw [List.length_drop,hx]
  by_cases q:gt (x.drop i) (t:Int)=gt (x.drop i) ((t - 1:Nat):Int)
  ·obtain ⟨r,h1,h2⟩:=Zdy hn hi m (t+1) j x hx (by omega) (by omega) hj (by omega)
   refine ⟨r,h1.step fun k hk=>?_,h2⟩
   rw [Q95.l1,Int.toNat_natCast,if_pos (decide_eq_true (by omega)),if_pos (by omega),e1,if_pos (by omega),if_neg (by simp [q]),e2]
   exact hk
  ·obtain ⟨r,h1,h2⟩:=Zdy hn hi m (t+1) (j+1) (x.set j (gt (x.drop i) (t:Int))) (by rw [List.length_set,hx]) (by omega) (by omega) (by omega) (by omega)
   refine ⟨r,h1.step fun k hk=>?_,h2⟩
   rw [Q95.l1,Int.toNat_natCast,if_pos (decide_eq_true (by omega)),if_pos (by omega),e1,if_pos (by omega),if_pos (by simp [q]),if_pos (by omega),Int.toNat_natCast,e2,e3]
   exact hk
def Zlt (l:TU):Prop:=∀ q,q+1<l.length→l.getD (q+1) 0≠l.getD q 0
theorem Zh8 {l:TU} (hn:l.length≤1000):∀(m i:Nat),i+m=l.length→1≤i→(∀ q,q+1<i→l.getD (q+1) 0≠l.getD q 0)→∃ r,Ev (fun k=>Q95.l0 k l (i:Int)) r∧(r.length=l.length↔Zlt l)
 | 0,i,h,hi,hq=>by
  refine ⟨l,Ev.last fun k=>?_,fun _ q hq'=>hq q (by omega),fun _=>rfl⟩
  rw [Q95.l0,if_neg (by simp only [decide_eq_true_eq]; omega)]
 | m+1,i,h,hi,hq=>by
  have e1:w64 ((i:Int) - 1)=((i - 1:Nat):Int):=wn (by omega) (by omega)
  have e2:w64 ((i:Int)+1)=((i+1:Nat):Int):=wn (by omega) (by omega)
  have g1:gt l (i:Int)=l.getD i 0:=Z8 l i
  have g2:gt l ((i - 1:Nat):Int)=l.getD (i - 1) 0:=Z8 l (i - 1)
  by_cases c:l.getD i 0=l.getD (i - 1) 0
  ·obtain ⟨r,h1,h2⟩:=Zdy hn hi (l.length - i - 1) 1 i l rfl (by omega) (Nat.le_refl _) (Nat.le_refl _) (Nat.le_refl _)
   refine ⟨r,h1.step fun k hk=>?_,fun e=>by omega,fun e=>absurd c (by have:=e (i - 1) (by omega); rwa [Nat.sub_add_cancel hi] at this)⟩
   rw [Q95.l0,if_pos (decide_eq_true (by omega)),if_pos (by omega),e1,if_pos (by omega),g1,g2,if_pos (decide_eq_true c),if_pos (by omega)]
   exact hk
  ·obtain ⟨r,h1,h2⟩:=Zh8 hn m (i+1) (by omega) (by omega) fun q hq'=>by
    by_cases e:q+1=i
    ·rw [e,show q=i - 1 by omega]; exact c
    ·exact hq q (by omega)
   refine ⟨r,h1.step fun k hk=>?_,h2⟩
   rw [Q95.l0,if_pos (decide_eq_true (by omega)),if_pos (by omega),e1,if_pos (by omega),g1,g2,if_neg (by simpa using c),e2]
   exact hk
theorem Zmd {l:TU} (hn:l.length≤1000):∃ r,Ev (fun k=>Q95.f k l) r∧(r.length=l.length↔Zlt l):=by
 by_cases h:l.length<2
 ·refine ⟨l,Ev.all fun k=>?_,fun _ q hq=>by omega,fun _=>rfl⟩
  unfold Q95.f
  rw [if_pos (decide_eq_true (by omega))]
 ·obtain ⟨r,h1,h2⟩:=Zh8 hn (l.length - 1) 1 (by omega) (Nat.le_refl _) (fun q hq=>by omega)
  refine ⟨r,h1.next fun k hk=>?_,h2⟩
  unfold Q95.f
  rw [if_neg (by simp only [decide_eq_true_eq]; omega)]
  exact hk
theorem Zk0 {l:TU} (hs:l.Pairwise (fun x y=>x≤y)):Zlt l↔l.Nodup:=by
 constructor
 ·intro h
  rw [List.Nodup,List.pairwise_iff_getElem]
  intro i j hi hj hij e
  have h1:=h i (by omega)
  rw [List.getD_eq_getElem?_getD,List.getD_eq_getElem?_getD,List.getElem?_eq_getElem (by omega),List.getElem?_eq_getElem hi] at h1
  simp only [Option.getD_some] at h1
  have a:=List.pairwise_iff_getElem.1 hs i (i+1) hi (by omega) (by omega)
  by_cases e1:i+1=j
  ·subst e1; exact h1 e.symm
  ·have b:=List.pairwise_iff_getElem.1 hs (i+1) j (by omega) hj (by omega)
   omega
 ·intro h q hq e
  rw [List.getD_eq_getElem?_getD,List.getD_eq_getElem?_getD,List.getElem?_eq_getElem hq,List.getElem?_eq_getElem (by omega)] at e
  exact (List.pairwise_iff_getElem.1 h q (q+1) (by omega) hq (by omega)) e.symm
theorem kids_all {c:Cfg} {l:TU}:(List.range' 0 l.length).all (Je c l)=true↔(∀ x∈l,x≠0∧¬ c.1≤w64 x)∧l.Nodup:=by
 have gd:∀ i (h:i<l.length),l.getD i 0=l[i]:=fun i h=>by rw [List.getD_eq_getElem?_getD,List.getElem?_eq_getElem h]; rfl
 rw [List.all_eq_true]
 constructor
 ·intro h
  refine ⟨fun x hx=>?_,?_⟩
  ·obtain ⟨i,hi,rfl⟩:=List.mem_iff_getElem.1 hx
   have:=h i (by simp [hi])
   simp only [Je,gd i hi,Bool.and_eq_true,Bool.not_eq_true',decide_eq_false_iff_not] at this
   exact ⟨this.1,this.2.1⟩
  ·rw [List.Nodup,List.pairwise_iff_getElem]
   intro i j hi hj hij e
   have:=h j (by simp [hj])
   simp only [Je,Bool.and_eq_true,List.all_eq_true] at this
   have:=this.2.2 i (by simp [hij])
   simp only [neB,gd i hi,gd j hj,Bool.not_eq_true',decide_eq_false_iff_not] at this
   exact this e
 ·rintro ⟨h1,h2⟩ i hi
  have hi:i<l.length:=by simpa using hi
  simp only [Je,gd i hi,Bool.and_eq_true,Bool.not_eq_true',decide_eq_false_iff_not,List.all_eq_true]
  refine ⟨(h1 _ (List.getElem_mem hi)).1,(h1 _ (List.getElem_mem hi)).2,fun q hq=>?_⟩
  have hq:q<i:=by simpa using hq
  simp only [neB,gd i hi,gd q (by omega),Bool.not_eq_true',decide_eq_false_iff_not]
  exact List.pairwise_iff_getElem.1 h2 q i (by omega) hi hq
def Zba (c:Cfg) (l:TU):Bool:=decide (1≤l.length) && (decide ((l.length:Int)≤c.2.2.2.1) && (List.range' 0 l.length).all (Je c l))
theorem Zpm {c:Cfg} {l:TU} (h80:l.length≤80) (hl:∀ x∈l,0≤x∧x<4294967296):Ev (fun k=>Q69.f k c l) (Zba c l):=by
 have hclone:Q94.f l=some l:=by
  unfold Q94.f
  rw [if_pos (by simp; omega)]; rfl
 obtain ⟨S,hS⟩:∃ S,S=l.mergeSort fun x y=>decide (x≤y):=⟨_,rfl⟩
 have hperm:S.Perm l:=hS ▸ List.mergeSort_perm _ _
 have hlen:S.length=l.length:=hperm.length_eq
 have hsort:S.Pairwise (fun x y=>x≤y):=by
  have:=List.pairwise_mergeSort (le:=fun x y:Int=>decide (x≤y)) (fun a b c h1 h2=>by simp only [decide_eq_true_eq] at *; omega) (fun a b=>by simp only [Bool.or_eq_true,decide_eq_true_eq]; omega) l
  rw [← hS] at this
  exact this.imp fun h=>of_decide_eq_true h
 have hs:=Zmu (l:=l) (by omega)
 rw [← hS] at hs
 obtain ⟨r,hr1,hr2⟩:=Zmd (l:=S) (by omega)
 refine hs.next2 hr1 fun k k1 k2=>?_
 unfold Q69.f
 rw [hclone,Option.bind_some,k1,Option.bind_some]
 by_cases c1:l.length<1
 ·rw [if_pos (decide_eq_true (by omega))]
  simp [Zba,show ¬ 1≤l.length by omega]
 rw [if_neg (by simp only [decide_eq_true_eq]; omega)]
 by_cases c2:c.2.2.2.1<(l.length:Int)
 ·rw [if_pos (decide_eq_true c2)]
  simp [Zba,show ¬ (l.length:Int)≤c.2.2.2.1 by omega]
 rw [if_neg (by simpa using c2),if_pos (by omega),wn (x:=(l.length:Int) - 1) (n:=l.length - 1) (by omega) (by omega)]
 have g0:gt S 0=S[0]'(by omega):=by
  rw [show (0:Int)=((0:Nat):Int) from rfl,Z8,List.getD_eq_getElem?_getD,List.getElem?_eq_getElem (by omega)]; rfl
 have g1:gt S ((l.length - 1:Nat):Int)=S[l.length - 1]'(by omega):=by
  rw [Z8,List.getD_eq_getElem?_getD,List.getElem?_eq_getElem (by omega)]; rfl
 have m0:S[0]'(by omega)∈l:=hperm.mem_iff.1 (List.getElem_mem _)
 have m1:S[l.length - 1]'(by omega)∈l:=hperm.mem_iff.1 (List.getElem_mem _)
 rw [g0,g1]
 have base:Zba c l=(List.range' 0 l.length).all (Je c l):=by
  unfold Zba
  rw [decide_eq_true (show 1≤l.length by omega),decide_eq_true (show (l.length:Int)≤c.2.2.2.1 by omega)]; rfl
 rw [base]
 by_cases c3:S[0]'(by omega)=0
 ·rw [if_pos (decide_eq_true c3)]
  refine congrArg some (Bool.eq_false_iff.2 fun e=>?_).symm
  exact ((kids_all.1 e).1 _ m0).1 c3
 rw [if_neg (by simpa using c3),if_pos (by omega)]
 by_cases c4:c.1≤w64 (S[l.length - 1]'(by omega))
 ·rw [if_pos (decide_eq_true c4)]
  refine congrArg some (Bool.eq_false_iff.2 fun e=>?_).symm
  exact ((kids_all.1 e).1 _ m1).2 c4
 rw [if_neg (by simpa using c4),k2,Option.bind_some]
 have key:r.length=l.length↔(List.range' 0 l.length).all (Je c l)=true:=by
  rw [← hlen,hr2,Zk0 hsort,hperm.nodup_iff,hlen,kids_all]
  refine ⟨fun h=>⟨fun x hx=>?_,h⟩,fun h=>h.2⟩
  obtain ⟨i,hi,rfl⟩:=List.mem_iff_getElem.1 (hperm.mem_iff.2 hx)
  have a0:=hl _ m0
  have a1:=hl _ m1
  have ax:=hl _ hx
  have b0:S[0]'(by omega)≤S[i]:=by
   by_cases z:i=0
   ·subst z; exact Int.le_refl _
   ·exact List.pairwise_iff_getElem.1 hsort 0 i (by omega) hi (by omega)
  have b1:S[i]≤S[l.length - 1]'(by omega):=by
   by_cases z:i=l.length - 1
   ·subst z; exact Int.le_refl _
   ·exact List.pairwise_iff_getElem.1 hsort i (l.length - 1) hi (by omega) (by omega)
  rw [Zy (by omega) (by omega)] at c4 ⊢
  exact ⟨by omega,by omega⟩
 refine congrArg some (Bool.eq_iff_iff.2 ?_)
 rw [decide_eq_true_eq,← key]
 omega
theorem Zfo (s:Sp) (x:TP):Q63.f s x=some (inS s x):=by
 unfold Q63.f inS
 cases Op.bytesLess x s.1 <;> cases s.2.2 <;> rfl
theorem Zht (a b:TP):Q62.f a b=some (Xh a b):=rfl
theorem Zak {l:TH} (s:Sp) (hl:l.length≤80):∀(k i:Nat),i≤l.length→l.length - i<k→Q59.l0 k l s (i:Int)=some ((l.drop i).all (piv s) && Vm (l.drop (i - 1)))
 | 0,i,_,h=>by omega
 | k+1,i,hi,hk=>by
  rw [Q59.l0]
  by_cases h:i<l.length
  ·have g1:(0:Int)≤(i:Int)∧(i:Int)<(l.length:Int):=by omega
   have eta:(s.1,s.2.1,s.2.2)=s:=rfl
   have ih:=Zak s hl k (i+1) (by omega) (by omega)
   rw [if_pos (decide_eq_true g1.2),if_pos g1,Z8]; (try rw [eta]); rw [Zfo,Option.bind_some,Z9 (by omega),ih,Yi h,List.all_cons,Nat.add_sub_cancel]
   simp only [piv]
   cases h1:inS s (l.getD i default) with
   | false=>rfl
   | true=>
    by_cases e:l.getD i default=s.1
    ·rw [if_neg (by simp),if_pos (decide_eq_true e),decide_eq_true e]; rfl
    ·rw [if_neg (by simp),if_neg (by simp only [e,decide_false]; simp)]
     by_cases h0:0<i
     ·have g2:(0:Int)≤((i - 1:Nat):Int)∧((i - 1:Nat):Int)<(l.length:Int):=by omega
      rw [if_pos (decide_eq_true (by omega)),Bb h0 (by omega),if_pos g2,Z8,Zht,Option.bind_some,Zbj]
      have:=Zc8 (l:=l) (i:=i - 1) (by omega)
      rw [Nat.sub_add_cancel h0] at this
      rw [this,decide_eq_false e]
      show (if (!Op.bytesLess (l.getD (i - 1) []) (l.getD i []))=true then _ else _)=_
      cases Op.bytesLess (l.getD (i - 1) []) (l.getD i []) <;> simp
     ·obtain rfl:i=0:=by omega
      rw [if_neg (by simp),decide_eq_false e]
      simp
  ·rw [if_neg (by simp only [decide_eq_true_eq]; omega),List.drop_eq_nil_of_le (by omega),Zes (by omega)]
   rfl
theorem Zj8 {l:TH} (s:Sp) (hl:l.length≤80) {k:Nat} (hk:100<k):Q59.f k l s=some (l.all (piv s) && Vm l):=by
 have:=Zak s hl k 0 (by omega) (by omega)
 simpa [Q59.f] using this
theorem Zit {l:List Pr} (hl:l.length≤100000) {k:Nat} (hk:l.length<k):Q60.f k l=some (V6 l):=by
 have:=Gr (key:=fun x:Pr=>x.1) (F:=fun k i=>Q60.l0 k l i) (by omega) (fun k i=>rfl) k 0 (by omega) (by omega)
 rw [Zh2]
 simpa [Q60.f] using this
theorem Zld {l:List Msg} (hl:l.length≤100000) {k:Nat} (hk:l.length<k):Q12.f k l=some (Uo l):=by
 have:=Gr (key:=fun x:Msg=>x.1) (F:=fun k i=>Q12.l0 k l i) (by omega) (fun k i=>rfl) k 0 (by omega) (by omega)
 rw [Zio]
 simpa [Q12.f] using this
theorem Ut {α:Type} [Inhabited α] {l:List α} {F:Nat→Int→Option Int} {p:α→Bool} (hl:l.length≤100000)
  (hF:∀ k i,F (k+1) i=if (decide (i<(l.length:Int)))=true then (if 0≤i∧i<(l.length:Int) then (if p (gt l i)=true then (some i) else (F k (w64 (i+1)))) else none) else (some (-1))) :
  ∀(m i k:Nat),i+m=l.length→m<k→∃ r,F k (i:Int)=some r∧decide (0≤r)=(l.drop i).any p
 | 0,i,0,_,h=>by omega
 | m+1,i,0,_,h=>by omega
 | 0,i,k+1,h,_=>⟨-1,by rw [hF,if_neg (by simp only [decide_eq_true_eq]; omega)],by rw [List.drop_eq_nil_of_le (by omega)]; rfl⟩
 | m+1,i,k+1,h,hk=>by
  rw [hF,if_pos (decide_eq_true (by omega)),if_pos (by omega),Z8,Yi (show i<l.length by omega),List.any_cons]
  by_cases c:p (l.getD i default)=true
  ·exact ⟨_,by rw [if_pos c],by rw [c,decide_eq_true (by omega)]; rfl⟩
  ·obtain ⟨r,h1,h2⟩:=Ut hl hF m (i+1) k (by omega) (by omega)
   exact ⟨r,by rw [if_neg c,Z9 (by omega),h1],by rw [h2,Bool.eq_false_iff.2 c]; rfl⟩
theorem Zb6 (c:Cfg) (x:TP):Q64.f c x=some (Wn c x):=by
 unfold Q64.f Wn
 by_cases h:1≤(x.length:Int) <;> simp [h]
theorem Zns (p:Pr) (c:Cfg) (s:Sp):Q71.f p c s=some (!prB c s p):=by
 unfold Q71.f prB
 rw [show Q64.f (c.1,c.2.1,c.2.2.1,c.2.2.2.1,c.2.2.2.2.1,c.2.2.2.2.2.1,c.2.2.2.2.2.2.1,c.2.2.2.2.2.2.2) p.1=_ from Zb6 c p.1,Option.bind_some,show Q63.f (s.1,s.2.1,s.2.2) p.1=_ from Zfo s p.1,Option.bind_some]
 by_cases e:c.2.2.2.2.2.2.2<(p.2.length:Int)
 ·rw [decide_eq_true e,decide_eq_false (show ¬ ((p.2.length:Int)≤c.2.2.2.2.2.2.2) by omega)]
  cases Wn c p.1 <;> cases inS s p.1 <;> rfl
 ·rw [decide_eq_false e,decide_eq_true (show ((p.2.length:Int)≤c.2.2.2.2.2.2.2) by omega)]
  cases Wn c p.1 <;> cases inS s p.1 <;> rfl
theorem Znw (x:TP) (c:Cfg):Q67.f x c=some (!Wn c x):=by
 unfold Q67.f
 rw [show Q64.f (c.1,c.2.1,c.2.2.1,c.2.2.2.1,c.2.2.2.2.1,c.2.2.2.2.2.1,c.2.2.2.2.2.2.1,c.2.2.2.2.2.2.2) x=_ from Zb6 c x,Option.bind_some]
theorem Znh (p:Msg) (c:Cfg) (s:Sp):Q68.f p c s=some (!Gn c s p):=by
 unfold Q68.f Gn
 rw [show Q64.f (c.1,c.2.1,c.2.2.1,c.2.2.2.1,c.2.2.2.2.1,c.2.2.2.2.2.1,c.2.2.2.2.2.2.1,c.2.2.2.2.2.2.2) p.1=_ from Zb6 c p.1,Option.bind_some,show Q63.f (s.1,s.2.1,s.2.2) p.1=_ from Zfo s p.1,Option.bind_some]
 by_cases e:c.2.2.2.2.2.2.2<(p.2.2.length:Int)
 ·rw [decide_eq_true e,decide_eq_false (show ¬ ((p.2.2.length:Int)≤c.2.2.2.2.2.2.2) by omega)]
  cases Wn c p.1 <;> cases inS s p.1 <;> rfl
 ·rw [decide_eq_false e,decide_eq_true (show ((p.2.2.length:Int)≤c.2.2.2.2.2.2.2) by omega)]
  cases Wn c p.1 <;> cases inS s p.1 <;> cases p.2.1 <;> cases decide (p.2.2=[]) <;> rfl
theorem Zjx {c:Cfg} {s:Sp} {l:List Pr} (hl:l.length≤100000) {k:Nat} (hk:l.length<k):Q97.f k l c s=some (!l.all (prB c s)):=by
 obtain ⟨r,h1,h2⟩:=Ut (l:=l) (F:=fun k i=>Q103.l0 k l c s i) (p:=fun x=>!prB c s x) hl (fun k i=>by
  show Q103.l0 (k+1) l c s i=_
  rw [Q103.l0,Zns,Option.bind_some]) l.length 0 k (by omega) hk
 unfold Q97.f Q103.f
 rw [show Q103.l0 k l (c.1,c.2.1,c.2.2.1,c.2.2.2.1,c.2.2.2.2.1,c.2.2.2.2.2.1,c.2.2.2.2.2.2.1,c.2.2.2.2.2.2.2) (s.1,s.2.1,s.2.2) 0=_ from h1,Option.bind_some,h2,List.drop_zero]
 exact congrArg some (by rw [List.all_eq_not_any_not,Bool.not_not])
theorem Zje {c:Cfg} {l:TH} (hl:l.length≤100000) {k:Nat} (hk:l.length<k):Q100.f k l c=some (!l.all (Wn c)):=by
 obtain ⟨r,h1,h2⟩:=Ut (l:=l) (F:=fun k i=>Q106.l0 k l c i) (p:=fun x=>!Wn c x) hl (fun k i=>by
  show Q106.l0 (k+1) l c i=_
  rw [Q106.l0,Znw,Option.bind_some]) l.length 0 k (by omega) hk
 unfold Q100.f Q106.f
 rw [show Q106.l0 k l (c.1,c.2.1,c.2.2.1,c.2.2.2.1,c.2.2.2.2.1,c.2.2.2.2.2.1,c.2.2.2.2.2.2.1,c.2.2.2.2.2.2.2) 0=_ from h1,Option.bind_some,h2,List.drop_zero]
 exact congrArg some (by rw [List.all_eq_not_any_not,Bool.not_not])
theorem Zjo {c:Cfg} {s:Sp} {l:List Msg} (hl:l.length≤100000) {k:Nat} (hk:l.length<k):Q96.f k l c s=some (!l.all (Gn c s)):=by
 obtain ⟨r,h1,h2⟩:=Ut (l:=l) (F:=fun k i=>Q102.l0 k l c s i) (p:=fun x=>!Gn c s x) hl (fun k i=>by
  show Q102.l0 (k+1) l c s i=_
  rw [Q102.l0,Znh,Option.bind_some]) l.length 0 k (by omega) hk
 unfold Q96.f Q102.f
 rw [show Q102.l0 k l (c.1,c.2.1,c.2.2.1,c.2.2.2.1,c.2.2.2.2.1,c.2.2.2.2.2.1,c.2.2.2.2.2.2.1,c.2.2.2.2.2.2.2) (s.1,s.2.1,s.2.2) 0=_ from h1,Option.bind_some,h2,List.drop_zero]
 exact congrArg some (by rw [List.all_eq_not_any_not,Bool.not_not])
theorem Zqk {α:Type} [DecidableEq α] (l:List α):decide (0<(l.length:Int))=!decide (l=[]):=by cases l <;> simp
theorem Zjb {c:Cfg} {s:Sp} {n:Nd} (h1:n.2.1.length≤10000) (h2:n.2.2.1.length≤10000) (h3:n.2.2.2.1.length≤10000) (h4:n.2.2.2.2.length≤10000) {k:Nat} (hk:10000<k):Q70.f k c s n=some (Zae c s n):=by
 unfold Q70.f Zae
 rw [show Q97.f k n.2.2.2.2 (c.1,c.2.1,c.2.2.1,c.2.2.2.1,c.2.2.2.2.1,c.2.2.2.2.2.1,c.2.2.2.2.2.2.1,c.2.2.2.2.2.2.2) (s.1,s.2.1,s.2.2)=_ from Zjx (c:=c) (s:=s) (by omega) (by omega),Zit (by omega) (by omega),Option.bind_some,Option.bind_some,
  wn (x:=(n.2.1.length:Int)+(n.2.2.1.length:Int)) (n:=n.2.1.length+n.2.2.1.length) (by omega) (by omega),wn (x:=((n.2.1.length+n.2.2.1.length:Nat):Int)+(n.2.2.2.1.length:Int)) (n:=n.2.1.length+n.2.2.1.length+n.2.2.2.1.length) (by omega) (by omega)]
 by_cases e1:n.2.1=[]
 ·by_cases e2:n.2.2.1=[]
  ·by_cases e3:n.2.2.2.1=[]
   ·by_cases e4:c.2.2.2.2.2.1<(n.2.2.2.2.length:Int)
    ·rw [if_neg (by simp [e1,e2,e3]),if_pos (decide_eq_true e4),decide_eq_false (show ¬ (n.2.2.2.2.length:Int)≤c.2.2.2.2.2.1 by omega)]
     simp
    ·rw [if_neg (by simp [e1,e2,e3]),if_neg (by simpa using e4),decide_eq_true (show (n.2.2.2.2.length:Int)≤c.2.2.2.2.2.1 by omega),decide_eq_true e1,decide_eq_true e2,decide_eq_true e3]
     cases V6 n.2.2.2.2 <;> cases n.2.2.2.2.all (prB c s) <;> rfl
   ·have:=List.length_pos_iff.2 e3
    rw [if_pos (decide_eq_true (by omega)),decide_eq_false e3]
    simp
  ·have:=List.length_pos_iff.2 e2
   rw [if_pos (decide_eq_true (by omega)),decide_eq_false e2]
   simp
 ·have:=List.length_pos_iff.2 e1
  rw [if_pos (decide_eq_true (by omega)),decide_eq_false e1]
  simp
theorem Zix {c:Cfg} {s:Sp} {n:Nd} (h1:n.2.1.length≤80) (h2:n.2.2.1.length≤80) (h3:n.2.2.2.1.length≤10000) (h4:n.2.2.2.2.length≤10000) (hl:∀ x∈n.2.1,0≤x∧x<4294967296):Ev (fun k=>Q66.f k c s n) (Za2 c s n):=by
 have hk:=Zpm (c:=c) h1 hl
 have hbig:Ev (fun k=>if 10000<k then some () else none) ():=⟨10001,fun k hk=>if_pos (by omega)⟩
 refine hk.next2 hbig fun k k1 k2=>?_
 have k2:10000<k:=by
  by_cases z:10000<k
  ·exact z
  ·rw [if_neg z] at k2; cases k2
 unfold Q66.f Za2 Za8 Zbd
 rw [show Q69.f k (c.1,c.2.1,c.2.2.1,c.2.2.2.1,c.2.2.2.2.1,c.2.2.2.2.2.1,c.2.2.2.2.2.2.1,c.2.2.2.2.2.2.2) n.2.1=_ from k1,show Q96.f k n.2.2.2.1 (c.1,c.2.1,c.2.2.1,c.2.2.2.1,c.2.2.2.2.1,c.2.2.2.2.2.1,c.2.2.2.2.2.2.1,c.2.2.2.2.2.2.2) (s.1,s.2.1,s.2.2)=_ from Zjo (c:=c) (s:=s) (by omega) (by omega),
  show Q100.f k n.2.2.1 (c.1,c.2.1,c.2.2.1,c.2.2.2.1,c.2.2.2.2.1,c.2.2.2.2.2.1,c.2.2.2.2.2.2.1,c.2.2.2.2.2.2.2)=_ from Zje (c:=c) (by omega) (by omega),show Q59.f k n.2.2.1 (s.1,s.2.1,s.2.2)=_ from Zj8 s h2 (by omega),Zld (by omega) (by omega)]
 simp only [Option.bind_some,Zba]
 have y1:decide (40<n.1)=!decide (n.1≤40):=by by_cases q:n.1≤40 <;> simp [q] <;> omega
 have y3:decide (c.2.2.2.2.1<(n.2.2.2.1.length:Int))=!decide ((n.2.2.2.1.length:Int)≤c.2.2.2.2.1):=by by_cases q:(n.2.2.2.1.length:Int)≤c.2.2.2.2.1 <;> simp [q] <;> omega
 have y4:(1≤n.2.1.length)→decide ((n.2.2.1.length:Int)=w64 ((n.2.1.length:Int) - 1))=decide (n.2.2.1.length+1=n.2.1.length):=fun z=>by
  rw [wn (x:=(n.2.1.length:Int) - 1) (n:=n.2.1.length - 1) (by omega) (by omega)]
  congr 1
  exact propext (by omega)
 rw [y1,y3,Zqk]
 by_cases z:1≤n.2.1.length
 ·rw [y4 z,decide_eq_true z]
  cases decide (n.1≤40) <;> cases decide (n.2.2.2.2=[]) <;> cases decide ((n.2.1.length:Int)≤c.2.2.2.1) <;> cases (List.range' 0 n.2.1.length).all (Je c n.2.1) <;> cases decide (n.2.2.1.length+1=n.2.1.length) <;> cases (n.2.2.1.all (piv s) && Vm n.2.2.1) <;> cases n.2.2.1.all (Wn c) <;> cases decide ((n.2.2.2.1.length:Int)≤c.2.2.2.2.1) <;> cases Uo n.2.2.2.1 <;> cases n.2.2.2.1.all (Gn c s) <;> rfl
 ·rw [decide_eq_false z]
  cases decide (n.1≤40) <;> cases decide (n.2.2.2.2=[]) <;> simp
def Xe (c:Cfg) (s:Sp) (n:Nd):Bool:=if n.1=0 then Zae c s n else decide (0<n.1) && Za2 c s n
theorem Zjp {c:Cfg} {s:Sp} {n:Nd} (h1:n.2.1.length≤80) (h2:n.2.2.1.length≤80) (h3:n.2.2.2.1.length≤10000) (h4:n.2.2.2.2.length≤10000) (hl:∀ x∈n.2.1,0≤x∧x<4294967296):Ev (fun k=>Q65.f k c s n) (Xe c s n):=by
 have hbig:Ev (fun k=>if 10000<k then some () else none) ():=⟨10001,fun k hk=>if_pos (by omega)⟩
 refine (Zix (c:=c) (s:=s) h1 h2 h3 h4 hl).next2 hbig fun k k1 k2=>?_
 have k2:10000<k:=by
  by_cases z:10000<k
  ·exact z
  ·rw [if_neg z] at k2; cases k2
 unfold Q65.f Xe
 rw [show Q66.f k (c.1,c.2.1,c.2.2.1,c.2.2.2.1,c.2.2.2.2.1,c.2.2.2.2.2.1,c.2.2.2.2.2.2.1,c.2.2.2.2.2.2.2) (s.1,s.2.1,s.2.2) (n.1,n.2.1,n.2.2.1,n.2.2.2.1,n.2.2.2.2)=_ from k1,
  show Q70.f k (c.1,c.2.1,c.2.2.1,c.2.2.2.1,c.2.2.2.2.1,c.2.2.2.2.2.1,c.2.2.2.2.2.2.1,c.2.2.2.2.2.2.2) (s.1,s.2.1,s.2.2) (n.1,n.2.1,n.2.2.1,n.2.2.2.1,n.2.2.2.2)=_ from Zjb (c:=c) (s:=s) (by omega) (by omega) h3 h4 k2,Option.bind_some,Option.bind_some]
 by_cases c1:n.1<0
 ·rw [if_pos (decide_eq_true c1),if_neg (by omega),decide_eq_false (show ¬ 0<n.1 by omega)]; rfl
 ·rw [if_neg (by simpa using c1)]
  by_cases c2:n.1=0
  ·rw [if_pos (decide_eq_true c2),if_pos c2]
  ·rw [if_neg (by simpa using c2),if_neg c2,decide_eq_true (show 0<n.1 by omega)]; rfl
def be:Nat→Nat→List UInt8
 | 0,_=>[]
 | w+1,v=>UInt8.ofNat (v / 256 ^ w) :: be w v
theorem Y7:∀ w v,(be w v).length=w
 | 0,_=>rfl
 | w+1,v=>by rw [be,List.length_cons,Y7 w v]
def rdv (l:TP):Nat:=l.foldl (fun a c=>a*256+c.toNat) 0
theorem Zb7:∀(l:TP) (a:Nat),l.foldl (fun a c=>a*256+c.toNat) a=a*256 ^ l.length+rdv l
 | [],a=>by simp [rdv]
 | c :: l,a=>by
  unfold rdv
  rw [List.foldl_cons,List.foldl_cons,Zb7 l,Zb7 l (0*256+c.toNat),List.length_cons,Nat.pow_succ,Nat.add_mul,Nat.zero_mul,Nat.zero_add]
  rw [Nat.mul_assoc,Nat.mul_comm 256,Nat.add_assoc]
theorem Zf3 (c:UInt8) (l:TP):rdv (c :: l)=c.toNat*256 ^ l.length+rdv l:=by
 unfold rdv
 rw [List.foldl_cons,Zb7,Nat.zero_mul,Nat.zero_add]; rfl
theorem Zgk:∀ l:List UInt8,rdv l<256 ^ l.length
 | []=>by simp [rdv]
 | c :: l=>by
  have h1:=Zgk l
  have h2:c.toNat<256:=c.toNat_lt
  rw [Zf3,List.length_cons,Nat.pow_succ]
  have:c.toNat*256 ^ l.length≤255*256 ^ l.length:=Nat.mul_le_mul_right _ (by omega)
  omega
theorem Zj9:∀ w v,rdv (be w v)=v % 256 ^ w
 | 0,v=>by simp [be,rdv,Nat.mod_one]
 | w+1,v=>by
  rw [be,Zf3,Y7,Zj9 w v]
  have e:(UInt8.ofNat (v / 256 ^ w)).toNat=v / 256 ^ w % 256:=by simp
  rw [e,Nat.pow_succ,Nat.mod_mul (a:=256 ^ w) (b:=256),Nat.mul_comm]; omega
theorem Znz {w v:Nat} (h:v<256 ^ w):rdv (be w v)=v:=by rw [Zj9,Nat.mod_eq_of_lt h]
def zs (n:Nat):List UInt8:=List.replicate n 0
theorem U4 (n:Nat):(zs n).length=n:=List.length_replicate
theorem Jc (a b:Nat):zs a ++ zs b=zs (a+b):=by unfold zs; rw [List.replicate_append_replicate]
def slt (s:TP) (n:Nat):List UInt8:=s ++ zs (n - s.length)
theorem Ur {s:TP} {n:Nat} (h:s.length≤n):(slt s n).length=n:=by unfold slt; rw [List.length_append,U4]; omega
def prS (K V:Nat) (p:TC):List UInt8:=be 1 p.1.length ++ (be 2 p.2.length ++ (slt p.1 K ++ slt p.2 V))
theorem Gw {K V:Nat} {p:TC} (h1:p.1.length≤K) (h2:p.2.length≤V):(prS K V p).length=3+K+V:=by
 unfold prS
 rw [List.length_append,List.length_append,List.length_append,Y7,Y7,Ur h1,Ur h2]; omega
def msS (K V:Nat) (m:Tz):List UInt8:=(if m.2.1=true then 2 else 1) :: prS K V (m.1,m.2.2)
theorem Znb {K V:Nat} {m:Tz} (h1:m.1.length≤K) (h2:m.2.2.length≤V):(msS K V m).length=4+K+V:=by
 unfold msS
 rw [List.length_cons,Gw h1 h2]; omega
def pvS (K:Nat) (p:TP):List UInt8:=be 1 p.length ++ slt p K
theorem Zdh {K:Nat} {p:TP} (h1:p.length≤K):(pvS K p).length=1+K:=by
 unfold pvS
 rw [List.length_append,Y7,Ur h1]
def cat {α:Type} (f:α→List UInt8) (l:List α):List UInt8:=l.flatMap f
theorem G0 {α:Type} {f:α→List UInt8} {n:Nat}:∀ {l:List α},(∀ x∈l,(f x).length=n)→(cat f l).length=l.length*n
 | [],_=>by simp [cat]
 | x :: l,h=>by
  have:=G0 (l:=l) fun y hy=>h y (by simp [hy])
  unfold cat at this ⊢
  rw [List.flatMap_cons,List.length_append,this,h x (by simp),List.length_cons,Nat.add_mul]; omega
def kdS (x:Int):List UInt8:=be 4 x.toNat
def cBy (c:Cfg):Nat:=c.2.1.toNat
def cFa (c:Cfg):Nat:=c.2.2.2.1.toNat
def cBu (c:Cfg):Nat:=c.2.2.2.2.1.toNat
def cLe (c:Cfg):Nat:=c.2.2.2.2.2.1.toNat
def cK (c:Cfg):Nat:=c.2.2.2.2.2.2.1.toNat
def cV (c:Cfg):Nat:=c.2.2.2.2.2.2.2.toNat
def hdO (n:Nd):List UInt8:=1 :: 0 :: (be 2 n.2.2.2.2.length ++ zs 4)
def hdI (n:Nd):List UInt8:=2 :: (be 1 n.1.toNat ++ (be 2 n.2.1.length ++ (be 2 n.2.2.2.1.length ++ zs 2)))
theorem Zir (n:Nd):(hdO n).length=8:=by simp [hdO,Y7,U4]
theorem Zh0 (n:Nd):(hdI n).length=8:=by simp [hdI,Y7,U4]
def bdO (c:Cfg) (n:Nd):List UInt8:=cat (prS (cK c) (cV c)) n.2.2.2.2
def bdI (c:Cfg) (n:Nd):List UInt8:=cat kdS n.2.1 ++ (zs (4*(cFa c - n.2.1.length)) ++ (cat (pvS (cK c)) n.2.2.1 ++ (zs ((1+cK c)*(cFa c - 1 - n.2.2.1.length)) ++ cat (msS (cK c) (cV c)) n.2.2.2.1)))
def Gq (c:Cfg) (n:Nd):List UInt8:=if n.1=0 then hdO n ++ bdO c n else hdI n ++ bdI c n
def Gt (c:Cfg) (n:Nd):List UInt8:=slt (Gq c n) (cBy c)
structure FitN (c:Cfg) (n:Nd):Prop where
 lv:0≤n.1∧n.1≤40
 kd:∀ x∈n.2.1,0≤x∧x<4294967296
 o:n.1=0→n.2.1=[]∧n.2.2.1=[]∧n.2.2.2.1=[]∧n.2.2.2.2.length≤cLe c
 i:n.1≠0→n.2.2.2.2=[]∧1≤n.2.1.length∧n.2.1.length≤cFa c∧n.2.2.1.length+1=n.2.1.length∧n.2.2.2.1.length≤cBu c
 pk:∀ p∈n.2.2.1,p.length≤cK c
 ms:∀ m∈n.2.2.2.1,m.1.length≤cK c∧m.2.2.length≤cV c
 rk:∀ p∈n.2.2.2.2,p.1.length≤cK c∧p.2.length≤cV c
theorem OkC.nat {c:Cfg} (h:OkC c):8≤cFa c∧cFa c≤64∧1≤cK c∧cK c≤64∧cV c≤256∧16≤cBu c∧cBu c≤512∧cBu c≤cLe c∧cLe c≤1024:=by
 have h1:=h.fan
 have h2:=h.key
 have h3:=h.val
 have h4:=h.buf
 have h5:=h.leaf
 unfold cFa cK cV cBu cLe
 omega
theorem Zn1 {c:Cfg} {n:Nd} (h:FitN c n):(bdO c n).length=n.2.2.2.2.length*(3+cK c+cV c):=G0 fun p hp=>Gw (h.rk p hp).1 (h.rk p hp).2
theorem Zmi (l:TU):(cat kdS l).length=l.length*4:=G0 fun p hp=>Y7 4 _
theorem Zlw {c:Cfg} {n:Nd} (h:FitN c n):(cat (pvS (cK c)) n.2.2.1).length=n.2.2.1.length*(1+cK c):=G0 fun p hp=>Zdh (h.pk p hp)
theorem Zmk {c:Cfg} {n:Nd} (h:FitN c n):(cat (msS (cK c) (cV c)) n.2.2.2.1).length=n.2.2.2.1.length*(4+cK c+cV c):=G0 fun p hp=>Znb (h.ms p hp).1 (h.ms p hp).2
theorem Znv {c:Cfg} {n:Nd} (h:FitN c n) (h0:n.1≠0):(bdI c n).length=4*cFa c+(1+cK c)*(cFa c - 1)+n.2.2.2.1.length*(4+cK c+cV c):=by
 obtain ⟨_,i2,i3,i4,_⟩:=h.i h0
 unfold bdI
 rw [List.length_append,List.length_append,List.length_append,List.length_append,Zmi,U4,Zlw h,U4,Zmk h,Nat.mul_comm n.2.2.1.length]
 have e:(1+cK c)*n.2.2.1.length+(1+cK c)*(cFa c - 1 - n.2.2.1.length)=(1+cK c)*(cFa c - 1):=by rw [← Nat.mul_add]; congr 1; omega
 omega
def szB (c:Cfg):Bool:=decide (8≤c.2.2.2.1∧c.2.2.2.1≤64) && (decide (1≤c.2.2.2.2.2.2.1∧c.2.2.2.2.2.2.1≤64) && (decide (0≤c.2.2.2.2.2.2.2∧c.2.2.2.2.2.2.2≤256) && (decide (2*c.2.2.2.1≤c.2.2.2.2.1∧c.2.2.2.2.1≤512) && decide (c.2.2.2.2.1≤c.2.2.2.2.2.1∧c.2.2.2.2.2.1≤1024))))
theorem G5 {c:Cfg} (h:szB c=true):OkC c:=by
 simp only [szB,Bool.and_eq_true,decide_eq_true_eq] at h
 exact ⟨h.1,h.2.1,h.2.2.1,by omega,h.2.2.2.2⟩
def Jg (c:Cfg):Int:=8+(4+(c.2.2.2.1 - 1)*(5+c.2.2.2.2.2.2.1)+c.2.2.2.2.1*(4+c.2.2.2.2.2.2.1+c.2.2.2.2.2.2.2))
def J4 (c:Cfg):Int:=8+c.2.2.2.2.2.1*(3+c.2.2.2.2.2.2.1+c.2.2.2.2.2.2.2)
def okB (c:Cfg):Bool:=szB c && (decide (5≤c.1∧c.1≤65536) && (decide (8≤c.2.2.1∧c.2.2.1≤64) && (decide (64≤c.2.1∧c.2.1≤65536) && (decide (Jg c≤c.2.1) && decide (J4 c≤c.2.1)))))
theorem Zk1 (a b c:Int):Q142.f a b c=some (decide (b≤a∧a≤c)):=by
 unfold Q142.f
 by_cases h:b≤a <;> simp [h]
theorem Zay (c:Cfg):Q141.f c=some (szB c):=by
 unfold Q141.f szB
 simp only [Zk1,Option.bind_some]
 by_cases h1:8≤c.2.2.2.1∧c.2.2.2.1≤64
 ·have w:w64 (2*c.2.2.2.1)=2*c.2.2.2.1:=Zy (by omega) (by omega)
  rw [w,decide_eq_true h1]
  cases decide (1≤c.2.2.2.2.2.2.1∧c.2.2.2.2.2.2.1≤64) <;> cases decide (0≤c.2.2.2.2.2.2.2∧c.2.2.2.2.2.2.2≤256) <;> cases decide (2*c.2.2.2.1≤c.2.2.2.2.1∧c.2.2.2.2.1≤512) <;> rfl
 ·rw [decide_eq_false h1]; rfl
theorem Zh3 {c:Cfg} (hc:OkC c):∀(m i k:Nat) (x:Int),c.2.2.2.2.1=(i:Int)+m→m<k→0≤x→x+m*324≤1000000000→Q138.l1 k c x (i:Int)=some (x+m*(4+c.2.2.2.2.2.2.1+c.2.2.2.2.2.2.2))
 | 0,i,k+1,x,h,_,_,_=>by
  rw [Q138.l1,if_neg (by simp only [decide_eq_true_eq]; omega)]; simp
 | m+1,i,k+1,x,h,hk,h0,h1=>by
  have a1:=hc.key
  have a2:=hc.val
  have hb:=hc.buf
  rw [Q138.l1,if_pos (decide_eq_true (by omega)),Zy (x:=x+4) (by omega) (by omega),Zy (x:=x+4+c.2.2.2.2.2.2.1) (by omega) (by omega),Zy (x:=x+4+c.2.2.2.2.2.2.1+c.2.2.2.2.2.2.2) (by omega) (by omega),Z9 (by omega),Zh3 hc m (i+1) k _ (by omega) (by omega) (by omega) (by omega)]
  congr 1
  rw [show ((m+1:Nat):Int)=(m:Int)+1 by omega,Int.add_mul]; omega
theorem Ziq {c:Cfg} (hc:OkC c):∀(m i k:Nat) (x:Int),1≤i→c.2.2.2.1=(i:Int)+m→m+600<k→0≤x→x+m*69≤100000→Q138.l0 k c x (i:Int)=some (x+m*(5+c.2.2.2.2.2.2.1)+c.2.2.2.2.1*(4+c.2.2.2.2.2.2.1+c.2.2.2.2.2.2.2))
 | 0,i,k+1,x,h2,h,hk,h0,h1=>by
  have hb:=hc.buf
  obtain ⟨B,hB⟩:=Int.eq_ofNat_of_zero_le (show 0≤c.2.2.2.2.1 by omega)
  rw [Q138.l0,if_neg (by simp only [decide_eq_true_eq]; omega),show Q138.l1 k c x 0=_ from Zh3 hc B 0 k x (by rw [hB]; simp) (by omega) h0 (by omega),hB]; simp
 | m+1,i,k+1,x,h2,h,hk,h0,h1=>by
  have a1:=hc.key
  have hb:=hc.fan
  rw [Q138.l0,if_pos (decide_eq_true (by omega)),if_pos (decide_eq_true (by omega)),Zy (x:=x+4) (by omega) (by omega),Zy (x:=x+4+1) (by omega) (by omega),Zy (x:=x+4+1+c.2.2.2.2.2.2.1) (by omega) (by omega),Z9 (by omega),Ziq hc m (i+1) k _ (by omega) (by omega) (by omega) (by omega) (by omega)]
  congr 1
  rw [show ((m+1:Nat):Int)=(m:Int)+1 by omega,Int.add_mul]; omega
theorem Znq {c:Cfg} (h:szB c=true) {k:Nat} (hk:1000<k):Q138.f k c=some (Jg c):=by
 have hc:=G5 h
 have hf:=hc.fan
 obtain ⟨F,hF⟩:=Int.eq_ofNat_of_zero_le (show 0≤c.2.2.2.1 by omega)
 obtain ⟨k,rfl⟩:∃ q,k=q+1:=⟨k - 1,by omega⟩
 unfold Q138.f
 rw [show Q141.f (c.1,c.2.1,c.2.2.1,c.2.2.2.1,c.2.2.2.2.1,c.2.2.2.2.2.1,c.2.2.2.2.2.2.1,c.2.2.2.2.2.2.2)=_ from Zay c,h,Option.bind_some,if_neg (by simp),Q138.l0,if_pos (decide_eq_true (by omega)),if_neg (by simp),show w64 (8+4)=12 from rfl,show w64 (0+1)=((1:Nat):Int) from rfl,Ziq hc (F - 1) 1 k 12 (Nat.le_refl _) (by omega) (by omega) (by omega) (by omega),show ((F - 1:Nat):Int)=c.2.2.2.1 - 1 by omega]
 unfold Jg
 congr 1; omega
theorem Zik {c:Cfg} (hc:OkC c):∀(m i k:Nat) (x:Int),c.2.2.2.2.2.1=(i:Int)+m→m<k→0≤x→x+m*324≤1000000000→Q139.l0 k c x (i:Int)=some (x+m*(3+c.2.2.2.2.2.2.1+c.2.2.2.2.2.2.2))
 | 0,i,k+1,x,h,_,_,_=>by
  rw [Q139.l0,if_neg (by simp only [decide_eq_true_eq]; omega)]; simp
 | m+1,i,k+1,x,h,hk,h0,h1=>by
  have a1:=hc.key
  have a2:=hc.val
  have hb:=hc.leaf
  rw [Q139.l0,if_pos (decide_eq_true (by omega)),Zy (x:=x+3) (by omega) (by omega),Zy (x:=x+3+c.2.2.2.2.2.2.1) (by omega) (by omega),Zy (x:=x+3+c.2.2.2.2.2.2.1+c.2.2.2.2.2.2.2) (by omega) (by omega),Z9 (by omega),Zik hc m (i+1) k _ (by omega) (by omega) (by omega) (by omega)]
  congr 1
  rw [show ((m+1:Nat):Int)=(m:Int)+1 by omega,Int.add_mul]; omega
theorem Zm5 {c:Cfg} (h:szB c=true) {k:Nat} (hk:2000<k):Q139.f k c=some (J4 c):=by
 have hc:=G5 h
 have hf:=hc.leaf
 have hb:=hc.buf
 obtain ⟨L,hL⟩:=Int.eq_ofNat_of_zero_le (show 0≤c.2.2.2.2.2.1 by omega)
 unfold Q139.f
 rw [show Q141.f (c.1,c.2.1,c.2.2.1,c.2.2.2.1,c.2.2.2.2.1,c.2.2.2.2.2.1,c.2.2.2.2.2.2.1,c.2.2.2.2.2.2.2)=_ from Zay c,h,Option.bind_some,if_neg (by simp),show Q139.l0 k c 8 0=_ from Zik hc L 0 k 8 (by omega) (by omega) (by omega) (by omega),← hL]
 rfl
theorem Ze9 (c:Cfg) {k:Nat} (hk:2000<k):Q140.f k c=some (okB c):=by
 unfold Q140.f okB
 rw [show Q141.f (c.1,c.2.1,c.2.2.1,c.2.2.2.1,c.2.2.2.2.1,c.2.2.2.2.2.1,c.2.2.2.2.2.2.1,c.2.2.2.2.2.2.2)=_ from Zay c,Option.bind_some]
 cases h:szB c with
 | false=>rfl
 | true=>
  rw [if_pos rfl,show Q138.f k (c.1,c.2.1,c.2.2.1,c.2.2.2.1,c.2.2.2.2.1,c.2.2.2.2.2.1,c.2.2.2.2.2.2.1,c.2.2.2.2.2.2.2)=_ from Znq h (by omega),show Q139.f k (c.1,c.2.1,c.2.2.1,c.2.2.2.1,c.2.2.2.2.1,c.2.2.2.2.2.1,c.2.2.2.2.2.2.1,c.2.2.2.2.2.2.2)=_ from Zm5 h hk]
  simp only [Zk1,Option.bind_some]
  cases decide (5≤c.1∧c.1≤65536) <;> cases decide (8≤c.2.2.1∧c.2.2.1≤64) <;> cases decide (64≤c.2.1∧c.2.1≤65536) <;> cases decide (Jg c≤c.2.1) <;> rfl
abbrev Wk:Sp:=([],[],true)
theorem Zc4 (c:Cfg):Q52.f c=some (szB c):=by
 unfold Q52.f szB
 by_cases h1:8≤c.2.2.2.1∧c.2.2.2.1≤64
 ·have w:w64 (2*c.2.2.2.1)=2*c.2.2.2.1:=Zy (by omega) (by omega)
  rw [w,if_neg (by simp only [decide_eq_true_eq]; omega),if_neg (by simp only [decide_eq_true_eq]; omega),decide_eq_true h1]
  by_cases h2:1≤c.2.2.2.2.2.2.1∧c.2.2.2.2.2.2.1≤64
  ·by_cases h3:0≤c.2.2.2.2.2.2.2∧c.2.2.2.2.2.2.2≤256
   ·by_cases h4:2*c.2.2.2.1≤c.2.2.2.2.1∧c.2.2.2.2.1≤512
    ·by_cases h5:c.2.2.2.2.1≤c.2.2.2.2.2.1∧c.2.2.2.2.2.1≤1024
     ·rw [if_neg (by simp only [decide_eq_true_eq]; omega),if_neg (by simp only [decide_eq_true_eq]; omega),if_neg (by simp only [decide_eq_true_eq]; omega),if_neg (by simp only [decide_eq_true_eq]; omega),if_neg (by simp only [decide_eq_true_eq]; omega),if_neg (by simp only [decide_eq_true_eq]; omega),if_neg (by simp only [decide_eq_true_eq]; omega),if_neg (by simp only [decide_eq_true_eq]; omega),decide_eq_true h2,decide_eq_true h3,decide_eq_true h4,decide_eq_true h5]
      rfl
     ·rw [if_neg (by simp only [decide_eq_true_eq]; omega),if_neg (by simp only [decide_eq_true_eq]; omega),decide_eq_false h5]
      simp only [Bool.and_false]
      by_cases q:c.2.2.2.2.2.1<c.2.2.2.2.1
      ·rw [if_pos (decide_eq_true q)]
      ·rw [if_neg (by simpa using q),if_pos (decide_eq_true (by omega))]
    ·rw [decide_eq_false h4]
     simp only [Bool.false_and,Bool.and_false]
     by_cases q:c.2.2.2.2.1<2*c.2.2.2.1
     ·rw [if_pos (decide_eq_true q)]
     ·rw [if_neg (by simpa using q),if_pos (decide_eq_true (by omega))]
   ·rw [decide_eq_false h3]
    simp only [Bool.false_and,Bool.and_false]
    repeat' split
    all_goals first | rfl | (simp only [decide_eq_true_eq] at *; omega)
  ·rw [decide_eq_false h2]
   simp only [Bool.false_and,Bool.and_false]
   repeat' split
   all_goals first | rfl | (simp only [decide_eq_true_eq] at *; omega)
 ·rw [decide_eq_false h1]
  simp only [Bool.false_and]
  by_cases q:c.2.2.2.1<8
  ·rw [if_pos (decide_eq_true q)]
  ·rw [if_neg (by simpa using q),if_pos (decide_eq_true (by omega))]
theorem Jf (c:Cfg):(c.1,c.2.1,c.2.2.1,c.2.2.2.1,c.2.2.2.2.1,c.2.2.2.2.2.1,c.2.2.2.2.2.2.1,c.2.2.2.2.2.2.2)=c:=rfl
theorem Zqj (n:Nd):(n.1,n.2.1,n.2.2.1,n.2.2.2.1,n.2.2.2.2)=n:=rfl
theorem Zqf {c:Cfg} (h:szB c=true):Q49.f c=some (Jg c)∧8≤Jg c∧Jg c≤200000:=by
 have hc:=G5 h
 have a1:=hc.fan
 have a2:=hc.key
 have a3:=hc.val
 have a4:=hc.buf
 have p0:0≤(c.2.2.2.1 - 1)*(1+c.2.2.2.2.2.2.1):=Int.mul_nonneg (by omega) (by omega)
 have p1:(c.2.2.2.1 - 1)*(1+c.2.2.2.2.2.2.1)≤63*65:=Int.mul_le_mul (by omega) (by omega) (by omega) (by omega)
 have q0:0≤c.2.2.2.2.1*(4+c.2.2.2.2.2.2.1+c.2.2.2.2.2.2.2):=Int.mul_nonneg (by omega) (by omega)
 have q1:c.2.2.2.2.1*(4+c.2.2.2.2.2.2.1+c.2.2.2.2.2.2.2)≤512*324:=Int.mul_le_mul (by omega) (by omega) (by omega) (by omega)
 have e:Jg c=8+4*c.2.2.2.1+(c.2.2.2.1 - 1)*(1+c.2.2.2.2.2.2.1)+c.2.2.2.2.1*(4+c.2.2.2.2.2.2.1+c.2.2.2.2.2.2.2):=by
  unfold Jg
  rw [show 5+c.2.2.2.2.2.2.1=4+(1+c.2.2.2.2.2.2.1) by omega,Int.mul_add]; omega
 refine ⟨?_,by omega,by omega⟩
 unfold Q49.f
 (try rw [Jf]); rw [Zc4,h,Option.bind_some,if_neg (by simp),Zy (x:=4*c.2.2.2.1) (by omega) (by omega),Zy (x:=8+4*c.2.2.2.1) (by omega) (by omega),Zy (x:=c.2.2.2.1 - 1) (by omega) (by omega),Zy (x:=1+c.2.2.2.2.2.2.1) (by omega) (by omega),Zy (x:=4+c.2.2.2.2.2.2.1) (by omega) (by omega),Zy (x:=4+c.2.2.2.2.2.2.1+c.2.2.2.2.2.2.2) (by omega) (by omega),
  Zy (x:=(c.2.2.2.1 - 1)*(1+c.2.2.2.2.2.2.1)) (by omega) (by omega),Zy (x:=c.2.2.2.2.1*(4+c.2.2.2.2.2.2.1+c.2.2.2.2.2.2.2)) (by omega) (by omega),Zy (x:=8+4*c.2.2.2.1+(c.2.2.2.1 - 1)*(1+c.2.2.2.2.2.2.1)) (by omega) (by omega),Zy (by omega) (by omega),e]
theorem Zp2 {c:Cfg} (h:szB c=true):Q51.f c=some (J4 c)∧8≤J4 c∧J4 c≤400000:=by
 have hc:=G5 h
 have a2:=hc.key
 have a3:=hc.val
 have a4:=hc.buf
 have a5:=hc.leaf
 have q0:0≤c.2.2.2.2.2.1*(3+c.2.2.2.2.2.2.1+c.2.2.2.2.2.2.2):=Int.mul_nonneg (by omega) (by omega)
 have q1:c.2.2.2.2.2.1*(3+c.2.2.2.2.2.2.1+c.2.2.2.2.2.2.2)≤1024*323:=Int.mul_le_mul (by omega) (by omega) (by omega) (by omega)
 refine ⟨?_,by unfold J4; omega,by unfold J4; omega⟩
 unfold Q51.f J4
 (try rw [Jf]); rw [Zc4,h,Option.bind_some,if_neg (by simp),Zy (x:=3+c.2.2.2.2.2.2.1) (by omega) (by omega),Zy (x:=3+c.2.2.2.2.2.2.1+c.2.2.2.2.2.2.2) (by omega) (by omega),Zy (x:=c.2.2.2.2.2.1*(3+c.2.2.2.2.2.2.1+c.2.2.2.2.2.2.2)) (by omega) (by omega),Zy (by omega) (by omega)]
theorem Zc3 (c:Cfg):Q48.f c=some (if okB c=true then 0 else 2):=by
 unfold Q48.f okB
 (try rw [Jf]); rw [Zc4,Option.bind_some]
 cases h:szB c with
 | false=>rfl
 | true=>
  obtain ⟨i1,i2,i3⟩:=Zqf h
  obtain ⟨o1,o2,o3⟩:=Zp2 h
  rw [if_pos rfl]
  by_cases a1:5≤c.1∧c.1≤65536
  ·rw [if_pos (decide_eq_true a1.1),if_pos (decide_eq_true a1.2),decide_eq_true a1]
   by_cases a2:8≤c.2.2.1∧c.2.2.1≤64
   ·rw [if_pos (decide_eq_true a2.1),if_neg (by simp [a2.2]),decide_eq_true a2]
    by_cases a3:65536<c.2.1
    ·rw [if_pos (decide_eq_true a3),decide_eq_false (show ¬ (64≤c.2.1∧c.2.1≤65536) by omega)]; rfl
    ·rw [if_neg (by simpa using a3)]
     unfold Q50.f
     (try rw [Jf]); rw [Zc4,h,Option.bind_some,if_pos rfl,i1,o1,Option.bind_some,Option.bind_some,Option.bind_some]
     dsimp only
     generalize Jg c=I at *
     generalize J4 c=O at *
     by_cases b1:c.2.1<64
     ·rw [if_pos (decide_eq_true (by split <;> split <;> omega)),decide_eq_false (show ¬ (64≤c.2.1∧c.2.1≤65536) by omega)]; rfl
     ·rw [decide_eq_true (show 64≤c.2.1∧c.2.1≤65536 by omega)]
      by_cases b2:I≤c.2.1
      ·rw [decide_eq_true b2]
       by_cases b3:O≤c.2.1
       ·rw [decide_eq_true b3,if_neg (by simp only [decide_eq_true_eq]; split <;> split <;> omega)]; rfl
       ·rw [decide_eq_false b3,if_pos (decide_eq_true (by split <;> split <;> omega))]; rfl
      ·rw [decide_eq_false b2,if_pos (decide_eq_true (by split <;> split <;> omega))]; rfl
   ·rw [decide_eq_false a2]
    by_cases q:8≤c.2.2.1
    ·rw [if_pos (decide_eq_true q),if_pos (by simp; omega)]; rfl
    ·rw [if_neg (by simpa using q)]; rfl
  ·rw [decide_eq_false a1]
   by_cases q:5≤c.1
   ·rw [if_pos (decide_eq_true q),if_neg (by simp only [decide_eq_true_eq]; omega)]; rfl
   ·rw [if_neg (by simpa using q)]; rfl
theorem Xt (a b:TP):toB (a ++ b)=toB a ++ toB b:=by simp [toB]
theorem Ya (a:TP):(toB a).length=a.length:=by simp [toB]
theorem Zft (n:Nat):toB (zs n)=List.replicate n 0:=by simp [toB,zs]
theorem Za3 (a:TP):toS (toB a)=a:=by
 unfold toS toB
 rw [List.map_map]
 conv=>rhs; rw [← List.map_id a]
 apply List.map_congr_left
 intro x _
 simp
theorem Zpr (n:Nat):IntKind.u64.wrap (n:Int)=((n % 18446744073709551616:Nat):Int):=by
 simp [IntKind.wrap,IntKind.bits,IntKind.signed]
theorem Vs {n:Nat} (h:n<18446744073709551616):IntKind.u64.wrap (n:Int)=(n:Int):=by rw [Zpr,Nat.mod_eq_of_lt h]
theorem Zpz (v i:Nat) (hi:i<8):IntKind.u8.wrap (Int.fdiv (v:Int) (2 ^ (min (w64 (8*(i:Int))).toNat 64)))=((UInt8.ofNat (v / 256 ^ i)).toNat:Int):=by
 have e1:w64 (8*(i:Int))=((8*i:Nat):Int):=by rw [Zy (by omega) (by omega)]; omega
 rw [e1,Int.toNat_natCast,show min (8*i) 64=8*i by omega,Int.fdiv_eq_ediv_of_nonneg _ (by exact_mod_cast Nat.zero_le _)]
 have e2:((v:Int) / 2 ^ (8*i))=((v / 256 ^ i:Nat):Int):=by
  rw [show (256:Nat)=2 ^ 8 from rfl,← Nat.pow_mul]
  push_cast
  rfl
 rw [e2]
 simp [IntKind.wrap,IntKind.bits,IntKind.signed]
theorem Zk5 (v:Nat):∀(i:Nat) (x:TU) (k:Nat),i≤8→i<k→x.length+i≤1000→Q169.l0 k (v:Int) x ((i:Int) - 1)=some (x ++ toB (be i v))
 | 0,x,k+1,_,_,_=>by
  rw [Q169.l0,if_neg (by simp)]
  simp [be,toB]
 | i+1,x,k+1,hi,hk,hx=>by
  have e:((i+1:Nat):Int) - 1=(i:Int):=by omega
  rw [e,Q169.l0,if_pos (decide_eq_true (by omega)),if_pos (by rw [Zy (by omega) (by omega)]; omega),if_pos (by simp only [List.length_singleton]; omega),Zpz v i (by omega),Zy (x:=(i:Int) - 1) (by omega) (by omega),Zk5 v i _ k (by omega) (by omega) (by simp; omega)]
  simp [be,toB]
theorem Uu {a:TU} {w v:Nat} (hw:w=1∨w=2∨w=4) (ha:a.length≤10000000) {k:Nat} (hk:10<k):Q40.f k a (w:Int) (v:Int)=some (a ++ toB (be w v)):=by
 have h0:Q169.f k ([]:List Int) (w:Int) (v:Int)=some (toB (be w v)):=by
  unfold Q169.f Q93.f Q178.f
  rw [if_pos (by simp),Option.bind_some]
  have hr:(if (decide ((w:Int)=1))=true then (some true) else (if (decide ((w:Int)=2))=true then (some true) else (if (decide ((w:Int)=4))=true then (some true) else (some (decide ((w:Int)=8))))))=some true:=by
   rcases hw with rfl | rfl | rfl <;> rfl
  rw [hr,Option.bind_some,if_neg (by simp),Zy (by omega) (by omega)]
  have:=Zk5 v w ([] ++ []) k (by omega) (by omega) (by simp; omega)
  simpa using this
 unfold Q40.f
 rw [h0,Option.bind_some,if_pos (by rw [Ya,Y7]; omega)]
theorem Zfm {a:TU} {s:TP} {n:Nat} (ha:a.length≤10000000) (hs:s.length≤n) (hn:n≤100000):Q45.f a s (n:Int)=some (a ++ toB (slt s n)):=by
 have e:w64 ((n:Int) - (s.length:Int))=((n - s.length:Nat):Int):=by rw [Zy (by omega) (by omega)]; omega
 unfold Q45.f
 rw [if_pos (by omega),e,if_pos (by rw [List.length_append,Ya]; omega),Int.toNat_natCast]
 unfold slt
 rw [Xt,Zft,List.append_assoc]
structure NatC (c:Cfg):Prop where
 f:c.2.2.2.1=(cFa c:Int)
 k:c.2.2.2.2.2.2.1=(cK c:Int)
 v:c.2.2.2.2.2.2.2=(cV c:Int)
 b:c.2.2.2.2.1=(cBu c:Int)
 l:c.2.2.2.2.2.1=(cLe c:Int)
theorem OkC.int {c:Cfg} (h:OkC c):NatC c:=by
 have h1:=h.fan
 have h2:=h.key
 have h3:=h.val
 have h4:=h.buf
 have h5:=h.leaf
 constructor <;> simp only [cFa,cK,cV,cBu,cLe] <;> omega
theorem Zi1 {c:Cfg} (hc:OkC c) {a:TU} {x y:TP} (ha:a.length≤9000000) (hx:x.length≤cK c) (hy:y.length≤cV c) {k:Nat} (hk:10<k):Q41.f k c a x y=some (a ++ toB (prS (cK c) (cV c) (x,y))):=by
 obtain ⟨c1,c2,c3,c4,c5,c6,c7,c8,c9⟩:=hc.nat
 unfold Q41.f
 rw [Vs (by omega),Vs (by omega),show Q40.f k a 1 (x.length:Int)=_ from Uu (w:=1) (.inl rfl) (by omega) hk,Option.bind_some,show Q40.f k (a ++ toB (be 1 x.length)) 2 (y.length:Int)=_ from Uu (w:=2) (.inr (.inl rfl)) (by rw [List.length_append,Ya,Y7]; omega) hk,Option.bind_some,
  hc.int.k,Zfm (by rw [List.length_append,List.length_append,Ya,Ya,Y7,Y7]; omega) hx (by omega),Option.bind_some,hc.int.v,Zfm (by rw [List.length_append,List.length_append,List.length_append,Ya,Ya,Ya,Y7,Y7,Ur hx]; omega) hy (by omega),Option.bind_some]
 unfold prS
 simp only [Xt,List.append_assoc]
theorem Zlf {a b d e:Nat} (ha:a<256) (hb:b<256) (hd:d<65536) (he:e<65536) {k:Nat} (hk:10<k):Q39.f k (a:Int) (b:Int) (d:Int) (e:Int)=some (toB (be 1 a ++ (be 1 b ++ (be 2 d ++ (be 2 e ++ zs 2))))):=by
 unfold Q39.f
 rw [Vs (by omega),Vs (by omega),Vs (by omega),Vs (by omega),show Q40.f k ([]:List Int) 1 (a:Int)=_ from Uu (w:=1) (.inl rfl) (by simp) hk,Option.bind_some,show Q40.f k _ 1 (b:Int)=_ from Uu (w:=1) (.inl rfl) (by simp [Ya,Y7]) hk,Option.bind_some,
  show Q40.f k _ 2 (d:Int)=_ from Uu (w:=2) (.inr (.inl rfl)) (by simp [Ya,Y7]) hk,Option.bind_some,show Q40.f k _ 2 (e:Int)=_ from Uu (w:=2) (.inr (.inl rfl)) (by simp [Ya,Y7]) hk,Option.bind_some,show Q40.f k _ 2 0=_ from Uu (w:=2) (v:=0) (.inr (.inl rfl)) (by simp [Ya,Y7]) hk,Option.bind_some]
 have z:be 2 0=zs 2:=by decide
 rw [z]
 simp only [Xt,List.append_assoc,List.nil_append]
theorem Bj {α:Type} (f:α→List UInt8) (x:α) (l:List α):cat f (x :: l)=f x ++ cat f l:=by unfold cat; rw [List.flatMap_cons]
theorem Zek {c:Cfg} {n:Nd} (hc:OkC c) (hr:∀ p∈n.2.2.2.2,p.1.length≤cK c∧p.2.length≤cV c) (hl:n.2.2.2.2.length≤2000):∀(m i k:Nat) (x:TU),n.2.2.2.2.length=i+m→m+20<k→x.length+m*400≤9000000→Q47.l0 k c n x (i:Int)=some (x ++ toB (cat (prS (cK c) (cV c)) (n.2.2.2.2.drop i)))
 | 0,i,k+1,x,h,hk,hx=>by
  rw [Q47.l0,if_neg (by simp only [decide_eq_true_eq]; omega),List.drop_eq_nil_of_le (by omega)]
  simp [cat,toB]
 | m+1,i,k+1,x,h,hk,hx=>by
  obtain ⟨c1,c2,c3,c4,c5,c6,c7,c8,c9⟩:=hc.nat
  have hi:i<n.2.2.2.2.length:=by omega
  have hp:=hr _ (Xs (d:=default) hi)
  rw [Q47.l0,if_pos (decide_eq_true (by omega)),if_pos (by omega),Z8]; (try rw [Jf]); rw [Zi1 hc (by omega) hp.1 hp.2 (by omega),Option.bind_some,Z9 (by omega),Zek hc hr hl m (i+1) k _ (by omega) (by omega) (by rw [List.length_append,Ya,Gw hp.1 hp.2]; omega),Yi hi,Bj,Xt,List.append_assoc]
theorem Znu {c:Cfg} {n:Nd} (hc:OkC c) (hr:∀ p∈n.2.2.2.2,p.1.length≤cK c∧p.2.length≤cV c) (hl:n.2.2.2.2.length≤2000) {k:Nat} (hk:3000<k):Q47.f k c n=some (toB (hdO n ++ bdO c n)):=by
 have e:be 1 1 ++ (be 1 0 ++ (be 2 n.2.2.2.2.length ++ (be 2 0 ++ zs 2)))=hdO n:=by
  unfold hdO
  rw [show be 2 0=zs 2 by decide,Jc]; rfl
 unfold Q47.f
 rw [show Q39.f k 1 0 (n.2.2.2.2.length:Int) 0=_ from Zlf (a:=1) (b:=0) (e:=0) (by omega) (by omega) (by omega) (by omega) (by omega),Option.bind_some,e,show Q47.l0 k c n (toB (hdO n)) 0=_ from Zek hc hr hl n.2.2.2.2.length 0 k _ (by omega) (by omega) (by rw [Ya,Zir]; omega),List.drop_zero,← Xt]
 rfl
theorem B5 {c:Cfg} {n:Nd} (hc:OkC c) (hr:∀ m∈n.2.2.2.1,m.1.length≤cK c∧m.2.2.length≤cV c) (hl:n.2.2.2.1.length≤2000):∀(m i k:Nat) (x:TU),n.2.2.2.1.length=i+m→m+20<k→x.length+m*400≤8000000→Q46.l2 k c n x (i:Int)=some (x ++ toB (cat (msS (cK c) (cV c)) (n.2.2.2.1.drop i)))
 | 0,i,k+1,x,h,hk,hx=>by
  rw [Q46.l2,if_neg (by simp only [decide_eq_true_eq]; omega),List.drop_eq_nil_of_le (by omega)]
  simp [cat,toB]
 | m+1,i,k+1,x,h,hk,hx=>by
  obtain ⟨c1,c2,c3,c4,c5,c6,c7,c8,c9⟩:=hc.nat
  have hi:i<n.2.2.2.1.length:=by omega
  have hp:=hr _ (Xs (d:=default) hi)
  rw [Q46.l2,if_pos (decide_eq_true (by omega)),if_pos (by omega),Z8]; (try rw [Jf]); rw [show Q40.f k x 1 2=_ from Uu (w:=1) (v:=2) (.inl rfl) (by omega) (by omega),show Q40.f k x 1 1=_ from Uu (w:=1) (v:=1) (.inl rfl) (by omega) (by omega),Option.bind_some,Option.bind_some,
   Zi1 hc (by rw [List.length_append,Ya,Y7]; omega) hp.1 hp.2 (by omega),Zi1 hc (by rw [List.length_append,Ya,Y7]; omega) hp.1 hp.2 (by omega),Option.bind_some,Option.bind_some,Z9 (by omega),
   B5 hc hr hl m (i+1) k _ (by omega) (by omega) (by rw [List.length_append,List.length_append,Ya,Ya,Y7,Gw hp.1 hp.2]; omega),B5 hc hr hl m (i+1) k _ (by omega) (by omega) (by rw [List.length_append,List.length_append,Ya,Ya,Y7,Gw hp.1 hp.2]; omega),Yi hi,Bj]
  unfold msS
  cases (n.2.2.2.1.getD i default).2.1
  ·rw [if_neg (by simp),if_neg (by simp),show be 1 1=[1] by decide,Xt,List.append_assoc,List.append_assoc]; rfl
  ·rw [if_pos rfl,if_pos rfl,show be 1 2=[2] by decide,Xt,List.append_assoc,List.append_assoc]; rfl
theorem Znp (K:Nat):pvS K []=zs (1+K):=by
 unfold pvS slt
 rw [show be 1 ([]:List UInt8).length=zs 1 by decide,List.nil_append,Jc]; rfl
theorem Zcu {c:Cfg} {n:Nd} (hc:OkC c) (hr:∀ m∈n.2.2.2.1,m.1.length≤cK c∧m.2.2.length≤cV c) (hl:n.2.2.2.1.length≤2000):∀(m i k:Nat) (x:TU),cFa c - 1=i+m→n.2.2.1.length≤i→m+2100<k→x.length+m*400≤7000000→Q46.l1 k c n x (i:Int)=some (x ++ toB (zs ((1+cK c)*m) ++ cat (msS (cK c) (cV c)) n.2.2.2.1))
 | 0,i,k+1,x,h,hz,hk,hx=>by
  replace hx:x.length≤7000000:=by simpa using hx
  obtain ⟨c1,c2,c3,c4,c5,c6,c7,c8,c9⟩:=hc.nat
  have e:w64 (c.2.2.2.1 - 1)=((cFa c - 1:Nat):Int):=by rw [hc.int.f,Zy (by omega) (by omega)]; omega
  rw [Q46.l1,e,if_neg (by simp only [decide_eq_true_eq]; omega),show Q46.l2 k c n x 0=_ from B5 hc hr hl n.2.2.2.1.length 0 k x (by omega) (by omega) (by omega),List.drop_zero]
  simp [zs]
 | m+1,i,k+1,x,h,hz,hk,hx=>by
  obtain ⟨c1,c2,c3,c4,c5,c6,c7,c8,c9⟩:=hc.nat
  have e:w64 (c.2.2.2.1 - 1)=((cFa c - 1:Nat):Int):=by rw [hc.int.f,Zy (by omega) (by omega)]; omega
  have hp:(pvS (cK c) []).length=1+cK c:=Zdh (Nat.zero_le _)
  rw [Q46.l1,e,if_pos (decide_eq_true (by omega)),if_neg (by simp only [decide_eq_true_eq]; omega),show IntKind.u64.wrap ((([]:List UInt8).length:Nat):Int)=((0:Nat):Int) from rfl,show Q40.f k x 1 ((0:Nat):Int)=_ from Uu (w:=1) (.inl rfl) (by omega) (by omega),Option.bind_some,hc.int.k,Zfm (by rw [List.length_append,Ya,Y7]; omega) (Nat.zero_le _) (by omega),Option.bind_some,Z9 (by omega)]
  have e2:(x ++ toB (be 1 0)) ++ toB (slt [] (cK c))=x ++ toB (zs (1+cK c)):=by
   rw [List.append_assoc,← Xt,← Znp]; rfl
  rw [e2,Zcu hc hr hl m (i+1) k _ (by omega) (by omega) (by omega) (by rw [List.length_append,Ya,U4]; omega),List.append_assoc,← Xt,← List.append_assoc (zs (1+cK c)),Jc,show 1+cK c+(1+cK c)*m=(1+cK c)*(m+1) by rw [Nat.mul_add]; omega]
theorem Zew {c:Cfg} {n:Nd} (hc:OkC c) (hp:∀ p∈n.2.2.1,p.length≤cK c) (hpl:n.2.2.1.length≤cFa c - 1) (hr:∀ m∈n.2.2.2.1,m.1.length≤cK c∧m.2.2.length≤cV c) (hl:n.2.2.2.1.length≤2000):∀(m i k:Nat) (x:TU),n.2.2.1.length=i+m→m+2300<k→x.length+m*400≤6000000→Q46.l1 k c n x (i:Int)=some (x ++ toB (cat (pvS (cK c)) (n.2.2.1.drop i) ++ (zs ((1+cK c)*(cFa c - 1 - n.2.2.1.length)) ++ cat (msS (cK c) (cV c)) n.2.2.2.1)))
 | 0,i,k,x,h,hk,hx=>by
  replace hx:x.length≤6000000:=by simpa using hx
  obtain ⟨c1,c2,c3,c4,c5,c6,c7,c8,c9⟩:=hc.nat
  rw [Zcu hc hr hl (cFa c - 1 - n.2.2.1.length) i k x (by omega) (by omega) (by omega) (by omega),List.drop_eq_nil_of_le (by omega)]
  simp [cat]
 | m+1,i,k+1,x,h,hk,hx=>by
  obtain ⟨c1,c2,c3,c4,c5,c6,c7,c8,c9⟩:=hc.nat
  have hi:i<n.2.2.1.length:=by omega
  have hpi:=hp _ (Xs (d:=default) hi)
  have e:w64 (c.2.2.2.1 - 1)=((cFa c - 1:Nat):Int):=by rw [hc.int.f,Zy (by omega) (by omega)]; omega
  rw [Q46.l1,e,if_pos (decide_eq_true (by omega)),if_pos (decide_eq_true (by omega)),if_pos (by omega),Z8,Vs (by omega),show Q40.f k x 1 (((n.2.2.1.getD i default).length:Nat):Int)=_ from Uu (w:=1) (.inl rfl) (by omega) (by omega),Option.bind_some,hc.int.k,Zfm (by rw [List.length_append,Ya,Y7]; omega) hpi (by omega),Option.bind_some,Z9 (by omega)]
  have e2:(x ++ toB (be 1 (n.2.2.1.getD i default).length)) ++ toB (slt (n.2.2.1.getD i default) (cK c))=x ++ toB (pvS (cK c) (n.2.2.1.getD i default)):=by
   rw [List.append_assoc,← Xt]; rfl
  rw [e2,Zew hc hp hpl hr hl m (i+1) k _ (by omega) (by omega) (by rw [List.length_append,Ya,Zdh hpi]; omega),List.append_assoc,← Xt,Yi hi,Bj,List.append_assoc]
def Zi0 (c:Cfg) (n:Nd):List UInt8:=cat (pvS (cK c)) n.2.2.1 ++ (zs ((1+cK c)*(cFa c - 1 - n.2.2.1.length)) ++ cat (msS (cK c) (cV c)) n.2.2.2.1)
theorem Zcs {c:Cfg} {n:Nd} (hc:OkC c) (hp:∀ p∈n.2.2.1,p.length≤cK c) (hpl:n.2.2.1.length≤cFa c - 1) (hr:∀ m∈n.2.2.2.1,m.1.length≤cK c∧m.2.2.length≤cV c) (hl:n.2.2.2.1.length≤2000):∀(m i k:Nat) (x:TU),cFa c=i+m→n.2.1.length≤i→m+2500<k→x.length+m*400≤5000000→Q46.l0 k c n x (i:Int)=some (x ++ toB (zs (4*m) ++ Zi0 c n))
 | 0,i,k+1,x,h,hz,hk,hx=>by
  replace hx:x.length≤5000000:=by simpa using hx
  obtain ⟨c1,c2,c3,c4,c5,c6,c7,c8,c9⟩:=hc.nat
  rw [Q46.l0,hc.int.f,if_neg (by simp only [decide_eq_true_eq]; omega),show Q46.l1 k c n x 0=_ from Zew hc hp hpl hr hl n.2.2.1.length 0 k x (by omega) (by omega) (by omega),List.drop_zero]
  simp [zs,Zi0]
 | m+1,i,k+1,x,h,hz,hk,hx=>by
  obtain ⟨c1,c2,c3,c4,c5,c6,c7,c8,c9⟩:=hc.nat
  rw [Q46.l0,hc.int.f,if_pos (decide_eq_true (by omega)),if_neg (by simp only [decide_eq_true_eq]; omega),show Q40.f k x 4 0=_ from Uu (w:=4) (v:=0) (.inr (.inr rfl)) (by omega) (by omega),Option.bind_some,Z9 (by omega),show be 4 0=zs 4 by decide,
   Zcs hc hp hpl hr hl m (i+1) k _ (by omega) (by omega) (by omega) (by rw [List.length_append,Ya,U4]; omega),List.append_assoc,← Xt,← List.append_assoc (zs 4),Jc,show 4+4*m=4*(m+1) by omega]
theorem Zep {c:Cfg} {n:Nd} (hc:OkC c) (hkd:∀ x∈n.2.1,0≤x∧x<4294967296) (hkl:n.2.1.length≤cFa c) (hp:∀ p∈n.2.2.1,p.length≤cK c) (hpl:n.2.2.1.length≤cFa c - 1) (hr:∀ m∈n.2.2.2.1,m.1.length≤cK c∧m.2.2.length≤cV c) (hl:n.2.2.2.1.length≤2000):∀(m i k:Nat) (x:TU),n.2.1.length=i+m→m+2700<k→x.length+m*400≤4000000→Q46.l0 k c n x (i:Int)=some (x ++ toB (cat kdS (n.2.1.drop i) ++ (zs (4*(cFa c - n.2.1.length)) ++ Zi0 c n)))
 | 0,i,k,x,h,hk,hx=>by
  replace hx:x.length≤4000000:=by simpa using hx
  obtain ⟨c1,c2,c3,c4,c5,c6,c7,c8,c9⟩:=hc.nat
  rw [Zcs hc hp hpl hr hl (cFa c - n.2.1.length) i k x (by omega) (by omega) (by omega) (by omega),List.drop_eq_nil_of_le (by omega)]
  simp [cat]
 | m+1,i,k+1,x,h,hk,hx=>by
  obtain ⟨c1,c2,c3,c4,c5,c6,c7,c8,c9⟩:=hc.nat
  have hi:i<n.2.1.length:=by omega
  have hki:=hkd _ (Xs (d:=default) hi)
  obtain ⟨q,hq⟩:=Int.eq_ofNat_of_zero_le hki.1
  rw [Q46.l0,hc.int.f,if_pos (decide_eq_true (by omega)),if_pos (decide_eq_true (by omega)),if_pos (by omega),Z8,hq,Vs (by omega),show Q40.f k x 4 (q:Int)=_ from Uu (w:=4) (.inr (.inr rfl)) (by omega) (by omega),Option.bind_some,Z9 (by omega)]
  have e2:be 4 q=kdS (n.2.1.getD i default):=by unfold kdS; rw [hq]; rfl
  rw [e2,Zep hc hkd hkl hp hpl hr hl m (i+1) k _ (by omega) (by omega) (by rw [List.length_append,Ya,show (kdS (n.2.1.getD i default)).length=4 from Y7 _ _]; omega),List.append_assoc,← Xt,Yi hi,Bj,List.append_assoc]
theorem Znm {c:Cfg} {n:Nd} (hc:OkC c) (hn:FitN c n) (h0:n.1≠0) {k:Nat} (hk:3000<k):Q46.f k c n=some (toB (hdI n ++ bdI c n)):=by
 obtain ⟨c1,c2,c3,c4,c5,c6,c7,c8,c9⟩:=hc.nat
 obtain ⟨a1,a2,a3,a4,a5⟩:=hn.i h0
 have hlv:=hn.lv
 obtain ⟨lv,hl⟩:=Int.eq_ofNat_of_zero_le hlv.1
 have e:be 1 2 ++ (be 1 lv ++ (be 2 n.2.1.length ++ (be 2 n.2.2.2.1.length ++ zs 2)))=hdI n:=by
  unfold hdI
  rw [hl,Int.toNat_natCast]; rfl
 unfold Q46.f
 rw [hl,show Q39.f k 2 (lv:Int) (n.2.1.length:Int) (n.2.2.2.1.length:Int)=_ from Zlf (a:=2) (by omega) (by omega) (by omega) (by omega) (by omega),Option.bind_some,e,show Q46.l0 k c n (toB (hdI n)) 0=_ from Zep hc hn.kd (by omega) hn.pk (by omega) hn.ms (by omega) n.2.1.length 0 k _ (by omega) (by omega) (by rw [Ya,Zh0]; omega),List.drop_zero,← Xt]
 rfl
theorem Zbg {c:Cfg} {n:Nd} (hok:okB c=true) (hn:FitN c n):(Gq c n).length≤cBy c∧cBy c≤65536∧c.2.1=(cBy c:Int):=by
 simp only [okB,Bool.and_eq_true,decide_eq_true_eq] at hok
 obtain ⟨h1,h2,h3,h4,h5,h6⟩:=hok
 have hc:=G5 h1
 obtain ⟨c1,c2,c3,c4,c5,c6,c7,c8,c9⟩:=hc.nat
 have hi:=hc.int
 have hB:c.2.1=(cBy c:Int):=by unfold cBy; omega
 refine ⟨?_,by omega,hB⟩
 unfold Gq
 by_cases h0:n.1=0
 ·rw [if_pos h0,List.length_append,Zir,Zn1 hn]
  have hl:=(hn.o h0).2.2.2
  have hm:n.2.2.2.2.length*(3+cK c+cV c)≤cLe c*(3+cK c+cV c):=Nat.mul_le_mul_right _ hl
  have:J4 c=((8+cLe c*(3+cK c+cV c):Nat):Int):=by
   unfold J4
   rw [hi.l,hi.k,hi.v]
   push_cast
   rfl
  omega
 ·rw [if_neg h0,List.length_append,Zh0,Znv hn h0]
  have hl:=(hn.i h0).2.2.2.2
  have hm:n.2.2.2.1.length*(4+cK c+cV c)≤cBu c*(4+cK c+cV c):=Nat.mul_le_mul_right _ hl
  have:Jg c=((8+(4+(cFa c - 1)*(5+cK c)+cBu c*(4+cK c+cV c)):Nat):Int):=by
   unfold Jg
   rw [hi.f,hi.b,hi.k,hi.v]
   have:((cFa c:Int) - 1)=((cFa c - 1:Nat):Int):=by omega
   rw [this]
   push_cast
   rfl
  have e2:(cFa c - 1)*(5+cK c)=4*(cFa c - 1)+(1+cK c)*(cFa c - 1):=by
   rw [show 5+cK c=4+(1+cK c) by omega,Nat.mul_add,Nat.mul_comm _ 4,Nat.mul_comm (cFa c - 1) (1+cK c)]
  omega
theorem Gl {c:Cfg} {n:Nd} (hc:OkC c) (hkd:∀ x∈n.2.1,0≤x∧x<4294967296) (h:Xe c Wk n=true):FitN c n:=by
 have hi:=hc.int
 unfold Xe at h
 by_cases h0:n.1=0
 ·rw [if_pos h0] at h
  simp only [Zae,prB,Wn,Bool.and_eq_true,decide_eq_true_eq,List.all_eq_true] at h
  obtain ⟨a1,a2,a3,a4,a5,a6⟩:=h
  refine ⟨by omega,hkd,fun _=>⟨a2,a3,a4,by have:=hi.l; omega⟩,fun z=>absurd h0 z,fun p hp=>by rw [a3] at hp; simp at hp,fun p hp=>by rw [a4] at hp; simp at hp,fun p hp=>?_⟩
  have:=a1 p hp
  have hk:=hi.k
  have hv:=hi.v
  exact ⟨by omega,by omega⟩
 ·rw [if_neg h0] at h
  simp only [Za2,Za8,Zbd,Gn,Wn,Bool.and_eq_true,decide_eq_true_eq,List.all_eq_true] at h
  obtain ⟨b0,b1,b2,b3,b4,b5,b6,b7,b8,b9,b10,b11⟩:=h
  have hk:=hi.k
  have hv:=hi.v
  have hf:=hi.f
  have hb:=hi.b
  exact ⟨by omega,hkd,fun z=>absurd z h0,fun _=>⟨b5,b6,by omega,by omega,by omega⟩,fun p hp=>by have:=b2 p hp; omega,fun p hp=>by have:=b3 p hp; omega,fun p hp=>by rw [b5] at hp; simp at hp⟩
def Ua (c:Cfg) (n:Nd):List Int×Int:=if okB c=true then (if Xe c Wk n=true then (toB (Gt c n),0) else ([],3)) else ([],2)
theorem Za7 {c:Cfg} (h:okB c=true):OkC c:=by
 simp only [okB,Bool.and_eq_true] at h
 exact G5 h.1
theorem Zoz {c:Cfg} {n:Nd} (h1:n.2.1.length≤80) (h2:n.2.2.1.length≤80) (h3:n.2.2.2.1.length≤2000) (h4:n.2.2.2.2.length≤2000) (hl:∀ x∈n.2.1,0≤x∧x<4294967296):Ev (fun k=>Q38.f k c n) (Ua c n):=by
 have hbig:Ev (fun k=>if 10000<k then some () else none) ():=⟨10001,fun k hk=>if_pos (by omega)⟩
 refine (Zjp (c:=c) (s:=Wk) h1 h2 (by omega) (by omega) hl).next2 hbig fun k k1 k2=>?_
 have k2:10000<k:=by
  by_cases z:10000<k
  ·exact z
  ·rw [if_neg z] at k2; cases k2
 unfold Q38.f Ua
 (try rw [Jf]); (try rw [Zqj]); rw [Zc3,Option.bind_some]
 cases hok:okB c with
 | false=>rfl
 | true=>
  have hc:=Za7 hok
  rw [if_pos rfl,if_neg (by simp),if_pos rfl,Q61.f,Option.bind_some,show Q65.f k c (([]:List UInt8),([]:List UInt8),true) n=_ from k1,Option.bind_some]
  cases hr:Xe c Wk n with
  | false=>rfl
  | true=>
   have hn:=Gl hc hl hr
   obtain ⟨r1,r2,r3⟩:=Zbg hok hn
   rw [if_neg (by simp),if_pos rfl]
   by_cases h0:n.1=0
   ·have er:Gq c n=hdO n ++ bdO c n:=if_pos h0
    have e:w64 ((cBy c:Int) - ((hdO n ++ bdO c n).length:Int))=((cBy c - (Gq c n).length:Nat):Int):=by rw [← er,Zy (by omega) (by omega)]; omega
    rw [if_neg (by simp only [decide_eq_true_eq]; omega),Znu hc hn.rk h4 (by omega),Option.bind_some,Ya,r3,e,if_pos (by rw [← er]; omega),Int.toNat_natCast,← Zft,← Xt]
    unfold Gt slt
    rw [er]
   ·have hlv:=hn.lv
    have er:Gq c n=hdI n ++ bdI c n:=if_neg h0
    have e:w64 ((cBy c:Int) - ((hdI n ++ bdI c n).length:Int))=((cBy c - (Gq c n).length:Nat):Int):=by rw [← er,Zy (by omega) (by omega)]; omega
    rw [if_pos (decide_eq_true (by omega)),Znm hc hn h0 (by omega),Option.bind_some,Ya,r3,e,if_pos (by rw [← er]; omega),Int.toNat_natCast,← Zft,← Xt]
    unfold Gt slt
    rw [er]
def rbS (s:TL) (n:Nat):List UInt8×TL:=if s.2=0 then (if s.1.length<n then ([],([],5)) else (s.1.take n,(s.1.drop n,0))) else ([],s)
def iS (s:TL):List Int×Int:=(toB s.1,s.2)
def spS (s:TL) (x:Int):List UInt8×Int:=([],if s.2=0 then x else s.2)
theorem Zhb (a:TP) (n:Nat):(toB a).take n=toB (a.take n):=by simp [toB,List.map_take]
theorem Zfx (a:TP) (n:Nat):(toB a).drop n=toB (a.drop n):=by simp [toB,List.map_drop]
theorem Zal (s:TL) (x:Int):Q177.f ((iS s).1,(iS s).2) x=some (iS (spS s x)):=by
 unfold Q177.f iS spS
 by_cases h:s.2=0 <;> simp [h,toB]
theorem Zl0 (s:TL) {n:Nat} (hn:n≤100000):Q172.f (iS s) (n:Int)=some (toB (rbS s n).1,iS (rbS s n).2):=by
 unfold Q172.f
 rw [Zal,Zal,Option.bind_some,Option.bind_some]
 unfold rbS iS spS
 by_cases h:s.2=0
 ·rw [if_neg (by simp [h]),if_neg (by simp),if_pos h]
  by_cases h2:s.1.length<n
  ·rw [if_pos (decide_eq_true (by rw [Ya]; omega)),if_pos h2]
   simp [h,toB]
  ·rw [if_neg (by simp only [Ya,decide_eq_true_eq]; omega),if_neg h2,if_pos (by omega),if_pos (by rw [Ya]; omega),Int.toNat_natCast]
   have:patch (List.replicate n (0:Int)) 0 (List.replicate n (0:Int)).length (toB s.1)=toB (s.1.take n):=by
    unfold patch
    rw [List.length_replicate,Ya,show 0+min n s.1.length=n by omega,List.drop_eq_nil_of_le (by simp),List.take_zero,List.nil_append,List.append_nil,Zhb]
   rw [this,Zfx,h]
   simp
 ·rw [if_pos (by simp [h]),if_neg h]
  rfl
def Z3 (s:TL) (w:Nat):Nat×TL:=(rdv (rbS s w).1,(rbS s w).2)
theorem Zbi (s:TL) (n:Nat):(rbS s n).1.length≤n:=by
 unfold rbS
 split
 ·split
  ·exact Nat.zero_le _
  ·rw [List.length_take]; omega
 ·exact Nat.zero_le _
theorem Vy (s:TL) (w:Nat):(Z3 s w).1<256 ^ w:=Nat.lt_of_lt_of_le (Zgk _) (Nat.pow_le_pow_right (by omega) (Zbi s w))
theorem Zmp (l:TP) (c:UInt8):rdv (l ++ [c])=rdv l*256+c.toNat:=by
 unfold rdv
 rw [List.foldl_append]; rfl
theorem orb {x c:Nat} (hx:x<4294967296) (hc:c<256):IntKind.u64.wrap (((BitVec.ofInt IntKind.u64.bits (IntKind.u64.wrap ((x:Int)*2 ^ 8)) ||| (BitVec.ofInt IntKind.u64.bits (IntKind.u64.wrap (c:Int)))).toNat:Int))=((x*256+c:Nat):Int):=by
 have e1:(x:Int)*2 ^ 8=((x*256:Nat):Int):=by omega
 rw [e1,Vs (n:=x*256) (by omega),Vs (n:=c) (by omega)]
 have e2:(BitVec.ofInt IntKind.u64.bits ((x*256:Nat):Int) ||| BitVec.ofInt IntKind.u64.bits (c:Int)).toNat=x*256+c:=by
  show (BitVec.ofInt 64 ((x*256:Nat):Int) ||| BitVec.ofInt 64 (c:Int)).toNat=x*256+c
  rw [BitVec.toNat_or,BitVec.ofInt_natCast,BitVec.ofInt_natCast,BitVec.toNat_ofNat,BitVec.toNat_ofNat,Nat.mod_eq_of_lt (by omega),Nat.mod_eq_of_lt (by omega)]
  have:=Nat.shiftLeft_add_eq_or_of_lt (i:=8) (b:=c) hc x
  rw [Nat.shiftLeft_eq] at this
  rw [show x*256=x*2 ^ 8 from rfl,← this]
 rw [e2,Vs (by omega)]
theorem Zk4 (l:TP) (st:TN) (hl:l.length≤4):∀(m i k:Nat),l.length=i+m→m<k→Q171.l0 k (toB l,st) ((rdv (l.take i):Nat):Int) (i:Int)=some (((rdv l:Nat):Int),st)
 | 0,i,k+1,h,_=>by
  rw [Q171.l0,if_neg (by simp only [Ya,decide_eq_true_eq]; omega),List.take_of_length_le (by omega)]
 | m+1,i,k+1,h,hk=>by
  have hi:i<l.length:=by omega
  have hv:=Zgk (l.take i)
  have hv2:256 ^ (l.take i).length≤256 ^ 3:=Nat.pow_le_pow_right (by omega) (by rw [List.length_take]; omega)
  have e:gt (toB l) (i:Int)=(((l[i]'hi).toNat:Nat):Int):=by
   rw [Z8,List.getD_eq_getElem?_getD]
   simp [toB,hi]
  have hc:=(l[i]'hi).toNat_lt
  rw [Q171.l0,if_pos (decide_eq_true (by rw [Ya]; omega)),if_pos (by rw [Ya]; omega),e,orb (by omega) (by omega),Z9 (by omega),← Zmp]
  have:=Zk4 l st hl m (i+1) k (by omega) (by omega)
  rw [List.take_add_one,List.getElem?_eq_getElem hi] at this
  exact this
theorem Jp (s:TL) {w:Nat} (hw:w=1∨w=2∨w=4) {k:Nat} (hk:10<k):Q171.f k ((iS s).1,(iS s).2) (w:Int)=some (((Z3 s w).1:Int),((iS (Z3 s w).2).1,(iS (Z3 s w).2).2)):=by
 unfold Q171.f Q178.f
 have hr:(if (decide ((w:Int)=1))=true then (some true) else (if (decide ((w:Int)=2))=true then (some true) else (if (decide ((w:Int)=4))=true then (some true) else (some (decide ((w:Int)=8))))))=some true:=by
  rcases hw with rfl | rfl | rfl <;> rfl
 have hl:=Zbi s w
 rw [hr,Option.bind_some,if_neg (by simp),show Q172.f ((iS s).1,(iS s).2) (w:Int)=_ from Zl0 s (by omega),Option.bind_some]
 have:=Zk4 (rbS s w).1 (iS (rbS s w).2) (by omega) (rbS s w).1.length 0 k (by omega) (by omega)
 exact this
def nzS (l:TP):Bool:=l.any fun x=>!decide (x=0)
theorem Zj6 (l:TP):((toB l).any fun x=>!decide (x=0))=nzS l:=by
 unfold nzS toB
 rw [List.any_map]
 congr 1
 funext x
 have:((x.toNat:Int)=0)↔x=0:=by
  constructor
  ·intro h
   have h2:x.toNat=0:=by omega
   exact UInt8.toNat_inj.1 (by simpa using h2)
  ·rintro rfl; rfl
 simp only [Function.comp,this]
theorem Zob (l:TP) {k:Nat} (hl:l.length≤10000) (hk:l.length<k):Q99.f k (toB l)=some (nzS l):=by
 obtain ⟨r,h1,h2⟩:=Ut (l:=toB l) (F:=fun k i=>Q105.l0 k (toB l) i) (p:=fun x:Int=>!decide (x=0)) (by rw [Ya]; omega) (fun k i=>by
  show Q105.l0 (k+1) (toB l) i=_
  rw [Q105.l0,Q176.f,Option.bind_some]) (toB l).length 0 k (by omega) (by rw [Ya]; exact hk)
 unfold Q99.f Q105.f
 rw [show Q105.l0 k (toB l) 0=_ from h1,Option.bind_some,h2,List.drop_zero,Zj6]
theorem Zpe (l:TP) {k:Nat} (hl:l.length≤10000) (hk:l.length<k):Q98.f k (toB l)=some (nzS l):=by
 obtain ⟨r,h1,h2⟩:=Ut (l:=toB l) (F:=fun k i=>Q104.l0 k (toB l) i) (p:=fun x:Int=>!decide (x=0)) (by rw [Ya]; omega) (fun k i=>by
  show Q104.l0 (k+1) (toB l) i=_
  rw [Q104.l0,Q174.f,Option.bind_some]) (toB l).length 0 k (by omega) (by rw [Ya]; exact hk)
 unfold Q98.f Q104.f
 rw [show Q104.l0 k (toB l) 0=_ from h1,Option.bind_some,h2,List.drop_zero,Zj6]
def Um (s:TL) (n:Nat):List UInt8×Int:=if nzS (rbS s n).1=true then spS (rbS s n).2 3 else (rbS s n).2
theorem Zny (s:TL) {n:Nat} (hn:n≤100) {k:Nat} (hk:1000<k):Q175.f k ((iS s).1,(iS s).2) (n:Int)=some ((iS (Um s n)).1,(iS (Um s n)).2):=by
 have hl:=Zbi s n
 unfold Q175.f Um
 rw [show Q172.f ((iS s).1,(iS s).2) (n:Int)=_ from Zl0 s (by omega),Option.bind_some,Zob _ (by omega) (by omega),Option.bind_some]
 cases nzS (rbS s n).1
 ·rfl
 ·rw [if_pos rfl,if_pos rfl,Zal,Option.bind_some]
def Vn (s:TL) (n most:Nat):List UInt8×TL:=if most<n then ([],spS s 2) else if (rbS s most).1.length<most then ([],(rbS s most).2) else if nzS ((rbS s most).1.drop n)=true then ([],spS (rbS s most).2 3) else ((rbS s most).1.take n,(rbS s most).2)
theorem Zgy (s:TL) (n:Nat) {most:Nat} (hm:most≤1000) {k:Nat} (hk:2000<k):Q173.f k ((iS s).1,(iS s).2) (n:Int) (most:Int)=some ((Vn s n most).1,((iS (Vn s n most).2).1,(iS (Vn s n most).2).2)):=by
 have hl:=Zbi s most
 unfold Q173.f Vn
 rw [if_neg (by simp),show Q172.f ((iS s).1,(iS s).2) (most:Int)=_ from Zl0 s (by omega),Zal,Option.bind_some,Option.bind_some]
 by_cases h1:most<n
 ·rw [if_pos (decide_eq_true (by omega)),if_pos h1]
 ·rw [if_neg (by simp only [decide_eq_true_eq]; omega),if_neg h1]
  dsimp only
  by_cases h2:(rbS s most).1.length<most
  ·rw [if_pos (decide_eq_true (by rw [Ya]; omega)),if_pos h2]
  ·rw [if_neg (by simp only [Ya,decide_eq_true_eq]; omega),if_neg h2,if_pos (by rw [Ya]; omega),Int.toNat_natCast,Zfx,Zpe _ (by rw [List.length_drop]; omega) (by rw [List.length_drop]; omega),Option.bind_some]
   cases nzS ((rbS s most).1.drop n)
   ·rw [if_neg (by simp),if_pos (by rw [Ya]; omega),if_neg (by simp),Zhb,Za3]
   ·rw [if_pos rfl,if_pos rfl,Zal,Option.bind_some]
def Vq (c:Cfg) (s:TL):Pr×TL:=
 let k:=Z3 s 1
 let v:=Z3 k.2 2
 let x:=Vn v.2 k.1 (cK c)
 let y:=Vn x.2 v.1 (cV c)
 ((x.1,y.1),y.2)
theorem Zle {c:Cfg} (hc:OkC c) (s:TL) {k:Nat} (hk:2000<k):Q44.f k c ((iS s).1,(iS s).2)=some ((Vq c s).1.1,(Vq c s).1.2,((iS (Vq c s).2).1,(iS (Vq c s).2).2)):=by
 obtain ⟨c1,c2,c3,c4,c5,c6,c7,c8,c9⟩:=hc.nat
 have l1:=Vy s 1
 have l2:=Vy (Z3 s 1).2 2
 unfold Q44.f Vq
 rw [show Q171.f k ((iS s).1,(iS s).2) 1=_ from Jp s (w:=1) (.inl rfl) (by omega),Option.bind_some,show Q171.f k _ 2=_ from Jp (Z3 s 1).2 (w:=2) (.inr (.inl rfl)) (by omega),Option.bind_some]
 dsimp only
 rw [Zy (x:=((Z3 s 1).1:Int)) (by omega) (by omega),Zy (x:=((Z3 (Z3 s 1).2 2).1:Int)) (by omega) (by omega),hc.int.k,hc.int.v,Zgy _ _ (by omega) (by omega),Option.bind_some]
 dsimp only
 rw [Zgy _ _ (by omega) (by omega),Option.bind_some]
def J3 (c:Cfg):Nat→List UInt8×Int→List Pr→List Pr×TL
 | 0,s,acc=>(acc,s)
 | m+1,s,acc=>J3 c m (Vq c s).2 (acc ++ [(Vq c s).1])
theorem Zha {c:Cfg} (hc:OkC c) (cnt:Nat):∀(m i k:Nat) (s:TL) (acc:List Pr),min (cLe c) cnt=i+m→m+2100<k→acc.length+m≤5000→Q43.l0 k c (cnt:Int) (iS s).1 (iS s).2 acc (i:Int)=some ((0,([]:List Int),([]:List TP),([]:List Msg),(J3 c m s acc).1),((iS (J3 c m s acc).2).1,(iS (J3 c m s acc).2).2))
 | 0,i,k+1,s,acc,h,hk,ha=>by
  have hi:=hc.int
  rw [Q43.l0,hi.l,if_neg (by simp only [decide_eq_true_eq]; split <;> omega)]
  rfl
 | m+1,i,k+1,s,acc,h,hk,ha=>by
  obtain ⟨c1,c2,c3,c4,c5,c6,c7,c8,c9⟩:=hc.nat
  have hi:=hc.int
  rw [Q43.l0]; (try rw [Jf]); rw [hi.l,if_pos (decide_eq_true (by split <;> omega)),Zle hc s (by omega),Option.bind_some,if_pos (by simp only [List.length_singleton]; omega),Z9 (by omega)]
  exact Zha hc cnt m (i+1) k (Vq c s).2 (acc ++ [(Vq c s).1]) (by omega) (by omega) (by simp; omega)
def Wx:Nat→Nat→Nat→List UInt8×Int→List Int→List Int×TL
 | 0,_,_,s,acc=>(acc,s)
 | m+1,i,cnt,s,acc=>Wx m (i+1) cnt (Z3 s 4).2 (if i<cnt then acc ++ [((Z3 s 4).1:Int)] else acc)
def We (c:Cfg):Nat→Nat→Nat→List UInt8×Int→List TP→List TP×TL
 | 0,_,_,s,acc=>(acc,s)
 | m+1,i,cnt,s,acc=>We c m (i+1) cnt (Vn (Z3 s 1).2 (Z3 s 1).1 (cK c)).2 (if i+1<cnt then acc ++ [(Vn (Z3 s 1).2 (Z3 s 1).1 (cK c)).1] else acc)
def Va (c:Cfg):Nat→List UInt8×Int→List Msg→List Msg×TL
 | 0,s,acc=>(acc,s)
 | m+1,s,acc=>Va c m (Vq c (Z3 s 1).2).2 (acc ++ [((Vq c (Z3 s 1).2).1.1,decide (((Z3 s 1).1:Int)=2),(Vq c (Z3 s 1).2).1.2)])
theorem Zhz {c:Cfg} (hc:OkC c) (lv:Int) (bf:Nat) (ks:TU) (ps:TH):∀(m i k:Nat) (s:TL) (acc:List Msg),min (cBu c) bf=i+m→m+2100<k→acc.length+m≤5000→Q42.l2 k c lv (bf:Int) ks ps (iS s).1 (iS s).2 acc (i:Int)=some ((lv,ks,ps,(Va c m s acc).1,([]:List Pr)),((iS (Va c m s acc).2).1,(iS (Va c m s acc).2).2))
 | 0,i,k+1,s,acc,h,hk,ha=>by
  have hi:=hc.int
  rw [Q42.l2,hi.b,if_neg (by simp only [decide_eq_true_eq]; split <;> omega)]
  rfl
 | m+1,i,k+1,s,acc,h,hk,ha=>by
  obtain ⟨c1,c2,c3,c4,c5,c6,c7,c8,c9⟩:=hc.nat
  have hi:=hc.int
  rw [Q42.l2]; (try rw [Jf]); rw [hi.b,if_pos (decide_eq_true (by split <;> omega)),show Q171.f k ((iS s).1,(iS s).2) 1=_ from Jp s (w:=1) (.inl rfl) (by omega),Option.bind_some]
  dsimp only
  rw [Zle hc _ (by omega),Option.bind_some,if_pos (by simp only [List.length_singleton]; omega),Z9 (by omega)]
  exact Zhz hc lv bf ks ps m (i+1) k _ _ (by omega) (by omega) (by simp; omega)
theorem Zdu {c:Cfg} (hc:OkC c) (lv:Int) (cnt bf:Nat) (hcnt:cnt≤100000) (ks:TU):∀(m i k:Nat) (s:TL) (acc:TH),cFa c - 1=i+m→m+3200<k→acc.length+m≤5000→
  Q42.l1 k c lv (cnt:Int) (bf:Int) ks (iS s).1 (iS s).2 acc (i:Int)=some ((lv,ks,(We c m i cnt s acc).1,(Va c (min (cBu c) bf) (We c m i cnt s acc).2 []).1,([]:List Pr)),((iS (Va c (min (cBu c) bf) (We c m i cnt s acc).2 []).2).1,(iS (Va c (min (cBu c) bf) (We c m i cnt s acc).2 []).2).2))
 | 0,i,k+1,s,acc,h,hk,ha=>by
  obtain ⟨c1,c2,c3,c4,c5,c6,c7,c8,c9⟩:=hc.nat
  have hi:=hc.int
  rw [Q42.l1,hi.f,Zy (x:=(cFa c:Int) - 1) (by omega) (by omega),if_neg (by simp only [decide_eq_true_eq]; omega)]
  exact Zhz hc lv bf ks acc (min (cBu c) bf) 0 k s [] (by omega) (by omega) (by simp; omega)
 | m+1,i,k+1,s,acc,h,hk,ha=>by
  obtain ⟨c1,c2,c3,c4,c5,c6,c7,c8,c9⟩:=hc.nat
  have hi:=hc.int
  have l1:=Vy s 1
  rw [Q42.l1,hi.f,Zy (x:=(cFa c:Int) - 1) (by omega) (by omega),if_pos (decide_eq_true (by omega)),show Q171.f k ((iS s).1,(iS s).2) 1=_ from Jp s (w:=1) (.inl rfl) (by omega),Option.bind_some]
  dsimp only
  rw [Zy (x:=((Z3 s 1).1:Int)) (by omega) (by omega),hi.k,Zgy _ _ (by omega) (by omega),Option.bind_some,Z9 (by omega)]
  dsimp only
  by_cases q:i+1<cnt
  ·rw [if_pos (decide_eq_true (by omega)),if_pos (by simp only [List.length_singleton]; omega)]
   have:=Zdu hc lv cnt bf hcnt ks m (i+1) k (Vn (Z3 s 1).2 (Z3 s 1).1 (cK c)).2 (acc ++ [(Vn (Z3 s 1).2 (Z3 s 1).1 (cK c)).1]) (by omega) (by omega) (by simp; omega)
   rw [this,We,if_pos q]
  ·rw [if_neg (by simp only [decide_eq_true_eq]; omega)]
   have:=Zdu hc lv cnt bf hcnt ks m (i+1) k (Vn (Z3 s 1).2 (Z3 s 1).1 (cK c)).2 acc (by omega) (by omega) (by omega)
   rw [this,We,if_neg q]
def Zl7 (c:Cfg) (lv:Int) (cnt bf:Nat) (s:TL):Nd×TL:=
 let a:=Wx (cFa c) 0 cnt s []
 let b:=We c (cFa c - 1) 0 cnt a.2 []
 let d:=Va c (min (cBu c) bf) b.2 []
 ((lv,a.1,b.1,d.1,[]),d.2)
theorem Zo3 {n:Nat} (h:n<4294967296):IntKind.u32.wrap (n:Int)=(n:Int):=by
 have:IntKind.u32.wrap (n:Int)=((n % 4294967296:Nat):Int):=by simp [IntKind.wrap,IntKind.bits,IntKind.signed]
 rw [this,Nat.mod_eq_of_lt h]
theorem Zdk {c:Cfg} (hc:OkC c) (lv:Int) (cnt bf:Nat) (hcnt:cnt≤100000):∀(m i k:Nat) (s:TL) (acc:TU),cFa c=i+m→m+4000<k→acc.length+m≤5000→
  Q42.l0 k c lv (cnt:Int) (bf:Int) (iS s).1 (iS s).2 acc (i:Int)=some ((lv,(Wx m i cnt s acc).1,(We c (cFa c - 1) 0 cnt (Wx m i cnt s acc).2 []).1,(Va c (min (cBu c) bf) (We c (cFa c - 1) 0 cnt (Wx m i cnt s acc).2 []).2 []).1,([]:List Pr)),((iS (Va c (min (cBu c) bf) (We c (cFa c - 1) 0 cnt (Wx m i cnt s acc).2 []).2 []).2).1,(iS (Va c (min (cBu c) bf) (We c (cFa c - 1) 0 cnt (Wx m i cnt s acc).2 []).2 []).2).2))
 | 0,i,k+1,s,acc,h,hk,ha=>by
  obtain ⟨c1,c2,c3,c4,c5,c6,c7,c8,c9⟩:=hc.nat
  have hi:=hc.int
  rw [Q42.l0,hi.f,if_neg (by simp only [decide_eq_true_eq]; omega)]
  exact Zdu hc lv cnt bf hcnt acc (cFa c - 1) 0 k s [] (by omega) (by omega) (by simp; omega)
 | m+1,i,k+1,s,acc,h,hk,ha=>by
  obtain ⟨c1,c2,c3,c4,c5,c6,c7,c8,c9⟩:=hc.nat
  have hi:=hc.int
  have l1:=Vy s 4
  rw [Q42.l0,hi.f,if_pos (decide_eq_true (by omega)),show Q171.f k ((iS s).1,(iS s).2) 4=_ from Jp s (w:=4) (.inr (.inr rfl)) (by omega),Option.bind_some,Z9 (by omega)]
  dsimp only
  rw [Zo3 (by omega)]
  by_cases q:i<cnt
  ·rw [if_pos (decide_eq_true (by omega)),if_pos (by simp only [List.length_singleton]; omega)]
   have:=Zdk hc lv cnt bf hcnt m (i+1) k (Z3 s 4).2 (acc ++ [((Z3 s 4).1:Int)]) (by omega) (by omega) (by simp; omega)
   rw [this,Wx,if_pos q]
  ·rw [if_neg (by simp only [decide_eq_true_eq]; omega)]
   have:=Zdk hc lv cnt bf hcnt m (i+1) k (Z3 s 4).2 acc (by omega) (by omega) (by omega)
   rw [this,Wx,if_neg q]
def V7 (c:Cfg) (b:TP):Nd×TL:=
 let a1:=Z3 (b,0) 1
 let a2:=Z3 a1.2 1
 let a3:=Z3 a2.2 2
 let a4:=Z3 a3.2 2
 let z:=Um a4.2 2
 if a1.1=1 then ((0,[],[],[],(J3 c (min (cLe c) a3.1) z []).1),(J3 c (min (cLe c) a3.1) z []).2)
 else if a1.1=2 then Zl7 c (if a2.1>1 then (a2.1:Int) else 1) a3.1 a4.1 z
 else ((-1,[],[],[],[]),z)
theorem Zgg {α:Type} {a b:List α} {n:Nat} (h:a.length=n):(a ++ b).drop n=b:=by rw [← h,List.drop_left]
theorem Zf8 {α:Type} {a b:List α} {n:Nat} (h:a.length=n):(a ++ b).take n=a:=by rw [← h,List.take_left]
theorem Zdi {a r:TP} {n:Nat} (h:a.length=n):rbS (a ++ r,0) n=(a,(r,0)):=by
 unfold rbS
 rw [if_pos rfl,if_neg (by simp only [List.length_append]; omega),Zf8 h,Zgg h]
theorem X0 {w v:Nat} {r:TP} (h:v<256 ^ w):Z3 (be w v ++ r,0) w=(v,(r,0)):=by
 unfold Z3
 rw [Zdi (Y7 w v),Znz h]
theorem Zk6 (n:Nat):nzS (zs n)=false:=by
 unfold nzS zs
 rw [List.any_eq_false]
 intro x hx
 rw [List.mem_replicate] at hx
 simp [hx.2]
theorem Zen (n:Nat) (r:TP):Um (zs n ++ r,0) n=(r,0):=by
 unfold Um
 rw [Zdi (U4 n),if_neg (by rw [Zk6]; simp)]
theorem Ga {s r:TP} {most:Nat} (h:s.length≤most):Vn (slt s most ++ r,0) s.length most=(s,(r,0)):=by
 unfold Vn
 rw [Zdi (Ur h),if_neg (by omega),if_neg (by rw [Ur h]; omega)]
 dsimp only
 unfold slt
 rw [Zgg rfl,Zf8 rfl,if_neg (by rw [Zk6]; simp)]
theorem Zea {c:Cfg} (hc:OkC c) {p:Pr} {r:TP} (h1:p.1.length≤cK c) (h2:p.2.length≤cV c):Vq c (prS (cK c) (cV c) p ++ r,0)=(p,(r,0)):=by
 obtain ⟨c1,c2,c3,c4,c5,c6,c7,c8,c9⟩:=hc.nat
 have e:prS (cK c) (cV c) p ++ r=be 1 p.1.length ++ (be 2 p.2.length ++ (slt p.1 (cK c) ++ (slt p.2 (cV c) ++ r))):=by unfold prS; simp only [List.append_assoc]
 unfold Vq
 rw [e,X0 (by omega)]
 dsimp only
 rw [X0 (by omega)]
 dsimp only
 rw [Ga h1]
 dsimp only
 rw [Ga h2]
theorem Zbe {α:Type} (f:α→List UInt8) (x:α) (l:List α) (r:TP):cat f (x :: l) ++ r=f x ++ (cat f l ++ r):=by unfold cat; rw [List.flatMap_cons,List.append_assoc]
theorem Zg6 {c:Cfg} (hc:OkC c):∀(l acc:List Pr) (r:TP),(∀ p∈l,p.1.length≤cK c∧p.2.length≤cV c)→J3 c l.length (cat (prS (cK c) (cV c)) l ++ r,0) acc=(acc ++ l,(r,0))
 | [],acc,r,_=>by rw [List.append_nil]; rfl
 | p :: l,acc,r,h=>by
  have hp:=h p (by simp)
  rw [List.length_cons,J3,Zbe,Zea hc hp.1 hp.2]
  dsimp only
  rw [Zg6 hc l _ r fun q hq=>h q (by simp [hq]),List.append_assoc]; rfl
theorem Zg2:∀(z i cnt:Nat) (acc:TU) (r:TP),cnt≤i→Wx z i cnt (zs (4*z) ++ r,0) acc=(acc,(r,0))
 | 0,_,_,_,_,_=>rfl
 | z+1,i,cnt,acc,r,h=>by
  have e:zs (4*(z+1))=be 4 0 ++ zs (4*z):=by
   rw [show be 4 0=zs 4 by decide,Jc]; congr 1; omega
  rw [Wx,e,List.append_assoc,X0 (by decide),if_neg (by omega)]
  exact Zg2 z (i+1) cnt acc r (by omega)
theorem Zd3 (cnt z:Nat) (r:TP):∀(l:TU) (i:Nat) (acc:TU),i+l.length=cnt→(∀ x∈l,0≤x∧x<4294967296)→Wx (l.length+z) i cnt (cat kdS l ++ (zs (4*z) ++ r),0) acc=(acc ++ l,(r,0))
 | [],i,acc,h,_=>by
  rw [List.append_nil,List.length_nil,Nat.zero_add]
  exact Zg2 z i cnt acc r (by simpa using Nat.le_of_eq h.symm)
 | x :: l,i,acc,h,hx=>by
  have hx0:=hx x (by simp)
  rw [List.length_cons] at h
  rw [List.length_cons,show l.length+1+z=(l.length+z)+1 by omega,Wx,Zbe]
  unfold kdS
  rw [X0 (v:=x.toNat) (by omega)]
  dsimp only
  rw [if_pos (by omega),show ((x.toNat:Nat):Int)=x by omega]
  have:=Zd3 cnt z r l (i+1) (acc ++ [x]) (by omega) fun y hy=>hx y (by simp [hy])
  rw [List.append_assoc] at this
  exact this
theorem Zf5 {c:Cfg} (hc:OkC c):∀(z i cnt:Nat) (acc:TH) (r:TP),cnt≤i+1→We c z i cnt (zs ((1+cK c)*z) ++ r,0) acc=(acc,(r,0))
 | 0,_,_,_,_,_=>rfl
 | z+1,i,cnt,acc,r,h=>by
  have e:zs ((1+cK c)*(z+1))=be 1 0 ++ (slt [] (cK c) ++ zs ((1+cK c)*z)):=by
   unfold slt
   rw [show be 1 0=zs 1 by decide,List.nil_append,Jc,Jc,List.length_nil,Nat.mul_succ]; congr 1; omega
  have e2:Vn (slt [] (cK c) ++ (zs ((1+cK c)*z) ++ r),0) 0 (cK c)=(([]:List UInt8),(zs ((1+cK c)*z) ++ r,0)):=Ga (s:=[]) (Nat.zero_le _)
  rw [We,e,List.append_assoc,List.append_assoc,X0 (by decide)]
  dsimp only
  rw [e2,if_neg (by omega)]
  exact Zf5 hc z (i+1) cnt acc r (by omega)
theorem Ze1 {c:Cfg} (hc:OkC c) (cnt z:Nat) (r:TP):∀(l:TH) (i:Nat) (acc:TH),i+l.length+1=cnt→(∀ x∈l,x.length≤cK c)→We c (l.length+z) i cnt (cat (pvS (cK c)) l ++ (zs ((1+cK c)*z) ++ r),0) acc=(acc ++ l,(r,0))
 | [],i,acc,h,_=>by
  rw [List.append_nil,List.length_nil,Nat.zero_add]
  exact Zf5 hc z i cnt acc r (by simpa using Nat.le_of_eq h.symm)
 | x :: l,i,acc,h,hx=>by
  obtain ⟨c1,c2,c3,c4,c5,c6,c7,c8,c9⟩:=hc.nat
  have hx0:=hx x (by simp)
  rw [List.length_cons] at h
  rw [List.length_cons,show l.length+1+z=(l.length+z)+1 by omega,We,Zbe]
  unfold pvS
  rw [List.append_assoc,X0 (v:=x.length) (by omega)]
  dsimp only
  rw [Ga hx0,if_pos (by omega)]
  dsimp only
  have:=Ze1 hc cnt z r l (i+1) (acc ++ [x]) (by omega) fun y hy=>hx y (by simp [hy])
  rw [List.append_assoc] at this
  exact this
theorem Zd7 {c:Cfg} (hc:OkC c):∀(l acc:List Msg) (r:TP),(∀ p∈l,p.1.length≤cK c∧p.2.2.length≤cV c)→Va c l.length (cat (msS (cK c) (cV c)) l ++ r,0) acc=(acc ++ l,(r,0))
 | [],acc,r,_=>by rw [List.append_nil]; rfl
 | p :: l,acc,r,h=>by
  have hp:=h p (by simp)
  have e:msS (cK c) (cV c) p ++ (cat (msS (cK c) (cV c)) l ++ r)=be 1 (if p.2.1=true then 2 else 1) ++ (prS (cK c) (cV c) (p.1,p.2.2) ++ (cat (msS (cK c) (cV c)) l ++ r)):=by
   unfold msS
   cases p.2.1 <;> rfl
  rw [List.length_cons,Va,Zbe,e,X0 (by split <;> decide)]
  dsimp only
  rw [Zea hc (p:=(p.1,p.2.2)) hp.1 hp.2]
  dsimp only
  rw [show (decide ((((if p.2.1=true then 2 else 1:Nat)):Int)=2))=p.2.1 by cases p.2.1 <;> rfl,Zd7 hc l _ r fun q hq=>h q (by simp [hq]),List.append_assoc]; rfl
theorem Zj2 {c:Cfg} {n:Nd} (hc:OkC c) (hn:FitN c n):∃ r,V7 c (Gt c n)=(n,(r,0)):=by
 obtain ⟨c1,c2,c3,c4,c5,c6,c7,c8,c9⟩:=hc.nat
 unfold Gt slt
 generalize hz:zs (cBy c - (Gq c n).length)=Z
 refine ⟨Z,?_⟩
 by_cases h0:n.1=0
 ·obtain ⟨a1,a2,a3,a4⟩:=hn.o h0
  rw [show Gq c n=hdO n ++ bdO c n from if_pos h0]
  have e:hdO n ++ bdO c n ++ Z=be 1 1 ++ (be 1 0 ++ (be 2 n.2.2.2.2.length ++ (be 2 0 ++ (zs 2 ++ (cat (prS (cK c) (cV c)) n.2.2.2.2 ++ Z))))):=by
   unfold hdO bdO
   rw [show be 1 1=[1] by decide,show be 1 0=[0] by decide,show be 2 0=zs 2 by decide,← List.append_assoc (zs 2),Jc]
   simp only [List.append_assoc,List.cons_append,List.nil_append]
  unfold V7
  rw [e,X0 (by decide)]
  dsimp only
  rw [X0 (by decide)]
  dsimp only
  rw [X0 (by omega)]
  dsimp only
  rw [X0 (by decide)]
  dsimp only
  rw [Zen,if_pos rfl,show min (cLe c) n.2.2.2.2.length=n.2.2.2.2.length by omega,Zg6 hc _ _ _ hn.rk]
  rw [List.nil_append]
  exact Prod.ext (Prod.ext h0.symm (Prod.ext a1.symm (Prod.ext a2.symm (Prod.ext a3.symm rfl)))) rfl
 ·obtain ⟨a1,a2,a3,a4,a5⟩:=hn.i h0
  have hlv:=hn.lv
  rw [show Gq c n=hdI n ++ bdI c n from if_neg h0]
  have e:hdI n ++ bdI c n ++ Z=be 1 2 ++ (be 1 n.1.toNat ++ (be 2 n.2.1.length ++ (be 2 n.2.2.2.1.length ++ (zs 2 ++ (cat kdS n.2.1 ++ (zs (4*(cFa c - n.2.1.length)) ++ (cat (pvS (cK c)) n.2.2.1 ++ (zs ((1+cK c)*(cFa c - 1 - n.2.2.1.length)) ++ (cat (msS (cK c) (cV c)) n.2.2.2.1 ++ Z))))))))):=by
   unfold hdI bdI
   rw [show be 1 2=[2] by decide]
   simp only [List.append_assoc,List.cons_append,List.nil_append]
  unfold V7
  rw [e,X0 (by decide)]
  dsimp only
  rw [X0 (by omega)]
  dsimp only
  rw [X0 (by omega)]
  dsimp only
  rw [X0 (by omega)]
  dsimp only
  rw [Zen,if_neg (by decide),if_pos rfl]
  unfold Zl7
  have k1:=Zd3 n.2.1.length (cFa c - n.2.1.length) (cat (pvS (cK c)) n.2.2.1 ++ (zs ((1+cK c)*(cFa c - 1 - n.2.2.1.length)) ++ (cat (msS (cK c) (cV c)) n.2.2.2.1 ++ Z))) n.2.1 0 [] (by omega) hn.kd
  rw [show n.2.1.length+(cFa c - n.2.1.length)=cFa c by omega] at k1
  have k2:=Ze1 hc n.2.1.length (cFa c - 1 - n.2.2.1.length) (cat (msS (cK c) (cV c)) n.2.2.2.1 ++ Z) n.2.2.1 0 [] (by omega) hn.pk
  rw [show n.2.2.1.length+(cFa c - 1 - n.2.2.1.length)=cFa c - 1 by omega] at k2
  rw [k1]
  dsimp only
  rw [k2]
  dsimp only
  rw [show min (cBu c) n.2.2.2.1.length=n.2.2.2.1.length by omega,Zd7 hc _ _ _ hn.ms]
  refine Prod.ext (Prod.ext ?_ (Prod.ext rfl (Prod.ext rfl (Prod.ext rfl a1.symm)))) rfl
  show (if n.1.toNat>1 then (n.1.toNat:Int) else 1)=n.1
  split <;> omega
theorem Zg4 (c:Cfg):∀(m:Nat) (s:TL) (acc:List Pr),(J3 c m s acc).1.length=acc.length+m
 | 0,_,_=>rfl
 | m+1,s,acc=>by rw [J3,Zg4 c m,List.length_append,List.length_singleton]; omega
theorem Ze4 (c:Cfg):∀(m:Nat) (s:TL) (acc:List Msg),(Va c m s acc).1.length=acc.length+m
 | 0,_,_=>rfl
 | m+1,s,acc=>by rw [Va,Ze4 c m,List.length_append,List.length_singleton]; omega
theorem Zd5 (c:Cfg):∀(m i cnt:Nat) (s:TL) (acc:TH),(We c m i cnt s acc).1.length≤acc.length+m
 | 0,_,_,_,_=>Nat.le_refl _
 | m+1,i,cnt,s,acc=>by
  rw [We]
  refine Nat.le_trans (Zd5 c m _ _ _ _) ?_
  split
  ·rw [List.length_append,List.length_singleton]; omega
  ·omega
theorem Zag:∀(m i cnt:Nat) (s:TL) (acc:TU),(∀ x∈acc,0≤x∧x<4294967296)→(Wx m i cnt s acc).1.length≤acc.length+m∧∀ x∈(Wx m i cnt s acc).1,0≤x∧x<4294967296
 | 0,_,_,_,_,h=>⟨Nat.le_refl _,h⟩
 | m+1,i,cnt,s,acc,h=>by
  rw [Wx]
  have hv:=Vy s 4
  by_cases q:i<cnt
  ·rw [if_pos q]
   obtain ⟨g1,g2⟩:=Zag m (i+1) cnt (Z3 s 4).2 (acc ++ [((Z3 s 4).1:Int)]) (by
    intro x hx
    rcases List.mem_append.1 hx with hx | hx
    ·exact h x hx
    ·rw [List.mem_singleton] at hx; omega)
   rw [List.length_append,List.length_singleton] at g1
   exact ⟨by omega,g2⟩
  ·rw [if_neg q]
   obtain ⟨g1,g2⟩:=Zag m (i+1) cnt (Z3 s 4).2 acc h
   exact ⟨by omega,g2⟩
structure Rd (n:Nd):Prop where
 kids:n.2.1.length≤64
 pivs:n.2.2.1.length≤64
 buf:n.2.2.2.1.length≤512
 prs:n.2.2.2.2.length≤1024
 kd:∀ x∈n.2.1,0≤x∧x<4294967296
theorem Zlx {c:Cfg} (hc:OkC c) (b:TP):Rd (V7 c b).1:=by
 obtain ⟨c1,c2,c3,c4,c5,c6,c7,c8,c9⟩:=hc.nat
 unfold V7
 dsimp only
 split
 ·refine ⟨by simp,by simp,by simp,?_,by simp⟩
  show (J3 c _ _ []).1.length≤1024
  rw [Zg4,List.length_nil]; omega
 ·split
  ·unfold Zl7
   dsimp only
   obtain ⟨g1,g2⟩:=Zag (cFa c) 0 (Z3 (Z3 (Z3 (b,0) 1).2 1).2 2).1 (Um (Z3 (Z3 (Z3 (Z3 (b,0) 1).2 1).2 2).2 2).2 2) [] (by simp)
   rw [List.length_nil] at g1
   refine ⟨by show (Wx _ _ _ _ _).1.length≤64; omega,?_,?_,by simp,g2⟩
   ·show (We c _ _ _ _ []).1.length≤64
    refine Nat.le_trans (Zd5 c _ _ _ _ _) ?_
    rw [List.length_nil]; omega
   ·show (Va c _ _ []).1.length≤512
    rw [Ze4,List.length_nil]; omega
  ·exact ⟨by simp,by simp,by simp,by simp,by simp⟩
theorem Zp5 {k:Nat} {a b:TU} (ha:a.length≤1000000) (hk:a.length<k):Q101.f k a b=some (decide (a=b)):=by
 unfold Q101.f
 by_cases h:a.length=b.length
 ·rw [if_neg (by simp [h])]
  have:=Vv (F:=fun k i=>Q101.l0 k a b i) (eqb:=fun x y=>decide (x=y)) (fun x y=>rfl) h ha (fun k i=>rfl) k 0 (by omega) (by omega)
  simpa using this
 ·rw [if_pos (by simp; omega)]
  have:a≠b:=fun e=>h (by rw [e])
  simp [this]
def Jk:Nd:=(0,[],[],[],[])
def Zji (c:Cfg) (b:TP) (n:Nd) (e:Int):Nd×Int:=if e=0 then (if Xe c Wk n=true then (if Gt c n=b then (n,0) else (Jk,12)) else (Jk,12)) else (Jk,12)
def Zdd (c:Cfg) (b:TP):Nd×Int:=if okB c=true then Zji c b (V7 c b).1 (V7 c b).2.2 else (Jk,2)
theorem Zno {a b:TP}:toB a=toB b↔a=b:=⟨fun e=>by rw [← Za3 a,e,Za3],fun e=>by rw [e]⟩
theorem Zdo {c:Cfg} {n:Nd} (hok:okB c=true) (hn:FitN c n):(Gt c n).length=cBy c:=Ur (Zbg hok hn).1
theorem Zo9 {c:Cfg} {b:TP} (hok:okB c=true) {n:Nd} {s:TL} {k:Nat} (hk:70000<k) (hl:∀ x∈n.2.1,0≤x∧x<4294967296) (he:Q38.f k c n=some (Ua c n)):((Q170.f ((iS s).1,(iS s).2)).bind fun r9=>(if (!decide (r9=0))=true then (some (Jk,(12:Int))) else ((Q38.f k c n).bind fun r10=>(if (!decide (r10.2=0))=true then some (Jk,(12:Int)) else ((Q101.f k r10.1 (toB b)).bind fun r11=>(if (!r11)=true then some (Jk,(12:Int)) else some (n,(0:Int))))))))=some (Zji c b n s.2):=by
 unfold Q170.f Zji iS
 rw [Option.bind_some,he]
 try dsimp only
 by_cases h0:s.2=0
 ·rw [if_neg (by simp [h0]),if_pos h0,Option.bind_some]
  unfold Ua
  rw [if_pos hok]
  cases hr:Xe c Wk n with
  | false=>rfl
  | true=>
   have hn:=Gl (Za7 hok) hl hr
   have r2:=(Zbg hok hn).2.1
   rw [if_pos rfl,if_pos rfl]
   try dsimp only
   rw [if_neg (by simp),Zp5 (by rw [Ya,Zdo hok hn]; omega) (by rw [Ya,Zdo hok hn]; omega),Option.bind_some]
   by_cases e:Gt c n=b
   ·rw [if_neg (by simp [e]),if_pos e]
   ·rw [if_pos (by simp [Zno,e]),if_neg e]
 ·rw [if_pos (by simp [h0]),if_neg h0]
theorem Zoe {l:TU} (hl:l.length≤1000000):Q93.f l=some l:=by
 unfold Q93.f
 rw [if_pos (by simp; omega)]
 simp
theorem Zp3 {c:Cfg} {b:TP} (hb:b.length≤100000):Ev (fun k=>Q37.f k c (toB b)) (Zdd c b):=by
 by_cases hok:okB c=true
 ·have hc:=Za7 hok
  have hr:=Zlx hc b
  obtain ⟨k1,h1⟩:=Zoz (c:=c) (n:=(V7 c b).1) (by have:=hr.kids; omega) (by have:=hr.pivs; omega) (by have:=hr.buf; omega) (by have:=hr.prs; omega) hr.kd
  refine ⟨k1+80000,fun k hk=>?_⟩
  have he:=h1 k (by omega)
  have tl:=Zo9 (b:=b) (s:=(V7 c b).2) hok (show 70000<k by omega) hr.kd he
  have hi:=hc.int
  unfold Zdd
  rw [if_pos hok,← tl]
  show Q37.f k c (toB b)=_
  unfold Q37.f Q168.f
  (try rw [Jf]); rw [Zc3,Option.bind_some,if_pos hok,if_neg (by simp),Zoe (by rw [Ya]; omega),Option.bind_some,Option.bind_some]
  try dsimp only
  have l1:=Vy (b,0) 1
  have l2:=Vy (Z3 (b,0) 1).2 1
  have l3:=Vy (Z3 (Z3 (b,0) 1).2 1).2 2
  have l4:=Vy (Z3 (Z3 (Z3 (b,0) 1).2 1).2 2).2 2
  rw [show Q171.f k (toB b,(0:Int)) 1=_ from Jp (b,0) (w:=1) (.inl rfl) (by omega),Option.bind_some]
  try dsimp only
  rw [show Q171.f k _ 1=_ from Jp (Z3 (b,0) 1).2 (w:=1) (.inl rfl) (by omega),Option.bind_some]
  try dsimp only
  rw [show Q171.f k _ 2=_ from Jp (Z3 (Z3 (b,0) 1).2 1).2 (w:=2) (.inr (.inl rfl)) (by omega),Option.bind_some]
  try dsimp only
  rw [show Q171.f k _ 2=_ from Jp (Z3 (Z3 (Z3 (b,0) 1).2 1).2 2).2 (w:=2) (.inr (.inl rfl)) (by omega),Option.bind_some]
  try dsimp only
  rw [show Q175.f k _ 2=_ from Zny (Z3 (Z3 (Z3 (Z3 (b,0) 1).2 1).2 2).2 2).2 (n:=2) (by omega) (by omega),Option.bind_some]
  try dsimp only
  by_cases q1:(Z3 (b,0) 1).1=1
  ·have er:V7 c b=_:=if_pos q1
   rw [er,if_pos (decide_eq_true (by omega)),Zy (x:=((Z3 (Z3 (Z3 (b,0) 1).2 1).2 2).1:Int)) (by omega) (by omega)]
   rw [show Q43.f k c _ (((Z3 (Z3 (Z3 (b,0) 1).2 1).2 2).1:Nat):Int)=_ from Zha hc (Z3 (Z3 (Z3 (b,0) 1).2 1).2 2).1 (min (cLe c) (Z3 (Z3 (Z3 (b,0) 1).2 1).2 2).1) 0 k (Um (Z3 (Z3 (Z3 (Z3 (b,0) 1).2 1).2 2).2 2).2 2) [] (by omega) (by have:=hc.nat; omega) (by have:=hc.nat; simp; omega),Option.bind_some]
   rfl
  ·rw [if_neg (by simp only [decide_eq_true_eq]; omega)]
   by_cases q2:(Z3 (b,0) 1).1=2
   ·have er:V7 c b=_:=(if_neg q1).trans (if_pos q2)
    rw [er,if_pos (decide_eq_true (by omega)),Zy (x:=((Z3 (Z3 (Z3 (b,0) 1).2 1).2 2).1:Int)) (by omega) (by omega),Zy (x:=((Z3 (Z3 (b,0) 1).2 1).1:Int)) (by omega) (by omega),Zy (x:=((Z3 (Z3 (Z3 (Z3 (b,0) 1).2 1).2 2).2 2).1:Int)) (by omega) (by omega),
     show (if (((Z3 (Z3 (b,0) 1).2 1).1:Nat):Int)>1 then (((Z3 (Z3 (b,0) 1).2 1).1:Nat):Int) else 1)=(if (Z3 (Z3 (b,0) 1).2 1).1>1 then (((Z3 (Z3 (b,0) 1).2 1).1:Nat):Int) else 1) by split <;> split <;> omega]
    rw [show Q42.f k c _ _ _ _=_ from Zdk hc (if (Z3 (Z3 (b,0) 1).2 1).1>1 then (((Z3 (Z3 (b,0) 1).2 1).1:Nat):Int) else 1) (Z3 (Z3 (Z3 (b,0) 1).2 1).2 2).1 (Z3 (Z3 (Z3 (Z3 (b,0) 1).2 1).2 2).2 2).1 (by omega) (cFa c) 0 k (Um (Z3 (Z3 (Z3 (Z3 (b,0) 1).2 1).2 2).2 2).2 2) [] (by omega) (by have:=hc.nat; omega) (by have:=hc.nat; simp; omega),Option.bind_some]
    rfl
   ·have er:V7 c b=_:=(if_neg q1).trans (if_neg q2)
    rw [er,if_neg (by simp only [decide_eq_true_eq]; omega)]
    rfl
 ·refine ⟨0,fun k _=>?_⟩
  show Q37.f k c (toB b)=_
  unfold Q37.f Zdd
  (try rw [Jf]); rw [Zc3,Option.bind_some,if_neg hok,if_neg hok,if_pos (by simp)]
  rfl
theorem Zmf {c:Cfg} {n:Nd} (hok:okB c=true) (hl:∀ x∈n.2.1,0≤x∧x<4294967296) (hr:Xe c Wk n=true):Zdd c (Gt c n)=(n,0):=by
 obtain ⟨r,h⟩:=Zj2 (Za7 hok) (Gl (Za7 hok) hl hr)
 unfold Zdd Zji
 rw [if_pos hok,h]
 try dsimp only
 rw [if_pos rfl,if_pos hr,if_pos rfl]
theorem Zhk {a b:Nd} (h1:a.2.1.length≤1500) (h2:a.2.2.1.length≤1500) (h3:a.2.2.2.1.length≤1500) (h4:a.2.2.2.2.length≤1500) {k:Nat} (hk:2000<k):Q153.f k a b=some (decide (a=b)):=by
 unfold Q153.f
 rw [Zhm (by omega) (by omega),Zhl (by omega) (by omega),Zgc (by omega) (by omega),Zhr (by omega) (by omega)]
 obtain ⟨a1,a2,a3,a4,a5⟩:=a
 obtain ⟨b1,b2,b3,b4,b5⟩:=b
 simp only [Option.bind_some,decide_eq_true_eq,Prod.mk.injEq]
 by_cases e1:a1=b1 <;> by_cases e2:a2=b2 <;> by_cases e3:a3=b3 <;> by_cases e4:a4=b4 <;> by_cases e5:a5=b5 <;> simp [e1,e2,e3,e4,e5]
abbrev Lnk:=Int×Int×Bool
abbrev Chn:=List Lnk×Int
def ah (l:List Lnk) (k:Nat):Int:=(l.getD k default).1
def bh (l:List Lnk) (k:Nat):Int:=(l.getD k default).2.1
def inn (l:List Lnk) (k:Nat):Bool:=(l.getD k default).2.2
theorem Y8 {α:Type} {l:List α} {j k:Nat} {v d:α} (hj:j<l.length):(l.set j v).getD k d=if j=k then v else l.getD k d:=by
 rw [List.getD_eq_getElem?_getD,List.getD_eq_getElem?_getD,List.getElem?_set]
 split
 ·rename_i h
  subst h
  simp [hj]
 ·rfl
def Lk (l:List Lnk) (a b:Nat):Prop:=bh l a=(b:Int)∧ah l b=(a:Int)
def Wq (l:List Lnk):Nat→List Nat→Prop
 | _,[]=>True
 | a,x :: L=>Lk l a x∧Wq l x L
def V9:Nat→List Nat→Nat
 | a,[]=>a
 | _,x :: L=>V9 x L
theorem G7 {l:List Lnk}:∀ {a:Nat} {X Y:List Nat},Wq l a (X ++ Y)↔Wq l a X∧Wq l (V9 a X) Y
 | a,[],Y=>by simp [Wq,V9]
 | a,x :: X,Y=>by
  rw [List.cons_append,Wq,Wq,V9,G7,and_assoc]
theorem U8:∀ {a:Nat} {L:List Nat},V9 a L∈a :: L
 | a,[]=>by simp [V9]
 | a,x :: L=>by
  rw [V9]
  have:=U8 (a:=x) (L:=L)
  simp only [List.mem_cons] at this ⊢
  rcases this with h | h
  ·exact .inr (.inl h)
  ·exact .inr (.inr h)
theorem Gm {l l':List Lnk}:∀ {a:Nat} {L:List Nat},(∀ x∈(a :: L).dropLast,bh l' x=bh l x)→(∀ y∈L,ah l' y=ah l y)→Wq l a L→Wq l' a L
 | a,[],_,_,_=>trivial
 | a,x :: L,h1,h2,h=>by
  rw [Wq] at h ⊢
  refine ⟨⟨?_,?_⟩,Gm (fun y hy=>h1 y ?_) (fun y hy=>h2 y (by simp [hy])) h.2⟩
  ·rw [h1 a (by simp)]; exact h.1.1
  ·rw [h2 x (by simp)]; exact h.1.2
  ·rw [List.dropLast_cons_of_ne_nil (by simp)]
   exact List.mem_cons_of_mem _ hy
structure ChI (n:Nat) (c:Chn) (L:List Nat):Prop where
 len:c.1.length=n+1
 cnt:c.2=(L.length:Int)
 nd:L.Nodup
 lt:∀ x∈L,x<n
 inn:∀ x,x≤n→(inn c.1 x=true↔x∈L)
 ring:Wq c.1 n (L ++ [n])
theorem Zf9:∀ {n:Nat} {L:List Nat},L.Nodup→(∀ x∈L,x<n)→L.length≤n
 | 0,[],_,_=>Nat.le_refl _
 | 0,x :: L,_,h=>by have:=h x (by simp); omega
 | n+1,L,hd,h=>by
  have:=Zf9 (n:=n) (hd.erase n) fun x hx=>by
   have h1:=h x (List.mem_of_mem_erase hx)
   have h2:=(hd.mem_erase_iff.1 hx).1
   omega
  rw [List.length_erase] at this
  split at this <;> omega
theorem ChI.short {n:Nat} {c:Chn} {L:List Nat} (h:ChI n c L):L.length≤n:=Zf9 h.nd h.lt
theorem Gx:∀ {a:Nat} {L:List Nat},(a :: L).Nodup→∀ x∈(a :: L).dropLast,x≠V9 a L
 | a,[],_,x,hx=>by simp at hx
 | a,y :: L,hd,x,hx=>by
  rw [List.dropLast_cons_of_ne_nil (by simp),List.mem_cons] at hx
  rw [V9]
  rcases hx with rfl | hx
  ·exact fun e=>(List.nodup_cons.1 hd).1 (e ▸ U8)
  ·exact Gx (List.nodup_cons.1 hd).2 x hx
theorem gtl (l:List Lnk) (k:Nat):gt l (k:Int)=(ah l k,bh l k,SK.T.inn l k):=by
 rw [Z8]; rfl
section
variable {n:Nat} {c:Chn} {L:List Nat}
theorem ChI.split (h:ChI n c L) {i:Nat} (hi:i∈L):∃(P S:List Nat) (s:Nat) (T:List Nat),L=P ++ i :: S∧S ++ [n]=s :: T∧Wq c.1 n P∧Lk c.1 (V9 n P) i∧Lk c.1 i s∧Wq c.1 s T∧V9 n P≤n∧s≤n:=by
 obtain ⟨P,S,rfl⟩:=List.append_of_mem hi
 obtain ⟨s,T,e⟩:∃ s T,S ++ [n]=s :: T:=by
  cases S with
  | nil=>exact ⟨n,[],rfl⟩
  | cons x S=>exact ⟨x,S ++ [n],rfl⟩
 have hr:=h.ring
 rw [List.append_assoc,List.cons_append,G7,Wq,e,Wq] at hr
 refine ⟨P,S,s,T,rfl,e,hr.1,hr.2.1,hr.2.2.1,hr.2.2.2,?_,?_⟩
 ·have:=U8 (a:=n) (L:=P)
  rcases List.mem_cons.1 this with h1 | h1
  ·omega
  ·have:=h.lt _ (List.mem_append_left _ h1); omega
 ·have:s∈S ++ [n]:=by rw [e]; simp
  rcases List.mem_append.1 this with h1 | h1
  ·have:=h.lt s (by simp [h1]); omega
  ·simp at h1; omega
theorem Zql (h:ChI n c L) {i:Nat} (hi:i∈L) (hn:n≤1000):∃ c',Q30.f c (i:Int)=some c'∧ChI n c' (L.erase i):=by
 obtain ⟨P,S,s,T,e1,e2,r1,r2,r3,r4,hp,hs⟩:=h.split hi
 have hin:=h.lt i hi
 have hlen:=h.len
 generalize hpe:V9 n P=p at *
 have ei:SK.T.inn c.1 i=true:=(h.inn i (by omega)).2 hi
 have nd:(P ++ i :: S).Nodup:=e1 ▸ h.nd
 have nd2:=List.nodup_append.1 nd
 have ndS:=(List.nodup_cons.1 nd2.2.1)
 have hnP:n∉P:=fun hx=>by have:=h.lt n (by rw [e1]; simp [hx]); omega
 have hnS:n∉S:=fun hx=>by have:=h.lt n (by rw [e1]; simp [hx]); omega
 have hiP:i∉P:=fun hx=>nd2.2.2 i hx i (by simp) rfl
 have hpi:p≠i:=fun e=>by
  have:p∈n :: P:=hpe ▸ U8
  rcases List.mem_cons.1 this with h1 | h1
  ·omega
  ·exact hiP (e ▸ h1)
 have hsi:s≠i:=fun e=>by
  have:s∈S ++ [n]:=by rw [e2]; simp
  rcases List.mem_append.1 this with h1 | h1
  ·exact ndS.1 (e ▸ h1)
  ·simp at h1; omega
 have a1:(gt c.1 (i:Int)).1=(p:Int):=by rw [gtl]; exact r2.2
 have a2:(gt c.1 (i:Int)).2.1=(s:Int):=by rw [gtl]; exact r3.1
 have a3:(gt c.1 (i:Int)).2.2=true:=by rw [gtl]; exact ei
 unfold Q30.f
 rw [if_pos (by omega),a3,if_neg (by simp),a1,a2,if_pos (by omega),if_pos (by rw [List.length_set]; omega),if_pos (by rw [List.length_set,List.length_set]; omega)]
 simp only [Int.toNat_natCast,gtl]
 generalize hl1:c.1.set p (ah c.1 p,(s:Int),SK.T.inn c.1 p)=l1
 have hl1l:l1.length=n+1:=by rw [← hl1,List.length_set,hlen]
 generalize hl2:l1.set s ((p:Int),bh l1 s,SK.T.inn l1 s)=l2
 have hl2l:l2.length=n+1:=by rw [← hl2,List.length_set,hl1l]
 have g1:∀ k,l1.getD k default=if p=k then (ah c.1 p,(s:Int),SK.T.inn c.1 p) else c.1.getD k default:=fun k=>by rw [← hl1]; exact Y8 (by omega)
 have g2:∀ k,l2.getD k default=if s=k then ((p:Int),bh l1 s,SK.T.inn l1 s) else l1.getD k default:=fun k=>by rw [← hl2]; exact Y8 (by omega)
 have g3:∀ k,(l2.set i (0,0,false)).getD k default=if i=k then (0,0,false) else l2.getD k default:=fun k=>Y8 (by omega)
 have b1:∀ k,bh l1 k=if p=k then (s:Int) else bh c.1 k:=fun k=>by unfold bh; rw [g1 k]; split <;> rfl
 have n1:∀ k,SK.T.inn l1 k=SK.T.inn c.1 k:=fun k=>by
  show (l1.getD k default).2.2=_
  rw [g1 k]; split
  ·rename_i e; rw [← e]
  ·rfl
 have c1:∀ k,ah l1 k=ah c.1 k:=fun k=>by
  show (l1.getD k default).1=_
  rw [g1 k]; split
  ·rename_i e; rw [← e]
  ·rfl
 have b3:∀ k,k≠i→bh (l2.set i (0,0,false)) k=if p=k then (s:Int) else bh c.1 k:=fun k hk=>by
  show ((l2.set i (0,0,false)).getD k default).2.1=_
  rw [g3 k,if_neg (Ne.symm hk),g2 k]
  split
  ·rename_i e; rw [← e]; exact b1 s
  ·exact b1 k
 have c3:∀ k,k≠i→ah (l2.set i (0,0,false)) k=if s=k then (p:Int) else ah c.1 k:=fun k hk=>by
  show ((l2.set i (0,0,false)).getD k default).1=_
  rw [g3 k,if_neg (Ne.symm hk),g2 k]
  split
  ·rfl
  ·exact c1 k
 have n3:∀ k,SK.T.inn (l2.set i (0,0,false)) k=if i=k then false else SK.T.inn c.1 k:=fun k=>by
  show ((l2.set i (0,0,false)).getD k default).2.2=_
  rw [g3 k]
  split
  ·rfl
  ·rw [g2 k]
   split
   ·rename_i e; rw [← e]; exact n1 s
   ·exact n1 k
 have el:L.erase i=P ++ S:=by
  rw [e1,List.erase_append_right _ hiP,List.erase_cons_head]
 refine ⟨_,rfl,⟨by rw [List.length_set,hl2l],?_,?_,?_,?_,?_⟩⟩
 ·rw [el,h.cnt,e1]
  have:=h.short
  rw [e1] at this
  simp only [List.length_append,List.length_cons] at this ⊢
  rw [Zy (by omega) (by omega)]; omega
 ·exact h.nd.erase i
 ·exact fun x hx=>h.lt x (List.mem_of_mem_erase hx)
 ·intro x hx
  rw [n3 x,h.nd.mem_erase_iff]
  split
  ·rename_i e; simp [e]
  ·rename_i e
   rw [h.inn x hx]
   exact ⟨fun g=>⟨fun e'=>e e'.symm,g⟩,fun g=>g.2⟩
 ·rw [el,List.append_assoc,e2,G7,hpe,Wq]
  have hTs:∀ y∈T,y≠s∧y≠i:=fun y hy=>by
   have hnd:(S ++ [n]).Nodup:=List.nodup_append.2 ⟨ndS.2,by simp,fun a ha b hb e=>by simp at hb; exact hnS (hb ▸ e ▸ ha)⟩
   rw [e2] at hnd
   refine ⟨fun e=>(List.nodup_cons.1 hnd).1 (e ▸ hy),fun e=>?_⟩
   have:y∈S ++ [n]:=by rw [e2]; simp [hy]
   rcases List.mem_append.1 this with h1 | h1
   ·exact ndS.1 (e ▸ h1)
   ·simp at h1; omega
  have hsT:∀ x∈(s :: T).dropLast,x≠p∧x≠i:=fun x hx=>by
   rw [← e2,List.dropLast_concat] at hx
   refine ⟨fun e=>?_,fun e=>ndS.1 (e ▸ hx)⟩
   have:p∈n :: P:=hpe ▸ U8
   rcases List.mem_cons.1 this with h1 | h1
   ·exact hnS (h1 ▸ e ▸ hx)
   ·exact nd2.2.2 p h1 x (by simp [hx]) e.symm
  have hPp:∀ x∈(n :: P).dropLast,x≠p∧x≠i:=fun x hx=>by
   have hnd:(n :: P).Nodup:=List.nodup_cons.2 ⟨hnP,nd2.1⟩
   refine ⟨hpe ▸ Gx hnd x hx,fun e=>?_⟩
   have:=List.dropLast_subset _ hx
   rcases List.mem_cons.1 this with h1 | h1
   ·omega
   ·exact hiP (e ▸ h1)
  have hPs:∀ y∈P,y≠s∧y≠i:=fun y hy=>by
   refine ⟨fun e=>?_,fun e=>hiP (e ▸ hy)⟩
   have:s∈S ++ [n]:=by rw [e2]; simp
   rcases List.mem_append.1 this with h1 | h1
   ·exact nd2.2.2 y hy s (by simp [h1]) e
   ·simp at h1; exact hnP (h1 ▸ e ▸ hy)
  refine ⟨Gm (fun x hx=>by rw [b3 x (hPp x hx).2,if_neg (Ne.symm (hPp x hx).1)]) (fun y hy=>by rw [c3 y (hPs y hy).2,if_neg (Ne.symm (hPs y hy).1)]) r1,⟨by rw [b3 p hpi,if_pos rfl],by rw [c3 s hsi,if_pos rfl]⟩,
   Gm (fun x hx=>by rw [b3 x (hsT x hx).2,if_neg (Ne.symm (hsT x hx).1)]) (fun y hy=>by rw [c3 y (hTs y hy).2,if_neg (Ne.symm (hTs y hy).1)]) r4⟩
theorem Zli (h:ChI n c L) {i:Nat} (hi:i<n) (hn:n≤1000):Q33.f c (i:Int)=some 0:=by
 have hlen:=h.len
 unfold Q33.f Q32.f
 try dsimp only
 rw [if_neg (by simp only [decide_eq_true_eq]; omega),if_neg (by simp only [decide_eq_true_eq]; omega),Option.bind_some,Zy (by omega) (by omega),if_neg (by simp only [decide_eq_true_eq]; omega)]
theorem Zfs (h:ChI n c L) {i:Nat} (hi:i<n) (hn:n≤1000):∃ r c',Q26.f c (i:Int)=some (r,c')∧ChI n c' (L.erase i):=by
 have hlen:=h.len
 unfold Q26.f
 rw [show Q33.f (c.1,c.2) (i:Int)=_ from Zli h hi hn,Option.bind_some,if_neg (by simp),if_pos (by omega),gtl]
 by_cases hm:i∈L
 ·rw [if_neg (by simp [(h.inn i (by omega)).2 hm])]
  obtain ⟨c',e,h'⟩:=Zql h hm hn
  rw [show Q30.f (c.1,c.2) (i:Int)=_ from e,Option.bind_some]
  exact ⟨_,_,rfl,h'⟩
 ·have:SK.T.inn c.1 i=false:=by
   cases q:SK.T.inn c.1 i with
   | false=>rfl
   | true=>exact absurd ((h.inn i (by omega)).1 q) hm
  rw [if_pos (by simp [this])]
  exact ⟨_,_,rfl,by rw [List.erase_of_not_mem hm]; exact h⟩
theorem Zqg (h:ChI n c L) {i:Nat} (hi:i<n) (hm:i∉L) (hn:n≤1000):∃ c',Q31.f c (i:Int) (n:Int)=some c'∧ChI n c' (i :: L):=by
 have hlen:=h.len
 have hsh:=h.short
 have hnL:n∉L:=fun hx=>by have:=h.lt n hx; omega
 obtain ⟨s,T,e⟩:∃ s T,L ++ [n]=s :: T:=by
  cases L with
  | nil=>exact ⟨n,[],rfl⟩
  | cons x S=>exact ⟨x,S ++ [n],rfl⟩
 have hr:=h.ring
 rw [e,Wq] at hr
 have hs:s≤n:=by
  have:s∈L ++ [n]:=by rw [e]; simp
  rcases List.mem_append.1 this with h1 | h1
  ·have:=h.lt s h1; omega
  ·simp at h1; omega
 have hsi:s≠i:=fun q=>by
  have:s∈L ++ [n]:=by rw [e]; simp
  rcases List.mem_append.1 this with h1 | h1
  ·exact hm (q ▸ h1)
  ·simp at h1; omega
 have a2:(gt c.1 (n:Int)).2.1=(s:Int):=by rw [gtl]; exact hr.1.1
 unfold Q31.f
 rw [if_pos (by omega),if_pos (by omega),if_pos (by rw [List.length_set]; omega),a2,if_pos (by rw [List.length_set,List.length_set]; omega)]
 simp only [Int.toNat_natCast,gtl]
 generalize hl1:c.1.set i ((n:Int),(s:Int),true)=l1
 have hl1l:l1.length=n+1:=by rw [← hl1,List.length_set,hlen]
 generalize hl2:l1.set n (ah l1 n,(i:Int),SK.T.inn l1 n)=l2
 have hl2l:l2.length=n+1:=by rw [← hl2,List.length_set,hl1l]
 have g1:∀ k,l1.getD k default=if i=k then ((n:Int),(s:Int),true) else c.1.getD k default:=fun k=>by rw [← hl1]; exact Y8 (by omega)
 have g2:∀ k,l2.getD k default=if n=k then (ah l1 n,(i:Int),SK.T.inn l1 n) else l1.getD k default:=fun k=>by rw [← hl2]; exact Y8 (by omega)
 have g3:∀ k,(l2.set s ((i:Int),bh l2 s,SK.T.inn l2 s)).getD k default=if s=k then ((i:Int),bh l2 s,SK.T.inn l2 s) else l2.getD k default:=fun k=>Y8 (by omega)
 have b2:∀ k,bh l2 k=if n=k then (i:Int) else if i=k then (s:Int) else bh c.1 k:=fun k=>by
  show (l2.getD k default).2.1=_
  rw [g2 k]
  split
  ·rfl
  ·rw [g1 k]; split <;> rfl
 have c2:∀ k,ah l2 k=if i=k then (n:Int) else ah c.1 k:=fun k=>by
  show (l2.getD k default).1=_
  rw [g2 k]
  split
  ·rename_i q
   rw [← q,if_neg (by omega)]
   show (l1.getD n default).1=_
   rw [g1 n,if_neg (by omega)]; rfl
  ·rw [g1 k]; split <;> rfl
 have n2:∀ k,SK.T.inn l2 k=if i=k then true else SK.T.inn c.1 k:=fun k=>by
  show (l2.getD k default).2.2=_
  rw [g2 k]
  split
  ·rename_i q
   rw [← q,if_neg (by omega)]
   show (l1.getD n default).2.2=_
   rw [g1 n,if_neg (by omega)]; rfl
  ·rw [g1 k]; split <;> rfl
 have b3:∀ k,bh (l2.set s ((i:Int),bh l2 s,SK.T.inn l2 s)) k=bh l2 k:=fun k=>by
  show ((l2.set s ((i:Int),bh l2 s,SK.T.inn l2 s)).getD k default).2.1=_
  rw [g3 k]; split
  ·rename_i q; rw [← q]
  ·rfl
 have c3:∀ k,ah (l2.set s ((i:Int),bh l2 s,SK.T.inn l2 s)) k=if s=k then (i:Int) else ah l2 k:=fun k=>by
  show ((l2.set s ((i:Int),bh l2 s,SK.T.inn l2 s)).getD k default).1=_
  rw [g3 k]; split <;> rfl
 have n3:∀ k,SK.T.inn (l2.set s ((i:Int),bh l2 s,SK.T.inn l2 s)) k=SK.T.inn l2 k:=fun k=>by
  show ((l2.set s ((i:Int),bh l2 s,SK.T.inn l2 s)).getD k default).2.2=_
  rw [g3 k]; split
  ·rename_i q; rw [← q]
  ·rfl
 refine ⟨_,rfl,⟨by rw [List.length_set,hl2l],?_,List.nodup_cons.2 ⟨hm,h.nd⟩,?_,?_,?_⟩⟩
 ·rw [h.cnt,List.length_cons,Zy (by omega) (by omega)]; omega
 ·intro x hx
  rcases List.mem_cons.1 hx with q | q
  ·omega
  ·exact h.lt x q
 ·intro x hx
  rw [n3 x,n2 x,List.mem_cons]
  split
  ·rename_i q; simp [q]
  ·rename_i q
   rw [h.inn x hx]
   exact ⟨fun g=>.inr g,fun g=>g.elim (fun e'=>absurd e'.symm q) id⟩
 ·rw [List.cons_append,Wq,e,Wq]
  have hnd:(L ++ [n]).Nodup:=List.nodup_append.2 ⟨h.nd,by simp,fun a ha b hb q=>by simp at hb; exact hnL (hb ▸ q ▸ ha)⟩
  rw [e] at hnd
  refine ⟨⟨by rw [b3,b2,if_pos rfl],by rw [c3,if_neg hsi,c2,if_pos rfl]⟩,⟨by rw [b3,b2,if_neg (by omega),if_pos rfl],by rw [c3,if_pos rfl]⟩,Gm (fun x hx=>?_) (fun y hy=>?_) hr.2⟩
  ·rw [← e,List.dropLast_concat] at hx
   rw [b3,b2,if_neg (fun q:n=x=>hnL (q ▸ hx)),if_neg (fun q:i=x=>hm (q ▸ hx))]
  ·have hyL:y∈L ++ [n]:=by rw [e]; simp [hy]
   have hyi:i≠y:=fun q=>by
    rcases List.mem_append.1 hyL with h1 | h1
    ·exact hm (q ▸ h1)
    ·simp at h1; omega
   rw [c3,if_neg (fun q:s=y=>(List.nodup_cons.1 hnd).1 (q ▸ hy)),c2,if_neg hyi]
theorem Zon (h:ChI n c L) {i:Nat} (hi:i<n) (hm:i∉L) (hn:n≤1000):∃ c',Q27.f c (i:Int)=some (0,c')∧ChI n c' (i :: L):=by
 have hlen:=h.len
 have hf:SK.T.inn c.1 i=false:=by
  cases q:SK.T.inn c.1 i with
  | false=>rfl
  | true=>exact absurd ((h.inn i (by omega)).1 q) hm
 have ho:Q30.f (c.1,c.2) (i:Int)=some c:=by
  unfold Q30.f
  try dsimp only
  rw [if_pos (by omega),gtl,if_pos (by simp [hf])]
 obtain ⟨c',e,h'⟩:=Zqg h hi hm hn
 unfold Q27.f Q32.f
 rw [show Q33.f (c.1,c.2) (i:Int)=_ from Zli h hi hn,Option.bind_some,if_pos (by simp),ho,Option.bind_some,Option.bind_some]
 try dsimp only
 rw [show w64 ((c.1.length:Int) - 1)=(n:Int) by rw [Zy (by omega) (by omega)]; omega,show Q31.f (c.1,c.2) (i:Int) (n:Int)=_ from e,Option.bind_some]
 exact ⟨_,rfl,h'⟩
theorem Ze7 (h:ChI n c []):Q28.f c=some (0,false):=by
 have:=h.cnt
 unfold Q28.f Q29.f
 rw [Option.bind_some,if_pos (by simp [this])]
theorem Zmw {q:Nat} (h:ChI n c (L ++ [q])) (hn:n≤1000):Q28.f c=some ((q:Int),true):=by
 have hcnt:=h.cnt
 have hlen:=h.len
 unfold Q28.f Q29.f Q32.f
 have hr:=h.ring
 rw [List.append_assoc,List.cons_append,List.nil_append,G7,Wq,Wq] at hr
 have:ah c.1 n=(q:Int):=hr.2.2.1.2
 rw [Option.bind_some,if_neg (by simp [hcnt]; omega),Option.bind_some,show w64 ((c.1.length:Int) - 1)=(n:Int) by rw [Zy (by omega) (by omega)]; omega,if_pos (by omega),gtl,this]
theorem Zp6 (hn:1≤n) (h64:n≤64):∃ c',Q34.f (n:Int)=some (some c',0)∧ChI n c' []:=by
 unfold Q34.f
 have e:(w64 ((n:Int)+1))=((n+1:Nat):Int):=by rw [Zy (by omega) (by omega)]; omega
 rw [if_neg (by simp only [decide_eq_true_eq]; omega),if_neg (by simp only [decide_eq_true_eq]; omega),e,if_pos (by omega),Int.toNat_natCast,if_pos (by rw [List.length_replicate]; omega),Int.toNat_natCast]
 have g:∀ k,((List.replicate (n+1) ((0,0,false):Lnk)).set n ((n:Int),(n:Int),false)).getD k default=if n=k then ((n:Int),(n:Int),false) else (List.replicate (n+1) ((0,0,false):Lnk)).getD k default:=fun k=>Y8 (by rw [List.length_replicate]; omega)
 refine ⟨_,rfl,⟨by simp,rfl,by simp,by simp,fun x hx=>?_,?_⟩⟩
 ·show (_:Lnk).2.2=true↔_
  rw [g x]
  split
  ·simp
  ·rw [List.getD_eq_getElem?_getD,List.getElem?_replicate,if_pos (by omega)]; simp
 ·rw [List.nil_append,Wq,Wq]
  refine ⟨⟨?_,?_⟩,trivial⟩
  ·show (_:Lnk).2.1=_
   rw [g n,if_pos rfl]
  ·show (_:Lnk).1=_
   rw [g n,if_pos rfl]
end
abbrev Dv:=Int×List Int×TS
def blk (img:TU) (n i:Nat):List Int:=(img.drop (i*n)).take n
theorem Jy {N n i:Nat} (h:i<N):i*n+n≤N*n:=by
 have:=Nat.mul_le_mul_right n h
 rw [Nat.succ_mul] at this
 exact this
theorem Zcq {img:TU} {N n i:Nat} (hl:img.length=N*n) (h:i<N):(blk img n i).length=n:=by
 have:=Jy (n:=n) h
 unfold blk
 rw [List.length_take,List.length_drop]
 omega
theorem Uf {img b:TU} {N n i:Nat} (hl:img.length=N*n) (h:i<N) (hb:b.length=n) (j:Nat) (hj:j<N):blk (patch img (i*n) n b) n j=if j=i then b else blk img n j:=by
 have h1:=Jy (n:=n) h
 have h2:=Jy (n:=n) hj
 have e0:(img.take (i*n)).length=i*n:=by rw [List.length_take]; omega
 unfold blk patch
 rw [List.take_of_length_le (i:=n) (l:=b) (by omega),show i*n+min n b.length=i*n+n from by omega]
 by_cases e:j=i
 ·subst e
  rw [if_pos rfl,List.append_assoc,List.drop_append_of_le_length (by omega),List.drop_of_length_le (by omega),List.nil_append,List.take_append_of_le_length (by omega),List.take_of_length_le (by omega)]
 ·rw [if_neg e]
  by_cases lt:j<i
  ·have h3:=Nat.mul_le_mul_right n (show j+1≤i from lt)
   rw [Nat.succ_mul] at h3
   rw [List.append_assoc,List.drop_append_of_le_length (by omega),List.take_append_of_le_length (by rw [List.length_drop]; omega),List.drop_take,List.take_take]
   congr 1
   omega
  ·have h3:=Nat.mul_le_mul_right n (show i+1≤j from by omega)
   rw [Nat.succ_mul] at h3
   rw [List.drop_append,List.drop_of_length_le (by rw [List.length_append]; omega),List.nil_append,List.drop_drop]
   congr 2
   rw [List.length_append,e0]
   omega
theorem Ze5 {img b:TU} {N n i:Nat} (hl:img.length=N*n) (h:i<N):(patch img (i*n) n b).length=N*n:=by
 have:=Jy (n:=n) h
 rw [Xr (by omega),hl]
theorem U5 {N n:Nat} {img:TU} {s:TS} (hn:1≤n) (hl:img.length=N*n) (hb:N*n≤4294967296):Q53.f ((n:Int),img,s)=some (N:Int):=by
 have hN:N≤4294967296:=Nat.le_trans (Nat.le_mul_of_pos_right N hn) hb
 have e:Int.tdiv (img.length:Int) (n:Int)=N:=by
  rw [hl,Int.natCast_mul]
  exact Int.mul_tdiv_cancel _ (by omega)
 unfold Q53.f
 dsimp only
 rw [if_neg (by simp only [decide_eq_true_eq]; omega),if_pos (by omega),e,Zy (by omega) (by omega)]
theorem Zmy {n i N:Nat} (hb:N*n≤4294967296) (hn:1≤n) (h:i<N):w64 (i:Int)=i∧w64 ((i:Int)*(n:Int))=((i*n:Nat):Int)∧w64 (((i*n:Nat):Int)+(n:Int))=((i*n+n:Nat):Int):=by
 have h1:=Jy (n:=n) h
 have h2:i≤i*n:=Nat.le_mul_of_pos_right i hn
 refine ⟨Zy (by omega) (by omega),?_,?_⟩
 ·rw [← Int.natCast_mul]
  exact Zy (by omega) (by omega)
 ·rw [Zy (by omega) (by omega)]
  rfl
theorem Zlo {N n i:Nat} {img b:TU} {s:TS} (hn:1≤n) (hN:1≤N) (hl:img.length=N*n) (hb:N*n≤4294967296) (hi:i<4294967296) :
  Q56.f ((n:Int),img,s) (i:Int) b=some (if N≤i then (4,((n:Int),img,s)) else if b.length=n then (0,((n:Int),patch img (i*n) n b,s.1,IntKind.u64.wrap (s.2+1))) else (3,((n:Int),img,s))):=by
 have e:=U5 (s:=(s.1,s.2)) hn hl hb
 unfold Q56.f
 dsimp only
 rw [e,Option.bind_some,if_neg (by simp only [decide_eq_true_eq]; omega),Option.bind_some]
 by_cases h:N≤i
 ·rw [Zy (x:=(i:Int)) (by omega) (by omega),if_pos (decide_eq_true (by omega)),if_pos h]
 ·obtain ⟨a1,a2,a3⟩:=Zmy hb hn (show i<N from by omega)
  have h1:=Jy (n:=n) (show i<N from by omega)
  rw [a1,a2,a3,if_neg (by simp only [decide_eq_true_eq]; omega),if_pos (by omega),if_neg h]
  by_cases hq:b.length=n
  ·rw [if_neg (by simp only [Bool.not_eq_true',decide_eq_false_iff_not]; omega),if_pos hq]
   simp only [Int.toNat_natCast]
   rw [List.length_take,List.length_drop,show min (i*n+n - i*n) (img.length - i*n)=n from by omega]
  ·rw [if_pos (by simp only [Bool.not_eq_true',decide_eq_false_iff_not]; omega),if_neg hq]
theorem Zc2 {l:TU} (h:l.length≤140737488355328):Q93.f l=some l:=by
 unfold Q93.f
 rw [if_pos (by simpa using h)]
 rfl
theorem Zh4 {N n i:Nat} {img:TU} {s:TS} (hn:1≤n) (hN:1≤N) (hl:img.length=N*n) (hb:N*n≤4294967296) (hi:i<4294967296) :
  Q55.f ((n:Int),img,s) (i:Int)=some (if N≤i then ([],4,((n:Int),img,s)) else (blk img n i,0,((n:Int),img,IntKind.u64.wrap (s.1+1),s.2))):=by
 have e:=U5 (s:=(s.1,s.2)) hn hl hb
 unfold Q55.f
 dsimp only
 rw [e,Option.bind_some,if_neg (by simp only [decide_eq_true_eq]; omega),Option.bind_some]
 by_cases h:N≤i
 ·rw [Zy (x:=(i:Int)) (by omega) (by omega),if_pos (decide_eq_true (by omega)),if_pos h]
 ·obtain ⟨a1,a2,a3⟩:=Zmy hb hn (show i<N from by omega)
  have h1:=Jy (n:=n) (show i<N from by omega)
  rw [a1,a2,a3,if_neg (by simp only [decide_eq_true_eq]; omega),if_pos (by omega),if_neg h]
  simp only [Int.toNat_natCast]
  have hbl:(blk img n i).length=n:=Zcq hl (by omega)
  have:(img.drop (i*n)).take (i*n+n - i*n)=blk img n i:=by unfold blk; congr 1; omega
  have hnb:n≤N*n:=Nat.le_mul_of_pos_left n hN
  rw [this,Zc2 (by omega),Option.bind_some]
def Lb (img:TU) (N n:Nat):List TP:=(List.range N).map fun i=>toS (blk img n i)
def rightD (N n:Nat):Bool:=decide (5≤N∧N≤65536∧1≤n∧n≤65536)
abbrev Fr8:=Int×List Int×Bool×Int
abbrev Ca:=Dv×List Fr8×List TS×List Int×Chn
section
variable {es:TJ} {x v d:Int}
theorem mhas_iff:∀ {es:TJ},Y1 es x=true↔∃ v,(x,v)∈es
 | []=>by simp [Y1]
 | p :: es=>by
  rw [Y1]
  split
  ·rename_i h
   exact ⟨fun _=>⟨p.2,by simp [← h]⟩,fun _=>rfl⟩
  ·rename_i h
   rw [mhas_iff]
   constructor
   ·rintro ⟨v,hv⟩; exact ⟨v,by simp [hv]⟩
   ·rintro ⟨v,hv⟩
    rcases List.mem_cons.1 hv with e | e
    ·exact absurd (by rw [← e]) h
    ·exact ⟨v,e⟩
theorem Xu:∀ {es:TJ},(es.map Prod.fst).Nodup→(x,v)∈es→Zq d es x=v
 | [],_,h=>by simp at h
 | p :: es,nd,h=>by
  rw [List.map_cons,List.nodup_cons] at nd
  rw [Zq]
  rcases List.mem_cons.1 h with e | e
  ·rw [if_pos (by rw [← e]),← e]
  ·rw [if_neg (fun q=>nd.1 (List.mem_map.2 ⟨_,e,by simpa using q.symm⟩)),Xu nd.2 e]
theorem Ud {p:TS}:∀ {es:TJ},(es.map Prod.fst).Nodup→(p∈X8 x es↔p∈es∧p.1≠x)
 | [],_=>by simp [X8]
 | q :: es,nd=>by
  rw [List.map_cons,List.nodup_cons] at nd
  rw [X8]
  split
  ·rename_i h
   constructor
   ·intro hp
    refine ⟨by simp [hp],fun e=>nd.1 ?_⟩
    rw [h,← e]; exact List.mem_map_of_mem hp
   ·rintro ⟨hp,hne⟩
    rcases List.mem_cons.1 hp with e | e
    ·exact absurd (e ▸ h) hne
    ·exact e
  ·rename_i h
   rw [List.mem_cons,Ud nd.2,List.mem_cons]
   constructor
   ·rintro (e | e)
    ·exact ⟨.inl e,e ▸ h⟩
    ·exact ⟨.inr e.1,e.2⟩
   ·rintro ⟨e | e,hne⟩
    ·exact .inl e
    ·exact .inr ⟨e,hne⟩
theorem mdel_sub:∀ {es:TJ},(X8 x es).Sublist es
 | []=>List.Sublist.refl _
 | q :: es=>by
  rw [X8]
  split
  ·exact List.sublist_cons_self _ _
  ·exact mdel_sub.cons_cons _
theorem Br:∀ {es:TJ},Y1 es x=true→(X8 x es).length+1=es.length
 | [],h=>by simp [Y1] at h
 | q :: es,h=>by
  rw [Y1] at h
  rw [X8]
  split
  ·rfl
  ·rename_i hn
   rw [if_neg hn] at h
   rw [List.length_cons,List.length_cons,Br h]
theorem Zet:∀ {es:TJ},(es.map Prod.fst).Nodup→(x,v)∈es→Vt x v es=es
 | [],_,h=>by simp at h
 | p :: es,nd,h=>by
  rw [List.map_cons,List.nodup_cons] at nd
  rw [Vt]
  rcases List.mem_cons.1 h with e | e
  ·rw [if_pos (by rw [← e]),e]
  ·rw [if_neg (fun q=>nd.1 (List.mem_map.2 ⟨_,e,by simpa using q.symm⟩)),Zet nd.2 e]
end
structure Okf (N B n t:Nat) (c:Ca) (i f:Nat):Prop where
 hi:i<N
 hf:f<n
 blk:(c.2.1.getD f default).1=(i:Int)
 len:(c.2.1.getD f default).2.1.length=B
 pin:0≤(c.2.1.getD f default).2.2.2∧(c.2.1.getD f default).2.2.2≤t
 emp:(f:Int)∉c.2.2.2.1
structure CaI (N B n t:Nat) (H:List Nat) (c:Ca) (L:List Nat):Prop where
 dsz:c.1.1=(B:Int)
 dim:c.1.2.1.length=N*B
 frl:c.2.1.length=n
 mnd:(c.2.2.1.map Prod.fst).Nodup
 mok:∀ p∈c.2.2.1,∃ i f:Nat,p=((i:Int),(f:Int))∧Okf N B n t c i f
 emp:∀ x∈c.2.2.2.1,∃ f:Nat,x=(f:Int)∧f<n
 end_:c.2.2.2.1.Nodup
 hol:∀ f∈H,f<n∧(f:Int)∉c.2.2.2.1∧∀ i:Int,(i,(f:Int))∉c.2.2.1
 tot:c.2.2.1.length+c.2.2.2.1.length+H.length=n
 chn:ChI n c.2.2.2.2 L
 lok:∀ f:Nat,f∈L↔(∃ i:Int,(i,(f:Int))∈c.2.2.1)∧(c.2.1.getD f default).2.2.2=0
section
variable {N B n t:Nat} {H:List Nat} {c:Ca} {L:List Nat}
theorem CaI.at (h:CaI N B n t H c L) {i f:Int} (hp:(i,f)∈c.2.2.1):∃ i' f':Nat,i=(i':Int)∧f=(f':Int)∧Okf N B n t c i' f':=by
 obtain ⟨i',f',e,ok⟩:=h.mok _ hp
 rw [Prod.mk.injEq] at e
 exact ⟨i',f',e.1,e.2,ok⟩
theorem CaI.atN (h:CaI N B n t H c L) {i f:Nat} (hp:((i:Int),(f:Int))∈c.2.2.1):Okf N B n t c i f:=by
 obtain ⟨i',f',e1,e2,ok⟩:=h.at hp
 have:i=i':=by omega
 have:f=f':=by omega
 subst_vars
 exact ok
theorem CaI.one (h:CaI N B n t H c L) {i j f:Nat} (hi:((i:Int),(f:Int))∈c.2.2.1) (hj:((j:Int),(f:Int))∈c.2.2.1):i=j:=by
 have h1:=(h.atN hi).blk
 have h2:=(h.atN hj).blk
 omega
theorem CaI.get (h:CaI N B n t H c L) (i:Nat):(Y1 c.2.2.1 (i:Int)=false∧∀ v,((i:Int),v)∉c.2.2.1)∨∃ f:Nat,((i:Int),(f:Int))∈c.2.2.1∧Y1 c.2.2.1 (i:Int)=true∧Zq 0 c.2.2.1 (i:Int)=(f:Int)∧Okf N B n t c i f:=by
 cases q:Y1 c.2.2.1 (i:Int) with
 | false=>exact .inl ⟨rfl,fun v hv=>by rw [mhas_iff.2 ⟨v,hv⟩] at q; cases q⟩
 | true=>
  obtain ⟨v,hv⟩:=mhas_iff.1 q
  obtain ⟨i',f,e1,rfl,ok⟩:=h.at hv
  have:i=i':=by omega
  subst this
  exact .inr ⟨f,hv,rfl,Xu h.mnd hv,ok⟩
theorem CaI.used (h:CaI N B n t H c L):c.2.2.1.length≤n:=by have:=h.tot; omega
theorem CaI.mono (h:CaI N B n t H c L) {t':Nat} (ht:t≤t'):CaI N B n t' H c L:=
 ⟨h.dsz,h.dim,h.frl,h.mnd,fun p hp=>by
  obtain ⟨i,f,e,ok⟩:=h.mok p hp
  exact ⟨i,f,e,ok.hi,ok.hf,ok.blk,ok.len,⟨ok.pin.1,by have:=ok.pin.2; omega⟩,ok.emp⟩,h.emp,h.end_,h.hol,h.tot,h.chn,h.lok⟩
theorem CaI.dev (h:CaI N B n t H c L) {img:TU} (hl:img.length=N*B) (s:TS):CaI N B n t H ((c.1.1,img,s),c.2) L:=
 ⟨h.dsz,hl,h.frl,h.mnd,fun p hp=>by
  obtain ⟨i,f,e,ok⟩:=h.mok p hp
  exact ⟨i,f,e,ok.hi,ok.hf,ok.blk,ok.len,ok.pin,ok.emp⟩,h.emp,h.end_,h.hol,h.tot,h.chn,h.lok⟩
theorem CaI.setfr (h:CaI N B n t H c L) {i f:Nat} (ha:((i:Int),(f:Int))∈c.2.2.1) {x:Fr8} (h1:x.1=(i:Int)) (h2:x.2.1.length=B) {t':Nat} (h3:0≤x.2.2.2∧x.2.2.2≤t') (ht:t≤t') {ch:Chn} {L':List Nat} (hc:ChI n ch L')
  (hL:∀ g,g∈L'↔if g=f then x.2.2.2=0 else g∈L):CaI N B n t' H (c.1,c.2.1.set f x,c.2.2.1,c.2.2.2.1,ch) L':=by
 have ok:=h.atN ha
 have hfl:f<c.2.1.length:=by rw [h.frl]; exact ok.hf
 have g:∀ k,(c.2.1.set f x).getD k default=if f=k then x else c.2.1.getD k default:=fun k=>Y8 hfl
 refine ⟨h.dsz,h.dim,by rw [List.length_set,h.frl],h.mnd,fun p hp=>?_,h.emp,h.end_,h.hol,h.tot,hc,fun k=>?_⟩
 ·obtain ⟨j,k,e,okk⟩:=h.mok p hp
  refine ⟨j,k,e,okk.hi,okk.hf,?_,?_,?_,okk.emp⟩
  all_goals
   show _
   try dsimp only
   rw [g k]
   split
  ·rename_i q
   subst q
   have:i=j:=h.one ha (by rw [← e]; exact hp)
   subst this; exact h1
  ·exact okk.blk
  ·exact h2
  ·exact okk.len
  ·exact h3
  ·exact ⟨okk.pin.1,by have:=okk.pin.2; omega⟩
 ·rw [hL k]
  try dsimp only
  rw [g k]
  by_cases q:k=f
  ·subst q
   rw [if_pos rfl,if_pos rfl]
   exact ⟨fun e=>⟨⟨_,ha⟩,e⟩,fun e=>e.2⟩
  ·rw [if_neg q,if_neg (Ne.symm q)]
   exact h.lok k
theorem CaI.leave (h:CaI N B n t [] c L) {i f:Nat} (ha:((i:Int),(f:Int))∈c.2.2.1) (hn:n≤64) {ch:Chn} (hc:ChI n ch (L.erase f)):CaI N B n t [] (c.1,c.2.1.set f (0,[],false,0),X8 (i:Int) c.2.2.1,c.2.2.2.1 ++ [(f:Int)],ch) (L.erase f):=by
 have ok:=h.atN ha
 have hfl:f<c.2.1.length:=by rw [h.frl]; exact ok.hf
 have g:∀ k,(c.2.1.set f (0,[],false,0)).getD k default=if f=k then (0,[],false,0) else c.2.1.getD k default:=fun k=>Y8 hfl
 have hne:∀ {j k:Nat},((j:Int),(k:Int))∈c.2.2.1→(j:Int)≠(i:Int)→f≠k:=fun {j k} hjk hji e=>by
  subst e
  exact hji (by rw [h.one ha hjk])
 refine ⟨h.dsz,h.dim,by rw [List.length_set,h.frl],(mdel_sub.map _).nodup h.mnd,fun p hp=>?_,fun x hx=>?_,?_,by simp,?_,hc,fun k=>?_⟩
 ·rw [Ud h.mnd] at hp
  obtain ⟨j,k,e,okk⟩:=h.mok p hp.1
  have hjk:((j:Int),(k:Int))∈c.2.2.1:=by rw [← e]; exact hp.1
  have hk:f≠k:=hne hjk (by rw [e] at hp; exact hp.2)
  refine ⟨j,k,e,okk.hi,okk.hf,?_,?_,?_,?_⟩
  ·dsimp only; rw [g k,if_neg hk]; exact okk.blk
  ·dsimp only; rw [g k,if_neg hk]; exact okk.len
  ·dsimp only; rw [g k,if_neg hk]; exact okk.pin
  ·dsimp only
   rw [List.mem_append,List.mem_singleton]
   rintro (q | q)
   ·exact okk.emp q
   ·exact hk (by omega)
 ·rcases List.mem_append.1 hx with q | q
  ·exact h.emp x q
  ·rw [List.mem_singleton] at q; exact ⟨f,q,ok.hf⟩
 ·exact List.nodup_append.2 ⟨h.end_,by simp,fun a hb b hb' e=>by rw [List.mem_singleton] at hb'; exact ok.emp (hb' ▸ e ▸ hb)⟩
 ·have h1:=h.tot
  have h2:=Br (mhas_iff.2 ⟨_,ha⟩)
  simp only [List.length_append,List.length_singleton,List.length_nil] at h1 ⊢
  omega
 ·rw [h.chn.nd.mem_erase_iff]
  try dsimp only
  rw [g k]
  constructor
  ·rintro ⟨hk,hkL⟩
   obtain ⟨⟨j,hj⟩,hp⟩:=(h.lok k).1 hkL
   rw [if_neg (Ne.symm hk)]
   obtain ⟨j',k',e1,e2,okk⟩:=h.at hj
   refine ⟨⟨j,(Ud h.mnd).2 ⟨hj,fun e=>hk ?_⟩⟩,hp⟩
   have h1:Zq 0 c.2.2.1 (i:Int)=(f:Int):=Xu h.mnd ha
   have h2:Zq 0 c.2.2.1 (i:Int)=(k:Int):=Xu h.mnd (by rw [← show j=(i:Int) from e]; exact hj)
   omega
  ·rintro ⟨⟨j,hj⟩,hp⟩
   rw [Ud h.mnd] at hj
   obtain ⟨j',k',e1,e2,okk⟩:=h.at hj.1
   have hk:f≠k:=hne (j:=j') (by rw [← e1]; exact hj.1) (by rw [← e1]; exact hj.2)
   rw [if_neg hk] at hp
   exact ⟨Ne.symm hk,(h.lok k).2 ⟨⟨j,hj.1⟩,hp⟩⟩
theorem CaI.take (h:CaI N B n t [] c L) {E:TU} {f:Nat} (he:c.2.2.2.1=E ++ [(f:Int)]):CaI N B n t [f] (c.1,c.2.1,c.2.2.1,E,c.2.2.2.2) L:=by
 have hnd:=h.end_
 rw [he] at hnd
 have hnd2:=List.nodup_append.1 hnd
 refine ⟨h.dsz,h.dim,h.frl,h.mnd,fun p hp=>?_,fun x hx=>h.emp x (by rw [he]; simp [hx]),hnd2.1,fun g hg=>?_,?_,h.chn,h.lok⟩
 ·obtain ⟨i,k,e,ok⟩:=h.mok p hp
  exact ⟨i,k,e,ok.hi,ok.hf,ok.blk,ok.len,ok.pin,fun q=>ok.emp (by rw [he]; simp [show (k:Int)∈E from q])⟩
 ·rw [List.mem_singleton] at hg
  subst hg
  refine ⟨?_,fun q=>hnd2.2.2 _ q (g:Int) (by simp) rfl,fun i hi=>?_⟩
  ·obtain ⟨f',e,hf⟩:=h.emp (g:Int) (by rw [he]; simp)
   omega
  ·obtain ⟨j,k,e1,e2,ok⟩:=h.at hi
   exact ok.emp (by rw [← e2,he]; simp)
 ·have h1:=h.tot
  rw [he] at h1
  simp only [List.length_append,List.length_singleton,List.length_nil] at h1 ⊢
  omega
theorem CaI.come {f:Nat} (h:CaI N B n t [f] c L) {i:Nat} (hi:i<N) (hno:∀ v,((i:Int),v)∉c.2.2.1) {x:Fr8} (h1:x.1=(i:Int)) (h2:x.2.1.length=B) (h3:x.2.2.2=1) (ht:1≤t) {ch:Chn} (hc:ChI n ch L) :
  CaI N B n t [] (c.1,c.2.1.set f x,c.2.2.1 ++ [((i:Int),(f:Int))],c.2.2.2.1,ch) L:=by
 obtain ⟨hf,hfe,hfm⟩:=h.hol f (by simp)
 have hfl:f<c.2.1.length:=by rw [h.frl]; exact hf
 have g:∀ k,(c.2.1.set f x).getD k default=if f=k then x else c.2.1.getD k default:=fun k=>Y8 hfl
 have hne:∀ {j:Int} {k:Nat},(j,(k:Int))∈c.2.2.1→f≠k:=fun {j k} hjk e=>hfm j (by rw [e]; exact hjk)
 refine ⟨h.dsz,h.dim,by rw [List.length_set,h.frl],?_,fun p hp=>?_,h.emp,h.end_,by simp,?_,hc,fun k=>?_⟩
 ·dsimp only
  rw [List.map_append,List.nodup_append]
  refine ⟨h.mnd,by simp,fun a ha b hb e=>?_⟩
  obtain ⟨p,hp,rfl⟩:=List.mem_map.1 ha
  simp only [List.map_cons,List.map_nil,List.mem_singleton] at hb
  exact hno p.2 (by rw [← hb,← e]; exact hp)
 ·rcases List.mem_append.1 hp with q | q
  ·obtain ⟨j,k,e,okk⟩:=h.mok p q
   have hk:f≠k:=hne (j:=(j:Int)) (by rw [← e]; exact q)
   refine ⟨j,k,e,okk.hi,okk.hf,?_,?_,?_,okk.emp⟩
   ·dsimp only; rw [g k,if_neg hk]; exact okk.blk
   ·dsimp only; rw [g k,if_neg hk]; exact okk.len
   ·dsimp only; rw [g k,if_neg hk]; exact okk.pin
  ·rw [List.mem_singleton] at q
   refine ⟨i,f,q,hi,hf,?_,?_,?_,hfe⟩
   ·dsimp only; rw [g f,if_pos rfl]; exact h1
   ·dsimp only; rw [g f,if_pos rfl]; exact h2
   ·dsimp only; rw [g f,if_pos rfl,h3]; omega
 ·have h1:=h.tot
  simp only [List.length_append,List.length_singleton,List.length_nil] at h1 ⊢
  omega
 ·dsimp only
  rw [g k]
  constructor
  ·intro hk
   obtain ⟨⟨j,hj⟩,hp⟩:=(h.lok k).1 hk
   rw [if_neg (hne hj)]
   exact ⟨⟨j,by simp [hj]⟩,hp⟩
  ·rintro ⟨⟨j,hj⟩,hp⟩
   rcases List.mem_append.1 hj with q | q
   ·rw [if_neg (hne q)] at hp
    exact (h.lok k).2 ⟨⟨j,q⟩,hp⟩
   ·rw [List.mem_singleton,Prod.mk.injEq] at q
    have:f=k:=by omega
    rw [if_pos this,h3] at hp
    omega
end
end Go.SK.T
