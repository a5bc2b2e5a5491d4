/- The plain law behind ShelfCosts: what its code computes is true for all settings and calls. -/
import Derived.Test.YtgdmpkhmedbnpaaGreatDoorXShelfCostsF9
import Derived.KernelRfl
import Derived.Sort.Walk13a
import Derived.Sort.AssemblyPlain
set_option linter.unusedVariables false
set_option linter.unusedSimpArgs false
namespace Go.SK.T
open Go Go.SK
abbrev Msg:=List UInt8×Bool×List UInt8
abbrev Cfg:=Int×Int×Int×Int×Int×Int×Int×Int
abbrev Pr:=List UInt8×List UInt8
abbrev Nd:=Int×List Int×List (List UInt8)×List Msg×List Pr
structure SmallN (n:Nd):Prop where
 kids:n.2.1.length≤80
 pivs:n.2.2.1.length≤80
 buf:n.2.2.2.1.length≤150
 prs:n.2.2.2.2.length≤150
 pk:∀ p∈n.2.2.1,p.length≤200
 bk:∀ m∈n.2.2.2.1,m.1.length≤200
 rk:∀ m∈n.2.2.2.2,m.1.length≤200
structure MidN (n:Nd):Prop where
 kids:n.2.1.length≤80
 pivs:n.2.2.1.length≤80
 buf:n.2.2.2.1.length≤800
 prs:n.2.2.2.2.length≤800
 pk:∀ p∈n.2.2.1,p.length≤300
 bk:∀ m∈n.2.2.2.1,m.1.length≤300
 rk:∀ m∈n.2.2.2.2,m.1.length≤300
theorem Zeu (n:Nd) (hb:n.2.2.2.2.length≤150):∀(k i:Nat),i≤n.2.2.2.2.length→n.2.2.2.2.length - i<k→(∀ m∈n.2.2.2.2.take i,m.1.length≤200)→
  ∃ g,Q124.l2 k n (i:Int)=some g∧(g=false→∀ m∈n.2.2.2.2,m.1.length≤200)
 | 0,i,_,h,_=>by omega
 | k+1,i,hi,hk,hm=>by
  rw [Q124.l2]
  by_cases h:i<n.2.2.2.2.length
  ·have g1:(0:Int)≤(i:Int)∧(i:Int)<(n.2.2.2.2.length:Int):=by omega
   rw [if_pos (decide_eq_true g1.2),if_pos g1,Yf]
   by_cases h2:200<(n.2.2.2.2.getD i default).1.length
   ·exact ⟨true,by rw [if_pos (decide_eq_true (by omega))],fun h=>by cases h⟩
   ·rw [if_neg (by simp only [decide_eq_true_eq]; omega),Yp (by omega)]
    refine Zeu n hb k (i+1) (by omega) (by omega) fun m hm'=>?_
    rw [List.take_add_one,List.mem_append] at hm'
    rcases hm' with hm' | hm'
    ·exact hm m hm'
    ·rw [List.getElem?_eq_getElem h] at hm'
     simp only [Option.toList_some,List.mem_singleton] at hm'
     subst hm'
     rw [List.getD_eq_getElem?_getD,List.getElem?_eq_getElem h] at h2
     simp only [Option.getD_some] at h2
     omega
  ·rw [if_neg (by simp only [decide_eq_true_eq]; omega)]
   exact ⟨false,rfl,fun _=>by rwa [List.take_of_length_le (by omega)] at hm⟩
theorem Zed (n:Nd) (hb:n.2.2.2.2.length≤150) (hc:n.2.2.2.1.length≤150):∀(k i:Nat),i≤n.2.2.2.1.length→200+(n.2.2.2.1.length - i)<k→(∀ m∈n.2.2.2.1.take i,m.1.length≤200)→
  ∃ g,Q124.l1 k n (i:Int)=some g∧(g=false→(∀ m∈n.2.2.2.1,m.1.length≤200)∧∀ m∈n.2.2.2.2,m.1.length≤200)
 | 0,i,_,h,_=>by omega
 | k+1,i,hi,hk,hm=>by
  rw [Q124.l1]
  by_cases h:i<n.2.2.2.1.length
  ·have g1:(0:Int)≤(i:Int)∧(i:Int)<(n.2.2.2.1.length:Int):=by omega
   rw [if_pos (decide_eq_true g1.2),if_pos g1,Yf]
   by_cases h2:200<(n.2.2.2.1.getD i default).1.length
   ·exact ⟨true,by rw [if_pos (decide_eq_true (by omega))],fun h=>by cases h⟩
   ·rw [if_neg (by simp only [decide_eq_true_eq]; omega),Yp (by omega)]
    refine Zed n hb hc k (i+1) (by omega) (by omega) fun m hm'=>?_
    rw [List.take_add_one,List.mem_append] at hm'
    rcases hm' with hm' | hm'
    ·exact hm m hm'
    ·rw [List.getElem?_eq_getElem h] at hm'
     simp only [Option.toList_some,List.mem_singleton] at hm'
     subst hm'
     rw [List.getD_eq_getElem?_getD,List.getElem?_eq_getElem h] at h2
     simp only [Option.getD_some] at h2
     omega
  ·rw [if_neg (by simp only [decide_eq_true_eq]; omega)]
   obtain ⟨g,e1,e2⟩:=Zeu n hb k 0 (by omega) (by omega) (by simp)
   rw [List.take_of_length_le (by omega)] at hm
   exact ⟨g,e1,fun e=>⟨hm,e2 e⟩⟩
theorem Zdw (n:Nd) (hb:n.2.2.2.2.length≤150) (hc:n.2.2.2.1.length≤150) (hd:n.2.2.1.length≤80):∀(k i:Nat),i≤n.2.2.1.length→400+(n.2.2.1.length - i)<k→(∀ m∈n.2.2.1.take i,m.length≤200)→
  ∃ g,Q124.l0 k n (i:Int)=some g∧(g=false→(∀ m∈n.2.2.1,m.length≤200)∧(∀ m∈n.2.2.2.1,m.1.length≤200)∧∀ m∈n.2.2.2.2,m.1.length≤200)
 | 0,i,_,h,_=>by omega
 | k+1,i,hi,hk,hm=>by
  rw [Q124.l0]
  by_cases h:i<n.2.2.1.length
  ·have g1:(0:Int)≤(i:Int)∧(i:Int)<(n.2.2.1.length:Int):=by omega
   rw [if_pos (decide_eq_true g1.2),if_pos g1,Yf]
   by_cases h2:200<(n.2.2.1.getD i default).length
   ·exact ⟨true,by rw [if_pos (decide_eq_true (by omega))],fun h=>by cases h⟩
   ·rw [if_neg (by simp only [decide_eq_true_eq]; omega),Yp (by omega)]
    refine Zdw n hb hc hd k (i+1) (by omega) (by omega) fun m hm'=>?_
    rw [List.take_add_one,List.mem_append] at hm'
    rcases hm' with hm' | hm'
    ·exact hm m hm'
    ·rw [List.getElem?_eq_getElem h] at hm'
     simp only [Option.toList_some,List.mem_singleton] at hm'
     subst hm'
     rw [List.getD_eq_getElem?_getD,List.getElem?_eq_getElem h] at h2
     simp only [Option.getD_some] at h2
     omega
  ·rw [if_neg (by simp only [decide_eq_true_eq]; omega)]
   obtain ⟨g,e1,e2⟩:=Zed n hb hc k 0 (by omega) (by omega) (by simp)
   rw [List.take_of_length_le (by omega)] at hm
   exact ⟨g,e1,fun e=>⟨hm,e2 e⟩⟩
theorem Jl (n:Nd) {k:Nat} (hk:1000<k):∃ g,Q124.f k n=some g∧(g=false→SmallN n):=by
 unfold Q124.f
 by_cases h1:80<n.2.1.length
 ·exact ⟨true,by rw [if_pos (decide_eq_true (by omega))],fun h=>by cases h⟩
 ·rw [if_neg (by simp only [decide_eq_true_eq]; omega)]
  by_cases h2:80<n.2.2.1.length
  ·exact ⟨true,by rw [if_pos (decide_eq_true (by omega))],fun h=>by cases h⟩
  ·rw [if_neg (by simp only [decide_eq_true_eq]; omega)]
   by_cases h3:150<n.2.2.2.1.length
   ·exact ⟨true,by rw [if_pos (decide_eq_true (by omega))],fun h=>by cases h⟩
   ·rw [if_neg (by simp only [decide_eq_true_eq]; omega)]
    by_cases h4:150<n.2.2.2.2.length
    ·exact ⟨true,by rw [if_pos (decide_eq_true (by omega))],fun h=>by cases h⟩
    ·rw [if_neg (by simp only [decide_eq_true_eq]; omega)]
     obtain ⟨g,e1,e2⟩:=Zdw n (by omega) (by omega) (by omega) k 0 (by omega) (by omega) (by simp)
     exact ⟨g,e1,fun e=>⟨by omega,by omega,by omega,by omega,(e2 e).1,(e2 e).2.1,(e2 e).2.2⟩⟩
structure OkC (c:Cfg):Prop where
 fan:8≤c.2.2.2.1∧c.2.2.2.1≤64
 key:1≤c.2.2.2.2.2.2.1∧c.2.2.2.2.2.2.1≤64
 val:0≤c.2.2.2.2.2.2.2∧c.2.2.2.2.2.2.2≤256
 buf:16≤c.2.2.2.2.1∧c.2.2.2.2.1≤512
 leaf:c.2.2.2.2.1≤c.2.2.2.2.2.1∧c.2.2.2.2.2.1≤1024
abbrev Sp:=List UInt8×List UInt8×Bool
def inS (s:Sp) (x:List UInt8):Bool:=!Op.bytesLess x s.1 && (s.2.2 || Op.bytesLess x s.2.1)
theorem Zkg (a b:List UInt8):decide (0≤Wn a b)=!Op.bytesLess a b:=by
 rcases Zcs a b with ⟨e,h⟩ | ⟨e,rfl⟩ | ⟨e,h⟩
 ·simp [e,h]
 ·simp [e,U0]
 ·simp [e,Ge h]
def B6:List Pr→Bool
 | a :: b :: r=>Op.bytesLess a.1 b.1 && B6 (b :: r)
 | _=>true
def Vt (c:Cfg) (x:List UInt8):Bool:=decide (1≤(x.length:Int)∧(x.length:Int)≤c.2.2.2.2.2.2.1)
def prB (c:Cfg) (s:Sp) (p:Pr):Bool:=Vt c p.1 && (inS s p.1 && decide ((p.2.length:Int)≤c.2.2.2.2.2.2.2))
def Zee (c:Cfg) (s:Sp) (n:Nd):Bool:=n.2.2.2.2.all (prB c s) && (decide (n.2.1=[]) && (decide (n.2.2.1=[]) && (decide (n.2.2.2.1=[]) && (decide ((n.2.2.2.2.length:Int)≤c.2.2.2.2.2.1) && B6 n.2.2.2.2))))
theorem Zg4 {l:List (List UInt8)} {i:Nat} (h:i+1<l.length):Jd (l.drop i)=(Op.bytesLess (l.getD i []) (l.getD (i+1) []) && Jd (l.drop (i+1))):=by
 rw [Y4 (show i<l.length by omega),Y4 h]
 rfl
theorem Zim {l:List (List UInt8)} {i:Nat} (h:l.length≤i+1):Jd (l.drop i)=true:=by
 by_cases h':i<l.length
 ·rw [Y4 h',List.drop_eq_nil_of_le (by omega)]
  rfl
 ·rw [List.drop_eq_nil_of_le (by omega)]
  rfl
structure SmallL (l:List (List UInt8)) (s:Sp):Prop where
 len:l.length≤80
 all:∀ p∈l,p.length≤300
 lo:s.1.length≤300
 hi:s.2.1.length≤300
theorem SmallL.get {l:List (List UInt8)} {s:Sp} (h:SmallL l s) (i:Nat):(l.getD i []).length≤300:=by
 by_cases hi:i<l.length
 ·exact h.all _ (Vb hi)
 ·rw [List.getD_eq_getElem?_getD,List.getElem?_eq_none (by omega)]
  exact Nat.zero_le _
def piv (s:Sp) (p:List UInt8):Bool:=inS s p && !decide (p=s.1)
def B8:List Msg→Bool
 | a :: b :: r=>Op.bytesLess a.1 b.1 && B8 (b :: r)
 | _=>true
def Zau (c:Cfg) (s:Sp) (m:Msg):Bool:=Vt c m.1 && (inS s m.1 && (decide ((m.2.2.length:Int)≤c.2.2.2.2.2.2.2) && (!m.2.1 || decide (m.2.2=[]))))
def Zgv (c:Cfg) (s:Sp) (n:Nd):Bool:=decide (n.1≤40) && (decide (n.2.2.2.2=[]) && (decide (1≤n.2.1.length) && (decide ((n.2.1.length:Int)≤c.2.2.2.1) && (decide (n.2.2.1.length+1=n.2.1.length) && ((n.2.2.1.all (piv s) && Jd n.2.2.1) && (decide ((n.2.2.2.1.length:Int)≤c.2.2.2.2.1) && B8 n.2.2.2.1))))))
theorem MidN.l {n:Nd} (hn:MidN n) {s:Sp} (h1:s.1.length≤300) (h2:s.2.1.length≤300):SmallL n.2.2.1 s:=⟨hn.pivs,fun p hp=>by have:=hn.pk p hp; omega,h1,h2⟩
def neB (l:List Int) (i q:Nat):Bool:=!decide (l.getD q 0=l.getD i 0)
def Gb (c:Cfg) (l:List Int) (i:Nat):Bool:=!decide (l.getD i 0=0) && (!decide (c.1≤w64 (l.getD i 0)) && (List.range' 0 i).all (neB l i))
def Zg8 (c:Cfg) (s:Sp) (n:Nd):Bool:=n.2.2.1.all (Vt c) && (n.2.2.2.1.all (Zau c s) && Zgv c s n)
def Zea (c:Cfg) (s:Sp) (n:Nd):Bool:=(List.range' 0 n.2.1.length).all (Gb c n.2.1) && Zg8 c s n
structure RightN (c:Cfg) (s:Sp) (n:Nd):Prop where
 small:SmallN n
 cfg:OkC c
 lo:s.1.length≤200
 hi:s.2.1.length≤200
 leaf:n.1=0→Zee c s n=true
 node:n.1≠0→0<n.1∧Zea c s n=true
theorem Zf4:∀ l:List Msg,B8 l=Um (fun x=>x.1) l
 | []=>rfl
 | [_]=>rfl
 | a :: b :: r=>by rw [B8,Um,Zf4 (b :: r)]
theorem Zf8:∀ l:List Pr,B6 l=Um (fun x=>x.1) l
 | []=>rfl
 | [_]=>rfl
 | a :: b :: r=>by rw [B6,Um,Zf8 (b :: r)]
theorem Jh {α:Type} [Inhabited α] [DecidableEq α] {F:Nat→Int→Option Bool} {a b:List α} {eqb:α→α→Bool} (he:∀ x y,eqb x y=decide (x=y)) (hab:a.length=b.length) (ha:a.length≤1000000)
  (hF:∀ k i,F (k+1) i=if (decide (i<(a.length:Int)))=true then (if 0≤i∧i<(a.length:Int) then (if 0≤i∧i<(b.length:Int) then (if (!(eqb (gt a i) (gt b i)))=true then (some false) else (F k (w64 (i+1)))) else none) else none) else (some true)) :
  ∀(k i:Nat),i≤a.length→a.length - i<k→F k (i:Int)=some (decide (a.drop i=b.drop i))
 | 0,i,_,h=>by omega
 | k+1,i,hi,hk=>by
  rw [hF]
  by_cases h:i<a.length
  ·have g1:(0:Int)≤(i:Int)∧(i:Int)<(a.length:Int):=by omega
   have g2:(0:Int)≤(i:Int)∧(i:Int)<(b.length:Int):=by omega
   rw [if_pos (decide_eq_true g1.2),if_pos g1,if_pos g2,he,Yp (by omega),Jh he hab ha hF k (i+1) (by omega) (by omega),Y4 h,Y4 (show i<b.length by omega),Yf,Yf]
   generalize a.getD i default=x
   generalize b.getD i default=y
   by_cases e:x=y
   ·simp [e]
   ·simp [e]
  ·rw [if_neg (by simp; omega),List.drop_eq_nil_of_le (by omega),List.drop_eq_nil_of_le (by omega)]
   rfl
structure Short (n:Nd):Prop where
 kids:n.2.1.length≤1000
 pivs:n.2.2.1.length≤1000
 buf:n.2.2.2.1.length≤1000
 prs:n.2.2.2.2.length≤1000
theorem SmallN.short {n:Nd} (h:SmallN n):Short n:=⟨by have:=h.kids; omega,by have:=h.pivs; omega,by have:=h.buf; omega,by have:=h.prs; omega⟩
instance decNd4:DecidableEq (List Msg×List Pr):=instDecidableEqProd
instance decNd3:DecidableEq (List (List UInt8)×List Msg×List Pr):=instDecidableEqProd
instance decNd2:DecidableEq (List Int×List (List UInt8)×List Msg×List Pr):=instDecidableEqProd
instance decNd1:DecidableEq Nd:=instDecidableEqProd
def joinN (a:Nd) (p:List UInt8) (b:Nd):Nd×Bool:=
 if a.1=b.1 then ((a.1,a.2.1 ++ b.2.1,if 0<a.1 then a.2.2.1 ++ [p] ++ b.2.2.1 else a.2.2.1,a.2.2.2.1 ++ b.2.2.2.1,a.2.2.2.2 ++ b.2.2.2.2),true) else ((0,[],[],[],[]),false)
def fitsN (c:Cfg) (a b:Nd):Bool:=decide (a.1=b.1) && (if a.1=0 then decide (2*((a.2.2.2.2.length+b.2.2.2.2.length:Nat):Int)≤c.2.2.2.2.2.1) else decide (2*((a.2.1.length+b.2.1.length:Nat):Int)≤c.2.2.2.1) && decide (((a.2.2.2.1.length+b.2.2.2.1.length:Nat):Int)≤c.2.2.2.2.1))
theorem Zjo {α:Type} {xs ys:List α} {l m:Nat} (h:l+m≤xs.length):(patch xs l m ys).length=xs.length:=by
 unfold patch
 simp only [List.length_append,List.length_take,List.length_drop]
 omega
theorem Zb1 {n i:Nat} (hn:n≤1000) (hi:1≤i):∀(m t j:Nat) (x:List Int),x.length=n→i+t+m=n→1≤t→i≤j→j+1≤i+t→∃ r,Ev (fun k=>Q96.l1 k (i:Int) x (j:Int) (t:Int)) r∧r.length<n
 | 0,t,j,x,hx,h,ht,hj,hjt=>by
  have hd:(x.drop j).length=n - j:=by rw [List.length_drop,hx]
  have hp:(patch x j (x.drop j).length (List.replicate (x.drop j).length (0:Int))).length=n:=by rw [Zjo (by omega),hx]
  refine ⟨(patch x j (x.drop j).length (List.replicate (x.drop j).length (0:Int))).take j,Ev.last fun k=>?_,by rw [List.length_take]; omega⟩
  rw [Q96.l1,if_neg (by simp only [Int.toNat_natCast,List.length_drop,decide_eq_true_eq]; omega),if_pos (by omega),Int.toNat_natCast,if_pos (by omega)]
 | m+1,t,j,x,hx,h,ht,hj,hjt=>by
  have e1:w64 ((t:Int) - 1)=((t - 1:Nat):Int):=wn (by omega) (by omega)
  have e2:w64 ((t:Int)+1)=((t+1:Nat):Int):=wn (by omega) (by omega)
  have e3:w64 ((j:Int)+1)=((j+1:Nat):Int):=wn (by omega) (by omega)
  have hd:(x.drop i).length=n - i:=by rw [List.length_drop,hx]
  by_cases q:gt (x.drop i) (t:Int)=gt (x.drop i) ((t - 1:Nat):Int)
  ·obtain ⟨r,h1,h2⟩:=Zb1 hn hi m (t+1) j x hx (by omega) (by omega) hj (by omega)
   refine ⟨r,h1.step fun k hk=>?_,h2⟩
   rw [Q96.l1,Int.toNat_natCast,if_pos (decide_eq_true (by omega)),if_pos (by omega),e1,if_pos (by omega),if_neg (by simp [q]),e2]
   exact hk
  ·obtain ⟨r,h1,h2⟩:=Zb1 hn hi m (t+1) (j+1) (x.set j (gt (x.drop i) (t:Int))) (by rw [List.length_set,hx]) (by omega) (by omega) (by omega) (by omega)
   refine ⟨r,h1.step fun k hk=>?_,h2⟩
   rw [Q96.l1,Int.toNat_natCast,if_pos (decide_eq_true (by omega)),if_pos (by omega),e1,if_pos (by omega),if_pos (by simp [q]),if_pos (by omega),Int.toNat_natCast,e2,e3]
   exact hk
def Ziv (l:List Int):Prop:=∀ q,q+1<l.length→l.getD (q+1) 0≠l.getD q 0
theorem Zf5 {l:List Int} (hn:l.length≤1000):∀(m i:Nat),i+m=l.length→1≤i→(∀ q,q+1<i→l.getD (q+1) 0≠l.getD q 0)→∃ r,Ev (fun k=>Q96.l0 k l (i:Int)) r∧(r.length=l.length↔Ziv l)
 | 0,i,h,hi,hq=>by
  refine ⟨l,Ev.last fun k=>?_,fun _ q hq'=>hq q (by omega),fun _=>rfl⟩
  rw [Q96.l0,if_neg (by simp only [decide_eq_true_eq]; omega)]
 | m+1,i,h,hi,hq=>by
  have e1:w64 ((i:Int) - 1)=((i - 1:Nat):Int):=wn (by omega) (by omega)
  have e2:w64 ((i:Int)+1)=((i+1:Nat):Int):=wn (by omega) (by omega)
  have g1:gt l (i:Int)=l.getD i 0:=Yf l i
  have g2:gt l ((i - 1:Nat):Int)=l.getD (i - 1) 0:=Yf l (i - 1)
  by_cases c:l.getD i 0=l.getD (i - 1) 0
  ·obtain ⟨r,h1,h2⟩:=Zb1 hn hi (l.length - i - 1) 1 i l rfl (by omega) (Nat.le_refl _) (Nat.le_refl _) (Nat.le_refl _)
   refine ⟨r,h1.step fun k hk=>?_,fun e=>by omega,fun e=>absurd c (by have:=e (i - 1) (by omega); rwa [Nat.sub_add_cancel hi] at this)⟩
   rw [Q96.l0,if_pos (decide_eq_true (by omega)),if_pos (by omega),e1,if_pos (by omega),g1,g2,if_pos (decide_eq_true c),if_pos (by omega)]
   exact hk
  ·obtain ⟨r,h1,h2⟩:=Zf5 hn m (i+1) (by omega) (by omega) fun q hq'=>by
    by_cases e:q+1=i
    ·rw [e,show q=i - 1 by omega]; exact c
    ·exact hq q (by omega)
   refine ⟨r,h1.step fun k hk=>?_,h2⟩
   rw [Q96.l0,if_pos (decide_eq_true (by omega)),if_pos (by omega),e1,if_pos (by omega),g1,g2,if_neg (by simpa using c),e2]
   exact hk
theorem Zje {l:List Int} (hn:l.length≤1000):∃ r,Ev (fun k=>Q96.f k l) r∧(r.length=l.length↔Ziv l):=by
 by_cases h:l.length<2
 ·refine ⟨l,Ev.all fun k=>?_,fun _ q hq=>by omega,fun _=>rfl⟩
  unfold Q96.f
  rw [if_pos (decide_eq_true (by omega))]
 ·obtain ⟨r,h1,h2⟩:=Zf5 hn (l.length - 1) 1 (by omega) (Nat.le_refl _) (fun q hq=>by omega)
  refine ⟨r,h1.next fun k hk=>?_,h2⟩
  unfold Q96.f
  rw [if_neg (by simp only [decide_eq_true_eq]; omega)]
  exact hk
theorem Zhs {l:List Int} (hs:l.Pairwise (fun x y=>x≤y)):Ziv l↔l.Nodup:=by
 constructor
 ·intro h
  rw [List.Nodup,List.pairwise_iff_getElem]
  intro i j hi hj hij e
  have h1:=h i (by omega)
  rw [List.getD_eq_getElem?_getD,List.getD_eq_getElem?_getD,List.getElem?_eq_getElem (by omega),List.getElem?_eq_getElem hi] at h1
  simp only [Option.getD_some] at h1
  have a:=List.pairwise_iff_getElem.1 hs i (i+1) hi (by omega) (by omega)
  by_cases e1:i+1=j
  ·subst e1; exact h1 e.symm
  ·have b:=List.pairwise_iff_getElem.1 hs (i+1) j (by omega) hj (by omega)
   omega
 ·intro h q hq e
  rw [List.getD_eq_getElem?_getD,List.getD_eq_getElem?_getD,List.getElem?_eq_getElem hq,List.getElem?_eq_getElem (by omega)] at e
  exact (List.pairwise_iff_getElem.1 h q (q+1) (by omega) hq (by omega)) e.symm
theorem kids_all {c:Cfg} {l:List Int}:(List.range' 0 l.length).all (Gb c l)=true↔(∀ x∈l,x≠0∧¬ c.1≤w64 x)∧l.Nodup:=by
 have gd:∀ i (h:i<l.length),l.getD i 0=l[i]:=fun i h=>by rw [List.getD_eq_getElem?_getD,List.getElem?_eq_getElem h]; rfl
 rw [List.all_eq_true]
 constructor
 ·intro h
  refine ⟨fun x hx=>?_,?_⟩
  ·obtain ⟨i,hi,rfl⟩:=List.mem_iff_getElem.1 hx
   have:=h i (by simp [hi])
   simp only [Gb,gd i hi,Bool.and_eq_true,Bool.not_eq_true',decide_eq_false_iff_not] at this
   exact ⟨this.1,this.2.1⟩
  ·rw [List.Nodup,List.pairwise_iff_getElem]
   intro i j hi hj hij e
   have:=h j (by simp [hj])
   simp only [Gb,Bool.and_eq_true,List.all_eq_true] at this
   have:=this.2.2 i (by simp [hij])
   simp only [neB,gd i hi,gd j hj,Bool.not_eq_true',decide_eq_false_iff_not] at this
   exact this e
 ·rintro ⟨h1,h2⟩ i hi
  have hi:i<l.length:=by simpa using hi
  simp only [Gb,gd i hi,Bool.and_eq_true,Bool.not_eq_true',decide_eq_false_iff_not,List.all_eq_true]
  refine ⟨(h1 _ (List.getElem_mem hi)).1,(h1 _ (List.getElem_mem hi)).2,fun q hq=>?_⟩
  have hq:q<i:=by simpa using hq
  simp only [neB,gd i hi,gd q (by omega),Bool.not_eq_true',decide_eq_false_iff_not]
  exact List.pairwise_iff_getElem.1 h2 q i (by omega) hi hq
def Zab (c:Cfg) (l:List Int):Bool:=decide (1≤l.length) && (decide ((l.length:Int)≤c.2.2.2.1) && (List.range' 0 l.length).all (Gb c l))
theorem Zmn {c:Cfg} {l:List Int} (h80:l.length≤80) (hl:∀ x∈l,0≤x∧x<4294967296):Ev (fun k=>Q70.f k c l) (Zab c l):=by
 have hclone:Q95.f l=some l:=by
  unfold Q95.f
  rw [if_pos (by simp; omega)]; rfl
 obtain ⟨S,hS⟩:∃ S,S=l.mergeSort fun x y=>decide (x≤y):=⟨_,rfl⟩
 have hperm:S.Perm l:=hS ▸ List.mergeSort_perm _ _
 have hlen:S.length=l.length:=hperm.length_eq
 have hsort:S.Pairwise (fun x y=>x≤y):=by
  have:=List.pairwise_mergeSort (le:=fun x y:Int=>decide (x≤y)) (fun a b c h1 h2=>by simp only [decide_eq_true_eq] at *; omega) (fun a b=>by simp only [Bool.or_eq_true,decide_eq_true_eq]; omega) l
  rw [← hS] at this
  exact this.imp fun h=>of_decide_eq_true h
 have hs:=Zjx (l:=l) (by omega)
 rw [← hS] at hs
 obtain ⟨r,hr1,hr2⟩:=Zje (l:=S) (by omega)
 refine hs.next2 hr1 fun k k1 k2=>?_
 unfold Q70.f
 rw [hclone,Option.bind_some,k1,Option.bind_some]
 by_cases c1:l.length<1
 ·rw [if_pos (decide_eq_true (by omega))]
  simp [Zab,show ¬ 1≤l.length by omega]
 rw [if_neg (by simp only [decide_eq_true_eq]; omega)]
 by_cases c2:c.2.2.2.1<(l.length:Int)
 ·rw [if_pos (decide_eq_true c2)]
  simp [Zab,show ¬ (l.length:Int)≤c.2.2.2.1 by omega]
 rw [if_neg (by simpa using c2),if_pos (by omega),wn (x:=(l.length:Int) - 1) (n:=l.length - 1) (by omega) (by omega)]
 have g0:gt S 0=S[0]'(by omega):=by
  rw [show (0:Int)=((0:Nat):Int) from rfl,Yf,List.getD_eq_getElem?_getD,List.getElem?_eq_getElem (by omega)]; rfl
 have g1:gt S ((l.length - 1:Nat):Int)=S[l.length - 1]'(by omega):=by
  rw [Yf,List.getD_eq_getElem?_getD,List.getElem?_eq_getElem (by omega)]; rfl
 have m0:S[0]'(by omega)∈l:=hperm.mem_iff.1 (List.getElem_mem _)
 have m1:S[l.length - 1]'(by omega)∈l:=hperm.mem_iff.1 (List.getElem_mem _)
 rw [g0,g1]
 have base:Zab c l=(List.range' 0 l.length).all (Gb c l):=by
  unfold Zab
  rw [decide_eq_true (show 1≤l.length by omega),decide_eq_true (show (l.length:Int)≤c.2.2.2.1 by omega)]; rfl
 rw [base]
 by_cases c3:S[0]'(by omega)=0
 ·rw [if_pos (decide_eq_true c3)]
  refine congrArg some (Bool.eq_false_iff.2 fun e=>?_).symm
  exact ((kids_all.1 e).1 _ m0).1 c3
 rw [if_neg (by simpa using c3),if_pos (by omega)]
 by_cases c4:c.1≤w64 (S[l.length - 1]'(by omega))
 ·rw [if_pos (decide_eq_true c4)]
  refine congrArg some (Bool.eq_false_iff.2 fun e=>?_).symm
  exact ((kids_all.1 e).1 _ m1).2 c4
 rw [if_neg (by simpa using c4),k2,Option.bind_some]
 have key:r.length=l.length↔(List.range' 0 l.length).all (Gb c l)=true:=by
  rw [← hlen,hr2,Zhs hsort,hperm.nodup_iff,hlen,kids_all]
  refine ⟨fun h=>⟨fun x hx=>?_,h⟩,fun h=>h.2⟩
  obtain ⟨i,hi,rfl⟩:=List.mem_iff_getElem.1 (hperm.mem_iff.2 hx)
  have a0:=hl _ m0
  have a1:=hl _ m1
  have ax:=hl _ hx
  have b0:S[0]'(by omega)≤S[i]:=by
   by_cases z:i=0
   ·subst z; exact Int.le_refl _
   ·exact List.pairwise_iff_getElem.1 hsort 0 i (by omega) hi (by omega)
  have b1:S[i]≤S[l.length - 1]'(by omega):=by
   by_cases z:i=l.length - 1
   ·subst z; exact Int.le_refl _
   ·exact List.pairwise_iff_getElem.1 hsort i (l.length - 1) hi (by omega) (by omega)
  rw [Z1 (by omega) (by omega)] at c4 ⊢
  exact ⟨by omega,by omega⟩
 refine congrArg some (Bool.eq_iff_iff.2 ?_)
 rw [decide_eq_true_eq,← key]
 omega
theorem Zey (s:Sp) (x:List UInt8):Q64.f s x=some (inS s x):=by
 unfold Q64.f inS
 cases Op.bytesLess x s.1 <;> cases s.2.2 <;> rfl
theorem Zfg (a b:List UInt8):Q63.f a b=some (Wn a b):=rfl
theorem Bi {l:List (List UInt8)} (s:Sp) (hl:l.length≤80):∀(k i:Nat),i≤l.length→l.length - i<k→Q60.l0 k l s (i:Int)=some ((l.drop i).all (piv s) && Jd (l.drop (i - 1)))
 | 0,i,_,h=>by omega
 | k+1,i,hi,hk=>by
  rw [Q60.l0]
  by_cases h:i<l.length
  ·have g1:(0:Int)≤(i:Int)∧(i:Int)<(l.length:Int):=by omega
   have eta:(s.1,s.2.1,s.2.2)=s:=rfl
   have ih:=Bi s hl k (i+1) (by omega) (by omega)
   rw [if_pos (decide_eq_true g1.2),if_pos g1,Yf]; (try rw [eta]); rw [Zey,Option.bind_some,Yp (by omega),ih,Y4 h,List.all_cons,Nat.add_sub_cancel]
   simp only [piv]
   cases h1:inS s (l.getD i default) with
   | false=>rfl
   | true=>
    by_cases e:l.getD i default=s.1
    ·rw [if_neg (by simp),if_pos (decide_eq_true e),decide_eq_true e]; rfl
    ·rw [if_neg (by simp),if_neg (by simp only [e,decide_false]; simp)]
     by_cases h0:0<i
     ·have g2:(0:Int)≤((i - 1:Nat):Int)∧((i - 1:Nat):Int)<(l.length:Int):=by omega
      rw [if_pos (decide_eq_true (by omega)),Zjd h0 (by omega),if_pos g2,Yf,Zfg,Option.bind_some,Zkg]
      have:=Zg4 (l:=l) (i:=i - 1) (by omega)
      rw [Nat.sub_add_cancel h0] at this
      rw [this,decide_eq_false e]
      show (if (!Op.bytesLess (l.getD (i - 1) []) (l.getD i []))=true then _ else _)=_
      cases Op.bytesLess (l.getD (i - 1) []) (l.getD i []) <;> simp
     ·obtain rfl:i=0:=by omega
      rw [if_neg (by simp),decide_eq_false e]
      simp
  ·rw [if_neg (by simp only [decide_eq_true_eq]; omega),List.drop_eq_nil_of_le (by omega),Zim (by omega)]
   rfl
theorem Zib {l:List (List UInt8)} (s:Sp) (hl:l.length≤80) {k:Nat} (hk:100<k):Q60.f k l s=some (l.all (piv s) && Jd l):=by
 have:=Bi s hl k 0 (by omega) (by omega)
 simpa [Q60.f] using this
theorem Zgz {l:List Pr} (hl:l.length≤100000) {k:Nat} (hk:l.length<k):Q61.f k l=some (B6 l):=by
 have:=Jm (key:=fun x:Pr=>x.1) (F:=fun k i=>Q61.l0 k l i) (by omega) (fun k i=>rfl) k 0 (by omega) (by omega)
 rw [Zf8]
 simpa [Q61.f] using this
theorem Zid {l:List Msg} (hl:l.length≤100000) {k:Nat} (hk:l.length<k):Q12.f k l=some (B8 l):=by
 have:=Jm (key:=fun x:Msg=>x.1) (F:=fun k i=>Q12.l0 k l i) (by omega) (fun k i=>rfl) k 0 (by omega) (by omega)
 rw [Zf4]
 simpa [Q12.f] using this
theorem V5 {α:Type} [Inhabited α] {l:List α} {F:Nat→Int→Option Int} {p:α→Bool} (hl:l.length≤100000)
  (hF:∀ k i,F (k+1) i=if (decide (i<(l.length:Int)))=true then (if 0≤i∧i<(l.length:Int) then (if p (gt l i)=true then (some i) else (F k (w64 (i+1)))) else none) else (some (-1))) :
  ∀(m i k:Nat),i+m=l.length→m<k→∃ r,F k (i:Int)=some r∧decide (0≤r)=(l.drop i).any p
 | 0,i,0,_,h=>by omega
 | m+1,i,0,_,h=>by omega
 | 0,i,k+1,h,_=>⟨-1,by rw [hF,if_neg (by simp only [decide_eq_true_eq]; omega)],by rw [List.drop_eq_nil_of_le (by omega)]; rfl⟩
 | m+1,i,k+1,h,hk=>by
  rw [hF,if_pos (decide_eq_true (by omega)),if_pos (by omega),Yf,Y4 (show i<l.length by omega),List.any_cons]
  by_cases c:p (l.getD i default)=true
  ·exact ⟨_,by rw [if_pos c],by rw [c,decide_eq_true (by omega)]; rfl⟩
  ·obtain ⟨r,h1,h2⟩:=V5 hl hF m (i+1) k (by omega) (by omega)
   exact ⟨r,by rw [if_neg c,Yp (by omega),h1],by rw [h2,Bool.eq_false_iff.2 c]; rfl⟩
theorem Zax (c:Cfg) (x:List UInt8):Q65.f c x=some (Vt c x):=by
 unfold Q65.f Vt
 by_cases h:1≤(x.length:Int) <;> simp [h]
theorem Zk6 (p:Pr) (c:Cfg) (s:Sp):Q72.f p c s=some (!prB c s p):=by
 unfold Q72.f prB
 rw [show Q65.f (c.1,c.2.1,c.2.2.1,c.2.2.2.1,c.2.2.2.2.1,c.2.2.2.2.2.1,c.2.2.2.2.2.2.1,c.2.2.2.2.2.2.2) p.1=_ from Zax c p.1,Option.bind_some,show Q64.f (s.1,s.2.1,s.2.2) p.1=_ from Zey s p.1,Option.bind_some]
 by_cases e:c.2.2.2.2.2.2.2<(p.2.length:Int)
 ·rw [decide_eq_true e,decide_eq_false (show ¬ ((p.2.length:Int)≤c.2.2.2.2.2.2.2) by omega)]
  cases Vt c p.1 <;> cases inS s p.1 <;> rfl
 ·rw [decide_eq_false e,decide_eq_true (show ((p.2.length:Int)≤c.2.2.2.2.2.2.2) by omega)]
  cases Vt c p.1 <;> cases inS s p.1 <;> rfl
theorem Zkk (x:List UInt8) (c:Cfg):Q68.f x c=some (!Vt c x):=by
 unfold Q68.f
 rw [show Q65.f (c.1,c.2.1,c.2.2.1,c.2.2.2.1,c.2.2.2.2.1,c.2.2.2.2.2.1,c.2.2.2.2.2.2.1,c.2.2.2.2.2.2.2) x=_ from Zax c x,Option.bind_some]
theorem Zk2 (p:Msg) (c:Cfg) (s:Sp):Q69.f p c s=some (!Zau c s p):=by
 unfold Q69.f Zau
 rw [show Q65.f (c.1,c.2.1,c.2.2.1,c.2.2.2.1,c.2.2.2.2.1,c.2.2.2.2.2.1,c.2.2.2.2.2.2.1,c.2.2.2.2.2.2.2) p.1=_ from Zax c p.1,Option.bind_some,show Q64.f (s.1,s.2.1,s.2.2) p.1=_ from Zey s p.1,Option.bind_some]
 by_cases e:c.2.2.2.2.2.2.2<(p.2.2.length:Int)
 ·rw [decide_eq_true e,decide_eq_false (show ¬ ((p.2.2.length:Int)≤c.2.2.2.2.2.2.2) by omega)]
  cases Vt c p.1 <;> cases inS s p.1 <;> rfl
 ·rw [decide_eq_false e,decide_eq_true (show ((p.2.2.length:Int)≤c.2.2.2.2.2.2.2) by omega)]
  cases Vt c p.1 <;> cases inS s p.1 <;> cases p.2.1 <;> cases decide (p.2.2=[]) <;> rfl
theorem Zha {c:Cfg} {s:Sp} {l:List Pr} (hl:l.length≤100000) {k:Nat} (hk:l.length<k):Q98.f k l c s=some (!l.all (prB c s)):=by
 obtain ⟨r,h1,h2⟩:=V5 (l:=l) (F:=fun k i=>Q104.l0 k l c s i) (p:=fun x=>!prB c s x) hl (fun k i=>by
  show Q104.l0 (k+1) l c s i=_
  rw [Q104.l0,Zk6,Option.bind_some]) l.length 0 k (by omega) hk
 unfold Q98.f Q104.f
 rw [show Q104.l0 k l (c.1,c.2.1,c.2.2.1,c.2.2.2.1,c.2.2.2.2.1,c.2.2.2.2.2.1,c.2.2.2.2.2.2.1,c.2.2.2.2.2.2.2) (s.1,s.2.1,s.2.2) 0=_ from h1,Option.bind_some,h2,List.drop_zero]
 exact congrArg some (by rw [List.all_eq_not_any_not,Bool.not_not])
theorem Zgy {c:Cfg} {l:List (List UInt8)} (hl:l.length≤100000) {k:Nat} (hk:l.length<k):Q101.f k l c=some (!l.all (Vt c)):=by
 obtain ⟨r,h1,h2⟩:=V5 (l:=l) (F:=fun k i=>Q107.l0 k l c i) (p:=fun x=>!Vt c x) hl (fun k i=>by
  show Q107.l0 (k+1) l c i=_
  rw [Q107.l0,Zkk,Option.bind_some]) l.length 0 k (by omega) hk
 unfold Q101.f Q107.f
 rw [show Q107.l0 k l (c.1,c.2.1,c.2.2.1,c.2.2.2.1,c.2.2.2.2.1,c.2.2.2.2.2.1,c.2.2.2.2.2.2.1,c.2.2.2.2.2.2.2) 0=_ from h1,Option.bind_some,h2,List.drop_zero]
 exact congrArg some (by rw [List.all_eq_not_any_not,Bool.not_not])
theorem Zgm {c:Cfg} {s:Sp} {l:List Msg} (hl:l.length≤100000) {k:Nat} (hk:l.length<k):Q97.f k l c s=some (!l.all (Zau c s)):=by
 obtain ⟨r,h1,h2⟩:=V5 (l:=l) (F:=fun k i=>Q103.l0 k l c s i) (p:=fun x=>!Zau c s x) hl (fun k i=>by
  show Q103.l0 (k+1) l c s i=_
  rw [Q103.l0,Zk2,Option.bind_some]) l.length 0 k (by omega) hk
 unfold Q97.f Q103.f
 rw [show Q103.l0 k l (c.1,c.2.1,c.2.2.1,c.2.2.2.1,c.2.2.2.2.1,c.2.2.2.2.2.1,c.2.2.2.2.2.2.1,c.2.2.2.2.2.2.2) (s.1,s.2.1,s.2.2) 0=_ from h1,Option.bind_some,h2,List.drop_zero]
 exact congrArg some (by rw [List.all_eq_not_any_not,Bool.not_not])
theorem Zne {α:Type} [DecidableEq α] (l:List α):decide (0<(l.length:Int))=!decide (l=[]):=by cases l <;> simp
theorem Zgp {c:Cfg} {s:Sp} {n:Nd} (h1:n.2.1.length≤10000) (h2:n.2.2.1.length≤10000) (h3:n.2.2.2.1.length≤10000) (h4:n.2.2.2.2.length≤10000) {k:Nat} (hk:10000<k):Q71.f k c s n=some (Zee c s n):=by
 unfold Q71.f Zee
 rw [show Q98.f k n.2.2.2.2 (c.1,c.2.1,c.2.2.1,c.2.2.2.1,c.2.2.2.2.1,c.2.2.2.2.2.1,c.2.2.2.2.2.2.1,c.2.2.2.2.2.2.2) (s.1,s.2.1,s.2.2)=_ from Zha (c:=c) (s:=s) (by omega) (by omega),Zgz (by omega) (by omega),Option.bind_some,Option.bind_some,
  wn (x:=(n.2.1.length:Int)+(n.2.2.1.length:Int)) (n:=n.2.1.length+n.2.2.1.length) (by omega) (by omega),wn (x:=((n.2.1.length+n.2.2.1.length:Nat):Int)+(n.2.2.2.1.length:Int)) (n:=n.2.1.length+n.2.2.1.length+n.2.2.2.1.length) (by omega) (by omega)]
 by_cases e1:n.2.1=[]
 ·by_cases e2:n.2.2.1=[]
  ·by_cases e3:n.2.2.2.1=[]
   ·by_cases e4:c.2.2.2.2.2.1<(n.2.2.2.2.length:Int)
    ·rw [if_neg (by simp [e1,e2,e3]),if_pos (decide_eq_true e4),decide_eq_false (show ¬ (n.2.2.2.2.length:Int)≤c.2.2.2.2.2.1 by omega)]
     simp
    ·rw [if_neg (by simp [e1,e2,e3]),if_neg (by simpa using e4),decide_eq_true (show (n.2.2.2.2.length:Int)≤c.2.2.2.2.2.1 by omega),decide_eq_true e1,decide_eq_true e2,decide_eq_true e3]
     cases B6 n.2.2.2.2 <;> cases n.2.2.2.2.all (prB c s) <;> rfl
   ·have:=List.length_pos_iff.2 e3
    rw [if_pos (decide_eq_true (by omega)),decide_eq_false e3]
    simp
  ·have:=List.length_pos_iff.2 e2
   rw [if_pos (decide_eq_true (by omega)),decide_eq_false e2]
   simp
 ·have:=List.length_pos_iff.2 e1
  rw [if_pos (decide_eq_true (by omega)),decide_eq_false e1]
  simp
theorem Zgq {c:Cfg} {s:Sp} {n:Nd} (h1:n.2.1.length≤80) (h2:n.2.2.1.length≤80) (h3:n.2.2.2.1.length≤10000) (h4:n.2.2.2.2.length≤10000) (hl:∀ x∈n.2.1,0≤x∧x<4294967296):Ev (fun k=>Q67.f k c s n) (Zea c s n):=by
 have hk:=Zmn (c:=c) h1 hl
 have hbig:Ev (fun k=>if 10000<k then some () else none) ():=⟨10001,fun k hk=>if_pos (by omega)⟩
 refine hk.next2 hbig fun k k1 k2=>?_
 have k2:10000<k:=by
  by_cases z:10000<k
  ·exact z
  ·rw [if_neg z] at k2; cases k2
 unfold Q67.f Zea Zg8 Zgv
 rw [show Q70.f k (c.1,c.2.1,c.2.2.1,c.2.2.2.1,c.2.2.2.2.1,c.2.2.2.2.2.1,c.2.2.2.2.2.2.1,c.2.2.2.2.2.2.2) n.2.1=_ from k1,show Q97.f k n.2.2.2.1 (c.1,c.2.1,c.2.2.1,c.2.2.2.1,c.2.2.2.2.1,c.2.2.2.2.2.1,c.2.2.2.2.2.2.1,c.2.2.2.2.2.2.2) (s.1,s.2.1,s.2.2)=_ from Zgm (c:=c) (s:=s) (by omega) (by omega),
  show Q101.f k n.2.2.1 (c.1,c.2.1,c.2.2.1,c.2.2.2.1,c.2.2.2.2.1,c.2.2.2.2.2.1,c.2.2.2.2.2.2.1,c.2.2.2.2.2.2.2)=_ from Zgy (c:=c) (by omega) (by omega),show Q60.f k n.2.2.1 (s.1,s.2.1,s.2.2)=_ from Zib s h2 (by omega),Zid (by omega) (by omega)]
 simp only [Option.bind_some,Zab]
 have y1:decide (40<n.1)=!decide (n.1≤40):=by by_cases q:n.1≤40 <;> simp [q] <;> omega
 have y3:decide (c.2.2.2.2.1<(n.2.2.2.1.length:Int))=!decide ((n.2.2.2.1.length:Int)≤c.2.2.2.2.1):=by by_cases q:(n.2.2.2.1.length:Int)≤c.2.2.2.2.1 <;> simp [q] <;> omega
 have y4:(1≤n.2.1.length)→decide ((n.2.2.1.length:Int)=w64 ((n.2.1.length:Int) - 1))=decide (n.2.2.1.length+1=n.2.1.length):=fun z=>by
  rw [wn (x:=(n.2.1.length:Int) - 1) (n:=n.2.1.length - 1) (by omega) (by omega)]
  congr 1
  exact propext (by omega)
 rw [y1,y3,Zne]
 by_cases z:1≤n.2.1.length
 ·rw [y4 z,decide_eq_true z]
  cases decide (n.1≤40) <;> cases decide (n.2.2.2.2=[]) <;> cases decide ((n.2.1.length:Int)≤c.2.2.2.1) <;> cases (List.range' 0 n.2.1.length).all (Gb c n.2.1) <;> cases decide (n.2.2.1.length+1=n.2.1.length) <;> cases (n.2.2.1.all (piv s) && Jd n.2.2.1) <;> cases n.2.2.1.all (Vt c) <;> cases decide ((n.2.2.2.1.length:Int)≤c.2.2.2.2.1) <;> cases B8 n.2.2.2.1 <;> cases n.2.2.2.1.all (Zau c s) <;> rfl
 ·rw [decide_eq_false z]
  cases decide (n.1≤40) <;> cases decide (n.2.2.2.2=[]) <;> simp
def V7 (c:Cfg) (s:Sp) (n:Nd):Bool:=if n.1=0 then Zee c s n else decide (0<n.1) && Zea c s n
theorem Zgf {c:Cfg} {s:Sp} {n:Nd} (h1:n.2.1.length≤80) (h2:n.2.2.1.length≤80) (h3:n.2.2.2.1.length≤10000) (h4:n.2.2.2.2.length≤10000) (hl:∀ x∈n.2.1,0≤x∧x<4294967296):Ev (fun k=>Q66.f k c s n) (V7 c s n):=by
 have hbig:Ev (fun k=>if 10000<k then some () else none) ():=⟨10001,fun k hk=>if_pos (by omega)⟩
 refine (Zgq (c:=c) (s:=s) h1 h2 h3 h4 hl).next2 hbig fun k k1 k2=>?_
 have k2:10000<k:=by
  by_cases z:10000<k
  ·exact z
  ·rw [if_neg z] at k2; cases k2
 unfold Q66.f V7
 rw [show Q67.f k (c.1,c.2.1,c.2.2.1,c.2.2.2.1,c.2.2.2.2.1,c.2.2.2.2.2.1,c.2.2.2.2.2.2.1,c.2.2.2.2.2.2.2) (s.1,s.2.1,s.2.2) (n.1,n.2.1,n.2.2.1,n.2.2.2.1,n.2.2.2.2)=_ from k1,
  show Q71.f k (c.1,c.2.1,c.2.2.1,c.2.2.2.1,c.2.2.2.2.1,c.2.2.2.2.2.1,c.2.2.2.2.2.2.1,c.2.2.2.2.2.2.2) (s.1,s.2.1,s.2.2) (n.1,n.2.1,n.2.2.1,n.2.2.2.1,n.2.2.2.2)=_ from Zgp (c:=c) (s:=s) (by omega) (by omega) h3 h4 k2,Option.bind_some,Option.bind_some]
 by_cases c1:n.1<0
 ·rw [if_pos (decide_eq_true c1),if_neg (by omega),decide_eq_false (show ¬ 0<n.1 by omega)]; rfl
 ·rw [if_neg (by simpa using c1)]
  by_cases c2:n.1=0
  ·rw [if_pos (decide_eq_true c2),if_pos c2]
  ·rw [if_neg (by simpa using c2),if_neg c2,decide_eq_true (show 0<n.1 by omega)]; rfl
def be:Nat→Nat→List UInt8
 | 0,_=>[]
 | w+1,v=>UInt8.ofNat (v / 256 ^ w) :: be w v
theorem Xc:∀ w v,(be w v).length=w
 | 0,_=>rfl
 | w+1,v=>by rw [be,List.length_cons,Xc w v]
def rdv (l:List UInt8):Nat:=l.foldl (fun a c=>a*256+c.toNat) 0
theorem Zaw:∀(l:List UInt8) (a:Nat),l.foldl (fun a c=>a*256+c.toNat) a=a*256 ^ l.length+rdv l
 | [],a=>by simp [rdv]
 | c :: l,a=>by
  unfold rdv
  rw [List.foldl_cons,List.foldl_cons,Zaw l,Zaw l (0*256+c.toNat),List.length_cons,Nat.pow_succ,Nat.add_mul,Nat.zero_mul,Nat.zero_add]
  rw [Nat.mul_assoc,Nat.mul_comm 256,Nat.add_assoc]
theorem Zis (c:UInt8) (l:List UInt8):rdv (c :: l)=c.toNat*256 ^ l.length+rdv l:=by
 unfold rdv
 rw [List.foldl_cons,Zaw,Nat.zero_mul,Nat.zero_add]; rfl
theorem Zel:∀ l:List UInt8,rdv l<256 ^ l.length
 | []=>by simp [rdv]
 | c :: l=>by
  have h1:=Zel l
  have h2:c.toNat<256:=c.toNat_lt
  rw [Zis,List.length_cons,Nat.pow_succ]
  have:c.toNat*256 ^ l.length≤255*256 ^ l.length:=Nat.mul_le_mul_right _ (by omega)
  omega
def zs (n:Nat):List UInt8:=List.replicate n 0
theorem Uy (n:Nat):(zs n).length=n:=List.length_replicate
theorem Zbf (a b:Nat):zs a ++ zs b=zs (a+b):=by unfold zs; rw [List.replicate_append_replicate]
def slt (s:List UInt8) (n:Nat):List UInt8:=s ++ zs (n - s.length)
theorem Jv {s:List UInt8} {n:Nat} (h:s.length≤n):(slt s n).length=n:=by unfold slt; rw [List.length_append,Uy]; omega
def prS (K V:Nat) (p:List UInt8×List UInt8):List UInt8:=be 1 p.1.length ++ (be 2 p.2.length ++ (slt p.1 K ++ slt p.2 V))
theorem Js {K V:Nat} {p:List UInt8×List UInt8} (h1:p.1.length≤K) (h2:p.2.length≤V):(prS K V p).length=3+K+V:=by
 unfold prS
 rw [List.length_append,List.length_append,List.length_append,Xc,Xc,Jv h1,Jv h2]; omega
def msS (K V:Nat) (m:List UInt8×Bool×List UInt8):List UInt8:=(if m.2.1=true then 2 else 1) :: prS K V (m.1,m.2.2)
theorem Zkt {K V:Nat} {m:List UInt8×Bool×List UInt8} (h1:m.1.length≤K) (h2:m.2.2.length≤V):(msS K V m).length=4+K+V:=by
 unfold msS
 rw [List.length_cons,Js h1 h2]; omega
def pvS (K:Nat) (p:List UInt8):List UInt8:=be 1 p.length ++ slt p K
theorem Zbu {K:Nat} {p:List UInt8} (h1:p.length≤K):(pvS K p).length=1+K:=by
 unfold pvS
 rw [List.length_append,Xc,Jv h1]
def cat {α:Type} (f:α→List UInt8) (l:List α):List UInt8:=l.flatMap f
theorem Jp {α:Type} {f:α→List UInt8} {n:Nat}:∀ {l:List α},(∀ x∈l,(f x).length=n)→(cat f l).length=l.length*n
 | [],_=>by simp [cat]
 | x :: l,h=>by
  have:=Jp (l:=l) fun y hy=>h y (by simp [hy])
  unfold cat at this ⊢
  rw [List.flatMap_cons,List.length_append,this,h x (by simp),List.length_cons,Nat.add_mul]; omega
def kdS (x:Int):List UInt8:=be 4 x.toNat
def cBy (c:Cfg):Nat:=c.2.1.toNat
def cFa (c:Cfg):Nat:=c.2.2.2.1.toNat
def cBu (c:Cfg):Nat:=c.2.2.2.2.1.toNat
def cLe (c:Cfg):Nat:=c.2.2.2.2.2.1.toNat
def cK (c:Cfg):Nat:=c.2.2.2.2.2.2.1.toNat
def cV (c:Cfg):Nat:=c.2.2.2.2.2.2.2.toNat
def hdO (n:Nd):List UInt8:=1 :: 0 :: (be 2 n.2.2.2.2.length ++ zs 4)
def hdI (n:Nd):List UInt8:=2 :: (be 1 n.1.toNat ++ (be 2 n.2.1.length ++ (be 2 n.2.2.2.1.length ++ zs 2)))
theorem Zf0 (n:Nd):(hdO n).length=8:=by simp [hdO,Xc,Uy]
theorem Zfr (n:Nd):(hdI n).length=8:=by simp [hdI,Xc,Uy]
def bdO (c:Cfg) (n:Nd):List UInt8:=cat (prS (cK c) (cV c)) n.2.2.2.2
def bdI (c:Cfg) (n:Nd):List UInt8:=cat kdS n.2.1 ++ (zs (4*(cFa c - n.2.1.length)) ++ (cat (pvS (cK c)) n.2.2.1 ++ (zs ((1+cK c)*(cFa c - 1 - n.2.2.1.length)) ++ cat (msS (cK c) (cV c)) n.2.2.2.1)))
def Zaz (c:Cfg) (n:Nd):List UInt8:=if n.1=0 then hdO n ++ bdO c n else hdI n ++ bdI c n
def Zb8 (c:Cfg) (n:Nd):List UInt8:=slt (Zaz c n) (cBy c)
structure FitN (c:Cfg) (n:Nd):Prop where
 lv:0≤n.1∧n.1≤40
 kd:∀ x∈n.2.1,0≤x∧x<4294967296
 o:n.1=0→n.2.1=[]∧n.2.2.1=[]∧n.2.2.2.1=[]∧n.2.2.2.2.length≤cLe c
 i:n.1≠0→n.2.2.2.2=[]∧1≤n.2.1.length∧n.2.1.length≤cFa c∧n.2.2.1.length+1=n.2.1.length∧n.2.2.2.1.length≤cBu c
 pk:∀ p∈n.2.2.1,p.length≤cK c
 ms:∀ m∈n.2.2.2.1,m.1.length≤cK c∧m.2.2.length≤cV c
 rk:∀ p∈n.2.2.2.2,p.1.length≤cK c∧p.2.length≤cV c
theorem OkC.nat {c:Cfg} (h:OkC c):8≤cFa c∧cFa c≤64∧1≤cK c∧cK c≤64∧cV c≤256∧16≤cBu c∧cBu c≤512∧cBu c≤cLe c∧cLe c≤1024:=by
 have h1:=h.fan
 have h2:=h.key
 have h3:=h.val
 have h4:=h.buf
 have h5:=h.leaf
 unfold cFa cK cV cBu cLe
 omega
theorem Zk7 {c:Cfg} {n:Nd} (h:FitN c n):(bdO c n).length=n.2.2.2.2.length*(3+cK c+cV c):=Jp fun p hp=>Js (h.rk p hp).1 (h.rk p hp).2
theorem Zi3 (l:List Int):(cat kdS l).length=l.length*4:=Jp fun p hp=>Xc 4 _
theorem Zjs {c:Cfg} {n:Nd} (h:FitN c n):(cat (pvS (cK c)) n.2.2.1).length=n.2.2.1.length*(1+cK c):=Jp fun p hp=>Zbu (h.pk p hp)
theorem Zjq {c:Cfg} {n:Nd} (h:FitN c n):(cat (msS (cK c) (cV c)) n.2.2.2.1).length=n.2.2.2.1.length*(4+cK c+cV c):=Jp fun p hp=>Zkt (h.ms p hp).1 (h.ms p hp).2
theorem Zkl {c:Cfg} {n:Nd} (h:FitN c n) (h0:n.1≠0):(bdI c n).length=4*cFa c+(1+cK c)*(cFa c - 1)+n.2.2.2.1.length*(4+cK c+cV c):=by
 obtain ⟨_,i2,i3,i4,_⟩:=h.i h0
 unfold bdI
 rw [List.length_append,List.length_append,List.length_append,List.length_append,Zi3,Uy,Zjs h,Uy,Zjq h,Nat.mul_comm n.2.2.1.length]
 have e:(1+cK c)*n.2.2.1.length+(1+cK c)*(cFa c - 1 - n.2.2.1.length)=(1+cK c)*(cFa c - 1):=by rw [← Nat.mul_add]; congr 1; omega
 omega
def szB (c:Cfg):Bool:=decide (8≤c.2.2.2.1∧c.2.2.2.1≤64) && (decide (1≤c.2.2.2.2.2.2.1∧c.2.2.2.2.2.2.1≤64) && (decide (0≤c.2.2.2.2.2.2.2∧c.2.2.2.2.2.2.2≤256) && (decide (2*c.2.2.2.1≤c.2.2.2.2.1∧c.2.2.2.2.1≤512) && decide (c.2.2.2.2.1≤c.2.2.2.2.2.1∧c.2.2.2.2.2.1≤1024))))
theorem Jr {c:Cfg} (h:szB c=true):OkC c:=by
 simp only [szB,Bool.and_eq_true,decide_eq_true_eq] at h
 exact ⟨h.1,h.2.1,h.2.2.1,by omega,h.2.2.2.2⟩
def Uf (c:Cfg):Int:=8+(4+(c.2.2.2.1 - 1)*(5+c.2.2.2.2.2.2.1)+c.2.2.2.2.1*(4+c.2.2.2.2.2.2.1+c.2.2.2.2.2.2.2))
def Ur (c:Cfg):Int:=8+c.2.2.2.2.2.1*(3+c.2.2.2.2.2.2.1+c.2.2.2.2.2.2.2)
def okB (c:Cfg):Bool:=szB c && (decide (5≤c.1∧c.1≤65536) && (decide (8≤c.2.2.1∧c.2.2.1≤64) && (decide (64≤c.2.1∧c.2.1≤65536) && (decide (Uf c≤c.2.1) && decide (Ur c≤c.2.1)))))
theorem Zh7 (a b c:Int):Q134.f a b c=some (decide (b≤a∧a≤c)):=by
 unfold Q134.f
 by_cases h:b≤a <;> simp [h]
theorem Bp (c:Cfg):Q133.f c=some (szB c):=by
 unfold Q133.f szB
 simp only [Zh7,Option.bind_some]
 by_cases h1:8≤c.2.2.2.1∧c.2.2.2.1≤64
 ·have w:w64 (2*c.2.2.2.1)=2*c.2.2.2.1:=Z1 (by omega) (by omega)
  rw [w,decide_eq_true h1]
  cases decide (1≤c.2.2.2.2.2.2.1∧c.2.2.2.2.2.2.1≤64) <;> cases decide (0≤c.2.2.2.2.2.2.2∧c.2.2.2.2.2.2.2≤256) <;> cases decide (2*c.2.2.2.1≤c.2.2.2.2.1∧c.2.2.2.2.1≤512) <;> rfl
 ·rw [decide_eq_false h1]; rfl
theorem Zfs {c:Cfg} (hc:OkC c):∀(m i k:Nat) (x:Int),c.2.2.2.2.1=(i:Int)+m→m<k→0≤x→x+m*324≤1000000000→Q130.l1 k c x (i:Int)=some (x+m*(4+c.2.2.2.2.2.2.1+c.2.2.2.2.2.2.2))
 | 0,i,k+1,x,h,_,_,_=>by
  rw [Q130.l1,if_neg (by simp only [decide_eq_true_eq]; omega)]; simp
 | m+1,i,k+1,x,h,hk,h0,h1=>by
  have a1:=hc.key
  have a2:=hc.val
  have hb:=hc.buf
  rw [Q130.l1,if_pos (decide_eq_true (by omega)),Z1 (x:=x+4) (by omega) (by omega),Z1 (x:=x+4+c.2.2.2.2.2.2.1) (by omega) (by omega),Z1 (x:=x+4+c.2.2.2.2.2.2.1+c.2.2.2.2.2.2.2) (by omega) (by omega),Yp (by omega),Zfs hc m (i+1) k _ (by omega) (by omega) (by omega) (by omega)]
  congr 1
  rw [show ((m+1:Nat):Int)=(m:Int)+1 by omega,Int.add_mul]; omega
theorem Zfj {c:Cfg} (hc:OkC c):∀(m i k:Nat) (x:Int),1≤i→c.2.2.2.1=(i:Int)+m→m+600<k→0≤x→x+m*69≤100000→Q130.l0 k c x (i:Int)=some (x+m*(5+c.2.2.2.2.2.2.1)+c.2.2.2.2.1*(4+c.2.2.2.2.2.2.1+c.2.2.2.2.2.2.2))
 | 0,i,k+1,x,h2,h,hk,h0,h1=>by
  have hb:=hc.buf
  obtain ⟨B,hB⟩:=Int.eq_ofNat_of_zero_le (show 0≤c.2.2.2.2.1 by omega)
  rw [Q130.l0,if_neg (by simp only [decide_eq_true_eq]; omega),show Q130.l1 k c x 0=_ from Zfs hc B 0 k x (by rw [hB]; simp) (by omega) h0 (by omega),hB]; simp
 | m+1,i,k+1,x,h2,h,hk,h0,h1=>by
  have a1:=hc.key
  have hb:=hc.fan
  rw [Q130.l0,if_pos (decide_eq_true (by omega)),if_pos (decide_eq_true (by omega)),Z1 (x:=x+4) (by omega) (by omega),Z1 (x:=x+4+1) (by omega) (by omega),Z1 (x:=x+4+1+c.2.2.2.2.2.2.1) (by omega) (by omega),Yp (by omega),Zfj hc m (i+1) k _ (by omega) (by omega) (by omega) (by omega) (by omega)]
  congr 1
  rw [show ((m+1:Nat):Int)=(m:Int)+1 by omega,Int.add_mul]; omega
theorem Zla {c:Cfg} (h:szB c=true) {k:Nat} (hk:1000<k):Q130.f k c=some (Uf c):=by
 have hc:=Jr h
 have hf:=hc.fan
 obtain ⟨F,hF⟩:=Int.eq_ofNat_of_zero_le (show 0≤c.2.2.2.1 by omega)
 obtain ⟨k,rfl⟩:∃ q,k=q+1:=⟨k - 1,by omega⟩
 unfold Q130.f
 rw [show Q133.f (c.1,c.2.1,c.2.2.1,c.2.2.2.1,c.2.2.2.2.1,c.2.2.2.2.2.1,c.2.2.2.2.2.2.1,c.2.2.2.2.2.2.2)=_ from Bp c,h,Option.bind_some,if_neg (by simp),Q130.l0,if_pos (decide_eq_true (by omega)),if_neg (by simp),show w64 (8+4)=12 from rfl,show w64 (0+1)=((1:Nat):Int) from rfl,Zfj hc (F - 1) 1 k 12 (Nat.le_refl _) (by omega) (by omega) (by omega) (by omega),show ((F - 1:Nat):Int)=c.2.2.2.1 - 1 by omega]
 unfold Uf
 congr 1; omega
theorem Zf7 {c:Cfg} (hc:OkC c):∀(m i k:Nat) (x:Int),c.2.2.2.2.2.1=(i:Int)+m→m<k→0≤x→x+m*324≤1000000000→Q131.l0 k c x (i:Int)=some (x+m*(3+c.2.2.2.2.2.2.1+c.2.2.2.2.2.2.2))
 | 0,i,k+1,x,h,_,_,_=>by
  rw [Q131.l0,if_neg (by simp only [decide_eq_true_eq]; omega)]; simp
 | m+1,i,k+1,x,h,hk,h0,h1=>by
  have a1:=hc.key
  have a2:=hc.val
  have hb:=hc.leaf
  rw [Q131.l0,if_pos (decide_eq_true (by omega)),Z1 (x:=x+3) (by omega) (by omega),Z1 (x:=x+3+c.2.2.2.2.2.2.1) (by omega) (by omega),Z1 (x:=x+3+c.2.2.2.2.2.2.1+c.2.2.2.2.2.2.2) (by omega) (by omega),Yp (by omega),Zf7 hc m (i+1) k _ (by omega) (by omega) (by omega) (by omega)]
  congr 1
  rw [show ((m+1:Nat):Int)=(m:Int)+1 by omega,Int.add_mul]; omega
theorem Zkm {c:Cfg} (h:szB c=true) {k:Nat} (hk:2000<k):Q131.f k c=some (Ur c):=by
 have hc:=Jr h
 have hf:=hc.leaf
 have hb:=hc.buf
 obtain ⟨L,hL⟩:=Int.eq_ofNat_of_zero_le (show 0≤c.2.2.2.2.2.1 by omega)
 unfold Q131.f
 rw [show Q133.f (c.1,c.2.1,c.2.2.1,c.2.2.2.1,c.2.2.2.2.1,c.2.2.2.2.2.1,c.2.2.2.2.2.2.1,c.2.2.2.2.2.2.2)=_ from Bp c,h,Option.bind_some,if_neg (by simp),show Q131.l0 k c 8 0=_ from Zf7 hc L 0 k 8 (by omega) (by omega) (by omega) (by omega),← hL]
 rfl
theorem Zhm (c:Cfg) {k:Nat} (hk:2000<k):Q132.f k c=some (okB c):=by
 unfold Q132.f okB
 rw [show Q133.f (c.1,c.2.1,c.2.2.1,c.2.2.2.1,c.2.2.2.2.1,c.2.2.2.2.2.1,c.2.2.2.2.2.2.1,c.2.2.2.2.2.2.2)=_ from Bp c,Option.bind_some]
 cases h:szB c with
 | false=>rfl
 | true=>
  rw [if_pos rfl,show Q130.f k (c.1,c.2.1,c.2.2.1,c.2.2.2.1,c.2.2.2.2.1,c.2.2.2.2.2.1,c.2.2.2.2.2.2.1,c.2.2.2.2.2.2.2)=_ from Zla h (by omega),show Q131.f k (c.1,c.2.1,c.2.2.1,c.2.2.2.1,c.2.2.2.2.1,c.2.2.2.2.2.1,c.2.2.2.2.2.2.1,c.2.2.2.2.2.2.2)=_ from Zkm h hk]
  simp only [Zh7,Option.bind_some]
  cases decide (5≤c.1∧c.1≤65536) <;> cases decide (8≤c.2.2.1∧c.2.2.1≤64) <;> cases decide (64≤c.2.1∧c.2.1≤65536) <;> cases decide (Uf c≤c.2.1) <;> rfl
abbrev Zb5:Sp:=([],[],true)
theorem Zbp (c:Cfg):Q52.f c=some (szB c):=by
 unfold Q52.f szB
 by_cases h1:8≤c.2.2.2.1∧c.2.2.2.1≤64
 ·have w:w64 (2*c.2.2.2.1)=2*c.2.2.2.1:=Z1 (by omega) (by omega)
  rw [w,if_neg (by simp only [decide_eq_true_eq]; omega),if_neg (by simp only [decide_eq_true_eq]; omega),decide_eq_true h1]
  by_cases h2:1≤c.2.2.2.2.2.2.1∧c.2.2.2.2.2.2.1≤64
  ·by_cases h3:0≤c.2.2.2.2.2.2.2∧c.2.2.2.2.2.2.2≤256
   ·by_cases h4:2*c.2.2.2.1≤c.2.2.2.2.1∧c.2.2.2.2.1≤512
    ·by_cases h5:c.2.2.2.2.1≤c.2.2.2.2.2.1∧c.2.2.2.2.2.1≤1024
     ·rw [if_neg (by simp only [decide_eq_true_eq]; omega),if_neg (by simp only [decide_eq_true_eq]; omega),if_neg (by simp only [decide_eq_true_eq]; omega),if_neg (by simp only [decide_eq_true_eq]; omega),if_neg (by simp only [decide_eq_true_eq]; omega),if_neg (by simp only [decide_eq_true_eq]; omega),if_neg (by simp only [decide_eq_true_eq]; omega),if_neg (by simp only [decide_eq_true_eq]; omega),decide_eq_true h2,decide_eq_true h3,decide_eq_true h4,decide_eq_true h5]
      rfl
     ·rw [if_neg (by simp only [decide_eq_true_eq]; omega),if_neg (by simp only [decide_eq_true_eq]; omega),decide_eq_false h5]
      simp only [Bool.and_false]
      by_cases q:c.2.2.2.2.2.1<c.2.2.2.2.1
      ·rw [if_pos (decide_eq_true q)]
      ·rw [if_neg (by simpa using q),if_pos (decide_eq_true (by omega))]
    ·rw [decide_eq_false h4]
     simp only [Bool.false_and,Bool.and_false]
     by_cases q:c.2.2.2.2.1<2*c.2.2.2.1
     ·rw [if_pos (decide_eq_true q)]
     ·rw [if_neg (by simpa using q),if_pos (decide_eq_true (by omega))]
   ·rw [decide_eq_false h3]
    simp only [Bool.false_and,Bool.and_false]
    repeat' split
    all_goals first | rfl | (simp only [decide_eq_true_eq] at *; omega)
  ·rw [decide_eq_false h2]
   simp only [Bool.false_and,Bool.and_false]
   repeat' split
   all_goals first | rfl | (simp only [decide_eq_true_eq] at *; omega)
 ·rw [decide_eq_false h1]
  simp only [Bool.false_and]
  by_cases q:c.2.2.2.1<8
  ·rw [if_pos (decide_eq_true q)]
  ·rw [if_neg (by simpa using q),if_pos (decide_eq_true (by omega))]
theorem U4 (c:Cfg):(c.1,c.2.1,c.2.2.1,c.2.2.2.1,c.2.2.2.2.1,c.2.2.2.2.2.1,c.2.2.2.2.2.2.1,c.2.2.2.2.2.2.2)=c:=rfl
theorem Znf (n:Nd):(n.1,n.2.1,n.2.2.1,n.2.2.2.1,n.2.2.2.2)=n:=rfl
theorem Zm6 {c:Cfg} (h:szB c=true):Q49.f c=some (Uf c)∧8≤Uf c∧Uf c≤200000:=by
 have hc:=Jr h
 have a1:=hc.fan
 have a2:=hc.key
 have a3:=hc.val
 have a4:=hc.buf
 have p0:0≤(c.2.2.2.1 - 1)*(1+c.2.2.2.2.2.2.1):=Int.mul_nonneg (by omega) (by omega)
 have p1:(c.2.2.2.1 - 1)*(1+c.2.2.2.2.2.2.1)≤63*65:=Int.mul_le_mul (by omega) (by omega) (by omega) (by omega)
 have q0:0≤c.2.2.2.2.1*(4+c.2.2.2.2.2.2.1+c.2.2.2.2.2.2.2):=Int.mul_nonneg (by omega) (by omega)
 have q1:c.2.2.2.2.1*(4+c.2.2.2.2.2.2.1+c.2.2.2.2.2.2.2)≤512*324:=Int.mul_le_mul (by omega) (by omega) (by omega) (by omega)
 have e:Uf c=8+4*c.2.2.2.1+(c.2.2.2.1 - 1)*(1+c.2.2.2.2.2.2.1)+c.2.2.2.2.1*(4+c.2.2.2.2.2.2.1+c.2.2.2.2.2.2.2):=by
  unfold Uf
  rw [show 5+c.2.2.2.2.2.2.1=4+(1+c.2.2.2.2.2.2.1) by omega,Int.mul_add]; omega
 refine ⟨?_,by omega,by omega⟩
 unfold Q49.f
 (try rw [U4]); rw [Zbp,h,Option.bind_some,if_neg (by simp),Z1 (x:=4*c.2.2.2.1) (by omega) (by omega),Z1 (x:=8+4*c.2.2.2.1) (by omega) (by omega),Z1 (x:=c.2.2.2.1 - 1) (by omega) (by omega),Z1 (x:=1+c.2.2.2.2.2.2.1) (by omega) (by omega),Z1 (x:=4+c.2.2.2.2.2.2.1) (by omega) (by omega),Z1 (x:=4+c.2.2.2.2.2.2.1+c.2.2.2.2.2.2.2) (by omega) (by omega),
  Z1 (x:=(c.2.2.2.1 - 1)*(1+c.2.2.2.2.2.2.1)) (by omega) (by omega),Z1 (x:=c.2.2.2.2.1*(4+c.2.2.2.2.2.2.1+c.2.2.2.2.2.2.2)) (by omega) (by omega),Z1 (x:=8+4*c.2.2.2.1+(c.2.2.2.1 - 1)*(1+c.2.2.2.2.2.2.1)) (by omega) (by omega),Z1 (by omega) (by omega),e]
theorem Zm5 {c:Cfg} (h:szB c=true):Q51.f c=some (Ur c)∧8≤Ur c∧Ur c≤400000:=by
 have hc:=Jr h
 have a2:=hc.key
 have a3:=hc.val
 have a4:=hc.buf
 have a5:=hc.leaf
 have q0:0≤c.2.2.2.2.2.1*(3+c.2.2.2.2.2.2.1+c.2.2.2.2.2.2.2):=Int.mul_nonneg (by omega) (by omega)
 have q1:c.2.2.2.2.2.1*(3+c.2.2.2.2.2.2.1+c.2.2.2.2.2.2.2)≤1024*323:=Int.mul_le_mul (by omega) (by omega) (by omega) (by omega)
 refine ⟨?_,by unfold Ur; omega,by unfold Ur; omega⟩
 unfold Q51.f Ur
 (try rw [U4]); rw [Zbp,h,Option.bind_some,if_neg (by simp),Z1 (x:=3+c.2.2.2.2.2.2.1) (by omega) (by omega),Z1 (x:=3+c.2.2.2.2.2.2.1+c.2.2.2.2.2.2.2) (by omega) (by omega),Z1 (x:=c.2.2.2.2.2.1*(3+c.2.2.2.2.2.2.1+c.2.2.2.2.2.2.2)) (by omega) (by omega),Z1 (by omega) (by omega)]
theorem Zba (c:Cfg):Q48.f c=some (if okB c=true then 0 else 2):=by
 unfold Q48.f okB
 (try rw [U4]); rw [Zbp,Option.bind_some]
 cases h:szB c with
 | false=>rfl
 | true=>
  obtain ⟨i1,i2,i3⟩:=Zm6 h
  obtain ⟨o1,o2,o3⟩:=Zm5 h
  rw [if_pos rfl]
  by_cases a1:5≤c.1∧c.1≤65536
  ·rw [if_pos (decide_eq_true a1.1),if_pos (decide_eq_true a1.2),decide_eq_true a1]
   by_cases a2:8≤c.2.2.1∧c.2.2.1≤64
   ·rw [if_pos (decide_eq_true a2.1),if_neg (by simp [a2.2]),decide_eq_true a2]
    by_cases a3:65536<c.2.1
    ·rw [if_pos (decide_eq_true a3),decide_eq_false (show ¬ (64≤c.2.1∧c.2.1≤65536) by omega)]; rfl
    ·rw [if_neg (by simpa using a3)]
     unfold Q50.f
     (try rw [U4]); rw [Zbp,h,Option.bind_some,if_pos rfl,i1,o1,Option.bind_some,Option.bind_some,Option.bind_some]
     dsimp only
     generalize Uf c=I at *
     generalize Ur c=O at *
     by_cases b1:c.2.1<64
     ·rw [if_pos (decide_eq_true (by split <;> split <;> omega)),decide_eq_false (show ¬ (64≤c.2.1∧c.2.1≤65536) by omega)]; rfl
     ·rw [decide_eq_true (show 64≤c.2.1∧c.2.1≤65536 by omega)]
      by_cases b2:I≤c.2.1
      ·rw [decide_eq_true b2]
       by_cases b3:O≤c.2.1
       ·rw [decide_eq_true b3,if_neg (by simp only [decide_eq_true_eq]; split <;> split <;> omega)]; rfl
       ·rw [decide_eq_false b3,if_pos (decide_eq_true (by split <;> split <;> omega))]; rfl
      ·rw [decide_eq_false b2,if_pos (decide_eq_true (by split <;> split <;> omega))]; rfl
   ·rw [decide_eq_false a2]
    by_cases q:8≤c.2.2.1
    ·rw [if_pos (decide_eq_true q),if_pos (by simp; omega)]; rfl
    ·rw [if_neg (by simpa using q)]; rfl
  ·rw [decide_eq_false a1]
   by_cases q:5≤c.1
   ·rw [if_pos (decide_eq_true q),if_neg (by simp only [decide_eq_true_eq]; omega)]; rfl
   ·rw [if_neg (by simpa using q)]; rfl
theorem Xm (a b:List UInt8):toB (a ++ b)=toB a ++ toB b:=by simp [toB]
theorem Ye (a:List UInt8):(toB a).length=a.length:=by simp [toB]
theorem Zen (n:Nat):toB (zs n)=List.replicate n 0:=by simp [toB,zs]
theorem Zb9 (a:List UInt8):toS (toB a)=a:=by
 unfold toS toB
 rw [List.map_map]
 conv=>rhs; rw [← List.map_id a]
 apply List.map_congr_left
 intro x _
 simp
theorem Zmx (n:Nat):IntKind.u64.wrap (n:Int)=((n % 18446744073709551616:Nat):Int):=by
 simp [IntKind.wrap,IntKind.bits,IntKind.signed]
theorem W9 {n:Nat} (h:n<18446744073709551616):IntKind.u64.wrap (n:Int)=(n:Int):=by rw [Zmx,Nat.mod_eq_of_lt h]
theorem Zmp (v i:Nat) (hi:i<8):IntKind.u8.wrap (Int.fdiv (v:Int) (2 ^ (min (w64 (8*(i:Int))).toNat 64)))=((UInt8.ofNat (v / 256 ^ i)).toNat:Int):=by
 have e1:w64 (8*(i:Int))=((8*i:Nat):Int):=by rw [Z1 (by omega) (by omega)]; omega
 rw [e1,Int.toNat_natCast,show min (8*i) 64=8*i by omega,Int.fdiv_eq_ediv_of_nonneg _ (by exact_mod_cast Nat.zero_le _)]
 have e2:((v:Int) / 2 ^ (8*i))=((v / 256 ^ i:Nat):Int):=by
  rw [show (256:Nat)=2 ^ 8 from rfl,← Nat.pow_mul]
  push_cast
  rfl
 rw [e2]
 simp [IntKind.wrap,IntKind.bits,IntKind.signed]
theorem Zht (v:Nat):∀(i:Nat) (x:List Int) (k:Nat),i≤8→i<k→x.length+i≤1000→Q138.l0 k (v:Int) x ((i:Int) - 1)=some (x ++ toB (be i v))
 | 0,x,k+1,_,_,_=>by
  rw [Q138.l0,if_neg (by simp)]
  simp [be,toB]
 | i+1,x,k+1,hi,hk,hx=>by
  have e:((i+1:Nat):Int) - 1=(i:Int):=by omega
  rw [e,Q138.l0,if_pos (decide_eq_true (by omega)),if_pos (by rw [Z1 (by omega) (by omega)]; omega),if_pos (by simp only [List.length_singleton]; omega),Zmp v i (by omega),Z1 (x:=(i:Int) - 1) (by omega) (by omega),Zht v i _ k (by omega) (by omega) (by simp; omega)]
  simp [be,toB]
theorem V1 {a:List Int} {w v:Nat} (hw:w=1∨w=2∨w=4) (ha:a.length≤10000000) {k:Nat} (hk:10<k):Q40.f k a (w:Int) (v:Int)=some (a ++ toB (be w v)):=by
 have h0:Q138.f k ([]:List Int) (w:Int) (v:Int)=some (toB (be w v)):=by
  unfold Q138.f Q94.f Q147.f
  rw [if_pos (by simp),Option.bind_some]
  have hr:(if (decide ((w:Int)=1))=true then (some true) else (if (decide ((w:Int)=2))=true then (some true) else (if (decide ((w:Int)=4))=true then (some true) else (some (decide ((w:Int)=8))))))=some true:=by
   rcases hw with rfl | rfl | rfl <;> rfl
  rw [hr,Option.bind_some,if_neg (by simp),Z1 (by omega) (by omega)]
  have:=Zht v w ([] ++ []) k (by omega) (by omega) (by simp; omega)
  simpa using this
 unfold Q40.f
 rw [h0,Option.bind_some,if_pos (by rw [Ye,Xc]; omega)]
theorem Zdt {a:List Int} {s:List UInt8} {n:Nat} (ha:a.length≤10000000) (hs:s.length≤n) (hn:n≤100000):Q45.f a s (n:Int)=some (a ++ toB (slt s n)):=by
 have e:w64 ((n:Int) - (s.length:Int))=((n - s.length:Nat):Int):=by rw [Z1 (by omega) (by omega)]; omega
 unfold Q45.f
 rw [if_pos (by omega),e,if_pos (by rw [List.length_append,Ye]; omega),Int.toNat_natCast]
 unfold slt
 rw [Xm,Zen,List.append_assoc]
structure NatC (c:Cfg):Prop where
 f:c.2.2.2.1=(cFa c:Int)
 k:c.2.2.2.2.2.2.1=(cK c:Int)
 v:c.2.2.2.2.2.2.2=(cV c:Int)
 b:c.2.2.2.2.1=(cBu c:Int)
 l:c.2.2.2.2.2.1=(cLe c:Int)
theorem OkC.int {c:Cfg} (h:OkC c):NatC c:=by
 have h1:=h.fan
 have h2:=h.key
 have h3:=h.val
 have h4:=h.buf
 have h5:=h.leaf
 constructor <;> simp only [cFa,cK,cV,cBu,cLe] <;> omega
theorem Zhc {c:Cfg} (hc:OkC c) {a:List Int} {x y:List UInt8} (ha:a.length≤9000000) (hx:x.length≤cK c) (hy:y.length≤cV c) {k:Nat} (hk:10<k):Q41.f k c a x y=some (a ++ toB (prS (cK c) (cV c) (x,y))):=by
 obtain ⟨c1,c2,c3,c4,c5,c6,c7,c8,c9⟩:=hc.nat
 unfold Q41.f
 rw [W9 (by omega),W9 (by omega),show Q40.f k a 1 (x.length:Int)=_ from V1 (w:=1) (.inl rfl) (by omega) hk,Option.bind_some,show Q40.f k (a ++ toB (be 1 x.length)) 2 (y.length:Int)=_ from V1 (w:=2) (.inr (.inl rfl)) (by rw [List.length_append,Ye,Xc]; omega) hk,Option.bind_some,
  hc.int.k,Zdt (by rw [List.length_append,List.length_append,Ye,Ye,Xc,Xc]; omega) hx (by omega),Option.bind_some,hc.int.v,Zdt (by rw [List.length_append,List.length_append,List.length_append,Ye,Ye,Ye,Xc,Xc,Jv hx]; omega) hy (by omega),Option.bind_some]
 unfold prS
 simp only [Xm,List.append_assoc]
theorem Zil {a b d e:Nat} (ha:a<256) (hb:b<256) (hd:d<65536) (he:e<65536) {k:Nat} (hk:10<k):Q39.f k (a:Int) (b:Int) (d:Int) (e:Int)=some (toB (be 1 a ++ (be 1 b ++ (be 2 d ++ (be 2 e ++ zs 2))))):=by
 unfold Q39.f
 rw [W9 (by omega),W9 (by omega),W9 (by omega),W9 (by omega),show Q40.f k ([]:List Int) 1 (a:Int)=_ from V1 (w:=1) (.inl rfl) (by simp) hk,Option.bind_some,show Q40.f k _ 1 (b:Int)=_ from V1 (w:=1) (.inl rfl) (by simp [Ye,Xc]) hk,Option.bind_some,
  show Q40.f k _ 2 (d:Int)=_ from V1 (w:=2) (.inr (.inl rfl)) (by simp [Ye,Xc]) hk,Option.bind_some,show Q40.f k _ 2 (e:Int)=_ from V1 (w:=2) (.inr (.inl rfl)) (by simp [Ye,Xc]) hk,Option.bind_some,show Q40.f k _ 2 0=_ from V1 (w:=2) (v:=0) (.inr (.inl rfl)) (by simp [Ye,Xc]) hk,Option.bind_some]
 have z:be 2 0=zs 2:=by decide
 rw [z]
 simp only [Xm,List.append_assoc,List.nil_append]
theorem Gh {α:Type} (f:α→List UInt8) (x:α) (l:List α):cat f (x :: l)=f x ++ cat f l:=by unfold cat; rw [List.flatMap_cons]
theorem Zc2 {c:Cfg} {n:Nd} (hc:OkC c) (hr:∀ p∈n.2.2.2.2,p.1.length≤cK c∧p.2.length≤cV c) (hl:n.2.2.2.2.length≤2000):∀(m i k:Nat) (x:List Int),n.2.2.2.2.length=i+m→m+20<k→x.length+m*400≤9000000→Q47.l0 k c n x (i:Int)=some (x ++ toB (cat (prS (cK c) (cV c)) (n.2.2.2.2.drop i)))
 | 0,i,k+1,x,h,hk,hx=>by
  rw [Q47.l0,if_neg (by simp only [decide_eq_true_eq]; omega),List.drop_eq_nil_of_le (by omega)]
  simp [cat,toB]
 | m+1,i,k+1,x,h,hk,hx=>by
  obtain ⟨c1,c2,c3,c4,c5,c6,c7,c8,c9⟩:=hc.nat
  have hi:i<n.2.2.2.2.length:=by omega
  have hp:=hr _ (Vb (d:=default) hi)
  rw [Q47.l0,if_pos (decide_eq_true (by omega)),if_pos (by omega),Yf]; (try rw [U4]); rw [Zhc hc (by omega) hp.1 hp.2 (by omega),Option.bind_some,Yp (by omega),Zc2 hc hr hl m (i+1) k _ (by omega) (by omega) (by rw [List.length_append,Ye,Js hp.1 hp.2]; omega),Y4 hi,Gh,Xm,List.append_assoc]
theorem Zk1 {c:Cfg} {n:Nd} (hc:OkC c) (hr:∀ p∈n.2.2.2.2,p.1.length≤cK c∧p.2.length≤cV c) (hl:n.2.2.2.2.length≤2000) {k:Nat} (hk:3000<k):Q47.f k c n=some (toB (hdO n ++ bdO c n)):=by
 have e:be 1 1 ++ (be 1 0 ++ (be 2 n.2.2.2.2.length ++ (be 2 0 ++ zs 2)))=hdO n:=by
  unfold hdO
  rw [show be 2 0=zs 2 by decide,Zbf]; rfl
 unfold Q47.f
 rw [show Q39.f k 1 0 (n.2.2.2.2.length:Int) 0=_ from Zil (a:=1) (b:=0) (e:=0) (by omega) (by omega) (by omega) (by omega) (by omega),Option.bind_some,e,show Q47.l0 k c n (toB (hdO n)) 0=_ from Zc2 hc hr hl n.2.2.2.2.length 0 k _ (by omega) (by omega) (by rw [Ye,Zf0]; omega),List.drop_zero,← Xm]
 rfl
theorem G4 {c:Cfg} {n:Nd} (hc:OkC c) (hr:∀ m∈n.2.2.2.1,m.1.length≤cK c∧m.2.2.length≤cV c) (hl:n.2.2.2.1.length≤2000):∀(m i k:Nat) (x:List Int),n.2.2.2.1.length=i+m→m+20<k→x.length+m*400≤8000000→Q46.l2 k c n x (i:Int)=some (x ++ toB (cat (msS (cK c) (cV c)) (n.2.2.2.1.drop i)))
 | 0,i,k+1,x,h,hk,hx=>by
  rw [Q46.l2,if_neg (by simp only [decide_eq_true_eq]; omega),List.drop_eq_nil_of_le (by omega)]
  simp [cat,toB]
 | m+1,i,k+1,x,h,hk,hx=>by
  obtain ⟨c1,c2,c3,c4,c5,c6,c7,c8,c9⟩:=hc.nat
  have hi:i<n.2.2.2.1.length:=by omega
  have hp:=hr _ (Vb (d:=default) hi)
  rw [Q46.l2,if_pos (decide_eq_true (by omega)),if_pos (by omega),Yf]; (try rw [U4]); rw [show Q40.f k x 1 2=_ from V1 (w:=1) (v:=2) (.inl rfl) (by omega) (by omega),show Q40.f k x 1 1=_ from V1 (w:=1) (v:=1) (.inl rfl) (by omega) (by omega),Option.bind_some,Option.bind_some,
   Zhc hc (by rw [List.length_append,Ye,Xc]; omega) hp.1 hp.2 (by omega),Zhc hc (by rw [List.length_append,Ye,Xc]; omega) hp.1 hp.2 (by omega),Option.bind_some,Option.bind_some,Yp (by omega),
   G4 hc hr hl m (i+1) k _ (by omega) (by omega) (by rw [List.length_append,List.length_append,Ye,Ye,Xc,Js hp.1 hp.2]; omega),G4 hc hr hl m (i+1) k _ (by omega) (by omega) (by rw [List.length_append,List.length_append,Ye,Ye,Xc,Js hp.1 hp.2]; omega),Y4 hi,Gh]
  unfold msS
  cases (n.2.2.2.1.getD i default).2.1
  ·rw [if_neg (by simp),if_neg (by simp),show be 1 1=[1] by decide,Xm,List.append_assoc,List.append_assoc]; rfl
  ·rw [if_pos rfl,if_pos rfl,show be 1 2=[2] by decide,Xm,List.append_assoc,List.append_assoc]; rfl
theorem Zks (K:Nat):pvS K []=zs (1+K):=by
 unfold pvS slt
 rw [show be 1 ([]:List UInt8).length=zs 1 by decide,List.nil_append,Zbf]; rfl
theorem Za8 {c:Cfg} {n:Nd} (hc:OkC c) (hr:∀ m∈n.2.2.2.1,m.1.length≤cK c∧m.2.2.length≤cV c) (hl:n.2.2.2.1.length≤2000):∀(m i k:Nat) (x:List Int),cFa c - 1=i+m→n.2.2.1.length≤i→m+2100<k→x.length+m*400≤7000000→Q46.l1 k c n x (i:Int)=some (x ++ toB (zs ((1+cK c)*m) ++ cat (msS (cK c) (cV c)) n.2.2.2.1))
 | 0,i,k+1,x,h,hz,hk,hx=>by
  replace hx:x.length≤7000000:=by simpa using hx
  obtain ⟨c1,c2,c3,c4,c5,c6,c7,c8,c9⟩:=hc.nat
  have e:w64 (c.2.2.2.1 - 1)=((cFa c - 1:Nat):Int):=by rw [hc.int.f,Z1 (by omega) (by omega)]; omega
  rw [Q46.l1,e,if_neg (by simp only [decide_eq_true_eq]; omega),show Q46.l2 k c n x 0=_ from G4 hc hr hl n.2.2.2.1.length 0 k x (by omega) (by omega) (by omega),List.drop_zero]
  simp [zs]
 | m+1,i,k+1,x,h,hz,hk,hx=>by
  obtain ⟨c1,c2,c3,c4,c5,c6,c7,c8,c9⟩:=hc.nat
  have e:w64 (c.2.2.2.1 - 1)=((cFa c - 1:Nat):Int):=by rw [hc.int.f,Z1 (by omega) (by omega)]; omega
  have hp:(pvS (cK c) []).length=1+cK c:=Zbu (Nat.zero_le _)
  rw [Q46.l1,e,if_pos (decide_eq_true (by omega)),if_neg (by simp only [decide_eq_true_eq]; omega),show IntKind.u64.wrap ((([]:List UInt8).length:Nat):Int)=((0:Nat):Int) from rfl,show Q40.f k x 1 ((0:Nat):Int)=_ from V1 (w:=1) (.inl rfl) (by omega) (by omega),Option.bind_some,hc.int.k,Zdt (by rw [List.length_append,Ye,Xc]; omega) (Nat.zero_le _) (by omega),Option.bind_some,Yp (by omega)]
  have e2:(x ++ toB (be 1 0)) ++ toB (slt [] (cK c))=x ++ toB (zs (1+cK c)):=by
   rw [List.append_assoc,← Xm,← Zks]; rfl
  rw [e2,Za8 hc hr hl m (i+1) k _ (by omega) (by omega) (by omega) (by rw [List.length_append,Ye,Uy]; omega),List.append_assoc,← Xm,← List.append_assoc (zs (1+cK c)),Zbf,show 1+cK c+(1+cK c)*m=(1+cK c)*(m+1) by rw [Nat.mul_add]; omega]
theorem Zc0 {c:Cfg} {n:Nd} (hc:OkC c) (hp:∀ p∈n.2.2.1,p.length≤cK c) (hpl:n.2.2.1.length≤cFa c - 1) (hr:∀ m∈n.2.2.2.1,m.1.length≤cK c∧m.2.2.length≤cV c) (hl:n.2.2.2.1.length≤2000):∀(m i k:Nat) (x:List Int),n.2.2.1.length=i+m→m+2300<k→x.length+m*400≤6000000→Q46.l1 k c n x (i:Int)=some (x ++ toB (cat (pvS (cK c)) (n.2.2.1.drop i) ++ (zs ((1+cK c)*(cFa c - 1 - n.2.2.1.length)) ++ cat (msS (cK c) (cV c)) n.2.2.2.1)))
 | 0,i,k,x,h,hk,hx=>by
  replace hx:x.length≤6000000:=by simpa using hx
  obtain ⟨c1,c2,c3,c4,c5,c6,c7,c8,c9⟩:=hc.nat
  rw [Za8 hc hr hl (cFa c - 1 - n.2.2.1.length) i k x (by omega) (by omega) (by omega) (by omega),List.drop_eq_nil_of_le (by omega)]
  simp [cat]
 | m+1,i,k+1,x,h,hk,hx=>by
  obtain ⟨c1,c2,c3,c4,c5,c6,c7,c8,c9⟩:=hc.nat
  have hi:i<n.2.2.1.length:=by omega
  have hpi:=hp _ (Vb (d:=default) hi)
  have e:w64 (c.2.2.2.1 - 1)=((cFa c - 1:Nat):Int):=by rw [hc.int.f,Z1 (by omega) (by omega)]; omega
  rw [Q46.l1,e,if_pos (decide_eq_true (by omega)),if_pos (decide_eq_true (by omega)),if_pos (by omega),Yf,W9 (by omega),show Q40.f k x 1 (((n.2.2.1.getD i default).length:Nat):Int)=_ from V1 (w:=1) (.inl rfl) (by omega) (by omega),Option.bind_some,hc.int.k,Zdt (by rw [List.length_append,Ye,Xc]; omega) hpi (by omega),Option.bind_some,Yp (by omega)]
  have e2:(x ++ toB (be 1 (n.2.2.1.getD i default).length)) ++ toB (slt (n.2.2.1.getD i default) (cK c))=x ++ toB (pvS (cK c) (n.2.2.1.getD i default)):=by
   rw [List.append_assoc,← Xm]; rfl
  rw [e2,Zc0 hc hp hpl hr hl m (i+1) k _ (by omega) (by omega) (by rw [List.length_append,Ye,Zbu hpi]; omega),List.append_assoc,← Xm,Y4 hi,Gh,List.append_assoc]
def Zgi (c:Cfg) (n:Nd):List UInt8:=cat (pvS (cK c)) n.2.2.1 ++ (zs ((1+cK c)*(cFa c - 1 - n.2.2.1.length)) ++ cat (msS (cK c) (cV c)) n.2.2.2.1)
theorem Za5 {c:Cfg} {n:Nd} (hc:OkC c) (hp:∀ p∈n.2.2.1,p.length≤cK c) (hpl:n.2.2.1.length≤cFa c - 1) (hr:∀ m∈n.2.2.2.1,m.1.length≤cK c∧m.2.2.length≤cV c) (hl:n.2.2.2.1.length≤2000):∀(m i k:Nat) (x:List Int),cFa c=i+m→n.2.1.length≤i→m+2500<k→x.length+m*400≤5000000→Q46.l0 k c n x (i:Int)=some (x ++ toB (zs (4*m) ++ Zgi c n))
 | 0,i,k+1,x,h,hz,hk,hx=>by
  replace hx:x.length≤5000000:=by simpa using hx
  obtain ⟨c1,c2,c3,c4,c5,c6,c7,c8,c9⟩:=hc.nat
  rw [Q46.l0,hc.int.f,if_neg (by simp only [decide_eq_true_eq]; omega),show Q46.l1 k c n x 0=_ from Zc0 hc hp hpl hr hl n.2.2.1.length 0 k x (by omega) (by omega) (by omega),List.drop_zero]
  simp [zs,Zgi]
 | m+1,i,k+1,x,h,hz,hk,hx=>by
  obtain ⟨c1,c2,c3,c4,c5,c6,c7,c8,c9⟩:=hc.nat
  rw [Q46.l0,hc.int.f,if_pos (decide_eq_true (by omega)),if_neg (by simp only [decide_eq_true_eq]; omega),show Q40.f k x 4 0=_ from V1 (w:=4) (v:=0) (.inr (.inr rfl)) (by omega) (by omega),Option.bind_some,Yp (by omega),show be 4 0=zs 4 by decide,
   Za5 hc hp hpl hr hl m (i+1) k _ (by omega) (by omega) (by omega) (by rw [List.length_append,Ye,Uy]; omega),List.append_assoc,← Xm,← List.append_assoc (zs 4),Zbf,show 4+4*m=4*(m+1) by omega]
theorem Zc6 {c:Cfg} {n:Nd} (hc:OkC c) (hkd:∀ x∈n.2.1,0≤x∧x<4294967296) (hkl:n.2.1.length≤cFa c) (hp:∀ p∈n.2.2.1,p.length≤cK c) (hpl:n.2.2.1.length≤cFa c - 1) (hr:∀ m∈n.2.2.2.1,m.1.length≤cK c∧m.2.2.length≤cV c) (hl:n.2.2.2.1.length≤2000):∀(m i k:Nat) (x:List Int),n.2.1.length=i+m→m+2700<k→x.length+m*400≤4000000→Q46.l0 k c n x (i:Int)=some (x ++ toB (cat kdS (n.2.1.drop i) ++ (zs (4*(cFa c - n.2.1.length)) ++ Zgi c n)))
 | 0,i,k,x,h,hk,hx=>by
  replace hx:x.length≤4000000:=by simpa using hx
  obtain ⟨c1,c2,c3,c4,c5,c6,c7,c8,c9⟩:=hc.nat
  rw [Za5 hc hp hpl hr hl (cFa c - n.2.1.length) i k x (by omega) (by omega) (by omega) (by omega),List.drop_eq_nil_of_le (by omega)]
  simp [cat]
 | m+1,i,k+1,x,h,hk,hx=>by
  obtain ⟨c1,c2,c3,c4,c5,c6,c7,c8,c9⟩:=hc.nat
  have hi:i<n.2.1.length:=by omega
  have hki:=hkd _ (Vb (d:=default) hi)
  obtain ⟨q,hq⟩:=Int.eq_ofNat_of_zero_le hki.1
  rw [Q46.l0,hc.int.f,if_pos (decide_eq_true (by omega)),if_pos (decide_eq_true (by omega)),if_pos (by omega),Yf,hq,W9 (by omega),show Q40.f k x 4 (q:Int)=_ from V1 (w:=4) (.inr (.inr rfl)) (by omega) (by omega),Option.bind_some,Yp (by omega)]
  have e2:be 4 q=kdS (n.2.1.getD i default):=by unfold kdS; rw [hq]; rfl
  rw [e2,Zc6 hc hkd hkl hp hpl hr hl m (i+1) k _ (by omega) (by omega) (by rw [List.length_append,Ye,show (kdS (n.2.1.getD i default)).length=4 from Xc _ _]; omega),List.append_assoc,← Xm,Y4 hi,Gh,List.append_assoc]
theorem Zkp {c:Cfg} {n:Nd} (hc:OkC c) (hn:FitN c n) (h0:n.1≠0) {k:Nat} (hk:3000<k):Q46.f k c n=some (toB (hdI n ++ bdI c n)):=by
 obtain ⟨c1,c2,c3,c4,c5,c6,c7,c8,c9⟩:=hc.nat
 obtain ⟨a1,a2,a3,a4,a5⟩:=hn.i h0
 have hlv:=hn.lv
 obtain ⟨lv,hl⟩:=Int.eq_ofNat_of_zero_le hlv.1
 have e:be 1 2 ++ (be 1 lv ++ (be 2 n.2.1.length ++ (be 2 n.2.2.2.1.length ++ zs 2)))=hdI n:=by
  unfold hdI
  rw [hl,Int.toNat_natCast]; rfl
 unfold Q46.f
 rw [hl,show Q39.f k 2 (lv:Int) (n.2.1.length:Int) (n.2.2.2.1.length:Int)=_ from Zil (a:=2) (by omega) (by omega) (by omega) (by omega) (by omega),Option.bind_some,e,show Q46.l0 k c n (toB (hdI n)) 0=_ from Zc6 hc hn.kd (by omega) hn.pk (by omega) hn.ms (by omega) n.2.1.length 0 k _ (by omega) (by omega) (by rw [Ye,Zfr]; omega),List.drop_zero,← Xm]
 rfl
theorem Zcc {c:Cfg} {n:Nd} (hok:okB c=true) (hn:FitN c n):(Zaz c n).length≤cBy c∧cBy c≤65536∧c.2.1=(cBy c:Int):=by
 simp only [okB,Bool.and_eq_true,decide_eq_true_eq] at hok
 obtain ⟨h1,h2,h3,h4,h5,h6⟩:=hok
 have hc:=Jr h1
 obtain ⟨c1,c2,c3,c4,c5,c6,c7,c8,c9⟩:=hc.nat
 have hi:=hc.int
 have hB:c.2.1=(cBy c:Int):=by unfold cBy; omega
 refine ⟨?_,by omega,hB⟩
 unfold Zaz
 by_cases h0:n.1=0
 ·rw [if_pos h0,List.length_append,Zf0,Zk7 hn]
  have hl:=(hn.o h0).2.2.2
  have hm:n.2.2.2.2.length*(3+cK c+cV c)≤cLe c*(3+cK c+cV c):=Nat.mul_le_mul_right _ hl
  have:Ur c=((8+cLe c*(3+cK c+cV c):Nat):Int):=by
   unfold Ur
   rw [hi.l,hi.k,hi.v]
   push_cast
   rfl
  omega
 ·rw [if_neg h0,List.length_append,Zfr,Zkl hn h0]
  have hl:=(hn.i h0).2.2.2.2
  have hm:n.2.2.2.1.length*(4+cK c+cV c)≤cBu c*(4+cK c+cV c):=Nat.mul_le_mul_right _ hl
  have:Uf c=((8+(4+(cFa c - 1)*(5+cK c)+cBu c*(4+cK c+cV c)):Nat):Int):=by
   unfold Uf
   rw [hi.f,hi.b,hi.k,hi.v]
   have:((cFa c:Int) - 1)=((cFa c - 1:Nat):Int):=by omega
   rw [this]
   push_cast
   rfl
  have e2:(cFa c - 1)*(5+cK c)=4*(cFa c - 1)+(1+cK c)*(cFa c - 1):=by
   rw [show 5+cK c=4+(1+cK c) by omega,Nat.mul_add,Nat.mul_comm _ 4,Nat.mul_comm (cFa c - 1) (1+cK c)]
  omega
theorem Zc7 {c:Cfg} {n:Nd} (hc:OkC c) (hkd:∀ x∈n.2.1,0≤x∧x<4294967296) (h:V7 c Zb5 n=true):FitN c n:=by
 have hi:=hc.int
 unfold V7 at h
 by_cases h0:n.1=0
 ·rw [if_pos h0] at h
  simp only [Zee,prB,Vt,Bool.and_eq_true,decide_eq_true_eq,List.all_eq_true] at h
  obtain ⟨a1,a2,a3,a4,a5,a6⟩:=h
  refine ⟨by omega,hkd,fun _=>⟨a2,a3,a4,by have:=hi.l; omega⟩,fun z=>absurd h0 z,fun p hp=>by rw [a3] at hp; simp at hp,fun p hp=>by rw [a4] at hp; simp at hp,fun p hp=>?_⟩
  have:=a1 p hp
  have hk:=hi.k
  have hv:=hi.v
  exact ⟨by omega,by omega⟩
 ·rw [if_neg h0] at h
  simp only [Zea,Zg8,Zgv,Zau,Vt,Bool.and_eq_true,decide_eq_true_eq,List.all_eq_true] at h
  obtain ⟨b0,b1,b2,b3,b4,b5,b6,b7,b8,b9,b10,b11⟩:=h
  have hk:=hi.k
  have hv:=hi.v
  have hf:=hi.f
  have hb:=hi.b
  exact ⟨by omega,hkd,fun z=>absurd z h0,fun _=>⟨b5,b6,by omega,by omega,by omega⟩,fun p hp=>by have:=b2 p hp; omega,fun p hp=>by have:=b3 p hp; omega,fun p hp=>by rw [b5] at hp; simp at hp⟩
def V2 (c:Cfg) (n:Nd):List Int×Int:=if okB c=true then (if V7 c Zb5 n=true then (toB (Zb8 c n),0) else ([],3)) else ([],2)
theorem Zg5 {c:Cfg} (h:okB c=true):OkC c:=by
 simp only [okB,Bool.and_eq_true] at h
 exact Jr h.1
theorem Zlc {c:Cfg} {n:Nd} (h1:n.2.1.length≤80) (h2:n.2.2.1.length≤80) (h3:n.2.2.2.1.length≤2000) (h4:n.2.2.2.2.length≤2000) (hl:∀ x∈n.2.1,0≤x∧x<4294967296):Ev (fun k=>Q38.f k c n) (V2 c n):=by
 have hbig:Ev (fun k=>if 10000<k then some () else none) ():=⟨10001,fun k hk=>if_pos (by omega)⟩
 refine (Zgf (c:=c) (s:=Zb5) h1 h2 (by omega) (by omega) hl).next2 hbig fun k k1 k2=>?_
 have k2:10000<k:=by
  by_cases z:10000<k
  ·exact z
  ·rw [if_neg z] at k2; cases k2
 unfold Q38.f V2
 (try rw [U4]); (try rw [Znf]); rw [Zba,Option.bind_some]
 cases hok:okB c with
 | false=>rfl
 | true=>
  have hc:=Zg5 hok
  rw [if_pos rfl,if_neg (by simp),if_pos rfl,Q62.f,Option.bind_some,show Q66.f k c (([]:List UInt8),([]:List UInt8),true) n=_ from k1,Option.bind_some]
  cases hr:V7 c Zb5 n with
  | false=>rfl
  | true=>
   have hn:=Zc7 hc hl hr
   obtain ⟨r1,r2,r3⟩:=Zcc hok hn
   rw [if_neg (by simp),if_pos rfl]
   by_cases h0:n.1=0
   ·have er:Zaz c n=hdO n ++ bdO c n:=if_pos h0
    have e:w64 ((cBy c:Int) - ((hdO n ++ bdO c n).length:Int))=((cBy c - (Zaz c n).length:Nat):Int):=by rw [← er,Z1 (by omega) (by omega)]; omega
    rw [if_neg (by simp only [decide_eq_true_eq]; omega),Zk1 hc hn.rk h4 (by omega),Option.bind_some,Ye,r3,e,if_pos (by rw [← er]; omega),Int.toNat_natCast,← Zen,← Xm]
    unfold Zb8 slt
    rw [er]
   ·have hlv:=hn.lv
    have er:Zaz c n=hdI n ++ bdI c n:=if_neg h0
    have e:w64 ((cBy c:Int) - ((hdI n ++ bdI c n).length:Int))=((cBy c - (Zaz c n).length:Nat):Int):=by rw [← er,Z1 (by omega) (by omega)]; omega
    rw [if_pos (decide_eq_true (by omega)),Zkp hc hn h0 (by omega),Option.bind_some,Ye,r3,e,if_pos (by rw [← er]; omega),Int.toNat_natCast,← Zen,← Xm]
    unfold Zb8 slt
    rw [er]
def rbS (s:List UInt8×Int) (n:Nat):List UInt8×(List UInt8×Int):=if s.2=0 then (if s.1.length<n then ([],([],5)) else (s.1.take n,(s.1.drop n,0))) else ([],s)
def iS (s:List UInt8×Int):List Int×Int:=(toB s.1,s.2)
def spS (s:List UInt8×Int) (x:Int):List UInt8×Int:=([],if s.2=0 then x else s.2)
theorem Zej (a:List UInt8) (n:Nat):(toB a).take n=toB (a.take n):=by simp [toB,List.map_take]
theorem Zdv (a:List UInt8) (n:Nat):(toB a).drop n=toB (a.drop n):=by simp [toB,List.map_drop]
theorem Bx (s:List UInt8×Int) (x:Int):Q146.f ((iS s).1,(iS s).2) x=some (iS (spS s x)):=by
 unfold Q146.f iS spS
 by_cases h:s.2=0 <;> simp [h,toB]
theorem Zjl (s:List UInt8×Int) {n:Nat} (hn:n≤100000):Q141.f (iS s) (n:Int)=some (toB (rbS s n).1,iS (rbS s n).2):=by
 unfold Q141.f
 rw [Bx,Bx,Option.bind_some,Option.bind_some]
 unfold rbS iS spS
 by_cases h:s.2=0
 ·rw [if_neg (by simp [h]),if_neg (by simp),if_pos h]
  by_cases h2:s.1.length<n
  ·rw [if_pos (decide_eq_true (by rw [Ye]; omega)),if_pos h2]
   simp [h,toB]
  ·rw [if_neg (by simp only [Ye,decide_eq_true_eq]; omega),if_neg h2,if_pos (by omega),if_pos (by rw [Ye]; omega),Int.toNat_natCast]
   have:patch (List.replicate n (0:Int)) 0 (List.replicate n (0:Int)).length (toB s.1)=toB (s.1.take n):=by
    unfold patch
    rw [List.length_replicate,Ye,show 0+min n s.1.length=n by omega,List.drop_eq_nil_of_le (by simp),List.take_zero,List.nil_append,List.append_nil,Zej]
   rw [this,Zdv,h]
   simp
 ·rw [if_pos (by simp [h]),if_neg h]
  rfl
def Z9 (s:List UInt8×Int) (w:Nat):Nat×(List UInt8×Int):=(rdv (rbS s w).1,(rbS s w).2)
theorem B4 (s:List UInt8×Int) (n:Nat):(rbS s n).1.length≤n:=by
 unfold rbS
 split
 ·split
  ·exact Nat.zero_le _
  ·rw [List.length_take]; omega
 ·exact Nat.zero_le _
theorem Vd (s:List UInt8×Int) (w:Nat):(Z9 s w).1<256 ^ w:=Nat.lt_of_lt_of_le (Zel _) (Nat.pow_le_pow_right (by omega) (B4 s w))
theorem Zir (l:List UInt8) (c:UInt8):rdv (l ++ [c])=rdv l*256+c.toNat:=by
 unfold rdv
 rw [List.foldl_append]; rfl
theorem orb {x c:Nat} (hx:x<4294967296) (hc:c<256):IntKind.u64.wrap (((BitVec.ofInt IntKind.u64.bits (IntKind.u64.wrap ((x:Int)*2 ^ 8)) ||| (BitVec.ofInt IntKind.u64.bits (IntKind.u64.wrap (c:Int)))).toNat:Int))=((x*256+c:Nat):Int):=by
 have e1:(x:Int)*2 ^ 8=((x*256:Nat):Int):=by omega
 rw [e1,W9 (n:=x*256) (by omega),W9 (n:=c) (by omega)]
 have e2:(BitVec.ofInt IntKind.u64.bits ((x*256:Nat):Int) ||| BitVec.ofInt IntKind.u64.bits (c:Int)).toNat=x*256+c:=by
  show (BitVec.ofInt 64 ((x*256:Nat):Int) ||| BitVec.ofInt 64 (c:Int)).toNat=x*256+c
  rw [BitVec.toNat_or,BitVec.ofInt_natCast,BitVec.ofInt_natCast,BitVec.toNat_ofNat,BitVec.toNat_ofNat,Nat.mod_eq_of_lt (by omega),Nat.mod_eq_of_lt (by omega)]
  have:=Nat.shiftLeft_add_eq_or_of_lt (i:=8) (b:=c) hc x
  rw [Nat.shiftLeft_eq] at this
  rw [show x*256=x*2 ^ 8 from rfl,← this]
 rw [e2,W9 (by omega)]
theorem Zia (l:List UInt8) (st:List Int×Int) (hl:l.length≤4):∀(m i k:Nat),l.length=i+m→m<k→Q140.l0 k (toB l,st) ((rdv (l.take i):Nat):Int) (i:Int)=some (((rdv l:Nat):Int),st)
 | 0,i,k+1,h,_=>by
  rw [Q140.l0,if_neg (by simp only [Ye,decide_eq_true_eq]; omega),List.take_of_length_le (by omega)]
 | m+1,i,k+1,h,hk=>by
  have hi:i<l.length:=by omega
  have hv:=Zel (l.take i)
  have hv2:256 ^ (l.take i).length≤256 ^ 3:=Nat.pow_le_pow_right (by omega) (by rw [List.length_take]; omega)
  have e:gt (toB l) (i:Int)=(((l[i]'hi).toNat:Nat):Int):=by
   rw [Yf,List.getD_eq_getElem?_getD]
   simp [toB,hi]
  have hc:=(l[i]'hi).toNat_lt
  rw [Q140.l0,if_pos (decide_eq_true (by rw [Ye]; omega)),if_pos (by rw [Ye]; omega),e,orb (by omega) (by omega),Yp (by omega),← Zir]
  have:=Zia l st hl m (i+1) k (by omega) (by omega)
  rw [List.take_add_one,List.getElem?_eq_getElem hi] at this
  exact this
theorem Un (s:List UInt8×Int) {w:Nat} (hw:w=1∨w=2∨w=4) {k:Nat} (hk:10<k):Q140.f k ((iS s).1,(iS s).2) (w:Int)=some (((Z9 s w).1:Int),((iS (Z9 s w).2).1,(iS (Z9 s w).2).2)):=by
 unfold Q140.f Q147.f
 have hr:(if (decide ((w:Int)=1))=true then (some true) else (if (decide ((w:Int)=2))=true then (some true) else (if (decide ((w:Int)=4))=true then (some true) else (some (decide ((w:Int)=8))))))=some true:=by
  rcases hw with rfl | rfl | rfl <;> rfl
 have hl:=B4 s w
 rw [hr,Option.bind_some,if_neg (by simp),show Q141.f ((iS s).1,(iS s).2) (w:Int)=_ from Zjl s (by omega),Option.bind_some]
 have:=Zia (rbS s w).1 (iS (rbS s w).2) (by omega) (rbS s w).1.length 0 k (by omega) (by omega)
 exact this
def nzS (l:List UInt8):Bool:=l.any fun x=>!decide (x=0)
theorem Zh4 (l:List UInt8):((toB l).any fun x=>!decide (x=0))=nzS l:=by
 unfold nzS toB
 rw [List.any_map]
 congr 1
 funext x
 have:((x.toNat:Int)=0)↔x=0:=by
  constructor
  ·intro h
   have h2:x.toNat=0:=by omega
   exact UInt8.toNat_inj.1 (by simpa using h2)
  ·rintro rfl; rfl
 simp only [Function.comp,this]
theorem Zlm (l:List UInt8) {k:Nat} (hl:l.length≤10000) (hk:l.length<k):Q100.f k (toB l)=some (nzS l):=by
 obtain ⟨r,h1,h2⟩:=V5 (l:=toB l) (F:=fun k i=>Q106.l0 k (toB l) i) (p:=fun x:Int=>!decide (x=0)) (by rw [Ye]; omega) (fun k i=>by
  show Q106.l0 (k+1) (toB l) i=_
  rw [Q106.l0,Q145.f,Option.bind_some]) (toB l).length 0 k (by omega) (by rw [Ye]; exact hk)
 unfold Q100.f Q106.f
 rw [show Q106.l0 k (toB l) 0=_ from h1,Option.bind_some,h2,List.drop_zero,Zh4]
theorem Zme (l:List UInt8) {k:Nat} (hl:l.length≤10000) (hk:l.length<k):Q99.f k (toB l)=some (nzS l):=by
 obtain ⟨r,h1,h2⟩:=V5 (l:=toB l) (F:=fun k i=>Q105.l0 k (toB l) i) (p:=fun x:Int=>!decide (x=0)) (by rw [Ye]; omega) (fun k i=>by
  show Q105.l0 (k+1) (toB l) i=_
  rw [Q105.l0,Q143.f,Option.bind_some]) (toB l).length 0 k (by omega) (by rw [Ye]; exact hk)
 unfold Q99.f Q105.f
 rw [show Q105.l0 k (toB l) 0=_ from h1,Option.bind_some,h2,List.drop_zero,Zh4]
def U3 (s:List UInt8×Int) (n:Nat):List UInt8×Int:=if nzS (rbS s n).1=true then spS (rbS s n).2 3 else (rbS s n).2
theorem Zkv (s:List UInt8×Int) {n:Nat} (hn:n≤100) {k:Nat} (hk:1000<k):Q144.f k ((iS s).1,(iS s).2) (n:Int)=some ((iS (U3 s n)).1,(iS (U3 s n)).2):=by
 have hl:=B4 s n
 unfold Q144.f U3
 rw [show Q141.f ((iS s).1,(iS s).2) (n:Int)=_ from Zjl s (by omega),Option.bind_some,Zlm _ (by omega) (by omega),Option.bind_some]
 cases nzS (rbS s n).1
 ·rfl
 ·rw [if_pos rfl,if_pos rfl,Bx,Option.bind_some]
def Vv (s:List UInt8×Int) (n most:Nat):List UInt8×(List UInt8×Int):=if most<n then ([],spS s 2) else if (rbS s most).1.length<most then ([],(rbS s most).2) else if nzS ((rbS s most).1.drop n)=true then ([],spS (rbS s most).2 3) else ((rbS s most).1.take n,(rbS s most).2)
theorem Zem (s:List UInt8×Int) (n:Nat) {most:Nat} (hm:most≤1000) {k:Nat} (hk:2000<k):Q142.f k ((iS s).1,(iS s).2) (n:Int) (most:Int)=some ((Vv s n most).1,((iS (Vv s n most).2).1,(iS (Vv s n most).2).2)):=by
 have hl:=B4 s most
 unfold Q142.f Vv
 rw [if_neg (by simp),show Q141.f ((iS s).1,(iS s).2) (most:Int)=_ from Zjl s (by omega),Bx,Option.bind_some,Option.bind_some]
 by_cases h1:most<n
 ·rw [if_pos (decide_eq_true (by omega)),if_pos h1]
 ·rw [if_neg (by simp only [decide_eq_true_eq]; omega),if_neg h1]
  dsimp only
  by_cases h2:(rbS s most).1.length<most
  ·rw [if_pos (decide_eq_true (by rw [Ye]; omega)),if_pos h2]
  ·rw [if_neg (by simp only [Ye,decide_eq_true_eq]; omega),if_neg h2,if_pos (by rw [Ye]; omega),Int.toNat_natCast,Zdv,Zme _ (by rw [List.length_drop]; omega) (by rw [List.length_drop]; omega),Option.bind_some]
   cases nzS ((rbS s most).1.drop n)
   ·rw [if_neg (by simp),if_pos (by rw [Ye]; omega),if_neg (by simp),Zej,Zb9]
   ·rw [if_pos rfl,if_pos rfl,Bx,Option.bind_some]
def Vq (c:Cfg) (s:List UInt8×Int):Pr×(List UInt8×Int):=
 let k:=Z9 s 1
 let v:=Z9 k.2 2
 let x:=Vv v.2 k.1 (cK c)
 let y:=Vv x.2 v.1 (cV c)
 ((x.1,y.1),y.2)
theorem Zhh {c:Cfg} (hc:OkC c) (s:List UInt8×Int) {k:Nat} (hk:2000<k):Q44.f k c ((iS s).1,(iS s).2)=some ((Vq c s).1.1,(Vq c s).1.2,((iS (Vq c s).2).1,(iS (Vq c s).2).2)):=by
 obtain ⟨c1,c2,c3,c4,c5,c6,c7,c8,c9⟩:=hc.nat
 have l1:=Vd s 1
 have l2:=Vd (Z9 s 1).2 2
 unfold Q44.f Vq
 rw [show Q140.f k ((iS s).1,(iS s).2) 1=_ from Un s (w:=1) (.inl rfl) (by omega),Option.bind_some,show Q140.f k _ 2=_ from Un (Z9 s 1).2 (w:=2) (.inr (.inl rfl)) (by omega),Option.bind_some]
 dsimp only
 rw [Z1 (x:=((Z9 s 1).1:Int)) (by omega) (by omega),Z1 (x:=((Z9 (Z9 s 1).2 2).1:Int)) (by omega) (by omega),hc.int.k,hc.int.v,Zem _ _ (by omega) (by omega),Option.bind_some]
 dsimp only
 rw [Zem _ _ (by omega) (by omega),Option.bind_some]
def J6 (c:Cfg):Nat→List UInt8×Int→List Pr→List Pr×(List UInt8×Int)
 | 0,s,acc=>(acc,s)
 | m+1,s,acc=>J6 c m (Vq c s).2 (acc ++ [(Vq c s).1])
theorem Ze2 {c:Cfg} (hc:OkC c) (cnt:Nat):∀(m i k:Nat) (s:List UInt8×Int) (acc:List Pr),min (cLe c) cnt=i+m→m+2100<k→acc.length+m≤5000→Q43.l0 k c (cnt:Int) (iS s).1 (iS s).2 acc (i:Int)=some ((0,([]:List Int),([]:List (List UInt8)),([]:List Msg),(J6 c m s acc).1),((iS (J6 c m s acc).2).1,(iS (J6 c m s acc).2).2))
 | 0,i,k+1,s,acc,h,hk,ha=>by
  have hi:=hc.int
  rw [Q43.l0,hi.l,if_neg (by simp only [decide_eq_true_eq]; split <;> omega)]
  rfl
 | m+1,i,k+1,s,acc,h,hk,ha=>by
  obtain ⟨c1,c2,c3,c4,c5,c6,c7,c8,c9⟩:=hc.nat
  have hi:=hc.int
  rw [Q43.l0]; (try rw [U4]); rw [hi.l,if_pos (decide_eq_true (by split <;> omega)),Zhh hc s (by omega),Option.bind_some,if_pos (by simp only [List.length_singleton]; omega),Yp (by omega)]
  exact Ze2 hc cnt m (i+1) k (Vq c s).2 (acc ++ [(Vq c s).1]) (by omega) (by omega) (by simp; omega)
def Vc:Nat→Nat→Nat→List UInt8×Int→List Int→List Int×(List UInt8×Int)
 | 0,_,_,s,acc=>(acc,s)
 | m+1,i,cnt,s,acc=>Vc m (i+1) cnt (Z9 s 4).2 (if i<cnt then acc ++ [((Z9 s 4).1:Int)] else acc)
def Ws (c:Cfg):Nat→Nat→Nat→List UInt8×Int→List (List UInt8)→List (List UInt8)×(List UInt8×Int)
 | 0,_,_,s,acc=>(acc,s)
 | m+1,i,cnt,s,acc=>Ws c m (i+1) cnt (Vv (Z9 s 1).2 (Z9 s 1).1 (cK c)).2 (if i+1<cnt then acc ++ [(Vv (Z9 s 1).2 (Z9 s 1).1 (cK c)).1] else acc)
def W4 (c:Cfg):Nat→List UInt8×Int→List Msg→List Msg×(List UInt8×Int)
 | 0,s,acc=>(acc,s)
 | m+1,s,acc=>W4 c m (Vq c (Z9 s 1).2).2 (acc ++ [((Vq c (Z9 s 1).2).1.1,decide (((Z9 s 1).1:Int)=2),(Vq c (Z9 s 1).2).1.2)])
theorem Zfi {c:Cfg} (hc:OkC c) (lv:Int) (bf:Nat) (ks:List Int) (ps:List (List UInt8)):∀(m i k:Nat) (s:List UInt8×Int) (acc:List Msg),min (cBu c) bf=i+m→m+2100<k→acc.length+m≤5000→Q42.l2 k c lv (bf:Int) ks ps (iS s).1 (iS s).2 acc (i:Int)=some ((lv,ks,ps,(W4 c m s acc).1,([]:List Pr)),((iS (W4 c m s acc).2).1,(iS (W4 c m s acc).2).2))
 | 0,i,k+1,s,acc,h,hk,ha=>by
  have hi:=hc.int
  rw [Q42.l2,hi.b,if_neg (by simp only [decide_eq_true_eq]; split <;> omega)]
  rfl
 | m+1,i,k+1,s,acc,h,hk,ha=>by
  obtain ⟨c1,c2,c3,c4,c5,c6,c7,c8,c9⟩:=hc.nat
  have hi:=hc.int
  rw [Q42.l2]; (try rw [U4]); rw [hi.b,if_pos (decide_eq_true (by split <;> omega)),show Q140.f k ((iS s).1,(iS s).2) 1=_ from Un s (w:=1) (.inl rfl) (by omega),Option.bind_some]
  dsimp only
  rw [Zhh hc _ (by omega),Option.bind_some,if_pos (by simp only [List.length_singleton]; omega),Yp (by omega)]
  exact Zfi hc lv bf ks ps m (i+1) k _ _ (by omega) (by omega) (by simp; omega)
theorem Zcb {c:Cfg} (hc:OkC c) (lv:Int) (cnt bf:Nat) (hcnt:cnt≤100000) (ks:List Int):∀(m i k:Nat) (s:List UInt8×Int) (acc:List (List UInt8)),cFa c - 1=i+m→m+3200<k→acc.length+m≤5000→
  Q42.l1 k c lv (cnt:Int) (bf:Int) ks (iS s).1 (iS s).2 acc (i:Int)=some ((lv,ks,(Ws c m i cnt s acc).1,(W4 c (min (cBu c) bf) (Ws c m i cnt s acc).2 []).1,([]:List Pr)),((iS (W4 c (min (cBu c) bf) (Ws c m i cnt s acc).2 []).2).1,(iS (W4 c (min (cBu c) bf) (Ws c m i cnt s acc).2 []).2).2))
 | 0,i,k+1,s,acc,h,hk,ha=>by
  obtain ⟨c1,c2,c3,c4,c5,c6,c7,c8,c9⟩:=hc.nat
  have hi:=hc.int
  rw [Q42.l1,hi.f,Z1 (x:=(cFa c:Int) - 1) (by omega) (by omega),if_neg (by simp only [decide_eq_true_eq]; omega)]
  exact Zfi hc lv bf ks acc (min (cBu c) bf) 0 k s [] (by omega) (by omega) (by simp; omega)
 | m+1,i,k+1,s,acc,h,hk,ha=>by
  obtain ⟨c1,c2,c3,c4,c5,c6,c7,c8,c9⟩:=hc.nat
  have hi:=hc.int
  have l1:=Vd s 1
  rw [Q42.l1,hi.f,Z1 (x:=(cFa c:Int) - 1) (by omega) (by omega),if_pos (decide_eq_true (by omega)),show Q140.f k ((iS s).1,(iS s).2) 1=_ from Un s (w:=1) (.inl rfl) (by omega),Option.bind_some]
  dsimp only
  rw [Z1 (x:=((Z9 s 1).1:Int)) (by omega) (by omega),hi.k,Zem _ _ (by omega) (by omega),Option.bind_some,Yp (by omega)]
  dsimp only
  by_cases q:i+1<cnt
  ·rw [if_pos (decide_eq_true (by omega)),if_pos (by simp only [List.length_singleton]; omega)]
   have:=Zcb hc lv cnt bf hcnt ks m (i+1) k (Vv (Z9 s 1).2 (Z9 s 1).1 (cK c)).2 (acc ++ [(Vv (Z9 s 1).2 (Z9 s 1).1 (cK c)).1]) (by omega) (by omega) (by simp; omega)
   rw [this,Ws,if_pos q]
  ·rw [if_neg (by simp only [decide_eq_true_eq]; omega)]
   have:=Zcb hc lv cnt bf hcnt ks m (i+1) k (Vv (Z9 s 1).2 (Z9 s 1).1 (cK c)).2 acc (by omega) (by omega) (by omega)
   rw [this,Ws,if_neg q]
def Zlw (c:Cfg) (lv:Int) (cnt bf:Nat) (s:List UInt8×Int):Nd×(List UInt8×Int):=
 let a:=Vc (cFa c) 0 cnt s []
 let b:=Ws c (cFa c - 1) 0 cnt a.2 []
 let d:=W4 c (min (cBu c) bf) b.2 []
 ((lv,a.1,b.1,d.1,[]),d.2)
theorem Zma {n:Nat} (h:n<4294967296):IntKind.u32.wrap (n:Int)=(n:Int):=by
 have:IntKind.u32.wrap (n:Int)=((n % 4294967296:Nat):Int):=by simp [IntKind.wrap,IntKind.bits,IntKind.signed]
 rw [this,Nat.mod_eq_of_lt h]
theorem Zb7 {c:Cfg} (hc:OkC c) (lv:Int) (cnt bf:Nat) (hcnt:cnt≤100000):∀(m i k:Nat) (s:List UInt8×Int) (acc:List Int),cFa c=i+m→m+4000<k→acc.length+m≤5000→
  Q42.l0 k c lv (cnt:Int) (bf:Int) (iS s).1 (iS s).2 acc (i:Int)=some ((lv,(Vc m i cnt s acc).1,(Ws c (cFa c - 1) 0 cnt (Vc m i cnt s acc).2 []).1,(W4 c (min (cBu c) bf) (Ws c (cFa c - 1) 0 cnt (Vc m i cnt s acc).2 []).2 []).1,([]:List Pr)),((iS (W4 c (min (cBu c) bf) (Ws c (cFa c - 1) 0 cnt (Vc m i cnt s acc).2 []).2 []).2).1,(iS (W4 c (min (cBu c) bf) (Ws c (cFa c - 1) 0 cnt (Vc m i cnt s acc).2 []).2 []).2).2))
 | 0,i,k+1,s,acc,h,hk,ha=>by
  obtain ⟨c1,c2,c3,c4,c5,c6,c7,c8,c9⟩:=hc.nat
  have hi:=hc.int
  rw [Q42.l0,hi.f,if_neg (by simp only [decide_eq_true_eq]; omega)]
  exact Zcb hc lv cnt bf hcnt acc (cFa c - 1) 0 k s [] (by omega) (by omega) (by simp; omega)
 | m+1,i,k+1,s,acc,h,hk,ha=>by
  obtain ⟨c1,c2,c3,c4,c5,c6,c7,c8,c9⟩:=hc.nat
  have hi:=hc.int
  have l1:=Vd s 4
  rw [Q42.l0,hi.f,if_pos (decide_eq_true (by omega)),show Q140.f k ((iS s).1,(iS s).2) 4=_ from Un s (w:=4) (.inr (.inr rfl)) (by omega),Option.bind_some,Yp (by omega)]
  dsimp only
  rw [Zma (by omega)]
  by_cases q:i<cnt
  ·rw [if_pos (decide_eq_true (by omega)),if_pos (by simp only [List.length_singleton]; omega)]
   have:=Zb7 hc lv cnt bf hcnt m (i+1) k (Z9 s 4).2 (acc ++ [((Z9 s 4).1:Int)]) (by omega) (by omega) (by simp; omega)
   rw [this,Vc,if_pos q]
  ·rw [if_neg (by simp only [decide_eq_true_eq]; omega)]
   have:=Zb7 hc lv cnt bf hcnt m (i+1) k (Z9 s 4).2 acc (by omega) (by omega) (by omega)
   rw [this,Vc,if_neg q]
def Ui (c:Cfg) (b:List UInt8):Nd×(List UInt8×Int):=
 let a1:=Z9 (b,0) 1
 let a2:=Z9 a1.2 1
 let a3:=Z9 a2.2 2
 let a4:=Z9 a3.2 2
 let z:=U3 a4.2 2
 if a1.1=1 then ((0,[],[],[],(J6 c (min (cLe c) a3.1) z []).1),(J6 c (min (cLe c) a3.1) z []).2)
 else if a1.1=2 then Zlw c (if a2.1>1 then (a2.1:Int) else 1) a3.1 a4.1 z
 else ((-1,[],[],[],[]),z)
theorem Ze5 (c:Cfg):∀(m:Nat) (s:List UInt8×Int) (acc:List Pr),(J6 c m s acc).1.length=acc.length+m
 | 0,_,_=>rfl
 | m+1,s,acc=>by rw [J6,Ze5 c m,List.length_append,List.length_singleton]; omega
theorem Zcm (c:Cfg):∀(m:Nat) (s:List UInt8×Int) (acc:List Msg),(W4 c m s acc).1.length=acc.length+m
 | 0,_,_=>rfl
 | m+1,s,acc=>by rw [W4,Zcm c m,List.length_append,List.length_singleton]; omega
theorem Zcp (c:Cfg):∀(m i cnt:Nat) (s:List UInt8×Int) (acc:List (List UInt8)),(Ws c m i cnt s acc).1.length≤acc.length+m
 | 0,_,_,_,_=>Nat.le_refl _
 | m+1,i,cnt,s,acc=>by
  rw [Ws]
  refine Nat.le_trans (Zcp c m _ _ _ _) ?_
  split
  ·rw [List.length_append,List.length_singleton]; omega
  ·omega
theorem Bv:∀(m i cnt:Nat) (s:List UInt8×Int) (acc:List Int),(∀ x∈acc,0≤x∧x<4294967296)→(Vc m i cnt s acc).1.length≤acc.length+m∧∀ x∈(Vc m i cnt s acc).1,0≤x∧x<4294967296
 | 0,_,_,_,_,h=>⟨Nat.le_refl _,h⟩
 | m+1,i,cnt,s,acc,h=>by
  rw [Vc]
  have hv:=Vd s 4
  by_cases q:i<cnt
  ·rw [if_pos q]
   obtain ⟨g1,g2⟩:=Bv m (i+1) cnt (Z9 s 4).2 (acc ++ [((Z9 s 4).1:Int)]) (by
    intro x hx
    rcases List.mem_append.1 hx with hx | hx
    ·exact h x hx
    ·rw [List.mem_singleton] at hx; omega)
   rw [List.length_append,List.length_singleton] at g1
   exact ⟨by omega,g2⟩
  ·rw [if_neg q]
   obtain ⟨g1,g2⟩:=Bv m (i+1) cnt (Z9 s 4).2 acc h
   exact ⟨by omega,g2⟩
structure Rd (n:Nd):Prop where
 kids:n.2.1.length≤64
 pivs:n.2.2.1.length≤64
 buf:n.2.2.2.1.length≤512
 prs:n.2.2.2.2.length≤1024
 kd:∀ x∈n.2.1,0≤x∧x<4294967296
theorem Ziy {c:Cfg} (hc:OkC c) (b:List UInt8):Rd (Ui c b).1:=by
 obtain ⟨c1,c2,c3,c4,c5,c6,c7,c8,c9⟩:=hc.nat
 unfold Ui
 dsimp only
 split
 ·refine ⟨by simp,by simp,by simp,?_,by simp⟩
  show (J6 c _ _ []).1.length≤1024
  rw [Ze5,List.length_nil]; omega
 ·split
  ·unfold Zlw
   dsimp only
   obtain ⟨g1,g2⟩:=Bv (cFa c) 0 (Z9 (Z9 (Z9 (b,0) 1).2 1).2 2).1 (U3 (Z9 (Z9 (Z9 (Z9 (b,0) 1).2 1).2 2).2 2).2 2) [] (by simp)
   rw [List.length_nil] at g1
   refine ⟨by show (Vc _ _ _ _ _).1.length≤64; omega,?_,?_,by simp,g2⟩
   ·show (Ws c _ _ _ _ []).1.length≤64
    refine Nat.le_trans (Zcp c _ _ _ _ _) ?_
    rw [List.length_nil]; omega
   ·show (W4 c _ _ []).1.length≤512
    rw [Zcm,List.length_nil]; omega
  ·exact ⟨by simp,by simp,by simp,by simp,by simp⟩
theorem Zm1 {k:Nat} {a b:List Int} (ha:a.length≤1000000) (hk:a.length<k):Q102.f k a b=some (decide (a=b)):=by
 unfold Q102.f
 by_cases h:a.length=b.length
 ·rw [if_neg (by simp [h])]
  have:=Jh (F:=fun k i=>Q102.l0 k a b i) (eqb:=fun x y=>decide (x=y)) (fun x y=>rfl) h ha (fun k i=>rfl) k 0 (by omega) (by omega)
  simpa using this
 ·rw [if_pos (by simp; omega)]
  have:a≠b:=fun e=>h (by rw [e])
  simp [this]
def J4:Nd:=(0,[],[],[],[])
def Zjj (c:Cfg) (b:List UInt8) (n:Nd) (e:Int):Nd×Int:=if e=0 then (if V7 c Zb5 n=true then (if Zb8 c n=b then (n,0) else (J4,12)) else (J4,12)) else (J4,12)
def Zgg (c:Cfg) (b:List UInt8):Nd×Int:=if okB c=true then Zjj c b (Ui c b).1 (Ui c b).2.2 else (J4,2)
theorem Zkc {a b:List UInt8}:toB a=toB b↔a=b:=⟨fun e=>by rw [← Zb9 a,e,Zb9],fun e=>by rw [e]⟩
theorem Zf9 {c:Cfg} {n:Nd} (hok:okB c=true) (hn:FitN c n):(Zb8 c n).length=cBy c:=Jv (Zcc hok hn).1
theorem Zmi {c:Cfg} {b:List UInt8} (hok:okB c=true) {n:Nd} {s:List UInt8×Int} {k:Nat} (hk:70000<k) (hl:∀ x∈n.2.1,0≤x∧x<4294967296) (he:Q38.f k c n=some (V2 c n)):((Q139.f ((iS s).1,(iS s).2)).bind fun r9=>(if (!decide (r9=0))=true then (some (J4,(12:Int))) else ((Q38.f k c n).bind fun r10=>(if (!decide (r10.2=0))=true then some (J4,(12:Int)) else ((Q102.f k r10.1 (toB b)).bind fun r11=>(if (!r11)=true then some (J4,(12:Int)) else some (n,(0:Int))))))))=some (Zjj c b n s.2):=by
 unfold Q139.f Zjj iS
 rw [Option.bind_some,he]
 try dsimp only
 by_cases h0:s.2=0
 ·rw [if_neg (by simp [h0]),if_pos h0,Option.bind_some]
  unfold V2
  rw [if_pos hok]
  cases hr:V7 c Zb5 n with
  | false=>rfl
  | true=>
   have hn:=Zc7 (Zg5 hok) hl hr
   have r2:=(Zcc hok hn).2.1
   rw [if_pos rfl,if_pos rfl]
   try dsimp only
   rw [if_neg (by simp),Zm1 (by rw [Ye,Zf9 hok hn]; omega) (by rw [Ye,Zf9 hok hn]; omega),Option.bind_some]
   by_cases e:Zb8 c n=b
   ·rw [if_neg (by simp [e]),if_pos e]
   ·rw [if_pos (by simp [Zkc,e]),if_neg e]
 ·rw [if_pos (by simp [h0]),if_neg h0]
theorem Zl2 {l:List Int} (hl:l.length≤1000000):Q94.f l=some l:=by
 unfold Q94.f
 rw [if_pos (by simp; omega)]
 simp
theorem Znd {c:Cfg} {b:List UInt8} (hb:b.length≤100000):Ev (fun k=>Q37.f k c (toB b)) (Zgg c b):=by
 by_cases hok:okB c=true
 ·have hc:=Zg5 hok
  have hr:=Ziy hc b
  obtain ⟨k1,h1⟩:=Zlc (c:=c) (n:=(Ui c b).1) (by have:=hr.kids; omega) (by have:=hr.pivs; omega) (by have:=hr.buf; omega) (by have:=hr.prs; omega) hr.kd
  refine ⟨k1+80000,fun k hk=>?_⟩
  have he:=h1 k (by omega)
  have tl:=Zmi (b:=b) (s:=(Ui c b).2) hok (show 70000<k by omega) hr.kd he
  have hi:=hc.int
  unfold Zgg
  rw [if_pos hok,← tl]
  show Q37.f k c (toB b)=_
  unfold Q37.f Q137.f
  (try rw [U4]); rw [Zba,Option.bind_some,if_pos hok,if_neg (by simp),Zl2 (by rw [Ye]; omega),Option.bind_some,Option.bind_some]
  try dsimp only
  have l1:=Vd (b,0) 1
  have l2:=Vd (Z9 (b,0) 1).2 1
  have l3:=Vd (Z9 (Z9 (b,0) 1).2 1).2 2
  have l4:=Vd (Z9 (Z9 (Z9 (b,0) 1).2 1).2 2).2 2
  rw [show Q140.f k (toB b,(0:Int)) 1=_ from Un (b,0) (w:=1) (.inl rfl) (by omega),Option.bind_some]
  try dsimp only
  rw [show Q140.f k _ 1=_ from Un (Z9 (b,0) 1).2 (w:=1) (.inl rfl) (by omega),Option.bind_some]
  try dsimp only
  rw [show Q140.f k _ 2=_ from Un (Z9 (Z9 (b,0) 1).2 1).2 (w:=2) (.inr (.inl rfl)) (by omega),Option.bind_some]
  try dsimp only
  rw [show Q140.f k _ 2=_ from Un (Z9 (Z9 (Z9 (b,0) 1).2 1).2 2).2 (w:=2) (.inr (.inl rfl)) (by omega),Option.bind_some]
  try dsimp only
  rw [show Q144.f k _ 2=_ from Zkv (Z9 (Z9 (Z9 (Z9 (b,0) 1).2 1).2 2).2 2).2 (n:=2) (by omega) (by omega),Option.bind_some]
  try dsimp only
  by_cases q1:(Z9 (b,0) 1).1=1
  ·have er:Ui c b=_:=if_pos q1
   rw [er,if_pos (decide_eq_true (by omega)),Z1 (x:=((Z9 (Z9 (Z9 (b,0) 1).2 1).2 2).1:Int)) (by omega) (by omega)]
   rw [show Q43.f k c _ (((Z9 (Z9 (Z9 (b,0) 1).2 1).2 2).1:Nat):Int)=_ from Ze2 hc (Z9 (Z9 (Z9 (b,0) 1).2 1).2 2).1 (min (cLe c) (Z9 (Z9 (Z9 (b,0) 1).2 1).2 2).1) 0 k (U3 (Z9 (Z9 (Z9 (Z9 (b,0) 1).2 1).2 2).2 2).2 2) [] (by omega) (by have:=hc.nat; omega) (by have:=hc.nat; simp; omega),Option.bind_some]
   rfl
  ·rw [if_neg (by simp only [decide_eq_true_eq]; omega)]
   by_cases q2:(Z9 (b,0) 1).1=2
   ·have er:Ui c b=_:=(if_neg q1).trans (if_pos q2)
    rw [er,if_pos (decide_eq_true (by omega)),Z1 (x:=((Z9 (Z9 (Z9 (b,0) 1).2 1).2 2).1:Int)) (by omega) (by omega),Z1 (x:=((Z9 (Z9 (b,0) 1).2 1).1:Int)) (by omega) (by omega),Z1 (x:=((Z9 (Z9 (Z9 (Z9 (b,0) 1).2 1).2 2).2 2).1:Int)) (by omega) (by omega),
     show (if (((Z9 (Z9 (b,0) 1).2 1).1:Nat):Int)>1 then (((Z9 (Z9 (b,0) 1).2 1).1:Nat):Int) else 1)=(if (Z9 (Z9 (b,0) 1).2 1).1>1 then (((Z9 (Z9 (b,0) 1).2 1).1:Nat):Int) else 1) by split <;> split <;> omega]
    rw [show Q42.f k c _ _ _ _=_ from Zb7 hc (if (Z9 (Z9 (b,0) 1).2 1).1>1 then (((Z9 (Z9 (b,0) 1).2 1).1:Nat):Int) else 1) (Z9 (Z9 (Z9 (b,0) 1).2 1).2 2).1 (Z9 (Z9 (Z9 (Z9 (b,0) 1).2 1).2 2).2 2).1 (by omega) (cFa c) 0 k (U3 (Z9 (Z9 (Z9 (Z9 (b,0) 1).2 1).2 2).2 2).2 2) [] (by omega) (by have:=hc.nat; omega) (by have:=hc.nat; simp; omega),Option.bind_some]
    rfl
   ·have er:Ui c b=_:=(if_neg q1).trans (if_neg q2)
    rw [er,if_neg (by simp only [decide_eq_true_eq]; omega)]
    rfl
 ·refine ⟨0,fun k _=>?_⟩
  show Q37.f k c (toB b)=_
  unfold Q37.f Zgg
  (try rw [U4]); rw [Zba,Option.bind_some,if_neg hok,if_neg hok,if_pos (by simp)]
  rfl
abbrev Lnk:=Int×Int×Bool
abbrev Chn:=List Lnk×Int
def ah (l:List Lnk) (k:Nat):Int:=(l.getD k default).1
def bh (l:List Lnk) (k:Nat):Int:=(l.getD k default).2.1
def inn (l:List Lnk) (k:Nat):Bool:=(l.getD k default).2.2
theorem Y8 {α:Type} {l:List α} {j k:Nat} {v d:α} (hj:j<l.length):(l.set j v).getD k d=if j=k then v else l.getD k d:=by
 rw [List.getD_eq_getElem?_getD,List.getD_eq_getElem?_getD,List.getElem?_set]
 split
 ·rename_i h
  subst h
  simp [hj]
 ·rfl
def Lk (l:List Lnk) (a b:Nat):Prop:=bh l a=(b:Int)∧ah l b=(a:Int)
def X4 (l:List Lnk):Nat→List Nat→Prop
 | _,[]=>True
 | a,x :: L=>Lk l a x∧X4 l x L
def Vp:Nat→List Nat→Nat
 | a,[]=>a
 | _,x :: L=>Vp x L
theorem Jy {l:List Lnk}:∀ {a:Nat} {X Y:List Nat},X4 l a (X ++ Y)↔X4 l a X∧X4 l (Vp a X) Y
 | a,[],Y=>by simp [X4,Vp]
 | a,x :: X,Y=>by
  rw [List.cons_append,X4,X4,Vp,Jy,and_assoc]
theorem Ua:∀ {a:Nat} {L:List Nat},Vp a L∈a :: L
 | a,[]=>by simp [Vp]
 | a,x :: L=>by
  rw [Vp]
  have:=Ua (a:=x) (L:=L)
  simp only [List.mem_cons] at this ⊢
  rcases this with h | h
  ·exact .inr (.inl h)
  ·exact .inr (.inr h)
theorem U8 {l l':List Lnk}:∀ {a:Nat} {L:List Nat},(∀ x∈(a :: L).dropLast,bh l' x=bh l x)→(∀ y∈L,ah l' y=ah l y)→X4 l a L→X4 l' a L
 | a,[],_,_,_=>trivial
 | a,x :: L,h1,h2,h=>by
  rw [X4] at h ⊢
  refine ⟨⟨?_,?_⟩,U8 (fun y hy=>h1 y ?_) (fun y hy=>h2 y (by simp [hy])) h.2⟩
  ·rw [h1 a (by simp)]; exact h.1.1
  ·rw [h2 x (by simp)]; exact h.1.2
  ·rw [List.dropLast_cons_of_ne_nil (by simp)]
   exact List.mem_cons_of_mem _ hy
structure ChI (n:Nat) (c:Chn) (L:List Nat):Prop where
 len:c.1.length=n+1
 cnt:c.2=(L.length:Int)
 nd:L.Nodup
 lt:∀ x∈L,x<n
 inn:∀ x,x≤n→(inn c.1 x=true↔x∈L)
 ring:X4 c.1 n (L ++ [n])
theorem Zet:∀ {n:Nat} {L:List Nat},L.Nodup→(∀ x∈L,x<n)→L.length≤n
 | 0,[],_,_=>Nat.le_refl _
 | 0,x :: L,_,h=>by have:=h x (by simp); omega
 | n+1,L,hd,h=>by
  have:=Zet (n:=n) (hd.erase n) fun x hx=>by
   have h1:=h x (List.mem_of_mem_erase hx)
   have h2:=(hd.mem_erase_iff.1 hx).1
   omega
  rw [List.length_erase] at this
  split at this <;> omega
theorem ChI.short {n:Nat} {c:Chn} {L:List Nat} (h:ChI n c L):L.length≤n:=Zet h.nd h.lt
theorem Jq:∀ {a:Nat} {L:List Nat},(a :: L).Nodup→∀ x∈(a :: L).dropLast,x≠Vp a L
 | a,[],_,x,hx=>by simp at hx
 | a,y :: L,hd,x,hx=>by
  rw [List.dropLast_cons_of_ne_nil (by simp),List.mem_cons] at hx
  rw [Vp]
  rcases hx with rfl | hx
  ·exact fun e=>(List.nodup_cons.1 hd).1 (e ▸ Ua)
  ·exact Jq (List.nodup_cons.1 hd).2 x hx
theorem gtl (l:List Lnk) (k:Nat):gt l (k:Int)=(ah l k,bh l k,SK.T.inn l k):=by
 rw [Yf]; rfl
section
variable {n:Nat} {c:Chn} {L:List Nat}
theorem ChI.split (h:ChI n c L) {i:Nat} (hi:i∈L):∃(P S:List Nat) (s:Nat) (T:List Nat),L=P ++ i :: S∧S ++ [n]=s :: T∧X4 c.1 n P∧Lk c.1 (Vp n P) i∧Lk c.1 i s∧X4 c.1 s T∧Vp n P≤n∧s≤n:=by
 obtain ⟨P,S,rfl⟩:=List.append_of_mem hi
 obtain ⟨s,T,e⟩:∃ s T,S ++ [n]=s :: T:=by
  cases S with
  | nil=>exact ⟨n,[],rfl⟩
  | cons x S=>exact ⟨x,S ++ [n],rfl⟩
 have hr:=h.ring
 rw [List.append_assoc,List.cons_append,Jy,X4,e,X4] at hr
 refine ⟨P,S,s,T,rfl,e,hr.1,hr.2.1,hr.2.2.1,hr.2.2.2,?_,?_⟩
 ·have:=Ua (a:=n) (L:=P)
  rcases List.mem_cons.1 this with h1 | h1
  ·omega
  ·have:=h.lt _ (List.mem_append_left _ h1); omega
 ·have:s∈S ++ [n]:=by rw [e]; simp
  rcases List.mem_append.1 this with h1 | h1
  ·have:=h.lt s (by simp [h1]); omega
  ·simp at h1; omega
theorem Zm3 (h:ChI n c L) {i:Nat} (hi:i∈L) (hn:n≤1000):∃ c',Q30.f c (i:Int)=some c'∧ChI n c' (L.erase i):=by
 obtain ⟨P,S,s,T,e1,e2,r1,r2,r3,r4,hp,hs⟩:=h.split hi
 have hin:=h.lt i hi
 have hlen:=h.len
 generalize hpe:Vp n P=p at *
 have ei:SK.T.inn c.1 i=true:=(h.inn i (by omega)).2 hi
 have nd:(P ++ i :: S).Nodup:=e1 ▸ h.nd
 have nd2:=List.nodup_append.1 nd
 have ndS:=(List.nodup_cons.1 nd2.2.1)
 have hnP:n∉P:=fun hx=>by have:=h.lt n (by rw [e1]; simp [hx]); omega
 have hnS:n∉S:=fun hx=>by have:=h.lt n (by rw [e1]; simp [hx]); omega
 have hiP:i∉P:=fun hx=>nd2.2.2 i hx i (by simp) rfl
 have hpi:p≠i:=fun e=>by
  have:p∈n :: P:=hpe ▸ Ua
  rcases List.mem_cons.1 this with h1 | h1
  ·omega
  ·exact hiP (e ▸ h1)
 have hsi:s≠i:=fun e=>by
  have:s∈S ++ [n]:=by rw [e2]; simp
  rcases List.mem_append.1 this with h1 | h1
  ·exact ndS.1 (e ▸ h1)
  ·simp at h1; omega
 have a1:(gt c.1 (i:Int)).1=(p:Int):=by rw [gtl]; exact r2.2
 have a2:(gt c.1 (i:Int)).2.1=(s:Int):=by rw [gtl]; exact r3.1
 have a3:(gt c.1 (i:Int)).2.2=true:=by rw [gtl]; exact ei
 unfold Q30.f
 rw [if_pos (by omega),a3,if_neg (by simp),a1,a2,if_pos (by omega),if_pos (by rw [List.length_set]; omega),if_pos (by rw [List.length_set,List.length_set]; omega)]
 simp only [Int.toNat_natCast,gtl]
 generalize hl1:c.1.set p (ah c.1 p,(s:Int),SK.T.inn c.1 p)=l1
 have hl1l:l1.length=n+1:=by rw [← hl1,List.length_set,hlen]
 generalize hl2:l1.set s ((p:Int),bh l1 s,SK.T.inn l1 s)=l2
 have hl2l:l2.length=n+1:=by rw [← hl2,List.length_set,hl1l]
 have g1:∀ k,l1.getD k default=if p=k then (ah c.1 p,(s:Int),SK.T.inn c.1 p) else c.1.getD k default:=fun k=>by rw [← hl1]; exact Y8 (by omega)
 have g2:∀ k,l2.getD k default=if s=k then ((p:Int),bh l1 s,SK.T.inn l1 s) else l1.getD k default:=fun k=>by rw [← hl2]; exact Y8 (by omega)
 have g3:∀ k,(l2.set i (0,0,false)).getD k default=if i=k then (0,0,false) else l2.getD k default:=fun k=>Y8 (by omega)
 have b1:∀ k,bh l1 k=if p=k then (s:Int) else bh c.1 k:=fun k=>by unfold bh; rw [g1 k]; split <;> rfl
 have n1:∀ k,SK.T.inn l1 k=SK.T.inn c.1 k:=fun k=>by
  show (l1.getD k default).2.2=_
  rw [g1 k]; split
  ·rename_i e; rw [← e]
  ·rfl
 have c1:∀ k,ah l1 k=ah c.1 k:=fun k=>by
  show (l1.getD k default).1=_
  rw [g1 k]; split
  ·rename_i e; rw [← e]
  ·rfl
 have b3:∀ k,k≠i→bh (l2.set i (0,0,false)) k=if p=k then (s:Int) else bh c.1 k:=fun k hk=>by
  show ((l2.set i (0,0,false)).getD k default).2.1=_
  rw [g3 k,if_neg (Ne.symm hk),g2 k]
  split
  ·rename_i e; rw [← e]; exact b1 s
  ·exact b1 k
 have c3:∀ k,k≠i→ah (l2.set i (0,0,false)) k=if s=k then (p:Int) else ah c.1 k:=fun k hk=>by
  show ((l2.set i (0,0,false)).getD k default).1=_
  rw [g3 k,if_neg (Ne.symm hk),g2 k]
  split
  ·rfl
  ·exact c1 k
 have n3:∀ k,SK.T.inn (l2.set i (0,0,false)) k=if i=k then false else SK.T.inn c.1 k:=fun k=>by
  show ((l2.set i (0,0,false)).getD k default).2.2=_
  rw [g3 k]
  split
  ·rfl
  ·rw [g2 k]
   split
   ·rename_i e; rw [← e]; exact n1 s
   ·exact n1 k
 have el:L.erase i=P ++ S:=by
  rw [e1,List.erase_append_right _ hiP,List.erase_cons_head]
 refine ⟨_,rfl,⟨by rw [List.length_set,hl2l],?_,?_,?_,?_,?_⟩⟩
 ·rw [el,h.cnt,e1]
  have:=h.short
  rw [e1] at this
  simp only [List.length_append,List.length_cons] at this ⊢
  rw [Z1 (by omega) (by omega)]; omega
 ·exact h.nd.erase i
 ·exact fun x hx=>h.lt x (List.mem_of_mem_erase hx)
 ·intro x hx
  rw [n3 x,h.nd.mem_erase_iff]
  split
  ·rename_i e; simp [e]
  ·rename_i e
   rw [h.inn x hx]
   exact ⟨fun g=>⟨fun e'=>e e'.symm,g⟩,fun g=>g.2⟩
 ·rw [el,List.append_assoc,e2,Jy,hpe,X4]
  have hTs:∀ y∈T,y≠s∧y≠i:=fun y hy=>by
   have hnd:(S ++ [n]).Nodup:=List.nodup_append.2 ⟨ndS.2,by simp,fun a ha b hb e=>by simp at hb; exact hnS (hb ▸ e ▸ ha)⟩
   rw [e2] at hnd
   refine ⟨fun e=>(List.nodup_cons.1 hnd).1 (e ▸ hy),fun e=>?_⟩
   have:y∈S ++ [n]:=by rw [e2]; simp [hy]
   rcases List.mem_append.1 this with h1 | h1
   ·exact ndS.1 (e ▸ h1)
   ·simp at h1; omega
  have hsT:∀ x∈(s :: T).dropLast,x≠p∧x≠i:=fun x hx=>by
   rw [← e2,List.dropLast_concat] at hx
   refine ⟨fun e=>?_,fun e=>ndS.1 (e ▸ hx)⟩
   have:p∈n :: P:=hpe ▸ Ua
   rcases List.mem_cons.1 this with h1 | h1
   ·exact hnS (h1 ▸ e ▸ hx)
   ·exact nd2.2.2 p h1 x (by simp [hx]) e.symm
  have hPp:∀ x∈(n :: P).dropLast,x≠p∧x≠i:=fun x hx=>by
   have hnd:(n :: P).Nodup:=List.nodup_cons.2 ⟨hnP,nd2.1⟩
   refine ⟨hpe ▸ Jq hnd x hx,fun e=>?_⟩
   have:=List.dropLast_subset _ hx
   rcases List.mem_cons.1 this with h1 | h1
   ·omega
   ·exact hiP (e ▸ h1)
  have hPs:∀ y∈P,y≠s∧y≠i:=fun y hy=>by
   refine ⟨fun e=>?_,fun e=>hiP (e ▸ hy)⟩
   have:s∈S ++ [n]:=by rw [e2]; simp
   rcases List.mem_append.1 this with h1 | h1
   ·exact nd2.2.2 y hy s (by simp [h1]) e
   ·simp at h1; exact hnP (h1 ▸ e ▸ hy)
  refine ⟨U8 (fun x hx=>by rw [b3 x (hPp x hx).2,if_neg (Ne.symm (hPp x hx).1)]) (fun y hy=>by rw [c3 y (hPs y hy).2,if_neg (Ne.symm (hPs y hy).1)]) r1,⟨by rw [b3 p hpi,if_pos rfl],by rw [c3 s hsi,if_pos rfl]⟩,
   U8 (fun x hx=>by rw [b3 x (hsT x hx).2,if_neg (Ne.symm (hsT x hx).1)]) (fun y hy=>by rw [c3 y (hTs y hy).2,if_neg (Ne.symm (hTs y hy).1)]) r4⟩
theorem Zhw (h:ChI n c L) {i:Nat} (hi:i<n) (hn:n≤1000):Q33.f c (i:Int)=some 0:=by
 have hlen:=h.len
 unfold Q33.f Q32.f
 try dsimp only
 rw [if_neg (by simp only [decide_eq_true_eq]; omega),if_neg (by simp only [decide_eq_true_eq]; omega),Option.bind_some,Z1 (by omega) (by omega),if_neg (by simp only [decide_eq_true_eq]; omega)]
theorem Zd5 (h:ChI n c L) {i:Nat} (hi:i<n) (hn:n≤1000):∃ r c',Q26.f c (i:Int)=some (r,c')∧ChI n c' (L.erase i):=by
 have hlen:=h.len
 unfold Q26.f
 rw [show Q33.f (c.1,c.2) (i:Int)=_ from Zhw h hi hn,Option.bind_some,if_neg (by simp),if_pos (by omega),gtl]
 by_cases hm:i∈L
 ·rw [if_neg (by simp [(h.inn i (by omega)).2 hm])]
  obtain ⟨c',e,h'⟩:=Zm3 h hm hn
  rw [show Q30.f (c.1,c.2) (i:Int)=_ from e,Option.bind_some]
  exact ⟨_,_,rfl,h'⟩
 ·have:SK.T.inn c.1 i=false:=by
   cases q:SK.T.inn c.1 i with
   | false=>rfl
   | true=>exact absurd ((h.inn i (by omega)).1 q) hm
  rw [if_pos (by simp [this])]
  exact ⟨_,_,rfl,by rw [List.erase_of_not_mem hm]; exact h⟩
theorem Zm0 (h:ChI n c L) {i:Nat} (hi:i<n) (hm:i∉L) (hn:n≤1000):∃ c',Q31.f c (i:Int) (n:Int)=some c'∧ChI n c' (i :: L):=by
 have hlen:=h.len
 have hsh:=h.short
 have hnL:n∉L:=fun hx=>by have:=h.lt n hx; omega
 obtain ⟨s,T,e⟩:∃ s T,L ++ [n]=s :: T:=by
  cases L with
  | nil=>exact ⟨n,[],rfl⟩
  | cons x S=>exact ⟨x,S ++ [n],rfl⟩
 have hr:=h.ring
 rw [e,X4] at hr
 have hs:s≤n:=by
  have:s∈L ++ [n]:=by rw [e]; simp
  rcases List.mem_append.1 this with h1 | h1
  ·have:=h.lt s h1; omega
  ·simp at h1; omega
 have hsi:s≠i:=fun q=>by
  have:s∈L ++ [n]:=by rw [e]; simp
  rcases List.mem_append.1 this with h1 | h1
  ·exact hm (q ▸ h1)
  ·simp at h1; omega
 have a2:(gt c.1 (n:Int)).2.1=(s:Int):=by rw [gtl]; exact hr.1.1
 unfold Q31.f
 rw [if_pos (by omega),if_pos (by omega),if_pos (by rw [List.length_set]; omega),a2,if_pos (by rw [List.length_set,List.length_set]; omega)]
 simp only [Int.toNat_natCast,gtl]
 generalize hl1:c.1.set i ((n:Int),(s:Int),true)=l1
 have hl1l:l1.length=n+1:=by rw [← hl1,List.length_set,hlen]
 generalize hl2:l1.set n (ah l1 n,(i:Int),SK.T.inn l1 n)=l2
 have hl2l:l2.length=n+1:=by rw [← hl2,List.length_set,hl1l]
 have g1:∀ k,l1.getD k default=if i=k then ((n:Int),(s:Int),true) else c.1.getD k default:=fun k=>by rw [← hl1]; exact Y8 (by omega)
 have g2:∀ k,l2.getD k default=if n=k then (ah l1 n,(i:Int),SK.T.inn l1 n) else l1.getD k default:=fun k=>by rw [← hl2]; exact Y8 (by omega)
 have g3:∀ k,(l2.set s ((i:Int),bh l2 s,SK.T.inn l2 s)).getD k default=if s=k then ((i:Int),bh l2 s,SK.T.inn l2 s) else l2.getD k default:=fun k=>Y8 (by omega)
 have b2:∀ k,bh l2 k=if n=k then (i:Int) else if i=k then (s:Int) else bh c.1 k:=fun k=>by
  show (l2.getD k default).2.1=_
  rw [g2 k]
  split
  ·rfl
  ·rw [g1 k]; split <;> rfl
 have c2:∀ k,ah l2 k=if i=k then (n:Int) else ah c.1 k:=fun k=>by
  show (l2.getD k default).1=_
  rw [g2 k]
  split
  ·rename_i q
   rw [← q,if_neg (by omega)]
   show (l1.getD n default).1=_
   rw [g1 n,if_neg (by omega)]; rfl
  ·rw [g1 k]; split <;> rfl
 have n2:∀ k,SK.T.inn l2 k=if i=k then true else SK.T.inn c.1 k:=fun k=>by
  show (l2.getD k default).2.2=_
  rw [g2 k]
  split
  ·rename_i q
   rw [← q,if_neg (by omega)]
   show (l1.getD n default).2.2=_
   rw [g1 n,if_neg (by omega)]; rfl
  ·rw [g1 k]; split <;> rfl
 have b3:∀ k,bh (l2.set s ((i:Int),bh l2 s,SK.T.inn l2 s)) k=bh l2 k:=fun k=>by
  show ((l2.set s ((i:Int),bh l2 s,SK.T.inn l2 s)).getD k default).2.1=_
  rw [g3 k]; split
  ·rename_i q; rw [← q]
  ·rfl
 have c3:∀ k,ah (l2.set s ((i:Int),bh l2 s,SK.T.inn l2 s)) k=if s=k then (i:Int) else ah l2 k:=fun k=>by
  show ((l2.set s ((i:Int),bh l2 s,SK.T.inn l2 s)).getD k default).1=_
  rw [g3 k]; split <;> rfl
 have n3:∀ k,SK.T.inn (l2.set s ((i:Int),bh l2 s,SK.T.inn l2 s)) k=SK.T.inn l2 k:=fun k=>by
  show ((l2.set s ((i:Int),bh l2 s,SK.T.inn l2 s)).getD k default).2.2=_
  rw [g3 k]; split
  ·rename_i q; rw [← q]
  ·rfl
 refine ⟨_,rfl,⟨by rw [List.length_set,hl2l],?_,List.nodup_cons.2 ⟨hm,h.nd⟩,?_,?_,?_⟩⟩
 ·rw [h.cnt,List.length_cons,Z1 (by omega) (by omega)]; omega
 ·intro x hx
  rcases List.mem_cons.1 hx with q | q
  ·omega
  ·exact h.lt x q
 ·intro x hx
  rw [n3 x,n2 x,List.mem_cons]
  split
  ·rename_i q; simp [q]
  ·rename_i q
   rw [h.inn x hx]
   exact ⟨fun g=>.inr g,fun g=>g.elim (fun e'=>absurd e'.symm q) id⟩
 ·rw [List.cons_append,X4,e,X4]
  have hnd:(L ++ [n]).Nodup:=List.nodup_append.2 ⟨h.nd,by simp,fun a ha b hb q=>by simp at hb; exact hnL (hb ▸ q ▸ ha)⟩
  rw [e] at hnd
  refine ⟨⟨by rw [b3,b2,if_pos rfl],by rw [c3,if_neg hsi,c2,if_pos rfl]⟩,⟨by rw [b3,b2,if_neg (by omega),if_pos rfl],by rw [c3,if_pos rfl]⟩,U8 (fun x hx=>?_) (fun y hy=>?_) hr.2⟩
  ·rw [← e,List.dropLast_concat] at hx
   rw [b3,b2,if_neg (fun q:n=x=>hnL (q ▸ hx)),if_neg (fun q:i=x=>hm (q ▸ hx))]
  ·have hyL:y∈L ++ [n]:=by rw [e]; simp [hy]
   have hyi:i≠y:=fun q=>by
    rcases List.mem_append.1 hyL with h1 | h1
    ·exact hm (q ▸ h1)
    ·simp at h1; omega
   rw [c3,if_neg (fun q:s=y=>(List.nodup_cons.1 hnd).1 (q ▸ hy)),c2,if_neg hyi]
theorem Zl0 (h:ChI n c L) {i:Nat} (hi:i<n) (hm:i∉L) (hn:n≤1000):∃ c',Q27.f c (i:Int)=some (0,c')∧ChI n c' (i :: L):=by
 have hlen:=h.len
 have hf:SK.T.inn c.1 i=false:=by
  cases q:SK.T.inn c.1 i with
  | false=>rfl
  | true=>exact absurd ((h.inn i (by omega)).1 q) hm
 have ho:Q30.f (c.1,c.2) (i:Int)=some c:=by
  unfold Q30.f
  try dsimp only
  rw [if_pos (by omega),gtl,if_pos (by simp [hf])]
 obtain ⟨c',e,h'⟩:=Zm0 h hi hm hn
 unfold Q27.f Q32.f
 rw [show Q33.f (c.1,c.2) (i:Int)=_ from Zhw h hi hn,Option.bind_some,if_pos (by simp),ho,Option.bind_some,Option.bind_some]
 try dsimp only
 rw [show w64 ((c.1.length:Int) - 1)=(n:Int) by rw [Z1 (by omega) (by omega)]; omega,show Q31.f (c.1,c.2) (i:Int) (n:Int)=_ from e,Option.bind_some]
 exact ⟨_,rfl,h'⟩
theorem Zck (h:ChI n c []):Q28.f c=some (0,false):=by
 have:=h.cnt
 unfold Q28.f Q29.f
 rw [Option.bind_some,if_pos (by simp [this])]
theorem Zj6 {q:Nat} (h:ChI n c (L ++ [q])) (hn:n≤1000):Q28.f c=some ((q:Int),true):=by
 have hcnt:=h.cnt
 have hlen:=h.len
 unfold Q28.f Q29.f Q32.f
 have hr:=h.ring
 rw [List.append_assoc,List.cons_append,List.nil_append,Jy,X4,X4] at hr
 have:ah c.1 n=(q:Int):=hr.2.2.1.2
 rw [Option.bind_some,if_neg (by simp [hcnt]; omega),Option.bind_some,show w64 ((c.1.length:Int) - 1)=(n:Int) by rw [Z1 (by omega) (by omega)]; omega,if_pos (by omega),gtl,this]
theorem Znb (hn:1≤n) (h64:n≤64):∃ c',Q34.f (n:Int)=some (some c',0)∧ChI n c' []:=by
 unfold Q34.f
 have e:(w64 ((n:Int)+1))=((n+1:Nat):Int):=by rw [Z1 (by omega) (by omega)]; omega
 rw [if_neg (by simp only [decide_eq_true_eq]; omega),if_neg (by simp only [decide_eq_true_eq]; omega),e,if_pos (by omega),Int.toNat_natCast,if_pos (by rw [List.length_replicate]; omega),Int.toNat_natCast]
 have g:∀ k,((List.replicate (n+1) ((0,0,false):Lnk)).set n ((n:Int),(n:Int),false)).getD k default=if n=k then ((n:Int),(n:Int),false) else (List.replicate (n+1) ((0,0,false):Lnk)).getD k default:=fun k=>Y8 (by rw [List.length_replicate]; omega)
 refine ⟨_,rfl,⟨by simp,rfl,by simp,by simp,fun x hx=>?_,?_⟩⟩
 ·show (_:Lnk).2.2=true↔_
  rw [g x]
  split
  ·simp
  ·rw [List.getD_eq_getElem?_getD,List.getElem?_replicate,if_pos (by omega)]; simp
 ·rw [List.nil_append,X4,X4]
  refine ⟨⟨?_,?_⟩,trivial⟩
  ·show (_:Lnk).2.1=_
   rw [g n,if_pos rfl]
  ·show (_:Lnk).1=_
   rw [g n,if_pos rfl]
end
abbrev Dv:=Int×List Int×(Int×Int)
def blk (img:List Int) (n i:Nat):List Int:=(img.drop (i*n)).take n
theorem Gz {N n i:Nat} (h:i<N):i*n+n≤N*n:=by
 have:=Nat.mul_le_mul_right n h
 rw [Nat.succ_mul] at this
 exact this
theorem Za6 {img:List Int} {N n i:Nat} (hl:img.length=N*n) (h:i<N):(blk img n i).length=n:=by
 have:=Gz (n:=n) h
 unfold blk
 rw [List.length_take,List.length_drop]
 omega
theorem Zcy {img b:List Int} {N n i:Nat} (hl:img.length=N*n) (h:i<N):(patch img (i*n) n b).length=N*n:=by
 have:=Gz (n:=n) h
 rw [Xk (by omega),hl]
theorem Ud {N n:Nat} {img:List Int} {s:Int×Int} (hn:1≤n) (hl:img.length=N*n) (hb:N*n≤4294967296):Q53.f ((n:Int),img,s)=some (N:Int):=by
 have hN:N≤4294967296:=Nat.le_trans (Nat.le_mul_of_pos_right N hn) hb
 have e:Int.tdiv (img.length:Int) (n:Int)=N:=by
  rw [hl,Int.natCast_mul]
  exact Int.mul_tdiv_cancel _ (by omega)
 unfold Q53.f
 dsimp only
 rw [if_neg (by simp only [decide_eq_true_eq]; omega),if_pos (by omega),e,Z1 (by omega) (by omega)]
theorem Zka {n i N:Nat} (hb:N*n≤4294967296) (hn:1≤n) (h:i<N):w64 (i:Int)=i∧w64 ((i:Int)*(n:Int))=((i*n:Nat):Int)∧w64 (((i*n:Nat):Int)+(n:Int))=((i*n+n:Nat):Int):=by
 have h1:=Gz (n:=n) h
 have h2:i≤i*n:=Nat.le_mul_of_pos_right i hn
 refine ⟨Z1 (by omega) (by omega),?_,?_⟩
 ·rw [← Int.natCast_mul]
  exact Z1 (by omega) (by omega)
 ·rw [Z1 (by omega) (by omega)]
  rfl
theorem Zjw {N n i:Nat} {img b:List Int} {s:Int×Int} (hn:1≤n) (hN:1≤N) (hl:img.length=N*n) (hb:N*n≤4294967296) (hi:i<4294967296) :
  Q57.f ((n:Int),img,s) (i:Int) b=some (if N≤i then (4,((n:Int),img,s)) else if b.length=n then (0,((n:Int),patch img (i*n) n b,s.1,IntKind.u64.wrap (s.2+1))) else (3,((n:Int),img,s))):=by
 have e:=Ud (s:=(s.1,s.2)) hn hl hb
 unfold Q57.f
 dsimp only
 rw [e,Option.bind_some,if_neg (by simp only [decide_eq_true_eq]; omega),Option.bind_some]
 by_cases h:N≤i
 ·rw [Z1 (x:=(i:Int)) (by omega) (by omega),if_pos (decide_eq_true (by omega)),if_pos h]
 ·obtain ⟨a1,a2,a3⟩:=Zka hb hn (show i<N from by omega)
  have h1:=Gz (n:=n) (show i<N from by omega)
  rw [a1,a2,a3,if_neg (by simp only [decide_eq_true_eq]; omega),if_pos (by omega),if_neg h]
  by_cases hq:b.length=n
  ·rw [if_neg (by simp only [Bool.not_eq_true',decide_eq_false_iff_not]; omega),if_pos hq]
   simp only [Int.toNat_natCast]
   rw [List.length_take,List.length_drop,show min (i*n+n - i*n) (img.length - i*n)=n from by omega]
  ·rw [if_pos (by simp only [Bool.not_eq_true',decide_eq_false_iff_not]; omega),if_neg hq]
theorem Gc {l:List Int} (h:l.length≤140737488355328):Q94.f l=some l:=by
 unfold Q94.f
 rw [if_pos (by simpa using h)]
 rfl
theorem Zk5 {N n i:Nat} {img:List Int} {s:Int×Int} (hn:1≤n) (hN:1≤N) (hl:img.length=N*n) (hb:N*n≤4294967296) (hi:i<4294967296) :
  Q55.f ((n:Int),img,s) (i:Int)=some (if N≤i then ([],4,((n:Int),img,s)) else (blk img n i,0,((n:Int),img,IntKind.u64.wrap (s.1+1),s.2))):=by
 have e:=Ud (s:=(s.1,s.2)) hn hl hb
 unfold Q55.f
 dsimp only
 rw [e,Option.bind_some,if_neg (by simp only [decide_eq_true_eq]; omega),Option.bind_some]
 by_cases h:N≤i
 ·rw [Z1 (x:=(i:Int)) (by omega) (by omega),if_pos (decide_eq_true (by omega)),if_pos h]
 ·obtain ⟨a1,a2,a3⟩:=Zka hb hn (show i<N from by omega)
  have h1:=Gz (n:=n) (show i<N from by omega)
  rw [a1,a2,a3,if_neg (by simp only [decide_eq_true_eq]; omega),if_pos (by omega),if_neg h]
  simp only [Int.toNat_natCast]
  have hbl:(blk img n i).length=n:=Za6 hl (by omega)
  have:(img.drop (i*n)).take (i*n+n - i*n)=blk img n i:=by unfold blk; congr 1; omega
  have hnb:n≤N*n:=Nat.le_mul_of_pos_left n hN
  rw [this,Gc (by omega),Option.bind_some]
def Lb (img:List Int) (N n:Nat):List (List UInt8):=(List.range N).map fun i=>toS (blk img n i)
def rightD (N n:Nat):Bool:=decide (5≤N∧N≤65536∧1≤n∧n≤65536)
abbrev Fr8:=Int×List Int×Bool×Int
abbrev Ca:=Dv×List Fr8×List (Int×Int)×List Int×Chn
section
variable {es:List (Int×Int)} {x v d:Int}
theorem mhas_iff:∀ {es:List (Int×Int)},Y2 es x=true↔∃ v,(x,v)∈es
 | []=>by simp [Y2]
 | p :: es=>by
  rw [Y2]
  split
  ·rename_i h
   exact ⟨fun _=>⟨p.2,by simp [← h]⟩,fun _=>rfl⟩
  ·rename_i h
   rw [mhas_iff]
   constructor
   ·rintro ⟨v,hv⟩; exact ⟨v,by simp [hv]⟩
   ·rintro ⟨v,hv⟩
    rcases List.mem_cons.1 hv with e | e
    ·exact absurd (by rw [← e]) h
    ·exact ⟨v,e⟩
theorem Xl:∀ {es:List (Int×Int)},(es.map Prod.fst).Nodup→(x,v)∈es→Zw d es x=v
 | [],_,h=>by simp at h
 | p :: es,nd,h=>by
  rw [List.map_cons,List.nodup_cons] at nd
  rw [Zw]
  rcases List.mem_cons.1 h with e | e
  ·rw [if_pos (by rw [← e]),← e]
  ·rw [if_neg (fun q=>nd.1 (List.mem_map.2 ⟨_,e,by simpa using q.symm⟩)),Xl nd.2 e]
theorem Vs {p:Int×Int}:∀ {es:List (Int×Int)},(es.map Prod.fst).Nodup→(p∈Xs x es↔p∈es∧p.1≠x)
 | [],_=>by simp [Xs]
 | q :: es,nd=>by
  rw [List.map_cons,List.nodup_cons] at nd
  rw [Xs]
  split
  ·rename_i h
   constructor
   ·intro hp
    refine ⟨by simp [hp],fun e=>nd.1 ?_⟩
    rw [h,← e]; exact List.mem_map_of_mem hp
   ·rintro ⟨hp,hne⟩
    rcases List.mem_cons.1 hp with e | e
    ·exact absurd (e ▸ h) hne
    ·exact e
  ·rename_i h
   rw [List.mem_cons,Vs nd.2,List.mem_cons]
   constructor
   ·rintro (e | e)
    ·exact ⟨.inl e,e ▸ h⟩
    ·exact ⟨.inr e.1,e.2⟩
   ·rintro ⟨e | e,hne⟩
    ·exact .inl e
    ·exact .inr ⟨e,hne⟩
theorem mdel_sub:∀ {es:List (Int×Int)},(Xs x es).Sublist es
 | []=>List.Sublist.refl _
 | q :: es=>by
  rw [Xs]
  split
  ·exact List.sublist_cons_self _ _
  ·exact mdel_sub.cons_cons _
theorem Gd:∀ {es:List (Int×Int)},Y2 es x=true→(Xs x es).length+1=es.length
 | [],h=>by simp [Y2] at h
 | q :: es,h=>by
  rw [Y2] at h
  rw [Xs]
  split
  ·rfl
  ·rename_i hn
   rw [if_neg hn] at h
   rw [List.length_cons,List.length_cons,Gd h]
theorem Zcv:∀ {es:List (Int×Int)},(es.map Prod.fst).Nodup→(x,v)∈es→Va x v es=es
 | [],_,h=>by simp at h
 | p :: es,nd,h=>by
  rw [List.map_cons,List.nodup_cons] at nd
  rw [Va]
  rcases List.mem_cons.1 h with e | e
  ·rw [if_pos (by rw [← e]),e]
  ·rw [if_neg (fun q=>nd.1 (List.mem_map.2 ⟨_,e,by simpa using q.symm⟩)),Zcv nd.2 e]
end
structure Okf (N B n t:Nat) (c:Ca) (i f:Nat):Prop where
 hi:i<N
 hf:f<n
 blk:(c.2.1.getD f default).1=(i:Int)
 len:(c.2.1.getD f default).2.1.length=B
 pin:0≤(c.2.1.getD f default).2.2.2∧(c.2.1.getD f default).2.2.2≤t
 emp:(f:Int)∉c.2.2.2.1
structure CaI (N B n t:Nat) (H:List Nat) (c:Ca) (L:List Nat):Prop where
 dsz:c.1.1=(B:Int)
 dim:c.1.2.1.length=N*B
 frl:c.2.1.length=n
 mnd:(c.2.2.1.map Prod.fst).Nodup
 mok:∀ p∈c.2.2.1,∃ i f:Nat,p=((i:Int),(f:Int))∧Okf N B n t c i f
 emp:∀ x∈c.2.2.2.1,∃ f:Nat,x=(f:Int)∧f<n
 end_:c.2.2.2.1.Nodup
 hol:∀ f∈H,f<n∧(f:Int)∉c.2.2.2.1∧∀ i:Int,(i,(f:Int))∉c.2.2.1
 tot:c.2.2.1.length+c.2.2.2.1.length+H.length=n
 chn:ChI n c.2.2.2.2 L
 lok:∀ f:Nat,f∈L↔(∃ i:Int,(i,(f:Int))∈c.2.2.1)∧(c.2.1.getD f default).2.2.2=0
section
variable {N B n t:Nat} {H:List Nat} {c:Ca} {L:List Nat}
theorem CaI.at (h:CaI N B n t H c L) {i f:Int} (hp:(i,f)∈c.2.2.1):∃ i' f':Nat,i=(i':Int)∧f=(f':Int)∧Okf N B n t c i' f':=by
 obtain ⟨i',f',e,ok⟩:=h.mok _ hp
 rw [Prod.mk.injEq] at e
 exact ⟨i',f',e.1,e.2,ok⟩
theorem CaI.atN (h:CaI N B n t H c L) {i f:Nat} (hp:((i:Int),(f:Int))∈c.2.2.1):Okf N B n t c i f:=by
 obtain ⟨i',f',e1,e2,ok⟩:=h.at hp
 have:i=i':=by omega
 have:f=f':=by omega
 subst_vars
 exact ok
theorem CaI.one (h:CaI N B n t H c L) {i j f:Nat} (hi:((i:Int),(f:Int))∈c.2.2.1) (hj:((j:Int),(f:Int))∈c.2.2.1):i=j:=by
 have h1:=(h.atN hi).blk
 have h2:=(h.atN hj).blk
 omega
theorem CaI.get (h:CaI N B n t H c L) (i:Nat):(Y2 c.2.2.1 (i:Int)=false∧∀ v,((i:Int),v)∉c.2.2.1)∨∃ f:Nat,((i:Int),(f:Int))∈c.2.2.1∧Y2 c.2.2.1 (i:Int)=true∧Zw 0 c.2.2.1 (i:Int)=(f:Int)∧Okf N B n t c i f:=by
 cases q:Y2 c.2.2.1 (i:Int) with
 | false=>exact .inl ⟨rfl,fun v hv=>by rw [mhas_iff.2 ⟨v,hv⟩] at q; cases q⟩
 | true=>
  obtain ⟨v,hv⟩:=mhas_iff.1 q
  obtain ⟨i',f,e1,rfl,ok⟩:=h.at hv
  have:i=i':=by omega
  subst this
  exact .inr ⟨f,hv,rfl,Xl h.mnd hv,ok⟩
theorem CaI.used (h:CaI N B n t H c L):c.2.2.1.length≤n:=by have:=h.tot; omega
theorem CaI.mono (h:CaI N B n t H c L) {t':Nat} (ht:t≤t'):CaI N B n t' H c L:=
 ⟨h.dsz,h.dim,h.frl,h.mnd,fun p hp=>by
  obtain ⟨i,f,e,ok⟩:=h.mok p hp
  exact ⟨i,f,e,ok.hi,ok.hf,ok.blk,ok.len,⟨ok.pin.1,by have:=ok.pin.2; omega⟩,ok.emp⟩,h.emp,h.end_,h.hol,h.tot,h.chn,h.lok⟩
theorem CaI.dev (h:CaI N B n t H c L) {img:List Int} (hl:img.length=N*B) (s:Int×Int):CaI N B n t H ((c.1.1,img,s),c.2) L:=
 ⟨h.dsz,hl,h.frl,h.mnd,fun p hp=>by
  obtain ⟨i,f,e,ok⟩:=h.mok p hp
  exact ⟨i,f,e,ok.hi,ok.hf,ok.blk,ok.len,ok.pin,ok.emp⟩,h.emp,h.end_,h.hol,h.tot,h.chn,h.lok⟩
theorem CaI.setfr (h:CaI N B n t H c L) {i f:Nat} (ha:((i:Int),(f:Int))∈c.2.2.1) {x:Fr8} (h1:x.1=(i:Int)) (h2:x.2.1.length=B) {t':Nat} (h3:0≤x.2.2.2∧x.2.2.2≤t') (ht:t≤t') {ch:Chn} {L':List Nat} (hc:ChI n ch L')
  (hL:∀ g,g∈L'↔if g=f then x.2.2.2=0 else g∈L):CaI N B n t' H (c.1,c.2.1.set f x,c.2.2.1,c.2.2.2.1,ch) L':=by
 have ok:=h.atN ha
 have hfl:f<c.2.1.length:=by rw [h.frl]; exact ok.hf
 have g:∀ k,(c.2.1.set f x).getD k default=if f=k then x else c.2.1.getD k default:=fun k=>Y8 hfl
 refine ⟨h.dsz,h.dim,by rw [List.length_set,h.frl],h.mnd,fun p hp=>?_,h.emp,h.end_,h.hol,h.tot,hc,fun k=>?_⟩
 ·obtain ⟨j,k,e,okk⟩:=h.mok p hp
  refine ⟨j,k,e,okk.hi,okk.hf,?_,?_,?_,okk.emp⟩
  all_goals
   show _
   try dsimp only
   rw [g k]
   split
  ·rename_i q
   subst q
   have:i=j:=h.one ha (by rw [← e]; exact hp)
   subst this; exact h1
  ·exact okk.blk
  ·exact h2
  ·exact okk.len
  ·exact h3
  ·exact ⟨okk.pin.1,by have:=okk.pin.2; omega⟩
 ·rw [hL k]
  try dsimp only
  rw [g k]
  by_cases q:k=f
  ·subst q
   rw [if_pos rfl,if_pos rfl]
   exact ⟨fun e=>⟨⟨_,ha⟩,e⟩,fun e=>e.2⟩
  ·rw [if_neg q,if_neg (Ne.symm q)]
   exact h.lok k
theorem CaI.leave (h:CaI N B n t [] c L) {i f:Nat} (ha:((i:Int),(f:Int))∈c.2.2.1) (hn:n≤64) {ch:Chn} (hc:ChI n ch (L.erase f)):CaI N B n t [] (c.1,c.2.1.set f (0,[],false,0),Xs (i:Int) c.2.2.1,c.2.2.2.1 ++ [(f:Int)],ch) (L.erase f):=by
 have ok:=h.atN ha
 have hfl:f<c.2.1.length:=by rw [h.frl]; exact ok.hf
 have g:∀ k,(c.2.1.set f (0,[],false,0)).getD k default=if f=k then (0,[],false,0) else c.2.1.getD k default:=fun k=>Y8 hfl
 have hne:∀ {j k:Nat},((j:Int),(k:Int))∈c.2.2.1→(j:Int)≠(i:Int)→f≠k:=fun {j k} hjk hji e=>by
  subst e
  exact hji (by rw [h.one ha hjk])
 refine ⟨h.dsz,h.dim,by rw [List.length_set,h.frl],(mdel_sub.map _).nodup h.mnd,fun p hp=>?_,fun x hx=>?_,?_,by simp,?_,hc,fun k=>?_⟩
 ·rw [Vs h.mnd] at hp
  obtain ⟨j,k,e,okk⟩:=h.mok p hp.1
  have hjk:((j:Int),(k:Int))∈c.2.2.1:=by rw [← e]; exact hp.1
  have hk:f≠k:=hne hjk (by rw [e] at hp; exact hp.2)
  refine ⟨j,k,e,okk.hi,okk.hf,?_,?_,?_,?_⟩
  ·dsimp only; rw [g k,if_neg hk]; exact okk.blk
  ·dsimp only; rw [g k,if_neg hk]; exact okk.len
  ·dsimp only; rw [g k,if_neg hk]; exact okk.pin
  ·dsimp only
   rw [List.mem_append,List.mem_singleton]
   rintro (q | q)
   ·exact okk.emp q
   ·exact hk (by omega)
 ·rcases List.mem_append.1 hx with q | q
  ·exact h.emp x q
  ·rw [List.mem_singleton] at q; exact ⟨f,q,ok.hf⟩
 ·exact List.nodup_append.2 ⟨h.end_,by simp,fun a hb b hb' e=>by rw [List.mem_singleton] at hb'; exact ok.emp (hb' ▸ e ▸ hb)⟩
 ·have h1:=h.tot
  have h2:=Gd (mhas_iff.2 ⟨_,ha⟩)
  simp only [List.length_append,List.length_singleton,List.length_nil] at h1 ⊢
  omega
 ·rw [h.chn.nd.mem_erase_iff]
  try dsimp only
  rw [g k]
  constructor
  ·rintro ⟨hk,hkL⟩
   obtain ⟨⟨j,hj⟩,hp⟩:=(h.lok k).1 hkL
   rw [if_neg (Ne.symm hk)]
   obtain ⟨j',k',e1,e2,okk⟩:=h.at hj
   refine ⟨⟨j,(Vs h.mnd).2 ⟨hj,fun e=>hk ?_⟩⟩,hp⟩
   have h1:Zw 0 c.2.2.1 (i:Int)=(f:Int):=Xl h.mnd ha
   have h2:Zw 0 c.2.2.1 (i:Int)=(k:Int):=Xl h.mnd (by rw [← show j=(i:Int) from e]; exact hj)
   omega
  ·rintro ⟨⟨j,hj⟩,hp⟩
   rw [Vs h.mnd] at hj
   obtain ⟨j',k',e1,e2,okk⟩:=h.at hj.1
   have hk:f≠k:=hne (j:=j') (by rw [← e1]; exact hj.1) (by rw [← e1]; exact hj.2)
   rw [if_neg hk] at hp
   exact ⟨Ne.symm hk,(h.lok k).2 ⟨⟨j,hj.1⟩,hp⟩⟩
theorem CaI.take (h:CaI N B n t [] c L) {E:List Int} {f:Nat} (he:c.2.2.2.1=E ++ [(f:Int)]):CaI N B n t [f] (c.1,c.2.1,c.2.2.1,E,c.2.2.2.2) L:=by
 have hnd:=h.end_
 rw [he] at hnd
 have hnd2:=List.nodup_append.1 hnd
 refine ⟨h.dsz,h.dim,h.frl,h.mnd,fun p hp=>?_,fun x hx=>h.emp x (by rw [he]; simp [hx]),hnd2.1,fun g hg=>?_,?_,h.chn,h.lok⟩
 ·obtain ⟨i,k,e,ok⟩:=h.mok p hp
  exact ⟨i,k,e,ok.hi,ok.hf,ok.blk,ok.len,ok.pin,fun q=>ok.emp (by rw [he]; simp [show (k:Int)∈E from q])⟩
 ·rw [List.mem_singleton] at hg
  subst hg
  refine ⟨?_,fun q=>hnd2.2.2 _ q (g:Int) (by simp) rfl,fun i hi=>?_⟩
  ·obtain ⟨f',e,hf⟩:=h.emp (g:Int) (by rw [he]; simp)
   omega
  ·obtain ⟨j,k,e1,e2,ok⟩:=h.at hi
   exact ok.emp (by rw [← e2,he]; simp)
 ·have h1:=h.tot
  rw [he] at h1
  simp only [List.length_append,List.length_singleton,List.length_nil] at h1 ⊢
  omega
theorem CaI.come {f:Nat} (h:CaI N B n t [f] c L) {i:Nat} (hi:i<N) (hno:∀ v,((i:Int),v)∉c.2.2.1) {x:Fr8} (h1:x.1=(i:Int)) (h2:x.2.1.length=B) (h3:x.2.2.2=1) (ht:1≤t) {ch:Chn} (hc:ChI n ch L) :
  CaI N B n t [] (c.1,c.2.1.set f x,c.2.2.1 ++ [((i:Int),(f:Int))],c.2.2.2.1,ch) L:=by
 obtain ⟨hf,hfe,hfm⟩:=h.hol f (by simp)
 have hfl:f<c.2.1.length:=by rw [h.frl]; exact hf
 have g:∀ k,(c.2.1.set f x).getD k default=if f=k then x else c.2.1.getD k default:=fun k=>Y8 hfl
 have hne:∀ {j:Int} {k:Nat},(j,(k:Int))∈c.2.2.1→f≠k:=fun {j k} hjk e=>hfm j (by rw [e]; exact hjk)
 refine ⟨h.dsz,h.dim,by rw [List.length_set,h.frl],?_,fun p hp=>?_,h.emp,h.end_,by simp,?_,hc,fun k=>?_⟩
 ·dsimp only
  rw [List.map_append,List.nodup_append]
  refine ⟨h.mnd,by simp,fun a ha b hb e=>?_⟩
  obtain ⟨p,hp,rfl⟩:=List.mem_map.1 ha
  simp only [List.map_cons,List.map_nil,List.mem_singleton] at hb
  exact hno p.2 (by rw [← hb,← e]; exact hp)
 ·rcases List.mem_append.1 hp with q | q
  ·obtain ⟨j,k,e,okk⟩:=h.mok p q
   have hk:f≠k:=hne (j:=(j:Int)) (by rw [← e]; exact q)
   refine ⟨j,k,e,okk.hi,okk.hf,?_,?_,?_,okk.emp⟩
   ·dsimp only; rw [g k,if_neg hk]; exact okk.blk
   ·dsimp only; rw [g k,if_neg hk]; exact okk.len
   ·dsimp only; rw [g k,if_neg hk]; exact okk.pin
  ·rw [List.mem_singleton] at q
   refine ⟨i,f,q,hi,hf,?_,?_,?_,hfe⟩
   ·dsimp only; rw [g f,if_pos rfl]; exact h1
   ·dsimp only; rw [g f,if_pos rfl]; exact h2
   ·dsimp only; rw [g f,if_pos rfl,h3]; omega
 ·have h1:=h.tot
  simp only [List.length_append,List.length_singleton,List.length_nil] at h1 ⊢
  omega
 ·dsimp only
  rw [g k]
  constructor
  ·intro hk
   obtain ⟨⟨j,hj⟩,hp⟩:=(h.lok k).1 hk
   rw [if_neg (hne hj)]
   exact ⟨⟨j,by simp [hj]⟩,hp⟩
  ·rintro ⟨⟨j,hj⟩,hp⟩
   rcases List.mem_append.1 hj with q | q
   ·rw [if_neg (hne q)] at hp
    exact (h.lok k).2 ⟨⟨j,q⟩,hp⟩
   ·rw [List.mem_singleton,Prod.mk.injEq] at q
    have:f=k:=by omega
    rw [if_pos this,h3] at hp
    omega
end
structure Siz (N B n:Nat):Prop where
 hB:1≤B
 hN:1≤N
 hNB:N*B≤4294967296
 hn:1≤n
 h64:n≤64
section
variable {N B n t:Nat} {H:List Nat} {c:Ca} {L:List Nat}
theorem Siz.N_le (z:Siz N B n):N≤4294967296:=Nat.le_trans (Nat.le_mul_of_pos_right N z.hB) z.hNB
theorem Siz.B_le (z:Siz N B n):B≤4294967296:=Nat.le_trans (Nat.le_mul_of_pos_left B z.hN) z.hNB
theorem G6 (z:Siz N B n) (h:CaI N B n t [] c L) {i f:Nat} (ha:((i:Int),(f:Int))∈c.2.2.1):∃ ch,Q22.f c (f:Int)=some (c.1,c.2.1.set f (0,[],false,0),Xs (i:Int) c.2.2.1,c.2.2.2.1 ++ [(f:Int)],ch)∧CaI N B n t [] (c.1,c.2.1.set f (0,[],false,0),Xs (i:Int) c.2.2.1,c.2.2.2.1 ++ [(f:Int)],ch) (L.erase f):=by
 have ok:=h.atN ha
 have h64:=z.h64
 obtain ⟨r,ch,e,hc⟩:=Zd5 h.chn ok.hf (by omega)
 have hfl:=h.frl
 have htot:=h.tot
 have hf:=ok.hf
 refine ⟨ch,?_,h.leave ha h64 hc⟩
 unfold Q22.f
 rw [if_pos (by omega),show Q26.f (c.2.2.2.2.1,c.2.2.2.2.2) (f:Int)=_ from e,Option.bind_some,if_pos (by simp only [List.length_singleton]; omega),show (gt c.2.1 (f:Int)).1=(i:Int) by rw [Yf]; exact ok.blk,Int.toNat_natCast]
theorem Zeo (z:Siz N B n) (h:CaI N B n t H c L) {i f:Nat} (ha:((i:Int),(f:Int))∈c.2.2.1):Q57.f c.1 (gt c.2.1 (f:Int)).1 (gt c.2.1 (f:Int)).2.1=some (0,c.1.1,patch c.1.2.1 (i*B) B (gt c.2.1 (f:Int)).2.1,c.1.2.2.1,IntKind.u64.wrap (c.1.2.2.2+1)):=by
 have ok:=h.atN ha
 have hi:=ok.hi
 have hNl:=z.N_le
 rw [show (gt c.2.1 (f:Int)).1=(i:Int) by rw [Yf]; exact ok.blk]
 have:=Zjw (b:=(gt c.2.1 (f:Int)).2.1) (s:=c.1.2.2) z.hB z.hN h.dim z.hNB (show i<4294967296 by omega)
 rw [← h.dsz] at this
 rw [show Q57.f c.1 (i:Int) (gt c.2.1 (f:Int)).2.1=_ from this,if_neg (by omega),if_pos (by rw [Yf]; exact ok.len)]
theorem CaI.back (z:Siz N B n) (h:CaI N B n t H c L) {i f:Nat} (ha:((i:Int),(f:Int))∈c.2.2.1) (s:Int×Int):CaI N B n t H ((c.1.1,patch c.1.2.1 (i*B) B (gt c.2.1 (f:Int)).2.1,s),c.2.1.set f ((gt c.2.1 (f:Int)).1,(gt c.2.1 (f:Int)).2.1,false,(gt c.2.1 (f:Int)).2.2.2),c.2.2) L:=by
 have ok:=h.atN ha
 have g:gt c.2.1 (f:Int)=c.2.1.getD f default:=Yf _ _
 have h1:=h.setfr ha (x:=((gt c.2.1 (f:Int)).1,(gt c.2.1 (f:Int)).2.1,false,(gt c.2.1 (f:Int)).2.2.2)) (by rw [g]; exact ok.blk) (by rw [g]; exact ok.len) (by rw [g]; exact ok.pin) (Nat.le_refl t) h.chn (fun k=>by
  split
  ·rename_i q
   subst q
   rw [h.lok k,g]
   exact ⟨fun e=>e.2,fun e=>⟨⟨_,ha⟩,e⟩⟩
  ·exact Iff.rfl)
 exact h1.dev (Zcy h.dim ok.hi) s
theorem Zj5 (z:Siz N B n) (h:CaI N B n t [] c L) (hw:0≤c.1.2.2.2∧c.1.2.2.2≤1000000000):Q24.f c=some (0,false,c)∨
  ∃(f:Nat) (c':Ca) (L':List Nat),Q24.f c=some ((f:Int),true,c')∧CaI N B n t [f] c' L'∧c'.1.2.2.1=c.1.2.2.1∧(c.1.2.2.2≤c'.1.2.2.2∧c'.1.2.2.2≤c.1.2.2.2+1)∧∀ p∈c'.2.2.1,p∈c.2.2.1:=by
 have h64:=z.h64
 have htot:=h.tot
 have hfl:=h.frl
 have wr:IntKind.u64.wrap (c.1.2.2.2+1)=c.1.2.2.2+1:=by
  obtain ⟨m,hm⟩:=Int.eq_ofNat_of_zero_le hw.1
  have:c.1.2.2.2+1=((m+1:Nat):Int):=by omega
  rw [this]
  simp [IntKind.wrap,IntKind.bits,IntKind.signed]
  omega
 by_cases he:c.2.2.2.1=[]
 ·have e0:(decide ((c.2.2.2.1.length:Int)=0))=true:=by rw [he]; rfl
  rcases List.eq_nil_or_concat L with rfl | ⟨L0,q,hq⟩
  ·left
   unfold Q24.f
   rw [if_pos e0,show Q28.f (c.2.2.2.2.1,c.2.2.2.2.2)=_ from Zck h.chn,Option.bind_some,if_pos (by simp)]
  ·right
   rw [List.concat_eq_append] at hq
   subst hq
   obtain ⟨⟨j,hj⟩,hp⟩:=(h.lok q).1 (by simp)
   obtain ⟨i,q',rfl,e2,ok⟩:=h.at hj
   have:q=q':=by omega
   subst this
   have hf:=ok.hf
   unfold Q24.f
   rw [if_pos e0,show Q28.f (c.2.2.2.2.1,c.2.2.2.2.2)=_ from Zj6 h.chn (by omega),Option.bind_some,if_neg (by simp)]
   try dsimp only
   rw [if_pos (by omega)]
   have one:w64 ((([] ++ [(q:Int)]:List Int).length:Int) - 1)=0:=by
    show w64 (((1:Nat):Int) - 1)=0
    decide
   by_cases hd:(gt c.2.1 (q:Int)).2.2.1=true
   ·have hb:=h.back z hj (c.1.2.2.1,c.1.2.2.2+1)
    obtain ⟨ch,e,hl⟩:=G6 z hb (by exact hj)
    rw [if_pos hd,show Q57.f (c.1.1,c.1.2.1,(c.1.2.2.1,c.1.2.2.2)) (gt c.2.1 (q:Int)).1 (gt c.2.1 (q:Int)).2.1=_ from Zeo z h hj,Option.bind_some]
    try dsimp only
    rw [wr,Int.toNat_natCast,show Q22.f ((c.1.1,patch c.1.2.1 (i*B) B (gt c.2.1 (q:Int)).2.1,c.1.2.2.1,c.1.2.2.2+1),c.2.1.set q ((gt c.2.1 (q:Int)).1,(gt c.2.1 (q:Int)).2.1,false,(gt c.2.1 (q:Int)).2.2.2),c.2.2.1,c.2.2.2.1,c.2.2.2.2.1,c.2.2.2.2.2) (q:Int)=_ from e,Option.bind_some]
    try dsimp only
    rw [he,one,if_pos (by simp),if_pos (by simp)]
    refine ⟨q,_,_,rfl,hl.take (E:=[]) (by dsimp only; rw [he]),rfl,by dsimp only; omega,fun p hp=>mdel_sub.subset hp⟩
   ·obtain ⟨ch,e,hl⟩:=G6 z h hj
    rw [if_neg hd,show Q22.f ((c.1.1,c.1.2.1,(c.1.2.2.1,c.1.2.2.2)),c.2.1,c.2.2.1,c.2.2.2.1,(c.2.2.2.2.1,c.2.2.2.2.2)) (q:Int)=_ from e,Option.bind_some]
    try dsimp only
    rw [he,one,if_pos (by simp),if_pos (by simp)]
    refine ⟨q,_,_,rfl,hl.take (E:=[]) (by dsimp only; rw [he]),rfl,by dsimp only; omega,fun p hp=>mdel_sub.subset hp⟩
 ·right
  obtain ⟨E,x,hx⟩:∃ E x,c.2.2.2.1=E ++ [x]:=by
   rcases List.eq_nil_or_concat c.2.2.2.1 with e | ⟨E,x,e⟩
   ·exact absurd e he
   ·exact ⟨E,x,by rw [e,List.concat_eq_append]⟩
  obtain ⟨f,rfl,hf⟩:=h.emp x (by rw [hx]; simp)
  have hll:c.2.2.2.1.length=E.length+1:=by rw [hx]; simp
  have e1:w64 ((c.2.2.2.1.length:Int) - 1)=(E.length:Int):=by rw [Z1 (by omega) (by omega)]; omega
  unfold Q24.f
  rw [if_neg (by simp only [decide_eq_true_eq]; omega),e1,if_pos (by omega),if_pos (by omega),Int.toNat_natCast]
  have e2:gt c.2.2.2.1 (E.length:Int)=(f:Int):=by
   rw [Yf,hx,List.getD_eq_getElem?_getD,List.getElem?_append_right (Nat.le_refl _)]; simp
  have e3:c.2.2.2.1.take E.length=E:=by rw [hx,List.take_left]
  rw [e2,e3]
  exact ⟨f,_,_,rfl,h.take hx,rfl,by dsimp only; omega,fun p hp=>hp⟩
end
section
variable {N B n t:Nat} {c:Ca} {L:List Nat}
structure Costs (N B n t:Nat) (a b:Nat) (c c':Ca):Prop where
 inv:∃ L,CaI N B n t [] c' L
 rd:c.1.2.2.1≤c'.1.2.2.1∧c'.1.2.2.1≤c.1.2.2.1+a
 wr:c.1.2.2.2≤c'.1.2.2.2∧c'.1.2.2.2≤c.1.2.2.2+b
theorem Costs.same (h:CaI N B n t [] c L) (a b:Nat):Costs N B n t a b c c:=⟨⟨L,h⟩,by omega,by omega⟩
structure Few (c:Ca):Prop where
 rd:0≤c.1.2.2.1∧c.1.2.2.1≤100000000
 wr:0≤c.1.2.2.2∧c.1.2.2.2≤100000000
theorem Zgc {x:Int} (h:0≤x∧x≤1000000000):IntKind.u64.wrap (x+1)=x+1:=by
 obtain ⟨m,hm⟩:=Int.eq_ofNat_of_zero_le h.1
 have:x+1=((m+1:Nat):Int):=by omega
 rw [this]
 simp [IntKind.wrap,IntKind.bits,IntKind.signed]
 omega
theorem Zkh (z:Siz N B n) {H:List Nat} (h:CaI N B n t H c L):Q53.f c.1=some (N:Int):=by
 have:=Ud (s:=c.1.2.2) z.hB h.dim z.hNB
 rw [← h.dsz] at this
 exact this
theorem Zhr (z:Siz N B n) {H:List Nat} (h:CaI N B n t H c L) (i:Nat) (hi:i<4294967296):Q25.f c (i:Int)=some (if N≤i then 4 else 0):=by
 have hN:=z.N_le
 unfold Q25.f Q23.f
 rw [Option.bind_some,if_neg (by simp),show Q53.f (c.1.1,c.1.2.1,(c.1.2.2.1,c.1.2.2.2))=_ from Zkh z h,Option.bind_some,Z1 (x:=(i:Int)) (by omega) (by omega)]
 by_cases q:N≤i
 ·rw [if_pos (decide_eq_true (by omega)),if_pos q]
 ·rw [if_neg (by simp only [decide_eq_true_eq]; omega),if_neg q]
theorem Zlq (z:Siz N B n) {H:List Nat} (h:CaI N B n t H c L) {i:Nat} (hi:i<N):Q55.f c.1 (i:Int)=some (blk c.1.2.1 B i,0,(c.1.1,c.1.2.1,IntKind.u64.wrap (c.1.2.2.1+1),c.1.2.2.2)):=by
 have hN:=z.N_le
 have:=Zk5 (s:=c.1.2.2) z.hB z.hN h.dim z.hNB (show i<4294967296 by omega)
 rw [← h.dsz] at this
 rw [show Q55.f c.1 (i:Int)=_ from this,if_neg (by omega)]
theorem Zc3 {es:List (Int×Int)} {x v:Int} (h:∀ v,(x,v)∉es):Va x v es=es ++ [(x,v)]:=Za0 (by
 cases q:Y2 es x with
 | false=>rfl
 | true=>obtain ⟨v,hv⟩:=mhas_iff.1 q; exact absurd hv (h v))
theorem Zdc (h:CaI N B n t [] c L) {f:Nat} {p:Int} (hp:p≠0) (g:Nat):g∈L.erase f↔if g=f then p=0 else g∈L:=by
 rw [h.chn.nd.mem_erase_iff]
 split
 ·rename_i e; exact ⟨fun q=>absurd e q.1,fun q=>absurd q hp⟩
 ·rename_i e; exact ⟨fun q=>q.2,fun q=>⟨e,q⟩⟩
theorem Zja (h:CaI N B n t [] c L) {i f:Nat} (ha:((i:Int),(f:Int))∈c.2.2.1) (g:Nat):g∈L↔if g=f then (c.2.1.getD f default).2.2.2=0 else g∈L:=by
 split
 ·rename_i q
  subst q
  rw [h.lok g]
  exact ⟨fun e=>e.2,fun e=>⟨⟨_,ha⟩,e⟩⟩
 ·exact Iff.rfl
end
section
variable {N B n t:Nat} {c:Ca} {L:List Nat}
def Uu (fr:List Fr8) (mp:List (Int×Int)) (i:Int):Bool:=(gt fr (Zw 0 mp i)).2.2.1
def X8 (c:Ca):List Int:=(c.2.2.1.map Prod.fst).mergeSort fun x y=>decide (x≤y)
theorem Wu (c:Ca):(X8 c).Perm (c.2.2.1.map Prod.fst):=List.mergeSort_perm _ _
theorem Zkj (z:Siz N B n) (h:CaI N B n t [] c L):Q135.f c.2.2.1=some (X8 c):=by
 have h64:=z.h64
 have hN:=z.N_le
 have hu:=h.used
 unfold Q135.f
 rw [if_pos ?_]
 ·rfl
 ·unfold V8
  simp only [Bool.and_eq_true,decide_eq_true_eq,List.all_eq_true]
  refine ⟨by omega,h.mnd,fun p hp=>?_⟩
  obtain ⟨i,f,e,ok⟩:=h.mok p hp
  have h1:=ok.hi
  have h2:=ok.hf
  rw [e]
  simp [Lit.wf,IntKind.min,IntKind.max,IntKind.signed,IntKind.bits]
  omega
theorem Zex (h:CaI N B n t [] c L) {x:Int} (hx:x∈X8 c):∃ i f:Nat,x=(i:Int)∧((i:Int),(f:Int))∈c.2.2.1∧Zw 0 c.2.2.1 x=(f:Int)∧Okf N B n t c i f:=by
 have:=(Wu c).mem_iff.1 hx
 obtain ⟨p,hp,rfl⟩:=List.mem_map.1 this
 obtain ⟨i,f,e1,e2,ok⟩:=h.at (i:=p.1) (f:=p.2) hp
 have hp':((i:Int),(f:Int))∈c.2.2.1:=by rw [← e1,← e2]; exact hp
 exact ⟨i,f,e1,hp',by rw [e1]; exact Xl h.mnd hp',ok⟩
theorem Zao (z:Siz N B n) (h:CaI N B n t [] c L):∀(m j k:Nat) (acc:List Int),(X8 c).length=j+m→m<k→acc.length+m≤1000→Q14.l0 k c (X8 c) acc (j:Int)=some (acc ++ ((X8 c).drop j).filter (Uu c.2.1 c.2.2.1))
 | 0,j,k+1,acc,hj,hk,ha=>by
  have hl:(X8 c).length≤64:=by rw [(Wu c).length_eq,List.length_map]; have:=h.used; have:=z.h64; omega
  rw [Q14.l0,if_neg (by simp only [decide_eq_true_eq]; omega),List.drop_eq_nil_of_le (by omega)]; simp
 | m+1,j,k+1,acc,hj,hk,ha=>by
  have hl:(X8 c).length≤64:=by rw [(Wu c).length_eq,List.length_map]; have:=h.used; have:=z.h64; omega
  have hjl:j<(X8 c).length:=by omega
  obtain ⟨i,f,e1,hp,e2,ok⟩:=Zex h (x:=(X8 c).getD j default) (Vb hjl)
  have hf:=ok.hf
  have hfl:=h.frl
  rw [Q14.l0,if_pos (decide_eq_true (by omega)),if_pos (by omega),Yf,e2,if_pos (by omega),Y4 hjl,List.filter_cons]
  have hd:Uu c.2.1 c.2.2.1 ((X8 c).getD j default)=(gt c.2.1 (f:Int)).2.2.1:=by unfold Uu; rw [e2]
  rw [hd]
  by_cases q:(gt c.2.1 (f:Int)).2.2.1=true
  ·rw [if_pos q,if_pos q,if_pos (by simp only [List.length_singleton]; omega),Yp (by omega),Zao z h m (j+1) k _ (by omega) (by omega) (by rw [List.length_append,List.length_singleton]; omega),List.append_assoc]; rfl
  ·rw [if_neg q,if_neg q,Yp (by omega),Zao z h m (j+1) k _ (by omega) (by omega) (by omega)]
def Vg (c:Ca):List Int:=(X8 c).filter (Uu c.2.1 c.2.2.1)
theorem Zli (z:Siz N B n) (h:CaI N B n t [] c L) {k:Nat} (hk:100<k):Q14.f k c=some (Vg c):=by
 have hl:(X8 c).length≤64:=by rw [(Wu c).length_eq,List.length_map]; have:=h.used; have:=z.h64; omega
 unfold Q14.f Q23.f
 rw [Option.bind_some,if_neg (by simp),Zkj z h,Option.bind_some]
 exact Zao z h (X8 c).length 0 k [] (by omega) (by omega) (by simp; omega)
theorem Gg (z:Siz N B n) (h:CaI N B n t [] c L):(Vg c).length≤n:=by
 have h1:=List.length_filter_le (Uu c.2.1 c.2.2.1) (X8 c)
 have h2:(X8 c).length=c.2.2.1.length:=by rw [(Wu c).length_eq,List.length_map]
 have h3:=h.used
 unfold Vg
 omega
def cR (kd:Int):Nat:=if kd=0∨kd=1 then 1 else 0
def cW (n:Nat) (kd:Int):Nat:=if kd=0∨kd=1∨kd=2 then 1 else if kd=8 then n else 0
theorem Costs.le {a a' b b' t':Nat} {c c':Ca} (h:Costs N B n t a b c c') (ht:t≤t') (ha:a≤a') (hb:b≤b'):Costs N B n t' a' b' c c':=
 ⟨by obtain ⟨L,hL⟩:=h.inv; exact ⟨L,hL.mono ht⟩,by have:=h.rd; omega,by have:=h.wr; omega⟩
theorem Zl5 (z:Siz N B n) {img:List Int} (hl:img.length=N*B) (s:Int×Int) {ch:Chn} (hc:ChI n ch []):CaI N B n 0 [] (((B:Int),img,s),List.replicate n (0,[],false,0),[],(List.range n).map (fun(i:Nat)=>(i:Int)),ch) []:=by
 refine ⟨rfl,hl,by simp,by simp,by simp,fun x hx=>?_,?_,by simp,by simp,hc,by simp⟩
 ·obtain ⟨i,hi,rfl⟩:=List.mem_map.1 hx
  exact ⟨i,rfl,List.mem_range.1 hi⟩
 ·exact List.Pairwise.map _ (fun a b hne e=>hne (by have:(a:Int)=(b:Int):=e; omega)) List.nodup_range
end
structure Fm where
 b:List Int
 d:Bool
 p:Nat
structure MC where
 img:List Int
 rd:Int
 wr:Int
 fr:Nat→Option Fm
 used:Nat
 row:List Nat
def upd {α:Type} (g:Nat→α) (i:Nat) (v:α):Nat→α:=fun j=>if j=i then v else g j
theorem Yu {α:Type} (g:Nat→α) (i:Nat) (v:α):upd g i v i=v:=if_pos rfl
theorem Yz {α:Type} {g:Nat→α} {i j:Nat} {v:α} (h:j≠i):upd g i v j=g j:=if_neg h
def fm (x:Fr8):Fm:=⟨x.2.1,x.2.2.1,x.2.2.2.toNat⟩
def Xi (c:Ca) (i:Nat):Option Fm:=if Y2 c.2.2.1 (i:Int)=true then some (fm (c.2.1.getD (Zw 0 c.2.2.1 (i:Int)).toNat default)) else none
def Xn (c:Ca) (f:Nat):Nat:=(c.2.1.getD f default).1.toNat
def Ya (c:Ca) (L:List Nat):MC:=⟨c.1.2.1,c.1.2.2.1,c.1.2.2.2,Xi c,c.2.2.1.length,L.map (Xn c)⟩
namespace MC
def evict (B:Nat) (m:MC) (q:Nat):MC:=match m.fr q with
 | none=>m
 | some x=>⟨if x.d=true then patch m.img (q*B) B x.b else m.img,m.rd,if x.d=true then m.wr+1 else m.wr,upd m.fr q none,m.used - 1,m.row.erase q⟩
def room (B n:Nat) (m:MC):Option MC:=if m.used<n then some m else match m.row.getLast? with
 | none=>none
 | some q=>some (m.evict B q)
def come (m:MC) (i:Nat) (x:Fm):MC:=⟨m.img,m.rd,m.wr,upd m.fr i (some x),m.used+1,m.row⟩
def put (m:MC) (i:Nat) (x:Fm):MC:=⟨m.img,m.rd,m.wr,upd m.fr i (some x),m.used,m.row⟩
def cut (m:MC) (i:Nat):MC:=⟨m.img,m.rd,m.wr,m.fr,m.used,m.row.erase i⟩
def pin (N B n:Nat) (m:MC) (i:Nat):Int×MC:=
 if N≤i then (4,m) else match m.fr i with
 | some x=>(0,(m.put i ⟨x.b,x.d,x.p+1⟩).cut i)
 | none=>match m.room B n with
  | none=>(7,m)
  | some k=>(0,(⟨k.img,k.rd+1,k.wr,k.fr,k.used,k.row⟩:MC).come i ⟨blk k.img B i,false,1⟩)
def fresh (N B n:Nat) (m:MC) (i:Nat):Int×MC:=
 if N≤i then (4,m) else match m.fr i with
 | some x=>if 0<x.p then (8,m) else (0,(m.put i ⟨List.replicate B 0,true,1⟩).cut i)
 | none=>match m.room B n with
  | none=>(7,m)
  | some k=>(0,k.come i ⟨List.replicate B 0,true,1⟩)
def unpin (m:MC) (i:Nat):Int×MC:=match m.fr i with
 | none=>(8,m)
 | some x=>if x.p=0 then (8,m) else (0,if x.p=1 then ⟨m.img,m.rd,m.wr,upd m.fr i (some ⟨x.b,x.d,0⟩),m.used,i :: m.row⟩ else m.put i ⟨x.b,x.d,x.p - 1⟩)
def write (B:Nat) (m:MC) (i:Nat) (b:List Int):Int×MC:=match m.fr i with
 | none=>(8,m)
 | some x=>if x.p=0 then (8,m) else if b.length=B then (0,m.put i ⟨b,true,x.p⟩) else (3,m)
def read (m:MC) (i:Nat):List Int×Int:=match m.fr i with
 | none=>([],8)
 | some x=>if x.p=0 then ([],8) else (x.b,0)
def drop (m:MC) (i:Nat):Int×MC:=match m.fr i with
 | none=>(0,m)
 | some x=>if 0<x.p then (8,m) else (0,⟨m.img,m.rd,m.wr,upd m.fr i none,m.used - 1,m.row.erase i⟩)
def isD (m:MC) (i:Nat):Bool:=match m.fr i with
 | none=>false
 | some x=>x.d
def dirty (N:Nat) (m:MC):List Nat:=(List.range N).filter m.isD
def backI (B:Nat) (m:MC) (i:Nat):MC:=match m.fr i with
 | none=>m
 | some x=>⟨patch m.img (i*B) B x.b,m.rd,m.wr+1,upd m.fr i (some ⟨x.b,false,x.p⟩),m.used,m.row⟩
def flush (N B:Nat) (m:MC):MC:=(m.dirty N).foldl (backI B) m
def pins (m:MC) (i:Nat):Int:=match m.fr i with
 | none=>0
 | some x=>x.p
end MC
theorem MC.ext' {a b:MC} (h1:a.img=b.img) (h2:a.rd=b.rd) (h3:a.wr=b.wr) (h4:∀ i,a.fr i=b.fr i) (h5:a.used=b.used) (h6:a.row=b.row):a=b:=by
 cases a; cases b
 simp only at h1 h2 h3 h4 h5 h6
 subst h1 h2 h3 h5 h6
 have:=funext h4
 subst this
 rfl
theorem Bj {g:Nat→Nat}:∀ {L:List Nat} {a:Nat},(∀ x∈L,g x=g a→x=a)→(L.erase a).map g=(L.map g).erase (g a)
 | [],_,_=>rfl
 | x :: L,a,h=>by
  rw [List.map_cons,List.erase_cons,List.erase_cons]
  by_cases q:x=a
  ·subst q; simp
  ·have:¬ g x=g a:=fun e=>q (h x (by simp) e)
   simp only [beq_iff_eq,q,this,if_false,List.map_cons]
   rw [Bj fun y hy=>h y (by simp [hy])]
section
variable {N B n t:Nat} {H:List Nat} {c:Ca} {L:List Nat}
theorem X1 (h:CaI N B n t H c L) {i f:Nat} (ha:((i:Int),(f:Int))∈c.2.2.1):Xi c i=some (fm (c.2.1.getD f default)):=by
 unfold Xi
 rw [if_pos (mhas_iff.2 ⟨_,ha⟩),Xl h.mnd ha,Int.toNat_natCast]
theorem Vf {i:Nat} (h:∀ v,((i:Int),v)∉c.2.2.1):Xi c i=none:=by
 unfold Xi
 rw [if_neg fun q=>by obtain ⟨v,hv⟩:=mhas_iff.1 q; exact h v hv]
theorem Wy (h:CaI N B n t [] c L) {f:Nat} (hf:f∈L):∃ i:Nat,((i:Int),(f:Int))∈c.2.2.1∧Xn c f=i∧(c.2.1.getD f default).2.2.2=0∧Okf N B n t c i f:=by
 obtain ⟨⟨j,hj⟩,hp⟩:=(h.lok f).1 hf
 obtain ⟨i,f',e1,e2,ok⟩:=h.at hj
 have:f=f':=by omega
 subst this
 refine ⟨i,by rw [← e1]; exact hj,?_,hp,ok⟩
 unfold Xn
 rw [ok.blk,Int.toNat_natCast]
theorem Us (h:CaI N B n t H c L) {i f:Nat} (ha:((i:Int),(f:Int))∈c.2.2.1):Xn c f=i:=by
 unfold Xn; rw [(h.atN ha).blk,Int.toNat_natCast]
theorem Bl (h:CaI N B n t H c L) {i f f':Nat} (h1:((i:Int),(f:Int))∈c.2.2.1) (h2:((i:Int),(f':Int))∈c.2.2.1):f=f':=by
 have a1:=Xl (d:=0) h.mnd h1
 have a2:=Xl (d:=0) h.mnd h2
 omega
theorem Ub (h:CaI N B n t [] c L) {i f:Nat} (ha:((i:Int),(f:Int))∈c.2.2.1):(L.erase f).map (Xn c)=(L.map (Xn c)).erase i:=by
 have e:=Us h ha
 conv=>rhs; rw [← e]
 refine Bj fun x hx q=>?_
 obtain ⟨j,hj,e2,_⟩:=Wy h hx
 have:j=i:=by omega
 subst this
 exact Bl h hj ha
theorem Zk4 (h:CaI N B n t [] c L) {i f:Nat} (ha:((i:Int),(f:Int))∈c.2.2.1):i∈L.map (Xn c)↔f∈L:=by
 constructor
 ·intro q
  obtain ⟨x,hx,e⟩:=List.mem_map.1 q
  obtain ⟨j,hj,e2,_⟩:=Wy h hx
  have:j=i:=by omega
  subst this
  rw [← Bl h hj ha]; exact hx
 ·intro q
  exact List.mem_map.2 ⟨f,q,Us h ha⟩
theorem Zch {f:Nat} {x:Fr8} (hf:f<c.2.1.length) {d:Dv} {mp:List (Int×Int)} {E:List Int} {ch:Chn} (k:Nat):Xn (d,c.2.1.set f x,mp,E,ch) k=if f=k then x.1.toNat else Xn c k:=by
 unfold Xn
 try dsimp only
 rw [Y8 hf]
 split <;> rfl
theorem X7 {f:Nat} {x:Fr8} (hf:f<c.2.1.length) (hx:x.1.toNat=Xn c f) {d:Dv} {mp:List (Int×Int)} {E:List Int} {ch:Chn} (M:List Nat):M.map (Xn (d,c.2.1.set f x,mp,E,ch))=M.map (Xn c):=List.map_congr_left fun k _=>by
 rw [Zch hf]
 split
 ·rename_i q; rw [hx,q]
 ·rfl
theorem Vn {f:Nat} {x:Fr8} (hf:f<c.2.1.length) {d:Dv} {mp:List (Int×Int)} {E:List Int} {ch:Chn} {M:List Nat} (hM:f∉M):M.map (Xn (d,c.2.1.set f x,mp,E,ch))=M.map (Xn c):=List.map_congr_left fun k hk=>by
 rw [Zch hf,if_neg fun q=>hM (by rw [q]; exact hk)]
theorem Vr (h:CaI N B n t H c L) {i f:Nat} (ha:((i:Int),(f:Int))∈c.2.2.1) {x:Fr8} {d:Dv} {E:List Int} {ch:Chn} (j:Nat):Xi (d,c.2.1.set f x,c.2.2.1,E,ch) j=upd (Xi c) i (some (fm x)) j:=by
 have ok:=h.atN ha
 have hfl:f<c.2.1.length:=by rw [h.frl]; exact ok.hf
 by_cases q:j=i
 ·subst q
  rw [Yu]
  unfold Xi
  try dsimp only
  rw [if_pos (mhas_iff.2 ⟨_,ha⟩),Xl h.mnd ha,Int.toNat_natCast,Y8 hfl,if_pos rfl]
 ·rw [Yz q]
  unfold Xi
  try dsimp only
  split
  ·rename_i hm
   obtain ⟨v,hv⟩:=mhas_iff.1 hm
   obtain ⟨j',f',e1,rfl,ok'⟩:=h.at hv
   have e3:j=j':=by omega
   subst e3
   rw [Xl h.mnd hv,Int.toNat_natCast,Y8 hfl,if_neg]
   intro e; subst e; exact q (h.one hv ha)
  ·rfl
theorem Zc4 (h:CaI N B n t H c L) (i j:Nat):Y2 (Xs (i:Int) c.2.2.1) (j:Int)=(Y2 c.2.2.1 (j:Int) && decide (j≠i)):=by
 rw [Bool.eq_iff_iff,mhas_iff,Bool.and_eq_true,mhas_iff,decide_eq_true_eq]
 constructor
 ·rintro ⟨v,hv⟩
  rw [Vs h.mnd] at hv
  exact ⟨⟨v,hv.1⟩,fun e=>hv.2 (by rw [e])⟩
 ·rintro ⟨⟨v,hv⟩,e⟩
  exact ⟨v,(Vs h.mnd).2 ⟨hv,fun q=>e (by have:(j:Int)=i:=q; omega)⟩⟩
theorem J7 (h:CaI N B n t H c L) {i f:Nat} (ha:((i:Int),(f:Int))∈c.2.2.1) {x:Fr8} {d:Dv} {E:List Int} {ch:Chn} (j:Nat):Xi (d,c.2.1.set f x,Xs (i:Int) c.2.2.1,E,ch) j=upd (Xi c) i none j:=by
 have ok:=h.atN ha
 have hfl:f<c.2.1.length:=by rw [h.frl]; exact ok.hf
 by_cases q:j=i
 ·subst q
  rw [Yu]
  unfold Xi
  try dsimp only
  rw [if_neg (by rw [Zc4 h]; simp)]
 ·rw [Yz q]
  unfold Xi
  try dsimp only
  rw [Zc4 h]
  by_cases hm:Y2 c.2.2.1 (j:Int)=true
  ·obtain ⟨v,hv⟩:=mhas_iff.1 hm
   obtain ⟨j',f',e1,rfl,ok'⟩:=h.at hv
   have e3:j=j':=by omega
   subst e3
   have hv':((j:Int),(f':Int))∈Xs (i:Int) c.2.2.1:=(Vs h.mnd).2 ⟨hv,fun e=>q (by have:(j:Int)=i:=e; omega)⟩
   rw [if_pos (by rw [hm]; simp [q]),if_pos hm,Xl ((mdel_sub.map _).nodup h.mnd) hv',Xl h.mnd hv,Int.toNat_natCast,Y8 hfl,if_neg]
   intro e; subst e; exact q (h.one hv ha)
  ·rw [if_neg hm,if_neg (by simp [hm])]
theorem Zcz {f:Nat} (h:CaI N B n t [f] c L) {i:Nat} (hno:∀ v,((i:Int),v)∉c.2.2.1) {x:Fr8} {d:Dv} {E:List Int} {ch:Chn} (j:Nat):Xi (d,c.2.1.set f x,c.2.2.1 ++ [((i:Int),(f:Int))],E,ch) j=upd (Xi c) i (some (fm x)) j:=by
 obtain ⟨hf,hfe,hfm⟩:=h.hol f (by simp)
 have hfl:f<c.2.1.length:=by rw [h.frl]; exact hf
 have hnd:((c.2.2.1 ++ [((i:Int),(f:Int))]).map Prod.fst).Nodup:=by
  rw [List.map_append,List.nodup_append]
  refine ⟨h.mnd,by simp,fun a ha b hb e=>?_⟩
  obtain ⟨p,hp,rfl⟩:=List.mem_map.1 ha
  simp only [List.map_cons,List.map_nil,List.mem_singleton] at hb
  exact hno p.2 (by rw [← hb,← e]; exact hp)
 unfold Xi
 try dsimp only
 by_cases q:j=i
 ·subst q
  have hv:((j:Int),(f:Int))∈c.2.2.1 ++ [((j:Int),(f:Int))]:=by simp
  rw [Yu,if_pos (mhas_iff.2 ⟨_,hv⟩),Xl hnd hv,Int.toNat_natCast,Y8 hfl,if_pos rfl]
 ·rw [Yz q]
  by_cases hm:Y2 c.2.2.1 (j:Int)=true
  ·obtain ⟨v,hv⟩:=mhas_iff.1 hm
   obtain ⟨j',f',e1,rfl,ok'⟩:=h.at hv
   have e3:j=j':=by omega
   subst e3
   have hv':((j:Int),(f':Int))∈c.2.2.1 ++ [((i:Int),(f:Int))]:=by simp [hv]
   rw [if_pos (mhas_iff.2 ⟨_,hv'⟩),if_pos hm,Xl hnd hv',Xl h.mnd hv,Int.toNat_natCast,Y8 hfl,if_neg]
   intro e; subst e; exact hfm _ hv
  ·rw [if_neg hm,if_neg]
   intro hm2
   obtain ⟨v,hv⟩:=mhas_iff.1 hm2
   rcases List.mem_append.1 hv with hv | hv
   ·exact hm (mhas_iff.2 ⟨v,hv⟩)
   ·rw [List.mem_singleton,Prod.mk.injEq] at hv
    exact q (by omega)
theorem Zkf (h:CaI N B n t H c L) {i:Nat} {x:Fm} (hx:Xi c i=some x):i<N∧x.b.length=B∧x.p≤t:=by
 unfold Xi at hx
 split at hx
 ·rename_i hm
  obtain ⟨v,hv⟩:=mhas_iff.1 hm
  obtain ⟨j',f',e1,rfl,ok'⟩:=h.at hv
  have e3:i=j':=by omega
  subst e3
  rw [Xl h.mnd hv,Int.toNat_natCast] at hx
  injection hx with hx
  subst hx
  refine ⟨ok'.hi,ok'.len,?_⟩
  have:=ok'.pin
  unfold fm
  try dsimp only
  omega
 ·cases hx
end
namespace MC
section
variable {N B n i:Nat} {m k:MC} {x:Fm} {b:List Int}
theorem pin_out (h:N≤i):m.pin N B n i=(4,m):=by unfold pin; rw [if_pos h]
theorem pin_hit (h:¬ N≤i) (e:m.fr i=some x):m.pin N B n i=(0,(m.put i ⟨x.b,x.d,x.p+1⟩).cut i):=by unfold pin; rw [if_neg h,e]
theorem pin_full (h:¬ N≤i) (e:m.fr i=none) (r:m.room B n=none):m.pin N B n i=(7,m):=by unfold pin; rw [if_neg h,e,r]
theorem pin_miss (h:¬ N≤i) (e:m.fr i=none) (r:m.room B n=some k):m.pin N B n i=(0,(⟨k.img,k.rd+1,k.wr,k.fr,k.used,k.row⟩:MC).come i ⟨blk k.img B i,false,1⟩):=by unfold pin; rw [if_neg h,e,r]
theorem fresh_out (h:N≤i):m.fresh N B n i=(4,m):=by unfold fresh; rw [if_pos h]
theorem fresh_pin (h:¬ N≤i) (e:m.fr i=some x) (p:0<x.p):m.fresh N B n i=(8,m):=by unfold fresh; rw [if_neg h,e]; exact if_pos p
theorem fresh_hit (h:¬ N≤i) (e:m.fr i=some x) (p:¬ 0<x.p):m.fresh N B n i=(0,(m.put i ⟨List.replicate B 0,true,1⟩).cut i):=by unfold fresh; rw [if_neg h,e]; exact if_neg p
theorem fresh_full (h:¬ N≤i) (e:m.fr i=none) (r:m.room B n=none):m.fresh N B n i=(7,m):=by unfold fresh; rw [if_neg h,e,r]
theorem fresh_miss (h:¬ N≤i) (e:m.fr i=none) (r:m.room B n=some k):m.fresh N B n i=(0,k.come i ⟨List.replicate B 0,true,1⟩):=by unfold fresh; rw [if_neg h,e,r]
theorem unpin_no (e:m.fr i=none):m.unpin i=(8,m):=by unfold unpin; rw [e]
theorem unpin_out (e:m.fr i=some x) (p:x.p=0):m.unpin i=(8,m):=by unfold unpin; rw [e]; exact if_pos p
theorem unpin_one (e:m.fr i=some x) (p:x.p=1):m.unpin i=(0,⟨m.img,m.rd,m.wr,upd m.fr i (some ⟨x.b,x.d,0⟩),m.used,i :: m.row⟩):=by unfold unpin; rw [e]; dsimp only; rw [if_neg (by omega),if_pos p]
theorem unpin_more (e:m.fr i=some x) (p:x.p≠0) (q:x.p≠1):m.unpin i=(0,m.put i ⟨x.b,x.d,x.p - 1⟩):=by unfold unpin; rw [e]; dsimp only; rw [if_neg p,if_neg q]
theorem write_no (e:m.fr i=none):m.write B i b=(8,m):=by unfold write; rw [e]
theorem write_out (e:m.fr i=some x) (p:x.p=0):m.write B i b=(8,m):=by unfold write; rw [e]; exact if_pos p
theorem write_form (e:m.fr i=some x) (p:x.p≠0) (q:b.length≠B):m.write B i b=(3,m):=by unfold write; rw [e]; dsimp only; rw [if_neg p,if_neg q]
theorem write_hit (e:m.fr i=some x) (p:x.p≠0) (q:b.length=B):m.write B i b=(0,m.put i ⟨b,true,x.p⟩):=by unfold write; rw [e]; dsimp only; rw [if_neg p,if_pos q]
theorem read_no (e:m.fr i=none):m.read i=([],8):=by unfold read; rw [e]
theorem read_out (e:m.fr i=some x) (p:x.p=0):m.read i=([],8):=by unfold read; rw [e]; exact if_pos p
theorem read_hit (e:m.fr i=some x) (p:x.p≠0):m.read i=(x.b,0):=by unfold read; rw [e]; exact if_neg p
theorem drop_no (e:m.fr i=none):m.drop i=(0,m):=by unfold drop; rw [e]
theorem drop_pin (e:m.fr i=some x) (p:0<x.p):m.drop i=(8,m):=by unfold drop; rw [e]; exact if_pos p
theorem drop_hit (e:m.fr i=some x) (p:¬ 0<x.p):m.drop i=(0,⟨m.img,m.rd,m.wr,upd m.fr i none,m.used - 1,m.row.erase i⟩):=by unfold drop; rw [e]; exact if_neg p
theorem evict_eq (e:m.fr i=some x):m.evict B i=⟨if x.d=true then patch m.img (i*B) B x.b else m.img,m.rd,if x.d=true then m.wr+1 else m.wr,upd m.fr i none,m.used - 1,m.row.erase i⟩:=by unfold evict; rw [e]
end
end MC
section
variable {N B n t:Nat} {H:List Nat} {c:Ca} {L:List Nat}
theorem Zkw {α:Type} (g:Nat→α) (i:Nat) (u v:α) (j:Nat):upd (upd g i u) i v j=upd g i v j:=by unfold upd; split <;> rfl
theorem Zho {α:Type} {g g':Nat→α} (h:∀ j,g j=g' j) (i:Nat) (v:α) (j:Nat):upd g i v j=upd g' i v j:=by unfold upd; split; rfl; exact h j
theorem Bq (h:CaI N B n t [] c L) (f:Nat):f∉L.erase f:=fun q=>(h.chn.nd.mem_erase_iff.1 q).1 rfl
theorem Zjy (z:Siz N B n) (h:CaI N B n t [] c L) (hw:0≤c.1.2.2.2∧c.1.2.2.2≤1000000000):(Q24.f c=some (0,false,c)∧(Ya c L).room B n=none)∨
  ∃(f:Nat) (c':Ca) (L':List Nat),Q24.f c=some ((f:Int),true,c')∧CaI N B n t [f] c' L'∧(Ya c L).room B n=some (Ya c' L')∧f∉L':=by
 have h64:=z.h64
 have htot:=h.tot
 have hfl:=h.frl
 have wr:IntKind.u64.wrap (c.1.2.2.2+1)=c.1.2.2.2+1:=Zgc hw
 have hru:(Ya c L).used=c.2.2.1.length:=rfl
 by_cases he:c.2.2.2.1=[]
 ·have e0:(decide ((c.2.2.2.1.length:Int)=0))=true:=by rw [he]; rfl
  have eu:¬ (Ya c L).used<n:=by rw [hru]; rw [he] at htot; simp only [List.length_nil] at htot; omega
  rcases List.eq_nil_or_concat L with rfl | ⟨L0,q,hq⟩
  ·left
   refine ⟨?_,?_⟩
   ·unfold Q24.f
    rw [if_pos e0,show Q28.f (c.2.2.2.2.1,c.2.2.2.2.2)=_ from Zck h.chn,Option.bind_some,if_pos (by simp)]
   ·unfold MC.room
    rw [if_neg eu]
    rfl
  ·right
   rw [List.concat_eq_append] at hq
   subst hq
   obtain ⟨⟨j,hj⟩,hp⟩:=(h.lok q).1 (by simp)
   obtain ⟨i,q',rfl,e2,ok⟩:=h.at hj
   have:q=q':=by omega
   subst this
   have hf:=ok.hf
   have hqn:q∉(L0 ++ [q]).erase q:=Bq h q
   have hfr:=X1 h hj
   have g:gt c.2.1 (q:Int)=c.2.1.getD q default:=Yf _ _
   have hrm:(Ya c (L0 ++ [q])).room B n=some ((Ya c (L0 ++ [q])).evict B i):=by
    unfold MC.room
    rw [if_neg eu]
    have:(Ya c (L0 ++ [q])).row.getLast?=some i:=by
     show ((L0 ++ [q]).map (Xn c)).getLast?=_
     rw [List.map_append,List.map_cons,List.map_nil,List.getLast?_concat,Us h hj]
    rw [this]
   have hml:=Gd (mhas_iff.2 ⟨_,hj⟩)
   unfold Q24.f
   rw [if_pos e0,show Q28.f (c.2.2.2.2.1,c.2.2.2.2.2)=_ from Zj6 h.chn (by omega),Option.bind_some,if_neg (by simp)]
   try dsimp only
   rw [if_pos (by omega)]
   have one:w64 ((([] ++ [(q:Int)]:List Int).length:Int) - 1)=0:=by
    show w64 (((1:Nat):Int) - 1)=0
    decide
   rw [hrm,MC.evict_eq (show (Ya c (L0 ++ [q])).fr i=_ from hfr)]
   by_cases hd:(gt c.2.1 (q:Int)).2.2.1=true
   ·have hb:=h.back z hj (c.1.2.2.1,c.1.2.2.2+1)
    obtain ⟨ch,e,hl⟩:=G6 z hb (by exact hj)
    have hd':(fm (c.2.1.getD q default)).d=true:=by rw [← g]; exact hd
    rw [if_pos hd,show Q57.f (c.1.1,c.1.2.1,(c.1.2.2.1,c.1.2.2.2)) (gt c.2.1 (q:Int)).1 (gt c.2.1 (q:Int)).2.1=_ from Zeo z h hj,Option.bind_some]
    try dsimp only
    rw [wr,Int.toNat_natCast,show Q22.f ((c.1.1,patch c.1.2.1 (i*B) B (gt c.2.1 (q:Int)).2.1,c.1.2.2.1,c.1.2.2.2+1),c.2.1.set q ((gt c.2.1 (q:Int)).1,(gt c.2.1 (q:Int)).2.1,false,(gt c.2.1 (q:Int)).2.2.2),c.2.2.1,c.2.2.2.1,c.2.2.2.2.1,c.2.2.2.2.2) (q:Int)=_ from e,Option.bind_some]
    try dsimp only
    rw [he,one,if_pos (by simp),if_pos (by simp),if_pos hd',if_pos hd']
    refine ⟨q,_,(L0 ++ [q]).erase q,rfl,hl.take (E:=[]) (by dsimp only; rw [he]),congrArg some (MC.ext' ?_ rfl rfl ?_ ?_ ?_),hqn⟩
    ·show patch c.1.2.1 (i*B) B (fm (c.2.1.getD q default)).b=_
     rw [← g]; rfl
    ·intro j
     show upd (Xi c) i none j=_
     refine Eq.trans ?_ (J7 hb hj j).symm
     refine Eq.trans (Zkw (Xi c) i _ none j).symm (Zho (fun j=>(Vr h hj j).symm) i none j)
    ·show c.2.2.1.length - 1=(Xs (i:Int) c.2.2.1).length
     omega
    ·show ((L0 ++ [q]).map (Xn c)).erase i=_
     have hfl2:=hb.frl
     refine Eq.trans (Ub h hj).symm ?_
     refine Eq.trans ?_ (Vn (c:=((c.1.1,patch c.1.2.1 (i*B) B (gt c.2.1 (q:Int)).2.1,c.1.2.2.1,c.1.2.2.2+1),c.2.1.set q ((gt c.2.1 (q:Int)).1,(gt c.2.1 (q:Int)).2.1,false,(gt c.2.1 (q:Int)).2.2.2),c.2.2)) (by rw [hfl2]; exact hf) hqn).symm
     exact (X7 (by omega) (by rw [g]; rfl) _).symm
   ·obtain ⟨ch,e,hl⟩:=G6 z h hj
    have hd':¬ (fm (c.2.1.getD q default)).d=true:=by rw [← g]; exact hd
    rw [if_neg hd,show Q22.f ((c.1.1,c.1.2.1,(c.1.2.2.1,c.1.2.2.2)),c.2.1,c.2.2.1,c.2.2.2.1,(c.2.2.2.2.1,c.2.2.2.2.2)) (q:Int)=_ from e,Option.bind_some]
    try dsimp only
    rw [he,one,if_pos (by simp),if_pos (by simp),if_neg hd',if_neg hd']
    refine ⟨q,_,(L0 ++ [q]).erase q,rfl,hl.take (E:=[]) (by dsimp only; rw [he]),congrArg some (MC.ext' rfl rfl rfl ?_ ?_ ?_),hqn⟩
    ·intro j
     exact (J7 h hj j).symm
    ·show c.2.2.1.length - 1=(Xs (i:Int) c.2.2.1).length
     omega
    ·show ((L0 ++ [q]).map (Xn c)).erase i=_
     refine Eq.trans (Ub h hj).symm ?_
     exact (Vn (by omega) hqn).symm
 ·right
  obtain ⟨E,x,hx⟩:∃ E x,c.2.2.2.1=E ++ [x]:=by
   rcases List.eq_nil_or_concat c.2.2.2.1 with e | ⟨E,x,e⟩
   ·exact absurd e he
   ·exact ⟨E,x,by rw [e,List.concat_eq_append]⟩
  obtain ⟨f,rfl,hf⟩:=h.emp x (by rw [hx]; simp)
  have hll:c.2.2.2.1.length=E.length+1:=by rw [hx]; simp
  have e1:w64 ((c.2.2.2.1.length:Int) - 1)=(E.length:Int):=by rw [Z1 (by omega) (by omega)]; omega
  unfold Q24.f
  rw [if_neg (by simp only [decide_eq_true_eq]; omega),e1,if_pos (by omega),if_pos (by omega),Int.toNat_natCast]
  have e2:gt c.2.2.2.1 (E.length:Int)=(f:Int):=by
   rw [Yf,hx,List.getD_eq_getElem?_getD,List.getElem?_append_right (Nat.le_refl _)]; simp
  have e3:c.2.2.2.1.take E.length=E:=by rw [hx,List.take_left]
  rw [e2,e3]
  refine ⟨f,_,L,rfl,h.take hx,?_,fun q=>?_⟩
  ·unfold MC.room
   rw [if_pos (by rw [hru]; omega)]
   rfl
  ·obtain ⟨i,hi,_,_,ok⟩:=Wy h q
   exact ok.emp (by rw [hx]; simp)
theorem Zll (z:Siz N B n) (h:CaI N B n t [] c L) (fw:Few c) (ht:t≤1000000) (i:Nat) (hi:i<4294967296):∃ c' L',Q18.f c (i:Int)=some (((Ya c L).pin N B n i).1,c')∧CaI N B n (t+1) [] c' L'∧Ya c' L'=((Ya c L).pin N B n i).2:=by
 have h64:=z.h64
 have hfl:=h.frl
 unfold Q18.f
 rw [show Q25.f ((c.1.1,c.1.2.1,(c.1.2.2.1,c.1.2.2.2)),c.2.1,c.2.2.1,c.2.2.2.1,(c.2.2.2.2.1,c.2.2.2.2.2)) (i:Int)=_ from Zhr z h i hi,Option.bind_some]
 by_cases q:N≤i
 ·rw [if_pos q,if_pos (by simp),MC.pin_out q]
  exact ⟨_,L,rfl,h.mono (Nat.le_succ t),rfl⟩
 ·rw [if_neg q,if_neg (by simp)]
  rcases h.get i with ⟨g1,g2⟩ | ⟨f,ha,g1,g2,ok⟩
  ·have hno:(Ya c L).fr i=none:=Vf g2
   rw [if_neg (by simp [g1])]
   rcases Zjy z h ⟨fw.wr.1,by have:=fw.wr.2; omega⟩ with ⟨e,er⟩ | ⟨f,c1,L1,e,h1,er,hfL⟩
   ·rw [show Q24.f ((c.1.1,c.1.2.1,(c.1.2.2.1,c.1.2.2.2)),c.2.1,c.2.2.1,c.2.2.2.1,(c.2.2.2.2.1,c.2.2.2.2.2))=_ from e,Option.bind_some,if_pos (by simp),MC.pin_full q hno er]
    exact ⟨_,L,rfl,h.mono (Nat.le_succ t),rfl⟩
   ·rcases Zj5 z h ⟨fw.wr.1,by have:=fw.wr.2; omega⟩ with e' | ⟨f',c1',L1',e',_,k1,k2,k3⟩
    ·rw [e] at e'; simp at e'
    ·rw [e] at e'
     simp only [Option.some.injEq,Prod.mk.injEq,true_and] at e'
     have ec:c1=c1':=e'.2
     subst ec
     obtain ⟨hf,hfe,hfm⟩:=h1.hol f (by simp)
     have hfl1:=h1.frl
     have hno1:∀ v,((i:Int),v)∉c1.2.2.1:=fun v hv=>g2 v (k3 _ hv)
     obtain ⟨r5,ch,e5,hc5⟩:=Zd5 h1.chn hf (by omega)
     rw [List.erase_of_not_mem hfL] at hc5
     rw [show Q24.f ((c.1.1,c.1.2.1,(c.1.2.2.1,c.1.2.2.2)),c.2.1,c.2.2.1,c.2.2.2.1,(c.2.2.2.2.1,c.2.2.2.2.2))=_ from e,Option.bind_some,if_neg (by simp)]
     try dsimp only
     rw [show Q55.f (c1.1.1,c1.1.2.1,(c1.1.2.2.1,c1.1.2.2.2)) (i:Int)=_ from Zlq z h1 (by omega),Option.bind_some,if_neg (by simp),if_pos (by omega),show Q26.f (c1.2.2.2.2.1,c1.2.2.2.2.2) (f:Int)=_ from e5,Option.bind_some]
     have hcm:=(h1.mono (Nat.le_succ t)).come (show i<N by omega) hno1 (x:=((i:Int),blk c1.1.2.1 B i,false,1)) rfl (Za6 h1.dim (by omega)) rfl (by omega) hc5
     try dsimp only
     rw [Zgc (by rw [k1]; have:=fw.rd; omega),Zc3 hno1,Int.toNat_natCast,MC.pin_miss q hno er]
     refine ⟨_,L1,rfl,hcm.dev (s:=(c1.1.2.2.1+1,c1.1.2.2.2)) h1.dim,MC.ext' rfl rfl rfl ?_ ?_ ?_⟩
     ·intro j; exact Zcz h1 hno1 j
     ·show (c1.2.2.1 ++ [((i:Int),(f:Int))]).length=c1.2.2.1.length+1
      simp
     ·exact Vn (by omega) hfL
  ·have hf:=ok.hf
   have hp:=ok.pin
   have hfr:(Ya c L).fr i=_:=X1 h ha
   obtain ⟨r2,ch,e2,hc2⟩:=Zd5 h.chn ok.hf (by omega)
   have g:gt c.2.1 (f:Int)=c.2.1.getD f default:=Yf _ _
   have wp:w64 ((c.2.1.getD f default).2.2.2+1)=(c.2.1.getD f default).2.2.2+1:=Z1 (by omega) (by omega)
   have hs:=h.setfr ha (x:=((gt c.2.1 (f:Int)).1,(gt c.2.1 (f:Int)).2.1,(gt c.2.1 (f:Int)).2.2.1,w64 ((gt c.2.1 (f:Int)).2.2.2+1))) (t':=t+1) (by rw [g]; exact ok.blk) (by rw [g]; exact ok.len) (by rw [g]; dsimp only; rw [wp]; omega) (Nat.le_succ t) hc2 (Zdc h (by rw [g]; dsimp only; rw [wp]; omega))
   rw [if_pos g1,g2,if_pos (by omega),show Q26.f (c.2.2.2.2.1,c.2.2.2.2.2) (f:Int)=_ from e2,Option.bind_some,Int.toNat_natCast,MC.pin_hit q hfr]
   refine ⟨_,L.erase f,rfl,hs,MC.ext' rfl rfl rfl (fun j=>?_) rfl ?_⟩
   ·refine Eq.trans (Vr h ha j) ?_
    show upd (Xi c) i _ j=upd (Xi c) i _ j
    congr 2
    unfold fm
    rw [g]
    try dsimp only
    rw [wp,show ((c.2.1.getD f default).2.2.2+1).toNat=(c.2.1.getD f default).2.2.2.toNat+1 by omega]
   ·exact Eq.trans (X7 (by omega) (by rw [g]; rfl) _) (Ub h ha)
theorem Zle (z:Siz N B n) (h:CaI N B n t [] c L) (fw:Few c) (ht:t≤1000000) (i:Nat) (hi:i<4294967296):∃ c' L',Q17.f c (i:Int)=some (((Ya c L).fresh N B n i).1,c')∧CaI N B n (t+1) [] c' L'∧Ya c' L'=((Ya c L).fresh N B n i).2:=by
 have h64:=z.h64
 have hB:=z.B_le
 have hfl:=h.frl
 have hsz:=h.dsz
 unfold Q17.f Q54.f
 rw [show Q25.f ((c.1.1,c.1.2.1,(c.1.2.2.1,c.1.2.2.2)),c.2.1,c.2.2.1,c.2.2.2.1,(c.2.2.2.2.1,c.2.2.2.2.2)) (i:Int)=_ from Zhr z h i hi,Option.bind_some]
 by_cases q:N≤i
 ·rw [if_pos q,if_pos (by simp),MC.fresh_out q]
  exact ⟨_,L,rfl,h.mono (Nat.le_succ t),rfl⟩
 ·rw [if_neg q,if_neg (by simp)]
  rcases h.get i with ⟨g1,g2⟩ | ⟨f,ha,g1,g2,ok⟩
  ·have hno:(Ya c L).fr i=none:=Vf g2
   rw [if_neg (by simp [g1]),if_pos (by simp [g1])]
   rcases Zjy z h ⟨fw.wr.1,by have:=fw.wr.2; omega⟩ with ⟨e,er⟩ | ⟨f,c1,L1,e,h1,er,hfL⟩
   ·rw [show Q24.f ((c.1.1,c.1.2.1,(c.1.2.2.1,c.1.2.2.2)),c.2.1,c.2.2.1,c.2.2.2.1,(c.2.2.2.2.1,c.2.2.2.2.2))=_ from e,Option.bind_some,if_pos (by simp),MC.fresh_full q hno er]
    exact ⟨_,L,rfl,h.mono (Nat.le_succ t),rfl⟩
   ·rcases Zj5 z h ⟨fw.wr.1,by have:=fw.wr.2; omega⟩ with e' | ⟨f',c1',L1',e',_,k1,k2,k3⟩
    ·rw [e] at e'; simp at e'
    ·rw [e] at e'
     simp only [Option.some.injEq,Prod.mk.injEq,true_and] at e'
     have ec:c1=c1':=e'.2
     subst ec
     obtain ⟨hf,hfe,hfm⟩:=h1.hol f (by simp)
     have hfl1:=h1.frl
     have hsz1:=h1.dsz
     have hno1:∀ v,((i:Int),v)∉c1.2.2.1:=fun v hv=>g2 v (k3 _ hv)
     obtain ⟨r5,ch,e5,hc5⟩:=Zd5 h1.chn hf (by omega)
     rw [List.erase_of_not_mem hfL] at hc5
     rw [show Q24.f ((c.1.1,c.1.2.1,(c.1.2.2.1,c.1.2.2.2)),c.2.1,c.2.2.1,c.2.2.2.1,(c.2.2.2.2.1,c.2.2.2.2.2))=_ from e,Option.bind_some,if_neg (by simp),Option.bind_some]
     try dsimp only
     rw [if_pos (by omega),if_pos (by omega),show Q26.f (c1.2.2.2.2.1,c1.2.2.2.2.2) (f:Int)=_ from e5,Option.bind_some]
     have hBt:c1.1.1.toNat=B:=by omega
     have hcm:=(h1.mono (Nat.le_succ t)).come (show i<N by omega) hno1 (x:=((i:Int),List.replicate c1.1.1.toNat (0:Int),true,1)) rfl (by rw [List.length_replicate]; omega) rfl (by omega) hc5
     try dsimp only
     rw [Zc3 hno1,Int.toNat_natCast,MC.fresh_miss q hno er]
     refine ⟨_,L1,rfl,hcm,MC.ext' rfl rfl rfl ?_ ?_ ?_⟩
     ·intro j
      refine Eq.trans (Zcz h1 hno1 j) ?_
      show upd (Xi c1) i (some ⟨List.replicate c1.1.1.toNat 0,true,1⟩) j=_
      rw [hBt]; rfl
     ·show (c1.2.2.1 ++ [((i:Int),(f:Int))]).length=c1.2.2.1.length+1
      simp
     ·exact Vn (by omega) hfL
  ·have hf:=ok.hf
   have hp:=ok.pin
   have hfr:(Ya c L).fr i=_:=X1 h ha
   have g:gt c.2.1 (f:Int)=c.2.1.getD f default:=Yf _ _
   rw [if_pos g1,g2,if_pos (by omega)]
   by_cases hpp:0<(gt c.2.1 (f:Int)).2.2.2
   ·rw [if_pos (decide_eq_true hpp),MC.fresh_pin q hfr (by unfold fm; dsimp only; rw [g] at hpp; omega)]
    exact ⟨_,L,rfl,h.mono (Nat.le_succ t),rfl⟩
   ·obtain ⟨r2,ch,e2,hc2⟩:=Zd5 h.chn ok.hf (by omega)
    have hBt:c.1.1.toNat=B:=by omega
    have hs:=h.setfr ha (x:=((i:Int),List.replicate c.1.1.toNat (0:Int),true,1)) (t':=t+1) rfl (by rw [List.length_replicate]; omega) (by dsimp only; omega) (Nat.le_succ t) hc2 (Zdc h (show (1:Int)≠0 by decide))
    rw [if_neg (by simpa using hpp),if_neg (by simp [g1]),Option.bind_some,if_pos (by omega),show Q26.f (c.2.2.2.2.1,c.2.2.2.2.2) (f:Int)=_ from e2,Option.bind_some,Int.toNat_natCast,Zcv h.mnd ha,MC.fresh_hit q hfr (by unfold fm; dsimp only; rw [g] at hpp; omega)]
    try rw [if_pos (show 0≤(f:Int)∧(f:Int)<(c.2.1.length:Int) by omega)]
    refine ⟨_,L.erase f,rfl,hs,MC.ext' rfl rfl rfl (fun j=>?_) rfl ?_⟩
    ·refine Eq.trans (Vr h ha j) ?_
     show upd (Xi c) i (some ⟨List.replicate c.1.1.toNat 0,true,1⟩) j=_
     rw [hBt]; rfl
    ·exact Eq.trans (X7 (by omega) (by rw [Us h ha]; rfl) _) (Ub h ha)
theorem Za9 (z:Siz N B n) (h:CaI N B n t [] c L) (ht:t≤1000000) (i:Nat):∃ c' L',Q20.f c (i:Int)=some (((Ya c L).unpin i).1,c')∧CaI N B n t [] c' L'∧Ya c' L'=((Ya c L).unpin i).2:=by
 have h64:=z.h64
 have hfl:=h.frl
 unfold Q20.f Q23.f
 rw [Option.bind_some,if_neg (by simp)]
 rcases h.get i with ⟨g1,g2⟩ | ⟨f,ha,g1,g2,ok⟩
 ·rw [if_pos (by simp [g1]),MC.unpin_no (show (Ya c L).fr i=none from Vf g2)]
  exact ⟨_,L,rfl,h,rfl⟩
 ·have hf:=ok.hf
  have hp:=ok.pin
  have hfr:(Ya c L).fr i=_:=X1 h ha
  have g:gt c.2.1 (f:Int)=c.2.1.getD f default:=Yf _ _
  rw [if_neg (by simp [g1]),g2,if_pos (by omega)]
  by_cases hp0:(gt c.2.1 (f:Int)).2.2.2=0
  ·rw [if_pos (decide_eq_true hp0),MC.unpin_out hfr (by unfold fm; dsimp only; rw [← g,hp0]; rfl)]
   exact ⟨_,L,rfl,h,rfl⟩
  ·have wp:w64 ((gt c.2.1 (f:Int)).2.2.2 - 1)=(gt c.2.1 (f:Int)).2.2.2 - 1:=by rw [g]; exact Z1 (by omega) (by omega)
   have hp1:0<(gt c.2.1 (f:Int)).2.2.2:=by rw [g] at hp0 ⊢; omega
   have hp2:(gt c.2.1 (f:Int)).2.2.2≤t:=by rw [g]; omega
   have hset:gt (c.2.1.set f ((gt c.2.1 (f:Int)).1,(gt c.2.1 (f:Int)).2.1,(gt c.2.1 (f:Int)).2.2.1,w64 ((gt c.2.1 (f:Int)).2.2.2 - 1))) (f:Int)=((gt c.2.1 (f:Int)).1,(gt c.2.1 (f:Int)).2.1,(gt c.2.1 (f:Int)).2.2.1,w64 ((gt c.2.1 (f:Int)).2.2.2 - 1)):=by
    rw [Yf,Y8 (by omega),if_pos rfl]
   have hfL:f∉L:=fun hx=>by have:=((h.lok f).1 hx).2; rw [← g] at this; omega
   have hx0:(fm (c.2.1.getD f default)).p=(c.2.1.getD f default).2.2.2.toNat:=rfl
   rw [if_neg (by simpa using hp0),Int.toNat_natCast,hset,wp]
   by_cases hp3:(gt c.2.1 (f:Int)).2.2.2 - 1=0
   ·obtain ⟨ch,e2,hc2⟩:=Zl0 h.chn ok.hf hfL (by omega)
    rw [if_pos (decide_eq_true hp3),show Q27.f (c.2.2.2.2.1,c.2.2.2.2.2) (f:Int)=_ from e2,Option.bind_some,MC.unpin_one hfr (by rw [hx0,← g]; omega)]
    have hs:=h.setfr ha (x:=((gt c.2.1 (f:Int)).1,(gt c.2.1 (f:Int)).2.1,(gt c.2.1 (f:Int)).2.2.1,(gt c.2.1 (f:Int)).2.2.2 - 1)) (t':=t) (by rw [g]; exact ok.blk) (by rw [g]; exact ok.len) (by dsimp only; omega) (Nat.le_refl t) hc2 (fun k=>by
     rw [List.mem_cons]
     split
     ·rename_i e; exact ⟨fun _=>hp3,fun _=>.inl e⟩
     ·rename_i e; exact ⟨fun q=>q.elim (fun e'=>absurd e' e) id,.inr⟩)
    refine ⟨_,f :: L,rfl,hs,MC.ext' rfl rfl rfl (fun j=>?_) rfl ?_⟩
    ·refine Eq.trans (Vr h ha j) ?_
     show upd (Xi c) i _ j=upd (Xi c) i _ j
     congr 2
     unfold fm
     try dsimp only
     rw [hp3,g]; rfl
    ·refine Eq.trans (X7 (by omega) (by rw [g]; rfl) _) ?_
     show Xn c f :: L.map (Xn c)=_
     rw [Us h ha]; rfl
   ·rw [if_neg (by simpa using hp3),MC.unpin_more hfr (by rw [hx0,← g]; omega) (by rw [hx0,← g]; omega)]
    have hs:=h.setfr ha (x:=((gt c.2.1 (f:Int)).1,(gt c.2.1 (f:Int)).2.1,(gt c.2.1 (f:Int)).2.2.1,(gt c.2.1 (f:Int)).2.2.2 - 1)) (t':=t) (by rw [g]; exact ok.blk) (by rw [g]; exact ok.len) (by dsimp only; omega) (Nat.le_refl t) h.chn (fun k=>by
     split
     ·rename_i e; subst e; exact ⟨fun q=>absurd q hfL,fun q=>absurd q hp3⟩
     ·exact Iff.rfl)
    refine ⟨_,L,rfl,hs,MC.ext' rfl rfl rfl (fun j=>?_) rfl ?_⟩
    ·refine Eq.trans (Vr h ha j) ?_
     show upd (Xi c) i _ j=upd (Xi c) i _ j
     congr 2
     unfold fm
     try dsimp only
     rw [g,show ((c.2.1.getD f default).2.2.2 - 1).toNat=(c.2.1.getD f default).2.2.2.toNat - 1 by omega]
    ·exact X7 (by omega) (by rw [g]; rfl) _
theorem Zhv (z:Siz N B n) (h:CaI N B n t [] c L) (i:Nat) (b:List Int):∃ c' L',Q21.f c (i:Int) b=some (((Ya c L).write B i b).1,c')∧CaI N B n t [] c' L'∧Ya c' L'=((Ya c L).write B i b).2:=by
 have h64:=z.h64
 have hB:=z.B_le
 have hfl:=h.frl
 have hsz:=h.dsz
 unfold Q21.f Q23.f Q54.f
 rw [Option.bind_some,if_neg (by simp)]
 rcases h.get i with ⟨g1,g2⟩ | ⟨f,ha,g1,g2,ok⟩
 ·rw [if_pos (by simp [g1]),MC.write_no (show (Ya c L).fr i=none from Vf g2)]
  exact ⟨_,L,rfl,h,rfl⟩
 ·have hf:=ok.hf
  have hp:=ok.pin
  have hfr:(Ya c L).fr i=_:=X1 h ha
  have hx0:(fm (c.2.1.getD f default)).p=(c.2.1.getD f default).2.2.2.toNat:=rfl
  have g:gt c.2.1 (f:Int)=c.2.1.getD f default:=Yf _ _
  rw [if_neg (by simp [g1]),g2,if_pos (by omega)]
  by_cases hp0:(gt c.2.1 (f:Int)).2.2.2=0
  ·rw [if_pos (decide_eq_true hp0),MC.write_out hfr (by rw [hx0,← g,hp0]; rfl)]
   exact ⟨_,L,rfl,h,rfl⟩
  ·have hp1:(fm (c.2.1.getD f default)).p≠0:=by rw [hx0]; rw [g] at hp0; omega
   rw [if_neg (by simpa using hp0),Option.bind_some]
   try dsimp only
   by_cases hb:(b.length:Int)=c.1.1
   ·have hset:gt (c.2.1.set f ((gt c.2.1 (f:Int)).1,b,(gt c.2.1 (f:Int)).2.2.1,(gt c.2.1 (f:Int)).2.2.2)) (f:Int)=((gt c.2.1 (f:Int)).1,b,(gt c.2.1 (f:Int)).2.2.1,(gt c.2.1 (f:Int)).2.2.2):=by
     rw [Yf,Y8 (by omega),if_pos rfl]
    have hs:=h.setfr ha (x:=((gt c.2.1 (f:Int)).1,b,true,(gt c.2.1 (f:Int)).2.2.2)) (t':=t) (by rw [g]; exact ok.blk) (by dsimp only; omega) (by dsimp only; rw [g]; exact hp) (Nat.le_refl t) h.chn (by rw [g]; exact Zja h ha)
    rw [if_neg (by simp [hb]),Gc (by omega),Option.bind_some,Int.toNat_natCast,hset,List.set_set,MC.write_hit hfr hp1 (by omega)]
    refine ⟨_,L,rfl,hs,MC.ext' rfl rfl rfl (fun j=>?_) rfl ?_⟩
    ·refine Eq.trans (Vr h ha j) ?_
     show upd (Xi c) i _ j=upd (Xi c) i _ j
     rw [g]; rfl
    ·exact X7 (by omega) (by rw [g]; rfl) _
   ·rw [if_pos (by simp [hb]),MC.write_form hfr hp1 (by omega)]
    exact ⟨_,L,rfl,h,rfl⟩
theorem Zml (z:Siz N B n) (h:CaI N B n t [] c L) (i:Nat):∃ c' L',Q15.f c (i:Int)=some (((Ya c L).drop i).1,c')∧CaI N B n t [] c' L'∧Ya c' L'=((Ya c L).drop i).2:=by
 have h64:=z.h64
 have hfl:=h.frl
 unfold Q15.f Q23.f
 rw [Option.bind_some,if_neg (by simp)]
 rcases h.get i with ⟨g1,g2⟩ | ⟨f,ha,g1,g2,ok⟩
 ·rw [if_pos (by simp [g1]),MC.drop_no (show (Ya c L).fr i=none from Vf g2)]
  exact ⟨_,L,rfl,h,rfl⟩
 ·have hf:=ok.hf
  have hp:=ok.pin
  have hfr:(Ya c L).fr i=_:=X1 h ha
  have hx0:(fm (c.2.1.getD f default)).p=(c.2.1.getD f default).2.2.2.toNat:=rfl
  have g:gt c.2.1 (f:Int)=c.2.1.getD f default:=Yf _ _
  rw [if_neg (by simp [g1]),g2,if_pos (by omega)]
  by_cases hp0:0<(gt c.2.1 (f:Int)).2.2.2
  ·rw [if_pos (decide_eq_true hp0),MC.drop_pin hfr (by rw [hx0]; rw [g] at hp0; omega)]
   exact ⟨_,L,rfl,h,rfl⟩
  ·obtain ⟨ch,e,hl⟩:=G6 z h ha
   rw [if_neg (by simpa using hp0),show Q22.f ((c.1.1,c.1.2.1,(c.1.2.2.1,c.1.2.2.2)),c.2.1,c.2.2.1,c.2.2.2.1,(c.2.2.2.2.1,c.2.2.2.2.2)) (f:Int)=_ from e,Option.bind_some,MC.drop_hit hfr (by rw [hx0]; rw [g] at hp0; omega)]
   have hml:=Gd (mhas_iff.2 ⟨_,ha⟩)
   refine ⟨_,L.erase f,rfl,hl,MC.ext' rfl rfl rfl (fun j=>?_) ?_ ?_⟩
   ·exact J7 h ha j
   ·show (Xs (i:Int) c.2.2.1).length=c.2.2.1.length - 1
    omega
   ·exact Eq.trans (Vn (by omega) (Bq h f)) (Ub h ha)
theorem Zmh (z:Siz N B n) (h:CaI N B n t [] c L) (i:Nat):Q19.f c (i:Int)=some ((Ya c L).read i):=by
 have hfl:=h.frl
 have hB:=z.B_le
 unfold Q19.f Q23.f
 rw [Option.bind_some,if_neg (by simp)]
 rcases h.get i with ⟨g1,g2⟩ | ⟨f,ha,g1,g2,ok⟩
 ·rw [if_pos (by simp [g1]),MC.read_no (show (Ya c L).fr i=none from Vf g2)]
 ·have hf:=ok.hf
  have hp:=ok.pin
  have hfr:(Ya c L).fr i=_:=X1 h ha
  have hx0:(fm (c.2.1.getD f default)).p=(c.2.1.getD f default).2.2.2.toNat:=rfl
  have g:gt c.2.1 (f:Int)=c.2.1.getD f default:=Yf _ _
  rw [if_neg (by simp [g1]),g2,if_pos (by omega)]
  by_cases hp0:(gt c.2.1 (f:Int)).2.2.2=0
  ·rw [if_pos (decide_eq_true hp0),MC.read_out hfr (by rw [hx0,← g,hp0]; rfl)]
  ·rw [if_neg (by simpa using hp0),Gc (by rw [g,ok.len]; omega),Option.bind_some,MC.read_hit hfr (by rw [hx0]; rw [g] at hp0; omega),g]; rfl
end
abbrev Rf:=Int×List UInt8×Bool×Int
abbrev Rc:=(Int×List (List UInt8)×Int×Int)×List Rf×Int×List Int
def rfm (i:Nat) (f:Fm):Rf:=((i:Int),toS f.b,f.d,(f.p:Int))
def Vl (i:Int) (l:List Rf):List Rf:=l.filter fun x=>!decide (x.1=i)
structure RL (l:List Rf) (g:Nat→Option Fm):Prop where
 nd:(l.map Prod.fst).Nodup
 mem:∀ x∈l,∃(i:Nat) (f:Fm),g i=some f∧x=rfm i f
 all:∀(i:Nat) (f:Fm),g i=some f→rfm i f∈l
section
variable {l:List Rf} {g:Nat→Option Fm} {i:Nat} {f:Fm}
theorem Zk8 (h:RL l g) (e:g i=none):Vl (i:Int) l=l:=List.filter_eq_self.2 fun x hx=>by
 obtain ⟨j,f,h1,rfl⟩:=h.mem x hx
 have:¬ (rfm j f).1=(i:Int):=fun q=>by
  have:j=i:=by have:(j:Int)=i:=q; omega
  subst this; rw [e] at h1; cases h1
 simp [this]
theorem Za3:∀ {l:List Rf} {x:Rf},(l.map Prod.fst).Nodup→x∈l→(Vl x.1 l).length+1=l.length
 | [],x,_,h=>by simp at h
 | y :: l,x,nd,h=>by
  rw [List.map_cons,List.nodup_cons] at nd
  by_cases q:y.1=x.1
  ·have hl:Vl x.1 l=l:=List.filter_eq_self.2 fun z hz=>by
    have:¬ z.1=x.1:=fun e=>nd.1 (by rw [q,← e]; exact List.mem_map_of_mem hz)
    simp [this]
   have:Vl x.1 (y :: l)=l:=by
    unfold Vl at hl ⊢
    rw [List.filter_cons_of_neg (by simp [q]),hl]
   rw [this]; rfl
  ·have hx:x∈l:=by
    rcases List.mem_cons.1 h with e | e
    ·exact absurd (by rw [e]) q
    ·exact e
   have:Vl x.1 (y :: l)=y :: Vl x.1 l:=by
    unfold Vl
    rw [List.filter_cons_of_pos (by simp [q])]
   rw [this,List.length_cons,List.length_cons,Za3 nd.2 hx]
theorem RL.gone (h:RL l g) (i:Nat):RL (Vl (i:Int) l) (upd g i none):=by
 refine ⟨(List.filter_sublist.map _).nodup h.nd,fun x hx=>?_,fun j f hj=>?_⟩
 ·obtain ⟨h1,h2⟩:=List.mem_filter.1 hx
  obtain ⟨j,f,h3,rfl⟩:=h.mem x h1
  have hne:j≠i:=fun q=>by subst q; simp [rfm] at h2
  exact ⟨j,f,by rw [Yz hne,h3],rfl⟩
 ·by_cases q:j=i
  ·subst q; rw [Yu] at hj; cases hj
  ·rw [Yz q] at hj
   refine List.mem_filter.2 ⟨h.all j f hj,?_⟩
   have:¬ (j:Int)=i:=by omega
   simp [rfm,this]
theorem RL.put (h:RL l g) (i:Nat) (f:Fm):RL (Vl (i:Int) l ++ [rfm i f]) (upd g i (some f)):=by
 have hg:=h.gone i
 refine ⟨?_,fun x hx=>?_,fun j f' hj=>?_⟩
 ·rw [List.map_append,List.nodup_append]
  refine ⟨hg.nd,by simp,fun a ha b hb e=>?_⟩
  obtain ⟨x,hx,rfl⟩:=List.mem_map.1 ha
  simp only [List.map_cons,List.map_nil,List.mem_singleton] at hb
  obtain ⟨_,h2⟩:=List.mem_filter.1 hx
  rw [e,hb] at h2
  simp [rfm] at h2
 ·rcases List.mem_append.1 hx with hx | hx
  ·obtain ⟨j,f',h1,e⟩:=hg.mem x hx
   have hne:j≠i:=fun q=>by subst q; rw [Yu] at h1; cases h1
   exact ⟨j,f',by rw [Yz hne] at h1 ⊢; exact h1,e⟩
  ·rw [List.mem_singleton] at hx
   exact ⟨i,f,Yu _ _ _,hx⟩
 ·by_cases q:j=i
  ·subst q; rw [Yu] at hj; injection hj with hj; subst hj; simp
  ·rw [Yz q] at hj
   exact List.mem_append_left _ (hg.all j f' (by rw [Yz q]; exact hj))
theorem RL.congr (h:RL l g) {g':Nat→Option Fm} (e:∀ j,g j=g' j):RL l g':=by
 have:=funext e
 subst this; exact h
end
structure RR (N B n:Nat) (w:Rc) (m:MC):Prop where
 dev:w.1=((B:Int),Lb m.img N B,m.rd,m.wr)
 most:w.2.2.1=(n:Int)
 row:w.2.2.2=m.row.map fun(i:Nat)=>(i:Int)
 fr:RL w.2.1 m.fr
 used:w.2.1.length=m.used
structure MI (N B n t:Nat) (m:MC):Prop where
 dim:m.img.length=N*B
 len:∀ i f,m.fr i=some f→i<N∧f.b.length=B∧f.p≤t
 rnd:m.row.Nodup
 rfr:∀ q,q∈m.row↔∃ f,m.fr q=some f∧f.p=0
 ule:m.used≤n
 rle:m.row.length≤n
theorem Zcn {g:Nat→Nat}:∀ {L:List Nat},L.Nodup→(∀ x∈L,∀ y∈L,g x=g y→x=y)→(L.map g).Nodup
 | [],_,_=>by simp
 | x :: L,nd,h=>by
  rw [List.nodup_cons] at nd
  rw [List.map_cons,List.nodup_cons]
  refine ⟨fun q=>?_,Zcn nd.2 fun a ha b hb=>h a (by simp [ha]) b (by simp [hb])⟩
  obtain ⟨y,hy,e⟩:=List.mem_map.1 q
  exact nd.1 (by rw [h x (by simp) y (by simp [hy]) e.symm]; exact hy)
theorem CaI.mi {N B n t:Nat} {c:Ca} {L:List Nat} (h:CaI N B n t [] c L):MI N B n t (Ya c L) where
 dim:=h.dim
 len i f hf:=Zkf h hf
 rnd:=Zcn h.chn.nd fun x hx y hy e=>by
  obtain ⟨i,hi,e1,_⟩:=Wy h hx
  obtain ⟨j,hj,e2,_⟩:=Wy h hy
  have:i=j:=by omega
  subst this
  exact Bl h hi hj
 rfr q:=by
  constructor
  ·intro hq
   obtain ⟨f,hf,e⟩:=List.mem_map.1 hq
   obtain ⟨i,hi,e1,hp,_⟩:=Wy h hf
   have:i=q:=by omega
   subst this
   exact ⟨_,X1 h hi,by unfold fm; dsimp only; rw [hp]; rfl⟩
  ·rintro ⟨f,hf,hp⟩
   rcases h.get q with ⟨_,g2⟩ | ⟨f',ha,_,_,ok⟩
   ·have:=Vf g2
    rw [show Xi c q=some f from hf] at this; cases this
   ·have h1:=X1 h ha
    rw [show Xi c q=some f from hf] at h1
    injection h1 with h1
    subst h1
    refine (Zk4 h ha).2 ((h.lok f').2 ⟨⟨_,ha⟩,?_⟩)
    have:=ok.pin
    unfold fm at hp
    dsimp only at hp
    omega
 ule:=h.used
 rle:=by
  show (L.map (Xn c)).length≤n
  rw [List.length_map]
  exact h.chn.short
def findR (l:List Rf) (i:Int):Int:=match l.findIdx? fun x=>decide (x.1=i) with
 | none=>-1
 | some q=>(q:Int)
section
variable {N B n t:Nat} {w:Rc} {m:MC} {i:Nat} {f:Fm}
theorem RR.len (h:RR N B n w m) (mi:MI N B n t m) (h64:n≤64):w.2.1.length≤64:=by have:=h.used; have:=mi.ule; omega
theorem RR.put (h:RR N B n w m) {f0:Fm} (e:m.fr i=some f0) (f:Fm) (row:List Nat):RR N B n (w.1,Vl (i:Int) w.2.1 ++ [rfm i f],w.2.2.1,row.map fun(i:Nat)=>(i:Int)) ⟨m.img,m.rd,m.wr,upd m.fr i (some f),m.used,row⟩:=by
 refine ⟨h.dev,h.most,rfl,h.fr.put i f,?_⟩
 show (Vl (i:Int) w.2.1 ++ [rfm i f]).length=m.used
 have h1:=Za3 h.fr.nd (h.fr.all i f0 e)
 rw [List.length_append,List.length_singleton,← h.used]
 exact h1
theorem RR.come (h:RR N B n w m) (e:m.fr i=none) (f:Fm) (rd:Int):RR N B n ((w.1.1,w.1.2.1,rd,w.1.2.2.2),Vl (i:Int) w.2.1 ++ [rfm i f],w.2.2) ⟨m.img,rd,m.wr,upd m.fr i (some f),m.used+1,m.row⟩:=by
 refine ⟨by rw [h.dev],h.most,h.row,h.fr.put i f,?_⟩
 show (Vl (i:Int) w.2.1 ++ [rfm i f]).length=m.used+1
 rw [Zk8 h.fr e,List.length_append,List.length_singleton,h.used]
theorem RR.gone (h:RR N B n w m) {f0:Fm} (e:m.fr i=some f0) (img:List Int) (wr:Int) (row:List Nat):RR N B n (((B:Int),Lb img N B,m.rd,wr),Vl (i:Int) w.2.1,w.2.2.1,row.map fun(i:Nat)=>(i:Int)) ⟨img,m.rd,wr,upd m.fr i none,m.used - 1,row⟩:=by
 refine ⟨rfl,h.most,rfl,h.fr.gone i,?_⟩
 have h1:=Za3 h.fr.nd (h.fr.all i f0 e)
 have h2:=h.used
 show (Vl (i:Int) w.2.1).length=m.used - 1
 have h3:(rfm i f0).1=(i:Int):=rfl
 rw [h3] at h1
 omega
end
structure Sz8 (N B n:Nat) (m:MC):Prop where
 hN:N≤65536
 hNB:N*B≤4294967296
 hB1:1≤B
 hN1:1≤N
 h64:n≤64
 rd:0≤m.rd∧m.rd≤1000000000
 wr:0≤m.wr∧m.wr≤1000000000
section
variable {N B n t:Nat} {w:Rc} {m:MC} {i:Nat} {f:Fm}
theorem Sz8.B_le (z:Sz8 N B n m):B≤4294967296:=Nat.le_trans (Nat.le_mul_of_pos_left B z.hN1) z.hNB
end
section
variable {N B n t:Nat} {w:Rc} {m:MC} {i:Nat} {f:Fm}
theorem J2 (e:m.fr i=some f):m.backI B i=⟨patch m.img (i*B) B f.b,m.rd,m.wr+1,upd m.fr i (some ⟨f.b,false,f.p⟩),m.used,m.row⟩:=by unfold MC.backI; rw [e]
theorem Ze1 (e:m.fr i=none):m.backI B i=m:=by unfold MC.backI; rw [e]
theorem MI.back (mi:MI N B n t m) (i:Nat):MI N B n t (m.backI B i):=by
 cases e:m.fr i with
 | none=>rw [Ze1 e]; exact mi
 | some f=>
  have hlen:=mi.len i f e
  rw [J2 e]
  refine ⟨Zcy mi.dim hlen.1,fun j f' hj=>?_,mi.rnd,fun q=>?_,mi.ule,mi.rle⟩
  ·dsimp only at hj
   by_cases q:j=i
   ·subst q; rw [Yu] at hj; injection hj with hj; subst hj; exact hlen
   ·rw [Yz q] at hj; exact mi.len j f' hj
  ·show q∈m.row↔∃ f',upd m.fr i (some ⟨f.b,false,f.p⟩) q=some f'∧f'.p=0
   rw [mi.rfr q]
   by_cases hq:q=i
   ·subst hq
    rw [Yu,e]
    exact ⟨fun ⟨f',h1,h2⟩=>⟨_,rfl,by injection h1 with h1; subst h1; exact h2⟩,fun ⟨f',h1,h2⟩=>⟨_,rfl,by injection h1 with h1; subst h1; exact h2⟩⟩
   ·rw [Yz hq]
theorem Sz8.back (z:Sz8 N B n m) (i:Nat) (hw:m.wr≤999999999):Sz8 N B n (m.backI B i):=by
 cases e:m.fr i with
 | none=>rw [Ze1 e]; exact z
 | some f=>rw [J2 e]; exact ⟨z.hN,z.hNB,z.hB1,z.hN1,z.h64,z.rd,by have:=z.wr; dsimp only; omega⟩
end
theorem Zak:∀ {l₁ l₂:List Int},l₁.Pairwise (·<·)→l₂.Pairwise (·<·)→(∀ x,x∈l₁↔x∈l₂)→l₁=l₂
 | [],[],_,_,_=>rfl
 | [],y :: _,_,_,h=>by have:=(h y).2 (by simp); simp at this
 | x :: _,[],_,_,h=>by have:=(h x).1 (by simp); simp at this
 | x :: s,y :: t,h1,h2,h=>by
  rw [List.pairwise_cons] at h1 h2
  have e:x=y:=by
   have a:=(h x).1 (by simp)
   have b:=(h y).2 (by simp)
   rcases List.mem_cons.1 a with a | a
   ·exact a
   ·rcases List.mem_cons.1 b with b | b
    ·exact b.symm
    ·have:=h1.1 y b
     have:=h2.1 x a
     omega
  subst e
  rw [Zak h1.2 h2.2 fun z=>?_]
  constructor
  ·intro hz
   rcases List.mem_cons.1 ((h z).1 (by simp [hz])) with e | e
   ·have:=h1.1 z hz; omega
   ·exact e
  ·intro hz
   rcases List.mem_cons.1 ((h z).2 (by simp [hz])) with e | e
   ·have:=h2.1 z hz; omega
   ·exact e
section
variable {N B n t:Nat} {c:Ca} {L:List Nat}
theorem Zj4 (h:CaI N B n t [] c L):Vg c=((Ya c L).dirty N).map fun(i:Nat)=>(i:Int):=by
 refine Zak ?_ ?_ fun x=>?_
 ·refine List.Pairwise.filter _ ?_
  have h1:=List.pairwise_mergeSort (le:=fun x y:Int=>decide (x≤y)) (fun a b c h1 h2=>by simp only [decide_eq_true_eq] at *; omega) (fun a b=>by simp only [Bool.or_eq_true,decide_eq_true_eq]; omega) (c.2.2.1.map Prod.fst)
  have h2:(X8 c).Nodup:=(Wu c).nodup_iff.2 h.mnd
  exact (h1.and h2).imp fun {a b} q=>by
   have q1:=q.1
   simp only [decide_eq_true_eq] at q1
   have q2:=q.2
   omega
 ·refine List.Pairwise.map _ (fun a b (q:a<b)=>by omega) ?_
  exact List.Pairwise.filter _ List.pairwise_lt_range
 ·unfold Vg
  rw [List.mem_filter]
  constructor
  ·rintro ⟨h1,h2⟩
   obtain ⟨i,f,e1,hp,e2,ok⟩:=Zex h h1
   refine List.mem_map.2 ⟨i,List.mem_filter.2 ⟨List.mem_range.2 ok.hi,?_⟩,e1.symm⟩
   unfold MC.isD
   rw [show (Ya c L).fr i=_ from X1 h hp]
   unfold Uu at h2
   rw [e2,Yf] at h2
   exact h2
  ·intro h1
   obtain ⟨i,hi,rfl⟩:=List.mem_map.1 h1
   obtain ⟨h2,h3⟩:=List.mem_filter.1 hi
   unfold MC.isD at h3
   rcases h.get i with ⟨_,g2⟩ | ⟨f,ha,_,g,ok⟩
   ·rw [show (Ya c L).fr i=none from Vf g2] at h3; cases h3
   ·rw [show (Ya c L).fr i=_ from X1 h ha] at h3
    refine ⟨(Wu c).mem_iff.2 (List.mem_map.2 ⟨_,ha,rfl⟩),?_⟩
    unfold Uu
    rw [g,Yf]
    exact h3
theorem Zk3 (z:Siz N B n) (h:CaI N B n t [] c L) {i f:Nat} (ha:((i:Int),(f:Int))∈c.2.2.1):Ya ((c.1.1,patch c.1.2.1 (i*B) B (gt c.2.1 (f:Int)).2.1,c.1.2.2.1,c.1.2.2.2+1),c.2.1.set f ((gt c.2.1 (f:Int)).1,(gt c.2.1 (f:Int)).2.1,false,(gt c.2.1 (f:Int)).2.2.2),c.2.2) L=(Ya c L).backI B i:=by
 have g:gt c.2.1 (f:Int)=c.2.1.getD f default:=Yf _ _
 have hf:=(h.atN ha).hf
 have hfl:=h.frl
 rw [J2 (show (Ya c L).fr i=_ from X1 h ha)]
 refine MC.ext' ?_ rfl rfl (fun j=>?_) rfl ?_
 ·show patch c.1.2.1 (i*B) B _=patch c.1.2.1 (i*B) B _
  rw [g]; rfl
 ·refine Eq.trans (Vr h ha j) ?_
  rw [g]; rfl
 ·exact X7 (by omega) (by rw [g]; rfl) _
theorem Zc9 (z:Siz N B n) (h:CaI N B n t [] c L) {D:List Nat} (hD:Vg c=D.map fun(i:Nat)=>(i:Int)) (nd:D.Nodup):∀(q j:Nat) (d:Dv) (fr:List Fr8),D.length=j+q→CaI N B n t [] (d,fr,c.2.2) L→0≤d.2.2.2∧d.2.2.2+q≤200000000→(∀ i∈D.drop j,(Ya (d,fr,c.2.2) L).isD i=true)→
  ∃ c',(∀ k,q<k→Q16.l0 k c (Vg c) d.1 d.2.1 d.2.2.1 d.2.2.2 fr (j:Int)=some (0,c'))∧CaI N B n t [] c' L∧Ya c' L=(D.drop j).foldl (MC.backI B) (Ya (d,fr,c.2.2) L)
 | 0,j,d,fr,hj,hi,hw,hd=>by
  have hl:=Gg z h
  have h64:=z.h64
  have hDl:(Vg c).length=D.length:=by rw [hD,List.length_map]
  refine ⟨(d,fr,c.2.2),fun k hk=>?_,hi,by rw [List.drop_eq_nil_of_le (by omega)]; rfl⟩
  obtain ⟨k,rfl⟩:∃ k2,k=k2+1:=⟨k - 1,by omega⟩
  rw [Q16.l0,if_neg (by simp only [decide_eq_true_eq]; omega)]
 | q+1,j,d,fr,hj,hi,hw,hd=>by
  have hl:=Gg z h
  have h64:=z.h64
  have hDl:(Vg c).length=D.length:=by rw [hD,List.length_map]
  have hjD:j<D.length:=by omega
  have hjl:j<(Vg c).length:=by omega
  have hin:(Vg c).getD j default∈X8 c:=(List.mem_filter.1 (Vb (l:=Vg c) hjl)).1
  obtain ⟨i,f,e1,hp,e2,ok⟩:=Zex h hin
  have hf:=ok.hf
  have hfl:=hi.frl
  have ei:D.getD j default=i:=by
   rw [hD,List.getD_eq_getElem?_getD,List.getElem?_map,List.getElem?_eq_getElem hjD] at e1
   rw [List.getD_eq_getElem?_getD,List.getElem?_eq_getElem hjD]
   have:((D[j]:Nat):Int)=i:=e1
   show D[j]=i
   omega
  have hdr:D.drop j=i :: D.drop (j+1):=by rw [Y4 hjD,ei]
  have hni:i∉D.drop (j+1):=by
   have:=(List.drop_sublist j D).nodup nd
   rw [hdr,List.nodup_cons] at this
   exact this.1
  have hdi:=hd i (by rw [hdr]; simp)
  have hfri:(Ya (d,fr,c.2.2) L).fr i=some (fm (fr.getD f default)):=X1 hi (i:=i) (f:=f) hp
  have q1:(gt fr (f:Int)).2.2.1=true:=by
   unfold MC.isD at hdi
   rw [hfri] at hdi
   rw [Yf]; exact hdi
  have hb:=hi.back z (i:=i) (f:=f) hp (d.2.2.1,d.2.2.2+1)
  have habs:=Zk3 z hi (i:=i) (f:=f) hp
  have hwr:=Zeo z hi (i:=i) (f:=f) hp
  obtain ⟨c',g1,g2,g3⟩:=Zc9 z h hD nd q (j+1) (d.1,patch d.2.1 (i*B) B (gt fr (f:Int)).2.1,d.2.2.1,d.2.2.2+1) (fr.set f ((gt fr (f:Int)).1,(gt fr (f:Int)).2.1,false,(gt fr (f:Int)).2.2.2)) (by omega) hb (by dsimp only; omega) (fun i' hi'=>by
   have hne:i'≠i:=fun e=>hni (by rw [← e]; exact hi')
   have h1:=hd i' (by rw [hdr]; simp [hi'])
   rw [show Ya ((d.1,patch d.2.1 (i*B) B (gt fr (f:Int)).2.1,d.2.2.1,d.2.2.2+1),fr.set f ((gt fr (f:Int)).1,(gt fr (f:Int)).2.1,false,(gt fr (f:Int)).2.2.2),c.2.2) L=_ from habs,J2 hfri]
   unfold MC.isD at h1 ⊢
   dsimp only
   rw [Yz hne]; exact h1)
  refine ⟨c',fun k hk=>?_,g2,?_⟩
  ·obtain ⟨k,rfl⟩:∃ k2,k=k2+1:=⟨k - 1,by omega⟩
   rw [Q16.l0,if_pos (decide_eq_true (by omega)),if_pos (by omega),Yf,e2,if_pos (by dsimp only at hfl; omega)]
   rw [if_pos q1,show Q57.f (d.1,d.2.1,(d.2.2.1,d.2.2.2)) (gt fr (f:Int)).1 (gt fr (f:Int)).2.1=_ from hwr,Option.bind_some]
   dsimp only
   rw [Zgc (by omega),Int.toNat_natCast,Yp (by omega)]
   exact g1 k (by omega)
  ·rw [g3,hdr,List.foldl_cons]
   exact congrArg (fun x=>List.foldl (MC.backI B) x (D.drop (j+1))) habs
theorem Zl8 (z:Siz N B n) (h:CaI N B n t [] c L) (fw:Few c):∃ c',(∀ k,200<k→Q16.f k c=some (0,c'))∧CaI N B n t [] c' L∧Ya c' L=(Ya c L).flush N B:=by
 have hl:=Gg z h
 have h64:=z.h64
 have hD:=Zj4 h
 have hDl:(Vg c).length=((Ya c L).dirty N).length:=by rw [hD,List.length_map]
 obtain ⟨c',g1,g2,g3⟩:=Zc9 z h hD ((List.filter_sublist).nodup List.nodup_range) ((Ya c L).dirty N).length 0 c.1 c.2.1 (by omega) h ⟨fw.wr.1,by have:=fw.wr.2; omega⟩ (fun i hi=>(List.mem_filter.1 hi).2)
 refine ⟨c',fun k hk=>?_,g2,g3⟩
 unfold Q16.f Q23.f
 rw [Option.bind_some,if_neg (by simp),show Q14.f k c=_ from Zli z h (by omega),Option.bind_some]
 exact g1 k (by omega)
end
def MC.act (N B n:Nat) (m:MC) (kd:Int) (i:Nat) (b:List Int):Int×MC:=
 if kd=0 then m.pin N B n i else if kd=1 then m.pin N B n i else if kd=2 then m.fresh N B n i else if kd=3 then m.unpin i else if kd=4 then m.unpin i else
 if kd=5 then m.write B i b else if kd=6 then m.write B i b else if kd=7 then m.drop i else if kd=8 then (0,m.flush N B) else if kd=9 then ((m.read i).2,m) else (0,m)
section
variable {N B n t:Nat} {c:Ca} {L:List Nat} {w:Rc} {m:MC}
end
def Byt (l:List Int):Prop:=∀ x∈l,0≤x∧x<256
theorem Byt.rep (n:Nat):Byt (List.replicate n 0):=fun x hx=>by rw [List.eq_of_mem_replicate hx]; omega
theorem Byt.blk {img:List Int} (h:Byt img) (B i:Nat):Byt (blk img B i):=fun x hx=>h x (List.mem_of_mem_drop (List.mem_of_mem_take hx))
theorem Byt.patch {img b:List Int} (h:Byt img) (hb:Byt b) (a n:Nat):Byt (patch img a n b):=fun x hx=>by
 unfold SK.patch at hx
 rcases List.mem_append.1 hx with hx | hx
 ·rcases List.mem_append.1 hx with hx | hx
  ·exact h x (List.mem_of_mem_take hx)
  ·exact hb x (List.mem_of_mem_take hx)
 ·exact h x (List.mem_of_mem_drop hx)
namespace MC
def cnt (m:MC) (i:Nat):Nat:=match m.fr i with
 | none=>0
 | some x=>x.p
theorem cnt_no {m:MC} {i:Nat} (e:m.fr i=none):m.cnt i=0:=by unfold cnt; rw [e]
theorem cnt_at {m:MC} {i:Nat} {x:Fm} (e:m.fr i=some x):m.cnt i=x.p:=by unfold cnt; rw [e]
structure By (m:MC):Prop where
 img:Byt m.img
 fr:∀ i x,m.fr i=some x→Byt x.b
structure To (a b:Nat) (m m':MC):Prop where
 rd:m.rd≤m'.rd∧m'.rd≤m.rd+a
 wr:m.wr≤m'.wr∧m'.wr≤m.wr+b
 by':By m→By m'
theorem To.refl (m:MC):To 0 0 m m:=⟨⟨Int.le_refl _,by omega⟩,⟨Int.le_refl _,by omega⟩,id⟩
theorem To.le {a b a' b':Nat} {m m':MC} (h:To a b m m') (ha:a≤a') (hb:b≤b'):To a' b' m m':=⟨⟨h.rd.1,by have:=h.rd.2; omega⟩,⟨h.wr.1,by have:=h.wr.2; omega⟩,h.by'⟩
theorem To.trans {a b a' b':Nat} {m m' m'':MC} (h:To a b m m') (g:To a' b' m' m''):To (a+a') (b+b') m m'':=⟨⟨Int.le_trans h.rd.1 g.rd.1,by have:=h.rd.2; have:=g.rd.2; omega⟩,⟨Int.le_trans h.wr.1 g.wr.1,by have:=h.wr.2; have:=g.wr.2; omega⟩,fun y=>g.by' (h.by' y)⟩
end MC
section
variable {N B n t:Nat} {m k:MC} {i:Nat} {x:Fm}
theorem Pm.lay {img:List Int} {rd wr:Int} {fr:Nat→Option Fm} {u u':Nat} {row row':List Nat} (hx:Byt x.b):(MC.By ⟨img,rd,wr,fr,u,row⟩→MC.By ⟨img,rd,wr,upd fr i (some x),u',row'⟩)∧∀ j,(⟨img,rd,wr,upd fr i (some x),u',row'⟩:MC).cnt j=if j=i then x.p else (⟨img,rd,wr,fr,u,row⟩:MC).cnt j:=by
 refine ⟨fun h=>⟨h.img,fun j y hj=>?_⟩,fun j=>?_⟩
 ·have hj':upd fr i (some x) j=some y:=hj
  by_cases q:j=i
  ·subst q; rw [Yu] at hj'; injection hj' with hj'; subst hj'; exact hx
  ·rw [Yz q] at hj'; exact h.fr j y hj'
 ·by_cases q:j=i
  ·subst q; rw [if_pos rfl]; exact MC.cnt_at (Yu _ _ _)
  ·rw [if_neg q]; unfold MC.cnt; dsimp only; rw [Yz q]
theorem Pm.evict (e:m.fr i=some x) (p:x.p=0):MC.To 0 1 m (m.evict B i)∧(∀ j,(m.evict B i).cnt j=m.cnt j)∧∀ j,m.fr j=none→(m.evict B i).fr j=none:=by
 rw [MC.evict_eq e]
 refine ⟨⟨⟨Int.le_refl _,by dsimp only; omega⟩,by dsimp only; split <;> omega,fun h=>⟨?_,fun j y hj=>?_⟩⟩,fun j=>?_,fun j hj=>?_⟩
 ·dsimp only
  split
  ·exact h.img.patch (h.fr i x e) _ _
  ·exact h.img
 ·have hj':upd m.fr i none j=some y:=hj
  by_cases q:j=i
  ·subst q; rw [Yu] at hj'; cases hj'
  ·rw [Yz q] at hj'; exact h.fr j y hj'
 ·by_cases q:j=i
  ·subst q; rw [MC.cnt_at e,MC.cnt_no (Yu _ _ _),p]
  ·unfold MC.cnt; dsimp only; rw [Yz q]
 ·show upd m.fr i none j=none
  by_cases q:j=i
  ·subst q; exact Yu _ _ _
  ·rw [Yz q]; exact hj
theorem Pm.room (mi:MI N B n t m) (h:m.room B n=some k):MC.To 0 1 m k∧(∀ j,k.cnt j=m.cnt j)∧∀ j,m.fr j=none→k.fr j=none:=by
 unfold MC.room at h
 split at h
 ·injection h with h; subst h; exact ⟨(MC.To.refl _).le (by omega) (by omega),fun _=>rfl,fun _ h=>h⟩
 ·split at h
  ·cases h
  ·rename_i q hq
   injection h with h; subst h
   obtain ⟨x,e,p⟩:=(mi.rfr q).1 (List.mem_of_getLast? hq)
   exact Pm.evict e p
theorem Pm.pin (mi:MI N B n t m) (hy:m.By) (i:Nat):MC.To 1 1 m (m.pin N B n i).2∧(1≤m.cnt i→MC.To 0 0 m (m.pin N B n i).2)∧∀ j,(m.pin N B n i).2.cnt j=if (m.pin N B n i).1=0∧j=i then m.cnt i+1 else m.cnt j:=by
 have r0:=(MC.To.refl m).le (Nat.zero_le 1) (Nat.zero_le 1)
 by_cases h:N≤i
 ·rw [MC.pin_out h]; exact ⟨r0,fun _=>MC.To.refl m,fun _=>by rw [if_neg (by simp)]⟩
 cases e:m.fr i with
 | some x=>
  obtain ⟨h1,h2⟩:=Pm.lay (img:=m.img) (rd:=m.rd) (wr:=m.wr) (fr:=m.fr) (u:=m.used) (row:=m.row) (i:=i) (x:=⟨x.b,x.d,x.p+1⟩) (u':=m.used) (row':=m.row.erase i) (hy.fr i x e)
  have t0:MC.To 0 0 m (m.pin N B n i).2:=by rw [MC.pin_hit h e]; exact ⟨⟨Int.le_refl _,by show m.rd≤_; omega⟩,⟨Int.le_refl _,by show m.wr≤_; omega⟩,h1⟩
  refine ⟨t0.le (by omega) (by omega),fun _=>t0,fun j=>?_⟩
  rw [MC.pin_hit h e,show ((m.put i ⟨x.b,x.d,x.p+1⟩).cut i).cnt j=_ from h2 j]
  by_cases q:j=i
  ·rw [if_pos q,if_pos ⟨rfl,q⟩,MC.cnt_at e]
  ·rw [if_neg q,if_neg (fun z=>q z.2)]
 | none=>
  cases r:m.room B n with
  | none=>rw [MC.pin_full h e r]; exact ⟨r0,fun _=>MC.To.refl m,fun _=>by rw [if_neg (by simp)]⟩
  | some k=>
   obtain ⟨c1,c2,c3⟩:=Pm.room mi r
   have hk:=c1.by' hy
   obtain ⟨h1,h2⟩:=Pm.lay (img:=k.img) (rd:=k.rd+1) (wr:=k.wr) (fr:=k.fr) (u:=k.used) (row:=k.row) (i:=i) (x:=⟨blk k.img B i,false,1⟩) (u':=k.used+1) (row':=k.row) (hk.img.blk B i)
   rw [MC.pin_miss h e r]
   refine ⟨⟨by show m.rd≤k.rd+1∧k.rd+1≤_; have:=c1.rd; omega,by show m.wr≤k.wr∧k.wr≤_; have:=c1.wr; omega,fun _=>h1 ⟨hk.img,hk.fr⟩⟩,fun c=>by rw [MC.cnt_no e] at c; omega,fun j=>?_⟩
   rw [show ((⟨k.img,k.rd+1,k.wr,k.fr,k.used,k.row⟩:MC).come i ⟨blk k.img B i,false,1⟩).cnt j=_ from h2 j]
   by_cases q:j=i
   ·rw [if_pos q,if_pos ⟨rfl,q⟩,MC.cnt_no e]
   ·rw [if_neg q,if_neg (fun z=>q z.2)]; exact c2 j
theorem Pm.fresh (mi:MI N B n t m) (hy:m.By) (i:Nat):MC.To 0 1 m (m.fresh N B n i).2∧∀ j,(m.fresh N B n i).2.cnt j=if (m.fresh N B n i).1=0∧j=i then m.cnt i+1 else m.cnt j:=by
 have r0:=(MC.To.refl m).le (Nat.zero_le 0) (Nat.zero_le 1)
 by_cases h:N≤i
 ·rw [MC.fresh_out h]; exact ⟨r0,fun _=>by rw [if_neg (by simp)]⟩
 cases e:m.fr i with
 | some x=>
  by_cases p:0<x.p
  ·rw [MC.fresh_pin h e p]; exact ⟨r0,fun _=>by rw [if_neg (by simp)]⟩
  obtain ⟨h1,h2⟩:=Pm.lay (img:=m.img) (rd:=m.rd) (wr:=m.wr) (fr:=m.fr) (u:=m.used) (row:=m.row) (i:=i) (x:=⟨List.replicate B 0,true,1⟩) (u':=m.used) (row':=m.row.erase i) (Byt.rep B)
  rw [MC.fresh_hit h e p]
  refine ⟨⟨⟨Int.le_refl _,by show m.rd≤_; omega⟩,⟨Int.le_refl _,by show m.wr≤_; omega⟩,h1⟩,fun j=>?_⟩
  rw [show ((m.put i ⟨List.replicate B 0,true,1⟩).cut i).cnt j=_ from h2 j]
  by_cases q:j=i
  ·rw [if_pos q,if_pos ⟨rfl,q⟩,MC.cnt_at e]; dsimp only; omega
  ·rw [if_neg q,if_neg (fun z=>q z.2)]
 | none=>
  cases r:m.room B n with
  | none=>rw [MC.fresh_full h e r]; exact ⟨r0,fun _=>by rw [if_neg (by simp)]⟩
  | some k=>
   obtain ⟨c1,c2,c3⟩:=Pm.room mi r
   have hk:=c1.by' hy
   obtain ⟨h1,h2⟩:=Pm.lay (img:=k.img) (rd:=k.rd) (wr:=k.wr) (fr:=k.fr) (u:=k.used) (row:=k.row) (i:=i) (x:=⟨List.replicate B 0,true,1⟩) (u':=k.used+1) (row':=k.row) (Byt.rep B)
   rw [MC.fresh_miss h e r]
   refine ⟨⟨c1.rd,c1.wr,fun _=>h1 ⟨hk.img,hk.fr⟩⟩,fun j=>?_⟩
   rw [show (k.come i ⟨List.replicate B 0,true,1⟩).cnt j=_ from h2 j]
   by_cases q:j=i
   ·rw [if_pos q,if_pos ⟨rfl,q⟩,MC.cnt_no e]
   ·rw [if_neg q,if_neg (fun z=>q z.2)]; exact c2 j
theorem Pm.unpin (hy:m.By) (i:Nat):MC.To 0 0 m (m.unpin i).2∧∀ j,(m.unpin i).2.cnt j=if j=i then m.cnt i - 1 else m.cnt j:=by
 have same:(∀ j,m.cnt j=if j=i then m.cnt i - 1 else m.cnt j)↔m.cnt i=0:=⟨fun h=>by have:=h i; rw [if_pos rfl] at this; omega,fun h j=>by split; rename_i q; subst q; omega; rfl⟩
 cases e:m.fr i with
 | none=>rw [MC.unpin_no e]; exact ⟨MC.To.refl m,same.2 (MC.cnt_no e)⟩
 | some x=>
  have key:∀(p u:Nat) (row:List Nat),p=x.p - 1→MC.To 0 0 m (⟨m.img,m.rd,m.wr,upd m.fr i (some ⟨x.b,x.d,p⟩),u,row⟩:MC)∧∀ j,(⟨m.img,m.rd,m.wr,upd m.fr i (some ⟨x.b,x.d,p⟩),u,row⟩:MC).cnt j=if j=i then m.cnt i - 1 else m.cnt j:=fun p u row hp=>by
   obtain ⟨h1,h2⟩:=Pm.lay (img:=m.img) (rd:=m.rd) (wr:=m.wr) (fr:=m.fr) (u:=m.used) (row:=m.row) (i:=i) (x:=⟨x.b,x.d,p⟩) (u':=u) (row':=row) (hy.fr i x e)
   refine ⟨⟨⟨Int.le_refl _,by show m.rd≤_; omega⟩,⟨Int.le_refl _,by show m.wr≤_; omega⟩,h1⟩,fun j=>?_⟩
   rw [h2 j,MC.cnt_at e]
   split
   ·exact hp
   ·rfl
  by_cases p:x.p=0
  ·rw [MC.unpin_out e p]; exact ⟨MC.To.refl m,same.2 (by rw [MC.cnt_at e]; exact p)⟩
  ·by_cases p1:x.p=1
   ·rw [MC.unpin_one e p1]; exact key _ _ _ (by omega)
   ·rw [MC.unpin_more e p p1]; exact key _ _ _ rfl
theorem Pm.write (i:Nat) {b:List Int} (hb:Byt b):MC.To 0 0 m (m.write B i b).2∧∀ j,(m.write B i b).2.cnt j=m.cnt j:=by
 cases e:m.fr i with
 | none=>rw [MC.write_no e]; exact ⟨MC.To.refl m,fun _=>rfl⟩
 | some x=>
  by_cases p:x.p=0
  ·rw [MC.write_out e p]; exact ⟨MC.To.refl m,fun _=>rfl⟩
  ·by_cases q:b.length=B
   ·rw [MC.write_hit e p q]
    obtain ⟨h1,h2⟩:=Pm.lay (img:=m.img) (rd:=m.rd) (wr:=m.wr) (fr:=m.fr) (u:=m.used) (row:=m.row) (i:=i) (x:=⟨b,true,x.p⟩) (u':=m.used) (row':=m.row) hb
    refine ⟨⟨⟨Int.le_refl _,by show m.rd≤_; omega⟩,⟨Int.le_refl _,by show m.wr≤_; omega⟩,h1⟩,fun j=>?_⟩
    rw [show (m.put i ⟨b,true,x.p⟩).cnt j=_ from h2 j]
    split
    ·rename_i q; subst q; exact (MC.cnt_at e).symm
    ·rfl
   ·rw [MC.write_form e p q]; exact ⟨MC.To.refl m,fun _=>rfl⟩
theorem Pm.drop (i:Nat):MC.To 0 0 m (m.drop i).2∧∀ j,(m.drop i).2.cnt j=m.cnt j:=by
 cases e:m.fr i with
 | none=>rw [MC.drop_no e]; exact ⟨MC.To.refl m,fun _=>rfl⟩
 | some x=>
  by_cases p:0<x.p
  ·rw [MC.drop_pin e p]; exact ⟨MC.To.refl m,fun _=>rfl⟩
  ·rw [MC.drop_hit e p]
   refine ⟨⟨⟨Int.le_refl _,by show m.rd≤_; omega⟩,⟨Int.le_refl _,by show m.wr≤_; omega⟩,fun h=>⟨h.img,fun j y hj=>?_⟩⟩,fun j=>?_⟩
   ·have hj':upd m.fr i none j=some y:=hj
    by_cases q:j=i
    ·subst q; rw [Yu] at hj'; cases hj'
    ·rw [Yz q] at hj'; exact h.fr j y hj'
   ·by_cases q:j=i
    ·subst q; rw [MC.cnt_at e,MC.cnt_no (Yu _ _ _)]; omega
    ·unfold MC.cnt; dsimp only; rw [Yz q]
theorem Pm.backI (hy:m.By) (i:Nat):MC.To 0 1 m (m.backI B i)∧∀ j,(m.backI B i).cnt j=m.cnt j:=by
 cases e:m.fr i with
 | none=>rw [show m.backI B i=m by unfold MC.backI; rw [e]]; exact ⟨(MC.To.refl m).le (Nat.zero_le 0) (Nat.zero_le 1),fun _=>rfl⟩
 | some x=>
  rw [show m.backI B i=⟨patch m.img (i*B) B x.b,m.rd,m.wr+1,upd m.fr i (some ⟨x.b,false,x.p⟩),m.used,m.row⟩ by unfold MC.backI; rw [e]]
  obtain ⟨h1,h2⟩:=Pm.lay (img:=patch m.img (i*B) B x.b) (rd:=m.rd) (wr:=m.wr+1) (fr:=m.fr) (u:=m.used) (row:=m.row) (i:=i) (x:=⟨x.b,false,x.p⟩) (u':=m.used) (row':=m.row) (hy.fr i x e)
  refine ⟨⟨⟨Int.le_refl _,by dsimp only; omega⟩,by dsimp only; omega,fun h=>h1 ⟨h.img.patch (hy.fr i x e) _ _,h.fr⟩⟩,fun j=>?_⟩
  rw [h2 j]
  split
  ·rename_i q; subst q; exact (MC.cnt_at e).symm
  ·rfl
theorem Pm.backs:∀(D:List Nat) (m:MC),m.By→MC.To 0 D.length m (D.foldl (MC.backI B) m)∧∀ j,(D.foldl (MC.backI B) m).cnt j=m.cnt j
 | [],m,_=>⟨MC.To.refl m,fun _=>rfl⟩
 | i :: D,m,hy=>by
  obtain ⟨c1,c2⟩:=Pm.backI (B:=B) hy i
  obtain ⟨d1,d2⟩:=Pm.backs D _ (c1.by' hy)
  rw [List.foldl_cons]
  exact ⟨(c1.trans d1).le (by omega) (by rw [List.length_cons]; omega),fun j=>(d2 j).trans (c2 j)⟩
end
abbrev Bt:=Int×Int×List Int
theorem Zfv:IntKind.u64.bits=64:=rfl
theorem wrB {m:Nat} (h:m<18446744073709551616):IntKind.u64.wrap (m:Int)=(m:Int):=by
 have:IntKind.u64.wrap (m:Int)=((m % 18446744073709551616:Nat):Int):=by simp [IntKind.wrap,IntKind.bits,IntKind.signed]
 rw [this,Nat.mod_eq_of_lt h]
theorem ofB {x:Nat} (h:x<18446744073709551616):(BitVec.ofInt IntKind.u64.bits (x:Int)).toNat=x:=by
 rw [BitVec.ofInt_natCast,BitVec.toNat_ofNat,Zfv]
 exact Nat.mod_eq_of_lt h
theorem Zes (v:BitVec IntKind.u64.bits):v.toNat<18446744073709551616:=v.isLt
theorem anB {x y:Nat} (hx:x<18446744073709551616) (hy:y<18446744073709551616):(BitVec.ofInt IntKind.u64.bits (x:Int) &&& BitVec.ofInt IntKind.u64.bits (y:Int)).toNat=x &&& y:=by rw [BitVec.toNat_and,ofB hx,ofB hy]
theorem orB {x y:Nat} (hx:x<18446744073709551616) (hy:y<18446744073709551616):(BitVec.ofInt IntKind.u64.bits (x:Int) ||| BitVec.ofInt IntKind.u64.bits (y:Int)).toNat=x ||| y:=by rw [BitVec.toNat_or,ofB hx,ofB hy]
theorem xoB {x y:Nat} (hx:x<18446744073709551616) (hy:y<18446744073709551616):(BitVec.ofInt IntKind.u64.bits (x:Int) ^^^ BitVec.ofInt IntKind.u64.bits (y:Int)).toNat=x ^^^ y:=by rw [BitVec.toNat_xor,ofB hx,ofB hy]
theorem Zm8 {x y:Nat} (hx:x<18446744073709551616) (hy:y<18446744073709551616) (i:Nat) (hi:i<64):(BitVec.ofInt IntKind.u64.bits (x:Int) &&& ~~~(BitVec.ofInt IntKind.u64.bits (y:Int))).toNat.testBit i=(x.testBit i && !y.testBit i):=by
 rw [BitVec.toNat_and,Nat.testBit_and,ofB hx]
 congr 1
 rw [← BitVec.getLsbD,BitVec.getLsbD_not,BitVec.getLsbD,ofB hy]
 simp [Zfv,hi]
theorem Zfm {b:Nat} (h:b<64):IntKind.u64.wrap ((1:Int)*2 ^ (min b 64))=((2 ^ b:Nat):Int):=by
 have hb:min b 64=b:=by omega
 have hl:2 ^ b<18446744073709551616:=Nat.lt_of_lt_of_le (Nat.pow_lt_pow_right (by decide) h) (by decide)
 rw [hb,Int.one_mul,← wrB hl]
 congr 1
theorem Zj1 {b:Nat} (h:b<64):2 ^ b<18446744073709551616:=Nat.lt_of_lt_of_le (Nat.pow_lt_pow_right (by decide) h) (by decide)
theorem Zkz {f:Nat} (h:f<64):∃ y:Nat,IntKind.u64.wrap ((18446744073709551615:Int)*2 ^ (min f 64))=(y:Int)∧y<18446744073709551616∧∀ i,i<64→y.testBit i=decide (f≤i):=by
 have hf:min f 64=f:=by omega
 refine ⟨(18446744073709551615*2 ^ f) % 18446744073709551616,?_,Nat.mod_lt _ (by decide),fun i hi=>?_⟩
 ·rw [hf]
  have:(18446744073709551615:Int)*2 ^ f=((18446744073709551615*2 ^ f:Nat):Int):=by
   rw [Int.natCast_mul,Int.natCast_pow]; rfl
  rw [this]
  simp [IntKind.wrap,IntKind.bits,IntKind.signed]
 ·have e1:(18446744073709551616:Nat)=2 ^ 64:=by decide
  have e2:(18446744073709551615:Nat)=2 ^ 64 - 1:=by decide
  rw [e1,Nat.testBit_mod_two_pow,e2,Nat.testBit_mul_two_pow,Nat.testBit_two_pow_sub_one]
  simp [hi]
  omega
structure BR (N:Nat) (p:Bt) (h:Nat→Bool):Prop where
 n:p.1=(N:Int)
 N1:1≤N∧N≤65536
 cnt:p.2.1=(((List.range N).filter h).length:Int)
 len:p.2.2.length=(N+63) / 64
 bit:∀ w,w<p.2.2.length→∃ x:Nat,p.2.2.getD w default=(x:Int)∧x<18446744073709551616∧∀ b,b<64→x.testBit b=(decide (64*w+b<N) && h (64*w+b))
section
variable {N:Nat} {p:Bt} {h:Nat→Bool}
theorem Zbn {i:Nat} (hi:i<4294967296):w64 (Int.tdiv (i:Int) 64)=((i / 64:Nat):Int)∧Int.tmod (i:Int) 64=((i % 64:Nat):Int):=by
 constructor
 ·rw [show Int.tdiv (i:Int) 64=((i / 64:Nat):Int) from rfl,Z1 (by omega) (by omega)]
 ·rfl
theorem BR.there (b:BR N p h) {i:Nat}:Q10.f p (i:Int)=some (if N≤i then 4 else 0):=by
 have hN:=b.N1
 unfold Q10.f Q7.f
 rw [Option.bind_some,b.n,if_neg (by simp only [decide_eq_true_eq]; omega),if_neg (by simp only [decide_eq_true_eq]; omega)]
 by_cases q:N≤i
 ·rw [if_pos (decide_eq_true (by omega)),if_pos q]
 ·rw [if_neg (by simp only [decide_eq_true_eq]; omega),if_neg q]
theorem BR.has (b:BR N p h) {i:Nat} (hi:i<4294967296):Q6.f p (i:Int)=some (decide (i<N) && h i):=by
 have hN:=b.N1
 unfold Q6.f
 rw [b.there,Option.bind_some]
 by_cases q:N≤i
 ·rw [if_pos q,if_neg (by decide)]
  have:¬ i<N:=by omega
  simp [this]
 ·obtain ⟨e1,e2⟩:=Zbn hi
  have hl:=b.len
  have hw:i / 64<p.2.2.length:=by omega
  obtain ⟨x,hx,hx2,hx3⟩:=b.bit _ hw
  have hm:i % 64<64:=Nat.mod_lt _ (by decide)
  rw [if_neg q,if_pos (by decide),e1,e2,if_pos (by omega),if_pos (by omega),Yf,hx,Int.toNat_natCast,show min (i % 64) 64=i % 64 by omega]
  have e3:Int.fdiv (x:Int) (2 ^ (i % 64))=((x / 2 ^ (i % 64):Nat):Int):=by
   rw [Int.fdiv_eq_ediv_of_nonneg _ (Int.pow_nonneg (by decide)),Int.natCast_ediv,Int.natCast_pow]; rfl
  have hlt:x / 2 ^ (i % 64)<18446744073709551616:=Nat.lt_of_le_of_lt (Nat.div_le_self _ _) hx2
  rw [e3,show (BitVec.ofInt IntKind.u64.bits ((x / 2 ^ (i % 64):Nat):Int) &&& BitVec.ofInt IntKind.u64.bits 1).toNat=x / 2 ^ (i % 64) &&& 1 from anB (y:=1) hlt (by decide),Nat.and_one_is_mod,wrB (by omega)]
  have h1:=hx3 _ hm
  rw [show 64*(i / 64)+i % 64=i by omega] at h1
  rw [← h1,Nat.testBit_eq_decide_div_mod_eq]
  congr 1
  exact decide_eq_decide.2 (by omega)
theorem Zbm {N i:Nat} (hi:i<N) (hn:h i=false):((List.range N).filter (upd h i true)).length=((List.range N).filter h).length+1:=by
 have key:∀ l:List Nat,l.Nodup→i∈l→(l.filter (upd h i true)).length=(l.filter h).length+1:=by
  intro l
  induction l with
  | nil=>intro _ hx; simp at hx
  | cons y l ih=>
   intro nd hx
   rw [List.nodup_cons] at nd
   by_cases q:y=i
   ·subst q
    have hl:l.filter (upd h y true)=l.filter h:=List.filter_congr fun z hz=>Yz (fun e=>nd.1 (by rw [← e]; exact hz))
    rw [List.filter_cons_of_pos (by rw [Yu]),List.filter_cons_of_neg (by simp [hn]),hl,List.length_cons]
   ·have hx':i∈l:=by
     rcases List.mem_cons.1 hx with e | e
     ·exact absurd e.symm q
     ·exact e
    have:=ih nd.2 hx'
    by_cases hy:h y=true
    ·rw [List.filter_cons_of_pos (by rw [Yz q]; exact hy),List.filter_cons_of_pos hy,List.length_cons,List.length_cons,this]
    ·rw [List.filter_cons_of_neg (by rw [Yz q]; exact hy),List.filter_cons_of_neg hy,this]
 exact key _ List.nodup_range (List.mem_range.2 hi)
theorem Zjc {i:Nat} (hy:h i=true) (j:Nat):upd (upd h i false) i true j=h j:=by
 by_cases q:j=i
 ·subst q; rw [Yu,hy]
 ·rw [Yz q,Yz q]
theorem Zgj {N i:Nat} (hi:i<N) (hy:h i=true):((List.range N).filter (upd h i false)).length+1=((List.range N).filter h).length:=by
 have:=Zbm (h:=upd h i false) hi (Yu _ _ _)
 rw [show upd (upd h i false) i true=h from funext (Zjc hy)] at this
 exact this.symm
theorem BR.word (b:BR N p h) {i:Nat} (hi:i<N) {v:Bool} {y:Nat} (hy:y<18446744073709551616) (ht:∀ x:Nat,p.2.2.getD (i / 64) default=(x:Int)→∀ j,j<64→y.testBit j=if j=i % 64 then v else x.testBit j) {cnt:Int} (hc:cnt=(((List.range N).filter (upd h i v)).length:Int)) :
  BR N (p.1,cnt,p.2.2.set (i / 64) (y:Int)) (upd h i v):=by
 have hl:=b.len
 have hN:=b.N1
 have hw:i / 64<p.2.2.length:=by omega
 refine ⟨b.n,hN,hc,by rw [List.length_set]; exact hl,fun w hw2=>?_⟩
 rw [List.length_set] at hw2
 dsimp only
 rw [Y8 hw]
 obtain ⟨x,hx,hx2,hx3⟩:=b.bit w hw2
 by_cases q:i / 64=w
 ·subst q
  refine ⟨y,if_pos rfl,hy,fun j hj=>?_⟩
  rw [ht x hx j hj]
  by_cases qj:j=i % 64
  ·subst qj
   rw [if_pos rfl,show 64*(i / 64)+i % 64=i by omega,Yu]
   simp [hi]
  ·rw [if_neg qj,hx3 j hj,Yz (by omega)]
 ·refine ⟨x,by rw [if_neg q]; exact hx,hx2,fun j hj=>?_⟩
  rw [hx3 j hj,Yz (by omega)]
theorem Ze4 (b:BR N p h):((List.range N).filter h).length≤N:=by
 have:=List.length_filter_le h (List.range N)
 rw [List.length_range] at this
 exact this
theorem BR.set (b:BR N p h) {i:Nat} (hi:i<4294967296):∃ p',Q8.f p (i:Int)=some (if N≤i then 4 else if h i=true then 10 else 0,p')∧BR N p' (if N≤i then h else upd h i true):=by
 have hN:=b.N1
 unfold Q8.f
 rw [b.there,Option.bind_some]
 by_cases q:N≤i
 ·rw [if_pos q,if_pos (by decide),if_pos q,if_pos q]
  exact ⟨p,rfl,b⟩
 ·rw [if_neg q,if_neg (by decide),b.has hi,Option.bind_some,if_neg q,if_neg q]
  have hi':i<N:=by omega
  by_cases hh:h i=true
  ·rw [if_pos (by simp [hi',hh]),if_pos hh]
   refine ⟨p,rfl,?_⟩
   rw [show upd h i true=h from funext fun j=>by
    by_cases qj:j=i
    ·subst qj; rw [Yu,hh]
    ·rw [Yz qj]]
   exact b
  ·obtain ⟨e1,e2⟩:=Zbn hi
   have hl:=b.len
   have hw:i / 64<p.2.2.length:=by omega
   obtain ⟨x,hx,hx2,hx3⟩:=b.bit _ hw
   have hm:i % 64<64:=Nat.mod_lt _ (by decide)
   have hp:=Zj1 hm
   have hcl:=Ze4 b
   have hcn:=b.cnt
   rw [if_neg (by simp [hh]),if_neg hh,e1,e2,if_pos (by omega),if_pos (by omega),Yf,hx,Int.toNat_natCast,Int.toNat_natCast,Zfm hm,orB hx2 hp]
   have hor:x ||| 2 ^ (i % 64)<18446744073709551616:=by rw [← orB hx2 hp]; exact Zes _
   rw [wrB hor]
   have hf:h i=false:=by simpa using hh
   refine ⟨_,rfl,b.word hi' hor (fun x' hx' j hj=>?_) ?_⟩
   ·have:x'=x:=by rw [hx] at hx'; omega
    subst this
    rw [Nat.testBit_or,Nat.testBit_two_pow]
    by_cases qj:j=i % 64
    ·subst qj; simp
    ·rw [if_neg qj]
     have:¬ i % 64=j:=fun e=>qj e.symm
     simp [this]
   ·rw [Zbm hi' hf,hcn,Z1 (by omega) (by omega)]; omega
theorem BR.clear (b:BR N p h) {i:Nat} (hi:i<4294967296):∃ p',Q3.f p (i:Int)=some (if N≤i then 4 else if h i=true then 0 else 9,p')∧BR N p' (if N≤i then h else upd h i false):=by
 have hN:=b.N1
 unfold Q3.f
 rw [b.there,Option.bind_some]
 by_cases q:N≤i
 ·rw [if_pos q,if_pos (by decide),if_pos q,if_pos q]
  exact ⟨p,rfl,b⟩
 ·rw [if_neg q,if_neg (by decide),b.has hi,Option.bind_some,if_neg q,if_neg q]
  have hi':i<N:=by omega
  by_cases hh:h i=true
  ·obtain ⟨e1,e2⟩:=Zbn hi
   have hl:=b.len
   have hw:i / 64<p.2.2.length:=by omega
   obtain ⟨x,hx,hx2,hx3⟩:=b.bit _ hw
   have hm:i % 64<64:=Nat.mod_lt _ (by decide)
   have hp:=Zj1 hm
   have hcl:=Ze4 b
   have hcn:=b.cnt
   have hf:=Zgj hi' hh
   rw [if_neg (by simp [hi',hh]),if_pos hh,e1,e2,if_pos (by omega),if_pos (by omega),Yf,hx,Int.toNat_natCast,Int.toNat_natCast,Zfm hm]
   have hlt:=Zes (BitVec.ofInt IntKind.u64.bits (x:Int) &&& ~~~(BitVec.ofInt IntKind.u64.bits ((2 ^ (i % 64):Nat):Int)))
   rw [wrB hlt]
   refine ⟨_,rfl,b.word hi' hlt (fun x' hx' j hj=>?_) ?_⟩
   ·have:x'=x:=by rw [hx] at hx'; omega
    subst this
    rw [Zm8 hx2 hp j hj,Nat.testBit_two_pow]
    by_cases qj:j=i % 64
    ·subst qj; simp
    ·rw [if_neg qj]
     have:¬ i % 64=j:=fun e=>qj e.symm
     simp [this]
   ·rw [hcn,Z1 (by omega) (by omega)]; omega
  ·rw [if_pos (by simp [hh]),if_neg hh]
   refine ⟨p,rfl,?_⟩
   have hf:h i=false:=by simpa using hh
   rw [show upd h i false=h from funext fun j=>by
    by_cases qj:j=i
    ·subst qj; rw [Yu,hf]
    ·rw [Yz qj]]
   exact b
theorem Zly {x:Nat} (h0:x≠0) (h1:x<18446744073709551616):Go.Lib.ctz 64 x<64∧x.testBit (Go.Lib.ctz 64 x)=true∧∀ j,j<Go.Lib.ctz 64 x→x.testBit j=false:=by
 unfold Go.Lib.ctz
 rw [if_neg h0]
 obtain ⟨m,hm,hc⟩:=Go.Lib.ctzFrom_spec 64 x (by omega) (by omega)
 generalize Go.Lib.ctzFrom 64 x=c at *
 refine ⟨hc,?_,fun j hj=>?_⟩
 ·rw [hm,Nat.mul_comm,Nat.testBit_mul_two_pow]
  simp
 ·rw [hm,Nat.mul_comm,Nat.testBit_mul_two_pow]
  have:¬ c≤j:=by omega
  simp [this]
def Wf (N:Nat) (h:Nat→Bool) (turn:Bool) (i:Nat):Bool:=if turn=true then !(decide (i<N) && h i) else decide (i<N) && h i
theorem Zfw (b:BR N p h) (turn:Bool) {fr:Nat} (hfr:fr<4294967296):∀(q w k:Nat),p.2.2.length=w+q→fr / 64≤w→q<k→(∀ j,fr≤j→j<64*w→Wf N h turn j=false)→
  (∃ i:Nat,Q9.l0 k p (fr:Int) (if turn=true then 18446744073709551615 else 0) (w:Int)=some ((i:Int),decide (i<N))∧fr≤i∧i<64*p.2.2.length∧Wf N h turn i=true∧∀ j,fr≤j→j<i→Wf N h turn j=false)∨
   (Q9.l0 k p (fr:Int) (if turn=true then 18446744073709551615 else 0) (w:Int)=some (0,false)∧∀ j,fr≤j→j<64*p.2.2.length→Wf N h turn j=false)
 | _,_,0,_,_,hk,_=>by omega
 | 0,w,k+1,hq,hw,hk,hn=>by
  have hN:=b.N1
  have hl:=b.len
  right
  rw [Q9.l0,if_neg (by simp only [decide_eq_true_eq]; omega)]
  exact ⟨rfl,fun j h1 h2=>hn j h1 (by omega)⟩
 | q+1,w,k+1,hq,hw,hk,hn=>by
  have hN:=b.N1
  have hl:=b.len
  have hwl:w<p.2.2.length:=by omega
  obtain ⟨x,hx,hx2,hx3⟩:=b.bit w hwl
  have hmx:(if (fr:Int)>0 then (fr:Int) else 0)=(fr:Int):=by split <;> omega
  obtain ⟨d1,d2⟩:=Zbn hfr
  -- the word,turned
  obtain ⟨y,hy,hy2,hy3⟩:∃ y:Nat,(IntKind.u64.wrap (((BitVec.ofInt IntKind.u64.bits (x:Int) ^^^ (BitVec.ofInt IntKind.u64.bits (if turn=true then 18446744073709551615 else 0))).toNat:Int)))=(y:Int)∧y<18446744073709551616∧∀ j,j<64→y.testBit j=Wf N h turn (64*w+j):=by
   cases turn with
   | true=>
    have e:=xoB (y:=18446744073709551615) hx2 (by decide)
    refine ⟨x ^^^ 18446744073709551615,?_,?_,fun j hj=>?_⟩
    ·rw [if_pos rfl,show (18446744073709551615:Int)=((18446744073709551615:Nat):Int) from rfl,e,wrB (by rw [← e]; exact Zes _)]
    ·rw [← e]; exact Zes _
    ·rw [Nat.testBit_xor,hx3 j hj,show (18446744073709551615:Nat)=2 ^ 64 - 1 by decide,Nat.testBit_two_pow_sub_one]
     unfold Wf
     simp [hj]
   | false=>
    have e:=xoB (y:=0) hx2 (by decide)
    refine ⟨x,?_,hx2,fun j hj=>?_⟩
    ·rw [if_neg (by decide),show (0:Int)=((0:Nat):Int) from rfl,e,Nat.xor_zero,wrB hx2]
    ·rw [hx3 j hj]; rfl
  rw [Q9.l0,if_pos (decide_eq_true (by omega)),if_pos (by omega),hmx,d1,d2,Yf,hx,hy]
  -- what is looked at,at this word
  have step:∀ z:Nat,z<18446744073709551616→(∀ j,j<64→z.testBit j=(decide (fr≤64*w+j) && Wf N h turn (64*w+j)))→
    (∃ i:Nat,(if (decide ((z:Int)=0))=true then Q9.l0 k p (fr:Int) (if turn=true then 18446744073709551615 else 0) (w64 ((w:Int)+1)) else (if 0≤(z:Int)∧(z:Int)<18446744073709551616 then some ((w64 ((w64 ((w:Int)*64))+(tzI (z:Int)))),(decide ((w64 ((w64 ((w:Int)*64))+(tzI (z:Int))))<p.1))) else none))=some ((i:Int),decide (i<N))∧fr≤i∧i<64*p.2.2.length∧Wf N h turn i=true∧∀ j,fr≤j→j<i→Wf N h turn j=false)∨
    ((if (decide ((z:Int)=0))=true then Q9.l0 k p (fr:Int) (if turn=true then 18446744073709551615 else 0) (w64 ((w:Int)+1)) else (if 0≤(z:Int)∧(z:Int)<18446744073709551616 then some ((w64 ((w64 ((w:Int)*64))+(tzI (z:Int)))),(decide ((w64 ((w64 ((w:Int)*64))+(tzI (z:Int))))<p.1))) else none))=some (0,false)∧∀ j,fr≤j→j<64*p.2.2.length→Wf N h turn j=false):=by
   intro z hz hzt
   by_cases z0:z=0
   ·subst z0
    rw [if_pos (by decide),Yp (by omega)]
    refine Zfw b turn hfr q (w+1) k (by omega) (by omega) (by omega) fun j h1 h2=>?_
    by_cases hj:j<64*w
    ·exact hn j h1 hj
    ·have:=hzt (j - 64*w) (by omega)
     rw [Nat.zero_testBit,show 64*w+(j - 64*w)=j by omega] at this
     have h3:decide (fr≤j)=true:=decide_eq_true h1
     rw [h3,Bool.true_and] at this
     exact this.symm
   ·obtain ⟨c1,c2,c3⟩:=Zly z0 hz
    left
    have tz:tzI (z:Int)=((Go.Lib.ctz 64 z:Nat):Int):=by unfold tzI; rw [Int.toNat_natCast]
    generalize Go.Lib.ctz 64 z=cz at *
    have hb:=hzt cz c1
    rw [c2] at hb
    have hb2:=(Bool.and_eq_true _ _).mp hb.symm
    have hfr2:=of_decide_eq_true hb2.1
    refine ⟨64*w+cz,?_,hfr2,by omega,hb2.2,fun j h1 h2=>?_⟩
    ·rw [if_neg (by simp; omega),if_pos (by omega),tz,Z1 (x:=(w:Int)*64) (by omega) (by omega),Z1 (by omega) (by omega),b.n]
     congr 2
     ·omega
     ·exact decide_eq_decide.2 (by omega)
    ·by_cases hj:j<64*w
     ·exact hn j h1 hj
     ·have:=hzt (j - 64*w) (by omega)
      rw [c3 (j - 64*w) (by omega),show 64*w+(j - 64*w)=j by omega] at this
      have h3:decide (fr≤j)=true:=decide_eq_true h1
      rw [h3,Bool.true_and] at this
      exact this.symm
  by_cases qw:w=fr / 64
  ·rw [if_pos (decide_eq_true (by omega)),if_pos (by omega),Int.toNat_natCast]
   obtain ⟨s,hs,hs2,hs3⟩:=Zkz (f:=fr % 64) (Nat.mod_lt _ (by decide))
   have ea:=anB hy2 hs2
   have hal:y &&& s<18446744073709551616:=by rw [← ea]; exact Zes _
   rw [hs,ea,wrB hal]
   refine step _ hal fun j hj=>?_
   rw [Nat.testBit_and,hy3 j hj,hs3 j hj,Bool.and_comm]
   congr 1
   exact decide_eq_decide.2 (by omega)
  ·rw [if_neg (by simp only [decide_eq_true_eq]; omega)]
   refine step y hy2 fun j hj=>?_
   rw [hy3 j hj]
   have:decide (fr≤64*w+j)=true:=decide_eq_true (by omega)
   rw [this,Bool.true_and]
theorem Zmt (b:BR N p h) (turn:Bool) {fr:Nat} (hfr:fr<4294967296) {k:Nat} (hk:2000<k) :
  (∃ i:Nat,Q9.f k p (fr:Int) (if turn=true then 18446744073709551615 else 0)=some ((i:Int),decide (i<N))∧fr≤i∧i<64*p.2.2.length∧Wf N h turn i=true∧∀ j,fr≤j→j<i→Wf N h turn j=false)∨
   (Q9.f k p (fr:Int) (if turn=true then 18446744073709551615 else 0)=some (0,false)∧∀ j,fr≤j→j<64*p.2.2.length→Wf N h turn j=false):=by
 have hN:=b.N1
 have hl:=b.len
 have hmx:(if (fr:Int)>0 then (fr:Int) else 0)=(fr:Int):=by split <;> omega
 unfold Q9.f
 rw [hmx,(Zbn hfr).1]
 by_cases q:fr / 64≤p.2.2.length
 ·exact Zfw b turn hfr (p.2.2.length - fr / 64) (fr / 64) k (by omega) (Nat.le_refl _) (by omega) fun j h1 h2=>by omega
 ·obtain ⟨k,rfl⟩:∃ k',k=k'+1:=⟨k - 1,by omega⟩
  right
  rw [Q9.l0,if_neg (by simp only [decide_eq_true_eq]; omega)]
  exact ⟨rfl,fun j h1 h2=>by omega⟩
theorem BR.free (b:BR N p h) {k:Nat} (hk:2000<k) (hfree:∃ i,i<N∧h i=false):∃ i:Nat,Q5.f k p 0=some ((i:Int),true)∧i<N∧h i=false∧∀ j,j<i→h j=true:=by
 have hN:=b.N1
 have hl:=b.len
 obtain ⟨i0,h1,h2⟩:=hfree
 unfold Q5.f Q7.f Q11.f
 have hs:=Zmt b true (fr:=0) (by decide) hk
 rw [if_pos rfl] at hs
 have hi0:Wf N h true i0=true:=by unfold Wf; simp [h1,h2]
 rcases hs with ⟨i,e,_,g2,g3,g4⟩ | ⟨e,g⟩
 ·have hiN:i<N:=by
   apply Nat.lt_of_not_le
   intro hge
   have:=g4 i0 (Nat.zero_le _) (by omega)
   rw [hi0] at this; cases this
  rw [Option.bind_some,b.n,if_neg (by simp only [decide_eq_true_eq]; omega),show Q9.f k p 0 18446744073709551615=_ from e,Option.bind_some,if_neg (by simp [hiN])]
  refine ⟨i,rfl,hiN,?_,fun j hj=>?_⟩
  ·unfold Wf at g3
   simpa [hiN] using g3
  ·have:=g4 j (Nat.zero_le _) hj
   have hjN:j<N:=by omega
   unfold Wf at this
   simpa [hjN] using this
 ·have:=g i0 (Nat.zero_le _) (by omega)
  rw [hi0] at this; cases this
end
abbrev Shf:=Cfg×Ca×Bt×Int
theorem Zd7 {N:Nat} {p:Bt} {h:Nat→Bool} (b:BR N p h) (h0:h 0=true) {i:Nat} (hi:i<4294967296):∃ r p' h',Q75.f p (i:Int)=some (r,p')∧BR N p' h'∧h' 0=true:=by
 unfold Q75.f Q80.f
 rw [Option.bind_some,if_neg (by simp)]
 by_cases q:i=0
 ·rw [if_pos (decide_eq_true (by omega))]; exact ⟨_,_,_,rfl,b,h0⟩
 ·obtain ⟨p',e,b'⟩:=b.clear hi
  rw [if_neg (by simp only [decide_eq_true_eq]; omega),Z1 (by omega) (by omega),e,Option.bind_some]
  refine ⟨_,_,_,rfl,b',?_⟩
  split
  ·exact h0
  ·rw [Yz (by omega)]; exact h0
theorem Zi9 {N:Nat} {p:Bt} {h:Nat→Bool} (b:BR N p h) (h0:h 0=true) {i:Nat} (hi:i<4294967296):∃ r p' h',Q78.f p (i:Int)=some (r,p')∧BR N p' h'∧h' 0=true:=by
 unfold Q78.f Q80.f
 obtain ⟨p',e,b'⟩:=b.set hi
 rw [Option.bind_some,if_neg (by simp),Z1 (by omega) (by omega),e,Option.bind_some]
 refine ⟨_,_,_,rfl,b',?_⟩
 split
 ·exact h0
 ·by_cases q:0=i
  ·rw [← q]; exact Yu _ _ _
  ·rw [Yz q]; exact h0
theorem Zju {N:Nat} {p:Bt} {h:Nat→Bool} (b:BR N p h) (h0:h 0=true):∃(i:Nat) (e:Int) (p':Bt) (h':Nat→Bool),(∀ k,3000<k→Q79.f k p=some ((i:Int),e,p'))∧BR N p' h'∧h' 0=true∧i<4294967296:=by
 have hN:=b.N1
 have hc:=Ze4 b
 have eF:Q74.f p=some (((N - ((List.range N).filter h).length:Nat):Int)):=by
  unfold Q74.f Q80.f Q7.f Q4.f
  rw [Option.bind_some,if_neg (by simp),Option.bind_some,Option.bind_some,b.n,b.cnt,Z1 (by omega) (by omega)]
  congr 1
  omega
 by_cases q:N - ((List.range N).filter h).length=0
 ·refine ⟨0,11,p,h,fun k hk=>?_,b,h0,by omega⟩
  unfold Q79.f Q76.f
  rw [Q80.f,Option.bind_some,if_neg (by simp),if_neg (by simp),eF,Option.bind_some,if_pos (decide_eq_true (by omega)),Option.bind_some,if_pos (by simp)]
  rfl
 ·have hfree:∃ i,i<N∧h i=false:=by
   apply Classical.byContradiction
   intro hn
   have:(List.range N).filter h=List.range N:=List.filter_eq_self.2 fun x hx=>by
    cases hh:h x with
    | true=>rfl
    | false=>exact absurd ⟨x,List.mem_range.1 hx,hh⟩ hn
   rw [this,List.length_range] at q
   omega
  obtain ⟨i,_,hiN,hif,hil⟩:=b.free (k:=3001) (by omega) hfree
  obtain ⟨p',es,b'⟩:=b.set (i:=i) (by omega)
  have hw:IntKind.u32.wrap (i:Int)=(i:Int):=by
   have:(i:Int) % 4294967296=(i:Int):=Int.emod_eq_of_lt (by omega) (by omega)
   simp [IntKind.wrap,IntKind.bits,IntKind.signed,this]
  refine ⟨i,0,p',_,fun k hk=>?_,b',?_,by omega⟩
  ·obtain ⟨k2,rfl⟩:∃ k2,k=k2+2:=⟨k - 2,by omega⟩
   obtain ⟨i2,ei,hi2N,hi2f,hi2l⟩:=b.free (k:=k2+1) (by omega) hfree
   have:i2=i:=by
    rcases Nat.lt_trichotomy i2 i with z | z | z
    ·rw [hil _ z] at hi2f; cases hi2f
    ·exact z
    ·rw [hi2l _ z] at hif; cases hif
   subst this
   unfold Q79.f Q76.f
   rw [Q80.f,Option.bind_some,if_neg (by simp),if_neg (by simp),eF,Option.bind_some,if_neg (by simp only [decide_eq_true_eq]; omega),Q76.l0,if_pos (by decide),show Q5.f (k2+1) (p.1,p.2.1,p.2.2) 0=_ from ei,Option.bind_some]
   dsimp only
   rw [show Q8.f (p.1,p.2.1,p.2.2) (i2:Int)=_ from es,Option.bind_some,if_pos (by simp),Q76.l0,if_neg (by decide),Option.bind_some]
   dsimp only
   rw [if_neg (by simp),if_pos (by simp),List.nil_append,show gt [IntKind.u32.wrap (i2:Int)] 0=IntKind.u32.wrap (i2:Int) from rfl,hw]
  ·rw [if_neg (by omega)]
   by_cases z:0=i
   ·rw [← z]; exact Yu _ _ _
   ·rw [Yz z]; exact h0
structure ShI (c:Cfg) (N B n t:Nat) (s:Shf) (L:List Nat) (q:Nat):Prop where
 cfg:s.1=c
 ca:CaI N B n t [] s.2.1 L
 by':(Ya s.2.1 L).By
 bits:∃ h,BR N s.2.2.1 h∧h 0=true
 kp:s.2.2.2=(q:Int)
 q32:q<4294967296
 pin:q≠0→1≤(Ya s.2.1 L).cnt q
structure Sto (c:Cfg) (N B n t a b:Nat) (m:MC) (s':Shf) (q':Nat) (L':List Nat):Prop where
 i:ShI c N B n t s' L' q'
 to:MC.To a b m (Ya s'.2.1 L')
section
variable {c:Cfg} {N B n t q:Nat} {s:Shf} {L:List Nat}
theorem ShI.up (h:ShI c N B n t s L q) {t':Nat} (ht:t≤t'):ShI c N B n t' s L q:=⟨h.cfg,h.ca.mono ht,h.by',h.bits,h.kp,h.q32,h.pin⟩
theorem ShI.id (h:ShI c N B n t s L q) (a b:Nat):Sto c N B n (t+1) a b (Ya s.2.1 L) s q L:=⟨h.up (by omega),(MC.To.refl _).le (by omega) (by omega)⟩
theorem Gx (h:ShI c N B n t s L q) (i:Nat) (hi:i<4294967296):∃ e,Q93.f s (i:Int)=some e:=by
 unfold Q93.f
 split
 ·exact ⟨_,rfl⟩
 ·split <;> exact ⟨_,rfl⟩
theorem Zl1 (z:Siz N B n) (h:ShI c N B n t s L q) (fw:Few s.2.1) (ht:t≤900000) {i:Nat} (hi:i<4294967296) {b:List Int} (hb:Byt b):∃ r s' L',Q91.f s (i:Int) b=some (r,s')∧Sto c N B n (t+1) 0 1 (Ya s.2.1 L) s' q L':=by
 unfold Q91.f
 rw [h.kp]
 by_cases qi:i=q
 ·obtain ⟨c',L',e,hc,ha⟩:=Zhv z h.ca i b
  obtain ⟨t1,t2⟩:=Pm.write (m:=Ya s.2.1 L) (B:=B) i hb
  rw [← ha] at t1 t2
  rw [if_pos (decide_eq_true (by omega)),e,Option.bind_some]
  exact ⟨_,_,L',rfl,⟨h.cfg,hc.mono (by omega),t1.by' h.by',h.bits,rfl,h.q32,fun z=>by rw [t2]; exact h.pin z⟩,t1.le (by omega) (by omega)⟩
 ·obtain ⟨c1,L1,e1,hc1,ha1⟩:=Zle z h.ca fw (by omega) i hi
  obtain ⟨f1,f2⟩:=Pm.fresh h.ca.mi h.by' i
  rw [← ha1] at f1 f2
  rw [if_neg (by simp only [decide_eq_true_eq]; omega),e1,Option.bind_some]
  have y1:=f1.by' h.by'
  by_cases r0:((Ya s.2.1 L).fresh N B n i).1=0
  ·obtain ⟨c2,L2,e2,hc2,ha2⟩:=Zhv z hc1 i b
   obtain ⟨t1,t2⟩:=Pm.write (m:=Ya c1 L1) (B:=B) i hb
   rw [← ha2] at t1 t2
   have y2:=t1.by' y1
   obtain ⟨c3,L3,e3,hc3,ha3⟩:=Za9 z hc2 (by omega) i
   obtain ⟨u1,u2⟩:=Pm.unpin y2 i
   rw [← ha3] at u1 u2
   rw [if_neg (by simpa using r0)]
   dsimp only
   rw [e2,Option.bind_some]
   dsimp only
   rw [e3,Option.bind_some]
   refine ⟨_,_,L3,rfl,⟨h.cfg,hc3,u1.by' y2,h.bits,rfl,h.q32,fun z=>?_⟩,((f1.trans t1).trans u1).le (by omega) (by omega)⟩
   have hp:=h.pin z
   rw [u2,if_neg (fun e=>qi e.symm),t2,f2,if_neg (fun z=>qi z.2.symm)]
   exact hp
  ·rw [if_pos (by simpa using r0)]
   refine ⟨_,_,L1,rfl,⟨h.cfg,hc1,y1,h.bits,rfl,h.q32,fun z=>?_⟩,f1⟩
   rw [f2,if_neg (fun z=>r0 z.1)]
   exact h.pin z
theorem Zh9 (c:Cfg) (nd:Nd):Byt (V2 c nd).1:=by
 unfold V2
 split
 ·split
  ·intro x hx
   unfold toB at hx
   obtain ⟨y,_,rfl⟩:=List.mem_map.1 hx
   have:=y.toNat_lt
   omega
  ·intro x hx; cases hx
 ·intro x hx; cases hx
theorem Zd2:∀ {l:List Int},Byt l→toB (toS l)=l
 | [],_=>rfl
 | x :: l,h=>by
  have hx:=h x (by simp)
  have ih:=Zd2 (l:=l) fun y hy=>h y (List.mem_cons_of_mem _ hy)
  obtain ⟨v,rfl⟩:=Int.eq_ofNat_of_zero_le hx.1
  unfold toS toB at *
  rw [List.map_cons,List.map_cons,ih]
  congr 1
  rw [Int.toNat_natCast,UInt8.toNat_ofNat']
  rw [Nat.mod_eq_of_lt (by omega)]
structure EncN (nd:Nd):Prop where
 sm:SmallN nd
 kd:∀ x∈nd.2.1,0≤x∧x<4294967296
theorem EncN.ev {nd:Nd} (h:EncN nd) (c:Cfg):Ev (fun k=>Q38.f k c nd) (V2 c nd):=Zlc h.sm.kids h.sm.pivs (by have:=h.sm.buf; omega) (by have:=h.sm.prs; omega) h.kd
theorem Zj7 (z:Siz N B n) (h:ShI c N B n t s L q) (fw:Few s.2.1) (ht:t≤900000) {i:Nat} (hi:i<4294967296) {nd:Nd} (hn:EncN nd):∃ r s' L',Ev (fun k=>Q90.f k s (i:Int) nd) (r,s')∧Sto c N B n (t+1) 0 1 (Ya s.2.1 L) s' q L':=by
 have hcfg:=h.cfg
 subst hcfg
 obtain ⟨e,he⟩:=Gx h i hi
 obtain ⟨k0,hk'⟩:=hn.ev s.1
 have hk:∀ k,k0≤k→Q38.f k s.1 nd=some (V2 s.1 nd):=hk'
 obtain ⟨r,s',L',el,hs⟩:=Zl1 z h fw ht hi (Zh9 s.1 nd)
 have id:=h.id 0 1
 by_cases q1:e=0
 ·by_cases q2:(V2 s.1 nd).2=0
  ·refine ⟨r,s',L',⟨k0,fun k kk=>?_⟩,hs⟩
   show Q90.f k s (i:Int) nd=_
   unfold Q90.f
   rw [he,Option.bind_some,if_neg (by simpa using q1),hk k kk,Option.bind_some,if_neg (by simpa using q2),el,Option.bind_some]
  ·refine ⟨(V2 s.1 nd).2,s,L,⟨k0,fun k kk=>?_⟩,id⟩
   show Q90.f k s (i:Int) nd=_
   unfold Q90.f
   rw [he,Option.bind_some,if_neg (by simpa using q1),hk k kk,Option.bind_some,if_pos (by simpa using q2)]
 ·refine ⟨e,s,L,⟨k0,fun k kk=>?_⟩,id⟩
  show Q90.f k s (i:Int) nd=_
  unfold Q90.f
  rw [he,Option.bind_some,if_pos (by simpa using q1)]
theorem Zmq (z:Siz N B n) (h:ShI c N B n t s L q) (fw:Few s.2.1) (ht:t≤900000) {nd:Nd} (hn:EncN nd):∃(i r:Int) (s':Shf) (L':List Nat),Ev (fun k=>Q88.f k s nd) (i,r,s')∧Sto c N B n (t+1) 0 1 (Ya s.2.1 L) s' q L':=by
 have hcfg:=h.cfg
 subst hcfg
 obtain ⟨k0,hk'⟩:=hn.ev s.1
 have hk:∀ k,k0≤k→Q38.f k s.1 nd=some (V2 s.1 nd):=hk'
 have id:=h.id 0 1
 by_cases q2:(V2 s.1 nd).2=0
 ·obtain ⟨hb,b,b0⟩:=h.bits
  obtain ⟨i,e,p',h',et,b',b0',hi⟩:=Zju b b0
  have hI:ShI s.1 N B n t (s.1,s.2.1,p',s.2.2.2) L q:=⟨rfl,h.ca,h.by',⟨h',b',b0'⟩,h.kp,h.q32,h.pin⟩
  by_cases q3:e=0
  ·obtain ⟨r,s',L',el,hs⟩:=Zl1 z hI fw ht hi (Zh9 s.1 nd)
   by_cases q4:r=0
   ·refine ⟨(i:Int),0,s',L',⟨k0+3001,fun k kk=>?_⟩,hs⟩
    show Q88.f k s nd=_
    unfold Q88.f Q92.f
    rw [Option.bind_some,if_neg (by simp),hk k (by omega),Option.bind_some,if_neg (by simpa using q2),et k (by omega),Option.bind_some,if_neg (by simpa using q3)]
    dsimp only
    rw [el,Option.bind_some,if_neg (by simpa using q4)]
   ·obtain ⟨hb2,b2,b20⟩:=hs.i.bits
    obtain ⟨r5,p5,h5,e5,b5,b50⟩:=Zd7 b2 b20 hi
    refine ⟨0,r,(s'.1,s'.2.1,p5,s'.2.2.2),L',⟨k0+3001,fun k kk=>?_⟩,⟨hs.i.cfg,hs.i.ca,hs.i.by',⟨h5,b5,b50⟩,hs.i.kp,hs.i.q32,hs.i.pin⟩,hs.to⟩
    show Q88.f k s nd=_
    unfold Q88.f Q92.f
    rw [Option.bind_some,if_neg (by simp),hk k (by omega),Option.bind_some,if_neg (by simpa using q2),et k (by omega),Option.bind_some,if_neg (by simpa using q3)]
    dsimp only
    rw [el,Option.bind_some,if_pos (by simpa using q4),e5,Option.bind_some]
  ·refine ⟨0,e,(s.1,s.2.1,p',s.2.2.2),L,⟨k0+3001,fun k kk=>?_⟩,hI.id 0 1⟩
   show Q88.f k s nd=_
   unfold Q88.f Q92.f
   rw [Option.bind_some,if_neg (by simp),hk k (by omega),Option.bind_some,if_neg (by simpa using q2),et k (by omega),Option.bind_some,if_pos (by simpa using q3)]
 ·refine ⟨0,(V2 s.1 nd).2,s,L,⟨k0,fun k kk=>?_⟩,id⟩
  show Q88.f k s nd=_
  unfold Q88.f Q92.f
  rw [Option.bind_some,if_neg (by simp),hk k kk,Option.bind_some,if_pos (by simpa using q2)]
theorem Zmy (z:Siz N B n) (h:ShI c N B n t s L q) (fw:Few s.2.1) (ht:t≤900000) {i:Nat} (hi:i<4294967296):∃ r s' L',Q83.f s (i:Int)=some (r,s')∧Sto c N B n (t+1) 0 0 (Ya s.2.1 L) s' q L':=by
 obtain ⟨e,he⟩:=Gx h i hi
 obtain ⟨hb,b,b0⟩:=h.bits
 obtain ⟨r,p',h',eg,b',b0'⟩:=Zd7 b b0 hi
 have id:=h.id 0 0
 unfold Q83.f
 rw [he,Option.bind_some,h.kp]
 by_cases q1:e=0
 ·rw [if_neg (by simpa using q1)]
  by_cases q2:i=q
  ·rw [if_pos (decide_eq_true (by omega))]; exact ⟨_,_,_,rfl,id⟩
  ·rw [if_neg (by simp only [decide_eq_true_eq]; omega),eg,Option.bind_some]
   by_cases q3:r=0
   ·obtain ⟨c',L',ed,hc,ha⟩:=Zml z h.ca i
    obtain ⟨t1,t2⟩:=Pm.drop (m:=Ya s.2.1 L) i
    rw [← ha] at t1 t2
    rw [if_neg (by simpa using q3),ed,Option.bind_some]
    exact ⟨_,_,L',rfl,⟨h.cfg,hc.mono (by omega),t1.by' h.by',⟨h',b',b0'⟩,rfl,h.q32,fun z=>by rw [t2]; exact h.pin z⟩,t1⟩
   ·rw [if_pos (by simpa using q3)]
    exact ⟨_,_,L,rfl,⟨h.cfg,h.ca.mono (by omega),h.by',⟨h',b',b0'⟩,rfl,h.q32,h.pin⟩,MC.To.refl _⟩
 ·rw [if_pos (by simpa using q1)]; exact ⟨_,_,_,rfl,id⟩
theorem Zmz (h:ShI c N B n t s L q) {i:Nat} (hi:i<4294967296):∃ r s' L',Q89.f s (i:Int)=some (r,s')∧Sto c N B n (t+1) 0 0 (Ya s.2.1 L) s' q L':=by
 obtain ⟨e,he⟩:=Gx h i hi
 obtain ⟨hb,b,b0⟩:=h.bits
 obtain ⟨r,p',h',eg,b',b0'⟩:=Zi9 b b0 hi
 unfold Q89.f
 rw [he,Option.bind_some]
 by_cases q1:e=0
 ·rw [if_neg (by simpa using q1),eg,Option.bind_some]
  exact ⟨_,_,L,rfl,⟨h.cfg,h.ca.mono (by omega),h.by',⟨h',b',b0'⟩,h.kp,h.q32,h.pin⟩,MC.To.refl _⟩
 ·rw [if_pos (by simpa using q1)]; exact ⟨_,_,_,rfl,h.id 0 0⟩
theorem Zms (z:Siz N B n) (h:ShI c N B n t s L q) (fw:Few s.2.1) (ht:t≤900000) {i:Nat} (hi:i<4294967296):∃ r s' L' q',Q85.f s (i:Int)=some (r,s')∧Sto c N B n (t+1) 1 1 (Ya s.2.1 L) s' q' L'∧(i=q→MC.To 0 0 (Ya s.2.1 L) (Ya s'.2.1 L'))∧q'=if r=0 then i else q:=by
 obtain ⟨e,he⟩:=Gx h i hi
 have id:=h.id 1 1
 unfold Q85.f Q92.f
 rw [h.kp,he]
 by_cases q0:i=0
 ·rw [if_neg (by simp [q0]),Option.bind_some,if_neg (by simp)]
  by_cases q2:i=q
  ·rw [if_pos (decide_eq_true (by omega))]
   exact ⟨_,s,L,q,rfl,id,fun _=>MC.To.refl _,by rw [if_pos rfl,q2]⟩
  ·obtain ⟨c3,L3,e3,hc3,ha3⟩:=Za9 z h.ca (by omega) q
   obtain ⟨u1,u2⟩:=Pm.unpin h.by' q
   rw [← ha3] at u1 u2
   rw [if_neg (by simp only [decide_eq_true_eq]; omega),if_pos (by simp; omega),e3,Option.bind_some]
   exact ⟨_,_,L3,i,rfl,⟨⟨h.cfg,hc3.mono (by omega),u1.by' h.by',h.bits,rfl,hi,fun z=>absurd q0 z⟩,u1.le (by omega) (by omega)⟩,fun e=>absurd e q2,by rw [if_pos rfl]⟩
 ·rw [if_pos (by simp; omega),Option.bind_some]
  by_cases q1:e=0
  ·rw [if_neg (by simpa using q1),Option.bind_some,if_neg (by simp)]
   by_cases q2:i=q
   ·rw [if_pos (decide_eq_true (by omega))]
    exact ⟨_,s,L,q,rfl,id,fun _=>MC.To.refl _,by rw [if_pos rfl,q2]⟩
   ·obtain ⟨c1,L1,e1,hc1,ha1⟩:=Zll z h.ca fw (by omega) i hi
    obtain ⟨f1,_,f2⟩:=Pm.pin h.ca.mi h.by' i
    rw [← ha1] at f1 f2
    have y1:=f1.by' h.by'
    rw [if_neg (by simp only [decide_eq_true_eq]; omega),e1,Option.bind_some]
    by_cases r0:((Ya s.2.1 L).pin N B n i).1=0
    ·rw [if_neg (by simpa using r0)]
     by_cases qk:q=0
     ·rw [if_neg (by simp [qk])]
      refine ⟨_,_,L1,i,rfl,⟨⟨h.cfg,hc1,y1,h.bits,rfl,hi,fun z=>?_⟩,f1⟩,fun e=>absurd e q2,by rw [if_pos rfl]⟩
      rw [f2,if_pos ⟨r0,rfl⟩]; omega
     ·obtain ⟨c3,L3,e3,hc3,ha3⟩:=Za9 z hc1 (by omega) q
      obtain ⟨u1,u2⟩:=Pm.unpin y1 q
      rw [← ha3] at u1 u2
      rw [if_pos (by simp; omega)]
      dsimp only
      rw [e3,Option.bind_some]
      refine ⟨_,_,L3,i,rfl,⟨⟨h.cfg,hc3,u1.by' y1,h.bits,rfl,hi,fun z=>?_⟩,(f1.trans u1).le (by omega) (by omega)⟩,fun e=>absurd e q2,by rw [if_pos rfl]⟩
      rw [u2,if_neg q2,f2,if_pos ⟨r0,rfl⟩]; omega
    ·rw [if_pos (by simpa using r0)]
     refine ⟨_,_,L1,q,rfl,⟨⟨h.cfg,hc1,y1,h.bits,rfl,h.q32,fun z=>?_⟩,f1⟩,fun e=>absurd e q2,by rw [if_neg r0]⟩
     rw [f2,if_neg (fun z=>r0 z.1)]
     exact h.pin z
  ·rw [if_pos (by simpa using q1)]
   exact ⟨_,s,L,q,rfl,id,fun _=>MC.To.refl _,by rw [if_neg q1]⟩
theorem Zlh (z:Siz N B n) (h:ShI c N B n t s L q) (fw:Few s.2.1):∃ r s' L',(∀ k,200<k→Q82.f k s=some (r,s'))∧Sto c N B n (t+1) 0 n (Ya s.2.1 L) s' q L':=by
 obtain ⟨c',e,hc,ha⟩:=Zl8 z h.ca fw
 obtain ⟨t1,t2⟩:=Pm.backs (B:=B) ((Ya s.2.1 L).dirty N) _ h.by'
 have hD:((Ya s.2.1 L).dirty N).length≤n:=by
  have:=Gg z h.ca
  rw [Zj4 h.ca,List.length_map] at this
  exact this
 unfold MC.flush at ha
 rw [← ha] at t1 t2
 refine ⟨0,(s.1,c',s.2.2.1,s.2.2.2),L,fun k hk=>?_,⟨h.cfg,hc.mono (by omega),t1.by' h.by',h.bits,h.kp,h.q32,fun z=>by rw [t2]; exact h.pin z⟩,t1.le (by omega) hD⟩
 unfold Q82.f Q92.f
 rw [Option.bind_some,if_neg (by simp),e k hk,Option.bind_some]
theorem Zmm (z:Siz N B n) (hB:B≤100000) (h:ShI c N B n t s L q) (fw:Few s.2.1) (ht:t≤900000) {i:Nat} (hi:i<4294967296):∃(r:Nd×Int) (s':Shf) (L':List Nat),Ev (fun k=>Q87.f k s (i:Int)) (r.1,r.2,s')∧Sto c N B n (t+1) 1 1 (Ya s.2.1 L) s' q L'∧(i=q→MC.To 0 0 (Ya s.2.1 L) (Ya s'.2.1 L')):=by
 have hcfg:=h.cfg
 subst hcfg
 obtain ⟨e,he⟩:=Gx h i hi
 have id:=h.id 1 1
 by_cases q1:e=0
 ·obtain ⟨c1,L1,e1,hc1,ha1⟩:=Zll z h.ca fw (by omega) i hi
  obtain ⟨f1,f0,f2⟩:=Pm.pin h.ca.mi h.by' i
  rw [← ha1] at f1 f0 f2
  have y1:=f1.by' h.by'
  have hiq:i=q→1≤(Ya s.2.1 L).cnt i:=fun eq=>by
   subst eq
   refine h.pin fun e0=>?_
   subst e0
   have he':some (4:Int)=some 0:=by
    rw [← q1,← he]
    unfold Q93.f
    rw [if_pos (by decide)]
   cases he'
  by_cases r0:((Ya s.2.1 L).pin N B n i).1=0
  ·obtain ⟨c3,L3,e3,hc3,ha3⟩:=Za9 z hc1 (by omega) i
   obtain ⟨u1,u2⟩:=Pm.unpin y1 i
   rw [← ha3] at u1 u2
   have sto:Sto s.1 N B n (t+1) 1 1 (Ya s.2.1 L) (s.1,c3,s.2.2.1,s.2.2.2) q L3:=⟨⟨rfl,hc3,u1.by' y1,h.bits,h.kp,h.q32,fun z=>by
    have hp:=h.pin z
    rw [u2]
    split
    ·rename_i e; subst e; rw [f2,if_pos ⟨r0,rfl⟩]; omega
    ·rename_i e; rw [f2,if_neg (fun z=>e z.2)]; exact hp⟩,(f1.trans u1).le (by omega) (by omega)⟩
   have t0:i=q→MC.To 0 0 (Ya s.2.1 L) (Ya c3 L3):=fun e=>((f0 (hiq e)).trans u1).le (by omega) (by omega)
   have er:=Zmh z hc1 i
   by_cases r1:((Ya c1 L1).read i).2=0
   ·have hb:Byt ((Ya c1 L1).read i).1∧((Ya c1 L1).read i).1.length≤100000:=by
     cases ef:(Ya c1 L1).fr i with
     | none=>rw [MC.read_no ef] at r1; simp at r1
     | some x=>
      by_cases p:x.p=0
      ·rw [MC.read_out ef p] at r1; simp at r1
      ·rw [MC.read_hit ef p]
       have:=(hc1.mi.len i x ef).2.1
       exact ⟨y1.fr i x ef,by dsimp only; omega⟩
    obtain ⟨w,hw⟩:∃ w:List UInt8,((Ya c1 L1).read i).1=toB w:=⟨toS ((Ya c1 L1).read i).1,(Zd2 hb.1).symm⟩
    obtain ⟨k0,hk⟩:=Znd (c:=s.1) (b:=w) (by have:=hb.2; rw [hw,Ye] at this; exact this)
    refine ⟨Zgg s.1 w,(s.1,c3,s.2.2.1,s.2.2.2),L3,⟨k0,fun k kk=>?_⟩,sto,t0⟩
    show Q87.f k s (i:Int)=_
    unfold Q87.f
    rw [he,Option.bind_some,if_neg (by simpa using q1),e1,Option.bind_some,if_neg (by simpa using r0)]
    dsimp only
    rw [er,Option.bind_some,e3,Option.bind_some,if_neg (by simpa using r1),hw,show Q37.f k s.1 (toB w)=_ from hk k kk,Option.bind_some]
   ·refine ⟨((0,[],[],[],[]),((Ya c1 L1).read i).2),(s.1,c3,s.2.2.1,s.2.2.2),L3,⟨0,fun k kk=>?_⟩,sto,t0⟩
    show Q87.f k s (i:Int)=_
    unfold Q87.f
    rw [he,Option.bind_some,if_neg (by simpa using q1),e1,Option.bind_some,if_neg (by simpa using r0)]
    dsimp only
    rw [er,Option.bind_some,e3,Option.bind_some,if_pos (by simpa using r1)]
  ·refine ⟨((0,[],[],[],[]),((Ya s.2.1 L).pin N B n i).1),(s.1,c1,s.2.2.1,s.2.2.2),L1,⟨0,fun k kk=>?_⟩,⟨⟨rfl,hc1,y1,h.bits,h.kp,h.q32,fun z=>?_⟩,f1⟩,fun e=>f0 (hiq e)⟩
   ·show Q87.f k s (i:Int)=_
    unfold Q87.f
    rw [he,Option.bind_some,if_neg (by simpa using q1),e1,Option.bind_some,if_pos (by simpa using r0)]
   ·rw [f2,if_neg (fun z=>r0 z.1)]
    exact h.pin z
 ·refine ⟨((0,[],[],[],[]),e),s,L,⟨0,fun k kk=>?_⟩,id,fun _=>MC.To.refl _⟩
  show Q87.f k s (i:Int)=_
  unfold Q87.f
  rw [he,Option.bind_some,if_pos (by simpa using q1)]
def kR (kd:Int):Nat:=if kd=5 then 1 else 0
def kW (n:Nat) (kd:Int):Nat:=if kd=0∨kd=1∨kd=2∨kd=5 then 1 else if kd=6 then n else 0
theorem Zmv (z:Siz N B n) (h:ShI c N B n t s L q) (fw:Few s.2.1) (ht:t≤900000) (kd:Int) {i:Nat} (hi:i<4294967296) {nd:Nd} (hn:EncN nd):∃(j r:Int) (s':Shf) (L':List Nat) (q':Nat),Ev (fun k=>Q129.f k s (kd,(i:Int),nd)) (j,r,s')∧Sto c N B n (t+1) (kR kd) (kW n kd) (Ya s.2.1 L) s' q' L'∧(kd=5→i=q→MC.To 0 0 (Ya s.2.1 L) (Ya s'.2.1 L'))∧q'=if kd=5∧r=0 then i else q:=by
 have id:=h.id 0 0
 unfold kR kW
 by_cases q0:kd=0
 ·subst q0
  obtain ⟨r,s',L',⟨k0,hk⟩,hs⟩:=Zj7 z h fw ht hi hn
  refine ⟨0,r,s',L',q,⟨k0,fun k kk=>?_⟩,hs,fun e=>absurd e (by decide),by rw [if_neg (fun z=>absurd z.1 (by decide))]⟩
  show Q129.f k s (0,(i:Int),nd)=_
  unfold Q129.f
  rw [if_pos (by simp),show Q90.f k s ((0:Int),(i:Int),nd).2.1 ((0:Int),(i:Int),nd).2.2=_ from hk k kk,Option.bind_some]
 by_cases q1:kd=1
 ·subst q1
  obtain ⟨r,s',L',⟨k0,hk⟩,hs⟩:=Zj7 z h fw ht hi hn
  refine ⟨0,r,s',L',q,⟨k0,fun k kk=>?_⟩,hs,fun e=>absurd e (by decide),by rw [if_neg (fun z=>absurd z.1 (by decide))]⟩
  show Q129.f k s (1,(i:Int),nd)=_
  unfold Q129.f
  rw [if_neg (by simp),if_pos (by simp),show Q90.f k s ((1:Int),(i:Int),nd).2.1 ((1:Int),(i:Int),nd).2.2=_ from hk k kk,Option.bind_some]
 by_cases q2:kd=2
 ·subst q2
  obtain ⟨j,r,s',L',⟨k0,hk⟩,hs⟩:=Zmq z h fw ht hn
  refine ⟨j,r,s',L',q,⟨k0,fun k kk=>?_⟩,hs,fun e=>absurd e (by decide),by rw [if_neg (fun z=>absurd z.1 (by decide))]⟩
  show Q129.f k s (2,(i:Int),nd)=_
  unfold Q129.f
  rw [if_neg (by simp),if_neg (by simp),if_pos (by simp),show Q88.f k s ((2:Int),(i:Int),nd).2.2=_ from hk k kk,Option.bind_some]
 by_cases q3:kd=3
 ·subst q3
  obtain ⟨r,s',L',e,hs⟩:=Zmy z h fw ht hi
  refine ⟨0,r,s',L',q,⟨0,fun k kk=>?_⟩,hs,fun e=>absurd e (by decide),by rw [if_neg (fun z=>absurd z.1 (by decide))]⟩
  show Q129.f k s (3,(i:Int),nd)=_
  unfold Q129.f
  rw [if_neg (by simp),if_neg (by simp),if_neg (by simp),if_pos (by simp),show Q83.f s ((3:Int),(i:Int),nd).2.1=_ from e,Option.bind_some]
 by_cases q4:kd=4
 ·subst q4
  obtain ⟨r,s',L',e,hs⟩:=Zmz h hi
  refine ⟨0,r,s',L',q,⟨0,fun k kk=>?_⟩,hs,fun e=>absurd e (by decide),by rw [if_neg (fun z=>absurd z.1 (by decide))]⟩
  show Q129.f k s (4,(i:Int),nd)=_
  unfold Q129.f
  rw [if_neg (by simp),if_neg (by simp),if_neg (by simp),if_neg (by simp),if_pos (by simp),show Q89.f s ((4:Int),(i:Int),nd).2.1=_ from e,Option.bind_some]
 by_cases q5:kd=5
 ·subst q5
  obtain ⟨r,s',L',q',e,hs,h0,hq⟩:=Zms z h fw ht hi
  refine ⟨0,r,s',L',q',⟨0,fun k kk=>?_⟩,hs,fun _=>h0,by rw [hq]; by_cases r0:r=0 <;> simp [r0]⟩
  show Q129.f k s (5,(i:Int),nd)=_
  unfold Q129.f
  rw [if_neg (by simp),if_neg (by simp),if_neg (by simp),if_neg (by simp),if_neg (by simp),if_pos (by simp),show Q85.f s ((5:Int),(i:Int),nd).2.1=_ from e,Option.bind_some]
 by_cases q6:kd=6
 ·subst q6
  obtain ⟨r,s',L',he,hs⟩:=Zlh z h fw
  refine ⟨0,r,s',L',q,⟨201,fun k kk=>?_⟩,hs,fun e=>absurd e (by decide),by rw [if_neg (fun z=>absurd z.1 (by decide))]⟩
  show Q129.f k s (6,(i:Int),nd)=_
  unfold Q129.f
  rw [if_neg (by simp),if_neg (by simp),if_neg (by simp),if_neg (by simp),if_neg (by simp),if_neg (by simp),if_pos (by simp),he k (by omega),Option.bind_some]
 refine ⟨0,0,s,L,q,⟨0,fun k kk=>?_⟩,id.i |> fun hi=>⟨hi,id.to.le (Nat.zero_le _) (Nat.zero_le _)⟩,fun e=>absurd e q5,by rw [if_neg (fun z=>q5 z.1)]⟩
 show Q129.f k s (kd,(i:Int),nd)=_
 unfold Q129.f
 rw [if_neg (by simpa using q0),if_neg (by simpa using q1),if_neg (by simpa using q2),if_neg (by simpa using q3),if_neg (by simpa using q4),if_neg (by simpa using q5),if_neg (by simpa using q6)]
end
theorem Zlk {m:Nat} (h:m<18446744073709551616):IntKind.u64.wrap (m:Int)=(m:Int):=by
 have:IntKind.u64.wrap (m:Int)=((m % 18446744073709551616:Nat):Int):=by simp [IntKind.wrap,IntKind.bits,IntKind.signed]
 rw [this,Nat.mod_eq_of_lt h]
theorem Zdr {x y:Int} {d:Nat} (hd:d≤1000) (h:x≤y∧y≤x+d) (hx:0≤x∧x≤100000000):0≤w64 (IntKind.u64.wrap (y - x))∧w64 (IntKind.u64.wrap (y - x))≤d:=by
 obtain ⟨m,hm⟩:=Int.eq_ofNat_of_zero_le (show 0≤y - x by omega)
 rw [hm,Zlk (by omega),Z1 (by omega) (by omega)]
 omega
theorem Wj (k:Nat):Q127.f (k+3000)=some true:=by kernel_rfl
abbrev Gm:=Int×Int×Nd
abbrev St3:=Int×Int×Shf
abbrev L1 (k:Nat) (c:Cfg) (l:List Gm) (q j:Int) (s:Shf):Option Bool:=Q126.l1 k c l s.1.1 s.1.2.1 s.1.2.2.1 s.1.2.2.2.1 s.1.2.2.2.2.1 s.1.2.2.2.2.2.1 s.1.2.2.2.2.2.2.1 s.1.2.2.2.2.2.2.2 s.2.1.1.1 s.2.1.1.2.1 s.2.1.1.2.2.1 s.2.1.1.2.2.2 s.2.1.2.1 s.2.1.2.2.1 s.2.1.2.2.2.1 s.2.1.2.2.2.2.1 s.2.1.2.2.2.2.2 s.2.2.1.1 s.2.2.1.2.1 s.2.2.1.2.2 s.2.2.2 q j
abbrev L3 (k:Nat) (c:Cfg) (l:List Gm) (r:St3) (q j:Int) (s:Shf) (ok:Bool):Option Bool:=Q126.l3 k c l r q j s.1.1 s.1.2.1 s.1.2.2.1 s.1.2.2.2.1 s.1.2.2.2.2.1 s.1.2.2.2.2.2.1 s.1.2.2.2.2.2.2.1 s.1.2.2.2.2.2.2.2 s.2.1.1.1 s.2.1.1.2.1 s.2.1.1.2.2.1 s.2.1.1.2.2.2 s.2.1.2.1 s.2.1.2.2.1 s.2.1.2.2.2.1 s.2.1.2.2.2.2.1 s.2.1.2.2.2.2.2 s.2.2.1.1 s.2.2.1.2.1 s.2.2.1.2.2 s.2.2.2 ok
abbrev L4 (k:Nat) (c:Cfg) (l:List Gm) (w:Int×Int) (r:St3) (w':Int×Int) (q j:Int) (s:Shf) (b:Bool):Option Bool:=Q126.l4 k c l w r w' q j s.1.1 s.1.2.1 s.1.2.2.1 s.1.2.2.2.1 s.1.2.2.2.2.1 s.1.2.2.2.2.2.1 s.1.2.2.2.2.2.2.1 s.1.2.2.2.2.2.2.2 s.2.1.1.1 s.2.1.1.2.1 s.2.1.1.2.2.1 s.2.1.1.2.2.2 s.2.1.2.1 s.2.1.2.2.1 s.2.1.2.2.2.1 s.2.1.2.2.2.2.1 s.2.1.2.2.2.2.2 s.2.2.1.1 s.2.2.1.2.1 s.2.2.1.2.2 s.2.2.2 b
abbrev L5 (k:Nat) (c:Cfg) (l:List Gm) (w:Int×Int) (r:St3) (w':Int×Int) (q j:Int) (s:Shf) (b:Bool):Option Bool:=Q126.l5 k c l w r w' q j s.1.1 s.1.2.1 s.1.2.2.1 s.1.2.2.2.1 s.1.2.2.2.2.1 s.1.2.2.2.2.2.1 s.1.2.2.2.2.2.2.1 s.1.2.2.2.2.2.2.2 s.2.1.1.1 s.2.1.1.2.1 s.2.1.1.2.2.1 s.2.1.1.2.2.2 s.2.1.2.1 s.2.1.2.2.1 s.2.1.2.2.2.1 s.2.1.2.2.2.2.1 s.2.1.2.2.2.2.2 s.2.2.1.1 s.2.2.1.2.1 s.2.2.1.2.2 s.2.2.2 b
abbrev L2 (k:Nat) (c:Cfg) (l:List Gm) (w:Int×Int) (r:St3) (q j:Int) (s:Shf):Option Bool:=Q126.l2 k c l w r q j s.1.1 s.1.2.1 s.1.2.2.1 s.1.2.2.2.1 s.1.2.2.2.2.1 s.1.2.2.2.2.2.1 s.1.2.2.2.2.2.2.1 s.1.2.2.2.2.2.2.2 s.2.1.1.1 s.2.1.1.2.1 s.2.1.1.2.2.1 s.2.1.1.2.2.2 s.2.1.2.1 s.2.1.2.2.1 s.2.1.2.2.2.1 s.2.1.2.2.2.2.1 s.2.1.2.2.2.2.2 s.2.2.1.1 s.2.2.1.2.1 s.2.2.1.2.2 s.2.2.2
section
variable {c:Cfg} {l:List Gm} {kd:Int} {i:Nat} {nd:Nd} {j q:Nat} {r:St3} {s:Shf}
theorem Zhp (hact:l.getD j default=(kd,(i:Int),nd)) (hj:j<60) {q':Nat} (hq:q'=if kd=5∧r.2.1=0 then i else q) (h:Ev (fun k=>L1 k c l (q':Int) ((j+1:Nat):Int) s) true):Ev (fun k=>L3 k c l r (q:Int) (j:Int) s true) true:=by
 obtain ⟨k0,h⟩:=h
 refine ⟨k0+1,fun k hk=>?_⟩
 obtain ⟨k,rfl⟩:∃ k2,k=k2+1:=⟨k - 1,by omega⟩
 have h1:L1 k c l (q':Int) ((j+1:Nat):Int) s=some true:=h k (by omega)
 show Q126.l3 (k+1) c l r (q:Int) (j:Int) _ _ _ _ _ _ _ _ _ _ _ _ _ _ _ _ _ _ _ _ _ true=_
 rw [Q126.l3,if_neg (by simp),Yf,hact,Yp (by omega)]
 dsimp only
 by_cases q5:kd=5
 ·rw [if_pos (decide_eq_true q5)]
  by_cases r0:r.2.1=0
  ·rw [if_pos ⟨q5,r0⟩] at hq
   subst hq
   rw [if_pos (decide_eq_true r0)]; exact h1
  ·rw [if_neg (fun z=>r0 z.2)] at hq
   subst hq
   rw [if_neg (by simpa using r0)]; exact h1
 ·rw [if_neg (fun z=>q5 z.1)] at hq
  subst hq
  rw [if_neg (by simpa using q5)]; exact h1
def okW (n:Nat) (kd A W:Int) (i q:Nat):Prop:=(kd=0∨kd=1∨kd=2→A=0∧W≤1)∧(kd=5∨kd=7→A≤1∧W≤1∧(A+W=0∨i≠q))∧(kd=6→A=0∧W≤n)∧(¬ (kd=0∨kd=1∨kd=2∨kd=5∨kd=7∨kd=6)→A+W=0)
theorem Zh8 {n:Nat} (hn:c.2.2.1=(n:Int)) (hact:l.getD j default=(kd,(i:Int),nd)) {w:Int×Int} {A W:Int} (hA:w64 (IntKind.u64.wrap (s.2.1.1.2.2.1 - w.1))=A) (hW:w64 (IntKind.u64.wrap (s.2.1.1.2.2.2 - w.2))=W) (h0:0≤A∧A≤1000∧0≤W∧W≤1000) (ok:okW n kd A W i q) (h:Ev (fun k=>L3 k c l r (q:Int) (j:Int) s true) true):Ev (fun k=>L2 k c l w r (q:Int) (j:Int) s) true:=by
 obtain ⟨k0,h⟩:=h
 obtain ⟨o1,o2,o3,o4⟩:=ok
 have hs:w64 (A+W)=A+W:=Z1 (by omega) (by omega)
 have hx:∀ k,k0+1≤k→L3 (k - 1) c l r (q:Int) (j:Int) s true=some true:=fun k hk=>h (k - 1) (by omega)
 have h5:¬ (kd=0∨kd=1∨kd=2)→∀ k,k0+1≤k→L5 k c l w r s.2.1.1.2.2 (q:Int) (j:Int) s (decide (kd=5∨kd=7))=some true:=by
  intro n0 k hk
  have h3:=hx k hk
  obtain ⟨k,rfl⟩:∃ k2,k=k2+1:=⟨k - 1,by omega⟩
  rw [Nat.add_sub_cancel] at h3
  show Q126.l5 (k+1) c l w r s.2.1.1.2.2 (q:Int) (j:Int) _ _ _ _ _ _ _ _ _ _ _ _ _ _ _ _ _ _ _ _ _ _=_
  rw [Q126.l5,Yf,hact,hA,hW,hs]
  dsimp only
  by_cases q5:kd=5∨kd=7
  ·obtain ⟨a1,a2,a3⟩:=o2 q5
   rw [if_pos (decide_eq_true q5),if_pos (decide_eq_true a1),if_pos (decide_eq_true a2)]
   by_cases z:A+W=0
   ·rw [if_pos (decide_eq_true z)]; exact h3
   ·have hne:(!decide ((i:Int)=(q:Int)))=true:=by
     have:i≠q:=a3.resolve_left z
     simp only [Bool.not_eq_true',decide_eq_false_iff_not]
     omega
    rw [if_neg (by simpa using z),hne]; exact h3
  ·rw [if_neg (by simpa using q5)]
   by_cases q6:kd=6
   ·obtain ⟨a1,a2⟩:=o3 q6
    rw [if_pos (decide_eq_true q6),if_pos (decide_eq_true a1),hn,decide_eq_true a2]; exact h3
   ·have a1:=o4 (fun z=>by
     rcases z with z | z | z | z | z | z
     ·exact n0 (.inl z)
     ·exact n0 (.inr (.inl z))
     ·exact n0 (.inr (.inr z))
     ·exact q5 (.inl z)
     ·exact q5 (.inr z)
     ·exact q6 z)
    rw [if_neg (by simpa using q6),decide_eq_true a1]; exact h3
 have h4:∀ k,k0+2≤k→L4 k c l w r s.2.1.1.2.2 (q:Int) (j:Int) s (decide (kd=0∨kd=1∨kd=2))=some true:=by
  intro k hk
  have h3:=hx k (by omega)
  obtain ⟨k,rfl⟩:∃ k2,k=k2+1:=⟨k - 1,by omega⟩
  rw [Nat.add_sub_cancel] at h3
  show Q126.l4 (k+1) c l w r s.2.1.1.2.2 (q:Int) (j:Int) _ _ _ _ _ _ _ _ _ _ _ _ _ _ _ _ _ _ _ _ _ _=_
  rw [Q126.l4,Yf,hact,hA,hW]
  dsimp only
  by_cases q0:kd=0∨kd=1∨kd=2
  ·obtain ⟨a1,a2⟩:=o1 q0
   rw [if_pos (decide_eq_true q0),if_pos (decide_eq_true a1),decide_eq_true a2]; exact h3
  ·rw [if_neg (by simpa using q0)]
   have g5:=h5 q0 k (by omega)
   by_cases q5:kd=5
   ·rw [if_pos (decide_eq_true q5),decide_eq_true q5]
    rw [decide_eq_true (show kd=5∨kd=7 from .inl q5)] at g5
    exact g5
   ·rw [if_neg (by simpa using q5)]
    have e:decide (kd=7)=decide (kd=5∨kd=7):=decide_eq_decide.2 ⟨.inr,fun z=>z.resolve_left q5⟩
    rw [e]; exact g5
 refine ⟨k0+3,fun k hk=>?_⟩
 obtain ⟨k,rfl⟩:∃ k2,k=k2+1:=⟨k - 1,by omega⟩
 have g4:=h4 k (by omega)
 show Q126.l2 (k+1) c l w r (q:Int) (j:Int) _ _ _ _ _ _ _ _ _ _ _ _ _ _ _ _ _ _ _ _ _=_
 rw [Q126.l2,Yf,hact,Q56.f,Option.bind_some]
 dsimp only
 by_cases q0:kd=0
 ·rw [if_pos (decide_eq_true q0),decide_eq_true q0]
  rw [decide_eq_true (show kd=0∨kd=1∨kd=2 from .inl q0)] at g4
  exact g4
 ·rw [if_neg (by simpa using q0)]
  by_cases q1:kd=1
  ·rw [if_pos (decide_eq_true q1),decide_eq_true q1]
   rw [decide_eq_true (show kd=0∨kd=1∨kd=2 from .inr (.inl q1))] at g4
   exact g4
  ·rw [if_neg (by simpa using q1)]
   have e:decide (kd=2)=decide (kd=0∨kd=1∨kd=2):=decide_eq_decide.2 ⟨fun z=>.inr (.inr z),fun z=>(z.resolve_left q0).resolve_left q1⟩
   rw [e]; exact g4
theorem Zic {n:Nat} (h64:n≤64) {m m':MC} (kd:Int) (i q:Nat) (tot:MC.To (if kd=5∨kd=7 then 1 else 0) (if kd=0∨kd=1∨kd=2∨kd=5∨kd=7 then 1 else if kd=6 then n else 0) m m') (tz:kd=5∨kd=7→i=q→MC.To 0 0 m m') (hr:0≤m.rd∧m.rd≤100000000) (hw:0≤m.wr∧m.wr≤100000000) :
  okW n kd (w64 (IntKind.u64.wrap (m'.rd - m.rd))) (w64 (IntKind.u64.wrap (m'.wr - m.wr))) i q∧0≤w64 (IntKind.u64.wrap (m'.rd - m.rd))∧w64 (IntKind.u64.wrap (m'.rd - m.rd))≤1000∧0≤w64 (IntKind.u64.wrap (m'.wr - m.wr))∧w64 (IntKind.u64.wrap (m'.wr - m.wr))≤1000:=by
 have b1:(if kd=5∨kd=7 then 1 else 0)≤1000:=by split <;> omega
 have b2:(if kd=0∨kd=1∨kd=2∨kd=5∨kd=7 then 1 else if kd=6 then n else 0)≤1000:=by split <;> (try split) <;> omega
 have dA:=Zdr b1 tot.rd hr
 have dW:=Zdr b2 tot.wr hw
 refine ⟨⟨fun h=>?_,fun h=>?_,fun h=>?_,fun h=>?_⟩,by omega⟩
 ·rw [if_neg (fun e=>by omega)] at dA
  rw [if_pos (by omega)] at dW
  omega
 ·rw [if_pos h] at dA
  rw [if_pos (by omega)] at dW
  refine ⟨by omega,by omega,?_⟩
  by_cases e:i=q
  ·have t0:=tz h e
   have eA:=Zdr (d:=0) (by omega) t0.rd hr
   have eW:=Zdr (d:=0) (by omega) t0.wr hw
   left; omega
  ·exact .inr e
 ·rw [if_neg (fun e=>by omega)] at dA
  rw [if_neg (fun e=>by omega),if_pos h] at dW
  omega
 ·rw [if_neg (fun e=>by omega)] at dA
  rw [if_neg (fun e=>by omega),if_neg (fun e=>by omega)] at dW
  omega
theorem Zin {N B n:Nat} (hn:c.2.2.1=(n:Int)) (z:Siz N B n) (hB:B≤3000) (hf:∀ x∈l,∃ i:Nat,x.2.1=(i:Int)∧i<4294967296∧∀ y∈x.2.2.2.1,0≤y∧y<4294967296):∀(m j:Nat) (s:Shf) (L:List Nat) (q:Nat),j+m=60→ShI c N B n (2*j) s L q→0≤s.2.1.1.2.2.1∧s.2.1.1.2.2.1≤2*j→0≤s.2.1.1.2.2.2∧s.2.1.1.2.2.2≤100*j→Ev (fun k=>L1 k c l (q:Int) (j:Int) s) true
 | m,j,s,L,q,hj,h,hr,hw=>by
  by_cases q1:j<l.length
  ·by_cases q2:j<60
   ·obtain ⟨m2,rfl⟩:∃ m2,m=m2+1:=⟨m - 1,by omega⟩
    have hin:l.getD j default∈l:=Vb q1
    obtain ⟨i,hi1,hi2,hi3⟩:=hf _ hin
    have hact:l.getD j default=((l.getD j default).1,(i:Int),(l.getD j default).2.2):=by rw [← hi1]
    generalize hkd:(l.getD j default).1=kd at hact
    generalize hnd:(l.getD j default).2.2=nd at hact hi3
    have fw:Few s.2.1:=⟨⟨hr.1,by omega⟩,⟨hw.1,by omega⟩⟩
    have h64:=z.h64
    have ih:=fun s L q=>Zin hn z hB hf m2 (j+1) s L q (by omega)
    by_cases sm:SmallN nd
    ·obtain ⟨j1,r1,s1,La,q',⟨k1,e1⟩,st1,z1,hq'⟩:=Zmv z h fw (by omega) kd hi2 (nd:=nd) ⟨sm,hi3⟩
     have e1':∀ k,k1≤k→Q129.f k s (kd,(i:Int),nd)=some (j1,r1,s1):=e1
     have ra:(Ya s1.2.1 La).rd=s1.2.1.1.2.2.1:=rfl
     have wa:(Ya s1.2.1 La).wr=s1.2.1.1.2.2.2:=rfl
     have r0:(Ya s.2.1 L).rd=s.2.1.1.2.2.1:=rfl
     have w0:(Ya s.2.1 L).wr=s.2.1.1.2.2.2:=rfl
     have t1:=st1.to.rd
     have t2:=st1.to.wr
     by_cases k7:kd=7
     ·have hqq:q'=q:=by rw [hq',if_neg (fun e=>by omega)]
      subst hqq
      have to0:MC.To 0 0 (Ya s.2.1 L) (Ya s1.2.1 La):=st1.to.le (by unfold kR; rw [if_neg (by omega)]; omega) (by unfold kW; rw [if_neg (by omega),if_neg (by omega)]; omega)
      have t1:=to0.rd
      have t2:=to0.wr
      obtain ⟨rr,s2,Lb,⟨k2,e2⟩,st2,z2⟩:=Zmm z (by omega) st1.i ⟨by omega,by omega⟩ (by omega) hi2
      have e2':∀ k,k2≤k→Q87.f k s1 (i:Int)=some (rr.1,rr.2,s2):=e2
      have rb:(Ya s2.2.1 Lb).rd=s2.2.1.1.2.2.1:=rfl
      have wb:(Ya s2.2.1 Lb).wr=s2.2.1.1.2.2.2:=rfl
      have tot:=to0.trans st2.to
      have u1:=tot.rd
      have u2:=tot.wr
      obtain ⟨ok,bd⟩:=Zic h64 (m:=Ya s.2.1 L) (m':=Ya s2.2.1 Lb) kd i q' (tot.le (by rw [if_pos (.inr k7)]; omega) (by rw [if_pos (by omega)]; omega)) (fun _ e=>(to0.trans (z2 e)).le (by omega) (by omega)) (by omega) (by omega)
      obtain ⟨k3,e3⟩:=Zh8 (w:=(s.2.1.1.2.2.1,s.2.1.1.2.2.2)) (r:=(j1,r1,s1)) (s:=s2) hn hact rfl rfl ⟨bd.1,bd.2.1,bd.2.2⟩ ok (Zhp hact q2 hq' (ih s2 Lb q' (st2.i.up (by omega)) (by omega) (by omega)))
      refine ⟨k1+k2+k3+4000,fun k hk=>?_⟩
      obtain ⟨k,rfl⟩:∃ k2,k=k2+3000+1:=⟨k - 3001,by omega⟩
      have e3':L2 (k+3000) c l (s.2.1.1.2.2.1,s.2.1.1.2.2.2) (j1,r1,s1) (q':Int) (j:Int) s2=some true:=e3 _ (by omega)
      obtain ⟨g,eg,_⟩:=Jl nd (k:=k+3000) (by omega)
      show Q126.l1 (k+3000+1) c l _ _ _ _ _ _ _ _ _ _ _ _ _ _ _ _ _ _ _ _ _ (q':Int) (j:Int)=_
      rw [Q126.l1,if_pos (decide_eq_true (by omega)),if_pos (decide_eq_true (by omega)),if_pos (by omega),Yf,hact]
      dsimp only
      rw [eg,Option.bind_some]
      cases g with
      | true=>rw [if_pos rfl,Wj,Option.bind_some]
      | false=>
       rw [if_neg (by simp),Q56.f,Option.bind_some]
       dsimp only
       rw [show Q129.f (k+3000) ((s.1.1,s.1.2.1,s.1.2.2.1,s.1.2.2.2.1,s.1.2.2.2.2.1,s.1.2.2.2.2.2.1,s.1.2.2.2.2.2.2.1,s.1.2.2.2.2.2.2.2),((s.2.1.1.1,s.2.1.1.2.1,(s.2.1.1.2.2.1,s.2.1.1.2.2.2)),s.2.1.2.1,s.2.1.2.2.1,s.2.1.2.2.2.1,(s.2.1.2.2.2.2.1,s.2.1.2.2.2.2.2)),(s.2.2.1.1,s.2.2.1.2.1,s.2.2.1.2.2),s.2.2.2) (kd,(i:Int),nd)=_ from e1' _ (by omega),Option.bind_some]
       dsimp only
       rw [if_pos (decide_eq_true k7),e2' _ (by omega),Option.bind_some]
       exact e3'
     ·have tot:MC.To (if kd=5∨kd=7 then 1 else 0) (if kd=0∨kd=1∨kd=2∨kd=5∨kd=7 then 1 else if kd=6 then n else 0) (Ya s.2.1 L) (Ya s1.2.1 La):=by
       refine st1.to.le ?_ ?_
       ·unfold kR
        by_cases e:kd=5
        ·rw [if_pos e,if_pos (by omega)] <;> omega
        ·rw [if_neg e] <;> omega
       ·unfold kW
        by_cases e:kd=0∨kd=1∨kd=2∨kd=5
        ·rw [if_pos e,if_pos (by omega)] <;> omega
        ·rw [if_neg e,if_neg (show ¬ (kd=0∨kd=1∨kd=2∨kd=5∨kd=7) by omega)]; exact Nat.le_refl _
      have c1:(if kd=5∨kd=7 then 1 else 0)≤1:=by split <;> omega
      have c2:(if kd=0∨kd=1∨kd=2∨kd=5∨kd=7 then 1 else if kd=6 then n else 0)≤64:=by split <;> (try split) <;> omega
      have u1:=tot.rd
      have u2:=tot.wr
      obtain ⟨ok,bd⟩:=Zic h64 (m:=Ya s.2.1 L) (m':=Ya s1.2.1 La) kd i q tot (fun e5 e=>z1 (by omega) e) (by omega) (by omega)
      obtain ⟨k3,e3⟩:=Zh8 (w:=(s.2.1.1.2.2.1,s.2.1.1.2.2.2)) (r:=(j1,r1,s1)) (s:=s1) hn hact rfl rfl ⟨bd.1,bd.2.1,bd.2.2⟩ ok (Zhp hact q2 hq' (ih s1 La q' (st1.i.up (by omega)) (by omega) (by omega)))
      refine ⟨k1+k3+4000,fun k hk=>?_⟩
      obtain ⟨k,rfl⟩:∃ k2,k=k2+3000+1:=⟨k - 3001,by omega⟩
      have e3':L2 (k+3000) c l (s.2.1.1.2.2.1,s.2.1.1.2.2.2) (j1,r1,s1) (q:Int) (j:Int) s1=some true:=e3 _ (by omega)
      obtain ⟨g,eg,_⟩:=Jl nd (k:=k+3000) (by omega)
      show Q126.l1 (k+3000+1) c l _ _ _ _ _ _ _ _ _ _ _ _ _ _ _ _ _ _ _ _ _ (q:Int) (j:Int)=_
      rw [Q126.l1,if_pos (decide_eq_true (by omega)),if_pos (decide_eq_true (by omega)),if_pos (by omega),Yf,hact]
      dsimp only
      rw [eg,Option.bind_some]
      cases g with
      | true=>rw [if_pos rfl,Wj,Option.bind_some]
      | false=>
       rw [if_neg (by simp),Q56.f,Option.bind_some]
       dsimp only
       rw [show Q129.f (k+3000) ((s.1.1,s.1.2.1,s.1.2.2.1,s.1.2.2.2.1,s.1.2.2.2.2.1,s.1.2.2.2.2.2.1,s.1.2.2.2.2.2.2.1,s.1.2.2.2.2.2.2.2),((s.2.1.1.1,s.2.1.1.2.1,(s.2.1.1.2.2.1,s.2.1.1.2.2.2)),s.2.1.2.1,s.2.1.2.2.1,s.2.1.2.2.2.1,(s.2.1.2.2.2.2.1,s.2.1.2.2.2.2.2)),(s.2.2.1.1,s.2.2.1.2.1,s.2.2.1.2.2),s.2.2.2) (kd,(i:Int),nd)=_ from e1' _ (by omega),Option.bind_some]
       dsimp only
       rw [if_neg (by simpa using k7)]
       exact e3'
    ·refine ⟨4000,fun k hk=>?_⟩
     obtain ⟨k,rfl⟩:∃ k2,k=k2+3000+1:=⟨k - 3001,by omega⟩
     obtain ⟨g,eg,hg⟩:=Jl nd (k:=k+3000) (by omega)
     show Q126.l1 (k+3000+1) c l _ _ _ _ _ _ _ _ _ _ _ _ _ _ _ _ _ _ _ _ _ (q:Int) (j:Int)=_
     rw [Q126.l1,if_pos (decide_eq_true (by omega)),if_pos (decide_eq_true (by omega)),if_pos (by omega),Yf,hact]
     dsimp only
     rw [eg,Option.bind_some]
     cases g with
     | true=>rw [if_pos rfl,Wj,Option.bind_some]
     | false=>exact absurd (hg rfl) sm
   ·refine ⟨3001,fun k hk=>?_⟩
    obtain ⟨k,rfl⟩:∃ k2,k=k2+3000+1:=⟨k - 3001,by omega⟩
    show Q126.l1 (k+3000+1) c l _ _ _ _ _ _ _ _ _ _ _ _ _ _ _ _ _ _ _ _ _ (q:Int) (j:Int)=_
    rw [Q126.l1,if_pos (decide_eq_true (by omega)),if_neg (by simp only [decide_eq_true_eq]; omega),Wj,Option.bind_some]
  ·refine ⟨3001,fun k hk=>?_⟩
   obtain ⟨k,rfl⟩:∃ k2,k=k2+3000+1:=⟨k - 3001,by omega⟩
   show Q126.l1 (k+3000+1) c l _ _ _ _ _ _ _ _ _ _ _ _ _ _ _ _ _ _ _ _ _ (q:Int) (j:Int)=_
   rw [Q126.l1,if_neg (by simp only [decide_eq_true_eq]; omega),Wj,Option.bind_some]
termination_by m=>m
end
theorem Zkn {N:Nat} (h5:5≤N) (h:N≤65536):∃ p g,Q73.f (N:Int)=some (some p,0)∧BR N p g∧g 0=true:=by
 have e1:w64 ((N:Int)+64)=((N+64:Nat):Int):=by rw [Z1 (by omega) (by omega)]; omega
 have e2:w64 (((N+64:Nat):Int) - 1)=((N+63:Nat):Int):=by rw [Z1 (by omega) (by omega)]; omega
 have e3:w64 (Int.tdiv ((N+63:Nat):Int) 64)=(((N+63) / 64:Nat):Int):=by
  rw [show Int.tdiv ((N+63:Nat):Int) 64=(((N+63) / 64:Nat):Int) from rfl,Z1 (by omega) (by omega)]
 have b0:BR N ((N:Int),0,List.replicate ((N+63) / 64) (0:Int)) (fun _=>false):=by
  refine ⟨rfl,by omega,?_,by simp,fun w hw=>⟨0,?_,by decide,fun b hb=>?_⟩⟩
  ·have:(List.range N).filter (fun _=>false)=[]:=List.filter_eq_nil_iff.2 (by simp)
   rw [this]; rfl
  ·rw [List.length_replicate] at hw
   rw [List.getD_eq_getElem?_getD,List.getElem?_replicate,if_pos hw]; rfl
  ·simp
 obtain ⟨p',es,b'⟩:=b0.set (i:=0) (by omega)
 refine ⟨p',_,?_,b',by rw [if_neg (by omega)]; exact Yu _ _ _⟩
 unfold Q73.f Q2.f
 rw [if_neg (by simp only [decide_eq_true_eq]; omega),if_neg (by simp only [decide_eq_true_eq]; omega),if_neg (by simp only [decide_eq_true_eq]; omega),e1,e2,e3,if_pos (by omega),Option.bind_some]
 dsimp only [Wv]
 rw [if_pos (by simp),Int.toNat_natCast,show Q8.f ((N:Int),0,List.replicate ((N+63) / 64) (0:Int)) 0=_ from es,Option.bind_some]
theorem Zlg {N B:Nat} (h:5≤N∧N≤65536∧1≤B∧B≤65536):Q58.f (N:Int) (B:Int)=some (some ((B:Int),List.replicate (N*B) 0,(0,0)),0):=by
 have hb:N*B≤65536*65536:=Nat.mul_le_mul h.2.1 h.2.2.2
 have e:w64 ((N:Int)*(B:Int))=((N*B:Nat):Int):=by rw [show (N:Int)*(B:Int)=((N*B:Nat):Int) by simp,Z1 (by omega) (by omega)]
 unfold Q58.f Q59.f
 rw [if_pos (decide_eq_true (by omega)),if_pos (decide_eq_true (by omega)),if_pos (decide_eq_true (by omega)),Option.bind_some,if_neg (by simp; omega),e,if_pos (by omega),Int.toNat_natCast]
theorem Zif {c:Cfg} {l:List Gm} {N B n:Nat} (h1:c.1=(N:Int)) (h2:c.2.1=(B:Int)) (hn:c.2.2.1=(n:Int)) (z:Siz N B n) (hN:5≤N∧N≤65536) (hB:B≤3000) (hf:∀ x∈l,∃ i:Nat,x.2.1=(i:Int)∧i<4294967296∧∀ y∈x.2.2.2.1,0≤y∧y<4294967296) {ch:Chn} (hc:ChI n ch []):∀(m j:Nat),j+m=n→Ev (fun k=>Q126.l0 k c l ((B:Int),List.replicate (N*B) 0,(0,0)) ch ((List.range j).map fun(i:Nat)=>(i:Int)) (j:Int)) true
 | 0,j,hj=>by
  have e:j=n:=by omega
  subst e
  have h64:=z.h64
  obtain ⟨p,g,ep,bp,gp⟩:=Zkn hN.1 hN.2
  have hi:=Zl5 z (img:=List.replicate (N*B) 0) (by simp) (0,0) hc
  have by0:(Ya (((B:Int),List.replicate (N*B) 0,(0,0)),List.replicate j (0,[],false,0),[],(List.range j).map (fun(i:Nat)=>(i:Int)),ch) []).By:=by
   refine ⟨Byt.rep _,fun i x hx=>?_⟩
   have:Xi (((B:Int),List.replicate (N*B) 0,(0,0)),List.replicate j (0,[],false,0),[],(List.range j).map (fun(i:Nat)=>(i:Int)),ch) i=some x:=hx
   rw [Vf (by simp)] at this
   cases this
  obtain ⟨k0,hk⟩:=Zin (c:=c) (l:=l) hn z hB hf 60 0 (c,(((B:Int),List.replicate (N*B) 0,(0,0)),List.replicate j (0,[],false,0),[],(List.range j).map (fun(i:Nat)=>(i:Int)),ch),p,0) [] 0 (by omega) ⟨rfl,hi,by0,⟨g,bp,gp⟩,rfl,by omega,fun e=>absurd rfl e⟩ (by dsimp only; omega) (by dsimp only; omega)
  refine ⟨k0+1,fun k hk2=>?_⟩
  obtain ⟨k,rfl⟩:∃ k2,k=k2+1:=⟨k - 1,by omega⟩
  have hx:=hk k (by omega)
  have eb:=Ud (s:=(0,0)) (N:=N) (n:=B) z.hB (img:=List.replicate (N*B) 0) (by simp) z.hNB
  show Q126.l0 (k+1) c l _ _ _ _=_
  rw [Q126.l0,hn,if_neg (by simp),eb,Option.bind_some,h1,if_neg (by simp),Q54.f,Option.bind_some,h2,if_neg (by simp),ep,Option.bind_some]
  dsimp only [Wv]
  rw [if_pos (by simp),Int.toNat_natCast]
  have hx':Q126.l1 k c l c.1 c.2.1 c.2.2.1 c.2.2.2.1 c.2.2.2.2.1 c.2.2.2.2.2.1 c.2.2.2.2.2.2.1 c.2.2.2.2.2.2.2 (B:Int) (List.replicate (N*B) 0) 0 0 (List.replicate j (0,[],false,0)) [] ((List.range j).map (fun(i:Nat)=>(i:Int))) ch.1 ch.2 p.1 p.2.1 p.2.2 0 0 0=some true:=hx
  rw [h1,h2,hn] at hx'
  exact hx'
 | m+1,j,hj=>by
  have h64:=z.h64
  obtain ⟨k0,hk⟩:=Zif h1 h2 hn z hN hB hf hc m (j+1) (by omega)
  refine ⟨k0+1,fun k hk2=>?_⟩
  obtain ⟨k,rfl⟩:∃ k2,k=k2+1:=⟨k - 1,by omega⟩
  have hx:=hk k (by omega)
  show Q126.l0 (k+1) c l _ _ _ _=_
  rw [Q126.l0,hn,if_pos (decide_eq_true (by omega)),if_pos (by simp; omega),Yp (by omega)]
  dsimp only at hx
  rw [List.range_succ,List.map_append] at hx
  exact hx
theorem Zmj {c:Cfg} {l:List Gm} (hf:∀ x∈l,∃ i:Nat,x.2.1=(i:Int)∧i<4294967296∧∀ y∈x.2.2.2.1,0≤y∧y<4294967296):∃ k,Q126.f k c l=some true:=by
 have aw:∀ k,3000≤k→Q127.f k=some true:=fun k hk=>by
  obtain ⟨k2,rfl⟩:∃ k2,k=k2+3000:=⟨k - 3000,by omega⟩
  exact Wj k2
 have eL:∀ k,2000<k→Q125.f k c=some (okB c && (decide (c.2.1≤3000) && decide (c.1≤400))):=fun k hk=>by
  unfold Q125.f
  rw [Zhm c hk,Option.bind_some]
  cases okB c with
  | false=>rw [if_neg (by decide)]; rfl
  | true=>
   rw [if_pos rfl]
   by_cases q:c.2.1≤3000
   ·rw [if_pos (decide_eq_true q),decide_eq_true q]; rfl
   ·rw [if_neg (by simpa using q),decide_eq_false q]; rfl
 by_cases light:(okB c && (decide (c.2.1≤3000) && decide (c.1≤400)))=true
 ·have hok:okB c=true:=(Bool.and_eq_true _ _ ▸ light).1
  have hl2:c.2.1≤3000∧c.1≤400:=by
   have:=(Bool.and_eq_true _ _ ▸ light).2
   simpa using this
  have hc:=hok
  unfold okB at hc
  simp only [Bool.and_eq_true,decide_eq_true_eq] at hc
  obtain ⟨_,hN,hn,hB,_⟩:=hc
  obtain ⟨N,eN⟩:=Int.eq_ofNat_of_zero_le (show 0≤c.1 by omega)
  obtain ⟨B,eB⟩:=Int.eq_ofNat_of_zero_le (show 0≤c.2.1 by omega)
  obtain ⟨n,en⟩:=Int.eq_ofNat_of_zero_le (show 0≤c.2.2.1 by omega)
  have hNB:N*B≤400*3000:=Nat.mul_le_mul (by omega) (by omega)
  have z:Siz N B n:=⟨by omega,by omega,by omega,by omega,by omega⟩
  obtain ⟨ch,ec,hch⟩:=Znb (n:=n) (by omega) (by omega)
  obtain ⟨k0,hk⟩:=Zif eN eB en z (by omega) (by omega) hf hch n 0 (by omega)
  have eb:=Ud (s:=(0,0)) (N:=N) (n:=B) z.hB (img:=List.replicate (N*B) 0) (by simp) z.hNB
  refine ⟨k0+3000,?_⟩
  have hx:=hk (k0+3000) (by omega)
  unfold Q126.f
  rw [eL _ (by omega),light,Option.bind_some,if_neg (by simp),eN,eB,Zlg (by omega),Option.bind_some]
  dsimp only [Wv]
  rw [if_pos (by simp),Zba,if_pos hok,Option.bind_some,if_neg (by simp),eb,Option.bind_some,if_neg (by simp only [decide_eq_true_eq]; omega),en,if_neg (by simp only [decide_eq_true_eq]; omega),if_neg (by simp only [decide_eq_true_eq]; omega),ec,Option.bind_some]
  dsimp only [Wv]
  rw [if_pos (by simp),if_pos (by omega)]
  exact hx
 ·refine ⟨3000,?_⟩
  unfold Q126.f
  rw [eL _ (by omega),Bool.eq_false_iff.2 light,Option.bind_some,if_pos (show (!false)=true from rfl),aw _ (by omega),Option.bind_some]
theorem ShelfCosts_pure (c:Cfg) (l:List Gm) (_:Ty.fit (B2 tt) (.pair (.int .i64) (.pair (.int .i64) (.pair (.int .i64) (.pair (.int .i64) (.pair (.int .i64) (.pair (.int .i64) (.pair (.int .i64) (.int .i64)))))))) c) (hl:Ty.fit (B2 tt) (.slice 45 (.pair (.int .i64) (.pair (.int .u32) (.pair (.int .i64) (.pair (.slice 33 (.int .u32)) (.pair (.slice 9 .str) (.pair (.slice 115 (.pair .str (.pair .bool .str))) (.slice 106 (.pair .str .str))))))))) l):∃ k,Q126.f k c l=some true:=by
 refine Zmj fun x hx=>?_
 have h1:IntKind.u32.min=0:=rfl
 have h2:IntKind.u32.max=4294967295:=rfl
 have hx2:=hl.2.2 x hx
 have hi:=hx2.2.1
 have hk:=hx2.2.2.2.1
 simp only [Ty.fit,Lit.wf] at hi
 have hi':0≤x.2.1∧x.2.1<4294967296:=by
  simp at hi
  omega
 obtain ⟨i,e⟩:=Int.eq_ofNat_of_zero_le hi'.1
 refine ⟨i,e,by omega,fun y hy=>?_⟩
 have hy2:=hk.2.2 y hy
 simp [Ty.fit,Lit.wf] at hy2
 omega
end Go.SK.T
