/- The plain law behind ShelfNone: what its code computes is true for all settings, devices, blocks and nodes. -/
import Derived.Test.YtgdmpkhmedbnpaaGreatDoorXShelfNoneF3
import Derived.KernelRfl
import Derived.Sort.Walk13a
import Derived.Sort.AssemblyPlain
set_option linter.unusedVariables false
set_option linter.unusedSimpArgs false
namespace Go.SK.T
open Go Go.SK
abbrev Msg:=List UInt8×Bool×List UInt8
abbrev Cfg:=Int×Int×Int×Int×Int×Int×Int×Int
abbrev Pr:=List UInt8×List UInt8
abbrev Nd:=Int×List Int×List (List UInt8)×List Msg×List Pr
structure SmallN (n:Nd):Prop where
 kids:n.2.1.length≤80
 pivs:n.2.2.1.length≤80
 buf:n.2.2.2.1.length≤150
 prs:n.2.2.2.2.length≤150
 pk:∀ p∈n.2.2.1,p.length≤200
 bk:∀ m∈n.2.2.2.1,m.1.length≤200
 rk:∀ m∈n.2.2.2.2,m.1.length≤200
structure MidN (n:Nd):Prop where
 kids:n.2.1.length≤80
 pivs:n.2.2.1.length≤80
 buf:n.2.2.2.1.length≤800
 prs:n.2.2.2.2.length≤800
 pk:∀ p∈n.2.2.1,p.length≤300
 bk:∀ m∈n.2.2.2.1,m.1.length≤300
 rk:∀ m∈n.2.2.2.2,m.1.length≤300
theorem Bh (n:Nd) (hb:n.2.2.2.2.length≤150):∀(k i:Nat),i≤n.2.2.2.2.length→n.2.2.2.2.length - i<k→(∀ m∈n.2.2.2.2.take i,m.1.length≤200)→
  ∃ g,Q132.l2 k n (i:Int)=some g∧(g=false→∀ m∈n.2.2.2.2,m.1.length≤200)
 | 0,i,_,h,_=>by omega
 | k+1,i,hi,hk,hm=>by
  rw [Q132.l2]
  by_cases h:i<n.2.2.2.2.length
  ·have g1:(0:Int)≤(i:Int)∧(i:Int)<(n.2.2.2.2.length:Int):=by omega
   rw [if_pos (decide_eq_true g1.2),if_pos g1,Ui]
   by_cases h2:200<(n.2.2.2.2.getD i default).1.length
   ·exact ⟨true,by rw [if_pos (decide_eq_true (by omega))],fun h=>by cases h⟩
   ·rw [if_neg (by simp only [decide_eq_true_eq]; omega),Wc (by omega)]
    refine Bh n hb k (i+1) (by omega) (by omega) fun m hm'=>?_
    rw [List.take_add_one,List.mem_append] at hm'
    rcases hm' with hm' | hm'
    ·exact hm m hm'
    ·rw [List.getElem?_eq_getElem h] at hm'
     simp only [Option.toList_some,List.mem_singleton] at hm'
     subst hm'
     rw [List.getD_eq_getElem?_getD,List.getElem?_eq_getElem h] at h2
     simp only [Option.getD_some] at h2
     omega
  ·rw [if_neg (by simp only [decide_eq_true_eq]; omega)]
   exact ⟨false,rfl,fun _=>by rwa [List.take_of_length_le (by omega)] at hm⟩
theorem G8 (n:Nd) (hb:n.2.2.2.2.length≤150) (hc:n.2.2.2.1.length≤150):∀(k i:Nat),i≤n.2.2.2.1.length→200+(n.2.2.2.1.length - i)<k→(∀ m∈n.2.2.2.1.take i,m.1.length≤200)→
  ∃ g,Q132.l1 k n (i:Int)=some g∧(g=false→(∀ m∈n.2.2.2.1,m.1.length≤200)∧∀ m∈n.2.2.2.2,m.1.length≤200)
 | 0,i,_,h,_=>by omega
 | k+1,i,hi,hk,hm=>by
  rw [Q132.l1]
  by_cases h:i<n.2.2.2.1.length
  ·have g1:(0:Int)≤(i:Int)∧(i:Int)<(n.2.2.2.1.length:Int):=by omega
   rw [if_pos (decide_eq_true g1.2),if_pos g1,Ui]
   by_cases h2:200<(n.2.2.2.1.getD i default).1.length
   ·exact ⟨true,by rw [if_pos (decide_eq_true (by omega))],fun h=>by cases h⟩
   ·rw [if_neg (by simp only [decide_eq_true_eq]; omega),Wc (by omega)]
    refine G8 n hb hc k (i+1) (by omega) (by omega) fun m hm'=>?_
    rw [List.take_add_one,List.mem_append] at hm'
    rcases hm' with hm' | hm'
    ·exact hm m hm'
    ·rw [List.getElem?_eq_getElem h] at hm'
     simp only [Option.toList_some,List.mem_singleton] at hm'
     subst hm'
     rw [List.getD_eq_getElem?_getD,List.getElem?_eq_getElem h] at h2
     simp only [Option.getD_some] at h2
     omega
  ·rw [if_neg (by simp only [decide_eq_true_eq]; omega)]
   obtain ⟨g,e1,e2⟩:=Bh n hb k 0 (by omega) (by omega) (by simp)
   rw [List.take_of_length_le (by omega)] at hm
   exact ⟨g,e1,fun e=>⟨hm,e2 e⟩⟩
theorem Gt (n:Nd) (hb:n.2.2.2.2.length≤150) (hc:n.2.2.2.1.length≤150) (hd:n.2.2.1.length≤80):∀(k i:Nat),i≤n.2.2.1.length→400+(n.2.2.1.length - i)<k→(∀ m∈n.2.2.1.take i,m.length≤200)→
  ∃ g,Q132.l0 k n (i:Int)=some g∧(g=false→(∀ m∈n.2.2.1,m.length≤200)∧(∀ m∈n.2.2.2.1,m.1.length≤200)∧∀ m∈n.2.2.2.2,m.1.length≤200)
 | 0,i,_,h,_=>by omega
 | k+1,i,hi,hk,hm=>by
  rw [Q132.l0]
  by_cases h:i<n.2.2.1.length
  ·have g1:(0:Int)≤(i:Int)∧(i:Int)<(n.2.2.1.length:Int):=by omega
   rw [if_pos (decide_eq_true g1.2),if_pos g1,Ui]
   by_cases h2:200<(n.2.2.1.getD i default).length
   ·exact ⟨true,by rw [if_pos (decide_eq_true (by omega))],fun h=>by cases h⟩
   ·rw [if_neg (by simp only [decide_eq_true_eq]; omega),Wc (by omega)]
    refine Gt n hb hc hd k (i+1) (by omega) (by omega) fun m hm'=>?_
    rw [List.take_add_one,List.mem_append] at hm'
    rcases hm' with hm' | hm'
    ·exact hm m hm'
    ·rw [List.getElem?_eq_getElem h] at hm'
     simp only [Option.toList_some,List.mem_singleton] at hm'
     subst hm'
     rw [List.getD_eq_getElem?_getD,List.getElem?_eq_getElem h] at h2
     simp only [Option.getD_some] at h2
     omega
  ·rw [if_neg (by simp only [decide_eq_true_eq]; omega)]
   obtain ⟨g,e1,e2⟩:=G8 n hb hc k 0 (by omega) (by omega) (by simp)
   rw [List.take_of_length_le (by omega)] at hm
   exact ⟨g,e1,fun e=>⟨hm,e2 e⟩⟩
theorem Bn (n:Nd) {k:Nat} (hk:1000<k):∃ g,Q132.f k n=some g∧(g=false→SmallN n):=by
 unfold Q132.f
 by_cases h1:80<n.2.1.length
 ·exact ⟨true,by rw [if_pos (decide_eq_true (by omega))],fun h=>by cases h⟩
 ·rw [if_neg (by simp only [decide_eq_true_eq]; omega)]
  by_cases h2:80<n.2.2.1.length
  ·exact ⟨true,by rw [if_pos (decide_eq_true (by omega))],fun h=>by cases h⟩
  ·rw [if_neg (by simp only [decide_eq_true_eq]; omega)]
   by_cases h3:150<n.2.2.2.1.length
   ·exact ⟨true,by rw [if_pos (decide_eq_true (by omega))],fun h=>by cases h⟩
   ·rw [if_neg (by simp only [decide_eq_true_eq]; omega)]
    by_cases h4:150<n.2.2.2.2.length
    ·exact ⟨true,by rw [if_pos (decide_eq_true (by omega))],fun h=>by cases h⟩
    ·rw [if_neg (by simp only [decide_eq_true_eq]; omega)]
     obtain ⟨g,e1,e2⟩:=Gt n (by omega) (by omega) (by omega) k 0 (by omega) (by omega) (by simp)
     exact ⟨g,e1,fun e=>⟨by omega,by omega,by omega,by omega,(e2 e).1,(e2 e).2.1,(e2 e).2.2⟩⟩
structure OkC (c:Cfg):Prop where
 fan:8≤c.2.2.2.1∧c.2.2.2.1≤64
 key:1≤c.2.2.2.2.2.2.1∧c.2.2.2.2.2.2.1≤64
 val:0≤c.2.2.2.2.2.2.2∧c.2.2.2.2.2.2.2≤256
 buf:16≤c.2.2.2.2.1∧c.2.2.2.2.1≤512
 leaf:c.2.2.2.2.1≤c.2.2.2.2.2.1∧c.2.2.2.2.2.1≤1024
abbrev Sp:=List UInt8×List UInt8×Bool
def inS (s:Sp) (x:List UInt8):Bool:=!Op.bytesLess x s.1 && (s.2.2 || Op.bytesLess x s.2.1)
def Zb7:List Pr→Bool
 | a :: b :: r=>Op.bytesLess a.1 b.1 && Zb7 (b :: r)
 | _=>true
def Zbi (c:Cfg) (x:List UInt8):Bool:=decide (1≤(x.length:Int)∧(x.length:Int)≤c.2.2.2.2.2.2.1)
def prB (c:Cfg) (s:Sp) (p:Pr):Bool:=Zbi c p.1 && (inS s p.1 && decide ((p.2.length:Int)≤c.2.2.2.2.2.2.2))
def Zct (c:Cfg) (s:Sp) (n:Nd):Bool:=n.2.2.2.2.all (prB c s) && (decide (n.2.1=[]) && (decide (n.2.2.1=[]) && (decide (n.2.2.2.1=[]) && (decide ((n.2.2.2.2.length:Int)≤c.2.2.2.2.2.1) && Zb7 n.2.2.2.2))))
structure SmallL (l:List (List UInt8)) (s:Sp):Prop where
 len:l.length≤80
 all:∀ p∈l,p.length≤300
 lo:s.1.length≤300
 hi:s.2.1.length≤300
def piv (s:Sp) (p:List UInt8):Bool:=inS s p && !decide (p=s.1)
def Zb5:List Msg→Bool
 | a :: b :: r=>Op.bytesLess a.1 b.1 && Zb5 (b :: r)
 | _=>true
def Zdl (c:Cfg) (s:Sp) (m:Msg):Bool:=Zbi c m.1 && (inS s m.1 && (decide ((m.2.2.length:Int)≤c.2.2.2.2.2.2.2) && (!m.2.1 || decide (m.2.2=[]))))
def Zc7 (c:Cfg) (s:Sp) (n:Nd):Bool:=decide (n.1≤40) && (decide (n.2.2.2.2=[]) && (decide (1≤n.2.1.length) && (decide ((n.2.1.length:Int)≤c.2.2.2.1) && (decide (n.2.2.1.length+1=n.2.1.length) && ((n.2.2.1.all (piv s) && Zb3 n.2.2.1) && (decide ((n.2.2.2.1.length:Int)≤c.2.2.2.2.1) && Zb5 n.2.2.2.1))))))
theorem MidN.l {n:Nd} (hn:MidN n) {s:Sp} (h1:s.1.length≤300) (h2:s.2.1.length≤300):SmallL n.2.2.1 s:=⟨hn.pivs,fun p hp=>by have:=hn.pk p hp; omega,h1,h2⟩
def neB (l:List Int) (i q:Nat):Bool:=!decide (l.getD q 0=l.getD i 0)
def Zcv (c:Cfg) (l:List Int) (i:Nat):Bool:=!decide (l.getD i 0=0) && (!decide (c.1≤w64 (l.getD i 0)) && (List.range' 0 i).all (neB l i))
def Zc9 (c:Cfg) (s:Sp) (n:Nd):Bool:=n.2.2.1.all (Zbi c) && (n.2.2.2.1.all (Zdl c s) && Zc7 c s n)
def Zc2 (c:Cfg) (s:Sp) (n:Nd):Bool:=(List.range' 0 n.2.1.length).all (Zcv c n.2.1) && Zc9 c s n
structure RightN (c:Cfg) (s:Sp) (n:Nd):Prop where
 small:SmallN n
 cfg:OkC c
 lo:s.1.length≤200
 hi:s.2.1.length≤200
 leaf:n.1=0→Zct c s n=true
 node:n.1≠0→0<n.1∧Zc2 c s n=true
structure Short (n:Nd):Prop where
 kids:n.2.1.length≤1000
 pivs:n.2.2.1.length≤1000
 buf:n.2.2.2.1.length≤1000
 prs:n.2.2.2.2.length≤1000
instance decNd4:DecidableEq (List Msg×List Pr):=instDecidableEqProd
instance decNd3:DecidableEq (List (List UInt8)×List Msg×List Pr):=instDecidableEqProd
instance decNd2:DecidableEq (List Int×List (List UInt8)×List Msg×List Pr):=instDecidableEqProd
instance decNd1:DecidableEq Nd:=instDecidableEqProd
def joinN (a:Nd) (p:List UInt8) (b:Nd):Nd×Bool:=
 if a.1=b.1 then ((a.1,a.2.1 ++ b.2.1,if 0<a.1 then a.2.2.1 ++ [p] ++ b.2.2.1 else a.2.2.1,a.2.2.2.1 ++ b.2.2.2.1,a.2.2.2.2 ++ b.2.2.2.2),true) else ((0,[],[],[],[]),false)
def fitsN (c:Cfg) (a b:Nd):Bool:=decide (a.1=b.1) && (if a.1=0 then decide (2*((a.2.2.2.2.length+b.2.2.2.2.length:Nat):Int)≤c.2.2.2.2.2.1) else decide (2*((a.2.1.length+b.2.1.length:Nat):Int)≤c.2.2.2.1) && decide (((a.2.2.2.1.length+b.2.2.2.1.length:Nat):Int)≤c.2.2.2.2.1))
def adjI (l:List Int):Prop:=∀ q,q+1<l.length→l.getD (q+1) 0≠l.getD q 0
def kidsB (c:Cfg) (l:List Int):Bool:=decide (1≤l.length) && (decide ((l.length:Int)≤c.2.2.2.1) && (List.range' 0 l.length).all (Zcv c l))
def Zcx (c:Cfg) (s:Sp) (n:Nd):Bool:=if n.1=0 then Zct c s n else decide (0<n.1) && Zc2 c s n
def be:Nat→Nat→List UInt8
 | 0,_=>[]
 | w+1,v=>UInt8.ofNat (v / 256 ^ w) :: be w v
def rdv (l:List UInt8):Nat:=l.foldl (fun a c=>a*256+c.toNat) 0
def zs (n:Nat):List UInt8:=List.replicate n 0
def slt (s:List UInt8) (n:Nat):List UInt8:=s ++ zs (n - s.length)
def prS (K V:Nat) (p:List UInt8×List UInt8):List UInt8:=be 1 p.1.length ++ (be 2 p.2.length ++ (slt p.1 K ++ slt p.2 V))
def msS (K V:Nat) (m:List UInt8×Bool×List UInt8):List UInt8:=(if m.2.1=true then 2 else 1) :: prS K V (m.1,m.2.2)
def pvS (K:Nat) (p:List UInt8):List UInt8:=be 1 p.length ++ slt p K
def cat {α:Type} (f:α→List UInt8) (l:List α):List UInt8:=l.flatMap f
def kdS (x:Int):List UInt8:=be 4 x.toNat
def cBy (c:Cfg):Nat:=c.2.1.toNat
def cFa (c:Cfg):Nat:=c.2.2.2.1.toNat
def cBu (c:Cfg):Nat:=c.2.2.2.2.1.toNat
def cLe (c:Cfg):Nat:=c.2.2.2.2.2.1.toNat
def cK (c:Cfg):Nat:=c.2.2.2.2.2.2.1.toNat
def cV (c:Cfg):Nat:=c.2.2.2.2.2.2.2.toNat
def hdO (n:Nd):List UInt8:=1 :: 0 :: (be 2 n.2.2.2.2.length ++ zs 4)
def hdI (n:Nd):List UInt8:=2 :: (be 1 n.1.toNat ++ (be 2 n.2.1.length ++ (be 2 n.2.2.2.1.length ++ zs 2)))
def bdO (c:Cfg) (n:Nd):List UInt8:=cat (prS (cK c) (cV c)) n.2.2.2.2
def bdI (c:Cfg) (n:Nd):List UInt8:=cat kdS n.2.1 ++ (zs (4*(cFa c - n.2.1.length)) ++ (cat (pvS (cK c)) n.2.2.1 ++ (zs ((1+cK c)*(cFa c - 1 - n.2.2.1.length)) ++ cat (msS (cK c) (cV c)) n.2.2.2.1)))
def Zdh (c:Cfg) (n:Nd):List UInt8:=if n.1=0 then hdO n ++ bdO c n else hdI n ++ bdI c n
def Zdc (c:Cfg) (n:Nd):List UInt8:=slt (Zdh c n) (cBy c)
structure FitN (c:Cfg) (n:Nd):Prop where
 lv:0≤n.1∧n.1≤40
 kd:∀ x∈n.2.1,0≤x∧x<4294967296
 o:n.1=0→n.2.1=[]∧n.2.2.1=[]∧n.2.2.2.1=[]∧n.2.2.2.2.length≤cLe c
 i:n.1≠0→n.2.2.2.2=[]∧1≤n.2.1.length∧n.2.1.length≤cFa c∧n.2.2.1.length+1=n.2.1.length∧n.2.2.2.1.length≤cBu c
 pk:∀ p∈n.2.2.1,p.length≤cK c
 ms:∀ m∈n.2.2.2.1,m.1.length≤cK c∧m.2.2.length≤cV c
 rk:∀ p∈n.2.2.2.2,p.1.length≤cK c∧p.2.length≤cV c
def szB (c:Cfg):Bool:=decide (8≤c.2.2.2.1∧c.2.2.2.1≤64) && (decide (1≤c.2.2.2.2.2.2.1∧c.2.2.2.2.2.2.1≤64) && (decide (0≤c.2.2.2.2.2.2.2∧c.2.2.2.2.2.2.2≤256) && (decide (2*c.2.2.2.1≤c.2.2.2.2.1∧c.2.2.2.2.1≤512) && decide (c.2.2.2.2.1≤c.2.2.2.2.2.1∧c.2.2.2.2.2.1≤1024))))
theorem U8 {c:Cfg} (h:szB c=true):OkC c:=by
 simp only [szB,Bool.and_eq_true,decide_eq_true_eq] at h
 exact ⟨h.1,h.2.1,h.2.2.1,by omega,h.2.2.2.2⟩
def Vd (c:Cfg):Int:=8+(4+(c.2.2.2.1 - 1)*(5+c.2.2.2.2.2.2.1)+c.2.2.2.2.1*(4+c.2.2.2.2.2.2.1+c.2.2.2.2.2.2.2))
def Vo (c:Cfg):Int:=8+c.2.2.2.2.2.1*(3+c.2.2.2.2.2.2.1+c.2.2.2.2.2.2.2)
def okB (c:Cfg):Bool:=szB c && (decide (5≤c.1∧c.1≤65536) && (decide (8≤c.2.2.1∧c.2.2.1≤64) && (decide (64≤c.2.1∧c.2.1≤65536) && (decide (Vd c≤c.2.1) && decide (Vo c≤c.2.1)))))
theorem Za7 (a b c:Int):Q140.f a b c=some (decide (b≤a∧a≤c)):=by
 unfold Q140.f
 by_cases h:b≤a <;> simp [h]
theorem Ue (c:Cfg):Q139.f c=some (szB c):=by
 unfold Q139.f szB
 simp only [Za7,Option.bind_some]
 by_cases h1:8≤c.2.2.2.1∧c.2.2.2.1≤64
 ·have w:w64 (2*c.2.2.2.1)=2*c.2.2.2.1:=Yk (by omega) (by omega)
  rw [w,decide_eq_true h1]
  cases decide (1≤c.2.2.2.2.2.2.1∧c.2.2.2.2.2.2.1≤64) <;> cases decide (0≤c.2.2.2.2.2.2.2∧c.2.2.2.2.2.2.2≤256) <;> cases decide (2*c.2.2.2.1≤c.2.2.2.2.1∧c.2.2.2.2.1≤512) <;> rfl
 ·rw [decide_eq_false h1]; rfl
theorem Bu {c:Cfg} (hc:OkC c):∀(m i k:Nat) (x:Int),c.2.2.2.2.1=(i:Int)+m→m<k→0≤x→x+m*324≤1000000000→Q136.l1 k c x (i:Int)=some (x+m*(4+c.2.2.2.2.2.2.1+c.2.2.2.2.2.2.2))
 | 0,i,k+1,x,h,_,_,_=>by
  rw [Q136.l1,if_neg (by simp only [decide_eq_true_eq]; omega)]; simp
 | m+1,i,k+1,x,h,hk,h0,h1=>by
  have a1:=hc.key
  have a2:=hc.val
  have hb:=hc.buf
  rw [Q136.l1,if_pos (decide_eq_true (by omega)),Yk (x:=x+4) (by omega) (by omega),Yk (x:=x+4+c.2.2.2.2.2.2.1) (by omega) (by omega),Yk (x:=x+4+c.2.2.2.2.2.2.1+c.2.2.2.2.2.2.2) (by omega) (by omega),Wc (by omega),Bu hc m (i+1) k _ (by omega) (by omega) (by omega) (by omega)]
  congr 1
  rw [show ((m+1:Nat):Int)=(m:Int)+1 by omega,Int.add_mul]; omega
theorem Bs {c:Cfg} (hc:OkC c):∀(m i k:Nat) (x:Int),1≤i→c.2.2.2.1=(i:Int)+m→m+600<k→0≤x→x+m*69≤100000→Q136.l0 k c x (i:Int)=some (x+m*(5+c.2.2.2.2.2.2.1)+c.2.2.2.2.1*(4+c.2.2.2.2.2.2.1+c.2.2.2.2.2.2.2))
 | 0,i,k+1,x,h2,h,hk,h0,h1=>by
  have hb:=hc.buf
  obtain ⟨B,hB⟩:=Int.eq_ofNat_of_zero_le (show 0≤c.2.2.2.2.1 by omega)
  rw [Q136.l0,if_neg (by simp only [decide_eq_true_eq]; omega),show Q136.l1 k c x 0=_ from Bu hc B 0 k x (by rw [hB]; simp) (by omega) h0 (by omega),hB]; simp
 | m+1,i,k+1,x,h2,h,hk,h0,h1=>by
  have a1:=hc.key
  have hb:=hc.fan
  rw [Q136.l0,if_pos (decide_eq_true (by omega)),if_pos (decide_eq_true (by omega)),Yk (x:=x+4) (by omega) (by omega),Yk (x:=x+4+1) (by omega) (by omega),Yk (x:=x+4+1+c.2.2.2.2.2.2.1) (by omega) (by omega),Wc (by omega),Bs hc m (i+1) k _ (by omega) (by omega) (by omega) (by omega) (by omega)]
  congr 1
  rw [show ((m+1:Nat):Int)=(m:Int)+1 by omega,Int.add_mul]; omega
theorem Zci {c:Cfg} (h:szB c=true) {k:Nat} (hk:1000<k):Q136.f k c=some (Vd c):=by
 have hc:=U8 h
 have hf:=hc.fan
 obtain ⟨F,hF⟩:=Int.eq_ofNat_of_zero_le (show 0≤c.2.2.2.1 by omega)
 obtain ⟨k,rfl⟩:∃ q,k=q+1:=⟨k - 1,by omega⟩
 unfold Q136.f
 rw [show Q139.f (c.1,c.2.1,c.2.2.1,c.2.2.2.1,c.2.2.2.2.1,c.2.2.2.2.2.1,c.2.2.2.2.2.2.1,c.2.2.2.2.2.2.2)=_ from Ue c,h,Option.bind_some,if_neg (by simp),Q136.l0,if_pos (decide_eq_true (by omega)),if_neg (by simp),show w64 (8+4)=12 from rfl,show w64 (0+1)=((1:Nat):Int) from rfl,Bs hc (F - 1) 1 k 12 (Nat.le_refl _) (by omega) (by omega) (by omega) (by omega),show ((F - 1:Nat):Int)=c.2.2.2.1 - 1 by omega]
 unfold Vd
 congr 1; omega
theorem B2 {c:Cfg} (hc:OkC c):∀(m i k:Nat) (x:Int),c.2.2.2.2.2.1=(i:Int)+m→m<k→0≤x→x+m*324≤1000000000→Q137.l0 k c x (i:Int)=some (x+m*(3+c.2.2.2.2.2.2.1+c.2.2.2.2.2.2.2))
 | 0,i,k+1,x,h,_,_,_=>by
  rw [Q137.l0,if_neg (by simp only [decide_eq_true_eq]; omega)]; simp
 | m+1,i,k+1,x,h,hk,h0,h1=>by
  have a1:=hc.key
  have a2:=hc.val
  have hb:=hc.leaf
  rw [Q137.l0,if_pos (decide_eq_true (by omega)),Yk (x:=x+3) (by omega) (by omega),Yk (x:=x+3+c.2.2.2.2.2.2.1) (by omega) (by omega),Yk (x:=x+3+c.2.2.2.2.2.2.1+c.2.2.2.2.2.2.2) (by omega) (by omega),Wc (by omega),B2 hc m (i+1) k _ (by omega) (by omega) (by omega) (by omega)]
  congr 1
  rw [show ((m+1:Nat):Int)=(m:Int)+1 by omega,Int.add_mul]; omega
theorem Zb9 {c:Cfg} (h:szB c=true) {k:Nat} (hk:2000<k):Q137.f k c=some (Vo c):=by
 have hc:=U8 h
 have hf:=hc.leaf
 have hb:=hc.buf
 obtain ⟨L,hL⟩:=Int.eq_ofNat_of_zero_le (show 0≤c.2.2.2.2.2.1 by omega)
 unfold Q137.f
 rw [show Q139.f (c.1,c.2.1,c.2.2.1,c.2.2.2.1,c.2.2.2.2.1,c.2.2.2.2.2.1,c.2.2.2.2.2.2.1,c.2.2.2.2.2.2.2)=_ from Ue c,h,Option.bind_some,if_neg (by simp),show Q137.l0 k c 8 0=_ from B2 hc L 0 k 8 (by omega) (by omega) (by omega) (by omega),← hL]
 rfl
theorem J5 (c:Cfg) {k:Nat} (hk:2000<k):Q138.f k c=some (okB c):=by
 unfold Q138.f okB
 rw [show Q139.f (c.1,c.2.1,c.2.2.1,c.2.2.2.1,c.2.2.2.2.1,c.2.2.2.2.2.1,c.2.2.2.2.2.2.1,c.2.2.2.2.2.2.2)=_ from Ue c,Option.bind_some]
 cases h:szB c with
 | false=>rfl
 | true=>
  rw [if_pos rfl,show Q136.f k (c.1,c.2.1,c.2.2.1,c.2.2.2.1,c.2.2.2.2.1,c.2.2.2.2.2.1,c.2.2.2.2.2.2.1,c.2.2.2.2.2.2.2)=_ from Zci h (by omega),show Q137.f k (c.1,c.2.1,c.2.2.1,c.2.2.2.1,c.2.2.2.2.1,c.2.2.2.2.2.1,c.2.2.2.2.2.2.1,c.2.2.2.2.2.2.2)=_ from Zb9 h hk]
  simp only [Za7,Option.bind_some]
  cases decide (5≤c.1∧c.1≤65536) <;> cases decide (8≤c.2.2.1∧c.2.2.1≤64) <;> cases decide (64≤c.2.1∧c.2.1≤65536) <;> cases decide (Vd c≤c.2.1) <;> rfl
abbrev Zda:Sp:=([],[],true)
theorem Ja (c:Cfg):Q49.f c=some (szB c):=by
 unfold Q49.f szB
 by_cases h1:8≤c.2.2.2.1∧c.2.2.2.1≤64
 ·have w:w64 (2*c.2.2.2.1)=2*c.2.2.2.1:=Yk (by omega) (by omega)
  rw [w,if_neg (by simp only [decide_eq_true_eq]; omega),if_neg (by simp only [decide_eq_true_eq]; omega),decide_eq_true h1]
  by_cases h2:1≤c.2.2.2.2.2.2.1∧c.2.2.2.2.2.2.1≤64
  ·by_cases h3:0≤c.2.2.2.2.2.2.2∧c.2.2.2.2.2.2.2≤256
   ·by_cases h4:2*c.2.2.2.1≤c.2.2.2.2.1∧c.2.2.2.2.1≤512
    ·by_cases h5:c.2.2.2.2.1≤c.2.2.2.2.2.1∧c.2.2.2.2.2.1≤1024
     ·rw [if_neg (by simp only [decide_eq_true_eq]; omega),if_neg (by simp only [decide_eq_true_eq]; omega),if_neg (by simp only [decide_eq_true_eq]; omega),if_neg (by simp only [decide_eq_true_eq]; omega),if_neg (by simp only [decide_eq_true_eq]; omega),if_neg (by simp only [decide_eq_true_eq]; omega),if_neg (by simp only [decide_eq_true_eq]; omega),if_neg (by simp only [decide_eq_true_eq]; omega),decide_eq_true h2,decide_eq_true h3,decide_eq_true h4,decide_eq_true h5]
      rfl
     ·rw [if_neg (by simp only [decide_eq_true_eq]; omega),if_neg (by simp only [decide_eq_true_eq]; omega),decide_eq_false h5]
      simp only [Bool.and_false]
      by_cases q:c.2.2.2.2.2.1<c.2.2.2.2.1
      ·rw [if_pos (decide_eq_true q)]
      ·rw [if_neg (by simpa using q),if_pos (decide_eq_true (by omega))]
    ·rw [decide_eq_false h4]
     simp only [Bool.false_and,Bool.and_false]
     by_cases q:c.2.2.2.2.1<2*c.2.2.2.1
     ·rw [if_pos (decide_eq_true q)]
     ·rw [if_neg (by simpa using q),if_pos (decide_eq_true (by omega))]
   ·rw [decide_eq_false h3]
    simp only [Bool.false_and,Bool.and_false]
    repeat' split
    all_goals first | rfl | (simp only [decide_eq_true_eq] at *; omega)
  ·rw [decide_eq_false h2]
   simp only [Bool.false_and,Bool.and_false]
   repeat' split
   all_goals first | rfl | (simp only [decide_eq_true_eq] at *; omega)
 ·rw [decide_eq_false h1]
  simp only [Bool.false_and]
  by_cases q:c.2.2.2.1<8
  ·rw [if_pos (decide_eq_true q)]
  ·rw [if_neg (by simpa using q),if_pos (decide_eq_true (by omega))]
theorem Zah (c:Cfg):(c.1,c.2.1,c.2.2.1,c.2.2.2.1,c.2.2.2.2.1,c.2.2.2.2.2.1,c.2.2.2.2.2.2.1,c.2.2.2.2.2.2.2)=c:=rfl
theorem Zde {c:Cfg} (h:szB c=true):Q46.f c=some (Vd c)∧8≤Vd c∧Vd c≤200000:=by
 have hc:=U8 h
 have a1:=hc.fan
 have a2:=hc.key
 have a3:=hc.val
 have a4:=hc.buf
 have p0:0≤(c.2.2.2.1 - 1)*(1+c.2.2.2.2.2.2.1):=Int.mul_nonneg (by omega) (by omega)
 have p1:(c.2.2.2.1 - 1)*(1+c.2.2.2.2.2.2.1)≤63*65:=Int.mul_le_mul (by omega) (by omega) (by omega) (by omega)
 have q0:0≤c.2.2.2.2.1*(4+c.2.2.2.2.2.2.1+c.2.2.2.2.2.2.2):=Int.mul_nonneg (by omega) (by omega)
 have q1:c.2.2.2.2.1*(4+c.2.2.2.2.2.2.1+c.2.2.2.2.2.2.2)≤512*324:=Int.mul_le_mul (by omega) (by omega) (by omega) (by omega)
 have e:Vd c=8+4*c.2.2.2.1+(c.2.2.2.1 - 1)*(1+c.2.2.2.2.2.2.1)+c.2.2.2.2.1*(4+c.2.2.2.2.2.2.1+c.2.2.2.2.2.2.2):=by
  unfold Vd
  rw [show 5+c.2.2.2.2.2.2.1=4+(1+c.2.2.2.2.2.2.1) by omega,Int.mul_add]; omega
 refine ⟨?_,by omega,by omega⟩
 unfold Q46.f
 (try rw [Zah]); rw [Ja,h,Option.bind_some,if_neg (by simp),Yk (x:=4*c.2.2.2.1) (by omega) (by omega),Yk (x:=8+4*c.2.2.2.1) (by omega) (by omega),Yk (x:=c.2.2.2.1 - 1) (by omega) (by omega),Yk (x:=1+c.2.2.2.2.2.2.1) (by omega) (by omega),Yk (x:=4+c.2.2.2.2.2.2.1) (by omega) (by omega),Yk (x:=4+c.2.2.2.2.2.2.1+c.2.2.2.2.2.2.2) (by omega) (by omega),
  Yk (x:=(c.2.2.2.1 - 1)*(1+c.2.2.2.2.2.2.1)) (by omega) (by omega),Yk (x:=c.2.2.2.2.1*(4+c.2.2.2.2.2.2.1+c.2.2.2.2.2.2.2)) (by omega) (by omega),Yk (x:=8+4*c.2.2.2.1+(c.2.2.2.1 - 1)*(1+c.2.2.2.2.2.2.1)) (by omega) (by omega),Yk (by omega) (by omega),e]
theorem Zdj {c:Cfg} (h:szB c=true):Q48.f c=some (Vo c)∧8≤Vo c∧Vo c≤400000:=by
 have hc:=U8 h
 have a2:=hc.key
 have a3:=hc.val
 have a4:=hc.buf
 have a5:=hc.leaf
 have q0:0≤c.2.2.2.2.2.1*(3+c.2.2.2.2.2.2.1+c.2.2.2.2.2.2.2):=Int.mul_nonneg (by omega) (by omega)
 have q1:c.2.2.2.2.2.1*(3+c.2.2.2.2.2.2.1+c.2.2.2.2.2.2.2)≤1024*323:=Int.mul_le_mul (by omega) (by omega) (by omega) (by omega)
 refine ⟨?_,by unfold Vo; omega,by unfold Vo; omega⟩
 unfold Q48.f Vo
 (try rw [Zah]); rw [Ja,h,Option.bind_some,if_neg (by simp),Yk (x:=3+c.2.2.2.2.2.2.1) (by omega) (by omega),Yk (x:=3+c.2.2.2.2.2.2.1+c.2.2.2.2.2.2.2) (by omega) (by omega),Yk (x:=c.2.2.2.2.2.1*(3+c.2.2.2.2.2.2.1+c.2.2.2.2.2.2.2)) (by omega) (by omega),Yk (by omega) (by omega)]
theorem Za0 (c:Cfg):Q45.f c=some (if okB c=true then 0 else 2):=by
 unfold Q45.f okB
 (try rw [Zah]); rw [Ja,Option.bind_some]
 cases h:szB c with
 | false=>rfl
 | true=>
  obtain ⟨i1,i2,i3⟩:=Zde h
  obtain ⟨o1,o2,o3⟩:=Zdj h
  rw [if_pos rfl]
  by_cases a1:5≤c.1∧c.1≤65536
  ·rw [if_pos (decide_eq_true a1.1),if_pos (decide_eq_true a1.2),decide_eq_true a1]
   by_cases a2:8≤c.2.2.1∧c.2.2.1≤64
   ·rw [if_pos (decide_eq_true a2.1),if_neg (by simp [a2.2]),decide_eq_true a2]
    by_cases a3:65536<c.2.1
    ·rw [if_pos (decide_eq_true a3),decide_eq_false (show ¬ (64≤c.2.1∧c.2.1≤65536) by omega)]; rfl
    ·rw [if_neg (by simpa using a3)]
     unfold Q47.f
     (try rw [Zah]); rw [Ja,h,Option.bind_some,if_pos rfl,i1,o1,Option.bind_some,Option.bind_some,Option.bind_some]
     dsimp only
     generalize Vd c=I at *
     generalize Vo c=O at *
     by_cases b1:c.2.1<64
     ·rw [if_pos (decide_eq_true (by split <;> split <;> omega)),decide_eq_false (show ¬ (64≤c.2.1∧c.2.1≤65536) by omega)]; rfl
     ·rw [decide_eq_true (show 64≤c.2.1∧c.2.1≤65536 by omega)]
      by_cases b2:I≤c.2.1
      ·rw [decide_eq_true b2]
       by_cases b3:O≤c.2.1
       ·rw [decide_eq_true b3,if_neg (by simp only [decide_eq_true_eq]; split <;> split <;> omega)]; rfl
       ·rw [decide_eq_false b3,if_pos (decide_eq_true (by split <;> split <;> omega))]; rfl
      ·rw [decide_eq_false b2,if_pos (decide_eq_true (by split <;> split <;> omega))]; rfl
   ·rw [decide_eq_false a2]
    by_cases q:8≤c.2.2.1
    ·rw [if_pos (decide_eq_true q),if_pos (by simp; omega)]; rfl
    ·rw [if_neg (by simpa using q)]; rfl
  ·rw [decide_eq_false a1]
   by_cases q:5≤c.1
   ·rw [if_pos (decide_eq_true q),if_neg (by simp only [decide_eq_true_eq]; omega)]; rfl
   ·rw [if_neg (by simpa using q)]; rfl
structure NatC (c:Cfg):Prop where
 f:c.2.2.2.1=(cFa c:Int)
 k:c.2.2.2.2.2.2.1=(cK c:Int)
 v:c.2.2.2.2.2.2.2=(cV c:Int)
 b:c.2.2.2.2.1=(cBu c:Int)
 l:c.2.2.2.2.2.1=(cLe c:Int)
theorem OkC.int {c:Cfg} (h:OkC c):NatC c:=by
 have h1:=h.fan
 have h2:=h.key
 have h3:=h.val
 have h4:=h.buf
 have h5:=h.leaf
 constructor <;> simp only [cFa,cK,cV,cBu,cLe] <;> omega
def rest1 (c:Cfg) (n:Nd):List UInt8:=cat (pvS (cK c)) n.2.2.1 ++ (zs ((1+cK c)*(cFa c - 1 - n.2.2.1.length)) ++ cat (msS (cK c) (cV c)) n.2.2.2.1)
def encV (c:Cfg) (n:Nd):List Int×Int:=if okB c=true then (if Zcx c Zda n=true then (toB (Zdc c n),0) else ([],3)) else ([],2)
abbrev Lnk:=Int×Int×Bool
abbrev Chn:=List Lnk×Int
def ah (l:List Lnk) (k:Nat):Int:=(l.getD k default).1
def bh (l:List Lnk) (k:Nat):Int:=(l.getD k default).2.1
def inn (l:List Lnk) (k:Nat):Bool:=(l.getD k default).2.2
theorem Gn {α:Type} {l:List α} {j k:Nat} {v d:α} (hj:j<l.length):(l.set j v).getD k d=if j=k then v else l.getD k d:=by
 rw [List.getD_eq_getElem?_getD,List.getD_eq_getElem?_getD,List.getElem?_set]
 split
 ·rename_i h
  subst h
  simp [hj]
 ·rfl
def Lk (l:List Lnk) (a b:Nat):Prop:=bh l a=(b:Int)∧ah l b=(a:Int)
def We (l:List Lnk):Nat→List Nat→Prop
 | _,[]=>True
 | a,x :: L=>Lk l a x∧We l x L
def Wt:Nat→List Nat→Nat
 | a,[]=>a
 | _,x :: L=>Wt x L
theorem Gu {l:List Lnk}:∀ {a:Nat} {X Y:List Nat},We l a (X ++ Y)↔We l a X∧We l (Wt a X) Y
 | a,[],Y=>by simp [We,Wt]
 | a,x :: X,Y=>by
  rw [List.cons_append,We,We,Wt,Gu,and_assoc]
theorem Gb:∀ {a:Nat} {L:List Nat},Wt a L∈a :: L
 | a,[]=>by simp [Wt]
 | a,x :: L=>by
  rw [Wt]
  have:=Gb (a:=x) (L:=L)
  simp only [List.mem_cons] at this ⊢
  rcases this with h | h
  ·exact .inr (.inl h)
  ·exact .inr (.inr h)
structure ChI (n:Nat) (c:Chn) (L:List Nat):Prop where
 len:c.1.length=n+1
 cnt:c.2=(L.length:Int)
 nd:L.Nodup
 lt:∀ x∈L,x<n
 inn:∀ x,x≤n→(inn c.1 x=true↔x∈L)
 ring:We c.1 n (L ++ [n])
section
variable {n:Nat} {c:Chn} {L:List Nat}
theorem ChI.split (h:ChI n c L) {i:Nat} (hi:i∈L):∃(P S:List Nat) (s:Nat) (T:List Nat),L=P ++ i :: S∧S ++ [n]=s :: T∧We c.1 n P∧Lk c.1 (Wt n P) i∧Lk c.1 i s∧We c.1 s T∧Wt n P≤n∧s≤n:=by
 obtain ⟨P,S,rfl⟩:=List.append_of_mem hi
 obtain ⟨s,T,e⟩:∃ s T,S ++ [n]=s :: T:=by
  cases S with
  | nil=>exact ⟨n,[],rfl⟩
  | cons x S=>exact ⟨x,S ++ [n],rfl⟩
 have hr:=h.ring
 rw [List.append_assoc,List.cons_append,Gu,We,e,We] at hr
 refine ⟨P,S,s,T,rfl,e,hr.1,hr.2.1,hr.2.2.1,hr.2.2.2,?_,?_⟩
 ·have:=Gb (a:=n) (L:=P)
  rcases List.mem_cons.1 this with h1 | h1
  ·omega
  ·have:=h.lt _ (List.mem_append_left _ h1); omega
 ·have:s∈S ++ [n]:=by rw [e]; simp
  rcases List.mem_append.1 this with h1 | h1
  ·have:=h.lt s (by simp [h1]); omega
  ·simp at h1; omega
theorem Zdb (hn:1≤n) (h64:n≤64):∃ c',Q31.f (n:Int)=some (some c',0)∧ChI n c' []:=by
 unfold Q31.f
 have e:(w64 ((n:Int)+1))=((n+1:Nat):Int):=by rw [Yk (by omega) (by omega)]; omega
 rw [if_neg (by simp only [decide_eq_true_eq]; omega),if_neg (by simp only [decide_eq_true_eq]; omega),e,if_pos (by omega),Int.toNat_natCast,if_pos (by rw [List.length_replicate]; omega),Int.toNat_natCast]
 have g:∀ k,((List.replicate (n+1) ((0,0,false):Lnk)).set n ((n:Int),(n:Int),false)).getD k default=if n=k then ((n:Int),(n:Int),false) else (List.replicate (n+1) ((0,0,false):Lnk)).getD k default:=fun k=>Gn (by rw [List.length_replicate]; omega)
 refine ⟨_,rfl,⟨by simp,rfl,by simp,by simp,fun x hx=>?_,?_⟩⟩
 ·show (_:Lnk).2.2=true↔_
  rw [g x]
  split
  ·simp
  ·rw [List.getD_eq_getElem?_getD,List.getElem?_replicate,if_pos (by omega)]; simp
 ·rw [List.nil_append,We,We]
  refine ⟨⟨?_,?_⟩,trivial⟩
  ·show (_:Lnk).2.1=_
   rw [g n,if_pos rfl]
  ·show (_:Lnk).1=_
   rw [g n,if_pos rfl]
end
abbrev Dv:=Int×List Int×(Int×Int)
def blk (img:List Int) (n i:Nat):List Int:=(img.drop (i*n)).take n
theorem J6 {N n:Nat} {img:List Int} {s:Int×Int} (hn:1≤n) (hl:img.length=N*n) (hb:N*n≤4294967296):Q50.f ((n:Int),img,s)=some (N:Int):=by
 have hN:N≤4294967296:=Nat.le_trans (Nat.le_mul_of_pos_right N hn) hb
 have e:Int.tdiv (img.length:Int) (n:Int)=N:=by
  rw [hl,Int.natCast_mul]
  exact Int.mul_tdiv_cancel _ (by omega)
 unfold Q50.f
 dsimp only
 rw [if_neg (by simp only [decide_eq_true_eq]; omega),if_pos (by omega),e,Yk (by omega) (by omega)]
def Lb (img:List Int) (N n:Nat):List (List UInt8):=(List.range N).map fun i=>toS (blk img n i)
def rightD (N n:Nat):Bool:=decide (5≤N∧N≤65536∧1≤n∧n≤65536)
def upd {α:Type} (g:Nat→α) (i:Nat) (v:α):Nat→α:=fun j=>if j=i then v else g j
theorem Vy {α:Type} (g:Nat→α) (i:Nat) (v:α):upd g i v i=v:=if_pos rfl
theorem Vg {α:Type} {g:Nat→α} {i j:Nat} {v:α} (h:j≠i):upd g i v j=g j:=if_neg h
abbrev Bt:=Int×Int×List Int
theorem Zce:IntKind.u64.bits=64:=rfl
theorem wrB {m:Nat} (h:m<18446744073709551616):IntKind.u64.wrap (m:Int)=(m:Int):=by
 have:IntKind.u64.wrap (m:Int)=((m % 18446744073709551616:Nat):Int):=by simp [IntKind.wrap,IntKind.bits,IntKind.signed]
 rw [this,Nat.mod_eq_of_lt h]
theorem ofB {x:Nat} (h:x<18446744073709551616):(BitVec.ofInt IntKind.u64.bits (x:Int)).toNat=x:=by
 rw [BitVec.ofInt_natCast,BitVec.toNat_ofNat,Zce]
 exact Nat.mod_eq_of_lt h
theorem Zdk (v:BitVec IntKind.u64.bits):v.toNat<18446744073709551616:=v.isLt
theorem anB {x y:Nat} (hx:x<18446744073709551616) (hy:y<18446744073709551616):(BitVec.ofInt IntKind.u64.bits (x:Int) &&& BitVec.ofInt IntKind.u64.bits (y:Int)).toNat=x &&& y:=by rw [BitVec.toNat_and,ofB hx,ofB hy]
theorem orB {x y:Nat} (hx:x<18446744073709551616) (hy:y<18446744073709551616):(BitVec.ofInt IntKind.u64.bits (x:Int) ||| BitVec.ofInt IntKind.u64.bits (y:Int)).toNat=x ||| y:=by rw [BitVec.toNat_or,ofB hx,ofB hy]
theorem Zca {b:Nat} (h:b<64):IntKind.u64.wrap ((1:Int)*2 ^ (min b 64))=((2 ^ b:Nat):Int):=by
 have hb:min b 64=b:=by omega
 have hl:2 ^ b<18446744073709551616:=Nat.lt_of_lt_of_le (Nat.pow_lt_pow_right (by decide) h) (by decide)
 rw [hb,Int.one_mul,← wrB hl]
 congr 1
theorem Zc6 {b:Nat} (h:b<64):2 ^ b<18446744073709551616:=Nat.lt_of_lt_of_le (Nat.pow_lt_pow_right (by decide) h) (by decide)
structure BR (N:Nat) (p:Bt) (h:Nat→Bool):Prop where
 n:p.1=(N:Int)
 N1:1≤N∧N≤65536
 cnt:p.2.1=(((List.range N).filter h).length:Int)
 len:p.2.2.length=(N+63) / 64
 bit:∀ w,w<p.2.2.length→∃ x:Nat,p.2.2.getD w default=(x:Int)∧x<18446744073709551616∧∀ b,b<64→x.testBit b=(decide (64*w+b<N) && h (64*w+b))
section
variable {N:Nat} {p:Bt} {h:Nat→Bool}
theorem Zb4 {i:Nat} (hi:i<4294967296):w64 (Int.tdiv (i:Int) 64)=((i / 64:Nat):Int)∧Int.tmod (i:Int) 64=((i % 64:Nat):Int):=by
 constructor
 ·rw [show Int.tdiv (i:Int) 64=((i / 64:Nat):Int) from rfl,Yk (by omega) (by omega)]
 ·rfl
theorem BR.there (b:BR N p h) {i:Nat}:Q10.f p (i:Int)=some (if N≤i then 4 else 0):=by
 have hN:=b.N1
 unfold Q10.f Q7.f
 rw [Option.bind_some,b.n,if_neg (by simp only [decide_eq_true_eq]; omega),if_neg (by simp only [decide_eq_true_eq]; omega)]
 by_cases q:N≤i
 ·rw [if_pos (decide_eq_true (by omega)),if_pos q]
 ·rw [if_neg (by simp only [decide_eq_true_eq]; omega),if_neg q]
theorem BR.has (b:BR N p h) {i:Nat} (hi:i<4294967296):Q6.f p (i:Int)=some (decide (i<N) && h i):=by
 have hN:=b.N1
 unfold Q6.f
 rw [b.there,Option.bind_some]
 by_cases q:N≤i
 ·rw [if_pos q,if_neg (by decide)]
  have:¬ i<N:=by omega
  simp [this]
 ·obtain ⟨e1,e2⟩:=Zb4 hi
  have hl:=b.len
  have hw:i / 64<p.2.2.length:=by omega
  obtain ⟨x,hx,hx2,hx3⟩:=b.bit _ hw
  have hm:i % 64<64:=Nat.mod_lt _ (by decide)
  rw [if_neg q,if_pos (by decide),e1,e2,if_pos (by omega),if_pos (by omega),Ui,hx,Int.toNat_natCast,show min (i % 64) 64=i % 64 by omega]
  have e3:Int.fdiv (x:Int) (2 ^ (i % 64))=((x / 2 ^ (i % 64):Nat):Int):=by
   rw [Int.fdiv_eq_ediv_of_nonneg _ (Int.pow_nonneg (by decide)),Int.natCast_ediv,Int.natCast_pow]; rfl
  have hlt:x / 2 ^ (i % 64)<18446744073709551616:=Nat.lt_of_le_of_lt (Nat.div_le_self _ _) hx2
  rw [e3,show (BitVec.ofInt IntKind.u64.bits ((x / 2 ^ (i % 64):Nat):Int) &&& BitVec.ofInt IntKind.u64.bits 1).toNat=x / 2 ^ (i % 64) &&& 1 from anB (y:=1) hlt (by decide),Nat.and_one_is_mod,wrB (by omega)]
  have h1:=hx3 _ hm
  rw [show 64*(i / 64)+i % 64=i by omega] at h1
  rw [← h1,Nat.testBit_eq_decide_div_mod_eq]
  congr 1
  exact decide_eq_decide.2 (by omega)
theorem Zaf {N i:Nat} (hi:i<N) (hn:h i=false):((List.range N).filter (upd h i true)).length=((List.range N).filter h).length+1:=by
 have key:∀ l:List Nat,l.Nodup→i∈l→(l.filter (upd h i true)).length=(l.filter h).length+1:=by
  intro l
  induction l with
  | nil=>intro _ hx; simp at hx
  | cons y l ih=>
   intro nd hx
   rw [List.nodup_cons] at nd
   by_cases q:y=i
   ·subst q
    have hl:l.filter (upd h y true)=l.filter h:=List.filter_congr fun z hz=>Vg (fun e=>nd.1 (by rw [← e]; exact hz))
    rw [List.filter_cons_of_pos (by rw [Vy]),List.filter_cons_of_neg (by simp [hn]),hl,List.length_cons]
   ·have hx':i∈l:=by
     rcases List.mem_cons.1 hx with e | e
     ·exact absurd e.symm q
     ·exact e
    have:=ih nd.2 hx'
    by_cases hy:h y=true
    ·rw [List.filter_cons_of_pos (by rw [Vg q]; exact hy),List.filter_cons_of_pos hy,List.length_cons,List.length_cons,this]
    ·rw [List.filter_cons_of_neg (by rw [Vg q]; exact hy),List.filter_cons_of_neg hy,this]
 exact key _ List.nodup_range (List.mem_range.2 hi)
theorem BR.word (b:BR N p h) {i:Nat} (hi:i<N) {v:Bool} {y:Nat} (hy:y<18446744073709551616) (ht:∀ x:Nat,p.2.2.getD (i / 64) default=(x:Int)→∀ j,j<64→y.testBit j=if j=i % 64 then v else x.testBit j) {cnt:Int} (hc:cnt=(((List.range N).filter (upd h i v)).length:Int)) :
  BR N (p.1,cnt,p.2.2.set (i / 64) (y:Int)) (upd h i v):=by
 have hl:=b.len
 have hN:=b.N1
 have hw:i / 64<p.2.2.length:=by omega
 refine ⟨b.n,hN,hc,by rw [List.length_set]; exact hl,fun w hw2=>?_⟩
 rw [List.length_set] at hw2
 dsimp only
 rw [Gn hw]
 obtain ⟨x,hx,hx2,hx3⟩:=b.bit w hw2
 by_cases q:i / 64=w
 ·subst q
  refine ⟨y,if_pos rfl,hy,fun j hj=>?_⟩
  rw [ht x hx j hj]
  by_cases qj:j=i % 64
  ·subst qj
   rw [if_pos rfl,show 64*(i / 64)+i % 64=i by omega,Vy]
   simp [hi]
  ·rw [if_neg qj,hx3 j hj,Vg (by omega)]
 ·refine ⟨x,by rw [if_neg q]; exact hx,hx2,fun j hj=>?_⟩
  rw [hx3 j hj,Vg (by omega)]
theorem Zcq (b:BR N p h):((List.range N).filter h).length≤N:=by
 have:=List.length_filter_le h (List.range N)
 rw [List.length_range] at this
 exact this
theorem BR.set (b:BR N p h) {i:Nat} (hi:i<4294967296):∃ p',Q8.f p (i:Int)=some (if N≤i then 4 else if h i=true then 10 else 0,p')∧BR N p' (if N≤i then h else upd h i true):=by
 have hN:=b.N1
 unfold Q8.f
 rw [b.there,Option.bind_some]
 by_cases q:N≤i
 ·rw [if_pos q,if_pos (by decide),if_pos q,if_pos q]
  exact ⟨p,rfl,b⟩
 ·rw [if_neg q,if_neg (by decide),b.has hi,Option.bind_some,if_neg q,if_neg q]
  have hi':i<N:=by omega
  by_cases hh:h i=true
  ·rw [if_pos (by simp [hi',hh]),if_pos hh]
   refine ⟨p,rfl,?_⟩
   rw [show upd h i true=h from funext fun j=>by
    by_cases qj:j=i
    ·subst qj; rw [Vy,hh]
    ·rw [Vg qj]]
   exact b
  ·obtain ⟨e1,e2⟩:=Zb4 hi
   have hl:=b.len
   have hw:i / 64<p.2.2.length:=by omega
   obtain ⟨x,hx,hx2,hx3⟩:=b.bit _ hw
   have hm:i % 64<64:=Nat.mod_lt _ (by decide)
   have hp:=Zc6 hm
   have hcl:=Zcq b
   have hcn:=b.cnt
   rw [if_neg (by simp [hh]),if_neg hh,e1,e2,if_pos (by omega),if_pos (by omega),Ui,hx,Int.toNat_natCast,Int.toNat_natCast,Zca hm,orB hx2 hp]
   have hor:x ||| 2 ^ (i % 64)<18446744073709551616:=by rw [← orB hx2 hp]; exact Zdk _
   rw [wrB hor]
   have hf:h i=false:=by simpa using hh
   refine ⟨_,rfl,b.word hi' hor (fun x' hx' j hj=>?_) ?_⟩
   ·have:x'=x:=by rw [hx] at hx'; omega
    subst this
    rw [Nat.testBit_or,Nat.testBit_two_pow]
    by_cases qj:j=i % 64
    ·subst qj; simp
    ·rw [if_neg qj]
     have:¬ i % 64=j:=fun e=>qj e.symm
     simp [this]
   ·rw [Zaf hi' hf,hcn,Yk (by omega) (by omega)]; omega
def seekB (N:Nat) (h:Nat→Bool) (turn:Bool) (i:Nat):Bool:=if turn=true then !(decide (i<N) && h i) else decide (i<N) && h i
end
theorem Zcl {N:Nat} (h5:5≤N) (h:N≤65536):∃ p g,Q69.f (N:Int)=some (some p,0)∧BR N p g∧g 0=true:=by
 have e1:w64 ((N:Int)+64)=((N+64:Nat):Int):=by rw [Yk (by omega) (by omega)]; omega
 have e2:w64 (((N+64:Nat):Int) - 1)=((N+63:Nat):Int):=by rw [Yk (by omega) (by omega)]; omega
 have e3:w64 (Int.tdiv ((N+63:Nat):Int) 64)=(((N+63) / 64:Nat):Int):=by
  rw [show Int.tdiv ((N+63:Nat):Int) 64=(((N+63) / 64:Nat):Int) from rfl,Yk (by omega) (by omega)]
 have b0:BR N ((N:Int),0,List.replicate ((N+63) / 64) (0:Int)) (fun _=>false):=by
  refine ⟨rfl,by omega,?_,by simp,fun w hw=>⟨0,?_,by decide,fun b hb=>?_⟩⟩
  ·have:(List.range N).filter (fun _=>false)=[]:=List.filter_eq_nil_iff.2 (by simp)
   rw [this]; rfl
  ·rw [List.length_replicate] at hw
   rw [List.getD_eq_getElem?_getD,List.getElem?_replicate,if_pos hw]; rfl
  ·simp
 obtain ⟨p',es,b'⟩:=b0.set (i:=0) (by omega)
 refine ⟨p',_,?_,b',by rw [if_neg (by omega)]; exact Vy _ _ _⟩
 unfold Q69.f Q2.f
 rw [if_neg (by simp only [decide_eq_true_eq]; omega),if_neg (by simp only [decide_eq_true_eq]; omega),if_neg (by simp only [decide_eq_true_eq]; omega),e1,e2,e3,if_pos (by omega),Option.bind_some]
 dsimp only [Y4]
 rw [if_pos (by simp),Int.toNat_natCast,show Q8.f ((N:Int),0,List.replicate ((N+63) / 64) (0:Int)) 0=_ from es,Option.bind_some]
theorem Zcw {N B:Nat} (h:5≤N∧N≤65536∧1≤B∧B≤65536):Q54.f (N:Int) (B:Int)=some (some ((B:Int),List.replicate (N*B) 0,(0,0)),0):=by
 have hb:N*B≤65536*65536:=Nat.mul_le_mul h.2.1 h.2.2.2
 have e:w64 ((N:Int)*(B:Int))=((N*B:Nat):Int):=by rw [show (N:Int)*(B:Int)=((N*B:Nat):Int) by simp,Yk (by omega) (by omega)]
 unfold Q54.f Q55.f
 rw [if_pos (decide_eq_true (by omega)),if_pos (decide_eq_true (by omega)),if_pos (decide_eq_true (by omega)),Option.bind_some,if_neg (by simp; omega),e,if_pos (by omega),Int.toNat_natCast]
theorem Za2 (k:Nat) (hk:3000≤k):Q134.f k=some true:=by
 obtain ⟨k,rfl⟩:∃ k2,k=k2+3000:=⟨k - 3000,by omega⟩
 kernel_rfl
theorem Zcu (i:Int) (n:Nd) {k:Nat} (hk:3000<k):Q133.l0 k i n=some true:=by
 obtain ⟨k,rfl⟩:∃ k2,k=k2+1:=⟨k - 1,by omega⟩
 have aw:=Za2 k (by omega)
 rw [Q133.l0]
 by_cases h:i=0
 ·subst h
  simp [Q91.f,Q93.f,Q95.f,Q83.f,Q94.f,Q87.f,Q82.f,Q81.f,Q89.f,Q85.f,Q86.f,Q96.f,Q101.f,Q99.f,Q71.f,Q75.f,Q76.f,Q79.f,aw]
 ·simp [Q91.f,Q93.f,Q95.f,Q83.f,Q94.f,Q87.f,Q82.f,Q81.f,Q89.f,Q85.f,Q86.f,Q96.f,Q101.f,Q99.f,Q71.f,Q75.f,Q76.f,Q79.f,aw,h]
theorem Zax (c:Cfg):Q80.f c=some (none,if okB c=true then 1 else 2):=by
 unfold Q80.f
 rw [show Q45.f (c.1,c.2.1,c.2.2.1,c.2.2.2.1,c.2.2.2.2.1,c.2.2.2.2.2.1,c.2.2.2.2.2.2.1,c.2.2.2.2.2.2.2)=_ from Za0 c,Option.bind_some]
 cases okB c <;> rfl
theorem Za9 {c:Cfg} (hc:okB c=true) (i:Int) (nd:Nd) {N B n:Nat} (hN:1≤N∧N≤100) (hB:1≤B∧B≤300) (hn:c.2.2.1=(n:Int)) (h64:n≤64):∀(m:Nat) (x:List Int) (j:Nat) (k:Nat),j+m=n→x.length=j→3000+m+1<k→Q133.l1 k c i nd ((B:Int),List.replicate (N*B) 0,(0,0)) x (j:Int)=some true
 | 0,x,j,k,hj,hx,hk=>by
  obtain ⟨k,rfl⟩:∃ k2,k=k2+1:=⟨k - 1,by omega⟩
  have hNB:N*B≤100*300:=Nat.mul_le_mul hN.2 hB.2
  have eb:=J6 (s:=(0,0)) (N:=N) (n:=B) hB.1 (img:=List.replicate (N*B) 0) (by simp) (by omega)
  have l0:=Zcu i nd (k:=k) (by omega)
  have hc2:=hc
  unfold okB at hc2
  simp only [Bool.and_eq_true,decide_eq_true_eq] at hc2
  have e9:=J5 c (k:=k) (by omega)
  rw [hc] at e9
  have eN:=Zax c
  rw [hc] at eN
  rw [Q133.l1,hn,if_neg (by simp only [decide_eq_true_eq]; omega),eb,Option.bind_some]
  by_cases q1:(N:Int)=c.1
  ·rw [if_neg (by simp [q1]),Q51.f,Option.bind_some]
   by_cases q2:(B:Int)=c.2.1
   ·obtain ⟨p,g,ep,_⟩:=Zcl (N:=N) (by omega) (by omega)
    rw [q1] at ep
    rw [if_neg (by simp [q2]),ep,Option.bind_some]
    simp [Y4,eN,e9,l0,q1,q2]
   ·simp [q2,Y4,eN,e9,l0,q1]
  ·simp [Y4,eN,e9,l0,q1]
 | m+1,x,j,k,hj,hx,hk=>by
  obtain ⟨k,rfl⟩:∃ k2,k=k2+1:=⟨k - 1,by omega⟩
  have ih:=Za9 hc i nd hN hB hn h64 m (x ++ [(j:Int)]) (j+1) k (by omega) (by simp [hx]) (by omega)
  rw [Q133.l1,hn,if_pos (decide_eq_true (by omega)),if_pos (by simp [hx]; omega),Wc (by omega)]
  exact ih
theorem ShelfNone_pure (c:Cfg) (a b:Int) (i:Int) (nd:Nd) (_:Ty.fit (X5 tt) (.pair (.int .i64) (.pair (.int .i64) (.pair (.int .i64) (.pair (.int .i64) (.pair (.int .i64) (.pair (.int .i64) (.pair (.int .i64) (.int .i64)))))))) c) (ha:Ty.fit (X5 tt) (.int .u8) a) (hb:Ty.fit (X5 tt) (.int .u8) b) (_:Ty.fit (X5 tt) (.int .u32) i) (_:Ty.fit (X5 tt) (.pair (.int .i64) (.pair (.slice 33 (.int .u32)) (.pair (.slice 9 .str) (.pair (.slice 115 (.pair .str (.pair .bool .str))) (.slice 106 (.pair .str .str)))))) nd):∃ k,Q133.f k c a b i nd=some true:=by
 refine ⟨4000,?_⟩
 obtain ⟨g,eg,_⟩:=Bn nd (k:=4000) (by omega)
 have aw:=Za2 4000 (by omega)
 have h1:IntKind.u8.min=0:=rfl
 have h2:IntKind.u8.max=255:=rfl
 have ha':0≤a∧a<256:=by simp [Ty.fit,Lit.wf] at ha; omega
 have hb':0≤b∧b<256:=by simp [Ty.fit,Lit.wf] at hb; omega
 obtain ⟨A,rfl⟩:=Int.eq_ofNat_of_zero_le ha'.1
 obtain ⟨B,rfl⟩:=Int.eq_ofNat_of_zero_le hb'.1
 have eA:w64 (5+Int.tmod (w64 (A:Int)) 20)=((5+A % 20:Nat):Int):=by
  rw [Yk (x:=(A:Int)) (by omega) (by omega),show Int.tmod (A:Int) 20=((A % 20:Nat):Int) from rfl,Yk (by omega) (by omega)]; omega
 have eB:w64 (1+w64 (B:Int))=((1+B:Nat):Int):=by
  rw [Yk (x:=(B:Int)) (by omega) (by omega),Yk (by omega) (by omega)]; omega
 unfold Q133.f
 rw [show Q132.f 4000 (nd.1,nd.2.1,nd.2.2.1,nd.2.2.2.1,nd.2.2.2.2)=_ from eg,Option.bind_some]
 cases g with
 | true=>rw [if_pos rfl,aw]; rfl
 | false=>
  have eD:=Zcw (N:=5+A % 20) (B:=1+B) (by omega)
  have hNB:(5+A % 20)*(1+B)≤100*300:=Nat.mul_le_mul (by omega) (by omega)
  have eb:=J6 (s:=(0,0)) (N:=5+A % 20) (n:=1+B) (by omega) (img:=List.replicate ((5+A % 20)*(1+B)) 0) (by simp) (by omega)
  rw [if_neg (by simp),eA,eB,eD,Option.bind_some]
  dsimp only [Y4]
  rw [if_pos (by simp),show Q45.f (c.1,c.2.1,c.2.2.1,c.2.2.2.1,c.2.2.2.2.1,c.2.2.2.2.2.1,c.2.2.2.2.2.2.1,c.2.2.2.2.2.2.2)=_ from Za0 c,Option.bind_some]
  have e9:=J5 c (k:=4000) (by omega)
  have eN:=Zax c
  cases hc:okB c with
  | false=>
   rw [hc] at e9 eN
   simp [Y4,eN,e9,aw]
  | true=>
   have hc2:=hc
   unfold okB at hc2
   simp only [Bool.and_eq_true,decide_eq_true_eq] at hc2
   obtain ⟨n,en⟩:=Int.eq_ofNat_of_zero_le (show 0≤c.2.2.1 by omega)
   obtain ⟨ch,ec,hch⟩:=Zdb (n:=n) (by omega) (by omega)
   have l1:=Za9 hc i nd (N:=5+A % 20) (B:=1+B) (by omega) (by omega) en (by omega) n [] 0 4000 (by omega) rfl (by omega)
   rw [if_neg (by simp),eb,Option.bind_some,if_neg (by simp only [decide_eq_true_eq]; omega),en,if_neg (by simp only [decide_eq_true_eq]; omega),if_neg (by simp only [decide_eq_true_eq]; omega),ec,Option.bind_some]
   dsimp only [Y4]
   rw [if_pos (by simp),if_pos (by omega)]
   exact l1
end Go.SK.T
