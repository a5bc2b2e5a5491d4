/- sortlaw -/
import Derived.Test.YtgdmpkhmedbnpaaGreatDoorXShelfCostsF3
import Derived.KernelRfl
import Derived.Sort.Walk13a
import Derived.Sort.AssemblyPlain
set_option linter.unusedVariables false
set_option linter.unusedSimpArgs false
namespace Go.SK.T
open Go Go.SK
abbrev ltI:=Go.Sort.ltInt
theorem Xd (x y:Int):Q35.f x y=some (ltI x y):=by
 unfold Q35.f Q36.f ltI Go.Sort.ltInt
 simp
theorem gta (d:Array Int) (i:Nat):gt d.toList (i:Int)=d[i]!:=by
 rw [Yf,List.getD_eq_getElem?_getD]
 by_cases h:i<d.size
 ·simp [h]
 ·simp [h]
theorem X5 (d:Array Int) (i j:Nat):(d.toList.set i d[j]!).set j d[i]! = (Go.Sort.swp d i j).toList:=by
 simp [Go.Sort.swp]
theorem Yr (d:Array Int) (i j:Nat):(Go.Sort.swp d i j).size=d.size:=by simp [Go.Sort.swp]
theorem wn {x:Int} {n:Nat} (h:x=n) (hn:n≤4611686018427387904):w64 x=(n:Int):=by rw [Z1 (by omega) (by omega),h]
theorem Zcl {a b i:Nat} {r:List Int}:∀(j:Nat) (d:Array Int),j<d.size→d.size≤1000000→i<1000000→Ev (fun k=>Q112.l0 k (a:Int) (b:Int) (Go.Sort.insInner ltI a j d).toList ((i+1:Nat):Int)) r→
  Ev (fun k=>Q112.l1 k (a:Int) (b:Int) (i:Int) d.toList (j:Int)) r
 | 0,d,hj,hd,hi,h=>h.step fun k hk=>by
  rw [Q112.l1,if_neg (by simp only [decide_eq_true_eq]; omega),wn (n:=i+1) (by omega) (by omega)]
  exact hk
 | j+1,d,hj,hd,hi,h=>by
  have e1:w64 (((j+1:Nat):Int) - 1)=(j:Int):=wn (by omega) (by omega)
  unfold Go.Sort.insInner at h
  by_cases c:a<j+1
  ·by_cases q:ltI d[j+1]! d[j]! = true
   ·rw [if_pos (by simp [c,q])] at h
    have:=Zcl j (Go.Sort.swp d (j+1) j) (by rw [Yr]; omega) (by rw [Yr]; omega) hi h
    refine this.step fun k hk=>?_
    rw [Q112.l1,if_pos (decide_eq_true (by omega)),if_pos (by simp; omega),e1,if_pos (by simp; omega),gta,gta,Xd,Option.bind_some,if_pos q,Int.toNat_natCast,Int.toNat_natCast,X5]
    exact hk
   ·rw [if_neg (by simp [q])] at h
    refine h.step fun k hk=>?_
    rw [Q112.l1,if_pos (decide_eq_true (by omega)),if_pos (by simp; omega),e1,if_pos (by simp; omega),gta,gta,Xd,Option.bind_some,if_neg q,wn (n:=i+1) (by omega) (by omega)]
    exact hk
  ·rw [if_neg (by simp [c])] at h
   refine h.step fun k hk=>?_
   rw [Q112.l1,if_neg (by simp only [decide_eq_true_eq]; omega),wn (n:=i+1) (by omega) (by omega)]
   exact hk
theorem Gq (a:Nat):∀(j:Nat) (d:Array Int),(Go.Sort.insInner ltI a j d).size=d.size
 | 0,d=>rfl
 | j+1,d=>by
  unfold Go.Sort.insInner
  split
  ·rw [Gq a j,Yr]
  ·rfl
theorem Zda {a b:Nat}:∀(m i:Nat) (d:Array Int),b - i=m→b≤d.size→d.size≤1000000→i≤1000000→Ev (fun k=>Q112.l0 k (a:Int) (b:Int) d.toList (i:Int)) (Go.Sort.insOuter ltI a b i d).toList
 | 0,i,d,hm,hb,hd,hi=>Ev.last fun k=>by
  rw [Q112.l0,if_neg (by simp only [decide_eq_true_eq]; omega)]
  unfold Go.Sort.insOuter
  rw [if_neg (by omega)]
 | m+1,i,d,hm,hb,hd,hi=>by
  have hs:=Gq a i d
  have ih:=Zda (a:=a) (b:=b) m (i+1) (Go.Sort.insInner ltI a i d) (by omega) (by omega) (by omega) (by omega)
  unfold Go.Sort.insOuter
  rw [if_pos (by omega)]
  refine (Zcl (b:=b) i d (by omega) hd (by omega) ih).step fun k hk=>?_
  rw [Q112.l0,if_pos (decide_eq_true (by omega))]
  exact hk
theorem Zku {a b:Nat} {d:Array Int} (hb:b≤d.size) (ha:a≤999999) (hd:d.size≤1000000):Ev (fun k=>Q112.f k d.toList (a:Int) (b:Int)) (Go.Sort.insertionSort ltI d a b).toList:=by
 refine (Zda (a:=a) (b:=b) (b - (a+1)) (a+1) d rfl hb hd (by omega)).next fun k hk=>?_
 unfold Q112.f
 rw [wn (n:=a+1) (by omega) (by omega)]
 exact hk
theorem Jc (hi first:Nat):∀(n root:Nat) (d:Array Int),hi - root≤n→(Go.Sort.siftDown ltI hi first root d).size=d.size
 | 0,root,d,h=>by
  rw [Go.Sort.siftDown,dif_pos (by omega)]
 | n+1,root,d,h=>by
  rw [Go.Sort.siftDown]
  split
  ·rfl
  ·split
   ·split
    ·rfl
    ·split
     ·rw [Jc hi first n _ _ (by omega),Yr]
     ·rfl
   ·split
    ·rfl
    ·rw [Jc hi first n _ _ (by omega),Yr]
theorem Zf3 {hi first:Nat}:∀(n root:Nat) (d:Array Int),hi - root≤n→first+hi≤d.size→d.size≤1000000→root≤1000000→Ev (fun k=>Q122.l0 k (hi:Int) (first:Int) d.toList (root:Int)) (Go.Sort.siftDown ltI hi first root d).toList
 | n,root,d,hn,hf,hd,hr=>by
  have e1:w64 (2*(root:Int))=((2*root:Nat):Int):=wn (by omega) (by omega)
  have e2:w64 (((2*root:Nat):Int)+1)=((2*root+1:Nat):Int):=wn (by omega) (by omega)
  have e3:w64 (((2*root+1:Nat):Int)+1)=((2*root+2:Nat):Int):=wn (by omega) (by omega)
  have e4:w64 ((first:Int)+((2*root+1:Nat):Int))=((first+(2*root+1):Nat):Int):=wn (by omega) (by omega)
  have e5:w64 (((first+(2*root+1):Nat):Int)+1)=((first+(2*root+1)+1:Nat):Int):=wn (by omega) (by omega)
  have e6:w64 ((first:Int)+(root:Int))=((first+root:Nat):Int):=wn (by omega) (by omega)
  have e7:w64 ((first:Int)+((2*root+2:Nat):Int))=((first+(2*root+2):Nat):Int):=wn (by omega) (by omega)
  have un:∀ k,Q122.l0 (k+1) (hi:Int) (first:Int) d.toList (root:Int)=_:=fun k=>Q122.l0.eq_2 (hi:Int) (first:Int) d.toList (root:Int) k
  simp only [e1,e2,e3,e4,e5,e6,e7,gta,Xd,Option.bind_some,Int.toNat_natCast,X5] at un
  rw [Go.Sort.siftDown]
  by_cases h1:2*root+1≥hi
  ·rw [dif_pos h1]
   exact Ev.last fun k=>by rw [un,if_pos (decide_eq_true (by omega))]
  ·rw [dif_neg h1]
   cases n with
   | zero=>omega
   | succ n=>
   have go:∀(c:Nat),root<c→c<hi→Ev (fun k=>Q122.l0 k (hi:Int) (first:Int) (Go.Sort.swp d (first+root) (first+c)).toList (c:Int)) (Go.Sort.siftDown ltI hi first c (Go.Sort.swp d (first+root) (first+c))).toList:=fun c h2 h3=>
    Zf3 n c _ (by omega) (by rw [Yr]; exact hf) (by rw [Yr]; exact hd) (by omega)
   have b0:(0:Int)≤((first+root:Nat):Int)∧((first+root:Nat):Int)<(d.toList.length:Int):=by simp; omega
   have b1:(0:Int)≤((first+(2*root+1):Nat):Int)∧((first+(2*root+1):Nat):Int)<(d.toList.length:Int):=by simp; omega
   have left:Ev (fun k=>Q122.l0 k (hi:Int) (first:Int) d.toList (root:Int)) (if !ltI d[first+root]! d[first+(2*root+1)]! then d else Go.Sort.siftDown ltI hi first (2*root+1) (Go.Sort.swp d (first+root) (first+(2*root+1)))).toList→True:=fun _=>trivial
   by_cases h2:2*root+1+1<hi
   ·have b2:(0:Int)≤((first+(2*root+1)+1:Nat):Int)∧((first+(2*root+1)+1:Nat):Int)<(d.toList.length:Int):=by simp; omega
    have b3:(0:Int)≤((first+(2*root+2):Nat):Int)∧((first+(2*root+2):Nat):Int)<(d.toList.length:Int):=by simp; omega
    by_cases h3:ltI d[first+(2*root+1)]! d[first+(2*root+1)+1]! = true
    ·rw [if_pos (by simp [h2,h3])]
     by_cases h4:ltI d[first+root]! d[first+(2*root+2)]! = true
     ·rw [if_neg (by simp [h4]),dif_pos (by omega)]
      refine (go (2*root+2) (by omega) (by omega)).step fun k hk=>?_
      rw [un,if_neg (by simp only [decide_eq_true_eq]; omega),if_pos (decide_eq_true (by omega)),if_pos b1,if_pos b2,if_pos h3,if_pos b0,if_pos b3,if_neg (by simp [h4])]
      exact hk
     ·rw [if_pos (by simp [h4])]
      refine Ev.last fun k=>?_
      rw [un,if_neg (by simp only [decide_eq_true_eq]; omega),if_pos (decide_eq_true (by omega)),if_pos b1,if_pos b2,if_pos h3,if_pos b0,if_pos b3,if_pos (by simp [h4])]
    ·rw [if_neg (by simp [h3])]
     by_cases h4:ltI d[first+root]! d[first+(2*root+1)]! = true
     ·rw [if_neg (by simp [h4])]
      refine (go (2*root+1) (by omega) (by omega)).step fun k hk=>?_
      rw [un,if_neg (by simp only [decide_eq_true_eq]; omega),if_pos (decide_eq_true (by omega)),if_pos b1,if_pos b2,if_neg h3,if_pos b0,if_neg (by simp [h4])]
      exact hk
     ·rw [if_pos (by simp [h4])]
      refine Ev.last fun k=>?_
      rw [un,if_neg (by simp only [decide_eq_true_eq]; omega),if_pos (decide_eq_true (by omega)),if_pos b1,if_pos b2,if_neg h3,if_pos b0,if_pos (by simp [h4])]
   ·rw [if_neg (by simp [h2])]
    by_cases h4:ltI d[first+root]! d[first+(2*root+1)]! = true
    ·rw [if_neg (by simp [h4])]
     refine (go (2*root+1) (by omega) (by omega)).step fun k hk=>?_
     rw [un,if_neg (by simp only [decide_eq_true_eq]; omega),if_neg (by simp only [decide_eq_true_eq]; omega),if_pos b0,if_pos b1,if_neg (by simp [h4])]
     exact hk
    ·rw [if_pos (by simp [h4])]
     refine Ev.last fun k=>?_
     rw [un,if_neg (by simp only [decide_eq_true_eq]; omega),if_neg (by simp only [decide_eq_true_eq]; omega),if_pos b0,if_pos b1,if_pos (by simp [h4])]
theorem Zj9 {hi first root:Nat} {d:Array Int} (hf:first+hi≤d.size) (hd:d.size≤1000000) (hr:root≤1000000):Ev (fun k=>Q122.f k d.toList (root:Int) (hi:Int) (first:Int)) (Go.Sort.siftDown ltI hi first root d).toList:=Zf3 hi root d (by omega) hf hd hr
theorem Zer {a:Nat}:∀(m:Nat) (d:Array Int),a+m≤d.size→d.size≤1000000→Ev (fun k=>Q111.l1 k (a:Int) d.toList ((m:Int) - 1)) (Go.Sort.heapPop ltI a m d).toList
 | 0,d,h,hd=>Ev.last fun k=>by
  rw [Q111.l1,if_neg (by simp)]
  rfl
 | m+1,d,h,hd=>by
  have e0:(((m+1:Nat):Int) - 1)=(m:Int):=by omega
  have e1:w64 ((a:Int)+(m:Int))=((a+m:Nat):Int):=wn (by omega) (by omega)
  have e2:w64 ((m:Int) - 1)=(m:Int) - 1:=Z1 (by omega) (by omega)
  have s1:=Zj9 (hi:=m) (first:=a) (root:=0) (d:=Go.Sort.swp d a (a+m)) (by rw [Yr]; omega) (by rw [Yr]; exact hd) (by omega)
  have sz:=Jc m a m 0 (Go.Sort.swp d a (a+m)) (by omega)
  rw [Yr] at sz
  have ih:=Zer (a:=a) m (Go.Sort.siftDown ltI m a 0 (Go.Sort.swp d a (a+m))) (by omega) (by omega)
  rw [e0]
  refine Ev.step2 s1 ih fun k h1 h2=>?_
  rw [Q111.l1,if_pos (decide_eq_true (by omega)),e1,if_pos (by simp; omega),if_pos (by simp; omega),gta,gta,Int.toNat_natCast,Int.toNat_natCast,X5,show Q122.f k (Go.Sort.swp d a (a+m)).toList 0 (m:Int) (a:Int)=_ from h1,Option.bind_some,e2]
  exact h2
theorem Zbq {a b:Nat} (hab:a≤b):∀(m:Nat) (d:Array Int),b≤d.size→d.size≤1000000→m≤1000000→Ev (fun k=>Q111.l0 k (a:Int) (b:Int) d.toList ((m:Int) - 1)) (Go.Sort.heapPop ltI a (b - a) (Go.Sort.heapBuild ltI (b - a) a m d)).toList
 | 0,d,h,hd,hm=>by
  have e1:w64 ((b:Int) - (a:Int))=((b - a:Nat):Int):=wn (by omega) (by omega)
  have e2:w64 (((b - a:Nat):Int) - 1)=((b - a:Nat):Int) - 1:=Z1 (by omega) (by omega)
  refine (Zer (a:=a) (b - a) d (by omega) hd).step fun k hk=>?_
  rw [Q111.l0,if_neg (by simp),e1,e2]
  exact hk
 | m+1,d,h,hd,hm=>by
  have e0:(((m+1:Nat):Int) - 1)=(m:Int):=by omega
  have e1:w64 ((b:Int) - (a:Int))=((b - a:Nat):Int):=wn (by omega) (by omega)
  have e2:w64 ((m:Int) - 1)=(m:Int) - 1:=Z1 (by omega) (by omega)
  have s1:=Zj9 (hi:=b - a) (first:=a) (root:=m) (d:=d) (by omega) hd (by omega)
  have sz:=Jc (b - a) a (b - a) m d (by omega)
  have ih:=Zbq hab m (Go.Sort.siftDown ltI (b - a) a m d) (by omega) (by omega) (by omega)
  rw [e0]
  refine Ev.step2 s1 ih fun k h1 h2=>?_
  rw [Q111.l0,if_pos (decide_eq_true (by omega)),e1,h1,Option.bind_some,e2]
  exact h2
theorem Zmd {a b:Nat} {d:Array Int} (hab:a≤b) (hb:b≤d.size) (hd:d.size≤1000000):Ev (fun k=>Q111.f k d.toList (a:Int) (b:Int)) (Go.Sort.heapSort ltI d a b).toList:=by
 refine (Zbq hab ((b - a - 1) / 2+1) d hb hd (by omega)).next fun k hk=>?_
 have e1:w64 ((b:Int) - (a:Int))=((b - a:Nat):Int):=wn (by omega) (by omega)
 have e2:w64 (((b - a:Nat):Int) - 1)=((b - a:Nat):Int) - 1:=Z1 (by omega) (by omega)
 have e3:Int.tdiv (((b - a:Nat):Int) - 1) 2=(((b - a - 1) / 2:Nat):Int):=by
  by_cases z:b - a=0
  ·rw [z]; rfl
  ·rw [show ((b - a:Nat):Int) - 1=((b - a - 1:Nat):Int) by omega]
   rfl
 unfold Q111.f
 rw [e1,e2,e3,Z1 (by omega) (by omega)]
 rw [show ((((b - a - 1) / 2+1:Nat):Int) - 1)=(((b - a - 1) / 2:Nat):Int) by omega] at hk
 exact hk
theorem Zhi:∀(m i j:Nat) (d:Array Int),j - i≤m→i≤1000000→j<d.size→d.size≤1000000→Ev (fun k=>Q121.l0 k d.toList (i:Int) (j:Int)) (Go.Sort.reverseLoop i j d).toList
 | m,i,j,d,hm,hi,hj,hd=>by
  rw [Go.Sort.reverseLoop]
  by_cases c:i<j
  ·cases m with
   | zero=>omega
   | succ m=>
   rw [if_pos c]
   refine (Zhi m (i+1) (j - 1) (Go.Sort.swp d i j) (by omega) (by omega) (by rw [Yr]; omega) (by rw [Yr]; exact hd)).step fun k hk=>?_
   rw [Q121.l0,if_pos (decide_eq_true (by omega)),if_pos (by simp; omega),if_pos (by simp; omega),gta,gta,Int.toNat_natCast,Int.toNat_natCast,X5,wn (n:=i+1) (by omega) (by omega),wn (x:=(j:Int) - 1) (n:=j - 1) (by omega) (by omega)]
   exact hk
  ·rw [if_neg c]
   exact Ev.last fun k=>by rw [Q121.l0,if_neg (by simp only [decide_eq_true_eq]; omega)]
theorem Zm7 {a b:Nat} {d:Array Int} (ha:a≤1000000) (h1:1≤b) (hb:b≤d.size) (hd:d.size≤1000000):Ev (fun k=>Q121.f k d.toList (a:Int) (b:Int)) (Go.Sort.reverseRange d a b).toList:=by
 refine (Zhi (b - 1 - a) a (b - 1) d (Nat.le_refl _) ha (by omega) hd).next fun k hk=>?_
 unfold Q121.f
 rw [wn (x:=(b:Int) - 1) (n:=b - 1) (by omega) (by omega)]
 exact hk
theorem Zbx {d:Array Int} {a b s:Nat} (ha:a<d.size) (hb:b<d.size) (hs:s≤1000):Q116.f d.toList (a:Int) (b:Int) (s:Int)=some (((Go.Sort.order2 ltI d a b s).1:Int),((Go.Sort.order2 ltI d a b s).2.1:Int),((Go.Sort.order2 ltI d a b s).2.2:Int)):=by
 unfold Q116.f Go.Sort.order2
 rw [if_pos (by simp; omega),if_pos (by simp; omega),gta,gta,Xd,Option.bind_some,wn (n:=s+1) (by omega) (by omega)]
 split <;> rfl
theorem Uc {P:Nat→Prop} {d:Array Int} {a b s:Nat} (ha:P a) (hb:P b):P (Go.Sort.order2 ltI d a b s).1∧P (Go.Sort.order2 ltI d a b s).2.1∧(Go.Sort.order2 ltI d a b s).2.2≤s+1:=by
 unfold Go.Sort.order2
 split
 ·exact ⟨hb,ha,Nat.le_refl _⟩
 ·exact ⟨ha,hb,Nat.le_succ _⟩
theorem Ziq {P:Nat→Prop} {d:Array Int} {a b c s:Nat} (ha:P a) (hb:P b) (hc:P c):P (Go.Sort.median ltI d a b c s).1∧(Go.Sort.median ltI d a b c s).2≤s+3:=by
 obtain ⟨a1,a2,a3⟩:=Uc (d:=d) (s:=s) ha hb
 obtain ⟨b1,b2,b3⟩:=Uc (d:=d) (s:=(Go.Sort.order2 ltI d a b s).2.2) a2 hc
 obtain ⟨c1,c2,c3⟩:=Uc (d:=d) (s:=(Go.Sort.order2 ltI d (Go.Sort.order2 ltI d a b s).2.1 c (Go.Sort.order2 ltI d a b s).2.2).2.2) a1 b1
 unfold Go.Sort.median
 exact ⟨c2,by dsimp only; omega⟩
theorem Zbz {d:Array Int} {a b c s:Nat} (ha:a<d.size) (hb:b<d.size) (hc:c<d.size) (hs:s≤900):Q114.f d.toList (a:Int) (b:Int) (c:Int) (s:Int)=some (((Go.Sort.median ltI d a b c s).1:Int),((Go.Sort.median ltI d a b c s).2:Int)):=by
 obtain ⟨a1,a2,a3⟩:=Uc (P:=fun x=>x<d.size) (d:=d) (s:=s) ha hb
 obtain ⟨b1,b2,b3⟩:=Uc (P:=fun x=>x<d.size) (d:=d) (s:=(Go.Sort.order2 ltI d a b s).2.2) a2 hc
 unfold Q114.f Go.Sort.median
 rw [Zbx ha hb (by omega),Option.bind_some]
 dsimp only
 rw [Zbx a2 hc (by omega),Option.bind_some]
 dsimp only
 rw [Zbx a1 b1 (by omega),Option.bind_some]
theorem Zbv {d:Array Int} {a s:Nat} (h1:1≤a) (ha:a+1<d.size) (hd:d.size≤1000000) (hs:s≤900):Q113.f d.toList (a:Int) (s:Int)=some (((Go.Sort.medianAdjacent ltI d a s).1:Int),((Go.Sort.medianAdjacent ltI d a s).2:Int)):=by
 unfold Q113.f Go.Sort.medianAdjacent
 rw [wn (x:=(a:Int) - 1) (n:=a - 1) (by omega) (by omega),wn (n:=a+1) (by omega) (by omega),Zbz (by omega) (by omega) (by omega) hs]
 rfl
theorem Bf {d:Array Int} {a s:Nat} (ha:a+1<d.size):(Go.Sort.medianAdjacent ltI d a s).1<d.size∧(Go.Sort.medianAdjacent ltI d a s).2≤s+3:=by
 unfold Go.Sort.medianAdjacent
 exact Ziq (P:=fun x=>x<d.size) (by omega) (by omega) (by omega)
def Zds:Go.Sort.Hint→Int
 | .unknown=>0
 | .increasing=>1
 | .decreasing=>2
theorem Zf6 (x:Int) (n:Nat):(if (decide ((n:Int)=0))=true then (some (x,(1:Int))) else (if (decide ((n:Int)=12))=true then (some (x,2)) else (some (x,0))))=some (x,Zds (if n=0 then Go.Sort.Hint.increasing else if n=12 then .decreasing else .unknown)):=by
 by_cases h1:n=0
 ·subst h1; rfl
 ·rw [if_neg (by simp only [decide_eq_true_eq]; omega),if_neg h1]
  by_cases h2:n=12
  ·subst h2; rfl
  ·rw [if_neg (by simp only [decide_eq_true_eq]; omega),if_neg h2]
   rfl
theorem Zlr {d:Array Int} {a b:Nat} (hab:a≤b) (hb:b≤d.size) (h12:12<b - a) (hd:d.size≤1000000):Q110.f d.toList (a:Int) (b:Int)=some (((Go.Sort.choosePivot ltI d a b).1:Int),Zds (Go.Sort.choosePivot ltI d a b).2):=by
 have e1:w64 ((b:Int) - (a:Int))=((b - a:Nat):Int):=wn (by omega) (by omega)
 have e2:w64 (Int.tdiv ((b - a:Nat):Int) 4)=(((b - a) / 4:Nat):Int):=by
  rw [show Int.tdiv ((b - a:Nat):Int) 4=(((b - a) / 4:Nat):Int) from rfl,Z1 (by omega) (by omega)]
 obtain ⟨q,hq⟩:∃ q,q=(b - a) / 4:=⟨_,rfl⟩
 rw [← hq] at e2
 have e3:w64 ((q:Int)*1)=((q*1:Nat):Int):=wn (by omega) (by omega)
 have e4:w64 ((q:Int)*2)=((q*2:Nat):Int):=wn (by omega) (by omega)
 have e5:w64 ((q:Int)*3)=((q*3:Nat):Int):=wn (by omega) (by omega)
 have e6:w64 ((a:Int)+((q*1:Nat):Int))=((a+q*1:Nat):Int):=wn (by omega) (by omega)
 have e7:w64 ((a:Int)+((q*2:Nat):Int))=((a+q*2:Nat):Int):=wn (by omega) (by omega)
 have e8:w64 ((a:Int)+((q*3:Nat):Int))=((a+q*3:Nat):Int):=wn (by omega) (by omega)
 unfold Q110.f Go.Sort.choosePivot
 simp only [e1,e2,e3,e4,e5,e6,e7,e8,← hq]
 rw [if_pos (decide_eq_true (by omega)),if_pos (show b - a≥8 by omega)]
 by_cases c:b - a≥50
 ·obtain ⟨i1,i2⟩:=Bf (d:=d) (a:=a+q*1) (s:=0) (by omega)
  obtain ⟨j1,j2⟩:=Bf (d:=d) (a:=a+q*2) (s:=(Go.Sort.medianAdjacent ltI d (a+q*1) 0).2) (by omega)
  obtain ⟨k1,k2⟩:=Bf (d:=d) (a:=a+q*3) (s:=(Go.Sort.medianAdjacent ltI d (a+q*2) (Go.Sort.medianAdjacent ltI d (a+q*1) 0).2).2) (by omega)
  rw [if_pos (decide_eq_true (by omega)),if_pos c,show Q113.f d.toList ((a+q*1:Nat):Int) 0=_ from Zbv (s:=0) (by omega) (by omega) hd (by omega),Option.bind_some]
  dsimp only
  rw [Zbv (by omega) (by omega) hd (by omega),Option.bind_some]
  dsimp only
  rw [Zbv (by omega) (by omega) hd (by omega),Option.bind_some]
  dsimp only
  rw [Zbz i1 j1 k1 (by omega),Option.bind_some]
  exact Zf6 _ _
 ·rw [if_neg (by simp only [decide_eq_true_eq]; omega),if_neg c,show Q114.f d.toList ((a+q*1:Nat):Int) ((a+q*2:Nat):Int) ((a+q*3:Nat):Int) 0=_ from Zbz (s:=0) (by omega) (by omega) (by omega) (by omega),Option.bind_some]
  exact Zf6 _ _
theorem Zfl {R:Type} {b:Nat} {r:R} {F:Nat→List Int→Int→Option R} {G:Nat→List Int→Option R}
  (hF:∀ k x j,F (k+1) x j=if (decide (j<(b:Int)))=true then (if 0≤j∧j<(x.length:Int) then (if 0≤(w64 (j - 1))∧(w64 (j - 1))<(x.length:Int) then ((Q35.f (gt x j) (gt x (w64 (j - 1)))).bind fun r3=>(if (!r3)=true then (G k x) else (F k ((x.set j.toNat (gt x (w64 (j - 1)))).set (w64 (j - 1)).toNat (gt x j)) (w64 (j+1))))) else none) else none) else (G k x)) :
  ∀(m j:Nat) (d:Array Int),b - j≤m→1≤j→b≤d.size→d.size≤1000000→Ev (fun k=>G k (Go.Sort.shiftUp ltI b j d).toList) r→Ev (fun k=>F k d.toList (j:Int)) r
 | m,j,d,hm,h1,hb,hd,h=>by
  rw [Go.Sort.shiftUp] at h
  by_cases c:j<b
  ·cases m with
   | zero=>omega
   | succ m=>
   have e1:w64 ((j:Int) - 1)=((j - 1:Nat):Int):=wn (by omega) (by omega)
   have e2:w64 ((j:Int)+1)=((j+1:Nat):Int):=wn (by omega) (by omega)
   rw [if_pos c] at h
   by_cases q:ltI d[j]! d[j - 1]! = true
   ·rw [if_neg (by simp [q])] at h
    refine (Zfl hF m (j+1) (Go.Sort.swp d j (j - 1)) (by omega) (by omega) (by rw [Yr]; exact hb) (by rw [Yr]; exact hd) h).step fun k hk=>?_
    rw [hF,if_pos (decide_eq_true (by omega)),e1,if_pos (by simp; omega),if_pos (by simp; omega),gta,gta,Xd,Option.bind_some,if_neg (by simp [q]),Int.toNat_natCast,Int.toNat_natCast,X5,e2]
    exact hk
   ·rw [if_pos (by simp [q])] at h
    refine h.step fun k hk=>?_
    rw [hF,if_pos (decide_eq_true (by omega)),e1,if_pos (by simp; omega),if_pos (by simp; omega),gta,gta,Xd,Option.bind_some,if_pos (by simp [q])]
    exact hk
  ·rw [if_neg c] at h
   refine h.step fun k hk=>?_
   rw [hF,if_neg (by simp only [decide_eq_true_eq]; omega)]
   exact hk
theorem G7 (b:Nat):∀(m j:Nat) (d:Array Int),b - j≤m→(Go.Sort.shiftUp ltI b j d).size=d.size
 | m,j,d,hm=>by
  rw [Go.Sort.shiftUp]
  by_cases c:j<b
  ·cases m with
   | zero=>omega
   | succ m=>
   rw [if_pos c]
   split
   ·rfl
   ·rw [G7 b m _ _ (by omega),Yr]
  ·rw [if_neg c]
theorem Ju:∀(j:Nat) (d:Array Int),(Go.Sort.shiftDown ltI j d).size=d.size
 | 0,d=>rfl
 | j+1,d=>by
  unfold Go.Sort.shiftDown
  split
  ·rfl
  ·rw [Ju j,Yr]
theorem Zcx {R:Type} {r:R} {F:Nat→List Int→Int→Option R} {G1 G2:Nat→List Int→Option R}
  (hF:∀ k x j,F (k+1) x j=if (decide (1≤j))=true then (if 0≤j∧j<(x.length:Int) then (if 0≤(w64 (j - 1))∧(w64 (j - 1))<(x.length:Int) then ((Q35.f (gt x j) (gt x (w64 (j - 1)))).bind fun r3=>(if (!r3)=true then (G1 k x) else (F k ((x.set j.toNat (gt x (w64 (j - 1)))).set (w64 (j - 1)).toNat (gt x j)) (w64 (j - 1))))) else none) else none) else (G2 k x)) :
  ∀(j:Nat) (d:Array Int),j<d.size→d.size≤1000000→Ev (fun k=>G1 k (Go.Sort.shiftDown ltI j d).toList) r→Ev (fun k=>G2 k (Go.Sort.shiftDown ltI j d).toList) r→Ev (fun k=>F k d.toList (j:Int)) r
 | 0,d,hj,hd,h1,h2=>h2.step fun k hk=>by
  rw [hF,if_neg (by simp)]
  exact hk
 | j+1,d,hj,hd,h1,h2=>by
  have e1:w64 (((j+1:Nat):Int) - 1)=(j:Int):=wn (by omega) (by omega)
  unfold Go.Sort.shiftDown at h1 h2
  by_cases q:ltI d[j+1]! d[j]! = true
  ·rw [if_neg (by simp [q])] at h1 h2
   refine (Zcx hF j (Go.Sort.swp d (j+1) j) (by rw [Yr]; omega) (by rw [Yr]; exact hd) h1 h2).step fun k hk=>?_
   rw [hF,if_pos (decide_eq_true (by omega)),e1,if_pos (by simp; omega),if_pos (by simp; omega),gta,gta,Xd,Option.bind_some,if_neg (by simp [q]),Int.toNat_natCast,Int.toNat_natCast,X5]
   exact hk
  ·rw [if_pos (by simp [q])] at h1
   refine h1.step fun k hk=>?_
   rw [hF,if_pos (decide_eq_true (by omega)),e1,if_pos (by simp; omega),if_pos (by simp; omega),gta,gta,Xd,Option.bind_some,if_pos (by simp [q])]
   exact hk
def B1 (a b s i:Nat) (d:Array Int):Array Int×Bool:=
 if i=b then (d,true) else if b - a<50 then (d,false) else
  Go.Sort.partialIns ltI a b s i (let d1:=Go.Sort.swp d i (i - 1); let d2:=if i - a≥2 then Go.Sort.shiftDown ltI (i - 1) d1 else d1; if b - i≥2 then Go.Sort.shiftUp ltI b (i+1) d2 else d2)
theorem Zbd (a b s i:Nat) (d:Array Int):Go.Sort.partialIns ltI a b (s+1) i d=B1 a b s (Go.Sort.scanSorted ltI d b i) d:=rfl
def Ul (p:Array Int×Bool):Bool×List Int:=(p.2,p.1.toList)
theorem Zih {a b s i:Nat} {d:Array Int} (hs:s<5) (ha:a<i) (hi:i<b) (hb:b≤d.size) (hd:d.size≤1000000) (hq:ltI d[i]! d[i - 1]! = true)
  (ih:∀ d':Array Int,d'.size=d.size→Ev (fun k=>Q117.l0 k (a:Int) (b:Int) d'.toList (i:Int) ((5 - s:Nat):Int)) (Ul (Go.Sort.partialIns ltI a b s i d'))) :
  Ev (fun k=>Q117.l3 k (a:Int) (b:Int) d.toList ((4 - s:Nat):Int) (i:Int)) (Ul (B1 a b s i d)):=by
 have e1:w64 ((i:Int) - 1)=((i - 1:Nat):Int):=wn (by omega) (by omega)
 have e2:w64 ((b:Int) - (a:Int))=((b - a:Nat):Int):=wn (by omega) (by omega)
 have e3:w64 ((i:Int) - (a:Int))=((i - a:Nat):Int):=wn (by omega) (by omega)
 have e4:w64 ((b:Int) - (i:Int))=((b - i:Nat):Int):=wn (by omega) (by omega)
 have e5:w64 ((i:Int)+1)=((i+1:Nat):Int):=wn (by omega) (by omega)
 have e6:w64 (((4 - s:Nat):Int)+1)=((5 - s:Nat):Int):=wn (by omega) (by omega)
 have un:∀ k,Q117.l3 (k+1) (a:Int) (b:Int) d.toList ((4 - s:Nat):Int) (i:Int)=(if (decide (((b - a:Nat):Int)<50))=true then (some (false,d.toList)) else (if (decide (2≤((i - a:Nat):Int)))=true then (Q117.l2 k (a:Int) (b:Int) ((4 - s:Nat):Int) (i:Int) (Go.Sort.swp d i (i - 1)).toList ((i - 1:Nat):Int)) else (if (decide (2≤((b - i:Nat):Int)))=true then (Q117.l1 k (a:Int) (b:Int) ((4 - s:Nat):Int) (i:Int) (Go.Sort.swp d i (i - 1)).toList ((i+1:Nat):Int)) else (Q117.l0 k (a:Int) (b:Int) (Go.Sort.swp d i (i - 1)).toList (i:Int) ((5 - s:Nat):Int))))):=fun k=>by
  rw [Q117.l3,if_pos (decide_eq_true (by omega)),e1,if_pos (by simp; omega),if_pos (by simp; omega),gta,gta,Xd,Option.bind_some,if_neg (by simp [hq]),if_neg (by simp only [decide_eq_true_eq]; omega),if_pos (show 0≤((i - 1:Nat):Int)∧((i - 1:Nat):Int)<(d.toList.length:Int) by simp; omega),if_pos (show 0≤(i:Int)∧(i:Int)<(d.toList.length:Int) by simp; omega),e2,e3,e4,e5,e6,Int.toNat_natCast,Int.toNat_natCast,X5]
 unfold B1
 rw [if_neg (by omega)]
 by_cases c1:b - a<50
 ·rw [if_pos c1]
  exact Ev.last fun k=>by rw [un,if_pos (decide_eq_true (by omega))]; rfl
 ·rw [if_neg c1]
  have sz:=Yr d i (i - 1)
  have fin:∀(d2:Array Int),d2.size=d.size→∀(F:Nat→List Int→Int→Option (Bool×List Int)),(∀ k x j,F (k+1) x j=if (decide (j<(b:Int)))=true then (if 0≤j∧j<(x.length:Int) then (if 0≤(w64 (j - 1))∧(w64 (j - 1))<(x.length:Int) then ((Q35.f (gt x j) (gt x (w64 (j - 1)))).bind fun r3=>(if (!r3)=true then (Q117.l0 k (a:Int) (b:Int) x (i:Int) ((5 - s:Nat):Int)) else (F k ((x.set j.toNat (gt x (w64 (j - 1)))).set (w64 (j - 1)).toNat (gt x j)) (w64 (j+1))))) else none) else none) else (Q117.l0 k (a:Int) (b:Int) x (i:Int) ((5 - s:Nat):Int)))→
    Ev (fun k=>F k d2.toList ((i+1:Nat):Int)) (Ul (Go.Sort.partialIns ltI a b s i (Go.Sort.shiftUp ltI b (i+1) d2))):=fun d2 h2 F hF=>
   Zfl (G:=fun k x=>Q117.l0 k (a:Int) (b:Int) x (i:Int) ((5 - s:Nat):Int)) hF b (i+1) d2 (by omega) (by omega) (by omega) (by omega) (ih _ (by rw [G7 b b _ _ (by omega),h2]))
  by_cases c2:i - a≥2
  ·have sz2:(Go.Sort.shiftDown ltI (i - 1) (Go.Sort.swp d i (i - 1))).size=d.size:=by rw [Ju,sz]
   have dn:=Zcx (r:=Ul (Go.Sort.partialIns ltI a b s i (if b - i≥2 then Go.Sort.shiftUp ltI b (i+1) (Go.Sort.shiftDown ltI (i - 1) (Go.Sort.swp d i (i - 1))) else Go.Sort.shiftDown ltI (i - 1) (Go.Sort.swp d i (i - 1)))))
    (F:=fun k x j=>Q117.l2 k (a:Int) (b:Int) ((4 - s:Nat):Int) (i:Int) x j)
    (G1:=fun k x=>if (decide (2≤((b - i:Nat):Int)))=true then (Q117.l1 k (a:Int) (b:Int) ((4 - s:Nat):Int) (i:Int) x ((i+1:Nat):Int)) else (Q117.l0 k (a:Int) (b:Int) x (i:Int) ((5 - s:Nat):Int)))
    (G2:=fun k x=>if (decide (2≤((b - i:Nat):Int)))=true then (Q117.l1 k (a:Int) (b:Int) ((4 - s:Nat):Int) (i:Int) x ((i+1:Nat):Int)) else (Q117.l0 k (a:Int) (b:Int) x (i:Int) ((5 - s:Nat):Int)))
    (fun k x j=>by rw [Q117.l2]; simp only [e4,e5,e6]) (i - 1) (Go.Sort.swp d i (i - 1)) (by omega) (by omega)
   have key:=dn (by
    by_cases c3:b - i≥2
    ·simp only [if_pos c3,if_pos (show decide (2≤((b - i:Nat):Int))=true from decide_eq_true (by omega))]
     exact fin _ sz2 (fun k x j=>Q117.l1 k (a:Int) (b:Int) ((4 - s:Nat):Int) (i:Int) x j) (fun k x j=>by rw [Q117.l1]; simp only [e6])
    ·simp only [if_neg c3,if_neg (show ¬ decide (2≤((b - i:Nat):Int))=true by simp only [decide_eq_true_eq]; omega)]
     exact ih _ sz2) (by
    by_cases c3:b - i≥2
    ·simp only [if_pos c3,if_pos (show decide (2≤((b - i:Nat):Int))=true from decide_eq_true (by omega))]
     exact fin _ sz2 (fun k x j=>Q117.l1 k (a:Int) (b:Int) ((4 - s:Nat):Int) (i:Int) x j) (fun k x j=>by rw [Q117.l1]; simp only [e6])
    ·simp only [if_neg c3,if_neg (show ¬ decide (2≤((b - i:Nat):Int))=true by simp only [decide_eq_true_eq]; omega)]
     exact ih _ sz2)
   refine key.step fun k hk=>?_
   rw [un,if_neg (by simp only [decide_eq_true_eq]; omega),if_pos (decide_eq_true (by omega)),hk]
   simp only [if_pos c2]
  ·by_cases c3:b - i≥2
   ·refine (fin _ sz (fun k x j=>Q117.l1 k (a:Int) (b:Int) ((4 - s:Nat):Int) (i:Int) x j) (fun k x j=>by rw [Q117.l1]; simp only [e6])).step fun k hk=>?_
    rw [un,if_neg (by simp only [decide_eq_true_eq]; omega),if_neg (by simp only [decide_eq_true_eq]; omega),if_pos (decide_eq_true (by omega)),hk]
    simp only [if_neg c2,if_pos c3]
   ·refine (ih _ sz).step fun k hk=>?_
    rw [un,if_neg (by simp only [decide_eq_true_eq]; omega),if_neg (by simp only [decide_eq_true_eq]; omega),if_neg (by simp only [decide_eq_true_eq]; omega),hk]
    simp only [if_neg c2,if_neg c3]
theorem Zfk {a b n:Nat} (hn:n≤1000000) (hb:b≤n):∀(s i:Nat) (d:Array Int),s≤5→a<i→i≤b→d.size=n→Ev (fun k=>Q117.l0 k (a:Int) (b:Int) d.toList (i:Int) ((5 - s:Nat):Int)) (Ul (Go.Sort.partialIns ltI a b s i d))
 | 0,i,d,hs,ha,hi,hd=>Ev.last fun k=>by
  rw [Q117.l0,if_neg (by simp)]
  rfl
 | s+1,i,d,hs,ha,hi,hd=>by
  rw [Zbd]
  have scan:∀(m i:Nat),b - i≤m→a<i→i≤b→Ev (fun k=>Q117.l3 k (a:Int) (b:Int) d.toList ((4 - s:Nat):Int) (i:Int)) (Ul (B1 a b s (Go.Sort.scanSorted ltI d b i) d)):=fun m=>by
   induction m with
   | zero=>
    intro i hm ha hi
    rw [Go.Sort.scanSorted,if_neg (by simp; omega)]
    unfold B1
    rw [if_pos (by omega)]
    exact Ev.last fun k=>by
     rw [Q117.l3,if_neg (by simp only [decide_eq_true_eq]; omega),if_pos (decide_eq_true (by omega))]
     rfl
   | succ m ihm=>
    intro i hm ha hi
    rw [Go.Sort.scanSorted]
    by_cases c:i<b
    ·by_cases q:ltI d[i]! d[i - 1]! = true
     ·rw [if_neg (by simp [q])]
      exact Zih (by omega) ha c (by omega) (by omega) q fun d' h'=>Zfk hn hb s i d' (by omega) ha hi (by omega)
     ·rw [if_pos (by simp [c,q])]
      have e1:w64 ((i:Int) - 1)=((i - 1:Nat):Int):=wn (by omega) (by omega)
      have e5:w64 ((i:Int)+1)=((i+1:Nat):Int):=wn (by omega) (by omega)
      refine (ihm (i+1) (by omega) (by omega) (by omega)).step fun k hk=>?_
      rw [Q117.l3,if_pos (decide_eq_true (by omega)),e1,if_pos (by simp; omega),if_pos (by simp; omega),gta,gta,Xd,Option.bind_some,if_pos (by simp [q]),e5]
      exact hk
    ·rw [if_neg (by simp [c])]
     unfold B1
     rw [if_pos (by omega)]
     exact Ev.last fun k=>by
      rw [Q117.l3,if_neg (by simp only [decide_eq_true_eq]; omega),if_pos (decide_eq_true (by omega))]
      rfl
  refine (scan b i (by omega) ha hi).step fun k hk=>?_
  rw [Q117.l0,if_pos (decide_eq_true (by omega)),show ((5 - (s+1):Nat):Int)=((4 - s:Nat):Int) by omega]
  exact hk
theorem Zmw {a b:Nat} {d:Array Int} (hab:a<b) (hb:b≤d.size) (hd:d.size≤1000000):Ev (fun k=>Q117.f k d.toList (a:Int) (b:Int)) (Ul (Go.Sort.partialInsertionSort ltI d a b)):=by
 refine (Zfk (a:=a) (b:=b) hd hb 5 (a+1) d (Nat.le_refl _) (by omega) (by omega) rfl).next fun k hk=>?_
 unfold Q117.f
 rw [wn (n:=a+1) (by omega) (by omega)]
 exact hk
theorem Br (p:Int→Bool) (d:Array Int) (j:Nat):∀(m i:Nat),j+1 - i≤m→i≤Go.Sort.scanUp p d j i∧(Go.Sort.scanUp p d j i≤j+1∨Go.Sort.scanUp p d j i=i)
 | m,i,hm=>by
  rw [Go.Sort.scanUp]
  by_cases c:(decide (i≤j) && p d[i]!)=true
  ·rw [if_pos c]
   have hij:i≤j:=by simp only [Bool.and_eq_true,decide_eq_true_eq] at c; exact c.1
   cases m with
   | zero=>omega
   | succ m=>
   have:=Br p d j m (i+1) (by omega)
   omega
  ·rw [if_neg c]
   exact ⟨Nat.le_refl _,.inr rfl⟩
theorem V6 (p:Int→Bool) (d:Array Int) (i:Nat):∀ j:Nat,Go.Sort.scanDown p d i j≤j
 | 0=>Nat.le_refl _
 | j+1=>by
  unfold Go.Sort.scanDown
  split
  ·have:=V6 p d i j; omega
  ·exact Nat.le_refl _
def Gf (p:Nat×Array Int):Int×List Int:=((p.1:Int),p.2.toList)
def U5 (a i2 j2:Nat) (d:Array Int):Nat×Array Int:=if i2>j2 then (i2,d) else Go.Sort.partEqLoop ltI a (i2+1) (j2 - 1) (Go.Sort.swp d i2 j2)
theorem Zfe {a i j:Nat} {d:Array Int} (h1:1≤i):Go.Sort.partEqLoop ltI a i j d=U5 a (Go.Sort.scanUp (fun x=>!ltI d[a]! x) d j i) (Go.Sort.scanDown (fun x=>ltI d[a]! x) d (Go.Sort.scanUp (fun x=>!ltI d[a]! x) d j i) j) d:=by
 have u:=(Br (fun x=>!ltI d[a]! x) d j _ i (Nat.le_refl _)).1
 have v:=V6 (fun x=>ltI d[a]! x) d (Go.Sort.scanUp (fun x=>!ltI d[a]! x) d j i) j
 rw [Go.Sort.partEqLoop]
 unfold U5
 split
 ·rfl
 ·rw [dif_pos (by omega)]
theorem Zfn {a i2:Nat} {d:Array Int} (hi:1≤i2) (ha:a<d.size) (hd:d.size≤1000000) (hi2:i2≤1000001):∀(j:Nat),j<d.size→(∀ j2,j2≤j→i2≤j2→Ev (fun k=>Q118.l0 k (a:Int) (Go.Sort.swp d i2 j2).toList ((i2+1:Nat):Int) ((j2 - 1:Nat):Int)) (Gf (Go.Sort.partEqLoop ltI a (i2+1) (j2 - 1) (Go.Sort.swp d i2 j2))))→
  Ev (fun k=>Q118.l2 k (a:Int) d.toList (i2:Int) (j:Int)) (Gf (U5 a i2 (Go.Sort.scanDown (fun x=>ltI d[a]! x) d i2 j) d))
 | 0,hj,h=>by
  unfold Go.Sort.scanDown U5
  rw [if_pos (by omega)]
  exact Ev.last fun k=>by rw [Q118.l2,if_neg (by simp only [decide_eq_true_eq]; omega),if_pos (decide_eq_true (by omega))]; rfl
 | j+1,hj,h=>by
  have e1:w64 (((j+1:Nat):Int) - 1)=(j:Int):=wn (by omega) (by omega)
  have e2:w64 ((i2:Int)+1)=((i2+1:Nat):Int):=wn (by omega) (by omega)
  unfold Go.Sort.scanDown
  by_cases c:i2≤j+1
  ·by_cases q:ltI d[a]! d[j+1]! = true
   ·rw [if_pos (by simp [c,q])]
    refine (Zfn hi ha hd hi2 j (by omega) fun j2 a b=>h j2 (by omega) b).step fun k hk=>?_
    rw [Q118.l2,if_pos (decide_eq_true (by omega)),if_pos (by simp; omega),gta,gta,Xd,Option.bind_some,if_pos q,e1]
    exact hk
   ·rw [if_neg (by simp [q])]
    unfold U5
    rw [if_neg (by omega)]
    refine (h (j+1) (Nat.le_refl _) c).step fun k hk=>?_
    rw [Q118.l2,if_pos (decide_eq_true (by omega)),if_pos (by simp; omega),gta,gta,Xd,Option.bind_some,if_neg q,if_neg (by simp only [decide_eq_true_eq]; omega),gta,Int.toNat_natCast,Int.toNat_natCast,X5,e1,e2]
    exact hk
  ·rw [if_neg (by simp [c])]
   unfold U5
   rw [if_pos (by omega)]
   exact Ev.last fun k=>by rw [Q118.l2,if_neg (by simp only [decide_eq_true_eq]; omega),if_pos (decide_eq_true (by omega))]; rfl
theorem Zj8 {a j:Nat} {d:Array Int} (ha:a<d.size) (hd:d.size≤1000000) (hj:j<d.size):∀(m i:Nat),j+1 - i≤m→1≤i→i≤1000001→(∀ i2 j2,i≤i2→j2≤j→i2≤j2→Ev (fun k=>Q118.l0 k (a:Int) (Go.Sort.swp d i2 j2).toList ((i2+1:Nat):Int) ((j2 - 1:Nat):Int)) (Gf (Go.Sort.partEqLoop ltI a (i2+1) (j2 - 1) (Go.Sort.swp d i2 j2))))→
  Ev (fun k=>Q118.l1 k (a:Int) d.toList (j:Int) (i:Int)) (Gf (U5 a (Go.Sort.scanUp (fun x=>!ltI d[a]! x) d j i) (Go.Sort.scanDown (fun x=>ltI d[a]! x) d (Go.Sort.scanUp (fun x=>!ltI d[a]! x) d j i) j) d))
 | m,i,hm,h1,hi,h=>by
  have e2:w64 ((i:Int)+1)=((i+1:Nat):Int):=wn (by omega) (by omega)
  rw [Go.Sort.scanUp]
  by_cases c:i≤j
  ·by_cases q:ltI d[a]! d[i]! = true
   ·rw [if_neg (by simp [q])]
    refine (Zfn h1 ha hd hi j hj fun j2 a b=>h i j2 (Nat.le_refl _) a b).step fun k hk=>?_
    rw [Q118.l1,if_pos (decide_eq_true (by omega)),if_pos (by simp; omega),if_pos (by simp; omega),gta,gta,Xd,Option.bind_some,if_neg (by simp [q])]
    exact hk
   ·cases m with
    | zero=>omega
    | succ m=>
    rw [if_pos (by simp [c,q])]
    refine (Zj8 ha hd hj m (i+1) (by omega) (by omega) (by omega) fun i2 j2 a b c=>h i2 j2 (by omega) b c).step fun k hk=>?_
    rw [Q118.l1,if_pos (decide_eq_true (by omega)),if_pos (by simp; omega),if_pos (by simp; omega),gta,gta,Xd,Option.bind_some,if_pos (by simp [q]),e2]
    exact hk
  ·rw [if_neg (by simp [c])]
   have v:=V6 (fun x=>ltI d[a]! x) d i j
   unfold U5
   rw [if_pos (by omega)]
   have:Ev (fun k=>Q118.l3 k (a:Int) d.toList (j:Int) (i:Int)) (Gf (i,d)):=Ev.last fun k=>by
    rw [Q118.l3,if_pos (decide_eq_true (by omega))]
    rfl
   refine this.step fun k hk=>?_
   rw [Q118.l1,if_neg (by simp only [decide_eq_true_eq]; omega)]
   exact hk
theorem Zfu {a n:Nat} (hn:n≤1000000) (ha:a<n):∀(m i j:Nat) (d:Array Int),j+1 - i≤m→1≤i→i≤1000001→j<n→d.size=n→Ev (fun k=>Q118.l0 k (a:Int) d.toList (i:Int) (j:Int)) (Gf (Go.Sort.partEqLoop ltI a i j d))
 | m,i,j,d,hm,h1,hi,hj,hd=>by
  rw [Zfe h1]
  refine (Zj8 (a:=a) (j:=j) (d:=d) (by omega) (by omega) (by omega) _ i (Nat.le_refl _) h1 hi fun i2 j2 a1 a2 a3=>?_).step fun k hk=>?_
  ·cases m with
   | zero=>omega
   | succ m=>exact Zfu hn ha m (i2+1) (j2 - 1) (Go.Sort.swp d i2 j2) (by omega) (by omega) (by omega) (by omega) (by rw [Yr]; exact hd)
  ·rw [Q118.l0]
   exact hk
theorem Zkd {a b p:Nat} {d:Array Int} (hab:a<b) (hp:p<d.size) (hb:b≤d.size) (hd:d.size≤1000000):Ev (fun k=>Q118.f k d.toList (a:Int) (b:Int) (p:Int)) (Gf (Go.Sort.partitionEqual ltI d a b p)):=by
 refine (Zfu (a:=a) (n:=d.size) hd (by omega) _ (a+1) (b - 1) (Go.Sort.swp d a p) (Nat.le_refl _) (by omega) (by omega) (by omega) (Yr d a p)).next fun k hk=>?_
 unfold Q118.f
 rw [if_pos (by simp; omega),if_pos (by simp; omega),gta,gta,Int.toNat_natCast,Int.toNat_natCast,X5,wn (n:=a+1) (by omega) (by omega),wn (x:=(b:Int) - 1) (n:=b - 1) (by omega) (by omega)]
 exact hk
def Zek (d:Array Int) (a j:Nat):Int×Bool×List Int:=((j:Int),false,(Go.Sort.swp d j a).toList)
def Gl (a i2 j2:Nat) (d:Array Int):Nat×Array Int:=if i2>j2 then (j2,d) else Go.Sort.partLoop ltI a (i2+1) (j2 - 1) (Go.Sort.swp d i2 j2)
theorem Zip {a i j:Nat} {d:Array Int} (h1:1≤i):Go.Sort.partLoop ltI a i j d=Gl a (Go.Sort.scanUp (fun x=>ltI x d[a]!) d j i) (Go.Sort.scanDown (fun x=>!ltI x d[a]!) d (Go.Sort.scanUp (fun x=>ltI x d[a]!) d j i) j) d:=by
 have u:=(Br (fun x=>ltI x d[a]!) d j _ i (Nat.le_refl _)).1
 have v:=V6 (fun x=>!ltI x d[a]!) d (Go.Sort.scanUp (fun x=>ltI x d[a]!) d j i) j
 rw [Go.Sort.partLoop]
 unfold Gl
 split
 ·rfl
 ·rw [dif_pos (by omega)]
structure Part4 (a:Nat) (F2 F3 F4:Nat→List Int→Int→Int→Option (Int×Bool×List Int)):Prop where
 h2:∀ k x i j,F2 (k+1) x i j=F3 k x j i
 h3:∀ k x j i,F3 (k+1) x j i=if (decide (i≤j))=true then (if 0≤i∧i<(x.length:Int) then (if 0≤(a:Int)∧(a:Int)<(x.length:Int) then ((Q35.f (gt x i) (gt x (a:Int))).bind fun r3=>(if r3=true then (F3 k x j (w64 (i+1))) else (F4 k x i j))) else none) else none) else (F4 k x i j)
 h4:∀ k x i j,F4 (k+1) x i j=if (decide (i≤j))=true then (if 0≤j∧j<(x.length:Int) then (if 0≤(a:Int)∧(a:Int)<(x.length:Int) then ((Q35.f (gt x j) (gt x (a:Int))).bind fun r4=>(if (!r4)=true then (F4 k x i (w64 (j - 1))) else (if (decide (j<i))=true then (if 0≤(a:Int)∧(a:Int)<(x.length:Int) then (if 0≤j∧j<(x.length:Int) then (some (j,false,((x.set j.toNat (gt x (a:Int))).set (a:Int).toNat (gt x j)))) else none) else none) else (if 0≤j∧j<(x.length:Int) then (if 0≤i∧i<(x.length:Int) then (F2 k ((x.set i.toNat (gt x j)).set j.toNat (gt x i)) (w64 (i+1)) (w64 (j - 1))) else none) else none)))) else none) else none) else (if (decide (j<i))=true then (if 0≤(a:Int)∧(a:Int)<(x.length:Int) then (if 0≤j∧j<(x.length:Int) then (some (j,false,((x.set j.toNat (gt x (a:Int))).set (a:Int).toNat (gt x j)))) else none) else none) else (if 0≤j∧j<(x.length:Int) then (if 0≤i∧i<(x.length:Int) then (F2 k ((x.set i.toNat (gt x j)).set j.toNat (gt x i)) (w64 (i+1)) (w64 (j - 1))) else none) else none))
section
variable {a:Nat} {F2 F3 F4:Nat→List Int→Int→Int→Option (Int×Bool×List Int)} (P:Part4 a F2 F3 F4)
include P
theorem Zcd {i2:Nat} {d:Array Int} (hi:1≤i2) (ha:a<d.size) (hd:d.size≤1000000) (hi2:i2≤1000001):∀(j:Nat),j<d.size→(∀ j2,j2≤j→i2≤j2→Ev (fun k=>F2 k (Go.Sort.swp d i2 j2).toList ((i2+1:Nat):Int) ((j2 - 1:Nat):Int)) (let r:=Go.Sort.partLoop ltI a (i2+1) (j2 - 1) (Go.Sort.swp d i2 j2); Zek r.2 a r.1))→
  Ev (fun k=>F4 k d.toList (i2:Int) (j:Int)) (let r:=Gl a i2 (Go.Sort.scanDown (fun x=>!ltI x d[a]!) d i2 j) d; Zek r.2 a r.1)
 | 0,hj,h=>by
  unfold Go.Sort.scanDown Gl
  rw [if_pos (by omega)]
  exact Ev.last fun k=>by rw [P.h4,if_neg (by simp only [decide_eq_true_eq]; omega),if_pos (decide_eq_true (by omega)),if_pos (by simp; omega),if_pos (by simp; omega),gta,gta,Int.toNat_natCast,Int.toNat_natCast,X5]; rfl
 | j+1,hj,h=>by
  have e1:w64 (((j+1:Nat):Int) - 1)=(j:Int):=wn (by omega) (by omega)
  have e2:w64 ((i2:Int)+1)=((i2+1:Nat):Int):=wn (by omega) (by omega)
  unfold Go.Sort.scanDown
  by_cases c:i2≤j+1
  ·by_cases q:ltI d[j+1]! d[a]! = true
   ·rw [if_neg (by simp [q])]
    unfold Gl
    rw [if_neg (by omega)]
    refine (h (j+1) (Nat.le_refl _) c).step fun k hk=>?_
    rw [P.h4,if_pos (decide_eq_true (by omega)),if_pos (by simp; omega),if_pos (by simp; omega),gta,gta,Xd,Option.bind_some,if_neg (by simp [q]),if_neg (by simp only [decide_eq_true_eq]; omega),if_pos (by simp; omega),if_pos (by simp; omega),gta,Int.toNat_natCast,Int.toNat_natCast,X5,e1,e2]
    exact hk
   ·rw [if_pos (by simp [c,q])]
    refine (Zcd hi ha hd hi2 j (by omega) fun j2 a b=>h j2 (by omega) b).step fun k hk=>?_
    rw [P.h4,if_pos (decide_eq_true (by omega)),if_pos (by simp; omega),if_pos (by simp; omega),gta,gta,Xd,Option.bind_some,if_pos (by simp [q]),e1]
    exact hk
  ·rw [if_neg (by simp [c])]
   unfold Gl
   rw [if_pos (by omega)]
   exact Ev.last fun k=>by rw [P.h4,if_neg (by simp only [decide_eq_true_eq]; omega),if_pos (decide_eq_true (by omega)),if_pos (by simp; omega),if_pos (by simp; omega),gta,gta,Int.toNat_natCast,Int.toNat_natCast,X5]; rfl
theorem Zjz {j:Nat} {d:Array Int} (ha:a<d.size) (hd:d.size≤1000000) (hj:j<d.size):∀(m i:Nat),j+1 - i≤m→1≤i→i≤1000001→(∀ i2 j2,i≤i2→j2≤j→i2≤j2→Ev (fun k=>F2 k (Go.Sort.swp d i2 j2).toList ((i2+1:Nat):Int) ((j2 - 1:Nat):Int)) (let r:=Go.Sort.partLoop ltI a (i2+1) (j2 - 1) (Go.Sort.swp d i2 j2); Zek r.2 a r.1))→
  Ev (fun k=>F3 k d.toList (j:Int) (i:Int)) (let r:=Gl a (Go.Sort.scanUp (fun x=>ltI x d[a]!) d j i) (Go.Sort.scanDown (fun x=>!ltI x d[a]!) d (Go.Sort.scanUp (fun x=>ltI x d[a]!) d j i) j) d; Zek r.2 a r.1)
 | m,i,hm,h1,hi,h=>by
  have e2:w64 ((i:Int)+1)=((i+1:Nat):Int):=wn (by omega) (by omega)
  rw [Go.Sort.scanUp]
  by_cases c:i≤j
  ·by_cases q:ltI d[i]! d[a]! = true
   ·cases m with
    | zero=>omega
    | succ m=>
    rw [if_pos (by simp [c,q])]
    refine (Zjz ha hd hj m (i+1) (by omega) (by omega) (by omega) fun i2 j2 a b c=>h i2 j2 (by omega) b c).step fun k hk=>?_
    rw [P.h3,if_pos (decide_eq_true (by omega)),if_pos (by simp; omega),if_pos (by simp; omega),gta,gta,Xd,Option.bind_some,if_pos q,e2]
    exact hk
   ·rw [if_neg (by simp [q])]
    refine (Zcd P h1 ha hd hi j hj fun j2 a b=>h i j2 (Nat.le_refl _) a b).step fun k hk=>?_
    rw [P.h3,if_pos (decide_eq_true (by omega)),if_pos (by simp; omega),if_pos (by simp; omega),gta,gta,Xd,Option.bind_some,if_neg q]
    exact hk
  ·rw [if_neg (by simp [c])]
   refine (Zcd P h1 ha hd hi j hj fun j2 a b=>h i j2 (Nat.le_refl _) a b).step fun k hk=>?_
   rw [P.h3,if_neg (by simp only [decide_eq_true_eq]; omega)]
   exact hk
theorem Zfo {n:Nat} (hn:n≤1000000) (ha:a<n):∀(m i j:Nat) (d:Array Int),j+1 - i≤m→1≤i→i≤1000001→j<n→d.size=n→Ev (fun k=>F2 k d.toList (i:Int) (j:Int)) (let r:=Go.Sort.partLoop ltI a i j d; Zek r.2 a r.1)
 | m,i,j,d,hm,h1,hi,hj,hd=>by
  rw [Zip h1]
  refine (Zjz P (j:=j) (d:=d) (by omega) (by omega) (by omega) _ i (Nat.le_refl _) h1 hi fun i2 j2 a1 a2 a3=>?_).step fun k hk=>?_
  ·cases m with
   | zero=>omega
   | succ m=>exact Zfo hn ha m (i2+1) (j2 - 1) (Go.Sort.swp d i2 j2) (by omega) (by omega) (by omega) (by omega) (by rw [Yr]; exact hd)
  ·rw [P.h2]
   exact hk
end
theorem Zlv (a:Nat):Part4 a (fun k x i j=>Q119.l0 k (a:Int) x i j) (fun k x j i=>Q119.l2 k (a:Int) x j i) (fun k x i j=>Q119.l1 k (a:Int) x i j):=
 ⟨fun k x i j=>by rw [Q119.l0],fun k x j i=>by rw [Q119.l2],fun k x i j=>by rw [Q119.l1]⟩
def Zi2 (r:Nat×Bool×Array Int):Int×Bool×List Int:=((r.1:Int),r.2.1,r.2.2.toList)
def B9 (a i j:Nat) (d:Array Int):Nat×Bool×Array Int:=if i>j then (j,true,Go.Sort.swp d j a) else ((Go.Sort.partLoop ltI a (i+1) (j - 1) (Go.Sort.swp d i j)).1,false,Go.Sort.swp (Go.Sort.partLoop ltI a (i+1) (j - 1) (Go.Sort.swp d i j)).2 (Go.Sort.partLoop ltI a (i+1) (j - 1) (Go.Sort.swp d i j)).1 a)
theorem Zbw {a p i:Nat} {d e:Array Int} (he:e=Go.Sort.swp d a p) (hi:1≤i) (ha:a<d.size) (hp:p<d.size) (hd:d.size≤1000000) (hi2:i≤1000001):∀(j:Nat),j<d.size→Ev (fun k=>Q119.l3 k d.toList (a:Int) (p:Int) (i:Int) (j:Int)) (Zi2 (B9 a i (Go.Sort.scanDown (fun x=>!ltI x e[a]!) e i j) e))
 | 0,hj=>by
  have se:e.size=d.size:=by rw [he,Yr]
  unfold Go.Sort.scanDown B9
  rw [if_pos (by omega)]
  exact Ev.last fun k=>by
   rw [Q119.l3,if_neg (by simp only [decide_eq_true_eq]; omega),if_pos (decide_eq_true (by omega)),gta,gta,Int.toNat_natCast,Int.toNat_natCast,X5,← he,if_pos (by simp; omega),if_pos (by simp; omega),gta,gta,Int.toNat_natCast,X5]
   rfl
 | j+1,hj=>by
  have se:e.size=d.size:=by rw [he,Yr]
  have e1:w64 (((j+1:Nat):Int) - 1)=(j:Int):=wn (by omega) (by omega)
  have e2:w64 ((i:Int)+1)=((i+1:Nat):Int):=wn (by omega) (by omega)
  unfold Go.Sort.scanDown
  by_cases c:i≤j+1
  ·by_cases q:ltI e[j+1]! e[a]! = true
   ·rw [if_neg (by simp [q])]
    unfold B9
    rw [if_neg (by omega)]
    refine (Zfo (Zlv a) (n:=d.size) hd ha _ (i+1) j (Go.Sort.swp e i (j+1)) (Nat.le_refl _) (by omega) (by omega) (by omega) (by rw [Yr,se])).step fun k hk=>?_
    rw [Q119.l3,if_pos (decide_eq_true (by omega)),gta,gta,Int.toNat_natCast,Int.toNat_natCast,X5,← he,if_pos (by simp; omega),if_pos (by simp; omega),gta,gta,Xd,Option.bind_some,if_neg (by simp [q]),if_neg (by simp only [decide_eq_true_eq]; omega),if_pos (by simp; omega),if_pos (by simp; omega),gta,Int.toNat_natCast,Int.toNat_natCast,X5,e1,e2]
    exact hk
   ·rw [if_pos (by simp [c,q])]
    refine (Zbw he hi ha hp hd hi2 j (by omega)).step fun k hk=>?_
    rw [Q119.l3,if_pos (decide_eq_true (by omega)),gta,gta,Int.toNat_natCast,Int.toNat_natCast,X5,← he,if_pos (by simp; omega),if_pos (by simp; omega),gta,gta,Xd,Option.bind_some,if_pos (by simp [q]),e1]
    exact hk
  ·rw [if_neg (by simp [c])]
   unfold B9
   rw [if_pos (by omega)]
   exact Ev.last fun k=>by
    rw [Q119.l3,if_neg (by simp only [decide_eq_true_eq]; omega),if_pos (decide_eq_true (by omega)),gta,gta,Int.toNat_natCast,Int.toNat_natCast,X5,← he,if_pos (by simp; omega),if_pos (by simp; omega),gta,gta,Int.toNat_natCast,X5]
    rfl
theorem Zj2 {a b p:Nat} {d e:Array Int} (he:e=Go.Sort.swp d a p) (hab:a<b) (hb:b≤d.size) (hp:p<d.size) (hd:d.size≤1000000):∀(m i:Nat),b - i≤m→1≤i→i≤1000001→Ev (fun k=>Q119.l4 k d.toList (a:Int) (b:Int) (p:Int) (i:Int)) (Zi2 (B9 a (Go.Sort.scanUp (fun x=>ltI x e[a]!) e (b - 1) i) (Go.Sort.scanDown (fun x=>!ltI x e[a]!) e (Go.Sort.scanUp (fun x=>ltI x e[a]!) e (b - 1) i) (b - 1)) e))
 | m,i,hm,h1,hi=>by
  have se:e.size=d.size:=by rw [he,Yr]
  have e2:w64 ((i:Int)+1)=((i+1:Nat):Int):=wn (by omega) (by omega)
  have e3:w64 ((b:Int) - 1)=((b - 1:Nat):Int):=wn (by omega) (by omega)
  rw [Go.Sort.scanUp]
  by_cases c:i≤b - 1
  ·by_cases q:ltI e[i]! e[a]! = true
   ·cases m with
    | zero=>omega
    | succ m=>
    rw [if_pos (by simp [c,q])]
    refine (Zj2 he hab hb hp hd m (i+1) (by omega) (by omega) (by omega)).step fun k hk=>?_
    rw [Q119.l4,e3,if_pos (decide_eq_true (by omega)),gta,gta,Int.toNat_natCast,Int.toNat_natCast,X5,← he,if_pos (by simp; omega),if_pos (by simp; omega),gta,gta,Xd,Option.bind_some,if_pos q,e2]
    exact hk
   ·rw [if_neg (by simp [q])]
    refine (Zbw he h1 (by omega) hp hd hi (b - 1) (by omega)).step fun k hk=>?_
    rw [Q119.l4,e3,if_pos (decide_eq_true (by omega)),gta,gta,Int.toNat_natCast,Int.toNat_natCast,X5,← he,if_pos (by simp; omega),if_pos (by simp; omega),gta,gta,Xd,Option.bind_some,if_neg q]
    exact hk
  ·rw [if_neg (by simp [c])]
   refine (Zbw he h1 (by omega) hp hd hi (b - 1) (by omega)).step fun k hk=>?_
   rw [Q119.l4,e3,if_neg (by simp only [decide_eq_true_eq]; omega)]
   exact hk
theorem Zmg {a b p:Nat} {d:Array Int} (hab:a<b) (hp:p<d.size) (hb:b≤d.size) (hd:d.size≤1000000):Ev (fun k=>Q119.f k d.toList (a:Int) (b:Int) (p:Int)) (Zi2 (Go.Sort.partition ltI d a b p)):=by
 have e:Go.Sort.partition ltI d a b p=B9 a (Go.Sort.scanUp (fun x=>ltI x (Go.Sort.swp d a p)[a]!) (Go.Sort.swp d a p) (b - 1) (a+1)) (Go.Sort.scanDown (fun x=>!ltI x (Go.Sort.swp d a p)[a]!) (Go.Sort.swp d a p) (Go.Sort.scanUp (fun x=>ltI x (Go.Sort.swp d a p)[a]!) (Go.Sort.swp d a p) (b - 1) (a+1)) (b - 1)) (Go.Sort.swp d a p):=rfl
 rw [e]
 refine (Zj2 (e:=Go.Sort.swp d a p) rfl hab hb hp hd _ (a+1) (Nat.le_refl _) (by omega) (by omega)).next fun k hk=>?_
 unfold Q119.f
 rw [if_pos (by simp; omega),if_pos (by simp; omega),wn (n:=a+1) (by omega) (by omega)]
 exact hk
theorem Zaa (n:Nat):IntKind.u64.wrap (n:Int)=((n % 18446744073709551616:Nat):Int):=by
 simp [IntKind.wrap,IntKind.bits,IntKind.signed]
theorem bvx {x y:Nat} (hx:x<18446744073709551616) (hy:y<18446744073709551616):((BitVec.ofInt IntKind.u64.bits (x:Int) ^^^ BitVec.ofInt IntKind.u64.bits (y:Int)).toNat)=x ^^^ y:=by
 show (BitVec.ofInt 64 (x:Int) ^^^ BitVec.ofInt 64 (y:Int)).toNat=x ^^^ y
 rw [BitVec.toNat_xor,BitVec.ofInt_natCast,BitVec.ofInt_natCast,BitVec.toNat_ofNat,BitVec.toNat_ofNat,Nat.mod_eq_of_lt hx,Nat.mod_eq_of_lt hy]
theorem Zge {x:Nat} (r s:UInt64) (hx:x=s.toNat):IntKind.u64.wrap (((BitVec.ofInt IntKind.u64.bits (r.toNat:Int) ^^^ BitVec.ofInt IntKind.u64.bits (x:Int)).toNat:Int))=((r ^^^ s).toNat:Int):=by
 have h1:r.toNat<18446744073709551616:=r.toNat_lt
 have h2:s.toNat<18446744073709551616:=s.toNat_lt
 have h3:(r ^^^ s).toNat<18446744073709551616:=(r ^^^ s).toNat_lt
 rw [hx,bvx h1 h2,Zaa,UInt64.toNat_xor] at *
 rw [Nat.mod_eq_of_lt h3]
theorem Zlo (r:UInt64) (n:Nat) (hn:n<64):IntKind.u64.wrap ((r.toNat:Int)*2 ^ n)=(((r <<< (UInt64.ofNat n)).toNat:Nat):Int):=by
 rw [show (r.toNat:Int)*2 ^ n=((r.toNat*2 ^ n:Nat):Int) by simp,Zaa,UInt64.toNat_shiftLeft,Nat.shiftLeft_eq]
 have:(UInt64.ofNat n).toNat % 64=n:=by simp; omega
 rw [this]
theorem Zm9 (r:UInt64) (n:Nat) (hn:n<64):Int.fdiv (r.toNat:Int) (2 ^ n)=(((r >>> (UInt64.ofNat n)).toNat:Nat):Int):=by
 rw [UInt64.toNat_shiftRight,Nat.shiftRight_eq_div_pow]
 have:(UInt64.ofNat n).toNat % 64=n:=by simp; omega
 rw [this,Int.fdiv_eq_ediv_of_nonneg _ (by exact_mod_cast Nat.zero_le _)]
 simp
theorem Zmf (r:UInt64):Q123.f (r.toNat:Int)=some (((Go.Sort.xorNext r).toNat:Int),((Go.Sort.xorNext r).toNat:Int)):=by
 have xe:Go.Sort.xorNext r=(fun r1:UInt64=>(fun r2:UInt64=>r2 ^^^ (r2 <<< 17)) (r1 ^^^ (r1 >>> 7))) (r ^^^ (r <<< 13)):=rfl
 unfold Q123.f
 rw [xe]
 dsimp only
 have e1:IntKind.u64.wrap ((r.toNat:Int)*2 ^ 13)=(((r <<< 13).toNat:Nat):Int):=Zlo r 13 (by decide)
 rw [e1,Zge r (r <<< 13) rfl]
 generalize r ^^^ (r <<< 13)=r1
 have e2:Int.fdiv (r1.toNat:Int) (2 ^ 7)=(((r1 >>> 7).toNat:Nat):Int):=Zm9 r1 7 (by decide)
 rw [e2,Zge r1 (r1 >>> 7) rfl]
 generalize r1 ^^^ (r1 >>> 7)=r2
 have e3:IntKind.u64.wrap ((r2.toNat:Int)*2 ^ 17)=(((r2 <<< 17).toNat:Nat):Int):=Zlo r2 17 (by decide)
 rw [e3,Zge r2 (r2 <<< 17) rfl]
theorem Zmr:∀ n:Fin 200,Q1.f ((n:Nat):Int)=some ((Go.Sort.bitsLen n:Nat):Int):=by decide +kernel
theorem Zlz:∀ n:Fin 200,Q115.f ((n:Nat):Int)=some ((1 <<< Go.Sort.bitsLen n:Nat):Int):=by decide +kernel
theorem Znh {r:UInt64} {M:Nat} (h1:1≤M) (h2:M≤1000):w64 (IntKind.u64.wrap (((BitVec.ofInt IntKind.u64.bits (r.toNat:Int) &&& (BitVec.ofInt IntKind.u64.bits (IntKind.u64.wrap ((M:Int) - 1)))).toNat:Int)))=((r.toNat &&& (M - 1):Nat):Int):=by
 have hr:r.toNat<18446744073709551616:=r.toNat_lt
 have e1:(M:Int) - 1=((M - 1:Nat):Int):=by omega
 have hle:r.toNat &&& (M - 1)≤M - 1:=Nat.and_le_right
 have e2:(BitVec.ofInt IntKind.u64.bits (r.toNat:Int) &&& BitVec.ofInt IntKind.u64.bits ((M - 1:Nat):Int)).toNat=r.toNat &&& (M - 1):=by
  show (BitVec.ofInt 64 (r.toNat:Int) &&& BitVec.ofInt 64 ((M - 1:Nat):Int)).toNat=r.toNat &&& (M - 1)
  rw [BitVec.toNat_and,BitVec.ofInt_natCast,BitVec.ofInt_natCast,BitVec.toNat_ofNat,BitVec.toNat_ofNat,Nat.mod_eq_of_lt hr,Nat.mod_eq_of_lt (by omega)]
 rw [e1,show IntKind.u64.wrap ((M - 1:Nat):Int)=((M - 1:Nat):Int) by rw [Zaa,Nat.mod_eq_of_lt (by omega)],e2,Zaa,Nat.mod_eq_of_lt (by omega),Z1 (by omega) (by omega)]
theorem Za1 {a b M i:Nat} {d:Array Int} {r:UInt64} {R:List Int} (h8:8≤b - a) (hb:b≤d.size) (hd:d.size<200) (ha:a≤i) (hi:i≤a+(b - a) / 4*2+1) (hM:M=1 <<< Go.Sort.bitsLen (b - a))
  (h:Ev (fun k=>Q109.l0 k (a:Int) (b:Int) (M:Int) (Go.Sort.breakStep a (b - a) M (r,d) i).2.toList ((Go.Sort.breakStep a (b - a) M (r,d) i).1.toNat:Int) ((i+1:Nat):Int)) R) :
  Ev (fun k=>Q109.l0 k (a:Int) (b:Int) (M:Int) d.toList (r.toNat:Int) (i:Int)) R:=by
 have e1:w64 ((b:Int) - (a:Int))=((b - a:Nat):Int):=wn (by omega) (by omega)
 have e2:w64 (Int.tdiv ((b - a:Nat):Int) 4)=(((b - a) / 4:Nat):Int):=by
  rw [show Int.tdiv ((b - a:Nat):Int) 4=(((b - a) / 4:Nat):Int) from rfl,Z1 (by omega) (by omega)]
 have e3:w64 ((((b - a) / 4:Nat):Int)*2)=(((b - a) / 4*2:Nat):Int):=wn (by omega) (by omega)
 have e4:w64 ((a:Int)+(((b - a) / 4*2:Nat):Int))=((a+(b - a) / 4*2:Nat):Int):=wn (by omega) (by omega)
 have e5:w64 (((a+(b - a) / 4*2:Nat):Int)+1)=((a+(b - a) / 4*2+1:Nat):Int):=wn (by omega) (by omega)
 have e6:w64 ((i:Int)+1)=((i+1:Nat):Int):=wn (by omega) (by omega)
 have hp:=Go.Sort.two_pow_bitsLen_le (n:=b - a) (by omega)
 have hq:1≤2 ^ Go.Sort.bitsLen (b - a):=Nat.two_pow_pos _
 rw [Nat.one_shiftLeft] at hM
 rw [← hM] at hp hq
 have eb:Go.Sort.breakStep a (b - a) M (r,d) i=(Go.Sort.xorNext r,Go.Sort.swp d i (a+if (Go.Sort.xorNext r).toNat &&& (M - 1)≥b - a then ((Go.Sort.xorNext r).toNat &&& (M - 1)) - (b - a) else (Go.Sort.xorNext r).toNat &&& (M - 1))):=rfl
 rw [eb] at h
 have hle:(Go.Sort.xorNext r).toNat &&& (M - 1)≤M - 1:=Nat.and_le_right
 have hand:=Znh (r:=Go.Sort.xorNext r) (M:=M) hq (by omega)
 refine h.step fun k hk=>?_
 rw [Q109.l0,e1,e2,e3,e4,e5,if_pos (decide_eq_true (by omega)),Zmf,Option.bind_some]
 dsimp only
 rw [hand]
 generalize (Go.Sort.xorNext r).toNat &&& (M - 1)=o at *
 by_cases c:o≥b - a
 ·have e7:w64 ((o:Int) - ((b - a:Nat):Int))=((o - (b - a):Nat):Int):=wn (by omega) (by omega)
  have e8:w64 ((a:Int)+((o - (b - a):Nat):Int))=((a+(o - (b - a)):Nat):Int):=wn (by omega) (by omega)
  rw [if_pos c] at hk
  rw [if_pos (decide_eq_true (by omega)),e7,e8,if_pos (by simp; omega),if_pos (by simp; omega),gta,gta,Int.toNat_natCast,Int.toNat_natCast,X5,e6]
  exact hk
 ·have e8:w64 ((a:Int)+(o:Int))=((a+o:Nat):Int):=wn (by omega) (by omega)
  rw [if_neg c] at hk
  rw [if_neg (by simp only [decide_eq_true_eq]; omega),e8,if_pos (by simp; omega),if_pos (by simp; omega),gta,gta,Int.toNat_natCast,Int.toNat_natCast,X5,e6]
  exact hk
theorem Zca (a L M i:Nat) (st:UInt64×Array Int):(Go.Sort.breakStep a L M st i).2.size=st.2.size:=by
 unfold Go.Sort.breakStep
 exact Yr _ _ _
theorem Zld {a b:Nat} {d:Array Int} (hab:a≤b) (hb:b≤d.size) (hd:d.size<200):Ev (fun k=>Q109.f k d.toList (a:Int) (b:Int)) (Go.Sort.breakPatterns d a b).toList:=by
 have e1:w64 ((b:Int) - (a:Int))=((b - a:Nat):Int):=wn (by omega) (by omega)
 by_cases h8:b - a≥8
 ·have e2:w64 (Int.tdiv ((b - a:Nat):Int) 4)=(((b - a) / 4:Nat):Int):=by
   rw [show Int.tdiv ((b - a:Nat):Int) 4=(((b - a) / 4:Nat):Int) from rfl,Z1 (by omega) (by omega)]
  have e3:w64 ((((b - a) / 4:Nat):Int)*2)=(((b - a) / 4*2:Nat):Int):=wn (by omega) (by omega)
  have e4:w64 ((a:Int)+(((b - a) / 4*2:Nat):Int))=((a+(b - a) / 4*2:Nat):Int):=wn (by omega) (by omega)
  have e5:w64 (((a+(b - a) / 4*2:Nat):Int) - 1)=((a+(b - a) / 4*2 - 1:Nat):Int):=wn (by omega) (by omega)
  have e6:w64 (((a+(b - a) / 4*2:Nat):Int)+1)=((a+(b - a) / 4*2+1:Nat):Int):=wn (by omega) (by omega)
  have hx:IntKind.u64.wrap ((b - a:Nat):Int)=((UInt64.ofNat (b - a)).toNat:Int):=by
   rw [Zaa]
   have:(UInt64.ofNat (b - a)).toNat=(b - a) % 18446744073709551616:=by simp
   rw [this]
  have fin:∀(d':Array Int) (x:Int),Ev (fun k=>Q109.l0 k (a:Int) (b:Int) ((1 <<< Go.Sort.bitsLen (b - a):Nat):Int) d'.toList x ((a+(b - a) / 4*2 - 1+1+1+1:Nat):Int)) d'.toList:=fun d' x=>Ev.last fun k=>by
   rw [Q109.l0,e1,e2,e3,e4,e6,if_neg (by simp only [decide_eq_true_eq]; omega)]
  have main:Ev (fun k=>Q109.l0 k (a:Int) (b:Int) ((1 <<< Go.Sort.bitsLen (b - a):Nat):Int) d.toList ((UInt64.ofNat (b - a)).toNat:Int) ((a+(b - a) / 4*2 - 1:Nat):Int)) (Go.Sort.breakPatterns d a b).toList:=by
   unfold Go.Sort.breakPatterns
   rw [if_pos h8]
   refine Za1 h8 hb hd (by omega) (by omega) rfl (Za1 h8 ?_ ?_ (by omega) (by omega) rfl (Za1 h8 ?_ ?_ (by omega) (by omega) rfl (fin _ _)))
   all_goals simp only [Zca]
   all_goals first | exact hb | exact hd
  refine main.next fun k hk=>?_
  unfold Q109.f
  rw [e1,if_pos (decide_eq_true (by omega)),Zlz ⟨b - a,by omega⟩,Option.bind_some,hx,e2,e3,e4,e5]
  exact hk
 ·refine Ev.all fun k=>?_
  unfold Q109.f Go.Sort.breakPatterns
  rw [e1,if_neg (by simp only [decide_eq_true_eq]; omega),if_neg h8]
def Zg6 (k:Nat) (a b lim m:Int) (ap:Bool) (d:List Int):Option (List Int):=if (decide ((w64 (m - a))<(w64 (b - m))))=true then ((Q120.f k d a m lim).bind fun r10=>(Q120.l0 k r10 (w64 (m+1)) b lim (decide ((w64 (Int.tdiv (w64 (b - a)) 8))≤(w64 (m - a)))) ap)) else ((Q120.f k d (w64 (m+1)) b lim).bind fun r11=>(Q120.l0 k r11 a m lim (decide ((w64 (Int.tdiv (w64 (b - a)) 8))≤(w64 (b - m)))) ap))
def ptP (k:Nat) (d:List Int) (a b p lim:Int):Option (List Int):=(Q119.f k d a b p).bind fun r=>Zg6 k a b lim r.1 r.2.1 r.2.2
def tlP (k:Nat) (d:List Int) (a b p lim:Int) (wb wp:Bool):Option (List Int):=if (decide (0<a))=true then (if 0≤(w64 (a - 1))∧(w64 (a - 1))<(d.length:Int) then (if 0≤p∧p<(d.length:Int) then ((Q35.f (gt d (w64 (a - 1))) (gt d p)).bind fun r7=>(if (!r7)=true then ((Q118.f k d a b p).bind fun r8=>(Q120.l0 k r8.2 r8.1 b lim wb wp)) else ptP k d a b p lim)) else none) else none) else ptP k d a b p lim
def inP (k:Nat) (d:List Int) (a b p lim:Int) (wb wp:Bool):Option (List Int):=(Q117.f k d a b).bind fun r6=>(if r6.1=true then (some r6.2) else tlP k r6.2 a b p lim wb wp)
def mdP (k:Nat) (d:List Int) (a b lim:Int) (wb wp:Bool):Option (List Int):=(Q110.f d a b).bind fun r4=>(if (decide (r4.2=2))=true then ((Q121.f k d a b).bind fun r5=>(if wb=true then (if wp=true then inP k r5 a b (w64 ((w64 (b - 1)) - (w64 (r4.1 - a)))) lim wb wp else tlP k r5 a b (w64 ((w64 (b - 1)) - (w64 (r4.1 - a)))) lim wb wp) else tlP k r5 a b (w64 ((w64 (b - 1)) - (w64 (r4.1 - a)))) lim wb wp))
 else (if wb=true then (if wp=true then (if (decide (r4.2=1))=true then inP k d a b r4.1 lim wb wp else tlP k d a b r4.1 lim wb wp) else tlP k d a b r4.1 lim wb wp) else tlP k d a b r4.1 lim wb wp))
theorem Zbo (k:Nat) (x1:List Int) (x2 x3 x4:Int) (x5 x6:Bool):Q120.l0 (k+1) x1 x2 x3 x4 x5 x6=if (decide ((w64 (x3 - x2))≤12))=true then ((Q112.f k x1 x2 x3).bind fun r1=>(some r1)) else (if (decide (x4=0))=true then ((Q111.f k x1 x2 x3).bind fun r2=>(some r2)) else (if (!x5)=true then ((Q109.f k x1 x2 x3).bind fun r3=>mdP k r3 x2 x3 (w64 (x4 - 1)) x5 x6) else mdP k x1 x2 x3 x4 x5 x6)):=by
 rw [Q120.l0]
 rfl
section
variable {a b p lim:Nat} {d:Array Int} {wb wp:Bool} {r:List Int}
theorem Zlf (h1:1≤a) (hab:a<b) (hp:p<d.size) (hb:b≤d.size) (hd:d.size<200) (hq:ltI d[a - 1]! d[p]! = false)
  (h:Ev (fun k=>Q120.l0 k (Go.Sort.partitionEqual ltI d a b p).2.toList ((Go.Sort.partitionEqual ltI d a b p).1:Int) (b:Int) (lim:Int) wb wp) r) :
  Ev (fun k=>tlP k d.toList (a:Int) (b:Int) (p:Int) (lim:Int) wb wp) r:=by
 refine (Zkd hab hp hb (by omega)).next2 h fun k h1' h2=>?_
 unfold tlP
 rw [if_pos (decide_eq_true (by omega)),wn (x:=(a:Int) - 1) (n:=a - 1) (by omega) (by omega),if_pos (by simp; omega),if_pos (by simp; omega),gta,gta,Xd,Option.bind_some,if_pos (by simp [hq]),h1',Option.bind_some]
 exact h2
theorem Zl7 (hab:a<b) (hp:p<d.size) (hb:b≤d.size) (hd:d.size<200) (hq:(decide (a>0) && !ltI d[a - 1]! d[p]!)=false)
  (h:Ev (fun k=>Zg6 k (a:Int) (b:Int) (lim:Int) ((Go.Sort.partition ltI d a b p).1:Int) (Go.Sort.partition ltI d a b p).2.1 (Go.Sort.partition ltI d a b p).2.2.toList) r) :
  Ev (fun k=>tlP k d.toList (a:Int) (b:Int) (p:Int) (lim:Int) wb wp) r:=by
 refine (Zmg hab hp hb (by omega)).next2 h fun k h1' h2=>?_
 have hk:ptP k d.toList (a:Int) (b:Int) (p:Int) (lim:Int)=some r:=by
  unfold ptP
  rw [h1',Option.bind_some]
  exact h2
 unfold tlP
 by_cases c:0<a
 ·have hq':ltI d[a - 1]! d[p]! = true:=by simpa [c] using hq
  rw [if_pos (decide_eq_true (by omega)),wn (x:=(a:Int) - 1) (n:=a - 1) (by omega) (by omega),if_pos (by simp; omega),if_pos (by simp; omega),gta,gta,Xd,Option.bind_some,if_neg (by simp [hq'])]
  exact hk
 ·rw [if_neg (by simp only [decide_eq_true_eq]; omega)]
  exact hk
theorem Zmb (hab:a<b) (hb:b≤d.size) (hd:d.size<200) (h1:(Go.Sort.partialInsertionSort ltI d a b).2=true→(Go.Sort.partialInsertionSort ltI d a b).1.toList=r)
  (h2:(Go.Sort.partialInsertionSort ltI d a b).2=false→Ev (fun k=>tlP k (Go.Sort.partialInsertionSort ltI d a b).1.toList (a:Int) (b:Int) (p:Int) (lim:Int) wb wp) r):Ev (fun k=>inP k d.toList (a:Int) (b:Int) (p:Int) (lim:Int) wb wp) r:=by
 have h0:=Zmw hab hb (by omega)
 cases c:(Go.Sort.partialInsertionSort ltI d a b).2 with
 | true=>
  refine h0.next fun k hk=>?_
  unfold inP
  rw [hk,Option.bind_some,Ul,c,if_pos rfl,h1 c]
 | false=>
  refine h0.next2 (h2 c) fun k hk hk2=>?_
  unfold inP
  rw [hk,Option.bind_some,Ul,c,if_neg (by simp)]
  exact hk2
end
def piP (k:Nat) (s:Go.Sort.Rd Int) (a b:Nat) (wb wp:Bool):Option (List Int):=if s.pi.2=true then some s.pi.1.toList else tlP k s.pi.1.toList (a:Int) (b:Int) (s.pivot:Int) (s.lim:Int) wb wp
theorem Zj3 {h:Go.Sort.Hint}:decide (Zds h=2)=decide (h=.decreasing):=by cases h <;> rfl
theorem Zmk {h:Go.Sort.Hint}:decide (Zds h=1)=decide (h=.increasing):=by cases h <;> rfl
section
variable {a b limit:Nat} {d:Array Int} {wb wp:Bool} {r:List Int}
theorem Zik {s:Go.Sort.Rd Int} {e:Array Int} (hab:a<b) (hb:b≤e.size) (hd:e.size<200) (he:s.pi=Go.Sort.partialInsertionSort ltI e a b) (h:Ev (fun k=>piP k s a b wb wp) r) :
  Ev (fun k=>inP k e.toList (a:Int) (b:Int) (s.pivot:Int) (s.lim:Int) wb wp) r:=by
 refine Zmb hab hb hd (fun c=>?_) fun c=>?_
 ·obtain ⟨k,h⟩:=h.ok
  unfold piP at h
  rw [he,c,if_pos rfl] at h
  exact Option.some.inj h
 ·refine h.next fun k hk=>?_
  unfold piP at hk
  rw [he,c,if_neg (by simp)] at hk
  exact hk
theorem G9 {s:Go.Sort.Rd Int} {e:Array Int} (he:s.pi=(e,false)) (h:Ev (fun k=>piP k s a b wb wp) r) :
  Ev (fun k=>tlP k e.toList (a:Int) (b:Int) (s.pivot:Int) (s.lim:Int) wb wp) r:=by
 refine h.next fun k hk=>?_
 unfold piP at hk
 rw [he,if_neg (by simp)] at hk
 exact hk
theorem Zl4 {s:Go.Sort.Rd Int} (h12:12<b - a) (hb:b≤s.d1.size) (hd:s.d1.size<200) (ec:s.c=Go.Sort.choosePivot ltI s.d1 a b) (hc:a≤s.c.1∧s.c.1<b)
  (e2:s.d2=if s.c.2=.decreasing then Go.Sort.reverseRange s.d1 a b else s.d1) (s2:s.d2.size=s.d1.size) (ep:s.pivot=if s.c.2=.decreasing then (b - 1) - (s.c.1 - a) else s.c.1) (eh:s.hint=if s.c.2=.decreasing then Go.Sort.Hint.increasing else s.c.2)
  (ei:s.pi=if wb && wp && s.hint=.increasing then Go.Sort.partialInsertionSort ltI s.d2 a b else (s.d2,false)) (h:Ev (fun k=>piP k s a b wb wp) r) :
  Ev (fun k=>mdP k s.d1.toList (a:Int) (b:Int) (s.lim:Int) wb wp) r:=by
 have hpv:=Zlr (d:=s.d1) (a:=a) (b:=b) (by omega) hb h12 (by omega)
 rw [← ec] at hpv
 by_cases c:s.c.2=.decreasing
 ·rw [if_pos c] at e2 ep eh
  have e3:w64 ((b:Int) - 1)=((b - 1:Nat):Int):=wn (by omega) (by omega)
  have e4:w64 ((s.c.1:Int) - (a:Int))=((s.c.1 - a:Nat):Int):=wn (by omega) (by omega)
  have e5:w64 (((b - 1:Nat):Int) - ((s.c.1 - a:Nat):Int))=(s.pivot:Int):=wn (by omega) (by omega)
  have hr:=Zm7 (a:=a) (b:=b) (d:=s.d1) (by omega) (by omega) hb (by omega)
  rw [← e2] at hr
  have fin:Ev (fun k=>if wb=true then (if wp=true then inP k s.d2.toList (a:Int) (b:Int) (s.pivot:Int) (s.lim:Int) wb wp else tlP k s.d2.toList (a:Int) (b:Int) (s.pivot:Int) (s.lim:Int) wb wp) else tlP k s.d2.toList (a:Int) (b:Int) (s.pivot:Int) (s.lim:Int) wb wp) r:=by
   cases wb with
   | false=>exact G9 (by simpa [eh] using ei) h
   | true=>
    cases wp with
    | false=>exact G9 (by simpa [eh] using ei) h
    | true=>exact Zik (by omega) (by omega) (by omega) (by simpa [eh] using ei) h
  refine hr.next2 fin fun k h1 h2=>?_
  unfold mdP
  rw [hpv,Option.bind_some]
  dsimp only
  rw [Zj3,if_pos (decide_eq_true c),h1,Option.bind_some,e3,e4,e5]
  exact h2
 ·rw [if_neg c] at e2 ep eh
  have fin:Ev (fun k=>if wb=true then (if wp=true then (if decide (s.c.2=.increasing)=true then inP k s.d2.toList (a:Int) (b:Int) (s.pivot:Int) (s.lim:Int) wb wp else tlP k s.d2.toList (a:Int) (b:Int) (s.pivot:Int) (s.lim:Int) wb wp) else tlP k s.d2.toList (a:Int) (b:Int) (s.pivot:Int) (s.lim:Int) wb wp) else tlP k s.d2.toList (a:Int) (b:Int) (s.pivot:Int) (s.lim:Int) wb wp) r:=by
   cases wb with
   | false=>exact G9 (by simpa [eh] using ei) h
   | true=>
    cases wp with
    | false=>exact G9 (by simpa [eh] using ei) h
    | true=>
     by_cases q:s.c.2=.increasing
     ·rw [decide_eq_true q]
      exact Zik (by omega) (by omega) (by omega) (by simpa [eh,q] using ei) h
     ·rw [decide_eq_false q]
      exact G9 (by simpa [eh,q] using ei) h
  refine fin.next fun k h2=>?_
  unfold mdP
  rw [hpv,Option.bind_some]
  dsimp only
  rw [Zj3,if_neg (by simpa using c),Zmk]
  rw [e2,ep] at h2
  exact h2
theorem Zhx (h12:12<b - a) (hb:b≤d.size) (hd:d.size<200) (hl:limit≠0) (hlim:limit≤100) (hB:Go.Sort.Below ltI a b d) (h:Ev (fun k=>piP k (Go.Sort.rd ltI d a b limit wb wp) a b wb wp) r) :
  Ev (fun k=>Q120.l0 k d.toList (a:Int) (b:Int) (limit:Int) wb wp) r:=by
 obtain ⟨f1,f2,f3,f4,f5,f6,f7,f8⟩:=Go.Sort.rd_facts (lt:=ltI) (wb:=wb) (wp:=wp) (limit:=limit) Go.Sort.swo_ltInt Go.Sort.partialInsertionSort_holds Go.Sort.reverseRange_holds (by omega) hb hB
 have hm:=Zl4 (s:=Go.Sort.rd ltI d a b limit wb wp) (wb:=wb) (wp:=wp) (r:=r) h12 (by rw [f1]; exact hb) (by rw [f1]; exact hd) rfl f3 rfl (by rw [f4,f1]) rfl rfl rfl h
 have e1:w64 ((b:Int) - (a:Int))=((b - a:Nat):Int):=wn (by omega) (by omega)
 cases wb with
 | true=>
  refine hm.step fun k hk=>?_
  rw [Zbo,e1,if_neg (by simp only [decide_eq_true_eq]; omega),if_neg (by simp only [decide_eq_true_eq]; omega),if_neg (by simp)]
  exact hk
 | false=>
  refine (Zld (a:=a) (b:=b) (d:=d) (by omega) hb hd).step2 hm fun k h1 hk=>?_
  rw [Zbo,e1,if_neg (by simp only [decide_eq_true_eq]; omega),if_neg (by simp only [decide_eq_true_eq]; omega),if_pos (by simp),h1,Option.bind_some,wn (x:=(limit:Int) - 1) (n:=limit - 1) (by omega) (by omega)]
  exact hk
end
theorem partition_size {d:Array Int} {a b p:Nat} (h1:a≤p) (h2:p<b) (hb:b≤d.size):(Go.Sort.partition ltI d a b p).2.2.size=d.size:=(Go.Sort.partition_holds ltI Go.Sort.swo_ltInt d a b p h1 h2 hb).2.2.1.1
theorem Zm2:∀(m:Nat) (d:Array Int) (a b limit:Nat) (wb wp:Bool),b - a≤m→a≤b→b≤d.size→d.size<200→limit≤100→Go.Sort.Below ltI a b d→
  Ev (fun k=>Q120.l0 k d.toList (a:Int) (b:Int) (limit:Int) wb wp) (Go.Sort.pdq ltI d a b limit wb wp).toList:=by
 intro m
 induction m using Nat.strongRecOn with
 | _ m ih=>
 intro d a b limit wb wp hm hab hb hd hlim hB
 have e1:w64 ((b:Int) - (a:Int))=((b - a:Nat):Int):=wn (by omega) (by omega)
 by_cases h12:b - a≤12
 ·rw [Go.Sort.pdq_small h12]
  refine (Zku (a:=a) (b:=b) (d:=d) hb (by omega) (by omega)).step fun k hk=>?_
  rw [Zbo,e1,if_pos (decide_eq_true (by omega)),hk,Option.bind_some]
 by_cases h0:limit=0
 ·rw [Go.Sort.pdq_heap h12 h0]
  refine (Zmd (a:=a) (b:=b) (d:=d) hab hb (by omega)).step fun k hk=>?_
  rw [Zbo,e1,if_neg (by simp only [decide_eq_true_eq]; omega),if_pos (decide_eq_true (by omega)),hk,Option.bind_some]
 refine Zhx (by omega) hb hd h0 hlim hB ?_
 obtain ⟨f1,f2,f3,f4,f5,f6,f7,f8⟩:=Go.Sort.rd_facts (lt:=ltI) (wb:=wb) (wp:=wp) (limit:=limit) Go.Sort.swo_ltInt Go.Sort.partialInsertionSort_holds Go.Sort.reverseRange_holds (by omega) hb hB
 have hlm:(Go.Sort.rd ltI d a b limit wb wp).lim≤limit:=Go.Sort.rd_lim_le
 cases hpi:(Go.Sort.rd ltI d a b limit wb wp).pi.2 with
 | true=>
  rw [Go.Sort.pdq_done h12 h0 hpi]
  exact Ev.all fun k=>by unfold piP; rw [if_pos hpi]
 | false=>
 have red:∀ {r:List Int},Ev (fun k=>tlP k (Go.Sort.rd ltI d a b limit wb wp).pi.1.toList (a:Int) (b:Int) ((Go.Sort.rd ltI d a b limit wb wp).pivot:Int) ((Go.Sort.rd ltI d a b limit wb wp).lim:Int) wb wp) r→Ev (fun k=>piP k (Go.Sort.rd ltI d a b limit wb wp) a b wb wp) r:=fun h=>h.next fun k hk=>by
  unfold piP
  rw [hpi,if_neg (by simp)]
  exact hk
 have hsz:b≤(Go.Sort.rd ltI d a b limit wb wp).pi.1.size:=by rw [f7]; exact hb
 cases hq:(decide (a>0) && !ltI (Go.Sort.rd ltI d a b limit wb wp).pi.1[a - 1]! (Go.Sort.rd ltI d a b limit wb wp).pi.1[(Go.Sort.rd ltI d a b limit wb wp).pivot]!) with
 | true=>
  have hq':=hq
  simp only [Bool.and_eq_true,decide_eq_true_eq,Bool.not_eq_true'] at hq'
  obtain ⟨g1,g2,g3,g4,g5⟩:=Go.Sort.round_eq (lt:=ltI) Go.Sort.swo_ltInt (Go.Sort.partitionEqual_holds ltI) hq'.1 f6.1 f6.2 hsz f8 hq'.2 (mid:=(Go.Sort.partitionEqual ltI (Go.Sort.rd ltI d a b limit wb wp).pi.1 a b (Go.Sort.rd ltI d a b limit wb wp).pivot).1) (d4:=(Go.Sort.partitionEqual ltI (Go.Sort.rd ltI d a b limit wb wp).pi.1 a b (Go.Sort.rd ltI d a b limit wb wp).pivot).2) rfl
  rw [Go.Sort.pdq_eq h12 h0 hpi hq ⟨g1,g2⟩]
  refine red (Zlf (by omega) (by omega) (by omega) hsz (by omega) hq'.2 ?_)
  exact ih (b - (Go.Sort.partitionEqual ltI (Go.Sort.rd ltI d a b limit wb wp).pi.1 a b (Go.Sort.rd ltI d a b limit wb wp).pivot).1) (by omega) _ _ _ _ _ _ (Nat.le_refl _) g2 (by rw [g3]; exact hsz) (by omega) (by omega) g4
 | false=>
  obtain ⟨g1,g2,g3,g4,g5,g6,g7⟩:=Go.Sort.round_part (lt:=ltI) Go.Sort.swo_ltInt (Go.Sort.partition_holds ltI) f6.1 f6.2 hsz f8 (mid:=(Go.Sort.partition ltI (Go.Sort.rd ltI d a b limit wb wp).pi.1 a b (Go.Sort.rd ltI d a b limit wb wp).pivot).1) (ap:=(Go.Sort.partition ltI (Go.Sort.rd ltI d a b limit wb wp).pi.1 a b (Go.Sort.rd ltI d a b limit wb wp).pivot).2.1) (d4:=(Go.Sort.partition ltI (Go.Sort.rd ltI d a b limit wb wp).pi.1 a b (Go.Sort.rd ltI d a b limit wb wp).pivot).2.2) rfl
  refine red (Zl7 (by omega) (by omega) hsz (by omega) hq ?_)
  have e2:∀ x:Nat,x=b - a→w64 (Int.tdiv (x:Int) 8)=(((b - a) / 8:Nat):Int):=fun x hx=>by
   rw [hx,show Int.tdiv ((b - a:Nat):Int) 8=(((b - a) / 8:Nat):Int) from rfl,Z1 (by omega) (by omega)]
  by_cases hlt:(Go.Sort.partition ltI (Go.Sort.rd ltI d a b limit wb wp).pi.1 a b (Go.Sort.rd ltI d a b limit wb wp).pivot).1 - a<b - (Go.Sort.partition ltI (Go.Sort.rd ltI d a b limit wb wp).pi.1 a b (Go.Sort.rd ltI d a b limit wb wp).pivot).1
  ·rw [Go.Sort.pdq_left h12 h0 hpi hq ⟨g1,g2⟩ hlt]
   generalize Go.Sort.partition ltI (Go.Sort.rd ltI d a b limit wb wp).pi.1 a b (Go.Sort.rd ltI d a b limit wb wp).pivot=pt at *
   have e3:w64 ((pt.1:Int) - (a:Int))=((pt.1 - a:Nat):Int):=wn (by omega) (by omega)
   have e4:w64 ((b:Int) - (pt.1:Int))=((b - pt.1:Nat):Int):=wn (by omega) (by omega)
   have e5:w64 ((pt.1:Int)+1)=((pt.1+1:Nat):Int):=wn (by omega) (by omega)
   have hs:=Go.Sort.pdq_sorts ltI Go.Sort.swo_ltInt pt.2.2 a pt.1 (Go.Sort.rd ltI d a b limit wb wp).lim true true g1 (by omega) g4
   have c1:=(ih (pt.1 - a) (by omega) pt.2.2 a pt.1 (Go.Sort.rd ltI d a b limit wb wp).lim true true (Nat.le_refl _) g1 (by omega) (by omega) (by omega) g4).step (F:=fun k=>Q120.f k pt.2.2.toList (a:Int) (pt.1:Int) ((Go.Sort.rd ltI d a b limit wb wp).lim:Int)) fun k hk=>by rw [Q120.f]; exact hk
   have c2:=ih (b - (pt.1+1)) (by omega) (Go.Sort.pdq ltI pt.2.2 a pt.1 (Go.Sort.rd ltI d a b limit wb wp).lim true true) (pt.1+1) b (Go.Sort.rd ltI d a b limit wb wp).lim (decide (pt.1 - a≥(b - a) / 8)) pt.2.1 (Nat.le_refl _) (by omega) (by rw [hs.1.1]; omega) (by rw [hs.1.1]; omega) (by omega) (g6 _ hs.1 hs.2).1
   refine c1.next2 c2 fun k k1 k2=>?_
   unfold Zg6
   rw [e3,e4,e5,e1,e2 _ rfl,if_pos (decide_eq_true (by omega)),k1,Option.bind_some,show decide ((((b - a) / 8:Nat):Int)≤((pt.1 - a:Nat):Int))=decide (pt.1 - a≥(b - a) / 8) by congr 1; exact propext (by omega)]
   exact k2
  ·rw [Go.Sort.pdq_right h12 h0 hpi hq ⟨g1,g2⟩ hlt]
   generalize Go.Sort.partition ltI (Go.Sort.rd ltI d a b limit wb wp).pi.1 a b (Go.Sort.rd ltI d a b limit wb wp).pivot=pt at *
   have e3:w64 ((pt.1:Int) - (a:Int))=((pt.1 - a:Nat):Int):=wn (by omega) (by omega)
   have e4:w64 ((b:Int) - (pt.1:Int))=((b - pt.1:Nat):Int):=wn (by omega) (by omega)
   have e5:w64 ((pt.1:Int)+1)=((pt.1+1:Nat):Int):=wn (by omega) (by omega)
   have hs:=Go.Sort.pdq_sorts ltI Go.Sort.swo_ltInt pt.2.2 (pt.1+1) b (Go.Sort.rd ltI d a b limit wb wp).lim true true (by omega) (by omega) g5
   have c1:=(ih (b - (pt.1+1)) (by omega) pt.2.2 (pt.1+1) b (Go.Sort.rd ltI d a b limit wb wp).lim true true (Nat.le_refl _) (by omega) (by omega) (by omega) (by omega) g5).step (F:=fun k=>Q120.f k pt.2.2.toList ((pt.1+1:Nat):Int) (b:Int) ((Go.Sort.rd ltI d a b limit wb wp).lim:Int)) fun k hk=>by rw [Q120.f]; exact hk
   have c2:=ih (pt.1 - a) (by omega) (Go.Sort.pdq ltI pt.2.2 (pt.1+1) b (Go.Sort.rd ltI d a b limit wb wp).lim true true) a pt.1 (Go.Sort.rd ltI d a b limit wb wp).lim (decide (b - pt.1≥(b - a) / 8)) pt.2.1 (Nat.le_refl _) (by omega) (by rw [hs.1.1]; omega) (by rw [hs.1.1]; omega) (by omega) (g7 _ hs.1 hs.2).1
   refine c1.next2 c2 fun k k1 k2=>?_
   unfold Zg6
   rw [e3,e4,e5,e1,e2 _ rfl,if_neg (by simp only [decide_eq_true_eq]; omega),k1,Option.bind_some,show decide ((((b - a) / 8:Nat):Int)≤((b - pt.1:Nat):Int))=decide (b - pt.1≥(b - a) / 8) by congr 1; exact propext (by omega)]
   exact k2
theorem Zlb {n:Nat} (h:n<200):Q0.f (IntKind.u64.wrap (n:Int))=some ((Go.Sort.bitsLen n:Nat):Int):=by
 unfold Q0.f
 rw [Zaa,Nat.mod_eq_of_lt (by omega),Zmr ⟨n,h⟩,Option.bind_some]
theorem Zjx {l:List Int} (h:l.length<200):Ev (fun k=>Q108.f k l) (l.mergeSort fun x y=>decide (x≤y)):=by
 have e:=Go.Sort.sortInt l
 have hb:Go.Sort.bitsLen l.length≤100:=(Go.Sort.bitsLen_le_iff _ _).2 (Nat.lt_of_lt_of_le h (by decide))
 have hp:=Zm2 l.length l.toArray 0 l.toArray.size (Go.Sort.bitsLen l.toArray.size) true true (by simp) (Nat.zero_le _) (Nat.le_refl _) (by simpa using h) (by simpa using hb) (Or.inl rfl)
 have e2:(Go.Sort.pdq ltI l.toArray 0 l.toArray.size (Go.Sort.bitsLen l.toArray.size) true true).toList=l.mergeSort fun x y=>decide (x≤y):=e
 rw [e2] at hp
 have hf:Ev (fun k=>Q120.f k l 0 (l.length:Int) ((Go.Sort.bitsLen l.length:Nat):Int)) (l.mergeSort fun x y=>decide (x≤y)):=hp.step fun k hk=>by
  rw [Q120.f]
  simpa using hk
 refine hf.next fun k hk=>?_
 unfold Q108.f
 rw [Zlb h,Option.bind_some,hk,Option.bind_some]
end Go.SK.T
