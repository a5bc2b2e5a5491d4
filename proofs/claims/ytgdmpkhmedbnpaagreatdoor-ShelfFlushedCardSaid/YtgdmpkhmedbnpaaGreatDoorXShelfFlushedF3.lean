/- sortlaw -/
import Derived.Test.YtgdmpkhmedbnpaaGreatDoorXShelfFlushedF2
import Derived.KernelRfl
import Derived.Sort.Walk13a
import Derived.Sort.AssemblyPlain
set_option linter.unusedVariables false
set_option linter.unusedSimpArgs false
namespace Go.SK.T
open Go Go.SK
abbrev ltI:=Go.Sort.ltInt
theorem Xc (x y:Int):Q35.f x y=some (ltI x y):=by
 unfold Q35.f Q36.f ltI Go.Sort.ltInt
 simp
theorem gta (d:Array Int) (i:Nat):gt d.toList (i:Int)=d[i]!:=by
 rw [Z8,List.getD_eq_getElem?_getD]
 by_cases h:i<d.size
 ·simp [h]
 ·simp [h]
theorem Wp (d:Array Int) (i j:Nat):(d.toList.set i d[j]!).set j d[i]! = (Go.Sort.swp d i j).toList:=by
 simp [Go.Sort.swp]
theorem Yo (d:Array Int) (i j:Nat):(Go.Sort.swp d i j).size=d.size:=by simp [Go.Sort.swp]
theorem wn {x:Int} {n:Nat} (h:x=n) (hn:n≤4611686018427387904):w64 x=(n:Int):=by rw [Zy (by omega) (by omega),h]
theorem Zeo {a b i:Nat} {r:TU}:∀(j:Nat) (d:Array Int),j<d.size→d.size≤1000000→i<1000000→Ev (fun k=>Q111.l0 k (a:Int) (b:Int) (Go.Sort.insInner ltI a j d).toList ((i+1:Nat):Int)) r→
  Ev (fun k=>Q111.l1 k (a:Int) (b:Int) (i:Int) d.toList (j:Int)) r
 | 0,d,hj,hd,hi,h=>h.step fun k hk=>by
  rw [Q111.l1,if_neg (by simp only [decide_eq_true_eq]; omega),wn (n:=i+1) (by omega) (by omega)]
  exact hk
 | j+1,d,hj,hd,hi,h=>by
  have e1:w64 (((j+1:Nat):Int) - 1)=(j:Int):=wn (by omega) (by omega)
  unfold Go.Sort.insInner at h
  by_cases c:a<j+1
  ·by_cases q:ltI d[j+1]! d[j]! = true
   ·rw [if_pos (by simp [c,q])] at h
    have:=Zeo j (Go.Sort.swp d (j+1) j) (by rw [Yo]; omega) (by rw [Yo]; omega) hi h
    refine this.step fun k hk=>?_
    rw [Q111.l1,if_pos (decide_eq_true (by omega)),if_pos (by simp; omega),e1,if_pos (by simp; omega),gta,gta,Xc,Option.bind_some,if_pos q,Int.toNat_natCast,Int.toNat_natCast,Wp]
    exact hk
   ·rw [if_neg (by simp [q])] at h
    refine h.step fun k hk=>?_
    rw [Q111.l1,if_pos (decide_eq_true (by omega)),if_pos (by simp; omega),e1,if_pos (by simp; omega),gta,gta,Xc,Option.bind_some,if_neg q,wn (n:=i+1) (by omega) (by omega)]
    exact hk
  ·rw [if_neg (by simp [c])] at h
   refine h.step fun k hk=>?_
   rw [Q111.l1,if_neg (by simp only [decide_eq_true_eq]; omega),wn (n:=i+1) (by omega) (by omega)]
   exact hk
theorem B4 (a:Nat):∀(j:Nat) (d:Array Int),(Go.Sort.insInner ltI a j d).size=d.size
 | 0,d=>rfl
 | j+1,d=>by
  unfold Go.Sort.insInner
  split
  ·rw [B4 a j,Yo]
  ·rfl
theorem Zeh {a b:Nat}:∀(m i:Nat) (d:Array Int),b - i=m→b≤d.size→d.size≤1000000→i≤1000000→Ev (fun k=>Q111.l0 k (a:Int) (b:Int) d.toList (i:Int)) (Go.Sort.insOuter ltI a b i d).toList
 | 0,i,d,hm,hb,hd,hi=>Ev.last fun k=>by
  rw [Q111.l0,if_neg (by simp only [decide_eq_true_eq]; omega)]
  unfold Go.Sort.insOuter
  rw [if_neg (by omega)]
 | m+1,i,d,hm,hb,hd,hi=>by
  have hs:=B4 a i d
  have ih:=Zeh (a:=a) (b:=b) m (i+1) (Go.Sort.insInner ltI a i d) (by omega) (by omega) (by omega) (by omega)
  unfold Go.Sort.insOuter
  rw [if_pos (by omega)]
  refine (Zeo (b:=b) i d (by omega) hd (by omega) ih).step fun k hk=>?_
  rw [Q111.l0,if_pos (decide_eq_true (by omega))]
  exact hk
theorem Znc {a b:Nat} {d:Array Int} (hb:b≤d.size) (ha:a≤999999) (hd:d.size≤1000000):Ev (fun k=>Q111.f k d.toList (a:Int) (b:Int)) (Go.Sort.insertionSort ltI d a b).toList:=by
 refine (Zeh (a:=a) (b:=b) (b - (a+1)) (a+1) d rfl hb hd (by omega)).next fun k hk=>?_
 unfold Q111.f
 rw [wn (n:=a+1) (by omega) (by omega)]
 exact hk
theorem Gg (hi first:Nat):∀(n root:Nat) (d:Array Int),hi - root≤n→(Go.Sort.siftDown ltI hi first root d).size=d.size
 | 0,root,d,h=>by
  rw [Go.Sort.siftDown,dif_pos (by omega)]
 | n+1,root,d,h=>by
  rw [Go.Sort.siftDown]
  split
  ·rfl
  ·split
   ·split
    ·rfl
    ·split
     ·rw [Gg hi first n _ _ (by omega),Yo]
     ·rfl
   ·split
    ·rfl
    ·rw [Gg hi first n _ _ (by omega),Yo]
theorem Zim {hi first:Nat}:∀(n root:Nat) (d:Array Int),hi - root≤n→first+hi≤d.size→d.size≤1000000→root≤1000000→Ev (fun k=>Q121.l0 k (hi:Int) (first:Int) d.toList (root:Int)) (Go.Sort.siftDown ltI hi first root d).toList
 | n,root,d,hn,hf,hd,hr=>by
  have e1:w64 (2*(root:Int))=((2*root:Nat):Int):=wn (by omega) (by omega)
  have e2:w64 (((2*root:Nat):Int)+1)=((2*root+1:Nat):Int):=wn (by omega) (by omega)
  have e3:w64 (((2*root+1:Nat):Int)+1)=((2*root+2:Nat):Int):=wn (by omega) (by omega)
  have e4:w64 ((first:Int)+((2*root+1:Nat):Int))=((first+(2*root+1):Nat):Int):=wn (by omega) (by omega)
  have e5:w64 (((first+(2*root+1):Nat):Int)+1)=((first+(2*root+1)+1:Nat):Int):=wn (by omega) (by omega)
  have e6:w64 ((first:Int)+(root:Int))=((first+root:Nat):Int):=wn (by omega) (by omega)
  have e7:w64 ((first:Int)+((2*root+2:Nat):Int))=((first+(2*root+2):Nat):Int):=wn (by omega) (by omega)
  have un:∀ k,Q121.l0 (k+1) (hi:Int) (first:Int) d.toList (root:Int)=_:=fun k=>Q121.l0.eq_2 (hi:Int) (first:Int) d.toList (root:Int) k
  simp only [e1,e2,e3,e4,e5,e6,e7,gta,Xc,Option.bind_some,Int.toNat_natCast,Wp] at un
  rw [Go.Sort.siftDown]
  by_cases h1:2*root+1≥hi
  ·rw [dif_pos h1]
   exact Ev.last fun k=>by rw [un,if_pos (decide_eq_true (by omega))]
  ·rw [dif_neg h1]
   cases n with
   | zero=>omega
   | succ n=>
   have go:∀(c:Nat),root<c→c<hi→Ev (fun k=>Q121.l0 k (hi:Int) (first:Int) (Go.Sort.swp d (first+root) (first+c)).toList (c:Int)) (Go.Sort.siftDown ltI hi first c (Go.Sort.swp d (first+root) (first+c))).toList:=fun c h2 h3=>
    Zim n c _ (by omega) (by rw [Yo]; exact hf) (by rw [Yo]; exact hd) (by omega)
   have b0:(0:Int)≤((first+root:Nat):Int)∧((first+root:Nat):Int)<(d.toList.length:Int):=by simp; omega
   have b1:(0:Int)≤((first+(2*root+1):Nat):Int)∧((first+(2*root+1):Nat):Int)<(d.toList.length:Int):=by simp; omega
   have left:Ev (fun k=>Q121.l0 k (hi:Int) (first:Int) d.toList (root:Int)) (if !ltI d[first+root]! d[first+(2*root+1)]! then d else Go.Sort.siftDown ltI hi first (2*root+1) (Go.Sort.swp d (first+root) (first+(2*root+1)))).toList→True:=fun _=>trivial
   by_cases h2:2*root+1+1<hi
   ·have b2:(0:Int)≤((first+(2*root+1)+1:Nat):Int)∧((first+(2*root+1)+1:Nat):Int)<(d.toList.length:Int):=by simp; omega
    have b3:(0:Int)≤((first+(2*root+2):Nat):Int)∧((first+(2*root+2):Nat):Int)<(d.toList.length:Int):=by simp; omega
    by_cases h3:ltI d[first+(2*root+1)]! d[first+(2*root+1)+1]! = true
    ·rw [if_pos (by simp [h2,h3])]
     by_cases h4:ltI d[first+root]! d[first+(2*root+2)]! = true
     ·rw [if_neg (by simp [h4]),dif_pos (by omega)]
      refine (go (2*root+2) (by omega) (by omega)).step fun k hk=>?_
      rw [un,if_neg (by simp only [decide_eq_true_eq]; omega),if_pos (decide_eq_true (by omega)),if_pos b1,if_pos b2,if_pos h3,if_pos b0,if_pos b3,if_neg (by simp [h4])]
      exact hk
     ·rw [if_pos (by simp [h4])]
      refine Ev.last fun k=>?_
      rw [un,if_neg (by simp only [decide_eq_true_eq]; omega),if_pos (decide_eq_true (by omega)),if_pos b1,if_pos b2,if_pos h3,if_pos b0,if_pos b3,if_pos (by simp [h4])]
    ·rw [if_neg (by simp [h3])]
     by_cases h4:ltI d[first+root]! d[first+(2*root+1)]! = true
     ·rw [if_neg (by simp [h4])]
      refine (go (2*root+1) (by omega) (by omega)).step fun k hk=>?_
      rw [un,if_neg (by simp only [decide_eq_true_eq]; omega),if_pos (decide_eq_true (by omega)),if_pos b1,if_pos b2,if_neg h3,if_pos b0,if_neg (by simp [h4])]
      exact hk
     ·rw [if_pos (by simp [h4])]
      refine Ev.last fun k=>?_
      rw [un,if_neg (by simp only [decide_eq_true_eq]; omega),if_pos (decide_eq_true (by omega)),if_pos b1,if_pos b2,if_neg h3,if_pos b0,if_pos (by simp [h4])]
   ·rw [if_neg (by simp [h2])]
    by_cases h4:ltI d[first+root]! d[first+(2*root+1)]! = true
    ·rw [if_neg (by simp [h4])]
     refine (go (2*root+1) (by omega) (by omega)).step fun k hk=>?_
     rw [un,if_neg (by simp only [decide_eq_true_eq]; omega),if_neg (by simp only [decide_eq_true_eq]; omega),if_pos b0,if_pos b1,if_neg (by simp [h4])]
     exact hk
    ·rw [if_pos (by simp [h4])]
     refine Ev.last fun k=>?_
     rw [un,if_neg (by simp only [decide_eq_true_eq]; omega),if_neg (by simp only [decide_eq_true_eq]; omega),if_pos b0,if_pos b1,if_pos (by simp [h4])]
theorem Zm0 {hi first root:Nat} {d:Array Int} (hf:first+hi≤d.size) (hd:d.size≤1000000) (hr:root≤1000000):Ev (fun k=>Q121.f k d.toList (root:Int) (hi:Int) (first:Int)) (Go.Sort.siftDown ltI hi first root d).toList:=Zim hi root d (by omega) hf hd hr
theorem Zhh {a:Nat}:∀(m:Nat) (d:Array Int),a+m≤d.size→d.size≤1000000→Ev (fun k=>Q110.l1 k (a:Int) d.toList ((m:Int) - 1)) (Go.Sort.heapPop ltI a m d).toList
 | 0,d,h,hd=>Ev.last fun k=>by
  rw [Q110.l1,if_neg (by simp)]
  rfl
 | m+1,d,h,hd=>by
  have e0:(((m+1:Nat):Int) - 1)=(m:Int):=by omega
  have e1:w64 ((a:Int)+(m:Int))=((a+m:Nat):Int):=wn (by omega) (by omega)
  have e2:w64 ((m:Int) - 1)=(m:Int) - 1:=Zy (by omega) (by omega)
  have s1:=Zm0 (hi:=m) (first:=a) (root:=0) (d:=Go.Sort.swp d a (a+m)) (by rw [Yo]; omega) (by rw [Yo]; exact hd) (by omega)
  have sz:=Gg m a m 0 (Go.Sort.swp d a (a+m)) (by omega)
  rw [Yo] at sz
  have ih:=Zhh (a:=a) m (Go.Sort.siftDown ltI m a 0 (Go.Sort.swp d a (a+m))) (by omega) (by omega)
  rw [e0]
  refine Ev.step2 s1 ih fun k h1 h2=>?_
  rw [Q110.l1,if_pos (decide_eq_true (by omega)),e1,if_pos (by simp; omega),if_pos (by simp; omega),gta,gta,Int.toNat_natCast,Int.toNat_natCast,Wp,show Q121.f k (Go.Sort.swp d a (a+m)).toList 0 (m:Int) (a:Int)=_ from h1,Option.bind_some,e2]
  exact h2
theorem Zcr {a b:Nat} (hab:a≤b):∀(m:Nat) (d:Array Int),b≤d.size→d.size≤1000000→m≤1000000→Ev (fun k=>Q110.l0 k (a:Int) (b:Int) d.toList ((m:Int) - 1)) (Go.Sort.heapPop ltI a (b - a) (Go.Sort.heapBuild ltI (b - a) a m d)).toList
 | 0,d,h,hd,hm=>by
  have e1:w64 ((b:Int) - (a:Int))=((b - a:Nat):Int):=wn (by omega) (by omega)
  have e2:w64 (((b - a:Nat):Int) - 1)=((b - a:Nat):Int) - 1:=Zy (by omega) (by omega)
  refine (Zhh (a:=a) (b - a) d (by omega) hd).step fun k hk=>?_
  rw [Q110.l0,if_neg (by simp),e1,e2]
  exact hk
 | m+1,d,h,hd,hm=>by
  have e0:(((m+1:Nat):Int) - 1)=(m:Int):=by omega
  have e1:w64 ((b:Int) - (a:Int))=((b - a:Nat):Int):=wn (by omega) (by omega)
  have e2:w64 ((m:Int) - 1)=(m:Int) - 1:=Zy (by omega) (by omega)
  have s1:=Zm0 (hi:=b - a) (first:=a) (root:=m) (d:=d) (by omega) hd (by omega)
  have sz:=Gg (b - a) a (b - a) m d (by omega)
  have ih:=Zcr hab m (Go.Sort.siftDown ltI (b - a) a m d) (by omega) (by omega) (by omega)
  rw [e0]
  refine Ev.step2 s1 ih fun k h1 h2=>?_
  rw [Q110.l0,if_pos (decide_eq_true (by omega)),e1,h1,Option.bind_some,e2]
  exact h2
theorem Zpp {a b:Nat} {d:Array Int} (hab:a≤b) (hb:b≤d.size) (hd:d.size≤1000000):Ev (fun k=>Q110.f k d.toList (a:Int) (b:Int)) (Go.Sort.heapSort ltI d a b).toList:=by
 refine (Zcr hab ((b - a - 1) / 2+1) d hb hd (by omega)).next fun k hk=>?_
 have e1:w64 ((b:Int) - (a:Int))=((b - a:Nat):Int):=wn (by omega) (by omega)
 have e2:w64 (((b - a:Nat):Int) - 1)=((b - a:Nat):Int) - 1:=Zy (by omega) (by omega)
 have e3:Int.tdiv (((b - a:Nat):Int) - 1) 2=(((b - a - 1) / 2:Nat):Int):=by
  by_cases z:b - a=0
  ·rw [z]; rfl
  ·rw [show ((b - a:Nat):Int) - 1=((b - a - 1:Nat):Int) by omega]
   rfl
 unfold Q110.f
 rw [e1,e2,e3,Zy (by omega) (by omega)]
 rw [show ((((b - a - 1) / 2+1:Nat):Int) - 1)=(((b - a - 1) / 2:Nat):Int) by omega] at hk
 exact hk
theorem Zkc:∀(m i j:Nat) (d:Array Int),j - i≤m→i≤1000000→j<d.size→d.size≤1000000→Ev (fun k=>Q120.l0 k d.toList (i:Int) (j:Int)) (Go.Sort.reverseLoop i j d).toList
 | m,i,j,d,hm,hi,hj,hd=>by
  rw [Go.Sort.reverseLoop]
  by_cases c:i<j
  ·cases m with
   | zero=>omega
   | succ m=>
   rw [if_pos c]
   refine (Zkc m (i+1) (j - 1) (Go.Sort.swp d i j) (by omega) (by omega) (by rw [Yo]; omega) (by rw [Yo]; exact hd)).step fun k hk=>?_
   rw [Q120.l0,if_pos (decide_eq_true (by omega)),if_pos (by simp; omega),if_pos (by simp; omega),gta,gta,Int.toNat_natCast,Int.toNat_natCast,Wp,wn (n:=i+1) (by omega) (by omega),wn (x:=(j:Int) - 1) (n:=j - 1) (by omega) (by omega)]
   exact hk
  ·rw [if_neg c]
   exact Ev.last fun k=>by rw [Q120.l0,if_neg (by simp only [decide_eq_true_eq]; omega)]
theorem Zqb {a b:Nat} {d:Array Int} (ha:a≤1000000) (h1:1≤b) (hb:b≤d.size) (hd:d.size≤1000000):Ev (fun k=>Q120.f k d.toList (a:Int) (b:Int)) (Go.Sort.reverseRange d a b).toList:=by
 refine (Zkc (b - 1 - a) a (b - 1) d (T6 _) ha (by omega) hd).next fun k hk=>?_
 unfold Q120.f
 rw [wn (x:=(b:Int) - 1) (n:=b - 1) (by omega) (by omega)]
 exact hk
theorem Zdb {d:Array Int} {a b s:Nat} (ha:a<d.size) (hb:b<d.size) (hs:s≤1000):Q115.f d.toList (a:Int) (b:Int) (s:Int)=some (((Go.Sort.order2 ltI d a b s).1:Int),((Go.Sort.order2 ltI d a b s).2.1:Int),((Go.Sort.order2 ltI d a b s).2.2:Int)):=by
 unfold Q115.f Go.Sort.order2
 rw [if_pos (by simp; omega),if_pos (by simp; omega),gta,gta,Xc,Option.bind_some,wn (n:=s+1) (by omega) (by omega)]
 split <;> rfl
theorem U6 {P:Nat→Prop} {d:Array Int} {a b s:Nat} (ha:P a) (hb:P b):P (Go.Sort.order2 ltI d a b s).1∧P (Go.Sort.order2 ltI d a b s).2.1∧(Go.Sort.order2 ltI d a b s).2.2≤s+1:=by
 unfold Go.Sort.order2
 split
 ·exact ⟨hb,ha,T6 _⟩
 ·exact ⟨ha,hb,Nat.le_succ _⟩
theorem Zkj {P:Nat→Prop} {d:Array Int} {a b c s:Nat} (ha:P a) (hb:P b) (hc:P c):P (Go.Sort.median ltI d a b c s).1∧(Go.Sort.median ltI d a b c s).2≤s+3:=by
 obtain ⟨a1,a2,a3⟩:=U6 (d:=d) (s:=s) ha hb
 obtain ⟨b1,b2,b3⟩:=U6 (d:=d) (s:=(Go.Sort.order2 ltI d a b s).2.2) a2 hc
 obtain ⟨c1,c2,c3⟩:=U6 (d:=d) (s:=(Go.Sort.order2 ltI d (Go.Sort.order2 ltI d a b s).2.1 c (Go.Sort.order2 ltI d a b s).2.2).2.2) a1 b1
 unfold Go.Sort.median
 exact ⟨c2,by dsimp only; omega⟩
theorem Zdz {d:Array Int} {a b c s:Nat} (ha:a<d.size) (hb:b<d.size) (hc:c<d.size) (hs:s≤900):Q113.f d.toList (a:Int) (b:Int) (c:Int) (s:Int)=some (((Go.Sort.median ltI d a b c s).1:Int),((Go.Sort.median ltI d a b c s).2:Int)):=by
 obtain ⟨a1,a2,a3⟩:=U6 (P:=fun x=>x<d.size) (d:=d) (s:=s) ha hb
 obtain ⟨b1,b2,b3⟩:=U6 (P:=fun x=>x<d.size) (d:=d) (s:=(Go.Sort.order2 ltI d a b s).2.2) a2 hc
 unfold Q113.f Go.Sort.median
 rw [Zdb ha hb (by omega),Option.bind_some]
 dsimp only
 rw [Zdb a2 hc (by omega),Option.bind_some]
 dsimp only
 rw [Zdb a1 b1 (by omega),Option.bind_some]
theorem Zdw {d:Array Int} {a s:Nat} (h1:1≤a) (ha:a+1<d.size) (hd:d.size≤1000000) (hs:s≤900):Q112.f d.toList (a:Int) (s:Int)=some (((Go.Sort.medianAdjacent ltI d a s).1:Int),((Go.Sort.medianAdjacent ltI d a s).2:Int)):=by
 unfold Q112.f Go.Sort.medianAdjacent
 rw [wn (x:=(a:Int) - 1) (n:=a - 1) (by omega) (by omega),wn (n:=a+1) (by omega) (by omega),Zdz (by omega) (by omega) (by omega) hs]
 rfl
theorem Zaa {d:Array Int} {a s:Nat} (ha:a+1<d.size):(Go.Sort.medianAdjacent ltI d a s).1<d.size∧(Go.Sort.medianAdjacent ltI d a s).2≤s+3:=by
 unfold Go.Sort.medianAdjacent
 exact Zkj (P:=fun x=>x<d.size) (by omega) (by omega) (by omega)
def Zc5:Go.Sort.Hint→Int
 | .unknown=>0
 | .increasing=>1
 | .decreasing=>2
theorem Zh9 (x:Int) (n:Nat):(if (decide ((n:Int)=0))=true then (some (x,(1:Int))) else (if (decide ((n:Int)=12))=true then (some (x,2)) else (some (x,0))))=some (x,Zc5 (if n=0 then Go.Sort.Hint.increasing else if n=12 then .decreasing else .unknown)):=by
 by_cases h1:n=0
 ·subst h1; rfl
 ·rw [if_neg (by simp only [decide_eq_true_eq]; omega),if_neg h1]
  by_cases h2:n=12
  ·subst h2; rfl
  ·rw [if_neg (by simp only [decide_eq_true_eq]; omega),if_neg h2]
   rfl
theorem Zo4 {d:Array Int} {a b:Nat} (hab:a≤b) (hb:b≤d.size) (h12:12<b - a) (hd:d.size≤1000000):Q109.f d.toList (a:Int) (b:Int)=some (((Go.Sort.choosePivot ltI d a b).1:Int),Zc5 (Go.Sort.choosePivot ltI d a b).2):=by
 have e1:w64 ((b:Int) - (a:Int))=((b - a:Nat):Int):=wn (by omega) (by omega)
 have e2:w64 (Int.tdiv ((b - a:Nat):Int) 4)=(((b - a) / 4:Nat):Int):=by
  rw [show Int.tdiv ((b - a:Nat):Int) 4=(((b - a) / 4:Nat):Int) from rfl,Zy (by omega) (by omega)]
 obtain ⟨q,hq⟩:∃ q,q=(b - a) / 4:=⟨_,rfl⟩
 rw [← hq] at e2
 have e3:w64 ((q:Int)*1)=((q*1:Nat):Int):=wn (by omega) (by omega)
 have e4:w64 ((q:Int)*2)=((q*2:Nat):Int):=wn (by omega) (by omega)
 have e5:w64 ((q:Int)*3)=((q*3:Nat):Int):=wn (by omega) (by omega)
 have e6:w64 ((a:Int)+((q*1:Nat):Int))=((a+q*1:Nat):Int):=wn (by omega) (by omega)
 have e7:w64 ((a:Int)+((q*2:Nat):Int))=((a+q*2:Nat):Int):=wn (by omega) (by omega)
 have e8:w64 ((a:Int)+((q*3:Nat):Int))=((a+q*3:Nat):Int):=wn (by omega) (by omega)
 unfold Q109.f Go.Sort.choosePivot
 simp only [e1,e2,e3,e4,e5,e6,e7,e8,← hq]
 rw [if_pos (decide_eq_true (by omega)),if_pos (show b - a≥8 by omega)]
 by_cases c:b - a≥50
 ·obtain ⟨i1,i2⟩:=Zaa (d:=d) (a:=a+q*1) (s:=0) (by omega)
  obtain ⟨j1,j2⟩:=Zaa (d:=d) (a:=a+q*2) (s:=(Go.Sort.medianAdjacent ltI d (a+q*1) 0).2) (by omega)
  obtain ⟨k1,k2⟩:=Zaa (d:=d) (a:=a+q*3) (s:=(Go.Sort.medianAdjacent ltI d (a+q*2) (Go.Sort.medianAdjacent ltI d (a+q*1) 0).2).2) (by omega)
  rw [if_pos (decide_eq_true (by omega)),if_pos c,show Q112.f d.toList ((a+q*1:Nat):Int) 0=_ from Zdw (s:=0) (by omega) (by omega) hd (by omega),Option.bind_some]
  dsimp only
  rw [Zdw (by omega) (by omega) hd (by omega),Option.bind_some]
  dsimp only
  rw [Zdw (by omega) (by omega) hd (by omega),Option.bind_some]
  dsimp only
  rw [Zdz i1 j1 k1 (by omega),Option.bind_some]
  exact Zh9 _ _
 ·rw [if_neg (by simp only [decide_eq_true_eq]; omega),if_neg c,show Q113.f d.toList ((a+q*1:Nat):Int) ((a+q*2:Nat):Int) ((a+q*3:Nat):Int) 0=_ from Zdz (s:=0) (by omega) (by omega) (by omega) (by omega),Option.bind_some]
  exact Zh9 _ _
theorem Zid {R:Type} {b:Nat} {r:R} {F:Nat→List Int→Int→Option R} {G:Nat→List Int→Option R}
  (hF:∀ k x j,F (k+1) x j=if (decide (j<(b:Int)))=true then (if 0≤j∧j<(x.length:Int) then (if 0≤(w64 (j - 1))∧(w64 (j - 1))<(x.length:Int) then ((Q35.f (gt x j) (gt x (w64 (j - 1)))).bind fun r3=>(if (!r3)=true then (G k x) else (F k ((x.set j.toNat (gt x (w64 (j - 1)))).set (w64 (j - 1)).toNat (gt x j)) (w64 (j+1))))) else none) else none) else (G k x)) :
  ∀(m j:Nat) (d:Array Int),b - j≤m→1≤j→b≤d.size→d.size≤1000000→Ev (fun k=>G k (Go.Sort.shiftUp ltI b j d).toList) r→Ev (fun k=>F k d.toList (j:Int)) r
 | m,j,d,hm,h1,hb,hd,h=>by
  rw [Go.Sort.shiftUp] at h
  by_cases c:j<b
  ·cases m with
   | zero=>omega
   | succ m=>
   have e1:w64 ((j:Int) - 1)=((j - 1:Nat):Int):=wn (by omega) (by omega)
   have e2:w64 ((j:Int)+1)=((j+1:Nat):Int):=wn (by omega) (by omega)
   rw [if_pos c] at h
   by_cases q:ltI d[j]! d[j - 1]! = true
   ·rw [if_neg (by simp [q])] at h
    refine (Zid hF m (j+1) (Go.Sort.swp d j (j - 1)) (by omega) (by omega) (by rw [Yo]; exact hb) (by rw [Yo]; exact hd) h).step fun k hk=>?_
    rw [hF,if_pos (decide_eq_true (by omega)),e1,if_pos (by simp; omega),if_pos (by simp; omega),gta,gta,Xc,Option.bind_some,if_neg (by simp [q]),Int.toNat_natCast,Int.toNat_natCast,Wp,e2]
    exact hk
   ·rw [if_pos (by simp [q])] at h
    refine h.step fun k hk=>?_
    rw [hF,if_pos (decide_eq_true (by omega)),e1,if_pos (by simp; omega),if_pos (by simp; omega),gta,gta,Xc,Option.bind_some,if_pos (by simp [q])]
    exact hk
  ·rw [if_neg c] at h
   refine h.step fun k hk=>?_
   rw [hF,if_neg (by simp only [decide_eq_true_eq]; omega)]
   exact hk
theorem Zas (b:Nat):∀(m j:Nat) (d:Array Int),b - j≤m→(Go.Sort.shiftUp ltI b j d).size=d.size
 | m,j,d,hm=>by
  rw [Go.Sort.shiftUp]
  by_cases c:j<b
  ·cases m with
   | zero=>omega
   | succ m=>
   rw [if_pos c]
   split
   ·rfl
   ·rw [Zas b m _ _ (by omega),Yo]
  ·rw [if_neg c]
theorem Gy:∀(j:Nat) (d:Array Int),(Go.Sort.shiftDown ltI j d).size=d.size
 | 0,d=>rfl
 | j+1,d=>by
  unfold Go.Sort.shiftDown
  split
  ·rfl
  ·rw [Gy j,Yo]
theorem Zer {R:Type} {r:R} {F:Nat→List Int→Int→Option R} {G1 G2:Nat→List Int→Option R}
  (hF:∀ k x j,F (k+1) x j=if (decide (1≤j))=true then (if 0≤j∧j<(x.length:Int) then (if 0≤(w64 (j - 1))∧(w64 (j - 1))<(x.length:Int) then ((Q35.f (gt x j) (gt x (w64 (j - 1)))).bind fun r3=>(if (!r3)=true then (G1 k x) else (F k ((x.set j.toNat (gt x (w64 (j - 1)))).set (w64 (j - 1)).toNat (gt x j)) (w64 (j - 1))))) else none) else none) else (G2 k x)) :
  ∀(j:Nat) (d:Array Int),j<d.size→d.size≤1000000→Ev (fun k=>G1 k (Go.Sort.shiftDown ltI j d).toList) r→Ev (fun k=>G2 k (Go.Sort.shiftDown ltI j d).toList) r→Ev (fun k=>F k d.toList (j:Int)) r
 | 0,d,hj,hd,h1,h2=>h2.step fun k hk=>by
  rw [hF,if_neg (by simp)]
  exact hk
 | j+1,d,hj,hd,h1,h2=>by
  have e1:w64 (((j+1:Nat):Int) - 1)=(j:Int):=wn (by omega) (by omega)
  unfold Go.Sort.shiftDown at h1 h2
  by_cases q:ltI d[j+1]! d[j]! = true
  ·rw [if_neg (by simp [q])] at h1 h2
   refine (Zer hF j (Go.Sort.swp d (j+1) j) (by rw [Yo]; omega) (by rw [Yo]; exact hd) h1 h2).step fun k hk=>?_
   rw [hF,if_pos (decide_eq_true (by omega)),e1,if_pos (by simp; omega),if_pos (by simp; omega),gta,gta,Xc,Option.bind_some,if_neg (by simp [q]),Int.toNat_natCast,Int.toNat_natCast,Wp]
   exact hk
  ·rw [if_pos (by simp [q])] at h1
   refine h1.step fun k hk=>?_
   rw [hF,if_pos (decide_eq_true (by omega)),e1,if_pos (by simp; omega),if_pos (by simp; omega),gta,gta,Xc,Option.bind_some,if_pos (by simp [q])]
   exact hk
def Zbc (a b s i:Nat) (d:Array Int):Array Int×Bool:=
 if i=b then (d,true) else if b - a<50 then (d,false) else
  Go.Sort.partialIns ltI a b s i (let d1:=Go.Sort.swp d i (i - 1); let d2:=if i - a≥2 then Go.Sort.shiftDown ltI (i - 1) d1 else d1; if b - i≥2 then Go.Sort.shiftUp ltI b (i+1) d2 else d2)
theorem Zcx (a b s i:Nat) (d:Array Int):Go.Sort.partialIns ltI a b (s+1) i d=Zbc a b s (Go.Sort.scanSorted ltI d b i) d:=rfl
def Jm (p:Array Int×Bool):Bool×List Int:=(p.2,p.1.toList)
theorem Zkf {a b s i:Nat} {d:Array Int} (hs:s<5) (ha:a<i) (hi:i<b) (hb:b≤d.size) (hd:d.size≤1000000) (hq:ltI d[i]! d[i - 1]! = true)
  (ih:∀ d':Array Int,d'.size=d.size→Ev (fun k=>Q116.l0 k (a:Int) (b:Int) d'.toList (i:Int) ((5 - s:Nat):Int)) (Jm (Go.Sort.partialIns ltI a b s i d'))) :
  Ev (fun k=>Q116.l3 k (a:Int) (b:Int) d.toList ((4 - s:Nat):Int) (i:Int)) (Jm (Zbc a b s i d)):=by
 have e1:w64 ((i:Int) - 1)=((i - 1:Nat):Int):=wn (by omega) (by omega)
 have e2:w64 ((b:Int) - (a:Int))=((b - a:Nat):Int):=wn (by omega) (by omega)
 have e3:w64 ((i:Int) - (a:Int))=((i - a:Nat):Int):=wn (by omega) (by omega)
 have e4:w64 ((b:Int) - (i:Int))=((b - i:Nat):Int):=wn (by omega) (by omega)
 have e5:w64 ((i:Int)+1)=((i+1:Nat):Int):=wn (by omega) (by omega)
 have e6:w64 (((4 - s:Nat):Int)+1)=((5 - s:Nat):Int):=wn (by omega) (by omega)
 have un:∀ k,Q116.l3 (k+1) (a:Int) (b:Int) d.toList ((4 - s:Nat):Int) (i:Int)=(if (decide (((b - a:Nat):Int)<50))=true then (some (false,d.toList)) else (if (decide (2≤((i - a:Nat):Int)))=true then (Q116.l2 k (a:Int) (b:Int) ((4 - s:Nat):Int) (i:Int) (Go.Sort.swp d i (i - 1)).toList ((i - 1:Nat):Int)) else (if (decide (2≤((b - i:Nat):Int)))=true then (Q116.l1 k (a:Int) (b:Int) ((4 - s:Nat):Int) (i:Int) (Go.Sort.swp d i (i - 1)).toList ((i+1:Nat):Int)) else (Q116.l0 k (a:Int) (b:Int) (Go.Sort.swp d i (i - 1)).toList (i:Int) ((5 - s:Nat):Int))))):=fun k=>by
  rw [Q116.l3,if_pos (decide_eq_true (by omega)),e1,if_pos (by simp; omega),if_pos (by simp; omega),gta,gta,Xc,Option.bind_some,if_neg (by simp [hq]),if_neg (by simp only [decide_eq_true_eq]; omega),if_pos (show 0≤((i - 1:Nat):Int)∧((i - 1:Nat):Int)<(d.toList.length:Int) by simp; omega),if_pos (show 0≤(i:Int)∧(i:Int)<(d.toList.length:Int) by simp; omega),e2,e3,e4,e5,e6,Int.toNat_natCast,Int.toNat_natCast,Wp]
 unfold Zbc
 rw [if_neg (by omega)]
 by_cases c1:b - a<50
 ·rw [if_pos c1]
  exact Ev.last fun k=>by rw [un,if_pos (decide_eq_true (by omega))]; rfl
 ·rw [if_neg c1]
  have sz:=Yo d i (i - 1)
  have fin:∀(d2:Array Int),d2.size=d.size→∀(F:Nat→List Int→Int→Option TM),(∀ k x j,F (k+1) x j=if (decide (j<(b:Int)))=true then (if 0≤j∧j<(x.length:Int) then (if 0≤(w64 (j - 1))∧(w64 (j - 1))<(x.length:Int) then ((Q35.f (gt x j) (gt x (w64 (j - 1)))).bind fun r3=>(if (!r3)=true then (Q116.l0 k (a:Int) (b:Int) x (i:Int) ((5 - s:Nat):Int)) else (F k ((x.set j.toNat (gt x (w64 (j - 1)))).set (w64 (j - 1)).toNat (gt x j)) (w64 (j+1))))) else none) else none) else (Q116.l0 k (a:Int) (b:Int) x (i:Int) ((5 - s:Nat):Int)))→
    Ev (fun k=>F k d2.toList ((i+1:Nat):Int)) (Jm (Go.Sort.partialIns ltI a b s i (Go.Sort.shiftUp ltI b (i+1) d2))):=fun d2 h2 F hF=>
   Zid (G:=fun k x=>Q116.l0 k (a:Int) (b:Int) x (i:Int) ((5 - s:Nat):Int)) hF b (i+1) d2 (by omega) (by omega) (by omega) (by omega) (ih _ (by rw [Zas b b _ _ (by omega),h2]))
  by_cases c2:i - a≥2
  ·have sz2:(Go.Sort.shiftDown ltI (i - 1) (Go.Sort.swp d i (i - 1))).size=d.size:=by rw [Gy,sz]
   have dn:=Zer (r:=Jm (Go.Sort.partialIns ltI a b s i (if b - i≥2 then Go.Sort.shiftUp ltI b (i+1) (Go.Sort.shiftDown ltI (i - 1) (Go.Sort.swp d i (i - 1))) else Go.Sort.shiftDown ltI (i - 1) (Go.Sort.swp d i (i - 1)))))
    (F:=fun k x j=>Q116.l2 k (a:Int) (b:Int) ((4 - s:Nat):Int) (i:Int) x j)
    (G1:=fun k x=>if (decide (2≤((b - i:Nat):Int)))=true then (Q116.l1 k (a:Int) (b:Int) ((4 - s:Nat):Int) (i:Int) x ((i+1:Nat):Int)) else (Q116.l0 k (a:Int) (b:Int) x (i:Int) ((5 - s:Nat):Int)))
    (G2:=fun k x=>if (decide (2≤((b - i:Nat):Int)))=true then (Q116.l1 k (a:Int) (b:Int) ((4 - s:Nat):Int) (i:Int) x ((i+1:Nat):Int)) else (Q116.l0 k (a:Int) (b:Int) x (i:Int) ((5 - s:Nat):Int)))
    (fun k x j=>by rw [Q116.l2]; simp only [e4,e5,e6]) (i - 1) (Go.Sort.swp d i (i - 1)) (by omega) (by omega)
   have key:=dn (by
    by_cases c3:b - i≥2
    ·simp only [if_pos c3,if_pos (show decide (2≤((b - i:Nat):Int))=true from decide_eq_true (by omega))]
     exact fin _ sz2 (fun k x j=>Q116.l1 k (a:Int) (b:Int) ((4 - s:Nat):Int) (i:Int) x j) (fun k x j=>by rw [Q116.l1]; simp only [e6])
    ·simp only [if_neg c3,if_neg (show ¬ decide (2≤((b - i:Nat):Int))=true by simp only [decide_eq_true_eq]; omega)]
     exact ih _ sz2) (by
    by_cases c3:b - i≥2
    ·simp only [if_pos c3,if_pos (show decide (2≤((b - i:Nat):Int))=true from decide_eq_true (by omega))]
     exact fin _ sz2 (fun k x j=>Q116.l1 k (a:Int) (b:Int) ((4 - s:Nat):Int) (i:Int) x j) (fun k x j=>by rw [Q116.l1]; simp only [e6])
    ·simp only [if_neg c3,if_neg (show ¬ decide (2≤((b - i:Nat):Int))=true by simp only [decide_eq_true_eq]; omega)]
     exact ih _ sz2)
   refine key.step fun k hk=>?_
   rw [un,if_neg (by simp only [decide_eq_true_eq]; omega),if_pos (decide_eq_true (by omega)),hk]
   simp only [if_pos c2]
  ·by_cases c3:b - i≥2
   ·refine (fin _ sz (fun k x j=>Q116.l1 k (a:Int) (b:Int) ((4 - s:Nat):Int) (i:Int) x j) (fun k x j=>by rw [Q116.l1]; simp only [e6])).step fun k hk=>?_
    rw [un,if_neg (by simp only [decide_eq_true_eq]; omega),if_neg (by simp only [decide_eq_true_eq]; omega),if_pos (decide_eq_true (by omega)),hk]
    simp only [if_neg c2,if_pos c3]
   ·refine (ih _ sz).step fun k hk=>?_
    rw [un,if_neg (by simp only [decide_eq_true_eq]; omega),if_neg (by simp only [decide_eq_true_eq]; omega),if_neg (by simp only [decide_eq_true_eq]; omega),hk]
    simp only [if_neg c2,if_neg c3]
theorem Zig {a b n:Nat} (hn:n≤1000000) (hb:b≤n):∀(s i:Nat) (d:Array Int),s≤5→a<i→i≤b→d.size=n→Ev (fun k=>Q116.l0 k (a:Int) (b:Int) d.toList (i:Int) ((5 - s:Nat):Int)) (Jm (Go.Sort.partialIns ltI a b s i d))
 | 0,i,d,hs,ha,hi,hd=>Ev.last fun k=>by
  rw [Q116.l0,if_neg (by simp)]
  rfl
 | s+1,i,d,hs,ha,hi,hd=>by
  rw [Zcx]
  have scan:∀(m i:Nat),b - i≤m→a<i→i≤b→Ev (fun k=>Q116.l3 k (a:Int) (b:Int) d.toList ((4 - s:Nat):Int) (i:Int)) (Jm (Zbc a b s (Go.Sort.scanSorted ltI d b i) d)):=fun m=>by
   induction m with
   | zero=>
    intro i hm ha hi
    rw [Go.Sort.scanSorted,if_neg (by simp; omega)]
    unfold Zbc
    rw [if_pos (by omega)]
    exact Ev.last fun k=>by
     rw [Q116.l3,if_neg (by simp only [decide_eq_true_eq]; omega),if_pos (decide_eq_true (by omega))]
     rfl
   | succ m ihm=>
    intro i hm ha hi
    rw [Go.Sort.scanSorted]
    by_cases c:i<b
    ·by_cases q:ltI d[i]! d[i - 1]! = true
     ·rw [if_neg (by simp [q])]
      exact Zkf (by omega) ha c (by omega) (by omega) q fun d' h'=>Zig hn hb s i d' (by omega) ha hi (by omega)
     ·rw [if_pos (by simp [c,q])]
      have e1:w64 ((i:Int) - 1)=((i - 1:Nat):Int):=wn (by omega) (by omega)
      have e5:w64 ((i:Int)+1)=((i+1:Nat):Int):=wn (by omega) (by omega)
      refine (ihm (i+1) (by omega) (by omega) (by omega)).step fun k hk=>?_
      rw [Q116.l3,if_pos (decide_eq_true (by omega)),e1,if_pos (by simp; omega),if_pos (by simp; omega),gta,gta,Xc,Option.bind_some,if_pos (by simp [q]),e5]
      exact hk
    ·rw [if_neg (by simp [c])]
     unfold Zbc
     rw [if_pos (by omega)]
     exact Ev.last fun k=>by
      rw [Q116.l3,if_neg (by simp only [decide_eq_true_eq]; omega),if_pos (decide_eq_true (by omega))]
      rfl
  refine (scan b i (by omega) ha hi).step fun k hk=>?_
  rw [Q116.l0,if_pos (decide_eq_true (by omega)),show ((5 - (s+1):Nat):Int)=((4 - s:Nat):Int) by omega]
  exact hk
theorem Zph {a b:Nat} {d:Array Int} (hab:a<b) (hb:b≤d.size) (hd:d.size≤1000000):Ev (fun k=>Q116.f k d.toList (a:Int) (b:Int)) (Jm (Go.Sort.partialInsertionSort ltI d a b)):=by
 refine (Zig (a:=a) (b:=b) hd hb 5 (a+1) d (T6 _) (by omega) (by omega) rfl).next fun k hk=>?_
 unfold Q116.f
 rw [wn (n:=a+1) (by omega) (by omega)]
 exact hk
theorem B9 (p:Int→Bool) (d:Array Int) (j:Nat):∀(m i:Nat),j+1 - i≤m→i≤Go.Sort.scanUp p d j i∧(Go.Sort.scanUp p d j i≤j+1∨Go.Sort.scanUp p d j i=i)
 | m,i,hm=>by
  rw [Go.Sort.scanUp]
  by_cases c:(decide (i≤j) && p d[i]!)=true
  ·rw [if_pos c]
   have hij:i≤j:=by simp only [Bool.and_eq_true,decide_eq_true_eq] at c; exact c.1
   cases m with
   | zero=>omega
   | succ m=>
   have:=B9 p d j m (i+1) (by omega)
   omega
  ·rw [if_neg c]
   exact ⟨T6 _,.inr rfl⟩
theorem U0 (p:Int→Bool) (d:Array Int) (i:Nat):∀ j:Nat,Go.Sort.scanDown p d i j≤j
 | 0=>T6 _
 | j+1=>by
  unfold Go.Sort.scanDown
  split
  ·have:=U0 p d i j; omega
  ·exact T6 _
def Bh (p:Nat×Array Int):Int×List Int:=((p.1:Int),p.2.toList)
def Gk (a i2 j2:Nat) (d:Array Int):Nat×Array Int:=if i2>j2 then (i2,d) else Go.Sort.partEqLoop ltI a (i2+1) (j2 - 1) (Go.Sort.swp d i2 j2)
theorem Zhn {a i j:Nat} {d:Array Int} (h1:1≤i):Go.Sort.partEqLoop ltI a i j d=Gk a (Go.Sort.scanUp (fun x=>!ltI d[a]! x) d j i) (Go.Sort.scanDown (fun x=>ltI d[a]! x) d (Go.Sort.scanUp (fun x=>!ltI d[a]! x) d j i) j) d:=by
 have u:=(B9 (fun x=>!ltI d[a]! x) d j _ i (T6 _)).1
 have v:=U0 (fun x=>ltI d[a]! x) d (Go.Sort.scanUp (fun x=>!ltI d[a]! x) d j i) j
 rw [Go.Sort.partEqLoop]
 unfold Gk
 split
 ·rfl
 ·rw [dif_pos (by omega)]
theorem Zil {a i2:Nat} {d:Array Int} (hi:1≤i2) (ha:a<d.size) (hd:d.size≤1000000) (hi2:i2≤1000001):∀(j:Nat),j<d.size→(∀ j2,j2≤j→i2≤j2→Ev (fun k=>Q117.l0 k (a:Int) (Go.Sort.swp d i2 j2).toList ((i2+1:Nat):Int) ((j2 - 1:Nat):Int)) (Bh (Go.Sort.partEqLoop ltI a (i2+1) (j2 - 1) (Go.Sort.swp d i2 j2))))→
  Ev (fun k=>Q117.l2 k (a:Int) d.toList (i2:Int) (j:Int)) (Bh (Gk a i2 (Go.Sort.scanDown (fun x=>ltI d[a]! x) d i2 j) d))
 | 0,hj,h=>by
  unfold Go.Sort.scanDown Gk
  rw [if_pos (by omega)]
  exact Ev.last fun k=>by rw [Q117.l2,if_neg (by simp only [decide_eq_true_eq]; omega),if_pos (decide_eq_true (by omega))]; rfl
 | j+1,hj,h=>by
  have e1:w64 (((j+1:Nat):Int) - 1)=(j:Int):=wn (by omega) (by omega)
  have e2:w64 ((i2:Int)+1)=((i2+1:Nat):Int):=wn (by omega) (by omega)
  unfold Go.Sort.scanDown
  by_cases c:i2≤j+1
  ·by_cases q:ltI d[a]! d[j+1]! = true
   ·rw [if_pos (by simp [c,q])]
    refine (Zil hi ha hd hi2 j (by omega) fun j2 a b=>h j2 (by omega) b).step fun k hk=>?_
    rw [Q117.l2,if_pos (decide_eq_true (by omega)),if_pos (by simp; omega),gta,gta,Xc,Option.bind_some,if_pos q,e1]
    exact hk
   ·rw [if_neg (by simp [q])]
    unfold Gk
    rw [if_neg (by omega)]
    refine (h (j+1) (T6 _) c).step fun k hk=>?_
    rw [Q117.l2,if_pos (decide_eq_true (by omega)),if_pos (by simp; omega),gta,gta,Xc,Option.bind_some,if_neg q,if_neg (by simp only [decide_eq_true_eq]; omega),gta,Int.toNat_natCast,Int.toNat_natCast,Wp,e1,e2]
    exact hk
  ·rw [if_neg (by simp [c])]
   unfold Gk
   rw [if_pos (by omega)]
   exact Ev.last fun k=>by rw [Q117.l2,if_neg (by simp only [decide_eq_true_eq]; omega),if_pos (decide_eq_true (by omega))]; rfl
theorem Zmr {a j:Nat} {d:Array Int} (ha:a<d.size) (hd:d.size≤1000000) (hj:j<d.size):∀(m i:Nat),j+1 - i≤m→1≤i→i≤1000001→(∀ i2 j2,i≤i2→j2≤j→i2≤j2→Ev (fun k=>Q117.l0 k (a:Int) (Go.Sort.swp d i2 j2).toList ((i2+1:Nat):Int) ((j2 - 1:Nat):Int)) (Bh (Go.Sort.partEqLoop ltI a (i2+1) (j2 - 1) (Go.Sort.swp d i2 j2))))→
  Ev (fun k=>Q117.l1 k (a:Int) d.toList (j:Int) (i:Int)) (Bh (Gk a (Go.Sort.scanUp (fun x=>!ltI d[a]! x) d j i) (Go.Sort.scanDown (fun x=>ltI d[a]! x) d (Go.Sort.scanUp (fun x=>!ltI d[a]! x) d j i) j) d))
 | m,i,hm,h1,hi,h=>by
  have e2:w64 ((i:Int)+1)=((i+1:Nat):Int):=wn (by omega) (by omega)
  rw [Go.Sort.scanUp]
  by_cases c:i≤j
  ·by_cases q:ltI d[a]! d[i]! = true
   ·rw [if_neg (by simp [q])]
    refine (Zil h1 ha hd hi j hj fun j2 a b=>h i j2 (T6 _) a b).step fun k hk=>?_
    rw [Q117.l1,if_pos (decide_eq_true (by omega)),if_pos (by simp; omega),if_pos (by simp; omega),gta,gta,Xc,Option.bind_some,if_neg (by simp [q])]
    exact hk
   ·cases m with
    | zero=>omega
    | succ m=>
    rw [if_pos (by simp [c,q])]
    refine (Zmr ha hd hj m (i+1) (by omega) (by omega) (by omega) fun i2 j2 a b c=>h i2 j2 (by omega) b c).step fun k hk=>?_
    rw [Q117.l1,if_pos (decide_eq_true (by omega)),if_pos (by simp; omega),if_pos (by simp; omega),gta,gta,Xc,Option.bind_some,if_pos (by simp [q]),e2]
    exact hk
  ·rw [if_neg (by simp [c])]
   have v:=U0 (fun x=>ltI d[a]! x) d i j
   unfold Gk
   rw [if_pos (by omega)]
   have:Ev (fun k=>Q117.l3 k (a:Int) d.toList (j:Int) (i:Int)) (Bh (i,d)):=Ev.last fun k=>by
    rw [Q117.l3,if_pos (decide_eq_true (by omega))]
    rfl
   refine this.step fun k hk=>?_
   rw [Q117.l1,if_neg (by simp only [decide_eq_true_eq]; omega)]
   exact hk
theorem Zip {a n:Nat} (hn:n≤1000000) (ha:a<n):∀(m i j:Nat) (d:Array Int),j+1 - i≤m→1≤i→i≤1000001→j<n→d.size=n→Ev (fun k=>Q117.l0 k (a:Int) d.toList (i:Int) (j:Int)) (Bh (Go.Sort.partEqLoop ltI a i j d))
 | m,i,j,d,hm,h1,hi,hj,hd=>by
  rw [Zhn h1]
  refine (Zmr (a:=a) (j:=j) (d:=d) (by omega) (by omega) (by omega) _ i (T6 _) h1 hi fun i2 j2 a1 a2 a3=>?_).step fun k hk=>?_
  ·cases m with
   | zero=>omega
   | succ m=>exact Zip hn ha m (i2+1) (j2 - 1) (Go.Sort.swp d i2 j2) (by omega) (by omega) (by omega) (by omega) (by rw [Yo]; exact hd)
  ·rw [Q117.l0]
   exact hk
theorem Zne {a b p:Nat} {d:Array Int} (hab:a<b) (hp:p<d.size) (hb:b≤d.size) (hd:d.size≤1000000):Ev (fun k=>Q117.f k d.toList (a:Int) (b:Int) (p:Int)) (Bh (Go.Sort.partitionEqual ltI d a b p)):=by
 refine (Zip (a:=a) (n:=d.size) hd (by omega) _ (a+1) (b - 1) (Go.Sort.swp d a p) (T6 _) (by omega) (by omega) (by omega) (Yo d a p)).next fun k hk=>?_
 unfold Q117.f
 rw [if_pos (by simp; omega),if_pos (by simp; omega),gta,gta,Int.toNat_natCast,Int.toNat_natCast,Wp,wn (n:=a+1) (by omega) (by omega),wn (x:=(b:Int) - 1) (n:=b - 1) (by omega) (by omega)]
 exact hk
def Zfr (d:Array Int) (a j:Nat):Int×Bool×List Int:=((j:Int),false,(Go.Sort.swp d j a).toList)
def Bq (a i2 j2:Nat) (d:Array Int):Nat×Array Int:=if i2>j2 then (j2,d) else Go.Sort.partLoop ltI a (i2+1) (j2 - 1) (Go.Sort.swp d i2 j2)
theorem Zj4 {a i j:Nat} {d:Array Int} (h1:1≤i):Go.Sort.partLoop ltI a i j d=Bq a (Go.Sort.scanUp (fun x=>ltI x d[a]!) d j i) (Go.Sort.scanDown (fun x=>!ltI x d[a]!) d (Go.Sort.scanUp (fun x=>ltI x d[a]!) d j i) j) d:=by
 have u:=(B9 (fun x=>ltI x d[a]!) d j _ i (T6 _)).1
 have v:=U0 (fun x=>!ltI x d[a]!) d (Go.Sort.scanUp (fun x=>ltI x d[a]!) d j i) j
 rw [Go.Sort.partLoop]
 unfold Bq
 split
 ·rfl
 ·rw [dif_pos (by omega)]
structure Part4 (a:Nat) (F2 F3 F4:Nat→List Int→Int→Int→Option TF):Prop where
 h2:∀ k x i j,F2 (k+1) x i j=F3 k x j i
 h3:∀ k x j i,F3 (k+1) x j i=if (decide (i≤j))=true then (if 0≤i∧i<(x.length:Int) then (if 0≤(a:Int)∧(a:Int)<(x.length:Int) then ((Q35.f (gt x i) (gt x (a:Int))).bind fun r3=>(if r3=true then (F3 k x j (w64 (i+1))) else (F4 k x i j))) else none) else none) else (F4 k x i j)
 h4:∀ k x i j,F4 (k+1) x i j=if (decide (i≤j))=true then (if 0≤j∧j<(x.length:Int) then (if 0≤(a:Int)∧(a:Int)<(x.length:Int) then ((Q35.f (gt x j) (gt x (a:Int))).bind fun r4=>(if (!r4)=true then (F4 k x i (w64 (j - 1))) else (if (decide (j<i))=true then (if 0≤(a:Int)∧(a:Int)<(x.length:Int) then (if 0≤j∧j<(x.length:Int) then (some (j,false,((x.set j.toNat (gt x (a:Int))).set (a:Int).toNat (gt x j)))) else none) else none) else (if 0≤j∧j<(x.length:Int) then (if 0≤i∧i<(x.length:Int) then (F2 k ((x.set i.toNat (gt x j)).set j.toNat (gt x i)) (w64 (i+1)) (w64 (j - 1))) else none) else none)))) else none) else none) else (if (decide (j<i))=true then (if 0≤(a:Int)∧(a:Int)<(x.length:Int) then (if 0≤j∧j<(x.length:Int) then (some (j,false,((x.set j.toNat (gt x (a:Int))).set (a:Int).toNat (gt x j)))) else none) else none) else (if 0≤j∧j<(x.length:Int) then (if 0≤i∧i<(x.length:Int) then (F2 k ((x.set i.toNat (gt x j)).set j.toNat (gt x i)) (w64 (i+1)) (w64 (j - 1))) else none) else none))
section
variable {a:Nat} {F2 F3 F4:Nat→List Int→Int→Int→Option TF} (P:Part4 a F2 F3 F4)
include P
theorem Zds {i2:Nat} {d:Array Int} (hi:1≤i2) (ha:a<d.size) (hd:d.size≤1000000) (hi2:i2≤1000001):∀(j:Nat),j<d.size→(∀ j2,j2≤j→i2≤j2→Ev (fun k=>F2 k (Go.Sort.swp d i2 j2).toList ((i2+1:Nat):Int) ((j2 - 1:Nat):Int)) (let r:=Go.Sort.partLoop ltI a (i2+1) (j2 - 1) (Go.Sort.swp d i2 j2); Zfr r.2 a r.1))→
  Ev (fun k=>F4 k d.toList (i2:Int) (j:Int)) (let r:=Bq a i2 (Go.Sort.scanDown (fun x=>!ltI x d[a]!) d i2 j) d; Zfr r.2 a r.1)
 | 0,hj,h=>by
  unfold Go.Sort.scanDown Bq
  rw [if_pos (by omega)]
  exact Ev.last fun k=>by rw [P.h4,if_neg (by simp only [decide_eq_true_eq]; omega),if_pos (decide_eq_true (by omega)),if_pos (by simp; omega),if_pos (by simp; omega),gta,gta,Int.toNat_natCast,Int.toNat_natCast,Wp]; rfl
 | j+1,hj,h=>by
  have e1:w64 (((j+1:Nat):Int) - 1)=(j:Int):=wn (by omega) (by omega)
  have e2:w64 ((i2:Int)+1)=((i2+1:Nat):Int):=wn (by omega) (by omega)
  unfold Go.Sort.scanDown
  by_cases c:i2≤j+1
  ·by_cases q:ltI d[j+1]! d[a]! = true
   ·rw [if_neg (by simp [q])]
    unfold Bq
    rw [if_neg (by omega)]
    refine (h (j+1) (T6 _) c).step fun k hk=>?_
    rw [P.h4,if_pos (decide_eq_true (by omega)),if_pos (by simp; omega),if_pos (by simp; omega),gta,gta,Xc,Option.bind_some,if_neg (by simp [q]),if_neg (by simp only [decide_eq_true_eq]; omega),if_pos (by simp; omega),if_pos (by simp; omega),gta,Int.toNat_natCast,Int.toNat_natCast,Wp,e1,e2]
    exact hk
   ·rw [if_pos (by simp [c,q])]
    refine (Zds hi ha hd hi2 j (by omega) fun j2 a b=>h j2 (by omega) b).step fun k hk=>?_
    rw [P.h4,if_pos (decide_eq_true (by omega)),if_pos (by simp; omega),if_pos (by simp; omega),gta,gta,Xc,Option.bind_some,if_pos (by simp [q]),e1]
    exact hk
  ·rw [if_neg (by simp [c])]
   unfold Bq
   rw [if_pos (by omega)]
   exact Ev.last fun k=>by rw [P.h4,if_neg (by simp only [decide_eq_true_eq]; omega),if_pos (decide_eq_true (by omega)),if_pos (by simp; omega),if_pos (by simp; omega),gta,gta,Int.toNat_natCast,Int.toNat_natCast,Wp]; rfl
theorem Zm1 {j:Nat} {d:Array Int} (ha:a<d.size) (hd:d.size≤1000000) (hj:j<d.size):∀(m i:Nat),j+1 - i≤m→1≤i→i≤1000001→(∀ i2 j2,i≤i2→j2≤j→i2≤j2→Ev (fun k=>F2 k (Go.Sort.swp d i2 j2).toList ((i2+1:Nat):Int) ((j2 - 1:Nat):Int)) (let r:=Go.Sort.partLoop ltI a (i2+1) (j2 - 1) (Go.Sort.swp d i2 j2); Zfr r.2 a r.1))→
  Ev (fun k=>F3 k d.toList (j:Int) (i:Int)) (let r:=Bq a (Go.Sort.scanUp (fun x=>ltI x d[a]!) d j i) (Go.Sort.scanDown (fun x=>!ltI x d[a]!) d (Go.Sort.scanUp (fun x=>ltI x d[a]!) d j i) j) d; Zfr r.2 a r.1)
 | m,i,hm,h1,hi,h=>by
  have e2:w64 ((i:Int)+1)=((i+1:Nat):Int):=wn (by omega) (by omega)
  rw [Go.Sort.scanUp]
  by_cases c:i≤j
  ·by_cases q:ltI d[i]! d[a]! = true
   ·cases m with
    | zero=>omega
    | succ m=>
    rw [if_pos (by simp [c,q])]
    refine (Zm1 ha hd hj m (i+1) (by omega) (by omega) (by omega) fun i2 j2 a b c=>h i2 j2 (by omega) b c).step fun k hk=>?_
    rw [P.h3,if_pos (decide_eq_true (by omega)),if_pos (by simp; omega),if_pos (by simp; omega),gta,gta,Xc,Option.bind_some,if_pos q,e2]
    exact hk
   ·rw [if_neg (by simp [q])]
    refine (Zds P h1 ha hd hi j hj fun j2 a b=>h i j2 (T6 _) a b).step fun k hk=>?_
    rw [P.h3,if_pos (decide_eq_true (by omega)),if_pos (by simp; omega),if_pos (by simp; omega),gta,gta,Xc,Option.bind_some,if_neg q]
    exact hk
  ·rw [if_neg (by simp [c])]
   refine (Zds P h1 ha hd hi j hj fun j2 a b=>h i j2 (T6 _) a b).step fun k hk=>?_
   rw [P.h3,if_neg (by simp only [decide_eq_true_eq]; omega)]
   exact hk
theorem Zii {n:Nat} (hn:n≤1000000) (ha:a<n):∀(m i j:Nat) (d:Array Int),j+1 - i≤m→1≤i→i≤1000001→j<n→d.size=n→Ev (fun k=>F2 k d.toList (i:Int) (j:Int)) (let r:=Go.Sort.partLoop ltI a i j d; Zfr r.2 a r.1)
 | m,i,j,d,hm,h1,hi,hj,hd=>by
  rw [Zj4 h1]
  refine (Zm1 P (j:=j) (d:=d) (by omega) (by omega) (by omega) _ i (T6 _) h1 hi fun i2 j2 a1 a2 a3=>?_).step fun k hk=>?_
  ·cases m with
   | zero=>omega
   | succ m=>exact Zii hn ha m (i2+1) (j2 - 1) (Go.Sort.swp d i2 j2) (by omega) (by omega) (by omega) (by omega) (by rw [Yo]; exact hd)
  ·rw [P.h2]
   exact hk
end
theorem Zo8 (a:Nat):Part4 a (fun k x i j=>Q118.l0 k (a:Int) x i j) (fun k x j i=>Q118.l2 k (a:Int) x j i) (fun k x i j=>Q118.l1 k (a:Int) x i j):=
 ⟨fun k x i j=>by rw [Q118.l0],fun k x j i=>by rw [Q118.l2],fun k x i j=>by rw [Q118.l1]⟩
def Zml (r:Nat×Bool×Array Int):Int×Bool×List Int:=((r.1:Int),r.2.1,r.2.2.toList)
def Za4 (a i j:Nat) (d:Array Int):Nat×Bool×Array Int:=if i>j then (j,true,Go.Sort.swp d j a) else ((Go.Sort.partLoop ltI a (i+1) (j - 1) (Go.Sort.swp d i j)).1,false,Go.Sort.swp (Go.Sort.partLoop ltI a (i+1) (j - 1) (Go.Sort.swp d i j)).2 (Go.Sort.partLoop ltI a (i+1) (j - 1) (Go.Sort.swp d i j)).1 a)
theorem Zdj {a p i:Nat} {d e:Array Int} (he:e=Go.Sort.swp d a p) (hi:1≤i) (ha:a<d.size) (hp:p<d.size) (hd:d.size≤1000000) (hi2:i≤1000001):∀(j:Nat),j<d.size→Ev (fun k=>Q118.l3 k d.toList (a:Int) (p:Int) (i:Int) (j:Int)) (Zml (Za4 a i (Go.Sort.scanDown (fun x=>!ltI x e[a]!) e i j) e))
 | 0,hj=>by
  have se:e.size=d.size:=by rw [he,Yo]
  unfold Go.Sort.scanDown Za4
  rw [if_pos (by omega)]
  exact Ev.last fun k=>by
   rw [Q118.l3,if_neg (by simp only [decide_eq_true_eq]; omega),if_pos (decide_eq_true (by omega)),gta,gta,Int.toNat_natCast,Int.toNat_natCast,Wp,← he,if_pos (by simp; omega),if_pos (by simp; omega),gta,gta,Int.toNat_natCast,Wp]
   rfl
 | j+1,hj=>by
  have se:e.size=d.size:=by rw [he,Yo]
  have e1:w64 (((j+1:Nat):Int) - 1)=(j:Int):=wn (by omega) (by omega)
  have e2:w64 ((i:Int)+1)=((i+1:Nat):Int):=wn (by omega) (by omega)
  unfold Go.Sort.scanDown
  by_cases c:i≤j+1
  ·by_cases q:ltI e[j+1]! e[a]! = true
   ·rw [if_neg (by simp [q])]
    unfold Za4
    rw [if_neg (by omega)]
    refine (Zii (Zo8 a) (n:=d.size) hd ha _ (i+1) j (Go.Sort.swp e i (j+1)) (T6 _) (by omega) (by omega) (by omega) (by rw [Yo,se])).step fun k hk=>?_
    rw [Q118.l3,if_pos (decide_eq_true (by omega)),gta,gta,Int.toNat_natCast,Int.toNat_natCast,Wp,← he,if_pos (by simp; omega),if_pos (by simp; omega),gta,gta,Xc,Option.bind_some,if_neg (by simp [q]),if_neg (by simp only [decide_eq_true_eq]; omega),if_pos (by simp; omega),if_pos (by simp; omega),gta,Int.toNat_natCast,Int.toNat_natCast,Wp,e1,e2]
    exact hk
   ·rw [if_pos (by simp [c,q])]
    refine (Zdj he hi ha hp hd hi2 j (by omega)).step fun k hk=>?_
    rw [Q118.l3,if_pos (decide_eq_true (by omega)),gta,gta,Int.toNat_natCast,Int.toNat_natCast,Wp,← he,if_pos (by simp; omega),if_pos (by simp; omega),gta,gta,Xc,Option.bind_some,if_pos (by simp [q]),e1]
    exact hk
  ·rw [if_neg (by simp [c])]
   unfold Za4
   rw [if_pos (by omega)]
   exact Ev.last fun k=>by
    rw [Q118.l3,if_neg (by simp only [decide_eq_true_eq]; omega),if_pos (decide_eq_true (by omega)),gta,gta,Int.toNat_natCast,Int.toNat_natCast,Wp,← he,if_pos (by simp; omega),if_pos (by simp; omega),gta,gta,Int.toNat_natCast,Wp]
    rfl
theorem Zmx {a b p:Nat} {d e:Array Int} (he:e=Go.Sort.swp d a p) (hab:a<b) (hb:b≤d.size) (hp:p<d.size) (hd:d.size≤1000000):∀(m i:Nat),b - i≤m→1≤i→i≤1000001→Ev (fun k=>Q118.l4 k d.toList (a:Int) (b:Int) (p:Int) (i:Int)) (Zml (Za4 a (Go.Sort.scanUp (fun x=>ltI x e[a]!) e (b - 1) i) (Go.Sort.scanDown (fun x=>!ltI x e[a]!) e (Go.Sort.scanUp (fun x=>ltI x e[a]!) e (b - 1) i) (b - 1)) e))
 | m,i,hm,h1,hi=>by
  have se:e.size=d.size:=by rw [he,Yo]
  have e2:w64 ((i:Int)+1)=((i+1:Nat):Int):=wn (by omega) (by omega)
  have e3:w64 ((b:Int) - 1)=((b - 1:Nat):Int):=wn (by omega) (by omega)
  rw [Go.Sort.scanUp]
  by_cases c:i≤b - 1
  ·by_cases q:ltI e[i]! e[a]! = true
   ·cases m with
    | zero=>omega
    | succ m=>
    rw [if_pos (by simp [c,q])]
    refine (Zmx he hab hb hp hd m (i+1) (by omega) (by omega) (by omega)).step fun k hk=>?_
    rw [Q118.l4,e3,if_pos (decide_eq_true (by omega)),gta,gta,Int.toNat_natCast,Int.toNat_natCast,Wp,← he,if_pos (by simp; omega),if_pos (by simp; omega),gta,gta,Xc,Option.bind_some,if_pos q,e2]
    exact hk
   ·rw [if_neg (by simp [q])]
    refine (Zdj he h1 (by omega) hp hd hi (b - 1) (by omega)).step fun k hk=>?_
    rw [Q118.l4,e3,if_pos (decide_eq_true (by omega)),gta,gta,Int.toNat_natCast,Int.toNat_natCast,Wp,← he,if_pos (by simp; omega),if_pos (by simp; omega),gta,gta,Xc,Option.bind_some,if_neg q]
    exact hk
  ·rw [if_neg (by simp [c])]
   refine (Zdj he h1 (by omega) hp hd hi (b - 1) (by omega)).step fun k hk=>?_
   rw [Q118.l4,e3,if_neg (by simp only [decide_eq_true_eq]; omega)]
   exact hk
theorem Zpb {a b p:Nat} {d:Array Int} (hab:a<b) (hp:p<d.size) (hb:b≤d.size) (hd:d.size≤1000000):Ev (fun k=>Q118.f k d.toList (a:Int) (b:Int) (p:Int)) (Zml (Go.Sort.partition ltI d a b p)):=by
 have e:Go.Sort.partition ltI d a b p=Za4 a (Go.Sort.scanUp (fun x=>ltI x (Go.Sort.swp d a p)[a]!) (Go.Sort.swp d a p) (b - 1) (a+1)) (Go.Sort.scanDown (fun x=>!ltI x (Go.Sort.swp d a p)[a]!) (Go.Sort.swp d a p) (Go.Sort.scanUp (fun x=>ltI x (Go.Sort.swp d a p)[a]!) (Go.Sort.swp d a p) (b - 1) (a+1)) (b - 1)) (Go.Sort.swp d a p):=rfl
 rw [e]
 refine (Zmx (e:=Go.Sort.swp d a p) rfl hab hb hp hd _ (a+1) (T6 _) (by omega) (by omega)).next fun k hk=>?_
 unfold Q118.f
 rw [if_pos (by simp; omega),if_pos (by simp; omega),wn (n:=a+1) (by omega) (by omega)]
 exact hk
theorem Zbl (n:Nat):IntKind.u64.wrap (n:Int)=((n % 18446744073709551616:Nat):Int):=by
 simp [IntKind.wrap,IntKind.bits,IntKind.signed]
theorem bvx {x y:Nat} (hx:x<18446744073709551616) (hy:y<18446744073709551616):((BitVec.ofInt IntKind.u64.bits (x:Int) ^^^ BitVec.ofInt IntKind.u64.bits (y:Int)).toNat)=x ^^^ y:=by
 show (BitVec.ofInt 64 (x:Int) ^^^ BitVec.ofInt 64 (y:Int)).toNat=x ^^^ y
 rw [BitVec.toNat_xor,BitVec.ofInt_natCast,BitVec.ofInt_natCast,BitVec.toNat_ofNat,BitVec.toNat_ofNat,Nat.mod_eq_of_lt hx,Nat.mod_eq_of_lt hy]
theorem Zjg {x:Nat} (r s:UInt64) (hx:x=s.toNat):IntKind.u64.wrap (((BitVec.ofInt IntKind.u64.bits (r.toNat:Int) ^^^ BitVec.ofInt IntKind.u64.bits (x:Int)).toNat:Int))=((r ^^^ s).toNat:Int):=by
 have h1:r.toNat<18446744073709551616:=r.toNat_lt
 have h2:s.toNat<18446744073709551616:=s.toNat_lt
 have h3:(r ^^^ s).toNat<18446744073709551616:=(r ^^^ s).toNat_lt
 rw [hx,bvx h1 h2,Zbl,UInt64.toNat_xor] at *
 rw [Nat.mod_eq_of_lt h3]
theorem Zo6 (r:UInt64) (n:Nat) (hn:n<64):IntKind.u64.wrap ((r.toNat:Int)*2 ^ n)=(((r <<< (UInt64.ofNat n)).toNat:Nat):Int):=by
 rw [show (r.toNat:Int)*2 ^ n=((r.toNat*2 ^ n:Nat):Int) by simp,Zbl,UInt64.toNat_shiftLeft,Nat.shiftLeft_eq]
 have:(UInt64.ofNat n).toNat % 64=n:=by simp; omega
 rw [this]
theorem Zqd (r:UInt64) (n:Nat) (hn:n<64):Int.fdiv (r.toNat:Int) (2 ^ n)=(((r >>> (UInt64.ofNat n)).toNat:Nat):Int):=by
 rw [UInt64.toNat_shiftRight,Nat.shiftRight_eq_div_pow]
 have:(UInt64.ofNat n).toNat % 64=n:=by simp; omega
 rw [this,Int.fdiv_eq_ediv_of_nonneg _ (by exact_mod_cast Nat.zero_le _)]
 simp
theorem Zpd (r:UInt64):Q122.f (r.toNat:Int)=some (((Go.Sort.xorNext r).toNat:Int),((Go.Sort.xorNext r).toNat:Int)):=by
 have xe:Go.Sort.xorNext r=(fun r1:UInt64=>(fun r2:UInt64=>r2 ^^^ (r2 <<< 17)) (r1 ^^^ (r1 >>> 7))) (r ^^^ (r <<< 13)):=rfl
 unfold Q122.f
 rw [xe]
 dsimp only
 have e1:IntKind.u64.wrap ((r.toNat:Int)*2 ^ 13)=(((r <<< 13).toNat:Nat):Int):=Zo6 r 13 (by decide)
 rw [e1,Zjg r (r <<< 13) rfl]
 generalize r ^^^ (r <<< 13)=r1
 have e2:Int.fdiv (r1.toNat:Int) (2 ^ 7)=(((r1 >>> 7).toNat:Nat):Int):=Zqd r1 7 (by decide)
 rw [e2,Zjg r1 (r1 >>> 7) rfl]
 generalize r1 ^^^ (r1 >>> 7)=r2
 have e3:IntKind.u64.wrap ((r2.toNat:Int)*2 ^ 17)=(((r2 <<< 17).toNat:Nat):Int):=Zo6 r2 17 (by decide)
 rw [e3,Zjg r2 (r2 <<< 17) rfl]
theorem Zpk:∀ n:Fin 200,Q1.f ((n:Nat):Int)=some ((Go.Sort.bitsLen n:Nat):Int):=by decide +kernel
theorem Zos:∀ n:Fin 200,Q114.f ((n:Nat):Int)=some ((1 <<< Go.Sort.bitsLen n:Nat):Int):=by decide +kernel
theorem Zp7 {r:UInt64} {M:Nat} (h1:1≤M) (h2:M≤1000):w64 (IntKind.u64.wrap (((BitVec.ofInt IntKind.u64.bits (r.toNat:Int) &&& (BitVec.ofInt IntKind.u64.bits (IntKind.u64.wrap ((M:Int) - 1)))).toNat:Int)))=((r.toNat &&& (M - 1):Nat):Int):=by
 have hr:r.toNat<18446744073709551616:=r.toNat_lt
 have e1:(M:Int) - 1=((M - 1:Nat):Int):=by omega
 have hle:r.toNat &&& (M - 1)≤M - 1:=Nat.and_le_right
 have e2:(BitVec.ofInt IntKind.u64.bits (r.toNat:Int) &&& BitVec.ofInt IntKind.u64.bits ((M - 1:Nat):Int)).toNat=r.toNat &&& (M - 1):=by
  show (BitVec.ofInt 64 (r.toNat:Int) &&& BitVec.ofInt 64 ((M - 1:Nat):Int)).toNat=r.toNat &&& (M - 1)
  rw [BitVec.toNat_and,BitVec.ofInt_natCast,BitVec.ofInt_natCast,BitVec.toNat_ofNat,BitVec.toNat_ofNat,Nat.mod_eq_of_lt hr,Nat.mod_eq_of_lt (by omega)]
 rw [e1,show IntKind.u64.wrap ((M - 1:Nat):Int)=((M - 1:Nat):Int) by rw [Zbl,Nat.mod_eq_of_lt (by omega)],e2,Zbl,Nat.mod_eq_of_lt (by omega),Zy (by omega) (by omega)]
theorem Zca {a b M i:Nat} {d:Array Int} {r:UInt64} {R:TU} (h8:8≤b - a) (hb:b≤d.size) (hd:d.size<200) (ha:a≤i) (hi:i≤a+(b - a) / 4*2+1) (hM:M=1 <<< Go.Sort.bitsLen (b - a))
  (h:Ev (fun k=>Q108.l0 k (a:Int) (b:Int) (M:Int) (Go.Sort.breakStep a (b - a) M (r,d) i).2.toList ((Go.Sort.breakStep a (b - a) M (r,d) i).1.toNat:Int) ((i+1:Nat):Int)) R) :
  Ev (fun k=>Q108.l0 k (a:Int) (b:Int) (M:Int) d.toList (r.toNat:Int) (i:Int)) R:=by
 have e1:w64 ((b:Int) - (a:Int))=((b - a:Nat):Int):=wn (by omega) (by omega)
 have e2:w64 (Int.tdiv ((b - a:Nat):Int) 4)=(((b - a) / 4:Nat):Int):=by
  rw [show Int.tdiv ((b - a:Nat):Int) 4=(((b - a) / 4:Nat):Int) from rfl,Zy (by omega) (by omega)]
 have e3:w64 ((((b - a) / 4:Nat):Int)*2)=(((b - a) / 4*2:Nat):Int):=wn (by omega) (by omega)
 have e4:w64 ((a:Int)+(((b - a) / 4*2:Nat):Int))=((a+(b - a) / 4*2:Nat):Int):=wn (by omega) (by omega)
 have e5:w64 (((a+(b - a) / 4*2:Nat):Int)+1)=((a+(b - a) / 4*2+1:Nat):Int):=wn (by omega) (by omega)
 have e6:w64 ((i:Int)+1)=((i+1:Nat):Int):=wn (by omega) (by omega)
 have hp:=Go.Sort.two_pow_bitsLen_le (n:=b - a) (by omega)
 have hq:1≤2 ^ Go.Sort.bitsLen (b - a):=Nat.two_pow_pos _
 rw [Nat.one_shiftLeft] at hM
 rw [← hM] at hp hq
 have eb:Go.Sort.breakStep a (b - a) M (r,d) i=(Go.Sort.xorNext r,Go.Sort.swp d i (a+if (Go.Sort.xorNext r).toNat &&& (M - 1)≥b - a then ((Go.Sort.xorNext r).toNat &&& (M - 1)) - (b - a) else (Go.Sort.xorNext r).toNat &&& (M - 1))):=rfl
 rw [eb] at h
 have hle:(Go.Sort.xorNext r).toNat &&& (M - 1)≤M - 1:=Nat.and_le_right
 have hand:=Zp7 (r:=Go.Sort.xorNext r) (M:=M) hq (by omega)
 refine h.step fun k hk=>?_
 rw [Q108.l0,e1,e2,e3,e4,e5,if_pos (decide_eq_true (by omega)),Zpd,Option.bind_some]
 dsimp only
 rw [hand]
 generalize (Go.Sort.xorNext r).toNat &&& (M - 1)=o at *
 by_cases c:o≥b - a
 ·have e7:w64 ((o:Int) - ((b - a:Nat):Int))=((o - (b - a):Nat):Int):=wn (by omega) (by omega)
  have e8:w64 ((a:Int)+((o - (b - a):Nat):Int))=((a+(o - (b - a)):Nat):Int):=wn (by omega) (by omega)
  rw [if_pos c] at hk
  rw [if_pos (decide_eq_true (by omega)),e7,e8,if_pos (by simp; omega),if_pos (by simp; omega),gta,gta,Int.toNat_natCast,Int.toNat_natCast,Wp,e6]
  exact hk
 ·have e8:w64 ((a:Int)+(o:Int))=((a+o:Nat):Int):=wn (by omega) (by omega)
  rw [if_neg c] at hk
  rw [if_neg (by simp only [decide_eq_true_eq]; omega),e8,if_pos (by simp; omega),if_pos (by simp; omega),gta,gta,Int.toNat_natCast,Int.toNat_natCast,Wp,e6]
  exact hk
theorem Zdx (a L M i:Nat) (st:UInt64×Array Int):(Go.Sort.breakStep a L M st i).2.size=st.2.size:=by
 unfold Go.Sort.breakStep
 exact Yo _ _ _
theorem Zoc {a b:Nat} {d:Array Int} (hab:a≤b) (hb:b≤d.size) (hd:d.size<200):Ev (fun k=>Q108.f k d.toList (a:Int) (b:Int)) (Go.Sort.breakPatterns d a b).toList:=by
 have e1:w64 ((b:Int) - (a:Int))=((b - a:Nat):Int):=wn (by omega) (by omega)
 by_cases h8:b - a≥8
 ·have e2:w64 (Int.tdiv ((b - a:Nat):Int) 4)=(((b - a) / 4:Nat):Int):=by
   rw [show Int.tdiv ((b - a:Nat):Int) 4=(((b - a) / 4:Nat):Int) from rfl,Zy (by omega) (by omega)]
  have e3:w64 ((((b - a) / 4:Nat):Int)*2)=(((b - a) / 4*2:Nat):Int):=wn (by omega) (by omega)
  have e4:w64 ((a:Int)+(((b - a) / 4*2:Nat):Int))=((a+(b - a) / 4*2:Nat):Int):=wn (by omega) (by omega)
  have e5:w64 (((a+(b - a) / 4*2:Nat):Int) - 1)=((a+(b - a) / 4*2 - 1:Nat):Int):=wn (by omega) (by omega)
  have e6:w64 (((a+(b - a) / 4*2:Nat):Int)+1)=((a+(b - a) / 4*2+1:Nat):Int):=wn (by omega) (by omega)
  have hx:IntKind.u64.wrap ((b - a:Nat):Int)=((UInt64.ofNat (b - a)).toNat:Int):=by
   rw [Zbl]
   have:(UInt64.ofNat (b - a)).toNat=(b - a) % 18446744073709551616:=by simp
   rw [this]
  have fin:∀(d':Array Int) (x:Int),Ev (fun k=>Q108.l0 k (a:Int) (b:Int) ((1 <<< Go.Sort.bitsLen (b - a):Nat):Int) d'.toList x ((a+(b - a) / 4*2 - 1+1+1+1:Nat):Int)) d'.toList:=fun d' x=>Ev.last fun k=>by
   rw [Q108.l0,e1,e2,e3,e4,e6,if_neg (by simp only [decide_eq_true_eq]; omega)]
  have main:Ev (fun k=>Q108.l0 k (a:Int) (b:Int) ((1 <<< Go.Sort.bitsLen (b - a):Nat):Int) d.toList ((UInt64.ofNat (b - a)).toNat:Int) ((a+(b - a) / 4*2 - 1:Nat):Int)) (Go.Sort.breakPatterns d a b).toList:=by
   unfold Go.Sort.breakPatterns
   rw [if_pos h8]
   refine Zca h8 hb hd (by omega) (by omega) rfl (Zca h8 ?_ ?_ (by omega) (by omega) rfl (Zca h8 ?_ ?_ (by omega) (by omega) rfl (fin _ _)))
   all_goals simp only [Zdx]
   all_goals first | exact hb | exact hd
  refine main.next fun k hk=>?_
  unfold Q108.f
  rw [e1,if_pos (decide_eq_true (by omega)),Zos ⟨b - a,by omega⟩,Option.bind_some,hx,e2,e3,e4,e5]
  exact hk
 ·refine Ev.all fun k=>?_
  unfold Q108.f Go.Sort.breakPatterns
  rw [e1,if_neg (by simp only [decide_eq_true_eq]; omega),if_neg h8]
def Zlv (k:Nat) (a b lim m:Int) (ap:Bool) (d:TU):Option TU:=if (decide ((w64 (m - a))<(w64 (b - m))))=true then ((Q119.f k d a m lim).bind fun r10=>(Q119.l0 k r10 (w64 (m+1)) b lim (decide ((w64 (Int.tdiv (w64 (b - a)) 8))≤(w64 (m - a)))) ap)) else ((Q119.f k d (w64 (m+1)) b lim).bind fun r11=>(Q119.l0 k r11 a m lim (decide ((w64 (Int.tdiv (w64 (b - a)) 8))≤(w64 (b - m)))) ap))
theorem Zcy (k:Nat) (x1:TU) (x2 x3 x4:Int) (x5 x6:Bool):Q119.l0 (k+1) x1 x2 x3 x4 x5 x6=if (decide ((w64 (x3 - x2))≤12))=true then ((Q111.f k x1 x2 x3).bind fun r1=>(some r1)) else (if (decide (x4=0))=true then ((Q110.f k x1 x2 x3).bind fun r2=>(some r2)) else (if (!x5)=true then ((Q108.f k x1 x2 x3).bind fun r3=>Q119.l1 k x2 x3 x5 x6 r3 (w64 (x4 - 1))) else Q119.l1 k x2 x3 x5 x6 x1 x4)):=by
 rw [Q119.l0]
section
variable {a b p lim:Nat} {d:Array Int} {wb wp:Bool} {r:TU}
theorem Zop (h1:1≤a) (hab:a<b) (hp:p<d.size) (hb:b≤d.size) (hd:d.size<200) (hq:ltI d[a - 1]! d[p]! = false)
  (h:Ev (fun k=>Q119.l0 k (Go.Sort.partitionEqual ltI d a b p).2.toList ((Go.Sort.partitionEqual ltI d a b p).1:Int) (b:Int) (lim:Int) wb wp) r) :
  Ev (fun k=>Q119.l4 k (a:Int) (b:Int) wb wp (lim:Int) (p:Int) d.toList) r:=by
 have h5:Ev (fun k=>Q119.l5 k (a:Int) (b:Int) wb wp (lim:Int) (p:Int) d.toList true) r:=(Zne hab hp hb (by omega)).step2 h fun k h1' h2=>by
  rw [Q119.l5,if_pos rfl,h1',Option.bind_some]
  exact h2
 refine h5.step fun k hk=>?_
 rw [Q119.l4,if_pos (decide_eq_true (by omega)),wn (x:=(a:Int) - 1) (n:=a - 1) (by omega) (by omega),if_pos (by simp; omega),if_pos (by simp; omega),gta,gta,Xc,Option.bind_some,hq]
 exact hk
theorem Zoi (hab:a<b) (hp:p<d.size) (hb:b≤d.size) (hd:d.size<200) (hq:(decide (a>0) && !ltI d[a - 1]! d[p]!)=false)
  (h:Ev (fun k=>Zlv k (a:Int) (b:Int) (lim:Int) ((Go.Sort.partition ltI d a b p).1:Int) (Go.Sort.partition ltI d a b p).2.1 (Go.Sort.partition ltI d a b p).2.2.toList) r) :
  Ev (fun k=>Q119.l4 k (a:Int) (b:Int) wb wp (lim:Int) (p:Int) d.toList) r:=by
 have h5:Ev (fun k=>Q119.l5 k (a:Int) (b:Int) wb wp (lim:Int) (p:Int) d.toList false) r:=(Zpb hab hp hb (by omega)).step2 h fun k h1' h2=>by
  rw [Q119.l5,if_neg (by simp),h1',Option.bind_some]
  exact h2
 refine h5.step fun k hk=>?_
 by_cases c:0<a
 ·have hq':ltI d[a - 1]! d[p]! = true:=by simpa [c] using hq
  rw [Q119.l4,if_pos (decide_eq_true (by omega)),wn (x:=(a:Int) - 1) (n:=a - 1) (by omega) (by omega),if_pos (by simp; omega),if_pos (by simp; omega),gta,gta,Xc,Option.bind_some,hq']
  exact hk
 ·rw [Q119.l4,if_neg (by simp only [decide_eq_true_eq]; omega)]
  exact hk
theorem Zof (hab:a<b) (hb:b≤d.size) (hd:d.size<200) (h1:(Go.Sort.partialInsertionSort ltI d a b).2=true→(Go.Sort.partialInsertionSort ltI d a b).1.toList=r)
  (h2:(Go.Sort.partialInsertionSort ltI d a b).2=false→Ev (fun k=>Q119.l4 k (a:Int) (b:Int) wb wp (lim:Int) (p:Int) (Go.Sort.partialInsertionSort ltI d a b).1.toList) r):Ev (fun k=>Q119.l3 k (a:Int) (b:Int) wb wp (lim:Int) d.toList (p:Int) true) r:=by
 have h0:=Zph hab hb (by omega)
 cases c:(Go.Sort.partialInsertionSort ltI d a b).2 with
 | true=>
  refine h0.step fun k hk=>?_
  rw [Q119.l3,if_pos rfl,hk,Option.bind_some,Jm,c,if_pos rfl,h1 c]
 | false=>
  refine h0.step2 (h2 c) fun k hk hk2=>?_
  rw [Q119.l3,if_pos rfl,hk,Option.bind_some,Jm,c,if_neg (by simp)]
  exact hk2
end
def piP (k:Nat) (s:Go.Sort.Rd Int) (a b:Nat) (wb wp:Bool):Option TU:=if s.pi.2=true then some s.pi.1.toList else Q119.l4 k (a:Int) (b:Int) wb wp (s.lim:Int) (s.pivot:Int) s.pi.1.toList
theorem Zmq {h:Go.Sort.Hint}:decide (Zc5 h=2)=decide (h=.decreasing):=by cases h <;> rfl
theorem Zpc {h:Go.Sort.Hint}:decide (Zc5 h=1)=decide (h=.increasing):=by cases h <;> rfl
section
variable {a b limit:Nat} {d:Array Int} {wb wp:Bool} {r:TU}
theorem Zn6 {s:Go.Sort.Rd Int} {e:Array Int} (hab:a<b) (hb:b≤e.size) (hd:e.size<200) (he:s.pi=Go.Sort.partialInsertionSort ltI e a b) (h:Ev (fun k=>piP k s a b wb wp) r) :
  Ev (fun k=>Q119.l3 k (a:Int) (b:Int) wb wp (s.lim:Int) e.toList (s.pivot:Int) true) r:=by
 refine Zof hab hb hd (fun c=>?_) fun c=>?_
 ·obtain ⟨k,h⟩:=h.ok
  unfold piP at h
  rw [he,c,if_pos rfl] at h
  exact Option.some.inj h
 ·refine h.next fun k hk=>?_
  unfold piP at hk
  rw [he,c,if_neg (by simp)] at hk
  exact hk
theorem Zg9 {s:Go.Sort.Rd Int} {e:Array Int} (he:s.pi=(e,false)) (h:Ev (fun k=>piP k s a b wb wp) r) :
  Ev (fun k=>Q119.l3 k (a:Int) (b:Int) wb wp (s.lim:Int) e.toList (s.pivot:Int) false) r:=by
 refine h.step fun k hk=>?_
 unfold piP at hk
 rw [he,if_neg (by simp)] at hk
 rw [Q119.l3,if_neg (by simp)]
 exact hk
theorem Zo5 {s:Go.Sort.Rd Int} (h12:12<b - a) (hb:b≤s.d1.size) (hd:s.d1.size<200) (ec:s.c=Go.Sort.choosePivot ltI s.d1 a b) (hc:a≤s.c.1∧s.c.1<b)
  (e2:s.d2=if s.c.2=.decreasing then Go.Sort.reverseRange s.d1 a b else s.d1) (s2:s.d2.size=s.d1.size) (ep:s.pivot=if s.c.2=.decreasing then (b - 1) - (s.c.1 - a) else s.c.1) (eh:s.hint=if s.c.2=.decreasing then Go.Sort.Hint.increasing else s.c.2)
  (ei:s.pi=if wb && wp && s.hint=.increasing then Go.Sort.partialInsertionSort ltI s.d2 a b else (s.d2,false)) (h:Ev (fun k=>piP k s a b wb wp) r) :
  Ev (fun k=>Q119.l1 k (a:Int) (b:Int) wb wp s.d1.toList (s.lim:Int)) r:=by
 have hpv:=Zo4 (d:=s.d1) (a:=a) (b:=b) (by omega) hb h12 (by omega)
 rw [← ec] at hpv
 have fin:∀ hI:Int,decide (hI=1)=decide (s.hint=.increasing)→Ev (fun k=>Q119.l2 k (a:Int) (b:Int) wb wp (s.lim:Int) s.d2.toList (s.pivot:Int) hI) r:=fun hI hh=>by
  cases wb with
  | false=>exact (Zg9 (by simpa using ei) h).step fun k hk=>by rw [Q119.l2,if_neg (by simp)]; exact hk
  | true=>
   cases wp with
   | false=>exact (Zg9 (by simpa using ei) h).step fun k hk=>by rw [Q119.l2,if_pos rfl,if_neg (by simp)]; exact hk
   | true=>
    by_cases q:s.hint=.increasing
    ·exact (Zn6 (e:=s.d2) (by omega) (by omega) (by omega) (by simpa [q] using ei) h).step fun k hk=>by rw [Q119.l2,if_pos rfl,if_pos rfl,hh,decide_eq_true q]; exact hk
    ·exact (Zg9 (by simpa [q] using ei) h).step fun k hk=>by rw [Q119.l2,if_pos rfl,if_pos rfl,hh,decide_eq_false q]; exact hk
 by_cases c:s.c.2=.decreasing
 ·rw [if_pos c] at e2 ep eh
  have e3:w64 ((b:Int) - 1)=((b - 1:Nat):Int):=wn (by omega) (by omega)
  have e4:w64 ((s.c.1:Int) - (a:Int))=((s.c.1 - a:Nat):Int):=wn (by omega) (by omega)
  have e5:w64 (((b - 1:Nat):Int) - ((s.c.1 - a:Nat):Int))=(s.pivot:Int):=wn (by omega) (by omega)
  have hr:=Zqb (a:=a) (b:=b) (d:=s.d1) (by omega) (by omega) hb (by omega)
  rw [← e2] at hr
  refine hr.step2 (fin 1 (by rw [eh]; rfl)) fun k h1 h2=>?_
  rw [Q119.l1,hpv,Option.bind_some]
  dsimp only
  rw [Zmq,if_pos (decide_eq_true c),h1,Option.bind_some,e3,e4,e5]
  exact h2
 ·rw [if_neg c] at e2 ep eh
  refine (fin (Zc5 s.c.2) (by rw [eh]; exact Zpc)).step fun k h2=>?_
  rw [Q119.l1,hpv,Option.bind_some]
  dsimp only
  rw [Zmq,if_neg (by simpa using c)]
  rw [e2,ep] at h2
  exact h2
theorem Zkl (h12:12<b - a) (hb:b≤d.size) (hd:d.size<200) (hl:limit≠0) (hlim:limit≤100) (hB:Go.Sort.Below ltI a b d) (h:Ev (fun k=>piP k (Go.Sort.rd ltI d a b limit wb wp) a b wb wp) r) :
  Ev (fun k=>Q119.l0 k d.toList (a:Int) (b:Int) (limit:Int) wb wp) r:=by
 obtain ⟨f1,f2,f3,f4,f5,f6,f7,f8⟩:=Go.Sort.rd_facts (lt:=ltI) (wb:=wb) (wp:=wp) (limit:=limit) Go.Sort.swo_ltInt Go.Sort.partialInsertionSort_holds Go.Sort.reverseRange_holds (by omega) hb hB
 have hm:=Zo5 (s:=Go.Sort.rd ltI d a b limit wb wp) (wb:=wb) (wp:=wp) (r:=r) h12 (by rw [f1]; exact hb) (by rw [f1]; exact hd) rfl f3 rfl (by rw [f4,f1]) rfl rfl rfl h
 have e1:w64 ((b:Int) - (a:Int))=((b - a:Nat):Int):=wn (by omega) (by omega)
 cases wb with
 | true=>
  refine hm.step fun k hk=>?_
  rw [Zcy,e1,if_neg (by simp only [decide_eq_true_eq]; omega),if_neg (by simp only [decide_eq_true_eq]; omega),if_neg (by simp)]
  exact hk
 | false=>
  refine (Zoc (a:=a) (b:=b) (d:=d) (by omega) hb hd).step2 hm fun k h1 hk=>?_
  rw [Zcy,e1,if_neg (by simp only [decide_eq_true_eq]; omega),if_neg (by simp only [decide_eq_true_eq]; omega),if_pos (by simp),h1,Option.bind_some,wn (x:=(limit:Int) - 1) (n:=limit - 1) (by omega) (by omega)]
  exact hk
end
theorem partition_size {d:Array Int} {a b p:Nat} (h1:a≤p) (h2:p<b) (hb:b≤d.size):(Go.Sort.partition ltI d a b p).2.2.size=d.size:=(Go.Sort.partition_holds ltI Go.Sort.swo_ltInt d a b p h1 h2 hb).2.2.1.1
theorem Zp4:∀(m:Nat) (d:Array Int) (a b limit:Nat) (wb wp:Bool),b - a≤m→a≤b→b≤d.size→d.size<200→limit≤100→Go.Sort.Below ltI a b d→
  Ev (fun k=>Q119.l0 k d.toList (a:Int) (b:Int) (limit:Int) wb wp) (Go.Sort.pdq ltI d a b limit wb wp).toList:=by
 intro m
 induction m using Nat.strongRecOn with
 | _ m ih=>
 intro d a b limit wb wp hm hab hb hd hlim hB
 have e1:w64 ((b:Int) - (a:Int))=((b - a:Nat):Int):=wn (by omega) (by omega)
 by_cases h12:b - a≤12
 ·rw [Go.Sort.pdq_small h12]
  refine (Znc (a:=a) (b:=b) (d:=d) hb (by omega) (by omega)).step fun k hk=>?_
  rw [Zcy,e1,if_pos (decide_eq_true (by omega)),hk,Option.bind_some]
 by_cases h0:limit=0
 ·rw [Go.Sort.pdq_heap h12 h0]
  refine (Zpp (a:=a) (b:=b) (d:=d) hab hb (by omega)).step fun k hk=>?_
  rw [Zcy,e1,if_neg (by simp only [decide_eq_true_eq]; omega),if_pos (decide_eq_true (by omega)),hk,Option.bind_some]
 refine Zkl (by omega) hb hd h0 hlim hB ?_
 obtain ⟨f1,f2,f3,f4,f5,f6,f7,f8⟩:=Go.Sort.rd_facts (lt:=ltI) (wb:=wb) (wp:=wp) (limit:=limit) Go.Sort.swo_ltInt Go.Sort.partialInsertionSort_holds Go.Sort.reverseRange_holds (by omega) hb hB
 have hlm:(Go.Sort.rd ltI d a b limit wb wp).lim≤limit:=Go.Sort.rd_lim_le
 cases hpi:(Go.Sort.rd ltI d a b limit wb wp).pi.2 with
 | true=>
  rw [Go.Sort.pdq_done h12 h0 hpi]
  exact Ev.all fun k=>by unfold piP; rw [if_pos hpi]
 | false=>
 have red:∀ {r:TU},Ev (fun k=>Q119.l4 k (a:Int) (b:Int) wb wp ((Go.Sort.rd ltI d a b limit wb wp).lim:Int) ((Go.Sort.rd ltI d a b limit wb wp).pivot:Int) (Go.Sort.rd ltI d a b limit wb wp).pi.1.toList) r→Ev (fun k=>piP k (Go.Sort.rd ltI d a b limit wb wp) a b wb wp) r:=fun h=>h.next fun k hk=>by
  unfold piP
  rw [hpi,if_neg (by simp)]
  exact hk
 have hsz:b≤(Go.Sort.rd ltI d a b limit wb wp).pi.1.size:=by rw [f7]; exact hb
 cases hq:(decide (a>0) && !ltI (Go.Sort.rd ltI d a b limit wb wp).pi.1[a - 1]! (Go.Sort.rd ltI d a b limit wb wp).pi.1[(Go.Sort.rd ltI d a b limit wb wp).pivot]!) with
 | true=>
  have hq':=hq
  simp only [Bool.and_eq_true,decide_eq_true_eq,Bool.not_eq_true'] at hq'
  obtain ⟨g1,g2,g3,g4,g5⟩:=Go.Sort.round_eq (lt:=ltI) Go.Sort.swo_ltInt (Go.Sort.partitionEqual_holds ltI) hq'.1 f6.1 f6.2 hsz f8 hq'.2 (mid:=(Go.Sort.partitionEqual ltI (Go.Sort.rd ltI d a b limit wb wp).pi.1 a b (Go.Sort.rd ltI d a b limit wb wp).pivot).1) (d4:=(Go.Sort.partitionEqual ltI (Go.Sort.rd ltI d a b limit wb wp).pi.1 a b (Go.Sort.rd ltI d a b limit wb wp).pivot).2) rfl
  rw [Go.Sort.pdq_eq h12 h0 hpi hq ⟨g1,g2⟩]
  refine red (Zop (by omega) (by omega) (by omega) hsz (by omega) hq'.2 ?_)
  exact ih (b - (Go.Sort.partitionEqual ltI (Go.Sort.rd ltI d a b limit wb wp).pi.1 a b (Go.Sort.rd ltI d a b limit wb wp).pivot).1) (by omega) _ _ _ _ _ _ (T6 _) g2 (by rw [g3]; exact hsz) (by omega) (by omega) g4
 | false=>
  obtain ⟨g1,g2,g3,g4,g5,g6,g7⟩:=Go.Sort.round_part (lt:=ltI) Go.Sort.swo_ltInt (Go.Sort.partition_holds ltI) f6.1 f6.2 hsz f8 (mid:=(Go.Sort.partition ltI (Go.Sort.rd ltI d a b limit wb wp).pi.1 a b (Go.Sort.rd ltI d a b limit wb wp).pivot).1) (ap:=(Go.Sort.partition ltI (Go.Sort.rd ltI d a b limit wb wp).pi.1 a b (Go.Sort.rd ltI d a b limit wb wp).pivot).2.1) (d4:=(Go.Sort.partition ltI (Go.Sort.rd ltI d a b limit wb wp).pi.1 a b (Go.Sort.rd ltI d a b limit wb wp).pivot).2.2) rfl
  refine red (Zoi (by omega) (by omega) hsz (by omega) hq ?_)
  have e2:∀ x:Nat,x=b - a→w64 (Int.tdiv (x:Int) 8)=(((b - a) / 8:Nat):Int):=fun x hx=>by
   rw [hx,show Int.tdiv ((b - a:Nat):Int) 8=(((b - a) / 8:Nat):Int) from rfl,Zy (by omega) (by omega)]
  by_cases hlt:(Go.Sort.partition ltI (Go.Sort.rd ltI d a b limit wb wp).pi.1 a b (Go.Sort.rd ltI d a b limit wb wp).pivot).1 - a<b - (Go.Sort.partition ltI (Go.Sort.rd ltI d a b limit wb wp).pi.1 a b (Go.Sort.rd ltI d a b limit wb wp).pivot).1
  ·rw [Go.Sort.pdq_left h12 h0 hpi hq ⟨g1,g2⟩ hlt]
   generalize Go.Sort.partition ltI (Go.Sort.rd ltI d a b limit wb wp).pi.1 a b (Go.Sort.rd ltI d a b limit wb wp).pivot=pt at *
   have e3:w64 ((pt.1:Int) - (a:Int))=((pt.1 - a:Nat):Int):=wn (by omega) (by omega)
   have e4:w64 ((b:Int) - (pt.1:Int))=((b - pt.1:Nat):Int):=wn (by omega) (by omega)
   have e5:w64 ((pt.1:Int)+1)=((pt.1+1:Nat):Int):=wn (by omega) (by omega)
   have hs:=Go.Sort.pdq_sorts ltI Go.Sort.swo_ltInt pt.2.2 a pt.1 (Go.Sort.rd ltI d a b limit wb wp).lim true true g1 (by omega) g4
   have c1:=(ih (pt.1 - a) (by omega) pt.2.2 a pt.1 (Go.Sort.rd ltI d a b limit wb wp).lim true true (T6 _) g1 (by omega) (by omega) (by omega) g4).step (F:=fun k=>Q119.f k pt.2.2.toList (a:Int) (pt.1:Int) ((Go.Sort.rd ltI d a b limit wb wp).lim:Int)) fun k hk=>by rw [Q119.f]; exact hk
   have c2:=ih (b - (pt.1+1)) (by omega) (Go.Sort.pdq ltI pt.2.2 a pt.1 (Go.Sort.rd ltI d a b limit wb wp).lim true true) (pt.1+1) b (Go.Sort.rd ltI d a b limit wb wp).lim (decide (pt.1 - a≥(b - a) / 8)) pt.2.1 (T6 _) (by omega) (by rw [hs.1.1]; omega) (by rw [hs.1.1]; omega) (by omega) (g6 _ hs.1 hs.2).1
   refine c1.next2 c2 fun k k1 k2=>?_
   unfold Zlv
   rw [e3,e4,e5,e1,e2 _ rfl,if_pos (decide_eq_true (by omega)),k1,Option.bind_some,show decide ((((b - a) / 8:Nat):Int)≤((pt.1 - a:Nat):Int))=decide (pt.1 - a≥(b - a) / 8) by congr 1; exact propext (by omega)]
   exact k2
  ·rw [Go.Sort.pdq_right h12 h0 hpi hq ⟨g1,g2⟩ hlt]
   generalize Go.Sort.partition ltI (Go.Sort.rd ltI d a b limit wb wp).pi.1 a b (Go.Sort.rd ltI d a b limit wb wp).pivot=pt at *
   have e3:w64 ((pt.1:Int) - (a:Int))=((pt.1 - a:Nat):Int):=wn (by omega) (by omega)
   have e4:w64 ((b:Int) - (pt.1:Int))=((b - pt.1:Nat):Int):=wn (by omega) (by omega)
   have e5:w64 ((pt.1:Int)+1)=((pt.1+1:Nat):Int):=wn (by omega) (by omega)
   have hs:=Go.Sort.pdq_sorts ltI Go.Sort.swo_ltInt pt.2.2 (pt.1+1) b (Go.Sort.rd ltI d a b limit wb wp).lim true true (by omega) (by omega) g5
   have c1:=(ih (b - (pt.1+1)) (by omega) pt.2.2 (pt.1+1) b (Go.Sort.rd ltI d a b limit wb wp).lim true true (T6 _) (by omega) (by omega) (by omega) (by omega) g5).step (F:=fun k=>Q119.f k pt.2.2.toList ((pt.1+1:Nat):Int) (b:Int) ((Go.Sort.rd ltI d a b limit wb wp).lim:Int)) fun k hk=>by rw [Q119.f]; exact hk
   have c2:=ih (pt.1 - a) (by omega) (Go.Sort.pdq ltI pt.2.2 (pt.1+1) b (Go.Sort.rd ltI d a b limit wb wp).lim true true) a pt.1 (Go.Sort.rd ltI d a b limit wb wp).lim (decide (b - pt.1≥(b - a) / 8)) pt.2.1 (T6 _) (by omega) (by rw [hs.1.1]; omega) (by rw [hs.1.1]; omega) (by omega) (g7 _ hs.1 hs.2).1
   refine c1.next2 c2 fun k k1 k2=>?_
   unfold Zlv
   rw [e3,e4,e5,e1,e2 _ rfl,if_neg (by simp only [decide_eq_true_eq]; omega),k1,Option.bind_some,show decide ((((b - a) / 8:Nat):Int)≤((b - pt.1:Nat):Int))=decide (b - pt.1≥(b - a) / 8) by congr 1; exact propext (by omega)]
   exact k2
theorem Zng {n:Nat} (h:n<200):Q0.f (IntKind.u64.wrap (n:Int))=some ((Go.Sort.bitsLen n:Nat):Int):=by
 unfold Q0.f
 rw [Zbl,Nat.mod_eq_of_lt (by omega),Zpk ⟨n,h⟩,Option.bind_some]
theorem Zmu {l:TU} (h:l.length<200):Ev (fun k=>Q107.f k l) (l.mergeSort fun x y=>decide (x≤y)):=by
 have e:=Go.Sort.sortInt l
 have hb:Go.Sort.bitsLen l.length≤100:=(Go.Sort.bitsLen_le_iff _ _).2 (Nat.lt_of_lt_of_le h (by decide))
 have hp:=Zp4 l.length l.toArray 0 l.toArray.size (Go.Sort.bitsLen l.toArray.size) true true (by simp) (Nat.zero_le _) (T6 _) (by simpa using h) (by simpa using hb) (Or.inl rfl)
 have e2:(Go.Sort.pdq ltI l.toArray 0 l.toArray.size (Go.Sort.bitsLen l.toArray.size) true true).toList=l.mergeSort fun x y=>decide (x≤y):=e
 rw [e2] at hp
 have hf:Ev (fun k=>Q119.f k l 0 (l.length:Int) ((Go.Sort.bitsLen l.length:Nat):Int)) (l.mergeSort fun x y=>decide (x≤y)):=hp.step fun k hk=>by
  rw [Q119.f]
  simpa using hk
 refine hf.next fun k hk=>?_
 unfold Q107.f
 rw [Zng h,Option.bind_some,hk,Option.bind_some]
end Go.SK.T
