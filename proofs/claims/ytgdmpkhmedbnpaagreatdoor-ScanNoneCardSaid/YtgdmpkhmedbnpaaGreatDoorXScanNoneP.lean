/- The plain law behind ScanNone: what its code computes is true for all settings, blocks, spans and limits. -/
import Derived.Test.YtgdmpkhmedbnpaaGreatDoorXScanNoneP0
import Derived.KernelRfl
import Derived.Sort.Walk13a
import Derived.Sort.AssemblyPlain
set_option linter.unusedVariables false
set_option linter.unusedSimpArgs false
namespace Go.SK.T
open Go Go.SK
def Va (c:Cfg):Nat→List UInt8×Int→List Msg→List Msg×TN
 | 0,s,acc=>(acc,s)
 | m+1,s,acc=>Va c m (Vp c (Z7 s 1).2).2 (acc ++ [((Vp c (Z7 s 1).2).1.1,decide (((Z7 s 1).1:Int)=2),(Vp c (Z7 s 1).2).1.2)])
theorem Zgm {c:Cfg} (hc:OkC c) (lv:Int) (bf:Nat) (ks:TX) (ps:TM):∀(m i k:Nat) (s:TN) (acc:List Msg),min (cBu c) bf=i+m→m+2100<k→acc.length+m≤5000→Q43.l2 k c lv (bf:Int) ks ps (iS s).1 (iS s).2 acc (i:Int)=some ((lv,ks,ps,(Va c m s acc).1,([]:List Pr)),((iS (Va c m s acc).2).1,(iS (Va c m s acc).2).2))
 | 0,i,k+1,s,acc,h,hk,ha=>by
  have hi:=hc.int
  rw [Q43.l2,hi.b,if_neg (by simp only [decide_eq_true_eq]; split <;> omega)]
  rfl
 | m+1,i,k+1,s,acc,h,hk,ha=>by
  obtain ⟨c1,c2,c3,c4,c5,c6,c7,c8,c9⟩:=hc.nat
  have hi:=hc.int
  rw [Q43.l2]; (try rw [Jc]); rw [hi.b,if_pos (decide_eq_true (by split <;> omega)),show Q159.f k ((iS s).1,(iS s).2) 1=_ from U8 s (w:=1) (.inl rfl) (by omega),Option.bind_some]
  dsimp only
  rw [Zig hc _ (by omega),Option.bind_some,if_pos (by simp only [List.length_singleton]; omega),Y8 (by omega)]
  exact Zgm hc lv bf ks ps m (i+1) k _ _ (by omega) (by omega) (by simp; omega)
theorem Zc2 {c:Cfg} (hc:OkC c) (lv:Int) (cnt bf:Nat) (hcnt:cnt≤100000) (ks:TX):∀(m i k:Nat) (s:TN) (acc:TM),cFa c - 1=i+m→m+3200<k→acc.length+m≤5000→
  Q43.l1 k c lv (cnt:Int) (bf:Int) ks (iS s).1 (iS s).2 acc (i:Int)=some ((lv,ks,(W6 c m i cnt s acc).1,(Va c (min (cBu c) bf) (W6 c m i cnt s acc).2 []).1,([]:List Pr)),((iS (Va c (min (cBu c) bf) (W6 c m i cnt s acc).2 []).2).1,(iS (Va c (min (cBu c) bf) (W6 c m i cnt s acc).2 []).2).2))
 | 0,i,k+1,s,acc,h,hk,ha=>by
  obtain ⟨c1,c2,c3,c4,c5,c6,c7,c8,c9⟩:=hc.nat
  have hi:=hc.int
  rw [Q43.l1,hi.f,Z3 (x:=(cFa c:Int) - 1) (by omega) (by omega),if_neg (by simp only [decide_eq_true_eq]; omega)]
  exact Zgm hc lv bf ks acc (min (cBu c) bf) 0 k s [] (by omega) (by omega) (by simp; omega)
 | m+1,i,k+1,s,acc,h,hk,ha=>by
  obtain ⟨c1,c2,c3,c4,c5,c6,c7,c8,c9⟩:=hc.nat
  have hi:=hc.int
  have l1:=Vj s 1
  rw [Q43.l1,hi.f,Z3 (x:=(cFa c:Int) - 1) (by omega) (by omega),if_pos (decide_eq_true (by omega)),show Q159.f k ((iS s).1,(iS s).2) 1=_ from U8 s (w:=1) (.inl rfl) (by omega),Option.bind_some]
  dsimp only
  rw [Z3 (x:=((Z7 s 1).1:Int)) (by omega) (by omega),hi.k,Zee _ _ (by omega) (by omega),Option.bind_some,Y8 (by omega)]
  dsimp only
  by_cases q:i+1<cnt
  ·rw [if_pos (decide_eq_true (by omega)),if_pos (by simp only [List.length_singleton]; omega)]
   have:=Zc2 hc lv cnt bf hcnt ks m (i+1) k (Ub (Z7 s 1).2 (Z7 s 1).1 (cK c)).2 (acc ++ [(Ub (Z7 s 1).2 (Z7 s 1).1 (cK c)).1]) (by omega) (by omega) (by simp; omega)
   rw [this,W6,if_pos q]
  ·rw [if_neg (by simp only [decide_eq_true_eq]; omega)]
   have:=Zc2 hc lv cnt bf hcnt ks m (i+1) k (Ub (Z7 s 1).2 (Z7 s 1).1 (cK c)).2 acc (by omega) (by omega) (by omega)
   rw [this,W6,if_neg q]
def Zl1 (c:Cfg) (lv:Int) (cnt bf:Nat) (s:TN):Nd×TN:=
 let a:=Vh (cFa c) 0 cnt s []
 let b:=W6 c (cFa c - 1) 0 cnt a.2 []
 let d:=Va c (min (cBu c) bf) b.2 []
 ((lv,a.1,b.1,d.1,[]),d.2)
theorem Zl8 {n:Nat} (h:n<4294967296):IntKind.u32.wrap (n:Int)=(n:Int):=by
 have:IntKind.u32.wrap (n:Int)=((n % 4294967296:Nat):Int):=by simp [IntKind.wrap,IntKind.bits,IntKind.signed]
 rw [this,Nat.mod_eq_of_lt h]
theorem Zcw {c:Cfg} (hc:OkC c) (lv:Int) (cnt bf:Nat) (hcnt:cnt≤100000):∀(m i k:Nat) (s:TN) (acc:TX),cFa c=i+m→m+4000<k→acc.length+m≤5000→
  Q43.l0 k c lv (cnt:Int) (bf:Int) (iS s).1 (iS s).2 acc (i:Int)=some ((lv,(Vh m i cnt s acc).1,(W6 c (cFa c - 1) 0 cnt (Vh m i cnt s acc).2 []).1,(Va c (min (cBu c) bf) (W6 c (cFa c - 1) 0 cnt (Vh m i cnt s acc).2 []).2 []).1,([]:List Pr)),((iS (Va c (min (cBu c) bf) (W6 c (cFa c - 1) 0 cnt (Vh m i cnt s acc).2 []).2 []).2).1,(iS (Va c (min (cBu c) bf) (W6 c (cFa c - 1) 0 cnt (Vh m i cnt s acc).2 []).2 []).2).2))
 | 0,i,k+1,s,acc,h,hk,ha=>by
  obtain ⟨c1,c2,c3,c4,c5,c6,c7,c8,c9⟩:=hc.nat
  have hi:=hc.int
  rw [Q43.l0,hi.f,if_neg (by simp only [decide_eq_true_eq]; omega)]
  exact Zc2 hc lv cnt bf hcnt acc (cFa c - 1) 0 k s [] (by omega) (by omega) (by simp; omega)
 | m+1,i,k+1,s,acc,h,hk,ha=>by
  obtain ⟨c1,c2,c3,c4,c5,c6,c7,c8,c9⟩:=hc.nat
  have hi:=hc.int
  have l1:=Vj s 4
  rw [Q43.l0,hi.f,if_pos (decide_eq_true (by omega)),show Q159.f k ((iS s).1,(iS s).2) 4=_ from U8 s (w:=4) (.inr (.inr rfl)) (by omega),Option.bind_some,Y8 (by omega)]
  dsimp only
  rw [Zl8 (by omega)]
  by_cases q:i<cnt
  ·rw [if_pos (decide_eq_true (by omega)),if_pos (by simp only [List.length_singleton]; omega)]
   have:=Zcw hc lv cnt bf hcnt m (i+1) k (Z7 s 4).2 (acc ++ [((Z7 s 4).1:Int)]) (by omega) (by omega) (by simp; omega)
   rw [this,Vh,if_pos q]
  ·rw [if_neg (by simp only [decide_eq_true_eq]; omega)]
   have:=Zcw hc lv cnt bf hcnt m (i+1) k (Z7 s 4).2 acc (by omega) (by omega) (by omega)
   rw [this,Vh,if_neg q]
def Wo (c:Cfg) (b:TS):Nd×TN:=
 let a1:=Z7 (b,0) 1
 let a2:=Z7 a1.2 1
 let a3:=Z7 a2.2 2
 let a4:=Z7 a3.2 2
 let z:=Jl a4.2 2
 if a1.1=1 then ((0,[],[],[],(G7 c (min (cLe c) a3.1) z []).1),(G7 c (min (cLe c) a3.1) z []).2)
 else if a1.1=2 then Zl1 c (if a2.1>1 then (a2.1:Int) else 1) a3.1 a4.1 z
 else ((-1,[],[],[],[]),z)
theorem Zey (c:Cfg):∀(m:Nat) (s:TN) (acc:List Pr),(G7 c m s acc).1.length=acc.length+m
 | 0,_,_=>rfl
 | m+1,s,acc=>by rw [G7,Zey c m,List.length_append,List.length_singleton]; omega
theorem Zds (c:Cfg):∀(m:Nat) (s:TN) (acc:List Msg),(Va c m s acc).1.length=acc.length+m
 | 0,_,_=>rfl
 | m+1,s,acc=>by rw [Va,Zds c m,List.length_append,List.length_singleton]; omega
theorem Zdl (c:Cfg):∀(m i cnt:Nat) (s:TN) (acc:TM),(W6 c m i cnt s acc).1.length≤acc.length+m
 | 0,_,_,_,_=>Nat.le_refl _
 | m+1,i,cnt,s,acc=>by
  rw [W6]
  refine Nat.le_trans (Zdl c m _ _ _ _) ?_
  split
  ·rw [List.length_append,List.length_singleton]; omega
  ·omega
theorem Bp:∀(m i cnt:Nat) (s:TN) (acc:TX),(∀ x∈acc,0≤x∧x<4294967296)→(Vh m i cnt s acc).1.length≤acc.length+m∧∀ x∈(Vh m i cnt s acc).1,0≤x∧x<4294967296
 | 0,_,_,_,_,h=>⟨Nat.le_refl _,h⟩
 | m+1,i,cnt,s,acc,h=>by
  rw [Vh]
  have hv:=Vj s 4
  by_cases q:i<cnt
  ·rw [if_pos q]
   obtain ⟨g1,g2⟩:=Bp m (i+1) cnt (Z7 s 4).2 (acc ++ [((Z7 s 4).1:Int)]) (by
    intro x hx
    rcases List.mem_append.1 hx with hx | hx
    ·exact h x hx
    ·rw [List.mem_singleton] at hx; omega)
   rw [List.length_append,List.length_singleton] at g1
   exact ⟨by omega,g2⟩
  ·rw [if_neg q]
   obtain ⟨g1,g2⟩:=Bp m (i+1) cnt (Z7 s 4).2 acc h
   exact ⟨by omega,g2⟩
structure Rd (n:Nd):Prop where
 kids:n.2.1.length≤64
 pivs:n.2.2.1.length≤64
 buf:n.2.2.2.1.length≤512
 prs:n.2.2.2.2.length≤1024
 kd:∀ x∈n.2.1,0≤x∧x<4294967296
theorem Zjb {c:Cfg} (hc:OkC c) (b:TS):Rd (Wo c b).1:=by
 obtain ⟨c1,c2,c3,c4,c5,c6,c7,c8,c9⟩:=hc.nat
 unfold Wo
 dsimp only
 split
 ·refine ⟨by simp,by simp,by simp,?_,by simp⟩
  show (G7 c _ _ []).1.length≤1024
  rw [Zey,List.length_nil]; omega
 ·split
  ·unfold Zl1
   dsimp only
   obtain ⟨g1,g2⟩:=Bp (cFa c) 0 (Z7 (Z7 (Z7 (b,0) 1).2 1).2 2).1 (Jl (Z7 (Z7 (Z7 (Z7 (b,0) 1).2 1).2 2).2 2).2 2) [] (by simp)
   rw [List.length_nil] at g1
   refine ⟨by show (Vh _ _ _ _ _).1.length≤64; omega,?_,?_,by simp,g2⟩
   ·show (W6 c _ _ _ _ []).1.length≤64
    refine Nat.le_trans (Zdl c _ _ _ _ _) ?_
    rw [List.length_nil]; omega
   ·show (Va c _ _ []).1.length≤512
    rw [Zds,List.length_nil]; omega
  ·exact ⟨by simp,by simp,by simp,by simp,by simp⟩
theorem Znu {k:Nat} {a b:TX} (ha:a.length≤1000000) (hk:a.length<k):Q108.f k a b=some (decide (a=b)):=by
 unfold Q108.f
 by_cases h:a.length=b.length
 ·rw [if_neg (by simp [h])]
  have:=Jy (F:=fun k i=>Q108.l0 k a b i) (eqb:=fun x y=>decide (x=y)) (fun x y=>rfl) h ha (fun k i=>rfl) k 0 (by omega) (by omega)
  simpa using this
 ·rw [if_pos (by simp; omega)]
  have:a≠b:=fun e=>h (by rw [e])
  simp [this]
def Um:Nd:=(0,[],[],[],[])
def Zhf (c:Cfg) (b:TS) (n:Nd) (e:Int):Nd×Int:=if e=0 then (if Vm c Bx n=true then (if Uw c n=b then (n,0) else (Um,12)) else (Um,12)) else (Um,12)
def Zbh (c:Cfg) (b:TS):Nd×Int:=if okB c=true then Zhf c b (Wo c b).1 (Wo c b).2.2 else (Um,2)
theorem Zk5 {a b:TS}:toB a=toB b↔a=b:=⟨fun e=>by rw [← Zcx a,e,Zcx],fun e=>by rw [e]⟩
theorem Zgn {c:Cfg} {n:Nd} (hok:okB c=true) (hn:FitN c n):(Uw c n).length=cBy c:=Gh (Zcs hok hn).1
theorem Znp {c:Cfg} {b:TS} (hok:okB c=true) {n:Nd} {s:TN} {k:Nat} (hk:70000<k) (hl:∀ x∈n.2.1,0≤x∧x<4294967296) (he:Q39.f k c n=some (Ze0 c n)):((Q158.f ((iS s).1,(iS s).2)).bind fun r9=>(if (!decide (r9=0))=true then (some (Um,(12:Int))) else ((Q39.f k c n).bind fun r10=>(if (!decide (r10.2=0))=true then some (Um,(12:Int)) else ((Q108.f k r10.1 (toB b)).bind fun r11=>(if (!r11)=true then some (Um,(12:Int)) else some (n,(0:Int))))))))=some (Zhf c b n s.2):=by
 unfold Q158.f Zhf iS
 rw [Option.bind_some,he]
 try dsimp only
 by_cases h0:s.2=0
 ·rw [if_neg (by simp [h0]),if_pos h0,Option.bind_some]
  unfold Ze0
  rw [if_pos hok]
  cases hr:Vm c Bx n with
  | false=>rfl
  | true=>
   have hn:=Zdj (Zhq hok) hl hr
   have r2:=(Zcs hok hn).2.1
   rw [if_pos rfl,if_pos rfl]
   try dsimp only
   rw [if_neg (by simp),Znu (by rw [Yd,Zgn hok hn]; omega) (by rw [Yd,Zgn hok hn]; omega),Option.bind_some]
   by_cases e:Uw c n=b
   ·rw [if_neg (by simp [e]),if_pos e]
   ·rw [if_pos (by simp [Zk5,e]),if_neg e]
 ·rw [if_pos (by simp [h0]),if_neg h0]
theorem Zlv {l:TX} (hl:l.length≤1000000):Q99.f l=some l:=by
 unfold Q99.f
 rw [if_pos (by simp; omega)]
 simp
theorem Zn3 {c:Cfg} {b:TS} (hb:b.length≤100000):Ev (fun k=>Q38.f k c (toB b)) (Zbh c b):=by
 by_cases hok:okB c=true
 ·have hc:=Zhq hok
  have hr:=Zjb hc b
  obtain ⟨k1,h1⟩:=Zmb (c:=c) (n:=(Wo c b).1) (by have:=hr.kids; omega) (by have:=hr.pivs; omega) (by have:=hr.buf; omega) (by have:=hr.prs; omega) hr.kd
  refine ⟨k1+80000,fun k hk=>?_⟩
  have he:=h1 k (by omega)
  have tl:=Znp (b:=b) (s:=(Wo c b).2) hok (show 70000<k by omega) hr.kd he
  have hi:=hc.int
  unfold Zbh
  rw [if_pos hok,← tl]
  show Q38.f k c (toB b)=_
  unfold Q38.f Q156.f
  (try rw [Jc]); rw [Zb9,Option.bind_some,if_pos hok,if_neg (by simp),Zlv (by rw [Yd]; omega),Option.bind_some,Option.bind_some]
  try dsimp only
  have l1:=Vj (b,0) 1
  have l2:=Vj (Z7 (b,0) 1).2 1
  have l3:=Vj (Z7 (Z7 (b,0) 1).2 1).2 2
  have l4:=Vj (Z7 (Z7 (Z7 (b,0) 1).2 1).2 2).2 2
  rw [show Q159.f k (toB b,(0:Int)) 1=_ from U8 (b,0) (w:=1) (.inl rfl) (by omega),Option.bind_some]
  try dsimp only
  rw [show Q159.f k _ 1=_ from U8 (Z7 (b,0) 1).2 (w:=1) (.inl rfl) (by omega),Option.bind_some]
  try dsimp only
  rw [show Q159.f k _ 2=_ from U8 (Z7 (Z7 (b,0) 1).2 1).2 (w:=2) (.inr (.inl rfl)) (by omega),Option.bind_some]
  try dsimp only
  rw [show Q159.f k _ 2=_ from U8 (Z7 (Z7 (Z7 (b,0) 1).2 1).2 2).2 (w:=2) (.inr (.inl rfl)) (by omega),Option.bind_some]
  try dsimp only
  rw [show Q163.f k _ 2=_ from Zks (Z7 (Z7 (Z7 (Z7 (b,0) 1).2 1).2 2).2 2).2 (n:=2) (by omega) (by omega),Option.bind_some]
  try dsimp only
  by_cases q1:(Z7 (b,0) 1).1=1
  ·have er:Wo c b=_:=if_pos q1
   rw [er,if_pos (decide_eq_true (by omega)),Z3 (x:=((Z7 (Z7 (Z7 (b,0) 1).2 1).2 2).1:Int)) (by omega) (by omega)]
   rw [show Q44.f k c _ (((Z7 (Z7 (Z7 (b,0) 1).2 1).2 2).1:Nat):Int)=_ from Zfi hc (Z7 (Z7 (Z7 (b,0) 1).2 1).2 2).1 (min (cLe c) (Z7 (Z7 (Z7 (b,0) 1).2 1).2 2).1) 0 k (Jl (Z7 (Z7 (Z7 (Z7 (b,0) 1).2 1).2 2).2 2).2 2) [] (by omega) (by have:=hc.nat; omega) (by have:=hc.nat; simp; omega),Option.bind_some]
   rfl
  ·rw [if_neg (by simp only [decide_eq_true_eq]; omega)]
   by_cases q2:(Z7 (b,0) 1).1=2
   ·have er:Wo c b=_:=(if_neg q1).trans (if_pos q2)
    rw [er,if_pos (decide_eq_true (by omega)),Z3 (x:=((Z7 (Z7 (Z7 (b,0) 1).2 1).2 2).1:Int)) (by omega) (by omega),Z3 (x:=((Z7 (Z7 (b,0) 1).2 1).1:Int)) (by omega) (by omega),Z3 (x:=((Z7 (Z7 (Z7 (Z7 (b,0) 1).2 1).2 2).2 2).1:Int)) (by omega) (by omega),
     show (if (((Z7 (Z7 (b,0) 1).2 1).1:Nat):Int)>1 then (((Z7 (Z7 (b,0) 1).2 1).1:Nat):Int) else 1)=(if (Z7 (Z7 (b,0) 1).2 1).1>1 then (((Z7 (Z7 (b,0) 1).2 1).1:Nat):Int) else 1) by split <;> split <;> omega]
    rw [show Q43.f k c _ _ _ _=_ from Zcw hc (if (Z7 (Z7 (b,0) 1).2 1).1>1 then (((Z7 (Z7 (b,0) 1).2 1).1:Nat):Int) else 1) (Z7 (Z7 (Z7 (b,0) 1).2 1).2 2).1 (Z7 (Z7 (Z7 (Z7 (b,0) 1).2 1).2 2).2 2).1 (by omega) (cFa c) 0 k (Jl (Z7 (Z7 (Z7 (Z7 (b,0) 1).2 1).2 2).2 2).2 2) [] (by omega) (by have:=hc.nat; omega) (by have:=hc.nat; simp; omega),Option.bind_some]
    rfl
   ·have er:Wo c b=_:=(if_neg q1).trans (if_neg q2)
    rw [er,if_neg (by simp only [decide_eq_true_eq]; omega)]
    rfl
 ·refine ⟨0,fun k _=>?_⟩
  show Q38.f k c (toB b)=_
  unfold Q38.f Zbh
  (try rw [Jc]); rw [Zb9,Option.bind_some,if_neg hok,if_neg hok,if_pos (by simp)]
  rfl
theorem Zkx {c:Cfg} {b:TS} (hok:okB c=true):(Zbh c b=((Wo c b).1,0)∧Vm c Bx (Wo c b).1=true∧Uw c (Wo c b).1=b)∨Zbh c b=(Um,12):=by
 unfold Zbh Zhf
 rw [if_pos hok]
 by_cases h1:(Wo c b).2.2=0
 ·rw [if_pos h1]
  by_cases h2:Vm c Bx (Wo c b).1=true
  ·rw [if_pos h2]
   by_cases h3:Uw c (Wo c b).1=b
   ·rw [if_pos h3]; exact .inl ⟨rfl,h2,h3⟩
   ·rw [if_neg h3]; exact .inr rfl
  ·rw [if_neg h2]; exact .inr rfl
 ·rw [if_neg h1]; exact .inr rfl
abbrev Lnk:=Int×Int×Bool
abbrev Chn:=List Lnk×Int
def ah (l:List Lnk) (k:Nat):Int:=(l.getD k default).1
def bh (l:List Lnk) (k:Nat):Int:=(l.getD k default).2.1
def inn (l:List Lnk) (k:Nat):Bool:=(l.getD k default).2.2
theorem Xh {α:Type} {l:List α} {j k:Nat} {v d:α} (hj:j<l.length):(l.set j v).getD k d=if j=k then v else l.getD k d:=by
 rw [List.getD_eq_getElem?_getD,List.getD_eq_getElem?_getD,List.getElem?_set]
 split
 ·rename_i h
  subst h
  simp [hj]
 ·rfl
def Lk (l:List Lnk) (a b:Nat):Prop:=bh l a=(b:Int)∧ah l b=(a:Int)
def Wj (l:List Lnk):Nat→List Nat→Prop
 | _,[]=>True
 | a,x :: L=>Lk l a x∧Wj l x L
def Vo:Nat→List Nat→Nat
 | a,[]=>a
 | _,x :: L=>Vo x L
theorem Gv {l:List Lnk}:∀ {a:Nat} {X Y:List Nat},Wj l a (X ++ Y)↔Wj l a X∧Wj l (Vo a X) Y
 | a,[],Y=>by simp [Wj,Vo]
 | a,x :: X,Y=>by
  rw [List.cons_append,Wj,Wj,Vo,Gv,and_assoc]
theorem Us:∀ {a:Nat} {L:List Nat},Vo a L∈a :: L
 | a,[]=>by simp [Vo]
 | a,x :: L=>by
  rw [Vo]
  have:=Us (a:=x) (L:=L)
  simp only [List.mem_cons] at this ⊢
  rcases this with h | h
  ·exact .inr (.inl h)
  ·exact .inr (.inr h)
theorem Jq {l l':List Lnk}:∀ {a:Nat} {L:List Nat},(∀ x∈(a :: L).dropLast,bh l' x=bh l x)→(∀ y∈L,ah l' y=ah l y)→Wj l a L→Wj l' a L
 | a,[],_,_,_=>trivial
 | a,x :: L,h1,h2,h=>by
  rw [Wj] at h ⊢
  refine ⟨⟨?_,?_⟩,Jq (fun y hy=>h1 y ?_) (fun y hy=>h2 y (by simp [hy])) h.2⟩
  ·rw [h1 a (by simp)]; exact h.1.1
  ·rw [h2 x (by simp)]; exact h.1.2
  ·rw [List.dropLast_cons_of_ne_nil (by simp)]
   exact List.mem_cons_of_mem _ hy
structure ChI (n:Nat) (c:Chn) (L:List Nat):Prop where
 len:c.1.length=n+1
 cnt:c.2=(L.length:Int)
 nd:L.Nodup
 lt:∀ x∈L,x<n
 inn:∀ x,x≤n→(inn c.1 x=true↔x∈L)
 ring:Wj c.1 n (L ++ [n])
theorem Zeq:∀ {n:Nat} {L:List Nat},L.Nodup→(∀ x∈L,x<n)→L.length≤n
 | 0,[],_,_=>Nat.le_refl _
 | 0,x :: L,_,h=>by have:=h x (by simp); omega
 | n+1,L,hd,h=>by
  have:=Zeq (n:=n) (hd.erase n) fun x hx=>by
   have h1:=h x (List.mem_of_mem_erase hx)
   have h2:=(hd.mem_erase_iff.1 hx).1
   omega
  rw [List.length_erase] at this
  split at this <;> omega
theorem ChI.short {n:Nat} {c:Chn} {L:List Nat} (h:ChI n c L):L.length≤n:=Zeq h.nd h.lt
theorem Ga:∀ {a:Nat} {L:List Nat},(a :: L).Nodup→∀ x∈(a :: L).dropLast,x≠Vo a L
 | a,[],_,x,hx=>by simp at hx
 | a,y :: L,hd,x,hx=>by
  rw [List.dropLast_cons_of_ne_nil (by simp),List.mem_cons] at hx
  rw [Vo]
  rcases hx with rfl | hx
  ·exact fun e=>(List.nodup_cons.1 hd).1 (e ▸ Us)
  ·exact Ga (List.nodup_cons.1 hd).2 x hx
theorem gtl (l:List Lnk) (k:Nat):gt l (k:Int)=(ah l k,bh l k,SK.T.inn l k):=by
 rw [Yx]; rfl
section
variable {n:Nat} {c:Chn} {L:List Nat}
theorem ChI.split (h:ChI n c L) {i:Nat} (hi:i∈L):∃(P S:List Nat) (s:Nat) (T:List Nat),L=P ++ i :: S∧S ++ [n]=s :: T∧Wj c.1 n P∧Lk c.1 (Vo n P) i∧Lk c.1 i s∧Wj c.1 s T∧Vo n P≤n∧s≤n:=by
 obtain ⟨P,S,rfl⟩:=List.append_of_mem hi
 obtain ⟨s,T,e⟩:∃ s T,S ++ [n]=s :: T:=by
  cases S with
  | nil=>exact ⟨n,[],rfl⟩
  | cons x S=>exact ⟨x,S ++ [n],rfl⟩
 have hr:=h.ring
 rw [List.append_assoc,List.cons_append,Gv,Wj,e,Wj] at hr
 refine ⟨P,S,s,T,rfl,e,hr.1,hr.2.1,hr.2.2.1,hr.2.2.2,?_,?_⟩
 ·have:=Us (a:=n) (L:=P)
  rcases List.mem_cons.1 this with h1 | h1
  ·omega
  ·have:=h.lt _ (List.mem_append_left _ h1); omega
 ·have:s∈S ++ [n]:=by rw [e]; simp
  rcases List.mem_append.1 this with h1 | h1
  ·have:=h.lt s (by simp [h1]); omega
  ·simp at h1; omega
theorem Zn7 (h:ChI n c L) {i:Nat} (hi:i∈L) (hn:n≤1000):∃ c',Q31.f c (i:Int)=some c'∧ChI n c' (L.erase i):=by
 obtain ⟨P,S,s,T,e1,e2,r1,r2,r3,r4,hp,hs⟩:=h.split hi
 have hin:=h.lt i hi
 have hlen:=h.len
 generalize hpe:Vo n P=p at *
 have ei:SK.T.inn c.1 i=true:=(h.inn i (by omega)).2 hi
 have nd:(P ++ i :: S).Nodup:=e1 ▸ h.nd
 have nd2:=List.nodup_append.1 nd
 have ndS:=(List.nodup_cons.1 nd2.2.1)
 have hnP:n∉P:=fun hx=>by have:=h.lt n (by rw [e1]; simp [hx]); omega
 have hnS:n∉S:=fun hx=>by have:=h.lt n (by rw [e1]; simp [hx]); omega
 have hiP:i∉P:=fun hx=>nd2.2.2 i hx i (by simp) rfl
 have hpi:p≠i:=fun e=>by
  have:p∈n :: P:=hpe ▸ Us
  rcases List.mem_cons.1 this with h1 | h1
  ·omega
  ·exact hiP (e ▸ h1)
 have hsi:s≠i:=fun e=>by
  have:s∈S ++ [n]:=by rw [e2]; simp
  rcases List.mem_append.1 this with h1 | h1
  ·exact ndS.1 (e ▸ h1)
  ·simp at h1; omega
 have a1:(gt c.1 (i:Int)).1=(p:Int):=by rw [gtl]; exact r2.2
 have a2:(gt c.1 (i:Int)).2.1=(s:Int):=by rw [gtl]; exact r3.1
 have a3:(gt c.1 (i:Int)).2.2=true:=by rw [gtl]; exact ei
 unfold Q31.f
 rw [if_pos (by omega),a3,if_neg (by simp),a1,a2,if_pos (by omega),if_pos (by rw [List.length_set]; omega),if_pos (by rw [List.length_set,List.length_set]; omega)]
 simp only [Int.toNat_natCast,gtl]
 generalize hl1:c.1.set p (ah c.1 p,(s:Int),SK.T.inn c.1 p)=l1
 have hl1l:l1.length=n+1:=by rw [← hl1,List.length_set,hlen]
 generalize hl2:l1.set s ((p:Int),bh l1 s,SK.T.inn l1 s)=l2
 have hl2l:l2.length=n+1:=by rw [← hl2,List.length_set,hl1l]
 have g1:∀ k,l1.getD k default=if p=k then (ah c.1 p,(s:Int),SK.T.inn c.1 p) else c.1.getD k default:=fun k=>by rw [← hl1]; exact Xh (by omega)
 have g2:∀ k,l2.getD k default=if s=k then ((p:Int),bh l1 s,SK.T.inn l1 s) else l1.getD k default:=fun k=>by rw [← hl2]; exact Xh (by omega)
 have g3:∀ k,(l2.set i (0,0,false)).getD k default=if i=k then (0,0,false) else l2.getD k default:=fun k=>Xh (by omega)
 have b1:∀ k,bh l1 k=if p=k then (s:Int) else bh c.1 k:=fun k=>by unfold bh; rw [g1 k]; split <;> rfl
 have n1:∀ k,SK.T.inn l1 k=SK.T.inn c.1 k:=fun k=>by
  show (l1.getD k default).2.2=_
  rw [g1 k]; split
  ·rename_i e; rw [← e]
  ·rfl
 have c1:∀ k,ah l1 k=ah c.1 k:=fun k=>by
  show (l1.getD k default).1=_
  rw [g1 k]; split
  ·rename_i e; rw [← e]
  ·rfl
 have b3:∀ k,k≠i→bh (l2.set i (0,0,false)) k=if p=k then (s:Int) else bh c.1 k:=fun k hk=>by
  show ((l2.set i (0,0,false)).getD k default).2.1=_
  rw [g3 k,if_neg (Ne.symm hk),g2 k]
  split
  ·rename_i e; rw [← e]; exact b1 s
  ·exact b1 k
 have c3:∀ k,k≠i→ah (l2.set i (0,0,false)) k=if s=k then (p:Int) else ah c.1 k:=fun k hk=>by
  show ((l2.set i (0,0,false)).getD k default).1=_
  rw [g3 k,if_neg (Ne.symm hk),g2 k]
  split
  ·rfl
  ·exact c1 k
 have n3:∀ k,SK.T.inn (l2.set i (0,0,false)) k=if i=k then false else SK.T.inn c.1 k:=fun k=>by
  show ((l2.set i (0,0,false)).getD k default).2.2=_
  rw [g3 k]
  split
  ·rfl
  ·rw [g2 k]
   split
   ·rename_i e; rw [← e]; exact n1 s
   ·exact n1 k
 have el:L.erase i=P ++ S:=by
  rw [e1,List.erase_append_right _ hiP,List.erase_cons_head]
 refine ⟨_,rfl,⟨by rw [List.length_set,hl2l],?_,?_,?_,?_,?_⟩⟩
 ·rw [el,h.cnt,e1]
  have:=h.short
  rw [e1] at this
  simp only [List.length_append,List.length_cons] at this ⊢
  rw [Z3 (by omega) (by omega)]; omega
 ·exact h.nd.erase i
 ·exact fun x hx=>h.lt x (List.mem_of_mem_erase hx)
 ·intro x hx
  rw [n3 x,h.nd.mem_erase_iff]
  split
  ·rename_i e; simp [e]
  ·rename_i e
   rw [h.inn x hx]
   exact ⟨fun g=>⟨fun e'=>e e'.symm,g⟩,fun g=>g.2⟩
 ·rw [el,List.append_assoc,e2,Gv,hpe,Wj]
  have hTs:∀ y∈T,y≠s∧y≠i:=fun y hy=>by
   have hnd:(S ++ [n]).Nodup:=List.nodup_append.2 ⟨ndS.2,by simp,fun a ha b hb e=>by simp at hb; exact hnS (hb ▸ e ▸ ha)⟩
   rw [e2] at hnd
   refine ⟨fun e=>(List.nodup_cons.1 hnd).1 (e ▸ hy),fun e=>?_⟩
   have:y∈S ++ [n]:=by rw [e2]; simp [hy]
   rcases List.mem_append.1 this with h1 | h1
   ·exact ndS.1 (e ▸ h1)
   ·simp at h1; omega
  have hsT:∀ x∈(s :: T).dropLast,x≠p∧x≠i:=fun x hx=>by
   rw [← e2,List.dropLast_concat] at hx
   refine ⟨fun e=>?_,fun e=>ndS.1 (e ▸ hx)⟩
   have:p∈n :: P:=hpe ▸ Us
   rcases List.mem_cons.1 this with h1 | h1
   ·exact hnS (h1 ▸ e ▸ hx)
   ·exact nd2.2.2 p h1 x (by simp [hx]) e.symm
  have hPp:∀ x∈(n :: P).dropLast,x≠p∧x≠i:=fun x hx=>by
   have hnd:(n :: P).Nodup:=List.nodup_cons.2 ⟨hnP,nd2.1⟩
   refine ⟨hpe ▸ Ga hnd x hx,fun e=>?_⟩
   have:=List.dropLast_subset _ hx
   rcases List.mem_cons.1 this with h1 | h1
   ·omega
   ·exact hiP (e ▸ h1)
  have hPs:∀ y∈P,y≠s∧y≠i:=fun y hy=>by
   refine ⟨fun e=>?_,fun e=>hiP (e ▸ hy)⟩
   have:s∈S ++ [n]:=by rw [e2]; simp
   rcases List.mem_append.1 this with h1 | h1
   ·exact nd2.2.2 y hy s (by simp [h1]) e
   ·simp at h1; exact hnP (h1 ▸ e ▸ hy)
  refine ⟨Jq (fun x hx=>by rw [b3 x (hPp x hx).2,if_neg (Ne.symm (hPp x hx).1)]) (fun y hy=>by rw [c3 y (hPs y hy).2,if_neg (Ne.symm (hPs y hy).1)]) r1,⟨by rw [b3 p hpi,if_pos rfl],by rw [c3 s hsi,if_pos rfl]⟩,
   Jq (fun x hx=>by rw [b3 x (hsT x hx).2,if_neg (Ne.symm (hsT x hx).1)]) (fun y hy=>by rw [c3 y (hTs y hy).2,if_neg (Ne.symm (hTs y hy).1)]) r4⟩
theorem Zh3 (h:ChI n c L) {i:Nat} (hi:i<n) (hn:n≤1000):Q34.f c (i:Int)=some 0:=by
 have hlen:=h.len
 unfold Q34.f Q33.f
 try dsimp only
 rw [if_neg (by simp only [decide_eq_true_eq]; omega),if_neg (by simp only [decide_eq_true_eq]; omega),Option.bind_some,Z3 (by omega) (by omega),if_neg (by simp only [decide_eq_true_eq]; omega)]
theorem Zj4 (h:ChI n c L) {i:Nat} (hi:i<n) (hn:n≤1000):∃ r c',Q27.f c (i:Int)=some (r,c')∧ChI n c' (L.erase i):=by
 have hlen:=h.len
 unfold Q27.f
 rw [show Q34.f (c.1,c.2) (i:Int)=_ from Zh3 h hi hn,Option.bind_some,if_neg (by simp),if_pos (by omega),gtl]
 by_cases hm:i∈L
 ·rw [if_neg (by simp [(h.inn i (by omega)).2 hm])]
  obtain ⟨c',e,h'⟩:=Zn7 h hm hn
  rw [show Q31.f (c.1,c.2) (i:Int)=_ from e,Option.bind_some]
  exact ⟨_,_,rfl,h'⟩
 ·have:SK.T.inn c.1 i=false:=by
   cases q:SK.T.inn c.1 i with
   | false=>rfl
   | true=>exact absurd ((h.inn i (by omega)).1 q) hm
  rw [if_pos (by simp [this])]
  exact ⟨_,_,rfl,by rw [List.erase_of_not_mem hm]; exact h⟩
theorem Znt (h:ChI n c L) {i:Nat} (hi:i<n) (hm:i∉L) (hn:n≤1000):∃ c',Q32.f c (i:Int) (n:Int)=some c'∧ChI n c' (i :: L):=by
 have hlen:=h.len
 have hsh:=h.short
 have hnL:n∉L:=fun hx=>by have:=h.lt n hx; omega
 obtain ⟨s,T,e⟩:∃ s T,L ++ [n]=s :: T:=by
  cases L with
  | nil=>exact ⟨n,[],rfl⟩
  | cons x S=>exact ⟨x,S ++ [n],rfl⟩
 have hr:=h.ring
 rw [e,Wj] at hr
 have hs:s≤n:=by
  have:s∈L ++ [n]:=by rw [e]; simp
  rcases List.mem_append.1 this with h1 | h1
  ·have:=h.lt s h1; omega
  ·simp at h1; omega
 have hsi:s≠i:=fun q=>by
  have:s∈L ++ [n]:=by rw [e]; simp
  rcases List.mem_append.1 this with h1 | h1
  ·exact hm (q ▸ h1)
  ·simp at h1; omega
 have a2:(gt c.1 (n:Int)).2.1=(s:Int):=by rw [gtl]; exact hr.1.1
 unfold Q32.f
 rw [if_pos (by omega),if_pos (by omega),if_pos (by rw [List.length_set]; omega),a2,if_pos (by rw [List.length_set,List.length_set]; omega)]
 simp only [Int.toNat_natCast,gtl]
 generalize hl1:c.1.set i ((n:Int),(s:Int),true)=l1
 have hl1l:l1.length=n+1:=by rw [← hl1,List.length_set,hlen]
 generalize hl2:l1.set n (ah l1 n,(i:Int),SK.T.inn l1 n)=l2
 have hl2l:l2.length=n+1:=by rw [← hl2,List.length_set,hl1l]
 have g1:∀ k,l1.getD k default=if i=k then ((n:Int),(s:Int),true) else c.1.getD k default:=fun k=>by rw [← hl1]; exact Xh (by omega)
 have g2:∀ k,l2.getD k default=if n=k then (ah l1 n,(i:Int),SK.T.inn l1 n) else l1.getD k default:=fun k=>by rw [← hl2]; exact Xh (by omega)
 have g3:∀ k,(l2.set s ((i:Int),bh l2 s,SK.T.inn l2 s)).getD k default=if s=k then ((i:Int),bh l2 s,SK.T.inn l2 s) else l2.getD k default:=fun k=>Xh (by omega)
 have b2:∀ k,bh l2 k=if n=k then (i:Int) else if i=k then (s:Int) else bh c.1 k:=fun k=>by
  show (l2.getD k default).2.1=_
  rw [g2 k]
  split
  ·rfl
  ·rw [g1 k]; split <;> rfl
 have c2:∀ k,ah l2 k=if i=k then (n:Int) else ah c.1 k:=fun k=>by
  show (l2.getD k default).1=_
  rw [g2 k]
  split
  ·rename_i q
   rw [← q,if_neg (by omega)]
   show (l1.getD n default).1=_
   rw [g1 n,if_neg (by omega)]; rfl
  ·rw [g1 k]; split <;> rfl
 have n2:∀ k,SK.T.inn l2 k=if i=k then true else SK.T.inn c.1 k:=fun k=>by
  show (l2.getD k default).2.2=_
  rw [g2 k]
  split
  ·rename_i q
   rw [← q,if_neg (by omega)]
   show (l1.getD n default).2.2=_
   rw [g1 n,if_neg (by omega)]; rfl
  ·rw [g1 k]; split <;> rfl
 have b3:∀ k,bh (l2.set s ((i:Int),bh l2 s,SK.T.inn l2 s)) k=bh l2 k:=fun k=>by
  show ((l2.set s ((i:Int),bh l2 s,SK.T.inn l2 s)).getD k default).2.1=_
  rw [g3 k]; split
  ·rename_i q; rw [← q]
  ·rfl
 have c3:∀ k,ah (l2.set s ((i:Int),bh l2 s,SK.T.inn l2 s)) k=if s=k then (i:Int) else ah l2 k:=fun k=>by
  show ((l2.set s ((i:Int),bh l2 s,SK.T.inn l2 s)).getD k default).1=_
  rw [g3 k]; split <;> rfl
 have n3:∀ k,SK.T.inn (l2.set s ((i:Int),bh l2 s,SK.T.inn l2 s)) k=SK.T.inn l2 k:=fun k=>by
  show ((l2.set s ((i:Int),bh l2 s,SK.T.inn l2 s)).getD k default).2.2=_
  rw [g3 k]; split
  ·rename_i q; rw [← q]
  ·rfl
 refine ⟨_,rfl,⟨by rw [List.length_set,hl2l],?_,List.nodup_cons.2 ⟨hm,h.nd⟩,?_,?_,?_⟩⟩
 ·rw [h.cnt,List.length_cons,Z3 (by omega) (by omega)]; omega
 ·intro x hx
  rcases List.mem_cons.1 hx with q | q
  ·omega
  ·exact h.lt x q
 ·intro x hx
  rw [n3 x,n2 x,List.mem_cons]
  split
  ·rename_i q; simp [q]
  ·rename_i q
   rw [h.inn x hx]
   exact ⟨fun g=>.inr g,fun g=>g.elim (fun e'=>absurd e'.symm q) id⟩
 ·rw [List.cons_append,Wj,e,Wj]
  have hnd:(L ++ [n]).Nodup:=List.nodup_append.2 ⟨h.nd,by simp,fun a ha b hb q=>by simp at hb; exact hnL (hb ▸ q ▸ ha)⟩
  rw [e] at hnd
  refine ⟨⟨by rw [b3,b2,if_pos rfl],by rw [c3,if_neg hsi,c2,if_pos rfl]⟩,⟨by rw [b3,b2,if_neg (by omega),if_pos rfl],by rw [c3,if_pos rfl]⟩,Jq (fun x hx=>?_) (fun y hy=>?_) hr.2⟩
  ·rw [← e,List.dropLast_concat] at hx
   rw [b3,b2,if_neg (fun q:n=x=>hnL (q ▸ hx)),if_neg (fun q:i=x=>hm (q ▸ hx))]
  ·have hyL:y∈L ++ [n]:=by rw [e]; simp [hy]
   have hyi:i≠y:=fun q=>by
    rcases List.mem_append.1 hyL with h1 | h1
    ·exact hm (q ▸ h1)
    ·simp at h1; omega
   rw [c3,if_neg (fun q:s=y=>(List.nodup_cons.1 hnd).1 (q ▸ hy)),c2,if_neg hyi]
theorem Zmk (h:ChI n c L) {i:Nat} (hi:i<n) (hm:i∉L) (hn:n≤1000):∃ c',Q28.f c (i:Int)=some (0,c')∧ChI n c' (i :: L):=by
 have hlen:=h.len
 have hf:SK.T.inn c.1 i=false:=by
  cases q:SK.T.inn c.1 i with
  | false=>rfl
  | true=>exact absurd ((h.inn i (by omega)).1 q) hm
 have ho:Q31.f (c.1,c.2) (i:Int)=some c:=by
  unfold Q31.f
  try dsimp only
  rw [if_pos (by omega),gtl,if_pos (by simp [hf])]
 obtain ⟨c',e,h'⟩:=Znt h hi hm hn
 unfold Q28.f Q33.f
 rw [show Q34.f (c.1,c.2) (i:Int)=_ from Zh3 h hi hn,Option.bind_some,if_pos (by simp),ho,Option.bind_some,Option.bind_some]
 try dsimp only
 rw [show w64 ((c.1.length:Int) - 1)=(n:Int) by rw [Z3 (by omega) (by omega)]; omega,show Q32.f (c.1,c.2) (i:Int) (n:Int)=_ from e,Option.bind_some]
 exact ⟨_,rfl,h'⟩
theorem Zdr (h:ChI n c []):Q29.f c=some (0,false):=by
 have:=h.cnt
 unfold Q29.f Q30.f
 rw [Option.bind_some,if_pos (by simp [this])]
theorem Zkk {q:Nat} (h:ChI n c (L ++ [q])) (hn:n≤1000):Q29.f c=some ((q:Int),true):=by
 have hcnt:=h.cnt
 have hlen:=h.len
 unfold Q29.f Q30.f Q33.f
 have hr:=h.ring
 rw [List.append_assoc,List.cons_append,List.nil_append,Gv,Wj,Wj] at hr
 have:ah c.1 n=(q:Int):=hr.2.2.1.2
 rw [Option.bind_some,if_neg (by simp [hcnt]; omega),Option.bind_some,show w64 ((c.1.length:Int) - 1)=(n:Int) by rw [Z3 (by omega) (by omega)]; omega,if_pos (by omega),gtl,this]
theorem Znx (hn:1≤n) (h64:n≤64):∃ c',Q35.f (n:Int)=some (some c',0)∧ChI n c' []:=by
 unfold Q35.f
 have e:(w64 ((n:Int)+1))=((n+1:Nat):Int):=by rw [Z3 (by omega) (by omega)]; omega
 rw [if_neg (by simp only [decide_eq_true_eq]; omega),if_neg (by simp only [decide_eq_true_eq]; omega),e,if_pos (by omega),Int.toNat_natCast,if_pos (by rw [List.length_replicate]; omega),Int.toNat_natCast]
 have g:∀ k,((List.replicate (n+1) ((0,0,false):Lnk)).set n ((n:Int),(n:Int),false)).getD k default=if n=k then ((n:Int),(n:Int),false) else (List.replicate (n+1) ((0,0,false):Lnk)).getD k default:=fun k=>Xh (by rw [List.length_replicate]; omega)
 refine ⟨_,rfl,⟨by simp,rfl,by simp,by simp,fun x hx=>?_,?_⟩⟩
 ·show (_:Lnk).2.2=true↔_
  rw [g x]
  split
  ·simp
  ·rw [List.getD_eq_getElem?_getD,List.getElem?_replicate,if_pos (by omega)]; simp
 ·rw [List.nil_append,Wj,Wj]
  refine ⟨⟨?_,?_⟩,trivial⟩
  ·show (_:Lnk).2.1=_
   rw [g n,if_pos rfl]
  ·show (_:Lnk).1=_
   rw [g n,if_pos rfl]
end
abbrev Dv:=Int×List Int×TW
def blk (img:TX) (n i:Nat):List Int:=(img.drop (i*n)).take n
theorem Jf {N n i:Nat} (h:i<N):i*n+n≤N*n:=by
 have:=Nat.mul_le_mul_right n h
 rw [Nat.succ_mul] at this
 exact this
theorem Zb7 {img:TX} {N n i:Nat} (hl:img.length=N*n) (h:i<N):(blk img n i).length=n:=by
 have:=Jf (n:=n) h
 unfold blk
 rw [List.length_take,List.length_drop]
 omega
theorem Vy {img b:TX} {N n i:Nat} (hl:img.length=N*n) (h:i<N) (hb:b.length=n) (j:Nat) (hj:j<N):blk (patch img (i*n) n b) n j=if j=i then b else blk img n j:=by
 have h1:=Jf (n:=n) h
 have h2:=Jf (n:=n) hj
 have e0:(img.take (i*n)).length=i*n:=by rw [List.length_take]; omega
 unfold blk patch
 rw [List.take_of_length_le (i:=n) (l:=b) (by omega),show i*n+min n b.length=i*n+n from by omega]
 by_cases e:j=i
 ·subst e
  rw [if_pos rfl,List.append_assoc,List.drop_append_of_le_length (by omega),List.drop_of_length_le (by omega),List.nil_append,List.take_append_of_le_length (by omega),List.take_of_length_le (by omega)]
 ·rw [if_neg e]
  by_cases lt:j<i
  ·have h3:=Nat.mul_le_mul_right n (show j+1≤i from lt)
   rw [Nat.succ_mul] at h3
   rw [List.append_assoc,List.drop_append_of_le_length (by omega),List.take_append_of_le_length (by rw [List.length_drop]; omega),List.drop_take,List.take_take]
   congr 1
   omega
  ·have h3:=Nat.mul_le_mul_right n (show i+1≤j from by omega)
   rw [Nat.succ_mul] at h3
   rw [List.drop_append,List.drop_of_length_le (by rw [List.length_append]; omega),List.nil_append,List.drop_drop]
   congr 2
   rw [List.length_append,e0]
   omega
theorem Zc4 {img b:TX} {N n i:Nat} (hl:img.length=N*n) (h:i<N):(patch img (i*n) n b).length=N*n:=by
 have:=Jf (n:=n) h
 rw [Xx (by omega),hl]
theorem Ut {N n:Nat} {img:TX} {s:TW} (hn:1≤n) (hl:img.length=N*n) (hb:N*n≤4294967296):Q54.f ((n:Int),img,s)=some (N:Int):=by
 have hN:N≤4294967296:=Nat.le_trans (Nat.le_mul_of_pos_right N hn) hb
 have e:Int.tdiv (img.length:Int) (n:Int)=N:=by
  rw [hl,Int.natCast_mul]
  exact Int.mul_tdiv_cancel _ (by omega)
 unfold Q54.f
 dsimp only
 rw [if_neg (by simp only [decide_eq_true_eq]; omega),if_pos (by omega),e,Z3 (by omega) (by omega)]
theorem Zkg {n i N:Nat} (hb:N*n≤4294967296) (hn:1≤n) (h:i<N):w64 (i:Int)=i∧w64 ((i:Int)*(n:Int))=((i*n:Nat):Int)∧w64 (((i*n:Nat):Int)+(n:Int))=((i*n+n:Nat):Int):=by
 have h1:=Jf (n:=n) h
 have h2:i≤i*n:=Nat.le_mul_of_pos_right i hn
 refine ⟨Z3 (by omega) (by omega),?_,?_⟩
 ·rw [← Int.natCast_mul]
  exact Z3 (by omega) (by omega)
 ·rw [Z3 (by omega) (by omega)]
  rfl
theorem Zjg {N n i:Nat} {img b:TX} {s:TW} (hn:1≤n) (hN:1≤N) (hl:img.length=N*n) (hb:N*n≤4294967296) (hi:i<4294967296) :
  Q57.f ((n:Int),img,s) (i:Int) b=some (if N≤i then (4,((n:Int),img,s)) else if b.length=n then (0,((n:Int),patch img (i*n) n b,s.1,IntKind.u64.wrap (s.2+1))) else (3,((n:Int),img,s))):=by
 have e:=Ut (s:=(s.1,s.2)) hn hl hb
 unfold Q57.f
 dsimp only
 rw [e,Option.bind_some,if_neg (by simp only [decide_eq_true_eq]; omega),Option.bind_some]
 by_cases h:N≤i
 ·rw [Z3 (x:=(i:Int)) (by omega) (by omega),if_pos (decide_eq_true (by omega)),if_pos h]
 ·obtain ⟨a1,a2,a3⟩:=Zkg hb hn (show i<N from by omega)
  have h1:=Jf (n:=n) (show i<N from by omega)
  rw [a1,a2,a3,if_neg (by simp only [decide_eq_true_eq]; omega),if_pos (by omega),if_neg h]
  by_cases hq:b.length=n
  ·rw [if_neg (by simp only [Bool.not_eq_true',decide_eq_false_iff_not]; omega),if_pos hq]
   simp only [Int.toNat_natCast]
   rw [List.length_take,List.length_drop,show min (i*n+n - i*n) (img.length - i*n)=n from by omega]
  ·rw [if_pos (by simp only [Bool.not_eq_true',decide_eq_false_iff_not]; omega),if_neg hq]
theorem Zce {l:TX} (h:l.length≤140737488355328):Q99.f l=some l:=by
 unfold Q99.f
 rw [if_pos (by simpa using h)]
 rfl
theorem Zko {N n i:Nat} {img:TX} {s:TW} (hn:1≤n) (hN:1≤N) (hl:img.length=N*n) (hb:N*n≤4294967296) (hi:i<4294967296) :
  Q56.f ((n:Int),img,s) (i:Int)=some (if N≤i then ([],4,((n:Int),img,s)) else (blk img n i,0,((n:Int),img,IntKind.u64.wrap (s.1+1),s.2))):=by
 have e:=Ut (s:=(s.1,s.2)) hn hl hb
 unfold Q56.f
 dsimp only
 rw [e,Option.bind_some,if_neg (by simp only [decide_eq_true_eq]; omega),Option.bind_some]
 by_cases h:N≤i
 ·rw [Z3 (x:=(i:Int)) (by omega) (by omega),if_pos (decide_eq_true (by omega)),if_pos h]
 ·obtain ⟨a1,a2,a3⟩:=Zkg hb hn (show i<N from by omega)
  have h1:=Jf (n:=n) (show i<N from by omega)
  rw [a1,a2,a3,if_neg (by simp only [decide_eq_true_eq]; omega),if_pos (by omega),if_neg h]
  simp only [Int.toNat_natCast]
  have hbl:(blk img n i).length=n:=Zb7 hl (by omega)
  have:(img.drop (i*n)).take (i*n+n - i*n)=blk img n i:=by unfold blk; congr 1; omega
  have hnb:n≤N*n:=Nat.le_mul_of_pos_left n hN
  rw [this,Zce (by omega),Option.bind_some]
def Lb (img:TX) (N n:Nat):List TS:=(List.range N).map fun i=>toS (blk img n i)
def rightD (N n:Nat):Bool:=decide (5≤N∧N≤65536∧1≤n∧n≤65536)
abbrev Fr8:=Int×List Int×Bool×Int
abbrev Ca:=Dv×List Fr8×List TW×List Int×Chn
section
variable {es:TO} {x v d:Int}
theorem mhas_iff:∀ {es:TO},Y9 es x=true↔∃ v,(x,v)∈es
 | []=>by simp [Y9]
 | p :: es=>by
  rw [Y9]
  split
  ·rename_i h
   exact ⟨fun _=>⟨p.2,by simp [← h]⟩,fun _=>rfl⟩
  ·rename_i h
   rw [mhas_iff]
   constructor
   ·rintro ⟨v,hv⟩; exact ⟨v,by simp [hv]⟩
   ·rintro ⟨v,hv⟩
    rcases List.mem_cons.1 hv with e | e
    ·exact absurd (by rw [← e]) h
    ·exact ⟨v,e⟩
theorem X4:∀ {es:TO},(es.map Prod.fst).Nodup→(x,v)∈es→Zv d es x=v
 | [],_,h=>by simp at h
 | p :: es,nd,h=>by
  rw [List.map_cons,List.nodup_cons] at nd
  rw [Zv]
  rcases List.mem_cons.1 h with e | e
  ·rw [if_pos (by rw [← e]),← e]
  ·rw [if_neg (fun q=>nd.1 (List.mem_map.2 ⟨_,e,by simpa using q.symm⟩)),X4 nd.2 e]
theorem Vu {p:TW}:∀ {es:TO},(es.map Prod.fst).Nodup→(p∈X7 x es↔p∈es∧p.1≠x)
 | [],_=>by simp [X7]
 | q :: es,nd=>by
  rw [List.map_cons,List.nodup_cons] at nd
  rw [X7]
  split
  ·rename_i h
   constructor
   ·intro hp
    refine ⟨by simp [hp],fun e=>nd.1 ?_⟩
    rw [h,← e]; exact List.mem_map_of_mem hp
   ·rintro ⟨hp,hne⟩
    rcases List.mem_cons.1 hp with e | e
    ·exact absurd (e ▸ h) hne
    ·exact e
  ·rename_i h
   rw [List.mem_cons,Vu nd.2,List.mem_cons]
   constructor
   ·rintro (e | e)
    ·exact ⟨.inl e,e ▸ h⟩
    ·exact ⟨.inr e.1,e.2⟩
   ·rintro ⟨e | e,hne⟩
    ·exact .inl e
    ·exact .inr ⟨e,hne⟩
theorem mdel_sub:∀ {es:TO},(X7 x es).Sublist es
 | []=>List.Sublist.refl _
 | q :: es=>by
  rw [X7]
  split
  ·exact List.sublist_cons_self _ _
  ·exact mdel_sub.cons_cons _
theorem Za9:∀ {es:TO},Y9 es x=true→(X7 x es).length+1=es.length
 | [],h=>by simp [Y9] at h
 | q :: es,h=>by
  rw [Y9] at h
  rw [X7]
  split
  ·rfl
  ·rename_i hn
   rw [if_neg hn] at h
   rw [List.length_cons,List.length_cons,Za9 h]
end
structure Okf (N B n t:Nat) (c:Ca) (i f:Nat):Prop where
 hi:i<N
 hf:f<n
 blk:(c.2.1.getD f default).1=(i:Int)
 len:(c.2.1.getD f default).2.1.length=B
 pin:0≤(c.2.1.getD f default).2.2.2∧(c.2.1.getD f default).2.2.2≤t
 emp:(f:Int)∉c.2.2.2.1
structure CaI (N B n t:Nat) (H:List Nat) (c:Ca) (L:List Nat):Prop where
 dsz:c.1.1=(B:Int)
 dim:c.1.2.1.length=N*B
 frl:c.2.1.length=n
 mnd:(c.2.2.1.map Prod.fst).Nodup
 mok:∀ p∈c.2.2.1,∃ i f:Nat,p=((i:Int),(f:Int))∧Okf N B n t c i f
 emp:∀ x∈c.2.2.2.1,∃ f:Nat,x=(f:Int)∧f<n
 end_:c.2.2.2.1.Nodup
 hol:∀ f∈H,f<n∧(f:Int)∉c.2.2.2.1∧∀ i:Int,(i,(f:Int))∉c.2.2.1
 tot:c.2.2.1.length+c.2.2.2.1.length+H.length=n
 chn:ChI n c.2.2.2.2 L
 lok:∀ f:Nat,f∈L↔(∃ i:Int,(i,(f:Int))∈c.2.2.1)∧(c.2.1.getD f default).2.2.2=0
section
variable {N B n t:Nat} {H:List Nat} {c:Ca} {L:List Nat}
theorem CaI.at (h:CaI N B n t H c L) {i f:Int} (hp:(i,f)∈c.2.2.1):∃ i' f':Nat,i=(i':Int)∧f=(f':Int)∧Okf N B n t c i' f':=by
 obtain ⟨i',f',e,ok⟩:=h.mok _ hp
 rw [Prod.mk.injEq] at e
 exact ⟨i',f',e.1,e.2,ok⟩
theorem CaI.atN (h:CaI N B n t H c L) {i f:Nat} (hp:((i:Int),(f:Int))∈c.2.2.1):Okf N B n t c i f:=by
 obtain ⟨i',f',e1,e2,ok⟩:=h.at hp
 have:i=i':=by omega
 have:f=f':=by omega
 subst_vars
 exact ok
theorem CaI.one (h:CaI N B n t H c L) {i j f:Nat} (hi:((i:Int),(f:Int))∈c.2.2.1) (hj:((j:Int),(f:Int))∈c.2.2.1):i=j:=by
 have h1:=(h.atN hi).blk
 have h2:=(h.atN hj).blk
 omega
theorem CaI.get (h:CaI N B n t H c L) (i:Nat):(Y9 c.2.2.1 (i:Int)=false∧∀ v,((i:Int),v)∉c.2.2.1)∨∃ f:Nat,((i:Int),(f:Int))∈c.2.2.1∧Y9 c.2.2.1 (i:Int)=true∧Zv 0 c.2.2.1 (i:Int)=(f:Int)∧Okf N B n t c i f:=by
 cases q:Y9 c.2.2.1 (i:Int) with
 | false=>exact .inl ⟨rfl,fun v hv=>by rw [mhas_iff.2 ⟨v,hv⟩] at q; cases q⟩
 | true=>
  obtain ⟨v,hv⟩:=mhas_iff.1 q
  obtain ⟨i',f,e1,rfl,ok⟩:=h.at hv
  have:i=i':=by omega
  subst this
  exact .inr ⟨f,hv,rfl,X4 h.mnd hv,ok⟩
theorem CaI.used (h:CaI N B n t H c L):c.2.2.1.length≤n:=by have:=h.tot; omega
theorem CaI.mono (h:CaI N B n t H c L) {t':Nat} (ht:t≤t'):CaI N B n t' H c L:=
 ⟨h.dsz,h.dim,h.frl,h.mnd,fun p hp=>by
  obtain ⟨i,f,e,ok⟩:=h.mok p hp
  exact ⟨i,f,e,ok.hi,ok.hf,ok.blk,ok.len,⟨ok.pin.1,by have:=ok.pin.2; omega⟩,ok.emp⟩,h.emp,h.end_,h.hol,h.tot,h.chn,h.lok⟩
theorem CaI.dev (h:CaI N B n t H c L) {img:TX} (hl:img.length=N*B) (s:TW):CaI N B n t H ((c.1.1,img,s),c.2) L:=
 ⟨h.dsz,hl,h.frl,h.mnd,fun p hp=>by
  obtain ⟨i,f,e,ok⟩:=h.mok p hp
  exact ⟨i,f,e,ok.hi,ok.hf,ok.blk,ok.len,ok.pin,ok.emp⟩,h.emp,h.end_,h.hol,h.tot,h.chn,h.lok⟩
theorem CaI.setfr (h:CaI N B n t H c L) {i f:Nat} (ha:((i:Int),(f:Int))∈c.2.2.1) {x:Fr8} (h1:x.1=(i:Int)) (h2:x.2.1.length=B) {t':Nat} (h3:0≤x.2.2.2∧x.2.2.2≤t') (ht:t≤t') {ch:Chn} {L':List Nat} (hc:ChI n ch L')
  (hL:∀ g,g∈L'↔if g=f then x.2.2.2=0 else g∈L):CaI N B n t' H (c.1,c.2.1.set f x,c.2.2.1,c.2.2.2.1,ch) L':=by
 have ok:=h.atN ha
 have hfl:f<c.2.1.length:=by rw [h.frl]; exact ok.hf
 have g:∀ k,(c.2.1.set f x).getD k default=if f=k then x else c.2.1.getD k default:=fun k=>Xh hfl
 refine ⟨h.dsz,h.dim,by rw [List.length_set,h.frl],h.mnd,fun p hp=>?_,h.emp,h.end_,h.hol,h.tot,hc,fun k=>?_⟩
 ·obtain ⟨j,k,e,okk⟩:=h.mok p hp
  refine ⟨j,k,e,okk.hi,okk.hf,?_,?_,?_,okk.emp⟩
  all_goals
   show _
   try dsimp only
   rw [g k]
   split
  ·rename_i q
   subst q
   have:i=j:=h.one ha (by rw [← e]; exact hp)
   subst this; exact h1
  ·exact okk.blk
  ·exact h2
  ·exact okk.len
  ·exact h3
  ·exact ⟨okk.pin.1,by have:=okk.pin.2; omega⟩
 ·rw [hL k]
  try dsimp only
  rw [g k]
  by_cases q:k=f
  ·subst q
   rw [if_pos rfl,if_pos rfl]
   exact ⟨fun e=>⟨⟨_,ha⟩,e⟩,fun e=>e.2⟩
  ·rw [if_neg q,if_neg (Ne.symm q)]
   exact h.lok k
theorem CaI.leave (h:CaI N B n t [] c L) {i f:Nat} (ha:((i:Int),(f:Int))∈c.2.2.1) (hn:n≤64) {ch:Chn} (hc:ChI n ch (L.erase f)):CaI N B n t [] (c.1,c.2.1.set f (0,[],false,0),X7 (i:Int) c.2.2.1,c.2.2.2.1 ++ [(f:Int)],ch) (L.erase f):=by
 have ok:=h.atN ha
 have hfl:f<c.2.1.length:=by rw [h.frl]; exact ok.hf
 have g:∀ k,(c.2.1.set f (0,[],false,0)).getD k default=if f=k then (0,[],false,0) else c.2.1.getD k default:=fun k=>Xh hfl
 have hne:∀ {j k:Nat},((j:Int),(k:Int))∈c.2.2.1→(j:Int)≠(i:Int)→f≠k:=fun {j k} hjk hji e=>by
  subst e
  exact hji (by rw [h.one ha hjk])
 refine ⟨h.dsz,h.dim,by rw [List.length_set,h.frl],(mdel_sub.map _).nodup h.mnd,fun p hp=>?_,fun x hx=>?_,?_,by simp,?_,hc,fun k=>?_⟩
 ·rw [Vu h.mnd] at hp
  obtain ⟨j,k,e,okk⟩:=h.mok p hp.1
  have hjk:((j:Int),(k:Int))∈c.2.2.1:=by rw [← e]; exact hp.1
  have hk:f≠k:=hne hjk (by rw [e] at hp; exact hp.2)
  refine ⟨j,k,e,okk.hi,okk.hf,?_,?_,?_,?_⟩
  ·dsimp only; rw [g k,if_neg hk]; exact okk.blk
  ·dsimp only; rw [g k,if_neg hk]; exact okk.len
  ·dsimp only; rw [g k,if_neg hk]; exact okk.pin
  ·dsimp only
   rw [List.mem_append,List.mem_singleton]
   rintro (q | q)
   ·exact okk.emp q
   ·exact hk (by omega)
 ·rcases List.mem_append.1 hx with q | q
  ·exact h.emp x q
  ·rw [List.mem_singleton] at q; exact ⟨f,q,ok.hf⟩
 ·exact List.nodup_append.2 ⟨h.end_,by simp,fun a hb b hb' e=>by rw [List.mem_singleton] at hb'; exact ok.emp (hb' ▸ e ▸ hb)⟩
 ·have h1:=h.tot
  have h2:=Za9 (mhas_iff.2 ⟨_,ha⟩)
  simp only [List.length_append,List.length_singleton,List.length_nil] at h1 ⊢
  omega
 ·rw [h.chn.nd.mem_erase_iff]
  try dsimp only
  rw [g k]
  constructor
  ·rintro ⟨hk,hkL⟩
   obtain ⟨⟨j,hj⟩,hp⟩:=(h.lok k).1 hkL
   rw [if_neg (Ne.symm hk)]
   obtain ⟨j',k',e1,e2,okk⟩:=h.at hj
   refine ⟨⟨j,(Vu h.mnd).2 ⟨hj,fun e=>hk ?_⟩⟩,hp⟩
   have h1:Zv 0 c.2.2.1 (i:Int)=(f:Int):=X4 h.mnd ha
   have h2:Zv 0 c.2.2.1 (i:Int)=(k:Int):=X4 h.mnd (by rw [← show j=(i:Int) from e]; exact hj)
   omega
  ·rintro ⟨⟨j,hj⟩,hp⟩
   rw [Vu h.mnd] at hj
   obtain ⟨j',k',e1,e2,okk⟩:=h.at hj.1
   have hk:f≠k:=hne (j:=j') (by rw [← e1]; exact hj.1) (by rw [← e1]; exact hj.2)
   rw [if_neg hk] at hp
   exact ⟨Ne.symm hk,(h.lok k).2 ⟨⟨j,hj.1⟩,hp⟩⟩
theorem CaI.take (h:CaI N B n t [] c L) {E:TX} {f:Nat} (he:c.2.2.2.1=E ++ [(f:Int)]):CaI N B n t [f] (c.1,c.2.1,c.2.2.1,E,c.2.2.2.2) L:=by
 have hnd:=h.end_
 rw [he] at hnd
 have hnd2:=List.nodup_append.1 hnd
 refine ⟨h.dsz,h.dim,h.frl,h.mnd,fun p hp=>?_,fun x hx=>h.emp x (by rw [he]; simp [hx]),hnd2.1,fun g hg=>?_,?_,h.chn,h.lok⟩
 ·obtain ⟨i,k,e,ok⟩:=h.mok p hp
  exact ⟨i,k,e,ok.hi,ok.hf,ok.blk,ok.len,ok.pin,fun q=>ok.emp (by rw [he]; simp [show (k:Int)∈E from q])⟩
 ·rw [List.mem_singleton] at hg
  subst hg
  refine ⟨?_,fun q=>hnd2.2.2 _ q (g:Int) (by simp) rfl,fun i hi=>?_⟩
  ·obtain ⟨f',e,hf⟩:=h.emp (g:Int) (by rw [he]; simp)
   omega
  ·obtain ⟨j,k,e1,e2,ok⟩:=h.at hi
   exact ok.emp (by rw [← e2,he]; simp)
 ·have h1:=h.tot
  rw [he] at h1
  simp only [List.length_append,List.length_singleton,List.length_nil] at h1 ⊢
  omega
theorem CaI.come {f:Nat} (h:CaI N B n t [f] c L) {i:Nat} (hi:i<N) (hno:∀ v,((i:Int),v)∉c.2.2.1) {x:Fr8} (h1:x.1=(i:Int)) (h2:x.2.1.length=B) (h3:x.2.2.2=1) (ht:1≤t) {ch:Chn} (hc:ChI n ch L) :
  CaI N B n t [] (c.1,c.2.1.set f x,c.2.2.1 ++ [((i:Int),(f:Int))],c.2.2.2.1,ch) L:=by
 obtain ⟨hf,hfe,hfm⟩:=h.hol f (by simp)
 have hfl:f<c.2.1.length:=by rw [h.frl]; exact hf
 have g:∀ k,(c.2.1.set f x).getD k default=if f=k then x else c.2.1.getD k default:=fun k=>Xh hfl
 have hne:∀ {j:Int} {k:Nat},(j,(k:Int))∈c.2.2.1→f≠k:=fun {j k} hjk e=>hfm j (by rw [e]; exact hjk)
 refine ⟨h.dsz,h.dim,by rw [List.length_set,h.frl],?_,fun p hp=>?_,h.emp,h.end_,by simp,?_,hc,fun k=>?_⟩
 ·dsimp only
  rw [List.map_append,List.nodup_append]
  refine ⟨h.mnd,by simp,fun a ha b hb e=>?_⟩
  obtain ⟨p,hp,rfl⟩:=List.mem_map.1 ha
  simp only [List.map_cons,List.map_nil,List.mem_singleton] at hb
  exact hno p.2 (by rw [← hb,← e]; exact hp)
 ·rcases List.mem_append.1 hp with q | q
  ·obtain ⟨j,k,e,okk⟩:=h.mok p q
   have hk:f≠k:=hne (j:=(j:Int)) (by rw [← e]; exact q)
   refine ⟨j,k,e,okk.hi,okk.hf,?_,?_,?_,okk.emp⟩
   ·dsimp only; rw [g k,if_neg hk]; exact okk.blk
   ·dsimp only; rw [g k,if_neg hk]; exact okk.len
   ·dsimp only; rw [g k,if_neg hk]; exact okk.pin
  ·rw [List.mem_singleton] at q
   refine ⟨i,f,q,hi,hf,?_,?_,?_,hfe⟩
   ·dsimp only; rw [g f,if_pos rfl]; exact h1
   ·dsimp only; rw [g f,if_pos rfl]; exact h2
   ·dsimp only; rw [g f,if_pos rfl,h3]; omega
 ·have h1:=h.tot
  simp only [List.length_append,List.length_singleton,List.length_nil] at h1 ⊢
  omega
 ·dsimp only
  rw [g k]
  constructor
  ·intro hk
   obtain ⟨⟨j,hj⟩,hp⟩:=(h.lok k).1 hk
   rw [if_neg (hne hj)]
   exact ⟨⟨j,by simp [hj]⟩,hp⟩
  ·rintro ⟨⟨j,hj⟩,hp⟩
   rcases List.mem_append.1 hj with q | q
   ·rw [if_neg (hne q)] at hp
    exact (h.lok k).2 ⟨⟨j,q⟩,hp⟩
   ·rw [List.mem_singleton,Prod.mk.injEq] at q
    have:f=k:=by omega
    rw [if_pos this,h3] at hp
    omega
end
structure Siz (N B n:Nat):Prop where
 hB:1≤B
 hN:1≤N
 hNB:N*B≤4294967296
 hn:1≤n
 h64:n≤64
section
variable {N B n t:Nat} {H:List Nat} {c:Ca} {L:List Nat}
theorem Siz.N_le (z:Siz N B n):N≤4294967296:=Nat.le_trans (Nat.le_mul_of_pos_right N z.hB) z.hNB
theorem Siz.B_le (z:Siz N B n):B≤4294967296:=Nat.le_trans (Nat.le_mul_of_pos_left B z.hN) z.hNB
theorem Zbw (z:Siz N B n) (h:CaI N B n t [] c L) {i f:Nat} (ha:((i:Int),(f:Int))∈c.2.2.1):∃ ch,Q23.f c (f:Int)=some (c.1,c.2.1.set f (0,[],false,0),X7 (i:Int) c.2.2.1,c.2.2.2.1 ++ [(f:Int)],ch)∧CaI N B n t [] (c.1,c.2.1.set f (0,[],false,0),X7 (i:Int) c.2.2.1,c.2.2.2.1 ++ [(f:Int)],ch) (L.erase f):=by
 have ok:=h.atN ha
 have h64:=z.h64
 obtain ⟨r,ch,e,hc⟩:=Zj4 h.chn ok.hf (by omega)
 have hfl:=h.frl
 have htot:=h.tot
 have hf:=ok.hf
 refine ⟨ch,?_,h.leave ha h64 hc⟩
 unfold Q23.f
 rw [if_pos (by omega),show Q27.f (c.2.2.2.2.1,c.2.2.2.2.2) (f:Int)=_ from e,Option.bind_some,if_pos (by simp only [List.length_singleton]; omega),show (gt c.2.1 (f:Int)).1=(i:Int) by rw [Yx]; exact ok.blk,Int.toNat_natCast]
theorem Zh2 (z:Siz N B n) (h:CaI N B n t H c L) {i f:Nat} (ha:((i:Int),(f:Int))∈c.2.2.1):Q57.f c.1 (gt c.2.1 (f:Int)).1 (gt c.2.1 (f:Int)).2.1=some (0,c.1.1,patch c.1.2.1 (i*B) B (gt c.2.1 (f:Int)).2.1,c.1.2.2.1,IntKind.u64.wrap (c.1.2.2.2+1)):=by
 have ok:=h.atN ha
 have hi:=ok.hi
 have hNl:=z.N_le
 rw [show (gt c.2.1 (f:Int)).1=(i:Int) by rw [Yx]; exact ok.blk]
 have:=Zjg (b:=(gt c.2.1 (f:Int)).2.1) (s:=c.1.2.2) z.hB z.hN h.dim z.hNB (show i<4294967296 by omega)
 rw [← h.dsz] at this
 rw [show Q57.f c.1 (i:Int) (gt c.2.1 (f:Int)).2.1=_ from this,if_neg (by omega),if_pos (by rw [Yx]; exact ok.len)]
theorem CaI.back (z:Siz N B n) (h:CaI N B n t H c L) {i f:Nat} (ha:((i:Int),(f:Int))∈c.2.2.1) (s:TW):CaI N B n t H ((c.1.1,patch c.1.2.1 (i*B) B (gt c.2.1 (f:Int)).2.1,s),c.2.1.set f ((gt c.2.1 (f:Int)).1,(gt c.2.1 (f:Int)).2.1,false,(gt c.2.1 (f:Int)).2.2.2),c.2.2) L:=by
 have ok:=h.atN ha
 have g:gt c.2.1 (f:Int)=c.2.1.getD f default:=Yx _ _
 have h1:=h.setfr ha (x:=((gt c.2.1 (f:Int)).1,(gt c.2.1 (f:Int)).2.1,false,(gt c.2.1 (f:Int)).2.2.2)) (by rw [g]; exact ok.blk) (by rw [g]; exact ok.len) (by rw [g]; exact ok.pin) (Nat.le_refl t) h.chn (fun k=>by
  split
  ·rename_i q
   subst q
   rw [h.lok k,g]
   exact ⟨fun e=>e.2,fun e=>⟨⟨_,ha⟩,e⟩⟩
  ·exact Iff.rfl)
 exact h1.dev (Zc4 h.dim ok.hi) s
theorem Zno (z:Siz N B n) (h:CaI N B n t [] c L) (hw:0≤c.1.2.2.2∧c.1.2.2.2≤1000000000):Q25.f c=some (0,false,c)∨
  ∃(f:Nat) (c':Ca) (L':List Nat),Q25.f c=some ((f:Int),true,c')∧CaI N B n t [f] c' L'∧c'.1.2.2.1=c.1.2.2.1∧(c.1.2.2.2≤c'.1.2.2.2∧c'.1.2.2.2≤c.1.2.2.2+1)∧∀ p∈c'.2.2.1,p∈c.2.2.1:=by
 have h64:=z.h64
 have htot:=h.tot
 have hfl:=h.frl
 have wr:IntKind.u64.wrap (c.1.2.2.2+1)=c.1.2.2.2+1:=by
  obtain ⟨m,hm⟩:=Int.eq_ofNat_of_zero_le hw.1
  have:c.1.2.2.2+1=((m+1:Nat):Int):=by omega
  rw [this]
  simp [IntKind.wrap,IntKind.bits,IntKind.signed]
  omega
 by_cases he:c.2.2.2.1=[]
 ·have e0:(decide ((c.2.2.2.1.length:Int)=0))=true:=by rw [he]; rfl
  rcases List.eq_nil_or_concat L with rfl | ⟨L0,q,hq⟩
  ·left
   unfold Q25.f
   rw [if_pos e0,show Q29.f (c.2.2.2.2.1,c.2.2.2.2.2)=_ from Zdr h.chn,Option.bind_some,if_pos (by simp)]
  ·right
   rw [List.concat_eq_append] at hq
   subst hq
   obtain ⟨⟨j,hj⟩,hp⟩:=(h.lok q).1 (by simp)
   obtain ⟨i,q',rfl,e2,ok⟩:=h.at hj
   have:q=q':=by omega
   subst this
   have hf:=ok.hf
   unfold Q25.f
   rw [if_pos e0,show Q29.f (c.2.2.2.2.1,c.2.2.2.2.2)=_ from Zkk h.chn (by omega),Option.bind_some,if_neg (by simp)]
   try dsimp only
   rw [if_pos (by omega)]
   have one:w64 ((([] ++ [(q:Int)]:List Int).length:Int) - 1)=0:=by
    show w64 (((1:Nat):Int) - 1)=0
    decide
   by_cases hd:(gt c.2.1 (q:Int)).2.2.1=true
   ·have hb:=h.back z hj (c.1.2.2.1,c.1.2.2.2+1)
    obtain ⟨ch,e,hl⟩:=Zbw z hb (by exact hj)
    rw [if_pos hd,show Q57.f (c.1.1,c.1.2.1,(c.1.2.2.1,c.1.2.2.2)) (gt c.2.1 (q:Int)).1 (gt c.2.1 (q:Int)).2.1=_ from Zh2 z h hj,Option.bind_some]
    try dsimp only
    rw [wr,Int.toNat_natCast,show Q23.f ((c.1.1,patch c.1.2.1 (i*B) B (gt c.2.1 (q:Int)).2.1,c.1.2.2.1,c.1.2.2.2+1),c.2.1.set q ((gt c.2.1 (q:Int)).1,(gt c.2.1 (q:Int)).2.1,false,(gt c.2.1 (q:Int)).2.2.2),c.2.2.1,c.2.2.2.1,c.2.2.2.2.1,c.2.2.2.2.2) (q:Int)=_ from e,Option.bind_some]
    try dsimp only
    rw [he,one,if_pos (by simp),if_pos (by simp)]
    refine ⟨q,_,_,rfl,hl.take (E:=[]) (by dsimp only; rw [he]),rfl,by dsimp only; omega,fun p hp=>mdel_sub.subset hp⟩
   ·obtain ⟨ch,e,hl⟩:=Zbw z h hj
    rw [if_neg hd,show Q23.f ((c.1.1,c.1.2.1,(c.1.2.2.1,c.1.2.2.2)),c.2.1,c.2.2.1,c.2.2.2.1,(c.2.2.2.2.1,c.2.2.2.2.2)) (q:Int)=_ from e,Option.bind_some]
    try dsimp only
    rw [he,one,if_pos (by simp),if_pos (by simp)]
    refine ⟨q,_,_,rfl,hl.take (E:=[]) (by dsimp only; rw [he]),rfl,by dsimp only; omega,fun p hp=>mdel_sub.subset hp⟩
 ·right
  obtain ⟨E,x,hx⟩:∃ E x,c.2.2.2.1=E ++ [x]:=by
   rcases List.eq_nil_or_concat c.2.2.2.1 with e | ⟨E,x,e⟩
   ·exact absurd e he
   ·exact ⟨E,x,by rw [e,List.concat_eq_append]⟩
  obtain ⟨f,rfl,hf⟩:=h.emp x (by rw [hx]; simp)
  have hll:c.2.2.2.1.length=E.length+1:=by rw [hx]; simp
  have e1:w64 ((c.2.2.2.1.length:Int) - 1)=(E.length:Int):=by rw [Z3 (by omega) (by omega)]; omega
  unfold Q25.f
  rw [if_neg (by simp only [decide_eq_true_eq]; omega),e1,if_pos (by omega),if_pos (by omega),Int.toNat_natCast]
  have e2:gt c.2.2.2.1 (E.length:Int)=(f:Int):=by
   rw [Yx,hx,List.getD_eq_getElem?_getD,List.getElem?_append_right (Nat.le_refl _)]; simp
  have e3:c.2.2.2.1.take E.length=E:=by rw [hx,List.take_left]
  rw [e2,e3]
  exact ⟨f,_,_,rfl,h.take hx,rfl,by dsimp only; omega,fun p hp=>hp⟩
end
section
variable {N B n t:Nat} {c:Ca} {L:List Nat}
structure Costs (N B n t:Nat) (a b:Nat) (c c':Ca):Prop where
 inv:∃ L,CaI N B n t [] c' L
 rd:c.1.2.2.1≤c'.1.2.2.1∧c'.1.2.2.1≤c.1.2.2.1+a
 wr:c.1.2.2.2≤c'.1.2.2.2∧c'.1.2.2.2≤c.1.2.2.2+b
theorem Costs.same (h:CaI N B n t [] c L) (a b:Nat):Costs N B n t a b c c:=⟨⟨L,h⟩,by omega,by omega⟩
structure Few (c:Ca):Prop where
 rd:0≤c.1.2.2.1∧c.1.2.2.1≤100000000
 wr:0≤c.1.2.2.2∧c.1.2.2.2≤100000000
theorem Zkj {x:Int} (h:0≤x∧x≤1000000000):IntKind.u64.wrap (x+1)=x+1:=by
 obtain ⟨m,hm⟩:=Int.eq_ofNat_of_zero_le h.1
 have:x+1=((m+1:Nat):Int):=by omega
 rw [this]
 simp [IntKind.wrap,IntKind.bits,IntKind.signed]
 omega
theorem Zlp (z:Siz N B n) {H:List Nat} (h:CaI N B n t H c L):Q54.f c.1=some (N:Int):=by
 have:=Ut (s:=c.1.2.2) z.hB h.dim z.hNB
 rw [← h.dsz] at this
 exact this
theorem Zmr (z:Siz N B n) {H:List Nat} (h:CaI N B n t H c L) (i:Nat) (hi:i<4294967296):Q26.f c (i:Int)=some (if N≤i then 4 else 0):=by
 have hN:=z.N_le
 unfold Q26.f Q24.f
 rw [Option.bind_some,if_neg (by simp),show Q54.f (c.1.1,c.1.2.1,(c.1.2.2.1,c.1.2.2.2))=_ from Zlp z h,Option.bind_some,Z3 (x:=(i:Int)) (by omega) (by omega)]
 by_cases q:N≤i
 ·rw [if_pos (decide_eq_true (by omega)),if_pos q]
 ·rw [if_neg (by simp only [decide_eq_true_eq]; omega),if_neg q]
theorem Zmn (z:Siz N B n) {H:List Nat} (h:CaI N B n t H c L) {i:Nat} (hi:i<N):Q56.f c.1 (i:Int)=some (blk c.1.2.1 B i,0,(c.1.1,c.1.2.1,IntKind.u64.wrap (c.1.2.2.1+1),c.1.2.2.2)):=by
 have hN:=z.N_le
 have:=Zko (s:=c.1.2.2) z.hB z.hN h.dim z.hNB (show i<4294967296 by omega)
 rw [← h.dsz] at this
 rw [show Q56.f c.1 (i:Int)=_ from this,if_neg (by omega)]
theorem Ziy {es:TO} {x v:Int} (h:∀ v,(x,v)∉es):Vs x v es=es ++ [(x,v)]:=Zbe (by
 cases q:Y9 es x with
 | false=>rfl
 | true=>obtain ⟨v,hv⟩:=mhas_iff.1 q; exact absurd hv (h v))
theorem Ziz (h:CaI N B n t [] c L) {f:Nat} {p:Int} (hp:p≠0) (g:Nat):g∈L.erase f↔if g=f then p=0 else g∈L:=by
 rw [h.chn.nd.mem_erase_iff]
 split
 ·rename_i e; exact ⟨fun q=>absurd e q.1,fun q=>absurd q hp⟩
 ·rename_i e; exact ⟨fun q=>q.2,fun q=>⟨e,q⟩⟩
end
section
variable {N B n t:Nat} {c:Ca} {L:List Nat}
def Zmq (fr:List Fr8) (mp:TO) (i:Int):Bool:=(gt fr (Zv 0 mp i)).2.2.1
def Znl (c:Ca):List Int:=(c.2.2.1.map Prod.fst).mergeSort fun x y=>decide (x≤y)
def dirt8 (c:Ca):List Int:=(Znl c).filter (Zmq c.2.1 c.2.2.1)
def cR (kd:Int):Nat:=if kd=0∨kd=1 then 1 else 0
def cW (n:Nat) (kd:Int):Nat:=if kd=0∨kd=1∨kd=2 then 1 else if kd=8 then n else 0
theorem Costs.le {a a' b b' t':Nat} {c c':Ca} (h:Costs N B n t a b c c') (ht:t≤t') (ha:a≤a') (hb:b≤b'):Costs N B n t' a' b' c c':=
 ⟨by obtain ⟨L,hL⟩:=h.inv; exact ⟨L,hL.mono ht⟩,by have:=h.rd; omega,by have:=h.wr; omega⟩
theorem Zl4 (z:Siz N B n) {img:TX} (hl:img.length=N*B) (s:TW) {ch:Chn} (hc:ChI n ch []):CaI N B n 0 [] (((B:Int),img,s),List.replicate n (0,[],false,0),[],(List.range n).map (fun(i:Nat)=>(i:Int)),ch) []:=by
 refine ⟨rfl,hl,by simp,by simp,by simp,fun x hx=>?_,?_,by simp,by simp,hc,by simp⟩
 ·obtain ⟨i,hi,rfl⟩:=List.mem_map.1 hx
  exact ⟨i,rfl,List.mem_range.1 hi⟩
 ·exact List.Pairwise.map _ (fun a b hne e=>hne (by have:(a:Int)=(b:Int):=e; omega)) List.nodup_range
end
def upd {α:Type} (g:Nat→α) (i:Nat) (v:α):Nat→α:=fun j=>if j=i then v else g j
theorem Yl {α:Type} (g:Nat→α) (i:Nat) (v:α):upd g i v i=v:=if_pos rfl
theorem Yz {α:Type} {g:Nat→α} {i j:Nat} {v:α} (h:j≠i):upd g i v j=g j:=if_neg h
structure Fm where
 b:List Int
 d:Bool
 p:Nat
structure MC where
 img:List Int
 rd:Int
 wr:Int
 fr:Nat→Option Fm
 used:Nat
 row:List Nat
def fm (x:Fr8):Fm:=⟨x.2.1,x.2.2.1,x.2.2.2.toNat⟩
def Xz (c:Ca) (i:Nat):Option Fm:=if Y9 c.2.2.1 (i:Int)=true then some (fm (c.2.1.getD (Zv 0 c.2.2.1 (i:Int)).toNat default)) else none
def X1 (c:Ca) (f:Nat):Nat:=(c.2.1.getD f default).1.toNat
def Yo (c:Ca) (L:List Nat):MC:=⟨c.1.2.1,c.1.2.2.1,c.1.2.2.2,Xz c,c.2.2.1.length,L.map (X1 c)⟩
namespace MC
def evict (B:Nat) (m:MC) (q:Nat):MC:=match m.fr q with
 | none=>m
 | some x=>⟨if x.d=true then patch m.img (q*B) B x.b else m.img,m.rd,if x.d=true then m.wr+1 else m.wr,upd m.fr q none,m.used - 1,m.row.erase q⟩
def room (B n:Nat) (m:MC):Option MC:=if m.used<n then some m else match m.row.getLast? with
 | none=>none
 | some q=>some (m.evict B q)
def come (m:MC) (i:Nat) (x:Fm):MC:=⟨m.img,m.rd,m.wr,upd m.fr i (some x),m.used+1,m.row⟩
def put (m:MC) (i:Nat) (x:Fm):MC:=⟨m.img,m.rd,m.wr,upd m.fr i (some x),m.used,m.row⟩
def cut (m:MC) (i:Nat):MC:=⟨m.img,m.rd,m.wr,m.fr,m.used,m.row.erase i⟩
def pin (N B n:Nat) (m:MC) (i:Nat):Int×MC:=
 if N≤i then (4,m) else match m.fr i with
 | some x=>(0,(m.put i ⟨x.b,x.d,x.p+1⟩).cut i)
 | none=>match m.room B n with
  | none=>(7,m)
  | some k=>(0,(⟨k.img,k.rd+1,k.wr,k.fr,k.used,k.row⟩:MC).come i ⟨blk k.img B i,false,1⟩)
def fresh (N B n:Nat) (m:MC) (i:Nat):Int×MC:=
 if N≤i then (4,m) else match m.fr i with
 | some x=>if 0<x.p then (8,m) else (0,(m.put i ⟨List.replicate B 0,true,1⟩).cut i)
 | none=>match m.room B n with
  | none=>(7,m)
  | some k=>(0,k.come i ⟨List.replicate B 0,true,1⟩)
def unpin (m:MC) (i:Nat):Int×MC:=match m.fr i with
 | none=>(8,m)
 | some x=>if x.p=0 then (8,m) else (0,if x.p=1 then ⟨m.img,m.rd,m.wr,upd m.fr i (some ⟨x.b,x.d,0⟩),m.used,i :: m.row⟩ else m.put i ⟨x.b,x.d,x.p - 1⟩)
def write (B:Nat) (m:MC) (i:Nat) (b:TX):Int×MC:=match m.fr i with
 | none=>(8,m)
 | some x=>if x.p=0 then (8,m) else if b.length=B then (0,m.put i ⟨b,true,x.p⟩) else (3,m)
def read (m:MC) (i:Nat):List Int×Int:=match m.fr i with
 | none=>([],8)
 | some x=>if x.p=0 then ([],8) else (x.b,0)
def drop (m:MC) (i:Nat):Int×MC:=match m.fr i with
 | none=>(0,m)
 | some x=>if 0<x.p then (8,m) else (0,⟨m.img,m.rd,m.wr,upd m.fr i none,m.used - 1,m.row.erase i⟩)
def isD (m:MC) (i:Nat):Bool:=match m.fr i with
 | none=>false
 | some x=>x.d
def dirty (N:Nat) (m:MC):List Nat:=(List.range N).filter m.isD
def backI (B:Nat) (m:MC) (i:Nat):MC:=match m.fr i with
 | none=>m
 | some x=>⟨patch m.img (i*B) B x.b,m.rd,m.wr+1,upd m.fr i (some ⟨x.b,false,x.p⟩),m.used,m.row⟩
def flush (N B:Nat) (m:MC):MC:=(m.dirty N).foldl (backI B) m
def pins (m:MC) (i:Nat):Int:=match m.fr i with
 | none=>0
 | some x=>x.p
end MC
theorem MC.ext' {a b:MC} (h1:a.img=b.img) (h2:a.rd=b.rd) (h3:a.wr=b.wr) (h4:∀ i,a.fr i=b.fr i) (h5:a.used=b.used) (h6:a.row=b.row):a=b:=by
 cases a; cases b
 simp only at h1 h2 h3 h4 h5 h6
 subst h1 h2 h3 h5 h6
 have:=funext h4
 subst this
 rfl
theorem Br {g:Nat→Nat}:∀ {L:List Nat} {a:Nat},(∀ x∈L,g x=g a→x=a)→(L.erase a).map g=(L.map g).erase (g a)
 | [],_,_=>rfl
 | x :: L,a,h=>by
  rw [List.map_cons,List.erase_cons,List.erase_cons]
  by_cases q:x=a
  ·subst q; simp
  ·have:¬ g x=g a:=fun e=>q (h x (by simp) e)
   simp only [beq_iff_eq,q,this,if_false,List.map_cons]
   rw [Br fun y hy=>h y (by simp [hy])]
section
variable {N B n t:Nat} {H:List Nat} {c:Ca} {L:List Nat}
theorem Ue (h:CaI N B n t H c L) {i f:Nat} (ha:((i:Int),(f:Int))∈c.2.2.1):Xz c i=some (fm (c.2.1.getD f default)):=by
 unfold Xz
 rw [if_pos (mhas_iff.2 ⟨_,ha⟩),X4 h.mnd ha,Int.toNat_natCast]
theorem Gk {i:Nat} (h:∀ v,((i:Int),v)∉c.2.2.1):Xz c i=none:=by
 unfold Xz
 rw [if_neg fun q=>by obtain ⟨v,hv⟩:=mhas_iff.1 q; exact h v hv]
theorem W8 (h:CaI N B n t [] c L) {f:Nat} (hf:f∈L):∃ i:Nat,((i:Int),(f:Int))∈c.2.2.1∧X1 c f=i∧(c.2.1.getD f default).2.2.2=0∧Okf N B n t c i f:=by
 obtain ⟨⟨j,hj⟩,hp⟩:=(h.lok f).1 hf
 obtain ⟨i,f',e1,e2,ok⟩:=h.at hj
 have:f=f':=by omega
 subst this
 refine ⟨i,by rw [← e1]; exact hj,?_,hp,ok⟩
 unfold X1
 rw [ok.blk,Int.toNat_natCast]
theorem G9 (h:CaI N B n t H c L) {i f:Nat} (ha:((i:Int),(f:Int))∈c.2.2.1):X1 c f=i:=by
 unfold X1; rw [(h.atN ha).blk,Int.toNat_natCast]
theorem Bz (h:CaI N B n t H c L) {i f f':Nat} (h1:((i:Int),(f:Int))∈c.2.2.1) (h2:((i:Int),(f':Int))∈c.2.2.1):f=f':=by
 have a1:=X4 (d:=0) h.mnd h1
 have a2:=X4 (d:=0) h.mnd h2
 omega
theorem Zad (h:CaI N B n t [] c L) {i f:Nat} (ha:((i:Int),(f:Int))∈c.2.2.1):(L.erase f).map (X1 c)=(L.map (X1 c)).erase i:=by
 have e:=G9 h ha
 conv=>rhs; rw [← e]
 refine Br fun x hx q=>?_
 obtain ⟨j,hj,e2,_⟩:=W8 h hx
 have:j=i:=by omega
 subst this
 exact Bz h hj ha
theorem Zlg (h:CaI N B n t [] c L) {i f:Nat} (ha:((i:Int),(f:Int))∈c.2.2.1):i∈L.map (X1 c)↔f∈L:=by
 constructor
 ·intro q
  obtain ⟨x,hx,e⟩:=List.mem_map.1 q
  obtain ⟨j,hj,e2,_⟩:=W8 h hx
  have:j=i:=by omega
  subst this
  rw [← Bz h hj ha]; exact hx
 ·intro q
  exact List.mem_map.2 ⟨f,q,G9 h ha⟩
theorem Zdu {f:Nat} {x:Fr8} (hf:f<c.2.1.length) {d:Dv} {mp:TO} {E:TX} {ch:Chn} (k:Nat):X1 (d,c.2.1.set f x,mp,E,ch) k=if f=k then x.1.toNat else X1 c k:=by
 unfold X1
 try dsimp only
 rw [Xh hf]
 split <;> rfl
theorem V9 {f:Nat} {x:Fr8} (hf:f<c.2.1.length) (hx:x.1.toNat=X1 c f) {d:Dv} {mp:TO} {E:TX} {ch:Chn} (M:List Nat):M.map (X1 (d,c.2.1.set f x,mp,E,ch))=M.map (X1 c):=List.map_congr_left fun k _=>by
 rw [Zdu hf]
 split
 ·rename_i q; rw [hx,q]
 ·rfl
theorem J9 {f:Nat} {x:Fr8} (hf:f<c.2.1.length) {d:Dv} {mp:TO} {E:TX} {ch:Chn} {M:List Nat} (hM:f∉M):M.map (X1 (d,c.2.1.set f x,mp,E,ch))=M.map (X1 c):=List.map_congr_left fun k hk=>by
 rw [Zdu hf,if_neg fun q=>hM (by rw [q]; exact hk)]
theorem Gp (h:CaI N B n t H c L) {i f:Nat} (ha:((i:Int),(f:Int))∈c.2.2.1) {x:Fr8} {d:Dv} {E:TX} {ch:Chn} (j:Nat):Xz (d,c.2.1.set f x,c.2.2.1,E,ch) j=upd (Xz c) i (some (fm x)) j:=by
 have ok:=h.atN ha
 have hfl:f<c.2.1.length:=by rw [h.frl]; exact ok.hf
 by_cases q:j=i
 ·subst q
  rw [Yl]
  unfold Xz
  try dsimp only
  rw [if_pos (mhas_iff.2 ⟨_,ha⟩),X4 h.mnd ha,Int.toNat_natCast,Xh hfl,if_pos rfl]
 ·rw [Yz q]
  unfold Xz
  try dsimp only
  split
  ·rename_i hm
   obtain ⟨v,hv⟩:=mhas_iff.1 hm
   obtain ⟨j',f',e1,rfl,ok'⟩:=h.at hv
   have e3:j=j':=by omega
   subst e3
   rw [X4 h.mnd hv,Int.toNat_natCast,Xh hfl,if_neg]
   intro e; subst e; exact q (h.one hv ha)
  ·rfl
theorem Zc9 (h:CaI N B n t H c L) (i j:Nat):Y9 (X7 (i:Int) c.2.2.1) (j:Int)=(Y9 c.2.2.1 (j:Int) && decide (j≠i)):=by
 rw [Bool.eq_iff_iff,mhas_iff,Bool.and_eq_true,mhas_iff,decide_eq_true_eq]
 constructor
 ·rintro ⟨v,hv⟩
  rw [Vu h.mnd] at hv
  exact ⟨⟨v,hv.1⟩,fun e=>hv.2 (by rw [e])⟩
 ·rintro ⟨⟨v,hv⟩,e⟩
  exact ⟨v,(Vu h.mnd).2 ⟨hv,fun q=>e (by have:(j:Int)=i:=q; omega)⟩⟩
theorem Zbz (h:CaI N B n t H c L) {i f:Nat} (ha:((i:Int),(f:Int))∈c.2.2.1) {x:Fr8} {d:Dv} {E:TX} {ch:Chn} (j:Nat):Xz (d,c.2.1.set f x,X7 (i:Int) c.2.2.1,E,ch) j=upd (Xz c) i none j:=by
 have ok:=h.atN ha
 have hfl:f<c.2.1.length:=by rw [h.frl]; exact ok.hf
 by_cases q:j=i
 ·subst q
  rw [Yl]
  unfold Xz
  try dsimp only
  rw [if_neg (by rw [Zc9 h]; simp)]
 ·rw [Yz q]
  unfold Xz
  try dsimp only
  rw [Zc9 h]
  by_cases hm:Y9 c.2.2.1 (j:Int)=true
  ·obtain ⟨v,hv⟩:=mhas_iff.1 hm
   obtain ⟨j',f',e1,rfl,ok'⟩:=h.at hv
   have e3:j=j':=by omega
   subst e3
   have hv':((j:Int),(f':Int))∈X7 (i:Int) c.2.2.1:=(Vu h.mnd).2 ⟨hv,fun e=>q (by have:(j:Int)=i:=e; omega)⟩
   rw [if_pos (by rw [hm]; simp [q]),if_pos hm,X4 ((mdel_sub.map _).nodup h.mnd) hv',X4 h.mnd hv,Int.toNat_natCast,Xh hfl,if_neg]
   intro e; subst e; exact q (h.one hv ha)
  ·rw [if_neg hm,if_neg (by simp [hm])]
theorem Zhv {f:Nat} (h:CaI N B n t [f] c L) {i:Nat} (hno:∀ v,((i:Int),v)∉c.2.2.1) {x:Fr8} {d:Dv} {E:TX} {ch:Chn} (j:Nat):Xz (d,c.2.1.set f x,c.2.2.1 ++ [((i:Int),(f:Int))],E,ch) j=upd (Xz c) i (some (fm x)) j:=by
 obtain ⟨hf,hfe,hfm⟩:=h.hol f (by simp)
 have hfl:f<c.2.1.length:=by rw [h.frl]; exact hf
 have hnd:((c.2.2.1 ++ [((i:Int),(f:Int))]).map Prod.fst).Nodup:=by
  rw [List.map_append,List.nodup_append]
  refine ⟨h.mnd,by simp,fun a ha b hb e=>?_⟩
  obtain ⟨p,hp,rfl⟩:=List.mem_map.1 ha
  simp only [List.map_cons,List.map_nil,List.mem_singleton] at hb
  exact hno p.2 (by rw [← hb,← e]; exact hp)
 unfold Xz
 try dsimp only
 by_cases q:j=i
 ·subst q
  have hv:((j:Int),(f:Int))∈c.2.2.1 ++ [((j:Int),(f:Int))]:=by simp
  rw [Yl,if_pos (mhas_iff.2 ⟨_,hv⟩),X4 hnd hv,Int.toNat_natCast,Xh hfl,if_pos rfl]
 ·rw [Yz q]
  by_cases hm:Y9 c.2.2.1 (j:Int)=true
  ·obtain ⟨v,hv⟩:=mhas_iff.1 hm
   obtain ⟨j',f',e1,rfl,ok'⟩:=h.at hv
   have e3:j=j':=by omega
   subst e3
   have hv':((j:Int),(f':Int))∈c.2.2.1 ++ [((i:Int),(f:Int))]:=by simp [hv]
   rw [if_pos (mhas_iff.2 ⟨_,hv'⟩),if_pos hm,X4 hnd hv',X4 h.mnd hv,Int.toNat_natCast,Xh hfl,if_neg]
   intro e; subst e; exact hfm _ hv
  ·rw [if_neg hm,if_neg]
   intro hm2
   obtain ⟨v,hv⟩:=mhas_iff.1 hm2
   rcases List.mem_append.1 hv with hv | hv
   ·exact hm (mhas_iff.2 ⟨v,hv⟩)
   ·rw [List.mem_singleton,Prod.mk.injEq] at hv
    exact q (by omega)
theorem Zkv (h:CaI N B n t H c L) {i:Nat} {x:Fm} (hx:Xz c i=some x):i<N∧x.b.length=B∧x.p≤t:=by
 unfold Xz at hx
 split at hx
 ·rename_i hm
  obtain ⟨v,hv⟩:=mhas_iff.1 hm
  obtain ⟨j',f',e1,rfl,ok'⟩:=h.at hv
  have e3:i=j':=by omega
  subst e3
  rw [X4 h.mnd hv,Int.toNat_natCast] at hx
  injection hx with hx
  subst hx
  refine ⟨ok'.hi,ok'.len,?_⟩
  have:=ok'.pin
  unfold fm
  try dsimp only
  omega
 ·cases hx
end
namespace MC
section
variable {N B n i:Nat} {m k:MC} {x:Fm} {b:TX}
theorem pin_out (h:N≤i):m.pin N B n i=(4,m):=by unfold pin; rw [if_pos h]
theorem pin_hit (h:¬ N≤i) (e:m.fr i=some x):m.pin N B n i=(0,(m.put i ⟨x.b,x.d,x.p+1⟩).cut i):=by unfold pin; rw [if_neg h,e]
theorem pin_full (h:¬ N≤i) (e:m.fr i=none) (r:m.room B n=none):m.pin N B n i=(7,m):=by unfold pin; rw [if_neg h,e,r]
theorem pin_miss (h:¬ N≤i) (e:m.fr i=none) (r:m.room B n=some k):m.pin N B n i=(0,(⟨k.img,k.rd+1,k.wr,k.fr,k.used,k.row⟩:MC).come i ⟨blk k.img B i,false,1⟩):=by unfold pin; rw [if_neg h,e,r]
theorem fresh_out (h:N≤i):m.fresh N B n i=(4,m):=by unfold fresh; rw [if_pos h]
theorem fresh_pin (h:¬ N≤i) (e:m.fr i=some x) (p:0<x.p):m.fresh N B n i=(8,m):=by unfold fresh; rw [if_neg h,e]; exact if_pos p
theorem fresh_hit (h:¬ N≤i) (e:m.fr i=some x) (p:¬ 0<x.p):m.fresh N B n i=(0,(m.put i ⟨List.replicate B 0,true,1⟩).cut i):=by unfold fresh; rw [if_neg h,e]; exact if_neg p
theorem fresh_full (h:¬ N≤i) (e:m.fr i=none) (r:m.room B n=none):m.fresh N B n i=(7,m):=by unfold fresh; rw [if_neg h,e,r]
theorem fresh_miss (h:¬ N≤i) (e:m.fr i=none) (r:m.room B n=some k):m.fresh N B n i=(0,k.come i ⟨List.replicate B 0,true,1⟩):=by unfold fresh; rw [if_neg h,e,r]
theorem unpin_no (e:m.fr i=none):m.unpin i=(8,m):=by unfold unpin; rw [e]
theorem unpin_out (e:m.fr i=some x) (p:x.p=0):m.unpin i=(8,m):=by unfold unpin; rw [e]; exact if_pos p
theorem unpin_one (e:m.fr i=some x) (p:x.p=1):m.unpin i=(0,⟨m.img,m.rd,m.wr,upd m.fr i (some ⟨x.b,x.d,0⟩),m.used,i :: m.row⟩):=by unfold unpin; rw [e]; dsimp only; rw [if_neg (by omega),if_pos p]
theorem unpin_more (e:m.fr i=some x) (p:x.p≠0) (q:x.p≠1):m.unpin i=(0,m.put i ⟨x.b,x.d,x.p - 1⟩):=by unfold unpin; rw [e]; dsimp only; rw [if_neg p,if_neg q]
theorem write_no (e:m.fr i=none):m.write B i b=(8,m):=by unfold write; rw [e]
theorem write_out (e:m.fr i=some x) (p:x.p=0):m.write B i b=(8,m):=by unfold write; rw [e]; exact if_pos p
theorem write_form (e:m.fr i=some x) (p:x.p≠0) (q:b.length≠B):m.write B i b=(3,m):=by unfold write; rw [e]; dsimp only; rw [if_neg p,if_neg q]
theorem write_hit (e:m.fr i=some x) (p:x.p≠0) (q:b.length=B):m.write B i b=(0,m.put i ⟨b,true,x.p⟩):=by unfold write; rw [e]; dsimp only; rw [if_neg p,if_pos q]
theorem read_no (e:m.fr i=none):m.read i=([],8):=by unfold read; rw [e]
theorem read_out (e:m.fr i=some x) (p:x.p=0):m.read i=([],8):=by unfold read; rw [e]; exact if_pos p
theorem read_hit (e:m.fr i=some x) (p:x.p≠0):m.read i=(x.b,0):=by unfold read; rw [e]; exact if_neg p
theorem drop_no (e:m.fr i=none):m.drop i=(0,m):=by unfold drop; rw [e]
theorem drop_pin (e:m.fr i=some x) (p:0<x.p):m.drop i=(8,m):=by unfold drop; rw [e]; exact if_pos p
theorem drop_hit (e:m.fr i=some x) (p:¬ 0<x.p):m.drop i=(0,⟨m.img,m.rd,m.wr,upd m.fr i none,m.used - 1,m.row.erase i⟩):=by unfold drop; rw [e]; exact if_neg p
theorem evict_eq (e:m.fr i=some x):m.evict B i=⟨if x.d=true then patch m.img (i*B) B x.b else m.img,m.rd,if x.d=true then m.wr+1 else m.wr,upd m.fr i none,m.used - 1,m.row.erase i⟩:=by unfold evict; rw [e]
end
end MC
section
variable {N B n t:Nat} {H:List Nat} {c:Ca} {L:List Nat}
theorem Zlb {α:Type} (g:Nat→α) (i:Nat) (u v:α) (j:Nat):upd (upd g i u) i v j=upd g i v j:=by unfold upd; split <;> rfl
theorem Ziu {α:Type} {g g':Nat→α} (h:∀ j,g j=g' j) (i:Nat) (v:α) (j:Nat):upd g i v j=upd g' i v j:=by unfold upd; split; rfl; exact h j
theorem Zed (h:CaI N B n t [] c L) (f:Nat):f∉L.erase f:=fun q=>(h.chn.nd.mem_erase_iff.1 q).1 rfl
theorem Znk (z:Siz N B n) (h:CaI N B n t [] c L) (hw:0≤c.1.2.2.2∧c.1.2.2.2≤1000000000):(Q25.f c=some (0,false,c)∧(Yo c L).room B n=none)∨
  ∃(f:Nat) (c':Ca) (L':List Nat),Q25.f c=some ((f:Int),true,c')∧CaI N B n t [f] c' L'∧(Yo c L).room B n=some (Yo c' L')∧f∉L':=by
 have h64:=z.h64
 have htot:=h.tot
 have hfl:=h.frl
 have wr:IntKind.u64.wrap (c.1.2.2.2+1)=c.1.2.2.2+1:=Zkj hw
 have hru:(Yo c L).used=c.2.2.1.length:=rfl
 by_cases he:c.2.2.2.1=[]
 ·have e0:(decide ((c.2.2.2.1.length:Int)=0))=true:=by rw [he]; rfl
  have eu:¬ (Yo c L).used<n:=by rw [hru]; rw [he] at htot; simp only [List.length_nil] at htot; omega
  rcases List.eq_nil_or_concat L with rfl | ⟨L0,q,hq⟩
  ·left
   refine ⟨?_,?_⟩
   ·unfold Q25.f
    rw [if_pos e0,show Q29.f (c.2.2.2.2.1,c.2.2.2.2.2)=_ from Zdr h.chn,Option.bind_some,if_pos (by simp)]
   ·unfold MC.room
    rw [if_neg eu]
    rfl
  ·right
   rw [List.concat_eq_append] at hq
   subst hq
   obtain ⟨⟨j,hj⟩,hp⟩:=(h.lok q).1 (by simp)
   obtain ⟨i,q',rfl,e2,ok⟩:=h.at hj
   have:q=q':=by omega
   subst this
   have hf:=ok.hf
   have hqn:q∉(L0 ++ [q]).erase q:=Zed h q
   have hfr:=Ue h hj
   have g:gt c.2.1 (q:Int)=c.2.1.getD q default:=Yx _ _
   have hrm:(Yo c (L0 ++ [q])).room B n=some ((Yo c (L0 ++ [q])).evict B i):=by
    unfold MC.room
    rw [if_neg eu]
    have:(Yo c (L0 ++ [q])).row.getLast?=some i:=by
     show ((L0 ++ [q]).map (X1 c)).getLast?=_
     rw [List.map_append,List.map_cons,List.map_nil,List.getLast?_concat,G9 h hj]
    rw [this]
   have hml:=Za9 (mhas_iff.2 ⟨_,hj⟩)
   unfold Q25.f
   rw [if_pos e0,show Q29.f (c.2.2.2.2.1,c.2.2.2.2.2)=_ from Zkk h.chn (by omega),Option.bind_some,if_neg (by simp)]
   try dsimp only
   rw [if_pos (by omega)]
   have one:w64 ((([] ++ [(q:Int)]:List Int).length:Int) - 1)=0:=by
    show w64 (((1:Nat):Int) - 1)=0
    decide
   rw [hrm,MC.evict_eq (show (Yo c (L0 ++ [q])).fr i=_ from hfr)]
   by_cases hd:(gt c.2.1 (q:Int)).2.2.1=true
   ·have hb:=h.back z hj (c.1.2.2.1,c.1.2.2.2+1)
    obtain ⟨ch,e,hl⟩:=Zbw z hb (by exact hj)
    have hd':(fm (c.2.1.getD q default)).d=true:=by rw [← g]; exact hd
    rw [if_pos hd,show Q57.f (c.1.1,c.1.2.1,(c.1.2.2.1,c.1.2.2.2)) (gt c.2.1 (q:Int)).1 (gt c.2.1 (q:Int)).2.1=_ from Zh2 z h hj,Option.bind_some]
    try dsimp only
    rw [wr,Int.toNat_natCast,show Q23.f ((c.1.1,patch c.1.2.1 (i*B) B (gt c.2.1 (q:Int)).2.1,c.1.2.2.1,c.1.2.2.2+1),c.2.1.set q ((gt c.2.1 (q:Int)).1,(gt c.2.1 (q:Int)).2.1,false,(gt c.2.1 (q:Int)).2.2.2),c.2.2.1,c.2.2.2.1,c.2.2.2.2.1,c.2.2.2.2.2) (q:Int)=_ from e,Option.bind_some]
    try dsimp only
    rw [he,one,if_pos (by simp),if_pos (by simp),if_pos hd',if_pos hd']
    refine ⟨q,_,(L0 ++ [q]).erase q,rfl,hl.take (E:=[]) (by dsimp only; rw [he]),congrArg some (MC.ext' ?_ rfl rfl ?_ ?_ ?_),hqn⟩
    ·show patch c.1.2.1 (i*B) B (fm (c.2.1.getD q default)).b=_
     rw [← g]; rfl
    ·intro j
     show upd (Xz c) i none j=_
     refine Eq.trans ?_ (Zbz hb hj j).symm
     refine Eq.trans (Zlb (Xz c) i _ none j).symm (Ziu (fun j=>(Gp h hj j).symm) i none j)
    ·show c.2.2.1.length - 1=(X7 (i:Int) c.2.2.1).length
     omega
    ·show ((L0 ++ [q]).map (X1 c)).erase i=_
     have hfl2:=hb.frl
     refine Eq.trans (Zad h hj).symm ?_
     refine Eq.trans ?_ (J9 (c:=((c.1.1,patch c.1.2.1 (i*B) B (gt c.2.1 (q:Int)).2.1,c.1.2.2.1,c.1.2.2.2+1),c.2.1.set q ((gt c.2.1 (q:Int)).1,(gt c.2.1 (q:Int)).2.1,false,(gt c.2.1 (q:Int)).2.2.2),c.2.2)) (by rw [hfl2]; exact hf) hqn).symm
     exact (V9 (by omega) (by rw [g]; rfl) _).symm
   ·obtain ⟨ch,e,hl⟩:=Zbw z h hj
    have hd':¬ (fm (c.2.1.getD q default)).d=true:=by rw [← g]; exact hd
    rw [if_neg hd,show Q23.f ((c.1.1,c.1.2.1,(c.1.2.2.1,c.1.2.2.2)),c.2.1,c.2.2.1,c.2.2.2.1,(c.2.2.2.2.1,c.2.2.2.2.2)) (q:Int)=_ from e,Option.bind_some]
    try dsimp only
    rw [he,one,if_pos (by simp),if_pos (by simp),if_neg hd',if_neg hd']
    refine ⟨q,_,(L0 ++ [q]).erase q,rfl,hl.take (E:=[]) (by dsimp only; rw [he]),congrArg some (MC.ext' rfl rfl rfl ?_ ?_ ?_),hqn⟩
    ·intro j
     exact (Zbz h hj j).symm
    ·show c.2.2.1.length - 1=(X7 (i:Int) c.2.2.1).length
     omega
    ·show ((L0 ++ [q]).map (X1 c)).erase i=_
     refine Eq.trans (Zad h hj).symm ?_
     exact (J9 (by omega) hqn).symm
 ·right
  obtain ⟨E,x,hx⟩:∃ E x,c.2.2.2.1=E ++ [x]:=by
   rcases List.eq_nil_or_concat c.2.2.2.1 with e | ⟨E,x,e⟩
   ·exact absurd e he
   ·exact ⟨E,x,by rw [e,List.concat_eq_append]⟩
  obtain ⟨f,rfl,hf⟩:=h.emp x (by rw [hx]; simp)
  have hll:c.2.2.2.1.length=E.length+1:=by rw [hx]; simp
  have e1:w64 ((c.2.2.2.1.length:Int) - 1)=(E.length:Int):=by rw [Z3 (by omega) (by omega)]; omega
  unfold Q25.f
  rw [if_neg (by simp only [decide_eq_true_eq]; omega),e1,if_pos (by omega),if_pos (by omega),Int.toNat_natCast]
  have e2:gt c.2.2.2.1 (E.length:Int)=(f:Int):=by
   rw [Yx,hx,List.getD_eq_getElem?_getD,List.getElem?_append_right (Nat.le_refl _)]; simp
  have e3:c.2.2.2.1.take E.length=E:=by rw [hx,List.take_left]
  rw [e2,e3]
  refine ⟨f,_,L,rfl,h.take hx,?_,fun q=>?_⟩
  ·unfold MC.room
   rw [if_pos (by rw [hru]; omega)]
   rfl
  ·obtain ⟨i,hi,_,_,ok⟩:=W8 h q
   exact ok.emp (by rw [hx]; simp)
theorem Zn4 (z:Siz N B n) (h:CaI N B n t [] c L) (fw:Few c) (ht:t≤1000000) (i:Nat) (hi:i<4294967296):∃ c' L',Q19.f c (i:Int)=some (((Yo c L).pin N B n i).1,c')∧CaI N B n (t+1) [] c' L'∧Yo c' L'=((Yo c L).pin N B n i).2:=by
 have h64:=z.h64
 have hfl:=h.frl
 unfold Q19.f
 rw [show Q26.f ((c.1.1,c.1.2.1,(c.1.2.2.1,c.1.2.2.2)),c.2.1,c.2.2.1,c.2.2.2.1,(c.2.2.2.2.1,c.2.2.2.2.2)) (i:Int)=_ from Zmr z h i hi,Option.bind_some]
 by_cases q:N≤i
 ·rw [if_pos q,if_pos (by simp),MC.pin_out q]
  exact ⟨_,L,rfl,h.mono (Nat.le_succ t),rfl⟩
 ·rw [if_neg q,if_neg (by simp)]
  rcases h.get i with ⟨g1,g2⟩ | ⟨f,ha,g1,g2,ok⟩
  ·have hno:(Yo c L).fr i=none:=Gk g2
   rw [if_neg (by simp [g1])]
   rcases Znk z h ⟨fw.wr.1,by have:=fw.wr.2; omega⟩ with ⟨e,er⟩ | ⟨f,c1,L1,e,h1,er,hfL⟩
   ·rw [show Q25.f ((c.1.1,c.1.2.1,(c.1.2.2.1,c.1.2.2.2)),c.2.1,c.2.2.1,c.2.2.2.1,(c.2.2.2.2.1,c.2.2.2.2.2))=_ from e,Option.bind_some,if_pos (by simp),MC.pin_full q hno er]
    exact ⟨_,L,rfl,h.mono (Nat.le_succ t),rfl⟩
   ·rcases Zno z h ⟨fw.wr.1,by have:=fw.wr.2; omega⟩ with e' | ⟨f',c1',L1',e',_,k1,k2,k3⟩
    ·rw [e] at e'; simp at e'
    ·rw [e] at e'
     simp only [Option.some.injEq,Prod.mk.injEq,true_and] at e'
     have ec:c1=c1':=e'.2
     subst ec
     obtain ⟨hf,hfe,hfm⟩:=h1.hol f (by simp)
     have hfl1:=h1.frl
     have hno1:∀ v,((i:Int),v)∉c1.2.2.1:=fun v hv=>g2 v (k3 _ hv)
     obtain ⟨r5,ch,e5,hc5⟩:=Zj4 h1.chn hf (by omega)
     rw [List.erase_of_not_mem hfL] at hc5
     rw [show Q25.f ((c.1.1,c.1.2.1,(c.1.2.2.1,c.1.2.2.2)),c.2.1,c.2.2.1,c.2.2.2.1,(c.2.2.2.2.1,c.2.2.2.2.2))=_ from e,Option.bind_some,if_neg (by simp)]
     try dsimp only
     rw [show Q56.f (c1.1.1,c1.1.2.1,(c1.1.2.2.1,c1.1.2.2.2)) (i:Int)=_ from Zmn z h1 (by omega),Option.bind_some,if_neg (by simp),if_pos (by omega),show Q27.f (c1.2.2.2.2.1,c1.2.2.2.2.2) (f:Int)=_ from e5,Option.bind_some]
     have hcm:=(h1.mono (Nat.le_succ t)).come (show i<N by omega) hno1 (x:=((i:Int),blk c1.1.2.1 B i,false,1)) rfl (Zb7 h1.dim (by omega)) rfl (by omega) hc5
     try dsimp only
     rw [Zkj (by rw [k1]; have:=fw.rd; omega),Ziy hno1,Int.toNat_natCast,MC.pin_miss q hno er]
     refine ⟨_,L1,rfl,hcm.dev (s:=(c1.1.2.2.1+1,c1.1.2.2.2)) h1.dim,MC.ext' rfl rfl rfl ?_ ?_ ?_⟩
     ·intro j; exact Zhv h1 hno1 j
     ·show (c1.2.2.1 ++ [((i:Int),(f:Int))]).length=c1.2.2.1.length+1
      simp
     ·exact J9 (by omega) hfL
  ·have hf:=ok.hf
   have hp:=ok.pin
   have hfr:(Yo c L).fr i=_:=Ue h ha
   obtain ⟨r2,ch,e2,hc2⟩:=Zj4 h.chn ok.hf (by omega)
   have g:gt c.2.1 (f:Int)=c.2.1.getD f default:=Yx _ _
   have wp:w64 ((c.2.1.getD f default).2.2.2+1)=(c.2.1.getD f default).2.2.2+1:=Z3 (by omega) (by omega)
   have hs:=h.setfr ha (x:=((gt c.2.1 (f:Int)).1,(gt c.2.1 (f:Int)).2.1,(gt c.2.1 (f:Int)).2.2.1,w64 ((gt c.2.1 (f:Int)).2.2.2+1))) (t':=t+1) (by rw [g]; exact ok.blk) (by rw [g]; exact ok.len) (by rw [g]; dsimp only; rw [wp]; omega) (Nat.le_succ t) hc2 (Ziz h (by rw [g]; dsimp only; rw [wp]; omega))
   rw [if_pos g1,g2,if_pos (by omega),show Q27.f (c.2.2.2.2.1,c.2.2.2.2.2) (f:Int)=_ from e2,Option.bind_some,Int.toNat_natCast,MC.pin_hit q hfr]
   refine ⟨_,L.erase f,rfl,hs,MC.ext' rfl rfl rfl (fun j=>?_) rfl ?_⟩
   ·refine Eq.trans (Gp h ha j) ?_
    show upd (Xz c) i _ j=upd (Xz c) i _ j
    congr 2
    unfold fm
    rw [g]
    try dsimp only
    rw [wp,show ((c.2.1.getD f default).2.2.2+1).toNat=(c.2.1.getD f default).2.2.2.toNat+1 by omega]
   ·exact Eq.trans (V9 (by omega) (by rw [g]; rfl) _) (Zad h ha)
theorem Zl7 (z:Siz N B n) (h:CaI N B n t [] c L) (ht:t≤1000000) (i:Nat):∃ c' L',Q21.f c (i:Int)=some (((Yo c L).unpin i).1,c')∧CaI N B n t [] c' L'∧Yo c' L'=((Yo c L).unpin i).2:=by
 have h64:=z.h64
 have hfl:=h.frl
 unfold Q21.f Q24.f
 rw [Option.bind_some,if_neg (by simp)]
 rcases h.get i with ⟨g1,g2⟩ | ⟨f,ha,g1,g2,ok⟩
 ·rw [if_pos (by simp [g1]),MC.unpin_no (show (Yo c L).fr i=none from Gk g2)]
  exact ⟨_,L,rfl,h,rfl⟩
 ·have hf:=ok.hf
  have hp:=ok.pin
  have hfr:(Yo c L).fr i=_:=Ue h ha
  have g:gt c.2.1 (f:Int)=c.2.1.getD f default:=Yx _ _
  rw [if_neg (by simp [g1]),g2,if_pos (by omega)]
  by_cases hp0:(gt c.2.1 (f:Int)).2.2.2=0
  ·rw [if_pos (decide_eq_true hp0),MC.unpin_out hfr (by unfold fm; dsimp only; rw [← g,hp0]; rfl)]
   exact ⟨_,L,rfl,h,rfl⟩
  ·have wp:w64 ((gt c.2.1 (f:Int)).2.2.2 - 1)=(gt c.2.1 (f:Int)).2.2.2 - 1:=by rw [g]; exact Z3 (by omega) (by omega)
   have hp1:0<(gt c.2.1 (f:Int)).2.2.2:=by rw [g] at hp0 ⊢; omega
   have hp2:(gt c.2.1 (f:Int)).2.2.2≤t:=by rw [g]; omega
   have hset:gt (c.2.1.set f ((gt c.2.1 (f:Int)).1,(gt c.2.1 (f:Int)).2.1,(gt c.2.1 (f:Int)).2.2.1,w64 ((gt c.2.1 (f:Int)).2.2.2 - 1))) (f:Int)=((gt c.2.1 (f:Int)).1,(gt c.2.1 (f:Int)).2.1,(gt c.2.1 (f:Int)).2.2.1,w64 ((gt c.2.1 (f:Int)).2.2.2 - 1)):=by
    rw [Yx,Xh (by omega),if_pos rfl]
   have hfL:f∉L:=fun hx=>by have:=((h.lok f).1 hx).2; rw [← g] at this; omega
   have hx0:(fm (c.2.1.getD f default)).p=(c.2.1.getD f default).2.2.2.toNat:=rfl
   rw [if_neg (by simpa using hp0),Int.toNat_natCast,hset,wp]
   by_cases hp3:(gt c.2.1 (f:Int)).2.2.2 - 1=0
   ·obtain ⟨ch,e2,hc2⟩:=Zmk h.chn ok.hf hfL (by omega)
    rw [if_pos (decide_eq_true hp3),show Q28.f (c.2.2.2.2.1,c.2.2.2.2.2) (f:Int)=_ from e2,Option.bind_some,MC.unpin_one hfr (by rw [hx0,← g]; omega)]
    have hs:=h.setfr ha (x:=((gt c.2.1 (f:Int)).1,(gt c.2.1 (f:Int)).2.1,(gt c.2.1 (f:Int)).2.2.1,(gt c.2.1 (f:Int)).2.2.2 - 1)) (t':=t) (by rw [g]; exact ok.blk) (by rw [g]; exact ok.len) (by dsimp only; omega) (Nat.le_refl t) hc2 (fun k=>by
     rw [List.mem_cons]
     split
     ·rename_i e; exact ⟨fun _=>hp3,fun _=>.inl e⟩
     ·rename_i e; exact ⟨fun q=>q.elim (fun e'=>absurd e' e) id,.inr⟩)
    refine ⟨_,f :: L,rfl,hs,MC.ext' rfl rfl rfl (fun j=>?_) rfl ?_⟩
    ·refine Eq.trans (Gp h ha j) ?_
     show upd (Xz c) i _ j=upd (Xz c) i _ j
     congr 2
     unfold fm
     try dsimp only
     rw [hp3,g]; rfl
    ·refine Eq.trans (V9 (by omega) (by rw [g]; rfl) _) ?_
     show X1 c f :: L.map (X1 c)=_
     rw [G9 h ha]; rfl
   ·rw [if_neg (by simpa using hp3),MC.unpin_more hfr (by rw [hx0,← g]; omega) (by rw [hx0,← g]; omega)]
    have hs:=h.setfr ha (x:=((gt c.2.1 (f:Int)).1,(gt c.2.1 (f:Int)).2.1,(gt c.2.1 (f:Int)).2.2.1,(gt c.2.1 (f:Int)).2.2.2 - 1)) (t':=t) (by rw [g]; exact ok.blk) (by rw [g]; exact ok.len) (by dsimp only; omega) (Nat.le_refl t) h.chn (fun k=>by
     split
     ·rename_i e; subst e; exact ⟨fun q=>absurd q hfL,fun q=>absurd q hp3⟩
     ·exact Iff.rfl)
    refine ⟨_,L,rfl,hs,MC.ext' rfl rfl rfl (fun j=>?_) rfl ?_⟩
    ·refine Eq.trans (Gp h ha j) ?_
     show upd (Xz c) i _ j=upd (Xz c) i _ j
     congr 2
     unfold fm
     try dsimp only
     rw [g,show ((c.2.1.getD f default).2.2.2 - 1).toNat=(c.2.1.getD f default).2.2.2.toNat - 1 by omega]
    ·exact V9 (by omega) (by rw [g]; rfl) _
theorem Zm3 (z:Siz N B n) (h:CaI N B n t [] c L) (i:Nat):Q20.f c (i:Int)=some ((Yo c L).read i):=by
 have hfl:=h.frl
 have hB:=z.B_le
 unfold Q20.f Q24.f
 rw [Option.bind_some,if_neg (by simp)]
 rcases h.get i with ⟨g1,g2⟩ | ⟨f,ha,g1,g2,ok⟩
 ·rw [if_pos (by simp [g1]),MC.read_no (show (Yo c L).fr i=none from Gk g2)]
 ·have hf:=ok.hf
  have hp:=ok.pin
  have hfr:(Yo c L).fr i=_:=Ue h ha
  have hx0:(fm (c.2.1.getD f default)).p=(c.2.1.getD f default).2.2.2.toNat:=rfl
  have g:gt c.2.1 (f:Int)=c.2.1.getD f default:=Yx _ _
  rw [if_neg (by simp [g1]),g2,if_pos (by omega)]
  by_cases hp0:(gt c.2.1 (f:Int)).2.2.2=0
  ·rw [if_pos (decide_eq_true hp0),MC.read_out hfr (by rw [hx0,← g,hp0]; rfl)]
  ·rw [if_neg (by simpa using hp0),Zce (by rw [g,ok.len]; omega),Option.bind_some,MC.read_hit hfr (by rw [hx0]; rw [g] at hp0; omega),g]; rfl
end
abbrev Rf:=Int×List UInt8×Bool×Int
abbrev Rc:=(Int×List TS×Int×Int)×List Rf×Int×List Int
def rfm (i:Nat) (f:Fm):Rf:=((i:Int),toS f.b,f.d,(f.p:Int))
def Vk (i:Int) (l:List Rf):List Rf:=l.filter fun x=>!decide (x.1=i)
structure RL (l:List Rf) (g:Nat→Option Fm):Prop where
 nd:(l.map Prod.fst).Nodup
 mem:∀ x∈l,∃(i:Nat) (f:Fm),g i=some f∧x=rfm i f
 all:∀(i:Nat) (f:Fm),g i=some f→rfm i f∈l
section
variable {l:List Rf} {g:Nat→Option Fm} {i:Nat} {f:Fm}
theorem Zk8 (h:RL l g) (e:g i=none):Vk (i:Int) l=l:=List.filter_eq_self.2 fun x hx=>by
 obtain ⟨j,f,h1,rfl⟩:=h.mem x hx
 have:¬ (rfm j f).1=(i:Int):=fun q=>by
  have:j=i:=by have:(j:Int)=i:=q; omega
  subst this; rw [e] at h1; cases h1
 simp [this]
theorem Za8:∀ {l:List Rf} {x:Rf},(l.map Prod.fst).Nodup→x∈l→(Vk x.1 l).length+1=l.length
 | [],x,_,h=>by simp at h
 | y :: l,x,nd,h=>by
  rw [List.map_cons,List.nodup_cons] at nd
  by_cases q:y.1=x.1
  ·have hl:Vk x.1 l=l:=List.filter_eq_self.2 fun z hz=>by
    have:¬ z.1=x.1:=fun e=>nd.1 (by rw [q,← e]; exact List.mem_map_of_mem hz)
    simp [this]
   have:Vk x.1 (y :: l)=l:=by
    unfold Vk at hl ⊢
    rw [List.filter_cons_of_neg (by simp [q]),hl]
   rw [this]; rfl
  ·have hx:x∈l:=by
    rcases List.mem_cons.1 h with e | e
    ·exact absurd (by rw [e]) q
    ·exact e
   have:Vk x.1 (y :: l)=y :: Vk x.1 l:=by
    unfold Vk
    rw [List.filter_cons_of_pos (by simp [q])]
   rw [this,List.length_cons,List.length_cons,Za8 nd.2 hx]
theorem RL.gone (h:RL l g) (i:Nat):RL (Vk (i:Int) l) (upd g i none):=by
 refine ⟨(List.filter_sublist.map _).nodup h.nd,fun x hx=>?_,fun j f hj=>?_⟩
 ·obtain ⟨h1,h2⟩:=List.mem_filter.1 hx
  obtain ⟨j,f,h3,rfl⟩:=h.mem x h1
  have hne:j≠i:=fun q=>by subst q; simp [rfm] at h2
  exact ⟨j,f,by rw [Yz hne,h3],rfl⟩
 ·by_cases q:j=i
  ·subst q; rw [Yl] at hj; cases hj
  ·rw [Yz q] at hj
   refine List.mem_filter.2 ⟨h.all j f hj,?_⟩
   have:¬ (j:Int)=i:=by omega
   simp [rfm,this]
theorem RL.put (h:RL l g) (i:Nat) (f:Fm):RL (Vk (i:Int) l ++ [rfm i f]) (upd g i (some f)):=by
 have hg:=h.gone i
 refine ⟨?_,fun x hx=>?_,fun j f' hj=>?_⟩
 ·rw [List.map_append,List.nodup_append]
  refine ⟨hg.nd,by simp,fun a ha b hb e=>?_⟩
  obtain ⟨x,hx,rfl⟩:=List.mem_map.1 ha
  simp only [List.map_cons,List.map_nil,List.mem_singleton] at hb
  obtain ⟨_,h2⟩:=List.mem_filter.1 hx
  rw [e,hb] at h2
  simp [rfm] at h2
 ·rcases List.mem_append.1 hx with hx | hx
  ·obtain ⟨j,f',h1,e⟩:=hg.mem x hx
   have hne:j≠i:=fun q=>by subst q; rw [Yl] at h1; cases h1
   exact ⟨j,f',by rw [Yz hne] at h1 ⊢; exact h1,e⟩
  ·rw [List.mem_singleton] at hx
   exact ⟨i,f,Yl _ _ _,hx⟩
 ·by_cases q:j=i
  ·subst q; rw [Yl] at hj; injection hj with hj; subst hj; simp
  ·rw [Yz q] at hj
   exact List.mem_append_left _ (hg.all j f' (by rw [Yz q]; exact hj))
theorem RL.congr (h:RL l g) {g':Nat→Option Fm} (e:∀ j,g j=g' j):RL l g':=by
 have:=funext e
 subst this; exact h
end
structure RR (N B n:Nat) (w:Rc) (m:MC):Prop where
 dev:w.1=((B:Int),Lb m.img N B,m.rd,m.wr)
 most:w.2.2.1=(n:Int)
 row:w.2.2.2=m.row.map fun(i:Nat)=>(i:Int)
 fr:RL w.2.1 m.fr
 used:w.2.1.length=m.used
structure MI (N B n t:Nat) (m:MC):Prop where
 dim:m.img.length=N*B
 len:∀ i f,m.fr i=some f→i<N∧f.b.length=B∧f.p≤t
 rnd:m.row.Nodup
 rfr:∀ q,q∈m.row↔∃ f,m.fr q=some f∧f.p=0
 ule:m.used≤n
 rle:m.row.length≤n
theorem Zdg {g:Nat→Nat}:∀ {L:List Nat},L.Nodup→(∀ x∈L,∀ y∈L,g x=g y→x=y)→(L.map g).Nodup
 | [],_,_=>by simp
 | x :: L,nd,h=>by
  rw [List.nodup_cons] at nd
  rw [List.map_cons,List.nodup_cons]
  refine ⟨fun q=>?_,Zdg nd.2 fun a ha b hb=>h a (by simp [ha]) b (by simp [hb])⟩
  obtain ⟨y,hy,e⟩:=List.mem_map.1 q
  exact nd.1 (by rw [h x (by simp) y (by simp [hy]) e.symm]; exact hy)
theorem CaI.mi {N B n t:Nat} {c:Ca} {L:List Nat} (h:CaI N B n t [] c L):MI N B n t (Yo c L) where
 dim:=h.dim
 len i f hf:=Zkv h hf
 rnd:=Zdg h.chn.nd fun x hx y hy e=>by
  obtain ⟨i,hi,e1,_⟩:=W8 h hx
  obtain ⟨j,hj,e2,_⟩:=W8 h hy
  have:i=j:=by omega
  subst this
  exact Bz h hi hj
 rfr q:=by
  constructor
  ·intro hq
   obtain ⟨f,hf,e⟩:=List.mem_map.1 hq
   obtain ⟨i,hi,e1,hp,_⟩:=W8 h hf
   have:i=q:=by omega
   subst this
   exact ⟨_,Ue h hi,by unfold fm; dsimp only; rw [hp]; rfl⟩
  ·rintro ⟨f,hf,hp⟩
   rcases h.get q with ⟨_,g2⟩ | ⟨f',ha,_,_,ok⟩
   ·have:=Gk g2
    rw [show Xz c q=some f from hf] at this; cases this
   ·have h1:=Ue h ha
    rw [show Xz c q=some f from hf] at h1
    injection h1 with h1
    subst h1
    refine (Zlg h ha).2 ((h.lok f').2 ⟨⟨_,ha⟩,?_⟩)
    have:=ok.pin
    unfold fm at hp
    dsimp only at hp
    omega
 ule:=h.used
 rle:=by
  show (L.map (X1 c)).length≤n
  rw [List.length_map]
  exact h.chn.short
def findR (l:List Rf) (i:Int):Int:=match l.findIdx? fun x=>decide (x.1=i) with
 | none=>-1
 | some q=>(q:Int)
section
variable {N B n t:Nat} {w:Rc} {m:MC} {i:Nat} {f:Fm}
theorem RR.len (h:RR N B n w m) (mi:MI N B n t m) (h64:n≤64):w.2.1.length≤64:=by have:=h.used; have:=mi.ule; omega
theorem RR.put (h:RR N B n w m) {f0:Fm} (e:m.fr i=some f0) (f:Fm) (row:List Nat):RR N B n (w.1,Vk (i:Int) w.2.1 ++ [rfm i f],w.2.2.1,row.map fun(i:Nat)=>(i:Int)) ⟨m.img,m.rd,m.wr,upd m.fr i (some f),m.used,row⟩:=by
 refine ⟨h.dev,h.most,rfl,h.fr.put i f,?_⟩
 show (Vk (i:Int) w.2.1 ++ [rfm i f]).length=m.used
 have h1:=Za8 h.fr.nd (h.fr.all i f0 e)
 rw [List.length_append,List.length_singleton,← h.used]
 exact h1
theorem RR.come (h:RR N B n w m) (e:m.fr i=none) (f:Fm) (rd:Int):RR N B n ((w.1.1,w.1.2.1,rd,w.1.2.2.2),Vk (i:Int) w.2.1 ++ [rfm i f],w.2.2) ⟨m.img,rd,m.wr,upd m.fr i (some f),m.used+1,m.row⟩:=by
 refine ⟨by rw [h.dev],h.most,h.row,h.fr.put i f,?_⟩
 show (Vk (i:Int) w.2.1 ++ [rfm i f]).length=m.used+1
 rw [Zk8 h.fr e,List.length_append,List.length_singleton,h.used]
theorem RR.gone (h:RR N B n w m) {f0:Fm} (e:m.fr i=some f0) (img:TX) (wr:Int) (row:List Nat):RR N B n (((B:Int),Lb img N B,m.rd,wr),Vk (i:Int) w.2.1,w.2.2.1,row.map fun(i:Nat)=>(i:Int)) ⟨img,m.rd,wr,upd m.fr i none,m.used - 1,row⟩:=by
 refine ⟨rfl,h.most,rfl,h.fr.gone i,?_⟩
 have h1:=Za8 h.fr.nd (h.fr.all i f0 e)
 have h2:=h.used
 show (Vk (i:Int) w.2.1).length=m.used - 1
 have h3:(rfm i f0).1=(i:Int):=rfl
 rw [h3] at h1
 omega
end
structure Sz8 (N B n:Nat) (m:MC):Prop where
 hN:N≤65536
 hNB:N*B≤4294967296
 hB1:1≤B
 hN1:1≤N
 h64:n≤64
 rd:0≤m.rd∧m.rd≤1000000000
 wr:0≤m.wr∧m.wr≤1000000000
section
variable {N B n t:Nat} {w:Rc} {m:MC} {i:Nat} {f:Fm}
theorem Sz8.B_le (z:Sz8 N B n m):B≤4294967296:=Nat.le_trans (Nat.le_mul_of_pos_left B z.hN1) z.hNB
end
section
variable {N B n t:Nat} {w:Rc} {m:MC} {i:Nat} {f:Fm}
theorem Zbm (e:m.fr i=some f):m.backI B i=⟨patch m.img (i*B) B f.b,m.rd,m.wr+1,upd m.fr i (some ⟨f.b,false,f.p⟩),m.used,m.row⟩:=by unfold MC.backI; rw [e]
theorem Zbj (e:m.fr i=none):m.backI B i=m:=by unfold MC.backI; rw [e]
theorem MI.back (mi:MI N B n t m) (i:Nat):MI N B n t (m.backI B i):=by
 cases e:m.fr i with
 | none=>rw [Zbj e]; exact mi
 | some f=>
  have hlen:=mi.len i f e
  rw [Zbm e]
  refine ⟨Zc4 mi.dim hlen.1,fun j f' hj=>?_,mi.rnd,fun q=>?_,mi.ule,mi.rle⟩
  ·dsimp only at hj
   by_cases q:j=i
   ·subst q; rw [Yl] at hj; injection hj with hj; subst hj; exact hlen
   ·rw [Yz q] at hj; exact mi.len j f' hj
  ·show q∈m.row↔∃ f',upd m.fr i (some ⟨f.b,false,f.p⟩) q=some f'∧f'.p=0
   rw [mi.rfr q]
   by_cases hq:q=i
   ·subst hq
    rw [Yl,e]
    exact ⟨fun ⟨f',h1,h2⟩=>⟨_,rfl,by injection h1 with h1; subst h1; exact h2⟩,fun ⟨f',h1,h2⟩=>⟨_,rfl,by injection h1 with h1; subst h1; exact h2⟩⟩
   ·rw [Yz hq]
theorem Sz8.back (z:Sz8 N B n m) (i:Nat) (hw:m.wr≤999999999):Sz8 N B n (m.backI B i):=by
 cases e:m.fr i with
 | none=>rw [Zbj e]; exact z
 | some f=>rw [Zbm e]; exact ⟨z.hN,z.hNB,z.hB1,z.hN1,z.h64,z.rd,by have:=z.wr; dsimp only; omega⟩
end
section
variable {N B n t:Nat} {c:Ca} {L:List Nat}
end
def MC.act (N B n:Nat) (m:MC) (kd:Int) (i:Nat) (b:TX):Int×MC:=
 if kd=0 then m.pin N B n i else if kd=1 then m.pin N B n i else if kd=2 then m.fresh N B n i else if kd=3 then m.unpin i else if kd=4 then m.unpin i else
 if kd=5 then m.write B i b else if kd=6 then m.write B i b else if kd=7 then m.drop i else if kd=8 then (0,m.flush N B) else if kd=9 then ((m.read i).2,m) else (0,m)
section
variable {N B n t:Nat} {c:Ca} {L:List Nat} {w:Rc} {m:MC}
end
def Byt (l:TX):Prop:=∀ x∈l,0≤x∧x<256
theorem Byt.rep (n:Nat):Byt (List.replicate n 0):=fun x hx=>by rw [List.eq_of_mem_replicate hx]; omega
theorem Byt.blk {img:TX} (h:Byt img) (B i:Nat):Byt (blk img B i):=fun x hx=>h x (List.mem_of_mem_drop (List.mem_of_mem_take hx))
theorem Byt.patch {img b:TX} (h:Byt img) (hb:Byt b) (a n:Nat):Byt (patch img a n b):=fun x hx=>by
 unfold SK.patch at hx
 rcases List.mem_append.1 hx with hx | hx
 ·rcases List.mem_append.1 hx with hx | hx
  ·exact h x (List.mem_of_mem_take hx)
  ·exact hb x (List.mem_of_mem_take hx)
 ·exact h x (List.mem_of_mem_drop hx)
namespace MC
def cnt (m:MC) (i:Nat):Nat:=match m.fr i with
 | none=>0
 | some x=>x.p
theorem cnt_no {m:MC} {i:Nat} (e:m.fr i=none):m.cnt i=0:=by unfold cnt; rw [e]
theorem cnt_at {m:MC} {i:Nat} {x:Fm} (e:m.fr i=some x):m.cnt i=x.p:=by unfold cnt; rw [e]
structure By (m:MC):Prop where
 img:Byt m.img
 fr:∀ i x,m.fr i=some x→Byt x.b
structure To (a b:Nat) (m m':MC):Prop where
 rd:m.rd≤m'.rd∧m'.rd≤m.rd+a
 wr:m.wr≤m'.wr∧m'.wr≤m.wr+b
 by':By m→By m'
theorem To.refl (m:MC):To 0 0 m m:=⟨⟨Int.le_refl _,by omega⟩,⟨Int.le_refl _,by omega⟩,id⟩
theorem To.le {a b a' b':Nat} {m m':MC} (h:To a b m m') (ha:a≤a') (hb:b≤b'):To a' b' m m':=⟨⟨h.rd.1,by have:=h.rd.2; omega⟩,⟨h.wr.1,by have:=h.wr.2; omega⟩,h.by'⟩
theorem To.trans {a b a' b':Nat} {m m' m'':MC} (h:To a b m m') (g:To a' b' m' m''):To (a+a') (b+b') m m'':=⟨⟨Int.le_trans h.rd.1 g.rd.1,by have:=h.rd.2; have:=g.rd.2; omega⟩,⟨Int.le_trans h.wr.1 g.wr.1,by have:=h.wr.2; have:=g.wr.2; omega⟩,fun y=>g.by' (h.by' y)⟩
end MC
section
variable {N B n t:Nat} {m k:MC} {i:Nat} {x:Fm}
theorem Pm.lay {img:TX} {rd wr:Int} {fr:Nat→Option Fm} {u u':Nat} {row row':List Nat} (hx:Byt x.b):(MC.By ⟨img,rd,wr,fr,u,row⟩→MC.By ⟨img,rd,wr,upd fr i (some x),u',row'⟩)∧∀ j,(⟨img,rd,wr,upd fr i (some x),u',row'⟩:MC).cnt j=if j=i then x.p else (⟨img,rd,wr,fr,u,row⟩:MC).cnt j:=by
 refine ⟨fun h=>⟨h.img,fun j y hj=>?_⟩,fun j=>?_⟩
 ·have hj':upd fr i (some x) j=some y:=hj
  by_cases q:j=i
  ·subst q; rw [Yl] at hj'; injection hj' with hj'; subst hj'; exact hx
  ·rw [Yz q] at hj'; exact h.fr j y hj'
 ·by_cases q:j=i
  ·subst q; rw [if_pos rfl]; exact MC.cnt_at (Yl _ _ _)
  ·rw [if_neg q]; unfold MC.cnt; dsimp only; rw [Yz q]
theorem Pm.evict (e:m.fr i=some x) (p:x.p=0):MC.To 0 1 m (m.evict B i)∧(∀ j,(m.evict B i).cnt j=m.cnt j)∧∀ j,m.fr j=none→(m.evict B i).fr j=none:=by
 rw [MC.evict_eq e]
 refine ⟨⟨⟨Int.le_refl _,by dsimp only; omega⟩,by dsimp only; split <;> omega,fun h=>⟨?_,fun j y hj=>?_⟩⟩,fun j=>?_,fun j hj=>?_⟩
 ·dsimp only
  split
  ·exact h.img.patch (h.fr i x e) _ _
  ·exact h.img
 ·have hj':upd m.fr i none j=some y:=hj
  by_cases q:j=i
  ·subst q; rw [Yl] at hj'; cases hj'
  ·rw [Yz q] at hj'; exact h.fr j y hj'
 ·by_cases q:j=i
  ·subst q; rw [MC.cnt_at e,MC.cnt_no (Yl _ _ _),p]
  ·unfold MC.cnt; dsimp only; rw [Yz q]
 ·show upd m.fr i none j=none
  by_cases q:j=i
  ·subst q; exact Yl _ _ _
  ·rw [Yz q]; exact hj
theorem Pm.room (mi:MI N B n t m) (h:m.room B n=some k):MC.To 0 1 m k∧(∀ j,k.cnt j=m.cnt j)∧∀ j,m.fr j=none→k.fr j=none:=by
 unfold MC.room at h
 split at h
 ·injection h with h; subst h; exact ⟨(MC.To.refl _).le (by omega) (by omega),fun _=>rfl,fun _ h=>h⟩
 ·split at h
  ·cases h
  ·rename_i q hq
   injection h with h; subst h
   obtain ⟨x,e,p⟩:=(mi.rfr q).1 (List.mem_of_getLast? hq)
   exact Pm.evict e p
theorem Pm.pin (mi:MI N B n t m) (hy:m.By) (i:Nat):MC.To 1 1 m (m.pin N B n i).2∧(1≤m.cnt i→MC.To 0 0 m (m.pin N B n i).2)∧∀ j,(m.pin N B n i).2.cnt j=if (m.pin N B n i).1=0∧j=i then m.cnt i+1 else m.cnt j:=by
 have r0:=(MC.To.refl m).le (Nat.zero_le 1) (Nat.zero_le 1)
 by_cases h:N≤i
 ·rw [MC.pin_out h]; exact ⟨r0,fun _=>MC.To.refl m,fun _=>by rw [if_neg (by simp)]⟩
 cases e:m.fr i with
 | some x=>
  obtain ⟨h1,h2⟩:=Pm.lay (img:=m.img) (rd:=m.rd) (wr:=m.wr) (fr:=m.fr) (u:=m.used) (row:=m.row) (i:=i) (x:=⟨x.b,x.d,x.p+1⟩) (u':=m.used) (row':=m.row.erase i) (hy.fr i x e)
  have t0:MC.To 0 0 m (m.pin N B n i).2:=by rw [MC.pin_hit h e]; exact ⟨⟨Int.le_refl _,by show m.rd≤_; omega⟩,⟨Int.le_refl _,by show m.wr≤_; omega⟩,h1⟩
  refine ⟨t0.le (by omega) (by omega),fun _=>t0,fun j=>?_⟩
  rw [MC.pin_hit h e,show ((m.put i ⟨x.b,x.d,x.p+1⟩).cut i).cnt j=_ from h2 j]
  by_cases q:j=i
  ·rw [if_pos q,if_pos ⟨rfl,q⟩,MC.cnt_at e]
  ·rw [if_neg q,if_neg (fun z=>q z.2)]
 | none=>
  cases r:m.room B n with
  | none=>rw [MC.pin_full h e r]; exact ⟨r0,fun _=>MC.To.refl m,fun _=>by rw [if_neg (by simp)]⟩
  | some k=>
   obtain ⟨c1,c2,c3⟩:=Pm.room mi r
   have hk:=c1.by' hy
   obtain ⟨h1,h2⟩:=Pm.lay (img:=k.img) (rd:=k.rd+1) (wr:=k.wr) (fr:=k.fr) (u:=k.used) (row:=k.row) (i:=i) (x:=⟨blk k.img B i,false,1⟩) (u':=k.used+1) (row':=k.row) (hk.img.blk B i)
   rw [MC.pin_miss h e r]
   refine ⟨⟨by show m.rd≤k.rd+1∧k.rd+1≤_; have:=c1.rd; omega,by show m.wr≤k.wr∧k.wr≤_; have:=c1.wr; omega,fun _=>h1 ⟨hk.img,hk.fr⟩⟩,fun c=>by rw [MC.cnt_no e] at c; omega,fun j=>?_⟩
   rw [show ((⟨k.img,k.rd+1,k.wr,k.fr,k.used,k.row⟩:MC).come i ⟨blk k.img B i,false,1⟩).cnt j=_ from h2 j]
   by_cases q:j=i
   ·rw [if_pos q,if_pos ⟨rfl,q⟩,MC.cnt_no e]
   ·rw [if_neg q,if_neg (fun z=>q z.2)]; exact c2 j
theorem Pm.fresh (mi:MI N B n t m) (hy:m.By) (i:Nat):MC.To 0 1 m (m.fresh N B n i).2∧∀ j,(m.fresh N B n i).2.cnt j=if (m.fresh N B n i).1=0∧j=i then m.cnt i+1 else m.cnt j:=by
 have r0:=(MC.To.refl m).le (Nat.zero_le 0) (Nat.zero_le 1)
 by_cases h:N≤i
 ·rw [MC.fresh_out h]; exact ⟨r0,fun _=>by rw [if_neg (by simp)]⟩
 cases e:m.fr i with
 | some x=>
  by_cases p:0<x.p
  ·rw [MC.fresh_pin h e p]; exact ⟨r0,fun _=>by rw [if_neg (by simp)]⟩
  obtain ⟨h1,h2⟩:=Pm.lay (img:=m.img) (rd:=m.rd) (wr:=m.wr) (fr:=m.fr) (u:=m.used) (row:=m.row) (i:=i) (x:=⟨List.replicate B 0,true,1⟩) (u':=m.used) (row':=m.row.erase i) (Byt.rep B)
  rw [MC.fresh_hit h e p]
  refine ⟨⟨⟨Int.le_refl _,by show m.rd≤_; omega⟩,⟨Int.le_refl _,by show m.wr≤_; omega⟩,h1⟩,fun j=>?_⟩
  rw [show ((m.put i ⟨List.replicate B 0,true,1⟩).cut i).cnt j=_ from h2 j]
  by_cases q:j=i
  ·rw [if_pos q,if_pos ⟨rfl,q⟩,MC.cnt_at e]; dsimp only; omega
  ·rw [if_neg q,if_neg (fun z=>q z.2)]
 | none=>
  cases r:m.room B n with
  | none=>rw [MC.fresh_full h e r]; exact ⟨r0,fun _=>by rw [if_neg (by simp)]⟩
  | some k=>
   obtain ⟨c1,c2,c3⟩:=Pm.room mi r
   have hk:=c1.by' hy
   obtain ⟨h1,h2⟩:=Pm.lay (img:=k.img) (rd:=k.rd) (wr:=k.wr) (fr:=k.fr) (u:=k.used) (row:=k.row) (i:=i) (x:=⟨List.replicate B 0,true,1⟩) (u':=k.used+1) (row':=k.row) (Byt.rep B)
   rw [MC.fresh_miss h e r]
   refine ⟨⟨c1.rd,c1.wr,fun _=>h1 ⟨hk.img,hk.fr⟩⟩,fun j=>?_⟩
   rw [show (k.come i ⟨List.replicate B 0,true,1⟩).cnt j=_ from h2 j]
   by_cases q:j=i
   ·rw [if_pos q,if_pos ⟨rfl,q⟩,MC.cnt_no e]
   ·rw [if_neg q,if_neg (fun z=>q z.2)]; exact c2 j
theorem Pm.unpin (hy:m.By) (i:Nat):MC.To 0 0 m (m.unpin i).2∧∀ j,(m.unpin i).2.cnt j=if j=i then m.cnt i - 1 else m.cnt j:=by
 have same:(∀ j,m.cnt j=if j=i then m.cnt i - 1 else m.cnt j)↔m.cnt i=0:=⟨fun h=>by have:=h i; rw [if_pos rfl] at this; omega,fun h j=>by split; rename_i q; subst q; omega; rfl⟩
 cases e:m.fr i with
 | none=>rw [MC.unpin_no e]; exact ⟨MC.To.refl m,same.2 (MC.cnt_no e)⟩
 | some x=>
  have key:∀(p u:Nat) (row:List Nat),p=x.p - 1→MC.To 0 0 m (⟨m.img,m.rd,m.wr,upd m.fr i (some ⟨x.b,x.d,p⟩),u,row⟩:MC)∧∀ j,(⟨m.img,m.rd,m.wr,upd m.fr i (some ⟨x.b,x.d,p⟩),u,row⟩:MC).cnt j=if j=i then m.cnt i - 1 else m.cnt j:=fun p u row hp=>by
   obtain ⟨h1,h2⟩:=Pm.lay (img:=m.img) (rd:=m.rd) (wr:=m.wr) (fr:=m.fr) (u:=m.used) (row:=m.row) (i:=i) (x:=⟨x.b,x.d,p⟩) (u':=u) (row':=row) (hy.fr i x e)
   refine ⟨⟨⟨Int.le_refl _,by show m.rd≤_; omega⟩,⟨Int.le_refl _,by show m.wr≤_; omega⟩,h1⟩,fun j=>?_⟩
   rw [h2 j,MC.cnt_at e]
   split
   ·exact hp
   ·rfl
  by_cases p:x.p=0
  ·rw [MC.unpin_out e p]; exact ⟨MC.To.refl m,same.2 (by rw [MC.cnt_at e]; exact p)⟩
  ·by_cases p1:x.p=1
   ·rw [MC.unpin_one e p1]; exact key _ _ _ (by omega)
   ·rw [MC.unpin_more e p p1]; exact key _ _ _ rfl
theorem Pm.write (i:Nat) {b:TX} (hb:Byt b):MC.To 0 0 m (m.write B i b).2∧∀ j,(m.write B i b).2.cnt j=m.cnt j:=by
 cases e:m.fr i with
 | none=>rw [MC.write_no e]; exact ⟨MC.To.refl m,fun _=>rfl⟩
 | some x=>
  by_cases p:x.p=0
  ·rw [MC.write_out e p]; exact ⟨MC.To.refl m,fun _=>rfl⟩
  ·by_cases q:b.length=B
   ·rw [MC.write_hit e p q]
    obtain ⟨h1,h2⟩:=Pm.lay (img:=m.img) (rd:=m.rd) (wr:=m.wr) (fr:=m.fr) (u:=m.used) (row:=m.row) (i:=i) (x:=⟨b,true,x.p⟩) (u':=m.used) (row':=m.row) hb
    refine ⟨⟨⟨Int.le_refl _,by show m.rd≤_; omega⟩,⟨Int.le_refl _,by show m.wr≤_; omega⟩,h1⟩,fun j=>?_⟩
    rw [show (m.put i ⟨b,true,x.p⟩).cnt j=_ from h2 j]
    split
    ·rename_i q; subst q; exact (MC.cnt_at e).symm
    ·rfl
   ·rw [MC.write_form e p q]; exact ⟨MC.To.refl m,fun _=>rfl⟩
theorem Pm.drop (i:Nat):MC.To 0 0 m (m.drop i).2∧∀ j,(m.drop i).2.cnt j=m.cnt j:=by
 cases e:m.fr i with
 | none=>rw [MC.drop_no e]; exact ⟨MC.To.refl m,fun _=>rfl⟩
 | some x=>
  by_cases p:0<x.p
  ·rw [MC.drop_pin e p]; exact ⟨MC.To.refl m,fun _=>rfl⟩
  ·rw [MC.drop_hit e p]
   refine ⟨⟨⟨Int.le_refl _,by show m.rd≤_; omega⟩,⟨Int.le_refl _,by show m.wr≤_; omega⟩,fun h=>⟨h.img,fun j y hj=>?_⟩⟩,fun j=>?_⟩
   ·have hj':upd m.fr i none j=some y:=hj
    by_cases q:j=i
    ·subst q; rw [Yl] at hj'; cases hj'
    ·rw [Yz q] at hj'; exact h.fr j y hj'
   ·by_cases q:j=i
    ·subst q; rw [MC.cnt_at e,MC.cnt_no (Yl _ _ _)]; omega
    ·unfold MC.cnt; dsimp only; rw [Yz q]
theorem Pm.backI (hy:m.By) (i:Nat):MC.To 0 1 m (m.backI B i)∧∀ j,(m.backI B i).cnt j=m.cnt j:=by
 cases e:m.fr i with
 | none=>rw [show m.backI B i=m by unfold MC.backI; rw [e]]; exact ⟨(MC.To.refl m).le (Nat.zero_le 0) (Nat.zero_le 1),fun _=>rfl⟩
 | some x=>
  rw [show m.backI B i=⟨patch m.img (i*B) B x.b,m.rd,m.wr+1,upd m.fr i (some ⟨x.b,false,x.p⟩),m.used,m.row⟩ by unfold MC.backI; rw [e]]
  obtain ⟨h1,h2⟩:=Pm.lay (img:=patch m.img (i*B) B x.b) (rd:=m.rd) (wr:=m.wr+1) (fr:=m.fr) (u:=m.used) (row:=m.row) (i:=i) (x:=⟨x.b,false,x.p⟩) (u':=m.used) (row':=m.row) (hy.fr i x e)
  refine ⟨⟨⟨Int.le_refl _,by dsimp only; omega⟩,by dsimp only; omega,fun h=>h1 ⟨h.img.patch (hy.fr i x e) _ _,h.fr⟩⟩,fun j=>?_⟩
  rw [h2 j]
  split
  ·rename_i q; subst q; exact (MC.cnt_at e).symm
  ·rfl
theorem Pm.backs:∀(D:List Nat) (m:MC),m.By→MC.To 0 D.length m (D.foldl (MC.backI B) m)∧∀ j,(D.foldl (MC.backI B) m).cnt j=m.cnt j
 | [],m,_=>⟨MC.To.refl m,fun _=>rfl⟩
 | i :: D,m,hy=>by
  obtain ⟨c1,c2⟩:=Pm.backI (B:=B) hy i
  obtain ⟨d1,d2⟩:=Pm.backs D _ (c1.by' hy)
  rw [List.foldl_cons]
  exact ⟨(c1.trans d1).le (by omega) (by rw [List.length_cons]; omega),fun j=>(d2 j).trans (c2 j)⟩
end
abbrev Bt:=Int×Int×List Int
theorem Zlh:IntKind.u64.bits=64:=rfl
theorem wrB {m:Nat} (h:m<18446744073709551616):IntKind.u64.wrap (m:Int)=(m:Int):=by
 have:IntKind.u64.wrap (m:Int)=((m % 18446744073709551616:Nat):Int):=by simp [IntKind.wrap,IntKind.bits,IntKind.signed]
 rw [this,Nat.mod_eq_of_lt h]
theorem ofB {x:Nat} (h:x<18446744073709551616):(BitVec.ofInt IntKind.u64.bits (x:Int)).toNat=x:=by
 rw [BitVec.ofInt_natCast,BitVec.toNat_ofNat,Zlh]
 exact Nat.mod_eq_of_lt h
theorem Zgy (v:BitVec IntKind.u64.bits):v.toNat<18446744073709551616:=v.isLt
theorem anB {x y:Nat} (hx:x<18446744073709551616) (hy:y<18446744073709551616):(BitVec.ofInt IntKind.u64.bits (x:Int) &&& BitVec.ofInt IntKind.u64.bits (y:Int)).toNat=x &&& y:=by rw [BitVec.toNat_and,ofB hx,ofB hy]
theorem orB {x y:Nat} (hx:x<18446744073709551616) (hy:y<18446744073709551616):(BitVec.ofInt IntKind.u64.bits (x:Int) ||| BitVec.ofInt IntKind.u64.bits (y:Int)).toNat=x ||| y:=by rw [BitVec.toNat_or,ofB hx,ofB hy]
theorem xoB {x y:Nat} (hx:x<18446744073709551616) (hy:y<18446744073709551616):(BitVec.ofInt IntKind.u64.bits (x:Int) ^^^ BitVec.ofInt IntKind.u64.bits (y:Int)).toNat=x ^^^ y:=by rw [BitVec.toNat_xor,ofB hx,ofB hy]
theorem Zk7 {b:Nat} (h:b<64):IntKind.u64.wrap ((1:Int)*2 ^ (min b 64))=((2 ^ b:Nat):Int):=by
 have hb:min b 64=b:=by omega
 have hl:2 ^ b<18446744073709551616:=Nat.lt_of_lt_of_le (Nat.pow_lt_pow_right (by decide) h) (by decide)
 rw [hb,Int.one_mul,← wrB hl]
 congr 1
theorem Zm0 {b:Nat} (h:b<64):2 ^ b<18446744073709551616:=Nat.lt_of_lt_of_le (Nat.pow_lt_pow_right (by decide) h) (by decide)
theorem Zk1 {f:Nat} (h:f<64):∃ y:Nat,IntKind.u64.wrap ((18446744073709551615:Int)*2 ^ (min f 64))=(y:Int)∧y<18446744073709551616∧∀ i,i<64→y.testBit i=decide (f≤i):=by
 have hf:min f 64=f:=by omega
 refine ⟨(18446744073709551615*2 ^ f) % 18446744073709551616,?_,Nat.mod_lt _ (by decide),fun i hi=>?_⟩
 ·rw [hf]
  have:(18446744073709551615:Int)*2 ^ f=((18446744073709551615*2 ^ f:Nat):Int):=by
   rw [Int.natCast_mul,Int.natCast_pow]; rfl
  rw [this]
  simp [IntKind.wrap,IntKind.bits,IntKind.signed]
 ·have e1:(18446744073709551616:Nat)=2 ^ 64:=by decide
  have e2:(18446744073709551615:Nat)=2 ^ 64 - 1:=by decide
  rw [e1,Nat.testBit_mod_two_pow,e2,Nat.testBit_mul_two_pow,Nat.testBit_two_pow_sub_one]
  simp [hi]
  omega
structure BR (N:Nat) (p:Bt) (h:Nat→Bool):Prop where
 n:p.1=(N:Int)
 N1:1≤N∧N≤65536
 cnt:p.2.1=(((List.range N).filter h).length:Int)
 len:p.2.2.length=(N+63) / 64
 bit:∀ w,w<p.2.2.length→∃ x:Nat,p.2.2.getD w default=(x:Int)∧x<18446744073709551616∧∀ b,b<64→x.testBit b=(decide (64*w+b<N) && h (64*w+b))
section
variable {N:Nat} {p:Bt} {h:Nat→Bool}
theorem Zeb {i:Nat} (hi:i<4294967296):w64 (Int.tdiv (i:Int) 64)=((i / 64:Nat):Int)∧Int.tmod (i:Int) 64=((i % 64:Nat):Int):=by
 constructor
 ·rw [show Int.tdiv (i:Int) 64=((i / 64:Nat):Int) from rfl,Z3 (by omega) (by omega)]
 ·rfl
theorem BR.there (b:BR N p h) {i:Nat}:Q10.f p (i:Int)=some (if N≤i then 4 else 0):=by
 have hN:=b.N1
 unfold Q10.f Q7.f
 rw [Option.bind_some,b.n,if_neg (by simp only [decide_eq_true_eq]; omega),if_neg (by simp only [decide_eq_true_eq]; omega)]
 by_cases q:N≤i
 ·rw [if_pos (decide_eq_true (by omega)),if_pos q]
 ·rw [if_neg (by simp only [decide_eq_true_eq]; omega),if_neg q]
theorem BR.has (b:BR N p h) {i:Nat} (hi:i<4294967296):Q6.f p (i:Int)=some (decide (i<N) && h i):=by
 have hN:=b.N1
 unfold Q6.f
 rw [b.there,Option.bind_some]
 by_cases q:N≤i
 ·rw [if_pos q,if_neg (by decide)]
  have:¬ i<N:=by omega
  simp [this]
 ·obtain ⟨e1,e2⟩:=Zeb hi
  have hl:=b.len
  have hw:i / 64<p.2.2.length:=by omega
  obtain ⟨x,hx,hx2,hx3⟩:=b.bit _ hw
  have hm:i % 64<64:=Nat.mod_lt _ (by decide)
  rw [if_neg q,if_pos (by decide),e1,e2,if_pos (by omega),if_pos (by omega),Yx,hx,Int.toNat_natCast,show min (i % 64) 64=i % 64 by omega]
  have e3:Int.fdiv (x:Int) (2 ^ (i % 64))=((x / 2 ^ (i % 64):Nat):Int):=by
   rw [Int.fdiv_eq_ediv_of_nonneg _ (Int.pow_nonneg (by decide)),Int.natCast_ediv,Int.natCast_pow]; rfl
  have hlt:x / 2 ^ (i % 64)<18446744073709551616:=Nat.lt_of_le_of_lt (Nat.div_le_self _ _) hx2
  rw [e3,show (BitVec.ofInt IntKind.u64.bits ((x / 2 ^ (i % 64):Nat):Int) &&& BitVec.ofInt IntKind.u64.bits 1).toNat=x / 2 ^ (i % 64) &&& 1 from anB (y:=1) hlt (by decide),Nat.and_one_is_mod,wrB (by omega)]
  have h1:=hx3 _ hm
  rw [show 64*(i / 64)+i % 64=i by omega] at h1
  rw [← h1,Nat.testBit_eq_decide_div_mod_eq]
  congr 1
  exact decide_eq_decide.2 (by omega)
theorem Zg7 {N i:Nat} (hi:i<N) (hn:h i=false):((List.range N).filter (upd h i true)).length=((List.range N).filter h).length+1:=by
 have key:∀ l:List Nat,l.Nodup→i∈l→(l.filter (upd h i true)).length=(l.filter h).length+1:=by
  intro l
  induction l with
  | nil=>intro _ hx; simp at hx
  | cons y l ih=>
   intro nd hx
   rw [List.nodup_cons] at nd
   by_cases q:y=i
   ·subst q
    have hl:l.filter (upd h y true)=l.filter h:=List.filter_congr fun z hz=>Yz (fun e=>nd.1 (by rw [← e]; exact hz))
    rw [List.filter_cons_of_pos (by rw [Yl]),List.filter_cons_of_neg (by simp [hn]),hl,List.length_cons]
   ·have hx':i∈l:=by
     rcases List.mem_cons.1 hx with e | e
     ·exact absurd e.symm q
     ·exact e
    have:=ih nd.2 hx'
    by_cases hy:h y=true
    ·rw [List.filter_cons_of_pos (by rw [Yz q]; exact hy),List.filter_cons_of_pos hy,List.length_cons,List.length_cons,this]
    ·rw [List.filter_cons_of_neg (by rw [Yz q]; exact hy),List.filter_cons_of_neg hy,this]
 exact key _ List.nodup_range (List.mem_range.2 hi)
theorem BR.word (b:BR N p h) {i:Nat} (hi:i<N) {v:Bool} {y:Nat} (hy:y<18446744073709551616) (ht:∀ x:Nat,p.2.2.getD (i / 64) default=(x:Int)→∀ j,j<64→y.testBit j=if j=i % 64 then v else x.testBit j) {cnt:Int} (hc:cnt=(((List.range N).filter (upd h i v)).length:Int)) :
  BR N (p.1,cnt,p.2.2.set (i / 64) (y:Int)) (upd h i v):=by
 have hl:=b.len
 have hN:=b.N1
 have hw:i / 64<p.2.2.length:=by omega
 refine ⟨b.n,hN,hc,by rw [List.length_set]; exact hl,fun w hw2=>?_⟩
 rw [List.length_set] at hw2
 dsimp only
 rw [Xh hw]
 obtain ⟨x,hx,hx2,hx3⟩:=b.bit w hw2
 by_cases q:i / 64=w
 ·subst q
  refine ⟨y,if_pos rfl,hy,fun j hj=>?_⟩
  rw [ht x hx j hj]
  by_cases qj:j=i % 64
  ·subst qj
   rw [if_pos rfl,show 64*(i / 64)+i % 64=i by omega,Yl]
   simp [hi]
  ·rw [if_neg qj,hx3 j hj,Yz (by omega)]
 ·refine ⟨x,by rw [if_neg q]; exact hx,hx2,fun j hj=>?_⟩
  rw [hx3 j hj,Yz (by omega)]
theorem Zmc (b:BR N p h):((List.range N).filter h).length≤N:=by
 have:=List.length_filter_le h (List.range N)
 rw [List.length_range] at this
 exact this
theorem BR.set (b:BR N p h) {i:Nat} (hi:i<4294967296):∃ p',Q8.f p (i:Int)=some (if N≤i then 4 else if h i=true then 10 else 0,p')∧BR N p' (if N≤i then h else upd h i true):=by
 have hN:=b.N1
 unfold Q8.f
 rw [b.there,Option.bind_some]
 by_cases q:N≤i
 ·rw [if_pos q,if_pos (by decide),if_pos q,if_pos q]
  exact ⟨p,rfl,b⟩
 ·rw [if_neg q,if_neg (by decide),b.has hi,Option.bind_some,if_neg q,if_neg q]
  have hi':i<N:=by omega
  by_cases hh:h i=true
  ·rw [if_pos (by simp [hi',hh]),if_pos hh]
   refine ⟨p,rfl,?_⟩
   rw [show upd h i true=h from funext fun j=>by
    by_cases qj:j=i
    ·subst qj; rw [Yl,hh]
    ·rw [Yz qj]]
   exact b
  ·obtain ⟨e1,e2⟩:=Zeb hi
   have hl:=b.len
   have hw:i / 64<p.2.2.length:=by omega
   obtain ⟨x,hx,hx2,hx3⟩:=b.bit _ hw
   have hm:i % 64<64:=Nat.mod_lt _ (by decide)
   have hp:=Zm0 hm
   have hcl:=Zmc b
   have hcn:=b.cnt
   rw [if_neg (by simp [hh]),if_neg hh,e1,e2,if_pos (by omega),if_pos (by omega),Yx,hx,Int.toNat_natCast,Int.toNat_natCast,Zk7 hm,orB hx2 hp]
   have hor:x ||| 2 ^ (i % 64)<18446744073709551616:=by rw [← orB hx2 hp]; exact Zgy _
   rw [wrB hor]
   have hf:h i=false:=by simpa using hh
   refine ⟨_,rfl,b.word hi' hor (fun x' hx' j hj=>?_) ?_⟩
   ·have:x'=x:=by rw [hx] at hx'; omega
    subst this
    rw [Nat.testBit_or,Nat.testBit_two_pow]
    by_cases qj:j=i % 64
    ·subst qj; simp
    ·rw [if_neg qj]
     have:¬ i % 64=j:=fun e=>qj e.symm
     simp [this]
   ·rw [Zg7 hi' hf,hcn,Z3 (by omega) (by omega)]; omega
theorem Zmm {x:Nat} (h0:x≠0) (h1:x<18446744073709551616):Go.Lib.ctz 64 x<64∧x.testBit (Go.Lib.ctz 64 x)=true∧∀ j,j<Go.Lib.ctz 64 x→x.testBit j=false:=by
 unfold Go.Lib.ctz
 rw [if_neg h0]
 obtain ⟨m,hm,hc⟩:=Go.Lib.ctzFrom_spec 64 x (by omega) (by omega)
 generalize Go.Lib.ctzFrom 64 x=c at *
 refine ⟨hc,?_,fun j hj=>?_⟩
 ·rw [hm,Nat.mul_comm,Nat.testBit_mul_two_pow]
  simp
 ·rw [hm,Nat.mul_comm,Nat.testBit_mul_two_pow]
  have:¬ c≤j:=by omega
  simp [this]
def Wm (N:Nat) (h:Nat→Bool) (turn:Bool) (i:Nat):Bool:=if turn=true then !(decide (i<N) && h i) else decide (i<N) && h i
theorem Zf1 (b:BR N p h) (turn:Bool) {fr:Nat} (hfr:fr<4294967296):∀(q w k:Nat),p.2.2.length=w+q→fr / 64≤w→q<k→(∀ j,fr≤j→j<64*w→Wm N h turn j=false)→
  (∃ i:Nat,Q9.l0 k p (fr:Int) (if turn=true then 18446744073709551615 else 0) (w:Int)=some ((i:Int),decide (i<N))∧fr≤i∧i<64*p.2.2.length∧Wm N h turn i=true∧∀ j,fr≤j→j<i→Wm N h turn j=false)∨
   (Q9.l0 k p (fr:Int) (if turn=true then 18446744073709551615 else 0) (w:Int)=some (0,false)∧∀ j,fr≤j→j<64*p.2.2.length→Wm N h turn j=false)
 | _,_,0,_,_,hk,_=>by omega
 | 0,w,k+1,hq,hw,hk,hn=>by
  have hN:=b.N1
  have hl:=b.len
  right
  rw [Q9.l0,if_neg (by simp only [decide_eq_true_eq]; omega)]
  exact ⟨rfl,fun j h1 h2=>hn j h1 (by omega)⟩
 | q+1,w,k+1,hq,hw,hk,hn=>by
  have hN:=b.N1
  have hl:=b.len
  have hwl:w<p.2.2.length:=by omega
  obtain ⟨x,hx,hx2,hx3⟩:=b.bit w hwl
  have hmx:(if (fr:Int)>0 then (fr:Int) else 0)=(fr:Int):=by split <;> omega
  obtain ⟨d1,d2⟩:=Zeb hfr
  -- the word,turned
  obtain ⟨y,hy,hy2,hy3⟩:∃ y:Nat,(IntKind.u64.wrap (((BitVec.ofInt IntKind.u64.bits (x:Int) ^^^ (BitVec.ofInt IntKind.u64.bits (if turn=true then 18446744073709551615 else 0))).toNat:Int)))=(y:Int)∧y<18446744073709551616∧∀ j,j<64→y.testBit j=Wm N h turn (64*w+j):=by
   cases turn with
   | true=>
    have e:=xoB (y:=18446744073709551615) hx2 (by decide)
    refine ⟨x ^^^ 18446744073709551615,?_,?_,fun j hj=>?_⟩
    ·rw [if_pos rfl,show (18446744073709551615:Int)=((18446744073709551615:Nat):Int) from rfl,e,wrB (by rw [← e]; exact Zgy _)]
    ·rw [← e]; exact Zgy _
    ·rw [Nat.testBit_xor,hx3 j hj,show (18446744073709551615:Nat)=2 ^ 64 - 1 by decide,Nat.testBit_two_pow_sub_one]
     unfold Wm
     simp [hj]
   | false=>
    have e:=xoB (y:=0) hx2 (by decide)
    refine ⟨x,?_,hx2,fun j hj=>?_⟩
    ·rw [if_neg (by decide),show (0:Int)=((0:Nat):Int) from rfl,e,Nat.xor_zero,wrB hx2]
    ·rw [hx3 j hj]; rfl
  rw [Q9.l0,if_pos (decide_eq_true (by omega)),if_pos (by omega),hmx,d1,d2,Yx,hx,hy]
  -- what is looked at,at this word
  have step:∀ z:Nat,z<18446744073709551616→(∀ j,j<64→z.testBit j=(decide (fr≤64*w+j) && Wm N h turn (64*w+j)))→
    (∃ i:Nat,(if (decide ((z:Int)=0))=true then Q9.l0 k p (fr:Int) (if turn=true then 18446744073709551615 else 0) (w64 ((w:Int)+1)) else (if 0≤(z:Int)∧(z:Int)<18446744073709551616 then some ((w64 ((w64 ((w:Int)*64))+(tzI (z:Int)))),(decide ((w64 ((w64 ((w:Int)*64))+(tzI (z:Int))))<p.1))) else none))=some ((i:Int),decide (i<N))∧fr≤i∧i<64*p.2.2.length∧Wm N h turn i=true∧∀ j,fr≤j→j<i→Wm N h turn j=false)∨
    ((if (decide ((z:Int)=0))=true then Q9.l0 k p (fr:Int) (if turn=true then 18446744073709551615 else 0) (w64 ((w:Int)+1)) else (if 0≤(z:Int)∧(z:Int)<18446744073709551616 then some ((w64 ((w64 ((w:Int)*64))+(tzI (z:Int)))),(decide ((w64 ((w64 ((w:Int)*64))+(tzI (z:Int))))<p.1))) else none))=some (0,false)∧∀ j,fr≤j→j<64*p.2.2.length→Wm N h turn j=false):=by
   intro z hz hzt
   by_cases z0:z=0
   ·subst z0
    rw [if_pos (by decide),Y8 (by omega)]
    refine Zf1 b turn hfr q (w+1) k (by omega) (by omega) (by omega) fun j h1 h2=>?_
    by_cases hj:j<64*w
    ·exact hn j h1 hj
    ·have:=hzt (j - 64*w) (by omega)
     rw [Nat.zero_testBit,show 64*w+(j - 64*w)=j by omega] at this
     have h3:decide (fr≤j)=true:=decide_eq_true h1
     rw [h3,Bool.true_and] at this
     exact this.symm
   ·obtain ⟨c1,c2,c3⟩:=Zmm z0 hz
    left
    have tz:tzI (z:Int)=((Go.Lib.ctz 64 z:Nat):Int):=by unfold tzI; rw [Int.toNat_natCast]
    generalize Go.Lib.ctz 64 z=cz at *
    have hb:=hzt cz c1
    rw [c2] at hb
    have hb2:=(Bool.and_eq_true _ _).mp hb.symm
    have hfr2:=of_decide_eq_true hb2.1
    refine ⟨64*w+cz,?_,hfr2,by omega,hb2.2,fun j h1 h2=>?_⟩
    ·rw [if_neg (by simp; omega),if_pos (by omega),tz,Z3 (x:=(w:Int)*64) (by omega) (by omega),Z3 (by omega) (by omega),b.n]
     congr 2
     ·omega
     ·exact decide_eq_decide.2 (by omega)
    ·by_cases hj:j<64*w
     ·exact hn j h1 hj
     ·have:=hzt (j - 64*w) (by omega)
      rw [c3 (j - 64*w) (by omega),show 64*w+(j - 64*w)=j by omega] at this
      have h3:decide (fr≤j)=true:=decide_eq_true h1
      rw [h3,Bool.true_and] at this
      exact this.symm
  by_cases qw:w=fr / 64
  ·rw [if_pos (decide_eq_true (by omega)),if_pos (by omega),Int.toNat_natCast]
   obtain ⟨s,hs,hs2,hs3⟩:=Zk1 (f:=fr % 64) (Nat.mod_lt _ (by decide))
   have ea:=anB hy2 hs2
   have hal:y &&& s<18446744073709551616:=by rw [← ea]; exact Zgy _
   rw [hs,ea,wrB hal]
   refine step _ hal fun j hj=>?_
   rw [Nat.testBit_and,hy3 j hj,hs3 j hj,Bool.and_comm]
   congr 1
   exact decide_eq_decide.2 (by omega)
  ·rw [if_neg (by simp only [decide_eq_true_eq]; omega)]
   refine step y hy2 fun j hj=>?_
   rw [hy3 j hj]
   have:decide (fr≤64*w+j)=true:=decide_eq_true (by omega)
   rw [this,Bool.true_and]
theorem Znn (b:BR N p h) (turn:Bool) {fr:Nat} (hfr:fr<4294967296) {k:Nat} (hk:2000<k) :
  (∃ i:Nat,Q9.f k p (fr:Int) (if turn=true then 18446744073709551615 else 0)=some ((i:Int),decide (i<N))∧fr≤i∧i<64*p.2.2.length∧Wm N h turn i=true∧∀ j,fr≤j→j<i→Wm N h turn j=false)∨
   (Q9.f k p (fr:Int) (if turn=true then 18446744073709551615 else 0)=some (0,false)∧∀ j,fr≤j→j<64*p.2.2.length→Wm N h turn j=false):=by
 have hN:=b.N1
 have hl:=b.len
 have hmx:(if (fr:Int)>0 then (fr:Int) else 0)=(fr:Int):=by split <;> omega
 unfold Q9.f
 rw [hmx,(Zeb hfr).1]
 by_cases q:fr / 64≤p.2.2.length
 ·exact Zf1 b turn hfr (p.2.2.length - fr / 64) (fr / 64) k (by omega) (Nat.le_refl _) (by omega) fun j h1 h2=>by omega
 ·obtain ⟨k,rfl⟩:∃ k',k=k'+1:=⟨k - 1,by omega⟩
  right
  rw [Q9.l0,if_neg (by simp only [decide_eq_true_eq]; omega)]
  exact ⟨rfl,fun j h1 h2=>by omega⟩
theorem BR.free (b:BR N p h) {k:Nat} (hk:2000<k) (hfree:∃ i,i<N∧h i=false):∃ i:Nat,Q5.f k p 0=some ((i:Int),true)∧i<N∧h i=false∧∀ j,j<i→h j=true:=by
 have hN:=b.N1
 have hl:=b.len
 obtain ⟨i0,h1,h2⟩:=hfree
 unfold Q5.f Q7.f Q11.f
 have hs:=Znn b true (fr:=0) (by decide) hk
 rw [if_pos rfl] at hs
 have hi0:Wm N h true i0=true:=by unfold Wm; simp [h1,h2]
 rcases hs with ⟨i,e,_,g2,g3,g4⟩ | ⟨e,g⟩
 ·have hiN:i<N:=by
   apply Nat.lt_of_not_le
   intro hge
   have:=g4 i0 (Nat.zero_le _) (by omega)
   rw [hi0] at this; cases this
  rw [Option.bind_some,b.n,if_neg (by simp only [decide_eq_true_eq]; omega),show Q9.f k p 0 18446744073709551615=_ from e,Option.bind_some,if_neg (by simp [hiN])]
  refine ⟨i,rfl,hiN,?_,fun j hj=>?_⟩
  ·unfold Wm at g3
   simpa [hiN] using g3
  ·have:=g4 j (Nat.zero_le _) hj
   have hjN:j<N:=by omega
   unfold Wm at this
   simpa [hjN] using this
 ·have:=g i0 (Nat.zero_le _) (by omega)
  rw [hi0] at this; cases this
end
namespace MC
def cont (B:Nat) (m:MC) (i:Nat):List Int:=match m.fr i with
 | none=>blk m.img B i
 | some x=>x.b
theorem cont_no {B:Nat} {m:MC} {i:Nat} (e:m.fr i=none):m.cont B i=blk m.img B i:=by unfold cont; rw [e]
theorem cont_at {B:Nat} {m:MC} {i:Nat} {x:Fm} (e:m.fr i=some x):m.cont B i=x.b:=by unfold cont; rw [e]
def Cl (B:Nat) (m:MC):Prop:=∀ i x,m.fr i=some x→x.d=false→x.b=blk m.img B i
end MC
section
variable {N B n t:Nat} {m k:MC} {i:Nat} {x:Fm}
theorem Cl.evict (mi:MI N B n t m) (cl:m.Cl B) (q:Nat):(m.evict B q).Cl B∧(∀ j,j<N→(m.evict B q).cont B j=m.cont B j)∧((m.evict B q).fr q=none)∧∀ j,m.fr j=none→(m.evict B q).fr j=none:=by
 cases e:m.fr q with
 | none=>
  have:m.evict B q=m:=by unfold MC.evict; rw [e]
  rw [this]
  exact ⟨cl,fun _ _=>rfl,e,fun _ h=>h⟩
 | some x=>
  obtain ⟨hq,hb,_⟩:=mi.len q x e
  rw [MC.evict_eq e]
  refine ⟨fun j y hj hd=>?_,fun j hj=>?_,Yl _ _ _,fun j hj=>?_⟩
  ·dsimp only at hj ⊢
   by_cases qj:j=q
   ·subst qj; rw [Yl] at hj; cases hj
   ·rw [Yz qj] at hj
    have h1:=cl j y hj hd
    split
    ·rw [Vy mi.dim hq hb j (mi.len j y hj).1,if_neg qj]; exact h1
    ·exact h1
  ·by_cases qj:j=q
   ·subst qj
    rw [MC.cont_at e,MC.cont_no (Yl _ _ _)]
    dsimp only
    split
    ·rw [Vy mi.dim hq hb j hq,if_pos rfl]
    ·rename_i hd
     exact (cl j x e (by simpa using hd)).symm
   ·cases ej:m.fr j with
    | none=>
     rw [MC.cont_no ej,MC.cont_no (by show upd m.fr q none j=none; rw [Yz qj]; exact ej)]
     dsimp only
     split
     ·rw [Vy mi.dim hq hb j hj,if_neg qj]
     ·rfl
    | some y=>rw [MC.cont_at ej,MC.cont_at (show upd m.fr q none j=some y by rw [Yz qj]; exact ej)]
  ·show upd m.fr q none j=none
   by_cases qj:j=q
   ·subst qj; exact Yl _ _ _
   ·rw [Yz qj]; exact hj
theorem Cl.room (mi:MI N B n t m) (cl:m.Cl B) (h:m.room B n=some k):k.Cl B∧(∀ j,j<N→k.cont B j=m.cont B j)∧∀ j,m.fr j=none→k.fr j=none:=by
 unfold MC.room at h
 split at h
 ·injection h with h; subst h; exact ⟨cl,fun _ _=>rfl,fun _ h=>h⟩
 ·split at h
  ·cases h
  ·rename_i q _
   injection h with h; subst h
   obtain ⟨h1,h2,_,h3⟩:=Cl.evict mi cl q
   exact ⟨h1,h2,h3⟩
theorem Cl.lay {img:TX} {rd wr:Int} {fr:Nat→Option Fm} {u u':Nat} {row row':List Nat} (cl:(⟨img,rd,wr,fr,u,row⟩:MC).Cl B) {x:Fm} (hx:x.d=false→x.b=blk img B i) {rd':Int}:(⟨img,rd',wr,upd fr i (some x),u',row'⟩:MC).Cl B∧∀ j,(⟨img,rd',wr,upd fr i (some x),u',row'⟩:MC).cont B j=if j=i then x.b else (⟨img,rd,wr,fr,u,row⟩:MC).cont B j:=by
 refine ⟨fun j y hj hd=>?_,fun j=>?_⟩
 ·have hj':upd fr i (some x) j=some y:=hj
  by_cases q:j=i
  ·subst q; rw [Yl] at hj'; injection hj' with hj'; subst hj'; exact hx hd
  ·rw [Yz q] at hj'; exact cl j y hj' hd
 ·by_cases q:j=i
  ·subst q; rw [if_pos rfl]; exact MC.cont_at (Yl _ _ _)
  ·rw [if_neg q]; unfold MC.cont; dsimp only; rw [Yz q]
theorem Cl.pin (mi:MI N B n t m) (cl:m.Cl B) (i:Nat):(m.pin N B n i).2.Cl B∧∀ j,j<N→(m.pin N B n i).2.cont B j=m.cont B j:=by
 by_cases h:N≤i
 ·rw [MC.pin_out h]; exact ⟨cl,fun _ _=>rfl⟩
 cases e:m.fr i with
 | some x=>
  rw [MC.pin_hit h e]
  obtain ⟨h1,h2⟩:=Cl.lay (i:=i) (x:=⟨x.b,x.d,x.p+1⟩) (u':=m.used) (row':=m.row.erase i) (rd':=m.rd) (cl:(⟨m.img,m.rd,m.wr,m.fr,m.used,m.row⟩:MC).Cl B) (fun hd=>cl i x e hd)
  refine ⟨h1,fun j hj=>?_⟩
  rw [show (((m.put i ⟨x.b,x.d,x.p+1⟩).cut i).cont B j)=_ from h2 j]
  split
  ·rename_i q; subst q; exact (MC.cont_at e).symm
  ·rfl
 | none=>
  cases r:m.room B n with
  | none=>rw [MC.pin_full h e r]; exact ⟨cl,fun _ _=>rfl⟩
  | some k=>
   obtain ⟨c1,c2,c3⟩:=Cl.room mi cl r
   rw [MC.pin_miss h e r]
   obtain ⟨h1,h2⟩:=Cl.lay (i:=i) (x:=⟨blk k.img B i,false,1⟩) (u':=k.used+1) (row':=k.row) (rd':=k.rd+1) (c1:(⟨k.img,k.rd,k.wr,k.fr,k.used,k.row⟩:MC).Cl B) (fun _=>rfl)
   refine ⟨h1,fun j hj=>?_⟩
   rw [show ((⟨k.img,k.rd+1,k.wr,k.fr,k.used,k.row⟩:MC).come i ⟨blk k.img B i,false,1⟩).cont B j=_ from h2 j]
   split
   ·rename_i q; subst q; rw [← c2 j hj]; exact (MC.cont_no (c3 j e)).symm
   ·exact c2 j hj
theorem Cl.fresh (mi:MI N B n t m) (cl:m.Cl B) (i:Nat):(m.fresh N B n i).2.Cl B∧((m.fresh N B n i).1=0→i<N)∧∀ j,j<N→(m.fresh N B n i).2.cont B j=if (m.fresh N B n i).1=0∧j=i then List.replicate B 0 else m.cont B j:=by
 by_cases h:N≤i
 ·rw [MC.fresh_out h]; exact ⟨cl,fun e=>by simp at e,fun _ _=>by rw [if_neg (by simp)]⟩
 cases e:m.fr i with
 | some x=>
  by_cases p:0<x.p
  ·rw [MC.fresh_pin h e p]; exact ⟨cl,fun e=>by simp at e,fun _ _=>by rw [if_neg (by simp)]⟩
  ·rw [MC.fresh_hit h e p]
   obtain ⟨h1,h2⟩:=Cl.lay (i:=i) (x:=⟨List.replicate B 0,true,1⟩) (u':=m.used) (row':=m.row.erase i) (rd':=m.rd) (cl:(⟨m.img,m.rd,m.wr,m.fr,m.used,m.row⟩:MC).Cl B) (fun hd=>by cases hd)
   refine ⟨h1,fun _=>by omega,fun j hj=>?_⟩
   rw [show (((m.put i ⟨List.replicate B 0,true,1⟩).cut i).cont B j)=_ from h2 j]
   by_cases q:j=i
   ·rw [if_pos q,if_pos ⟨rfl,q⟩]
   ·rw [if_neg q,if_neg (fun z=>q z.2)]
 | none=>
  cases r:m.room B n with
  | none=>rw [MC.fresh_full h e r]; exact ⟨cl,fun e=>by simp at e,fun _ _=>by rw [if_neg (by simp)]⟩
  | some k=>
   obtain ⟨c1,c2,c3⟩:=Cl.room mi cl r
   rw [MC.fresh_miss h e r]
   obtain ⟨h1,h2⟩:=Cl.lay (i:=i) (x:=⟨List.replicate B 0,true,1⟩) (u':=k.used+1) (row':=k.row) (rd':=k.rd) (c1:(⟨k.img,k.rd,k.wr,k.fr,k.used,k.row⟩:MC).Cl B) (fun hd=>by cases hd)
   refine ⟨h1,fun _=>by omega,fun j hj=>?_⟩
   rw [show (k.come i ⟨List.replicate B 0,true,1⟩).cont B j=_ from h2 j]
   by_cases q:j=i
   ·rw [if_pos q,if_pos ⟨rfl,q⟩]
   ·rw [if_neg q,if_neg (fun z=>q z.2)]; exact c2 j hj
theorem Cl.unpin (cl:m.Cl B) (i:Nat):(m.unpin i).2.Cl B∧∀ j,(m.unpin i).2.cont B j=m.cont B j:=by
 cases e:m.fr i with
 | none=>rw [MC.unpin_no e]; exact ⟨cl,fun _=>rfl⟩
 | some x=>
  have key:∀(p u:Nat) (row:List Nat),(⟨m.img,m.rd,m.wr,upd m.fr i (some ⟨x.b,x.d,p⟩),u,row⟩:MC).Cl B∧∀ j,(⟨m.img,m.rd,m.wr,upd m.fr i (some ⟨x.b,x.d,p⟩),u,row⟩:MC).cont B j=m.cont B j:=fun p u row=>by
   obtain ⟨h1,h2⟩:=Cl.lay (i:=i) (x:=⟨x.b,x.d,p⟩) (u':=u) (row':=row) (rd':=m.rd) (cl:(⟨m.img,m.rd,m.wr,m.fr,m.used,m.row⟩:MC).Cl B) (fun hd=>cl i x e hd)
   refine ⟨h1,fun j=>?_⟩
   rw [h2 j]
   split
   ·rename_i q; subst q; exact (MC.cont_at e).symm
   ·rfl
  by_cases p:x.p=0
  ·rw [MC.unpin_out e p]; exact ⟨cl,fun _=>rfl⟩
  ·by_cases p1:x.p=1
   ·rw [MC.unpin_one e p1]; exact key _ _ _
   ·rw [MC.unpin_more e p p1]; exact key _ _ _
theorem Cl.write (mi:MI N B n t m) (cl:m.Cl B) (i:Nat) (b:TX):(m.write B i b).2.Cl B∧((m.write B i b).1=0→i<N)∧∀ j,(m.write B i b).2.cont B j=if (m.write B i b).1=0∧j=i then b else m.cont B j:=by
 cases e:m.fr i with
 | none=>rw [MC.write_no e]; exact ⟨cl,fun e=>by simp at e,fun _=>by rw [if_neg (by simp)]⟩
 | some x=>
  by_cases p:x.p=0
  ·rw [MC.write_out e p]; exact ⟨cl,fun e=>by simp at e,fun _=>by rw [if_neg (by simp)]⟩
  ·by_cases q:b.length=B
   ·rw [MC.write_hit e p q]
    obtain ⟨h1,h2⟩:=Cl.lay (i:=i) (x:=⟨b,true,x.p⟩) (u':=m.used) (row':=m.row) (rd':=m.rd) (cl:(⟨m.img,m.rd,m.wr,m.fr,m.used,m.row⟩:MC).Cl B) (fun hd=>by cases hd)
    refine ⟨h1,fun _=>(mi.len i x e).1,fun j=>?_⟩
    rw [show (m.put i ⟨b,true,x.p⟩).cont B j=_ from h2 j]
    by_cases q:j=i
    ·rw [if_pos q,if_pos ⟨rfl,q⟩]
    ·rw [if_neg q,if_neg (fun z=>q z.2)]
   ·rw [MC.write_form e p q]; exact ⟨cl,fun e=>by simp at e,fun _=>by rw [if_neg (by simp)]⟩
theorem Cl.backI (mi:MI N B n t m) (cl:m.Cl B) (i:Nat):(m.backI B i).Cl B∧(∀ j,j<N→(m.backI B i).cont B j=m.cont B j)∧∀ j,(m.backI B i).isD j=(m.isD j && decide (j≠i)):=by
 cases e:m.fr i with
 | none=>
  rw [Zbj e]
  refine ⟨cl,fun _ _=>rfl,fun j=>?_⟩
  by_cases q:j=i
  ·subst q; unfold MC.isD; rw [e]; rfl
  ·simp [q]
 | some x=>
  obtain ⟨hq,hb,_⟩:=mi.len i x e
  rw [Zbm e]
  refine ⟨fun j y hj hd=>?_,fun j hj=>?_,fun j=>?_⟩
  ·have hj':upd m.fr i (some ⟨x.b,false,x.p⟩) j=some y:=hj
   by_cases q:j=i
   ·subst q
    rw [Yl] at hj'; injection hj' with hj'; subst hj'
    show x.b=blk (patch m.img (j*B) B x.b) B j
    rw [Vy mi.dim hq hb j hq,if_pos rfl]
   ·rw [Yz q] at hj'
    show y.b=blk (patch m.img (i*B) B x.b) B j
    rw [Vy mi.dim hq hb j (mi.len j y hj').1,if_neg q]; exact cl j y hj' hd
  ·by_cases q:j=i
   ·subst q; rw [MC.cont_at e,MC.cont_at (show upd m.fr j (some ⟨x.b,false,x.p⟩) j=_ from Yl _ _ _)]
   ·cases ej:m.fr j with
    | some y=>rw [MC.cont_at ej,MC.cont_at (show upd m.fr i (some ⟨x.b,false,x.p⟩) j=some y by rw [Yz q]; exact ej)]
    | none=>
     rw [MC.cont_no ej,MC.cont_no (show upd m.fr i (some ⟨x.b,false,x.p⟩) j=none by rw [Yz q]; exact ej)]
     dsimp only
     rw [Vy mi.dim hq hb j hj,if_neg q]
  ·unfold MC.isD
   dsimp only
   by_cases q:j=i
   ·subst q; rw [Yl]; simp
   ·rw [Yz q]; simp [q]
theorem Cl.backs:∀(D:List Nat) (m:MC),MI N B n t m→m.Cl B→MI N B n t (D.foldl (MC.backI B) m)∧(D.foldl (MC.backI B) m).Cl B∧(∀ j,j<N→(D.foldl (MC.backI B) m).cont B j=m.cont B j)∧∀ j,(D.foldl (MC.backI B) m).isD j=(m.isD j && decide (j∉D))
 | [],m,mi,cl=>⟨mi,cl,fun _ _=>rfl,fun j=>by simp⟩
 | i :: D,m,mi,cl=>by
  obtain ⟨c1,c2,c3⟩:=Cl.backI mi cl i
  obtain ⟨d0,d1,d2,d3⟩:=Cl.backs D _ (mi.back i) c1
  rw [List.foldl_cons]
  refine ⟨d0,d1,fun j hj=>(d2 j hj).trans (c2 j hj),fun j=>?_⟩
  rw [d3,c3]
  by_cases q:j=i
  ·simp [q]
  ·simp [q]
theorem Cl.flush (mi:MI N B n t m) (cl:m.Cl B):(m.flush N B).Cl B∧(∀ j,j<N→(m.flush N B).cont B j=m.cont B j)∧∀ j,j<N→(m.flush N B).isD j=false:=by
 obtain ⟨_,d1,d2,d3⟩:=Cl.backs (m.dirty N) m mi cl
 refine ⟨d1,d2,fun j hj=>?_⟩
 unfold MC.flush
 rw [d3]
 by_cases q:m.isD j=true
 ·have:j∈m.dirty N:=List.mem_filter.2 ⟨List.mem_range.2 hj,q⟩
  simp [this]
 ·simp [Bool.eq_false_iff.2 q]
theorem Cl.act (mi:MI N B n t m) (cl:m.Cl B) (kd:Int) (hk:kd≠7) (i:Nat) (b:TX):(m.act N B n kd i b).2.Cl B∧((m.act N B n kd i b).1=0∧(kd=2∨kd=5∨kd=6)→i<N)∧∀ j,j<N→(m.act N B n kd i b).2.cont B j=if (m.act N B n kd i b).1=0∧j=i∧(kd=2∨kd=5∨kd=6) then (if kd=2 then List.replicate B 0 else b) else m.cont B j:=by
 unfold MC.act
 by_cases q0:kd=0
 ·rw [if_pos q0]; subst q0
  obtain ⟨h1,h2⟩:=Cl.pin mi cl i
  exact ⟨h1,fun h=>absurd h.2 (by decide),fun j hj=>by rw [if_neg (fun z=>absurd z.2.2 (by decide))]; exact h2 j hj⟩
 rw [if_neg q0]
 by_cases q1:kd=1
 ·rw [if_pos q1]; subst q1
  obtain ⟨h1,h2⟩:=Cl.pin mi cl i
  exact ⟨h1,fun h=>absurd h.2 (by decide),fun j hj=>by rw [if_neg (fun z=>absurd z.2.2 (by decide))]; exact h2 j hj⟩
 rw [if_neg q1]
 by_cases q2:kd=2
 ·rw [if_pos q2]; subst q2
  obtain ⟨h1,h3,h2⟩:=Cl.fresh mi cl i
  refine ⟨h1,fun h=>h3 h.1,fun j hj=>?_⟩
  rw [h2 j hj]
  by_cases z:(m.fresh N B n i).1=0∧j=i
  ·rw [if_pos z,if_pos ⟨z.1,z.2,.inl rfl⟩,if_pos rfl]
  ·rw [if_neg z,if_neg (fun y=>z ⟨y.1,y.2.1⟩)]
 rw [if_neg q2]
 by_cases q3:kd=3
 ·rw [if_pos q3]; subst q3
  obtain ⟨h1,h2⟩:=Cl.unpin cl i
  exact ⟨h1,fun h=>absurd h.2 (by decide),fun j hj=>by rw [if_neg (fun z=>absurd z.2.2 (by decide))]; exact h2 j⟩
 rw [if_neg q3]
 by_cases q4:kd=4
 ·rw [if_pos q4]; subst q4
  obtain ⟨h1,h2⟩:=Cl.unpin cl i
  exact ⟨h1,fun h=>absurd h.2 (by decide),fun j hj=>by rw [if_neg (fun z=>absurd z.2.2 (by decide))]; exact h2 j⟩
 rw [if_neg q4]
 by_cases q5:kd=5
 ·rw [if_pos q5]; subst q5
  obtain ⟨h1,h3,h2⟩:=Cl.write mi cl i b
  refine ⟨h1,fun h=>h3 h.1,fun j hj=>?_⟩
  rw [h2 j]
  by_cases z:(m.write B i b).1=0∧j=i
  ·rw [if_pos z,if_pos ⟨z.1,z.2,.inr (.inl rfl)⟩,if_neg (by decide)]
  ·rw [if_neg z,if_neg (fun y=>z ⟨y.1,y.2.1⟩)]
 rw [if_neg q5]
 by_cases q6:kd=6
 ·rw [if_pos q6]; subst q6
  obtain ⟨h1,h3,h2⟩:=Cl.write mi cl i b
  refine ⟨h1,fun h=>h3 h.1,fun j hj=>?_⟩
  rw [h2 j]
  by_cases z:(m.write B i b).1=0∧j=i
  ·rw [if_pos z,if_pos ⟨z.1,z.2,.inr (.inr rfl)⟩,if_neg (by decide)]
  ·rw [if_neg z,if_neg (fun y=>z ⟨y.1,y.2.1⟩)]
 rw [if_neg q6,if_neg hk]
 have no:¬ (kd=2∨kd=5∨kd=6):=fun z=>z.elim q2 fun z=>z.elim q5 q6
 by_cases q8:kd=8
 ·rw [if_pos q8]
  obtain ⟨h1,h2,_⟩:=Cl.flush mi cl
  exact ⟨h1,fun h=>absurd h.2 no,fun j hj=>by rw [if_neg (fun z=>no z.2.2)]; exact h2 j hj⟩
 rw [if_neg q8]
 by_cases q9:kd=9
 ·rw [if_pos q9]
  exact ⟨cl,fun h=>absurd h.2 no,fun j hj=>by rw [if_neg (fun z=>no z.2.2)]⟩
 rw [if_neg q9]
 exact ⟨cl,fun h=>absurd h.2 no,fun j hj=>by rw [if_neg (fun z=>no z.2.2)]⟩
end
abbrev Shf:=Cfg×Ca×Bt×Int
structure ShI (c:Cfg) (N B n t:Nat) (s:Shf) (L:List Nat) (q:Nat):Prop where
 cfg:s.1=c
 ca:CaI N B n t [] s.2.1 L
 by':(Yo s.2.1 L).By
 bits:∃ h,BR N s.2.2.1 h∧h 0=true
 kp:s.2.2.2=(q:Int)
 q32:q<4294967296
 pin:q≠0→1≤(Yo s.2.1 L).cnt q
structure Sto (c:Cfg) (N B n t a b:Nat) (m:MC) (s':Shf) (q':Nat) (L':List Nat):Prop where
 i:ShI c N B n t s' L' q'
 to:MC.To a b m (Yo s'.2.1 L')
section
variable {c:Cfg} {N B n t q:Nat} {s:Shf} {L:List Nat}
theorem ShI.up (h:ShI c N B n t s L q) {t':Nat} (ht:t≤t'):ShI c N B n t' s L q:=⟨h.cfg,h.ca.mono ht,h.by',h.bits,h.kp,h.q32,h.pin⟩
theorem ShI.id (h:ShI c N B n t s L q) (a b:Nat):Sto c N B n (t+1) a b (Yo s.2.1 L) s q L:=⟨h.up (by omega),(MC.To.refl _).le (by omega) (by omega)⟩
theorem Zbg:∀ {l:TX},Byt l→toB (toS l)=l
 | [],_=>rfl
 | x :: l,h=>by
  have hx:=h x (by simp)
  have ih:=Zbg (l:=l) fun y hy=>h y (List.mem_cons_of_mem _ hy)
  obtain ⟨v,rfl⟩:=Int.eq_ofNat_of_zero_le hx.1
  unfold toS toB at *
  rw [List.map_cons,List.map_cons,ih]
  congr 1
  rw [Int.toNat_natCast,UInt8.toNat_ofNat']
  rw [Nat.mod_eq_of_lt (by omega)]
structure EncN (nd:Nd):Prop where
 sm:SmallN nd
 kd:∀ x∈nd.2.1,0≤x∧x<4294967296
theorem EncN.ev {nd:Nd} (h:EncN nd) (c:Cfg):Ev (fun k=>Q39.f k c nd) (Ze0 c nd):=Zmb h.sm.kids h.sm.pivs (by have:=h.sm.buf; omega) (by have:=h.sm.prs; omega) h.kd
def kR (kd:Int):Nat:=if kd=5 then 1 else 0
def kW (n:Nat) (kd:Int):Nat:=if kd=0∨kd=1∨kd=2∨kd=5 then 1 else if kd=6 then n else 0
end
theorem Zmg {N B:Nat} (h:5≤N∧N≤65536∧1≤B∧B≤65536):Q58.f (N:Int) (B:Int)=some (some ((B:Int),List.replicate (N*B) 0,(0,0)),0):=by
 have hb:N*B≤65536*65536:=Nat.mul_le_mul h.2.1 h.2.2.2
 have e:w64 ((N:Int)*(B:Int))=((N*B:Nat):Int):=by rw [show (N:Int)*(B:Int)=((N*B:Nat):Int) by simp,Z3 (by omega) (by omega)]
 unfold Q58.f Q59.f
 rw [if_pos (decide_eq_true (by omega)),if_pos (decide_eq_true (by omega)),if_pos (decide_eq_true (by omega)),Option.bind_some,if_neg (by simp; omega),e,if_pos (by omega),Int.toNat_natCast]
structure Geo (c:Cfg) (N B n:Nat):Prop where
 ok:okB c=true
 z:Siz N B n
 n8:8≤n
 N5:5≤N∧N≤65536
 hB:B≤65536
 eN:c.1=(N:Int)
 eB:c.2.1=(B:Int)
 en:c.2.2.1=(n:Int)
structure ShK (c:Cfg) (N B n t:Nat) (s:Shf) (L:List Nat) (q:Nat) (K:Nat→List Int) (h:Nat→Bool):Prop where
 cfg:s.1=c
 ca:CaI N B n t [] s.2.1 L
 by':(Yo s.2.1 L).By
 cl:(Yo s.2.1 L).Cl B
 ct:∀ j,j<N→(Yo s.2.1 L).cont B j=K j
 bits:BR N s.2.2.1 h
 h0:h 0=true
 kp:s.2.2.2=(q:Int)
 qN:q<N
 pin:∀ j,(Yo s.2.1 L).cnt j=if j=q∧q≠0 then 1 else 0
 rd:0≤s.2.1.1.2.2.1∧s.2.1.1.2.2.1≤t
 wr:0≤s.2.1.1.2.2.2∧s.2.1.1.2.2.2≤64*t
section
variable {c:Cfg} {N B n t q:Nat} {s:Shf} {L:List Nat} {K:Nat→List Int} {h:Nat→Bool}
theorem ShK.few (H:ShK c N B n t s L q K h) (ht:t≤900000):Few s.2.1:=⟨⟨H.rd.1,by have:=H.rd.2; omega⟩,⟨H.wr.1,by have:=H.wr.2; omega⟩⟩
theorem ShK.up (H:ShK c N B n t s L q K h) {t':Nat} (ht:t≤t'):ShK c N B n t' s L q K h:=⟨H.cfg,H.ca.mono ht,H.by',H.cl,H.ct,H.bits,H.h0,H.kp,H.qN,H.pin,⟨H.rd.1,by have:=H.rd.2; omega⟩,⟨H.wr.1,by have:=H.wr.2; omega⟩⟩
theorem Zmw (g:Geo c N B n) (ca:CaI N B n t [] s.2.1 L) (hp:∀ j,(Yo s.2.1 L).cnt j=if j=q∧q≠0 then 1 else 0):∃ k,(Yo s.2.1 L).room B n=some k:=by
 unfold MC.room
 by_cases hu:(Yo s.2.1 L).used<n
 ·exact ⟨_,if_pos hu⟩
 ·rw [if_neg hu]
  have hlen:2≤s.2.1.2.2.1.length:=by
   have:=g.n8
   have e:(Yo s.2.1 L).used=s.2.1.2.2.1.length:=rfl
   omega
  have hne:(Yo s.2.1 L).row≠[]:=by
   have free:∀ i f:Nat,((i:Int),(f:Int))∈s.2.1.2.2.1→i≠q→(Yo s.2.1 L).row≠[]:=fun i f hm hi e=>by
    have h1:=Ue ca hm
    have h2:=hp i
    rw [if_neg (fun z=>hi z.1)] at h2
    have h3:(Yo s.2.1 L).fr i=some (fm (s.2.1.2.1.getD f default)):=h1
    rw [MC.cnt_at h3] at h2
    have:=(ca.mi.rfr i).2 ⟨_,h3,h2⟩
    rw [e] at this; cases this
   match hm:s.2.1.2.2.1,hlen with
   | a :: b :: r,_=>
    obtain ⟨i,f,ea,_⟩:=ca.mok a (by rw [hm]; simp)
    obtain ⟨j,f',eb,_⟩:=ca.mok b (by rw [hm]; simp)
    have hnd:=ca.mnd
    rw [hm,List.map_cons,List.map_cons,List.nodup_cons,List.mem_cons,ea,eb] at hnd
    by_cases q1:i=q
    ·refine free j f' (by rw [hm,eb]; simp) fun q2=>hnd.1 (.inl ?_)
     rw [q1,q2]
    ·exact free i f (by rw [hm,ea]; simp) q1
  cases e:(Yo s.2.1 L).row.getLast? with
  | none=>exact absurd (List.getLast?_eq_none_iff.1 e) hne
  | some x=>exact ⟨_,rfl⟩
theorem MC.pin_ok {m:MC} {i:Nat} (hr:∃ k,m.room B n=some k) (hi:i<N):(m.pin N B n i).1=0:=by
 obtain ⟨k,hk⟩:=hr
 unfold MC.pin
 rw [if_neg (by omega)]
 cases m.fr i with
 | some x=>rfl
 | none=>rw [hk]
theorem MC.read_ok {m:MC} {i:Nat} (h1:1≤m.cnt i):m.read i=(m.cont B i,0):=by
 cases e:m.fr i with
 | none=>rw [MC.cnt_no e] at h1; omega
 | some x=>rw [MC.cnt_at e] at h1; rw [MC.read_hit e (by omega),MC.cont_at e]
theorem ShK.there (g:Geo c N B n) (H:ShK c N B n t s L q K h) {i:Nat} (hi:i<4294967296):Q94.f s (i:Int)=some (if 1≤i∧i<N then 0 else 4):=by
 have e:=g.eN
 have hN:=g.N5
 unfold Q94.f
 rw [H.cfg,e]
 by_cases q0:i=0
 ·rw [if_pos (decide_eq_true (by omega)),if_neg (by omega)]
 ·have w1:w64 (i:Int)=(i:Int):=Z3 (by omega) (by omega)
  rw [if_neg (by simp only [decide_eq_true_eq]; omega),w1]
  by_cases q1:N≤i
  ·rw [if_pos (decide_eq_true (by omega)),if_neg (by omega)]
  ·rw [if_neg (by simp only [decide_eq_true_eq]; omega),if_pos (by omega)]
theorem ShK.put (H:ShK c N B n t s L q K h) {c':Ca} {L':List Nat} {t' a b:Nat} {K':Nat→List Int} (hca:CaI N B n t' [] c' L') (hto:MC.To a b (Yo s.2.1 L) (Yo c' L')) (hcl:(Yo c' L').Cl B) (hct:∀ j,j<N→(Yo c' L').cont B j=K' j) (hpin:∀ j,(Yo c' L').cnt j=if j=q∧q≠0 then 1 else 0) (ht:t+a≤t') (hb:b≤64*(t' - t)):ShK c N B n t' (s.1,c',s.2.2.1,s.2.2.2) L' q K' h:=
 ⟨H.cfg,hca,hto.by' H.by',hcl,hct,H.bits,H.h0,H.kp,H.qN,hpin,by
  have r1:=hto.rd
  have r2:=H.rd
  have e1:(Yo s.2.1 L).rd=s.2.1.1.2.2.1:=rfl
  have e2:(Yo c' L').rd=c'.1.2.2.1:=rfl
  show 0≤c'.1.2.2.1∧c'.1.2.2.1≤t'
  omega,by
  have r1:=hto.wr
  have r2:=H.wr
  have e1:(Yo s.2.1 L).wr=s.2.1.1.2.2.2:=rfl
  have e2:(Yo c' L').wr=c'.1.2.2.2:=rfl
  show 0≤c'.1.2.2.2∧c'.1.2.2.2≤64*t'
  omega⟩
def Zch (c:Cfg) (b:TX):Nd×Int:=Zbh c (toS b)
theorem Zm1 (g:Geo c N B n) (H:ShK c N B n t s L q K h) (ht:t≤800000) {i:Nat} (hi:i<4294967296):∃(s':Shf) (L':List Nat),Ev (fun k=>Q90.f k s (i:Int)) (if 1≤i∧i<N then ((Zch c (K i)).1,(Zch c (K i)).2,s') else (Um,4,s'))∧ShK c N B n (t+1) s' L' q K h∧MC.To 1 1 (Yo s.2.1 L) (Yo s'.2.1 L')∧(i=q→MC.To 0 0 (Yo s.2.1 L) (Yo s'.2.1 L')):=by
 have ht':=H.there g hi
 by_cases q1:1≤i∧i<N
 ·rw [if_pos q1] at ht'
  have hr:=Zmw g H.ca H.pin
  obtain ⟨c1,L1,e1,hc1,ha1⟩:=Zn4 g.z H.ca (H.few (by omega)) (by omega) i hi
  obtain ⟨f1,f0,f2⟩:=Pm.pin H.ca.mi H.by' i
  obtain ⟨cl1,ct1⟩:=Cl.pin H.ca.mi H.cl i
  have r0:=MC.pin_ok (i:=i) hr q1.2
  rw [← ha1] at f1 f0 f2 cl1 ct1
  have y1:=f1.by' H.by'
  have p1:1≤(Yo c1 L1).cnt i:=by rw [f2,if_pos ⟨r0,rfl⟩]; omega
  obtain ⟨c3,L3,e3,hc3,ha3⟩:=Zl7 g.z hc1 (by omega) i
  obtain ⟨u1,u2⟩:=Pm.unpin y1 i
  obtain ⟨cl3,ct3⟩:=Cl.unpin cl1 i
  rw [← ha3] at u1 u2 cl3 ct3
  have er:=Zm3 g.z hc1 i
  rw [MC.read_ok (B:=B) p1,ct1 i q1.2,H.ct i q1.2] at er
  have hbK:Byt (K i)∧(K i).length=B:=by
   rw [← H.ct i q1.2,← ct1 i q1.2]
   cases ef:(Yo c1 L1).fr i with
   | none=>rw [MC.cnt_no ef] at p1; omega
   | some x=>rw [MC.cont_at ef]; exact ⟨y1.fr i x ef,(hc1.mi.len i x ef).2.1⟩
  obtain ⟨k0,hk⟩:=Zn3 (c:=c) (b:=toS (K i)) (by have:=hbK.2; have:=g.hB; rw [← Yd,Zbg hbK.1]; omega)
  refine ⟨(s.1,c3,s.2.2.1,s.2.2.2),L3,⟨k0,fun k kk=>?_⟩,H.put (a:=1) (b:=1) hc3 ((f1.trans u1).le (by omega) (by omega)) cl3 (fun j hj=>by rw [ct3,ct1 j hj,H.ct j hj]) (fun j=>?_) (by omega) (by omega),(f1.trans u1).le (by omega) (by omega),fun e=>?_⟩
  ·show Q90.f k s (i:Int)=_
   have hcfg:=H.cfg
   unfold Q90.f
   rw [ht',Option.bind_some,if_neg (by simp),e1,Option.bind_some,if_neg (by simpa using r0)]
   dsimp only
   rw [er,Option.bind_some,e3,Option.bind_some,if_neg (by simp),hcfg,if_pos q1]
   have:=hk k kk
   rw [Zbg hbK.1] at this
   rw [show Q38.f k c (K i)=_ from this,Option.bind_some]
   rfl
  ·rw [u2]
   by_cases e:j=i
   ·subst e
    rw [if_pos rfl,f2,if_pos ⟨r0,rfl⟩,Nat.add_sub_cancel,H.pin]
   ·rw [if_neg e,f2,if_neg (fun z=>e z.2),H.pin]
  ·subst e
   have:1≤(Yo s.2.1 L).cnt i:=by rw [H.pin,if_pos ⟨rfl,by omega⟩]; omega
   exact ((f0 this).trans u1).le (by omega) (by omega)
 ·rw [if_neg q1] at ht'
  refine ⟨s,L,⟨0,fun k _=>?_⟩,H.up (by omega),(MC.To.refl _).le (by omega) (by omega),fun _=>MC.To.refl _⟩
  show Q90.f k s (i:Int)=_
  unfold Q90.f
  rw [ht',Option.bind_some,if_pos (by simp),if_neg q1]
  rfl
def blkOfN (c:Cfg) (nd:Nd):List Int:=toB (Uw c nd)
end
section
variable {c:Cfg} {N B n t q:Nat} {s:Shf} {L:List Nat} {K:Nat→List Int} {h:Nat→Bool} {p:Bt}
def freeC (N:Nat) (h:Nat→Bool):Nat:=N - ((List.range N).filter h).length
def heldR (N:Nat) (h:Nat→Bool):List Int:=((List.range N).filter h).map fun(i:Nat)=>(i:Int)
end
section
variable {c:Cfg} {N B n t q:Nat} {s:Shf} {L:List Nat} {K:Nat→List Int} {h:Nat→Bool} {p:Bt}
theorem Zi9 {N:Nat} (h5:5≤N) (h:N≤65536):∃ p,Q79.f (N:Int)=some (some p,0)∧BR N p (upd (fun _=>false) 0 true):=by
 have e1:w64 ((N:Int)+64)=((N+64:Nat):Int):=by rw [Z3 (by omega) (by omega)]; omega
 have e2:w64 (((N+64:Nat):Int) - 1)=((N+63:Nat):Int):=by rw [Z3 (by omega) (by omega)]; omega
 have e3:w64 (Int.tdiv ((N+63:Nat):Int) 64)=(((N+63) / 64:Nat):Int):=by
  rw [show Int.tdiv ((N+63:Nat):Int) 64=(((N+63) / 64:Nat):Int) from rfl,Z3 (by omega) (by omega)]
 have b0:BR N ((N:Int),0,List.replicate ((N+63) / 64) (0:Int)) (fun _=>false):=by
  refine ⟨rfl,by omega,?_,by simp,fun w hw=>⟨0,?_,by decide,fun b hb=>?_⟩⟩
  ·have:(List.range N).filter (fun _=>false)=[]:=List.filter_eq_nil_iff.2 (by simp)
   rw [this]; rfl
  ·rw [List.length_replicate] at hw
   rw [List.getD_eq_getElem?_getD,List.getElem?_replicate,if_pos hw]; rfl
  ·simp
 obtain ⟨p',es,b'⟩:=b0.set (i:=0) (by omega)
 rw [if_neg (by omega)] at b'
 refine ⟨p',?_,b'⟩
 unfold Q79.f Q2.f
 rw [if_neg (by simp only [decide_eq_true_eq]; omega),if_neg (by simp only [decide_eq_true_eq]; omega),if_neg (by simp only [decide_eq_true_eq]; omega),e1,e2,e3,if_pos (by omega),Option.bind_some]
 dsimp only [Vb]
 rw [if_pos (by simp),Int.toNat_natCast,show Q8.f ((N:Int),0,List.replicate ((N+63) / 64) (0:Int)) 0=_ from es,Option.bind_some]
def Ze2 (c:Cfg) (N B n:Nat) (ch:Chn) (p:Bt):Shf:=(c,(((B:Int),List.replicate (N*B) 0,(0,0)),List.replicate n (0,[],false,0),[],(List.range n).map (fun(i:Nat)=>(i:Int)),ch),p,0)
theorem Zn6 (g:Geo c N B n) {ch:Chn} (hc:ChI n ch []) {p:Bt} (hp:BR N p (upd (fun _=>false) 0 true)):ShK c N B n 0 (Ze2 c N B n ch p) [] 0 (fun _=>List.replicate B 0) (upd (fun _=>false) 0 true):=by
 have hi:=Zl4 g.z (img:=List.replicate (N*B) 0) (by simp) (0,0) hc
 have fr0:∀ i,(Yo (Ze2 c N B n ch p).2.1 []).fr i=none:=fun i=>by
  show Xz (Ze2 c N B n ch p).2.1 i=none
  exact Gk (by simp [Ze2])
 refine ⟨rfl,hi,⟨Byt.rep _,fun i x hx=>by rw [fr0 i] at hx; cases hx⟩,fun i x hx=>(by rw [fr0 i] at hx; cases hx),fun j hj=>?_,hp,Yl _ _ _,rfl,by have:=g.N5; omega,fun j=>?_,⟨Int.le_refl _,Int.le_refl _⟩,⟨Int.le_refl _,Int.le_refl _⟩⟩
 ·rw [MC.cont_no (fr0 j)]
  show blk (List.replicate (N*B) 0) B j=_
  unfold blk
  have:j*B+B≤N*B:=by rw [← Nat.succ_mul]; exact Nat.mul_le_mul_right _ hj
  rw [List.drop_replicate,List.take_replicate,Nat.min_eq_left (by omega)]
 ·rw [show (Yo (Ze2 c N B n ch p).2.1 []).cnt j=0 from MC.cnt_no (fr0 j),if_neg (fun z=>z.2 rfl)]
theorem Zfv (hok:okB c=true):Zch c (List.replicate B 0)=(Um,12):=by
 unfold Zch
 rcases Zkx (c:=c) (b:=toS (List.replicate B 0)) hok with ⟨e,h1,h2⟩ | e
 ·exfalso
  have hb:toS (List.replicate B 0)=zs B:=by unfold toS zs; rw [List.map_replicate]; rfl
  rw [hb] at h2
  have hx:∀ x∈Uw c (Wo c (zs B)).1,x=0:=by
   rw [hb] at e
   rw [h2]; intro x hx; exact List.eq_of_mem_replicate hx
  have:∃ x∈Uw c (Wo c (zs B)).1,x≠0:=by
   unfold Uw slt Bm
   split
   ·exact ⟨1,by unfold hdO; simp,by decide⟩
   ·exact ⟨2,by unfold hdI; simp,by decide⟩
  obtain ⟨x,hm,hne⟩:=this
  exact hne (hx x hm)
 ·exact e
end
theorem Zi3 (c:Cfg) {k:Nat} (hk:2000<k):Q131.f k c=some (okB c && (decide (c.2.1≤3000) && decide (c.1≤400))):=by
 unfold Q131.f
 rw [Ziw c hk,Option.bind_some]
 cases okB c with
 | false=>rw [if_neg (by decide)]; rfl
 | true=>
  rw [if_pos rfl]
  by_cases q:c.2.1≤3000
  ·rw [if_pos (decide_eq_true q),decide_eq_true q]; rfl
  ·rw [if_neg (by simpa using q),decide_eq_false q]; rfl
theorem Zm9 {c:Cfg} (h:(okB c && (decide (c.2.1≤3000) && decide (c.1≤400)))=true):∃ N B n:Nat,Geo c N B n∧N≤400∧B≤3000:=by
 simp only [Bool.and_eq_true,decide_eq_true_eq] at h
 obtain ⟨hok,h1,h2⟩:=h
 have hc:=hok
 unfold okB at hc
 simp only [Bool.and_eq_true,decide_eq_true_eq] at hc
 obtain ⟨_,hN,hn,hB,_⟩:=hc
 obtain ⟨N,eN⟩:=Int.eq_ofNat_of_zero_le (show 0≤c.1 by omega)
 obtain ⟨B,eB⟩:=Int.eq_ofNat_of_zero_le (show 0≤c.2.1 by omega)
 obtain ⟨n,en⟩:=Int.eq_ofNat_of_zero_le (show 0≤c.2.2.1 by omega)
 have hNB:N*B≤400*3000:=Nat.mul_le_mul (by omega) (by omega)
 exact ⟨N,B,n,⟨hok,⟨by omega,by omega,by omega,by omega,by omega⟩,by omega,by omega,by omega,eN,eB,en⟩,by omega,by omega⟩
def emS (s:Sp):Bool:=!s.2.2 && !Op.bytesLess s.1 s.2.1
theorem U0 (s:Sp):Q68.f s=some (emS s):=by
 unfold Q68.f emS
 rw [Zhx]
 cases s.2.2 <;> rfl
theorem Jb {k:Nat} {a b:TS} (ha:a.length≤140737488351232) (hb:b.length≤140737488351232) (hk:a.length<k):Q140.f k a b=some (Xm a b):=by
 have:=Zbt k a b 0 (by omega) (by omega) (by omega) (by omega) (by omega)
 simpa [Q140.f] using this
theorem Zm2 {k:Nat} {s:Sp} (h1:s.1.length≤140737488351232) (h2:s.2.1.length≤140737488351232) (hk:s.1.length<k):Q142.f k s s.1=some (!emS s):=by
 unfold Q142.f emS
 rw [Jb h1 h1 hk,Jb h1 h2 hk]
 simp only [Option.bind_some,Zlk,Zky,decide_eq_true_eq]
 cases s.2.2 <;> simp [Vn]
theorem Zfc (k:Nat) (hk:3000≤k):Q139.f k=some true:=by
 obtain ⟨k,rfl⟩:∃ k2,k=k2+3000:=⟨k - 3000,by omega⟩
 kernel_rfl
def Uk (N i:Nat) (sp:Sp) (lim:Int):Int:=if (decide (lim<1) || emS sp)=true then 0 else if 1≤i∧i<N then 12 else 4
theorem Zi7 (a:Int) (sp:Sp) (lim:Int):Q86.f a sp lim=some ([],if (decide (lim<1) || emS sp)=true then 0 else 1):=by
 unfold Q86.f
 by_cases q:lim<1
 ·rw [if_pos (decide_eq_true q),decide_eq_true q]; rfl
 ·rw [if_neg (by simpa using q),U0,Option.bind_some,decide_eq_false q,Bool.false_or]
  split <;> rfl
section
variable {c:Cfg} {N B n t q:Nat} {s:Shf} {L:List Nat} {K:Nat→List Int} {h:Nat→Bool}
theorem Zgq (g:Geo c N B n) (H:ShK c N B n t s L q (fun _=>List.replicate B 0) h) (ht:t≤800000) {i:Nat} (hi:i<4294967296) (sp:Sp) (lim:Int):∃ s',Ev (fun k=>Q85.f k s (i:Int) sp lim) ([],Uk N i sp lim,s'):=by
 by_cases q1:lim<1
 ·refine ⟨s,0,fun k _=>?_⟩
  show Q85.f k s (i:Int) sp lim=_
  unfold Q85.f Uk
  rw [if_pos (decide_eq_true q1),decide_eq_true q1]
  rfl
 cases q2:emS sp with
 | true=>
  refine ⟨s,0,fun k _=>?_⟩
  show Q85.f k s (i:Int) sp lim=_
  unfold Q85.f Uk
  rw [if_neg (by simpa using q1),U0,Option.bind_some,q2,if_pos rfl,Bool.or_true,if_pos rfl]
 | false=>
  obtain ⟨s',L',⟨b,hb⟩,_⟩:=Zm1 g H ht hi
  have e:Uk N i sp lim=if 1≤i∧i<N then 12 else 4:=by
   unfold Uk
   rw [decide_eq_false q1,q2,if_neg (by simp)]
  refine ⟨s',b+1,fun k hk=>?_⟩
  obtain ⟨k,rfl⟩:∃ k2,k=k2+1:=⟨k - 1,by omega⟩
  have ev:Q88.f (k+1) (s,lim,[]) (i:Int) (-1) sp []=some (Uk N i sp lim,(s',lim,[])):=by
   have hb2:=hb k (by omega)
   rw [Q88.f,show Q90.f k s (i:Int)=_ from hb2,e,Zfv g.ok]
   by_cases q3:1≤i∧i<N
   ·rw [if_pos q3,if_pos q3,Option.bind_some,if_pos (by simp)]
   ·rw [if_neg q3,if_neg q3,Option.bind_some,if_pos (by simp)]
  show Q85.f (k+1) s (i:Int) sp lim=_
  unfold Q85.f
  rw [if_neg (by simpa using q1),U0,Option.bind_some,q2,if_neg (by simp),ev,Option.bind_some,if_pos (by rw [e]; split <;> simp)]
theorem Zly (g:Geo c N B n) {i:Nat} (hi:i<4294967296) (sp:Sp) (lim:Int) (s':Shf):Ev (fun k=>Q138.l3 k c (i:Int) ([],Uk N i sp lim,s') (decide (lim<1) || emS sp)) true:=by
 have hN:=g.N5
 refine ⟨5000,fun k hk=>?_⟩
 show Q138.l3 k c (i:Int) ([],Uk N i sp lim,s') (decide (lim<1) || emS sp)=_
 obtain ⟨k,rfl⟩:∃ k2,k=k2+2:=⟨k - 2,by omega⟩
 have w1:w64 (i:Int)=(i:Int):=Z3 (by omega) (by omega)
 have l4:∀(e:Int) (b:Bool),e=(if b=true then 12 else 4)→Q138.l4 (k+1) ([],e,s') b=some true:=fun e b h=>by
  rw [Q138.l4,Zfc k (by omega),Option.bind_some,h]
  cases b <;> simp
 rw [Q138.l3]
 unfold Uk
 cases x:(decide (lim<1) || emS sp) with
 | true=>rw [if_pos rfl,if_pos rfl,if_pos (by simp),if_pos (by simp),Zfc (k+1) (by omega),Option.bind_some]
 | false=>
  rw [if_neg (show ¬ false=true by simp),if_neg (show ¬ false=true by simp),w1,g.eN]
  by_cases q1:i=0
  ·rw [if_neg (show ¬ decide ((0:Int)<(i:Int))=true by simp [q1])]
   exact l4 _ _ (by rw [if_neg (by omega)]; rfl)
  ·rw [if_pos (show decide ((0:Int)<(i:Int))=true by simp; omega)]
   refine l4 _ _ ?_
   by_cases q2:i<N
   ·rw [if_pos (show 1≤i∧i<N by omega),if_pos (by simp; omega)]
   ·rw [if_neg (show ¬ (1≤i∧i<N) by omega),if_neg (by simp; omega)]
theorem Zin (g:Geo c N B n) {i:Nat} (hi:i<4294967296) (sp:Sp) (lim:Int) {ch:Chn} (hc:ChI n ch []):∀(m j:Nat),j+m=n→Ev (fun k=>Q138.l2 k c (i:Int) sp lim ((B:Int),List.replicate (N*B) 0,(0,0)) ch (decide (lim<1) || emS sp) ((List.range j).map fun(i:Nat)=>(i:Int)) (j:Int)) true
 | 0,j,hj=>by
  have e:j=n:=by omega
  subst e
  have h64:=g.z.h64
  obtain ⟨p,ep,bp⟩:=Zi9 g.N5.1 g.N5.2
  obtain ⟨s',b1,hb1⟩:=Zgq g (Zn6 g hc bp) (by omega) hi sp lim
  obtain ⟨b2,hb2⟩:=Zly g hi sp lim s'
  refine ⟨b1+b2+1,fun k hk=>?_⟩
  obtain ⟨k,rfl⟩:∃ k2,k=k2+1:=⟨k - 1,by omega⟩
  have hx:=hb1 k (by omega)
  have hy:=hb2 k (by omega)
  have eb:=Ut (s:=(0,0)) (N:=N) (n:=B) g.z.hB (img:=List.replicate (N*B) 0) (by simp) g.z.hNB
  show Q138.l2 (k+1) c _ _ _ _ _ _ _ _=_
  rw [Q138.l2,g.en,if_neg (by simp),eb,Option.bind_some,g.eN,if_neg (by simp),Q55.f,Option.bind_some,g.eB,if_neg (by simp),ep,Option.bind_some]
  dsimp only [Vb]
  rw [if_pos (by simp),Int.toNat_natCast]
  have hx':Q85.f k (c,(((B:Int),List.replicate (N*B) 0,(0,0)),List.replicate j (0,[],false,0),[],(List.range j).map (fun(i:Nat)=>(i:Int)),ch),p,0) (i:Int) sp lim=some ([],Uk N i sp lim,s'):=hx
  rw [hx',Option.bind_some,if_neg (by simp)]
  exact hy
 | m+1,j,hj=>by
  have h64:=g.z.h64
  obtain ⟨k0,hk⟩:=Zin g hi sp lim hc m (j+1) (by omega)
  refine ⟨k0+1,fun k hk2=>?_⟩
  obtain ⟨k,rfl⟩:∃ k2,k=k2+1:=⟨k - 1,by omega⟩
  have hx:=hk k (by omega)
  show Q138.l2 (k+1) c _ _ _ _ _ _ _ _=_
  rw [Q138.l2,g.en,if_pos (decide_eq_true (by omega)),if_pos (by simp; omega),Y8 (by omega)]
  dsimp only at hx
  rw [List.range_succ,List.map_append] at hx
  exact hx
end
theorem Zlt {c:Cfg} {i:Nat} (hi:i<4294967296) (sp:Sp) (lim:Int):Ev (fun k=>Q138.l1 k c (i:Int) sp lim (decide (lim<1) || emS sp) false) true:=by
 by_cases light:(okB c && (decide (c.2.1≤3000) && decide (c.1≤400)))=true
 ·obtain ⟨N,B,n,g,hN,hB⟩:=Zm9 light
  obtain ⟨ch,ec,hch⟩:=Znx (n:=n) g.z.hn g.z.h64
  obtain ⟨k0,hk⟩:=Zin g hi sp lim hch n 0 (by omega)
  have eb:=Ut (s:=(0,0)) (N:=N) (n:=B) g.z.hB (img:=List.replicate (N*B) 0) (by simp) g.z.hNB
  have h5:=g.N5
  have h8:=g.n8
  have h64:=g.z.h64
  refine ⟨k0+3000,fun k hk2=>?_⟩
  obtain ⟨k,rfl⟩:∃ k2,k=k2+1:=⟨k - 1,by omega⟩
  have hx:=hk k (by omega)
  show Q138.l1 (k+1) c _ _ _ _ _=_
  rw [Q138.l1,if_neg (by simp),Zi3 c (by omega),light,Option.bind_some,if_neg (by simp),g.eN,g.eB,Zmg ⟨g.N5.1,g.N5.2,g.z.hB,g.hB⟩,Option.bind_some]
  dsimp only [Vb]
  rw [if_pos (by simp),show Q49.f c=_ from Zb9 c,if_pos g.ok,Option.bind_some,if_neg (by simp),eb,Option.bind_some,if_neg (by simp only [decide_eq_true_eq]; omega),g.en,if_neg (by simp only [decide_eq_true_eq]; omega),if_neg (by simp only [decide_eq_true_eq]; omega),ec,Option.bind_some]
  dsimp only [Vb]
  rw [if_pos (by simp),if_pos (by omega)]
  exact hx
 ·refine ⟨4000,fun k hk=>?_⟩
  obtain ⟨k,rfl⟩:∃ k2,k=k2+1:=⟨k - 1,by omega⟩
  show Q138.l1 (k+1) c _ _ _ _ _=_
  rw [Q138.l1,if_neg (by simp),Zi3 c (by omega),Bool.eq_false_iff.2 light,Option.bind_some,if_pos (show (!false)=true from rfl),Zfc k (by omega),Option.bind_some]
theorem Zni {c:Cfg} {i:Nat} (hi:i<4294967296) {sp:Sp} (h1:sp.1.length≤140737488351232) (h2:sp.2.1.length≤140737488351232) (lim:Int):∃ k,Q138.f k c (i:Int) sp lim=some true:=by
 obtain ⟨b,hb⟩:=Zlt (c:=c) hi sp lim
 refine ⟨b+sp.1.length+2,?_⟩
 have l0:Q138.l0 (b+sp.1.length+2) c (i:Int) sp lim ([],if (decide (lim<1) || emS sp)=true then 0 else 1) (decide (lim<1) || emS sp)=some true:=by
  have hx:=hb (b+sp.1.length+1) (by omega)
  rw [Q138.l0,if_neg (by simp)]
  cases x:(decide (lim<1) || emS sp) with
  | true=>
   rw [x] at hx
   rw [if_pos rfl,if_neg (by simp),if_neg (by simp)]
   exact hx
  | false=>
   rw [x] at hx
   rw [if_neg (show ¬ false=true by simp),if_neg (by simp),if_pos (by simp)]
   exact hx
 unfold Q138.f
 rw [Zi7,Option.bind_some]
 by_cases q:lim<1
 ·rw [if_pos (decide_eq_true q)]
  have e:(decide (lim<1) || emS sp)=true:=by rw [decide_eq_true q]; rfl
  rw [e] at l0 ⊢
  exact l0
 ·rw [if_neg (by simpa using q),Zm2 h1 h2 (by omega),Option.bind_some]
  have e:(decide (lim<1) || emS sp)=emS sp:=by rw [decide_eq_false q]; rfl
  rw [e] at l0 ⊢
  rw [Bool.not_not]
  exact l0
theorem ScanNone_pure (c:Cfg) (a:Int) (sp:Sp) (lim:Int) (_:Ty.fit (V0 tt) (.pair (.int .i64) (.pair (.int .i64) (.pair (.int .i64) (.pair (.int .i64) (.pair (.int .i64) (.pair (.int .i64) (.pair (.int .i64) (.int .i64)))))))) c) (ha:Ty.fit (V0 tt) (.int .u32) a) (hs:Ty.fit (V0 tt) (.pair .str (.pair .str .bool)) sp) (_:Ty.fit (V0 tt) (.int .i64) lim):∃ k,Q138.f k c a sp lim=some true:=by
 have h1:IntKind.u32.min=0:=rfl
 have h2:IntKind.u32.max=4294967295:=rfl
 have ha':0≤a∧a<4294967296:=by simp [Ty.fit,Lit.wf] at ha; omega
 obtain ⟨a,rfl⟩:=Int.eq_ofNat_of_zero_le ha'.1
 exact Zni (by omega) hs.1 hs.2.1 lim
end Go.SK.T
