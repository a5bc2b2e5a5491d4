/- The functions, further. -/
import Derived.Test.YtgdmpkhmedbnpaaGreatDoorXShelfNoneF2
set_option linter.unusedVariables false
set_option linter.unusedSimpArgs false
set_option maxRecDepth 20000
set_option maxHeartbeats 40000000
namespace Go.SK.T
open Go Go.SK Go.Proofs
def Q137.l0:Nat→(Int×Int×Int×Int×Int×Int×Int×Int)→(Int)→(Int)→Option (Int)
 | 0,_,_,_=>none
 | k+1,a0,x1,x2=>if (decide (x2<a0.2.2.2.2.2.1))=true then (Q137.l0 k a0 (w64 ((w64 ((w64 (x1+3))+a0.2.2.2.2.2.2.1))+a0.2.2.2.2.2.2.2)) (w64 (x2+1))) else (some x1)
def Q137.f (k:Nat) (a0:Int×Int×Int×Int×Int×Int×Int×Int):Option (Int):=(Q139.f a0).bind fun r1=>(if (!r1)=true then (some 0) else (Q137.l0 k a0 8 0))
theorem Q137.spec {k:Nat} {a0:Int×Int×Int×Int×Int×Int×Int×Int}  {r:Int} (H:Q137.f k a0=some r) :
  Spec Tryz.prog 90 [.agg #[.int .i64 a0.1,.int .i64 a0.2.1,.int .i64 a0.2.2.1,.int .i64 a0.2.2.2.1,.int .i64 a0.2.2.2.2.1,.int .i64 a0.2.2.2.2.2.1,.int .i64 a0.2.2.2.2.2.2.1,.int .i64 a0.2.2.2.2.2.2.2]] [] [] (fun v l=>v=.int .i64 r∧l=[]):=by
 refine Zo Tryz.func90 fun w0 F0 h0=>?_
 unfold Q137.f at H
 refine J.seq (J.region ?_)
 refine Ze (Ye h0) ?_
 rintro _ w1 ⟨b1,rfl,h1⟩
 replace h1:=nf h1
 refine Zi [1] rfl ?_
 refine J.seq (J.seq (J.region ?_))
 refine Zg (Zd 0 h1.wht) ?_
 obtain ⟨r1,q1,H⟩:=Zn H
 refine Ze (Zf [] (Q139.spec q1) h1 rfl Zs) ?_
 rintro _ w2 ⟨_,⟨rfl,rfl⟩,h2⟩
 replace h2:=nf h2
 refine Zi [1,7] rfl ?_
 refine jIf H (fun c1 H=>?_) fun c1 H=>?_
 ·refine J.seq (Zc [2] ?_)
  refine J.ret ?_
  cases H
  exact ⟨_,_,_,Za,⟨rfl,rfl⟩,Zb h2 []⟩
 refine J.skip (J.seq (Zc [1,3] ?_))
 refine J.seq (J.seq (Zc [1,3,4] ?_))
 refine J.block ?_
 have h5:=(sOR h2 [0] [])
 refine J.loop (fun kk env w=>∃(x1:Int) (x2:Int),env=[(1,.pointer (some ⟨b1,0,none⟩)),(3,.int .i64 x1),(4,.int .i64 x2)]∧St w0 F0 [X23 b1 a0.1 a0.2.1 a0.2.2.1 a0.2.2.2.1 a0.2.2.2.2.1 a0.2.2.2.2.2.1 a0.2.2.2.2.2.2.1 a0.2.2.2.2.2.2.2] [] w∧Q137.l0 kk a0 x1 x2=some r) (k:=k) ⟨8,0,rfl,h5,H⟩ ?_
 rintro k1 env w3 ⟨x1,x2,rfl,h3,H⟩
 rcases k1 with _ | k1
 ·exact z0 H
 rw [Q137.l0] at H
 refine J.seq (J.seq (J.region ?_))
 refine Zh 2 ?_
 refine Zg (Zd 0 h3.wht) ?_
 refine Zi [1,3,4,11] rfl ?_
 refine jIf H (fun c2 H=>?_) fun c2 H=>?_
 ·refine J.skip (J.seq (J.block (J.region ?_)))
  refine Zh 3 ?_
  refine Zg (Zd 0 h3.wht) ?_
  refine Zh 2 ?_
  refine Zg (Zd 0 h3.wht) ?_
  refine Zi [1,3,4] rfl ?_
  refine Zc [1,3,4] ?_
  have h4:=(sOR h3 [0] [])
  exact ⟨k1,by omega,(w64 ((w64 ((w64 (x1+3))+a0.2.2.2.2.2.2.1))+a0.2.2.2.2.2.2.2)),(w64 (x2+1)),rfl,h4,H⟩
 refine J.exit (J.seq (Zc [2] ?_))
 refine J.ret ?_
 cases H
 exact ⟨_,_,_,Za,⟨rfl,rfl⟩,Zb h3 []⟩

def Q138.f (k:Nat) (a0:Int×Int×Int×Int×Int×Int×Int×Int):Option (Bool):=(Q139.f a0).bind fun r1=>(if r1=true then ((Q140.f a0.1 5 65536).bind fun r2=>(if r2=true then ((Q140.f a0.2.2.1 8 64).bind fun r3=>(if r3=true then ((Q140.f a0.2.1 64 65536).bind fun r4=>(if r4=true then ((Q136.f k a0).bind fun r5=>(if (decide (r5≤a0.2.1))=true then ((Q137.f k a0).bind fun r6=>(some (decide (r6≤a0.2.1)))) else (some false))) else (some false))) else (some false))) else (some false))) else (some false))
theorem Q138.spec {k:Nat} {a0:Int×Int×Int×Int×Int×Int×Int×Int}  {r:Bool} (H:Q138.f k a0=some r) :
  Spec Tryz.prog 36 [.agg #[.int .i64 a0.1,.int .i64 a0.2.1,.int .i64 a0.2.2.1,.int .i64 a0.2.2.2.1,.int .i64 a0.2.2.2.2.1,.int .i64 a0.2.2.2.2.2.1,.int .i64 a0.2.2.2.2.2.2.1,.int .i64 a0.2.2.2.2.2.2.2]] [] [] (fun v l=>v=.bool r∧l=[]):=by
 refine Zo Tryz.func36 fun w0 F0 h0=>?_
 unfold Q138.f at H
 refine J.seq (J.region ?_)
 refine Ze (Ye h0) ?_
 rintro _ w1 ⟨b1,rfl,h1⟩
 replace h1:=nf h1
 refine Zi [1] rfl ?_
 refine J.seq (Zv h1 ?_)
 have h2:=h1.drew
 refine Zj 0 rfl (Zd 0 wI) ?_
 obtain ⟨r1,q1,H⟩:=Zn H
 refine Zq 1 rfl (Zf [] (Q139.spec q1) h2 rfl Zs) ?_
 rintro _ w2 ⟨_,⟨rfl,rfl⟩,h3⟩
 replace h3:=nf h3
 refine ⟨⟨[],h3⟩,?_⟩
 refine Zu [2] ?_
 refine Yh 5 H (fun c1 H=>?_) fun c1 H=>?_
 ·refine Zu [3] ?_
  refine Zj 4 rfl (Zd 0 wI) ?_
  obtain ⟨r2,q2,H⟩:=Zn H
  refine Zq 5 rfl (Zf [] (Q140.spec q2) h3 rfl Zs) ?_
  rintro _ w3 ⟨_,⟨rfl,rfl⟩,h4⟩
  replace h4:=nf h4
  refine ⟨⟨[],h4⟩,?_⟩
  refine Zu [6,7] ?_
  refine Yh 10 H (fun c2 H=>?_) fun c2 H=>?_
  ·refine Zu [8] ?_
   refine Zj 9 rfl (Zd 0 wI) ?_
   obtain ⟨r3,q3,H⟩:=Zn H
   refine Zq 10 rfl (Zf [] (Q140.spec q3) h4 rfl Zs) ?_
   rintro _ w4 ⟨_,⟨rfl,rfl⟩,h5⟩
   replace h5:=nf h5
   refine ⟨⟨[],h5⟩,?_⟩
   refine Zu [11,12] ?_
   refine Yh 15 H (fun c3 H=>?_) fun c3 H=>?_
   ·refine Zu [13] ?_
    refine Zj 14 rfl (Zd 0 wI) ?_
    obtain ⟨r4,q4,H⟩:=Zn H
    refine Zq 15 rfl (Zf [] (Q140.spec q4) h5 rfl Zs) ?_
    rintro _ w5 ⟨_,⟨rfl,rfl⟩,h6⟩
    replace h6:=nf h6
    refine ⟨⟨[],h6⟩,?_⟩
    refine Zu [16,17] ?_
    refine Yh 20 H (fun c4 H=>?_) fun c4 H=>?_
    ·refine Zu [18] ?_
     refine Zj 19 rfl (Zd 0 wI) ?_
     refine Zj 20 rfl (Zd 0 wI) ?_
     obtain ⟨r5,q5,H⟩:=Zn H
     refine Zq 21 rfl (Zf [] (Q136.spec q5) h6 rfl Zs) ?_
     rintro _ w6 ⟨_,⟨rfl,rfl⟩,h7⟩
     replace h7:=nf h7
     refine ⟨⟨[],h7⟩,?_⟩
     refine Zu [22,23,24] ?_
     refine Yh 27 H (fun c5 H=>?_) fun c5 H=>?_
     ·refine Zu [25] ?_
      refine Zj 26 rfl (Zd 0 wI) ?_
      refine Zj 27 rfl (Zd 0 wI) ?_
      obtain ⟨r6,q6,H⟩:=Zn H
      refine Zq 28 rfl (Zf [] (Q137.spec q6) h7 rfl Zs) ?_
      rintro _ w7 ⟨_,⟨rfl,rfl⟩,h8⟩
      replace h8:=nf h8
      refine ⟨⟨[],h8⟩,?_⟩
      refine Zu [29,30,31] ?_
      refine Zw [2] ?_
      refine J.ret ?_
      cases H
      exact ⟨_,_,_,Za,⟨rfl,rfl⟩,Zb h8 []⟩
     refine Zu [25,26,27,28,29,30,31] ?_
     refine Zw [2] ?_
     refine J.ret ?_
     cases H
     exact ⟨_,_,_,Za,⟨rfl,rfl⟩,Zb h7 []⟩
    refine Zu [18,19,20,21,22,23,24,25,26,27,28,29,30,31] ?_
    refine Zw [2] ?_
    refine J.ret ?_
    cases H
    exact ⟨_,_,_,Za,⟨rfl,rfl⟩,Zb h6 []⟩
   refine Zu [13,14,15,16,17,18,19,20,21,22,23,24,25,26,27,28,29,30,31] ?_
   refine Zw [2] ?_
   refine J.ret ?_
   cases H
   exact ⟨_,_,_,Za,⟨rfl,rfl⟩,Zb h5 []⟩
  refine Zu [8,9,10,11,12,13,14,15,16,17,18,19,20,21,22,23,24,25,26,27,28,29,30,31] ?_
  refine Zw [2] ?_
  refine J.ret ?_
  cases H
  exact ⟨_,_,_,Za,⟨rfl,rfl⟩,Zb h4 []⟩
 refine Zu [3,4,5,6,7,8,9,10,11,12,13,14,15,16,17,18,19,20,21,22,23,24,25,26,27,28,29,30,31] ?_
 refine Zw [2] ?_
 refine J.ret ?_
 cases H
 exact ⟨_,_,_,Za,⟨rfl,rfl⟩,Zb h3 []⟩

def Q101.f (a1:Int):Option (Int):=some 1
theorem Q101.spec {a1:Int}  {r:Int} (H:Q101.f a1=some r) :
  Spec Tryz.prog 76 [.pointer none,.int .u32 a1] [] [] (fun v l=>v=.int .i64 r∧l=[]):=by
 refine Zo Tryz.func76 fun w0 F0 h0=>?_
 unfold Q101.f at H
 refine J.seq (Zc [0,1] ?_)
 refine J.seq (J.block (J.seq (Zc [0,1,5] ?_)))
 refine Zp ?_
 refine J.seq (Zc [4] ?_)
 refine J.ret ?_
 cases H
 exact ⟨_,_,_,Za,⟨rfl,rfl⟩,Zb h0 []⟩

def Q91.f (a1:Int):Option ((Int×List (Int)×List (List UInt8)×(List (List UInt8×Bool×List UInt8))×(List (List UInt8×List UInt8)))×Int):=(Q101.f a1).bind fun r1=>(if (!decide (r1=0))=true then (some ((0,([]:List (Int)),([]:List (List UInt8)),([]:List (List UInt8×Bool×List UInt8)),([]:List (List UInt8×List UInt8))),r1)) else (none))
theorem Q91.spec {a1:Int}  {r:(Int×List (Int)×List (List UInt8)×(List (List UInt8×Bool×List UInt8))×(List (List UInt8×List UInt8)))×Int} (H:Q91.f a1=some r) :
  Spec Tryz.prog 24 [.pointer none,.int .u32 a1] [] [] (fun v l=>∃(A_0:Option Addr) (c_0:Nat) (A_1:Option Addr) (c_1:Nat) (A_2:Option Addr) (c_2:Nat) (A_3:Option Addr) (c_3:Nat),v=.tuple #[.agg #[.int .i64 r.1.1,.slice A_0 r.1.2.1.length c_0,.slice A_1 r.1.2.2.1.length c_1,.slice A_2 r.1.2.2.2.1.length c_2,.slice A_3 r.1.2.2.2.2.length c_3],.int .i64 r.2]∧l=[O33 r.1.2.1 A_0 c_0,O9 r.1.2.2.1 A_1 c_1,U7 r.1.2.2.2.1 A_2 c_2,Uz r.1.2.2.2.2 A_3 c_3]):=by
 refine Zo Tryz.func24 fun w0 F0 h0=>?_
 unfold Q91.f at H
 refine J.seq (J.region ?_)
 refine Ze (Yq h0) ?_
 rintro _ w1 ⟨b1,rfl,h1⟩
 replace h1:=nf h1
 refine Zi [0,1,4] rfl ?_
 refine J.seq (J.seq (J.region ?_))
 refine Zh 2 ?_
 obtain ⟨r1,q1,H⟩:=Zn H
 refine Ze (Zf [] (Q101.spec q1) h1 rfl Zs) ?_
 rintro _ w2 ⟨_,⟨rfl,rfl⟩,h2⟩
 replace h2:=nf h2
 refine Zi [0,1,4,6] rfl ?_
 refine J.seq (Zc [0,1,4,6,14] ?_)
 refine jIf H (fun c1 H=>?_) fun c1 H=>?_
 ·refine J.seq (J.region ?_)
  refine Zh 2 ?_
  refine Ze (Z3 0 h2) ?_
  intro _ w3 h3
  replace h3:=nf h3
  refine Zi [4,5] rfl ?_
  refine J.ret ?_
  have h4:=h3.addNil 33 (.int .u32)
  have h5:=h4.addNil 9 .str
  have h6:=h5.addNil 115 (.pair .str (.pair .bool .str))
  have h7:=h6.addNil 106 (.pair .str .str)
  cases H
  exact ⟨_,_,_,(Yf rfl (Ym (RV.cell Yu 4 h7 rfl rfl rfl rfl) (Ym (RV.tmp rfl) Xb)) rfl),⟨_,_,_,_,_,_,_,_,rfl,rfl⟩,Zb h7 [3,2,1,0]⟩
 refine J.skip (J.seq (J.seq ?_))
 exact nomatch H

def Q99.f:Option (Int):=some 1
theorem Q99.spec   {r:Int} (H:Q99.f=some r) :
  Spec Tryz.prog 60 [.pointer none] [] [] (fun v l=>v=.int .i64 r∧l=[]):=by
 refine Zo Tryz.func60 fun w0 F0 h0=>?_
 unfold Q99.f at H
 refine J.seq (Zc [0] ?_)
 refine J.seq (J.seq (Zc [11] ?_))
 refine Zp ?_
 refine J.seq (Zc [2] ?_)
 refine J.ret ?_
 cases H
 exact ⟨_,_,_,Za,⟨rfl,rfl⟩,Zb h0 []⟩

def Q93.f (a1:Int×List (Int)×List (List UInt8)×(List (List UInt8×Bool×List UInt8))×(List (List UInt8×List UInt8))):Option (Int×Int):=(Q99.f).bind fun r1=>(if (!decide (r1=0))=true then (some (0,r1)) else (none))
theorem Q93.spec {a1:Int×List (Int)×List (List UInt8)×(List (List UInt8×Bool×List UInt8))×(List (List UInt8×List UInt8))} {A1:Option Addr} {c_1:Nat} {A2:Option Addr} {c_2:Nat} {A3:Option Addr} {c_3:Nat} {A4:Option Addr} {c_4:Nat} {r:Int×Int} (H:Q93.f a1=some r) :
  Spec Tryz.prog 39 [.pointer none,.agg #[.int .i64 a1.1,.slice A1 a1.2.1.length c_1,.slice A2 a1.2.2.1.length c_2,.slice A3 a1.2.2.2.1.length c_3,.slice A4 a1.2.2.2.2.length c_4]] [] [R33 a1.2.1 A1 c_1,R9 a1.2.2.1 A2 c_2,Xl a1.2.2.2.1 A3 c_3,Xk a1.2.2.2.2 A4 c_4] (fun v l=>v=.tuple #[.int .u32 r.1,.int .i64 r.2]∧l=[]):=by
 refine Zo Tryz.func39 fun w0 F0 h0=>?_
 unfold Q93.f at H
 refine J.seq (J.region ?_)
 refine Ze (Ye h0) ?_
 rintro _ w1 ⟨b1,rfl,h1⟩
 replace h1:=nf h1
 refine Zi [0,3] rfl ?_
 refine J.seq (J.seq (J.region ?_))
 refine Zh 1 ?_
 obtain ⟨r1,q1,H⟩:=Zn H
 refine Ze (Zf [] (Q99.spec q1) h1 rfl Zs) ?_
 rintro _ w2 ⟨_,⟨rfl,rfl⟩,h2⟩
 replace h2:=nf h2
 refine Zi [0,3,6] rfl ?_
 refine J.seq (Zc [0,3,6,14] ?_)
 refine jIf H (fun c1 H=>?_) fun c1 H=>?_
 ·refine J.seq (Zc [4,5] ?_)
  refine J.ret ?_
  cases H
  exact ⟨_,_,_,Za,⟨rfl,rfl⟩,Zb h2 []⟩
 refine J.skip (J.seq ?_)
 exact nomatch H

def Q95.f (a1:Int) (a2:Int×List (Int)×List (List UInt8)×(List (List UInt8×Bool×List UInt8))×(List (List UInt8×List UInt8))):Option (Int):=(Q101.f a1).bind fun r1=>(if (!decide (r1=0))=true then (some r1) else (none))
theorem Q95.spec {a1:Int} {a2:Int×List (Int)×List (List UInt8)×(List (List UInt8×Bool×List UInt8))×(List (List UInt8×List UInt8))} {A1:Option Addr} {c_1:Nat} {A2:Option Addr} {c_2:Nat} {A3:Option Addr} {c_3:Nat} {A4:Option Addr} {c_4:Nat} {r:Int} (H:Q95.f a1 a2=some r) :
  Spec Tryz.prog 40 [.pointer none,.int .u32 a1,.agg #[.int .i64 a2.1,.slice A1 a2.2.1.length c_1,.slice A2 a2.2.2.1.length c_2,.slice A3 a2.2.2.2.1.length c_3,.slice A4 a2.2.2.2.2.length c_4]] [] [R33 a2.2.1 A1 c_1,R9 a2.2.2.1 A2 c_2,Xl a2.2.2.2.1 A3 c_3,Xk a2.2.2.2.2 A4 c_4] (fun v l=>v=.int .i64 r∧l=[]):=by
 refine Zo Tryz.func40 fun w0 F0 h0=>?_
 unfold Q95.f at H
 refine J.seq (J.region ?_)
 refine Ze (Ye h0) ?_
 rintro _ w1 ⟨b1,rfl,h1⟩
 replace h1:=nf h1
 refine Zi [0,1,5] rfl ?_
 refine J.seq (J.seq (J.region ?_))
 refine Zh 2 ?_
 obtain ⟨r1,q1,H⟩:=Zn H
 refine Ze (Zf [] (Q101.spec q1) h1 rfl Zs) ?_
 rintro _ w2 ⟨_,⟨rfl,rfl⟩,h2⟩
 replace h2:=nf h2
 refine Zi [0,1,5,7] rfl ?_
 refine J.seq (Zc [0,1,5,7,14] ?_)
 refine jIf H (fun c1 H=>?_) fun c1 H=>?_
 ·refine J.seq (Zc [6] ?_)
  refine J.ret ?_
  cases H
  exact ⟨_,_,_,Za,⟨rfl,rfl⟩,Zb h2 []⟩
 refine J.skip (J.seq ?_)
 exact nomatch H

def Q83.f (a1:Int):Option (Int):=(Q101.f a1).bind fun r1=>(if (!decide (r1=0))=true then (some r1) else (none))
theorem Q83.spec {a1:Int}  {r:Int} (H:Q83.f a1=some r) :
  Spec Tryz.prog 41 [.pointer none,.int .u32 a1] [] [] (fun v l=>v=.int .i64 r∧l=[]):=by
 refine Zo Tryz.func41 fun w0 F0 h0=>?_
 unfold Q83.f at H
 refine J.seq (Zc [0,1] ?_)
 refine J.seq (J.seq (J.region ?_))
 refine Zh 2 ?_
 obtain ⟨r1,q1,H⟩:=Zn H
 refine Ze (Zf [] (Q101.spec q1) h0 rfl Zs) ?_
 rintro _ w1 ⟨_,⟨rfl,rfl⟩,h1⟩
 replace h1:=nf h1
 refine Zi [0,1,5] rfl ?_
 refine J.seq (Zc [0,1,5,11] ?_)
 refine jIf H (fun c1 H=>?_) fun c1 H=>?_
 ·refine J.seq (Zc [4] ?_)
  refine J.ret ?_
  cases H
  exact ⟨_,_,_,Za,⟨rfl,rfl⟩,Zb h1 []⟩
 refine J.skip (J.seq (J.seq ?_))
 exact nomatch H

def Q94.f (a1:Int):Option (Int):=(Q101.f a1).bind fun r1=>(if (!decide (r1=0))=true then (some r1) else (none))
theorem Q94.spec {a1:Int}  {r:Int} (H:Q94.f a1=some r) :
  Spec Tryz.prog 42 [.pointer none,.int .u32 a1] [] [] (fun v l=>v=.int .i64 r∧l=[]):=by
 refine Zo Tryz.func42 fun w0 F0 h0=>?_
 unfold Q94.f at H
 refine J.seq (Zc [0,1] ?_)
 refine J.seq (J.seq (J.region ?_))
 refine Zh 2 ?_
 obtain ⟨r1,q1,H⟩:=Zn H
 refine Ze (Zf [] (Q101.spec q1) h0 rfl Zs) ?_
 rintro _ w1 ⟨_,⟨rfl,rfl⟩,h1⟩
 replace h1:=nf h1
 refine Zi [0,1,5] rfl ?_
 refine J.seq (Zc [0,1,5,10] ?_)
 refine jIf H (fun c1 H=>?_) fun c1 H=>?_
 ·refine J.seq (Zc [4] ?_)
  refine J.ret ?_
  cases H
  exact ⟨_,_,_,Za,⟨rfl,rfl⟩,Zb h1 []⟩
 refine J.skip (J.seq ?_)
 exact nomatch H

def Q87.f (a1:Int):Option (Int):=if (!decide (a1=0))=true then ((Q101.f a1).bind fun r1=>(if (!decide (r1=0))=true then (some r1) else ((Q99.f).bind fun r2=>(if (!decide (r2=0))=true then (some r2) else (none))))) else ((Q99.f).bind fun r3=>(if (!decide (r3=0))=true then (some r3) else (none)))
theorem Q87.spec {a1:Int}  {r:Int} (H:Q87.f a1=some r) :
  Spec Tryz.prog 43 [.pointer none,.int .u32 a1] [] [] (fun v l=>v=.int .i64 r∧l=[]):=by
 refine Zo Tryz.func43 fun w0 F0 h0=>?_
 unfold Q87.f at H
 refine J.seq (Zc [0,1] ?_)
 refine J.seq (J.seq (Zc [0,1,9] ?_))
 refine jIf H (fun c1 H=>?_) fun c1 H=>?_
 ·refine J.seq (J.region ?_)
  refine Zh 2 ?_
  obtain ⟨r1,q1,H⟩:=Zn H
  refine Ze (Zf [] (Q101.spec q1) h0 rfl Zs) ?_
  rintro _ w1 ⟨_,⟨rfl,rfl⟩,h1⟩
  replace h1:=nf h1
  refine Zi [0,1,5] rfl ?_
  refine J.seq (Zc [0,1,5,14] ?_)
  refine jIf H (fun c2 H=>?_) fun c2 H=>?_
  ·refine J.seq (Zc [4] ?_)
   refine J.ret ?_
   cases H
   exact ⟨_,_,_,Za,⟨rfl,rfl⟩,Zb h1 []⟩
  refine J.skip (J.seq (J.seq (J.region ?_)))
  refine Zh 1 ?_
  obtain ⟨r2,q2,H⟩:=Zn H
  refine Ze (Zf [] (Q99.spec q2) h1 rfl Zs) ?_
  rintro _ w2 ⟨_,⟨rfl,rfl⟩,h2⟩
  replace h2:=nf h2
  refine Zi [0,1,6] rfl ?_
  refine J.seq (J.region ?_)
  refine Zh 3 ?_
  refine Z7 20 H (fun c3 H=>?_) fun c3 H=>?_
  ·refine Zi [0,1,6,27] rfl ?_
   refine Zp ?_
   refine J.seq (Zc [4] ?_)
   refine J.ret ?_
   cases H
   exact ⟨_,_,_,Za,⟨rfl,rfl⟩,Zb h2 []⟩
  exact nomatch H
 refine J.skip (J.seq (J.seq (J.region ?_)))
 refine Zh 1 ?_
 obtain ⟨r3,q3,H⟩:=Zn H
 refine Ze (Zf [] (Q99.spec q3) h0 rfl Zs) ?_
 rintro _ w3 ⟨_,⟨rfl,rfl⟩,h3⟩
 replace h3:=nf h3
 refine Zi [0,1,6] rfl ?_
 refine J.seq (J.region ?_)
 refine Zh 3 ?_
 refine Z7 20 H (fun c4 H=>?_) fun c4 H=>?_
 ·refine Zi [0,1,6,27] rfl ?_
  refine Zp ?_
  refine J.seq (Zc [4] ?_)
  refine J.ret ?_
  cases H
  exact ⟨_,_,_,Za,⟨rfl,rfl⟩,Zb h3 []⟩
 exact nomatch H

def Q82.f:Option (Int):=(Q99.f).bind fun r1=>(if (!decide (r1=0))=true then (some r1) else (none))
theorem Q82.spec   {r:Int} (H:Q82.f=some r) :
  Spec Tryz.prog 19 [.pointer none] [] [] (fun v l=>v=.int .i64 r∧l=[]):=by
 refine Zo Tryz.func19 fun w0 F0 h0=>?_
 unfold Q82.f at H
 refine J.seq (Zc [0] ?_)
 refine J.seq (J.seq (J.region ?_))
 refine Zh 1 ?_
 obtain ⟨r1,q1,H⟩:=Zn H
 refine Ze (Zf [] (Q99.spec q1) h0 rfl Zs) ?_
 rintro _ w1 ⟨_,⟨rfl,rfl⟩,h1⟩
 replace h1:=nf h1
 refine Zi [0,3] rfl ?_
 refine J.seq (Zc [0,3,7] ?_)
 refine jIf H (fun c1 H=>?_) fun c1 H=>?_
 ·refine J.seq (Zc [2] ?_)
  refine J.ret ?_
  cases H
  exact ⟨_,_,_,Za,⟨rfl,rfl⟩,Zb h1 []⟩
 refine J.skip (J.seq ?_)
 exact nomatch H

def Q81.f:Option ((Int×Int×Int×Int×Int×Int×Int×Int)):=some (0,0,0,0,0,0,0,0)
theorem Q81.spec   {r:(Int×Int×Int×Int×Int×Int×Int×Int)} (H:Q81.f=some r) :
  Spec Tryz.prog 32 [.pointer none] [] [] (fun v l=>v=.agg #[.int .i64 r.1,.int .i64 r.2.1,.int .i64 r.2.2.1,.int .i64 r.2.2.2.1,.int .i64 r.2.2.2.2.1,.int .i64 r.2.2.2.2.2.1,.int .i64 r.2.2.2.2.2.2.1,.int .i64 r.2.2.2.2.2.2.2]∧l=[]):=by
 refine Zo Tryz.func32 fun w0 F0 h0=>?_
 unfold Q81.f at H
 refine J.seq (J.region ?_)
 refine Ze (Yq h0) ?_
 rintro _ w1 ⟨b1,rfl,h1⟩
 replace h1:=nf h1
 refine Zi [0,2] rfl ?_
 refine J.seq (J.seq (Zc [0,2,4] ?_))
 refine Zp ?_
 refine J.seq (J.region ?_)
 refine Zh 1 ?_
 refine Ze (Z3 0 h1) ?_
 intro _ w2 h2
 replace h2:=nf h2
 refine Zi [2] rfl ?_
 refine J.ret ?_
 cases H
 exact ⟨_,_,_,(Yf rfl (Ym (RV.cell Yu 0 h2 rfl rfl rfl rfl) Xb) rfl),⟨rfl,rfl⟩,Zb h2 []⟩

def Q89.f:Option (Int):=some 0
theorem Q89.spec   {r:Int} (H:Q89.f=some r) :
  Spec Tryz.prog 26 [.pointer none] [] [] (fun v l=>v=.int .i64 r∧l=[]):=by
 refine Zo Tryz.func26 fun w0 F0 h0=>?_
 unfold Q89.f at H
 refine J.seq (Zc [0] ?_)
 refine J.seq (J.seq (Zc [0,4] ?_))
 refine Zp ?_
 refine J.seq (Zc [2] ?_)
 refine J.ret ?_
 cases H
 exact ⟨_,_,_,Za,⟨rfl,rfl⟩,Zb h0 []⟩

def Q85.f (a1:Int):Option (Bool):=some false
theorem Q85.spec {a1:Int}  {r:Bool} (H:Q85.f a1=some r) :
  Spec Tryz.prog 31 [.pointer none,.int .u32 a1] [] [] (fun v l=>v=.bool r∧l=[]):=by
 refine Zo Tryz.func31 fun w0 F0 h0=>?_
 unfold Q85.f at H
 refine J.seq (Zc [0,1] ?_)
 refine J.seq (Zc [4] ?_)
 refine J.ret ?_
 cases H
 exact ⟨_,_,_,Za,⟨rfl,rfl⟩,Zb h0 []⟩

def Q86.f:Option (List (Int)):=some ([]:List (Int))
theorem Q86.spec   {r:List (Int)} (H:Q86.f=some r) :
  Spec Tryz.prog 29 [.pointer none] [] [] (fun v l=>∃(A_0:Option Addr) (c_0:Nat),v=.slice A_0 r.length c_0∧l=[O33 r A_0 c_0]):=by
 refine Zo Tryz.func29 fun w0 F0 h0=>?_
 unfold Q86.f at H
 refine J.seq (Zc [0] ?_)
 refine J.seq (J.seq (Zc [0,4] ?_))
 refine Zp ?_
 refine J.seq (Zc [2] ?_)
 refine J.ret ?_
 have h1:=h0.addNil 33 (.int .u32)
 cases H
 exact ⟨_,_,_,Za,⟨_,_,rfl,rfl⟩,Zb h1 [0]⟩

def Q96.f:Option ((Int×Int)):=some (0,0)
theorem Q96.spec   {r:(Int×Int)} (H:Q96.f=some r) :
  Spec Tryz.prog 33 [.pointer none] [] [] (fun v l=>v=.agg #[.int .u64 r.1,.int .u64 r.2]∧l=[]):=by
 refine Zo Tryz.func33 fun w0 F0 h0=>?_
 unfold Q96.f at H
 refine J.seq (J.region ?_)
 refine Ze (Yq h0) ?_
 rintro _ w1 ⟨b1,rfl,h1⟩
 replace h1:=nf h1
 refine Zi [0,2] rfl ?_
 refine J.seq (J.seq (Zc [0,2,4] ?_))
 refine Zp ?_
 refine J.seq (J.region ?_)
 refine Zh 1 ?_
 refine Ze (Z3 0 h1) ?_
 intro _ w2 h2
 replace h2:=nf h2
 refine Zi [2] rfl ?_
 refine J.ret ?_
 cases H
 exact ⟨_,_,_,(Yf rfl (Ym (RV.cell Yu 0 h2 rfl rfl rfl rfl) Xb) rfl),⟨rfl,rfl⟩,Zb h2 []⟩

def Q79.f:Option (Bool):=some true
theorem Q79.spec   {r:Bool} (H:Q79.f=some r) :
  Spec Tryz.prog 130 [.pointer none] [] [] (fun v l=>v=.bool r∧l=[]):=by
 refine Zo Tryz.func130 fun w0 F0 h0=>?_
 unfold Q79.f at H
 refine J.seq (Zc [0] ?_)
 refine J.seq (Zc [2] ?_)
 refine J.ret ?_
 cases H
 exact ⟨_,_,_,Za,⟨rfl,rfl⟩,Zb h0 []⟩

def Q71.f:Option (Int):=(Q79.f).bind fun r1=>(if r1=true then (some 0) else (none))
theorem Q71.spec   {r:Int} (H:Q71.f=some r) :
  Spec Tryz.prog 81 [.pointer none] [] [] (fun v l=>v=.int .i64 r∧l=[]):=by
 refine Zo Tryz.func81 fun w0 F0 h0=>?_
 unfold Q71.f at H
 refine J.seq (Zc [0] ?_)
 refine J.seq (J.seq (J.region ?_))
 refine Zh 1 ?_
 obtain ⟨r1,q1,H⟩:=Zn H
 refine Ze (Zf [] (Q79.spec q1) h0 rfl Zs) ?_
 rintro _ w1 ⟨_,⟨rfl,rfl⟩,h1⟩
 replace h1:=nf h1
 refine Zi [0,4] rfl ?_
 refine jIf H (fun c1 H=>?_) fun c1 H=>?_
 ·refine J.seq (Zc [2] ?_)
  refine J.ret ?_
  cases H
  exact ⟨_,_,_,Za,⟨rfl,rfl⟩,Zb h1 []⟩
 refine J.skip (J.seq ?_)
 exact nomatch H

def Q75.f (a1:Int):Option (Bool):=(Q79.f).bind fun r1=>(if (!r1)=true then (none) else (some false))
theorem Q75.spec {a1:Int}  {r:Bool} (H:Q75.f a1=some r) :
  Spec Tryz.prog 83 [.pointer none,.int .u32 a1] [] [] (fun v l=>v=.bool r∧l=[]):=by
 refine Zo Tryz.func83 fun w0 F0 h0=>?_
 unfold Q75.f at H
 refine J.seq (Zc [0,1] ?_)
 refine J.seq (J.region ?_)
 refine Zh 1 ?_
 obtain ⟨r1,q1,H⟩:=Zn H
 refine Ze (Zf [] (Q79.spec q1) h0 rfl Zs) ?_
 rintro _ w1 ⟨_,⟨rfl,rfl⟩,h1⟩
 replace h1:=nf h1
 refine Zh 2 ?_
 refine Z7 8 H (fun c1 H=>?_) fun c1 H=>?_
 ·exact nomatch H
 refine Zi [4] rfl ?_
 refine J.ret ?_
 cases H
 exact ⟨_,_,_,Za,⟨rfl,rfl⟩,Zb h1 []⟩

def Q76.f:Option (List (Int)):=(Q79.f).bind fun r1=>(if r1=true then (some ([]:List (Int))) else (none))
theorem Q76.spec   {r:List (Int)} (H:Q76.f=some r) :
  Spec Tryz.prog 82 [.pointer none] [] [] (fun v l=>∃(A_0:Option Addr) (c_0:Nat),v=.slice A_0 r.length c_0∧l=[O33 r A_0 c_0]):=by
 refine Zo Tryz.func82 fun w0 F0 h0=>?_
 unfold Q76.f at H
 refine J.seq (Zc [0] ?_)
 refine J.seq (J.seq (J.region ?_))
 refine Zh 1 ?_
 obtain ⟨r1,q1,H⟩:=Zn H
 refine Ze (Zf [] (Q79.spec q1) h0 rfl Zs) ?_
 rintro _ w1 ⟨_,⟨rfl,rfl⟩,h1⟩
 replace h1:=nf h1
 refine Zi [0,7] rfl ?_
 refine jIf H (fun c1 H=>?_) fun c1 H=>?_
 ·refine J.seq (Zc [2] ?_)
  refine J.ret ?_
  have h2:=h1.addNil 33 (.int .u32)
  cases H
  exact ⟨_,_,_,Za,⟨_,_,rfl,rfl⟩,Zb h2 [0]⟩
 refine J.skip (J.seq (Zc [0,3] ?_))
 refine J.seq (J.seq ?_)
 exact nomatch H

def Q133.l1:Nat→Option (Bool)
 | 0=>none
 | k+1=>(Q134.f k).bind fun r1=>(some r1)
def Q133.l0:Nat→(Int)→(Int×List (Int)×List (List UInt8)×(List (List UInt8×Bool×List UInt8))×(List (List UInt8×List UInt8)))→Option (Bool)
 | 0,_,_=>none
 | k+1,a3,a4=>(Q91.f a3).bind fun r2=>((Q93.f a4).bind fun r3=>(if (!decide (r2.2=1))=true then (some false) else (if (!decide (r3.2=1))=true then (some false) else ((Q95.f a3 a4).bind fun r4=>(if (!decide (r4=1))=true then (some false) else ((Q83.f a3).bind fun r5=>(if (!decide (r5=1))=true then (some false) else ((Q94.f a3).bind fun r6=>(if (!decide (r6=1))=true then (some false) else ((Q87.f a3).bind fun r7=>(if (!decide (r7=1))=true then (some false) else ((Q82.f).bind fun r8=>(if (!decide (r8=1))=true then (some false) else ((Q81.f).bind fun r9=>(if (!((decide (r9.1=0)) && ((decide (r9.2.1=0)) && ((decide (r9.2.2.1=0)) && ((decide (r9.2.2.2.1=0)) && ((decide (r9.2.2.2.2.1=0)) && ((decide (r9.2.2.2.2.2.1=0)) && ((decide (r9.2.2.2.2.2.2.1=0)) && ((decide (r9.2.2.2.2.2.2.2=0)) && true)))))))))=true then (some false) else ((Q89.f).bind fun r10=>(if (!decide (r10=0))=true then (some false) else ((Q85.f a3).bind fun r11=>(if r11=true then (some false) else ((Q86.f).bind fun r12=>(if (!decide ((r12.length:Int)=0))=true then (some false) else ((Q96.f).bind fun r13=>(if (!((decide (r13.1=0)) && ((decide (r13.2=0)) && true)))=true then (some false) else (if (!decide (a3=0))=true then (if (!((decide ((0:Int)=0)) && ((decide ((0:Int)=0)) && ((decide ((0:Int)=0)) && ((decide ((0:Int)=0)) && ((decide ((0:Int)=0)) && ((decide ((0:Int)=0)) && ((decide ((0:Int)=0)) && ((decide ((0:Int)=0)) && true)))))))))=true then (some false) else ((Q71.f).bind fun r14=>(if (!decide (r14=0))=true then (some false) else ((Q75.f a3).bind fun r15=>(if r15=true then (some false) else ((Q76.f).bind fun r16=>(if (!decide ((r16.length:Int)=0))=true then (some false) else (if (!((decide ((0:Int)=0)) && ((decide ((0:Int)=0)) && true)))=true then (some false) else (Q133.l1 k))))))))) else (if (!((decide ((0:Int)=0)) && ((decide ((0:Int)=0)) && ((decide ((0:Int)=0)) && ((decide ((0:Int)=0)) && ((decide ((0:Int)=0)) && ((decide ((0:Int)=0)) && ((decide ((0:Int)=0)) && ((decide ((0:Int)=0)) && true)))))))))=true then (some false) else ((Q71.f).bind fun r17=>(if (!decide (r17=0))=true then (some false) else ((Q75.f a3).bind fun r18=>(if r18=true then (some false) else ((Q76.f).bind fun r19=>(if (!decide ((r19.length:Int)=0))=true then (some false) else (if (!((decide ((0:Int)=0)) && ((decide ((0:Int)=0)) && true)))=true then (some false) else (Q133.l1 k)))))))))))))))))))))))))))))))))
def Q133.l2:Nat→(Int×Int×Int×Int×Int×Int×Int×Int)→(Int)→(Int×List (Int)×List (List UInt8)×(List (List UInt8×Bool×List UInt8))×(List (List UInt8×List UInt8)))→(Int×List (Int)×(Int×Int))→(List (Int))→(Int)→Option (Bool)
 | 0,_,_,_,_,_,_=>none
 | k+1,a0,a3,a4,r23,x1,x2=>if (decide (x2<a0.2.2.1))=true then (if (x1.length+([x2]:List (Int)).length)*8≤140737488355328 then (Q133.l2 k a0 a3 a4 r23 (x1 ++ ([x2]:List (Int))) (w64 (x2+1))) else none) else ((Q50.f r23).bind fun r63=>(if (!decide (r63=a0.1))=true then ((Q80.f a0).bind fun r64=>(Y4 r64.1 (if (!decide (r64.2=0))=true then ((Q138.f k a0).bind fun r66=>(if (!r66)=true then (some false) else (if (!decide (r64.2=1))=true then (some false) else (if (!(false == false))=true then (some false) else ((Q50.f r23).bind fun r67=>(if (decide (r67=a0.1))=true then ((Q51.f r23).bind fun r68=>(if (!(false == (decide (r68=a0.2.1))))=true then (some false) else (Q133.l0 k a3 a4))) else (Q133.l0 k a3 a4))))))) else none) (fun r65=>(if (!decide (r64.2=0))=false then (some false) else none)))) else ((Q51.f r23).bind fun r69=>(if (!decide (r69=a0.2.1))=true then ((Q80.f a0).bind fun r70=>(Y4 r70.1 (if (!decide (r70.2=0))=true then ((Q138.f k a0).bind fun r72=>(if (!r72)=true then (some false) else (if (!decide (r70.2=1))=true then (some false) else (if (!(false == false))=true then (some false) else ((Q50.f r23).bind fun r73=>(if (decide (r73=a0.1))=true then ((Q51.f r23).bind fun r74=>(if (!(false == (decide (r74=a0.2.1))))=true then (some false) else (Q133.l0 k a3 a4))) else (Q133.l0 k a3 a4))))))) else none) (fun r71=>(if (!decide (r70.2=0))=false then (some false) else none)))) else ((Q69.f a0.1).bind fun r75=>(Y4 r75.1 (if (!decide (r75.2=0))=true then ((Q80.f a0).bind fun r77=>(Y4 r77.1 (if (!decide (r77.2=0))=true then ((Q138.f k a0).bind fun r79=>(if (!r79)=true then (if (decide (r75.2=2))=true then (if (decide (r77.2=2))=true then ((Q134.f k).bind fun r80=>(some r80)) else (some false)) else (some false)) else (if (!decide (r77.2=1))=true then (some false) else (if (!(false == (decide (r75.2=0))))=true then (some false) else ((Q50.f r23).bind fun r81=>(if (decide (r81=a0.1))=true then ((Q51.f r23).bind fun r82=>(if (!((decide (r75.2=0)) == (decide (r82=a0.2.1))))=true then (some false) else (if (!decide (r75.2=3))=true then (some false) else (Q133.l0 k a3 a4)))) else (if (!((decide (r75.2=0)) == false))=true then (some false) else (if (!decide (r75.2=3))=true then (some false) else (Q133.l0 k a3 a4))))))))) else none) (fun r78=>(if (!decide (r77.2=0))=false then (some false) else none)))) else none) (fun r76=>(if (!decide (r75.2=0))=false then ((Q80.f a0).bind fun r83=>(Y4 r83.1 (if (!decide (r83.2=0))=true then ((Q138.f k a0).bind fun r85=>(if (!r85)=true then (some false) else (if (!decide (r83.2=1))=true then (some false) else (if (!(true == true))=true then (some false) else ((Q50.f r23).bind fun r86=>(if (decide (r86=a0.1))=true then ((Q51.f r23).bind fun r87=>(if (!(true == (decide (r87=a0.2.1))))=true then (some false) else (Q133.l0 k a3 a4))) else (if (!(true == false))=true then (some false) else (Q133.l0 k a3 a4)))))))) else none) (fun r84=>(if (!decide (r83.2=0))=false then (some false) else none)))) else none))))))))
def Q133.f (k:Nat) (a0:Int×Int×Int×Int×Int×Int×Int×Int) (a1:Int) (a2:Int) (a3:Int) (a4:Int×List (Int)×List (List UInt8)×(List (List UInt8×Bool×List UInt8))×(List (List UInt8×List UInt8))):Option (Bool):=(Q132.f k a4).bind fun r20=>(if r20=true then ((Q134.f k).bind fun r21=>(some r21)) else ((Q54.f (w64 (5+(Int.tmod (w64 (a1)) 20))) (w64 (1+(w64 (a2))))).bind fun r22=>(Y4 r22.1 (if (!decide (r22.2=0))=true then ((Q80.f a0).bind fun r24=>(Y4 r24.1 (if (!decide (r24.2=0))=true then ((Q80.f a0).bind fun r26=>(Y4 r26.1 (if (!decide (r26.2=0))=true then (some false) else none) (fun r27=>(if (!decide (r26.2=0))=false then (some false) else none)))) else none) (fun r25=>(if (!decide (r24.2=0))=false then ((Q80.f a0).bind fun r28=>(Y4 r28.1 (if (!decide (r28.2=0))=true then (some false) else none) (fun r29=>(if (!decide (r28.2=0))=false then (some false) else none)))) else none)))) else none) (fun r23=>(if (!decide (r22.2=0))=false then ((Q45.f a0).bind fun r30=>(if (!decide (r30=0))=true then ((Q80.f a0).bind fun r31=>(Y4 r31.1 (if (!decide (r31.2=0))=true then ((Q138.f k a0).bind fun r33=>(if (!r33)=true then (if (decide (r30=2))=true then (if (decide (r31.2=2))=true then ((Q134.f k).bind fun r34=>(some r34)) else (some false)) else (some false)) else (if (!decide (r31.2=1))=true then (some false) else (if (!(false == (decide (r30=0))))=true then (some false) else ((Q50.f r23).bind fun r35=>(if (decide (r35=a0.1))=true then ((Q51.f r23).bind fun r36=>(if (!((decide (r30=0)) == (decide (r36=a0.2.1))))=true then (some false) else (if (!decide (r30=3))=true then (some false) else (Q133.l0 k a3 a4)))) else (if (!((decide (r30=0)) == false))=true then (some false) else (if (!decide (r30=3))=true then (some false) else (Q133.l0 k a3 a4))))))))) else none) (fun r32=>(if (!decide (r31.2=0))=false then (some false) else none)))) else ((Q50.f r23).bind fun r37=>(if (decide (r37=0))=true then ((Q80.f a0).bind fun r38=>(Y4 r38.1 (if (!decide (r38.2=0))=true then ((Q138.f k a0).bind fun r40=>(if (!r40)=true then (some false) else (if (!decide (r38.2=1))=true then (some false) else (if (!(false == false))=true then (some false) else ((Q50.f r23).bind fun r41=>(if (decide (r41=a0.1))=true then ((Q51.f r23).bind fun r42=>(if (!(false == (decide (r42=a0.2.1))))=true then (some false) else (some false))) else (some false))))))) else none) (fun r39=>(if (!decide (r38.2=0))=false then (some false) else none)))) else (if (decide (a0.2.2.1<1))=true then ((Q80.f a0).bind fun r43=>(Y4 r43.1 (if (!decide (r43.2=0))=true then ((Q138.f k a0).bind fun r45=>(if (!r45)=true then (if (decide (r43.2=2))=true then ((Q134.f k).bind fun r46=>(some r46)) else (some false)) else (if (!decide (r43.2=1))=true then (some false) else (if (!(false == false))=true then (some false) else ((Q50.f r23).bind fun r47=>(if (decide (r47=a0.1))=true then ((Q51.f r23).bind fun r48=>(if (!(false == (decide (r48=a0.2.1))))=true then (some false) else (some false))) else (some false))))))) else none) (fun r44=>(if (!decide (r43.2=0))=false then (some false) else none)))) else (if (decide (64<a0.2.2.1))=true then ((Q80.f a0).bind fun r49=>(Y4 r49.1 (if (!decide (r49.2=0))=true then ((Q138.f k a0).bind fun r51=>(if (!r51)=true then (if (decide (r49.2=2))=true then ((Q134.f k).bind fun r52=>(some r52)) else (some false)) else (if (!decide (r49.2=1))=true then (some false) else (if (!(false == false))=true then (some false) else ((Q50.f r23).bind fun r53=>(if (decide (r53=a0.1))=true then ((Q51.f r23).bind fun r54=>(if (!(false == (decide (r54=a0.2.1))))=true then (some false) else (some false))) else (some false))))))) else none) (fun r50=>(if (!decide (r49.2=0))=false then (some false) else none)))) else ((Q31.f a0.2.2.1).bind fun r55=>(Y4 r55.1 (if (!decide (r55.2=0))=true then ((Q80.f a0).bind fun r57=>(Y4 r57.1 (if (!decide (r57.2=0))=true then ((Q138.f k a0).bind fun r59=>(if (!r59)=true then (if (decide (r55.2=2))=true then (if (decide (r57.2=2))=true then ((Q134.f k).bind fun r60=>(some r60)) else (some false)) else (some false)) else (if (!decide (r57.2=1))=true then (some false) else (if (!(false == (decide (r55.2=0))))=true then (some false) else ((Q50.f r23).bind fun r61=>(if (decide (r61=a0.1))=true then ((Q51.f r23).bind fun r62=>(if (!((decide (r55.2=0)) == (decide (r62=a0.2.1))))=true then (some false) else (if (!decide (r55.2=3))=true then (some false) else (Q133.l0 k a3 a4)))) else (if (!((decide (r55.2=0)) == false))=true then (some false) else (if (!decide (r55.2=3))=true then (some false) else (Q133.l0 k a3 a4))))))))) else none) (fun r58=>(if (!decide (r57.2=0))=false then (some false) else none)))) else none) (fun r56=>(if (!decide (r55.2=0))=false then (if 0≤a0.2.2.1∧a0.2.2.1*48≤281474976710656 then (Q133.l2 k a0 a3 a4 r23 ([]:List (Int)) 0) else none) else none)))))))))) else none)))))
theorem Q133.spec {k:Nat} {a0:Int×Int×Int×Int×Int×Int×Int×Int} {a1:Int} {a2:Int} {a3:Int} {a4:Int×List (Int)×List (List UInt8)×(List (List UInt8×Bool×List UInt8))×(List (List UInt8×List UInt8))} {A1:Option Addr} {c_1:Nat} {A2:Option Addr} {c_2:Nat} {A3:Option Addr} {c_3:Nat} {A4:Option Addr} {c_4:Nat} {r:Bool} (H:Q133.f k a0 a1 a2 a3 a4=some r) :
  Spec Tryz.prog 6 [.agg #[.int .i64 a0.1,.int .i64 a0.2.1,.int .i64 a0.2.2.1,.int .i64 a0.2.2.2.1,.int .i64 a0.2.2.2.2.1,.int .i64 a0.2.2.2.2.2.1,.int .i64 a0.2.2.2.2.2.2.1,.int .i64 a0.2.2.2.2.2.2.2],.int .u8 a1,.int .u8 a2,.int .u32 a3,.agg #[.int .i64 a4.1,.slice A1 a4.2.1.length c_1,.slice A2 a4.2.2.1.length c_2,.slice A3 a4.2.2.2.1.length c_3,.slice A4 a4.2.2.2.2.length c_4]] [] [R33 a4.2.1 A1 c_1,R9 a4.2.2.1 A2 c_2,Xl a4.2.2.2.1 A3 c_3,Xk a4.2.2.2.2 A4 c_4,tabC 0] (fun v l=>v=.bool r∧l=[]):=by
 refine Zo Tryz.func6 fun w0 F0 h0=>?_
 unfold Q133.f at H
 refine J.cutH 7 (fun env w=>∃(k1:Nat) (b1:Nat),env=[(3,.int .u32 a3),(9,.pointer (some ⟨b1,0,none⟩))]∧St w0 F0 [X43 b1 a4.1 a4.2.1 A1 c_1 a4.2.2.1 A2 c_2 a4.2.2.2.1 A3 c_3 a4.2.2.2.2 A4 c_4] [R33 a4.2.1 A1 c_1,R9 a4.2.2.1 A2 c_2,Xl a4.2.2.2.1 A3 c_3,Xk a4.2.2.2.2 A4 c_4,tabC 0] w∧Q133.l0 k1 a3 a4=some r∧k1≤k) ?_ (fun ht=>?_)
 ·rintro env w2 ⟨k1,b1,rfl,h1,H,hk1⟩
  rcases k1 with _ | k1
  ·exact z0 H
  rw [Q133.l0] at H
  refine J.seq (Zc [3,9,17] ?_)
  refine J.seq (J.region ?_)
  refine Zh 2 ?_
  refine Ze (Ye h1) ?_
  rintro _ w3 ⟨b2,rfl,h2⟩
  replace h2:=nf h2
  refine Ze (Js ([.pointer none,.pointer (some ⟨b2,0,none⟩)]:List Value) h2) ?_
  rintro _ w4 ⟨b3,rfl,h3⟩
  replace h3:=nf h3
  refine Zi [3,9,18] rfl ?_
  refine J.seq (J.seq (Zc [3,9,18,19] ?_))
  refine J.midS (fun env w=>∃(k2:Nat),env=[(3,.int .u32 a3),(9,.pointer (some ⟨b1,0,none⟩)),(18,.slice (some ⟨b3,0,none⟩) ([.pointer none,.pointer (some ⟨b2,0,none⟩)]:List Value).length 2),(19,.int .i64 2),(113,.bool false)]∧St w0 F0 [X43 b1 a4.1 a4.2.1 A1 c_1 a4.2.2.1 A2 c_2 a4.2.2.2.1 A3 c_3 a4.2.2.2.2 A4 c_4,O27 ([.pointer none,.pointer (some ⟨b2,0,none⟩)]:List Value) (some ⟨b3,0,none⟩) 2] [R33 a4.2.1 A1 c_1,R9 a4.2.2.1 A2 c_2,Xl a4.2.2.2.1 A3 c_3,Xk a4.2.2.2.2 A4 c_4,tabC 0] w∧(Q133.l1 k2)=some r∧k2≤k1) ?_ ?_
  ·refine J.block (J.rounds 3 ?_)
   refine J.roundN ?_
   refine J.seq (J.seq (Zc [3,9,18,19,113] ?_))
   refine Zp ?_
   refine J.skip (J.seq (J.block (J.seq (J.region ?_))))
   refine Zh 2 ?_
   have e1:=Z6 h3.wh (gO 0) (by decide:(0:Int)≤0) (by exact (show (0:Int)<((2:Nat):Int) by decide))
   refine Zg (Zk e1 (by decide:(0:Int)≤0) (by exact (show (0:Int)<((2:Nat):Int) by decide))) ?_
   refine Zg (Zl 0 h3.wht (gO 0) (by decide:(0:Int)≤0) (by exact (show (0:Int)<((2:Nat):Int) by decide))) ?_
   refine Zi [3,9,18,19,20] rfl ?_
   refine J.seq (J.region ?_)
   refine Zh 2 ?_
   obtain ⟨r2,q2,H⟩:=Zn H
   refine Ze (Zf [] (Q91.spec q2) h3 rfl Zs) ?_
   rintro _ w8 ⟨_,⟨A5,c_5,A6,c_6,A7,c_7,A8,c_8,rfl,rfl⟩,h7⟩
   replace h7:=nf h7
   refine Zh 3 ?_
   refine Ze (Yq h7) ?_
   rintro _ w9 ⟨b4,rfl,h8⟩
   replace h8:=nf h8
   refine Ze (Z3 0 h8) ?_
   intro _ w10 h9
   replace h9:=nf h9
   refine Zi [3,9,18,19,20,22] rfl ?_
   have h10:=Zb h9 [5,5,5]
   replace h10:=nf h10
   refine J.seq (J.region ?_)
   refine Zh 1 ?_
   refine Zg (Zd 2 h10.wht) ?_
   obtain ⟨r3,q3,H⟩:=Zn H
   refine Ze (Zf [] (Q93.spec q3) h10 rfl (Z0 (Zm 3) (Z0 (Zm 4) (Z0 (Zm 5) (Z0 (Zm 6) Zs))))) ?_
   rintro _ w11 ⟨_,⟨rfl,rfl⟩,h11⟩
   replace h11:=nf h11
   refine Zi [3,9,18,19,20,22,24] rfl ?_
   refine J.seq (J.region ?_)
   refine Zh 3 ?_
   refine Z7 134 H (fun c1 H=>?_) fun c1 H=>?_
   ·refine Zi [3,9,18,19,195] rfl ?_
    refine Zp ?_
    refine J.seq (Zc [10] ?_)
    have h12:=Zb h11 []
    replace h12:=nf h12
    refine J.ret ?_
    cases H
    exact ⟨_,_,_,Za,⟨rfl,rfl⟩,Zb h12 []⟩
   refine Zh 4 ?_
   refine Z7 138 H (fun c2 H=>?_) fun c2 H=>?_
   ·refine Zi [3,9,18,19,195] rfl ?_
    refine Zp ?_
    refine J.seq (Zc [10] ?_)
    have h13:=Zb h11 []
    replace h13:=nf h13
    refine J.ret ?_
    cases H
    exact ⟨_,_,_,Za,⟨rfl,rfl⟩,Zb h13 []⟩
   refine Zh 2 ?_
   refine Zg (Zd 2 h11.wht) ?_
   obtain ⟨r4,q4,H⟩:=Zn H
   refine Ze (Zf [] (Q95.spec q4) h11 rfl (Z0 (Zm 3) (Z0 (Zm 4) (Z0 (Zm 5) (Z0 (Zm 6) Zs))))) ?_
   rintro _ w12 ⟨_,⟨rfl,rfl⟩,h14⟩
   replace h14:=nf h14
   refine Zh 3 ?_
   refine Z7 145 H (fun c3 H=>?_) fun c3 H=>?_
   ·refine Zi [3,9,18,19,195] rfl ?_
    refine Zp ?_
    refine J.seq (Zc [10] ?_)
    have h15:=Zb h14 []
    replace h15:=nf h15
    refine J.ret ?_
    cases H
    exact ⟨_,_,_,Za,⟨rfl,rfl⟩,Zb h15 []⟩
   refine Zh 2 ?_
   obtain ⟨r5,q5,H⟩:=Zn H
   refine Ze (Zf [] (Q83.spec q5) h14 rfl Zs) ?_
   rintro _ w13 ⟨_,⟨rfl,rfl⟩,h16⟩
   replace h16:=nf h16
   refine Zh 3 ?_
   refine Z7 151 H (fun c4 H=>?_) fun c4 H=>?_
   ·refine Zi [3,9,18,19,195] rfl ?_
    refine Zp ?_
    refine J.seq (Zc [10] ?_)
    have h17:=Zb h16 []
    replace h17:=nf h17
    refine J.ret ?_
    cases H
    exact ⟨_,_,_,Za,⟨rfl,rfl⟩,Zb h17 []⟩
   refine Zh 2 ?_
   obtain ⟨r6,q6,H⟩:=Zn H
   refine Ze (Zf [] (Q94.spec q6) h16 rfl Zs) ?_
   rintro _ w14 ⟨_,⟨rfl,rfl⟩,h18⟩
   replace h18:=nf h18
   refine Zh 3 ?_
   refine Z7 157 H (fun c5 H=>?_) fun c5 H=>?_
   ·refine Zi [3,9,18,19,195] rfl ?_
    refine Zp ?_
    refine J.seq (Zc [10] ?_)
    have h19:=Zb h18 []
    replace h19:=nf h19
    refine J.ret ?_
    cases H
    exact ⟨_,_,_,Za,⟨rfl,rfl⟩,Zb h19 []⟩
   refine Zh 2 ?_
   obtain ⟨r7,q7,H⟩:=Zn H
   refine Ze (Zf [] (Q87.spec q7) h18 rfl Zs) ?_
   rintro _ w15 ⟨_,⟨rfl,rfl⟩,h20⟩
   replace h20:=nf h20
   refine Zh 3 ?_
   refine Z7 163 H (fun c6 H=>?_) fun c6 H=>?_
   ·refine Zi [3,9,18,19,195] rfl ?_
    refine Zp ?_
    refine J.seq (Zc [10] ?_)
    have h21:=Zb h20 []
    replace h21:=nf h21
    refine J.ret ?_
    cases H
    exact ⟨_,_,_,Za,⟨rfl,rfl⟩,Zb h21 []⟩
   refine Zh 1 ?_
   obtain ⟨r8,q8,H⟩:=Zn H
   refine Ze (Zf [] (Q82.spec q8) h20 rfl Zs) ?_
   rintro _ w16 ⟨_,⟨rfl,rfl⟩,h22⟩
   replace h22:=nf h22
   refine Zh 3 ?_
   refine Z7 168 H (fun c7 H=>?_) fun c7 H=>?_
   ·refine Zi [3,9,18,19,195] rfl ?_
    refine Zp ?_
    refine J.seq (Zc [10] ?_)
    have h23:=Zb h22 []
    replace h23:=nf h23
    refine J.ret ?_
    cases H
    exact ⟨_,_,_,Za,⟨rfl,rfl⟩,Zb h23 []⟩
   refine Zh 1 ?_
   obtain ⟨r9,q9,H⟩:=Zn H
   refine Ze (Zf [] (Q81.spec q9) h22 rfl Zs) ?_
   rintro _ w17 ⟨_,⟨rfl,rfl⟩,h24⟩
   replace h24:=nf h24
   refine Zh 4 ?_
   refine Z7 174 H (fun c8 H=>?_) fun c8 H=>?_
   ·refine Zi [3,9,18,19,195] rfl ?_
    refine Zp ?_
    refine J.seq (Zc [10] ?_)
    have h25:=Zb h24 []
    replace h25:=nf h25
    refine J.ret ?_
    cases H
    exact ⟨_,_,_,Za,⟨rfl,rfl⟩,Zb h25 []⟩
   refine Zh 1 ?_
   obtain ⟨r10,q10,H⟩:=Zn H
   refine Ze (Zf [] (Q89.spec q10) h24 rfl Zs) ?_
   rintro _ w18 ⟨_,⟨rfl,rfl⟩,h26⟩
   replace h26:=nf h26
   refine Zh 3 ?_
   refine Z7 179 H (fun c9 H=>?_) fun c9 H=>?_
   ·refine Zi [3,9,18,19,195] rfl ?_
    refine Zp ?_
    refine J.seq (Zc [10] ?_)
    have h27:=Zb h26 []
    replace h27:=nf h27
    refine J.ret ?_
    cases H
    exact ⟨_,_,_,Za,⟨rfl,rfl⟩,Zb h27 []⟩
   refine Zh 2 ?_
   obtain ⟨r11,q11,H⟩:=Zn H
   refine Ze (Zf [] (Q85.spec q11) h26 rfl Zs) ?_
   rintro _ w19 ⟨_,⟨rfl,rfl⟩,h28⟩
   replace h28:=nf h28
   refine Zh 2 ?_
   refine Z7 184 H (fun c10 H=>?_) fun c10 H=>?_
   ·refine Zi [3,9,18,19,195] rfl ?_
    refine Zp ?_
    refine J.seq (Zc [10] ?_)
    have h29:=Zb h28 []
    replace h29:=nf h29
    refine J.ret ?_
    cases H
    exact ⟨_,_,_,Za,⟨rfl,rfl⟩,Zb h29 []⟩
   refine Zh 1 ?_
   obtain ⟨r12,q12,H⟩:=Zn H
   refine Ze (Zf [] (Q86.spec q12) h28 rfl Zs) ?_
   rintro _ w20 ⟨_,⟨A9,c_9,rfl,rfl⟩,h30⟩
   replace h30:=nf h30
   refine Zh 4 ?_
   refine Z7 190 H (fun c11 H=>?_) fun c11 H=>?_
   ·refine Zi [3,9,18,19,195] rfl ?_
    refine Zp ?_
    refine J.seq (Zc [10] ?_)
    have h31:=Zb h30 []
    replace h31:=nf h31
    refine J.ret ?_
    cases H
    exact ⟨_,_,_,Za,⟨rfl,rfl⟩,Zb h31 []⟩
   refine Zh 1 ?_
   obtain ⟨r13,q13,H⟩:=Zn H
   refine Ze (Zf [] (Q96.spec q13) h30 rfl Zs) ?_
   rintro _ w21 ⟨_,⟨rfl,rfl⟩,h32⟩
   replace h32:=nf h32
   refine Zi [3,9,18,19,195] rfl ?_
   refine jIf H (fun c12 H=>?_) fun c12 H=>?_
   ·refine J.seq (Zc [10] ?_)
    have h33:=Zb h32 []
    replace h33:=nf h33
    refine J.ret ?_
    cases H
    exact ⟨_,_,_,Za,⟨rfl,rfl⟩,Zb h33 []⟩
   refine J.skip (Zc [3,9,18,19] ?_)
   refine J.roundN ?_
   refine J.seq (J.seq (Zc [3,9,18,19,113] ?_))
   refine Zp ?_
   refine J.skip (J.seq (J.block (J.seq (J.region ?_))))
   refine Zh 2 ?_
   refine Zg (Zk e1 (by decide:(0:Int)≤1) (by exact (show (1:Int)<((2:Nat):Int) by decide))) ?_
   refine Zg (Zl 0 h32.wht (gO 1) (by decide:(0:Int)≤1) (by exact (show (1:Int)<((2:Nat):Int) by decide))) ?_
   refine Zi [3,9,18,19,20] rfl ?_
   refine J.seq (J.region ?_)
   refine Zh 2 ?_
   refine Z1 Tryz.func24 ?_
   refine J.seq (J.region ?_)
   refine Ze (Yq h32) ?_
   rintro _ w22 ⟨b5,rfl,h34⟩
   replace h34:=nf h34
   refine Zi [0,1,4] rfl ?_
   refine J.seq (J.seq (J.region ?_))
   refine Zh 2 ?_
   refine Z1 Tryz.func76 ?_
   refine J.seq (Zc [0,1] ?_)
   refine J.seq (J.block (J.seq (J.region ?_)))
   refine Zh 6 ?_
   refine Zg (Zd 3 h34.wht) ?_
   refine Zi [0,1,5] rfl ?_
   refine Zp ?_
   refine J.seq (Zc [4] ?_)
   refine J.ret (⟨_,Za,?_⟩)
   refine Zi [0,1,4,6] rfl ?_
   refine J.seq (Zc [0,1,4,6,14] ?_)
   refine Zp ?_
   refine J.seq (J.region ?_)
   refine Zh 2 ?_
   refine Ze (Z3 0 h34) ?_
   intro _ w23 h35
   replace h35:=nf h35
   refine Zi [4,5] rfl ?_
   refine J.ret (⟨_,Yf rfl (Ym (RV.cell Yu 0 h35 rfl rfl rfl rfl) (Ym (RV.tmp rfl) Xb)) rfl,?_⟩)
   refine Zh 3 ?_
   refine Ze (Yq h35) ?_
   rintro _ w24 ⟨b6,rfl,h36⟩
   replace h36:=nf h36
   refine Ze (Z3 0 h36) ?_
   intro _ w25 h37
   replace h37:=nf h37
   refine Zi [3,9,18,19,20,22] rfl ?_
   have h38:=Zb h37 [3,3,3]
   replace h38:=nf h38
   refine J.seq (J.region ?_)
   refine Zh 1 ?_
   refine Zg (Zd 2 h38.wht) ?_
   refine Z1 Tryz.func39 ?_
   refine J.seq (J.region ?_)
   refine Ze (Ye h38) ?_
   rintro _ w26 ⟨b7,rfl,h39⟩
   replace h39:=nf h39
   refine Zi [0,3] rfl ?_
   refine J.seq (J.seq (J.region ?_))
   refine Zh 1 ?_
   refine Z1 Tryz.func60 ?_
   refine J.seq (Zc [0] ?_)
   refine J.seq (J.seq (J.region ?_))
   refine Zh 6 ?_
   refine Zg (Zd 2 h39.wht) ?_
   refine Zi [11] rfl ?_
   refine Zp ?_
   refine J.seq (Zc [2] ?_)
   refine J.ret (⟨_,Za,?_⟩)
   refine Zi [0,3,6] rfl ?_
   refine J.seq (Zc [0,3,6,14] ?_)
   refine Zp ?_
   refine J.seq (Zc [4,5] ?_)
   refine J.ret (⟨_,Za,?_⟩)
   refine Zi [3,9,18,19,20,22,24] rfl ?_
   refine J.seq (J.region ?_)
   refine Zh 9 ?_
   refine Zg (Zd 3 h39.wht) ?_
   refine Z1 Tryz.func40 ?_
   refine J.seq (J.region ?_)
   refine Ze (Ye h39) ?_
   rintro _ w27 ⟨b8,rfl,h40⟩
   replace h40:=nf h40
   refine Zi [0,1,5] rfl ?_
   refine J.seq (J.seq (J.region ?_))
   refine Zh 2 ?_
   refine Z1 Tryz.func76 ?_
   refine J.seq (Zc [0,1] ?_)
   refine J.seq (J.block (J.seq (J.region ?_)))
   refine Zh 6 ?_
   refine Zg (Zd 3 h40.wht) ?_
   refine Zi [0,1,5] rfl ?_
   refine Zp ?_
   refine J.seq (Zc [4] ?_)
   refine J.ret (⟨_,Za,?_⟩)
   refine Zi [0,1,5,7] rfl ?_
   refine J.seq (Zc [0,1,5,7,14] ?_)
   refine Zp ?_
   refine J.seq (Zc [6] ?_)
   refine J.ret (⟨_,Za,?_⟩)
   refine Zh 5 ?_
   refine Z1 Tryz.func41 ?_
   refine J.seq (Zc [0,1] ?_)
   refine J.seq (J.seq (J.region ?_))
   refine Zh 2 ?_
   refine Z1 Tryz.func76 ?_
   refine J.seq (Zc [0,1] ?_)
   refine J.seq (J.block (J.seq (J.region ?_)))
   refine Zh 6 ?_
   refine Zg (Zd 3 h40.wht) ?_
   refine Zi [0,1,5] rfl ?_
   refine Zp ?_
   refine J.seq (Zc [4] ?_)
   refine J.ret (⟨_,Za,?_⟩)
   refine Zi [0,1,5] rfl ?_
   refine J.seq (Zc [0,1,5,11] ?_)
   refine Zp ?_
   refine J.seq (Zc [4] ?_)
   refine J.ret (⟨_,Za,?_⟩)
   refine Zh 5 ?_
   refine Z1 Tryz.func42 ?_
   refine J.seq (Zc [0,1] ?_)
   refine J.seq (J.seq (J.region ?_))
   refine Zh 2 ?_
   refine Z1 Tryz.func76 ?_
   refine J.seq (Zc [0,1] ?_)
   refine J.seq (J.block (J.seq (J.region ?_)))
   refine Zh 6 ?_
   refine Zg (Zd 3 h40.wht) ?_
   refine Zi [0,1,5] rfl ?_
   refine Zp ?_
   refine J.seq (Zc [4] ?_)
   refine J.ret (⟨_,Za,?_⟩)
   refine Zi [0,1,5] rfl ?_
   refine J.seq (Zc [0,1,5,10] ?_)
   refine Zp ?_
   refine J.seq (Zc [4] ?_)
   refine J.ret (⟨_,Za,?_⟩)
   refine Zh 5 ?_
   refine Z1 Tryz.func43 ?_
   refine J.seq (Zc [0,1] ?_)
   refine J.seq (J.seq (Zc [0,1,9] ?_))
   refine jIf H (fun c13 H=>?_) fun c13 H=>?_
   ·refine J.seq (J.region ?_)
    refine Zh 2 ?_
    refine Z1 Tryz.func76 ?_
    refine J.seq (Zc [0,1] ?_)
    refine J.seq (J.block (J.seq (J.region ?_)))
    refine Zh 6 ?_
    refine Zg (Zd 3 h40.wht) ?_
    refine Zi [0,1,5] rfl ?_
    refine Zp ?_
    refine J.seq (Zc [4] ?_)
    refine J.ret (⟨_,Za,?_⟩)
    refine Zi [0,1,5] rfl ?_
    refine J.seq (Zc [0,1,5,14] ?_)
    refine Zp ?_
    refine J.seq (Zc [4] ?_)
    refine J.ret (⟨_,Za,?_⟩)
    refine Zh 4 ?_
    refine Z1 Tryz.func19 ?_
    refine J.seq (Zc [0] ?_)
    refine J.seq (J.seq (J.region ?_))
    refine Zh 1 ?_
    refine Z1 Tryz.func60 ?_
    refine J.seq (Zc [0] ?_)
    refine J.seq (J.seq (J.region ?_))
    refine Zh 6 ?_
    refine Zg (Zd 3 h40.wht) ?_
    refine Zi [11] rfl ?_
    refine Zp ?_
    refine J.seq (Zc [2] ?_)
    refine J.ret (⟨_,Za,?_⟩)
    refine Zi [0,3] rfl ?_
    refine J.seq (Zc [0,3,7] ?_)
    refine Zp ?_
    refine J.seq (Zc [2] ?_)
    refine J.ret (⟨_,Za,?_⟩)
    refine Zh 4 ?_
    refine Z1 Tryz.func32 ?_
    refine J.seq (J.region ?_)
    refine Ze (Yq h40) ?_
    rintro _ w28 ⟨b9,rfl,h41⟩
    replace h41:=nf h41
    refine Zi [0,2] rfl ?_
    refine J.seq (J.seq (Zc [0,2,4] ?_))
    refine Zz ?_
    refine J.skip (J.seq (J.region ?_))
    refine Zh 3 ?_
    refine Zg (Zd 4 h41.wht) ?_
    refine Ze (Z3 0 h41) ?_
    intro _ w29 h42
    replace h42:=nf h42
    refine Zi [2] rfl ?_
    refine J.ret (⟨_,Yf rfl (Ym (RV.cell Yu 0 h42 rfl rfl rfl rfl) Xb) rfl,?_⟩)
    refine Zh 4 ?_
    refine Z7 174 H (fun c14 H=>?_) fun c14 H=>?_
    ·refine Zi [3,9,18,19,195] rfl ?_
     have h43:=Zb h42 [3,3,3]
     replace h43:=nf h43
     refine Zp ?_
     refine J.seq (Zc [10] ?_)
     have h44:=Zb h43 []
     replace h44:=nf h44
     refine J.ret ?_
     cases H
     exact ⟨_,_,_,Za,⟨rfl,rfl⟩,Zb h44 []⟩
    refine Zh 1 ?_
    refine Z1 Tryz.func26 ?_
    refine J.seq (Zc [0] ?_)
    refine J.seq (J.seq (Zc [0,4] ?_))
    refine Zz ?_
    refine J.skip (J.seq (J.region ?_))
    refine Zh 3 ?_
    refine Zg (Zd 4 h42.wht) ?_
    obtain ⟨r14,q14,H⟩:=Zn H
    refine Ze (Zf [] (Q71.spec q14) h42 rfl Zs) ?_
    rintro _ w30 ⟨_,⟨rfl,rfl⟩,h45⟩
    replace h45:=nf h45
    refine Zi [2] rfl ?_
    refine J.ret (⟨_,Za,?_⟩)
    refine Zh 3 ?_
    refine Z7 179 H (fun c15 H=>?_) fun c15 H=>?_
    ·refine Zi [3,9,18,19,195] rfl ?_
     have h46:=Zb h45 [3,3,3]
     replace h46:=nf h46
     refine Zp ?_
     refine J.seq (Zc [10] ?_)
     have h47:=Zb h46 []
     replace h47:=nf h47
     refine J.ret ?_
     cases H
     exact ⟨_,_,_,Za,⟨rfl,rfl⟩,Zb h47 []⟩
    refine Zh 2 ?_
    refine Z1 Tryz.func31 ?_
    refine J.seq (Zc [0,1] ?_)
    refine J.seq (J.region ?_)
    refine Zh 6 ?_
    refine Zg (Zd 4 h45.wht) ?_
    refine Zh 1 ?_
    obtain ⟨r15,q15,H⟩:=Zn H
    refine Ze (Zf [] (Q75.spec q15) h45 rfl Zs) ?_
    rintro _ w31 ⟨_,⟨rfl,rfl⟩,h48⟩
    replace h48:=nf h48
    refine Zi [4] rfl ?_
    refine J.ret (⟨_,Za,?_⟩)
    refine Zh 2 ?_
    refine Z7 184 H (fun c16 H=>?_) fun c16 H=>?_
    ·refine Zi [3,9,18,19,195] rfl ?_
     have h49:=Zb h48 [3,3,3]
     replace h49:=nf h49
     refine Zp ?_
     refine J.seq (Zc [10] ?_)
     have h50:=Zb h49 []
     replace h50:=nf h50
     refine J.ret ?_
     cases H
     exact ⟨_,_,_,Za,⟨rfl,rfl⟩,Zb h50 []⟩
    refine Zh 1 ?_
    refine Z1 Tryz.func29 ?_
    refine J.seq (Zc [0] ?_)
    refine J.seq (J.seq (Zc [0,4] ?_))
    refine Zz ?_
    refine J.skip (J.seq (J.region ?_))
    refine Zh 3 ?_
    refine Zg (Zd 4 h48.wht) ?_
    obtain ⟨r16,q16,H⟩:=Zn H
    refine Ze (Zf [] (Q76.spec q16) h48 rfl Zs) ?_
    rintro _ w32 ⟨_,⟨A10,c_10,rfl,rfl⟩,h51⟩
    replace h51:=nf h51
    refine Zi [2] rfl ?_
    refine J.ret (⟨_,Za,?_⟩)
    refine Zh 4 ?_
    refine Z7 190 H (fun c17 H=>?_) fun c17 H=>?_
    ·refine Zi [3,9,18,19,195] rfl ?_
     have h52:=Zb h51 [4,4,4]
     replace h52:=nf h52
     refine Zp ?_
     refine J.seq (Zc [10] ?_)
     have h53:=Zb h52 []
     replace h53:=nf h53
     refine J.ret ?_
     cases H
     exact ⟨_,_,_,Za,⟨rfl,rfl⟩,Zb h53 []⟩
    refine Zh 1 ?_
    refine Z1 Tryz.func33 ?_
    refine J.seq (J.region ?_)
    refine Ze (Yq h51) ?_
    rintro _ w33 ⟨b10,rfl,h54⟩
    replace h54:=nf h54
    refine Zi [0,2] rfl ?_
    refine J.seq (J.seq (Zc [0,2,4] ?_))
    refine Zz ?_
    refine J.skip (J.seq (J.region ?_))
    refine Zh 3 ?_
    refine Zg (Zd 6 h54.wht) ?_
    refine Z1 Tryz.func23 ?_
    refine J.seq (J.region ?_)
    refine Ze (Yq h54) ?_
    rintro _ w34 ⟨b11,rfl,h55⟩
    replace h55:=nf h55
    refine Zi [0,2] rfl ?_
    refine J.seq (J.seq (Zc [0,2,4] ?_))
    refine Zp ?_
    refine J.seq (J.region ?_)
    refine Zh 1 ?_
    refine Ze (Z3 0 h55) ?_
    intro _ w35 h56
    replace h56:=nf h56
    refine Zi [2] rfl ?_
    refine J.ret (⟨_,Yf rfl (Ym (RV.cell Yu 0 h56 rfl rfl rfl rfl) Xb) rfl,?_⟩)
    refine Ze (Z3 1 h56) ?_
    intro _ w36 h57
    replace h57:=nf h57
    refine Zi [2] rfl ?_
    refine J.ret (⟨_,Yf rfl (Ym (RV.cell Yu 0 h57 rfl rfl rfl rfl) Xb) rfl,?_⟩)
    refine Zi [3,9,18,19,195] rfl ?_
    have h58:=Zb h57 [6,6,6]
    replace h58:=nf h58
    refine jIf H (fun c18 H=>?_) fun c18 H=>?_
    ·refine J.seq (Zc [10] ?_)
     have h59:=Zb h58 []
     replace h59:=nf h59
     refine J.ret ?_
     cases H
     exact ⟨_,_,_,Za,⟨rfl,rfl⟩,Zb h59 []⟩
    refine J.skip (Zc [3,9,18,19] ?_)
    refine J.roundN ?_
    refine J.seq (J.seq (Zc [3,9,18,19,113] ?_))
    refine Zz ?_
    refine J.exit ?_
    have h60:=(sOR h58 [2,0] [0,1,2,3,4])
    exact ⟨k1,rfl,h60,H,Nat.le_refl _⟩
   refine J.skip (J.seq (J.seq (J.region ?_)))
   refine Zh 1 ?_
   refine Z1 Tryz.func60 ?_
   refine J.seq (Zc [0] ?_)
   refine J.seq (J.seq (J.region ?_))
   refine Zh 6 ?_
   refine Zg (Zd 3 h40.wht) ?_
   refine Zi [11] rfl ?_
   refine Zp ?_
   refine J.seq (Zc [2] ?_)
   refine J.ret (⟨_,Za,?_⟩)
   refine Zi [0,1,6] rfl ?_
   refine J.seq (Zc [0,1,6,27] ?_)
   refine Zp ?_
   refine J.seq (Zc [4] ?_)
   refine J.ret (⟨_,Za,?_⟩)
   refine Zh 4 ?_
   refine Z1 Tryz.func19 ?_
   refine J.seq (Zc [0] ?_)
   refine J.seq (J.seq (J.region ?_))
   refine Zh 1 ?_
   refine Z1 Tryz.func60 ?_
   refine J.seq (Zc [0] ?_)
   refine J.seq (J.seq (J.region ?_))
   refine Zh 6 ?_
   refine Zg (Zd 3 h40.wht) ?_
   refine Zi [11] rfl ?_
   refine Zp ?_
   refine J.seq (Zc [2] ?_)
   refine J.ret (⟨_,Za,?_⟩)
   refine Zi [0,3] rfl ?_
   refine J.seq (Zc [0,3,7] ?_)
   refine Zp ?_
   refine J.seq (Zc [2] ?_)
   refine J.ret (⟨_,Za,?_⟩)
   refine Zh 4 ?_
   refine Z1 Tryz.func32 ?_
   refine J.seq (J.region ?_)
   refine Ze (Yq h40) ?_
   rintro _ w37 ⟨b12,rfl,h61⟩
   replace h61:=nf h61
   refine Zi [0,2] rfl ?_
   refine J.seq (J.seq (Zc [0,2,4] ?_))
   refine Zz ?_
   refine J.skip (J.seq (J.region ?_))
   refine Zh 3 ?_
   refine Zg (Zd 4 h61.wht) ?_
   refine Ze (Z3 0 h61) ?_
   intro _ w38 h62
   replace h62:=nf h62
   refine Zi [2] rfl ?_
   refine J.ret (⟨_,Yf rfl (Ym (RV.cell Yu 0 h62 rfl rfl rfl rfl) Xb) rfl,?_⟩)
   refine Zh 4 ?_
   refine Z7 174 H (fun c19 H=>?_) fun c19 H=>?_
   ·refine Zi [3,9,18,19,195] rfl ?_
    have h63:=Zb h62 [3,3,3]
    replace h63:=nf h63
    refine Zp ?_
    refine J.seq (Zc [10] ?_)
    have h64:=Zb h63 []
    replace h64:=nf h64
    refine J.ret ?_
    cases H
    exact ⟨_,_,_,Za,⟨rfl,rfl⟩,Zb h64 []⟩
   refine Zh 1 ?_
   refine Z1 Tryz.func26 ?_
   refine J.seq (Zc [0] ?_)
   refine J.seq (J.seq (Zc [0,4] ?_))
   refine Zz ?_
   refine J.skip (J.seq (J.region ?_))
   refine Zh 3 ?_
   refine Zg (Zd 4 h62.wht) ?_
   obtain ⟨r17,q17,H⟩:=Zn H
   refine Ze (Zf [] (Q71.spec q17) h62 rfl Zs) ?_
   rintro _ w39 ⟨_,⟨rfl,rfl⟩,h65⟩
   replace h65:=nf h65
   refine Zi [2] rfl ?_
   refine J.ret (⟨_,Za,?_⟩)
   refine Zh 3 ?_
   refine Z7 179 H (fun c20 H=>?_) fun c20 H=>?_
   ·refine Zi [3,9,18,19,195] rfl ?_
    have h66:=Zb h65 [3,3,3]
    replace h66:=nf h66
    refine Zp ?_
    refine J.seq (Zc [10] ?_)
    have h67:=Zb h66 []
    replace h67:=nf h67
    refine J.ret ?_
    cases H
    exact ⟨_,_,_,Za,⟨rfl,rfl⟩,Zb h67 []⟩
   refine Zh 2 ?_
   refine Z1 Tryz.func31 ?_
   refine J.seq (Zc [0,1] ?_)
   refine J.seq (J.region ?_)
   refine Zh 6 ?_
   refine Zg (Zd 4 h65.wht) ?_
   refine Zh 1 ?_
   obtain ⟨r18,q18,H⟩:=Zn H
   refine Ze (Zf [] (Q75.spec q18) h65 rfl Zs) ?_
   rintro _ w40 ⟨_,⟨rfl,rfl⟩,h68⟩
   replace h68:=nf h68
   refine Zi [4] rfl ?_
   refine J.ret (⟨_,Za,?_⟩)
   refine Zh 2 ?_
   refine Z7 184 H (fun c21 H=>?_) fun c21 H=>?_
   ·refine Zi [3,9,18,19,195] rfl ?_
    have h69:=Zb h68 [3,3,3]
    replace h69:=nf h69
    refine Zp ?_
    refine J.seq (Zc [10] ?_)
    have h70:=Zb h69 []
    replace h70:=nf h70
    refine J.ret ?_
    cases H
    exact ⟨_,_,_,Za,⟨rfl,rfl⟩,Zb h70 []⟩
   refine Zh 1 ?_
   refine Z1 Tryz.func29 ?_
   refine J.seq (Zc [0] ?_)
   refine J.seq (J.seq (Zc [0,4] ?_))
   refine Zz ?_
   refine J.skip (J.seq (J.region ?_))
   refine Zh 3 ?_
   refine Zg (Zd 4 h68.wht) ?_
   obtain ⟨r19,q19,H⟩:=Zn H
   refine Ze (Zf [] (Q76.spec q19) h68 rfl Zs) ?_
   rintro _ w41 ⟨_,⟨A11,c_11,rfl,rfl⟩,h71⟩
   replace h71:=nf h71
   refine Zi [2] rfl ?_
   refine J.ret (⟨_,Za,?_⟩)
   refine Zh 4 ?_
   refine Z7 190 H (fun c22 H=>?_) fun c22 H=>?_
   ·refine Zi [3,9,18,19,195] rfl ?_
    have h72:=Zb h71 [4,4,4]
    replace h72:=nf h72
    refine Zp ?_
    refine J.seq (Zc [10] ?_)
    have h73:=Zb h72 []
    replace h73:=nf h73
    refine J.ret ?_
    cases H
    exact ⟨_,_,_,Za,⟨rfl,rfl⟩,Zb h73 []⟩
   refine Zh 1 ?_
   refine Z1 Tryz.func33 ?_
   refine J.seq (J.region ?_)
   refine Ze (Yq h71) ?_
   rintro _ w42 ⟨b13,rfl,h74⟩
   replace h74:=nf h74
   refine Zi [0,2] rfl ?_
   refine J.seq (J.seq (Zc [0,2,4] ?_))
   refine Zz ?_
   refine J.skip (J.seq (J.region ?_))
   refine Zh 3 ?_
   refine Zg (Zd 6 h74.wht) ?_
   refine Z1 Tryz.func23 ?_
   refine J.seq (J.region ?_)
   refine Ze (Yq h74) ?_
   rintro _ w43 ⟨b14,rfl,h75⟩
   replace h75:=nf h75
   refine Zi [0,2] rfl ?_
   refine J.seq (J.seq (Zc [0,2,4] ?_))
   refine Zp ?_
   refine J.seq (J.region ?_)
   refine Zh 1 ?_
   refine Ze (Z3 0 h75) ?_
   intro _ w44 h76
   replace h76:=nf h76
   refine Zi [2] rfl ?_
   refine J.ret (⟨_,Yf rfl (Ym (RV.cell Yu 0 h76 rfl rfl rfl rfl) Xb) rfl,?_⟩)
   refine Ze (Z3 1 h76) ?_
   intro _ w45 h77
   replace h77:=nf h77
   refine Zi [2] rfl ?_
   refine J.ret (⟨_,Yf rfl (Ym (RV.cell Yu 0 h77 rfl rfl rfl rfl) Xb) rfl,?_⟩)
   refine Zi [3,9,18,19,195] rfl ?_
   have h78:=Zb h77 [6,6,6]
   replace h78:=nf h78
   refine jIf H (fun c23 H=>?_) fun c23 H=>?_
   ·refine J.seq (Zc [10] ?_)
    have h79:=Zb h78 []
    replace h79:=nf h79
    refine J.ret ?_
    cases H
    exact ⟨_,_,_,Za,⟨rfl,rfl⟩,Zb h79 []⟩
   refine J.skip (Zc [3,9,18,19] ?_)
   refine J.roundN ?_
   refine J.seq (J.seq (Zc [3,9,18,19,113] ?_))
   refine Zz ?_
   refine J.exit ?_
   have h80:=(sOR h78 [2,0] [0,1,2,3,4])
   exact ⟨k1,rfl,h80,H,Nat.le_refl _⟩
  rintro env w6 ⟨k2,rfl,h4,H,hk2⟩
  rcases k2 with _ | k2
  ·exact z0 H
  rw [Q133.l1] at H
  refine J.seq (J.region ?_)
  obtain ⟨r1,q1,H⟩:=Zn H
  refine Ze (Zf [] (Q134.spec q1) h4 rfl (Z0 (Zm 6) Zs)) ?_
  rintro _ w7 ⟨_,⟨rfl,rfl⟩,h5⟩
  replace h5:=nf h5
  refine Zi [10] rfl ?_
  have h6:=Zb h5 []
  replace h6:=nf h6
  refine J.ret ?_
  cases H
  exact ⟨_,_,_,Za,⟨rfl,rfl⟩,Zb h6 []⟩
 refine J.seq (J.region ?_)
 refine Ze (Ye h0) ?_
 rintro _ w46 ⟨b15,rfl,h81⟩
 replace h81:=nf h81
 refine Ze (Ye h81) ?_
 rintro _ w47 ⟨b16,rfl,h82⟩
 replace h82:=nf h82
 refine Zi [1,2,3,5,9] rfl ?_
 refine J.seq (J.seq (J.region ?_))
 refine Zg (Zd 0 h82.wht) ?_
 obtain ⟨r20,q20,H⟩:=Zn H
 refine Ze (Zf [] (Q132.spec q20) h82 rfl (Z0 (Zm 2) (Z0 (Zm 3) (Z0 (Zm 4) (Z0 (Zm 5) Zs))))) ?_
 rintro _ w48 ⟨_,⟨rfl,rfl⟩,h83⟩
 replace h83:=nf h83
 refine Zi [1,2,3,5,9,26] rfl ?_
 refine jIf H (fun c24 H=>?_) fun c24 H=>?_
 ·refine J.seq (J.region ?_)
  obtain ⟨r21,q21,H⟩:=Zn H
  refine Ze (Zf [] (Q134.spec q21) h83 rfl (Z0 (Zm 6) Zs)) ?_
  rintro _ w49 ⟨_,⟨rfl,rfl⟩,h84⟩
  replace h84:=nf h84
  refine Zi [10] rfl ?_
  have h85:=Zb h84 []
  replace h85:=nf h85
  refine J.ret ?_
  cases H
  exact ⟨_,_,_,Za,⟨rfl,rfl⟩,Zb h85 []⟩
 refine J.skip (J.seq (J.region ?_))
 refine Zh 7 ?_
 obtain ⟨r22,q22,H⟩:=Zn H
 refine Ze (Zf [] (Q54.spec q22) h83 rfl Zs) ?_
 rintro _ w50 ⟨_,⟨v1,l1,ho1,rfl,rfl⟩,h86⟩
 rcases ho2:r22.1 with _ | r23
 ·rw [ho2] at ho1
  obtain ⟨rfl,rfl⟩:=ho1
  replace H:=Y6 ho2 H
  obtain ⟨c25,H⟩:=Zt H
  replace h86:=nf h86
  refine Zi [3,5,9,11,12] rfl ?_
  refine J.seq (J.region ?_)
  refine Zg (Zd 1 h86.wht) ?_
  refine Zh 1 ?_
  obtain ⟨r24,q23,H⟩:=Zn H
  refine Ze (Zf [] (Q80.spec q23) h86 rfl Zs) ?_
  rintro _ w51 ⟨_,⟨v2,l2,ho3,rfl,rfl⟩,h87⟩
  rcases ho4:r24.1 with _ | r25
  ·rw [ho4] at ho3
   obtain ⟨rfl,rfl⟩:=ho3
   replace H:=Y6 ho4 H
   obtain ⟨c27,H⟩:=Zt H
   replace h87:=nf h87
   refine Zi [3,5,9,11,12,13,14] rfl ?_
   refine J.seq (J.region ?_)
   refine Zg (Zd 1 h87.wht) ?_
   obtain ⟨r26,q24,H⟩:=Zn H
   refine Ze (Zf [] (Q80.spec q24) h87 rfl Zs) ?_
   rintro _ w52 ⟨_,⟨v3,l3,ho5,rfl,rfl⟩,h88⟩
   rcases ho6:r26.1 with _ | r27
   ·rw [ho6] at ho5
    obtain ⟨rfl,rfl⟩:=ho5
    replace H:=Y6 ho6 H
    obtain ⟨c29,H⟩:=Zt H
    replace h88:=nf h88
    refine Zi [3,5,9,11,12,13,14,15,16] rfl ?_
    refine J.seq (J.seq (J.region ?_))
    refine Zh 3 ?_
    refine Z8 52 (congrArg Value.bool c25) ?_
    refine Zi [3,5,9,11,13,14,16,55] rfl ?_
    refine Zp ?_
    refine J.seq (Zc [10] ?_)
    have h89:=Zb h88 []
    replace h89:=nf h89
    refine J.ret ?_
    cases H
    exact ⟨_,_,_,Za,⟨rfl,rfl⟩,Zb h89 []⟩
   rw [ho6] at ho5
   obtain ⟨b17,b18,b19,A12,c_12,A13,c_13,b20,A14,c_14,b21,A15,c_15,b22,b23,A16,c_16,rfl,rfl⟩:=ho5
   replace H:=Y5 ho6 H
   obtain ⟨c30,H⟩:=Zt H
   replace h88:=nf h88
   refine Zi [3,5,9,11,12,13,14,15,16] rfl ?_
   refine J.seq (J.seq (J.region ?_))
   refine Zh 3 ?_
   refine Z8 52 (congrArg Value.bool c25) ?_
   refine Zi [3,5,9,11,13,14,16,55] rfl ?_
   have h90:=Zb h88 [12,12]
   replace h90:=nf h90
   refine Zp ?_
   refine J.seq (Zc [10] ?_)
   have h91:=Zb h90 []
   replace h91:=nf h91
   refine J.ret ?_
   cases H
   exact ⟨_,_,_,Za,⟨rfl,rfl⟩,Zb h91 []⟩
  rw [ho4] at ho3
  obtain ⟨b24,b25,b26,A17,c_17,A18,c_18,b27,A19,c_19,b28,A20,c_20,b29,b30,A21,c_21,rfl,rfl⟩:=ho3
  replace H:=Y5 ho4 H
  obtain ⟨c28,H⟩:=Zt H
  replace h87:=nf h87
  refine Zi [3,5,9,11,12,13,14] rfl ?_
  refine J.seq (J.region ?_)
  refine Zg (Zd 13 h87.wht) ?_
  obtain ⟨r28,q25,H⟩:=Zn H
  refine Ze (Zf [] (Q80.spec q25) h87 rfl Zs) ?_
  rintro _ w53 ⟨_,⟨v4,l4,ho7,rfl,rfl⟩,h92⟩
  rcases ho8:r28.1 with _ | r29
  ·rw [ho8] at ho7
   obtain ⟨rfl,rfl⟩:=ho7
   replace H:=Y6 ho8 H
   obtain ⟨c31,H⟩:=Zt H
   replace h92:=nf h92
   refine Zi [3,5,9,11,12,13,14,15,16] rfl ?_
   refine J.seq (J.seq (J.region ?_))
   refine Zh 3 ?_
   refine Z8 52 (congrArg Value.bool c25) ?_
   refine Zi [3,5,9,11,13,14,16,55] rfl ?_
   refine Zp ?_
   refine J.seq (Zc [10] ?_)
   have h93:=Zb h92 []
   replace h93:=nf h93
   refine J.ret ?_
   cases H
   exact ⟨_,_,_,Za,⟨rfl,rfl⟩,Zb h93 []⟩
  rw [ho8] at ho7
  obtain ⟨b31,b32,b33,A22,c_22,A23,c_23,b34,A24,c_24,b35,A25,c_25,b36,b37,A26,c_26,rfl,rfl⟩:=ho7
  replace H:=Y5 ho8 H
  obtain ⟨c32,H⟩:=Zt H
  replace h92:=nf h92
  refine Zi [3,5,9,11,12,13,14,15,16] rfl ?_
  refine J.seq (J.seq (J.region ?_))
  refine Zh 3 ?_
  refine Z8 52 (congrArg Value.bool c25) ?_
  refine Zi [3,5,9,11,13,14,16,55] rfl ?_
  have h94:=Zb h92 [12,12,12,12,12,12,12,12,12,12,12,12,12,12]
  replace h94:=nf h94
  refine Zp ?_
  refine J.seq (Zc [10] ?_)
  have h95:=Zb h94 []
  replace h95:=nf h95
  refine J.ret ?_
  cases H
  exact ⟨_,_,_,Za,⟨rfl,rfl⟩,Zb h95 []⟩
 rw [ho2] at ho1
 obtain ⟨b38,A27,c_27,rfl,rfl⟩:=ho1
 replace H:=Y5 ho2 H
 obtain ⟨c26,H⟩:=Zt H
 replace h86:=nf h86
 refine Zi [3,5,9,11,12] rfl ?_
 refine J.seq (J.region ?_)
 refine Zg (Zd 3 h86.wht) ?_
 refine Zh 1 ?_
 refine Z1 Tryz.func35 ?_
 refine J.seq (J.region ?_)
 refine Ze (Ye h86) ?_
 rintro _ w54 ⟨b39,rfl,h96⟩
 replace h96:=nf h96
 refine Zi [1,2] rfl ?_
 refine J.seq (J.seq (J.region ?_))
 refine Zg (Zd 0 h96.wht) ?_
 obtain ⟨r30,q26,H⟩:=Zn H
 refine Ze (Zf [] (Q45.spec q26) h96 rfl Zs) ?_
 rintro _ w55 ⟨_,⟨rfl,rfl⟩,h97⟩
 replace h97:=nf h97
 refine Zi [1,2,6] rfl ?_
 refine J.seq (Zc [1,2,6,13] ?_)
 refine jIf H (fun c33 H=>?_) fun c33 H=>?_
 ·refine J.seq (Zc [4,5] ?_)
  refine J.ret (⟨_,Za,?_⟩)
  refine Zi [3,5,9,11,12,13,14] rfl ?_
  refine J.seq (J.region ?_)
  refine Zg (Zd 4 h97.wht) ?_
  obtain ⟨r31,q27,H⟩:=Zn H
  refine Ze (Zf [] (Q80.spec q27) h97 rfl Zs) ?_
  rintro _ w56 ⟨_,⟨v5,l5,ho9,rfl,rfl⟩,h98⟩
  rcases ho10:r31.1 with _ | r32
  ·rw [ho10] at ho9
   obtain ⟨rfl,rfl⟩:=ho9
   replace H:=Y6 ho10 H
   obtain ⟨c34,H⟩:=Zt H
   replace h98:=nf h98
   refine Zi [3,5,9,11,12,13,14,15,16] rfl ?_
   refine J.seq (J.seq (J.region ?_))
   refine Zh 3 ?_
   refine Z8 52 (congrArg Value.bool c26) ?_
   refine Zi [3,5,9,11,13,14,16,55] rfl ?_
   refine Zz ?_
   refine J.skip (J.seq (J.seq (J.region ?_)))
   refine Zg (Zd 4 h98.wht) ?_
   obtain ⟨r33,q28,H⟩:=Zn H
   refine Ze (Zf [] (Q138.spec q28) h98 rfl Zs) ?_
   rintro _ w57 ⟨_,⟨rfl,rfl⟩,h99⟩
   replace h99:=nf h99
   refine Zi [3,5,9,11,13,14,16,58] rfl ?_
   refine jIf H (fun c36 H=>?_) fun c36 H=>?_
   ·refine J.seq (J.region ?_)
    refine Zh 7 ?_
    refine Z7 65 H (fun c37 H=>?_) fun c37 H=>?_
    ·refine Zh 4 ?_
     refine Z7 69 H (fun c38 H=>?_) fun c38 H=>?_
     ·obtain ⟨r34,q29,H⟩:=Zn H
      refine Ze (Zf [] (Q134.spec q29) h99 rfl (Z0 (Zm 9) Zs)) ?_
      rintro _ w58 ⟨_,⟨rfl,rfl⟩,h100⟩
      replace h100:=nf h100
      refine Zi [10] rfl ?_
      have h101:=Zb h100 []
      replace h101:=nf h101
      refine J.ret ?_
      cases H
      exact ⟨_,_,_,Za,⟨rfl,rfl⟩,Zb h101 []⟩
     refine Zi [10] rfl ?_
     have h102:=Zb h99 []
     replace h102:=nf h102
     refine J.ret ?_
     cases H
     exact ⟨_,_,_,Za,⟨rfl,rfl⟩,Zb h102 []⟩
    refine Zi [10] rfl ?_
    have h103:=Zb h99 []
    replace h103:=nf h103
    refine J.ret ?_
    cases H
    exact ⟨_,_,_,Za,⟨rfl,rfl⟩,Zb h103 []⟩
   refine J.skip (J.seq (J.seq ?_))
   refine Zv h99 ?_
   have h104:=h99.drew
   refine Zu [0,1,2] ?_
   refine Yh 74 H (fun c39 H=>?_) fun c39 H=>?_
   ·refine Zu [3,4,5,6,7,8,9,10,11,12,13,14,15,16,17,18,19,20,21,22,23,24,25,26,27,28,29,30,31,32,33] ?_
    refine Zw [3,9,105] ?_
    have h105:=Zb h104 [3]
    replace h105:=nf h105
    refine Zp ?_
    refine J.seq (Zc [10] ?_)
    refine J.ret ?_
    cases H
    exact ⟨_,_,_,Za,⟨rfl,rfl⟩,Zb h105 []⟩
   refine Zu [3,4,5,6,7,8,9] ?_
   refine Yh 81 H (fun c40 H=>?_) fun c40 H=>?_
   ·refine Zu [10,11,12,13,14,15,16,17,18,19,20,21,22,23,24,25,26,27,28,29,30,31,32,33] ?_
    refine Zw [3,9,105] ?_
    have h106:=Zb h104 [3]
    replace h106:=nf h106
    refine Zp ?_
    refine J.seq (Zc [10] ?_)
    refine J.ret ?_
    cases H
    exact ⟨_,_,_,Za,⟨rfl,rfl⟩,Zb h106 []⟩
   refine Zu [10,11,12,14] ?_
   refine Zj 15 rfl (Zd 4 wI) ?_
   obtain ⟨r35,q30,H⟩:=Zn H
   refine Zq 13 rfl (Zf [1,1] (Q50.spec q30) h104 rfl Zs) ?_
   rintro _ w59 ⟨_,⟨rfl,rfl⟩,h107⟩
   replace h107:=nf h107
   refine ⟨⟨[],(Zb h107 [2,0,0,0,0])⟩,?_⟩
   refine Zu [16,17] ?_
   refine Yh 89 H (fun c41 H=>?_) fun c41 H=>?_
   ·refine Zu [18,20] ?_
    refine Zj 21 rfl (Zd 4 wI) ?_
    obtain ⟨r36,q31,H⟩:=Zn H
    refine Zq 19 rfl (Zf [0,0] (Q51.spec q31) h107 rfl Zs) ?_
    rintro _ w60 ⟨_,⟨rfl,rfl⟩,h108⟩
    replace h108:=nf h108
    refine ⟨⟨[],(Zb h108 [2,0,0,0,0])⟩,?_⟩
    refine Zu [22,23,24,25,26] ?_
    refine Yh 98 H (fun c42 H=>?_) fun c42 H=>?_
    ·refine Zu [27,28,29,30,31,32,33] ?_
     refine Zw [3,9,105] ?_
     have h109:=Zb h108 [3]
     replace h109:=nf h109
     refine Zp ?_
     refine J.seq (Zc [10] ?_)
     refine J.ret ?_
     cases H
     exact ⟨_,_,_,Za,⟨rfl,rfl⟩,Zb h109 []⟩
    refine Zu [27,28,29] ?_
    refine Y7 101 (congrArg Value.bool c33) ?_
    refine Zu [30,31,32,33] ?_
    refine Zw [3,9,105] ?_
    have h110:=Zb h108 [3]
    replace h110:=nf h110
    refine jIf H (fun c43 H=>?_) fun c43 H=>?_
    ·refine J.seq (Zc [10] ?_)
     refine J.ret ?_
     cases H
     exact ⟨_,_,_,Za,⟨rfl,rfl⟩,Zb h110 []⟩
    refine J.skip (Y8 [3,9] ?_)
    have h111:=(sOR h110 [0] [0,1,2,3,4])
    exact ht _ _ ⟨k,b16,rfl,h111,H,Nat.le_refl _⟩
   refine Zu [18,19,20,21,22,23,24,25,26] ?_
   refine Yh 98 H (fun c44 H=>?_) fun c44 H=>?_
   ·refine Zu [27,28,29,30,31,32,33] ?_
    refine Zw [3,9,105] ?_
    have h112:=Zb h107 [3]
    replace h112:=nf h112
    refine Zp ?_
    refine J.seq (Zc [10] ?_)
    refine J.ret ?_
    cases H
    exact ⟨_,_,_,Za,⟨rfl,rfl⟩,Zb h112 []⟩
   refine Zu [27,28,29] ?_
   refine Y7 101 (congrArg Value.bool c33) ?_
   refine Zu [30,31,32,33] ?_
   refine Zw [3,9,105] ?_
   have h113:=Zb h107 [3]
   replace h113:=nf h113
   refine jIf H (fun c45 H=>?_) fun c45 H=>?_
   ·refine J.seq (Zc [10] ?_)
    refine J.ret ?_
    cases H
    exact ⟨_,_,_,Za,⟨rfl,rfl⟩,Zb h113 []⟩
   refine J.skip (Y8 [3,9] ?_)
   have h114:=(sOR h113 [0] [0,1,2,3,4])
   exact ht _ _ ⟨k,b16,rfl,h114,H,Nat.le_refl _⟩
  rw [ho10] at ho9
  obtain ⟨b40,b41,b42,A28,c_28,A29,c_29,b43,A30,c_30,b44,A31,c_31,b45,b46,A32,c_32,rfl,rfl⟩:=ho9
  replace H:=Y5 ho10 H
  obtain ⟨c35,H⟩:=Zt H
  replace h98:=nf h98
  refine Zi [3,5,9,11,12,13,14,15,16] rfl ?_
  refine J.seq (J.seq (J.region ?_))
  refine Zh 3 ?_
  refine Z8 52 (congrArg Value.bool c26) ?_
  refine Zi [3,5,9,11,13,14,16,55] rfl ?_
  have h115:=Zb h98 [13,13,13,13]
  replace h115:=nf h115
  refine Zp ?_
  refine J.seq (Zc [10] ?_)
  have h116:=Zb h115 []
  replace h116:=nf h116
  refine J.ret ?_
  cases H
  exact ⟨_,_,_,Za,⟨rfl,rfl⟩,Zb h116 []⟩
 refine J.skip (J.seq (J.region ?_))
 refine Zh 2 ?_
 refine Zg (Zd 0 h97.wht) ?_
 refine Z1 Tryz.func85 ?_
 refine J.seq (Zc [0,1] ?_)
 refine J.seq (J.block (J.seq (J.region ?_)))
 refine Zh 1 ?_
 obtain ⟨r37,q32,H⟩:=Zn H
 refine Ze (Zf [1,1] (Q50.spec q32) h97 rfl Zs) ?_
 rintro _ w61 ⟨_,⟨rfl,rfl⟩,h117⟩
 replace h117:=nf h117
 refine Zi [0,1,10] rfl ?_
 refine jIf H (fun c46 H=>?_) fun c46 H=>?_
 ·refine J.seq (Zc [4,5] ?_)
  refine J.ret (⟨_,Za,?_⟩)
  refine Zi [1,2,7,8] rfl ?_
  refine J.seq (J.seq (Zc [1,2,7,8,23] ?_))
  refine Zp ?_
  refine J.seq (Zc [4,5] ?_)
  refine J.ret (⟨_,Za,?_⟩)
  refine Zi [3,5,9,11,12,13,14] rfl ?_
  refine J.seq (J.region ?_)
  refine Zg (Zd 4 h117.wht) ?_
  obtain ⟨r38,q33,H⟩:=Zn H
  refine Ze (Zf [] (Q80.spec q33) h117 rfl Zs) ?_
  rintro _ w62 ⟨_,⟨v6,l6,ho11,rfl,rfl⟩,h118⟩
  rcases ho12:r38.1 with _ | r39
  ·rw [ho12] at ho11
   obtain ⟨rfl,rfl⟩:=ho11
   replace H:=Y6 ho12 H
   obtain ⟨c47,H⟩:=Zt H
   replace h118:=nf h118
   refine Zi [3,5,9,11,12,13,14,15,16] rfl ?_
   refine J.seq (J.seq (J.region ?_))
   refine Zh 3 ?_
   refine Z8 52 (congrArg Value.bool c26) ?_
   refine Zi [3,5,9,11,13,14,16,55] rfl ?_
   refine Zz ?_
   refine J.skip (J.seq (J.seq (J.region ?_)))
   refine Zg (Zd 4 h118.wht) ?_
   obtain ⟨r40,q34,H⟩:=Zn H
   refine Ze (Zf [] (Q138.spec q34) h118 rfl Zs) ?_
   rintro _ w63 ⟨_,⟨rfl,rfl⟩,h119⟩
   replace h119:=nf h119
   refine Zi [3,5,9,11,13,14,16,58] rfl ?_
   refine jIf H (fun c49 H=>?_) fun c49 H=>?_
   ·refine J.seq (Zc [10] ?_)
    have h120:=Zb h119 []
    replace h120:=nf h120
    refine J.ret ?_
    cases H
    exact ⟨_,_,_,Za,⟨rfl,rfl⟩,Zb h120 []⟩
   refine J.skip (J.seq (J.seq ?_))
   refine Zv h119 ?_
   have h121:=h119.drew
   refine Zu [0,1,2] ?_
   refine Yh 74 H (fun c50 H=>?_) fun c50 H=>?_
   ·refine Zu [3,4,5,6,7,8,9,10,11,12,13,14,15,16,17,18,19,20,21,22,23,24,25,26,27,28,29,30,31,32,33] ?_
    refine Zw [3,9,105] ?_
    have h122:=Zb h121 [3]
    replace h122:=nf h122
    refine Zp ?_
    refine J.seq (Zc [10] ?_)
    refine J.ret ?_
    cases H
    exact ⟨_,_,_,Za,⟨rfl,rfl⟩,Zb h122 []⟩
   refine Zu [3,4,5,6,7,8,9] ?_
   refine Yh 81 H (fun c51 H=>?_) fun c51 H=>?_
   ·refine Zu [10,11,12,13,14,15,16,17,18,19,20,21,22,23,24,25,26,27,28,29,30,31,32,33] ?_
    refine Zw [3,9,105] ?_
    have h123:=Zb h121 [3]
    replace h123:=nf h123
    refine Zp ?_
    refine J.seq (Zc [10] ?_)
    refine J.ret ?_
    cases H
    exact ⟨_,_,_,Za,⟨rfl,rfl⟩,Zb h123 []⟩
   refine Zu [10,11,12,14] ?_
   refine Zj 15 rfl (Zd 4 wI) ?_
   obtain ⟨r41,q35,H⟩:=Zn H
   refine Zq 13 rfl (Zf [0,0] (Q50.spec q35) h121 rfl Zs) ?_
   rintro _ w65 ⟨_,⟨rfl,rfl⟩,h124⟩
   replace h124:=nf h124
   refine ⟨⟨[],h124⟩,?_⟩
   refine Zu [16,17] ?_
   refine Yh 89 H (fun c52 H=>?_) fun c52 H=>?_
   ·refine Zu [18,20] ?_
    refine Zj 21 rfl (Zd 4 wI) ?_
    obtain ⟨r42,q36,H⟩:=Zn H
    refine Zq 19 rfl (Zf [0,0] (Q51.spec q36) h124 rfl Zs) ?_
    rintro _ w66 ⟨_,⟨rfl,rfl⟩,h125⟩
    replace h125:=nf h125
    refine ⟨⟨[],h125⟩,?_⟩
    refine Zu [22,23,24,25,26] ?_
    refine Yh 98 H (fun c53 H=>?_) fun c53 H=>?_
    ·refine Zu [27,28,29,30,31,32,33] ?_
     refine Zw [3,9,105] ?_
     have h126:=Zb h125 [3]
     replace h126:=nf h126
     refine Zp ?_
     refine J.seq (Zc [10] ?_)
     refine J.ret ?_
     cases H
     exact ⟨_,_,_,Za,⟨rfl,rfl⟩,Zb h126 []⟩
    refine Zu [27,28,29,30,31,32,33] ?_
    refine Zw [3,9,105] ?_
    have h127:=Zb h125 [3]
    replace h127:=nf h127
    refine Zp ?_
    refine J.seq (Zc [10] ?_)
    refine J.ret ?_
    cases H
    exact ⟨_,_,_,Za,⟨rfl,rfl⟩,Zb h127 []⟩
   refine Zu [18,19,20,21,22,23,24,25,26] ?_
   refine Y7 98 (congrArg Value.bool c51) ?_
   refine Zu [27,28,29,30,31,32,33] ?_
   refine Zw [3,9,105] ?_
   have h128:=Zb h124 [3]
   replace h128:=nf h128
   refine Zp ?_
   refine J.seq (Zc [10] ?_)
   refine J.ret ?_
   cases H
   exact ⟨_,_,_,Za,⟨rfl,rfl⟩,Zb h128 []⟩
  rw [ho12] at ho11
  obtain ⟨b47,b48,b49,A33,c_33,A34,c_34,b50,A35,c_35,b51,A36,c_36,b52,b53,A37,c_37,rfl,rfl⟩:=ho11
  replace H:=Y5 ho12 H
  obtain ⟨c48,H⟩:=Zt H
  replace h118:=nf h118
  refine Zi [3,5,9,11,12,13,14,15,16] rfl ?_
  refine J.seq (J.seq (J.region ?_))
  refine Zh 3 ?_
  refine Z8 52 (congrArg Value.bool c26) ?_
  refine Zi [3,5,9,11,13,14,16,55] rfl ?_
  have h129:=Zb h118 [12,12,13,13]
  replace h129:=nf h129
  refine Zp ?_
  refine J.seq (Zc [10] ?_)
  have h130:=Zb h129 []
  replace h130:=nf h130
  refine J.ret ?_
  cases H
  exact ⟨_,_,_,Za,⟨rfl,rfl⟩,Zb h130 []⟩
 refine J.seq (J.region ?_)
 refine Zh 3 ?_
 refine Z7 17 H (fun c54 H=>?_) fun c54 H=>?_
 ·refine Zi [0,1,14] rfl ?_
  refine Zp ?_
  refine J.seq (Zc [4,5] ?_)
  refine J.ret (⟨_,Za,?_⟩)
  refine Zi [1,2,7,8] rfl ?_
  refine J.seq (J.seq (Zc [1,2,7,8,23] ?_))
  refine Zp ?_
  refine J.seq (Zc [4,5] ?_)
  refine J.ret (⟨_,Za,?_⟩)
  refine Zi [3,5,9,11,12,13,14] rfl ?_
  refine J.seq (J.region ?_)
  refine Zg (Zd 4 h117.wht) ?_
  obtain ⟨r43,q37,H⟩:=Zn H
  refine Ze (Zf [] (Q80.spec q37) h117 rfl Zs) ?_
  rintro _ w67 ⟨_,⟨v7,l7,ho13,rfl,rfl⟩,h131⟩
  rcases ho14:r43.1 with _ | r44
  ·rw [ho14] at ho13
   obtain ⟨rfl,rfl⟩:=ho13
   replace H:=Y6 ho14 H
   obtain ⟨c55,H⟩:=Zt H
   replace h131:=nf h131
   refine Zi [3,5,9,11,12,13,14,15,16] rfl ?_
   refine J.seq (J.seq (J.region ?_))
   refine Zh 3 ?_
   refine Z8 52 (congrArg Value.bool c26) ?_
   refine Zi [3,5,9,11,13,14,16,55] rfl ?_
   refine Zz ?_
   refine J.skip (J.seq (J.seq (J.region ?_)))
   refine Zg (Zd 4 h131.wht) ?_
   obtain ⟨r45,q38,H⟩:=Zn H
   refine Ze (Zf [] (Q138.spec q38) h131 rfl Zs) ?_
   rintro _ w68 ⟨_,⟨rfl,rfl⟩,h132⟩
   replace h132:=nf h132
   refine Zi [3,5,9,11,13,14,16,58] rfl ?_
   refine jIf H (fun c57 H=>?_) fun c57 H=>?_
   ·refine J.seq (J.region ?_)
    refine Zh 11 ?_
    refine Z7 69 H (fun c58 H=>?_) fun c58 H=>?_
    ·obtain ⟨r46,q39,H⟩:=Zn H
     refine Ze (Zf [] (Q134.spec q39) h132 rfl (Z0 (Zm 9) Zs)) ?_
     rintro _ w69 ⟨_,⟨rfl,rfl⟩,h133⟩
     replace h133:=nf h133
     refine Zi [10] rfl ?_
     have h134:=Zb h133 []
     replace h134:=nf h134
     refine J.ret ?_
     cases H
     exact ⟨_,_,_,Za,⟨rfl,rfl⟩,Zb h134 []⟩
    refine Zi [10] rfl ?_
    have h135:=Zb h132 []
    replace h135:=nf h135
    refine J.ret ?_
    cases H
    exact ⟨_,_,_,Za,⟨rfl,rfl⟩,Zb h135 []⟩
   refine J.skip (J.seq (J.seq ?_))
   refine Zv h132 ?_
   have h136:=h132.drew
   refine Zu [0,1,2] ?_
   refine Yh 74 H (fun c59 H=>?_) fun c59 H=>?_
   ·refine Zu [3,4,5,6,7,8,9,10,11,12,13,14,15,16,17,18,19,20,21,22,23,24,25,26,27,28,29,30,31,32,33] ?_
    refine Zw [3,9,105] ?_
    have h137:=Zb h136 [3]
    replace h137:=nf h137
    refine Zp ?_
    refine J.seq (Zc [10] ?_)
    refine J.ret ?_
    cases H
    exact ⟨_,_,_,Za,⟨rfl,rfl⟩,Zb h137 []⟩
   refine Zu [3,4,5,6,7,8,9] ?_
   refine Yh 81 H (fun c60 H=>?_) fun c60 H=>?_
   ·refine Zu [10,11,12,13,14,15,16,17,18,19,20,21,22,23,24,25,26,27,28,29,30,31,32,33] ?_
    refine Zw [3,9,105] ?_
    have h138:=Zb h136 [3]
    replace h138:=nf h138
    refine Zp ?_
    refine J.seq (Zc [10] ?_)
    refine J.ret ?_
    cases H
    exact ⟨_,_,_,Za,⟨rfl,rfl⟩,Zb h138 []⟩
   refine Zu [10,11,12,14] ?_
   refine Zj 15 rfl (Zd 4 wI) ?_
   obtain ⟨r47,q40,H⟩:=Zn H
   refine Zq 13 rfl (Zf [0,0] (Q50.spec q40) h136 rfl Zs) ?_
   rintro _ w70 ⟨_,⟨rfl,rfl⟩,h139⟩
   replace h139:=nf h139
   refine ⟨⟨[],h139⟩,?_⟩
   refine Zu [16,17] ?_
   refine Yh 89 H (fun c61 H=>?_) fun c61 H=>?_
   ·refine Zu [18,20] ?_
    refine Zj 21 rfl (Zd 4 wI) ?_
    obtain ⟨r48,q41,H⟩:=Zn H
    refine Zq 19 rfl (Zf [0,0] (Q51.spec q41) h139 rfl Zs) ?_
    rintro _ w71 ⟨_,⟨rfl,rfl⟩,h140⟩
    replace h140:=nf h140
    refine ⟨⟨[],h140⟩,?_⟩
    refine Zu [22,23,24,25,26] ?_
    refine Yh 98 H (fun c62 H=>?_) fun c62 H=>?_
    ·refine Zu [27,28,29,30,31,32,33] ?_
     refine Zw [3,9,105] ?_
     have h141:=Zb h140 [3]
     replace h141:=nf h141
     refine Zp ?_
     refine J.seq (Zc [10] ?_)
     refine J.ret ?_
     cases H
     exact ⟨_,_,_,Za,⟨rfl,rfl⟩,Zb h141 []⟩
    refine Zu [27,28,29,30,31,32,33] ?_
    refine Zw [3,9,105] ?_
    have h142:=Zb h140 [3]
    replace h142:=nf h142
    refine Zp ?_
    refine J.seq (Zc [10] ?_)
    refine J.ret ?_
    cases H
    exact ⟨_,_,_,Za,⟨rfl,rfl⟩,Zb h142 []⟩
   refine Zu [18,19,20,21,22,23,24,25,26] ?_
   refine Y7 98 (congrArg Value.bool c60) ?_
   refine Zu [27,28,29,30,31,32,33] ?_
   refine Zw [3,9,105] ?_
   have h143:=Zb h139 [3]
   replace h143:=nf h143
   refine Zp ?_
   refine J.seq (Zc [10] ?_)
   refine J.ret ?_
   cases H
   exact ⟨_,_,_,Za,⟨rfl,rfl⟩,Zb h143 []⟩
  rw [ho14] at ho13
  obtain ⟨b54,b55,b56,A38,c_38,A39,c_39,b57,A40,c_40,b58,A41,c_41,b59,b60,A42,c_42,rfl,rfl⟩:=ho13
  replace H:=Y5 ho14 H
  obtain ⟨c56,H⟩:=Zt H
  replace h131:=nf h131
  refine Zi [3,5,9,11,12,13,14,15,16] rfl ?_
  refine J.seq (J.seq (J.region ?_))
  refine Zh 3 ?_
  refine Z8 52 (congrArg Value.bool c26) ?_
  refine Zi [3,5,9,11,13,14,16,55] rfl ?_
  have h144:=Zb h131 [12,12,13,13]
  replace h144:=nf h144
  refine Zp ?_
  refine J.seq (Zc [10] ?_)
  have h145:=Zb h144 []
  replace h145:=nf h145
  refine J.ret ?_
  cases H
  exact ⟨_,_,_,Za,⟨rfl,rfl⟩,Zb h145 []⟩
 refine Zi [0,1,14] rfl ?_
 refine jIf H (fun c63 H=>?_) fun c63 H=>?_
 ·refine J.seq (Zc [4,5] ?_)
  refine J.ret (⟨_,Za,?_⟩)
  refine Zi [1,2,7,8] rfl ?_
  refine J.seq (J.seq (Zc [1,2,7,8,23] ?_))
  refine Zp ?_
  refine J.seq (Zc [4,5] ?_)
  refine J.ret (⟨_,Za,?_⟩)
  refine Zi [3,5,9,11,12,13,14] rfl ?_
  refine J.seq (J.region ?_)
  refine Zg (Zd 4 h117.wht) ?_
  obtain ⟨r49,q42,H⟩:=Zn H
  refine Ze (Zf [] (Q80.spec q42) h117 rfl Zs) ?_
  rintro _ w72 ⟨_,⟨v8,l8,ho15,rfl,rfl⟩,h146⟩
  rcases ho16:r49.1 with _ | r50
  ·rw [ho16] at ho15
   obtain ⟨rfl,rfl⟩:=ho15
   replace H:=Y6 ho16 H
   obtain ⟨c64,H⟩:=Zt H
   replace h146:=nf h146
   refine Zi [3,5,9,11,12,13,14,15,16] rfl ?_
   refine J.seq (J.seq (J.region ?_))
   refine Zh 3 ?_
   refine Z8 52 (congrArg Value.bool c26) ?_
   refine Zi [3,5,9,11,13,14,16,55] rfl ?_
   refine Zz ?_
   refine J.skip (J.seq (J.seq (J.region ?_)))
   refine Zg (Zd 4 h146.wht) ?_
   obtain ⟨r51,q43,H⟩:=Zn H
   refine Ze (Zf [] (Q138.spec q43) h146 rfl Zs) ?_
   rintro _ w73 ⟨_,⟨rfl,rfl⟩,h147⟩
   replace h147:=nf h147
   refine Zi [3,5,9,11,13,14,16,58] rfl ?_
   refine jIf H (fun c66 H=>?_) fun c66 H=>?_
   ·refine J.seq (J.region ?_)
    refine Zh 11 ?_
    refine Z7 69 H (fun c67 H=>?_) fun c67 H=>?_
    ·obtain ⟨r52,q44,H⟩:=Zn H
     refine Ze (Zf [] (Q134.spec q44) h147 rfl (Z0 (Zm 9) Zs)) ?_
     rintro _ w74 ⟨_,⟨rfl,rfl⟩,h148⟩
     replace h148:=nf h148
     refine Zi [10] rfl ?_
     have h149:=Zb h148 []
     replace h149:=nf h149
     refine J.ret ?_
     cases H
     exact ⟨_,_,_,Za,⟨rfl,rfl⟩,Zb h149 []⟩
    refine Zi [10] rfl ?_
    have h150:=Zb h147 []
    replace h150:=nf h150
    refine J.ret ?_
    cases H
    exact ⟨_,_,_,Za,⟨rfl,rfl⟩,Zb h150 []⟩
   refine J.skip (J.seq (J.seq ?_))
   refine Zv h147 ?_
   have h151:=h147.drew
   refine Zu [0,1,2] ?_
   refine Yh 74 H (fun c68 H=>?_) fun c68 H=>?_
   ·refine Zu [3,4,5,6,7,8,9,10,11,12,13,14,15,16,17,18,19,20,21,22,23,24,25,26,27,28,29,30,31,32,33] ?_
    refine Zw [3,9,105] ?_
    have h152:=Zb h151 [3]
    replace h152:=nf h152
    refine Zp ?_
    refine J.seq (Zc [10] ?_)
    refine J.ret ?_
    cases H
    exact ⟨_,_,_,Za,⟨rfl,rfl⟩,Zb h152 []⟩
   refine Zu [3,4,5,6,7,8,9] ?_
   refine Yh 81 H (fun c69 H=>?_) fun c69 H=>?_
   ·refine Zu [10,11,12,13,14,15,16,17,18,19,20,21,22,23,24,25,26,27,28,29,30,31,32,33] ?_
    refine Zw [3,9,105] ?_
    have h153:=Zb h151 [3]
    replace h153:=nf h153
    refine Zp ?_
    refine J.seq (Zc [10] ?_)
    refine J.ret ?_
    cases H
    exact ⟨_,_,_,Za,⟨rfl,rfl⟩,Zb h153 []⟩
   refine Zu [10,11,12,14] ?_
   refine Zj 15 rfl (Zd 4 wI) ?_
   obtain ⟨r53,q45,H⟩:=Zn H
   refine Zq 13 rfl (Zf [0,0] (Q50.spec q45) h151 rfl Zs) ?_
   rintro _ w75 ⟨_,⟨rfl,rfl⟩,h154⟩
   replace h154:=nf h154
   refine ⟨⟨[],h154⟩,?_⟩
   refine Zu [16,17] ?_
   refine Yh 89 H (fun c70 H=>?_) fun c70 H=>?_
   ·refine Zu [18,20] ?_
    refine Zj 21 rfl (Zd 4 wI) ?_
    obtain ⟨r54,q46,H⟩:=Zn H
    refine Zq 19 rfl (Zf [0,0] (Q51.spec q46) h154 rfl Zs) ?_
    rintro _ w76 ⟨_,⟨rfl,rfl⟩,h155⟩
    replace h155:=nf h155
    refine ⟨⟨[],h155⟩,?_⟩
    refine Zu [22,23,24,25,26] ?_
    refine Yh 98 H (fun c71 H=>?_) fun c71 H=>?_
    ·refine Zu [27,28,29,30,31,32,33] ?_
     refine Zw [3,9,105] ?_
     have h156:=Zb h155 [3]
     replace h156:=nf h156
     refine Zp ?_
     refine J.seq (Zc [10] ?_)
     refine J.ret ?_
     cases H
     exact ⟨_,_,_,Za,⟨rfl,rfl⟩,Zb h156 []⟩
    refine Zu [27,28,29,30,31,32,33] ?_
    refine Zw [3,9,105] ?_
    have h157:=Zb h155 [3]
    replace h157:=nf h157
    refine Zp ?_
    refine J.seq (Zc [10] ?_)
    refine J.ret ?_
    cases H
    exact ⟨_,_,_,Za,⟨rfl,rfl⟩,Zb h157 []⟩
   refine Zu [18,19,20,21,22,23,24,25,26] ?_
   refine Y7 98 (congrArg Value.bool c69) ?_
   refine Zu [27,28,29,30,31,32,33] ?_
   refine Zw [3,9,105] ?_
   have h158:=Zb h154 [3]
   replace h158:=nf h158
   refine Zp ?_
   refine J.seq (Zc [10] ?_)
   refine J.ret ?_
   cases H
   exact ⟨_,_,_,Za,⟨rfl,rfl⟩,Zb h158 []⟩
  rw [ho16] at ho15
  obtain ⟨b61,b62,b63,A43,c_43,A44,c_44,b64,A45,c_45,b65,A46,c_46,b66,b67,A47,c_47,rfl,rfl⟩:=ho15
  replace H:=Y5 ho16 H
  obtain ⟨c65,H⟩:=Zt H
  replace h146:=nf h146
  refine Zi [3,5,9,11,12,13,14,15,16] rfl ?_
  refine J.seq (J.seq (J.region ?_))
  refine Zh 3 ?_
  refine Z8 52 (congrArg Value.bool c26) ?_
  refine Zi [3,5,9,11,13,14,16,55] rfl ?_
  have h159:=Zb h146 [12,12,13,13]
  replace h159:=nf h159
  refine Zp ?_
  refine J.seq (Zc [10] ?_)
  have h160:=Zb h159 []
  replace h160:=nf h160
  refine J.ret ?_
  cases H
  exact ⟨_,_,_,Za,⟨rfl,rfl⟩,Zb h160 []⟩
 refine J.skip (J.seq (J.region ?_))
 refine Zh 1 ?_
 obtain ⟨r55,q47,H⟩:=Zn H
 refine Ze (Zf [] (Q31.spec q47) h117 rfl Zs) ?_
 rintro _ w77 ⟨_,⟨v9,l9,ho17,rfl,rfl⟩,h161⟩
 rcases ho18:r55.1 with _ | r56
 ·rw [ho18] at ho17
  obtain ⟨rfl,rfl⟩:=ho17
  replace H:=Y6 ho18 H
  obtain ⟨c72,H⟩:=Zt H
  replace h161:=nf h161
  refine Zi [0,1,6,7] rfl ?_
  refine J.seq (J.seq (Zc [0,1,6,7,27] ?_))
  refine J.cond rfl (fun e=>?_) (fun e=>by rw [c72] at e; cases e)
  refine J.seq (Zc [4,5] ?_)
  refine J.ret (⟨_,Za,?_⟩)
  refine Zi [1,2,7,8] rfl ?_
  refine J.seq (J.seq (Zc [1,2,7,8,23] ?_))
  refine J.cond rfl (fun e=>?_) (fun e=>by rw [c72] at e; cases e)
  refine J.seq (Zc [4,5] ?_)
  refine J.ret (⟨_,Za,?_⟩)
  refine Zi [3,5,9,11,12,13,14] rfl ?_
  refine J.seq (J.region ?_)
  refine Zg (Zd 4 h161.wht) ?_
  obtain ⟨r57,q48,H⟩:=Zn H
  refine Ze (Zf [] (Q80.spec q48) h161 rfl Zs) ?_
  rintro _ w78 ⟨_,⟨v10,l10,ho19,rfl,rfl⟩,h162⟩
  rcases ho20:r57.1 with _ | r58
  ·rw [ho20] at ho19
   obtain ⟨rfl,rfl⟩:=ho19
   replace H:=Y6 ho20 H
   obtain ⟨c74,H⟩:=Zt H
   replace h162:=nf h162
   refine Zi [3,5,9,11,12,13,14,15,16] rfl ?_
   refine J.seq (J.seq (J.region ?_))
   refine Zh 3 ?_
   refine Z8 52 (congrArg Value.bool c26) ?_
   refine Zi [3,5,9,11,13,14,16,55] rfl ?_
   refine Zz ?_
   refine J.skip (J.seq (J.seq (J.region ?_)))
   refine Zg (Zd 4 h162.wht) ?_
   obtain ⟨r59,q49,H⟩:=Zn H
   refine Ze (Zf [] (Q138.spec q49) h162 rfl Zs) ?_
   rintro _ w79 ⟨_,⟨rfl,rfl⟩,h163⟩
   replace h163:=nf h163
   refine Zi [3,5,9,11,13,14,16,58] rfl ?_
   refine jIf H (fun c76 H=>?_) fun c76 H=>?_
   ·refine J.seq (J.region ?_)
    refine Zh 7 ?_
    refine Z7 65 H (fun c77 H=>?_) fun c77 H=>?_
    ·refine Zh 4 ?_
     refine Z7 69 H (fun c78 H=>?_) fun c78 H=>?_
     ·obtain ⟨r60,q50,H⟩:=Zn H
      refine Ze (Zf [] (Q134.spec q50) h163 rfl (Z0 (Zm 9) Zs)) ?_
      rintro _ w80 ⟨_,⟨rfl,rfl⟩,h164⟩
      replace h164:=nf h164
      refine Zi [10] rfl ?_
      have h165:=Zb h164 []
      replace h165:=nf h165
      refine J.ret ?_
      cases H
      exact ⟨_,_,_,Za,⟨rfl,rfl⟩,Zb h165 []⟩
     refine Zi [10] rfl ?_
     have h166:=Zb h163 []
     replace h166:=nf h166
     refine J.ret ?_
     cases H
     exact ⟨_,_,_,Za,⟨rfl,rfl⟩,Zb h166 []⟩
    refine Zi [10] rfl ?_
    have h167:=Zb h163 []
    replace h167:=nf h167
    refine J.ret ?_
    cases H
    exact ⟨_,_,_,Za,⟨rfl,rfl⟩,Zb h167 []⟩
   refine J.skip (J.seq (J.seq ?_))
   refine Zv h163 ?_
   have h168:=h163.drew
   refine Zu [0,1,2] ?_
   refine Yh 74 H (fun c79 H=>?_) fun c79 H=>?_
   ·refine Zu [3,4,5,6,7,8,9,10,11,12,13,14,15,16,17,18,19,20,21,22,23,24,25,26,27,28,29,30,31,32,33] ?_
    refine Zw [3,9,105] ?_
    have h169:=Zb h168 [3]
    replace h169:=nf h169
    refine Zp ?_
    refine J.seq (Zc [10] ?_)
    refine J.ret ?_
    cases H
    exact ⟨_,_,_,Za,⟨rfl,rfl⟩,Zb h169 []⟩
   refine Zu [3,4,5,6,7,8,9] ?_
   refine Yh 81 H (fun c80 H=>?_) fun c80 H=>?_
   ·refine Zu [10,11,12,13,14,15,16,17,18,19,20,21,22,23,24,25,26,27,28,29,30,31,32,33] ?_
    refine Zw [3,9,105] ?_
    have h170:=Zb h168 [3]
    replace h170:=nf h170
    refine Zp ?_
    refine J.seq (Zc [10] ?_)
    refine J.ret ?_
    cases H
    exact ⟨_,_,_,Za,⟨rfl,rfl⟩,Zb h170 []⟩
   refine Zu [10,11,12,14] ?_
   refine Zj 15 rfl (Zd 4 wI) ?_
   obtain ⟨r61,q51,H⟩:=Zn H
   refine Zq 13 rfl (Zf [0,0] (Q50.spec q51) h168 rfl Zs) ?_
   rintro _ w81 ⟨_,⟨rfl,rfl⟩,h171⟩
   replace h171:=nf h171
   refine ⟨⟨[],h171⟩,?_⟩
   refine Zu [16,17] ?_
   refine Yh 89 H (fun c81 H=>?_) fun c81 H=>?_
   ·refine Zu [18,20] ?_
    refine Zj 21 rfl (Zd 4 wI) ?_
    obtain ⟨r62,q52,H⟩:=Zn H
    refine Zq 19 rfl (Zf [0,0] (Q51.spec q52) h171 rfl Zs) ?_
    rintro _ w82 ⟨_,⟨rfl,rfl⟩,h172⟩
    replace h172:=nf h172
    refine ⟨⟨[],h172⟩,?_⟩
    refine Zu [22,23,24,25,26] ?_
    refine Yh 98 H (fun c82 H=>?_) fun c82 H=>?_
    ·refine Zu [27,28,29,30,31,32,33] ?_
     refine Zw [3,9,105] ?_
     have h173:=Zb h172 [3]
     replace h173:=nf h173
     refine Zp ?_
     refine J.seq (Zc [10] ?_)
     refine J.ret ?_
     cases H
     exact ⟨_,_,_,Za,⟨rfl,rfl⟩,Zb h173 []⟩
    refine Zu [27,28,29] ?_
    refine Y7 101 (congrArg Value.bool c72) ?_
    refine Zu [30,31,32,33] ?_
    refine Zw [3,9,105] ?_
    have h174:=Zb h172 [3]
    replace h174:=nf h174
    refine jIf H (fun c83 H=>?_) fun c83 H=>?_
    ·refine J.seq (Zc [10] ?_)
     refine J.ret ?_
     cases H
     exact ⟨_,_,_,Za,⟨rfl,rfl⟩,Zb h174 []⟩
    refine J.skip (Y8 [3,9] ?_)
    have h175:=(sOR h174 [0] [0,1,2,3,4])
    exact ht _ _ ⟨k,b16,rfl,h175,H,Nat.le_refl _⟩
   refine Zu [18,19,20,21,22,23,24,25,26] ?_
   refine Yh 98 H (fun c84 H=>?_) fun c84 H=>?_
   ·refine Zu [27,28,29,30,31,32,33] ?_
    refine Zw [3,9,105] ?_
    have h176:=Zb h171 [3]
    replace h176:=nf h176
    refine Zp ?_
    refine J.seq (Zc [10] ?_)
    refine J.ret ?_
    cases H
    exact ⟨_,_,_,Za,⟨rfl,rfl⟩,Zb h176 []⟩
   refine Zu [27,28,29] ?_
   refine Y7 101 (congrArg Value.bool c72) ?_
   refine Zu [30,31,32,33] ?_
   refine Zw [3,9,105] ?_
   have h177:=Zb h171 [3]
   replace h177:=nf h177
   refine jIf H (fun c85 H=>?_) fun c85 H=>?_
   ·refine J.seq (Zc [10] ?_)
    refine J.ret ?_
    cases H
    exact ⟨_,_,_,Za,⟨rfl,rfl⟩,Zb h177 []⟩
   refine J.skip (Y8 [3,9] ?_)
   have h178:=(sOR h177 [0] [0,1,2,3,4])
   exact ht _ _ ⟨k,b16,rfl,h178,H,Nat.le_refl _⟩
  rw [ho20] at ho19
  obtain ⟨b68,b69,b70,A48,c_48,A49,c_49,b71,A50,c_50,b72,A51,c_51,b73,b74,A52,c_52,rfl,rfl⟩:=ho19
  replace H:=Y5 ho20 H
  obtain ⟨c75,H⟩:=Zt H
  replace h162:=nf h162
  refine Zi [3,5,9,11,12,13,14,15,16] rfl ?_
  refine J.seq (J.seq (J.region ?_))
  refine Zh 3 ?_
  refine Z8 52 (congrArg Value.bool c26) ?_
  refine Zi [3,5,9,11,13,14,16,55] rfl ?_
  have h179:=Zb h162 [12,12,13,13]
  replace h179:=nf h179
  refine Zp ?_
  refine J.seq (Zc [10] ?_)
  have h180:=Zb h179 []
  replace h180:=nf h180
  refine J.ret ?_
  cases H
  exact ⟨_,_,_,Za,⟨rfl,rfl⟩,Zb h180 []⟩
 rw [ho18] at ho17
 obtain ⟨b75,A53,c_53,rfl,rfl⟩:=ho17
 replace H:=Y5 ho18 H
 obtain ⟨c73,H⟩:=Zt H
 replace h161:=nf h161
 refine Zi [0,1,6,7] rfl ?_
 refine J.seq (J.seq (Zc [0,1,6,7,27] ?_))
 refine J.cond rfl (fun e=>by rw [c73] at e; cases e) (fun e=>?_)
 refine J.skip (J.seq (J.region ?_))
 refine Zh 2 ?_
 obtain ⟨⟨p1,p2⟩,H⟩:=Zt H
 refine Ze (V7 Yu (ty:=(.pair (.int .u32) (.pair (.slice 5 (.int .u8)) (.pair .bool (.int .i64))))) ((0,([]:List (Int)),false,0):Int×List (Int)×Bool×Int) rfl rfl rfl rfl rfl rfl (fun _ _=>Zaj ⟨none,0,rfl,Nat.le_refl _,.inl rfl⟩) (by decide) h161 p1 p2) ?_
 rintro _ w83 ⟨b76,rfl,h181⟩
 replace h181:=nf h181
 refine Ze (Vk .u32 (Value.int .i64) h181) ?_
 rintro _ w84 ⟨b77,rfl,h182⟩
 replace h182:=nf h182
 refine Zh 2 ?_
 refine Ze (Ye h182) ?_
 rintro _ w85 ⟨b78,rfl,h183⟩
 replace h183:=nf h183
 refine Zi [1,8] rfl ?_
 refine J.seq (J.seq (Zc [8,36,37] ?_))
 refine J.block ?_
 have h262:=h183.addNil 3 (.int .i64)
 have h263:=(sOR h262 [1,5,1,2,6,5,4,3,1,0,0] [0,1,2,3,4])
 refine J.loop (fun kk env w=>∃(x1:List (Int)) (A54:Option Addr) (c_54:Nat) (x2:Int),env=[(8,.pointer (some ⟨b78,0,none⟩)),(36,.int .i64 a0.2.2.1),(37,.int .i64 x2)]∧St w0 F0 [Yo b78 (.pointer (some ⟨b38,0,none⟩)) (List.replicate a0.2.2.1.toNat ((0,([]:List (Int)),false,0):Int×List (Int)×Bool×Int)) (some ⟨b76,0,none⟩) (a0.2.2.1.toNat) (.map (some b77)) x1 A54 c_54 (.pointer (some ⟨b75,0,none⟩)),Yi b38 r23.1 r23.2.1 A27 c_27 r23.2.2.1 r23.2.2.2,Yj .u32 (Value.int .i64) b77 ([]:List (Int×Int)),Ya b75 r56.1 A53 c_53 r56.2,X23 b15 a0.1 a0.2.1 a0.2.2.1 a0.2.2.2.1 a0.2.2.2.2.1 a0.2.2.2.2.2.1 a0.2.2.2.2.2.2.1 a0.2.2.2.2.2.2.2,X43 b16 a4.1 a4.2.1 A1 c_1 a4.2.2.1 A2 c_2 a4.2.2.2.1 A3 c_3 a4.2.2.2.2 A4 c_4,X23 b39 a0.1 a0.2.1 a0.2.2.1 a0.2.2.2.1 a0.2.2.2.2.1 a0.2.2.2.2.2.1 a0.2.2.2.2.2.2.1 a0.2.2.2.2.2.2.2,O5 r23.2.1 A27 c_27,Yp (List.replicate a0.2.2.1.toNat ((0,([]:List (Int)),false,0):Int×List (Int)×Bool×Int)) (some ⟨b76,0,none⟩) (a0.2.2.1.toNat),O3 x1 A54 c_54,Yb r56.1 A53 c_53] [R33 a4.2.1 A1 c_1,R9 a4.2.2.1 A2 c_2,Xl a4.2.2.2.1 A3 c_3,Xk a4.2.2.2.2 A4 c_4,tabC 0] w∧Q133.l2 kk a0 a3 a4 r23 x1 x2=some r∧kk≤k) (k:=k) ⟨([]:List (Int)),none,0,0,rfl,h263,H,Nat.le_refl _⟩ ?_
 rintro k3 env w86 ⟨x1,A54,c_54,x2,rfl,h184,H,hk3⟩
 rcases k3 with _ | k3
 ·exact z0 H
 rw [Q133.l2] at H
 refine J.seq (Zc [8,36,37,38] ?_)
 refine J.seq (jIf H (fun c86 H=>?_) fun c86 H=>?_)
 ·refine J.skip (J.seq (J.block (J.seq (Zc [8,9,36,37] ?_))))
  refine J.region (Zh 4 ?_)
  refine Zg (Zd 0 h184.wht) ?_
  refine Zh 1 ?_
  refine Ze (Xc (.int .i64) ([x2]:List (Int)) h184) ?_
  rintro _ w87 ⟨b79,rfl,h185⟩
  replace h185:=nf h185
  obtain ⟨p3,H⟩:=Zt H
  refine Ze (Yr 10 h185 (gO 0) p3) ?_
  rintro _ w88 ⟨A55,c_55,rfl,h186⟩
  replace h186:=nf h186
  refine Zh 2 ?_
  refine Ze (Z3 2 h186) ?_
  intro _ w89 h187
  replace h187:=nf h187
  refine Zi [8,36,37] rfl ?_
  refine Zc [8,36,37] ?_
  have h188:=(sOR h187 [0,2,2,2,2,2,2,2,2,0,1] [0,1,2,3,4])
  exact ⟨k3,by omega,(x1 ++ ([x2]:List (Int))),A55,c_55,(w64 (x2+1)),rfl,h188,H,by omega⟩
 refine J.exit (J.seq (Zc [4,5] ?_))
 refine J.ret (⟨_,Za,?_⟩)
 refine Zi [1,2,7,8] rfl ?_
 refine J.seq (J.seq (Zc [1,2,7,8,23] ?_))
 refine Zz ?_
 refine J.skip (J.seq (J.seq ?_))
 refine Zv h184 ?_
 have h189:=h184.drew
 refine Zu [0,2] ?_
 refine Zj 3 rfl (Zd 6 wI) ?_
 obtain ⟨r63,q53,H⟩:=Zn H
 refine Zq 1 rfl (Zf [1,6] (Q50.spec q53) h189 rfl Zs) ?_
 rintro _ w90 ⟨_,⟨rfl,rfl⟩,h190⟩
 replace h190:=nf h190
 refine ⟨⟨[],(Zb h190 [2,0,1,1,1,1,1,0,0,0,0])⟩,?_⟩
 refine Zu [4,5] ?_
 refine Yh 30 H (fun c87 H=>?_) fun c87 H=>?_
 ·refine Zu [6,7,8,9,10,11] ?_
  refine Zw [1,2,7,36] ?_
  refine Zp ?_
  refine J.seq (Zc [4,5] ?_)
  refine J.ret (⟨_,Za,?_⟩)
  refine Zi [3,5,9,11,12,13,14] rfl ?_
  have h191:=Zb h190 [0,0,3,3]
  replace h191:=nf h191
  refine J.seq (J.region ?_)
  refine Zg (Zd 2 h191.wht) ?_
  obtain ⟨r64,q54,H⟩:=Zn H
  refine Ze (Zf [] (Q80.spec q54) h191 rfl Zs) ?_
  rintro _ w91 ⟨_,⟨v11,l11,ho21,rfl,rfl⟩,h192⟩
  rcases ho22:r64.1 with _ | r65
  ·rw [ho22] at ho21
   obtain ⟨rfl,rfl⟩:=ho21
   replace H:=Y6 ho22 H
   obtain ⟨c88,H⟩:=Zt H
   replace h192:=nf h192
   refine Zi [3,5,9,11,12,13,14,15,16] rfl ?_
   refine J.seq (J.seq (J.region ?_))
   refine Zh 3 ?_
   refine Z8 52 (congrArg Value.bool c26) ?_
   refine Zi [3,5,9,11,13,14,16,55] rfl ?_
   refine Zz ?_
   refine J.skip (J.seq (J.seq (J.region ?_)))
   refine Zg (Zd 2 h192.wht) ?_
   obtain ⟨r66,q55,H⟩:=Zn H
   refine Ze (Zf [] (Q138.spec q55) h192 rfl Zs) ?_
   rintro _ w92 ⟨_,⟨rfl,rfl⟩,h193⟩
   replace h193:=nf h193
   refine Zi [3,5,9,11,13,14,16,58] rfl ?_
   refine jIf H (fun c90 H=>?_) fun c90 H=>?_
   ·refine J.seq (Zc [10] ?_)
    have h194:=Zb h193 []
    replace h194:=nf h194
    refine J.ret ?_
    cases H
    exact ⟨_,_,_,Za,⟨rfl,rfl⟩,Zb h194 []⟩
   refine J.skip (J.seq (J.seq ?_))
   refine Zv h193 ?_
   have h195:=h193.drew
   refine Zu [0,1,2] ?_
   refine Yh 74 H (fun c91 H=>?_) fun c91 H=>?_
   ·refine Zu [3,4,5,6,7,8,9,10,11,12,13,14,15,16,17,18,19,20,21,22,23,24,25,26,27,28,29,30,31,32,33] ?_
    refine Zw [3,9,105] ?_
    have h196:=Zb h195 [3]
    replace h196:=nf h196
    refine Zp ?_
    refine J.seq (Zc [10] ?_)
    refine J.ret ?_
    cases H
    exact ⟨_,_,_,Za,⟨rfl,rfl⟩,Zb h196 []⟩
   refine Zu [3,4,5,6,7,8,9] ?_
   refine Yh 81 H (fun c92 H=>?_) fun c92 H=>?_
   ·refine Zu [10,11,12,13,14,15,16,17,18,19,20,21,22,23,24,25,26,27,28,29,30,31,32,33] ?_
    refine Zw [3,9,105] ?_
    have h197:=Zb h195 [3]
    replace h197:=nf h197
    refine Zp ?_
    refine J.seq (Zc [10] ?_)
    refine J.ret ?_
    cases H
    exact ⟨_,_,_,Za,⟨rfl,rfl⟩,Zb h197 []⟩
   refine Zu [10,11,12,14] ?_
   refine Zj 15 rfl (Zd 2 wI) ?_
   obtain ⟨r67,q56,H⟩:=Zn H
   refine Zq 13 rfl (Zf [0,0] (Q50.spec q56) h195 rfl Zs) ?_
   rintro _ w93 ⟨_,⟨rfl,rfl⟩,h198⟩
   replace h198:=nf h198
   refine ⟨⟨[],h198⟩,?_⟩
   refine Zu [16,17] ?_
   refine Yh 89 H (fun c93 H=>?_) fun c93 H=>?_
   ·refine Zu [18,20] ?_
    refine Zj 21 rfl (Zd 2 wI) ?_
    obtain ⟨r68,q57,H⟩:=Zn H
    refine Zq 19 rfl (Zf [0,0] (Q51.spec q57) h198 rfl Zs) ?_
    rintro _ w94 ⟨_,⟨rfl,rfl⟩,h199⟩
    replace h199:=nf h199
    refine ⟨⟨[],h199⟩,?_⟩
    refine Zu [22,23,24,25,26] ?_
    refine Yh 98 H (fun c94 H=>?_) fun c94 H=>?_
    ·refine Zu [27,28,29,30,31,32,33] ?_
     refine Zw [3,9,105] ?_
     have h200:=Zb h199 [3]
     replace h200:=nf h200
     refine Zp ?_
     refine J.seq (Zc [10] ?_)
     refine J.ret ?_
     cases H
     exact ⟨_,_,_,Za,⟨rfl,rfl⟩,Zb h200 []⟩
    refine Zu [27,28,29,30,31,32,33] ?_
    refine Zw [3,9,105] ?_
    have h201:=Zb h199 [3]
    replace h201:=nf h201
    refine Zz ?_
    refine J.skip (Y8 [3,9] ?_)
    have h202:=(sOR h201 [0] [0,1,2,3,4])
    exact ht _ _ ⟨k3,b16,rfl,h202,H,by omega⟩
   refine Zu [18,19,20,21,22,23,24,25,26] ?_
   refine Y7 98 (congrArg Value.bool c92) ?_
   refine Zu [27,28,29,30,31,32,33] ?_
   refine Zw [3,9,105] ?_
   have h203:=Zb h198 [3]
   replace h203:=nf h203
   refine Zz ?_
   refine J.skip (Y8 [3,9] ?_)
   have h204:=(sOR h203 [0] [0,1,2,3,4])
   exact ht _ _ ⟨k3,b16,rfl,h204,H,by omega⟩
  rw [ho22] at ho21
  obtain ⟨b80,b81,b82,A56,c_56,A57,c_57,b83,A58,c_58,b84,A59,c_59,b85,b86,A60,c_60,rfl,rfl⟩:=ho21
  replace H:=Y5 ho22 H
  obtain ⟨c89,H⟩:=Zt H
  replace h192:=nf h192
  refine Zi [3,5,9,11,12,13,14,15,16] rfl ?_
  refine J.seq (J.seq (J.region ?_))
  refine Zh 3 ?_
  refine Z8 52 (congrArg Value.bool c26) ?_
  refine Zi [3,5,9,11,13,14,16,55] rfl ?_
  have h205:=Zb h192 [12,12,12,12]
  replace h205:=nf h205
  refine Zp ?_
  refine J.seq (Zc [10] ?_)
  have h206:=Zb h205 []
  replace h206:=nf h206
  refine J.ret ?_
  cases H
  exact ⟨_,_,_,Za,⟨rfl,rfl⟩,Zb h206 []⟩
 refine Zu [6,8] ?_
 refine Zj 9 rfl (Zd 6 wI) ?_
 obtain ⟨r69,q58,H⟩:=Zn H
 refine Zq 7 rfl (Zf [0,0] (Q51.spec q58) h190 rfl Zs) ?_
 rintro _ w95 ⟨_,⟨rfl,rfl⟩,h207⟩
 replace h207:=nf h207
 refine ⟨⟨[],(Zb h207 [2,0,1,1,1,1,1,0,0,0,0])⟩,?_⟩
 refine Zu [10,11] ?_
 refine Zw [1,2,7,36] ?_
 refine jIf H (fun c95 H=>?_) fun c95 H=>?_
 ·refine J.seq (Zc [4,5] ?_)
  refine J.ret (⟨_,Za,?_⟩)
  refine Zi [3,5,9,11,12,13,14] rfl ?_
  have h208:=Zb h207 [0,0,3,3]
  replace h208:=nf h208
  refine J.seq (J.region ?_)
  refine Zg (Zd 2 h208.wht) ?_
  obtain ⟨r70,q59,H⟩:=Zn H
  refine Ze (Zf [] (Q80.spec q59) h208 rfl Zs) ?_
  rintro _ w96 ⟨_,⟨v12,l12,ho23,rfl,rfl⟩,h209⟩
  rcases ho24:r70.1 with _ | r71
  ·rw [ho24] at ho23
   obtain ⟨rfl,rfl⟩:=ho23
   replace H:=Y6 ho24 H
   obtain ⟨c96,H⟩:=Zt H
   replace h209:=nf h209
   refine Zi [3,5,9,11,12,13,14,15,16] rfl ?_
   refine J.seq (J.seq (J.region ?_))
   refine Zh 3 ?_
   refine Z8 52 (congrArg Value.bool c26) ?_
   refine Zi [3,5,9,11,13,14,16,55] rfl ?_
   refine Zz ?_
   refine J.skip (J.seq (J.seq (J.region ?_)))
   refine Zg (Zd 2 h209.wht) ?_
   obtain ⟨r72,q60,H⟩:=Zn H
   refine Ze (Zf [] (Q138.spec q60) h209 rfl Zs) ?_
   rintro _ w97 ⟨_,⟨rfl,rfl⟩,h210⟩
   replace h210:=nf h210
   refine Zi [3,5,9,11,13,14,16,58] rfl ?_
   refine jIf H (fun c98 H=>?_) fun c98 H=>?_
   ·refine J.seq (Zc [10] ?_)
    have h211:=Zb h210 []
    replace h211:=nf h211
    refine J.ret ?_
    cases H
    exact ⟨_,_,_,Za,⟨rfl,rfl⟩,Zb h211 []⟩
   refine J.skip (J.seq (J.seq ?_))
   refine Zv h210 ?_
   have h212:=h210.drew
   refine Zu [0,1,2] ?_
   refine Yh 74 H (fun c99 H=>?_) fun c99 H=>?_
   ·refine Zu [3,4,5,6,7,8,9,10,11,12,13,14,15,16,17,18,19,20,21,22,23,24,25,26,27,28,29,30,31,32,33] ?_
    refine Zw [3,9,105] ?_
    have h213:=Zb h212 [3]
    replace h213:=nf h213
    refine Zp ?_
    refine J.seq (Zc [10] ?_)
    refine J.ret ?_
    cases H
    exact ⟨_,_,_,Za,⟨rfl,rfl⟩,Zb h213 []⟩
   refine Zu [3,4,5,6,7,8,9] ?_
   refine Yh 81 H (fun c100 H=>?_) fun c100 H=>?_
   ·refine Zu [10,11,12,13,14,15,16,17,18,19,20,21,22,23,24,25,26,27,28,29,30,31,32,33] ?_
    refine Zw [3,9,105] ?_
    have h214:=Zb h212 [3]
    replace h214:=nf h214
    refine Zp ?_
    refine J.seq (Zc [10] ?_)
    refine J.ret ?_
    cases H
    exact ⟨_,_,_,Za,⟨rfl,rfl⟩,Zb h214 []⟩
   refine Zu [10,11,12,14] ?_
   refine Zj 15 rfl (Zd 2 wI) ?_
   obtain ⟨r73,q61,H⟩:=Zn H
   refine Zq 13 rfl (Zf [0,0] (Q50.spec q61) h212 rfl Zs) ?_
   rintro _ w98 ⟨_,⟨rfl,rfl⟩,h215⟩
   replace h215:=nf h215
   refine ⟨⟨[],h215⟩,?_⟩
   refine Zu [16,17] ?_
   refine Yh 89 H (fun c101 H=>?_) fun c101 H=>?_
   ·refine Zu [18,20] ?_
    refine Zj 21 rfl (Zd 2 wI) ?_
    obtain ⟨r74,q62,H⟩:=Zn H
    refine Zq 19 rfl (Zf [0,0] (Q51.spec q62) h215 rfl Zs) ?_
    rintro _ w99 ⟨_,⟨rfl,rfl⟩,h216⟩
    replace h216:=nf h216
    refine ⟨⟨[],h216⟩,?_⟩
    refine Zu [22,23,24,25,26] ?_
    refine Yh 98 H (fun c102 H=>?_) fun c102 H=>?_
    ·refine Zu [27,28,29,30,31,32,33] ?_
     refine Zw [3,9,105] ?_
     have h217:=Zb h216 [3]
     replace h217:=nf h217
     refine Zp ?_
     refine J.seq (Zc [10] ?_)
     refine J.ret ?_
     cases H
     exact ⟨_,_,_,Za,⟨rfl,rfl⟩,Zb h217 []⟩
    refine Zu [27,28,29,30,31,32,33] ?_
    refine Zw [3,9,105] ?_
    have h218:=Zb h216 [3]
    replace h218:=nf h218
    refine Zz ?_
    refine J.skip (Y8 [3,9] ?_)
    have h219:=(sOR h218 [0] [0,1,2,3,4])
    exact ht _ _ ⟨k3,b16,rfl,h219,H,by omega⟩
   refine Zu [18,19,20,21,22,23,24,25,26] ?_
   refine Y7 98 (congrArg Value.bool c100) ?_
   refine Zu [27,28,29,30,31,32,33] ?_
   refine Zw [3,9,105] ?_
   have h220:=Zb h215 [3]
   replace h220:=nf h220
   refine Zz ?_
   refine J.skip (Y8 [3,9] ?_)
   have h221:=(sOR h220 [0] [0,1,2,3,4])
   exact ht _ _ ⟨k3,b16,rfl,h221,H,by omega⟩
  rw [ho24] at ho23
  obtain ⟨b87,b88,b89,A61,c_61,A62,c_62,b90,A63,c_63,b91,A64,c_64,b92,b93,A65,c_65,rfl,rfl⟩:=ho23
  replace H:=Y5 ho24 H
  obtain ⟨c97,H⟩:=Zt H
  replace h209:=nf h209
  refine Zi [3,5,9,11,12,13,14,15,16] rfl ?_
  refine J.seq (J.seq (J.region ?_))
  refine Zh 3 ?_
  refine Z8 52 (congrArg Value.bool c26) ?_
  refine Zi [3,5,9,11,13,14,16,55] rfl ?_
  have h222:=Zb h209 [12,12,12,12]
  replace h222:=nf h222
  refine Zp ?_
  refine J.seq (Zc [10] ?_)
  have h223:=Zb h222 []
  replace h223:=nf h223
  refine J.ret ?_
  cases H
  exact ⟨_,_,_,Za,⟨rfl,rfl⟩,Zb h223 []⟩
 refine J.skip (J.seq (J.region ?_))
 refine Zh 1 ?_
 refine Zg (Zd 7 h207.wht) ?_
 obtain ⟨r75,q63,H⟩:=Zn H
 refine Ze (Zf [] (Q69.spec q63) h207 rfl Zs) ?_
 rintro _ w100 ⟨_,⟨v13,l13,ho25,rfl,rfl⟩,h224⟩
 rcases ho26:r75.1 with _ | r76
 ·rw [ho26] at ho25
  obtain ⟨rfl,rfl⟩:=ho25
  replace H:=Y6 ho26 H
  obtain ⟨c103,H⟩:=Zt H
  replace h224:=nf h224
  refine Zi [1,2,7,8,9] rfl ?_
  refine J.seq (J.seq (Zc [1,2,7,8,9,44] ?_))
  refine J.cond rfl (fun e=>?_) (fun e=>by rw [c103] at e; cases e)
  refine J.seq (Zc [4,5] ?_)
  refine J.ret (⟨_,Za,?_⟩)
  refine Zi [3,5,9,11,12,13,14] rfl ?_
  have h225:=Zb h224 [0,0,3,3]
  replace h225:=nf h225
  refine J.seq (J.region ?_)
  refine Zg (Zd 2 h225.wht) ?_
  obtain ⟨r77,q64,H⟩:=Zn H
  refine Ze (Zf [] (Q80.spec q64) h225 rfl Zs) ?_
  rintro _ w101 ⟨_,⟨v14,l14,ho27,rfl,rfl⟩,h226⟩
  rcases ho28:r77.1 with _ | r78
  ·rw [ho28] at ho27
   obtain ⟨rfl,rfl⟩:=ho27
   replace H:=Y6 ho28 H
   obtain ⟨c105,H⟩:=Zt H
   replace h226:=nf h226
   refine Zi [3,5,9,11,12,13,14,15,16] rfl ?_
   refine J.seq (J.seq (J.region ?_))
   refine Zh 3 ?_
   refine Z8 52 (congrArg Value.bool c26) ?_
   refine Zi [3,5,9,11,13,14,16,55] rfl ?_
   refine Zz ?_
   refine J.skip (J.seq (J.seq (J.region ?_)))
   refine Zg (Zd 2 h226.wht) ?_
   obtain ⟨r79,q65,H⟩:=Zn H
   refine Ze (Zf [] (Q138.spec q65) h226 rfl Zs) ?_
   rintro _ w102 ⟨_,⟨rfl,rfl⟩,h227⟩
   replace h227:=nf h227
   refine Zi [3,5,9,11,13,14,16,58] rfl ?_
   refine jIf H (fun c107 H=>?_) fun c107 H=>?_
   ·refine J.seq (J.region ?_)
    refine Zh 7 ?_
    refine Z7 65 H (fun c108 H=>?_) fun c108 H=>?_
    ·refine Zh 4 ?_
     refine Z7 69 H (fun c109 H=>?_) fun c109 H=>?_
     ·obtain ⟨r80,q66,H⟩:=Zn H
      refine Ze (Zf [] (Q134.spec q66) h227 rfl (Z0 (Zm 8) Zs)) ?_
      rintro _ w103 ⟨_,⟨rfl,rfl⟩,h228⟩
      replace h228:=nf h228
      refine Zi [10] rfl ?_
      have h229:=Zb h228 []
      replace h229:=nf h229
      refine J.ret ?_
      cases H
      exact ⟨_,_,_,Za,⟨rfl,rfl⟩,Zb h229 []⟩
     refine Zi [10] rfl ?_
     have h230:=Zb h227 []
     replace h230:=nf h230
     refine J.ret ?_
     cases H
     exact ⟨_,_,_,Za,⟨rfl,rfl⟩,Zb h230 []⟩
    refine Zi [10] rfl ?_
    have h231:=Zb h227 []
    replace h231:=nf h231
    refine J.ret ?_
    cases H
    exact ⟨_,_,_,Za,⟨rfl,rfl⟩,Zb h231 []⟩
   refine J.skip (J.seq (J.seq ?_))
   refine Zv h227 ?_
   have h232:=h227.drew
   refine Zu [0,1,2] ?_
   refine Yh 74 H (fun c110 H=>?_) fun c110 H=>?_
   ·refine Zu [3,4,5,6,7,8,9,10,11,12,13,14,15,16,17,18,19,20,21,22,23,24,25,26,27,28,29,30,31,32,33] ?_
    refine Zw [3,9,105] ?_
    have h233:=Zb h232 [3]
    replace h233:=nf h233
    refine Zp ?_
    refine J.seq (Zc [10] ?_)
    refine J.ret ?_
    cases H
    exact ⟨_,_,_,Za,⟨rfl,rfl⟩,Zb h233 []⟩
   refine Zu [3,4,5,6,7,8,9] ?_
   refine Yh 81 H (fun c111 H=>?_) fun c111 H=>?_
   ·refine Zu [10,11,12,13,14,15,16,17,18,19,20,21,22,23,24,25,26,27,28,29,30,31,32,33] ?_
    refine Zw [3,9,105] ?_
    have h234:=Zb h232 [3]
    replace h234:=nf h234
    refine Zp ?_
    refine J.seq (Zc [10] ?_)
    refine J.ret ?_
    cases H
    exact ⟨_,_,_,Za,⟨rfl,rfl⟩,Zb h234 []⟩
   refine Zu [10,11,12,14] ?_
   refine Zj 15 rfl (Zd 2 wI) ?_
   obtain ⟨r81,q67,H⟩:=Zn H
   refine Zq 13 rfl (Zf [0,0] (Q50.spec q67) h232 rfl Zs) ?_
   rintro _ w104 ⟨_,⟨rfl,rfl⟩,h235⟩
   replace h235:=nf h235
   refine ⟨⟨[],h235⟩,?_⟩
   refine Zu [16,17] ?_
   refine Yh 89 H (fun c112 H=>?_) fun c112 H=>?_
   ·refine Zu [18,20] ?_
    refine Zj 21 rfl (Zd 2 wI) ?_
    obtain ⟨r82,q68,H⟩:=Zn H
    refine Zq 19 rfl (Zf [0,0] (Q51.spec q68) h235 rfl Zs) ?_
    rintro _ w105 ⟨_,⟨rfl,rfl⟩,h236⟩
    replace h236:=nf h236
    refine ⟨⟨[],h236⟩,?_⟩
    refine Zu [22,23,24,25,26] ?_
    refine Yh 98 H (fun c113 H=>?_) fun c113 H=>?_
    ·refine Zu [27,28,29,30,31,32,33] ?_
     refine Zw [3,9,105] ?_
     have h237:=Zb h236 [3]
     replace h237:=nf h237
     refine Zp ?_
     refine J.seq (Zc [10] ?_)
     refine J.ret ?_
     cases H
     exact ⟨_,_,_,Za,⟨rfl,rfl⟩,Zb h237 []⟩
    refine Zu [27,28,29] ?_
    refine Y7 101 (congrArg Value.bool c103) ?_
    refine Zu [30,31,32,33] ?_
    refine Zw [3,9,105] ?_
    have h238:=Zb h236 [3]
    replace h238:=nf h238
    refine jIf H (fun c114 H=>?_) fun c114 H=>?_
    ·refine J.seq (Zc [10] ?_)
     refine J.ret ?_
     cases H
     exact ⟨_,_,_,Za,⟨rfl,rfl⟩,Zb h238 []⟩
    refine J.skip (Y8 [3,9] ?_)
    have h239:=(sOR h238 [0] [0,1,2,3,4])
    exact ht _ _ ⟨k3,b16,rfl,h239,H,by omega⟩
   refine Zu [18,19,20,21,22,23,24,25,26] ?_
   refine Yh 98 H (fun c115 H=>?_) fun c115 H=>?_
   ·refine Zu [27,28,29,30,31,32,33] ?_
    refine Zw [3,9,105] ?_
    have h240:=Zb h235 [3]
    replace h240:=nf h240
    refine Zp ?_
    refine J.seq (Zc [10] ?_)
    refine J.ret ?_
    cases H
    exact ⟨_,_,_,Za,⟨rfl,rfl⟩,Zb h240 []⟩
   refine Zu [27,28,29] ?_
   refine Y7 101 (congrArg Value.bool c103) ?_
   refine Zu [30,31,32,33] ?_
   refine Zw [3,9,105] ?_
   have h241:=Zb h235 [3]
   replace h241:=nf h241
   refine jIf H (fun c116 H=>?_) fun c116 H=>?_
   ·refine J.seq (Zc [10] ?_)
    refine J.ret ?_
    cases H
    exact ⟨_,_,_,Za,⟨rfl,rfl⟩,Zb h241 []⟩
   refine J.skip (Y8 [3,9] ?_)
   have h242:=(sOR h241 [0] [0,1,2,3,4])
   exact ht _ _ ⟨k3,b16,rfl,h242,H,by omega⟩
  rw [ho28] at ho27
  obtain ⟨b94,b95,b96,A66,c_66,A67,c_67,b97,A68,c_68,b98,A69,c_69,b99,b100,A70,c_70,rfl,rfl⟩:=ho27
  replace H:=Y5 ho28 H
  obtain ⟨c106,H⟩:=Zt H
  replace h226:=nf h226
  refine Zi [3,5,9,11,12,13,14,15,16] rfl ?_
  refine J.seq (J.seq (J.region ?_))
  refine Zh 3 ?_
  refine Z8 52 (congrArg Value.bool c26) ?_
  refine Zi [3,5,9,11,13,14,16,55] rfl ?_
  have h243:=Zb h226 [12,12,12,12]
  replace h243:=nf h243
  refine Zp ?_
  refine J.seq (Zc [10] ?_)
  have h244:=Zb h243 []
  replace h244:=nf h244
  refine J.ret ?_
  cases H
  exact ⟨_,_,_,Za,⟨rfl,rfl⟩,Zb h244 []⟩
 rw [ho26] at ho25
 obtain ⟨b101,b102,A71,c_71,rfl,rfl⟩:=ho25
 replace H:=Y5 ho26 H
 obtain ⟨c104,H⟩:=Zt H
 replace h224:=nf h224
 refine Zi [1,2,7,8,9] rfl ?_
 refine J.seq (J.seq (Zc [1,2,7,8,9,44] ?_))
 refine J.cond rfl (fun e=>by rw [c104] at e; cases e) (fun e=>?_)
 refine J.skip (J.seq (J.region ?_))
 refine Zg (Zd 10 h224.wht) ?_
 refine Zh 4 ?_
 refine Ze (Ye h224) ?_
 rintro _ w106 ⟨b103,rfl,h245⟩
 replace h245:=nf h245
 refine Zi [4,5] rfl ?_
 refine J.ret (⟨_,Za,?_⟩)
 refine Zi [3,5,9,11,12,13,14] rfl ?_
 refine J.seq (J.region ?_)
 refine Zg (Zd 9 h245.wht) ?_
 obtain ⟨r83,q69,H⟩:=Zn H
 refine Ze (Zf [] (Q80.spec q69) h245 rfl Zs) ?_
 rintro _ w107 ⟨_,⟨v15,l15,ho29,rfl,rfl⟩,h246⟩
 rcases ho30:r83.1 with _ | r84
 ·rw [ho30] at ho29
  obtain ⟨rfl,rfl⟩:=ho29
  replace H:=Y6 ho30 H
  obtain ⟨c117,H⟩:=Zt H
  replace h246:=nf h246
  refine Zi [3,5,9,11,12,13,14,15,16] rfl ?_
  refine J.seq (J.seq (J.region ?_))
  refine Zh 3 ?_
  refine Z8 52 (congrArg Value.bool c26) ?_
  refine Zi [3,5,9,11,13,14,16,55] rfl ?_
  refine Zz ?_
  refine J.skip (J.seq (J.seq (J.region ?_)))
  refine Zg (Zd 9 h246.wht) ?_
  obtain ⟨r85,q70,H⟩:=Zn H
  refine Ze (Zf [] (Q138.spec q70) h246 rfl Zs) ?_
  rintro _ w108 ⟨_,⟨rfl,rfl⟩,h247⟩
  replace h247:=nf h247
  refine Zi [3,5,9,11,13,14,16,58] rfl ?_
  refine jIf H (fun c119 H=>?_) fun c119 H=>?_
  ·refine J.seq (Zc [10] ?_)
   have h248:=Zb h247 []
   replace h248:=nf h248
   refine J.ret ?_
   cases H
   exact ⟨_,_,_,Za,⟨rfl,rfl⟩,Zb h248 []⟩
  refine J.skip (J.seq (J.seq ?_))
  refine Zv h247 ?_
  have h249:=h247.drew
  refine Zu [0,1,2] ?_
  refine Yh 74 H (fun c120 H=>?_) fun c120 H=>?_
  ·refine Zu [3,4,5,6,7,8,9,10,11,12,13,14,15,16,17,18,19,20,21,22,23,24,25,26,27,28,29,30,31,32,33] ?_
   refine Zw [3,9,105] ?_
   have h250:=Zb h249 [10]
   replace h250:=nf h250
   refine Zp ?_
   refine J.seq (Zc [10] ?_)
   refine J.ret ?_
   cases H
   exact ⟨_,_,_,Za,⟨rfl,rfl⟩,Zb h250 []⟩
  refine Zu [3,4,5,6,7,8,9] ?_
  refine Yh 81 H (fun c121 H=>?_) fun c121 H=>?_
  ·refine Zu [10,11,12,13,14,15,16,17,18,19,20,21,22,23,24,25,26,27,28,29,30,31,32,33] ?_
   refine Zw [3,9,105] ?_
   have h251:=Zb h249 [10]
   replace h251:=nf h251
   refine Zp ?_
   refine J.seq (Zc [10] ?_)
   refine J.ret ?_
   cases H
   exact ⟨_,_,_,Za,⟨rfl,rfl⟩,Zb h251 []⟩
  refine Zu [10,11,12,14] ?_
  refine Zj 15 rfl (Zd 9 wI) ?_
  obtain ⟨r86,q71,H⟩:=Zn H
  refine Zq 13 rfl (Zf [4,4] (Q50.spec q71) h249 rfl Zs) ?_
  rintro _ w109 ⟨_,⟨rfl,rfl⟩,h252⟩
  replace h252:=nf h252
  refine ⟨⟨[],(Zb h252 [2,2,2,2,0,0,0,0,0,0,0,0,0,0,0])⟩,?_⟩
  refine Zu [16,17] ?_
  refine Yh 89 H (fun c122 H=>?_) fun c122 H=>?_
  ·refine Zu [18,20] ?_
   refine Zj 21 rfl (Zd 9 wI) ?_
   obtain ⟨r87,q72,H⟩:=Zn H
   refine Zq 19 rfl (Zf [0,0] (Q51.spec q72) h252 rfl Zs) ?_
   rintro _ w110 ⟨_,⟨rfl,rfl⟩,h253⟩
   replace h253:=nf h253
   refine ⟨⟨[],(Zb h253 [2,2,2,2,0,0,0,0,0,0,0,0,0,0,0])⟩,?_⟩
   refine Zu [22,23,24,25,26] ?_
   refine Yh 98 H (fun c123 H=>?_) fun c123 H=>?_
   ·refine Zu [27,28,29,30,31,32,33] ?_
    refine Zw [3,9,105] ?_
    have h254:=Zb h253 [10]
    replace h254:=nf h254
    refine Zp ?_
    refine J.seq (Zc [10] ?_)
    refine J.ret ?_
    cases H
    exact ⟨_,_,_,Za,⟨rfl,rfl⟩,Zb h254 []⟩
   refine Zu [27,28,29,30,31,32,33] ?_
   refine Zw [3,9,105] ?_
   have h255:=Zb h253 [10]
   replace h255:=nf h255
   refine Zz ?_
   refine J.skip (Y8 [3,9] ?_)
   have h256:=(sOR h255 [0] [0,1,2,3,4])
   exact ht _ _ ⟨k3,b16,rfl,h256,H,by omega⟩
  refine Zu [18,19,20,21,22,23,24,25,26] ?_
  refine Yh 98 H (fun c124 H=>?_) fun c124 H=>?_
  ·refine Zu [27,28,29,30,31,32,33] ?_
   refine Zw [3,9,105] ?_
   have h257:=Zb h252 [10]
   replace h257:=nf h257
   refine Zp ?_
   refine J.seq (Zc [10] ?_)
   refine J.ret ?_
   cases H
   exact ⟨_,_,_,Za,⟨rfl,rfl⟩,Zb h257 []⟩
  refine Zu [27,28,29,30,31,32,33] ?_
  refine Zw [3,9,105] ?_
  have h258:=Zb h252 [10]
  replace h258:=nf h258
  refine Zz ?_
  refine J.skip (Y8 [3,9] ?_)
  have h259:=(sOR h258 [0] [0,1,2,3,4])
  exact ht _ _ ⟨k3,b16,rfl,h259,H,by omega⟩
 rw [ho30] at ho29
 obtain ⟨b104,b105,b106,A72,c_72,A73,c_73,b107,A74,c_74,b108,A75,c_75,b109,b110,A76,c_76,rfl,rfl⟩:=ho29
 replace H:=Y5 ho30 H
 obtain ⟨c118,H⟩:=Zt H
 replace h246:=nf h246
 refine Zi [3,5,9,11,12,13,14,15,16] rfl ?_
 refine J.seq (J.seq (J.region ?_))
 refine Zh 3 ?_
 refine Z8 52 (congrArg Value.bool c26) ?_
 refine Zi [3,5,9,11,13,14,16,55] rfl ?_
 have h260:=Zb h246 [12,12,12,12,12,12,12,12,12,12,12,13,13,13]
 replace h260:=nf h260
 refine Zp ?_
 refine J.seq (Zc [10] ?_)
 have h261:=Zb h260 []
 replace h261:=nf h261
 refine J.ret ?_
 cases H
 exact ⟨_,_,_,Za,⟨rfl,rfl⟩,Zb h261 []⟩

end Go.SK.T
