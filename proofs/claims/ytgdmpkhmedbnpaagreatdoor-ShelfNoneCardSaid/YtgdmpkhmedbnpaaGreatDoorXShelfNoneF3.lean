/- The functions, further. -/
import Derived.Test.YtgdmpkhmedbnpaaGreatDoorXShelfNoneF2
set_option linter.unusedVariables false
set_option linter.unusedSimpArgs false
set_option maxRecDepth 20000
set_option maxHeartbeats 40000000
namespace Go.SK.T
open Go Go.SK Go.Proofs
def Q137.l0:Nat→(Int×Int×Int×Int×Int×Int×Int×Int)→(Int)→(Int)→Option (Int)
 | 0,_,_,_=>none
 | k+1,a0,x1,x2=>if (decide (x2<a0.2.2.2.2.2.1))=true then (Q137.l0 k a0 (w64 ((w64 ((w64 (x1+3))+a0.2.2.2.2.2.2.1))+a0.2.2.2.2.2.2.2)) (w64 (x2+1))) else (some x1)
def Q137.f (k:Nat) (a0:Int×Int×Int×Int×Int×Int×Int×Int):Option (Int):=(Q139.f a0).bind fun r1=>(if (!r1)=true then (some 0) else (Q137.l0 k a0 8 0))
theorem Q137.spec {k:Nat} {a0:Int×Int×Int×Int×Int×Int×Int×Int}  {r:Int} (H:Q137.f k a0=some r) :
  Spec Tryz.prog 90 [.agg #[.int .i64 a0.1,.int .i64 a0.2.1,.int .i64 a0.2.2.1,.int .i64 a0.2.2.2.1,.int .i64 a0.2.2.2.2.1,.int .i64 a0.2.2.2.2.2.1,.int .i64 a0.2.2.2.2.2.2.1,.int .i64 a0.2.2.2.2.2.2.2]] [] [] (fun v l=>v=.int .i64 r∧l=[]):=by
 refine Zp Tryz.func90 fun w0 F0 h0=>?_
 unfold Q137.f at H
 refine J.seq (J.region ?_)
 refine Ze (Ye h0) ?_
 rintro _ w1 ⟨b1,rfl,h1⟩
 replace h1:=nf h1
 refine Zi [1] rfl ?_
 refine J.seq (J.seq (J.region ?_))
 refine Zg (Zd 0 h1.wht) ?_
 obtain ⟨r1,q1,H⟩:=Zn H
 refine Ze (Zf [] (Q139.spec q1) h1 rfl Zs) ?_
 rintro _ w2 ⟨_,⟨rfl,rfl⟩,h2⟩
 replace h2:=nf h2
 refine Zi [1,7] rfl ?_
 refine jIf H (fun c1 H=>?_) fun c1 H=>?_
 ·refine J.seq (Zc [2] ?_)
  refine J.ret ?_
  cases H
  exact ⟨_,_,_,Za,⟨rfl,rfl⟩,Zb h2 []⟩
 refine J.skip (J.seq (Zc [1,3] ?_))
 refine J.seq (J.seq (Zc [1,3,4] ?_))
 refine J.block ?_
 have h5:=(sOR h2 [0] [])
 refine J.loop (fun kk env w=>∃(x1:Int) (x2:Int),env=[(1,.pointer (some ⟨b1,0,none⟩)),(3,.int .i64 x1),(4,.int .i64 x2)]∧St w0 F0 [X23 b1 a0.1 a0.2.1 a0.2.2.1 a0.2.2.2.1 a0.2.2.2.2.1 a0.2.2.2.2.2.1 a0.2.2.2.2.2.2.1 a0.2.2.2.2.2.2.2] [] w∧Q137.l0 kk a0 x1 x2=some r) (k:=k) ⟨8,0,rfl,h5,H⟩ ?_
 rintro k1 env w3 ⟨x1,x2,rfl,h3,H⟩
 rcases k1 with _ | k1
 ·exact z0 H
 rw [Q137.l0] at H
 refine J.seq (J.seq (J.region ?_))
 refine Zh 2 ?_
 refine Zg (Zd 0 h3.wht) ?_
 refine Zi [1,3,4,11] rfl ?_
 refine jIf H (fun c2 H=>?_) fun c2 H=>?_
 ·refine J.skip (J.seq (J.block (J.region ?_)))
  refine Zh 3 ?_
  refine Zg (Zd 0 h3.wht) ?_
  refine Zh 2 ?_
  refine Zg (Zd 0 h3.wht) ?_
  refine Zi [1,3,4] rfl ?_
  refine Zc [1,3,4] ?_
  have h4:=(sOR h3 [0] [])
  exact ⟨k1,by omega,(w64 ((w64 ((w64 (x1+3))+a0.2.2.2.2.2.2.1))+a0.2.2.2.2.2.2.2)),(w64 (x2+1)),rfl,h4,H⟩
 refine J.exit (J.seq (Zc [2] ?_))
 refine J.ret ?_
 cases H
 exact ⟨_,_,_,Za,⟨rfl,rfl⟩,Zb h3 []⟩

def Q138.f (k:Nat) (a0:Int×Int×Int×Int×Int×Int×Int×Int):Option (Bool):=(Q139.f a0).bind fun r1=>(if r1=true then ((Q140.f a0.1 5 65536).bind fun r2=>(if r2=true then ((Q140.f a0.2.2.1 8 64).bind fun r3=>(if r3=true then ((Q140.f a0.2.1 64 65536).bind fun r4=>(if r4=true then ((Q136.f k a0).bind fun r5=>(if (decide (r5≤a0.2.1))=true then ((Q137.f k a0).bind fun r6=>(some (decide (r6≤a0.2.1)))) else (some false))) else (some false))) else (some false))) else (some false))) else (some false))
theorem Q138.spec {k:Nat} {a0:Int×Int×Int×Int×Int×Int×Int×Int}  {r:Bool} (H:Q138.f k a0=some r) :
  Spec Tryz.prog 36 [.agg #[.int .i64 a0.1,.int .i64 a0.2.1,.int .i64 a0.2.2.1,.int .i64 a0.2.2.2.1,.int .i64 a0.2.2.2.2.1,.int .i64 a0.2.2.2.2.2.1,.int .i64 a0.2.2.2.2.2.2.1,.int .i64 a0.2.2.2.2.2.2.2]] [] [] (fun v l=>v=.bool r∧l=[]):=by
 refine Zp Tryz.func36 fun w0 F0 h0=>?_
 unfold Q138.f at H
 refine J.seq (J.region ?_)
 refine Ze (Ye h0) ?_
 rintro _ w1 ⟨b1,rfl,h1⟩
 replace h1:=nf h1
 refine Zi [1] rfl ?_
 refine J.seq (Zv h1 ?_)
 have h2:=h1.drew
 refine Zj 0 rfl (Zd 0 wI) ?_
 obtain ⟨r1,q1,H⟩:=Zn H
 refine Zq 1 rfl (Zf [] (Q139.spec q1) h2 rfl Zs) ?_
 rintro _ w2 ⟨_,⟨rfl,rfl⟩,h3⟩
 replace h3:=nf h3
 refine ⟨⟨[],h3⟩,?_⟩
 refine Zu [2] ?_
 refine Yh 5 H (fun c1 H=>?_) fun c1 H=>?_
 ·refine Zu [3] ?_
  refine Zj 4 rfl (Zd 0 wI) ?_
  obtain ⟨r2,q2,H⟩:=Zn H
  refine Zq 5 rfl (Zf [] (Q140.spec q2) h3 rfl Zs) ?_
  rintro _ w3 ⟨_,⟨rfl,rfl⟩,h4⟩
  replace h4:=nf h4
  refine ⟨⟨[],h4⟩,?_⟩
  refine Zu [6,7] ?_
  refine Yh 10 H (fun c2 H=>?_) fun c2 H=>?_
  ·refine Zu [8] ?_
   refine Zj 9 rfl (Zd 0 wI) ?_
   obtain ⟨r3,q3,H⟩:=Zn H
   refine Zq 10 rfl (Zf [] (Q140.spec q3) h4 rfl Zs) ?_
   rintro _ w4 ⟨_,⟨rfl,rfl⟩,h5⟩
   replace h5:=nf h5
   refine ⟨⟨[],h5⟩,?_⟩
   refine Zu [11,12] ?_
   refine Yh 15 H (fun c3 H=>?_) fun c3 H=>?_
   ·refine Zu [13] ?_
    refine Zj 14 rfl (Zd 0 wI) ?_
    obtain ⟨r4,q4,H⟩:=Zn H
    refine Zq 15 rfl (Zf [] (Q140.spec q4) h5 rfl Zs) ?_
    rintro _ w5 ⟨_,⟨rfl,rfl⟩,h6⟩
    replace h6:=nf h6
    refine ⟨⟨[],h6⟩,?_⟩
    refine Zu [16,17] ?_
    refine Yh 20 H (fun c4 H=>?_) fun c4 H=>?_
    ·refine Zu [18] ?_
     refine Zj 19 rfl (Zd 0 wI) ?_
     refine Zj 20 rfl (Zd 0 wI) ?_
     obtain ⟨r5,q5,H⟩:=Zn H
     refine Zq 21 rfl (Zf [] (Q136.spec q5) h6 rfl Zs) ?_
     rintro _ w6 ⟨_,⟨rfl,rfl⟩,h7⟩
     replace h7:=nf h7
     refine ⟨⟨[],h7⟩,?_⟩
     refine Zu [22,23,24] ?_
     refine Yh 27 H (fun c5 H=>?_) fun c5 H=>?_
     ·refine Zu [25] ?_
      refine Zj 26 rfl (Zd 0 wI) ?_
      refine Zj 27 rfl (Zd 0 wI) ?_
      obtain ⟨r6,q6,H⟩:=Zn H
      refine Zq 28 rfl (Zf [] (Q137.spec q6) h7 rfl Zs) ?_
      rintro _ w7 ⟨_,⟨rfl,rfl⟩,h8⟩
      replace h8:=nf h8
      refine ⟨⟨[],h8⟩,?_⟩
      refine Zu [29,30,31] ?_
      refine Zw [2] ?_
      refine J.ret ?_
      cases H
      exact ⟨_,_,_,Za,⟨rfl,rfl⟩,Zb h8 []⟩
     refine Zu [25,26,27,28,29,30,31] ?_
     refine Zw [2] ?_
     refine J.ret ?_
     cases H
     exact ⟨_,_,_,Za,⟨rfl,rfl⟩,Zb h7 []⟩
    refine Zu [18,19,20,21,22,23,24,25,26,27,28,29,30,31] ?_
    refine Zw [2] ?_
    refine J.ret ?_
    cases H
    exact ⟨_,_,_,Za,⟨rfl,rfl⟩,Zb h6 []⟩
   refine Zu [13,14,15,16,17,18,19,20,21,22,23,24,25,26,27,28,29,30,31] ?_
   refine Zw [2] ?_
   refine J.ret ?_
   cases H
   exact ⟨_,_,_,Za,⟨rfl,rfl⟩,Zb h5 []⟩
  refine Zu [8,9,10,11,12,13,14,15,16,17,18,19,20,21,22,23,24,25,26,27,28,29,30,31] ?_
  refine Zw [2] ?_
  refine J.ret ?_
  cases H
  exact ⟨_,_,_,Za,⟨rfl,rfl⟩,Zb h4 []⟩
 refine Zu [3,4,5,6,7,8,9,10,11,12,13,14,15,16,17,18,19,20,21,22,23,24,25,26,27,28,29,30,31] ?_
 refine Zw [2] ?_
 refine J.ret ?_
 cases H
 exact ⟨_,_,_,Za,⟨rfl,rfl⟩,Zb h3 []⟩

def Q101.f (a1:Int):Option (Int):=some 1
theorem Q101.spec {a1:Int}  {r:Int} (H:Q101.f a1=some r) :
  Spec Tryz.prog 76 [.pointer none,.int .u32 a1] [] [] (fun v l=>v=.int .i64 r∧l=[]):=by
 refine Zp Tryz.func76 fun w0 F0 h0=>?_
 unfold Q101.f at H
 refine J.seq (Zc [0,1] ?_)
 refine J.seq (J.block (J.seq (Zc [0,1,5] ?_)))
 refine Zo ?_
 refine J.seq (Zc [4] ?_)
 refine J.ret ?_
 cases H
 exact ⟨_,_,_,Za,⟨rfl,rfl⟩,Zb h0 []⟩

def Q91.f (a1:Int):Option ((Int×List (Int)×List (List UInt8)×(List (List UInt8×Bool×List UInt8))×(List (List UInt8×List UInt8)))×Int):=(Q101.f a1).bind fun r1=>(if (!decide (r1=0))=true then (some ((0,([]:List (Int)),([]:List (List UInt8)),([]:List (List UInt8×Bool×List UInt8)),([]:List (List UInt8×List UInt8))),r1)) else (none))
theorem Q91.spec {a1:Int}  {r:(Int×List (Int)×List (List UInt8)×(List (List UInt8×Bool×List UInt8))×(List (List UInt8×List UInt8)))×Int} (H:Q91.f a1=some r) :
  Spec Tryz.prog 24 [.pointer none,.int .u32 a1] [] [] (fun v l=>∃(A_0:Option Addr) (c_0:Nat) (A_1:Option Addr) (c_1:Nat) (A_2:Option Addr) (c_2:Nat) (A_3:Option Addr) (c_3:Nat),v=.tuple #[.agg #[.int .i64 r.1.1,.slice A_0 r.1.2.1.length c_0,.slice A_1 r.1.2.2.1.length c_1,.slice A_2 r.1.2.2.2.1.length c_2,.slice A_3 r.1.2.2.2.2.length c_3],.int .i64 r.2]∧l=[O33 r.1.2.1 A_0 c_0,O9 r.1.2.2.1 A_1 c_1,U4 r.1.2.2.2.1 A_2 c_2,U6 r.1.2.2.2.2 A_3 c_3]):=by
 refine Zp Tryz.func24 fun w0 F0 h0=>?_
 unfold Q91.f at H
 refine J.seq (J.region ?_)
 refine Ze (Yq h0) ?_
 rintro _ w1 ⟨b1,rfl,h1⟩
 replace h1:=nf h1
 refine Zi [0,1,4] rfl ?_
 refine J.seq (J.seq (J.region ?_))
 refine Zh 2 ?_
 obtain ⟨r1,q1,H⟩:=Zn H
 refine Ze (Zf [] (Q101.spec q1) h1 rfl Zs) ?_
 rintro _ w2 ⟨_,⟨rfl,rfl⟩,h2⟩
 replace h2:=nf h2
 refine Zi [0,1,4,6] rfl ?_
 refine J.seq (Zc [0,1,4,6,14] ?_)
 refine jIf H (fun c1 H=>?_) fun c1 H=>?_
 ·refine J.seq (J.region ?_)
  refine Zh 2 ?_
  refine Ze (Z3 0 h2) ?_
  intro _ w3 h3
  replace h3:=nf h3
  refine Zi [4,5] rfl ?_
  refine J.ret ?_
  have h4:=h3.addNil 33 (.int .u32)
  have h5:=h4.addNil 9 .str
  have h6:=h5.addNil 115 (.pair .str (.pair .bool .str))
  have h7:=h6.addNil 106 (.pair .str .str)
  cases H
  exact ⟨_,_,_,(Yf rfl (Ym (RV.cell Yu 4 h7 rfl rfl rfl rfl) (Ym (RV.tmp rfl) Xb)) rfl),⟨_,_,_,_,_,_,_,_,rfl,rfl⟩,Zb h7 [3,2,1,0]⟩
 refine J.skip (J.seq (J.seq ?_))
 exact nomatch H

def Q99.f:Option (Int):=some 1
theorem Q99.spec   {r:Int} (H:Q99.f=some r) :
  Spec Tryz.prog 60 [.pointer none] [] [] (fun v l=>v=.int .i64 r∧l=[]):=by
 refine Zp Tryz.func60 fun w0 F0 h0=>?_
 unfold Q99.f at H
 refine J.seq (Zc [0] ?_)
 refine J.seq (J.seq (Zc [11] ?_))
 refine Zo ?_
 refine J.seq (Zc [2] ?_)
 refine J.ret ?_
 cases H
 exact ⟨_,_,_,Za,⟨rfl,rfl⟩,Zb h0 []⟩

def Q93.f (a1:Int×List (Int)×List (List UInt8)×(List (List UInt8×Bool×List UInt8))×(List (List UInt8×List UInt8))):Option (Int×Int):=(Q99.f).bind fun r1=>(if (!decide (r1=0))=true then (some (0,r1)) else (none))
theorem Q93.spec {a1:Int×List (Int)×List (List UInt8)×(List (List UInt8×Bool×List UInt8))×(List (List UInt8×List UInt8))} {A1:Option Addr} {c_1:Nat} {A2:Option Addr} {c_2:Nat} {A3:Option Addr} {c_3:Nat} {A4:Option Addr} {c_4:Nat} {r:Int×Int} (H:Q93.f a1=some r) :
  Spec Tryz.prog 39 [.pointer none,.agg #[.int .i64 a1.1,.slice A1 a1.2.1.length c_1,.slice A2 a1.2.2.1.length c_2,.slice A3 a1.2.2.2.1.length c_3,.slice A4 a1.2.2.2.2.length c_4]] [] [R33 a1.2.1 A1 c_1,R9 a1.2.2.1 A2 c_2,Xk a1.2.2.2.1 A3 c_3,Xl a1.2.2.2.2 A4 c_4] (fun v l=>v=.tuple #[.int .u32 r.1,.int .i64 r.2]∧l=[]):=by
 refine Zp Tryz.func39 fun w0 F0 h0=>?_
 unfold Q93.f at H
 refine J.seq (J.region ?_)
 refine Ze (Ye h0) ?_
 rintro _ w1 ⟨b1,rfl,h1⟩
 replace h1:=nf h1
 refine Zi [0,3] rfl ?_
 refine J.seq (J.seq (J.region ?_))
 refine Zh 1 ?_
 obtain ⟨r1,q1,H⟩:=Zn H
 refine Ze (Zf [] (Q99.spec q1) h1 rfl Zs) ?_
 rintro _ w2 ⟨_,⟨rfl,rfl⟩,h2⟩
 replace h2:=nf h2
 refine Zi [0,3,6] rfl ?_
 refine J.seq (Zc [0,3,6,14] ?_)
 refine jIf H (fun c1 H=>?_) fun c1 H=>?_
 ·refine J.seq (Zc [4,5] ?_)
  refine J.ret ?_
  cases H
  exact ⟨_,_,_,Za,⟨rfl,rfl⟩,Zb h2 []⟩
 refine J.skip (J.seq ?_)
 exact nomatch H

def Q95.f (a1:Int) (a2:Int×List (Int)×List (List UInt8)×(List (List UInt8×Bool×List UInt8))×(List (List UInt8×List UInt8))):Option (Int):=(Q101.f a1).bind fun r1=>(if (!decide (r1=0))=true then (some r1) else (none))
theorem Q95.spec {a1:Int} {a2:Int×List (Int)×List (List UInt8)×(List (List UInt8×Bool×List UInt8))×(List (List UInt8×List UInt8))} {A1:Option Addr} {c_1:Nat} {A2:Option Addr} {c_2:Nat} {A3:Option Addr} {c_3:Nat} {A4:Option Addr} {c_4:Nat} {r:Int} (H:Q95.f a1 a2=some r) :
  Spec Tryz.prog 40 [.pointer none,.int .u32 a1,.agg #[.int .i64 a2.1,.slice A1 a2.2.1.length c_1,.slice A2 a2.2.2.1.length c_2,.slice A3 a2.2.2.2.1.length c_3,.slice A4 a2.2.2.2.2.length c_4]] [] [R33 a2.2.1 A1 c_1,R9 a2.2.2.1 A2 c_2,Xk a2.2.2.2.1 A3 c_3,Xl a2.2.2.2.2 A4 c_4] (fun v l=>v=.int .i64 r∧l=[]):=by
 refine Zp Tryz.func40 fun w0 F0 h0=>?_
 unfold Q95.f at H
 refine J.seq (J.region ?_)
 refine Ze (Ye h0) ?_
 rintro _ w1 ⟨b1,rfl,h1⟩
 replace h1:=nf h1
 refine Zi [0,1,5] rfl ?_
 refine J.seq (J.seq (J.region ?_))
 refine Zh 2 ?_
 obtain ⟨r1,q1,H⟩:=Zn H
 refine Ze (Zf [] (Q101.spec q1) h1 rfl Zs) ?_
 rintro _ w2 ⟨_,⟨rfl,rfl⟩,h2⟩
 replace h2:=nf h2
 refine Zi [0,1,5,7] rfl ?_
 refine J.seq (Zc [0,1,5,7,14] ?_)
 refine jIf H (fun c1 H=>?_) fun c1 H=>?_
 ·refine J.seq (Zc [6] ?_)
  refine J.ret ?_
  cases H
  exact ⟨_,_,_,Za,⟨rfl,rfl⟩,Zb h2 []⟩
 refine J.skip (J.seq ?_)
 exact nomatch H

def Q83.f (a1:Int):Option (Int):=(Q101.f a1).bind fun r1=>(if (!decide (r1=0))=true then (some r1) else (none))
theorem Q83.spec {a1:Int}  {r:Int} (H:Q83.f a1=some r) :
  Spec Tryz.prog 41 [.pointer none,.int .u32 a1] [] [] (fun v l=>v=.int .i64 r∧l=[]):=by
 refine Zp Tryz.func41 fun w0 F0 h0=>?_
 unfold Q83.f at H
 refine J.seq (Zc [0,1] ?_)
 refine J.seq (J.seq (J.region ?_))
 refine Zh 2 ?_
 obtain ⟨r1,q1,H⟩:=Zn H
 refine Ze (Zf [] (Q101.spec q1) h0 rfl Zs) ?_
 rintro _ w1 ⟨_,⟨rfl,rfl⟩,h1⟩
 replace h1:=nf h1
 refine Zi [0,1,5] rfl ?_
 refine J.seq (Zc [0,1,5,11] ?_)
 refine jIf H (fun c1 H=>?_) fun c1 H=>?_
 ·refine J.seq (Zc [4] ?_)
  refine J.ret ?_
  cases H
  exact ⟨_,_,_,Za,⟨rfl,rfl⟩,Zb h1 []⟩
 refine J.skip (J.seq (J.seq ?_))
 exact nomatch H

def Q94.f (a1:Int):Option (Int):=(Q101.f a1).bind fun r1=>(if (!decide (r1=0))=true then (some r1) else (none))
theorem Q94.spec {a1:Int}  {r:Int} (H:Q94.f a1=some r) :
  Spec Tryz.prog 42 [.pointer none,.int .u32 a1] [] [] (fun v l=>v=.int .i64 r∧l=[]):=by
 refine Zp Tryz.func42 fun w0 F0 h0=>?_
 unfold Q94.f at H
 refine J.seq (Zc [0,1] ?_)
 refine J.seq (J.seq (J.region ?_))
 refine Zh 2 ?_
 obtain ⟨r1,q1,H⟩:=Zn H
 refine Ze (Zf [] (Q101.spec q1) h0 rfl Zs) ?_
 rintro _ w1 ⟨_,⟨rfl,rfl⟩,h1⟩
 replace h1:=nf h1
 refine Zi [0,1,5] rfl ?_
 refine J.seq (Zc [0,1,5,10] ?_)
 refine jIf H (fun c1 H=>?_) fun c1 H=>?_
 ·refine J.seq (Zc [4] ?_)
  refine J.ret ?_
  cases H
  exact ⟨_,_,_,Za,⟨rfl,rfl⟩,Zb h1 []⟩
 refine J.skip (J.seq ?_)
 exact nomatch H

def Q87.f (a1:Int):Option (Int):=if (!decide (a1=0))=true then ((Q101.f a1).bind fun r1=>(if (!decide (r1=0))=true then (some r1) else ((Q99.f).bind fun r2=>(if (!decide (r2=0))=true then (some r2) else (none))))) else ((Q99.f).bind fun r3=>(if (!decide (r3=0))=true then (some r3) else (none)))
theorem Q87.spec {a1:Int}  {r:Int} (H:Q87.f a1=some r) :
  Spec Tryz.prog 43 [.pointer none,.int .u32 a1] [] [] (fun v l=>v=.int .i64 r∧l=[]):=by
 refine Zp Tryz.func43 fun w0 F0 h0=>?_
 unfold Q87.f at H
 refine J.seq (Zc [0,1] ?_)
 refine J.seq (J.seq (Zc [0,1,9] ?_))
 refine jIf H (fun c1 H=>?_) fun c1 H=>?_
 ·refine J.seq (J.region ?_)
  refine Zh 2 ?_
  obtain ⟨r1,q1,H⟩:=Zn H
  refine Ze (Zf [] (Q101.spec q1) h0 rfl Zs) ?_
  rintro _ w1 ⟨_,⟨rfl,rfl⟩,h1⟩
  replace h1:=nf h1
  refine Zi [0,1,5] rfl ?_
  refine J.seq (Zc [0,1,5,14] ?_)
  refine jIf H (fun c2 H=>?_) fun c2 H=>?_
  ·refine J.seq (Zc [4] ?_)
   refine J.ret ?_
   cases H
   exact ⟨_,_,_,Za,⟨rfl,rfl⟩,Zb h1 []⟩
  refine J.skip (J.seq (J.seq (J.region ?_)))
  refine Zh 1 ?_
  obtain ⟨r2,q2,H⟩:=Zn H
  refine Ze (Zf [] (Q99.spec q2) h1 rfl Zs) ?_
  rintro _ w2 ⟨_,⟨rfl,rfl⟩,h2⟩
  replace h2:=nf h2
  refine Zi [0,1,6] rfl ?_
  refine J.seq (J.region ?_)
  refine Zh 3 ?_
  refine Z7 20 H (fun c3 H=>?_) fun c3 H=>?_
  ·refine Zi [0,1,6,27] rfl ?_
   refine Zo ?_
   refine J.seq (Zc [4] ?_)
   refine J.ret ?_
   cases H
   exact ⟨_,_,_,Za,⟨rfl,rfl⟩,Zb h2 []⟩
  exact nomatch H
 refine J.skip (J.seq (J.seq (J.region ?_)))
 refine Zh 1 ?_
 obtain ⟨r3,q3,H⟩:=Zn H
 refine Ze (Zf [] (Q99.spec q3) h0 rfl Zs) ?_
 rintro _ w3 ⟨_,⟨rfl,rfl⟩,h3⟩
 replace h3:=nf h3
 refine Zi [0,1,6] rfl ?_
 refine J.seq (J.region ?_)
 refine Zh 3 ?_
 refine Z7 20 H (fun c4 H=>?_) fun c4 H=>?_
 ·refine Zi [0,1,6,27] rfl ?_
  refine Zo ?_
  refine J.seq (Zc [4] ?_)
  refine J.ret ?_
  cases H
  exact ⟨_,_,_,Za,⟨rfl,rfl⟩,Zb h3 []⟩
 exact nomatch H

def Q82.f:Option (Int):=(Q99.f).bind fun r1=>(if (!decide (r1=0))=true then (some r1) else (none))
theorem Q82.spec   {r:Int} (H:Q82.f=some r) :
  Spec Tryz.prog 19 [.pointer none] [] [] (fun v l=>v=.int .i64 r∧l=[]):=by
 refine Zp Tryz.func19 fun w0 F0 h0=>?_
 unfold Q82.f at H
 refine J.seq (Zc [0] ?_)
 refine J.seq (J.seq (J.region ?_))
 refine Zh 1 ?_
 obtain ⟨r1,q1,H⟩:=Zn H
 refine Ze (Zf [] (Q99.spec q1) h0 rfl Zs) ?_
 rintro _ w1 ⟨_,⟨rfl,rfl⟩,h1⟩
 replace h1:=nf h1
 refine Zi [0,3] rfl ?_
 refine J.seq (Zc [0,3,7] ?_)
 refine jIf H (fun c1 H=>?_) fun c1 H=>?_
 ·refine J.seq (Zc [2] ?_)
  refine J.ret ?_
  cases H
  exact ⟨_,_,_,Za,⟨rfl,rfl⟩,Zb h1 []⟩
 refine J.skip (J.seq ?_)
 exact nomatch H

def Q81.f:Option ((Int×Int×Int×Int×Int×Int×Int×Int)):=some (0,0,0,0,0,0,0,0)
theorem Q81.spec   {r:(Int×Int×Int×Int×Int×Int×Int×Int)} (H:Q81.f=some r) :
  Spec Tryz.prog 32 [.pointer none] [] [] (fun v l=>v=.agg #[.int .i64 r.1,.int .i64 r.2.1,.int .i64 r.2.2.1,.int .i64 r.2.2.2.1,.int .i64 r.2.2.2.2.1,.int .i64 r.2.2.2.2.2.1,.int .i64 r.2.2.2.2.2.2.1,.int .i64 r.2.2.2.2.2.2.2]∧l=[]):=by
 refine Zp Tryz.func32 fun w0 F0 h0=>?_
 unfold Q81.f at H
 refine J.seq (J.region ?_)
 refine Ze (Yq h0) ?_
 rintro _ w1 ⟨b1,rfl,h1⟩
 replace h1:=nf h1
 refine Zi [0,2] rfl ?_
 refine J.seq (J.seq (Zc [0,2,4] ?_))
 refine Zo ?_
 refine J.seq (J.region ?_)
 refine Zh 1 ?_
 refine Ze (Z3 0 h1) ?_
 intro _ w2 h2
 replace h2:=nf h2
 refine Zi [2] rfl ?_
 refine J.ret ?_
 cases H
 exact ⟨_,_,_,(Yf rfl (Ym (RV.cell Yu 0 h2 rfl rfl rfl rfl) Xb) rfl),⟨rfl,rfl⟩,Zb h2 []⟩

def Q89.f:Option (Int):=some 0
theorem Q89.spec   {r:Int} (H:Q89.f=some r) :
  Spec Tryz.prog 26 [.pointer none] [] [] (fun v l=>v=.int .i64 r∧l=[]):=by
 refine Zp Tryz.func26 fun w0 F0 h0=>?_
 unfold Q89.f at H
 refine J.seq (Zc [0] ?_)
 refine J.seq (J.seq (Zc [0,4] ?_))
 refine Zo ?_
 refine J.seq (Zc [2] ?_)
 refine J.ret ?_
 cases H
 exact ⟨_,_,_,Za,⟨rfl,rfl⟩,Zb h0 []⟩

def Q85.f (a1:Int):Option (Bool):=some false
theorem Q85.spec {a1:Int}  {r:Bool} (H:Q85.f a1=some r) :
  Spec Tryz.prog 31 [.pointer none,.int .u32 a1] [] [] (fun v l=>v=.bool r∧l=[]):=by
 refine Zp Tryz.func31 fun w0 F0 h0=>?_
 unfold Q85.f at H
 refine J.seq (Zc [0,1] ?_)
 refine J.seq (Zc [4] ?_)
 refine J.ret ?_
 cases H
 exact ⟨_,_,_,Za,⟨rfl,rfl⟩,Zb h0 []⟩

def Q86.f:Option (List (Int)):=some ([]:List (Int))
theorem Q86.spec   {r:List (Int)} (H:Q86.f=some r) :
  Spec Tryz.prog 29 [.pointer none] [] [] (fun v l=>∃(A_0:Option Addr) (c_0:Nat),v=.slice A_0 r.length c_0∧l=[O33 r A_0 c_0]):=by
 refine Zp Tryz.func29 fun w0 F0 h0=>?_
 unfold Q86.f at H
 refine J.seq (Zc [0] ?_)
 refine J.seq (J.seq (Zc [0,4] ?_))
 refine Zo ?_
 refine J.seq (Zc [2] ?_)
 refine J.ret ?_
 have h1:=h0.addNil 33 (.int .u32)
 cases H
 exact ⟨_,_,_,Za,⟨_,_,rfl,rfl⟩,Zb h1 [0]⟩

def Q96.f:Option ((Int×Int)):=some (0,0)
theorem Q96.spec   {r:(Int×Int)} (H:Q96.f=some r) :
  Spec Tryz.prog 33 [.pointer none] [] [] (fun v l=>v=.agg #[.int .u64 r.1,.int .u64 r.2]∧l=[]):=by
 refine Zp Tryz.func33 fun w0 F0 h0=>?_
 unfold Q96.f at H
 refine J.seq (J.region ?_)
 refine Ze (Yq h0) ?_
 rintro _ w1 ⟨b1,rfl,h1⟩
 replace h1:=nf h1
 refine Zi [0,2] rfl ?_
 refine J.seq (J.seq (Zc [0,2,4] ?_))
 refine Zo ?_
 refine J.seq (J.region ?_)
 refine Zh 1 ?_
 refine Ze (Z3 0 h1) ?_
 intro _ w2 h2
 replace h2:=nf h2
 refine Zi [2] rfl ?_
 refine J.ret ?_
 cases H
 exact ⟨_,_,_,(Yf rfl (Ym (RV.cell Yu 0 h2 rfl rfl rfl rfl) Xb) rfl),⟨rfl,rfl⟩,Zb h2 []⟩

def Q79.f:Option (Bool):=some true
theorem Q79.spec   {r:Bool} (H:Q79.f=some r) :
  Spec Tryz.prog 130 [.pointer none] [] [] (fun v l=>v=.bool r∧l=[]):=by
 refine Zp Tryz.func130 fun w0 F0 h0=>?_
 unfold Q79.f at H
 refine J.seq (Zc [0] ?_)
 refine J.seq (Zc [2] ?_)
 refine J.ret ?_
 cases H
 exact ⟨_,_,_,Za,⟨rfl,rfl⟩,Zb h0 []⟩

def Q71.f:Option (Int):=(Q79.f).bind fun r1=>(if r1=true then (some 0) else (none))
theorem Q71.spec   {r:Int} (H:Q71.f=some r) :
  Spec Tryz.prog 81 [.pointer none] [] [] (fun v l=>v=.int .i64 r∧l=[]):=by
 refine Zp Tryz.func81 fun w0 F0 h0=>?_
 unfold Q71.f at H
 refine J.seq (Zc [0] ?_)
 refine J.seq (J.seq (J.region ?_))
 refine Zh 1 ?_
 obtain ⟨r1,q1,H⟩:=Zn H
 refine Ze (Zf [] (Q79.spec q1) h0 rfl Zs) ?_
 rintro _ w1 ⟨_,⟨rfl,rfl⟩,h1⟩
 replace h1:=nf h1
 refine Zi [0,4] rfl ?_
 refine jIf H (fun c1 H=>?_) fun c1 H=>?_
 ·refine J.seq (Zc [2] ?_)
  refine J.ret ?_
  cases H
  exact ⟨_,_,_,Za,⟨rfl,rfl⟩,Zb h1 []⟩
 refine J.skip (J.seq ?_)
 exact nomatch H

def Q75.f (a1:Int):Option (Bool):=(Q79.f).bind fun r1=>(if (!r1)=true then (none) else (some false))
theorem Q75.spec {a1:Int}  {r:Bool} (H:Q75.f a1=some r) :
  Spec Tryz.prog 83 [.pointer none,.int .u32 a1] [] [] (fun v l=>v=.bool r∧l=[]):=by
 refine Zp Tryz.func83 fun w0 F0 h0=>?_
 unfold Q75.f at H
 refine J.seq (Zc [0,1] ?_)
 refine J.seq (J.region ?_)
 refine Zh 1 ?_
 obtain ⟨r1,q1,H⟩:=Zn H
 refine Ze (Zf [] (Q79.spec q1) h0 rfl Zs) ?_
 rintro _ w1 ⟨_,⟨rfl,rfl⟩,h1⟩
 replace h1:=nf h1
 refine Zh 2 ?_
 refine Z7 8 H (fun c1 H=>?_) fun c1 H=>?_
 ·exact nomatch H
 refine Zi [4] rfl ?_
 refine J.ret ?_
 cases H
 exact ⟨_,_,_,Za,⟨rfl,rfl⟩,Zb h1 []⟩

def Q76.f:Option (List (Int)):=(Q79.f).bind fun r1=>(if r1=true then (some ([]:List (Int))) else (none))
theorem Q76.spec   {r:List (Int)} (H:Q76.f=some r) :
  Spec Tryz.prog 82 [.pointer none] [] [] (fun v l=>∃(A_0:Option Addr) (c_0:Nat),v=.slice A_0 r.length c_0∧l=[O33 r A_0 c_0]):=by
 refine Zp Tryz.func82 fun w0 F0 h0=>?_
 unfold Q76.f at H
 refine J.seq (Zc [0] ?_)
 refine J.seq (J.seq (J.region ?_))
 refine Zh 1 ?_
 obtain ⟨r1,q1,H⟩:=Zn H
 refine Ze (Zf [] (Q79.spec q1) h0 rfl Zs) ?_
 rintro _ w1 ⟨_,⟨rfl,rfl⟩,h1⟩
 replace h1:=nf h1
 refine Zi [0,7] rfl ?_
 refine jIf H (fun c1 H=>?_) fun c1 H=>?_
 ·refine J.seq (Zc [2] ?_)
  refine J.ret ?_
  have h2:=h1.addNil 33 (.int .u32)
  cases H
  exact ⟨_,_,_,Za,⟨_,_,rfl,rfl⟩,Zb h2 [0]⟩
 refine J.skip (J.seq (Zc [0,3] ?_))
 refine J.seq (J.seq ?_)
 exact nomatch H

def Q133.l0:Nat→(Int)→(Int×List (Int)×List (List UInt8)×(List (List UInt8×Bool×List UInt8))×(List (List UInt8×List UInt8)))→Option (Bool)
 | 0,_,_=>none
 | k+1,a3,a4=>(Q91.f a3).bind fun r1=>((Q93.f a4).bind fun r2=>(if (!decide (r1.2=1))=true then (some false) else (if (!decide (r2.2=1))=true then (some false) else ((Q95.f a3 a4).bind fun r3=>(if (!decide (r3=1))=true then (some false) else ((Q83.f a3).bind fun r4=>(if (!decide (r4=1))=true then (some false) else ((Q94.f a3).bind fun r5=>(if (!decide (r5=1))=true then (some false) else ((Q87.f a3).bind fun r6=>(if (!decide (r6=1))=true then (some false) else ((Q82.f).bind fun r7=>(if (!decide (r7=1))=true then (some false) else ((Q81.f).bind fun r8=>(if (!((decide (r8.1=0)) && ((decide (r8.2.1=0)) && ((decide (r8.2.2.1=0)) && ((decide (r8.2.2.2.1=0)) && ((decide (r8.2.2.2.2.1=0)) && ((decide (r8.2.2.2.2.2.1=0)) && ((decide (r8.2.2.2.2.2.2.1=0)) && ((decide (r8.2.2.2.2.2.2.2=0)) && true)))))))))=true then (some false) else ((Q89.f).bind fun r9=>(if (!decide (r9=0))=true then (some false) else ((Q85.f a3).bind fun r10=>(if r10=true then (some false) else ((Q86.f).bind fun r11=>(if (!decide ((r11.length:Int)=0))=true then (some false) else ((Q96.f).bind fun r12=>(if (!((decide (r12.1=0)) && ((decide (r12.2=0)) && true)))=true then (some false) else (if (!decide (a3=0))=true then (if (!((decide ((0:Int)=0)) && ((decide ((0:Int)=0)) && ((decide ((0:Int)=0)) && ((decide ((0:Int)=0)) && ((decide ((0:Int)=0)) && ((decide ((0:Int)=0)) && ((decide ((0:Int)=0)) && ((decide ((0:Int)=0)) && true)))))))))=true then (some false) else ((Q71.f).bind fun r13=>(if (!decide (r13=0))=true then (some false) else ((Q75.f a3).bind fun r14=>(if r14=true then (some false) else ((Q76.f).bind fun r15=>(if (!decide ((r15.length:Int)=0))=true then (some false) else (if (!((decide ((0:Int)=0)) && ((decide ((0:Int)=0)) && true)))=true then (some false) else ((Q134.f k).bind fun r16=>(some r16)))))))))) else (if (!((decide ((0:Int)=0)) && ((decide ((0:Int)=0)) && ((decide ((0:Int)=0)) && ((decide ((0:Int)=0)) && ((decide ((0:Int)=0)) && ((decide ((0:Int)=0)) && ((decide ((0:Int)=0)) && ((decide ((0:Int)=0)) && true)))))))))=true then (some false) else ((Q71.f).bind fun r17=>(if (!decide (r17=0))=true then (some false) else ((Q75.f a3).bind fun r18=>(if r18=true then (some false) else ((Q76.f).bind fun r19=>(if (!decide ((r19.length:Int)=0))=true then (some false) else (if (!((decide ((0:Int)=0)) && ((decide ((0:Int)=0)) && true)))=true then (some false) else ((Q134.f k).bind fun r20=>(some r20))))))))))))))))))))))))))))))))))
def Q133.l1:Nat→(Int×Int×Int×Int×Int×Int×Int×Int)→(Int)→(Int×List (Int)×List (List UInt8)×(List (List UInt8×Bool×List UInt8))×(List (List UInt8×List UInt8)))→(Int×List (Int)×(Int×Int))→(List (Int))→(Int)→Option (Bool)
 | 0,_,_,_,_,_,_=>none
 | k+1,a0,a3,a4,r24,x1,x2=>if (decide (x2<a0.2.2.1))=true then (if (x1.length+([x2]:List (Int)).length)*8≤140737488355328 then (Q133.l1 k a0 a3 a4 r24 (x1 ++ ([x2]:List (Int))) (w64 (x2+1))) else none) else ((Q50.f r24).bind fun r64=>(if (!decide (r64=a0.1))=true then ((Q80.f a0).bind fun r65=>(Y4 r65.1 (if (!decide (r65.2=0))=true then ((Q138.f k a0).bind fun r67=>(if (!r67)=true then (some false) else (if (!decide (r65.2=1))=true then (some false) else (if (!(false == false))=true then (some false) else ((Q50.f r24).bind fun r68=>(if (decide (r68=a0.1))=true then ((Q51.f r24).bind fun r69=>(if (!(false == (decide (r69=a0.2.1))))=true then (some false) else (Q133.l0 k a3 a4))) else (Q133.l0 k a3 a4))))))) else none) (fun r66=>(if (!decide (r65.2=0))=false then (some false) else none)))) else ((Q51.f r24).bind fun r70=>(if (!decide (r70=a0.2.1))=true then ((Q80.f a0).bind fun r71=>(Y4 r71.1 (if (!decide (r71.2=0))=true then ((Q138.f k a0).bind fun r73=>(if (!r73)=true then (some false) else (if (!decide (r71.2=1))=true then (some false) else (if (!(false == false))=true then (some false) else ((Q50.f r24).bind fun r74=>(if (decide (r74=a0.1))=true then ((Q51.f r24).bind fun r75=>(if (!(false == (decide (r75=a0.2.1))))=true then (some false) else (Q133.l0 k a3 a4))) else (Q133.l0 k a3 a4))))))) else none) (fun r72=>(if (!decide (r71.2=0))=false then (some false) else none)))) else ((Q69.f a0.1).bind fun r76=>(Y4 r76.1 (if (!decide (r76.2=0))=true then ((Q80.f a0).bind fun r78=>(Y4 r78.1 (if (!decide (r78.2=0))=true then ((Q138.f k a0).bind fun r80=>(if (!r80)=true then (if (decide (r76.2=2))=true then (if (decide (r78.2=2))=true then ((Q134.f k).bind fun r81=>(some r81)) else (some false)) else (some false)) else (if (!decide (r78.2=1))=true then (some false) else (if (!(false == (decide (r76.2=0))))=true then (some false) else ((Q50.f r24).bind fun r82=>(if (decide (r82=a0.1))=true then ((Q51.f r24).bind fun r83=>(if (!((decide (r76.2=0)) == (decide (r83=a0.2.1))))=true then (some false) else (if (!decide (r76.2=3))=true then (some false) else (Q133.l0 k a3 a4)))) else (if (!((decide (r76.2=0)) == false))=true then (some false) else (if (!decide (r76.2=3))=true then (some false) else (Q133.l0 k a3 a4))))))))) else none) (fun r79=>(if (!decide (r78.2=0))=false then (some false) else none)))) else none) (fun r77=>(if (!decide (r76.2=0))=false then ((Q80.f a0).bind fun r84=>(Y4 r84.1 (if (!decide (r84.2=0))=true then ((Q138.f k a0).bind fun r86=>(if (!r86)=true then (some false) else (if (!decide (r84.2=1))=true then (some false) else (if (!(true == true))=true then (some false) else ((Q50.f r24).bind fun r87=>(if (decide (r87=a0.1))=true then ((Q51.f r24).bind fun r88=>(if (!(true == (decide (r88=a0.2.1))))=true then (some false) else (Q133.l0 k a3 a4))) else (if (!(true == false))=true then (some false) else (Q133.l0 k a3 a4)))))))) else none) (fun r85=>(if (!decide (r84.2=0))=false then (some false) else none)))) else none))))))))
def Q133.f (k:Nat) (a0:Int×Int×Int×Int×Int×Int×Int×Int) (a1:Int) (a2:Int) (a3:Int) (a4:Int×List (Int)×List (List UInt8)×(List (List UInt8×Bool×List UInt8))×(List (List UInt8×List UInt8))):Option (Bool):=(Q132.f k a4).bind fun r21=>(if r21=true then ((Q134.f k).bind fun r22=>(some r22)) else ((Q54.f (w64 (5+(Int.tmod (w64 (a1)) 20))) (w64 (1+(w64 (a2))))).bind fun r23=>(Y4 r23.1 (if (!decide (r23.2=0))=true then ((Q80.f a0).bind fun r25=>(Y4 r25.1 (if (!decide (r25.2=0))=true then ((Q80.f a0).bind fun r27=>(Y4 r27.1 (if (!decide (r27.2=0))=true then (some false) else none) (fun r28=>(if (!decide (r27.2=0))=false then (some false) else none)))) else none) (fun r26=>(if (!decide (r25.2=0))=false then ((Q80.f a0).bind fun r29=>(Y4 r29.1 (if (!decide (r29.2=0))=true then (some false) else none) (fun r30=>(if (!decide (r29.2=0))=false then (some false) else none)))) else none)))) else none) (fun r24=>(if (!decide (r23.2=0))=false then ((Q45.f a0).bind fun r31=>(if (!decide (r31=0))=true then ((Q80.f a0).bind fun r32=>(Y4 r32.1 (if (!decide (r32.2=0))=true then ((Q138.f k a0).bind fun r34=>(if (!r34)=true then (if (decide (r31=2))=true then (if (decide (r32.2=2))=true then ((Q134.f k).bind fun r35=>(some r35)) else (some false)) else (some false)) else (if (!decide (r32.2=1))=true then (some false) else (if (!(false == (decide (r31=0))))=true then (some false) else ((Q50.f r24).bind fun r36=>(if (decide (r36=a0.1))=true then ((Q51.f r24).bind fun r37=>(if (!((decide (r31=0)) == (decide (r37=a0.2.1))))=true then (some false) else (if (!decide (r31=3))=true then (some false) else (Q133.l0 k a3 a4)))) else (if (!((decide (r31=0)) == false))=true then (some false) else (if (!decide (r31=3))=true then (some false) else (Q133.l0 k a3 a4))))))))) else none) (fun r33=>(if (!decide (r32.2=0))=false then (some false) else none)))) else ((Q50.f r24).bind fun r38=>(if (decide (r38=0))=true then ((Q80.f a0).bind fun r39=>(Y4 r39.1 (if (!decide (r39.2=0))=true then ((Q138.f k a0).bind fun r41=>(if (!r41)=true then (some false) else (if (!decide (r39.2=1))=true then (some false) else (if (!(false == false))=true then (some false) else ((Q50.f r24).bind fun r42=>(if (decide (r42=a0.1))=true then ((Q51.f r24).bind fun r43=>(if (!(false == (decide (r43=a0.2.1))))=true then (some false) else (some false))) else (some false))))))) else none) (fun r40=>(if (!decide (r39.2=0))=false then (some false) else none)))) else (if (decide (a0.2.2.1<1))=true then ((Q80.f a0).bind fun r44=>(Y4 r44.1 (if (!decide (r44.2=0))=true then ((Q138.f k a0).bind fun r46=>(if (!r46)=true then (if (decide (r44.2=2))=true then ((Q134.f k).bind fun r47=>(some r47)) else (some false)) else (if (!decide (r44.2=1))=true then (some false) else (if (!(false == false))=true then (some false) else ((Q50.f r24).bind fun r48=>(if (decide (r48=a0.1))=true then ((Q51.f r24).bind fun r49=>(if (!(false == (decide (r49=a0.2.1))))=true then (some false) else (some false))) else (some false))))))) else none) (fun r45=>(if (!decide (r44.2=0))=false then (some false) else none)))) else (if (decide (64<a0.2.2.1))=true then ((Q80.f a0).bind fun r50=>(Y4 r50.1 (if (!decide (r50.2=0))=true then ((Q138.f k a0).bind fun r52=>(if (!r52)=true then (if (decide (r50.2=2))=true then ((Q134.f k).bind fun r53=>(some r53)) else (some false)) else (if (!decide (r50.2=1))=true then (some false) else (if (!(false == false))=true then (some false) else ((Q50.f r24).bind fun r54=>(if (decide (r54=a0.1))=true then ((Q51.f r24).bind fun r55=>(if (!(false == (decide (r55=a0.2.1))))=true then (some false) else (some false))) else (some false))))))) else none) (fun r51=>(if (!decide (r50.2=0))=false then (some false) else none)))) else ((Q31.f a0.2.2.1).bind fun r56=>(Y4 r56.1 (if (!decide (r56.2=0))=true then ((Q80.f a0).bind fun r58=>(Y4 r58.1 (if (!decide (r58.2=0))=true then ((Q138.f k a0).bind fun r60=>(if (!r60)=true then (if (decide (r56.2=2))=true then (if (decide (r58.2=2))=true then ((Q134.f k).bind fun r61=>(some r61)) else (some false)) else (some false)) else (if (!decide (r58.2=1))=true then (some false) else (if (!(false == (decide (r56.2=0))))=true then (some false) else ((Q50.f r24).bind fun r62=>(if (decide (r62=a0.1))=true then ((Q51.f r24).bind fun r63=>(if (!((decide (r56.2=0)) == (decide (r63=a0.2.1))))=true then (some false) else (if (!decide (r56.2=3))=true then (some false) else (Q133.l0 k a3 a4)))) else (if (!((decide (r56.2=0)) == false))=true then (some false) else (if (!decide (r56.2=3))=true then (some false) else (Q133.l0 k a3 a4))))))))) else none) (fun r59=>(if (!decide (r58.2=0))=false then (some false) else none)))) else none) (fun r57=>(if (!decide (r56.2=0))=false then (if 0≤a0.2.2.1∧a0.2.2.1*48≤281474976710656 then (Q133.l1 k a0 a3 a4 r24 ([]:List (Int)) 0) else none) else none)))))))))) else none)))))
theorem Q133.spec {k:Nat} {a0:Int×Int×Int×Int×Int×Int×Int×Int} {a1:Int} {a2:Int} {a3:Int} {a4:Int×List (Int)×List (List UInt8)×(List (List UInt8×Bool×List UInt8))×(List (List UInt8×List UInt8))} {A1:Option Addr} {c_1:Nat} {A2:Option Addr} {c_2:Nat} {A3:Option Addr} {c_3:Nat} {A4:Option Addr} {c_4:Nat} {r:Bool} (H:Q133.f k a0 a1 a2 a3 a4=some r) :
  Spec Tryz.prog 6 [.agg #[.int .i64 a0.1,.int .i64 a0.2.1,.int .i64 a0.2.2.1,.int .i64 a0.2.2.2.1,.int .i64 a0.2.2.2.2.1,.int .i64 a0.2.2.2.2.2.1,.int .i64 a0.2.2.2.2.2.2.1,.int .i64 a0.2.2.2.2.2.2.2],.int .u8 a1,.int .u8 a2,.int .u32 a3,.agg #[.int .i64 a4.1,.slice A1 a4.2.1.length c_1,.slice A2 a4.2.2.1.length c_2,.slice A3 a4.2.2.2.1.length c_3,.slice A4 a4.2.2.2.2.length c_4]] [] [R33 a4.2.1 A1 c_1,R9 a4.2.2.1 A2 c_2,Xk a4.2.2.2.1 A3 c_3,Xl a4.2.2.2.2 A4 c_4,tabC 0] (fun v l=>v=.bool r∧l=[]):=by
 refine Zp Tryz.func6 fun w0 F0 h0=>?_
 unfold Q133.f at H
 refine J.cutH 7 (fun env w=>∃(k1:Nat) (b1:Nat),env=[(3,.int .u32 a3),(9,.pointer (some ⟨b1,0,none⟩))]∧St w0 F0 [X43 b1 a4.1 a4.2.1 A1 c_1 a4.2.2.1 A2 c_2 a4.2.2.2.1 A3 c_3 a4.2.2.2.2 A4 c_4] [R33 a4.2.1 A1 c_1,R9 a4.2.2.1 A2 c_2,Xk a4.2.2.2.1 A3 c_3,Xl a4.2.2.2.2 A4 c_4,tabC 0] w∧Q133.l0 k1 a3 a4=some r∧k1≤k) ?_ (fun ht=>?_)
 ·rintro env w2 ⟨k1,b1,rfl,h1,H,hk1⟩
  rcases k1 with _ | k1
  ·exact z0 H
  rw [Q133.l0] at H
  refine J.seq (Zc [3,9,17] ?_)
  refine J.seq (J.region ?_)
  refine Zh 2 ?_
  refine Ze (Ye h1) ?_
  rintro _ w3 ⟨b2,rfl,h2⟩
  replace h2:=nf h2
  refine Ze (Jn ([.pointer none,.pointer (some ⟨b2,0,none⟩)]:List Value) h2) ?_
  rintro _ w4 ⟨b3,rfl,h3⟩
  replace h3:=nf h3
  refine Zi [3,9,18] rfl ?_
  refine J.seq (J.seq (Zc [3,9,18,19] ?_))
  refine J.block (J.rounds 3 ?_)
  refine J.roundN ?_
  refine J.seq (J.seq (Zc [3,9,18,19,113] ?_))
  refine Zo ?_
  refine J.skip (J.seq (J.block (J.seq (J.region ?_))))
  refine Zh 2 ?_
  have e1:=Z6 h3.wh (gO 0) (by decide:(0:Int)≤0) (by exact (show (0:Int)<((2:Nat):Int) by decide))
  refine Zg (Zk e1 (by decide:(0:Int)≤0) (by exact (show (0:Int)<((2:Nat):Int) by decide))) ?_
  refine Zg (Zl 0 h3.wht (gO 0) (by decide:(0:Int)≤0) (by exact (show (0:Int)<((2:Nat):Int) by decide))) ?_
  refine Zi [3,9,18,19,20] rfl ?_
  refine J.seq (J.region ?_)
  refine Zh 2 ?_
  obtain ⟨r1,q1,H⟩:=Zn H
  refine Ze (Zf [] (Q91.spec q1) h3 rfl Zs) ?_
  rintro _ w5 ⟨_,⟨A5,c_5,A6,c_6,A7,c_7,A8,c_8,rfl,rfl⟩,h4⟩
  replace h4:=nf h4
  refine Zh 3 ?_
  refine Ze (Yq h4) ?_
  rintro _ w6 ⟨b4,rfl,h5⟩
  replace h5:=nf h5
  refine Ze (Z3 0 h5) ?_
  intro _ w7 h6
  replace h6:=nf h6
  refine Zi [3,9,18,19,20,22] rfl ?_
  have h7:=Zb h6 [5,5,5]
  replace h7:=nf h7
  refine J.seq (J.region ?_)
  refine Zh 1 ?_
  refine Zg (Zd 2 h7.wht) ?_
  obtain ⟨r2,q2,H⟩:=Zn H
  refine Ze (Zf [] (Q93.spec q2) h7 rfl (Z0 (Zm 3) (Z0 (Zm 4) (Z0 (Zm 5) (Z0 (Zm 6) Zs))))) ?_
  rintro _ w8 ⟨_,⟨rfl,rfl⟩,h8⟩
  replace h8:=nf h8
  refine Zi [3,9,18,19,20,22,24] rfl ?_
  refine J.seq (J.region ?_)
  refine Zh 3 ?_
  refine Z7 134 H (fun c1 H=>?_) fun c1 H=>?_
  ·refine Zi [3,9,18,19,195] rfl ?_
   refine Zo ?_
   refine J.seq (Zc [10] ?_)
   have h9:=Zb h8 []
   replace h9:=nf h9
   refine J.ret ?_
   cases H
   exact ⟨_,_,_,Za,⟨rfl,rfl⟩,Zb h9 []⟩
  refine Zh 4 ?_
  refine Z7 138 H (fun c2 H=>?_) fun c2 H=>?_
  ·refine Zi [3,9,18,19,195] rfl ?_
   refine Zo ?_
   refine J.seq (Zc [10] ?_)
   have h10:=Zb h8 []
   replace h10:=nf h10
   refine J.ret ?_
   cases H
   exact ⟨_,_,_,Za,⟨rfl,rfl⟩,Zb h10 []⟩
  refine Zh 2 ?_
  refine Zg (Zd 2 h8.wht) ?_
  obtain ⟨r3,q3,H⟩:=Zn H
  refine Ze (Zf [] (Q95.spec q3) h8 rfl (Z0 (Zm 3) (Z0 (Zm 4) (Z0 (Zm 5) (Z0 (Zm 6) Zs))))) ?_
  rintro _ w9 ⟨_,⟨rfl,rfl⟩,h11⟩
  replace h11:=nf h11
  refine Zh 3 ?_
  refine Z7 145 H (fun c3 H=>?_) fun c3 H=>?_
  ·refine Zi [3,9,18,19,195] rfl ?_
   refine Zo ?_
   refine J.seq (Zc [10] ?_)
   have h12:=Zb h11 []
   replace h12:=nf h12
   refine J.ret ?_
   cases H
   exact ⟨_,_,_,Za,⟨rfl,rfl⟩,Zb h12 []⟩
  refine Zh 2 ?_
  obtain ⟨r4,q4,H⟩:=Zn H
  refine Ze (Zf [] (Q83.spec q4) h11 rfl Zs) ?_
  rintro _ w10 ⟨_,⟨rfl,rfl⟩,h13⟩
  replace h13:=nf h13
  refine Zh 3 ?_
  refine Z7 151 H (fun c4 H=>?_) fun c4 H=>?_
  ·refine Zi [3,9,18,19,195] rfl ?_
   refine Zo ?_
   refine J.seq (Zc [10] ?_)
   have h14:=Zb h13 []
   replace h14:=nf h14
   refine J.ret ?_
   cases H
   exact ⟨_,_,_,Za,⟨rfl,rfl⟩,Zb h14 []⟩
  refine Zh 2 ?_
  obtain ⟨r5,q5,H⟩:=Zn H
  refine Ze (Zf [] (Q94.spec q5) h13 rfl Zs) ?_
  rintro _ w11 ⟨_,⟨rfl,rfl⟩,h15⟩
  replace h15:=nf h15
  refine Zh 3 ?_
  refine Z7 157 H (fun c5 H=>?_) fun c5 H=>?_
  ·refine Zi [3,9,18,19,195] rfl ?_
   refine Zo ?_
   refine J.seq (Zc [10] ?_)
   have h16:=Zb h15 []
   replace h16:=nf h16
   refine J.ret ?_
   cases H
   exact ⟨_,_,_,Za,⟨rfl,rfl⟩,Zb h16 []⟩
  refine Zh 2 ?_
  obtain ⟨r6,q6,H⟩:=Zn H
  refine Ze (Zf [] (Q87.spec q6) h15 rfl Zs) ?_
  rintro _ w12 ⟨_,⟨rfl,rfl⟩,h17⟩
  replace h17:=nf h17
  refine Zh 3 ?_
  refine Z7 163 H (fun c6 H=>?_) fun c6 H=>?_
  ·refine Zi [3,9,18,19,195] rfl ?_
   refine Zo ?_
   refine J.seq (Zc [10] ?_)
   have h18:=Zb h17 []
   replace h18:=nf h18
   refine J.ret ?_
   cases H
   exact ⟨_,_,_,Za,⟨rfl,rfl⟩,Zb h18 []⟩
  refine Zh 1 ?_
  obtain ⟨r7,q7,H⟩:=Zn H
  refine Ze (Zf [] (Q82.spec q7) h17 rfl Zs) ?_
  rintro _ w13 ⟨_,⟨rfl,rfl⟩,h19⟩
  replace h19:=nf h19
  refine Zh 3 ?_
  refine Z7 168 H (fun c7 H=>?_) fun c7 H=>?_
  ·refine Zi [3,9,18,19,195] rfl ?_
   refine Zo ?_
   refine J.seq (Zc [10] ?_)
   have h20:=Zb h19 []
   replace h20:=nf h20
   refine J.ret ?_
   cases H
   exact ⟨_,_,_,Za,⟨rfl,rfl⟩,Zb h20 []⟩
  refine Zh 1 ?_
  obtain ⟨r8,q8,H⟩:=Zn H
  refine Ze (Zf [] (Q81.spec q8) h19 rfl Zs) ?_
  rintro _ w14 ⟨_,⟨rfl,rfl⟩,h21⟩
  replace h21:=nf h21
  refine Zh 4 ?_
  refine Z7 174 H (fun c8 H=>?_) fun c8 H=>?_
  ·refine Zi [3,9,18,19,195] rfl ?_
   refine Zo ?_
   refine J.seq (Zc [10] ?_)
   have h22:=Zb h21 []
   replace h22:=nf h22
   refine J.ret ?_
   cases H
   exact ⟨_,_,_,Za,⟨rfl,rfl⟩,Zb h22 []⟩
  refine Zh 1 ?_
  obtain ⟨r9,q9,H⟩:=Zn H
  refine Ze (Zf [] (Q89.spec q9) h21 rfl Zs) ?_
  rintro _ w15 ⟨_,⟨rfl,rfl⟩,h23⟩
  replace h23:=nf h23
  refine Zh 3 ?_
  refine Z7 179 H (fun c9 H=>?_) fun c9 H=>?_
  ·refine Zi [3,9,18,19,195] rfl ?_
   refine Zo ?_
   refine J.seq (Zc [10] ?_)
   have h24:=Zb h23 []
   replace h24:=nf h24
   refine J.ret ?_
   cases H
   exact ⟨_,_,_,Za,⟨rfl,rfl⟩,Zb h24 []⟩
  refine Zh 2 ?_
  obtain ⟨r10,q10,H⟩:=Zn H
  refine Ze (Zf [] (Q85.spec q10) h23 rfl Zs) ?_
  rintro _ w16 ⟨_,⟨rfl,rfl⟩,h25⟩
  replace h25:=nf h25
  refine Zh 2 ?_
  refine Z7 184 H (fun c10 H=>?_) fun c10 H=>?_
  ·refine Zi [3,9,18,19,195] rfl ?_
   refine Zo ?_
   refine J.seq (Zc [10] ?_)
   have h26:=Zb h25 []
   replace h26:=nf h26
   refine J.ret ?_
   cases H
   exact ⟨_,_,_,Za,⟨rfl,rfl⟩,Zb h26 []⟩
  refine Zh 1 ?_
  obtain ⟨r11,q11,H⟩:=Zn H
  refine Ze (Zf [] (Q86.spec q11) h25 rfl Zs) ?_
  rintro _ w17 ⟨_,⟨A9,c_9,rfl,rfl⟩,h27⟩
  replace h27:=nf h27
  refine Zh 4 ?_
  refine Z7 190 H (fun c11 H=>?_) fun c11 H=>?_
  ·refine Zi [3,9,18,19,195] rfl ?_
   refine Zo ?_
   refine J.seq (Zc [10] ?_)
   have h28:=Zb h27 []
   replace h28:=nf h28
   refine J.ret ?_
   cases H
   exact ⟨_,_,_,Za,⟨rfl,rfl⟩,Zb h28 []⟩
  refine Zh 1 ?_
  obtain ⟨r12,q12,H⟩:=Zn H
  refine Ze (Zf [] (Q96.spec q12) h27 rfl Zs) ?_
  rintro _ w18 ⟨_,⟨rfl,rfl⟩,h29⟩
  replace h29:=nf h29
  refine Zi [3,9,18,19,195] rfl ?_
  refine jIf H (fun c12 H=>?_) fun c12 H=>?_
  ·refine J.seq (Zc [10] ?_)
   have h30:=Zb h29 []
   replace h30:=nf h30
   refine J.ret ?_
   cases H
   exact ⟨_,_,_,Za,⟨rfl,rfl⟩,Zb h30 []⟩
  refine J.skip (Zc [3,9,18,19] ?_)
  refine J.roundN ?_
  refine J.seq (J.seq (Zc [3,9,18,19,113] ?_))
  refine Zo ?_
  refine J.skip (J.seq (J.block (J.seq (J.region ?_))))
  refine Zh 2 ?_
  refine Zg (Zk e1 (by decide:(0:Int)≤1) (by exact (show (1:Int)<((2:Nat):Int) by decide))) ?_
  refine Zg (Zl 0 h29.wht (gO 1) (by decide:(0:Int)≤1) (by exact (show (1:Int)<((2:Nat):Int) by decide))) ?_
  refine Zi [3,9,18,19,20] rfl ?_
  refine J.seq (J.region ?_)
  refine Zh 2 ?_
  refine Z1 Tryz.func24 ?_
  refine J.seq (J.region ?_)
  refine Ze (Yq h29) ?_
  rintro _ w19 ⟨b5,rfl,h31⟩
  replace h31:=nf h31
  refine Zi [0,1,4] rfl ?_
  refine J.seq (J.seq (J.region ?_))
  refine Zh 2 ?_
  refine Z1 Tryz.func76 ?_
  refine J.seq (Zc [0,1] ?_)
  refine J.seq (J.block (J.seq (J.region ?_)))
  refine Zh 6 ?_
  refine Zg (Zd 3 h31.wht) ?_
  refine Zi [0,1,5] rfl ?_
  refine Zo ?_
  refine J.seq (Zc [4] ?_)
  refine J.ret (⟨_,Za,?_⟩)
  refine Zi [0,1,4,6] rfl ?_
  refine J.seq (Zc [0,1,4,6,14] ?_)
  refine Zo ?_
  refine J.seq (J.region ?_)
  refine Zh 2 ?_
  refine Ze (Z3 0 h31) ?_
  intro _ w20 h32
  replace h32:=nf h32
  refine Zi [4,5] rfl ?_
  refine J.ret (⟨_,Yf rfl (Ym (RV.cell Yu 0 h32 rfl rfl rfl rfl) (Ym (RV.tmp rfl) Xb)) rfl,?_⟩)
  refine Zh 3 ?_
  refine Ze (Yq h32) ?_
  rintro _ w21 ⟨b6,rfl,h33⟩
  replace h33:=nf h33
  refine Ze (Z3 0 h33) ?_
  intro _ w22 h34
  replace h34:=nf h34
  refine Zi [3,9,18,19,20,22] rfl ?_
  have h35:=Zb h34 [3,3,3]
  replace h35:=nf h35
  refine J.seq (J.region ?_)
  refine Zh 1 ?_
  refine Zg (Zd 2 h35.wht) ?_
  refine Z1 Tryz.func39 ?_
  refine J.seq (J.region ?_)
  refine Ze (Ye h35) ?_
  rintro _ w23 ⟨b7,rfl,h36⟩
  replace h36:=nf h36
  refine Zi [0,3] rfl ?_
  refine J.seq (J.seq (J.region ?_))
  refine Zh 1 ?_
  refine Z1 Tryz.func60 ?_
  refine J.seq (Zc [0] ?_)
  refine J.seq (J.seq (J.region ?_))
  refine Zh 6 ?_
  refine Zg (Zd 2 h36.wht) ?_
  refine Zi [11] rfl ?_
  refine Zo ?_
  refine J.seq (Zc [2] ?_)
  refine J.ret (⟨_,Za,?_⟩)
  refine Zi [0,3,6] rfl ?_
  refine J.seq (Zc [0,3,6,14] ?_)
  refine Zo ?_
  refine J.seq (Zc [4,5] ?_)
  refine J.ret (⟨_,Za,?_⟩)
  refine Zi [3,9,18,19,20,22,24] rfl ?_
  refine J.seq (J.region ?_)
  refine Zh 9 ?_
  refine Zg (Zd 3 h36.wht) ?_
  refine Z1 Tryz.func40 ?_
  refine J.seq (J.region ?_)
  refine Ze (Ye h36) ?_
  rintro _ w24 ⟨b8,rfl,h37⟩
  replace h37:=nf h37
  refine Zi [0,1,5] rfl ?_
  refine J.seq (J.seq (J.region ?_))
  refine Zh 2 ?_
  refine Z1 Tryz.func76 ?_
  refine J.seq (Zc [0,1] ?_)
  refine J.seq (J.block (J.seq (J.region ?_)))
  refine Zh 6 ?_
  refine Zg (Zd 3 h37.wht) ?_
  refine Zi [0,1,5] rfl ?_
  refine Zo ?_
  refine J.seq (Zc [4] ?_)
  refine J.ret (⟨_,Za,?_⟩)
  refine Zi [0,1,5,7] rfl ?_
  refine J.seq (Zc [0,1,5,7,14] ?_)
  refine Zo ?_
  refine J.seq (Zc [6] ?_)
  refine J.ret (⟨_,Za,?_⟩)
  refine Zh 5 ?_
  refine Z1 Tryz.func41 ?_
  refine J.seq (Zc [0,1] ?_)
  refine J.seq (J.seq (J.region ?_))
  refine Zh 2 ?_
  refine Z1 Tryz.func76 ?_
  refine J.seq (Zc [0,1] ?_)
  refine J.seq (J.block (J.seq (J.region ?_)))
  refine Zh 6 ?_
  refine Zg (Zd 3 h37.wht) ?_
  refine Zi [0,1,5] rfl ?_
  refine Zo ?_
  refine J.seq (Zc [4] ?_)
  refine J.ret (⟨_,Za,?_⟩)
  refine Zi [0,1,5] rfl ?_
  refine J.seq (Zc [0,1,5,11] ?_)
  refine Zo ?_
  refine J.seq (Zc [4] ?_)
  refine J.ret (⟨_,Za,?_⟩)
  refine Zh 5 ?_
  refine Z1 Tryz.func42 ?_
  refine J.seq (Zc [0,1] ?_)
  refine J.seq (J.seq (J.region ?_))
  refine Zh 2 ?_
  refine Z1 Tryz.func76 ?_
  refine J.seq (Zc [0,1] ?_)
  refine J.seq (J.block (J.seq (J.region ?_)))
  refine Zh 6 ?_
  refine Zg (Zd 3 h37.wht) ?_
  refine Zi [0,1,5] rfl ?_
  refine Zo ?_
  refine J.seq (Zc [4] ?_)
  refine J.ret (⟨_,Za,?_⟩)
  refine Zi [0,1,5] rfl ?_
  refine J.seq (Zc [0,1,5,10] ?_)
  refine Zo ?_
  refine J.seq (Zc [4] ?_)
  refine J.ret (⟨_,Za,?_⟩)
  refine Zh 5 ?_
  refine Z1 Tryz.func43 ?_
  refine J.seq (Zc [0,1] ?_)
  refine J.seq (J.seq (Zc [0,1,9] ?_))
  refine jIf H (fun c13 H=>?_) fun c13 H=>?_
  ·refine J.seq (J.region ?_)
   refine Zh 2 ?_
   refine Z1 Tryz.func76 ?_
   refine J.seq (Zc [0,1] ?_)
   refine J.seq (J.block (J.seq (J.region ?_)))
   refine Zh 6 ?_
   refine Zg (Zd 3 h37.wht) ?_
   refine Zi [0,1,5] rfl ?_
   refine Zo ?_
   refine J.seq (Zc [4] ?_)
   refine J.ret (⟨_,Za,?_⟩)
   refine Zi [0,1,5] rfl ?_
   refine J.seq (Zc [0,1,5,14] ?_)
   refine Zo ?_
   refine J.seq (Zc [4] ?_)
   refine J.ret (⟨_,Za,?_⟩)
   refine Zh 4 ?_
   refine Z1 Tryz.func19 ?_
   refine J.seq (Zc [0] ?_)
   refine J.seq (J.seq (J.region ?_))
   refine Zh 1 ?_
   refine Z1 Tryz.func60 ?_
   refine J.seq (Zc [0] ?_)
   refine J.seq (J.seq (J.region ?_))
   refine Zh 6 ?_
   refine Zg (Zd 3 h37.wht) ?_
   refine Zi [11] rfl ?_
   refine Zo ?_
   refine J.seq (Zc [2] ?_)
   refine J.ret (⟨_,Za,?_⟩)
   refine Zi [0,3] rfl ?_
   refine J.seq (Zc [0,3,7] ?_)
   refine Zo ?_
   refine J.seq (Zc [2] ?_)
   refine J.ret (⟨_,Za,?_⟩)
   refine Zh 4 ?_
   refine Z1 Tryz.func32 ?_
   refine J.seq (J.region ?_)
   refine Ze (Yq h37) ?_
   rintro _ w25 ⟨b9,rfl,h38⟩
   replace h38:=nf h38
   refine Zi [0,2] rfl ?_
   refine J.seq (J.seq (Zc [0,2,4] ?_))
   refine Zz ?_
   refine J.skip (J.seq (J.region ?_))
   refine Zh 3 ?_
   refine Zg (Zd 4 h38.wht) ?_
   refine Ze (Z3 0 h38) ?_
   intro _ w26 h39
   replace h39:=nf h39
   refine Zi [2] rfl ?_
   refine J.ret (⟨_,Yf rfl (Ym (RV.cell Yu 0 h39 rfl rfl rfl rfl) Xb) rfl,?_⟩)
   refine Zh 4 ?_
   refine Z7 174 H (fun c14 H=>?_) fun c14 H=>?_
   ·refine Zi [3,9,18,19,195] rfl ?_
    have h40:=Zb h39 [3,3,3]
    replace h40:=nf h40
    refine Zo ?_
    refine J.seq (Zc [10] ?_)
    have h41:=Zb h40 []
    replace h41:=nf h41
    refine J.ret ?_
    cases H
    exact ⟨_,_,_,Za,⟨rfl,rfl⟩,Zb h41 []⟩
   refine Zh 1 ?_
   refine Z1 Tryz.func26 ?_
   refine J.seq (Zc [0] ?_)
   refine J.seq (J.seq (Zc [0,4] ?_))
   refine Zz ?_
   refine J.skip (J.seq (J.region ?_))
   refine Zh 3 ?_
   refine Zg (Zd 4 h39.wht) ?_
   obtain ⟨r13,q13,H⟩:=Zn H
   refine Ze (Zf [] (Q71.spec q13) h39 rfl Zs) ?_
   rintro _ w27 ⟨_,⟨rfl,rfl⟩,h42⟩
   replace h42:=nf h42
   refine Zi [2] rfl ?_
   refine J.ret (⟨_,Za,?_⟩)
   refine Zh 3 ?_
   refine Z7 179 H (fun c15 H=>?_) fun c15 H=>?_
   ·refine Zi [3,9,18,19,195] rfl ?_
    have h43:=Zb h42 [3,3,3]
    replace h43:=nf h43
    refine Zo ?_
    refine J.seq (Zc [10] ?_)
    have h44:=Zb h43 []
    replace h44:=nf h44
    refine J.ret ?_
    cases H
    exact ⟨_,_,_,Za,⟨rfl,rfl⟩,Zb h44 []⟩
   refine Zh 2 ?_
   refine Z1 Tryz.func31 ?_
   refine J.seq (Zc [0,1] ?_)
   refine J.seq (J.region ?_)
   refine Zh 6 ?_
   refine Zg (Zd 4 h42.wht) ?_
   refine Zh 1 ?_
   obtain ⟨r14,q14,H⟩:=Zn H
   refine Ze (Zf [] (Q75.spec q14) h42 rfl Zs) ?_
   rintro _ w28 ⟨_,⟨rfl,rfl⟩,h45⟩
   replace h45:=nf h45
   refine Zi [4] rfl ?_
   refine J.ret (⟨_,Za,?_⟩)
   refine Zh 2 ?_
   refine Z7 184 H (fun c16 H=>?_) fun c16 H=>?_
   ·refine Zi [3,9,18,19,195] rfl ?_
    have h46:=Zb h45 [3,3,3]
    replace h46:=nf h46
    refine Zo ?_
    refine J.seq (Zc [10] ?_)
    have h47:=Zb h46 []
    replace h47:=nf h47
    refine J.ret ?_
    cases H
    exact ⟨_,_,_,Za,⟨rfl,rfl⟩,Zb h47 []⟩
   refine Zh 1 ?_
   refine Z1 Tryz.func29 ?_
   refine J.seq (Zc [0] ?_)
   refine J.seq (J.seq (Zc [0,4] ?_))
   refine Zz ?_
   refine J.skip (J.seq (J.region ?_))
   refine Zh 3 ?_
   refine Zg (Zd 4 h45.wht) ?_
   obtain ⟨r15,q15,H⟩:=Zn H
   refine Ze (Zf [] (Q76.spec q15) h45 rfl Zs) ?_
   rintro _ w29 ⟨_,⟨A10,c_10,rfl,rfl⟩,h48⟩
   replace h48:=nf h48
   refine Zi [2] rfl ?_
   refine J.ret (⟨_,Za,?_⟩)
   refine Zh 4 ?_
   refine Z7 190 H (fun c17 H=>?_) fun c17 H=>?_
   ·refine Zi [3,9,18,19,195] rfl ?_
    have h49:=Zb h48 [4,4,4]
    replace h49:=nf h49
    refine Zo ?_
    refine J.seq (Zc [10] ?_)
    have h50:=Zb h49 []
    replace h50:=nf h50
    refine J.ret ?_
    cases H
    exact ⟨_,_,_,Za,⟨rfl,rfl⟩,Zb h50 []⟩
   refine Zh 1 ?_
   refine Z1 Tryz.func33 ?_
   refine J.seq (J.region ?_)
   refine Ze (Yq h48) ?_
   rintro _ w30 ⟨b10,rfl,h51⟩
   replace h51:=nf h51
   refine Zi [0,2] rfl ?_
   refine J.seq (J.seq (Zc [0,2,4] ?_))
   refine Zz ?_
   refine J.skip (J.seq (J.region ?_))
   refine Zh 3 ?_
   refine Zg (Zd 6 h51.wht) ?_
   refine Z1 Tryz.func23 ?_
   refine J.seq (J.region ?_)
   refine Ze (Yq h51) ?_
   rintro _ w31 ⟨b11,rfl,h52⟩
   replace h52:=nf h52
   refine Zi [0,2] rfl ?_
   refine J.seq (J.seq (Zc [0,2,4] ?_))
   refine Zo ?_
   refine J.seq (J.region ?_)
   refine Zh 1 ?_
   refine Ze (Z3 0 h52) ?_
   intro _ w32 h53
   replace h53:=nf h53
   refine Zi [2] rfl ?_
   refine J.ret (⟨_,Yf rfl (Ym (RV.cell Yu 0 h53 rfl rfl rfl rfl) Xb) rfl,?_⟩)
   refine Ze (Z3 1 h53) ?_
   intro _ w33 h54
   replace h54:=nf h54
   refine Zi [2] rfl ?_
   refine J.ret (⟨_,Yf rfl (Ym (RV.cell Yu 0 h54 rfl rfl rfl rfl) Xb) rfl,?_⟩)
   refine Zi [3,9,18,19,195] rfl ?_
   have h55:=Zb h54 [6,6,6]
   replace h55:=nf h55
   refine jIf H (fun c18 H=>?_) fun c18 H=>?_
   ·refine J.seq (Zc [10] ?_)
    have h56:=Zb h55 []
    replace h56:=nf h56
    refine J.ret ?_
    cases H
    exact ⟨_,_,_,Za,⟨rfl,rfl⟩,Zb h56 []⟩
   refine J.skip (Zc [3,9,18,19] ?_)
   refine J.roundN ?_
   refine J.seq (J.seq (Zc [3,9,18,19,113] ?_))
   refine Zz ?_
   refine J.exit (J.seq (J.region ?_))
   obtain ⟨r16,q16,H⟩:=Zn H
   refine Ze (Zf [] (Q134.spec q16) h55 rfl (Z0 (Zm 7) Zs)) ?_
   rintro _ w34 ⟨_,⟨rfl,rfl⟩,h57⟩
   replace h57:=nf h57
   refine Zi [10] rfl ?_
   have h58:=Zb h57 []
   replace h58:=nf h58
   refine J.ret ?_
   cases H
   exact ⟨_,_,_,Za,⟨rfl,rfl⟩,Zb h58 []⟩
  refine J.skip (J.seq (J.seq (J.region ?_)))
  refine Zh 1 ?_
  refine Z1 Tryz.func60 ?_
  refine J.seq (Zc [0] ?_)
  refine J.seq (J.seq (J.region ?_))
  refine Zh 6 ?_
  refine Zg (Zd 3 h37.wht) ?_
  refine Zi [11] rfl ?_
  refine Zo ?_
  refine J.seq (Zc [2] ?_)
  refine J.ret (⟨_,Za,?_⟩)
  refine Zi [0,1,6] rfl ?_
  refine J.seq (Zc [0,1,6,27] ?_)
  refine Zo ?_
  refine J.seq (Zc [4] ?_)
  refine J.ret (⟨_,Za,?_⟩)
  refine Zh 4 ?_
  refine Z1 Tryz.func19 ?_
  refine J.seq (Zc [0] ?_)
  refine J.seq (J.seq (J.region ?_))
  refine Zh 1 ?_
  refine Z1 Tryz.func60 ?_
  refine J.seq (Zc [0] ?_)
  refine J.seq (J.seq (J.region ?_))
  refine Zh 6 ?_
  refine Zg (Zd 3 h37.wht) ?_
  refine Zi [11] rfl ?_
  refine Zo ?_
  refine J.seq (Zc [2] ?_)
  refine J.ret (⟨_,Za,?_⟩)
  refine Zi [0,3] rfl ?_
  refine J.seq (Zc [0,3,7] ?_)
  refine Zo ?_
  refine J.seq (Zc [2] ?_)
  refine J.ret (⟨_,Za,?_⟩)
  refine Zh 4 ?_
  refine Z1 Tryz.func32 ?_
  refine J.seq (J.region ?_)
  refine Ze (Yq h37) ?_
  rintro _ w35 ⟨b12,rfl,h59⟩
  replace h59:=nf h59
  refine Zi [0,2] rfl ?_
  refine J.seq (J.seq (Zc [0,2,4] ?_))
  refine Zz ?_
  refine J.skip (J.seq (J.region ?_))
  refine Zh 3 ?_
  refine Zg (Zd 4 h59.wht) ?_
  refine Ze (Z3 0 h59) ?_
  intro _ w36 h60
  replace h60:=nf h60
  refine Zi [2] rfl ?_
  refine J.ret (⟨_,Yf rfl (Ym (RV.cell Yu 0 h60 rfl rfl rfl rfl) Xb) rfl,?_⟩)
  refine Zh 4 ?_
  refine Z7 174 H (fun c19 H=>?_) fun c19 H=>?_
  ·refine Zi [3,9,18,19,195] rfl ?_
   have h61:=Zb h60 [3,3,3]
   replace h61:=nf h61
   refine Zo ?_
   refine J.seq (Zc [10] ?_)
   have h62:=Zb h61 []
   replace h62:=nf h62
   refine J.ret ?_
   cases H
   exact ⟨_,_,_,Za,⟨rfl,rfl⟩,Zb h62 []⟩
  refine Zh 1 ?_
  refine Z1 Tryz.func26 ?_
  refine J.seq (Zc [0] ?_)
  refine J.seq (J.seq (Zc [0,4] ?_))
  refine Zz ?_
  refine J.skip (J.seq (J.region ?_))
  refine Zh 3 ?_
  refine Zg (Zd 4 h60.wht) ?_
  obtain ⟨r17,q17,H⟩:=Zn H
  refine Ze (Zf [] (Q71.spec q17) h60 rfl Zs) ?_
  rintro _ w37 ⟨_,⟨rfl,rfl⟩,h63⟩
  replace h63:=nf h63
  refine Zi [2] rfl ?_
  refine J.ret (⟨_,Za,?_⟩)
  refine Zh 3 ?_
  refine Z7 179 H (fun c20 H=>?_) fun c20 H=>?_
  ·refine Zi [3,9,18,19,195] rfl ?_
   have h64:=Zb h63 [3,3,3]
   replace h64:=nf h64
   refine Zo ?_
   refine J.seq (Zc [10] ?_)
   have h65:=Zb h64 []
   replace h65:=nf h65
   refine J.ret ?_
   cases H
   exact ⟨_,_,_,Za,⟨rfl,rfl⟩,Zb h65 []⟩
  refine Zh 2 ?_
  refine Z1 Tryz.func31 ?_
  refine J.seq (Zc [0,1] ?_)
  refine J.seq (J.region ?_)
  refine Zh 6 ?_
  refine Zg (Zd 4 h63.wht) ?_
  refine Zh 1 ?_
  obtain ⟨r18,q18,H⟩:=Zn H
  refine Ze (Zf [] (Q75.spec q18) h63 rfl Zs) ?_
  rintro _ w38 ⟨_,⟨rfl,rfl⟩,h66⟩
  replace h66:=nf h66
  refine Zi [4] rfl ?_
  refine J.ret (⟨_,Za,?_⟩)
  refine Zh 2 ?_
  refine Z7 184 H (fun c21 H=>?_) fun c21 H=>?_
  ·refine Zi [3,9,18,19,195] rfl ?_
   have h67:=Zb h66 [3,3,3]
   replace h67:=nf h67
   refine Zo ?_
   refine J.seq (Zc [10] ?_)
   have h68:=Zb h67 []
   replace h68:=nf h68
   refine J.ret ?_
   cases H
   exact ⟨_,_,_,Za,⟨rfl,rfl⟩,Zb h68 []⟩
  refine Zh 1 ?_
  refine Z1 Tryz.func29 ?_
  refine J.seq (Zc [0] ?_)
  refine J.seq (J.seq (Zc [0,4] ?_))
  refine Zz ?_
  refine J.skip (J.seq (J.region ?_))
  refine Zh 3 ?_
  refine Zg (Zd 4 h66.wht) ?_
  obtain ⟨r19,q19,H⟩:=Zn H
  refine Ze (Zf [] (Q76.spec q19) h66 rfl Zs) ?_
  rintro _ w39 ⟨_,⟨A11,c_11,rfl,rfl⟩,h69⟩
  replace h69:=nf h69
  refine Zi [2] rfl ?_
  refine J.ret (⟨_,Za,?_⟩)
  refine Zh 4 ?_
  refine Z7 190 H (fun c22 H=>?_) fun c22 H=>?_
  ·refine Zi [3,9,18,19,195] rfl ?_
   have h70:=Zb h69 [4,4,4]
   replace h70:=nf h70
   refine Zo ?_
   refine J.seq (Zc [10] ?_)
   have h71:=Zb h70 []
   replace h71:=nf h71
   refine J.ret ?_
   cases H
   exact ⟨_,_,_,Za,⟨rfl,rfl⟩,Zb h71 []⟩
  refine Zh 1 ?_
  refine Z1 Tryz.func33 ?_
  refine J.seq (J.region ?_)
  refine Ze (Yq h69) ?_
  rintro _ w40 ⟨b13,rfl,h72⟩
  replace h72:=nf h72
  refine Zi [0,2] rfl ?_
  refine J.seq (J.seq (Zc [0,2,4] ?_))
  refine Zz ?_
  refine J.skip (J.seq (J.region ?_))
  refine Zh 3 ?_
  refine Zg (Zd 6 h72.wht) ?_
  refine Z1 Tryz.func23 ?_
  refine J.seq (J.region ?_)
  refine Ze (Yq h72) ?_
  rintro _ w41 ⟨b14,rfl,h73⟩
  replace h73:=nf h73
  refine Zi [0,2] rfl ?_
  refine J.seq (J.seq (Zc [0,2,4] ?_))
  refine Zo ?_
  refine J.seq (J.region ?_)
  refine Zh 1 ?_
  refine Ze (Z3 0 h73) ?_
  intro _ w42 h74
  replace h74:=nf h74
  refine Zi [2] rfl ?_
  refine J.ret (⟨_,Yf rfl (Ym (RV.cell Yu 0 h74 rfl rfl rfl rfl) Xb) rfl,?_⟩)
  refine Ze (Z3 1 h74) ?_
  intro _ w43 h75
  replace h75:=nf h75
  refine Zi [2] rfl ?_
  refine J.ret (⟨_,Yf rfl (Ym (RV.cell Yu 0 h75 rfl rfl rfl rfl) Xb) rfl,?_⟩)
  refine Zi [3,9,18,19,195] rfl ?_
  have h76:=Zb h75 [6,6,6]
  replace h76:=nf h76
  refine jIf H (fun c23 H=>?_) fun c23 H=>?_
  ·refine J.seq (Zc [10] ?_)
   have h77:=Zb h76 []
   replace h77:=nf h77
   refine J.ret ?_
   cases H
   exact ⟨_,_,_,Za,⟨rfl,rfl⟩,Zb h77 []⟩
  refine J.skip (Zc [3,9,18,19] ?_)
  refine J.roundN ?_
  refine J.seq (J.seq (Zc [3,9,18,19,113] ?_))
  refine Zz ?_
  refine J.exit (J.seq (J.region ?_))
  obtain ⟨r20,q20,H⟩:=Zn H
  refine Ze (Zf [] (Q134.spec q20) h76 rfl (Z0 (Zm 7) Zs)) ?_
  rintro _ w44 ⟨_,⟨rfl,rfl⟩,h78⟩
  replace h78:=nf h78
  refine Zi [10] rfl ?_
  have h79:=Zb h78 []
  replace h79:=nf h79
  refine J.ret ?_
  cases H
  exact ⟨_,_,_,Za,⟨rfl,rfl⟩,Zb h79 []⟩
 refine J.seq (J.region ?_)
 refine Ze (Ye h0) ?_
 rintro _ w45 ⟨b15,rfl,h80⟩
 replace h80:=nf h80
 refine Ze (Ye h80) ?_
 rintro _ w46 ⟨b16,rfl,h81⟩
 replace h81:=nf h81
 refine Zi [1,2,3,5,9] rfl ?_
 refine J.seq (J.seq (J.region ?_))
 refine Zg (Zd 0 h81.wht) ?_
 obtain ⟨r21,q21,H⟩:=Zn H
 refine Ze (Zf [] (Q132.spec q21) h81 rfl (Z0 (Zm 2) (Z0 (Zm 3) (Z0 (Zm 4) (Z0 (Zm 5) Zs))))) ?_
 rintro _ w47 ⟨_,⟨rfl,rfl⟩,h82⟩
 replace h82:=nf h82
 refine Zi [1,2,3,5,9,26] rfl ?_
 refine jIf H (fun c24 H=>?_) fun c24 H=>?_
 ·refine J.seq (J.region ?_)
  obtain ⟨r22,q22,H⟩:=Zn H
  refine Ze (Zf [] (Q134.spec q22) h82 rfl (Z0 (Zm 6) Zs)) ?_
  rintro _ w48 ⟨_,⟨rfl,rfl⟩,h83⟩
  replace h83:=nf h83
  refine Zi [10] rfl ?_
  have h84:=Zb h83 []
  replace h84:=nf h84
  refine J.ret ?_
  cases H
  exact ⟨_,_,_,Za,⟨rfl,rfl⟩,Zb h84 []⟩
 refine J.skip (J.seq (J.region ?_))
 refine Zh 7 ?_
 obtain ⟨r23,q23,H⟩:=Zn H
 refine Ze (Zf [] (Q54.spec q23) h82 rfl Zs) ?_
 rintro _ w49 ⟨_,⟨v1,l1,ho1,rfl,rfl⟩,h85⟩
 rcases ho2:r23.1 with _ | r24
 ·rw [ho2] at ho1
  obtain ⟨rfl,rfl⟩:=ho1
  replace H:=Y8 ho2 H
  obtain ⟨c25,H⟩:=Zt H
  replace h85:=nf h85
  refine Zi [3,5,9,11,12] rfl ?_
  refine J.seq (J.region ?_)
  refine Zg (Zd 1 h85.wht) ?_
  refine Zh 1 ?_
  obtain ⟨r25,q24,H⟩:=Zn H
  refine Ze (Zf [] (Q80.spec q24) h85 rfl Zs) ?_
  rintro _ w50 ⟨_,⟨v2,l2,ho3,rfl,rfl⟩,h86⟩
  rcases ho4:r25.1 with _ | r26
  ·rw [ho4] at ho3
   obtain ⟨rfl,rfl⟩:=ho3
   replace H:=Y8 ho4 H
   obtain ⟨c27,H⟩:=Zt H
   replace h86:=nf h86
   refine Zi [3,5,9,11,12,13,14] rfl ?_
   refine J.seq (J.region ?_)
   refine Zg (Zd 1 h86.wht) ?_
   obtain ⟨r27,q25,H⟩:=Zn H
   refine Ze (Zf [] (Q80.spec q25) h86 rfl Zs) ?_
   rintro _ w51 ⟨_,⟨v3,l3,ho5,rfl,rfl⟩,h87⟩
   rcases ho6:r27.1 with _ | r28
   ·rw [ho6] at ho5
    obtain ⟨rfl,rfl⟩:=ho5
    replace H:=Y8 ho6 H
    obtain ⟨c29,H⟩:=Zt H
    replace h87:=nf h87
    refine Zi [3,5,9,11,12,13,14,15,16] rfl ?_
    refine J.seq (J.seq (J.region ?_))
    refine Zh 3 ?_
    refine Z8 52 (congrArg Value.bool c25) ?_
    refine Zi [3,5,9,11,13,14,16,55] rfl ?_
    refine Zo ?_
    refine J.seq (Zc [10] ?_)
    have h88:=Zb h87 []
    replace h88:=nf h88
    refine J.ret ?_
    cases H
    exact ⟨_,_,_,Za,⟨rfl,rfl⟩,Zb h88 []⟩
   rw [ho6] at ho5
   obtain ⟨b17,b18,b19,A12,c_12,A13,c_13,b20,A14,c_14,b21,A15,c_15,b22,b23,A16,c_16,rfl,rfl⟩:=ho5
   replace H:=Y6 ho6 H
   obtain ⟨c30,H⟩:=Zt H
   replace h87:=nf h87
   refine Zi [3,5,9,11,12,13,14,15,16] rfl ?_
   refine J.seq (J.seq (J.region ?_))
   refine Zh 3 ?_
   refine Z8 52 (congrArg Value.bool c25) ?_
   refine Zi [3,5,9,11,13,14,16,55] rfl ?_
   have h89:=Zb h87 [12,12]
   replace h89:=nf h89
   refine Zo ?_
   refine J.seq (Zc [10] ?_)
   have h90:=Zb h89 []
   replace h90:=nf h90
   refine J.ret ?_
   cases H
   exact ⟨_,_,_,Za,⟨rfl,rfl⟩,Zb h90 []⟩
  rw [ho4] at ho3
  obtain ⟨b24,b25,b26,A17,c_17,A18,c_18,b27,A19,c_19,b28,A20,c_20,b29,b30,A21,c_21,rfl,rfl⟩:=ho3
  replace H:=Y6 ho4 H
  obtain ⟨c28,H⟩:=Zt H
  replace h86:=nf h86
  refine Zi [3,5,9,11,12,13,14] rfl ?_
  refine J.seq (J.region ?_)
  refine Zg (Zd 13 h86.wht) ?_
  obtain ⟨r29,q26,H⟩:=Zn H
  refine Ze (Zf [] (Q80.spec q26) h86 rfl Zs) ?_
  rintro _ w52 ⟨_,⟨v4,l4,ho7,rfl,rfl⟩,h91⟩
  rcases ho8:r29.1 with _ | r30
  ·rw [ho8] at ho7
   obtain ⟨rfl,rfl⟩:=ho7
   replace H:=Y8 ho8 H
   obtain ⟨c31,H⟩:=Zt H
   replace h91:=nf h91
   refine Zi [3,5,9,11,12,13,14,15,16] rfl ?_
   refine J.seq (J.seq (J.region ?_))
   refine Zh 3 ?_
   refine Z8 52 (congrArg Value.bool c25) ?_
   refine Zi [3,5,9,11,13,14,16,55] rfl ?_
   refine Zo ?_
   refine J.seq (Zc [10] ?_)
   have h92:=Zb h91 []
   replace h92:=nf h92
   refine J.ret ?_
   cases H
   exact ⟨_,_,_,Za,⟨rfl,rfl⟩,Zb h92 []⟩
  rw [ho8] at ho7
  obtain ⟨b31,b32,b33,A22,c_22,A23,c_23,b34,A24,c_24,b35,A25,c_25,b36,b37,A26,c_26,rfl,rfl⟩:=ho7
  replace H:=Y6 ho8 H
  obtain ⟨c32,H⟩:=Zt H
  replace h91:=nf h91
  refine Zi [3,5,9,11,12,13,14,15,16] rfl ?_
  refine J.seq (J.seq (J.region ?_))
  refine Zh 3 ?_
  refine Z8 52 (congrArg Value.bool c25) ?_
  refine Zi [3,5,9,11,13,14,16,55] rfl ?_
  have h93:=Zb h91 [12,12,12,12,12,12,12,12,12,12,12,12,12,12]
  replace h93:=nf h93
  refine Zo ?_
  refine J.seq (Zc [10] ?_)
  have h94:=Zb h93 []
  replace h94:=nf h94
  refine J.ret ?_
  cases H
  exact ⟨_,_,_,Za,⟨rfl,rfl⟩,Zb h94 []⟩
 rw [ho2] at ho1
 obtain ⟨b38,A27,c_27,rfl,rfl⟩:=ho1
 replace H:=Y6 ho2 H
 obtain ⟨c26,H⟩:=Zt H
 replace h85:=nf h85
 refine Zi [3,5,9,11,12] rfl ?_
 refine J.seq (J.region ?_)
 refine Zg (Zd 3 h85.wht) ?_
 refine Zh 1 ?_
 refine Z1 Tryz.func35 ?_
 refine J.seq (J.region ?_)
 refine Ze (Ye h85) ?_
 rintro _ w53 ⟨b39,rfl,h95⟩
 replace h95:=nf h95
 refine Zi [1,2] rfl ?_
 refine J.seq (J.seq (J.region ?_))
 refine Zg (Zd 0 h95.wht) ?_
 obtain ⟨r31,q27,H⟩:=Zn H
 refine Ze (Zf [] (Q45.spec q27) h95 rfl Zs) ?_
 rintro _ w54 ⟨_,⟨rfl,rfl⟩,h96⟩
 replace h96:=nf h96
 refine Zi [1,2,6] rfl ?_
 refine J.seq (Zc [1,2,6,13] ?_)
 refine jIf H (fun c33 H=>?_) fun c33 H=>?_
 ·refine J.seq (Zc [4,5] ?_)
  refine J.ret (⟨_,Za,?_⟩)
  refine Zi [3,5,9,11,12,13,14] rfl ?_
  refine J.seq (J.region ?_)
  refine Zg (Zd 4 h96.wht) ?_
  obtain ⟨r32,q28,H⟩:=Zn H
  refine Ze (Zf [] (Q80.spec q28) h96 rfl Zs) ?_
  rintro _ w55 ⟨_,⟨v5,l5,ho9,rfl,rfl⟩,h97⟩
  rcases ho10:r32.1 with _ | r33
  ·rw [ho10] at ho9
   obtain ⟨rfl,rfl⟩:=ho9
   replace H:=Y8 ho10 H
   obtain ⟨c34,H⟩:=Zt H
   replace h97:=nf h97
   refine Zi [3,5,9,11,12,13,14,15,16] rfl ?_
   refine J.seq (J.seq (J.region ?_))
   refine Zh 3 ?_
   refine Z8 52 (congrArg Value.bool c26) ?_
   refine Zi [3,5,9,11,13,14,16,55] rfl ?_
   refine Zz ?_
   refine J.skip (J.seq (J.seq (J.region ?_)))
   refine Zg (Zd 4 h97.wht) ?_
   obtain ⟨r34,q29,H⟩:=Zn H
   refine Ze (Zf [] (Q138.spec q29) h97 rfl Zs) ?_
   rintro _ w56 ⟨_,⟨rfl,rfl⟩,h98⟩
   replace h98:=nf h98
   refine Zi [3,5,9,11,13,14,16,58] rfl ?_
   refine jIf H (fun c36 H=>?_) fun c36 H=>?_
   ·refine J.seq (J.region ?_)
    refine Zh 7 ?_
    refine Z7 65 H (fun c37 H=>?_) fun c37 H=>?_
    ·refine Zh 4 ?_
     refine Z7 69 H (fun c38 H=>?_) fun c38 H=>?_
     ·obtain ⟨r35,q30,H⟩:=Zn H
      refine Ze (Zf [] (Q134.spec q30) h98 rfl (Z0 (Zm 9) Zs)) ?_
      rintro _ w57 ⟨_,⟨rfl,rfl⟩,h99⟩
      replace h99:=nf h99
      refine Zi [10] rfl ?_
      have h100:=Zb h99 []
      replace h100:=nf h100
      refine J.ret ?_
      cases H
      exact ⟨_,_,_,Za,⟨rfl,rfl⟩,Zb h100 []⟩
     refine Zi [10] rfl ?_
     have h101:=Zb h98 []
     replace h101:=nf h101
     refine J.ret ?_
     cases H
     exact ⟨_,_,_,Za,⟨rfl,rfl⟩,Zb h101 []⟩
    refine Zi [10] rfl ?_
    have h102:=Zb h98 []
    replace h102:=nf h102
    refine J.ret ?_
    cases H
    exact ⟨_,_,_,Za,⟨rfl,rfl⟩,Zb h102 []⟩
   refine J.skip (J.seq (J.seq ?_))
   refine Zv h98 ?_
   have h103:=h98.drew
   refine Zu [0,1,2] ?_
   refine Yh 74 H (fun c39 H=>?_) fun c39 H=>?_
   ·refine Zu [3,4,5,6,7,8,9,10,11,12,13,14,15,16,17,18,19,20,21,22,23,24,25,26,27,28,29,30,31,32,33] ?_
    refine Zw [3,9,105] ?_
    have h104:=Zb h103 [3]
    replace h104:=nf h104
    refine Zo ?_
    refine J.seq (Zc [10] ?_)
    refine J.ret ?_
    cases H
    exact ⟨_,_,_,Za,⟨rfl,rfl⟩,Zb h104 []⟩
   refine Zu [3,4,5,6,7,8,9] ?_
   refine Yh 81 H (fun c40 H=>?_) fun c40 H=>?_
   ·refine Zu [10,11,12,13,14,15,16,17,18,19,20,21,22,23,24,25,26,27,28,29,30,31,32,33] ?_
    refine Zw [3,9,105] ?_
    have h105:=Zb h103 [3]
    replace h105:=nf h105
    refine Zo ?_
    refine J.seq (Zc [10] ?_)
    refine J.ret ?_
    cases H
    exact ⟨_,_,_,Za,⟨rfl,rfl⟩,Zb h105 []⟩
   refine Zu [10,11,12,14] ?_
   refine Zj 15 rfl (Zd 4 wI) ?_
   obtain ⟨r36,q31,H⟩:=Zn H
   refine Zq 13 rfl (Zf [1,1] (Q50.spec q31) h103 rfl Zs) ?_
   rintro _ w58 ⟨_,⟨rfl,rfl⟩,h106⟩
   replace h106:=nf h106
   refine ⟨⟨[],(Zb h106 [2,0,0,0,0])⟩,?_⟩
   refine Zu [16,17] ?_
   refine Yh 89 H (fun c41 H=>?_) fun c41 H=>?_
   ·refine Zu [18,20] ?_
    refine Zj 21 rfl (Zd 4 wI) ?_
    obtain ⟨r37,q32,H⟩:=Zn H
    refine Zq 19 rfl (Zf [0,0] (Q51.spec q32) h106 rfl Zs) ?_
    rintro _ w59 ⟨_,⟨rfl,rfl⟩,h107⟩
    replace h107:=nf h107
    refine ⟨⟨[],(Zb h107 [2,0,0,0,0])⟩,?_⟩
    refine Zu [22,23,24,25,26] ?_
    refine Yh 98 H (fun c42 H=>?_) fun c42 H=>?_
    ·refine Zu [27,28,29,30,31,32,33] ?_
     refine Zw [3,9,105] ?_
     have h108:=Zb h107 [3]
     replace h108:=nf h108
     refine Zo ?_
     refine J.seq (Zc [10] ?_)
     refine J.ret ?_
     cases H
     exact ⟨_,_,_,Za,⟨rfl,rfl⟩,Zb h108 []⟩
    refine Zu [27,28,29] ?_
    refine Y5 101 (congrArg Value.bool c33) ?_
    refine Zu [30,31,32,33] ?_
    refine Zw [3,9,105] ?_
    have h109:=Zb h107 [3]
    replace h109:=nf h109
    refine jIf H (fun c43 H=>?_) fun c43 H=>?_
    ·refine J.seq (Zc [10] ?_)
     refine J.ret ?_
     cases H
     exact ⟨_,_,_,Za,⟨rfl,rfl⟩,Zb h109 []⟩
    refine J.skip (Y7 [3,9] ?_)
    have h110:=(sOR h109 [0] [0,1,2,3,4])
    exact ht _ _ ⟨k,b16,rfl,h110,H,Nat.le_refl _⟩
   refine Zu [18,19,20,21,22,23,24,25,26] ?_
   refine Yh 98 H (fun c44 H=>?_) fun c44 H=>?_
   ·refine Zu [27,28,29,30,31,32,33] ?_
    refine Zw [3,9,105] ?_
    have h111:=Zb h106 [3]
    replace h111:=nf h111
    refine Zo ?_
    refine J.seq (Zc [10] ?_)
    refine J.ret ?_
    cases H
    exact ⟨_,_,_,Za,⟨rfl,rfl⟩,Zb h111 []⟩
   refine Zu [27,28,29] ?_
   refine Y5 101 (congrArg Value.bool c33) ?_
   refine Zu [30,31,32,33] ?_
   refine Zw [3,9,105] ?_
   have h112:=Zb h106 [3]
   replace h112:=nf h112
   refine jIf H (fun c45 H=>?_) fun c45 H=>?_
   ·refine J.seq (Zc [10] ?_)
    refine J.ret ?_
    cases H
    exact ⟨_,_,_,Za,⟨rfl,rfl⟩,Zb h112 []⟩
   refine J.skip (Y7 [3,9] ?_)
   have h113:=(sOR h112 [0] [0,1,2,3,4])
   exact ht _ _ ⟨k,b16,rfl,h113,H,Nat.le_refl _⟩
  rw [ho10] at ho9
  obtain ⟨b40,b41,b42,A28,c_28,A29,c_29,b43,A30,c_30,b44,A31,c_31,b45,b46,A32,c_32,rfl,rfl⟩:=ho9
  replace H:=Y6 ho10 H
  obtain ⟨c35,H⟩:=Zt H
  replace h97:=nf h97
  refine Zi [3,5,9,11,12,13,14,15,16] rfl ?_
  refine J.seq (J.seq (J.region ?_))
  refine Zh 3 ?_
  refine Z8 52 (congrArg Value.bool c26) ?_
  refine Zi [3,5,9,11,13,14,16,55] rfl ?_
  have h114:=Zb h97 [13,13,13,13]
  replace h114:=nf h114
  refine Zo ?_
  refine J.seq (Zc [10] ?_)
  have h115:=Zb h114 []
  replace h115:=nf h115
  refine J.ret ?_
  cases H
  exact ⟨_,_,_,Za,⟨rfl,rfl⟩,Zb h115 []⟩
 refine J.skip (J.seq (J.region ?_))
 refine Zh 2 ?_
 refine Zg (Zd 0 h96.wht) ?_
 refine Z1 Tryz.func85 ?_
 refine J.seq (Zc [0,1] ?_)
 refine J.seq (J.block (J.seq (J.region ?_)))
 refine Zh 1 ?_
 obtain ⟨r38,q33,H⟩:=Zn H
 refine Ze (Zf [1,1] (Q50.spec q33) h96 rfl Zs) ?_
 rintro _ w60 ⟨_,⟨rfl,rfl⟩,h116⟩
 replace h116:=nf h116
 refine Zi [0,1,10] rfl ?_
 refine jIf H (fun c46 H=>?_) fun c46 H=>?_
 ·refine J.seq (Zc [4,5] ?_)
  refine J.ret (⟨_,Za,?_⟩)
  refine Zi [1,2,7,8] rfl ?_
  refine J.seq (J.seq (Zc [1,2,7,8,23] ?_))
  refine Zo ?_
  refine J.seq (Zc [4,5] ?_)
  refine J.ret (⟨_,Za,?_⟩)
  refine Zi [3,5,9,11,12,13,14] rfl ?_
  refine J.seq (J.region ?_)
  refine Zg (Zd 4 h116.wht) ?_
  obtain ⟨r39,q34,H⟩:=Zn H
  refine Ze (Zf [] (Q80.spec q34) h116 rfl Zs) ?_
  rintro _ w61 ⟨_,⟨v6,l6,ho11,rfl,rfl⟩,h117⟩
  rcases ho12:r39.1 with _ | r40
  ·rw [ho12] at ho11
   obtain ⟨rfl,rfl⟩:=ho11
   replace H:=Y8 ho12 H
   obtain ⟨c47,H⟩:=Zt H
   replace h117:=nf h117
   refine Zi [3,5,9,11,12,13,14,15,16] rfl ?_
   refine J.seq (J.seq (J.region ?_))
   refine Zh 3 ?_
   refine Z8 52 (congrArg Value.bool c26) ?_
   refine Zi [3,5,9,11,13,14,16,55] rfl ?_
   refine Zz ?_
   refine J.skip (J.seq (J.seq (J.region ?_)))
   refine Zg (Zd 4 h117.wht) ?_
   obtain ⟨r41,q35,H⟩:=Zn H
   refine Ze (Zf [] (Q138.spec q35) h117 rfl Zs) ?_
   rintro _ w62 ⟨_,⟨rfl,rfl⟩,h118⟩
   replace h118:=nf h118
   refine Zi [3,5,9,11,13,14,16,58] rfl ?_
   refine jIf H (fun c49 H=>?_) fun c49 H=>?_
   ·refine J.seq (Zc [10] ?_)
    have h119:=Zb h118 []
    replace h119:=nf h119
    refine J.ret ?_
    cases H
    exact ⟨_,_,_,Za,⟨rfl,rfl⟩,Zb h119 []⟩
   refine J.skip (J.seq (J.seq ?_))
   refine Zv h118 ?_
   have h120:=h118.drew
   refine Zu [0,1,2] ?_
   refine Yh 74 H (fun c50 H=>?_) fun c50 H=>?_
   ·refine Zu [3,4,5,6,7,8,9,10,11,12,13,14,15,16,17,18,19,20,21,22,23,24,25,26,27,28,29,30,31,32,33] ?_
    refine Zw [3,9,105] ?_
    have h121:=Zb h120 [3]
    replace h121:=nf h121
    refine Zo ?_
    refine J.seq (Zc [10] ?_)
    refine J.ret ?_
    cases H
    exact ⟨_,_,_,Za,⟨rfl,rfl⟩,Zb h121 []⟩
   refine Zu [3,4,5,6,7,8,9] ?_
   refine Yh 81 H (fun c51 H=>?_) fun c51 H=>?_
   ·refine Zu [10,11,12,13,14,15,16,17,18,19,20,21,22,23,24,25,26,27,28,29,30,31,32,33] ?_
    refine Zw [3,9,105] ?_
    have h122:=Zb h120 [3]
    replace h122:=nf h122
    refine Zo ?_
    refine J.seq (Zc [10] ?_)
    refine J.ret ?_
    cases H
    exact ⟨_,_,_,Za,⟨rfl,rfl⟩,Zb h122 []⟩
   refine Zu [10,11,12,14] ?_
   refine Zj 15 rfl (Zd 4 wI) ?_
   obtain ⟨r42,q36,H⟩:=Zn H
   refine Zq 13 rfl (Zf [0,0] (Q50.spec q36) h120 rfl Zs) ?_
   rintro _ w63 ⟨_,⟨rfl,rfl⟩,h123⟩
   replace h123:=nf h123
   refine ⟨⟨[],h123⟩,?_⟩
   refine Zu [16,17] ?_
   refine Yh 89 H (fun c52 H=>?_) fun c52 H=>?_
   ·refine Zu [18,20] ?_
    refine Zj 21 rfl (Zd 4 wI) ?_
    obtain ⟨r43,q37,H⟩:=Zn H
    refine Zq 19 rfl (Zf [0,0] (Q51.spec q37) h123 rfl Zs) ?_
    rintro _ w65 ⟨_,⟨rfl,rfl⟩,h124⟩
    replace h124:=nf h124
    refine ⟨⟨[],h124⟩,?_⟩
    refine Zu [22,23,24,25,26] ?_
    refine Yh 98 H (fun c53 H=>?_) fun c53 H=>?_
    ·refine Zu [27,28,29,30,31,32,33] ?_
     refine Zw [3,9,105] ?_
     have h125:=Zb h124 [3]
     replace h125:=nf h125
     refine Zo ?_
     refine J.seq (Zc [10] ?_)
     refine J.ret ?_
     cases H
     exact ⟨_,_,_,Za,⟨rfl,rfl⟩,Zb h125 []⟩
    refine Zu [27,28,29,30,31,32,33] ?_
    refine Zw [3,9,105] ?_
    have h126:=Zb h124 [3]
    replace h126:=nf h126
    refine Zo ?_
    refine J.seq (Zc [10] ?_)
    refine J.ret ?_
    cases H
    exact ⟨_,_,_,Za,⟨rfl,rfl⟩,Zb h126 []⟩
   refine Zu [18,19,20,21,22,23,24,25,26] ?_
   refine Y5 98 (congrArg Value.bool c51) ?_
   refine Zu [27,28,29,30,31,32,33] ?_
   refine Zw [3,9,105] ?_
   have h127:=Zb h123 [3]
   replace h127:=nf h127
   refine Zo ?_
   refine J.seq (Zc [10] ?_)
   refine J.ret ?_
   cases H
   exact ⟨_,_,_,Za,⟨rfl,rfl⟩,Zb h127 []⟩
  rw [ho12] at ho11
  obtain ⟨b47,b48,b49,A33,c_33,A34,c_34,b50,A35,c_35,b51,A36,c_36,b52,b53,A37,c_37,rfl,rfl⟩:=ho11
  replace H:=Y6 ho12 H
  obtain ⟨c48,H⟩:=Zt H
  replace h117:=nf h117
  refine Zi [3,5,9,11,12,13,14,15,16] rfl ?_
  refine J.seq (J.seq (J.region ?_))
  refine Zh 3 ?_
  refine Z8 52 (congrArg Value.bool c26) ?_
  refine Zi [3,5,9,11,13,14,16,55] rfl ?_
  have h128:=Zb h117 [12,12,13,13]
  replace h128:=nf h128
  refine Zo ?_
  refine J.seq (Zc [10] ?_)
  have h129:=Zb h128 []
  replace h129:=nf h129
  refine J.ret ?_
  cases H
  exact ⟨_,_,_,Za,⟨rfl,rfl⟩,Zb h129 []⟩
 refine J.seq (J.region ?_)
 refine Zh 3 ?_
 refine Z7 17 H (fun c54 H=>?_) fun c54 H=>?_
 ·refine Zi [0,1,14] rfl ?_
  refine Zo ?_
  refine J.seq (Zc [4,5] ?_)
  refine J.ret (⟨_,Za,?_⟩)
  refine Zi [1,2,7,8] rfl ?_
  refine J.seq (J.seq (Zc [1,2,7,8,23] ?_))
  refine Zo ?_
  refine J.seq (Zc [4,5] ?_)
  refine J.ret (⟨_,Za,?_⟩)
  refine Zi [3,5,9,11,12,13,14] rfl ?_
  refine J.seq (J.region ?_)
  refine Zg (Zd 4 h116.wht) ?_
  obtain ⟨r44,q38,H⟩:=Zn H
  refine Ze (Zf [] (Q80.spec q38) h116 rfl Zs) ?_
  rintro _ w66 ⟨_,⟨v7,l7,ho13,rfl,rfl⟩,h130⟩
  rcases ho14:r44.1 with _ | r45
  ·rw [ho14] at ho13
   obtain ⟨rfl,rfl⟩:=ho13
   replace H:=Y8 ho14 H
   obtain ⟨c55,H⟩:=Zt H
   replace h130:=nf h130
   refine Zi [3,5,9,11,12,13,14,15,16] rfl ?_
   refine J.seq (J.seq (J.region ?_))
   refine Zh 3 ?_
   refine Z8 52 (congrArg Value.bool c26) ?_
   refine Zi [3,5,9,11,13,14,16,55] rfl ?_
   refine Zz ?_
   refine J.skip (J.seq (J.seq (J.region ?_)))
   refine Zg (Zd 4 h130.wht) ?_
   obtain ⟨r46,q39,H⟩:=Zn H
   refine Ze (Zf [] (Q138.spec q39) h130 rfl Zs) ?_
   rintro _ w67 ⟨_,⟨rfl,rfl⟩,h131⟩
   replace h131:=nf h131
   refine Zi [3,5,9,11,13,14,16,58] rfl ?_
   refine jIf H (fun c57 H=>?_) fun c57 H=>?_
   ·refine J.seq (J.region ?_)
    refine Zh 11 ?_
    refine Z7 69 H (fun c58 H=>?_) fun c58 H=>?_
    ·obtain ⟨r47,q40,H⟩:=Zn H
     refine Ze (Zf [] (Q134.spec q40) h131 rfl (Z0 (Zm 9) Zs)) ?_
     rintro _ w68 ⟨_,⟨rfl,rfl⟩,h132⟩
     replace h132:=nf h132
     refine Zi [10] rfl ?_
     have h133:=Zb h132 []
     replace h133:=nf h133
     refine J.ret ?_
     cases H
     exact ⟨_,_,_,Za,⟨rfl,rfl⟩,Zb h133 []⟩
    refine Zi [10] rfl ?_
    have h134:=Zb h131 []
    replace h134:=nf h134
    refine J.ret ?_
    cases H
    exact ⟨_,_,_,Za,⟨rfl,rfl⟩,Zb h134 []⟩
   refine J.skip (J.seq (J.seq ?_))
   refine Zv h131 ?_
   have h135:=h131.drew
   refine Zu [0,1,2] ?_
   refine Yh 74 H (fun c59 H=>?_) fun c59 H=>?_
   ·refine Zu [3,4,5,6,7,8,9,10,11,12,13,14,15,16,17,18,19,20,21,22,23,24,25,26,27,28,29,30,31,32,33] ?_
    refine Zw [3,9,105] ?_
    have h136:=Zb h135 [3]
    replace h136:=nf h136
    refine Zo ?_
    refine J.seq (Zc [10] ?_)
    refine J.ret ?_
    cases H
    exact ⟨_,_,_,Za,⟨rfl,rfl⟩,Zb h136 []⟩
   refine Zu [3,4,5,6,7,8,9] ?_
   refine Yh 81 H (fun c60 H=>?_) fun c60 H=>?_
   ·refine Zu [10,11,12,13,14,15,16,17,18,19,20,21,22,23,24,25,26,27,28,29,30,31,32,33] ?_
    refine Zw [3,9,105] ?_
    have h137:=Zb h135 [3]
    replace h137:=nf h137
    refine Zo ?_
    refine J.seq (Zc [10] ?_)
    refine J.ret ?_
    cases H
    exact ⟨_,_,_,Za,⟨rfl,rfl⟩,Zb h137 []⟩
   refine Zu [10,11,12,14] ?_
   refine Zj 15 rfl (Zd 4 wI) ?_
   obtain ⟨r48,q41,H⟩:=Zn H
   refine Zq 13 rfl (Zf [0,0] (Q50.spec q41) h135 rfl Zs) ?_
   rintro _ w69 ⟨_,⟨rfl,rfl⟩,h138⟩
   replace h138:=nf h138
   refine ⟨⟨[],h138⟩,?_⟩
   refine Zu [16,17] ?_
   refine Yh 89 H (fun c61 H=>?_) fun c61 H=>?_
   ·refine Zu [18,20] ?_
    refine Zj 21 rfl (Zd 4 wI) ?_
    obtain ⟨r49,q42,H⟩:=Zn H
    refine Zq 19 rfl (Zf [0,0] (Q51.spec q42) h138 rfl Zs) ?_
    rintro _ w70 ⟨_,⟨rfl,rfl⟩,h139⟩
    replace h139:=nf h139
    refine ⟨⟨[],h139⟩,?_⟩
    refine Zu [22,23,24,25,26] ?_
    refine Yh 98 H (fun c62 H=>?_) fun c62 H=>?_
    ·refine Zu [27,28,29,30,31,32,33] ?_
     refine Zw [3,9,105] ?_
     have h140:=Zb h139 [3]
     replace h140:=nf h140
     refine Zo ?_
     refine J.seq (Zc [10] ?_)
     refine J.ret ?_
     cases H
     exact ⟨_,_,_,Za,⟨rfl,rfl⟩,Zb h140 []⟩
    refine Zu [27,28,29,30,31,32,33] ?_
    refine Zw [3,9,105] ?_
    have h141:=Zb h139 [3]
    replace h141:=nf h141
    refine Zo ?_
    refine J.seq (Zc [10] ?_)
    refine J.ret ?_
    cases H
    exact ⟨_,_,_,Za,⟨rfl,rfl⟩,Zb h141 []⟩
   refine Zu [18,19,20,21,22,23,24,25,26] ?_
   refine Y5 98 (congrArg Value.bool c60) ?_
   refine Zu [27,28,29,30,31,32,33] ?_
   refine Zw [3,9,105] ?_
   have h142:=Zb h138 [3]
   replace h142:=nf h142
   refine Zo ?_
   refine J.seq (Zc [10] ?_)
   refine J.ret ?_
   cases H
   exact ⟨_,_,_,Za,⟨rfl,rfl⟩,Zb h142 []⟩
  rw [ho14] at ho13
  obtain ⟨b54,b55,b56,A38,c_38,A39,c_39,b57,A40,c_40,b58,A41,c_41,b59,b60,A42,c_42,rfl,rfl⟩:=ho13
  replace H:=Y6 ho14 H
  obtain ⟨c56,H⟩:=Zt H
  replace h130:=nf h130
  refine Zi [3,5,9,11,12,13,14,15,16] rfl ?_
  refine J.seq (J.seq (J.region ?_))
  refine Zh 3 ?_
  refine Z8 52 (congrArg Value.bool c26) ?_
  refine Zi [3,5,9,11,13,14,16,55] rfl ?_
  have h143:=Zb h130 [12,12,13,13]
  replace h143:=nf h143
  refine Zo ?_
  refine J.seq (Zc [10] ?_)
  have h144:=Zb h143 []
  replace h144:=nf h144
  refine J.ret ?_
  cases H
  exact ⟨_,_,_,Za,⟨rfl,rfl⟩,Zb h144 []⟩
 refine Zi [0,1,14] rfl ?_
 refine jIf H (fun c63 H=>?_) fun c63 H=>?_
 ·refine J.seq (Zc [4,5] ?_)
  refine J.ret (⟨_,Za,?_⟩)
  refine Zi [1,2,7,8] rfl ?_
  refine J.seq (J.seq (Zc [1,2,7,8,23] ?_))
  refine Zo ?_
  refine J.seq (Zc [4,5] ?_)
  refine J.ret (⟨_,Za,?_⟩)
  refine Zi [3,5,9,11,12,13,14] rfl ?_
  refine J.seq (J.region ?_)
  refine Zg (Zd 4 h116.wht) ?_
  obtain ⟨r50,q43,H⟩:=Zn H
  refine Ze (Zf [] (Q80.spec q43) h116 rfl Zs) ?_
  rintro _ w71 ⟨_,⟨v8,l8,ho15,rfl,rfl⟩,h145⟩
  rcases ho16:r50.1 with _ | r51
  ·rw [ho16] at ho15
   obtain ⟨rfl,rfl⟩:=ho15
   replace H:=Y8 ho16 H
   obtain ⟨c64,H⟩:=Zt H
   replace h145:=nf h145
   refine Zi [3,5,9,11,12,13,14,15,16] rfl ?_
   refine J.seq (J.seq (J.region ?_))
   refine Zh 3 ?_
   refine Z8 52 (congrArg Value.bool c26) ?_
   refine Zi [3,5,9,11,13,14,16,55] rfl ?_
   refine Zz ?_
   refine J.skip (J.seq (J.seq (J.region ?_)))
   refine Zg (Zd 4 h145.wht) ?_
   obtain ⟨r52,q44,H⟩:=Zn H
   refine Ze (Zf [] (Q138.spec q44) h145 rfl Zs) ?_
   rintro _ w72 ⟨_,⟨rfl,rfl⟩,h146⟩
   replace h146:=nf h146
   refine Zi [3,5,9,11,13,14,16,58] rfl ?_
   refine jIf H (fun c66 H=>?_) fun c66 H=>?_
   ·refine J.seq (J.region ?_)
    refine Zh 11 ?_
    refine Z7 69 H (fun c67 H=>?_) fun c67 H=>?_
    ·obtain ⟨r53,q45,H⟩:=Zn H
     refine Ze (Zf [] (Q134.spec q45) h146 rfl (Z0 (Zm 9) Zs)) ?_
     rintro _ w73 ⟨_,⟨rfl,rfl⟩,h147⟩
     replace h147:=nf h147
     refine Zi [10] rfl ?_
     have h148:=Zb h147 []
     replace h148:=nf h148
     refine J.ret ?_
     cases H
     exact ⟨_,_,_,Za,⟨rfl,rfl⟩,Zb h148 []⟩
    refine Zi [10] rfl ?_
    have h149:=Zb h146 []
    replace h149:=nf h149
    refine J.ret ?_
    cases H
    exact ⟨_,_,_,Za,⟨rfl,rfl⟩,Zb h149 []⟩
   refine J.skip (J.seq (J.seq ?_))
   refine Zv h146 ?_
   have h150:=h146.drew
   refine Zu [0,1,2] ?_
   refine Yh 74 H (fun c68 H=>?_) fun c68 H=>?_
   ·refine Zu [3,4,5,6,7,8,9,10,11,12,13,14,15,16,17,18,19,20,21,22,23,24,25,26,27,28,29,30,31,32,33] ?_
    refine Zw [3,9,105] ?_
    have h151:=Zb h150 [3]
    replace h151:=nf h151
    refine Zo ?_
    refine J.seq (Zc [10] ?_)
    refine J.ret ?_
    cases H
    exact ⟨_,_,_,Za,⟨rfl,rfl⟩,Zb h151 []⟩
   refine Zu [3,4,5,6,7,8,9] ?_
   refine Yh 81 H (fun c69 H=>?_) fun c69 H=>?_
   ·refine Zu [10,11,12,13,14,15,16,17,18,19,20,21,22,23,24,25,26,27,28,29,30,31,32,33] ?_
    refine Zw [3,9,105] ?_
    have h152:=Zb h150 [3]
    replace h152:=nf h152
    refine Zo ?_
    refine J.seq (Zc [10] ?_)
    refine J.ret ?_
    cases H
    exact ⟨_,_,_,Za,⟨rfl,rfl⟩,Zb h152 []⟩
   refine Zu [10,11,12,14] ?_
   refine Zj 15 rfl (Zd 4 wI) ?_
   obtain ⟨r54,q46,H⟩:=Zn H
   refine Zq 13 rfl (Zf [0,0] (Q50.spec q46) h150 rfl Zs) ?_
   rintro _ w74 ⟨_,⟨rfl,rfl⟩,h153⟩
   replace h153:=nf h153
   refine ⟨⟨[],h153⟩,?_⟩
   refine Zu [16,17] ?_
   refine Yh 89 H (fun c70 H=>?_) fun c70 H=>?_
   ·refine Zu [18,20] ?_
    refine Zj 21 rfl (Zd 4 wI) ?_
    obtain ⟨r55,q47,H⟩:=Zn H
    refine Zq 19 rfl (Zf [0,0] (Q51.spec q47) h153 rfl Zs) ?_
    rintro _ w75 ⟨_,⟨rfl,rfl⟩,h154⟩
    replace h154:=nf h154
    refine ⟨⟨[],h154⟩,?_⟩
    refine Zu [22,23,24,25,26] ?_
    refine Yh 98 H (fun c71 H=>?_) fun c71 H=>?_
    ·refine Zu [27,28,29,30,31,32,33] ?_
     refine Zw [3,9,105] ?_
     have h155:=Zb h154 [3]
     replace h155:=nf h155
     refine Zo ?_
     refine J.seq (Zc [10] ?_)
     refine J.ret ?_
     cases H
     exact ⟨_,_,_,Za,⟨rfl,rfl⟩,Zb h155 []⟩
    refine Zu [27,28,29,30,31,32,33] ?_
    refine Zw [3,9,105] ?_
    have h156:=Zb h154 [3]
    replace h156:=nf h156
    refine Zo ?_
    refine J.seq (Zc [10] ?_)
    refine J.ret ?_
    cases H
    exact ⟨_,_,_,Za,⟨rfl,rfl⟩,Zb h156 []⟩
   refine Zu [18,19,20,21,22,23,24,25,26] ?_
   refine Y5 98 (congrArg Value.bool c69) ?_
   refine Zu [27,28,29,30,31,32,33] ?_
   refine Zw [3,9,105] ?_
   have h157:=Zb h153 [3]
   replace h157:=nf h157
   refine Zo ?_
   refine J.seq (Zc [10] ?_)
   refine J.ret ?_
   cases H
   exact ⟨_,_,_,Za,⟨rfl,rfl⟩,Zb h157 []⟩
  rw [ho16] at ho15
  obtain ⟨b61,b62,b63,A43,c_43,A44,c_44,b64,A45,c_45,b65,A46,c_46,b66,b67,A47,c_47,rfl,rfl⟩:=ho15
  replace H:=Y6 ho16 H
  obtain ⟨c65,H⟩:=Zt H
  replace h145:=nf h145
  refine Zi [3,5,9,11,12,13,14,15,16] rfl ?_
  refine J.seq (J.seq (J.region ?_))
  refine Zh 3 ?_
  refine Z8 52 (congrArg Value.bool c26) ?_
  refine Zi [3,5,9,11,13,14,16,55] rfl ?_
  have h158:=Zb h145 [12,12,13,13]
  replace h158:=nf h158
  refine Zo ?_
  refine J.seq (Zc [10] ?_)
  have h159:=Zb h158 []
  replace h159:=nf h159
  refine J.ret ?_
  cases H
  exact ⟨_,_,_,Za,⟨rfl,rfl⟩,Zb h159 []⟩
 refine J.skip (J.seq (J.region ?_))
 refine Zh 1 ?_
 obtain ⟨r56,q48,H⟩:=Zn H
 refine Ze (Zf [] (Q31.spec q48) h116 rfl Zs) ?_
 rintro _ w76 ⟨_,⟨v9,l9,ho17,rfl,rfl⟩,h160⟩
 rcases ho18:r56.1 with _ | r57
 ·rw [ho18] at ho17
  obtain ⟨rfl,rfl⟩:=ho17
  replace H:=Y8 ho18 H
  obtain ⟨c72,H⟩:=Zt H
  replace h160:=nf h160
  refine Zi [0,1,6,7] rfl ?_
  refine J.seq (J.seq (Zc [0,1,6,7,27] ?_))
  refine J.cond rfl (fun e=>?_) (fun e=>by rw [c72] at e; cases e)
  refine J.seq (Zc [4,5] ?_)
  refine J.ret (⟨_,Za,?_⟩)
  refine Zi [1,2,7,8] rfl ?_
  refine J.seq (J.seq (Zc [1,2,7,8,23] ?_))
  refine J.cond rfl (fun e=>?_) (fun e=>by rw [c72] at e; cases e)
  refine J.seq (Zc [4,5] ?_)
  refine J.ret (⟨_,Za,?_⟩)
  refine Zi [3,5,9,11,12,13,14] rfl ?_
  refine J.seq (J.region ?_)
  refine Zg (Zd 4 h160.wht) ?_
  obtain ⟨r58,q49,H⟩:=Zn H
  refine Ze (Zf [] (Q80.spec q49) h160 rfl Zs) ?_
  rintro _ w77 ⟨_,⟨v10,l10,ho19,rfl,rfl⟩,h161⟩
  rcases ho20:r58.1 with _ | r59
  ·rw [ho20] at ho19
   obtain ⟨rfl,rfl⟩:=ho19
   replace H:=Y8 ho20 H
   obtain ⟨c74,H⟩:=Zt H
   replace h161:=nf h161
   refine Zi [3,5,9,11,12,13,14,15,16] rfl ?_
   refine J.seq (J.seq (J.region ?_))
   refine Zh 3 ?_
   refine Z8 52 (congrArg Value.bool c26) ?_
   refine Zi [3,5,9,11,13,14,16,55] rfl ?_
   refine Zz ?_
   refine J.skip (J.seq (J.seq (J.region ?_)))
   refine Zg (Zd 4 h161.wht) ?_
   obtain ⟨r60,q50,H⟩:=Zn H
   refine Ze (Zf [] (Q138.spec q50) h161 rfl Zs) ?_
   rintro _ w78 ⟨_,⟨rfl,rfl⟩,h162⟩
   replace h162:=nf h162
   refine Zi [3,5,9,11,13,14,16,58] rfl ?_
   refine jIf H (fun c76 H=>?_) fun c76 H=>?_
   ·refine J.seq (J.region ?_)
    refine Zh 7 ?_
    refine Z7 65 H (fun c77 H=>?_) fun c77 H=>?_
    ·refine Zh 4 ?_
     refine Z7 69 H (fun c78 H=>?_) fun c78 H=>?_
     ·obtain ⟨r61,q51,H⟩:=Zn H
      refine Ze (Zf [] (Q134.spec q51) h162 rfl (Z0 (Zm 9) Zs)) ?_
      rintro _ w79 ⟨_,⟨rfl,rfl⟩,h163⟩
      replace h163:=nf h163
      refine Zi [10] rfl ?_
      have h164:=Zb h163 []
      replace h164:=nf h164
      refine J.ret ?_
      cases H
      exact ⟨_,_,_,Za,⟨rfl,rfl⟩,Zb h164 []⟩
     refine Zi [10] rfl ?_
     have h165:=Zb h162 []
     replace h165:=nf h165
     refine J.ret ?_
     cases H
     exact ⟨_,_,_,Za,⟨rfl,rfl⟩,Zb h165 []⟩
    refine Zi [10] rfl ?_
    have h166:=Zb h162 []
    replace h166:=nf h166
    refine J.ret ?_
    cases H
    exact ⟨_,_,_,Za,⟨rfl,rfl⟩,Zb h166 []⟩
   refine J.skip (J.seq (J.seq ?_))
   refine Zv h162 ?_
   have h167:=h162.drew
   refine Zu [0,1,2] ?_
   refine Yh 74 H (fun c79 H=>?_) fun c79 H=>?_
   ·refine Zu [3,4,5,6,7,8,9,10,11,12,13,14,15,16,17,18,19,20,21,22,23,24,25,26,27,28,29,30,31,32,33] ?_
    refine Zw [3,9,105] ?_
    have h168:=Zb h167 [3]
    replace h168:=nf h168
    refine Zo ?_
    refine J.seq (Zc [10] ?_)
    refine J.ret ?_
    cases H
    exact ⟨_,_,_,Za,⟨rfl,rfl⟩,Zb h168 []⟩
   refine Zu [3,4,5,6,7,8,9] ?_
   refine Yh 81 H (fun c80 H=>?_) fun c80 H=>?_
   ·refine Zu [10,11,12,13,14,15,16,17,18,19,20,21,22,23,24,25,26,27,28,29,30,31,32,33] ?_
    refine Zw [3,9,105] ?_
    have h169:=Zb h167 [3]
    replace h169:=nf h169
    refine Zo ?_
    refine J.seq (Zc [10] ?_)
    refine J.ret ?_
    cases H
    exact ⟨_,_,_,Za,⟨rfl,rfl⟩,Zb h169 []⟩
   refine Zu [10,11,12,14] ?_
   refine Zj 15 rfl (Zd 4 wI) ?_
   obtain ⟨r62,q52,H⟩:=Zn H
   refine Zq 13 rfl (Zf [0,0] (Q50.spec q52) h167 rfl Zs) ?_
   rintro _ w80 ⟨_,⟨rfl,rfl⟩,h170⟩
   replace h170:=nf h170
   refine ⟨⟨[],h170⟩,?_⟩
   refine Zu [16,17] ?_
   refine Yh 89 H (fun c81 H=>?_) fun c81 H=>?_
   ·refine Zu [18,20] ?_
    refine Zj 21 rfl (Zd 4 wI) ?_
    obtain ⟨r63,q53,H⟩:=Zn H
    refine Zq 19 rfl (Zf [0,0] (Q51.spec q53) h170 rfl Zs) ?_
    rintro _ w81 ⟨_,⟨rfl,rfl⟩,h171⟩
    replace h171:=nf h171
    refine ⟨⟨[],h171⟩,?_⟩
    refine Zu [22,23,24,25,26] ?_
    refine Yh 98 H (fun c82 H=>?_) fun c82 H=>?_
    ·refine Zu [27,28,29,30,31,32,33] ?_
     refine Zw [3,9,105] ?_
     have h172:=Zb h171 [3]
     replace h172:=nf h172
     refine Zo ?_
     refine J.seq (Zc [10] ?_)
     refine J.ret ?_
     cases H
     exact ⟨_,_,_,Za,⟨rfl,rfl⟩,Zb h172 []⟩
    refine Zu [27,28,29] ?_
    refine Y5 101 (congrArg Value.bool c72) ?_
    refine Zu [30,31,32,33] ?_
    refine Zw [3,9,105] ?_
    have h173:=Zb h171 [3]
    replace h173:=nf h173
    refine jIf H (fun c83 H=>?_) fun c83 H=>?_
    ·refine J.seq (Zc [10] ?_)
     refine J.ret ?_
     cases H
     exact ⟨_,_,_,Za,⟨rfl,rfl⟩,Zb h173 []⟩
    refine J.skip (Y7 [3,9] ?_)
    have h174:=(sOR h173 [0] [0,1,2,3,4])
    exact ht _ _ ⟨k,b16,rfl,h174,H,Nat.le_refl _⟩
   refine Zu [18,19,20,21,22,23,24,25,26] ?_
   refine Yh 98 H (fun c84 H=>?_) fun c84 H=>?_
   ·refine Zu [27,28,29,30,31,32,33] ?_
    refine Zw [3,9,105] ?_
    have h175:=Zb h170 [3]
    replace h175:=nf h175
    refine Zo ?_
    refine J.seq (Zc [10] ?_)
    refine J.ret ?_
    cases H
    exact ⟨_,_,_,Za,⟨rfl,rfl⟩,Zb h175 []⟩
   refine Zu [27,28,29] ?_
   refine Y5 101 (congrArg Value.bool c72) ?_
   refine Zu [30,31,32,33] ?_
   refine Zw [3,9,105] ?_
   have h176:=Zb h170 [3]
   replace h176:=nf h176
   refine jIf H (fun c85 H=>?_) fun c85 H=>?_
   ·refine J.seq (Zc [10] ?_)
    refine J.ret ?_
    cases H
    exact ⟨_,_,_,Za,⟨rfl,rfl⟩,Zb h176 []⟩
   refine J.skip (Y7 [3,9] ?_)
   have h177:=(sOR h176 [0] [0,1,2,3,4])
   exact ht _ _ ⟨k,b16,rfl,h177,H,Nat.le_refl _⟩
  rw [ho20] at ho19
  obtain ⟨b68,b69,b70,A48,c_48,A49,c_49,b71,A50,c_50,b72,A51,c_51,b73,b74,A52,c_52,rfl,rfl⟩:=ho19
  replace H:=Y6 ho20 H
  obtain ⟨c75,H⟩:=Zt H
  replace h161:=nf h161
  refine Zi [3,5,9,11,12,13,14,15,16] rfl ?_
  refine J.seq (J.seq (J.region ?_))
  refine Zh 3 ?_
  refine Z8 52 (congrArg Value.bool c26) ?_
  refine Zi [3,5,9,11,13,14,16,55] rfl ?_
  have h178:=Zb h161 [12,12,13,13]
  replace h178:=nf h178
  refine Zo ?_
  refine J.seq (Zc [10] ?_)
  have h179:=Zb h178 []
  replace h179:=nf h179
  refine J.ret ?_
  cases H
  exact ⟨_,_,_,Za,⟨rfl,rfl⟩,Zb h179 []⟩
 rw [ho18] at ho17
 obtain ⟨b75,A53,c_53,rfl,rfl⟩:=ho17
 replace H:=Y6 ho18 H
 obtain ⟨c73,H⟩:=Zt H
 replace h160:=nf h160
 refine Zi [0,1,6,7] rfl ?_
 refine J.seq (J.seq (Zc [0,1,6,7,27] ?_))
 refine J.cond rfl (fun e=>by rw [c73] at e; cases e) (fun e=>?_)
 refine J.skip (J.seq (J.region ?_))
 refine Zh 2 ?_
 obtain ⟨⟨p1,p2⟩,H⟩:=Zt H
 refine Ze (V7 Yu (ty:=(.pair (.int .u32) (.pair (.slice 5 (.int .u8)) (.pair .bool (.int .i64))))) ((0,([]:List (Int)),false,0):Int×List (Int)×Bool×Int) rfl rfl rfl rfl rfl rfl (fun _ _=>Zad ⟨none,0,rfl,Nat.le_refl _,.inl rfl⟩) (by decide) h160 p1 p2) ?_
 rintro _ w82 ⟨b76,rfl,h180⟩
 replace h180:=nf h180
 refine Ze (Vi .u32 (Value.int .i64) h180) ?_
 rintro _ w83 ⟨b77,rfl,h181⟩
 replace h181:=nf h181
 refine Zh 2 ?_
 refine Ze (Ye h181) ?_
 rintro _ w84 ⟨b78,rfl,h182⟩
 replace h182:=nf h182
 refine Zi [1,8] rfl ?_
 refine J.seq (J.seq (Zc [8,36,37] ?_))
 refine J.block ?_
 have h261:=h182.addNil 3 (.int .i64)
 have h262:=(sOR h261 [1,5,1,2,6,5,4,3,1,0,0] [0,1,2,3,4])
 refine J.loop (fun kk env w=>∃(x1:List (Int)) (A54:Option Addr) (c_54:Nat) (x2:Int),env=[(8,.pointer (some ⟨b78,0,none⟩)),(36,.int .i64 a0.2.2.1),(37,.int .i64 x2)]∧St w0 F0 [Yp b78 (.pointer (some ⟨b38,0,none⟩)) (List.replicate a0.2.2.1.toNat ((0,([]:List (Int)),false,0):Int×List (Int)×Bool×Int)) (some ⟨b76,0,none⟩) (a0.2.2.1.toNat) (.map (some b77)) x1 A54 c_54 (.pointer (some ⟨b75,0,none⟩)),Yi b38 r24.1 r24.2.1 A27 c_27 r24.2.2.1 r24.2.2.2,Yj .u32 (Value.int .i64) b77 ([]:List (Int×Int)),Ya b75 r57.1 A53 c_53 r57.2,X23 b15 a0.1 a0.2.1 a0.2.2.1 a0.2.2.2.1 a0.2.2.2.2.1 a0.2.2.2.2.2.1 a0.2.2.2.2.2.2.1 a0.2.2.2.2.2.2.2,X43 b16 a4.1 a4.2.1 A1 c_1 a4.2.2.1 A2 c_2 a4.2.2.2.1 A3 c_3 a4.2.2.2.2 A4 c_4,X23 b39 a0.1 a0.2.1 a0.2.2.1 a0.2.2.2.1 a0.2.2.2.2.1 a0.2.2.2.2.2.1 a0.2.2.2.2.2.2.1 a0.2.2.2.2.2.2.2,O5 r24.2.1 A27 c_27,Yo (List.replicate a0.2.2.1.toNat ((0,([]:List (Int)),false,0):Int×List (Int)×Bool×Int)) (some ⟨b76,0,none⟩) (a0.2.2.1.toNat),O3 x1 A54 c_54,Yb r57.1 A53 c_53] [R33 a4.2.1 A1 c_1,R9 a4.2.2.1 A2 c_2,Xk a4.2.2.2.1 A3 c_3,Xl a4.2.2.2.2 A4 c_4,tabC 0] w∧Q133.l1 kk a0 a3 a4 r24 x1 x2=some r∧kk≤k) (k:=k) ⟨([]:List (Int)),none,0,0,rfl,h262,H,Nat.le_refl _⟩ ?_
 rintro k2 env w85 ⟨x1,A54,c_54,x2,rfl,h183,H,hk2⟩
 rcases k2 with _ | k2
 ·exact z0 H
 rw [Q133.l1] at H
 refine J.seq (Zc [8,36,37,38] ?_)
 refine J.seq (jIf H (fun c86 H=>?_) fun c86 H=>?_)
 ·refine J.skip (J.seq (J.block (J.seq (Zc [8,9,36,37] ?_))))
  refine J.region (Zh 4 ?_)
  refine Zg (Zd 0 h183.wht) ?_
  refine Zh 1 ?_
  refine Ze (Xc (.int .i64) ([x2]:List (Int)) h183) ?_
  rintro _ w86 ⟨b79,rfl,h184⟩
  replace h184:=nf h184
  obtain ⟨p3,H⟩:=Zt H
  refine Ze (Yr 10 h184 (gO 0) p3) ?_
  rintro _ w87 ⟨A55,c_55,rfl,h185⟩
  replace h185:=nf h185
  refine Zh 2 ?_
  refine Ze (Z3 2 h185) ?_
  intro _ w88 h186
  replace h186:=nf h186
  refine Zi [8,36,37] rfl ?_
  refine Zc [8,36,37] ?_
  have h187:=(sOR h186 [0,2,2,2,2,2,2,2,2,0,1] [0,1,2,3,4])
  exact ⟨k2,by omega,(x1 ++ ([x2]:List (Int))),A55,c_55,(w64 (x2+1)),rfl,h187,H,by omega⟩
 refine J.exit (J.seq (Zc [4,5] ?_))
 refine J.ret (⟨_,Za,?_⟩)
 refine Zi [1,2,7,8] rfl ?_
 refine J.seq (J.seq (Zc [1,2,7,8,23] ?_))
 refine Zz ?_
 refine J.skip (J.seq (J.seq ?_))
 refine Zv h183 ?_
 have h188:=h183.drew
 refine Zu [0,2] ?_
 refine Zj 3 rfl (Zd 6 wI) ?_
 obtain ⟨r64,q54,H⟩:=Zn H
 refine Zq 1 rfl (Zf [1,6] (Q50.spec q54) h188 rfl Zs) ?_
 rintro _ w89 ⟨_,⟨rfl,rfl⟩,h189⟩
 replace h189:=nf h189
 refine ⟨⟨[],(Zb h189 [2,0,1,1,1,1,1,0,0,0,0])⟩,?_⟩
 refine Zu [4,5] ?_
 refine Yh 30 H (fun c87 H=>?_) fun c87 H=>?_
 ·refine Zu [6,7,8,9,10,11] ?_
  refine Zw [1,2,7,36] ?_
  refine Zo ?_
  refine J.seq (Zc [4,5] ?_)
  refine J.ret (⟨_,Za,?_⟩)
  refine Zi [3,5,9,11,12,13,14] rfl ?_
  have h190:=Zb h189 [0,0,3,3]
  replace h190:=nf h190
  refine J.seq (J.region ?_)
  refine Zg (Zd 2 h190.wht) ?_
  obtain ⟨r65,q55,H⟩:=Zn H
  refine Ze (Zf [] (Q80.spec q55) h190 rfl Zs) ?_
  rintro _ w90 ⟨_,⟨v11,l11,ho21,rfl,rfl⟩,h191⟩
  rcases ho22:r65.1 with _ | r66
  ·rw [ho22] at ho21
   obtain ⟨rfl,rfl⟩:=ho21
   replace H:=Y8 ho22 H
   obtain ⟨c88,H⟩:=Zt H
   replace h191:=nf h191
   refine Zi [3,5,9,11,12,13,14,15,16] rfl ?_
   refine J.seq (J.seq (J.region ?_))
   refine Zh 3 ?_
   refine Z8 52 (congrArg Value.bool c26) ?_
   refine Zi [3,5,9,11,13,14,16,55] rfl ?_
   refine Zz ?_
   refine J.skip (J.seq (J.seq (J.region ?_)))
   refine Zg (Zd 2 h191.wht) ?_
   obtain ⟨r67,q56,H⟩:=Zn H
   refine Ze (Zf [] (Q138.spec q56) h191 rfl Zs) ?_
   rintro _ w91 ⟨_,⟨rfl,rfl⟩,h192⟩
   replace h192:=nf h192
   refine Zi [3,5,9,11,13,14,16,58] rfl ?_
   refine jIf H (fun c90 H=>?_) fun c90 H=>?_
   ·refine J.seq (Zc [10] ?_)
    have h193:=Zb h192 []
    replace h193:=nf h193
    refine J.ret ?_
    cases H
    exact ⟨_,_,_,Za,⟨rfl,rfl⟩,Zb h193 []⟩
   refine J.skip (J.seq (J.seq ?_))
   refine Zv h192 ?_
   have h194:=h192.drew
   refine Zu [0,1,2] ?_
   refine Yh 74 H (fun c91 H=>?_) fun c91 H=>?_
   ·refine Zu [3,4,5,6,7,8,9,10,11,12,13,14,15,16,17,18,19,20,21,22,23,24,25,26,27,28,29,30,31,32,33] ?_
    refine Zw [3,9,105] ?_
    have h195:=Zb h194 [3]
    replace h195:=nf h195
    refine Zo ?_
    refine J.seq (Zc [10] ?_)
    refine J.ret ?_
    cases H
    exact ⟨_,_,_,Za,⟨rfl,rfl⟩,Zb h195 []⟩
   refine Zu [3,4,5,6,7,8,9] ?_
   refine Yh 81 H (fun c92 H=>?_) fun c92 H=>?_
   ·refine Zu [10,11,12,13,14,15,16,17,18,19,20,21,22,23,24,25,26,27,28,29,30,31,32,33] ?_
    refine Zw [3,9,105] ?_
    have h196:=Zb h194 [3]
    replace h196:=nf h196
    refine Zo ?_
    refine J.seq (Zc [10] ?_)
    refine J.ret ?_
    cases H
    exact ⟨_,_,_,Za,⟨rfl,rfl⟩,Zb h196 []⟩
   refine Zu [10,11,12,14] ?_
   refine Zj 15 rfl (Zd 2 wI) ?_
   obtain ⟨r68,q57,H⟩:=Zn H
   refine Zq 13 rfl (Zf [0,0] (Q50.spec q57) h194 rfl Zs) ?_
   rintro _ w92 ⟨_,⟨rfl,rfl⟩,h197⟩
   replace h197:=nf h197
   refine ⟨⟨[],h197⟩,?_⟩
   refine Zu [16,17] ?_
   refine Yh 89 H (fun c93 H=>?_) fun c93 H=>?_
   ·refine Zu [18,20] ?_
    refine Zj 21 rfl (Zd 2 wI) ?_
    obtain ⟨r69,q58,H⟩:=Zn H
    refine Zq 19 rfl (Zf [0,0] (Q51.spec q58) h197 rfl Zs) ?_
    rintro _ w93 ⟨_,⟨rfl,rfl⟩,h198⟩
    replace h198:=nf h198
    refine ⟨⟨[],h198⟩,?_⟩
    refine Zu [22,23,24,25,26] ?_
    refine Yh 98 H (fun c94 H=>?_) fun c94 H=>?_
    ·refine Zu [27,28,29,30,31,32,33] ?_
     refine Zw [3,9,105] ?_
     have h199:=Zb h198 [3]
     replace h199:=nf h199
     refine Zo ?_
     refine J.seq (Zc [10] ?_)
     refine J.ret ?_
     cases H
     exact ⟨_,_,_,Za,⟨rfl,rfl⟩,Zb h199 []⟩
    refine Zu [27,28,29,30,31,32,33] ?_
    refine Zw [3,9,105] ?_
    have h200:=Zb h198 [3]
    replace h200:=nf h200
    refine Zz ?_
    refine J.skip (Y7 [3,9] ?_)
    have h201:=(sOR h200 [0] [0,1,2,3,4])
    exact ht _ _ ⟨k2,b16,rfl,h201,H,by omega⟩
   refine Zu [18,19,20,21,22,23,24,25,26] ?_
   refine Y5 98 (congrArg Value.bool c92) ?_
   refine Zu [27,28,29,30,31,32,33] ?_
   refine Zw [3,9,105] ?_
   have h202:=Zb h197 [3]
   replace h202:=nf h202
   refine Zz ?_
   refine J.skip (Y7 [3,9] ?_)
   have h203:=(sOR h202 [0] [0,1,2,3,4])
   exact ht _ _ ⟨k2,b16,rfl,h203,H,by omega⟩
  rw [ho22] at ho21
  obtain ⟨b80,b81,b82,A56,c_56,A57,c_57,b83,A58,c_58,b84,A59,c_59,b85,b86,A60,c_60,rfl,rfl⟩:=ho21
  replace H:=Y6 ho22 H
  obtain ⟨c89,H⟩:=Zt H
  replace h191:=nf h191
  refine Zi [3,5,9,11,12,13,14,15,16] rfl ?_
  refine J.seq (J.seq (J.region ?_))
  refine Zh 3 ?_
  refine Z8 52 (congrArg Value.bool c26) ?_
  refine Zi [3,5,9,11,13,14,16,55] rfl ?_
  have h204:=Zb h191 [12,12,12,12]
  replace h204:=nf h204
  refine Zo ?_
  refine J.seq (Zc [10] ?_)
  have h205:=Zb h204 []
  replace h205:=nf h205
  refine J.ret ?_
  cases H
  exact ⟨_,_,_,Za,⟨rfl,rfl⟩,Zb h205 []⟩
 refine Zu [6,8] ?_
 refine Zj 9 rfl (Zd 6 wI) ?_
 obtain ⟨r70,q59,H⟩:=Zn H
 refine Zq 7 rfl (Zf [0,0] (Q51.spec q59) h189 rfl Zs) ?_
 rintro _ w94 ⟨_,⟨rfl,rfl⟩,h206⟩
 replace h206:=nf h206
 refine ⟨⟨[],(Zb h206 [2,0,1,1,1,1,1,0,0,0,0])⟩,?_⟩
 refine Zu [10,11] ?_
 refine Zw [1,2,7,36] ?_
 refine jIf H (fun c95 H=>?_) fun c95 H=>?_
 ·refine J.seq (Zc [4,5] ?_)
  refine J.ret (⟨_,Za,?_⟩)
  refine Zi [3,5,9,11,12,13,14] rfl ?_
  have h207:=Zb h206 [0,0,3,3]
  replace h207:=nf h207
  refine J.seq (J.region ?_)
  refine Zg (Zd 2 h207.wht) ?_
  obtain ⟨r71,q60,H⟩:=Zn H
  refine Ze (Zf [] (Q80.spec q60) h207 rfl Zs) ?_
  rintro _ w95 ⟨_,⟨v12,l12,ho23,rfl,rfl⟩,h208⟩
  rcases ho24:r71.1 with _ | r72
  ·rw [ho24] at ho23
   obtain ⟨rfl,rfl⟩:=ho23
   replace H:=Y8 ho24 H
   obtain ⟨c96,H⟩:=Zt H
   replace h208:=nf h208
   refine Zi [3,5,9,11,12,13,14,15,16] rfl ?_
   refine J.seq (J.seq (J.region ?_))
   refine Zh 3 ?_
   refine Z8 52 (congrArg Value.bool c26) ?_
   refine Zi [3,5,9,11,13,14,16,55] rfl ?_
   refine Zz ?_
   refine J.skip (J.seq (J.seq (J.region ?_)))
   refine Zg (Zd 2 h208.wht) ?_
   obtain ⟨r73,q61,H⟩:=Zn H
   refine Ze (Zf [] (Q138.spec q61) h208 rfl Zs) ?_
   rintro _ w96 ⟨_,⟨rfl,rfl⟩,h209⟩
   replace h209:=nf h209
   refine Zi [3,5,9,11,13,14,16,58] rfl ?_
   refine jIf H (fun c98 H=>?_) fun c98 H=>?_
   ·refine J.seq (Zc [10] ?_)
    have h210:=Zb h209 []
    replace h210:=nf h210
    refine J.ret ?_
    cases H
    exact ⟨_,_,_,Za,⟨rfl,rfl⟩,Zb h210 []⟩
   refine J.skip (J.seq (J.seq ?_))
   refine Zv h209 ?_
   have h211:=h209.drew
   refine Zu [0,1,2] ?_
   refine Yh 74 H (fun c99 H=>?_) fun c99 H=>?_
   ·refine Zu [3,4,5,6,7,8,9,10,11,12,13,14,15,16,17,18,19,20,21,22,23,24,25,26,27,28,29,30,31,32,33] ?_
    refine Zw [3,9,105] ?_
    have h212:=Zb h211 [3]
    replace h212:=nf h212
    refine Zo ?_
    refine J.seq (Zc [10] ?_)
    refine J.ret ?_
    cases H
    exact ⟨_,_,_,Za,⟨rfl,rfl⟩,Zb h212 []⟩
   refine Zu [3,4,5,6,7,8,9] ?_
   refine Yh 81 H (fun c100 H=>?_) fun c100 H=>?_
   ·refine Zu [10,11,12,13,14,15,16,17,18,19,20,21,22,23,24,25,26,27,28,29,30,31,32,33] ?_
    refine Zw [3,9,105] ?_
    have h213:=Zb h211 [3]
    replace h213:=nf h213
    refine Zo ?_
    refine J.seq (Zc [10] ?_)
    refine J.ret ?_
    cases H
    exact ⟨_,_,_,Za,⟨rfl,rfl⟩,Zb h213 []⟩
   refine Zu [10,11,12,14] ?_
   refine Zj 15 rfl (Zd 2 wI) ?_
   obtain ⟨r74,q62,H⟩:=Zn H
   refine Zq 13 rfl (Zf [0,0] (Q50.spec q62) h211 rfl Zs) ?_
   rintro _ w97 ⟨_,⟨rfl,rfl⟩,h214⟩
   replace h214:=nf h214
   refine ⟨⟨[],h214⟩,?_⟩
   refine Zu [16,17] ?_
   refine Yh 89 H (fun c101 H=>?_) fun c101 H=>?_
   ·refine Zu [18,20] ?_
    refine Zj 21 rfl (Zd 2 wI) ?_
    obtain ⟨r75,q63,H⟩:=Zn H
    refine Zq 19 rfl (Zf [0,0] (Q51.spec q63) h214 rfl Zs) ?_
    rintro _ w98 ⟨_,⟨rfl,rfl⟩,h215⟩
    replace h215:=nf h215
    refine ⟨⟨[],h215⟩,?_⟩
    refine Zu [22,23,24,25,26] ?_
    refine Yh 98 H (fun c102 H=>?_) fun c102 H=>?_
    ·refine Zu [27,28,29,30,31,32,33] ?_
     refine Zw [3,9,105] ?_
     have h216:=Zb h215 [3]
     replace h216:=nf h216
     refine Zo ?_
     refine J.seq (Zc [10] ?_)
     refine J.ret ?_
     cases H
     exact ⟨_,_,_,Za,⟨rfl,rfl⟩,Zb h216 []⟩
    refine Zu [27,28,29,30,31,32,33] ?_
    refine Zw [3,9,105] ?_
    have h217:=Zb h215 [3]
    replace h217:=nf h217
    refine Zz ?_
    refine J.skip (Y7 [3,9] ?_)
    have h218:=(sOR h217 [0] [0,1,2,3,4])
    exact ht _ _ ⟨k2,b16,rfl,h218,H,by omega⟩
   refine Zu [18,19,20,21,22,23,24,25,26] ?_
   refine Y5 98 (congrArg Value.bool c100) ?_
   refine Zu [27,28,29,30,31,32,33] ?_
   refine Zw [3,9,105] ?_
   have h219:=Zb h214 [3]
   replace h219:=nf h219
   refine Zz ?_
   refine J.skip (Y7 [3,9] ?_)
   have h220:=(sOR h219 [0] [0,1,2,3,4])
   exact ht _ _ ⟨k2,b16,rfl,h220,H,by omega⟩
  rw [ho24] at ho23
  obtain ⟨b87,b88,b89,A61,c_61,A62,c_62,b90,A63,c_63,b91,A64,c_64,b92,b93,A65,c_65,rfl,rfl⟩:=ho23
  replace H:=Y6 ho24 H
  obtain ⟨c97,H⟩:=Zt H
  replace h208:=nf h208
  refine Zi [3,5,9,11,12,13,14,15,16] rfl ?_
  refine J.seq (J.seq (J.region ?_))
  refine Zh 3 ?_
  refine Z8 52 (congrArg Value.bool c26) ?_
  refine Zi [3,5,9,11,13,14,16,55] rfl ?_
  have h221:=Zb h208 [12,12,12,12]
  replace h221:=nf h221
  refine Zo ?_
  refine J.seq (Zc [10] ?_)
  have h222:=Zb h221 []
  replace h222:=nf h222
  refine J.ret ?_
  cases H
  exact ⟨_,_,_,Za,⟨rfl,rfl⟩,Zb h222 []⟩
 refine J.skip (J.seq (J.region ?_))
 refine Zh 1 ?_
 refine Zg (Zd 7 h206.wht) ?_
 obtain ⟨r76,q64,H⟩:=Zn H
 refine Ze (Zf [] (Q69.spec q64) h206 rfl Zs) ?_
 rintro _ w99 ⟨_,⟨v13,l13,ho25,rfl,rfl⟩,h223⟩
 rcases ho26:r76.1 with _ | r77
 ·rw [ho26] at ho25
  obtain ⟨rfl,rfl⟩:=ho25
  replace H:=Y8 ho26 H
  obtain ⟨c103,H⟩:=Zt H
  replace h223:=nf h223
  refine Zi [1,2,7,8,9] rfl ?_
  refine J.seq (J.seq (Zc [1,2,7,8,9,44] ?_))
  refine J.cond rfl (fun e=>?_) (fun e=>by rw [c103] at e; cases e)
  refine J.seq (Zc [4,5] ?_)
  refine J.ret (⟨_,Za,?_⟩)
  refine Zi [3,5,9,11,12,13,14] rfl ?_
  have h224:=Zb h223 [0,0,3,3]
  replace h224:=nf h224
  refine J.seq (J.region ?_)
  refine Zg (Zd 2 h224.wht) ?_
  obtain ⟨r78,q65,H⟩:=Zn H
  refine Ze (Zf [] (Q80.spec q65) h224 rfl Zs) ?_
  rintro _ w100 ⟨_,⟨v14,l14,ho27,rfl,rfl⟩,h225⟩
  rcases ho28:r78.1 with _ | r79
  ·rw [ho28] at ho27
   obtain ⟨rfl,rfl⟩:=ho27
   replace H:=Y8 ho28 H
   obtain ⟨c105,H⟩:=Zt H
   replace h225:=nf h225
   refine Zi [3,5,9,11,12,13,14,15,16] rfl ?_
   refine J.seq (J.seq (J.region ?_))
   refine Zh 3 ?_
   refine Z8 52 (congrArg Value.bool c26) ?_
   refine Zi [3,5,9,11,13,14,16,55] rfl ?_
   refine Zz ?_
   refine J.skip (J.seq (J.seq (J.region ?_)))
   refine Zg (Zd 2 h225.wht) ?_
   obtain ⟨r80,q66,H⟩:=Zn H
   refine Ze (Zf [] (Q138.spec q66) h225 rfl Zs) ?_
   rintro _ w101 ⟨_,⟨rfl,rfl⟩,h226⟩
   replace h226:=nf h226
   refine Zi [3,5,9,11,13,14,16,58] rfl ?_
   refine jIf H (fun c107 H=>?_) fun c107 H=>?_
   ·refine J.seq (J.region ?_)
    refine Zh 7 ?_
    refine Z7 65 H (fun c108 H=>?_) fun c108 H=>?_
    ·refine Zh 4 ?_
     refine Z7 69 H (fun c109 H=>?_) fun c109 H=>?_
     ·obtain ⟨r81,q67,H⟩:=Zn H
      refine Ze (Zf [] (Q134.spec q67) h226 rfl (Z0 (Zm 8) Zs)) ?_
      rintro _ w102 ⟨_,⟨rfl,rfl⟩,h227⟩
      replace h227:=nf h227
      refine Zi [10] rfl ?_
      have h228:=Zb h227 []
      replace h228:=nf h228
      refine J.ret ?_
      cases H
      exact ⟨_,_,_,Za,⟨rfl,rfl⟩,Zb h228 []⟩
     refine Zi [10] rfl ?_
     have h229:=Zb h226 []
     replace h229:=nf h229
     refine J.ret ?_
     cases H
     exact ⟨_,_,_,Za,⟨rfl,rfl⟩,Zb h229 []⟩
    refine Zi [10] rfl ?_
    have h230:=Zb h226 []
    replace h230:=nf h230
    refine J.ret ?_
    cases H
    exact ⟨_,_,_,Za,⟨rfl,rfl⟩,Zb h230 []⟩
   refine J.skip (J.seq (J.seq ?_))
   refine Zv h226 ?_
   have h231:=h226.drew
   refine Zu [0,1,2] ?_
   refine Yh 74 H (fun c110 H=>?_) fun c110 H=>?_
   ·refine Zu [3,4,5,6,7,8,9,10,11,12,13,14,15,16,17,18,19,20,21,22,23,24,25,26,27,28,29,30,31,32,33] ?_
    refine Zw [3,9,105] ?_
    have h232:=Zb h231 [3]
    replace h232:=nf h232
    refine Zo ?_
    refine J.seq (Zc [10] ?_)
    refine J.ret ?_
    cases H
    exact ⟨_,_,_,Za,⟨rfl,rfl⟩,Zb h232 []⟩
   refine Zu [3,4,5,6,7,8,9] ?_
   refine Yh 81 H (fun c111 H=>?_) fun c111 H=>?_
   ·refine Zu [10,11,12,13,14,15,16,17,18,19,20,21,22,23,24,25,26,27,28,29,30,31,32,33] ?_
    refine Zw [3,9,105] ?_
    have h233:=Zb h231 [3]
    replace h233:=nf h233
    refine Zo ?_
    refine J.seq (Zc [10] ?_)
    refine J.ret ?_
    cases H
    exact ⟨_,_,_,Za,⟨rfl,rfl⟩,Zb h233 []⟩
   refine Zu [10,11,12,14] ?_
   refine Zj 15 rfl (Zd 2 wI) ?_
   obtain ⟨r82,q68,H⟩:=Zn H
   refine Zq 13 rfl (Zf [0,0] (Q50.spec q68) h231 rfl Zs) ?_
   rintro _ w103 ⟨_,⟨rfl,rfl⟩,h234⟩
   replace h234:=nf h234
   refine ⟨⟨[],h234⟩,?_⟩
   refine Zu [16,17] ?_
   refine Yh 89 H (fun c112 H=>?_) fun c112 H=>?_
   ·refine Zu [18,20] ?_
    refine Zj 21 rfl (Zd 2 wI) ?_
    obtain ⟨r83,q69,H⟩:=Zn H
    refine Zq 19 rfl (Zf [0,0] (Q51.spec q69) h234 rfl Zs) ?_
    rintro _ w104 ⟨_,⟨rfl,rfl⟩,h235⟩
    replace h235:=nf h235
    refine ⟨⟨[],h235⟩,?_⟩
    refine Zu [22,23,24,25,26] ?_
    refine Yh 98 H (fun c113 H=>?_) fun c113 H=>?_
    ·refine Zu [27,28,29,30,31,32,33] ?_
     refine Zw [3,9,105] ?_
     have h236:=Zb h235 [3]
     replace h236:=nf h236
     refine Zo ?_
     refine J.seq (Zc [10] ?_)
     refine J.ret ?_
     cases H
     exact ⟨_,_,_,Za,⟨rfl,rfl⟩,Zb h236 []⟩
    refine Zu [27,28,29] ?_
    refine Y5 101 (congrArg Value.bool c103) ?_
    refine Zu [30,31,32,33] ?_
    refine Zw [3,9,105] ?_
    have h237:=Zb h235 [3]
    replace h237:=nf h237
    refine jIf H (fun c114 H=>?_) fun c114 H=>?_
    ·refine J.seq (Zc [10] ?_)
     refine J.ret ?_
     cases H
     exact ⟨_,_,_,Za,⟨rfl,rfl⟩,Zb h237 []⟩
    refine J.skip (Y7 [3,9] ?_)
    have h238:=(sOR h237 [0] [0,1,2,3,4])
    exact ht _ _ ⟨k2,b16,rfl,h238,H,by omega⟩
   refine Zu [18,19,20,21,22,23,24,25,26] ?_
   refine Yh 98 H (fun c115 H=>?_) fun c115 H=>?_
   ·refine Zu [27,28,29,30,31,32,33] ?_
    refine Zw [3,9,105] ?_
    have h239:=Zb h234 [3]
    replace h239:=nf h239
    refine Zo ?_
    refine J.seq (Zc [10] ?_)
    refine J.ret ?_
    cases H
    exact ⟨_,_,_,Za,⟨rfl,rfl⟩,Zb h239 []⟩
   refine Zu [27,28,29] ?_
   refine Y5 101 (congrArg Value.bool c103) ?_
   refine Zu [30,31,32,33] ?_
   refine Zw [3,9,105] ?_
   have h240:=Zb h234 [3]
   replace h240:=nf h240
   refine jIf H (fun c116 H=>?_) fun c116 H=>?_
   ·refine J.seq (Zc [10] ?_)
    refine J.ret ?_
    cases H
    exact ⟨_,_,_,Za,⟨rfl,rfl⟩,Zb h240 []⟩
   refine J.skip (Y7 [3,9] ?_)
   have h241:=(sOR h240 [0] [0,1,2,3,4])
   exact ht _ _ ⟨k2,b16,rfl,h241,H,by omega⟩
  rw [ho28] at ho27
  obtain ⟨b94,b95,b96,A66,c_66,A67,c_67,b97,A68,c_68,b98,A69,c_69,b99,b100,A70,c_70,rfl,rfl⟩:=ho27
  replace H:=Y6 ho28 H
  obtain ⟨c106,H⟩:=Zt H
  replace h225:=nf h225
  refine Zi [3,5,9,11,12,13,14,15,16] rfl ?_
  refine J.seq (J.seq (J.region ?_))
  refine Zh 3 ?_
  refine Z8 52 (congrArg Value.bool c26) ?_
  refine Zi [3,5,9,11,13,14,16,55] rfl ?_
  have h242:=Zb h225 [12,12,12,12]
  replace h242:=nf h242
  refine Zo ?_
  refine J.seq (Zc [10] ?_)
  have h243:=Zb h242 []
  replace h243:=nf h243
  refine J.ret ?_
  cases H
  exact ⟨_,_,_,Za,⟨rfl,rfl⟩,Zb h243 []⟩
 rw [ho26] at ho25
 obtain ⟨b101,b102,A71,c_71,rfl,rfl⟩:=ho25
 replace H:=Y6 ho26 H
 obtain ⟨c104,H⟩:=Zt H
 replace h223:=nf h223
 refine Zi [1,2,7,8,9] rfl ?_
 refine J.seq (J.seq (Zc [1,2,7,8,9,44] ?_))
 refine J.cond rfl (fun e=>by rw [c104] at e; cases e) (fun e=>?_)
 refine J.skip (J.seq (J.region ?_))
 refine Zg (Zd 10 h223.wht) ?_
 refine Zh 4 ?_
 refine Ze (Ye h223) ?_
 rintro _ w105 ⟨b103,rfl,h244⟩
 replace h244:=nf h244
 refine Zi [4,5] rfl ?_
 refine J.ret (⟨_,Za,?_⟩)
 refine Zi [3,5,9,11,12,13,14] rfl ?_
 refine J.seq (J.region ?_)
 refine Zg (Zd 9 h244.wht) ?_
 obtain ⟨r84,q70,H⟩:=Zn H
 refine Ze (Zf [] (Q80.spec q70) h244 rfl Zs) ?_
 rintro _ w106 ⟨_,⟨v15,l15,ho29,rfl,rfl⟩,h245⟩
 rcases ho30:r84.1 with _ | r85
 ·rw [ho30] at ho29
  obtain ⟨rfl,rfl⟩:=ho29
  replace H:=Y8 ho30 H
  obtain ⟨c117,H⟩:=Zt H
  replace h245:=nf h245
  refine Zi [3,5,9,11,12,13,14,15,16] rfl ?_
  refine J.seq (J.seq (J.region ?_))
  refine Zh 3 ?_
  refine Z8 52 (congrArg Value.bool c26) ?_
  refine Zi [3,5,9,11,13,14,16,55] rfl ?_
  refine Zz ?_
  refine J.skip (J.seq (J.seq (J.region ?_)))
  refine Zg (Zd 9 h245.wht) ?_
  obtain ⟨r86,q71,H⟩:=Zn H
  refine Ze (Zf [] (Q138.spec q71) h245 rfl Zs) ?_
  rintro _ w107 ⟨_,⟨rfl,rfl⟩,h246⟩
  replace h246:=nf h246
  refine Zi [3,5,9,11,13,14,16,58] rfl ?_
  refine jIf H (fun c119 H=>?_) fun c119 H=>?_
  ·refine J.seq (Zc [10] ?_)
   have h247:=Zb h246 []
   replace h247:=nf h247
   refine J.ret ?_
   cases H
   exact ⟨_,_,_,Za,⟨rfl,rfl⟩,Zb h247 []⟩
  refine J.skip (J.seq (J.seq ?_))
  refine Zv h246 ?_
  have h248:=h246.drew
  refine Zu [0,1,2] ?_
  refine Yh 74 H (fun c120 H=>?_) fun c120 H=>?_
  ·refine Zu [3,4,5,6,7,8,9,10,11,12,13,14,15,16,17,18,19,20,21,22,23,24,25,26,27,28,29,30,31,32,33] ?_
   refine Zw [3,9,105] ?_
   have h249:=Zb h248 [10]
   replace h249:=nf h249
   refine Zo ?_
   refine J.seq (Zc [10] ?_)
   refine J.ret ?_
   cases H
   exact ⟨_,_,_,Za,⟨rfl,rfl⟩,Zb h249 []⟩
  refine Zu [3,4,5,6,7,8,9] ?_
  refine Yh 81 H (fun c121 H=>?_) fun c121 H=>?_
  ·refine Zu [10,11,12,13,14,15,16,17,18,19,20,21,22,23,24,25,26,27,28,29,30,31,32,33] ?_
   refine Zw [3,9,105] ?_
   have h250:=Zb h248 [10]
   replace h250:=nf h250
   refine Zo ?_
   refine J.seq (Zc [10] ?_)
   refine J.ret ?_
   cases H
   exact ⟨_,_,_,Za,⟨rfl,rfl⟩,Zb h250 []⟩
  refine Zu [10,11,12,14] ?_
  refine Zj 15 rfl (Zd 9 wI) ?_
  obtain ⟨r87,q72,H⟩:=Zn H
  refine Zq 13 rfl (Zf [4,4] (Q50.spec q72) h248 rfl Zs) ?_
  rintro _ w108 ⟨_,⟨rfl,rfl⟩,h251⟩
  replace h251:=nf h251
  refine ⟨⟨[],(Zb h251 [2,2,2,2,0,0,0,0,0,0,0,0,0,0,0])⟩,?_⟩
  refine Zu [16,17] ?_
  refine Yh 89 H (fun c122 H=>?_) fun c122 H=>?_
  ·refine Zu [18,20] ?_
   refine Zj 21 rfl (Zd 9 wI) ?_
   obtain ⟨r88,q73,H⟩:=Zn H
   refine Zq 19 rfl (Zf [0,0] (Q51.spec q73) h251 rfl Zs) ?_
   rintro _ w109 ⟨_,⟨rfl,rfl⟩,h252⟩
   replace h252:=nf h252
   refine ⟨⟨[],(Zb h252 [2,2,2,2,0,0,0,0,0,0,0,0,0,0,0])⟩,?_⟩
   refine Zu [22,23,24,25,26] ?_
   refine Yh 98 H (fun c123 H=>?_) fun c123 H=>?_
   ·refine Zu [27,28,29,30,31,32,33] ?_
    refine Zw [3,9,105] ?_
    have h253:=Zb h252 [10]
    replace h253:=nf h253
    refine Zo ?_
    refine J.seq (Zc [10] ?_)
    refine J.ret ?_
    cases H
    exact ⟨_,_,_,Za,⟨rfl,rfl⟩,Zb h253 []⟩
   refine Zu [27,28,29,30,31,32,33] ?_
   refine Zw [3,9,105] ?_
   have h254:=Zb h252 [10]
   replace h254:=nf h254
   refine Zz ?_
   refine J.skip (Y7 [3,9] ?_)
   have h255:=(sOR h254 [0] [0,1,2,3,4])
   exact ht _ _ ⟨k2,b16,rfl,h255,H,by omega⟩
  refine Zu [18,19,20,21,22,23,24,25,26] ?_
  refine Yh 98 H (fun c124 H=>?_) fun c124 H=>?_
  ·refine Zu [27,28,29,30,31,32,33] ?_
   refine Zw [3,9,105] ?_
   have h256:=Zb h251 [10]
   replace h256:=nf h256
   refine Zo ?_
   refine J.seq (Zc [10] ?_)
   refine J.ret ?_
   cases H
   exact ⟨_,_,_,Za,⟨rfl,rfl⟩,Zb h256 []⟩
  refine Zu [27,28,29,30,31,32,33] ?_
  refine Zw [3,9,105] ?_
  have h257:=Zb h251 [10]
  replace h257:=nf h257
  refine Zz ?_
  refine J.skip (Y7 [3,9] ?_)
  have h258:=(sOR h257 [0] [0,1,2,3,4])
  exact ht _ _ ⟨k2,b16,rfl,h258,H,by omega⟩
 rw [ho30] at ho29
 obtain ⟨b104,b105,b106,A72,c_72,A73,c_73,b107,A74,c_74,b108,A75,c_75,b109,b110,A76,c_76,rfl,rfl⟩:=ho29
 replace H:=Y6 ho30 H
 obtain ⟨c118,H⟩:=Zt H
 replace h245:=nf h245
 refine Zi [3,5,9,11,12,13,14,15,16] rfl ?_
 refine J.seq (J.seq (J.region ?_))
 refine Zh 3 ?_
 refine Z8 52 (congrArg Value.bool c26) ?_
 refine Zi [3,5,9,11,13,14,16,55] rfl ?_
 have h259:=Zb h245 [12,12,12,12,12,12,12,12,12,12,12,13,13,13]
 replace h259:=nf h259
 refine Zo ?_
 refine J.seq (Zc [10] ?_)
 have h260:=Zb h259 []
 replace h260:=nf h260
 refine J.ret ?_
 cases H
 exact ⟨_,_,_,Za,⟨rfl,rfl⟩,Zb h260 []⟩

end Go.SK.T
