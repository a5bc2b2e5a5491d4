/- The functions, further. -/
import Derived.Test.YtgdmpkhmedbnpaaGreatDoorXShelfCostsF2
set_option linter.unusedVariables false
set_option linter.unusedSimpArgs false
set_option maxRecDepth 20000
set_option maxHeartbeats 40000000
namespace Go.SK.T
open Go Go.SK Go.Proofs
def Q90.f (k:Nat) (a0:(Int×Int×Int×Int×Int×Int×Int×Int)×((Int×List (Int)×(Int×Int))×(List (Int×List (Int)×Bool×Int))×(List (Int×Int))×List (Int)×((List (Int×Int×Bool))×Int))×((Int×Int×List (Int)))×Int) (a1:Int) (a2:Int×List (Int)×List (List UInt8)×(List (List UInt8×Bool×List UInt8))×(List (List UInt8×List UInt8))):Option (Int×((Int×Int×Int×Int×Int×Int×Int×Int)×((Int×List (Int)×(Int×Int))×(List (Int×List (Int)×Bool×Int))×(List (Int×Int))×List (Int)×((List (Int×Int×Bool))×Int))×((Int×Int×List (Int)))×Int)):=(Q93.f a0 a1).bind fun r1=>(if (!decide (r1=0))=true then (some (r1,a0)) else ((Q38.f k a0.1 a2).bind fun r2=>(if (!decide (r2.2=0))=true then (some (r2.2,a0)) else ((Q91.f a0 a1 r2.1).bind fun r3=>(some r3)))))
theorem Q90.spec {k:Nat} {a0:(Int×Int×Int×Int×Int×Int×Int×Int)×((Int×List (Int)×(Int×Int))×(List (Int×List (Int)×Bool×Int))×(List (Int×Int))×List (Int)×((List (Int×Int×Bool))×Int))×((Int×Int×List (Int)))×Int} {a1:Int} {a2:Int×List (Int)×List (List UInt8)×(List (List UInt8×Bool×List UInt8))×(List (List UInt8×List UInt8))} {A6:Option Addr} {c_6:Nat} {A7:Option Addr} {c_7:Nat} {A8:Option Addr} {c_8:Nat} {A9:Option Addr} {c_9:Nat} {b1:Nat} {b2:Nat} {b3:Nat} {b4:Nat} {b5:Nat} {b6:Nat} {b7:Nat} {A1:Option Addr} {c_1:Nat} {A2:Option Addr} {c_2:Nat} {A3:Option Addr} {c_3:Nat} {A4:Option Addr} {c_4:Nat} {A5:Option Addr} {c_5:Nat} {r:Int×((Int×Int×Int×Int×Int×Int×Int×Int)×((Int×List (Int)×(Int×Int))×(List (Int×List (Int)×Bool×Int))×(List (Int×Int))×List (Int)×((List (Int×Int×Bool))×Int))×((Int×Int×List (Int)))×Int)} (H:Q90.f k a0 a1 a2=some r) :
  Spec Tryz.prog 40 [.pointer (some ⟨b1,0,none⟩),.int .u32 a1,.agg #[.int .i64 a2.1,.slice A6 a2.2.1.length c_6,.slice A7 a2.2.2.1.length c_7,.slice A8 a2.2.2.2.1.length c_8,.slice A9 a2.2.2.2.2.length c_9]] [X83 b1 a0.1.1 a0.1.2.1 a0.1.2.2.1 a0.1.2.2.2.1 a0.1.2.2.2.2.1 a0.1.2.2.2.2.2.1 a0.1.2.2.2.2.2.2.1 a0.1.2.2.2.2.2.2.2 (.pointer (some ⟨b3,0,none⟩)) (.pointer (some ⟨b2,0,none⟩)) (.pointer (some ⟨b6,0,none⟩)) a0.2.2.2,Yh b2 (.pointer (some ⟨b3,0,none⟩)) a0.2.1.2.1 A2 c_2 (.map (some b4)) a0.2.1.2.2.2.1 A3 c_3 (.pointer (some ⟨b5,0,none⟩)),Yb b3 a0.2.1.1.1 a0.2.1.1.2.1 A1 c_1 a0.2.1.1.2.2.1 a0.2.1.1.2.2.2,O5 a0.2.1.1.2.1 A1 c_1,Yg a0.2.1.2.1 A2 c_2,Yc .u32 (Value.int .i64) b4 a0.2.1.2.2.1,O3 a0.2.1.2.2.2.1 A3 c_3,Z7 b5 a0.2.1.2.2.2.2.1 A4 c_4 a0.2.1.2.2.2.2.2,Z8 a0.2.1.2.2.2.2.1 A4 c_4,Yw b6 (.pointer (some ⟨b7,0,none⟩)),Yk b7 a0.2.2.1.1 a0.2.2.1.2.1 a0.2.2.1.2.2 A5 c_5,O61 a0.2.2.1.2.2 A5 c_5] [R33 a2.2.1 A6 c_6,R9 a2.2.2.1 A7 c_7,Xw a2.2.2.2.1 A8 c_8,Xv a2.2.2.2.2 A9 c_9] (fun v l=>∃(A_0:Option Addr) (c_0:Nat) (A_1:Option Addr) (c_1:Nat) (A_2:Option Addr) (c_2:Nat) (A_3:Option Addr) (c_3:Nat) (A_4:Option Addr) (c_4:Nat),v=.int .i64 r.1∧l=[X83 b1 r.2.1.1 r.2.1.2.1 r.2.1.2.2.1 r.2.1.2.2.2.1 r.2.1.2.2.2.2.1 r.2.1.2.2.2.2.2.1 r.2.1.2.2.2.2.2.2.1 r.2.1.2.2.2.2.2.2.2 (.pointer (some ⟨b3,0,none⟩)) (.pointer (some ⟨b2,0,none⟩)) (.pointer (some ⟨b6,0,none⟩)) r.2.2.2.2,Yh b2 (.pointer (some ⟨b3,0,none⟩)) r.2.2.1.2.1 A_1 c_1 (.map (some b4)) r.2.2.1.2.2.2.1 A_2 c_2 (.pointer (some ⟨b5,0,none⟩)),Yb b3 r.2.2.1.1.1 r.2.2.1.1.2.1 A_0 c_0 r.2.2.1.1.2.2.1 r.2.2.1.1.2.2.2,O5 r.2.2.1.1.2.1 A_0 c_0,Yg r.2.2.1.2.1 A_1 c_1,Yc .u32 (Value.int .i64) b4 r.2.2.1.2.2.1,O3 r.2.2.1.2.2.2.1 A_2 c_2,Z7 b5 r.2.2.1.2.2.2.2.1 A_3 c_3 r.2.2.1.2.2.2.2.2,Z8 r.2.2.1.2.2.2.2.1 A_3 c_3,Yw b6 (.pointer (some ⟨b7,0,none⟩)),Yk b7 r.2.2.2.1.1 r.2.2.2.1.2.1 r.2.2.2.1.2.2 A_4 c_4,O61 r.2.2.2.1.2.2 A_4 c_4]):=by
 refine Zo Tryz.func40 fun w0 F0 h0=>?_
 unfold Q90.f at H
 refine J.seq (J.region ?_)
 refine Ze (Ym h0) ?_
 rintro _ w1 ⟨b8,rfl,h1⟩
 replace h1:=nf h1
 refine Zi [0,1,5] rfl ?_
 refine J.seq (J.seq (J.region ?_))
 refine Zh 2 ?_
 obtain ⟨r1,q1,H⟩:=Zn H
 refine Ze (Zg [1,1,1,1,1,1,1,1,1,1,1,1] (Q93.spec q1) h1 rfl Zr) ?_
 rintro _ w2 ⟨_,⟨rfl,rfl⟩,h2⟩
 replace h2:=nf h2
 refine Zi [0,1,5,7] rfl ?_
 refine J.seq (Zb [0,1,5,7,14] ?_)
 refine jIf H (fun c1 H=>?_) fun c1 H=>?_
 ·refine J.seq (Zb [6] ?_)
  refine J.ret ?_
  cases H
  exact ⟨_,_,_,Za,⟨_,_,_,_,_,_,_,_,_,_,rfl,rfl⟩,Zc h2 [0,0,0,0,0,0,0,0,0,0,0,0]⟩
 refine J.skip (J.seq (Zu h2 ?_))
 have h3:=h2.drew
 refine Zv [0,1,2] ?_
 refine Zj 3 rfl (Zd 0 wI) ?_
 refine Zj 4 rfl (Zd 12 wI) ?_
 obtain ⟨r2,q2,H⟩:=Zn H
 refine Zp 5 rfl (Zg [] (Q38.spec q2) h3 rfl (Zy (Zk 13) (Zy (Zk 14) (Zy (Zk 15) (Zy (Zk 16) Zr))))) ?_
 rintro _ w3 ⟨_,⟨A10,c_10,rfl,rfl⟩,h4⟩
 replace h4:=nf h4
 refine ⟨⟨[_],h4⟩,?_⟩
 refine Zv [6,7,8,9,10] ?_
 refine Z0 [0,1,8,9] ?_
 refine J.seq (J.seq (Zb [0,1,8,9,26] ?_))
 refine jIf H (fun c2 H=>?_) fun c2 H=>?_
 ·refine J.seq (Zb [6] ?_)
  have h5:=Zc h4 [1,1,1,1,1,1,1,1,1,1,1,1]
  replace h5:=nf h5
  refine J.ret ?_
  cases H
  exact ⟨_,_,_,Za,⟨_,_,_,_,_,_,_,_,_,_,rfl,rfl⟩,Zc h5 [0,0,0,0,0,0,0,0,0,0,0,0]⟩
 refine J.skip (J.seq (J.region ?_))
 refine Zh 3 ?_
 obtain ⟨r3,q3,H⟩:=Zn H
 refine Ze (Zg [1,1,1,1,1,1,1,1,1,1,1,1] (Q91.spec q3) h4 rfl (Zy (gO 0) Zr)) ?_
 rintro _ w4 ⟨_,⟨A11,c_11,A12,c_12,A13,c_13,A14,c_14,A15,c_15,rfl,rfl⟩,h6⟩
 replace h6:=nf h6
 refine Zi [6] rfl ?_
 have h7:=Zc h6 [0,0,0,0,0,0,0,0,0,0,0,0]
 replace h7:=nf h7
 refine J.ret ?_
 cases H
 exact ⟨_,_,_,Za,⟨_,_,_,_,_,_,_,_,_,_,rfl,rfl⟩,Zc h7 [0,0,0,0,0,0,0,0,0,0,0,0]⟩

def Q15.f (a0:(Int×List (Int)×(Int×Int))×(List (Int×List (Int)×Bool×Int))×(List (Int×Int))×List (Int)×((List (Int×Int×Bool))×Int)) (a1:Int):Option (Int×((Int×List (Int)×(Int×Int))×(List (Int×List (Int)×Bool×Int))×(List (Int×Int))×List (Int)×((List (Int×Int×Bool))×Int))):=(Q23.f a0).bind fun r1=>(if r1=true then (some (1,a0)) else (if (!(Y2 a0.2.2.1 a1))=true then (some (0,a0)) else (if 0≤(Zw (0:Int) a0.2.2.1 a1)∧(Zw (0:Int) a0.2.2.1 a1)<(a0.2.1.length:Int) then (if (decide (0<((gt a0.2.1 (Zw (0:Int) a0.2.2.1 a1)).2.2.2)))=true then (some (8,a0)) else ((Q22.f a0 (Zw (0:Int) a0.2.2.1 a1)).bind fun r2=>(some (0,r2)))) else none)))
theorem Q15.spec {a0:(Int×List (Int)×(Int×Int))×(List (Int×List (Int)×Bool×Int))×(List (Int×Int))×List (Int)×((List (Int×Int×Bool))×Int)} {a1:Int} {b1:Nat} {b2:Nat} {b3:Nat} {b4:Nat} {A1:Option Addr} {c_1:Nat} {A2:Option Addr} {c_2:Nat} {A3:Option Addr} {c_3:Nat} {A4:Option Addr} {c_4:Nat} {r:Int×((Int×List (Int)×(Int×Int))×(List (Int×List (Int)×Bool×Int))×(List (Int×Int))×List (Int)×((List (Int×Int×Bool))×Int))} (H:Q15.f a0 a1=some r) :
  Spec Tryz.prog 94 [.pointer (some ⟨b1,0,none⟩),.int .u32 a1] [Yh b1 (.pointer (some ⟨b2,0,none⟩)) a0.2.1 A2 c_2 (.map (some b3)) a0.2.2.2.1 A3 c_3 (.pointer (some ⟨b4,0,none⟩)),Yb b2 a0.1.1 a0.1.2.1 A1 c_1 a0.1.2.2.1 a0.1.2.2.2,O5 a0.1.2.1 A1 c_1,Yg a0.2.1 A2 c_2,Yc .u32 (Value.int .i64) b3 a0.2.2.1,O3 a0.2.2.2.1 A3 c_3,Z7 b4 a0.2.2.2.2.1 A4 c_4 a0.2.2.2.2.2,Z8 a0.2.2.2.2.1 A4 c_4] [] (fun v l=>∃(A_0:Option Addr) (c_0:Nat) (A_1:Option Addr) (c_1:Nat) (A_2:Option Addr) (c_2:Nat) (A_3:Option Addr) (c_3:Nat),v=.int .i64 r.1∧l=[Yh b1 (.pointer (some ⟨b2,0,none⟩)) r.2.2.1 A_1 c_1 (.map (some b3)) r.2.2.2.2.1 A_2 c_2 (.pointer (some ⟨b4,0,none⟩)),Yb b2 r.2.1.1 r.2.1.2.1 A_0 c_0 r.2.1.2.2.1 r.2.1.2.2.2,O5 r.2.1.2.1 A_0 c_0,Yg r.2.2.1 A_1 c_1,Yc .u32 (Value.int .i64) b3 r.2.2.2.1,O3 r.2.2.2.2.1 A_2 c_2,Z7 b4 r.2.2.2.2.2.1 A_3 c_3 r.2.2.2.2.2.2,Z8 r.2.2.2.2.2.1 A_3 c_3]):=by
 refine Zo Tryz.func94 fun w0 F0 h0=>?_
 unfold Q15.f at H
 refine J.seq (Zb [0,1] ?_)
 refine J.seq (J.seq (J.region ?_))
 refine Zh 1 ?_
 obtain ⟨r1,q1,H⟩:=Zn H
 refine Ze (Zg [0,0,0,0,0,0,0,0] (Q23.spec q1) h0 rfl Zr) ?_
 rintro _ w1 ⟨_,⟨rfl,rfl⟩,h1⟩
 replace h1:=nf h1
 refine Zi [0,1,8] rfl ?_
 refine jIf H (fun c1 H=>?_) fun c1 H=>?_
 ·refine J.seq (Zb [4] ?_)
  refine J.ret ?_
  cases H
  exact ⟨_,_,_,Za,⟨_,_,_,_,_,_,_,_,rfl,rfl⟩,Zc h1 [0,0,0,0,0,0,0,0]⟩
 refine J.skip (J.seq (J.region ?_))
 refine Zh 3 ?_
 refine Zf (Zd 0 h1.wht) ?_
 refine Zh 1 ?_
 refine Zf (Xu (0:Int) 4 h1.wht) ?_
 refine Zi [0,5,6] rfl ?_
 refine J.seq (J.block (J.seq (Zb [0,5,18] ?_)))
 refine jIf H (fun c2 H=>?_) fun c2 H=>?_
 ·refine J.seq (Zb [4] ?_)
  refine J.ret ?_
  cases H
  exact ⟨_,_,_,Za,⟨_,_,_,_,_,_,_,_,rfl,rfl⟩,Zc h1 [0,0,0,0,0,0,0,0]⟩
 refine J.seq (J.region ?_)
 refine Zh 3 ?_
 refine Zf (Zd 0 h1.wht) ?_
 refine Zh 1 ?_
 obtain ⟨⟨p1,p2⟩,H⟩:=Zs H
 have e1:=Z6 h1.wh (gO 3) p1 p2
 refine Zf (Zl e1 p1 p2) ?_
 refine Zh 1 ?_
 refine Zf (Yq 3 h1.wht (gO 3) p1 p2) ?_
 refine Zi [0,5,21] rfl ?_
 refine jIf H (fun c3 H=>?_) fun c3 H=>?_
 ·refine J.seq (Zb [4] ?_)
  refine J.ret ?_
  cases H
  exact ⟨_,_,_,Za,⟨_,_,_,_,_,_,_,_,rfl,rfl⟩,Zc h1 [0,0,0,0,0,0,0,0]⟩
 refine J.skip (J.seq (J.region ?_))
 refine Zh 2 ?_
 obtain ⟨r2,q2,H⟩:=Zn H
 refine Ze (Zg [0,0,0,0,0,0,0,0] (Q22.spec q2) h1 rfl Zr) ?_
 rintro _ w2 ⟨_,⟨A5,c_5,A6,c_6,A7,c_7,A8,c_8,rfl,rfl⟩,h2⟩
 replace h2:=nf h2
 refine Zi [] rfl ?_
 refine J.seq (Zb [4] ?_)
 refine J.ret ?_
 cases H
 exact ⟨_,_,_,Za,⟨_,_,_,_,_,_,_,_,rfl,rfl⟩,Zc h2 [0,0,0,0,0,0,0,0]⟩

def Q83.f (a0:(Int×Int×Int×Int×Int×Int×Int×Int)×((Int×List (Int)×(Int×Int))×(List (Int×List (Int)×Bool×Int))×(List (Int×Int))×List (Int)×((List (Int×Int×Bool))×Int))×((Int×Int×List (Int)))×Int) (a1:Int):Option (Int×((Int×Int×Int×Int×Int×Int×Int×Int)×((Int×List (Int)×(Int×Int))×(List (Int×List (Int)×Bool×Int))×(List (Int×Int))×List (Int)×((List (Int×Int×Bool))×Int))×((Int×Int×List (Int)))×Int)):=(Q93.f a0 a1).bind fun r1=>(if (!decide (r1=0))=true then (some (r1,a0)) else (if (decide (a1=a0.2.2.2))=true then (some (8,a0)) else ((Q75.f a0.2.2.1 a1).bind fun r2=>(if (!decide (r2.1=0))=true then (some (r2.1,(a0.1,a0.2.1,r2.2,a0.2.2.2))) else ((Q15.f a0.2.1 a1).bind fun r3=>(some (r3.1,(a0.1,r3.2,r2.2,a0.2.2.2))))))))
theorem Q83.spec {a0:(Int×Int×Int×Int×Int×Int×Int×Int)×((Int×List (Int)×(Int×Int))×(List (Int×List (Int)×Bool×Int))×(List (Int×Int))×List (Int)×((List (Int×Int×Bool))×Int))×((Int×Int×List (Int)))×Int} {a1:Int} {b1:Nat} {b2:Nat} {b3:Nat} {b4:Nat} {b5:Nat} {b6:Nat} {b7:Nat} {A1:Option Addr} {c_1:Nat} {A2:Option Addr} {c_2:Nat} {A3:Option Addr} {c_3:Nat} {A4:Option Addr} {c_4:Nat} {A5:Option Addr} {c_5:Nat} {r:Int×((Int×Int×Int×Int×Int×Int×Int×Int)×((Int×List (Int)×(Int×Int))×(List (Int×List (Int)×Bool×Int))×(List (Int×Int))×List (Int)×((List (Int×Int×Bool))×Int))×((Int×Int×List (Int)))×Int)} (H:Q83.f a0 a1=some r) :
  Spec Tryz.prog 41 [.pointer (some ⟨b1,0,none⟩),.int .u32 a1] [X83 b1 a0.1.1 a0.1.2.1 a0.1.2.2.1 a0.1.2.2.2.1 a0.1.2.2.2.2.1 a0.1.2.2.2.2.2.1 a0.1.2.2.2.2.2.2.1 a0.1.2.2.2.2.2.2.2 (.pointer (some ⟨b3,0,none⟩)) (.pointer (some ⟨b2,0,none⟩)) (.pointer (some ⟨b6,0,none⟩)) a0.2.2.2,Yh b2 (.pointer (some ⟨b3,0,none⟩)) a0.2.1.2.1 A2 c_2 (.map (some b4)) a0.2.1.2.2.2.1 A3 c_3 (.pointer (some ⟨b5,0,none⟩)),Yb b3 a0.2.1.1.1 a0.2.1.1.2.1 A1 c_1 a0.2.1.1.2.2.1 a0.2.1.1.2.2.2,O5 a0.2.1.1.2.1 A1 c_1,Yg a0.2.1.2.1 A2 c_2,Yc .u32 (Value.int .i64) b4 a0.2.1.2.2.1,O3 a0.2.1.2.2.2.1 A3 c_3,Z7 b5 a0.2.1.2.2.2.2.1 A4 c_4 a0.2.1.2.2.2.2.2,Z8 a0.2.1.2.2.2.2.1 A4 c_4,Yw b6 (.pointer (some ⟨b7,0,none⟩)),Yk b7 a0.2.2.1.1 a0.2.2.1.2.1 a0.2.2.1.2.2 A5 c_5,O61 a0.2.2.1.2.2 A5 c_5] [] (fun v l=>∃(A_0:Option Addr) (c_0:Nat) (A_1:Option Addr) (c_1:Nat) (A_2:Option Addr) (c_2:Nat) (A_3:Option Addr) (c_3:Nat) (A_4:Option Addr) (c_4:Nat),v=.int .i64 r.1∧l=[X83 b1 r.2.1.1 r.2.1.2.1 r.2.1.2.2.1 r.2.1.2.2.2.1 r.2.1.2.2.2.2.1 r.2.1.2.2.2.2.2.1 r.2.1.2.2.2.2.2.2.1 r.2.1.2.2.2.2.2.2.2 (.pointer (some ⟨b3,0,none⟩)) (.pointer (some ⟨b2,0,none⟩)) (.pointer (some ⟨b6,0,none⟩)) r.2.2.2.2,Yh b2 (.pointer (some ⟨b3,0,none⟩)) r.2.2.1.2.1 A_1 c_1 (.map (some b4)) r.2.2.1.2.2.2.1 A_2 c_2 (.pointer (some ⟨b5,0,none⟩)),Yb b3 r.2.2.1.1.1 r.2.2.1.1.2.1 A_0 c_0 r.2.2.1.1.2.2.1 r.2.2.1.1.2.2.2,O5 r.2.2.1.1.2.1 A_0 c_0,Yg r.2.2.1.2.1 A_1 c_1,Yc .u32 (Value.int .i64) b4 r.2.2.1.2.2.1,O3 r.2.2.1.2.2.2.1 A_2 c_2,Z7 b5 r.2.2.1.2.2.2.2.1 A_3 c_3 r.2.2.1.2.2.2.2.2,Z8 r.2.2.1.2.2.2.2.1 A_3 c_3,Yw b6 (.pointer (some ⟨b7,0,none⟩)),Yk b7 r.2.2.2.1.1 r.2.2.2.1.2.1 r.2.2.2.1.2.2 A_4 c_4,O61 r.2.2.2.1.2.2 A_4 c_4]):=by
 refine Zo Tryz.func41 fun w0 F0 h0=>?_
 unfold Q83.f at H
 refine J.seq (Zb [0,1] ?_)
 refine J.seq (J.seq (J.region ?_))
 refine Zh 2 ?_
 obtain ⟨r1,q1,H⟩:=Zn H
 refine Ze (Zg [0,0,0,0,0,0,0,0,0,0,0,0] (Q93.spec q1) h0 rfl Zr) ?_
 rintro _ w1 ⟨_,⟨rfl,rfl⟩,h1⟩
 replace h1:=nf h1
 refine Zi [0,1,5] rfl ?_
 refine J.seq (Zb [0,1,5,11] ?_)
 refine jIf H (fun c1 H=>?_) fun c1 H=>?_
 ·refine J.seq (Zb [4] ?_)
  refine J.ret ?_
  cases H
  exact ⟨_,_,_,Za,⟨_,_,_,_,_,_,_,_,_,_,rfl,rfl⟩,Zc h1 [0,0,0,0,0,0,0,0,0,0,0,0]⟩
 refine J.skip (J.seq (J.seq (J.region ?_)))
 refine Zh 4 ?_
 refine Zf (Zd 0 h1.wht) ?_
 refine Zi [0,1,18] rfl ?_
 refine jIf H (fun c2 H=>?_) fun c2 H=>?_
 ·refine J.seq (Zb [4] ?_)
  refine J.ret ?_
  cases H
  exact ⟨_,_,_,Za,⟨_,_,_,_,_,_,_,_,_,_,rfl,rfl⟩,Zc h1 [0,0,0,0,0,0,0,0,0,0,0,0]⟩
 refine J.skip (J.seq (J.seq (J.region ?_)))
 refine Zh 3 ?_
 refine Zf (Zd 0 h1.wht) ?_
 refine Zh 1 ?_
 obtain ⟨r2,q2,H⟩:=Zn H
 refine Ze (Zg [9,9,9] (Q75.spec q2) h1 rfl Zr) ?_
 rintro _ w2 ⟨_,⟨A6,c_6,rfl,rfl⟩,h2⟩
 replace h2:=nf h2
 refine Zi [0,1,6] rfl ?_
 refine J.seq (Zb [0,1,6,26] ?_)
 refine jIf H (fun c3 H=>?_) fun c3 H=>?_
 ·refine J.seq (Zb [4] ?_)
  refine J.ret ?_
  cases H
  exact ⟨_,_,_,Za,⟨_,_,_,_,_,_,_,_,_,_,rfl,rfl⟩,Zc h2 [3,3,3,3,3,3,3,3,3,0,0,0]⟩
 refine J.skip (J.seq (J.region ?_))
 refine Zh 3 ?_
 refine Zf (Zd 3 h2.wht) ?_
 refine Zh 1 ?_
 obtain ⟨r3,q3,H⟩:=Zn H
 refine Ze (Zg [4,4,4,4,4,4,4,4] (Q15.spec q3) h2 rfl Zr) ?_
 rintro _ w3 ⟨_,⟨A7,c_7,A8,c_8,A9,c_9,A10,c_10,rfl,rfl⟩,h3⟩
 replace h3:=nf h3
 refine Zi [4] rfl ?_
 refine J.ret ?_
 cases H
 exact ⟨_,_,_,Za,⟨_,_,_,_,_,_,_,_,_,_,rfl,rfl⟩,Zc h3 [11,0,0,0,0,0,0,0,0,0,0,0]⟩

def Q78.f (a0:(Int×Int×List (Int))) (a1:Int):Option (Int×((Int×Int×List (Int)))):=(Q80.f a0).bind fun r1=>(if r1=true then (some (1,a0)) else ((Q8.f a0 (w64 (a1))).bind fun r2=>(some r2)))
theorem Q78.spec {a0:(Int×Int×List (Int))} {a1:Int} {b1:Nat} {b2:Nat} {A1:Option Addr} {c_1:Nat} {r:Int×((Int×Int×List (Int)))} (H:Q78.f a0 a1=some r) :
  Spec Tryz.prog 95 [.pointer (some ⟨b1,0,none⟩),.int .u32 a1] [Yw b1 (.pointer (some ⟨b2,0,none⟩)),Yk b2 a0.1 a0.2.1 a0.2.2 A1 c_1,O61 a0.2.2 A1 c_1] [] (fun v l=>∃(A_0:Option Addr) (c_0:Nat),v=.int .i64 r.1∧l=[Yw b1 (.pointer (some ⟨b2,0,none⟩)),Yk b2 r.2.1 r.2.2.1 r.2.2.2 A_0 c_0,O61 r.2.2.2 A_0 c_0]):=by
 refine Zo Tryz.func95 fun w0 F0 h0=>?_
 unfold Q78.f at H
 refine J.seq (Zb [0,1] ?_)
 refine J.seq (J.seq (J.region ?_))
 refine Zh 1 ?_
 obtain ⟨r1,q1,H⟩:=Zn H
 refine Ze (Zg [0,0,0] (Q80.spec q1) h0 rfl Zr) ?_
 rintro _ w1 ⟨_,⟨rfl,rfl⟩,h1⟩
 replace h1:=nf h1
 refine Zi [0,1,6] rfl ?_
 refine jIf H (fun c1 H=>?_) fun c1 H=>?_
 ·refine J.seq (Zb [4] ?_)
  refine J.ret ?_
  cases H
  exact ⟨_,_,_,Za,⟨_,_,rfl,rfl⟩,Zc h1 [0,0,0]⟩
 refine J.skip (J.seq (J.region ?_))
 refine Zh 3 ?_
 refine Zf (Zd 0 h1.wht) ?_
 refine Zh 2 ?_
 obtain ⟨r2,q2,H⟩:=Zn H
 refine Ze (Zg [1,1] (Q8.spec q2) h1 rfl Zr) ?_
 rintro _ w2 ⟨_,⟨A2,c_2,rfl,rfl⟩,h2⟩
 replace h2:=nf h2
 refine Zi [4] rfl ?_
 refine J.ret ?_
 cases H
 exact ⟨_,_,_,Za,⟨_,_,rfl,rfl⟩,Zc h2 [2,0,0]⟩

def Q89.f (a0:(Int×Int×Int×Int×Int×Int×Int×Int)×((Int×List (Int)×(Int×Int))×(List (Int×List (Int)×Bool×Int))×(List (Int×Int))×List (Int)×((List (Int×Int×Bool))×Int))×((Int×Int×List (Int)))×Int) (a1:Int):Option (Int×((Int×Int×Int×Int×Int×Int×Int×Int)×((Int×List (Int)×(Int×Int))×(List (Int×List (Int)×Bool×Int))×(List (Int×Int))×List (Int)×((List (Int×Int×Bool))×Int))×((Int×Int×List (Int)))×Int)):=(Q93.f a0 a1).bind fun r1=>(if (!decide (r1=0))=true then (some (r1,a0)) else ((Q78.f a0.2.2.1 a1).bind fun r2=>(some (r2.1,(a0.1,a0.2.1,r2.2,a0.2.2.2)))))
theorem Q89.spec {a0:(Int×Int×Int×Int×Int×Int×Int×Int)×((Int×List (Int)×(Int×Int))×(List (Int×List (Int)×Bool×Int))×(List (Int×Int))×List (Int)×((List (Int×Int×Bool))×Int))×((Int×Int×List (Int)))×Int} {a1:Int} {b1:Nat} {b2:Nat} {b3:Nat} {b4:Nat} {b5:Nat} {b6:Nat} {b7:Nat} {A1:Option Addr} {c_1:Nat} {A2:Option Addr} {c_2:Nat} {A3:Option Addr} {c_3:Nat} {A4:Option Addr} {c_4:Nat} {A5:Option Addr} {c_5:Nat} {r:Int×((Int×Int×Int×Int×Int×Int×Int×Int)×((Int×List (Int)×(Int×Int))×(List (Int×List (Int)×Bool×Int))×(List (Int×Int))×List (Int)×((List (Int×Int×Bool))×Int))×((Int×Int×List (Int)))×Int)} (H:Q89.f a0 a1=some r) :
  Spec Tryz.prog 42 [.pointer (some ⟨b1,0,none⟩),.int .u32 a1] [X83 b1 a0.1.1 a0.1.2.1 a0.1.2.2.1 a0.1.2.2.2.1 a0.1.2.2.2.2.1 a0.1.2.2.2.2.2.1 a0.1.2.2.2.2.2.2.1 a0.1.2.2.2.2.2.2.2 (.pointer (some ⟨b3,0,none⟩)) (.pointer (some ⟨b2,0,none⟩)) (.pointer (some ⟨b6,0,none⟩)) a0.2.2.2,Yh b2 (.pointer (some ⟨b3,0,none⟩)) a0.2.1.2.1 A2 c_2 (.map (some b4)) a0.2.1.2.2.2.1 A3 c_3 (.pointer (some ⟨b5,0,none⟩)),Yb b3 a0.2.1.1.1 a0.2.1.1.2.1 A1 c_1 a0.2.1.1.2.2.1 a0.2.1.1.2.2.2,O5 a0.2.1.1.2.1 A1 c_1,Yg a0.2.1.2.1 A2 c_2,Yc .u32 (Value.int .i64) b4 a0.2.1.2.2.1,O3 a0.2.1.2.2.2.1 A3 c_3,Z7 b5 a0.2.1.2.2.2.2.1 A4 c_4 a0.2.1.2.2.2.2.2,Z8 a0.2.1.2.2.2.2.1 A4 c_4,Yw b6 (.pointer (some ⟨b7,0,none⟩)),Yk b7 a0.2.2.1.1 a0.2.2.1.2.1 a0.2.2.1.2.2 A5 c_5,O61 a0.2.2.1.2.2 A5 c_5] [] (fun v l=>∃(A_0:Option Addr) (c_0:Nat) (A_1:Option Addr) (c_1:Nat) (A_2:Option Addr) (c_2:Nat) (A_3:Option Addr) (c_3:Nat) (A_4:Option Addr) (c_4:Nat),v=.int .i64 r.1∧l=[X83 b1 r.2.1.1 r.2.1.2.1 r.2.1.2.2.1 r.2.1.2.2.2.1 r.2.1.2.2.2.2.1 r.2.1.2.2.2.2.2.1 r.2.1.2.2.2.2.2.2.1 r.2.1.2.2.2.2.2.2.2 (.pointer (some ⟨b3,0,none⟩)) (.pointer (some ⟨b2,0,none⟩)) (.pointer (some ⟨b6,0,none⟩)) r.2.2.2.2,Yh b2 (.pointer (some ⟨b3,0,none⟩)) r.2.2.1.2.1 A_1 c_1 (.map (some b4)) r.2.2.1.2.2.2.1 A_2 c_2 (.pointer (some ⟨b5,0,none⟩)),Yb b3 r.2.2.1.1.1 r.2.2.1.1.2.1 A_0 c_0 r.2.2.1.1.2.2.1 r.2.2.1.1.2.2.2,O5 r.2.2.1.1.2.1 A_0 c_0,Yg r.2.2.1.2.1 A_1 c_1,Yc .u32 (Value.int .i64) b4 r.2.2.1.2.2.1,O3 r.2.2.1.2.2.2.1 A_2 c_2,Z7 b5 r.2.2.1.2.2.2.2.1 A_3 c_3 r.2.2.1.2.2.2.2.2,Z8 r.2.2.1.2.2.2.2.1 A_3 c_3,Yw b6 (.pointer (some ⟨b7,0,none⟩)),Yk b7 r.2.2.2.1.1 r.2.2.2.1.2.1 r.2.2.2.1.2.2 A_4 c_4,O61 r.2.2.2.1.2.2 A_4 c_4]):=by
 refine Zo Tryz.func42 fun w0 F0 h0=>?_
 unfold Q89.f at H
 refine J.seq (Zb [0,1] ?_)
 refine J.seq (J.seq (J.region ?_))
 refine Zh 2 ?_
 obtain ⟨r1,q1,H⟩:=Zn H
 refine Ze (Zg [0,0,0,0,0,0,0,0,0,0,0,0] (Q93.spec q1) h0 rfl Zr) ?_
 rintro _ w1 ⟨_,⟨rfl,rfl⟩,h1⟩
 replace h1:=nf h1
 refine Zi [0,1,5] rfl ?_
 refine J.seq (Zb [0,1,5,10] ?_)
 refine jIf H (fun c1 H=>?_) fun c1 H=>?_
 ·refine J.seq (Zb [4] ?_)
  refine J.ret ?_
  cases H
  exact ⟨_,_,_,Za,⟨_,_,_,_,_,_,_,_,_,_,rfl,rfl⟩,Zc h1 [0,0,0,0,0,0,0,0,0,0,0,0]⟩
 refine J.skip (J.seq (J.region ?_))
 refine Zh 3 ?_
 refine Zf (Zd 0 h1.wht) ?_
 refine Zh 1 ?_
 obtain ⟨r2,q2,H⟩:=Zn H
 refine Ze (Zg [9,9,9] (Q78.spec q2) h1 rfl Zr) ?_
 rintro _ w2 ⟨_,⟨A6,c_6,rfl,rfl⟩,h2⟩
 replace h2:=nf h2
 refine Zi [4] rfl ?_
 refine J.ret ?_
 cases H
 exact ⟨_,_,_,Za,⟨_,_,_,_,_,_,_,_,_,_,rfl,rfl⟩,Zc h2 [3,3,3,3,3,3,3,3,3,0,0,0]⟩

def Q85.f (a0:(Int×Int×Int×Int×Int×Int×Int×Int)×((Int×List (Int)×(Int×Int))×(List (Int×List (Int)×Bool×Int))×(List (Int×Int))×List (Int)×((List (Int×Int×Bool))×Int))×((Int×Int×List (Int)))×Int) (a1:Int):Option (Int×((Int×Int×Int×Int×Int×Int×Int×Int)×((Int×List (Int)×(Int×Int))×(List (Int×List (Int)×Bool×Int))×(List (Int×Int))×List (Int)×((List (Int×Int×Bool))×Int))×((Int×Int×List (Int)))×Int)):=if (!decide (a1=0))=true then ((Q93.f a0 a1).bind fun r1=>(if (!decide (r1=0))=true then (some (r1,a0)) else ((Q92.f a0).bind fun r2=>(if (!decide (r2=0))=true then (some (r2,a0)) else (if (decide (a1=a0.2.2.2))=true then (some (r2,a0)) else ((Q18.f a0.2.1 a1).bind fun r3=>(if (!decide (r3.1=0))=true then (some (r3.1,(a0.1,r3.2,a0.2.2.1,a0.2.2.2))) else (if (!decide (a0.2.2.2=0))=true then ((Q20.f r3.2 a0.2.2.2).bind fun r4=>(some (0,(a0.1,r4.2,a0.2.2.1,a1)))) else (some (0,(a0.1,r3.2,a0.2.2.1,a1))))))))))) else ((Q92.f a0).bind fun r5=>(if (!decide (r5=0))=true then (some (r5,a0)) else (if (decide (a1=a0.2.2.2))=true then (some (r5,a0)) else (if (!decide (a0.2.2.2=0))=true then ((Q20.f a0.2.1 a0.2.2.2).bind fun r6=>(some (0,(a0.1,r6.2,a0.2.2.1,a1)))) else (some (0,(a0.1,a0.2.1,a0.2.2.1,a1)))))))
theorem Q85.spec {a0:(Int×Int×Int×Int×Int×Int×Int×Int)×((Int×List (Int)×(Int×Int))×(List (Int×List (Int)×Bool×Int))×(List (Int×Int))×List (Int)×((List (Int×Int×Bool))×Int))×((Int×Int×List (Int)))×Int} {a1:Int} {b1:Nat} {b2:Nat} {b3:Nat} {b4:Nat} {b5:Nat} {b6:Nat} {b7:Nat} {A1:Option Addr} {c_1:Nat} {A2:Option Addr} {c_2:Nat} {A3:Option Addr} {c_3:Nat} {A4:Option Addr} {c_4:Nat} {A5:Option Addr} {c_5:Nat} {r:Int×((Int×Int×Int×Int×Int×Int×Int×Int)×((Int×List (Int)×(Int×Int))×(List (Int×List (Int)×Bool×Int))×(List (Int×Int))×List (Int)×((List (Int×Int×Bool))×Int))×((Int×Int×List (Int)))×Int)} (H:Q85.f a0 a1=some r) :
  Spec Tryz.prog 43 [.pointer (some ⟨b1,0,none⟩),.int .u32 a1] [X83 b1 a0.1.1 a0.1.2.1 a0.1.2.2.1 a0.1.2.2.2.1 a0.1.2.2.2.2.1 a0.1.2.2.2.2.2.1 a0.1.2.2.2.2.2.2.1 a0.1.2.2.2.2.2.2.2 (.pointer (some ⟨b3,0,none⟩)) (.pointer (some ⟨b2,0,none⟩)) (.pointer (some ⟨b6,0,none⟩)) a0.2.2.2,Yh b2 (.pointer (some ⟨b3,0,none⟩)) a0.2.1.2.1 A2 c_2 (.map (some b4)) a0.2.1.2.2.2.1 A3 c_3 (.pointer (some ⟨b5,0,none⟩)),Yb b3 a0.2.1.1.1 a0.2.1.1.2.1 A1 c_1 a0.2.1.1.2.2.1 a0.2.1.1.2.2.2,O5 a0.2.1.1.2.1 A1 c_1,Yg a0.2.1.2.1 A2 c_2,Yc .u32 (Value.int .i64) b4 a0.2.1.2.2.1,O3 a0.2.1.2.2.2.1 A3 c_3,Z7 b5 a0.2.1.2.2.2.2.1 A4 c_4 a0.2.1.2.2.2.2.2,Z8 a0.2.1.2.2.2.2.1 A4 c_4,Yw b6 (.pointer (some ⟨b7,0,none⟩)),Yk b7 a0.2.2.1.1 a0.2.2.1.2.1 a0.2.2.1.2.2 A5 c_5,O61 a0.2.2.1.2.2 A5 c_5] [] (fun v l=>∃(A_0:Option Addr) (c_0:Nat) (A_1:Option Addr) (c_1:Nat) (A_2:Option Addr) (c_2:Nat) (A_3:Option Addr) (c_3:Nat) (A_4:Option Addr) (c_4:Nat),v=.int .i64 r.1∧l=[X83 b1 r.2.1.1 r.2.1.2.1 r.2.1.2.2.1 r.2.1.2.2.2.1 r.2.1.2.2.2.2.1 r.2.1.2.2.2.2.2.1 r.2.1.2.2.2.2.2.2.1 r.2.1.2.2.2.2.2.2.2 (.pointer (some ⟨b3,0,none⟩)) (.pointer (some ⟨b2,0,none⟩)) (.pointer (some ⟨b6,0,none⟩)) r.2.2.2.2,Yh b2 (.pointer (some ⟨b3,0,none⟩)) r.2.2.1.2.1 A_1 c_1 (.map (some b4)) r.2.2.1.2.2.2.1 A_2 c_2 (.pointer (some ⟨b5,0,none⟩)),Yb b3 r.2.2.1.1.1 r.2.2.1.1.2.1 A_0 c_0 r.2.2.1.1.2.2.1 r.2.2.1.1.2.2.2,O5 r.2.2.1.1.2.1 A_0 c_0,Yg r.2.2.1.2.1 A_1 c_1,Yc .u32 (Value.int .i64) b4 r.2.2.1.2.2.1,O3 r.2.2.1.2.2.2.1 A_2 c_2,Z7 b5 r.2.2.1.2.2.2.2.1 A_3 c_3 r.2.2.1.2.2.2.2.2,Z8 r.2.2.1.2.2.2.2.1 A_3 c_3,Yw b6 (.pointer (some ⟨b7,0,none⟩)),Yk b7 r.2.2.2.1.1 r.2.2.2.1.2.1 r.2.2.2.1.2.2 A_4 c_4,O61 r.2.2.2.1.2.2 A_4 c_4]):=by
 refine Zo Tryz.func43 fun w0 F0 h0=>?_
 unfold Q85.f at H
 refine J.seq (Zb [0,1] ?_)
 refine J.seq (J.seq (Zb [0,1,9] ?_))
 refine jIf H (fun c1 H=>?_) fun c1 H=>?_
 ·refine J.seq (J.region ?_)
  refine Zh 2 ?_
  obtain ⟨r1,q1,H⟩:=Zn H
  refine Ze (Zg [0,0,0,0,0,0,0,0,0,0,0,0] (Q93.spec q1) h0 rfl Zr) ?_
  rintro _ w1 ⟨_,⟨rfl,rfl⟩,h1⟩
  replace h1:=nf h1
  refine Zi [0,1,5] rfl ?_
  refine J.seq (Zb [0,1,5,14] ?_)
  refine jIf H (fun c2 H=>?_) fun c2 H=>?_
  ·refine J.seq (Zb [4] ?_)
   refine J.ret ?_
   cases H
   exact ⟨_,_,_,Za,⟨_,_,_,_,_,_,_,_,_,_,rfl,rfl⟩,Zc h1 [0,0,0,0,0,0,0,0,0,0,0,0]⟩
  refine J.skip (J.seq (J.seq (J.region ?_)))
  refine Zh 1 ?_
  obtain ⟨r2,q2,H⟩:=Zn H
  refine Ze (Zg [0,0,0,0,0,0,0,0,0,0,0,0] (Q92.spec q2) h1 rfl Zr) ?_
  rintro _ w2 ⟨_,⟨rfl,rfl⟩,h2⟩
  replace h2:=nf h2
  refine Zi [0,1,6] rfl ?_
  refine J.seq (J.region ?_)
  refine Zh 3 ?_
  refine Yj 20 H (fun c3 H=>?_) fun c3 H=>?_
  ·refine Zi [0,1,6,27] rfl ?_
   refine Zt ?_
   refine J.seq (Zb [4] ?_)
   refine J.ret ?_
   cases H
   exact ⟨_,_,_,Za,⟨_,_,_,_,_,_,_,_,_,_,rfl,rfl⟩,Zc h2 [0,0,0,0,0,0,0,0,0,0,0,0]⟩
  refine Zh 4 ?_
  refine Zf (Zd 0 h2.wht) ?_
  refine Zi [0,1,6,27] rfl ?_
  refine jIf H (fun c4 H=>?_) fun c4 H=>?_
  ·refine J.seq (Zb [4] ?_)
   refine J.ret ?_
   cases H
   exact ⟨_,_,_,Za,⟨_,_,_,_,_,_,_,_,_,_,rfl,rfl⟩,Zc h2 [0,0,0,0,0,0,0,0,0,0,0,0]⟩
  refine J.skip (J.seq (J.seq (Zb [0,1,30] ?_)))
  refine J.cond rfl (fun e=>?_) (fun e=>by rw [c1] at e; cases e)
  refine J.seq (J.region ?_)
  refine Zh 3 ?_
  refine Zf (Zd 0 h2.wht) ?_
  refine Zh 1 ?_
  obtain ⟨r3,q3,H⟩:=Zn H
  refine Ze (Zg [1,1,1,1,1,1,1,1] (Q18.spec q3) h2 rfl Zr) ?_
  rintro _ w3 ⟨_,⟨A6,c_6,A7,c_7,A8,c_8,A9,c_9,rfl,rfl⟩,h3⟩
  replace h3:=nf h3
  refine Zi [0,1,7] rfl ?_
  refine J.seq (Zb [0,1,7,38] ?_)
  refine jIf H (fun c5 H=>?_) fun c5 H=>?_
  ·refine J.seq (Zb [4] ?_)
   refine J.ret ?_
   cases H
   exact ⟨_,_,_,Za,⟨_,_,_,_,_,_,_,_,_,_,rfl,rfl⟩,Zc h3 [8,0,0,0,0,0,0,0,0,0,0,0]⟩
  refine J.skip (J.seq (J.seq (J.region ?_)))
  refine Zh 3 ?_
  refine Zf (Zd 8 h3.wht) ?_
  refine Zi [0,1,44] rfl ?_
  refine jIf H (fun c6 H=>?_) fun c6 H=>?_
  ·refine Zu (Zc h3 [8,8,8,8]) ?_
   have h4:=h3.drew
   refine Zv [0,1,2,4,5,6] ?_
   refine Zj 3 rfl (Zd 0 wI) ?_
   refine Zj 7 rfl (Zd 0 wI) ?_
   obtain ⟨r4,q4,H⟩:=Zn H
   refine Zp 8 rfl (Zg [0,0,0,0,0,0,0,0] (Q20.spec q4) h4 rfl Zr) ?_
   rintro _ w4 ⟨_,⟨A10,c_10,A11,c_11,A12,c_12,A13,c_13,rfl,rfl⟩,h5⟩
   replace h5:=nf h5
   refine ⟨⟨[_,_,_,_,_,_,_,_],h5⟩,?_⟩
   refine Z0 [0,1] ?_
   refine J.seq (J.region ?_)
   refine Zh 4 ?_
   refine Ze (Z3 8 h5) ?_
   intro _ w5 h6
   replace h6:=nf h6
   refine Zi [] rfl ?_
   refine J.seq (Zb [4] ?_)
   refine J.ret ?_
   cases H
   exact ⟨_,_,_,Za,⟨_,_,_,_,_,_,_,_,_,_,rfl,rfl⟩,Zc h6 [0,0,0,0,0,0,0,0,0,0,0,0]⟩
  refine J.skip (J.seq (J.region ?_))
  refine Zh 4 ?_
  refine Ze (Z3 8 h3) ?_
  intro _ w6 h7
  replace h7:=nf h7
  refine Zi [] rfl ?_
  refine J.seq (Zb [4] ?_)
  refine J.ret ?_
  cases H
  exact ⟨_,_,_,Za,⟨_,_,_,_,_,_,_,_,_,_,rfl,rfl⟩,Zc h7 [0,0,0,0,0,0,0,0,0,0,0,0]⟩
 refine J.skip (J.seq (J.seq (J.region ?_)))
 refine Zh 1 ?_
 obtain ⟨r5,q5,H⟩:=Zn H
 refine Ze (Zg [0,0,0,0,0,0,0,0,0,0,0,0] (Q92.spec q5) h0 rfl Zr) ?_
 rintro _ w7 ⟨_,⟨rfl,rfl⟩,h8⟩
 replace h8:=nf h8
 refine Zi [0,1,6] rfl ?_
 refine J.seq (J.region ?_)
 refine Zh 3 ?_
 refine Yj 20 H (fun c7 H=>?_) fun c7 H=>?_
 ·refine Zi [0,1,6,27] rfl ?_
  refine Zt ?_
  refine J.seq (Zb [4] ?_)
  refine J.ret ?_
  cases H
  exact ⟨_,_,_,Za,⟨_,_,_,_,_,_,_,_,_,_,rfl,rfl⟩,Zc h8 [0,0,0,0,0,0,0,0,0,0,0,0]⟩
 refine Zh 4 ?_
 refine Zf (Zd 0 h8.wht) ?_
 refine Zi [0,1,6,27] rfl ?_
 refine jIf H (fun c8 H=>?_) fun c8 H=>?_
 ·refine J.seq (Zb [4] ?_)
  refine J.ret ?_
  cases H
  exact ⟨_,_,_,Za,⟨_,_,_,_,_,_,_,_,_,_,rfl,rfl⟩,Zc h8 [0,0,0,0,0,0,0,0,0,0,0,0]⟩
 refine J.skip (J.seq (J.seq (Zb [0,1,30] ?_)))
 refine J.cond rfl (fun e=>by rw [c1] at e; cases e) (fun e=>?_)
 refine J.skip (J.seq (J.seq (J.region ?_)))
 refine Zh 3 ?_
 refine Zf (Zd 0 h8.wht) ?_
 refine Zi [0,1,44] rfl ?_
 refine jIf H (fun c9 H=>?_) fun c9 H=>?_
 ·refine Zu (Zc h8 [0,8,8,8]) ?_
  have h9:=h8.drew
  refine Zv [0,1,2,4,5,6] ?_
  refine Zj 3 rfl (Zd 0 wI) ?_
  refine Zj 7 rfl (Zd 0 wI) ?_
  obtain ⟨r6,q6,H⟩:=Zn H
  refine Zp 8 rfl (Zg [1,1,1,1,1,1,1,1] (Q20.spec q6) h9 rfl Zr) ?_
  rintro _ w8 ⟨_,⟨A14,c_14,A15,c_15,A16,c_16,A17,c_17,rfl,rfl⟩,h10⟩
  replace h10:=nf h10
  refine ⟨⟨[_,_,_,_,_,_,_,_],h10⟩,?_⟩
  refine Z0 [0,1] ?_
  refine J.seq (J.region ?_)
  refine Zh 4 ?_
  refine Ze (Z3 8 h10) ?_
  intro _ w9 h11
  replace h11:=nf h11
  refine Zi [] rfl ?_
  refine J.seq (Zb [4] ?_)
  refine J.ret ?_
  cases H
  exact ⟨_,_,_,Za,⟨_,_,_,_,_,_,_,_,_,_,rfl,rfl⟩,Zc h11 [0,0,0,0,0,0,0,0,0,0,0,0]⟩
 refine J.skip (J.seq (J.region ?_))
 refine Zh 4 ?_
 refine Ze (Z3 0 h8) ?_
 intro _ w10 h12
 replace h12:=nf h12
 refine Zi [] rfl ?_
 refine J.seq (Zb [4] ?_)
 refine J.ret ?_
 cases H
 exact ⟨_,_,_,Za,⟨_,_,_,_,_,_,_,_,_,_,rfl,rfl⟩,Zc h12 [0,0,0,0,0,0,0,0,0,0,0,0]⟩

end Go.SK.T
