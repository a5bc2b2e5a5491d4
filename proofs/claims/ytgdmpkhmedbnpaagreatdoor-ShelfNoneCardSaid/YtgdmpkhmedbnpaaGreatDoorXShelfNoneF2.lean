/- The functions, further. -/
import Derived.Test.YtgdmpkhmedbnpaaGreatDoorXShelfNoneF1
set_option linter.unusedVariables false
set_option linter.unusedSimpArgs false
set_option maxRecDepth 20000
set_option maxHeartbeats 40000000
namespace Go.SK.T
open Go Go.SK Go.Proofs
def Q18.f (a0:(Int×List (Int)×(Int×Int))×(List (Int×List (Int)×Bool×Int))×(List (Int×Int))×List (Int)×((List (Int×Int×Bool))×Int)) (a1:Int) (a2:List (Int)):Option (Int×((Int×List (Int)×(Int×Int))×(List (Int×List (Int)×Bool×Int))×(List (Int×Int))×List (Int)×((List (Int×Int×Bool))×Int))):=(Q20.f a0).bind fun r1=>(if r1=true then (some (1,a0)) else (if (!(Xe a0.2.2.1 a1))=true then (some (8,a0)) else (if 0≤(Zy (0:Int) a0.2.2.1 a1)∧(Zy (0:Int) a0.2.2.1 a1)<(a0.2.1.length:Int) then (if (decide (((gt a0.2.1 (Zy (0:Int) a0.2.2.1 a1)).2.2.2)=0))=true then (some (8,a0)) else ((Q51.f a0.1).bind fun r2=>(if (!decide ((a2.length:Int)=r2))=true then (some (3,a0)) else ((Q102.f a2).bind fun r3=>(some (0,(a0.1,((a0.2.1.set (Zy (0:Int) a0.2.2.1 a1).toNat ((gt a0.2.1 (Zy (0:Int) a0.2.2.1 a1)).1,r3,(gt a0.2.1 (Zy (0:Int) a0.2.2.1 a1)).2.2.1,(gt a0.2.1 (Zy (0:Int) a0.2.2.1 a1)).2.2.2)).set (Zy (0:Int) a0.2.2.1 a1).toNat ((gt (a0.2.1.set (Zy (0:Int) a0.2.2.1 a1).toNat ((gt a0.2.1 (Zy (0:Int) a0.2.2.1 a1)).1,r3,(gt a0.2.1 (Zy (0:Int) a0.2.2.1 a1)).2.2.1,(gt a0.2.1 (Zy (0:Int) a0.2.2.1 a1)).2.2.2)) (Zy (0:Int) a0.2.2.1 a1)).1,(gt (a0.2.1.set (Zy (0:Int) a0.2.2.1 a1).toNat ((gt a0.2.1 (Zy (0:Int) a0.2.2.1 a1)).1,r3,(gt a0.2.1 (Zy (0:Int) a0.2.2.1 a1)).2.2.1,(gt a0.2.1 (Zy (0:Int) a0.2.2.1 a1)).2.2.2)) (Zy (0:Int) a0.2.2.1 a1)).2.1,true,(gt (a0.2.1.set (Zy (0:Int) a0.2.2.1 a1).toNat ((gt a0.2.1 (Zy (0:Int) a0.2.2.1 a1)).1,r3,(gt a0.2.1 (Zy (0:Int) a0.2.2.1 a1)).2.2.1,(gt a0.2.1 (Zy (0:Int) a0.2.2.1 a1)).2.2.2)) (Zy (0:Int) a0.2.2.1 a1)).2.2.2)),a0.2.2.1,a0.2.2.2.1,a0.2.2.2.2))))))) else none)))
theorem Q18.spec {a0:(Int×List (Int)×(Int×Int))×(List (Int×List (Int)×Bool×Int))×(List (Int×Int))×List (Int)×((List (Int×Int×Bool))×Int)} {a1:Int} {a2:List (Int)} {A5:Option Addr} {c_5:Nat} {b1:Nat} {b2:Nat} {b3:Nat} {b4:Nat} {A1:Option Addr} {c_1:Nat} {A2:Option Addr} {c_2:Nat} {A3:Option Addr} {c_3:Nat} {A4:Option Addr} {c_4:Nat} {r:Int×((Int×List (Int)×(Int×Int))×(List (Int×List (Int)×Bool×Int))×(List (Int×Int))×List (Int)×((List (Int×Int×Bool))×Int))} (H:Q18.f a0 a1 a2=some r) :
  Spec Tryz.prog 139 [.pointer (some ⟨b1,0,none⟩),.int .u32 a1,.slice A5 a2.length c_5] [Yp b1 (.pointer (some ⟨b2,0,none⟩)) a0.2.1 A2 c_2 (.map (some b3)) a0.2.2.2.1 A3 c_3 (.pointer (some ⟨b4,0,none⟩)),Yi b2 a0.1.1 a0.1.2.1 A1 c_1 a0.1.2.2.1 a0.1.2.2.2,O5 a0.1.2.1 A1 c_1,Yo a0.2.1 A2 c_2,Yj .u32 (Value.int .i64) b3 a0.2.2.1,O3 a0.2.2.2.1 A3 c_3,Ya b4 a0.2.2.2.2.1 A4 c_4 a0.2.2.2.2.2,Yb a0.2.2.2.2.1 A4 c_4] [R5 a2 A5 c_5] (fun v l=>∃(A_0:Option Addr) (c_0:Nat) (A_1:Option Addr) (c_1:Nat) (A_2:Option Addr) (c_2:Nat) (A_3:Option Addr) (c_3:Nat),v=.int .i64 r.1∧l=[Yp b1 (.pointer (some ⟨b2,0,none⟩)) r.2.2.1 A_1 c_1 (.map (some b3)) r.2.2.2.2.1 A_2 c_2 (.pointer (some ⟨b4,0,none⟩)),Yi b2 r.2.1.1 r.2.1.2.1 A_0 c_0 r.2.1.2.2.1 r.2.1.2.2.2,O5 r.2.1.2.1 A_0 c_0,Yo r.2.2.1 A_1 c_1,Yj .u32 (Value.int .i64) b3 r.2.2.2.1,O3 r.2.2.2.2.1 A_2 c_2,Ya b4 r.2.2.2.2.2.1 A_3 c_3 r.2.2.2.2.2.2,Yb r.2.2.2.2.2.1 A_3 c_3]):=by
 refine Zp Tryz.func139 fun w0 F0 h0=>?_
 unfold Q18.f at H
 refine J.seq (Zc [0,1,2] ?_)
 refine J.seq (J.region ?_)
 refine Zh 2 ?_
 refine Z1 Tryz.func128 ?_
 refine J.seq (Zc [0,1] ?_)
 refine J.seq (J.seq (J.region ?_))
 refine Zh 1 ?_
 obtain ⟨r1,q1,H⟩:=Zn H
 refine Ze (Zf [0,0,0,0,0,0,0,0] (Q20.spec q1) h0 rfl Zs) ?_
 rintro _ w1 ⟨_,⟨rfl,rfl⟩,h1⟩
 replace h1:=nf h1
 refine Zi [0,1,9] rfl ?_
 refine jIf H (fun c1 H=>?_) fun c1 H=>?_
 ·refine J.seq (Zc [4,5] ?_)
  refine J.ret (⟨_,Za,?_⟩)
  refine Zi [0,2,7,8] rfl ?_
  refine J.seq (J.block (J.seq (Zc [0,2,7,8,15] ?_)))
  refine Zo ?_
  refine J.seq (Zc [6] ?_)
  refine J.ret ?_
  cases H
  exact ⟨_,_,_,Za,⟨_,_,_,_,_,_,_,_,rfl,rfl⟩,Zb h1 [0,0,0,0,0,0,0,0]⟩
 refine J.skip (J.seq (J.region ?_))
 refine Zh 3 ?_
 refine Zg (Zd 0 h1.wht) ?_
 refine Zh 1 ?_
 refine Zg (Xs (0:Int) 4 h1.wht) ?_
 refine Zi [0,6,7] rfl ?_
 refine J.seq (J.seq (J.region ?_))
 refine Zh 3 ?_
 refine Z7 21 H (fun c2 H=>?_) fun c2 H=>?_
 ·refine Zi [0,6,31] rfl ?_
  refine Zo ?_
  refine J.seq (Zc [4,5] ?_)
  refine J.ret (⟨_,Za,?_⟩)
  refine Zi [0,2,7,8] rfl ?_
  refine J.seq (J.block (J.seq (Zc [0,2,7,8,15] ?_)))
  refine Zo ?_
  refine J.seq (Zc [6] ?_)
  refine J.ret ?_
  cases H
  exact ⟨_,_,_,Za,⟨_,_,_,_,_,_,_,_,rfl,rfl⟩,Zb h1 [0,0,0,0,0,0,0,0]⟩
 refine Zh 3 ?_
 refine Zg (Zd 0 h1.wht) ?_
 refine Zh 1 ?_
 obtain ⟨⟨p1,p2⟩,H⟩:=Zt H
 have e1:=Z6 h1.wh (gO 3) p1 p2
 refine Zg (Zk e1 p1 p2) ?_
 refine Zh 1 ?_
 refine Zg (Yx 3 h1.wht (gO 3) p1 p2) ?_
 refine Zi [0,6,31] rfl ?_
 refine jIf H (fun c3 H=>?_) fun c3 H=>?_
 ·refine J.seq (Zc [4,5] ?_)
  refine J.ret (⟨_,Za,?_⟩)
  refine Zi [0,2,7,8] rfl ?_
  refine J.seq (J.block (J.seq (Zc [0,2,7,8,15] ?_)))
  refine Zo ?_
  refine J.seq (Zc [6] ?_)
  refine J.ret ?_
  cases H
  exact ⟨_,_,_,Za,⟨_,_,_,_,_,_,_,_,rfl,rfl⟩,Zb h1 [0,0,0,0,0,0,0,0]⟩
 refine J.skip (J.seq (J.region ?_))
 refine Zh 3 ?_
 refine Zg (Zd 0 h1.wht) ?_
 refine Zh 1 ?_
 refine Zg (Zk e1 p1 p2) ?_
 refine Zi [4,5] rfl ?_
 refine J.ret (⟨_,Za,?_⟩)
 refine Zi [0,2,7,8] rfl ?_
 refine J.seq (J.block (J.seq (Zc [0,2,7,8,15] ?_)))
 refine Zz ?_
 refine J.seq (J.region ?_)
 refine Zh 5 ?_
 refine Zg (Zd 0 h1.wht) ?_
 obtain ⟨r2,q2,H⟩:=Zn H
 refine Ze (Zf [1,1] (Q51.spec q2) h1 rfl Zs) ?_
 rintro _ w2 ⟨_,⟨rfl,rfl⟩,h2⟩
 replace h2:=nf h2
 refine Zi [2,7,19] rfl ?_
 refine jIf H (fun c4 H=>?_) fun c4 H=>?_
 ·refine J.seq (Zc [6] ?_)
  refine J.ret ?_
  cases H
  exact ⟨_,_,_,Za,⟨_,_,_,_,_,_,_,_,rfl,rfl⟩,Zb h2 [2,0,0,0,0,0,0,0]⟩
 refine J.skip (J.seq (J.region ?_))
 refine Zh 3 ?_
 obtain ⟨r3,q3,H⟩:=Zn H
 refine Ze (Zf [] (Q102.spec q3) h2 rfl (Z0 (Zm 8) Zs)) ?_
 rintro _ w3 ⟨_,⟨A6,c_6,rfl,rfl⟩,h3⟩
 replace h3:=nf h3
 refine Zh 2 ?_
 have h4:=(h3.only [4,0,0,0,0,0,0,0,0] rfl).both
 refine Ze (Xy 1 (.pair (.int .u32) (.pair (.slice 5 (.int .u8)) (.pair .bool (.int .i64)))) (Zy (0:Int) a0.2.2.1 a1) ((gt a0.2.1 (Zy (0:Int) a0.2.2.1 a1)).1,r3,(gt a0.2.1 (Zy (0:Int) a0.2.2.1 a1)).2.2.1,(gt a0.2.1 (Zy (0:Int) a0.2.2.1 a1)).2.2.2) h4 p1 p2 Zcn) ?_
 intro _ w4 h5
 replace h5:=nf h5
 replace h5:St w0 F0 [Yo (a0.2.1.set (Zy (0:Int) a0.2.2.1 a1).toNat ((gt a0.2.1 (Zy (0:Int) a0.2.2.1 a1)).1,r3,(gt a0.2.1 (Zy (0:Int) a0.2.2.1 a1)).2.2.1,(gt a0.2.1 (Zy (0:Int) a0.2.2.1 a1)).2.2.2)) A2 c_2,Yi b2 a0.1.1 a0.1.2.1 A1 c_1 a0.1.2.2.1 a0.1.2.2.2,O5 a0.1.2.1 A1 c_1,Yp b1 (.pointer (some ⟨b2,0,none⟩)) (a0.2.1.set (Zy (0:Int) a0.2.2.1 a1).toNat ((gt a0.2.1 (Zy (0:Int) a0.2.2.1 a1)).1,r3,(gt a0.2.1 (Zy (0:Int) a0.2.2.1 a1)).2.2.1,(gt a0.2.1 (Zy (0:Int) a0.2.2.1 a1)).2.2.2)) A2 c_2 (.map (some b3)) a0.2.2.2.1 A3 c_3 (.pointer (some ⟨b4,0,none⟩)),Yj .u32 (Value.int .i64) b3 a0.2.2.1,O3 a0.2.2.2.1 A3 c_3,Ya b4 a0.2.2.2.2.1 A4 c_4 a0.2.2.2.2.2,Yb a0.2.2.2.2.1 A4 c_4] _ _:=h5.retell (by simp only [List.length_set,List.length_nil,Yo,Yb,O3,O5,Yi,Yp,Ya] <;> rfl)
 refine Zh 2 ?_
 refine Ze (Xu 2 (.pair (.int .u32) (.pair (.slice 5 (.int .u8)) (.pair .bool (.int .i64)))) (Zy (0:Int) a0.2.2.1 a1) ((gt (a0.2.1.set (Zy (0:Int) a0.2.2.1 a1).toNat ((gt a0.2.1 (Zy (0:Int) a0.2.2.1 a1)).1,r3,(gt a0.2.1 (Zy (0:Int) a0.2.2.1 a1)).2.2.1,(gt a0.2.1 (Zy (0:Int) a0.2.2.1 a1)).2.2.2)) (Zy (0:Int) a0.2.2.1 a1)).1,(gt (a0.2.1.set (Zy (0:Int) a0.2.2.1 a1).toNat ((gt a0.2.1 (Zy (0:Int) a0.2.2.1 a1)).1,r3,(gt a0.2.1 (Zy (0:Int) a0.2.2.1 a1)).2.2.1,(gt a0.2.1 (Zy (0:Int) a0.2.2.1 a1)).2.2.2)) (Zy (0:Int) a0.2.2.1 a1)).2.1,true,(gt (a0.2.1.set (Zy (0:Int) a0.2.2.1 a1).toNat ((gt a0.2.1 (Zy (0:Int) a0.2.2.1 a1)).1,r3,(gt a0.2.1 (Zy (0:Int) a0.2.2.1 a1)).2.2.1,(gt a0.2.1 (Zy (0:Int) a0.2.2.1 a1)).2.2.2)) (Zy (0:Int) a0.2.2.1 a1)).2.2.2) 0 h5 rfl p1 (by simpa only [List.length_set] using p2) (Vw rfl rfl)) ?_
 intro _ w5 h6
 replace h6:=nf h6
 replace h6:St w0 F0 [Yo ((a0.2.1.set (Zy (0:Int) a0.2.2.1 a1).toNat ((gt a0.2.1 (Zy (0:Int) a0.2.2.1 a1)).1,r3,(gt a0.2.1 (Zy (0:Int) a0.2.2.1 a1)).2.2.1,(gt a0.2.1 (Zy (0:Int) a0.2.2.1 a1)).2.2.2)).set (Zy (0:Int) a0.2.2.1 a1).toNat ((gt (a0.2.1.set (Zy (0:Int) a0.2.2.1 a1).toNat ((gt a0.2.1 (Zy (0:Int) a0.2.2.1 a1)).1,r3,(gt a0.2.1 (Zy (0:Int) a0.2.2.1 a1)).2.2.1,(gt a0.2.1 (Zy (0:Int) a0.2.2.1 a1)).2.2.2)) (Zy (0:Int) a0.2.2.1 a1)).1,(gt (a0.2.1.set (Zy (0:Int) a0.2.2.1 a1).toNat ((gt a0.2.1 (Zy (0:Int) a0.2.2.1 a1)).1,r3,(gt a0.2.1 (Zy (0:Int) a0.2.2.1 a1)).2.2.1,(gt a0.2.1 (Zy (0:Int) a0.2.2.1 a1)).2.2.2)) (Zy (0:Int) a0.2.2.1 a1)).2.1,true,(gt (a0.2.1.set (Zy (0:Int) a0.2.2.1 a1).toNat ((gt a0.2.1 (Zy (0:Int) a0.2.2.1 a1)).1,r3,(gt a0.2.1 (Zy (0:Int) a0.2.2.1 a1)).2.2.1,(gt a0.2.1 (Zy (0:Int) a0.2.2.1 a1)).2.2.2)) (Zy (0:Int) a0.2.2.1 a1)).2.2.2)) A2 c_2,Yi b2 a0.1.1 a0.1.2.1 A1 c_1 a0.1.2.2.1 a0.1.2.2.2,O5 a0.1.2.1 A1 c_1,Yp b1 (.pointer (some ⟨b2,0,none⟩)) ((a0.2.1.set (Zy (0:Int) a0.2.2.1 a1).toNat ((gt a0.2.1 (Zy (0:Int) a0.2.2.1 a1)).1,r3,(gt a0.2.1 (Zy (0:Int) a0.2.2.1 a1)).2.2.1,(gt a0.2.1 (Zy (0:Int) a0.2.2.1 a1)).2.2.2)).set (Zy (0:Int) a0.2.2.1 a1).toNat ((gt (a0.2.1.set (Zy (0:Int) a0.2.2.1 a1).toNat ((gt a0.2.1 (Zy (0:Int) a0.2.2.1 a1)).1,r3,(gt a0.2.1 (Zy (0:Int) a0.2.2.1 a1)).2.2.1,(gt a0.2.1 (Zy (0:Int) a0.2.2.1 a1)).2.2.2)) (Zy (0:Int) a0.2.2.1 a1)).1,(gt (a0.2.1.set (Zy (0:Int) a0.2.2.1 a1).toNat ((gt a0.2.1 (Zy (0:Int) a0.2.2.1 a1)).1,r3,(gt a0.2.1 (Zy (0:Int) a0.2.2.1 a1)).2.2.1,(gt a0.2.1 (Zy (0:Int) a0.2.2.1 a1)).2.2.2)) (Zy (0:Int) a0.2.2.1 a1)).2.1,true,(gt (a0.2.1.set (Zy (0:Int) a0.2.2.1 a1).toNat ((gt a0.2.1 (Zy (0:Int) a0.2.2.1 a1)).1,r3,(gt a0.2.1 (Zy (0:Int) a0.2.2.1 a1)).2.2.1,(gt a0.2.1 (Zy (0:Int) a0.2.2.1 a1)).2.2.2)) (Zy (0:Int) a0.2.2.1 a1)).2.2.2)) A2 c_2 (.map (some b3)) a0.2.2.2.1 A3 c_3 (.pointer (some ⟨b4,0,none⟩)),Yj .u32 (Value.int .i64) b3 a0.2.2.1,O3 a0.2.2.2.1 A3 c_3,Ya b4 a0.2.2.2.2.1 A4 c_4 a0.2.2.2.2.2,Yb a0.2.2.2.2.1 A4 c_4] _ _:=h6.retell (by simp only [List.length_set,List.length_nil,Yo,Yb,O3,O5,Yi,Yp,Ya] <;> rfl)
 refine Zi [] rfl ?_
 refine J.seq (Zc [6] ?_)
 refine J.ret ?_
 cases H
 exact ⟨_,_,_,Za,⟨_,_,_,_,_,_,_,_,rfl,rfl⟩,Zb h6 [3,1,1,0,0,0,0,0]⟩

def Q22.f (a0:(Int×List (Int)×(Int×Int))×(List (Int×List (Int)×Bool×Int))×(List (Int×Int))×List (Int)×((List (Int×Int×Bool))×Int)) (a1:Int):Option (Int):=(Q20.f a0).bind fun r1=>(if r1=true then (some 1) else ((Q50.f a0.1).bind fun r2=>(if (decide (r2≤(w64 (a1))))=true then (some 4) else (some 0))))
theorem Q22.spec {a0:(Int×List (Int)×(Int×Int))×(List (Int×List (Int)×Bool×Int))×(List (Int×Int))×List (Int)×((List (Int×Int×Bool))×Int)} {a1:Int} {b1:Nat} {b2:Nat} {b3:Nat} {b4:Nat} {A1:Option Addr} {c_1:Nat} {A2:Option Addr} {c_2:Nat} {A3:Option Addr} {c_3:Nat} {A4:Option Addr} {c_4:Nat} {r:Int} (H:Q22.f a0 a1=some r) :
  Spec Tryz.prog 124 [.pointer (some ⟨b1,0,none⟩),.int .u32 a1] [Yp b1 (.pointer (some ⟨b2,0,none⟩)) a0.2.1 A2 c_2 (.map (some b3)) a0.2.2.2.1 A3 c_3 (.pointer (some ⟨b4,0,none⟩)),Yi b2 a0.1.1 a0.1.2.1 A1 c_1 a0.1.2.2.1 a0.1.2.2.2,O5 a0.1.2.1 A1 c_1,Yo a0.2.1 A2 c_2,Yj .u32 (Value.int .i64) b3 a0.2.2.1,O3 a0.2.2.2.1 A3 c_3,Ya b4 a0.2.2.2.2.1 A4 c_4 a0.2.2.2.2.2,Yb a0.2.2.2.2.1 A4 c_4] [] (fun v l=>v=.int .i64 r∧l=[Yp b1 (.pointer (some ⟨b2,0,none⟩)) a0.2.1 A2 c_2 (.map (some b3)) a0.2.2.2.1 A3 c_3 (.pointer (some ⟨b4,0,none⟩)),Yi b2 a0.1.1 a0.1.2.1 A1 c_1 a0.1.2.2.1 a0.1.2.2.2,O5 a0.1.2.1 A1 c_1,Yo a0.2.1 A2 c_2,Yj .u32 (Value.int .i64) b3 a0.2.2.1,O3 a0.2.2.2.1 A3 c_3,Ya b4 a0.2.2.2.2.1 A4 c_4 a0.2.2.2.2.2,Yb a0.2.2.2.2.1 A4 c_4]):=by
 refine Zp Tryz.func124 fun w0 F0 h0=>?_
 unfold Q22.f at H
 refine J.seq (Zc [0,1] ?_)
 refine J.seq (J.block (J.seq (J.region ?_)))
 refine Zh 1 ?_
 obtain ⟨r1,q1,H⟩:=Zn H
 refine Ze (Zf [0,0,0,0,0,0,0,0] (Q20.spec q1) h0 rfl Zs) ?_
 rintro _ w1 ⟨_,⟨rfl,rfl⟩,h1⟩
 replace h1:=nf h1
 refine Zi [0,1,5] rfl ?_
 refine jIf H (fun c1 H=>?_) fun c1 H=>?_
 ·refine J.seq (Zc [4] ?_)
  refine J.ret ?_
  cases H
  exact ⟨_,_,_,Za,⟨rfl,rfl⟩,Zb h1 [0,0,0,0,0,0,0,0]⟩
 refine J.seq (J.region ?_)
 refine Zh 5 ?_
 refine Zg (Zd 0 h1.wht) ?_
 obtain ⟨r2,q2,H⟩:=Zn H
 refine Ze (Zf [1,1] (Q50.spec q2) h1 rfl Zs) ?_
 rintro _ w2 ⟨_,⟨rfl,rfl⟩,h2⟩
 replace h2:=nf h2
 refine Zi [8] rfl ?_
 refine jIf H (fun c2 H=>?_) fun c2 H=>?_
 ·refine J.seq (Zc [4] ?_)
  refine J.ret ?_
  cases H
  exact ⟨_,_,_,Za,⟨rfl,rfl⟩,Zb h2 [2,0,0,0,0,0,0,0]⟩
 refine J.skip (J.seq (Zc [4] ?_))
 refine J.ret ?_
 cases H
 exact ⟨_,_,_,Za,⟨rfl,rfl⟩,Zb h2 [2,0,0,0,0,0,0,0]⟩

def Q26.f (a0:(List (Int×Int×Bool))×Int):Option (Int):=some a0.2
theorem Q26.spec {a0:(List (Int×Int×Bool))×Int} {b1:Nat} {A1:Option Addr} {c_1:Nat} {r:Int} (H:Q26.f a0=some r) :
  Spec Tryz.prog 211 [.pointer (some ⟨b1,0,none⟩)] [Ya b1 a0.1 A1 c_1 a0.2,Yb a0.1 A1 c_1] [] (fun v l=>v=.int .i64 r∧l=[Ya b1 a0.1 A1 c_1 a0.2,Yb a0.1 A1 c_1]):=by
 refine Zp Tryz.func211 fun w0 F0 h0=>?_
 unfold Q26.f at H
 refine J.seq (Zc [0] ?_)
 refine J.seq (J.seq (Zc [0,4] ?_))
 refine Zz ?_
 refine J.skip (J.seq (J.region ?_))
 refine Zh 3 ?_
 refine Zg (Zd 0 h0.wht) ?_
 refine Zi [2] rfl ?_
 refine J.ret ?_
 cases H
 exact ⟨_,_,_,Za,⟨rfl,rfl⟩,Zb h0 [0,0]⟩

def Q29.f (a0:(List (Int×Int×Bool))×Int):Option (Int):=some (w64 ((a0.1.length:Int) - 1))
theorem Q29.spec {a0:(List (Int×Int×Bool))×Int} {b1:Nat} {A1:Option Addr} {c_1:Nat} {r:Int} (H:Q29.f a0=some r) :
  Spec Tryz.prog 175 [.pointer (some ⟨b1,0,none⟩)] [Ya b1 a0.1 A1 c_1 a0.2,Yb a0.1 A1 c_1] [] (fun v l=>v=.int .i64 r∧l=[Ya b1 a0.1 A1 c_1 a0.2,Yb a0.1 A1 c_1]):=by
 refine Zp Tryz.func175 fun w0 F0 h0=>?_
 unfold Q29.f at H
 refine J.seq (Zc [0] ?_)
 refine J.seq (J.region ?_)
 refine Zh 3 ?_
 refine Zg (Zd 0 h0.wht) ?_
 refine Zi [2] rfl ?_
 refine J.ret ?_
 cases H
 exact ⟨_,_,_,Za,⟨rfl,rfl⟩,Zb h0 [0,0]⟩

def Q25.f (a0:(List (Int×Int×Bool))×Int):Option (Int×Bool):=(Q26.f a0).bind fun r1=>(if (decide (r1=0))=true then (some (0,false)) else ((Q29.f a0).bind fun r2=>(if 0≤r2∧r2<(a0.1.length:Int) then (some ((gt a0.1 r2).1,true)) else none)))
theorem Q25.spec {a0:(List (Int×Int×Bool))×Int} {b1:Nat} {A1:Option Addr} {c_1:Nat} {r:Int×Bool} (H:Q25.f a0=some r) :
  Spec Tryz.prog 173 [.pointer (some ⟨b1,0,none⟩)] [Ya b1 a0.1 A1 c_1 a0.2,Yb a0.1 A1 c_1] [] (fun v l=>v=.tuple #[.int .i64 r.1,.bool r.2]∧l=[Ya b1 a0.1 A1 c_1 a0.2,Yb a0.1 A1 c_1]):=by
 refine Zp Tryz.func173 fun w0 F0 h0=>?_
 unfold Q25.f at H
 refine J.seq (Zc [0] ?_)
 refine J.seq (J.seq (J.region ?_))
 refine Zh 1 ?_
 obtain ⟨r1,q1,H⟩:=Zn H
 refine Ze (Zf [0,0] (Q26.spec q1) h0 rfl Zs) ?_
 rintro _ w1 ⟨_,⟨rfl,rfl⟩,h1⟩
 replace h1:=nf h1
 refine Zi [0,6] rfl ?_
 refine jIf H (fun c1 H=>?_) fun c1 H=>?_
 ·refine J.seq (Zc [2,3] ?_)
  refine J.ret ?_
  cases H
  exact ⟨_,_,_,Za,⟨rfl,rfl⟩,Zb h1 [0,0]⟩
 refine J.skip (J.seq (Zv h1 ?_))
 have h2:=h1.drew
 refine Zu [0,1,2,4] ?_
 refine Zj 3 rfl (Zd 0 wI) ?_
 obtain ⟨r2,q2,H⟩:=Zn H
 refine Zq 5 rfl (Zf [0,0] (Q29.spec q2) h2 rfl Zs) ?_
 rintro _ w2 ⟨_,⟨rfl,rfl⟩,h3⟩
 replace h3:=nf h3
 refine ⟨⟨[],h3⟩,?_⟩
 obtain ⟨⟨p1,p2⟩,H⟩:=Zt H
 have e1:=Z6 h3.wh (gO 1) p1 p2
 refine Zj 6 rfl (Zk e1 p1 p2) ?_
 refine Zu [7] ?_
 refine Zj 8 rfl (Zl 0 wI (gO 1) p1 p2) ?_
 refine Zu [9,10] ?_
 refine Zw [2,3] ?_
 refine J.ret ?_
 cases H
 exact ⟨_,_,_,Za,⟨rfl,rfl⟩,Zb h3 [0,0]⟩

def Q53.f (a0:Int×List (Int)×(Int×Int)) (a1:Int) (a2:List (Int)):Option (Int×(Int×List (Int)×(Int×Int))):=(Q50.f a0).bind fun r1=>(if (decide (r1=0))=true then (some (1,a0)) else ((Q50.f a0).bind fun r2=>(if (decide (r2≤(w64 (a1))))=true then (some (4,a0)) else (if 0≤(w64 ((w64 (a1))*a0.1))∧(w64 ((w64 (a1))*a0.1))≤(w64 ((w64 ((w64 (a1))*a0.1))+a0.1))∧(w64 ((w64 ((w64 (a1))*a0.1))+a0.1))≤(a0.2.1.length:Int) then (if (!decide ((a2.length:Int)=a0.1))=true then (some (3,a0)) else (some (0,(a0.1,(Yz a0.2.1 (((w64 ((w64 (a1))*a0.1))).toNat) (((a0.2.1.drop ((w64 ((w64 (a1))*a0.1))).toNat).take (((w64 ((w64 ((w64 (a1))*a0.1))+a0.1))).toNat - ((w64 ((w64 (a1))*a0.1))).toNat)).length) a2),(a0.2.2.1,(IntKind.u64.wrap (a0.2.2.2+1))))))) else none))))
theorem Q53.spec {a0:Int×List (Int)×(Int×Int)} {a1:Int} {a2:List (Int)} {A2:Option Addr} {c_2:Nat} {b1:Nat} {A1:Option Addr} {c_1:Nat} {r:Int×(Int×List (Int)×(Int×Int))} (H:Q53.f a0 a1 a2=some r) :
  Spec Tryz.prog 160 [.pointer (some ⟨b1,0,none⟩),.int .u32 a1,.slice A2 a2.length c_2] [Yi b1 a0.1 a0.2.1 A1 c_1 a0.2.2.1 a0.2.2.2,O5 a0.2.1 A1 c_1] [R5 a2 A2 c_2] (fun v l=>∃(A_0:Option Addr) (c_0:Nat),v=.int .i64 r.1∧l=[Yi b1 r.2.1 r.2.2.1 A_0 c_0 r.2.2.2.1 r.2.2.2.2,O5 r.2.2.1 A_0 c_0]):=by
 refine Zp Tryz.func160 fun w0 F0 h0=>?_
 unfold Q53.f at H
 refine J.seq (Zc [0,1,2] ?_)
 refine J.seq (J.region ?_)
 refine Zh 2 ?_
 refine Z1 Tryz.func62 ?_
 refine J.seq (Zc [0,1] ?_)
 refine J.seq (J.block (J.seq (J.region ?_)))
 refine Zh 1 ?_
 obtain ⟨r1,q1,H⟩:=Zn H
 refine Ze (Zf [0,0] (Q50.spec q1) h0 rfl Zs) ?_
 rintro _ w1 ⟨_,⟨rfl,rfl⟩,h1⟩
 replace h1:=nf h1
 refine Zi [0,1,7] rfl ?_
 refine jIf H (fun c1 H=>?_) fun c1 H=>?_
 ·refine J.seq (Zc [4,5] ?_)
  refine J.ret (⟨_,Za,?_⟩)
  refine Zi [0,2,7,8] rfl ?_
  refine J.seq (J.block (J.seq (Zc [0,2,7,8,15] ?_)))
  refine Zo ?_
  refine J.seq (Zc [6] ?_)
  refine J.ret ?_
  cases H
  exact ⟨_,_,_,Za,⟨_,_,rfl,rfl⟩,Zb h1 [0,0]⟩
 refine J.seq (J.region ?_)
 refine Zh 3 ?_
 obtain ⟨r2,q2,H⟩:=Zn H
 refine Ze (Zf [0,0] (Q50.spec q2) h1 rfl Zs) ?_
 rintro _ w2 ⟨_,⟨rfl,rfl⟩,h2⟩
 replace h2:=nf h2
 refine Zi [0,1,11] rfl ?_
 refine jIf H (fun c2 H=>?_) fun c2 H=>?_
 ·refine J.seq (Zc [4,5] ?_)
  refine J.ret (⟨_,Za,?_⟩)
  refine Zi [0,2,7,8] rfl ?_
  refine J.seq (J.block (J.seq (Zc [0,2,7,8,15] ?_)))
  refine Zo ?_
  refine J.seq (Zc [6] ?_)
  refine J.ret ?_
  cases H
  exact ⟨_,_,_,Za,⟨_,_,rfl,rfl⟩,Zb h2 [0,0]⟩
 refine J.skip (J.seq (J.region ?_))
 refine Zh 5 ?_
 refine Zg (Zd 0 h2.wht) ?_
 refine Zi [0,6] rfl ?_
 refine J.seq (Zv h2 ?_)
 have h3:=h2.drew
 refine Zu [0,1,2,4,5,6,7,8] ?_
 refine Zj 3 rfl (Zd 0 wI) ?_
 refine Zj 9 rfl (Zd 0 wI) ?_
 refine Zu [10] ?_
 obtain ⟨⟨p1,p2,p3⟩,H⟩:=Zt H
 have e1:=h3.cap (gO 1)
 refine Zj 11 rfl (J1 ((a0.2.1.drop ((w64 ((w64 (a1))*a0.1))).toNat).take (((w64 ((w64 ((w64 (a1))*a0.1))+a0.1))).toNat - ((w64 ((w64 (a1))*a0.1))).toNat)) (w64 ((w64 (a1))*a0.1)) (w64 ((w64 ((w64 (a1))*a0.1))+a0.1)) e1 p1 p2 p3) ?_
 refine Zu [12,13] ?_
 refine Zw [4,5] ?_
 refine J.ret (⟨_,Za,?_⟩)
 refine Zi [0,2,7,8] rfl ?_
 refine J.seq (J.block (J.seq (Zc [0,2,7,8,15] ?_)))
 refine Zz ?_
 refine J.seq (J.region ?_)
 refine Zh 5 ?_
 refine Zg (Zd 0 h3.wht) ?_
 refine Zi [0,2,7,19] rfl ?_
 refine jIf H (fun c3 H=>?_) fun c3 H=>?_
 ·refine J.seq (Zc [6] ?_)
  refine J.ret ?_
  cases H
  exact ⟨_,_,_,Za,⟨_,_,rfl,rfl⟩,Zb h3 [0,0]⟩
 refine J.skip (J.seq (J.region ?_))
 refine Zh 2 ?_
 have e2:(((w64 ((w64 (a1))*a0.1))).toNat)+((a0.2.1.drop ((w64 ((w64 (a1))*a0.1))).toNat).take (((w64 ((w64 ((w64 (a1))*a0.1))+a0.1))).toNat - ((w64 ((w64 (a1))*a0.1))).toNat)).length≤a0.2.1.length:=by first | omega | (simp only [List.length_take,List.length_drop]; omega)
 refine Ze (Ut Yu (ty:=(.int .u8)) (xs:=a0.2.1) (ys:=a2) rfl 1 rfl h3 rfl (Zm 1) rfl rfl rfl rfl rfl rfl e2) ?_
 rintro _ w3 ⟨rfl,h4⟩
 replace h4:=nf h4
 replace h4:St w0 F0 [O5 (Yz a0.2.1 (((w64 ((w64 (a1))*a0.1))).toNat) (((a0.2.1.drop ((w64 ((w64 (a1))*a0.1))).toNat).take (((w64 ((w64 ((w64 (a1))*a0.1))+a0.1))).toNat - ((w64 ((w64 (a1))*a0.1))).toNat)).length) a2) A1 c_1,Yi b1 a0.1 (Yz a0.2.1 (((w64 ((w64 (a1))*a0.1))).toNat) (((a0.2.1.drop ((w64 ((w64 (a1))*a0.1))).toNat).take (((w64 ((w64 ((w64 (a1))*a0.1))+a0.1))).toNat - ((w64 ((w64 (a1))*a0.1))).toNat)).length) a2) A1 c_1 a0.2.2.1 a0.2.2.2] _ _:=h4.retell (by simp only [Xj e2,List.length_nil,O5,Yi] <;> rfl)
 refine Zi [0] rfl ?_
 refine J.seq (J.region ?_)
 refine Zh 4 ?_
 refine Zg (Zd 1 h4.wht) ?_
 refine Zh 4 ?_
 refine Ze (Z3 1 h4) ?_
 intro _ w4 h5
 replace h5:=nf h5
 refine Zi [] rfl ?_
 refine J.seq (Zc [6] ?_)
 refine J.ret ?_
 cases H
 exact ⟨_,_,_,Za,⟨_,_,rfl,rfl⟩,Zb h5 [0,0]⟩

def Q30.f (a0:(List (Int×Int×Bool))×Int) (a1:Int):Option (Int):=if (decide ((a0.1.length:Int)=0))=true then (some 1) else (if (decide (a1<0))=true then (some 4) else ((Q29.f a0).bind fun r1=>(if (decide (r1≤a1))=true then (some 4) else (some 0))))
theorem Q30.spec {a0:(List (Int×Int×Bool))×Int} {a1:Int} {b1:Nat} {A1:Option Addr} {c_1:Nat} {r:Int} (H:Q30.f a0 a1=some r) :
  Spec Tryz.prog 171 [.pointer (some ⟨b1,0,none⟩),.int .i64 a1] [Ya b1 a0.1 A1 c_1 a0.2,Yb a0.1 A1 c_1] [] (fun v l=>v=.int .i64 r∧l=[Ya b1 a0.1 A1 c_1 a0.2,Yb a0.1 A1 c_1]):=by
 refine Zp Tryz.func171 fun w0 F0 h0=>?_
 unfold Q30.f at H
 refine J.seq (Zc [0,1] ?_)
 refine J.seq (J.block (J.seq (J.region ?_)))
 refine Zh 6 ?_
 refine Zg (Zd 0 h0.wht) ?_
 refine Zi [0,1,5] rfl ?_
 refine jIf H (fun c1 H=>?_) fun c1 H=>?_
 ·refine J.seq (Zc [4] ?_)
  refine J.ret ?_
  cases H
  exact ⟨_,_,_,Za,⟨rfl,rfl⟩,Zb h0 [0,0]⟩
 refine J.seq (J.region ?_)
 refine Zh 3 ?_
 refine Z7 19 H (fun c2 H=>?_) fun c2 H=>?_
 ·refine Zi [16] rfl ?_
  refine Zo ?_
  refine J.seq (Zc [4] ?_)
  refine J.ret ?_
  cases H
  exact ⟨_,_,_,Za,⟨rfl,rfl⟩,Zb h0 [0,0]⟩
 refine Zh 2 ?_
 obtain ⟨r1,q1,H⟩:=Zn H
 refine Ze (Zf [0,0] (Q29.spec q1) h0 rfl Zs) ?_
 rintro _ w1 ⟨_,⟨rfl,rfl⟩,h1⟩
 replace h1:=nf h1
 refine Zi [16] rfl ?_
 refine jIf H (fun c3 H=>?_) fun c3 H=>?_
 ·refine J.seq (Zc [4] ?_)
  refine J.ret ?_
  cases H
  exact ⟨_,_,_,Za,⟨rfl,rfl⟩,Zb h1 [0,0]⟩
 refine J.skip (J.seq (Zc [4] ?_))
 refine J.ret ?_
 cases H
 exact ⟨_,_,_,Za,⟨rfl,rfl⟩,Zb h1 [0,0]⟩

def Q27.f (a0:(List (Int×Int×Bool))×Int) (a1:Int):Option (((List (Int×Int×Bool))×Int)):=if 0≤a1∧a1<(a0.1.length:Int) then (if (!((gt a0.1 a1).2.2))=true then (some a0) else (if 0≤((gt a0.1 a1).1)∧((gt a0.1 a1).1)<(a0.1.length:Int) then (if 0≤((gt a0.1 a1).2.1)∧((gt a0.1 a1).2.1)<((a0.1.set ((gt a0.1 a1).1).toNat ((gt a0.1 ((gt a0.1 a1).1)).1,(gt a0.1 a1).2.1,(gt a0.1 ((gt a0.1 a1).1)).2.2)).length:Int) then (if 0≤a1∧a1<(((a0.1.set ((gt a0.1 a1).1).toNat ((gt a0.1 ((gt a0.1 a1).1)).1,(gt a0.1 a1).2.1,(gt a0.1 ((gt a0.1 a1).1)).2.2)).set ((gt a0.1 a1).2.1).toNat ((gt a0.1 a1).1,(gt (a0.1.set ((gt a0.1 a1).1).toNat ((gt a0.1 ((gt a0.1 a1).1)).1,(gt a0.1 a1).2.1,(gt a0.1 ((gt a0.1 a1).1)).2.2)) ((gt a0.1 a1).2.1)).2.1,(gt (a0.1.set ((gt a0.1 a1).1).toNat ((gt a0.1 ((gt a0.1 a1).1)).1,(gt a0.1 a1).2.1,(gt a0.1 ((gt a0.1 a1).1)).2.2)) ((gt a0.1 a1).2.1)).2.2)).length:Int) then (some ((((a0.1.set ((gt a0.1 a1).1).toNat ((gt a0.1 ((gt a0.1 a1).1)).1,(gt a0.1 a1).2.1,(gt a0.1 ((gt a0.1 a1).1)).2.2)).set ((gt a0.1 a1).2.1).toNat ((gt a0.1 a1).1,(gt (a0.1.set ((gt a0.1 a1).1).toNat ((gt a0.1 ((gt a0.1 a1).1)).1,(gt a0.1 a1).2.1,(gt a0.1 ((gt a0.1 a1).1)).2.2)) ((gt a0.1 a1).2.1)).2.1,(gt (a0.1.set ((gt a0.1 a1).1).toNat ((gt a0.1 ((gt a0.1 a1).1)).1,(gt a0.1 a1).2.1,(gt a0.1 ((gt a0.1 a1).1)).2.2)) ((gt a0.1 a1).2.1)).2.2)).set a1.toNat (0,0,false)),(w64 (a0.2 - 1)))) else none) else none) else none)) else none
theorem Q27.spec {a0:(List (Int×Int×Bool))×Int} {a1:Int} {b1:Nat} {A1:Option Addr} {c_1:Nat} {r:((List (Int×Int×Bool))×Int)} (H:Q27.f a0 a1=some r) :
  Spec Tryz.prog 172 [.pointer (some ⟨b1,0,none⟩),.int .i64 a1] [Ya b1 a0.1 A1 c_1 a0.2,Yb a0.1 A1 c_1] [] (fun v l=>∃(A_0:Option Addr) (c_0:Nat),v=.tuple #[]∧l=[Ya b1 r.1 A_0 c_0 r.2,Yb r.1 A_0 c_0]):=by
 refine Zp Tryz.func172 fun w0 F0 h0=>?_
 unfold Q27.f at H
 refine J.seq (J.region ?_)
 refine Zh 3 ?_
 refine Zg (Zd 0 h0.wht) ?_
 refine Zh 1 ?_
 obtain ⟨⟨p1,p2⟩,H⟩:=Zt H
 have e1:=Z6 h0.wh (gO 1) p1 p2
 refine Zg (Zk e1 p1 p2) ?_
 refine Zg (Zl 0 h0.wht (gO 1) p1 p2) ?_
 refine Ze (Yq h0) ?_
 rintro _ w1 ⟨b2,rfl,h1⟩
 replace h1:=nf h1
 refine Ze (Z3 0 h1) ?_
 intro _ w2 h2
 replace h2:=nf h2
 refine Zi [0,1,4] rfl ?_
 refine J.seq (J.seq (J.region ?_))
 refine Zh 1 ?_
 refine Zg (Zd 0 h2.wht) ?_
 refine Zi [0,1,4,14] rfl ?_
 refine jIf H (fun c1 H=>?_) fun c1 H=>?_
 ·refine J.ret ?_
  cases H
  exact ⟨_,_,_,Za,⟨_,_,rfl,rfl⟩,Zb h2 [1,1]⟩
 refine J.skip (J.seq (Zv (Zb h2 [0,0]) ?_))
 have h3:=h2.drew
 refine Zu [0,1,2,4,6] ?_
 refine Zj 3 rfl (Zd 1 wI) ?_
 refine Zj 5 rfl (Zd 0 wI) ?_
 refine Zj 7 rfl (Zd 0 wI) ?_
 obtain ⟨⟨p3,p4⟩,H⟩:=Zt H
 refine Zj 8 rfl (Zk e1 p3 p4) ?_
 refine Zu [9] ?_
 refine Zq 10 rfl (Zr 1 (.pair (.int .i64) (.pair (.int .i64) .bool)) ((gt a0.1 a1).1) ((gt a0.1 ((gt a0.1 a1).1)).1,(gt a0.1 a1).2.1,(gt a0.1 ((gt a0.1 a1).1)).2.2) 2 h3 rfl p3 p4) ?_
 intro _ w3 h4
 replace h4:=nf h4
 refine ⟨⟨[_],h4⟩,?_⟩
 replace h4:St w0 F0 [Yb (a0.1.set ((gt a0.1 a1).1).toNat ((gt a0.1 ((gt a0.1 a1).1)).1,(gt a0.1 a1).2.1,(gt a0.1 ((gt a0.1 a1).1)).2.2)) A1 c_1,Jl b2 ((gt a0.1 a1).1) ((gt a0.1 a1).2.1) ((gt a0.1 a1).2.2),Ya b1 (a0.1.set ((gt a0.1 a1).1).toNat ((gt a0.1 ((gt a0.1 a1).1)).1,(gt a0.1 a1).2.1,(gt a0.1 ((gt a0.1 a1).1)).2.2)) A1 c_1 a0.2] _ _:=h4.retell (by simp only [List.length_set,List.length_nil,Yb,Jl,Ya] <;> rfl)
 refine Zw [0,1,4] ?_
 refine J.seq (Zv (Zb h4 [1,1]) ?_)
 have h5:=h4.drew
 refine Zu [0,1,2,4,6] ?_
 refine Zj 3 rfl (Zd 1 wI) ?_
 refine Zj 5 rfl (Zd 0 wI) ?_
 refine Zj 7 rfl (Zd 0 wI) ?_
 obtain ⟨⟨p5,p6⟩,H⟩:=Zt H
 refine Zj 8 rfl (Zk e1 p5 p6) ?_
 refine Zu [9] ?_
 refine Zq 10 rfl (Zr 0 (.pair (.int .i64) (.pair (.int .i64) .bool)) ((gt a0.1 a1).2.1) ((gt a0.1 a1).1,(gt (a0.1.set ((gt a0.1 a1).1).toNat ((gt a0.1 ((gt a0.1 a1).1)).1,(gt a0.1 a1).2.1,(gt a0.1 ((gt a0.1 a1).1)).2.2)) ((gt a0.1 a1).2.1)).2.1,(gt (a0.1.set ((gt a0.1 a1).1).toNat ((gt a0.1 ((gt a0.1 a1).1)).1,(gt a0.1 a1).2.1,(gt a0.1 ((gt a0.1 a1).1)).2.2)) ((gt a0.1 a1).2.1)).2.2) 0 h5 rfl p5 p6) ?_
 intro _ w4 h6
 replace h6:=nf h6
 refine ⟨⟨[_],h6⟩,?_⟩
 replace h6:St w0 F0 [Yb ((a0.1.set ((gt a0.1 a1).1).toNat ((gt a0.1 ((gt a0.1 a1).1)).1,(gt a0.1 a1).2.1,(gt a0.1 ((gt a0.1 a1).1)).2.2)).set ((gt a0.1 a1).2.1).toNat ((gt a0.1 a1).1,(gt (a0.1.set ((gt a0.1 a1).1).toNat ((gt a0.1 ((gt a0.1 a1).1)).1,(gt a0.1 a1).2.1,(gt a0.1 ((gt a0.1 a1).1)).2.2)) ((gt a0.1 a1).2.1)).2.1,(gt (a0.1.set ((gt a0.1 a1).1).toNat ((gt a0.1 ((gt a0.1 a1).1)).1,(gt a0.1 a1).2.1,(gt a0.1 ((gt a0.1 a1).1)).2.2)) ((gt a0.1 a1).2.1)).2.2)) A1 c_1,Jl b2 ((gt a0.1 a1).1) ((gt a0.1 a1).2.1) ((gt a0.1 a1).2.2),Ya b1 ((a0.1.set ((gt a0.1 a1).1).toNat ((gt a0.1 ((gt a0.1 a1).1)).1,(gt a0.1 a1).2.1,(gt a0.1 ((gt a0.1 a1).1)).2.2)).set ((gt a0.1 a1).2.1).toNat ((gt a0.1 a1).1,(gt (a0.1.set ((gt a0.1 a1).1).toNat ((gt a0.1 ((gt a0.1 a1).1)).1,(gt a0.1 a1).2.1,(gt a0.1 ((gt a0.1 a1).1)).2.2)) ((gt a0.1 a1).2.1)).2.1,(gt (a0.1.set ((gt a0.1 a1).1).toNat ((gt a0.1 ((gt a0.1 a1).1)).1,(gt a0.1 a1).2.1,(gt a0.1 ((gt a0.1 a1).1)).2.2)) ((gt a0.1 a1).2.1)).2.2)) A1 c_1 a0.2] _ _:=h6.retell (by simp only [List.length_set,List.length_nil,Yb,Jl,Ya] <;> rfl)
 refine Zw [0,1] ?_
 refine J.seq (J.region ?_)
 refine Zh 3 ?_
 refine Zg (Zd 2 h6.wht) ?_
 refine Zh 2 ?_
 obtain ⟨⟨p7,p8⟩,H⟩:=Zt H
 refine Zg (Zk e1 p7 p8) ?_
 refine Ze (Zr 0 (.pair (.int .i64) (.pair (.int .i64) .bool)) a1 (0,0,false) 0 h6 rfl p7 p8) ?_
 intro _ w5 h7
 replace h7:=nf h7
 replace h7:St w0 F0 [Yb (((a0.1.set ((gt a0.1 a1).1).toNat ((gt a0.1 ((gt a0.1 a1).1)).1,(gt a0.1 a1).2.1,(gt a0.1 ((gt a0.1 a1).1)).2.2)).set ((gt a0.1 a1).2.1).toNat ((gt a0.1 a1).1,(gt (a0.1.set ((gt a0.1 a1).1).toNat ((gt a0.1 ((gt a0.1 a1).1)).1,(gt a0.1 a1).2.1,(gt a0.1 ((gt a0.1 a1).1)).2.2)) ((gt a0.1 a1).2.1)).2.1,(gt (a0.1.set ((gt a0.1 a1).1).toNat ((gt a0.1 ((gt a0.1 a1).1)).1,(gt a0.1 a1).2.1,(gt a0.1 ((gt a0.1 a1).1)).2.2)) ((gt a0.1 a1).2.1)).2.2)).set a1.toNat (0,0,false)) A1 c_1,Jl b2 ((gt a0.1 a1).1) ((gt a0.1 a1).2.1) ((gt a0.1 a1).2.2),Ya b1 (((a0.1.set ((gt a0.1 a1).1).toNat ((gt a0.1 ((gt a0.1 a1).1)).1,(gt a0.1 a1).2.1,(gt a0.1 ((gt a0.1 a1).1)).2.2)).set ((gt a0.1 a1).2.1).toNat ((gt a0.1 a1).1,(gt (a0.1.set ((gt a0.1 a1).1).toNat ((gt a0.1 ((gt a0.1 a1).1)).1,(gt a0.1 a1).2.1,(gt a0.1 ((gt a0.1 a1).1)).2.2)) ((gt a0.1 a1).2.1)).2.1,(gt (a0.1.set ((gt a0.1 a1).1).toNat ((gt a0.1 ((gt a0.1 a1).1)).1,(gt a0.1 a1).2.1,(gt a0.1 ((gt a0.1 a1).1)).2.2)) ((gt a0.1 a1).2.1)).2.2)).set a1.toNat (0,0,false)) A1 c_1 a0.2] _ _:=h7.retell (by simp only [List.length_set,List.length_nil,Yb,Jl,Ya] <;> rfl)
 refine Zi [0] rfl ?_
 refine J.region (Zh 3 ?_)
 refine Zg (Zd 2 h7.wht) ?_
 refine Zh 3 ?_
 refine Ze (Z3 2 h7) ?_
 intro _ w6 h8
 replace h8:=nf h8
 refine Zi [] rfl ?_
 cases H
 exact ⟨_,_,_,Za,⟨_,_,rfl,rfl⟩,Zb h8 [0,0]⟩

def Q23.f (a0:(List (Int×Int×Bool))×Int) (a1:Int):Option (Int×((List (Int×Int×Bool))×Int)):=(Q30.f a0 a1).bind fun r1=>(if (!decide (r1=0))=true then (some (r1,a0)) else (if 0≤a1∧a1<(a0.1.length:Int) then (if (!((gt a0.1 a1).2.2))=true then (some (9,a0)) else ((Q27.f a0 a1).bind fun r2=>(some (0,r2)))) else none))
theorem Q23.spec {a0:(List (Int×Int×Bool))×Int} {a1:Int} {b1:Nat} {A1:Option Addr} {c_1:Nat} {r:Int×((List (Int×Int×Bool))×Int)} (H:Q23.f a0 a1=some r) :
  Spec Tryz.prog 125 [.pointer (some ⟨b1,0,none⟩),.int .i64 a1] [Ya b1 a0.1 A1 c_1 a0.2,Yb a0.1 A1 c_1] [] (fun v l=>∃(A_0:Option Addr) (c_0:Nat),v=.int .i64 r.1∧l=[Ya b1 r.2.1 A_0 c_0 r.2.2,Yb r.2.1 A_0 c_0]):=by
 refine Zp Tryz.func125 fun w0 F0 h0=>?_
 unfold Q23.f at H
 refine J.seq (Zc [0,1] ?_)
 refine J.seq (J.seq (J.region ?_))
 refine Zh 2 ?_
 obtain ⟨r1,q1,H⟩:=Zn H
 refine Ze (Zf [0,0] (Q30.spec q1) h0 rfl Zs) ?_
 rintro _ w1 ⟨_,⟨rfl,rfl⟩,h1⟩
 replace h1:=nf h1
 refine Zi [0,1,5] rfl ?_
 refine J.seq (Zc [0,1,5,10] ?_)
 refine jIf H (fun c1 H=>?_) fun c1 H=>?_
 ·refine J.seq (Zc [4] ?_)
  refine J.ret ?_
  cases H
  exact ⟨_,_,_,Za,⟨_,_,rfl,rfl⟩,Zb h1 [0,0]⟩
 refine J.skip (J.seq (J.seq (J.region ?_)))
 refine Zh 3 ?_
 refine Zg (Zd 0 h1.wht) ?_
 refine Zh 1 ?_
 obtain ⟨⟨p1,p2⟩,H⟩:=Zt H
 have e1:=Z6 h1.wh (gO 1) p1 p2
 refine Zg (Zk e1 p1 p2) ?_
 refine Zh 1 ?_
 refine Zg (Zl 2 h1.wht (gO 1) p1 p2) ?_
 refine Zi [0,1,20] rfl ?_
 refine jIf H (fun c2 H=>?_) fun c2 H=>?_
 ·refine J.seq (Zc [4] ?_)
  refine J.ret ?_
  cases H
  exact ⟨_,_,_,Za,⟨_,_,rfl,rfl⟩,Zb h1 [0,0]⟩
 refine J.skip (J.seq (J.region ?_))
 refine Zh 2 ?_
 obtain ⟨r2,q2,H⟩:=Zn H
 refine Ze (Zf [0,0] (Q27.spec q2) h1 rfl Zs) ?_
 rintro _ w2 ⟨_,⟨A2,c_2,rfl,rfl⟩,h2⟩
 replace h2:=nf h2
 refine Zi [] rfl ?_
 refine J.seq (Zc [4] ?_)
 refine J.ret ?_
 cases H
 exact ⟨_,_,_,Za,⟨_,_,rfl,rfl⟩,Zb h2 [0,0]⟩

def Q19.f (a0:(Int×List (Int)×(Int×Int))×(List (Int×List (Int)×Bool×Int))×(List (Int×Int))×List (Int)×((List (Int×Int×Bool))×Int)) (a1:Int):Option (((Int×List (Int)×(Int×Int))×(List (Int×List (Int)×Bool×Int))×(List (Int×Int))×List (Int)×((List (Int×Int×Bool))×Int))):=if 0≤a1∧a1<(a0.2.1.length:Int) then ((Q23.f a0.2.2.2.2 a1).bind fun r1=>(if (a0.2.2.2.1.length+([a1]:List (Int)).length)*8≤140737488355328 then (some (a0.1,(a0.2.1.set a1.toNat (0,([]:List (Int)),false,0)),(Ve ((gt a0.2.1 a1).1) a0.2.2.1),(a0.2.2.2.1 ++ ([a1]:List (Int))),r1.2)) else none)) else none
theorem Q19.spec {a0:(Int×List (Int)×(Int×Int))×(List (Int×List (Int)×Bool×Int))×(List (Int×Int))×List (Int)×((List (Int×Int×Bool))×Int)} {a1:Int} {b1:Nat} {b2:Nat} {b3:Nat} {b4:Nat} {A1:Option Addr} {c_1:Nat} {A2:Option Addr} {c_2:Nat} {A3:Option Addr} {c_3:Nat} {A4:Option Addr} {c_4:Nat} {r:((Int×List (Int)×(Int×Int))×(List (Int×List (Int)×Bool×Int))×(List (Int×Int))×List (Int)×((List (Int×Int×Bool))×Int))} (H:Q19.f a0 a1=some r) :
  Spec Tryz.prog 142 [.pointer (some ⟨b1,0,none⟩),.int .i64 a1] [Yp b1 (.pointer (some ⟨b2,0,none⟩)) a0.2.1 A2 c_2 (.map (some b3)) a0.2.2.2.1 A3 c_3 (.pointer (some ⟨b4,0,none⟩)),Yi b2 a0.1.1 a0.1.2.1 A1 c_1 a0.1.2.2.1 a0.1.2.2.2,O5 a0.1.2.1 A1 c_1,Yo a0.2.1 A2 c_2,Yj .u32 (Value.int .i64) b3 a0.2.2.1,O3 a0.2.2.2.1 A3 c_3,Ya b4 a0.2.2.2.2.1 A4 c_4 a0.2.2.2.2.2,Yb a0.2.2.2.2.1 A4 c_4] [] (fun v l=>∃(A_0:Option Addr) (c_0:Nat) (A_1:Option Addr) (c_1:Nat) (A_2:Option Addr) (c_2:Nat) (A_3:Option Addr) (c_3:Nat),v=.tuple #[]∧l=[Yp b1 (.pointer (some ⟨b2,0,none⟩)) r.2.1 A_1 c_1 (.map (some b3)) r.2.2.2.1 A_2 c_2 (.pointer (some ⟨b4,0,none⟩)),Yi b2 r.1.1 r.1.2.1 A_0 c_0 r.1.2.2.1 r.1.2.2.2,O5 r.1.2.1 A_0 c_0,Yo r.2.1 A_1 c_1,Yj .u32 (Value.int .i64) b3 r.2.2.1,O3 r.2.2.2.1 A_2 c_2,Ya b4 r.2.2.2.2.1 A_3 c_3 r.2.2.2.2.2,Yb r.2.2.2.2.1 A_3 c_3]):=by
 refine Zp Tryz.func142 fun w0 F0 h0=>?_
 unfold Q19.f at H
 refine J.seq (Zv (Zb h0 [0,0,0,0,1,1,1]) ?_)
 have h1:=h0.drew
 refine Zu [0,1,2,4,5,6,8] ?_
 refine Zj 3 rfl (Zd 0 wI) ?_
 refine Zj 7 rfl (Zd 0 wI) ?_
 obtain ⟨⟨p1,p2⟩,H⟩:=Zt H
 have e1:=Z6 h1.wh (gO 3) p1 p2
 refine Zj 9 rfl (Zk e1 p1 p2) ?_
 refine Zu [10] ?_
 refine Zj 11 rfl (Yx 0 wI (gO 3) p1 p2) ?_
 refine Zq 12 rfl (Zaz Yu (ix:=((gt a0.2.1 a1).1)) 4 rfl h1 rfl rfl rfl rfl rfl rfl rfl) ?_
 intro _ w1 h2
 replace h2:=nf h2
 refine ⟨⟨[_],h2⟩,?_⟩
 refine Zw [0,1] ?_
 refine J.seq (J.region ?_)
 refine Zh 3 ?_
 refine Zg (Zd 1 h2.wht) ?_
 refine Zh 1 ?_
 obtain ⟨r1,q1,H⟩:=Zn H
 refine Ze (Zf [6,6] (Q23.spec q1) h2 rfl Zs) ?_
 rintro _ w2 ⟨_,⟨A5,c_5,rfl,rfl⟩,h3⟩
 replace h3:=nf h3
 refine Zi [0,1] rfl ?_
 refine J.seq (J.region ?_)
 refine Zh 3 ?_
 refine Zg (Zd 3 h3.wht) ?_
 refine Zh 2 ?_
 refine Zg (Zk e1 p1 p2) ?_
 have h4:=h3.addNil 5 (.int .u8)
 have h5:=(h4.only [7,0,0,0,0,0,0,0,0] rfl).both
 refine Ze (Xy 0 (.pair (.int .u32) (.pair (.slice 5 (.int .u8)) (.pair .bool (.int .i64)))) a1 (0,([]:List (Int)),false,0) h5 p1 p2 Jo) ?_
 intro _ w3 h6
 replace h6:=nf h6
 replace h6:St w0 F0 [Yo (a0.2.1.set a1.toNat (0,([]:List (Int)),false,0)) A2 c_2,Ya b4 r1.2.1 A5 c_5 r1.2.2,Yb r1.2.1 A5 c_5,Yj .u32 (Value.int .i64) b3 (Ve ((gt a0.2.1 a1).1) a0.2.2.1),Yp b1 (.pointer (some ⟨b2,0,none⟩)) (a0.2.1.set a1.toNat (0,([]:List (Int)),false,0)) A2 c_2 (.map (some b3)) a0.2.2.2.1 A3 c_3 (.pointer (some ⟨b4,0,none⟩)),Yi b2 a0.1.1 a0.1.2.1 A1 c_1 a0.1.2.2.1 a0.1.2.2.2,O5 a0.1.2.1 A1 c_1,O3 a0.2.2.2.1 A3 c_3] _ _:=h6.retell (by simp only [List.length_set,List.length_nil,Yo,Yb,O3,O5,Yi,Yp,Ya] <;> rfl)
 refine Zi [0,1] rfl ?_
 refine J.region (Zh 4 ?_)
 refine Zg (Zd 4 h6.wht) ?_
 refine Zh 1 ?_
 refine Ze (Xc (.int .i64) ([a1]:List (Int)) h6) ?_
 rintro _ w4 ⟨b5,rfl,h7⟩
 replace h7:=nf h7
 obtain ⟨p3,H⟩:=Zt H
 refine Ze (Yr 8 h7 (gO 0) p3) ?_
 rintro _ w5 ⟨A6,c_6,rfl,h8⟩
 replace h8:=nf h8
 refine Zh 2 ?_
 refine Ze (Z3 6 h8) ?_
 intro _ w6 h9
 replace h9:=nf h9
 refine Zi [] rfl ?_
 cases H
 exact ⟨_,_,_,Za,⟨_,_,_,_,_,_,_,_,rfl,rfl⟩,Zb h9 [0,6,6,2,4,0,1,1]⟩

def Q21.f (a0:(Int×List (Int)×(Int×Int))×(List (Int×List (Int)×Bool×Int))×(List (Int×Int))×List (Int)×((List (Int×Int×Bool))×Int)):Option (Int×Bool×((Int×List (Int)×(Int×Int))×(List (Int×List (Int)×Bool×Int))×(List (Int×Int))×List (Int)×((List (Int×Int×Bool))×Int))):=if (decide ((a0.2.2.2.1.length:Int)=0))=true then ((Q25.f a0.2.2.2.2).bind fun r1=>(if (!r1.2)=true then (some (0,false,a0)) else (if 0≤r1.1∧r1.1<(a0.2.1.length:Int) then (if (gt a0.2.1 r1.1).2.2.1=true then ((Q53.f a0.1 ((gt a0.2.1 r1.1).1) ((gt a0.2.1 r1.1).2.1)).bind fun r2=>((Q19.f (r2.2,(a0.2.1.set r1.1.toNat ((gt a0.2.1 r1.1).1,(gt a0.2.1 r1.1).2.1,false,(gt a0.2.1 r1.1).2.2.2)),a0.2.2.1,a0.2.2.2.1,a0.2.2.2.2) r1.1).bind fun r3=>(if 0≤(w64 ((r3.2.2.2.1.length:Int) - 1))∧(w64 ((r3.2.2.2.1.length:Int) - 1))<(r3.2.2.2.1.length:Int) then (if (0:Int)≤(w64 ((r3.2.2.2.1.length:Int) - 1))∧(w64 ((r3.2.2.2.1.length:Int) - 1))≤(r3.2.2.2.1.length:Int) then (some ((gt r3.2.2.2.1 (w64 ((r3.2.2.2.1.length:Int) - 1))),true,(r3.1,r3.2.1,r3.2.2.1,(r3.2.2.2.1.take ((w64 ((r3.2.2.2.1.length:Int) - 1))).toNat),r3.2.2.2.2))) else none) else none))) else ((Q19.f a0 r1.1).bind fun r4=>(if 0≤(w64 ((r4.2.2.2.1.length:Int) - 1))∧(w64 ((r4.2.2.2.1.length:Int) - 1))<(r4.2.2.2.1.length:Int) then (if (0:Int)≤(w64 ((r4.2.2.2.1.length:Int) - 1))∧(w64 ((r4.2.2.2.1.length:Int) - 1))≤(r4.2.2.2.1.length:Int) then (some ((gt r4.2.2.2.1 (w64 ((r4.2.2.2.1.length:Int) - 1))),true,(r4.1,r4.2.1,r4.2.2.1,(r4.2.2.2.1.take ((w64 ((r4.2.2.2.1.length:Int) - 1))).toNat),r4.2.2.2.2))) else none) else none))) else none))) else (if 0≤(w64 ((a0.2.2.2.1.length:Int) - 1))∧(w64 ((a0.2.2.2.1.length:Int) - 1))<(a0.2.2.2.1.length:Int) then (if (0:Int)≤(w64 ((a0.2.2.2.1.length:Int) - 1))∧(w64 ((a0.2.2.2.1.length:Int) - 1))≤(a0.2.2.2.1.length:Int) then (some ((gt a0.2.2.2.1 (w64 ((a0.2.2.2.1.length:Int) - 1))),true,(a0.1,a0.2.1,a0.2.2.1,(a0.2.2.2.1.take ((w64 ((a0.2.2.2.1.length:Int) - 1))).toNat),a0.2.2.2.2))) else none) else none)
theorem Q21.spec {a0:(Int×List (Int)×(Int×Int))×(List (Int×List (Int)×Bool×Int))×(List (Int×Int))×List (Int)×((List (Int×Int×Bool))×Int)} {b1:Nat} {b2:Nat} {b3:Nat} {b4:Nat} {A1:Option Addr} {c_1:Nat} {A2:Option Addr} {c_2:Nat} {A3:Option Addr} {c_3:Nat} {A4:Option Addr} {c_4:Nat} {r:Int×Bool×((Int×List (Int)×(Int×Int))×(List (Int×List (Int)×Bool×Int))×(List (Int×Int))×List (Int)×((List (Int×Int×Bool))×Int))} (H:Q21.f a0=some r) :
  Spec Tryz.prog 126 [.pointer (some ⟨b1,0,none⟩)] [Yp b1 (.pointer (some ⟨b2,0,none⟩)) a0.2.1 A2 c_2 (.map (some b3)) a0.2.2.2.1 A3 c_3 (.pointer (some ⟨b4,0,none⟩)),Yi b2 a0.1.1 a0.1.2.1 A1 c_1 a0.1.2.2.1 a0.1.2.2.2,O5 a0.1.2.1 A1 c_1,Yo a0.2.1 A2 c_2,Yj .u32 (Value.int .i64) b3 a0.2.2.1,O3 a0.2.2.2.1 A3 c_3,Ya b4 a0.2.2.2.2.1 A4 c_4 a0.2.2.2.2.2,Yb a0.2.2.2.2.1 A4 c_4] [] (fun v l=>∃(A_0:Option Addr) (c_0:Nat) (A_1:Option Addr) (c_1:Nat) (A_2:Option Addr) (c_2:Nat) (A_3:Option Addr) (c_3:Nat),v=.tuple #[.int .i64 r.1,.bool r.2.1]∧l=[Yp b1 (.pointer (some ⟨b2,0,none⟩)) r.2.2.2.1 A_1 c_1 (.map (some b3)) r.2.2.2.2.2.1 A_2 c_2 (.pointer (some ⟨b4,0,none⟩)),Yi b2 r.2.2.1.1 r.2.2.1.2.1 A_0 c_0 r.2.2.1.2.2.1 r.2.2.1.2.2.2,O5 r.2.2.1.2.1 A_0 c_0,Yo r.2.2.2.1 A_1 c_1,Yj .u32 (Value.int .i64) b3 r.2.2.2.2.1,O3 r.2.2.2.2.2.1 A_2 c_2,Ya b4 r.2.2.2.2.2.2.1 A_3 c_3 r.2.2.2.2.2.2.2,Yb r.2.2.2.2.2.2.1 A_3 c_3]):=by
 refine Zp Tryz.func126 fun w0 F0 h0=>?_
 unfold Q21.f at H
 refine J.seq (Zc [0] ?_)
 refine J.seq (J.seq (J.region ?_))
 refine Zh 3 ?_
 refine Zg (Zd 0 h0.wht) ?_
 refine Zi [0,13] rfl ?_
 refine jIf H (fun c1 H=>?_) fun c1 H=>?_
 ·refine J.seq (J.region ?_)
  refine Zh 3 ?_
  refine Zg (Zd 0 h0.wht) ?_
  obtain ⟨r1,q1,H⟩:=Zn H
  refine Ze (Zf [6,6] (Q25.spec q1) h0 rfl Zs) ?_
  rintro _ w1 ⟨_,⟨rfl,rfl⟩,h1⟩
  replace h1:=nf h1
  refine Zi [0,4,5] rfl ?_
  refine J.seq (J.seq (Zc [0,4,23] ?_))
  refine jIf H (fun c2 H=>?_) fun c2 H=>?_
  ·refine J.seq (Zc [2,3] ?_)
   refine J.ret ?_
   cases H
   exact ⟨_,_,_,Za,⟨_,_,_,_,_,_,_,_,rfl,rfl⟩,Zb h1 [2,2,2,2,2,2,0,0]⟩
  refine J.skip (J.seq (J.region ?_))
  refine Zh 4 ?_
  refine Zg (Zd 2 h1.wht) ?_
  refine Zh 1 ?_
  obtain ⟨⟨p1,p2⟩,H⟩:=Zt H
  have e1:=Z6 h1.wh (gO 5) p1 p2
  refine Zg (Zk e1 p1 p2) ?_
  refine Z1 Tryz.func110 ?_
  refine J.seq (J.region ?_)
  refine Zh 3 ?_
  refine Zg (Yx 2 h1.wht (gO 5) p1 p2) ?_
  refine Zi [0,1,7] rfl ?_
  refine jIf H (fun c3 H=>?_) fun c3 H=>?_
  ·refine J.seq ?_
   obtain ⟨A5,c_5,h2⟩:=h1.openI 5 rfl p1 p2
   refine Zv (Zb h2 [0,0,0,0,2,2]) ?_
   have h3:=h2.drew
   refine Zu [0,1,2,4,5,6,8,9,10] ?_
   refine Zj 3 rfl (Zd 3 wI) ?_
   refine Zj 7 rfl (Yx 0 wI (W1 0 Zcj) p1 p2) ?_
   refine Zj 11 rfl (V8 wI (Zm 0)) ?_
   obtain ⟨r2,q2,H⟩:=Zn H
   refine Zq 12 rfl (Zf [4,4] (Q53.spec q2) h3 rfl (Z0 (W1 0 Bz) Zs)) ?_
   rintro _ w2 ⟨_,⟨A6,c_6,rfl,rfl⟩,h4⟩
   replace h4:=nf h4
   refine ⟨⟨[_,_],h4⟩,?_⟩
   refine Zw [1] ?_
   have h5:=h4.closeI 2 rfl
   refine J.region (Zh 3 ?_)
   refine Ze (Xu 2 (.pair (.int .u32) (.pair (.slice 5 (.int .u8)) (.pair .bool (.int .i64)))) r1.1 ((gt a0.2.1 r1.1).1,(gt a0.2.1 r1.1).2.1,false,(gt a0.2.1 r1.1).2.2.2) 0 h5 rfl p1 p2 (Vw rfl rfl)) ?_
   intro _ w3 h6
   replace h6:=nf h6
   replace h6:St w0 F0 [Yo (a0.2.1.set r1.1.toNat ((gt a0.2.1 r1.1).1,(gt a0.2.1 r1.1).2.1,false,(gt a0.2.1 r1.1).2.2.2)) A2 c_2,Yi b2 r2.2.1 r2.2.2.1 A6 c_6 r2.2.2.2.1 r2.2.2.2.2,O5 r2.2.2.1 A6 c_6,Ya b4 a0.2.2.2.2.1 A4 c_4 a0.2.2.2.2.2,Yb a0.2.2.2.2.1 A4 c_4,Yp b1 (.pointer (some ⟨b2,0,none⟩)) (a0.2.1.set r1.1.toNat ((gt a0.2.1 r1.1).1,(gt a0.2.1 r1.1).2.1,false,(gt a0.2.1 r1.1).2.2.2)) A2 c_2 (.map (some b3)) a0.2.2.2.1 A3 c_3 (.pointer (some ⟨b4,0,none⟩)),Yj .u32 (Value.int .i64) b3 a0.2.2.1,O3 a0.2.2.2.1 A3 c_3] _ _:=h6.retell (by simp only [List.length_set,List.length_nil,Yo,Yb,O3,O5,Yi,Yp,Ya] <;> rfl)
   refine Zi [] rfl ?_
   refine ⟨_,Za,?_⟩
   refine Zi [0,4] rfl ?_
   refine J.region (Zh 2 ?_)
   obtain ⟨r3,q3,H⟩:=Zn H
   refine Ze (Zf [5,1,1,0,2,2,0,0] (Q19.spec q3) h6 rfl Zs) ?_
   rintro _ w4 ⟨_,⟨A7,c_7,A8,c_8,A9,c_9,A10,c_10,rfl,rfl⟩,h7⟩
   replace h7:=nf h7
   refine Zi [0] rfl ?_
   refine J.seq (J.region ?_)
   refine Zh 3 ?_
   refine Zg (Zd 0 h7.wht) ?_
   refine Zi [0,6] rfl ?_
   refine J.seq (J.region ?_)
   refine Zh 3 ?_
   refine Zg (Zd 0 h7.wht) ?_
   refine Zh 1 ?_
   obtain ⟨⟨p3,p4⟩,H⟩:=Zt H
   have e2:=Z6 h7.wh (gO 5) p3 p4
   refine Zg (Zk e2 p3 p4) ?_
   refine Zg (Zl 0 h7.wht (gO 5) p3 p4) ?_
   refine Zi [0,6,7] rfl ?_
   refine J.seq (J.region ?_)
   refine Zh 4 ?_
   refine Zg (Zd 0 h7.wht) ?_
   refine Zh 1 ?_
   obtain ⟨⟨p5,p6⟩,H⟩:=Zt H
   have e3:=h7.cap (gO 5)
   refine Zg (Wf (r3.2.2.2.1.take ((w64 ((r3.2.2.2.1.length:Int) - 1))).toNat) (w64 ((r3.2.2.2.1.length:Int) - 1)) e3 p5 p6) ?_
   refine Zh 2 ?_
   refine Ze (Z3 0 h7) ?_
   intro _ w5 h8
   replace h8:=nf h8
   refine Zi [7] rfl ?_
   refine J.seq (Zc [2,3] ?_)
   refine J.ret ?_
   have h9:=h8.front (ty:=(.int .i64)) rfl 5 (w64 ((r3.2.2.2.1.length:Int) - 1)).toNat rfl (by omega)
   cases H
   exact ⟨_,_,_,Za,⟨_,_,_,_,_,_,_,_,rfl,rfl⟩,Zb h9 [1,1,1,1,1,0,0,0]⟩
  refine J.skip (⟨_,Za,?_⟩)
  refine Zi [0,4] rfl ?_
  refine J.region (Zh 2 ?_)
  obtain ⟨r4,q4,H⟩:=Zn H
  refine Ze (Zf [2,2,2,2,2,2,0,0] (Q19.spec q4) h1 rfl Zs) ?_
  rintro _ w6 ⟨_,⟨A11,c_11,A12,c_12,A13,c_13,A14,c_14,rfl,rfl⟩,h10⟩
  replace h10:=nf h10
  refine Zi [0] rfl ?_
  refine J.seq (J.region ?_)
  refine Zh 3 ?_
  refine Zg (Zd 0 h10.wht) ?_
  refine Zi [0,6] rfl ?_
  refine J.seq (J.region ?_)
  refine Zh 3 ?_
  refine Zg (Zd 0 h10.wht) ?_
  refine Zh 1 ?_
  obtain ⟨⟨p7,p8⟩,H⟩:=Zt H
  have e4:=Z6 h10.wh (gO 5) p7 p8
  refine Zg (Zk e4 p7 p8) ?_
  refine Zg (Zl 0 h10.wht (gO 5) p7 p8) ?_
  refine Zi [0,6,7] rfl ?_
  refine J.seq (J.region ?_)
  refine Zh 4 ?_
  refine Zg (Zd 0 h10.wht) ?_
  refine Zh 1 ?_
  obtain ⟨⟨p9,p10⟩,H⟩:=Zt H
  have e5:=h10.cap (gO 5)
  refine Zg (Wf (r4.2.2.2.1.take ((w64 ((r4.2.2.2.1.length:Int) - 1))).toNat) (w64 ((r4.2.2.2.1.length:Int) - 1)) e5 p9 p10) ?_
  refine Zh 2 ?_
  refine Ze (Z3 0 h10) ?_
  intro _ w7 h11
  replace h11:=nf h11
  refine Zi [7] rfl ?_
  refine J.seq (Zc [2,3] ?_)
  refine J.ret ?_
  have h12:=h11.front (ty:=(.int .i64)) rfl 5 (w64 ((r4.2.2.2.1.length:Int) - 1)).toNat rfl (by omega)
  cases H
  exact ⟨_,_,_,Za,⟨_,_,_,_,_,_,_,_,rfl,rfl⟩,Zb h12 [1,1,1,1,1,0,0,0]⟩
 refine J.skip (J.seq (J.region ?_))
 refine Zh 3 ?_
 refine Zg (Zd 0 h0.wht) ?_
 refine Zi [0,6] rfl ?_
 refine J.seq (J.region ?_)
 refine Zh 3 ?_
 refine Zg (Zd 0 h0.wht) ?_
 refine Zh 1 ?_
 obtain ⟨⟨p11,p12⟩,H⟩:=Zt H
 have e6:=Z6 h0.wh (gO 5) p11 p12
 refine Zg (Zk e6 p11 p12) ?_
 refine Zg (Zl 0 h0.wht (gO 5) p11 p12) ?_
 refine Zi [0,6,7] rfl ?_
 refine J.seq (J.region ?_)
 refine Zh 4 ?_
 refine Zg (Zd 0 h0.wht) ?_
 refine Zh 1 ?_
 obtain ⟨⟨p13,p14⟩,H⟩:=Zt H
 have e7:=h0.cap (gO 5)
 refine Zg (Wf (a0.2.2.2.1.take ((w64 ((a0.2.2.2.1.length:Int) - 1))).toNat) (w64 ((a0.2.2.2.1.length:Int) - 1)) e7 p13 p14) ?_
 refine Zh 2 ?_
 refine Ze (Z3 0 h0) ?_
 intro _ w8 h13
 replace h13:=nf h13
 refine Zi [7] rfl ?_
 refine J.seq (Zc [2,3] ?_)
 refine J.ret ?_
 have h14:=h13.front (ty:=(.int .i64)) rfl 5 (w64 ((a0.2.2.2.1.length:Int) - 1)).toNat rfl (by omega)
 cases H
 exact ⟨_,_,_,Za,⟨_,_,_,_,_,_,_,_,rfl,rfl⟩,Zb h14 [1,1,1,1,1,0,0,0]⟩

def Q14.f (a0:(Int×List (Int)×(Int×Int))×(List (Int×List (Int)×Bool×Int))×(List (Int×Int))×List (Int)×((List (Int×Int×Bool))×Int)) (a1:Int):Option (Int×((Int×List (Int)×(Int×Int))×(List (Int×List (Int)×Bool×Int))×(List (Int×Int))×List (Int)×((List (Int×Int×Bool))×Int))):=(Q22.f a0 a1).bind fun r1=>(if (!decide (r1=0))=true then (some (r1,a0)) else (if (Xe a0.2.2.1 a1)=true then (if 0≤(Zy (0:Int) a0.2.2.1 a1)∧(Zy (0:Int) a0.2.2.1 a1)<(a0.2.1.length:Int) then (if (decide (0<((gt a0.2.1 (Zy (0:Int) a0.2.2.1 a1)).2.2.2)))=true then (some (8,a0)) else (if (!(Xe a0.2.2.1 a1))=true then ((Q21.f a0).bind fun r4=>(if (!r4.2.1)=true then (some (7,r4.2.2)) else ((Q51.f (r4.2.2.1.1,r4.2.2.1.2.1,(r4.2.2.1.2.2.1,r4.2.2.1.2.2.2))).bind fun r2=>(if 0≤r2∧r2*1≤281474976710656 then (if 0≤r4.1∧r4.1<(r4.2.2.2.1.length:Int) then ((Q23.f (r4.2.2.2.2.2.2.1,r4.2.2.2.2.2.2.2) r4.1).bind fun r3=>(some (0,((r4.2.2.1.1,r4.2.2.1.2.1,(r4.2.2.1.2.2.1,r4.2.2.1.2.2.2)),(r4.2.2.2.1.set r4.1.toNat (a1,(List.replicate r2.toNat (0:Int)),true,1)),(Wk a1 r4.1 r4.2.2.2.2.1),r4.2.2.2.2.2.1,r3.2)))) else none) else none)))) else ((Q51.f (a0.1.1,a0.1.2.1,(a0.1.2.2.1,a0.1.2.2.2))).bind fun r2=>(if 0≤r2∧r2*1≤281474976710656 then (if 0≤(Zy (0:Int) a0.2.2.1 a1)∧(Zy (0:Int) a0.2.2.1 a1)<(a0.2.1.length:Int) then ((Q23.f (a0.2.2.2.2.1,a0.2.2.2.2.2) (Zy (0:Int) a0.2.2.1 a1)).bind fun r3=>(some (0,((a0.1.1,a0.1.2.1,(a0.1.2.2.1,a0.1.2.2.2)),(a0.2.1.set (Zy (0:Int) a0.2.2.1 a1).toNat (a1,(List.replicate r2.toNat (0:Int)),true,1)),(Wk a1 (Zy (0:Int) a0.2.2.1 a1) a0.2.2.1),a0.2.2.2.1,r3.2)))) else none) else none)))) else none) else (if (!(Xe a0.2.2.1 a1))=true then ((Q21.f a0).bind fun r5=>(if (!r5.2.1)=true then (some (7,r5.2.2)) else ((Q51.f (r5.2.2.1.1,r5.2.2.1.2.1,(r5.2.2.1.2.2.1,r5.2.2.1.2.2.2))).bind fun r2=>(if 0≤r2∧r2*1≤281474976710656 then (if 0≤r5.1∧r5.1<(r5.2.2.2.1.length:Int) then ((Q23.f (r5.2.2.2.2.2.2.1,r5.2.2.2.2.2.2.2) r5.1).bind fun r3=>(some (0,((r5.2.2.1.1,r5.2.2.1.2.1,(r5.2.2.1.2.2.1,r5.2.2.1.2.2.2)),(r5.2.2.2.1.set r5.1.toNat (a1,(List.replicate r2.toNat (0:Int)),true,1)),(Wk a1 r5.1 r5.2.2.2.2.1),r5.2.2.2.2.2.1,r3.2)))) else none) else none)))) else ((Q51.f (a0.1.1,a0.1.2.1,(a0.1.2.2.1,a0.1.2.2.2))).bind fun r2=>(if 0≤r2∧r2*1≤281474976710656 then (if 0≤(Zy (0:Int) a0.2.2.1 a1)∧(Zy (0:Int) a0.2.2.1 a1)<(a0.2.1.length:Int) then ((Q23.f (a0.2.2.2.2.1,a0.2.2.2.2.2) (Zy (0:Int) a0.2.2.1 a1)).bind fun r3=>(some (0,((a0.1.1,a0.1.2.1,(a0.1.2.2.1,a0.1.2.2.2)),(a0.2.1.set (Zy (0:Int) a0.2.2.1 a1).toNat (a1,(List.replicate r2.toNat (0:Int)),true,1)),(Wk a1 (Zy (0:Int) a0.2.2.1 a1) a0.2.2.1),a0.2.2.2.1,r3.2)))) else none) else none)))))
theorem Q14.spec {a0:(Int×List (Int)×(Int×Int))×(List (Int×List (Int)×Bool×Int))×(List (Int×Int))×List (Int)×((List (Int×Int×Bool))×Int)} {a1:Int} {b1:Nat} {b2:Nat} {b3:Nat} {b4:Nat} {A1:Option Addr} {c_1:Nat} {A2:Option Addr} {c_2:Nat} {A3:Option Addr} {c_3:Nat} {A4:Option Addr} {c_4:Nat} {r:Int×((Int×List (Int)×(Int×Int))×(List (Int×List (Int)×Bool×Int))×(List (Int×Int))×List (Int)×((List (Int×Int×Bool))×Int))} (H:Q14.f a0 a1=some r) :
  Spec Tryz.prog 140 [.pointer (some ⟨b1,0,none⟩),.int .u32 a1] [Yp b1 (.pointer (some ⟨b2,0,none⟩)) a0.2.1 A2 c_2 (.map (some b3)) a0.2.2.2.1 A3 c_3 (.pointer (some ⟨b4,0,none⟩)),Yi b2 a0.1.1 a0.1.2.1 A1 c_1 a0.1.2.2.1 a0.1.2.2.2,O5 a0.1.2.1 A1 c_1,Yo a0.2.1 A2 c_2,Yj .u32 (Value.int .i64) b3 a0.2.2.1,O3 a0.2.2.2.1 A3 c_3,Ya b4 a0.2.2.2.2.1 A4 c_4 a0.2.2.2.2.2,Yb a0.2.2.2.2.1 A4 c_4] [] (fun v l=>∃(A_0:Option Addr) (c_0:Nat) (A_1:Option Addr) (c_1:Nat) (A_2:Option Addr) (c_2:Nat) (A_3:Option Addr) (c_3:Nat),v=.int .i64 r.1∧l=[Yp b1 (.pointer (some ⟨b2,0,none⟩)) r.2.2.1 A_1 c_1 (.map (some b3)) r.2.2.2.2.1 A_2 c_2 (.pointer (some ⟨b4,0,none⟩)),Yi b2 r.2.1.1 r.2.1.2.1 A_0 c_0 r.2.1.2.2.1 r.2.1.2.2.2,O5 r.2.1.2.1 A_0 c_0,Yo r.2.2.1 A_1 c_1,Yj .u32 (Value.int .i64) b3 r.2.2.2.1,O3 r.2.2.2.2.1 A_2 c_2,Ya b4 r.2.2.2.2.2.1 A_3 c_3 r.2.2.2.2.2.2,Yb r.2.2.2.2.2.1 A_3 c_3]):=by
 refine Zp Tryz.func140 fun w0 F0 h0=>?_
 unfold Q14.f at H
 refine J.seq (Zc [0,1] ?_)
 refine J.seq (J.seq (J.region ?_))
 refine Zh 2 ?_
 obtain ⟨r1,q1,H⟩:=Zn H
 refine Ze (Zf [0,0,0,0,0,0,0,0] (Q22.spec q1) h0 rfl Zs) ?_
 rintro _ w1 ⟨_,⟨rfl,rfl⟩,h1⟩
 replace h1:=nf h1
 refine Zi [0,1,5] rfl ?_
 refine J.seq (Zc [0,1,5,12] ?_)
 refine jIf H (fun c1 H=>?_) fun c1 H=>?_
 ·refine J.seq (Zc [4] ?_)
  refine J.ret ?_
  cases H
  exact ⟨_,_,_,Za,⟨_,_,_,_,_,_,_,_,rfl,rfl⟩,Zb h1 [0,0,0,0,0,0,0,0]⟩
 refine J.skip (J.seq (J.region ?_))
 refine Zh 3 ?_
 refine Zg (Zd 0 h1.wht) ?_
 refine Zh 1 ?_
 refine Zg (Xs (0:Int) 4 h1.wht) ?_
 refine Zi [0,1,6,7] rfl ?_
 refine J.seq (J.midS (fun env w=>∃(x1:Int) (x2:List (Int)) (A5:Option Addr) (c_5:Nat) (x3:Int) (x4:Int) (x5:List (Int×List (Int)×Bool×Int)) (A6:Option Addr) (c_6:Nat) (x6:List (Int×Int)) (x7:List (Int)) (A7:Option Addr) (c_7:Nat) (x8:List (Int×Int×Bool)) (A8:Option Addr) (c_8:Nat) (x9:Int) (x10:Int),env=[(0,.pointer (some ⟨b1,0,none⟩)),(1,.int .u32 a1),(6,.int .i64 x10)]∧St w0 F0 [Yp b1 (.pointer (some ⟨b2,0,none⟩)) x5 A6 c_6 (.map (some b3)) x7 A7 c_7 (.pointer (some ⟨b4,0,none⟩)),Yi b2 x1 x2 A5 c_5 x3 x4,Yj .u32 (Value.int .i64) b3 x6,Ya b4 x8 A8 c_8 x9,O5 x2 A5 c_5,Yo x5 A6 c_6,O3 x7 A7 c_7,Yb x8 A8 c_8] [] w∧((Q51.f (x1,x2,(x3,x4))).bind fun r2=>(if 0≤r2∧r2*1≤281474976710656 then (if 0≤x10∧x10<(x5.length:Int) then ((Q23.f (x8,x9) x10).bind fun r3=>(some (0,((x1,x2,(x3,x4)),(x5.set x10.toNat (a1,(List.replicate r2.toNat (0:Int)),true,1)),(Wk a1 x10 x6),x7,r3.2)))) else none) else none))=some r) ?_ ?_)
 ·refine J.block (J.seq (J.region ?_))
  refine Zh 2 ?_
  refine Z7 25 H (fun c2 H=>?_) fun c2 H=>?_
  ·refine Zh 3 ?_
   refine Zg (Zd 0 h1.wht) ?_
   refine Zh 1 ?_
   obtain ⟨⟨p5,p6⟩,H⟩:=Zt H
   have e2:=Z6 h1.wh (gO 3) p5 p6
   refine Zg (Zk e2 p5 p6) ?_
   refine Zh 1 ?_
   refine Zg (Yx 3 h1.wht (gO 3) p5 p6) ?_
   refine Zi [0,1,6,7,23] rfl ?_
   refine jIf H (fun c3 H=>?_) fun c3 H=>?_
   ·refine J.seq (Zc [4] ?_)
    refine J.ret ?_
    cases H
    exact ⟨_,_,_,Za,⟨_,_,_,_,_,_,_,_,rfl,rfl⟩,Zb h1 [0,0,0,0,0,0,0,0]⟩
   refine J.seq (Zc [0,1,6,36] ?_)
   refine jIf H (fun c4 H=>?_) fun c4 H=>?_
   ·refine J.seq (J.region ?_)
    refine Zh 1 ?_
    obtain ⟨r4,q4,H⟩:=Zn H
    refine Ze (Zf [0,0,0,0,0,0,0,0] (Q21.spec q4) h1 rfl Zs) ?_
    rintro _ w11 ⟨_,⟨A10,c_10,A11,c_11,A12,c_12,A13,c_13,rfl,rfl⟩,h13⟩
    replace h13:=nf h13
    refine Zi [0,1,6,7] rfl ?_
    refine J.seq (Zc [0,1,6,45] ?_)
    refine jIf H (fun c5 H=>?_) fun c5 H=>?_
    ·refine J.seq (Zc [4] ?_)
     refine J.ret ?_
     cases H
     exact ⟨_,_,_,Za,⟨_,_,_,_,_,_,_,_,rfl,rfl⟩,Zb h13 [0,0,0,0,0,0,0,0]⟩
    refine Y7 [0,1,6] ?_
    refine J.skip ?_
    have h14:=(sOR h13 [0,0,2,3,0,0,0,0] [])
    exact ⟨r4.2.2.1.1,r4.2.2.1.2.1,A10,c_10,r4.2.2.1.2.2.1,r4.2.2.1.2.2.2,r4.2.2.2.1,A11,c_11,r4.2.2.2.2.1,r4.2.2.2.2.2.1,A12,c_12,r4.2.2.2.2.2.2.1,A13,c_13,r4.2.2.2.2.2.2.2,r4.1,rfl,h14,H⟩
   refine Y7 [0,1,6] ?_
   refine J.skip ?_
   have h15:=(sOR h1 [0,0,2,3,0,0,0,0] [])
   exact ⟨a0.1.1,a0.1.2.1,A1,c_1,a0.1.2.2.1,a0.1.2.2.2,a0.2.1,A2,c_2,a0.2.2.1,a0.2.2.2.1,A3,c_3,a0.2.2.2.2.1,A4,c_4,a0.2.2.2.2.2,(Zy (0:Int) a0.2.2.1 a1),rfl,h15,H⟩
  refine Zi [0,1,6,7,23] rfl ?_
  refine Zz ?_
  refine J.seq (Zc [0,1,6,36] ?_)
  refine jIf H (fun c6 H=>?_) fun c6 H=>?_
  ·refine J.seq (J.region ?_)
   refine Zh 1 ?_
   obtain ⟨r5,q5,H⟩:=Zn H
   refine Ze (Zf [0,0,0,0,0,0,0,0] (Q21.spec q5) h1 rfl Zs) ?_
   rintro _ w12 ⟨_,⟨A14,c_14,A15,c_15,A16,c_16,A17,c_17,rfl,rfl⟩,h16⟩
   replace h16:=nf h16
   refine Zi [0,1,6,7] rfl ?_
   refine J.seq (Zc [0,1,6,45] ?_)
   refine jIf H (fun c7 H=>?_) fun c7 H=>?_
   ·refine J.seq (Zc [4] ?_)
    refine J.ret ?_
    cases H
    exact ⟨_,_,_,Za,⟨_,_,_,_,_,_,_,_,rfl,rfl⟩,Zb h16 [0,0,0,0,0,0,0,0]⟩
   refine Y7 [0,1,6] ?_
   refine J.skip ?_
   have h17:=(sOR h16 [0,0,2,3,0,0,0,0] [])
   exact ⟨r5.2.2.1.1,r5.2.2.1.2.1,A14,c_14,r5.2.2.1.2.2.1,r5.2.2.1.2.2.2,r5.2.2.2.1,A15,c_15,r5.2.2.2.2.1,r5.2.2.2.2.2.1,A16,c_16,r5.2.2.2.2.2.2.1,A17,c_17,r5.2.2.2.2.2.2.2,r5.1,rfl,h17,H⟩
  refine Y7 [0,1,6] ?_
  refine J.skip ?_
  have h18:=(sOR h1 [0,0,2,3,0,0,0,0] [])
  exact ⟨a0.1.1,a0.1.2.1,A1,c_1,a0.1.2.2.1,a0.1.2.2.2,a0.2.1,A2,c_2,a0.2.2.1,a0.2.2.2.1,A3,c_3,a0.2.2.2.2.1,A4,c_4,a0.2.2.2.2.2,(Zy (0:Int) a0.2.2.1 a1),rfl,h18,H⟩
 rintro env w3 ⟨x1,x2,A5,c_5,x3,x4,x5,A6,c_6,x6,x7,A7,c_7,x8,A8,c_8,x9,x10,rfl,h2,H⟩
 refine J.seq (J.region ?_)
 refine Zh 6 ?_
 refine Zg (Zd 0 h2.wht) ?_
 obtain ⟨r2,q2,H⟩:=Zn H
 refine Ze (Zf [1,3] (Q51.spec q2) h2 rfl Zs) ?_
 rintro _ w4 ⟨_,⟨rfl,rfl⟩,h3⟩
 replace h3:=nf h3
 obtain ⟨⟨p1,p2⟩,H⟩:=Zt H
 refine Ze (Vk Yu (ty:=(.int .u8)) rfl (0:Int) rfl rfl rfl rfl rfl rfl rfl (by decide) h3 p1 p2) ?_
 rintro _ w5 ⟨b5,rfl,h4⟩
 replace h4:=nf h4
 refine Zh 1 ?_
 refine Z1 Tryz.func127 ?_
 refine J.seq (J.region ?_)
 refine Ze (Ye h4) ?_
 rintro _ w6 ⟨b6,rfl,h5⟩
 replace h5:=nf h5
 refine Zi [0,1,5] rfl ?_
 refine J.seq (J.region ?_)
 refine Zh 1 ?_
 refine Ze (Z3 0 h5) ?_
 intro _ w7 h6
 replace h6:=nf h6
 refine Zi [0,1,5] rfl ?_
 refine J.seq (Zv (Zb h6 [0,1,1,1,1,1,2,2]) ?_)
 have h7:=h6.drew
 refine Zu [0,1,2,4] ?_
 refine Zj 3 rfl (Zd 3 wI) ?_
 refine Zj 5 rfl (Zd 0 wI) ?_
 obtain ⟨⟨p3,p4⟩,H⟩:=Zt H
 have e1:=Z6 h7.wh (gO 7) p3 p4
 refine Zj 6 rfl (Zk e1 p3 p4) ?_
 have h8:=(h7.only [7,1,0,0,0,0,0,0,0,0] rfl).both
 refine Zq 7 rfl (Xy 0 (.pair (.int .u32) (.pair (.slice 5 (.int .u8)) (.pair .bool (.int .i64)))) x10 (a1,(List.replicate r2.toNat (0:Int)),true,1) h8 p3 p4 Jo) ?_
 intro _ w8 h9
 replace h9:=nf h9
 refine ⟨⟨[_],h9⟩,?_⟩
 replace h9:St w0 F0 [Yo (x5.set x10.toNat (a1,(List.replicate r2.toNat (0:Int)),true,1)) A6 c_6,B9 b6 a1 (List.replicate r2.toNat (0:Int)) (some ⟨b5,0,none⟩) (r2.toNat) true 1,Yi b2 x1 x2 A5 c_5 x3 x4,O5 x2 A5 c_5,Yp b1 (.pointer (some ⟨b2,0,none⟩)) (x5.set x10.toNat (a1,(List.replicate r2.toNat (0:Int)),true,1)) A6 c_6 (.map (some b3)) x7 A7 c_7 (.pointer (some ⟨b4,0,none⟩)),Yj .u32 (Value.int .i64) b3 x6,Ya b4 x8 A8 c_8 x9,O3 x7 A7 c_7,Yb x8 A8 c_8] _ _:=h9.retell (by simp only [List.length_set,List.length_nil,Yo,Yb,O3,O5,Yi,B9,Yp,Ya] <;> rfl)
 refine Zw [0,1,5] ?_
 refine J.seq (Zv (Zb h9 [0,0,0,0,0,1,1,1]) ?_)
 have h10:=h9.drew
 refine Zu [0,1,2,4,6] ?_
 refine Zj 3 rfl (Zd 4 wI) ?_
 refine Zj 5 rfl (Zd 1 wI) ?_
 refine Zq 7 rfl (J3 Yu (v:=x10) (ix:=a1) 5 rfl h10 rfl rfl rfl rfl rfl rfl rfl rfl rfl) ?_
 intro _ w9 h11
 replace h11:=nf h11
 refine ⟨⟨[_],h11⟩,?_⟩
 refine Zw [0,1] ?_
 refine J.region (Zh 3 ?_)
 refine Zg (Zd 5 h11.wht) ?_
 refine Zh 1 ?_
 obtain ⟨r3,q3,H⟩:=Zn H
 refine Ze (Zf [6,7] (Q23.spec q3) h11 rfl Zs) ?_
 rintro _ w10 ⟨_,⟨A9,c_9,rfl,rfl⟩,h12⟩
 replace h12:=nf h12
 refine Zi [] rfl ?_
 refine ⟨_,Za,?_⟩
 refine Zi [] rfl ?_
 refine J.seq (Zc [4] ?_)
 refine J.ret ?_
 cases H
 exact ⟨_,_,_,Za,⟨_,_,_,_,_,_,_,_,rfl,rfl⟩,Zb h12 [7,5,5,3,2,3,0,0]⟩

def Q28.f (a0:(List (Int×Int×Bool))×Int) (a1:Int) (a2:Int):Option (((List (Int×Int×Bool))×Int)):=if 0≤a2∧a2<(a0.1.length:Int) then (if 0≤a1∧a1<(a0.1.length:Int) then (if 0≤a2∧a2<((a0.1.set a1.toNat (a2,(gt a0.1 a2).2.1,true)).length:Int) then (if 0≤((gt a0.1 a2).2.1)∧((gt a0.1 a2).2.1)<(((a0.1.set a1.toNat (a2,(gt a0.1 a2).2.1,true)).set a2.toNat ((gt (a0.1.set a1.toNat (a2,(gt a0.1 a2).2.1,true)) a2).1,a1,(gt (a0.1.set a1.toNat (a2,(gt a0.1 a2).2.1,true)) a2).2.2)).length:Int) then (some ((((a0.1.set a1.toNat (a2,(gt a0.1 a2).2.1,true)).set a2.toNat ((gt (a0.1.set a1.toNat (a2,(gt a0.1 a2).2.1,true)) a2).1,a1,(gt (a0.1.set a1.toNat (a2,(gt a0.1 a2).2.1,true)) a2).2.2)).set ((gt a0.1 a2).2.1).toNat (a1,(gt ((a0.1.set a1.toNat (a2,(gt a0.1 a2).2.1,true)).set a2.toNat ((gt (a0.1.set a1.toNat (a2,(gt a0.1 a2).2.1,true)) a2).1,a1,(gt (a0.1.set a1.toNat (a2,(gt a0.1 a2).2.1,true)) a2).2.2)) ((gt a0.1 a2).2.1)).2.1,(gt ((a0.1.set a1.toNat (a2,(gt a0.1 a2).2.1,true)).set a2.toNat ((gt (a0.1.set a1.toNat (a2,(gt a0.1 a2).2.1,true)) a2).1,a1,(gt (a0.1.set a1.toNat (a2,(gt a0.1 a2).2.1,true)) a2).2.2)) ((gt a0.1 a2).2.1)).2.2)),(w64 (a0.2+1)))) else none) else none) else none) else none
theorem Q28.spec {a0:(List (Int×Int×Bool))×Int} {a1:Int} {a2:Int} {b1:Nat} {A1:Option Addr} {c_1:Nat} {r:((List (Int×Int×Bool))×Int)} (H:Q28.f a0 a1 a2=some r) :
  Spec Tryz.prog 174 [.pointer (some ⟨b1,0,none⟩),.int .i64 a1,.int .i64 a2] [Ya b1 a0.1 A1 c_1 a0.2,Yb a0.1 A1 c_1] [] (fun v l=>∃(A_0:Option Addr) (c_0:Nat),v=.tuple #[]∧l=[Ya b1 r.1 A_0 c_0 r.2,Yb r.1 A_0 c_0]):=by
 refine Zp Tryz.func174 fun w0 F0 h0=>?_
 unfold Q28.f at H
 refine J.seq (J.region ?_)
 refine Zh 3 ?_
 refine Zg (Zd 0 h0.wht) ?_
 refine Zh 1 ?_
 obtain ⟨⟨p1,p2⟩,H⟩:=Zt H
 have e1:=Z6 h0.wh (gO 1) p1 p2
 refine Zg (Zk e1 p1 p2) ?_
 refine Zh 1 ?_
 refine Zg (Zl 1 h0.wht (gO 1) p1 p2) ?_
 refine Zi [0,1,2,6] rfl ?_
 refine J.seq (J.region ?_)
 refine Zh 3 ?_
 refine Zg (Zd 0 h0.wht) ?_
 refine Zh 4 ?_
 obtain ⟨⟨p3,p4⟩,H⟩:=Zt H
 refine Zg (Zk e1 p3 p4) ?_
 refine Ze (Zr 0 (.pair (.int .i64) (.pair (.int .i64) .bool)) a1 (a2,(gt a0.1 a2).2.1,true) 1 h0 rfl p3 p4) ?_
 intro _ w1 h1
 replace h1:=nf h1
 replace h1:St w0 F0 [Yb (a0.1.set a1.toNat (a2,(gt a0.1 a2).2.1,true)) A1 c_1,Ya b1 (a0.1.set a1.toNat (a2,(gt a0.1 a2).2.1,true)) A1 c_1 a0.2] _ _:=h1.retell (by simp only [List.length_set,List.length_nil,Yb,Ya] <;> rfl)
 refine Zi [0,1,2,6] rfl ?_
 refine J.seq (J.region ?_)
 refine Zh 3 ?_
 refine Zg (Zd 1 h1.wht) ?_
 refine Zh 2 ?_
 obtain ⟨⟨p5,p6⟩,H⟩:=Zt H
 refine Zg (Zk e1 p5 p6) ?_
 refine Zh 1 ?_
 refine Ze (Zr 1 (.pair (.int .i64) (.pair (.int .i64) .bool)) a2 ((gt (a0.1.set a1.toNat (a2,(gt a0.1 a2).2.1,true)) a2).1,a1,(gt (a0.1.set a1.toNat (a2,(gt a0.1 a2).2.1,true)) a2).2.2) 0 h1 rfl p5 p6) ?_
 intro _ w2 h2
 replace h2:=nf h2
 replace h2:St w0 F0 [Yb ((a0.1.set a1.toNat (a2,(gt a0.1 a2).2.1,true)).set a2.toNat ((gt (a0.1.set a1.toNat (a2,(gt a0.1 a2).2.1,true)) a2).1,a1,(gt (a0.1.set a1.toNat (a2,(gt a0.1 a2).2.1,true)) a2).2.2)) A1 c_1,Ya b1 ((a0.1.set a1.toNat (a2,(gt a0.1 a2).2.1,true)).set a2.toNat ((gt (a0.1.set a1.toNat (a2,(gt a0.1 a2).2.1,true)) a2).1,a1,(gt (a0.1.set a1.toNat (a2,(gt a0.1 a2).2.1,true)) a2).2.2)) A1 c_1 a0.2] _ _:=h2.retell (by simp only [List.length_set,List.length_nil,Yb,Ya] <;> rfl)
 refine Zi [0,1,6] rfl ?_
 refine J.seq (J.region ?_)
 refine Zh 3 ?_
 refine Zg (Zd 1 h2.wht) ?_
 refine Zh 2 ?_
 obtain ⟨⟨p7,p8⟩,H⟩:=Zt H
 refine Zg (Zk e1 p7 p8) ?_
 refine Zh 1 ?_
 refine Ze (Zr 0 (.pair (.int .i64) (.pair (.int .i64) .bool)) ((gt a0.1 a2).2.1) (a1,(gt ((a0.1.set a1.toNat (a2,(gt a0.1 a2).2.1,true)).set a2.toNat ((gt (a0.1.set a1.toNat (a2,(gt a0.1 a2).2.1,true)) a2).1,a1,(gt (a0.1.set a1.toNat (a2,(gt a0.1 a2).2.1,true)) a2).2.2)) ((gt a0.1 a2).2.1)).2.1,(gt ((a0.1.set a1.toNat (a2,(gt a0.1 a2).2.1,true)).set a2.toNat ((gt (a0.1.set a1.toNat (a2,(gt a0.1 a2).2.1,true)) a2).1,a1,(gt (a0.1.set a1.toNat (a2,(gt a0.1 a2).2.1,true)) a2).2.2)) ((gt a0.1 a2).2.1)).2.2) 0 h2 rfl p7 p8) ?_
 intro _ w3 h3
 replace h3:=nf h3
 replace h3:St w0 F0 [Yb (((a0.1.set a1.toNat (a2,(gt a0.1 a2).2.1,true)).set a2.toNat ((gt (a0.1.set a1.toNat (a2,(gt a0.1 a2).2.1,true)) a2).1,a1,(gt (a0.1.set a1.toNat (a2,(gt a0.1 a2).2.1,true)) a2).2.2)).set ((gt a0.1 a2).2.1).toNat (a1,(gt ((a0.1.set a1.toNat (a2,(gt a0.1 a2).2.1,true)).set a2.toNat ((gt (a0.1.set a1.toNat (a2,(gt a0.1 a2).2.1,true)) a2).1,a1,(gt (a0.1.set a1.toNat (a2,(gt a0.1 a2).2.1,true)) a2).2.2)) ((gt a0.1 a2).2.1)).2.1,(gt ((a0.1.set a1.toNat (a2,(gt a0.1 a2).2.1,true)).set a2.toNat ((gt (a0.1.set a1.toNat (a2,(gt a0.1 a2).2.1,true)) a2).1,a1,(gt (a0.1.set a1.toNat (a2,(gt a0.1 a2).2.1,true)) a2).2.2)) ((gt a0.1 a2).2.1)).2.2)) A1 c_1,Ya b1 (((a0.1.set a1.toNat (a2,(gt a0.1 a2).2.1,true)).set a2.toNat ((gt (a0.1.set a1.toNat (a2,(gt a0.1 a2).2.1,true)) a2).1,a1,(gt (a0.1.set a1.toNat (a2,(gt a0.1 a2).2.1,true)) a2).2.2)).set ((gt a0.1 a2).2.1).toNat (a1,(gt ((a0.1.set a1.toNat (a2,(gt a0.1 a2).2.1,true)).set a2.toNat ((gt (a0.1.set a1.toNat (a2,(gt a0.1 a2).2.1,true)) a2).1,a1,(gt (a0.1.set a1.toNat (a2,(gt a0.1 a2).2.1,true)) a2).2.2)) ((gt a0.1 a2).2.1)).2.1,(gt ((a0.1.set a1.toNat (a2,(gt a0.1 a2).2.1,true)).set a2.toNat ((gt (a0.1.set a1.toNat (a2,(gt a0.1 a2).2.1,true)) a2).1,a1,(gt (a0.1.set a1.toNat (a2,(gt a0.1 a2).2.1,true)) a2).2.2)) ((gt a0.1 a2).2.1)).2.2)) A1 c_1 a0.2] _ _:=h3.retell (by simp only [List.length_set,List.length_nil,Yb,Ya] <;> rfl)
 refine Zi [0] rfl ?_
 refine J.region (Zh 3 ?_)
 refine Zg (Zd 1 h3.wht) ?_
 refine Zh 3 ?_
 refine Ze (Z3 1 h3) ?_
 intro _ w4 h4
 replace h4:=nf h4
 refine Zi [] rfl ?_
 cases H
 exact ⟨_,_,_,Za,⟨_,_,rfl,rfl⟩,Zb h4 [0,0]⟩

def Q24.f (a0:(List (Int×Int×Bool))×Int) (a1:Int):Option (Int×((List (Int×Int×Bool))×Int)):=(Q30.f a0 a1).bind fun r1=>(if (decide (r1=0))=true then ((Q27.f a0 a1).bind fun r2=>((Q29.f r2).bind fun r3=>((Q28.f r2 a1 r3).bind fun r4=>(some (r1,r4))))) else (some (r1,a0)))
theorem Q24.spec {a0:(List (Int×Int×Bool))×Int} {a1:Int} {b1:Nat} {A1:Option Addr} {c_1:Nat} {r:Int×((List (Int×Int×Bool))×Int)} (H:Q24.f a0 a1=some r) :
  Spec Tryz.prog 129 [.pointer (some ⟨b1,0,none⟩),.int .i64 a1] [Ya b1 a0.1 A1 c_1 a0.2,Yb a0.1 A1 c_1] [] (fun v l=>∃(A_0:Option Addr) (c_0:Nat),v=.int .i64 r.1∧l=[Ya b1 r.2.1 A_0 c_0 r.2.2,Yb r.2.1 A_0 c_0]):=by
 refine Zp Tryz.func129 fun w0 F0 h0=>?_
 unfold Q24.f at H
 refine J.seq (Zc [0,1] ?_)
 refine J.seq (J.region ?_)
 refine Zh 2 ?_
 obtain ⟨r1,q1,H⟩:=Zn H
 refine Ze (Zf [0,0] (Q30.spec q1) h0 rfl Zs) ?_
 rintro _ w1 ⟨_,⟨rfl,rfl⟩,h1⟩
 replace h1:=nf h1
 refine Zi [0,1,5] rfl ?_
 refine J.seq (J.seq (Zc [0,1,5,10] ?_))
 refine jIf H (fun c1 H=>?_) fun c1 H=>?_
 ·refine J.seq (J.region ?_)
  refine Zh 2 ?_
  obtain ⟨r2,q2,H⟩:=Zn H
  refine Ze (Zf [0,0] (Q27.spec q2) h1 rfl Zs) ?_
  rintro _ w2 ⟨_,⟨A2,c_2,rfl,rfl⟩,h2⟩
  replace h2:=nf h2
  refine Zi [0,1,5] rfl ?_
  refine J.region (Zh 3 ?_)
  obtain ⟨r3,q3,H⟩:=Zn H
  refine Ze (Zf [0,0] (Q29.spec q3) h2 rfl Zs) ?_
  rintro _ w3 ⟨_,⟨rfl,rfl⟩,h3⟩
  replace h3:=nf h3
  obtain ⟨r4,q4,H⟩:=Zn H
  refine Ze (Zf [0,0] (Q28.spec q4) h3 rfl Zs) ?_
  rintro _ w4 ⟨_,⟨A3,c_3,rfl,rfl⟩,h4⟩
  replace h4:=nf h4
  refine Zi [5] rfl ?_
  refine J.seq (Zc [4] ?_)
  refine J.ret ?_
  cases H
  exact ⟨_,_,_,Za,⟨_,_,rfl,rfl⟩,Zb h4 [0,0]⟩
 refine J.skip (J.seq (Zc [4] ?_))
 refine J.ret ?_
 cases H
 exact ⟨_,_,_,Za,⟨_,_,rfl,rfl⟩,Zb h1 [0,0]⟩

def Q17.f (a0:(Int×List (Int)×(Int×Int))×(List (Int×List (Int)×Bool×Int))×(List (Int×Int))×List (Int)×((List (Int×Int×Bool))×Int)) (a1:Int):Option (Int×((Int×List (Int)×(Int×Int))×(List (Int×List (Int)×Bool×Int))×(List (Int×Int))×List (Int)×((List (Int×Int×Bool))×Int))):=(Q20.f a0).bind fun r1=>(if r1=true then (some (1,a0)) else (if (!(Xe a0.2.2.1 a1))=true then (some (8,a0)) else (if 0≤(Zy (0:Int) a0.2.2.1 a1)∧(Zy (0:Int) a0.2.2.1 a1)<(a0.2.1.length:Int) then (if (decide (((gt a0.2.1 (Zy (0:Int) a0.2.2.1 a1)).2.2.2)=0))=true then (some (8,a0)) else (if (decide (((gt (a0.2.1.set (Zy (0:Int) a0.2.2.1 a1).toNat ((gt a0.2.1 (Zy (0:Int) a0.2.2.1 a1)).1,(gt a0.2.1 (Zy (0:Int) a0.2.2.1 a1)).2.1,(gt a0.2.1 (Zy (0:Int) a0.2.2.1 a1)).2.2.1,(w64 (((gt a0.2.1 (Zy (0:Int) a0.2.2.1 a1)).2.2.2) - 1)))) (Zy (0:Int) a0.2.2.1 a1)).2.2.2)=0))=true then ((Q24.f a0.2.2.2.2 (Zy (0:Int) a0.2.2.1 a1)).bind fun r2=>(some (0,(a0.1,(a0.2.1.set (Zy (0:Int) a0.2.2.1 a1).toNat ((gt a0.2.1 (Zy (0:Int) a0.2.2.1 a1)).1,(gt a0.2.1 (Zy (0:Int) a0.2.2.1 a1)).2.1,(gt a0.2.1 (Zy (0:Int) a0.2.2.1 a1)).2.2.1,(w64 (((gt a0.2.1 (Zy (0:Int) a0.2.2.1 a1)).2.2.2) - 1)))),a0.2.2.1,a0.2.2.2.1,r2.2)))) else (some (0,(a0.1,(a0.2.1.set (Zy (0:Int) a0.2.2.1 a1).toNat ((gt a0.2.1 (Zy (0:Int) a0.2.2.1 a1)).1,(gt a0.2.1 (Zy (0:Int) a0.2.2.1 a1)).2.1,(gt a0.2.1 (Zy (0:Int) a0.2.2.1 a1)).2.2.1,(w64 (((gt a0.2.1 (Zy (0:Int) a0.2.2.1 a1)).2.2.2) - 1)))),a0.2.2.1,a0.2.2.2.1,a0.2.2.2.2))))) else none)))
theorem Q17.spec {a0:(Int×List (Int)×(Int×Int))×(List (Int×List (Int)×Bool×Int))×(List (Int×Int))×List (Int)×((List (Int×Int×Bool))×Int)} {a1:Int} {b1:Nat} {b2:Nat} {b3:Nat} {b4:Nat} {A1:Option Addr} {c_1:Nat} {A2:Option Addr} {c_2:Nat} {A3:Option Addr} {c_3:Nat} {A4:Option Addr} {c_4:Nat} {r:Int×((Int×List (Int)×(Int×Int))×(List (Int×List (Int)×Bool×Int))×(List (Int×Int))×List (Int)×((List (Int×Int×Bool))×Int))} (H:Q17.f a0 a1=some r) :
  Spec Tryz.prog 79 [.pointer (some ⟨b1,0,none⟩),.int .u32 a1] [Yp b1 (.pointer (some ⟨b2,0,none⟩)) a0.2.1 A2 c_2 (.map (some b3)) a0.2.2.2.1 A3 c_3 (.pointer (some ⟨b4,0,none⟩)),Yi b2 a0.1.1 a0.1.2.1 A1 c_1 a0.1.2.2.1 a0.1.2.2.2,O5 a0.1.2.1 A1 c_1,Yo a0.2.1 A2 c_2,Yj .u32 (Value.int .i64) b3 a0.2.2.1,O3 a0.2.2.2.1 A3 c_3,Ya b4 a0.2.2.2.2.1 A4 c_4 a0.2.2.2.2.2,Yb a0.2.2.2.2.1 A4 c_4] [] (fun v l=>∃(A_0:Option Addr) (c_0:Nat) (A_1:Option Addr) (c_1:Nat) (A_2:Option Addr) (c_2:Nat) (A_3:Option Addr) (c_3:Nat),v=.int .i64 r.1∧l=[Yp b1 (.pointer (some ⟨b2,0,none⟩)) r.2.2.1 A_1 c_1 (.map (some b3)) r.2.2.2.2.1 A_2 c_2 (.pointer (some ⟨b4,0,none⟩)),Yi b2 r.2.1.1 r.2.1.2.1 A_0 c_0 r.2.1.2.2.1 r.2.1.2.2.2,O5 r.2.1.2.1 A_0 c_0,Yo r.2.2.1 A_1 c_1,Yj .u32 (Value.int .i64) b3 r.2.2.2.1,O3 r.2.2.2.2.1 A_2 c_2,Ya b4 r.2.2.2.2.2.1 A_3 c_3 r.2.2.2.2.2.2,Yb r.2.2.2.2.2.1 A_3 c_3]):=by
 refine Zp Tryz.func79 fun w0 F0 h0=>?_
 unfold Q17.f at H
 refine J.seq (Zc [0,1] ?_)
 refine J.seq (J.region ?_)
 refine Zh 2 ?_
 refine Z1 Tryz.func128 ?_
 refine J.seq (Zc [0,1] ?_)
 refine J.seq (J.seq (J.region ?_))
 refine Zh 1 ?_
 obtain ⟨r1,q1,H⟩:=Zn H
 refine Ze (Zf [0,0,0,0,0,0,0,0] (Q20.spec q1) h0 rfl Zs) ?_
 rintro _ w1 ⟨_,⟨rfl,rfl⟩,h1⟩
 replace h1:=nf h1
 refine Zi [0,1,9] rfl ?_
 refine jIf H (fun c1 H=>?_) fun c1 H=>?_
 ·refine J.seq (Zc [4,5] ?_)
  refine J.ret (⟨_,Za,?_⟩)
  refine Zi [0,1,5,6] rfl ?_
  refine J.seq (J.seq (Zc [0,1,5,6,14] ?_))
  refine Zo ?_
  refine J.seq (Zc [4] ?_)
  refine J.ret ?_
  cases H
  exact ⟨_,_,_,Za,⟨_,_,_,_,_,_,_,_,rfl,rfl⟩,Zb h1 [0,0,0,0,0,0,0,0]⟩
 refine J.skip (J.seq (J.region ?_))
 refine Zh 3 ?_
 refine Zg (Zd 0 h1.wht) ?_
 refine Zh 1 ?_
 refine Zg (Xs (0:Int) 4 h1.wht) ?_
 refine Zi [0,6,7] rfl ?_
 refine J.seq (J.seq (J.region ?_))
 refine Zh 3 ?_
 refine Z7 21 H (fun c2 H=>?_) fun c2 H=>?_
 ·refine Zi [0,6,31] rfl ?_
  refine Zo ?_
  refine J.seq (Zc [4,5] ?_)
  refine J.ret (⟨_,Za,?_⟩)
  refine Zi [0,1,5,6] rfl ?_
  refine J.seq (J.seq (Zc [0,1,5,6,14] ?_))
  refine Zo ?_
  refine J.seq (Zc [4] ?_)
  refine J.ret ?_
  cases H
  exact ⟨_,_,_,Za,⟨_,_,_,_,_,_,_,_,rfl,rfl⟩,Zb h1 [0,0,0,0,0,0,0,0]⟩
 refine Zh 3 ?_
 refine Zg (Zd 0 h1.wht) ?_
 refine Zh 1 ?_
 obtain ⟨⟨p1,p2⟩,H⟩:=Zt H
 have e1:=Z6 h1.wh (gO 3) p1 p2
 refine Zg (Zk e1 p1 p2) ?_
 refine Zh 1 ?_
 refine Zg (Yx 3 h1.wht (gO 3) p1 p2) ?_
 refine Zi [0,6,31] rfl ?_
 refine jIf H (fun c3 H=>?_) fun c3 H=>?_
 ·refine J.seq (Zc [4,5] ?_)
  refine J.ret (⟨_,Za,?_⟩)
  refine Zi [0,1,5,6] rfl ?_
  refine J.seq (J.seq (Zc [0,1,5,6,14] ?_))
  refine Zo ?_
  refine J.seq (Zc [4] ?_)
  refine J.ret ?_
  cases H
  exact ⟨_,_,_,Za,⟨_,_,_,_,_,_,_,_,rfl,rfl⟩,Zb h1 [0,0,0,0,0,0,0,0]⟩
 refine J.skip (J.seq (J.region ?_))
 refine Zh 3 ?_
 refine Zg (Zd 0 h1.wht) ?_
 refine Zh 1 ?_
 refine Zg (Zk e1 p1 p2) ?_
 refine Zi [4,5] rfl ?_
 refine J.ret (⟨_,Za,?_⟩)
 refine Zi [0,1,5,6] rfl ?_
 refine J.seq (J.seq (Zc [0,1,5,6,14] ?_))
 refine Zz ?_
 refine J.skip (J.seq (J.region ?_))
 refine Zh 3 ?_
 refine Zg (Yx 3 h1.wht (gO 3) p1 p2) ?_
 refine Zh 3 ?_
 refine Ze (Xu 3 (.pair (.int .u32) (.pair (.slice 5 (.int .u8)) (.pair .bool (.int .i64)))) (Zy (0:Int) a0.2.2.1 a1) ((gt a0.2.1 (Zy (0:Int) a0.2.2.1 a1)).1,(gt a0.2.1 (Zy (0:Int) a0.2.2.1 a1)).2.1,(gt a0.2.1 (Zy (0:Int) a0.2.2.1 a1)).2.2.1,(w64 (((gt a0.2.1 (Zy (0:Int) a0.2.2.1 a1)).2.2.2) - 1))) 3 h1 rfl p1 p2 (Vw rfl rfl)) ?_
 intro _ w2 h2
 replace h2:=nf h2
 replace h2:St w0 F0 [Yo (a0.2.1.set (Zy (0:Int) a0.2.2.1 a1).toNat ((gt a0.2.1 (Zy (0:Int) a0.2.2.1 a1)).1,(gt a0.2.1 (Zy (0:Int) a0.2.2.1 a1)).2.1,(gt a0.2.1 (Zy (0:Int) a0.2.2.1 a1)).2.2.1,(w64 (((gt a0.2.1 (Zy (0:Int) a0.2.2.1 a1)).2.2.2) - 1)))) A2 c_2,Yp b1 (.pointer (some ⟨b2,0,none⟩)) (a0.2.1.set (Zy (0:Int) a0.2.2.1 a1).toNat ((gt a0.2.1 (Zy (0:Int) a0.2.2.1 a1)).1,(gt a0.2.1 (Zy (0:Int) a0.2.2.1 a1)).2.1,(gt a0.2.1 (Zy (0:Int) a0.2.2.1 a1)).2.2.1,(w64 (((gt a0.2.1 (Zy (0:Int) a0.2.2.1 a1)).2.2.2) - 1)))) A2 c_2 (.map (some b3)) a0.2.2.2.1 A3 c_3 (.pointer (some ⟨b4,0,none⟩)),Yi b2 a0.1.1 a0.1.2.1 A1 c_1 a0.1.2.2.1 a0.1.2.2.2,O5 a0.1.2.1 A1 c_1,Yj .u32 (Value.int .i64) b3 a0.2.2.1,O3 a0.2.2.2.1 A3 c_3,Ya b4 a0.2.2.2.2.1 A4 c_4 a0.2.2.2.2.2,Yb a0.2.2.2.2.1 A4 c_4] _ _:=h2.retell (by simp only [List.length_set,List.length_nil,Yo,Yb,O3,O5,Yi,Yp,Ya] <;> rfl)
 refine Zi [0,1,5] rfl ?_
 refine J.seq (J.seq (J.region ?_))
 refine Zh 3 ?_
 refine Zg (Yx 3 h2.wht (gO 0) p1 (by simpa only [List.length_set] using p2)) ?_
 refine Zi [0,1,27] rfl ?_
 refine jIf H (fun c4 H=>?_) fun c4 H=>?_
 ·refine Zv (Zb h2 [0,0,0,0,0,0]) ?_
  have h3:=h2.drew
  refine Zu [0,1,2,4,5,6,8] ?_
  refine Zj 3 rfl (Zd 1 wI) ?_
  refine Zj 7 rfl (Zd 1 wI) ?_
  refine Zj 9 rfl (G0 (0:Int) 4 wI) ?_
  obtain ⟨r2,q2,H⟩:=Zn H
  refine Zq 10 rfl (Zf [6,6] (Q24.spec q2) h3 rfl Zs) ?_
  rintro _ w3 ⟨_,⟨A5,c_5,rfl,rfl⟩,h4⟩
  replace h4:=nf h4
  refine ⟨⟨[_,_],h4⟩,?_⟩
  refine Zw [] ?_
  refine J.seq (Zc [4] ?_)
  refine J.ret ?_
  cases H
  exact ⟨_,_,_,Za,⟨_,_,_,_,_,_,_,_,rfl,rfl⟩,Zb h4 [3,3,3,2,2,2,0,0]⟩
 refine J.skip (J.seq (Zc [4] ?_))
 refine J.ret ?_
 cases H
 exact ⟨_,_,_,Za,⟨_,_,_,_,_,_,_,_,rfl,rfl⟩,Zb h2 [1,1,1,0,0,0,0,0]⟩

def Q97.f (a0:(Int×Int×Int×Int×Int×Int×Int×Int)×((Int×List (Int)×(Int×Int))×(List (Int×List (Int)×Bool×Int))×(List (Int×Int))×List (Int)×((List (Int×Int×Bool))×Int))×((Int×Int×List (Int)))×Int) (a1:Int) (a2:List (Int)):Option (Int×((Int×Int×Int×Int×Int×Int×Int×Int)×((Int×List (Int)×(Int×Int))×(List (Int×List (Int)×Bool×Int))×(List (Int×Int))×List (Int)×((List (Int×Int×Bool))×Int))×((Int×Int×List (Int)))×Int)):=if (decide (a1=a0.2.2.2))=true then ((Q18.f a0.2.1 a1 a2).bind fun r1=>(some (r1.1,(a0.1,r1.2,a0.2.2.1,a0.2.2.2)))) else ((Q14.f a0.2.1 a1).bind fun r2=>(if (!decide (r2.1=0))=true then (some (r2.1,(a0.1,r2.2,a0.2.2.1,a0.2.2.2))) else ((Q18.f r2.2 a1 a2).bind fun r3=>((Q17.f r3.2 a1).bind fun r4=>(some (r3.1,(a0.1,r4.2,a0.2.2.1,a0.2.2.2)))))))
theorem Q97.spec {a0:(Int×Int×Int×Int×Int×Int×Int×Int)×((Int×List (Int)×(Int×Int))×(List (Int×List (Int)×Bool×Int))×(List (Int×Int))×List (Int)×((List (Int×Int×Bool))×Int))×((Int×Int×List (Int)))×Int} {a1:Int} {a2:List (Int)} {A6:Option Addr} {c_6:Nat} {b1:Nat} {b2:Nat} {b3:Nat} {b4:Nat} {b5:Nat} {b6:Nat} {b7:Nat} {A1:Option Addr} {c_1:Nat} {A2:Option Addr} {c_2:Nat} {A3:Option Addr} {c_3:Nat} {A4:Option Addr} {c_4:Nat} {A5:Option Addr} {c_5:Nat} {r:Int×((Int×Int×Int×Int×Int×Int×Int×Int)×((Int×List (Int)×(Int×Int))×(List (Int×List (Int)×Bool×Int))×(List (Int×Int))×List (Int)×((List (Int×Int×Bool))×Int))×((Int×Int×List (Int)))×Int)} (H:Q97.f a0 a1 a2=some r) :
  Spec Tryz.prog 92 [.pointer (some ⟨b1,0,none⟩),.int .u32 a1,.slice A6 a2.length c_6] [X83 b1 a0.1.1 a0.1.2.1 a0.1.2.2.1 a0.1.2.2.2.1 a0.1.2.2.2.2.1 a0.1.2.2.2.2.2.1 a0.1.2.2.2.2.2.2.1 a0.1.2.2.2.2.2.2.2 (.pointer (some ⟨b3,0,none⟩)) (.pointer (some ⟨b2,0,none⟩)) (.pointer (some ⟨b6,0,none⟩)) a0.2.2.2,Yp b2 (.pointer (some ⟨b3,0,none⟩)) a0.2.1.2.1 A2 c_2 (.map (some b4)) a0.2.1.2.2.2.1 A3 c_3 (.pointer (some ⟨b5,0,none⟩)),Yi b3 a0.2.1.1.1 a0.2.1.1.2.1 A1 c_1 a0.2.1.1.2.2.1 a0.2.1.1.2.2.2,O5 a0.2.1.1.2.1 A1 c_1,Yo a0.2.1.2.1 A2 c_2,Yj .u32 (Value.int .i64) b4 a0.2.1.2.2.1,O3 a0.2.1.2.2.2.1 A3 c_3,Ya b5 a0.2.1.2.2.2.2.1 A4 c_4 a0.2.1.2.2.2.2.2,Yb a0.2.1.2.2.2.2.1 A4 c_4,Xd b6 (.pointer (some ⟨b7,0,none⟩)),Yl b7 a0.2.2.1.1 a0.2.2.1.2.1 a0.2.2.1.2.2 A5 c_5,O61 a0.2.2.1.2.2 A5 c_5] [R5 a2 A6 c_6] (fun v l=>∃(A_0:Option Addr) (c_0:Nat) (A_1:Option Addr) (c_1:Nat) (A_2:Option Addr) (c_2:Nat) (A_3:Option Addr) (c_3:Nat) (A_4:Option Addr) (c_4:Nat),v=.int .i64 r.1∧l=[X83 b1 r.2.1.1 r.2.1.2.1 r.2.1.2.2.1 r.2.1.2.2.2.1 r.2.1.2.2.2.2.1 r.2.1.2.2.2.2.2.1 r.2.1.2.2.2.2.2.2.1 r.2.1.2.2.2.2.2.2.2 (.pointer (some ⟨b3,0,none⟩)) (.pointer (some ⟨b2,0,none⟩)) (.pointer (some ⟨b6,0,none⟩)) r.2.2.2.2,Yp b2 (.pointer (some ⟨b3,0,none⟩)) r.2.2.1.2.1 A_1 c_1 (.map (some b4)) r.2.2.1.2.2.2.1 A_2 c_2 (.pointer (some ⟨b5,0,none⟩)),Yi b3 r.2.2.1.1.1 r.2.2.1.1.2.1 A_0 c_0 r.2.2.1.1.2.2.1 r.2.2.1.1.2.2.2,O5 r.2.2.1.1.2.1 A_0 c_0,Yo r.2.2.1.2.1 A_1 c_1,Yj .u32 (Value.int .i64) b4 r.2.2.1.2.2.1,O3 r.2.2.1.2.2.2.1 A_2 c_2,Ya b5 r.2.2.1.2.2.2.2.1 A_3 c_3 r.2.2.1.2.2.2.2.2,Yb r.2.2.1.2.2.2.2.1 A_3 c_3,Xd b6 (.pointer (some ⟨b7,0,none⟩)),Yl b7 r.2.2.2.1.1 r.2.2.2.1.2.1 r.2.2.2.1.2.2 A_4 c_4,O61 r.2.2.2.1.2.2 A_4 c_4]):=by
 refine Zp Tryz.func92 fun w0 F0 h0=>?_
 unfold Q97.f at H
 refine J.seq (Zc [0,1,2] ?_)
 refine J.seq (J.seq (J.region ?_))
 refine Zh 4 ?_
 refine Zg (Zd 0 h0.wht) ?_
 refine Zi [0,1,2,14] rfl ?_
 refine jIf H (fun c1 H=>?_) fun c1 H=>?_
 ·refine J.seq (J.region ?_)
  refine Zh 3 ?_
  refine Zg (Zd 0 h0.wht) ?_
  refine Zh 2 ?_
  obtain ⟨r1,q1,H⟩:=Zn H
  refine Ze (Zf [1,1,1,1,1,1,1,1] (Q18.spec q1) h0 rfl (Z0 (Zm 4) Zs)) ?_
  rintro _ w1 ⟨_,⟨A7,c_7,A8,c_8,A9,c_9,A10,c_10,rfl,rfl⟩,h1⟩
  replace h1:=nf h1
  refine Zi [6] rfl ?_
  refine J.ret ?_
  cases H
  exact ⟨_,_,_,Za,⟨_,_,_,_,_,_,_,_,_,_,rfl,rfl⟩,Zb h1 [8,0,0,0,0,0,0,0,0,0,0,0]⟩
 refine J.skip (J.seq (J.seq (J.region ?_)))
 refine Zh 3 ?_
 refine Zg (Zd 0 h0.wht) ?_
 refine Zh 1 ?_
 obtain ⟨r2,q2,H⟩:=Zn H
 refine Ze (Zf [1,1,1,1,1,1,1,1] (Q14.spec q2) h0 rfl Zs) ?_
 rintro _ w2 ⟨_,⟨A11,c_11,A12,c_12,A13,c_13,A14,c_14,rfl,rfl⟩,h2⟩
 replace h2:=nf h2
 refine Zi [0,1,2,7] rfl ?_
 refine J.seq (Zc [0,1,2,7,29] ?_)
 refine jIf H (fun c2 H=>?_) fun c2 H=>?_
 ·refine J.seq (Zc [6] ?_)
  refine J.ret ?_
  cases H
  exact ⟨_,_,_,Za,⟨_,_,_,_,_,_,_,_,_,_,rfl,rfl⟩,Zb h2 [8,0,0,0,0,0,0,0,0,0,0,0]⟩
 refine J.skip (J.seq (J.region ?_))
 refine Zh 3 ?_
 refine Zg (Zd 8 h2.wht) ?_
 refine Zh 2 ?_
 obtain ⟨r3,q3,H⟩:=Zn H
 refine Ze (Zf [0,0,0,0,0,0,0,0] (Q18.spec q3) h2 rfl (Z0 (Zm 4) Zs)) ?_
 rintro _ w3 ⟨_,⟨A15,c_15,A16,c_16,A17,c_17,A18,c_18,rfl,rfl⟩,h3⟩
 replace h3:=nf h3
 refine Zi [0,1,8] rfl ?_
 refine J.seq (J.region ?_)
 refine Zh 3 ?_
 refine Zg (Zd 8 h3.wht) ?_
 refine Zh 1 ?_
 obtain ⟨r4,q4,H⟩:=Zn H
 refine Ze (Zf [0,0,0,0,0,0,0,0] (Q17.spec q4) h3 rfl Zs) ?_
 rintro _ w4 ⟨_,⟨A19,c_19,A20,c_20,A21,c_21,A22,c_22,rfl,rfl⟩,h4⟩
 replace h4:=nf h4
 refine Zi [8] rfl ?_
 refine J.seq (Zc [6] ?_)
 refine J.ret ?_
 cases H
 exact ⟨_,_,_,Za,⟨_,_,_,_,_,_,_,_,_,_,rfl,rfl⟩,Zb h4 [8,0,0,0,0,0,0,0,0,0,0,0]⟩

def Q3.f (a0:Int×Int×List (Int)) (a1:Int):Option (Int×(Int×Int×List (Int))):=(Q10.f a0 a1).bind fun r1=>(if (!decide (r1=0))=true then (some (r1,a0)) else ((Q6.f a0 a1).bind fun r2=>(if (!r2)=true then (some (9,a0)) else (if 0≤(w64 (Int.tdiv a1 64))∧(w64 (Int.tdiv a1 64))<(a0.2.2.length:Int) then (if 0≤(Int.tmod a1 64) then (some (0,(a0.1,(w64 (a0.2.1 - 1)),(a0.2.2.set (w64 (Int.tdiv a1 64)).toNat (IntKind.u64.wrap (((BitVec.ofInt IntKind.u64.bits (gt a0.2.2 (w64 (Int.tdiv a1 64))) &&& ~~~(BitVec.ofInt IntKind.u64.bits (IntKind.u64.wrap ((1:Int)*2 ^ (min (Int.tmod a1 64).toNat 64))))).toNat:Int))))))) else none) else none))))
theorem Q3.spec {a0:Int×Int×List (Int)} {a1:Int} {b1:Nat} {A1:Option Addr} {c_1:Nat} {r:Int×(Int×Int×List (Int))} (H:Q3.f a0 a1=some r) :
  Spec Tryz.prog 141 [.pointer (some ⟨b1,0,none⟩),.int .i64 a1] [Yl b1 a0.1 a0.2.1 a0.2.2 A1 c_1,O61 a0.2.2 A1 c_1] [] (fun v l=>∃(A_0:Option Addr) (c_0:Nat),v=.int .i64 r.1∧l=[Yl b1 r.2.1 r.2.2.1 r.2.2.2 A_0 c_0,O61 r.2.2.2 A_0 c_0]):=by
 refine Zp Tryz.func141 fun w0 F0 h0=>?_
 unfold Q3.f at H
 refine J.seq (Zc [0,1] ?_)
 refine J.seq (J.seq (J.region ?_))
 refine Zh 2 ?_
 obtain ⟨r1,q1,H⟩:=Zn H
 refine Ze (Zf [0,0] (Q10.spec q1) h0 rfl Zs) ?_
 rintro _ w1 ⟨_,⟨rfl,rfl⟩,h1⟩
 replace h1:=nf h1
 refine Zi [0,1,5] rfl ?_
 refine J.seq (Zc [0,1,5,10] ?_)
 refine jIf H (fun c1 H=>?_) fun c1 H=>?_
 ·refine J.seq (Zc [4] ?_)
  refine J.ret ?_
  cases H
  exact ⟨_,_,_,Za,⟨_,_,rfl,rfl⟩,Zb h1 [0,0]⟩
 refine J.skip (J.seq (J.seq (J.region ?_)))
 refine Zh 2 ?_
 obtain ⟨r2,q2,H⟩:=Zn H
 refine Ze (Zf [0,0] (Q6.spec q2) h1 rfl Zs) ?_
 rintro _ w2 ⟨_,⟨rfl,rfl⟩,h2⟩
 replace h2:=nf h2
 refine Zi [0,1,15] rfl ?_
 refine jIf H (fun c2 H=>?_) fun c2 H=>?_
 ·refine J.seq (Zc [4] ?_)
  refine J.ret ?_
  cases H
  exact ⟨_,_,_,Za,⟨_,_,rfl,rfl⟩,Zb h2 [0,0]⟩
 refine J.skip (J.seq ?_)
 obtain ⟨⟨p1,p2⟩,H⟩:=Zt H
 obtain ⟨p3,H⟩:=Zt H
 refine J.midS (fun env w=>env=[(0,.pointer (some ⟨b1,0,none⟩))]∧St w0 F0 [Yl b1 a0.1 a0.2.1 (a0.2.2.set (w64 (Int.tdiv a1 64)).toNat (IntKind.u64.wrap (((BitVec.ofInt IntKind.u64.bits (gt a0.2.2 (w64 (Int.tdiv a1 64))) &&& ~~~(BitVec.ofInt IntKind.u64.bits (IntKind.u64.wrap ((1:Int)*2 ^ (min (Int.tmod a1 64).toNat 64))))).toNat:Int)))) A1 c_1,O61 (a0.2.2.set (w64 (Int.tdiv a1 64)).toNat (IntKind.u64.wrap (((BitVec.ofInt IntKind.u64.bits (gt a0.2.2 (w64 (Int.tdiv a1 64))) &&& ~~~(BitVec.ofInt IntKind.u64.bits (IntKind.u64.wrap ((1:Int)*2 ^ (min (Int.tmod a1 64).toNat 64))))).toNat:Int)))) A1 c_1] [] w) ?_ ?_
 ·refine Zv (Zb h2 [0]) ?_
  have h4:=h2.drew
  refine Zu [0,1,2,4,5,8,9] ?_
  refine Zj 3 rfl (Zd 0 wI) ?_
  have e2:=Z6 h4.wh (gO 1) p1 p2
  refine Zj 6 rfl (Zk e2 p1 p2) ?_
  refine HJ.pick [7,10] (i:=7) rfl rfl rfl rfl ?_
  refine (Yc ?_ (Yc ?_ Xa))
  ·refine Z5 7 rfl (OpT.ofq (Zl 0 h4.wht (gO 1) p1 p2)) ?_
   rintro _ _ ⟨rfl,rfl⟩
   replace h4:=nf h4
   refine ⟨⟨[_],(Zb h4 [1,0])⟩,?_⟩
   refine Zj 10 rfl (Vb p3) ?_
   refine Zu [11] ?_
   refine Zj 12 rfl (Zk e2 p1 p2) ?_
   refine Zq 13 rfl (Zr 0 (.int .u64) (w64 (Int.tdiv a1 64)) (IntKind.u64.wrap (((BitVec.ofInt IntKind.u64.bits (gt a0.2.2 (w64 (Int.tdiv a1 64))) &&& ~~~(BitVec.ofInt IntKind.u64.bits (IntKind.u64.wrap ((1:Int)*2 ^ (min (Int.tmod a1 64).toNat 64))))).toNat:Int))) 1 h4 rfl p1 p2) ?_
   intro _ w4 h5
   replace h5:=nf h5
   refine ⟨⟨[_],h5⟩,?_⟩
   replace h5:St w0 F0 [O61 (a0.2.2.set (w64 (Int.tdiv a1 64)).toNat (IntKind.u64.wrap (((BitVec.ofInt IntKind.u64.bits (gt a0.2.2 (w64 (Int.tdiv a1 64))) &&& ~~~(BitVec.ofInt IntKind.u64.bits (IntKind.u64.wrap ((1:Int)*2 ^ (min (Int.tmod a1 64).toNat 64))))).toNat:Int)))) A1 c_1,Yl b1 a0.1 a0.2.1 (a0.2.2.set (w64 (Int.tdiv a1 64)).toNat (IntKind.u64.wrap (((BitVec.ofInt IntKind.u64.bits (gt a0.2.2 (w64 (Int.tdiv a1 64))) &&& ~~~(BitVec.ofInt IntKind.u64.bits (IntKind.u64.wrap ((1:Int)*2 ^ (min (Int.tmod a1 64).toNat 64))))).toNat:Int)))) A1 c_1] _ _:=h5.retell (by simp only [List.length_set,List.length_nil,O61,Yl] <;> rfl)
   refine Zw [0] ?_
   exact Z2 ⟨(by simp only [List.length_set,List.length_nil] <;> rfl),((h5.only [1,0] rfl).rds [] rfl)⟩
  ·refine HS.op (i:=10) rfl rfl rfl (OpT.ofq (Zao rfl rfl rfl p3)) ?_; rintro _ _ ⟨rfl,rfl⟩; replace h4:St w0 F0 [_,_] _ _:=h4; refine ⟨⟨[_],(h4.only [1,0] rfl)⟩,?_⟩
   refine Zq 7 rfl (OpT.ofq (Zl 0 h4.wht (gO 1) p1 p2)) ?_
   rintro _ _ ⟨rfl,rfl⟩
   replace h4:=nf h4
   refine ⟨⟨[_],(Zb h4 [1,0])⟩,?_⟩
   refine Zu [11] ?_
   refine Zj 12 rfl (Zk e2 p1 p2) ?_
   refine Zq 13 rfl (Zr 0 (.int .u64) (w64 (Int.tdiv a1 64)) (IntKind.u64.wrap (((BitVec.ofInt IntKind.u64.bits (gt a0.2.2 (w64 (Int.tdiv a1 64))) &&& ~~~(BitVec.ofInt IntKind.u64.bits (IntKind.u64.wrap ((1:Int)*2 ^ (min (Int.tmod a1 64).toNat 64))))).toNat:Int))) 1 h4 rfl p1 p2) ?_
   intro _ w5 h6
   replace h6:=nf h6
   refine ⟨⟨[_],h6⟩,?_⟩
   replace h6:St w0 F0 [O61 (a0.2.2.set (w64 (Int.tdiv a1 64)).toNat (IntKind.u64.wrap (((BitVec.ofInt IntKind.u64.bits (gt a0.2.2 (w64 (Int.tdiv a1 64))) &&& ~~~(BitVec.ofInt IntKind.u64.bits (IntKind.u64.wrap ((1:Int)*2 ^ (min (Int.tmod a1 64).toNat 64))))).toNat:Int)))) A1 c_1,Yl b1 a0.1 a0.2.1 (a0.2.2.set (w64 (Int.tdiv a1 64)).toNat (IntKind.u64.wrap (((BitVec.ofInt IntKind.u64.bits (gt a0.2.2 (w64 (Int.tdiv a1 64))) &&& ~~~(BitVec.ofInt IntKind.u64.bits (IntKind.u64.wrap ((1:Int)*2 ^ (min (Int.tmod a1 64).toNat 64))))).toNat:Int)))) A1 c_1] _ _:=h6.retell (by simp only [List.length_set,List.length_nil,O61,Yl] <;> rfl)
   refine Zw [0] ?_
   exact Z2 ⟨(by simp only [List.length_set,List.length_nil] <;> rfl),((h6.only [1,0] rfl).rds [] rfl)⟩
 rintro env w6 ⟨rfl,h7⟩
 refine J.seq (J.region ?_)
 refine Zh 3 ?_
 refine Zg (Zd 0 h7.wht) ?_
 refine Zh 3 ?_
 refine Ze (Z3 0 h7) ?_
 intro _ w7 h8
 replace h8:=nf h8
 refine Zi [] rfl ?_
 refine J.seq (Zc [4] ?_)
 refine J.ret ?_
 cases H
 exact ⟨_,_,_,Za,⟨_,_,rfl,rfl⟩,Zb h8 [0,0]⟩

def Q72.f (a0:(Int×Int×List (Int))) (a1:Int):Option (Int×((Int×Int×List (Int)))):=(Q78.f a0).bind fun r1=>(if r1=true then (some (1,a0)) else (if (decide (a1=0))=true then (some (2,a0)) else ((Q3.f a0 (w64 (a1))).bind fun r2=>(some r2))))
theorem Q72.spec {a0:(Int×Int×List (Int))} {a1:Int} {b1:Nat} {b2:Nat} {A1:Option Addr} {c_1:Nat} {r:Int×((Int×Int×List (Int)))} (H:Q72.f a0 a1=some r) :
  Spec Tryz.prog 93 [.pointer (some ⟨b1,0,none⟩),.int .u32 a1] [Xd b1 (.pointer (some ⟨b2,0,none⟩)),Yl b2 a0.1 a0.2.1 a0.2.2 A1 c_1,O61 a0.2.2 A1 c_1] [] (fun v l=>∃(A_0:Option Addr) (c_0:Nat),v=.int .i64 r.1∧l=[Xd b1 (.pointer (some ⟨b2,0,none⟩)),Yl b2 r.2.1 r.2.2.1 r.2.2.2 A_0 c_0,O61 r.2.2.2 A_0 c_0]):=by
 refine Zp Tryz.func93 fun w0 F0 h0=>?_
 unfold Q72.f at H
 refine J.seq (Zc [0,1] ?_)
 refine J.seq (J.block (J.seq (J.region ?_)))
 refine Zh 1 ?_
 obtain ⟨r1,q1,H⟩:=Zn H
 refine Ze (Zf [0,0,0] (Q78.spec q1) h0 rfl Zs) ?_
 rintro _ w1 ⟨_,⟨rfl,rfl⟩,h1⟩
 replace h1:=nf h1
 refine Zi [0,1,5] rfl ?_
 refine jIf H (fun c1 H=>?_) fun c1 H=>?_
 ·refine J.seq (Zc [4] ?_)
  refine J.ret ?_
  cases H
  exact ⟨_,_,_,Za,⟨_,_,rfl,rfl⟩,Zb h1 [0,0,0]⟩
 refine J.seq (Zc [0,1,8] ?_)
 refine jIf H (fun c2 H=>?_) fun c2 H=>?_
 ·refine J.seq (Zc [4] ?_)
  refine J.ret ?_
  cases H
  exact ⟨_,_,_,Za,⟨_,_,rfl,rfl⟩,Zb h1 [0,0,0]⟩
 refine J.skip (J.seq (J.region ?_))
 refine Zh 3 ?_
 refine Zg (Zd 0 h1.wht) ?_
 refine Zh 2 ?_
 obtain ⟨r2,q2,H⟩:=Zn H
 refine Ze (Zf [1,1] (Q3.spec q2) h1 rfl Zs) ?_
 rintro _ w2 ⟨_,⟨A2,c_2,rfl,rfl⟩,h2⟩
 replace h2:=nf h2
 refine Zi [4] rfl ?_
 refine J.ret ?_
 cases H
 exact ⟨_,_,_,Za,⟨_,_,rfl,rfl⟩,Zb h2 [2,0,0]⟩

def Q92.f (k:Nat) (a0:(Int×Int×Int×Int×Int×Int×Int×Int)×((Int×List (Int)×(Int×Int))×(List (Int×List (Int)×Bool×Int))×(List (Int×Int))×List (Int)×((List (Int×Int×Bool))×Int))×((Int×Int×List (Int)))×Int) (a1:Int×List (Int)×List (List UInt8)×(List (List UInt8×Bool×List UInt8))×(List (List UInt8×List UInt8))):Option (Int×Int×((Int×Int×Int×Int×Int×Int×Int×Int)×((Int×List (Int)×(Int×Int))×(List (Int×List (Int)×Bool×Int))×(List (Int×Int))×List (Int)×((List (Int×Int×Bool))×Int))×((Int×Int×List (Int)))×Int)):=(Q98.f a0).bind fun r1=>(if (!decide (r1=0))=true then (some (0,r1,a0)) else ((Q35.f k a0.1 a1).bind fun r2=>(if (!decide (r2.2=0))=true then (some (0,r2.2,a0)) else ((Q77.f k a0.2.2.1).bind fun r3=>(if (!decide (r3.2.1=0))=true then (some (0,r3.2.1,(a0.1,a0.2.1,r3.2.2,a0.2.2.2))) else ((Q97.f (a0.1,a0.2.1,r3.2.2,a0.2.2.2) r3.1 r2.1).bind fun r4=>(if (!decide (r4.1=0))=true then ((Q72.f r4.2.2.2.1 r3.1).bind fun r5=>(some (0,r4.1,(r4.2.1,r4.2.2.1,r5.2,r4.2.2.2.2)))) else (some (r3.1,0,r4.2)))))))))
theorem Q92.spec {k:Nat} {a0:(Int×Int×Int×Int×Int×Int×Int×Int)×((Int×List (Int)×(Int×Int))×(List (Int×List (Int)×Bool×Int))×(List (Int×Int))×List (Int)×((List (Int×Int×Bool))×Int))×((Int×Int×List (Int)))×Int} {a1:Int×List (Int)×List (List UInt8)×(List (List UInt8×Bool×List UInt8))×(List (List UInt8×List UInt8))} {A6:Option Addr} {c_6:Nat} {A7:Option Addr} {c_7:Nat} {A8:Option Addr} {c_8:Nat} {A9:Option Addr} {c_9:Nat} {b1:Nat} {b2:Nat} {b3:Nat} {b4:Nat} {b5:Nat} {b6:Nat} {b7:Nat} {A1:Option Addr} {c_1:Nat} {A2:Option Addr} {c_2:Nat} {A3:Option Addr} {c_3:Nat} {A4:Option Addr} {c_4:Nat} {A5:Option Addr} {c_5:Nat} {r:Int×Int×((Int×Int×Int×Int×Int×Int×Int×Int)×((Int×List (Int)×(Int×Int))×(List (Int×List (Int)×Bool×Int))×(List (Int×Int))×List (Int)×((List (Int×Int×Bool))×Int))×((Int×Int×List (Int)))×Int)} (H:Q92.f k a0 a1=some r) :
  Spec Tryz.prog 39 [.pointer (some ⟨b1,0,none⟩),.agg #[.int .i64 a1.1,.slice A6 a1.2.1.length c_6,.slice A7 a1.2.2.1.length c_7,.slice A8 a1.2.2.2.1.length c_8,.slice A9 a1.2.2.2.2.length c_9]] [X83 b1 a0.1.1 a0.1.2.1 a0.1.2.2.1 a0.1.2.2.2.1 a0.1.2.2.2.2.1 a0.1.2.2.2.2.2.1 a0.1.2.2.2.2.2.2.1 a0.1.2.2.2.2.2.2.2 (.pointer (some ⟨b3,0,none⟩)) (.pointer (some ⟨b2,0,none⟩)) (.pointer (some ⟨b6,0,none⟩)) a0.2.2.2,Yp b2 (.pointer (some ⟨b3,0,none⟩)) a0.2.1.2.1 A2 c_2 (.map (some b4)) a0.2.1.2.2.2.1 A3 c_3 (.pointer (some ⟨b5,0,none⟩)),Yi b3 a0.2.1.1.1 a0.2.1.1.2.1 A1 c_1 a0.2.1.1.2.2.1 a0.2.1.1.2.2.2,O5 a0.2.1.1.2.1 A1 c_1,Yo a0.2.1.2.1 A2 c_2,Yj .u32 (Value.int .i64) b4 a0.2.1.2.2.1,O3 a0.2.1.2.2.2.1 A3 c_3,Ya b5 a0.2.1.2.2.2.2.1 A4 c_4 a0.2.1.2.2.2.2.2,Yb a0.2.1.2.2.2.2.1 A4 c_4,Xd b6 (.pointer (some ⟨b7,0,none⟩)),Yl b7 a0.2.2.1.1 a0.2.2.1.2.1 a0.2.2.1.2.2 A5 c_5,O61 a0.2.2.1.2.2 A5 c_5] [R33 a1.2.1 A6 c_6,R9 a1.2.2.1 A7 c_7,Xk a1.2.2.2.1 A8 c_8,Xl a1.2.2.2.2 A9 c_9,tabC 0] (fun v l=>∃(A_0:Option Addr) (c_0:Nat) (A_1:Option Addr) (c_1:Nat) (A_2:Option Addr) (c_2:Nat) (A_3:Option Addr) (c_3:Nat) (A_4:Option Addr) (c_4:Nat),v=.tuple #[.int .u32 r.1,.int .i64 r.2.1]∧l=[X83 b1 r.2.2.1.1 r.2.2.1.2.1 r.2.2.1.2.2.1 r.2.2.1.2.2.2.1 r.2.2.1.2.2.2.2.1 r.2.2.1.2.2.2.2.2.1 r.2.2.1.2.2.2.2.2.2.1 r.2.2.1.2.2.2.2.2.2.2 (.pointer (some ⟨b3,0,none⟩)) (.pointer (some ⟨b2,0,none⟩)) (.pointer (some ⟨b6,0,none⟩)) r.2.2.2.2.2,Yp b2 (.pointer (some ⟨b3,0,none⟩)) r.2.2.2.1.2.1 A_1 c_1 (.map (some b4)) r.2.2.2.1.2.2.2.1 A_2 c_2 (.pointer (some ⟨b5,0,none⟩)),Yi b3 r.2.2.2.1.1.1 r.2.2.2.1.1.2.1 A_0 c_0 r.2.2.2.1.1.2.2.1 r.2.2.2.1.1.2.2.2,O5 r.2.2.2.1.1.2.1 A_0 c_0,Yo r.2.2.2.1.2.1 A_1 c_1,Yj .u32 (Value.int .i64) b4 r.2.2.2.1.2.2.1,O3 r.2.2.2.1.2.2.2.1 A_2 c_2,Ya b5 r.2.2.2.1.2.2.2.2.1 A_3 c_3 r.2.2.2.1.2.2.2.2.2,Yb r.2.2.2.1.2.2.2.2.1 A_3 c_3,Xd b6 (.pointer (some ⟨b7,0,none⟩)),Yl b7 r.2.2.2.2.1.1 r.2.2.2.2.1.2.1 r.2.2.2.2.1.2.2 A_4 c_4,O61 r.2.2.2.2.1.2.2 A_4 c_4]):=by
 refine Zp Tryz.func39 fun w0 F0 h0=>?_
 unfold Q92.f at H
 refine J.seq (J.region ?_)
 refine Ze (Ye h0) ?_
 rintro _ w1 ⟨b8,rfl,h1⟩
 replace h1:=nf h1
 refine Zi [0,3] rfl ?_
 refine J.seq (J.seq (J.region ?_))
 refine Zh 1 ?_
 obtain ⟨r1,q1,H⟩:=Zn H
 refine Ze (Zf [1,1,1,1,1,1,1,1,1,1,1,1] (Q98.spec q1) h1 rfl Zs) ?_
 rintro _ w2 ⟨_,⟨rfl,rfl⟩,h2⟩
 replace h2:=nf h2
 refine Zi [0,3,6] rfl ?_
 refine J.seq (Zc [0,3,6,14] ?_)
 refine jIf H (fun c1 H=>?_) fun c1 H=>?_
 ·refine J.seq (Zc [4,5] ?_)
  refine J.ret ?_
  cases H
  exact ⟨_,_,_,Za,⟨_,_,_,_,_,_,_,_,_,_,rfl,rfl⟩,Zb h2 [0,0,0,0,0,0,0,0,0,0,0,0]⟩
 refine J.skip (J.seq (Zv h2 ?_))
 have h3:=h2.drew
 refine Zu [0,1,2] ?_
 refine Zj 3 rfl (Zd 0 wI) ?_
 refine Zj 4 rfl (Zd 12 wI) ?_
 obtain ⟨r2,q2,H⟩:=Zn H
 refine Zq 5 rfl (Zf [] (Q35.spec q2) h3 rfl (Z0 (Zm 13) (Z0 (Zm 14) (Z0 (Zm 15) (Z0 (Zm 16) Zs))))) ?_
 rintro _ w3 ⟨_,⟨A10,c_10,rfl,rfl⟩,h4⟩
 replace h4:=nf h4
 refine ⟨⟨[_],h4⟩,?_⟩
 refine Zu [6,7,8,9,10] ?_
 refine Zw [0,7,8] ?_
 refine J.seq (J.seq (Zc [0,7,8,26] ?_))
 refine jIf H (fun c2 H=>?_) fun c2 H=>?_
 ·refine J.seq (Zc [4,5] ?_)
  have h5:=Zb h4 [1,1,1,1,1,1,1,1,1,1,1,1]
  replace h5:=nf h5
  refine J.ret ?_
  cases H
  exact ⟨_,_,_,Za,⟨_,_,_,_,_,_,_,_,_,_,rfl,rfl⟩,Zb h5 [0,0,0,0,0,0,0,0,0,0,0,0]⟩
 refine J.skip (J.seq (J.region ?_))
 refine Zh 3 ?_
 refine Zg (Zd 1 h4.wht) ?_
 obtain ⟨r3,q3,H⟩:=Zn H
 refine Ze (Zf [10,10,10] (Q77.spec q3) h4 rfl (Z0 (Zm 15) Zs)) ?_
 rintro _ w4 ⟨_,⟨A11,c_11,rfl,rfl⟩,h6⟩
 replace h6:=nf h6
 refine Zi [0,7,8,9] rfl ?_
 refine J.seq (J.seq (Zc [0,7,8,9,37] ?_))
 refine jIf H (fun c3 H=>?_) fun c3 H=>?_
 ·refine J.seq (Zc [4,5] ?_)
  have h7:=Zb h6 [0,0,0,1,1,1,1,1,1,1,1,1]
  replace h7:=nf h7
  refine J.ret ?_
  cases H
  exact ⟨_,_,_,Za,⟨_,_,_,_,_,_,_,_,_,_,rfl,rfl⟩,Zb h7 [3,3,3,3,3,3,3,3,3,0,0,0]⟩
 refine J.skip (J.seq (J.seq (J.region ?_)))
 refine Zh 3 ?_
 obtain ⟨r4,q4,H⟩:=Zn H
 refine Ze (Zf [4,4,4,4,4,4,4,4,4,0,0,0] (Q97.spec q4) h6 rfl (Z0 (gO 0) Zs)) ?_
 rintro _ w5 ⟨_,⟨A12,c_12,A13,c_13,A14,c_14,A15,c_15,A16,c_16,rfl,rfl⟩,h8⟩
 replace h8:=nf h8
 refine Zi [0,9,10] rfl ?_
 have h9:=Zb h8 [0,0,0,0,0,0,0,0,0,0,0,0]
 replace h9:=nf h9
 refine J.seq (Zc [0,9,10,44] ?_)
 refine jIf H (fun c4 H=>?_) fun c4 H=>?_
 ·refine J.seq (J.region ?_)
  refine Zh 3 ?_
  refine Zg (Zd 0 h9.wht) ?_
  refine Zh 1 ?_
  obtain ⟨r5,q5,H⟩:=Zn H
  refine Ze (Zf [9,9,9] (Q72.spec q5) h9 rfl Zs) ?_
  rintro _ w6 ⟨_,⟨A17,c_17,rfl,rfl⟩,h10⟩
  replace h10:=nf h10
  refine Zi [10] rfl ?_
  refine J.seq (Zc [4,5] ?_)
  refine J.ret ?_
  cases H
  exact ⟨_,_,_,Za,⟨_,_,_,_,_,_,_,_,_,_,rfl,rfl⟩,Zb h10 [3,3,3,3,3,3,3,3,3,0,0,0]⟩
 refine J.skip (J.seq (Zc [4,5] ?_))
 refine J.ret ?_
 cases H
 exact ⟨_,_,_,Za,⟨_,_,_,_,_,_,_,_,_,_,rfl,rfl⟩,Zb h9 [0,0,0,0,0,0,0,0,0,0,0,0]⟩

def Q100.f (a0:(Int×Int×Int×Int×Int×Int×Int×Int)×((Int×List (Int)×(Int×Int))×(List (Int×List (Int)×Bool×Int))×(List (Int×Int))×List (Int)×((List (Int×Int×Bool))×Int))×((Int×Int×List (Int)))×Int) (a1:Int):Option (Int):=if (decide (a1=0))=true then (some 4) else (if (decide (a0.1.1≤(w64 (a1))))=true then (some 4) else (some 0))
theorem Q100.spec {a0:(Int×Int×Int×Int×Int×Int×Int×Int)×((Int×List (Int)×(Int×Int))×(List (Int×List (Int)×Bool×Int))×(List (Int×Int))×List (Int)×((List (Int×Int×Bool))×Int))×((Int×Int×List (Int)))×Int} {a1:Int} {b1:Nat} {b2:Nat} {b3:Nat} {b4:Nat} {b5:Nat} {b6:Nat} {b7:Nat} {A1:Option Addr} {c_1:Nat} {A2:Option Addr} {c_2:Nat} {A3:Option Addr} {c_3:Nat} {A4:Option Addr} {c_4:Nat} {A5:Option Addr} {c_5:Nat} {r:Int} (H:Q100.f a0 a1=some r) :
  Spec Tryz.prog 76 [.pointer (some ⟨b1,0,none⟩),.int .u32 a1] [X83 b1 a0.1.1 a0.1.2.1 a0.1.2.2.1 a0.1.2.2.2.1 a0.1.2.2.2.2.1 a0.1.2.2.2.2.2.1 a0.1.2.2.2.2.2.2.1 a0.1.2.2.2.2.2.2.2 (.pointer (some ⟨b3,0,none⟩)) (.pointer (some ⟨b2,0,none⟩)) (.pointer (some ⟨b6,0,none⟩)) a0.2.2.2,Yp b2 (.pointer (some ⟨b3,0,none⟩)) a0.2.1.2.1 A2 c_2 (.map (some b4)) a0.2.1.2.2.2.1 A3 c_3 (.pointer (some ⟨b5,0,none⟩)),Yi b3 a0.2.1.1.1 a0.2.1.1.2.1 A1 c_1 a0.2.1.1.2.2.1 a0.2.1.1.2.2.2,O5 a0.2.1.1.2.1 A1 c_1,Yo a0.2.1.2.1 A2 c_2,Yj .u32 (Value.int .i64) b4 a0.2.1.2.2.1,O3 a0.2.1.2.2.2.1 A3 c_3,Ya b5 a0.2.1.2.2.2.2.1 A4 c_4 a0.2.1.2.2.2.2.2,Yb a0.2.1.2.2.2.2.1 A4 c_4,Xd b6 (.pointer (some ⟨b7,0,none⟩)),Yl b7 a0.2.2.1.1 a0.2.2.1.2.1 a0.2.2.1.2.2 A5 c_5,O61 a0.2.2.1.2.2 A5 c_5] [] (fun v l=>v=.int .i64 r∧l=[X83 b1 a0.1.1 a0.1.2.1 a0.1.2.2.1 a0.1.2.2.2.1 a0.1.2.2.2.2.1 a0.1.2.2.2.2.2.1 a0.1.2.2.2.2.2.2.1 a0.1.2.2.2.2.2.2.2 (.pointer (some ⟨b3,0,none⟩)) (.pointer (some ⟨b2,0,none⟩)) (.pointer (some ⟨b6,0,none⟩)) a0.2.2.2,Yp b2 (.pointer (some ⟨b3,0,none⟩)) a0.2.1.2.1 A2 c_2 (.map (some b4)) a0.2.1.2.2.2.1 A3 c_3 (.pointer (some ⟨b5,0,none⟩)),Yi b3 a0.2.1.1.1 a0.2.1.1.2.1 A1 c_1 a0.2.1.1.2.2.1 a0.2.1.1.2.2.2,O5 a0.2.1.1.2.1 A1 c_1,Yo a0.2.1.2.1 A2 c_2,Yj .u32 (Value.int .i64) b4 a0.2.1.2.2.1,O3 a0.2.1.2.2.2.1 A3 c_3,Ya b5 a0.2.1.2.2.2.2.1 A4 c_4 a0.2.1.2.2.2.2.2,Yb a0.2.1.2.2.2.2.1 A4 c_4,Xd b6 (.pointer (some ⟨b7,0,none⟩)),Yl b7 a0.2.2.1.1 a0.2.2.1.2.1 a0.2.2.1.2.2 A5 c_5,O61 a0.2.2.1.2.2 A5 c_5]):=by
 refine Zp Tryz.func76 fun w0 F0 h0=>?_
 unfold Q100.f at H
 refine J.seq (Zc [0,1] ?_)
 refine J.seq (J.block (J.seq (J.region ?_)))
 refine Zh 6 ?_
 refine Zg (Zd 0 h0.wht) ?_
 refine Zi [0,1,5] rfl ?_
 refine Zz ?_
 refine J.seq (J.region ?_)
 refine Zh 3 ?_
 refine Z7 18 H (fun c1 H=>?_) fun c1 H=>?_
 ·refine Zi [15] rfl ?_
  refine Zo ?_
  refine J.seq (Zc [4] ?_)
  refine J.ret ?_
  cases H
  exact ⟨_,_,_,Za,⟨rfl,rfl⟩,Zb h0 [0,0,0,0,0,0,0,0,0,0,0,0]⟩
 refine Zh 6 ?_
 refine Zg (Zd 0 h0.wht) ?_
 refine Zi [15] rfl ?_
 refine jIf H (fun c2 H=>?_) fun c2 H=>?_
 ·refine J.seq (Zc [4] ?_)
  refine J.ret ?_
  cases H
  exact ⟨_,_,_,Za,⟨rfl,rfl⟩,Zb h0 [0,0,0,0,0,0,0,0,0,0,0,0]⟩
 refine J.skip (J.seq (Zc [4] ?_))
 refine J.ret ?_
 cases H
 exact ⟨_,_,_,Za,⟨rfl,rfl⟩,Zb h0 [0,0,0,0,0,0,0,0,0,0,0,0]⟩

def Q52.f (a0:Int×List (Int)×(Int×Int)) (a1:Int):Option (List (Int)×Int×(Int×List (Int)×(Int×Int))):=(Q50.f a0).bind fun r1=>(if (decide (r1=0))=true then (some (([]:List (Int)),1,a0)) else ((Q50.f a0).bind fun r2=>(if (decide (r2≤(w64 (a1))))=true then (some (([]:List (Int)),4,a0)) else (if 0≤(w64 ((w64 (a1))*a0.1))∧(w64 ((w64 (a1))*a0.1))≤(w64 ((w64 ((w64 (a1))*a0.1))+a0.1))∧(w64 ((w64 ((w64 (a1))*a0.1))+a0.1))≤(a0.2.1.length:Int) then ((Q102.f ((a0.2.1.drop ((w64 ((w64 (a1))*a0.1))).toNat).take (((w64 ((w64 ((w64 (a1))*a0.1))+a0.1))).toNat - ((w64 ((w64 (a1))*a0.1))).toNat))).bind fun r3=>(some (r3,0,(a0.1,a0.2.1,((IntKind.u64.wrap (a0.2.2.1+1)),a0.2.2.2))))) else none))))
theorem Q52.spec {a0:Int×List (Int)×(Int×Int)} {a1:Int} {b1:Nat} {A1:Option Addr} {c_1:Nat} {r:List (Int)×Int×(Int×List (Int)×(Int×Int))} (H:Q52.f a0 a1=some r) :
  Spec Tryz.prog 20 [.pointer (some ⟨b1,0,none⟩),.int .u32 a1] [Yi b1 a0.1 a0.2.1 A1 c_1 a0.2.2.1 a0.2.2.2,O5 a0.2.1 A1 c_1] [] (fun v l=>∃(A_0:Option Addr) (c_0:Nat) (A_1:Option Addr) (c_1:Nat),v=.tuple #[.slice A_0 r.1.length c_0,.int .i64 r.2.1]∧l=[O5 r.1 A_0 c_0,Yi b1 r.2.2.1 r.2.2.2.1 A_1 c_1 r.2.2.2.2.1 r.2.2.2.2.2,O5 r.2.2.2.1 A_1 c_1]):=by
 refine Zp Tryz.func20 fun w0 F0 h0=>?_
 unfold Q52.f at H
 refine J.seq (Zc [0,1] ?_)
 refine J.seq (J.region ?_)
 refine Zh 2 ?_
 refine Z1 Tryz.func62 ?_
 refine J.seq (Zc [0,1] ?_)
 refine J.seq (J.block (J.seq (J.region ?_)))
 refine Zh 1 ?_
 obtain ⟨r1,q1,H⟩:=Zn H
 refine Ze (Zf [0,0] (Q50.spec q1) h0 rfl Zs) ?_
 rintro _ w1 ⟨_,⟨rfl,rfl⟩,h1⟩
 replace h1:=nf h1
 refine Zi [0,1,7] rfl ?_
 refine jIf H (fun c1 H=>?_) fun c1 H=>?_
 ·refine J.seq (Zc [4,5] ?_)
  refine J.ret (⟨_,Za,?_⟩)
  refine Zi [0,6,7] rfl ?_
  refine J.seq (J.seq (Zc [0,6,7,15] ?_))
  refine Zo ?_
  refine J.seq (Zc [4,5] ?_)
  refine J.ret ?_
  have h2:=h1.addNil 5 (.int .u8)
  cases H
  exact ⟨_,_,_,Za,⟨_,_,_,_,rfl,rfl⟩,Zb h2 [0,0,0]⟩
 refine J.seq (J.region ?_)
 refine Zh 3 ?_
 obtain ⟨r2,q2,H⟩:=Zn H
 refine Ze (Zf [0,0] (Q50.spec q2) h1 rfl Zs) ?_
 rintro _ w2 ⟨_,⟨rfl,rfl⟩,h3⟩
 replace h3:=nf h3
 refine Zi [0,1,11] rfl ?_
 refine jIf H (fun c2 H=>?_) fun c2 H=>?_
 ·refine J.seq (Zc [4,5] ?_)
  refine J.ret (⟨_,Za,?_⟩)
  refine Zi [0,6,7] rfl ?_
  refine J.seq (J.seq (Zc [0,6,7,15] ?_))
  refine Zo ?_
  refine J.seq (Zc [4,5] ?_)
  refine J.ret ?_
  have h4:=h3.addNil 5 (.int .u8)
  cases H
  exact ⟨_,_,_,Za,⟨_,_,_,_,rfl,rfl⟩,Zb h4 [0,0,0]⟩
 refine J.skip (J.seq (J.region ?_))
 refine Zh 5 ?_
 refine Zg (Zd 0 h3.wht) ?_
 refine Zi [0,6] rfl ?_
 refine J.seq (Zv h3 ?_)
 have h5:=h3.drew
 refine Zu [0,1,2,4,5,6,7,8] ?_
 refine Zj 3 rfl (Zd 0 wI) ?_
 refine Zj 9 rfl (Zd 0 wI) ?_
 refine Zu [10] ?_
 obtain ⟨⟨p1,p2,p3⟩,H⟩:=Zt H
 have e1:=h5.cap (gO 1)
 refine Zj 11 rfl (J1 ((a0.2.1.drop ((w64 ((w64 (a1))*a0.1))).toNat).take (((w64 ((w64 ((w64 (a1))*a0.1))+a0.1))).toNat - ((w64 ((w64 (a1))*a0.1))).toNat)) (w64 ((w64 (a1))*a0.1)) (w64 ((w64 ((w64 (a1))*a0.1))+a0.1)) e1 p1 p2 p3) ?_
 refine Zu [12,13] ?_
 refine Zw [4,5] ?_
 refine J.ret (⟨_,Za,?_⟩)
 refine Zi [0,6,7] rfl ?_
 refine J.seq (J.seq (Zc [0,6,7,15] ?_))
 refine Zz ?_
 refine J.skip (J.seq (J.region ?_))
 refine Zh 4 ?_
 refine Zg (Zd 0 h5.wht) ?_
 refine Zh 4 ?_
 refine Ze (Z3 0 h5) ?_
 intro _ w3 h6
 replace h6:=nf h6
 refine Zi [6] rfl ?_
 refine J.seq (J.region ?_)
 refine Zh 1 ?_
 obtain ⟨r3,q3,H⟩:=Zn H
 refine Ze (Zf [] (Q102.spec q3) h6 rfl (Z0 ((Gives.of 1 rfl Y9).trans (Zal (.int .u8) ((a0.2.1.drop ((w64 ((w64 (a1))*a0.1))).toNat).take (((w64 ((w64 ((w64 (a1))*a0.1))+a0.1))).toNat - ((w64 ((w64 (a1))*a0.1))).toNat)) (w64 ((w64 (a1))*a0.1)) (w64 ((w64 ((w64 (a1))*a0.1))+a0.1)) p1 p2 p3)) Zs)) ?_
 rintro _ w4 ⟨_,⟨A2,c_2,rfl,rfl⟩,h7⟩
 replace h7:=nf h7
 refine Zi [4,5] rfl ?_
 refine J.ret ?_
 cases H
 exact ⟨_,_,_,Za,⟨_,_,_,_,rfl,rfl⟩,Zb h7 [0,0,0]⟩

def Q15.f (a0:(Int×List (Int)×(Int×Int))×(List (Int×List (Int)×Bool×Int))×(List (Int×Int))×List (Int)×((List (Int×Int×Bool))×Int)) (a1:Int):Option (Int×((Int×List (Int)×(Int×Int))×(List (Int×List (Int)×Bool×Int))×(List (Int×Int))×List (Int)×((List (Int×Int×Bool))×Int))):=(Q22.f a0 a1).bind fun r1=>(if (!decide (r1=0))=true then (some (r1,a0)) else (if (Xe a0.2.2.1 a1)=true then (if 0≤(Zy (0:Int) a0.2.2.1 a1)∧(Zy (0:Int) a0.2.2.1 a1)<(a0.2.1.length:Int) then ((Q23.f a0.2.2.2.2 (Zy (0:Int) a0.2.2.1 a1)).bind fun r2=>(some (0,(a0.1,(a0.2.1.set (Zy (0:Int) a0.2.2.1 a1).toNat ((gt a0.2.1 (Zy (0:Int) a0.2.2.1 a1)).1,(gt a0.2.1 (Zy (0:Int) a0.2.2.1 a1)).2.1,(gt a0.2.1 (Zy (0:Int) a0.2.2.1 a1)).2.2.1,(w64 (((gt a0.2.1 (Zy (0:Int) a0.2.2.1 a1)).2.2.2)+1)))),a0.2.2.1,a0.2.2.2.1,r2.2)))) else none) else ((Q21.f a0).bind fun r3=>(if (!r3.2.1)=true then (some (7,r3.2.2)) else ((Q52.f r3.2.2.1 a1).bind fun r4=>(if (!decide (r4.2.1=0))=true then (if (r3.2.2.2.2.2.1.length+([r3.1]:List (Int)).length)*8≤140737488355328 then (some (r4.2.1,(r4.2.2,r3.2.2.2.1,r3.2.2.2.2.1,(r3.2.2.2.2.2.1 ++ ([r3.1]:List (Int))),r3.2.2.2.2.2.2))) else none) else (if 0≤r3.1∧r3.1<(r3.2.2.2.1.length:Int) then ((Q23.f r3.2.2.2.2.2.2 r3.1).bind fun r5=>(some (0,(r4.2.2,(r3.2.2.2.1.set r3.1.toNat (a1,r4.1,false,1)),(Wk a1 r3.1 r3.2.2.2.2.1),r3.2.2.2.2.2.1,r5.2)))) else none)))))))
theorem Q15.spec {a0:(Int×List (Int)×(Int×Int))×(List (Int×List (Int)×Bool×Int))×(List (Int×Int))×List (Int)×((List (Int×Int×Bool))×Int)} {a1:Int} {b1:Nat} {b2:Nat} {b3:Nat} {b4:Nat} {A1:Option Addr} {c_1:Nat} {A2:Option Addr} {c_2:Nat} {A3:Option Addr} {c_3:Nat} {A4:Option Addr} {c_4:Nat} {r:Int×((Int×List (Int)×(Int×Int))×(List (Int×List (Int)×Bool×Int))×(List (Int×Int))×List (Int)×((List (Int×Int×Bool))×Int))} (H:Q15.f a0 a1=some r) :
  Spec Tryz.prog 77 [.pointer (some ⟨b1,0,none⟩),.int .u32 a1] [Yp b1 (.pointer (some ⟨b2,0,none⟩)) a0.2.1 A2 c_2 (.map (some b3)) a0.2.2.2.1 A3 c_3 (.pointer (some ⟨b4,0,none⟩)),Yi b2 a0.1.1 a0.1.2.1 A1 c_1 a0.1.2.2.1 a0.1.2.2.2,O5 a0.1.2.1 A1 c_1,Yo a0.2.1 A2 c_2,Yj .u32 (Value.int .i64) b3 a0.2.2.1,O3 a0.2.2.2.1 A3 c_3,Ya b4 a0.2.2.2.2.1 A4 c_4 a0.2.2.2.2.2,Yb a0.2.2.2.2.1 A4 c_4] [] (fun v l=>∃(A_0:Option Addr) (c_0:Nat) (A_1:Option Addr) (c_1:Nat) (A_2:Option Addr) (c_2:Nat) (A_3:Option Addr) (c_3:Nat),v=.int .i64 r.1∧l=[Yp b1 (.pointer (some ⟨b2,0,none⟩)) r.2.2.1 A_1 c_1 (.map (some b3)) r.2.2.2.2.1 A_2 c_2 (.pointer (some ⟨b4,0,none⟩)),Yi b2 r.2.1.1 r.2.1.2.1 A_0 c_0 r.2.1.2.2.1 r.2.1.2.2.2,O5 r.2.1.2.1 A_0 c_0,Yo r.2.2.1 A_1 c_1,Yj .u32 (Value.int .i64) b3 r.2.2.2.1,O3 r.2.2.2.2.1 A_2 c_2,Ya b4 r.2.2.2.2.2.1 A_3 c_3 r.2.2.2.2.2.2,Yb r.2.2.2.2.2.1 A_3 c_3]):=by
 refine Zp Tryz.func77 fun w0 F0 h0=>?_
 unfold Q15.f at H
 refine J.seq (Zc [0,1] ?_)
 refine J.seq (J.seq (J.region ?_))
 refine Zh 2 ?_
 obtain ⟨r1,q1,H⟩:=Zn H
 refine Ze (Zf [0,0,0,0,0,0,0,0] (Q22.spec q1) h0 rfl Zs) ?_
 rintro _ w1 ⟨_,⟨rfl,rfl⟩,h1⟩
 replace h1:=nf h1
 refine Zi [0,1,5] rfl ?_
 refine J.seq (Zc [0,1,5,16] ?_)
 refine jIf H (fun c1 H=>?_) fun c1 H=>?_
 ·refine J.seq (Zc [4] ?_)
  refine J.ret ?_
  cases H
  exact ⟨_,_,_,Za,⟨_,_,_,_,_,_,_,_,rfl,rfl⟩,Zb h1 [0,0,0,0,0,0,0,0]⟩
 refine J.skip (J.seq (J.seq (J.region ?_)))
 refine Zh 3 ?_
 refine Zg (Zd 0 h1.wht) ?_
 refine Zh 1 ?_
 refine Zg (Xs (0:Int) 4 h1.wht) ?_
 refine Zi [0,1,6,7] rfl ?_
 refine J.seq (Zc [0,1,6,27] ?_)
 refine jIf H (fun c2 H=>?_) fun c2 H=>?_
 ·refine J.seq (J.region ?_)
  refine Zh 3 ?_
  refine Zg (Zd 0 h1.wht) ?_
  refine Zh 1 ?_
  obtain ⟨⟨p1,p2⟩,H⟩:=Zt H
  have e1:=Z6 h1.wh (gO 3) p1 p2
  refine Zg (Zk e1 p1 p2) ?_
  refine Zh 1 ?_
  refine Zg (Yx 3 h1.wht (gO 3) p1 p2) ?_
  refine Zh 1 ?_
  refine Zg (Zk e1 p1 p2) ?_
  refine Zh 1 ?_
  refine Ze (Xu 3 (.pair (.int .u32) (.pair (.slice 5 (.int .u8)) (.pair .bool (.int .i64)))) (Zy (0:Int) a0.2.2.1 a1) ((gt a0.2.1 (Zy (0:Int) a0.2.2.1 a1)).1,(gt a0.2.1 (Zy (0:Int) a0.2.2.1 a1)).2.1,(gt a0.2.1 (Zy (0:Int) a0.2.2.1 a1)).2.2.1,(w64 (((gt a0.2.1 (Zy (0:Int) a0.2.2.1 a1)).2.2.2)+1))) 3 h1 rfl p1 p2 (Vw rfl rfl)) ?_
  intro _ w2 h2
  replace h2:=nf h2
  replace h2:St w0 F0 [Yo (a0.2.1.set (Zy (0:Int) a0.2.2.1 a1).toNat ((gt a0.2.1 (Zy (0:Int) a0.2.2.1 a1)).1,(gt a0.2.1 (Zy (0:Int) a0.2.2.1 a1)).2.1,(gt a0.2.1 (Zy (0:Int) a0.2.2.1 a1)).2.2.1,(w64 (((gt a0.2.1 (Zy (0:Int) a0.2.2.1 a1)).2.2.2)+1)))) A2 c_2,Yp b1 (.pointer (some ⟨b2,0,none⟩)) (a0.2.1.set (Zy (0:Int) a0.2.2.1 a1).toNat ((gt a0.2.1 (Zy (0:Int) a0.2.2.1 a1)).1,(gt a0.2.1 (Zy (0:Int) a0.2.2.1 a1)).2.1,(gt a0.2.1 (Zy (0:Int) a0.2.2.1 a1)).2.2.1,(w64 (((gt a0.2.1 (Zy (0:Int) a0.2.2.1 a1)).2.2.2)+1)))) A2 c_2 (.map (some b3)) a0.2.2.2.1 A3 c_3 (.pointer (some ⟨b4,0,none⟩)),Yi b2 a0.1.1 a0.1.2.1 A1 c_1 a0.1.2.2.1 a0.1.2.2.2,O5 a0.1.2.1 A1 c_1,Yj .u32 (Value.int .i64) b3 a0.2.2.1,O3 a0.2.2.2.1 A3 c_3,Ya b4 a0.2.2.2.2.1 A4 c_4 a0.2.2.2.2.2,Yb a0.2.2.2.2.1 A4 c_4] _ _:=h2.retell (by simp only [List.length_set,List.length_nil,Yo,Yb,O3,O5,Yi,Yp,Ya] <;> rfl)
  refine Zi [0,6] rfl ?_
  refine J.seq (J.region ?_)
  refine Zh 3 ?_
  refine Zg (Zd 1 h2.wht) ?_
  refine Zh 1 ?_
  obtain ⟨r2,q2,H⟩:=Zn H
  refine Ze (Zf [6,6] (Q23.spec q2) h2 rfl Zs) ?_
  rintro _ w3 ⟨_,⟨A5,c_5,rfl,rfl⟩,h3⟩
  replace h3:=nf h3
  refine Zi [] rfl ?_
  refine J.seq (Zc [4] ?_)
  refine J.ret ?_
  cases H
  exact ⟨_,_,_,Za,⟨_,_,_,_,_,_,_,_,rfl,rfl⟩,Zb h3 [3,3,3,2,2,2,0,0]⟩
 refine J.skip (J.seq (J.region ?_))
 refine Zh 1 ?_
 obtain ⟨r3,q3,H⟩:=Zn H
 refine Ze (Zf [0,0,0,0,0,0,0,0] (Q21.spec q3) h1 rfl Zs) ?_
 rintro _ w4 ⟨_,⟨A6,c_6,A7,c_7,A8,c_8,A9,c_9,rfl,rfl⟩,h4⟩
 replace h4:=nf h4
 refine Zi [0,1,8,9] rfl ?_
 refine J.seq (J.seq (Zc [0,1,8,51] ?_))
 refine jIf H (fun c3 H=>?_) fun c3 H=>?_
 ·refine J.seq (Zc [4] ?_)
  refine J.ret ?_
  cases H
  exact ⟨_,_,_,Za,⟨_,_,_,_,_,_,_,_,rfl,rfl⟩,Zb h4 [0,0,0,0,0,0,0,0]⟩
 refine J.skip (J.seq (J.region ?_))
 refine Zh 3 ?_
 refine Zg (Zd 0 h4.wht) ?_
 refine Zh 1 ?_
 obtain ⟨r4,q4,H⟩:=Zn H
 refine Ze (Zf [1,1] (Q52.spec q4) h4 rfl Zs) ?_
 rintro _ w5 ⟨_,⟨A10,c_10,A11,c_11,rfl,rfl⟩,h5⟩
 replace h5:=nf h5
 refine Zi [0,1,8,10,11] rfl ?_
 refine J.seq (J.seq (Zc [0,1,8,10,11,62] ?_))
 refine jIf H (fun c4 H=>?_) fun c4 H=>?_
 ·refine J.seq (J.region ?_)
  refine Zh 4 ?_
  refine Zg (Zd 3 h5.wht) ?_
  refine Zh 1 ?_
  refine Ze (Xc (.int .i64) ([r3.1]:List (Int)) h5) ?_
  rintro _ w6 ⟨b5,rfl,h6⟩
  replace h6:=nf h6
  obtain ⟨p3,H⟩:=Zt H
  refine Ze (Yr 7 h6 (gO 0) p3) ?_
  rintro _ w7 ⟨A12,c_12,rfl,h7⟩
  replace h7:=nf h7
  refine Zh 2 ?_
  refine Ze (Z3 5 h7) ?_
  intro _ w8 h8
  replace h8:=nf h8
  refine Zi [11] rfl ?_
  have h9:=Zb h8 [0,0,2,2,2,2,2,2]
  replace h9:=nf h9
  refine J.seq (Zc [4] ?_)
  refine J.ret ?_
  cases H
  exact ⟨_,_,_,Za,⟨_,_,_,_,_,_,_,_,rfl,rfl⟩,Zb h9 [0,1,1,1,1,0,0,0]⟩
 refine J.skip (J.seq (J.region ?_))
 refine Zh 5 ?_
 refine Z1 Tryz.func127 ?_
 refine J.seq (J.region ?_)
 refine Ze (Ye h5) ?_
 rintro _ w9 ⟨b6,rfl,h10⟩
 replace h10:=nf h10
 refine Zi [0,1,5] rfl ?_
 refine J.seq (J.region ?_)
 refine Zh 1 ?_
 refine Ze (Z3 0 h10) ?_
 intro _ w10 h11
 replace h11:=nf h11
 refine Zi [0,1,5] rfl ?_
 refine J.seq (Zv (Zb h11 [0,1,1,1,2,2,2,2]) ?_)
 have h12:=h11.drew
 refine Zu [0,1,2,4] ?_
 refine Zj 3 rfl (Zd 3 wI) ?_
 refine Zj 5 rfl (Zd 0 wI) ?_
 obtain ⟨⟨p4,p5⟩,H⟩:=Zt H
 have e2:=Z6 h12.wh (gO 5) p4 p5
 refine Zj 6 rfl (Zk e2 p4 p5) ?_
 have h13:=(h12.only [5,1,0,0,0,0,0,0,0,0] rfl).both
 refine Zq 7 rfl (Xy 0 (.pair (.int .u32) (.pair (.slice 5 (.int .u8)) (.pair .bool (.int .i64)))) r3.1 (a1,r4.1,false,1) h13 p4 p5 Jo) ?_
 intro _ w11 h14
 replace h14:=nf h14
 refine ⟨⟨[_],h14⟩,?_⟩
 replace h14:St w0 F0 [Yo (r3.2.2.2.1.set r3.1.toNat (a1,r4.1,false,1)) A7 c_7,B9 b6 a1 r4.1 A10 c_10 false 1,Yi b2 r4.2.2.1 r4.2.2.2.1 A11 c_11 r4.2.2.2.2.1 r4.2.2.2.2.2,O5 r4.2.2.2.1 A11 c_11,Yp b1 (.pointer (some ⟨b2,0,none⟩)) (r3.2.2.2.1.set r3.1.toNat (a1,r4.1,false,1)) A7 c_7 (.map (some b3)) r3.2.2.2.2.2.1 A8 c_8 (.pointer (some ⟨b4,0,none⟩)),Yj .u32 (Value.int .i64) b3 r3.2.2.2.2.1,O3 r3.2.2.2.2.2.1 A8 c_8,Ya b4 r3.2.2.2.2.2.2.1 A9 c_9 r3.2.2.2.2.2.2.2,Yb r3.2.2.2.2.2.2.1 A9 c_9] _ _:=h14.retell (by simp only [List.length_set,List.length_nil,Yo,Yb,O3,O5,Yi,B9,Yp,Ya] <;> rfl)
 refine Zw [0,1,5] ?_
 refine J.seq (Zv (Zb h14 [0,0,0,0,0,1,1,1]) ?_)
 have h15:=h14.drew
 refine Zu [0,1,2,4,6] ?_
 refine Zj 3 rfl (Zd 4 wI) ?_
 refine Zj 5 rfl (Zd 1 wI) ?_
 refine Zq 7 rfl (J3 Yu (v:=r3.1) (ix:=a1) 5 rfl h15 rfl rfl rfl rfl rfl rfl rfl rfl rfl) ?_
 intro _ w12 h16
 replace h16:=nf h16
 refine ⟨⟨[_],h16⟩,?_⟩
 refine Zw [0,1] ?_
 refine J.region (Zh 3 ?_)
 refine Zg (Zd 5 h16.wht) ?_
 refine Zh 1 ?_
 obtain ⟨r5,q5,H⟩:=Zn H
 refine Ze (Zf [7,7] (Q23.spec q5) h16 rfl Zs) ?_
 rintro _ w13 ⟨_,⟨A13,c_13,rfl,rfl⟩,h17⟩
 replace h17:=nf h17
 refine Zi [] rfl ?_
 refine ⟨_,Za,?_⟩
 refine Zi [] rfl ?_
 refine J.seq (Zc [4] ?_)
 refine J.ret ?_
 cases H
 exact ⟨_,_,_,Za,⟨_,_,_,_,_,_,_,_,rfl,rfl⟩,Zb h17 [7,5,5,3,2,3,0,0]⟩

def Q16.f (a0:(Int×List (Int)×(Int×Int))×(List (Int×List (Int)×Bool×Int))×(List (Int×Int))×List (Int)×((List (Int×Int×Bool))×Int)) (a1:Int):Option (List (Int)×Int):=(Q20.f a0).bind fun r1=>(if r1=true then (some (([]:List (Int)),1)) else (if (!(Xe a0.2.2.1 a1))=true then (some (([]:List (Int)),8)) else (if 0≤(Zy (0:Int) a0.2.2.1 a1)∧(Zy (0:Int) a0.2.2.1 a1)<(a0.2.1.length:Int) then (if (decide (((gt a0.2.1 (Zy (0:Int) a0.2.2.1 a1)).2.2.2)=0))=true then (some (([]:List (Int)),8)) else ((Q102.f ((gt a0.2.1 (Zy (0:Int) a0.2.2.1 a1)).2.1)).bind fun r2=>(some (r2,0)))) else none)))
theorem Q16.spec {a0:(Int×List (Int)×(Int×Int))×(List (Int×List (Int)×Bool×Int))×(List (Int×Int))×List (Int)×((List (Int×Int×Bool))×Int)} {a1:Int} {b1:Nat} {b2:Nat} {b3:Nat} {b4:Nat} {A1:Option Addr} {c_1:Nat} {A2:Option Addr} {c_2:Nat} {A3:Option Addr} {c_3:Nat} {A4:Option Addr} {c_4:Nat} {r:List (Int)×Int} (H:Q16.f a0 a1=some r) :
  Spec Tryz.prog 78 [.pointer (some ⟨b1,0,none⟩),.int .u32 a1] [Yp b1 (.pointer (some ⟨b2,0,none⟩)) a0.2.1 A2 c_2 (.map (some b3)) a0.2.2.2.1 A3 c_3 (.pointer (some ⟨b4,0,none⟩)),Yi b2 a0.1.1 a0.1.2.1 A1 c_1 a0.1.2.2.1 a0.1.2.2.2,O5 a0.1.2.1 A1 c_1,Yo a0.2.1 A2 c_2,Yj .u32 (Value.int .i64) b3 a0.2.2.1,O3 a0.2.2.2.1 A3 c_3,Ya b4 a0.2.2.2.2.1 A4 c_4 a0.2.2.2.2.2,Yb a0.2.2.2.2.1 A4 c_4] [] (fun v l=>∃(A_0:Option Addr) (c_0:Nat),v=.tuple #[.slice A_0 r.1.length c_0,.int .i64 r.2]∧l=[O5 r.1 A_0 c_0,Yp b1 (.pointer (some ⟨b2,0,none⟩)) a0.2.1 A2 c_2 (.map (some b3)) a0.2.2.2.1 A3 c_3 (.pointer (some ⟨b4,0,none⟩)),Yi b2 a0.1.1 a0.1.2.1 A1 c_1 a0.1.2.2.1 a0.1.2.2.2,O5 a0.1.2.1 A1 c_1,Yo a0.2.1 A2 c_2,Yj .u32 (Value.int .i64) b3 a0.2.2.1,O3 a0.2.2.2.1 A3 c_3,Ya b4 a0.2.2.2.2.1 A4 c_4 a0.2.2.2.2.2,Yb a0.2.2.2.2.1 A4 c_4]):=by
 refine Zp Tryz.func78 fun w0 F0 h0=>?_
 unfold Q16.f at H
 refine J.seq (Zc [0,1] ?_)
 refine J.seq (J.region ?_)
 refine Zh 2 ?_
 refine Z1 Tryz.func128 ?_
 refine J.seq (Zc [0,1] ?_)
 refine J.seq (J.seq (J.region ?_))
 refine Zh 1 ?_
 obtain ⟨r1,q1,H⟩:=Zn H
 refine Ze (Zf [0,0,0,0,0,0,0,0] (Q20.spec q1) h0 rfl Zs) ?_
 rintro _ w1 ⟨_,⟨rfl,rfl⟩,h1⟩
 replace h1:=nf h1
 refine Zi [0,1,9] rfl ?_
 refine jIf H (fun c1 H=>?_) fun c1 H=>?_
 ·refine J.seq (Zc [4,5] ?_)
  refine J.ret (⟨_,Za,?_⟩)
  refine Zi [6,7] rfl ?_
  refine J.seq (J.seq (Zc [6,7,15] ?_))
  refine Zo ?_
  refine J.seq (Zc [4,5] ?_)
  refine J.ret ?_
  have h2:=h1.addNil 5 (.int .u8)
  cases H
  exact ⟨_,_,_,Za,⟨_,_,rfl,rfl⟩,Zb h2 [0,0,0,0,0,0,0,0,0]⟩
 refine J.skip (J.seq (J.region ?_))
 refine Zh 3 ?_
 refine Zg (Zd 0 h1.wht) ?_
 refine Zh 1 ?_
 refine Zg (Xs (0:Int) 4 h1.wht) ?_
 refine Zi [0,6,7] rfl ?_
 refine J.seq (J.seq (J.region ?_))
 refine Zh 3 ?_
 refine Z7 21 H (fun c2 H=>?_) fun c2 H=>?_
 ·refine Zi [0,6,31] rfl ?_
  refine Zo ?_
  refine J.seq (Zc [4,5] ?_)
  refine J.ret (⟨_,Za,?_⟩)
  refine Zi [6,7] rfl ?_
  refine J.seq (J.seq (Zc [6,7,15] ?_))
  refine Zo ?_
  refine J.seq (Zc [4,5] ?_)
  refine J.ret ?_
  have h3:=h1.addNil 5 (.int .u8)
  cases H
  exact ⟨_,_,_,Za,⟨_,_,rfl,rfl⟩,Zb h3 [0,0,0,0,0,0,0,0,0]⟩
 refine Zh 3 ?_
 refine Zg (Zd 0 h1.wht) ?_
 refine Zh 1 ?_
 obtain ⟨⟨p1,p2⟩,H⟩:=Zt H
 have e1:=Z6 h1.wh (gO 3) p1 p2
 refine Zg (Zk e1 p1 p2) ?_
 refine Zh 1 ?_
 refine Zg (Yx 3 h1.wht (gO 3) p1 p2) ?_
 refine Zi [0,6,31] rfl ?_
 refine jIf H (fun c3 H=>?_) fun c3 H=>?_
 ·refine J.seq (Zc [4,5] ?_)
  refine J.ret (⟨_,Za,?_⟩)
  refine Zi [6,7] rfl ?_
  refine J.seq (J.seq (Zc [6,7,15] ?_))
  refine Zo ?_
  refine J.seq (Zc [4,5] ?_)
  refine J.ret ?_
  have h4:=h1.addNil 5 (.int .u8)
  cases H
  exact ⟨_,_,_,Za,⟨_,_,rfl,rfl⟩,Zb h4 [0,0,0,0,0,0,0,0,0]⟩
 refine J.skip (J.seq (J.region ?_))
 refine Zh 3 ?_
 refine Zg (Zd 0 h1.wht) ?_
 refine Zh 1 ?_
 refine Zg (Zk e1 p1 p2) ?_
 refine Zi [4,5] rfl ?_
 refine J.ret (⟨_,Za,?_⟩)
 refine Zi [6,7] rfl ?_
 refine J.seq (J.seq (Zc [6,7,15] ?_))
 refine Zz ?_
 refine J.skip (J.seq ?_)
 obtain ⟨A5,c_5,h5⟩:=h1.openI 3 rfl p1 p2
 refine J.region (Zh 3 ?_)
 refine Zg (V8 h5.wht (Zm 0)) ?_
 obtain ⟨r2,q2,H⟩:=Zn H
 refine Ze (Zf [] (Q102.spec q2) h5 rfl (Z0 (W1 0 Bz) Zs)) ?_
 rintro _ w2 ⟨_,⟨A6,c_6,rfl,rfl⟩,h6⟩
 replace h6:=nf h6
 refine Zi [4,5] rfl ?_
 have h7:=h6.closeI 1 rfl
 refine J.ret ?_
 cases H
 exact ⟨_,_,_,Za,⟨_,_,rfl,rfl⟩,Zb h7 [1,1,1,1,0,0,0,0,0]⟩

def Q142.f (a0:List (Int)):Option ((List (Int)×Int)):=(Q102.f a0).bind fun r1=>(some (r1,0))
theorem Q142.spec {a0:List (Int)} {A1:Option Addr} {c_1:Nat} {r:(List (Int)×Int)} (H:Q142.f a0=some r) :
  SpecA Tryz.prog 65 [.slice A1 a0.length c_1] [] [R5 a0 A1 c_1] (fun v l lr=>∃(b_0:Nat) (A_1:Option Addr) (c_1:Nat),v=.pointer (some ⟨b_0,0,none⟩)∧l=[Xh b_0 r.1 A_1 c_1 r.2]∧lr=[R5 r.1 A_1 c_1]):=by
 refine Yy Tryz.func65 fun w0 F0 h0=>?_
 unfold Q142.f at H
 refine J.seq (Zc [0] ?_)
 refine J.seq (J.region ?_)
 refine Zh 1 ?_
 obtain ⟨r1,q1,H⟩:=Zn H
 refine Ze (Zf [] (Q102.spec q1) h0 rfl (Z0 (Zm 0) Zs)) ?_
 rintro _ w1 ⟨_,⟨A2,c_2,rfl,rfl⟩,h1⟩
 replace h1:=nf h1
 refine Zh 1 ?_
 refine Ze (Ye h1) ?_
 rintro _ w2 ⟨b1,rfl,h2⟩
 replace h2:=nf h2
 refine Zi [2] rfl ?_
 refine J.ret ?_
 have h3:=h2.freeze (k:=1) rfl Y9
 cases H
 exact ⟨_,_,_,Za,⟨_,_,_,rfl,rfl,rfl⟩,sOR h3 [0] [0]⟩

def Q151.f (a0:List (Int)×Int) (a1:Int):Option ((List (Int)×Int)):=if (decide (a0.2=0))=true then (some (([]:List (Int)),a1)) else (some (([]:List (Int)),a0.2))
theorem Q151.spec {a0:List (Int)×Int} {a1:Int} {A1:Option Addr} {c_1:Nat} {b1:Nat} {r:(List (Int)×Int)} (H:Q151.f a0 a1=some r) :
  SpecA Tryz.prog 117 [.pointer (some ⟨b1,0,none⟩),.int .i64 a1] [Xh b1 a0.1 A1 c_1 a0.2] [R5 a0.1 A1 c_1] (fun v l lr=>∃(A_0:Option Addr) (c_0:Nat),v=.tuple #[]∧l=[Xh b1 r.1 A_0 c_0 r.2]∧lr=[R5 r.1 A_0 c_0]):=by
 refine Yy Tryz.func117 fun w0 F0 h0=>?_
 unfold Q151.f at H
 refine J.seq (J.seq (J.region ?_))
 refine Zh 3 ?_
 refine Zg (Zd 0 h0.wht) ?_
 refine Zi [0,1,8] rfl ?_
 refine jIf H (fun c1 H=>?_) fun c1 H=>?_
 ·refine J.region (Zh 4 ?_)
  refine Ze (Z3 0 h0) ?_
  intro _ w1 h1
  replace h1:=nf h1
  refine Zi [0] rfl ?_
  refine J.region (Zh 3 ?_)
  refine Ze (Z3 0 h1) ?_
  intro _ w2 h2
  replace h2:=nf h2
  refine Zi [] rfl ?_
  have h3:=h2.addNil 5 (.int .u8)
  have h4:=h3.freeze (k:=0) rfl Y9
  cases H
  exact ⟨_,_,_,Za,⟨_,_,rfl,rfl,rfl⟩,sOR h4 [0] [0]⟩
 refine J.skip (J.region (Zh 3 ?_))
 refine Ze (Z3 0 h0) ?_
 intro _ w3 h5
 replace h5:=nf h5
 refine Zi [] rfl ?_
 have h6:=h5.addNil 5 (.int .u8)
 have h7:=h6.freeze (k:=0) rfl Y9
 cases H
 exact ⟨_,_,_,Za,⟨_,_,rfl,rfl,rfl⟩,sOR h7 [0] [0]⟩

def Q146.f (a0:List (Int)×Int) (a1:Int):Option (List (Int)×(List (Int)×Int)):=if (!decide (a0.2=0))=true then (some (([]:List (Int)),a0)) else (if (decide (a1<0))=true then ((Q151.f a0 2).bind fun r1=>(some (([]:List (Int)),r1))) else (if (decide ((a0.1.length:Int)<a1))=true then ((Q151.f a0 5).bind fun r2=>(some (([]:List (Int)),r2))) else (if 0≤a1∧a1*1≤281474976710656 then (if 0≤a1∧a1≤(a0.1.length:Int) then (some ((Yz (List.replicate a1.toNat (0:Int)) 0 ((List.replicate a1.toNat (0:Int)).length) a0.1),((a0.1.drop a1.toNat),a0.2))) else none) else none)))
theorem Q146.spec {a0:List (Int)×Int} {a1:Int} {A1:Option Addr} {c_1:Nat} {b1:Nat} {r:List (Int)×(List (Int)×Int)} (H:Q146.f a0 a1=some r) :
  SpecA Tryz.prog 114 [.pointer (some ⟨b1,0,none⟩),.int .i64 a1] [Xh b1 a0.1 A1 c_1 a0.2] [R5 a0.1 A1 c_1] (fun v l lr=>∃(A_0:Option Addr) (c_0:Nat) (A_1:Option Addr) (c_1:Nat),v=.slice A_0 r.1.length c_0∧l=[O5 r.1 A_0 c_0,Xh b1 r.2.1 A_1 c_1 r.2.2]∧lr=[R5 r.2.1 A_1 c_1]):=by
 refine Yy Tryz.func114 fun w0 F0 h0=>?_
 unfold Q146.f at H
 refine J.seq (Zc [0,1] ?_)
 refine J.seq (J.block (J.seq (J.region ?_)))
 refine Zh 6 ?_
 refine Zg (Zd 0 h0.wht) ?_
 refine Zi [0,1,6] rfl ?_
 refine jIf H (fun c1 H=>?_) fun c1 H=>?_
 ·refine J.seq (Zc [4] ?_)
  refine J.ret ?_
  have h1:=h0.addNil 5 (.int .u8)
  cases H
  exact ⟨_,_,_,Za,⟨_,_,_,_,rfl,rfl,rfl⟩,sOR h1 [0,0] [0]⟩
 refine J.seq (Zc [0,1,16] ?_)
 refine jIf H (fun c2 H=>?_) fun c2 H=>?_
 ·refine J.seq (J.region ?_)
  refine Zh 1 ?_
  obtain ⟨r1,q1,H⟩:=Zn H
  refine Ze (Z9 [0] (Q151.spec q1) h0 rfl (Z0 (Zm 0) Zs)) ?_
  rintro _ w1 ⟨_,_,⟨A2,c_2,rfl,rfl,rfl⟩,h2⟩
  replace h2:=nf h2
  refine Zi [] rfl ?_
  refine J.seq (Zc [4] ?_)
  refine J.ret ?_
  have h3:=h2.addNil 5 (.int .u8)
  cases H
  exact ⟨_,_,_,Za,⟨_,_,_,_,rfl,rfl,rfl⟩,sOR h3 [0,0] [0]⟩
 refine J.seq (J.region ?_)
 refine Zh 4 ?_
 refine Zg (Zd 0 h0.wht) ?_
 refine Zi [0,1,21] rfl ?_
 refine jIf H (fun c3 H=>?_) fun c3 H=>?_
 ·refine J.seq (J.region ?_)
  refine Zh 1 ?_
  obtain ⟨r2,q2,H⟩:=Zn H
  refine Ze (Z9 [0] (Q151.spec q2) h0 rfl (Z0 (Zm 0) Zs)) ?_
  rintro _ w2 ⟨_,_,⟨A3,c_3,rfl,rfl,rfl⟩,h4⟩
  replace h4:=nf h4
  refine Zi [] rfl ?_
  refine J.seq (Zc [4] ?_)
  refine J.ret ?_
  have h5:=h4.addNil 5 (.int .u8)
  cases H
  exact ⟨_,_,_,Za,⟨_,_,_,_,rfl,rfl,rfl⟩,sOR h5 [0,0] [0]⟩
 refine J.skip (J.seq (J.region ?_))
 refine Zh 1 ?_
 obtain ⟨⟨p1,p2⟩,H⟩:=Zt H
 refine Ze (Vk Yu (ty:=(.int .u8)) rfl (0:Int) rfl rfl rfl rfl rfl rfl rfl (by decide) h0 p1 p2) ?_
 rintro _ w3 ⟨b2,rfl,h6⟩
 replace h6:=nf h6
 refine Zi [0,1,5] rfl ?_
 refine J.seq (J.region ?_)
 refine Zh 4 ?_
 refine Zg (Zd 1 h6.wht) ?_
 have e1:0+(List.replicate a1.toNat (0:Int)).length≤(List.replicate a1.toNat (0:Int)).length:=by first | omega | (simp only [List.length_take,List.length_drop]; omega)
 refine Ze (Bk Yu (ty:=(.int .u8)) (xs:=(List.replicate a1.toNat (0:Int))) (ys:=a0.1) rfl 0 rfl h6 rfl (Zm 1) rfl rfl rfl rfl rfl rfl e1) ?_
 rintro _ w4 ⟨rfl,h7⟩
 replace h7:=nf h7
 refine Zi [0,1,5] rfl ?_
 refine J.envEq (env':=[(0,.pointer (some ⟨b1,0,none⟩)),(1,.int .i64 a1),(5,.slice (some ⟨b2,0,none⟩) (Yz (List.replicate a1.toNat (0:Int)) 0 ((List.replicate a1.toNat (0:Int)).length) a0.1).length (a1.toNat))]) (by simp only [Xj e1,List.length_nil] <;> rfl) ?_
 refine J.seq (J.region ?_)
 refine Zh 4 ?_
 refine Zg (Zd 1 h7.wht) ?_
 refine Zh 1 ?_
 obtain ⟨⟨p3,p4⟩,H⟩:=Zt H
 have e2:=h7.cap (Zm 2)
 refine Zg (W4 (a0.1.drop a1.toNat) a1 (a0.1.length:Int) e2 p3 p4 (Int.le_refl _) (Xt _ _)) ?_
 refine Zh 2 ?_
 refine Ze (Z3 1 h7) ?_
 intro _ w5 h8
 replace h8:=nf h8
 refine Zi [5] rfl ?_
 refine J.seq (Zc [4] ?_)
 refine J.ret ?_
 have h9:=h8.read (k:=0) rfl (X8 (.int .u8) (a0.1.drop a1.toNat) a1 (a0.1.length:Int) p3 p4 (Int.le_refl _) (Xt _ _))
 cases H
 exact ⟨_,_,_,Za,⟨_,_,_,_,rfl,rfl,rfl⟩,sOR h9 [1,0] [0]⟩

def Q145.l0:Nat→(List (Int)×(List (Int)×Int))→(Int)→(Int)→Option (Int×(List (Int)×Int))
 | 0,_,_,_=>none
 | k+1,r2,x2,x3=>if (decide (x3<(r2.1.length:Int)))=true then (if 0≤x3∧x3<(r2.1.length:Int) then (Q145.l0 k r2 (IntKind.u64.wrap (((BitVec.ofInt IntKind.u64.bits (IntKind.u64.wrap (x2*2 ^ 8)) ||| (BitVec.ofInt IntKind.u64.bits (IntKind.u64.wrap ((gt r2.1 x3))))).toNat:Int))) (w64 (x3+1))) else none) else (some (x2,r2.2))
def Q145.f (k:Nat) (a0:List (Int)×Int) (a1:Int):Option (Int×(List (Int)×Int)):=(Q152.f a1).bind fun r1=>(if (!r1)=true then ((Q146.f a0 (-1)).bind fun r2=>(Q145.l0 k r2 0 0)) else ((Q146.f a0 a1).bind fun r2=>(Q145.l0 k r2 0 0)))
theorem Q145.spec {k:Nat} {a0:List (Int)×Int} {a1:Int} {A1:Option Addr} {c_1:Nat} {b1:Nat} {r:Int×(List (Int)×Int)} (H:Q145.f k a0 a1=some r) :
  SpecA Tryz.prog 66 [.pointer (some ⟨b1,0,none⟩),.int .i64 a1] [Xh b1 a0.1 A1 c_1 a0.2] [R5 a0.1 A1 c_1] (fun v l lr=>∃(A_0:Option Addr) (c_0:Nat),v=.int .u64 r.1∧l=[Xh b1 r.2.1 A_0 c_0 r.2.2]∧lr=[R5 r.2.1 A_0 c_0]):=by
 refine Yy Tryz.func66 fun w0 F0 h0=>?_
 unfold Q145.f at H
 refine J.seq (Zc [0,1] ?_)
 refine J.seq (J.seq (J.region ?_))
 refine Zh 1 ?_
 obtain ⟨r1,q1,H⟩:=Zn H
 refine Ze (Zf [] (Q152.spec q1) h0 rfl Zs) ?_
 rintro _ w1 ⟨_,⟨rfl,rfl⟩,h1⟩
 replace h1:=nf h1
 refine Zi [0,1,10] rfl ?_
 refine J.midS (fun env w=>∃(k1:Nat) (x1:Int),env=[(0,.pointer (some ⟨b1,0,none⟩)),(1,.int .i64 x1)]∧St w0 F0 [Xh b1 a0.1 A1 c_1 a0.2] [R5 a0.1 A1 c_1] w∧((Q146.f a0 x1).bind fun r2=>(Q145.l0 k1 r2 0 0))=some r∧k1≤k) ?_ ?_
 ·refine jIf H (fun c2 H=>?_) fun c2 H=>?_
  ·refine Zc [0,1] ?_
   have h7:=(sOR h1 [0] [0])
   exact ⟨k,(-1),rfl,h7,H,Nat.le_refl _⟩
  refine Y7 [0,1] ?_
  refine J.skip ?_
  have h8:=(sOR h1 [0] [0])
  exact ⟨k,a1,rfl,h8,H,Nat.le_refl _⟩
 rintro env w3 ⟨k1,x1,rfl,h2,H,hk1⟩
 refine J.seq (Zc [0,1,5] ?_)
 refine J.seq (J.seq (J.region ?_))
 refine Zh 2 ?_
 obtain ⟨r2,q2,H⟩:=Zn H
 refine Ze (Z9 [0] (Q146.spec q2) h2 rfl (Z0 (Zm 0) Zs)) ?_
 rintro _ w4 ⟨_,_,⟨A2,c_2,A3,c_3,rfl,rfl,rfl⟩,h3⟩
 replace h3:=nf h3
 refine Zi [5,13,14,15] rfl ?_
 refine J.block ?_
 have h6:=(sOR h3 [1,0] [0])
 refine J.loop (fun kk env w=>∃(x2:Int) (x3:Int),env=[(5,.int .u64 x2),(13,.slice A2 r2.1.length c_2),(14,.int .i64 (r2.1.length:Int)),(15,.int .i64 x3)]∧St w0 F0 [Xh b1 r2.2.1 A3 c_3 r2.2.2,O5 r2.1 A2 c_2] [R5 r2.2.1 A3 c_3] w∧Q145.l0 kk r2 x2 x3=some r) (k:=k1) ⟨0,0,rfl,h6,H⟩ ?_
 rintro k2 env w5 ⟨x2,x3,rfl,h4,H⟩
 rcases k2 with _ | k2
 ·exact z0 H
 rw [Q145.l0] at H
 refine J.seq (Zc [5,13,14,15,16] ?_)
 refine J.seq (jIf H (fun c1 H=>?_) fun c1 H=>?_)
 ·refine J.skip (J.seq (J.block (J.seq (J.region ?_))))
  obtain ⟨⟨p1,p2⟩,H⟩:=Zt H
  have e1:=Z6 h4.wh (gO 1) p1 p2
  refine Zg (Zk e1 p1 p2) ?_
  refine Zg (Zl 0 h4.wht (gO 1) p1 p2) ?_
  refine Zi [5,7,13,14,15] rfl ?_
  refine Zc [5,13,14,15] ?_
  refine Zc [5,13,14,15] ?_
  have h5:=(sOR h4 [0,0] [0])
  exact ⟨k2,by omega,(IntKind.u64.wrap (((BitVec.ofInt IntKind.u64.bits (IntKind.u64.wrap (x2*2 ^ 8)) ||| (BitVec.ofInt IntKind.u64.bits (IntKind.u64.wrap ((gt r2.1 x3))))).toNat:Int))),(w64 (x3+1)),rfl,h5,H⟩
 refine J.exit (J.seq (Zc [4] ?_))
 refine J.ret ?_
 cases H
 exact ⟨_,_,_,Za,⟨_,_,rfl,rfl,rfl⟩,sOR h4 [0] [0]⟩

def Q150.f (a0:Int):Option (Bool):=some (!decide (a0=0))
theorem Q150.spec {a0:Int}  {r:Bool} (H:Q150.f a0=some r) :
  Spec Tryz.prog 116 [.int .u8 a0] [] [] (fun v l=>v=.bool r∧l=[]):=by
 refine Zp Tryz.func116 fun w0 F0 h0=>?_
 unfold Q150.f at H
 refine J.seq (Zc [0] ?_)
 refine J.seq (Zc [2] ?_)
 refine J.ret ?_
 cases H
 exact ⟨_,_,_,Za,⟨rfl,rfl⟩,Zb h0 []⟩

def Q114.l0:Nat→(List (Int))→(Int)→Option (Int)
 | 0,_,_=>none
 | k+1,a0,x1=>if (decide (x1<(a0.length:Int)))=true then (if 0≤x1∧x1<(a0.length:Int) then ((Q150.f (gt a0 x1)).bind fun r1=>(if r1=true then (some x1) else (Q114.l0 k a0 (w64 (x1+1))))) else none) else (some (-1))
def Q114.f (k:Nat) (a0:List (Int)):Option (Int):=Q114.l0 k a0 0
theorem Q114.spec {k:Nat} {a0:List (Int)} {A1:Option Addr} {c_1:Nat} {r:Int} (H:Q114.f k a0=some r) :
  Spec Tryz.prog 163 [.slice A1 a0.length c_1,.func (.func 116) #[] #[]] [] [R5 a0 A1 c_1] (fun v l=>v=.int .i64 r∧l=[]):=by
 refine Zp Tryz.func163 fun w0 F0 h0=>?_
 unfold Q114.f at H
 refine J.seq (Zc [0,1] ?_)
 refine J.seq (J.seq (Zc [0,1,7,8] ?_))
 refine J.block ?_
 have h4:=(sOR h0 [] [0])
 refine J.loop (fun kk env w=>∃(x1:Int),env=[(0,.slice A1 a0.length c_1),(1,.func (.func 116) #[] #[]),(7,.int .i64 (a0.length:Int)),(8,.int .i64 x1)]∧St w0 F0 [] [R5 a0 A1 c_1] w∧Q114.l0 kk a0 x1=some r) (k:=k) ⟨0,rfl,h4,H⟩ ?_
 rintro k1 env w1 ⟨x1,rfl,h1,H⟩
 rcases k1 with _ | k1
 ·exact z0 H
 rw [Q114.l0] at H
 refine J.seq (Zc [0,1,7,8,9] ?_)
 refine J.seq (jIf H (fun c1 H=>?_) fun c1 H=>?_)
 ·refine J.skip (J.seq (J.block (J.seq (Zc [0,1,5,7,8] ?_))))
  refine J.seq (J.region ?_)
  refine Zh 3 ?_
  obtain ⟨⟨p1,p2⟩,H⟩:=Zt H
  have e1:=Z6 h1.wh (Zm 0) p1 p2
  refine Zg (Zk e1 p1 p2) ?_
  refine Zg (Zl 0 h1.wht (Zm 0) p1 p2) ?_
  obtain ⟨r1,q1,H⟩:=Zn H
  refine Ze (Zf [] (Q150.spec q1) h1 rfl Zs) ?_
  rintro _ w2 ⟨_,⟨rfl,rfl⟩,h2⟩
  replace h2:=nf h2
  refine Zi [0,1,5,7,8,16] rfl ?_
  refine jIf H (fun c2 H=>?_) fun c2 H=>?_
  ·refine J.seq (Zc [4] ?_)
   refine J.ret ?_
   cases H
   exact ⟨_,_,_,Za,⟨rfl,rfl⟩,Zb h2 []⟩
  refine J.skip (Zc [0,1,7,8] ?_)
  have h3:=(sOR h2 [] [0])
  exact ⟨k1,by omega,(w64 (x1+1)),rfl,h3,H⟩
 refine J.exit (J.seq (Zc [4] ?_))
 refine J.ret ?_
 cases H
 exact ⟨_,_,_,Za,⟨rfl,rfl⟩,Zb h1 []⟩

def Q108.f (k:Nat) (a0:List (Int)):Option (Bool):=(Q114.f k a0).bind fun r1=>(some (decide (0≤r1)))
theorem Q108.spec {k:Nat} {a0:List (Int)} {A1:Option Addr} {c_1:Nat} {r:Bool} (H:Q108.f k a0=some r) :
  Spec Tryz.prog 115 [.slice A1 a0.length c_1,.func (.func 116) #[] #[]] [] [R5 a0 A1 c_1] (fun v l=>v=.bool r∧l=[]):=by
 refine Zp Tryz.func115 fun w0 F0 h0=>?_
 unfold Q108.f at H
 refine J.seq (Zc [0,1] ?_)
 refine J.seq (J.region ?_)
 refine Zh 2 ?_
 obtain ⟨r1,q1,H⟩:=Zn H
 refine Ze (Zf [] (Q114.spec q1) h0 rfl (Z0 (Zm 0) Zs)) ?_
 rintro _ w1 ⟨_,⟨rfl,rfl⟩,h1⟩
 replace h1:=nf h1
 refine Zi [4] rfl ?_
 refine J.ret ?_
 cases H
 exact ⟨_,_,_,Za,⟨rfl,rfl⟩,Zb h1 []⟩

def Q149.f (k:Nat) (a0:List (Int)×Int) (a1:Int):Option ((List (Int)×Int)):=(Q146.f a0 a1).bind fun r1=>((Q108.f k r1.1).bind fun r2=>(if r2=true then ((Q151.f r1.2 3).bind fun r3=>(some r3)) else (some r1.2)))
theorem Q149.spec {k:Nat} {a0:List (Int)×Int} {a1:Int} {A1:Option Addr} {c_1:Nat} {b1:Nat} {r:(List (Int)×Int)} (H:Q149.f k a0 a1=some r) :
  SpecA Tryz.prog 67 [.pointer (some ⟨b1,0,none⟩),.int .i64 a1] [Xh b1 a0.1 A1 c_1 a0.2] [R5 a0.1 A1 c_1] (fun v l lr=>∃(A_0:Option Addr) (c_0:Nat),v=.tuple #[]∧l=[Xh b1 r.1 A_0 c_0 r.2]∧lr=[R5 r.1 A_0 c_0]):=by
 refine Yy Tryz.func67 fun w0 F0 h0=>?_
 unfold Q149.f at H
 refine J.seq (J.region ?_)
 refine Zh 2 ?_
 obtain ⟨r1,q1,H⟩:=Zn H
 refine Ze (Z9 [0] (Q146.spec q1) h0 rfl (Z0 (Zm 0) Zs)) ?_
 rintro _ w1 ⟨_,_,⟨A2,c_2,A3,c_3,rfl,rfl,rfl⟩,h1⟩
 replace h1:=nf h1
 obtain ⟨r2,q2,H⟩:=Zn H
 refine Ze (Zf [] (Q108.spec q2) h1 rfl (Z0 (gO 0) Zs)) ?_
 rintro _ w2 ⟨_,⟨rfl,rfl⟩,h2⟩
 replace h2:=nf h2
 refine Zi [0,7] rfl ?_
 refine jIf H (fun c1 H=>?_) fun c1 H=>?_
 ·refine J.region (Zh 1 ?_)
  obtain ⟨r3,q3,H⟩:=Zn H
  refine Ze (Z9 [1] (Q151.spec q3) h2 rfl (Z0 (Zm 0) Zs)) ?_
  rintro _ w3 ⟨_,_,⟨A4,c_4,rfl,rfl,rfl⟩,h3⟩
  replace h3:=nf h3
  refine Zi [] rfl ?_
  cases H
  exact ⟨_,_,_,Za,⟨_,_,rfl,rfl,rfl⟩,sOR h3 [0] [0]⟩
 refine J.skip ?_
 cases H
 exact ⟨_,_,_,Za,⟨_,_,rfl,rfl,rfl⟩,sOR h2 [1] [0]⟩

def Q148.f (a0:Int):Option (Bool):=some (!decide (a0=0))
theorem Q148.spec {a0:Int}  {r:Bool} (H:Q148.f a0=some r) :
  Spec Tryz.prog 164 [.int .u8 a0] [] [] (fun v l=>v=.bool r∧l=[]):=by
 refine Zp Tryz.func164 fun w0 F0 h0=>?_
 unfold Q148.f at H
 refine J.seq (Zc [0] ?_)
 refine J.seq (Zc [2] ?_)
 refine J.ret ?_
 cases H
 exact ⟨_,_,_,Za,⟨rfl,rfl⟩,Zb h0 []⟩

def Q113.l0:Nat→(List (Int))→(Int)→Option (Int)
 | 0,_,_=>none
 | k+1,a0,x1=>if (decide (x1<(a0.length:Int)))=true then (if 0≤x1∧x1<(a0.length:Int) then ((Q148.f (gt a0 x1)).bind fun r1=>(if r1=true then (some x1) else (Q113.l0 k a0 (w64 (x1+1))))) else none) else (some (-1))
def Q113.f (k:Nat) (a0:List (Int)):Option (Int):=Q113.l0 k a0 0
theorem Q113.spec {k:Nat} {a0:List (Int)} {A1:Option Addr} {c_1:Nat} {r:Int} (H:Q113.f k a0=some r) :
  Spec Tryz.prog 163 [.slice A1 a0.length c_1,.func (.func 164) #[] #[]] [] [R5 a0 A1 c_1] (fun v l=>v=.int .i64 r∧l=[]):=by
 refine Zp Tryz.func163 fun w0 F0 h0=>?_
 unfold Q113.f at H
 refine J.seq (Zc [0,1] ?_)
 refine J.seq (J.seq (Zc [0,1,7,8] ?_))
 refine J.block ?_
 have h4:=(sOR h0 [] [0])
 refine J.loop (fun kk env w=>∃(x1:Int),env=[(0,.slice A1 a0.length c_1),(1,.func (.func 164) #[] #[]),(7,.int .i64 (a0.length:Int)),(8,.int .i64 x1)]∧St w0 F0 [] [R5 a0 A1 c_1] w∧Q113.l0 kk a0 x1=some r) (k:=k) ⟨0,rfl,h4,H⟩ ?_
 rintro k1 env w1 ⟨x1,rfl,h1,H⟩
 rcases k1 with _ | k1
 ·exact z0 H
 rw [Q113.l0] at H
 refine J.seq (Zc [0,1,7,8,9] ?_)
 refine J.seq (jIf H (fun c1 H=>?_) fun c1 H=>?_)
 ·refine J.skip (J.seq (J.block (J.seq (Zc [0,1,5,7,8] ?_))))
  refine J.seq (J.region ?_)
  refine Zh 3 ?_
  obtain ⟨⟨p1,p2⟩,H⟩:=Zt H
  have e1:=Z6 h1.wh (Zm 0) p1 p2
  refine Zg (Zk e1 p1 p2) ?_
  refine Zg (Zl 0 h1.wht (Zm 0) p1 p2) ?_
  obtain ⟨r1,q1,H⟩:=Zn H
  refine Ze (Zf [] (Q148.spec q1) h1 rfl Zs) ?_
  rintro _ w2 ⟨_,⟨rfl,rfl⟩,h2⟩
  replace h2:=nf h2
  refine Zi [0,1,5,7,8,16] rfl ?_
  refine jIf H (fun c2 H=>?_) fun c2 H=>?_
  ·refine J.seq (Zc [4] ?_)
   refine J.ret ?_
   cases H
   exact ⟨_,_,_,Za,⟨rfl,rfl⟩,Zb h2 []⟩
  refine J.skip (Zc [0,1,7,8] ?_)
  have h3:=(sOR h2 [] [0])
  exact ⟨k1,by omega,(w64 (x1+1)),rfl,h3,H⟩
 refine J.exit (J.seq (Zc [4] ?_))
 refine J.ret ?_
 cases H
 exact ⟨_,_,_,Za,⟨rfl,rfl⟩,Zb h1 []⟩

def Q107.f (k:Nat) (a0:List (Int)):Option (Bool):=(Q113.f k a0).bind fun r1=>(some (decide (0≤r1)))
theorem Q107.spec {k:Nat} {a0:List (Int)} {A1:Option Addr} {c_1:Nat} {r:Bool} (H:Q107.f k a0=some r) :
  Spec Tryz.prog 115 [.slice A1 a0.length c_1,.func (.func 164) #[] #[]] [] [R5 a0 A1 c_1] (fun v l=>v=.bool r∧l=[]):=by
 refine Zp Tryz.func115 fun w0 F0 h0=>?_
 unfold Q107.f at H
 refine J.seq (Zc [0,1] ?_)
 refine J.seq (J.region ?_)
 refine Zh 2 ?_
 obtain ⟨r1,q1,H⟩:=Zn H
 refine Ze (Zf [] (Q113.spec q1) h0 rfl (Z0 (Zm 0) Zs)) ?_
 rintro _ w1 ⟨_,⟨rfl,rfl⟩,h1⟩
 replace h1:=nf h1
 refine Zi [4] rfl ?_
 refine J.ret ?_
 cases H
 exact ⟨_,_,_,Za,⟨rfl,rfl⟩,Zb h1 []⟩

def Q147.f (k:Nat) (a0:List (Int)×Int) (a1:Int) (a2:Int):Option (List UInt8×(List (Int)×Int)):=if (decide (a1<0))=true then ((Q151.f a0 2).bind fun r1=>(some (([]:List UInt8),r1))) else (if (decide (a2<a1))=true then ((Q151.f a0 2).bind fun r2=>(some (([]:List UInt8),r2))) else ((Q146.f a0 a2).bind fun r3=>(if (decide ((r3.1.length:Int)<a2))=true then (some (([]:List UInt8),r3.2)) else (if 0≤a1∧a1≤(r3.1.length:Int) then ((Q107.f k (r3.1.drop a1.toNat)).bind fun r4=>(if r4=true then ((Q151.f r3.2 3).bind fun r5=>(some (([]:List UInt8),r5))) else (if (0:Int)≤a1∧a1≤(r3.1.length:Int) then (some ((toS (r3.1.take a1.toNat)),r3.2)) else none))) else none))))
theorem Q147.spec {k:Nat} {a0:List (Int)×Int} {a1:Int} {a2:Int} {A1:Option Addr} {c_1:Nat} {b1:Nat} {r:List UInt8×(List (Int)×Int)} (H:Q147.f k a0 a1 a2=some r) :
  SpecA Tryz.prog 119 [.pointer (some ⟨b1,0,none⟩),.int .i64 a1,.int .i64 a2] [Xh b1 a0.1 A1 c_1 a0.2] [R5 a0.1 A1 c_1] (fun v l lr=>∃(A_0:Option Addr) (c_0:Nat),v=.string ⟨⟨r.1⟩⟩∧l=[Xh b1 r.2.1 A_0 c_0 r.2.2]∧lr=[R5 r.2.1 A_0 c_0]):=by
 refine Yy Tryz.func119 fun w0 F0 h0=>?_
 unfold Q147.f at H
 refine J.seq (Zc [0,1,2] ?_)
 refine J.seq (J.seq (Zc [0,1,2,9] ?_))
 refine Zz ?_
 refine J.skip (J.seq (J.seq (J.region ?_)))
 refine Zh 3 ?_
 refine Z7 12 H (fun c1 H=>?_) fun c1 H=>?_
 ·refine Zi [0,1,2,16] rfl ?_
  refine Zo ?_
  refine J.seq (J.region ?_)
  refine Zh 1 ?_
  obtain ⟨r1,q1,H⟩:=Zn H
  refine Ze (Z9 [0] (Q151.spec q1) h0 rfl (Z0 (Zm 0) Zs)) ?_
  rintro _ w1 ⟨_,_,⟨A2,c_2,rfl,rfl,rfl⟩,h1⟩
  replace h1:=nf h1
  refine Zi [] rfl ?_
  refine J.seq (Zc [6] ?_)
  refine J.ret ?_
  cases H
  exact ⟨_,_,_,Za,⟨_,_,rfl,rfl,rfl⟩,sOR h1 [0] [0]⟩
 refine Zi [0,1,2,16] rfl ?_
 refine jIf H (fun c2 H=>?_) fun c2 H=>?_
 ·refine J.seq (J.region ?_)
  refine Zh 1 ?_
  obtain ⟨r2,q2,H⟩:=Zn H
  refine Ze (Z9 [0] (Q151.spec q2) h0 rfl (Z0 (Zm 0) Zs)) ?_
  rintro _ w2 ⟨_,_,⟨A3,c_3,rfl,rfl,rfl⟩,h2⟩
  replace h2:=nf h2
  refine Zi [] rfl ?_
  refine J.seq (Zc [6] ?_)
  refine J.ret ?_
  cases H
  exact ⟨_,_,_,Za,⟨_,_,rfl,rfl,rfl⟩,sOR h2 [0] [0]⟩
 refine J.skip (J.seq (J.region ?_))
 refine Zh 2 ?_
 obtain ⟨r3,q3,H⟩:=Zn H
 refine Ze (Z9 [0] (Q146.spec q3) h0 rfl (Z0 (Zm 0) Zs)) ?_
 rintro _ w3 ⟨_,_,⟨A4,c_4,A5,c_5,rfl,rfl,rfl⟩,h3⟩
 replace h3:=nf h3
 refine Zi [0,1,2,7] rfl ?_
 refine J.seq (J.seq (Zc [0,1,7,25] ?_))
 refine jIf H (fun c3 H=>?_) fun c3 H=>?_
 ·refine J.seq (Zc [6] ?_)
  refine J.ret ?_
  cases H
  exact ⟨_,_,_,Za,⟨_,_,rfl,rfl,rfl⟩,sOR h3 [1] [0]⟩
 refine J.skip (J.seq (J.seq (J.region ?_)))
 refine Zh 2 ?_
 obtain ⟨⟨p1,p2⟩,H⟩:=Zt H
 have e1:=h3.cap (gO 0)
 refine Zg (W4 (r3.1.drop a1.toNat) a1 (r3.1.length:Int) e1 p1 p2 (Int.le_refl _) (Xt _ _)) ?_
 obtain ⟨r4,q4,H⟩:=Zn H
 refine Ze (Zf [] (Q107.spec q4) h3 rfl (Z0 ((Gives.of 0 rfl Y9).trans (X8 (.int .u8) (r3.1.drop a1.toNat) a1 (r3.1.length:Int) p1 p2 (Int.le_refl _) (Xt _ _))) Zs)) ?_
 rintro _ w4 ⟨_,⟨rfl,rfl⟩,h4⟩
 replace h4:=nf h4
 refine Zi [0,1,7,29] rfl ?_
 refine jIf H (fun c4 H=>?_) fun c4 H=>?_
 ·refine J.seq (J.region ?_)
  refine Zh 1 ?_
  obtain ⟨r5,q5,H⟩:=Zn H
  refine Ze (Z9 [1] (Q151.spec q5) h4 rfl (Z0 (Zm 0) Zs)) ?_
  rintro _ w5 ⟨_,_,⟨A6,c_6,rfl,rfl,rfl⟩,h5⟩
  replace h5:=nf h5
  refine Zi [] rfl ?_
  refine J.seq (Zc [6] ?_)
  refine J.ret ?_
  cases H
  exact ⟨_,_,_,Za,⟨_,_,rfl,rfl,rfl⟩,sOR h5 [0] [0]⟩
 refine J.skip (J.seq (J.region ?_))
 refine Zh 2 ?_
 obtain ⟨⟨p3,p4⟩,H⟩:=Zt H
 have e2:=h4.cap (gO 0)
 refine Zg (Wf (r3.1.take a1.toNat) a1 e2 p3 p4) ?_
 refine Zg (Bq h4.wht ((Gives.of 0 rfl Y9).trans (Ur (.int .u8) (r3.1.take a1.toNat) a1 p3 p4))) ?_
 refine Zi [6] rfl ?_
 refine J.ret ?_
 cases H
 exact ⟨_,_,_,Za,⟨_,_,rfl,rfl,rfl⟩,sOR h4 [1] [0]⟩

def Q41.f (k:Nat) (a0:Int×Int×Int×Int×Int×Int×Int×Int) (a1:List (Int)×Int):Option (List UInt8×List UInt8×(List (Int)×Int)):=(Q145.f k a1 1).bind fun r1=>((Q145.f k r1.2 2).bind fun r2=>((Q147.f k r2.2 (w64 (r1.1)) a0.2.2.2.2.2.2.1).bind fun r3=>((Q147.f k r3.2 (w64 (r2.1)) a0.2.2.2.2.2.2.2).bind fun r4=>(some (r3.1,r4.1,r4.2)))))
theorem Q41.spec {k:Nat} {a0:Int×Int×Int×Int×Int×Int×Int×Int} {a1:List (Int)×Int} {A1:Option Addr} {c_1:Nat} {b1:Nat} {r:List UInt8×List UInt8×(List (Int)×Int)} (H:Q41.f k a0 a1=some r) :
  SpecA Tryz.prog 118 [.agg #[.int .i64 a0.1,.int .i64 a0.2.1,.int .i64 a0.2.2.1,.int .i64 a0.2.2.2.1,.int .i64 a0.2.2.2.2.1,.int .i64 a0.2.2.2.2.2.1,.int .i64 a0.2.2.2.2.2.2.1,.int .i64 a0.2.2.2.2.2.2.2],.pointer (some ⟨b1,0,none⟩)] [Xh b1 a1.1 A1 c_1 a1.2] [R5 a1.1 A1 c_1] (fun v l lr=>∃(A_0:Option Addr) (c_0:Nat),v=.tuple #[.string ⟨⟨r.1⟩⟩,.string ⟨⟨r.2.1⟩⟩]∧l=[Xh b1 r.2.2.1 A_0 c_0 r.2.2.2]∧lr=[R5 r.2.2.1 A_0 c_0]):=by
 refine Yy Tryz.func118 fun w0 F0 h0=>?_
 unfold Q41.f at H
 refine J.seq (J.region ?_)
 refine Ze (Ye h0) ?_
 rintro _ w1 ⟨b2,rfl,h1⟩
 replace h1:=nf h1
 refine Zi [1,2] rfl ?_
 refine J.seq (J.region ?_)
 refine Zh 1 ?_
 obtain ⟨r1,q1,H⟩:=Zn H
 refine Ze (Z9 [1] (Q145.spec q1) h1 rfl (Z0 (Zm 0) Zs)) ?_
 rintro _ w2 ⟨_,_,⟨A2,c_2,rfl,rfl,rfl⟩,h2⟩
 replace h2:=nf h2
 refine Zh 2 ?_
 obtain ⟨r2,q2,H⟩:=Zn H
 refine Ze (Z9 [0] (Q145.spec q2) h2 rfl (Z0 (Zm 0) Zs)) ?_
 rintro _ w3 ⟨_,_,⟨A3,c_3,rfl,rfl,rfl⟩,h3⟩
 replace h3:=nf h3
 refine Zi [1,2,6,7] rfl ?_
 refine J.seq (Zv (Zb h3 [1]) ?_)
 have h4:=h3.drew
 refine Zu [0,1,2,5,6,7] ?_
 refine Zj 3 rfl (Zd 0 wI) ?_
 refine Zj 8 rfl (Zd 0 wI) ?_
 obtain ⟨r3,q3,H⟩:=Zn H
 refine Zq 4 rfl (Z9 [0] (Q147.spec q3) h4 rfl (Z0 (Zm 0) Zs)) ?_
 rintro _ w4 ⟨_,_,⟨A4,c_4,rfl,rfl,rfl⟩,h5⟩
 replace h5:=nf h5
 refine ⟨⟨[_],(Wr h5 [1,2,3])⟩,?_⟩
 obtain ⟨r4,q4,H⟩:=Zn H
 refine Zq 9 rfl (Z9 [0] (Q147.spec q4) h5 rfl (Z0 (Zm 0) Zs)) ?_
 rintro _ w5 ⟨_,_,⟨A5,c_5,rfl,rfl,rfl⟩,h6⟩
 replace h6:=nf h6
 refine ⟨⟨[_],(Wr h6 [2,3,4])⟩,?_⟩
 refine Zu [10,11] ?_
 refine Zw [4,5] ?_
 refine J.ret ?_
 cases H
 exact ⟨_,_,_,Za,⟨_,_,rfl,rfl,rfl⟩,sOR h6 [0] [0]⟩

def Q40.l0:Nat→(Int×Int×Int×Int×Int×Int×Int×Int)→(Int)→(List (Int))→(Int)→(List (List UInt8×List UInt8))→(Int)→Option ((Int×List (Int)×List (List UInt8)×(List (List UInt8×Bool×List UInt8))×(List (List UInt8×List UInt8)))×(List (Int)×Int))
 | 0,_,_,_,_,_,_=>none
 | k+1,a0,a2,x1,x2,x3,x4=>if (decide (x4<(if a0.2.2.2.2.2.1<a2 then a0.2.2.2.2.2.1 else a2)))=true then ((Q41.f k a0 (x1,x2)).bind fun r1=>(if (x3.length+([(r1.1,r1.2.1)]:List (List UInt8×List UInt8)).length)*32≤140737488355328 then (Q40.l0 k a0 a2 r1.2.2.1 r1.2.2.2 (x3 ++ ([(r1.1,r1.2.1)]:List (List UInt8×List UInt8))) (w64 (x4+1))) else none)) else (some ((0,([]:List (Int)),([]:List (List UInt8)),([]:List (List UInt8×Bool×List UInt8)),x3),(x1,x2)))
def Q40.f (k:Nat) (a0:Int×Int×Int×Int×Int×Int×Int×Int) (a1:List (Int)×Int) (a2:Int):Option ((Int×List (Int)×List (List UInt8)×(List (List UInt8×Bool×List UInt8))×(List (List UInt8×List UInt8)))×(List (Int)×Int)):=Q40.l0 k a0 a2 a1.1 a1.2 ([]:List (List UInt8×List UInt8)) 0
theorem Q40.spec {k:Nat} {a0:Int×Int×Int×Int×Int×Int×Int×Int} {a1:List (Int)×Int} {a2:Int} {A1:Option Addr} {c_1:Nat} {b1:Nat} {r:(Int×List (Int)×List (List UInt8)×(List (List UInt8×Bool×List UInt8))×(List (List UInt8×List UInt8)))×(List (Int)×Int)} (H:Q40.f k a0 a1 a2=some r) :
  SpecA Tryz.prog 68 [.agg #[.int .i64 a0.1,.int .i64 a0.2.1,.int .i64 a0.2.2.1,.int .i64 a0.2.2.2.1,.int .i64 a0.2.2.2.2.1,.int .i64 a0.2.2.2.2.2.1,.int .i64 a0.2.2.2.2.2.2.1,.int .i64 a0.2.2.2.2.2.2.2],.pointer (some ⟨b1,0,none⟩),.int .i64 a2] [Xh b1 a1.1 A1 c_1 a1.2] [R5 a1.1 A1 c_1] (fun v l lr=>∃(A_0:Option Addr) (c_0:Nat) (A_1:Option Addr) (c_1:Nat) (A_2:Option Addr) (c_2:Nat) (A_3:Option Addr) (c_3:Nat) (A_4:Option Addr) (c_4:Nat),v=.agg #[.int .i64 r.1.1,.slice A_0 r.1.2.1.length c_0,.slice A_1 r.1.2.2.1.length c_1,.slice A_2 r.1.2.2.2.1.length c_2,.slice A_3 r.1.2.2.2.2.length c_3]∧l=[O33 r.1.2.1 A_0 c_0,O9 r.1.2.2.1 A_1 c_1,U4 r.1.2.2.2.1 A_2 c_2,U6 r.1.2.2.2.2 A_3 c_3,Xh b1 r.2.1 A_4 c_4 r.2.2]∧lr=[R5 r.2.1 A_4 c_4]):=by
 refine Yy Tryz.func68 fun w0 F0 h0=>?_
 unfold Q40.f at H
 refine J.seq (J.region ?_)
 refine Ze (Ye h0) ?_
 rintro _ w1 ⟨b2,rfl,h1⟩
 replace h1:=nf h1
 refine Ze (Yq h1) ?_
 rintro _ w2 ⟨b3,rfl,h2⟩
 replace h2:=nf h2
 refine Zi [1,2,3,6] rfl ?_
 refine J.seq (J.region ?_)
 refine Zh 1 ?_
 refine Ze (Yq h2) ?_
 rintro _ w3 ⟨b4,rfl,h3⟩
 replace h3:=nf h3
 refine Ze (Z3 0 h3) ?_
 intro _ w4 h4
 replace h4:=nf h4
 refine Zi [1,2,3,6,7] rfl ?_
 refine J.seq (J.seq (J.region ?_))
 refine Zh 2 ?_
 refine Zg (Zd 2 h4.wht) ?_
 refine Zi [1,3,6,7,14,15] rfl ?_
 refine J.block ?_
 have h16:=h4.addNil 106 (.pair .str .str)
 have h17:=(sOR h16 [4,3,2,1,0] [0])
 refine J.loop (fun kk env w=>∃(x1:List (Int)) (A2:Option Addr) (c_2:Nat) (x2:Int) (x3:List (List UInt8×List UInt8)) (A3:Option Addr) (c_3:Nat) (x4:Int),env=[(1,.pointer (some ⟨b1,0,none⟩)),(3,.pointer (some ⟨b2,0,none⟩)),(6,.pointer (some ⟨b3,0,none⟩)),(7,.pointer (some ⟨b4,0,none⟩)),(14,.int .i64 (if a0.2.2.2.2.2.1<a2 then a0.2.2.2.2.2.1 else a2)),(15,.int .i64 x4)]∧St w0 F0 [Xh b1 x1 A2 c_2 x2,X23 b2 a0.1 a0.2.1 a0.2.2.1 a0.2.2.2.1 a0.2.2.2.2.1 a0.2.2.2.2.2.1 a0.2.2.2.2.2.2.1 a0.2.2.2.2.2.2.2,X43 b3 0 ([]:List (Int)) none 0 ([]:List (List UInt8)) none 0 ([]:List (List UInt8×Bool×List UInt8)) none 0 ([]:List (List UInt8×List UInt8)) none 0,X43 b4 0 ([]:List (Int)) none 0 ([]:List (List UInt8)) none 0 ([]:List (List UInt8×Bool×List UInt8)) none 0 x3 A3 c_3,U6 x3 A3 c_3] [R5 x1 A2 c_2] w∧Q40.l0 kk a0 a2 x1 x2 x3 x4=some r) (k:=k) ⟨a1.1,A1,c_1,a1.2,([]:List (List UInt8×List UInt8)),none,0,0,rfl,h17,H⟩ ?_
 rintro k1 env w5 ⟨x1,A2,c_2,x2,x3,A3,c_3,x4,rfl,h5,H⟩
 rcases k1 with _ | k1
 ·exact z0 H
 rw [Q40.l0] at H
 refine J.seq (Zc [1,3,6,7,14,15,16] ?_)
 refine J.seq (jIf H (fun c1 H=>?_) fun c1 H=>?_)
 ·refine J.skip (J.seq (J.block (J.seq (J.region ?_))))
  refine Zg (Zd 1 h5.wht) ?_
  refine Zh 1 ?_
  obtain ⟨r1,q1,H⟩:=Zn H
  refine Ze (Z9 [0] (Q41.spec q1) h5 rfl (Z0 (Zm 0) Zs)) ?_
  rintro _ w6 ⟨_,_,⟨A4,c_4,rfl,rfl,rfl⟩,h6⟩
  replace h6:=nf h6
  refine Zi [1,3,6,7,8,9,14,15] rfl ?_
  refine J.region (Zh 1 ?_)
  refine Zg (Zd 3 h6.wht) ?_
  refine Zh 3 ?_
  refine Ze (Xc (.pair .str .str) ([(r1.1,r1.2.1)]:List (List UInt8×List UInt8)) h6) ?_
  rintro _ w7 ⟨b5,rfl,h7⟩
  replace h7:=nf h7
  obtain ⟨p1,H⟩:=Zt H
  refine Ze (Yr 5 h7 (gO 0) p1) ?_
  rintro _ w8 ⟨A5,c_5,rfl,h8⟩
  replace h8:=nf h8
  refine Zh 1 ?_
  refine Ze (Z3 5 h8) ?_
  intro _ w9 h9
  replace h9:=nf h9
  refine Zi [1,3,6,7,14,15] rfl ?_
  refine Zc [1,3,6,7,14,15] ?_
  have h10:=(sOR h9 [3,3,3,0,0] [0])
  exact ⟨k1,by omega,r1.2.2.1,A4,c_4,r1.2.2.2,(x3 ++ ([(r1.1,r1.2.1)]:List (List UInt8×List UInt8))),A5,c_5,(w64 (x4+1)),rfl,h10,H⟩
 refine J.exit (J.seq (J.region ?_))
 refine Zg (Zd 3 h5.wht) ?_
 refine Ze (Z3 2 h5) ?_
 intro _ w10 h11
 replace h11:=nf h11
 refine Zi [6] rfl ?_
 have h12:=Zb h11 [0,0,2]
 replace h12:=nf h12
 refine J.ret ?_
 have h13:=h12.addNil 33 (.int .u32)
 have h14:=h13.addNil 9 .str
 have h15:=h14.addNil 115 (.pair .str (.pair .bool .str))
 cases H
 exact ⟨_,_,_,(Yf rfl (Ym (RV.cell Yu 3 h15 rfl rfl rfl rfl) Xb) rfl),⟨_,_,_,_,_,_,_,_,_,_,rfl,rfl,rfl⟩,sOR h15 [2,1,0,2,1] [0]⟩

def Q39.l2:Nat→(Int×Int×Int×Int×Int×Int×Int×Int)→(Int)→(Int)→(List (Int))→(List (List UInt8))→(List (Int))→(Int)→(List (List UInt8×Bool×List UInt8))→(Int)→Option ((Int×List (Int)×List (List UInt8)×(List (List UInt8×Bool×List UInt8))×(List (List UInt8×List UInt8)))×(List (Int)×Int))
 | 0,_,_,_,_,_,_,_,_,_=>none
 | k+1,a0,a2,a4,x3,x7,x9,x10,x11,x12=>if (decide (x12<(if a0.2.2.2.2.1<a4 then a0.2.2.2.2.1 else a4)))=true then ((Q145.f k (x9,x10) 1).bind fun r4=>((Q41.f k a0 r4.2).bind fun r5=>(if (x11.length+([(r5.1,(decide (r4.1=2)),r5.2.1)]:List (List UInt8×Bool×List UInt8)).length)*40≤140737488355328 then (Q39.l2 k a0 a2 a4 x3 x7 r5.2.2.1 r5.2.2.2 (x11 ++ ([(r5.1,(decide (r4.1=2)),r5.2.1)]:List (List UInt8×Bool×List UInt8))) (w64 (x12+1))) else none))) else (some ((a2,x3,x7,x11,([]:List (List UInt8×List UInt8))),(x9,x10)))
def Q39.l1:Nat→(Int×Int×Int×Int×Int×Int×Int×Int)→(Int)→(Int)→(Int)→(List (Int))→(List (Int))→(Int)→(List (List UInt8))→(Int)→Option ((Int×List (Int)×List (List UInt8)×(List (List UInt8×Bool×List UInt8))×(List (List UInt8×List UInt8)))×(List (Int)×Int))
 | 0,_,_,_,_,_,_,_,_,_=>none
 | k+1,a0,a2,a3,a4,x3,x5,x6,x7,x8=>if (decide (x8<(w64 (a0.2.2.2.1 - 1))))=true then ((Q145.f k (x5,x6) 1).bind fun r2=>((Q147.f k r2.2 (w64 (r2.1)) a0.2.2.2.2.2.2.1).bind fun r3=>(if (decide ((w64 (x8+1))<a3))=true then (if (x7.length+([r3.1]:List (List UInt8)).length)*16≤140737488355328 then (Q39.l1 k a0 a2 a3 a4 x3 r3.2.1 r3.2.2 (x7 ++ ([r3.1]:List (List UInt8))) (w64 (x8+1))) else none) else (Q39.l1 k a0 a2 a3 a4 x3 r3.2.1 r3.2.2 x7 (w64 (x8+1)))))) else (Q39.l2 k a0 a2 a4 x3 x7 x5 x6 ([]:List (List UInt8×Bool×List UInt8)) 0)
def Q39.l0:Nat→(Int×Int×Int×Int×Int×Int×Int×Int)→(Int)→(Int)→(Int)→(List (Int))→(Int)→(List (Int))→(Int)→Option ((Int×List (Int)×List (List UInt8)×(List (List UInt8×Bool×List UInt8))×(List (List UInt8×List UInt8)))×(List (Int)×Int))
 | 0,_,_,_,_,_,_,_,_=>none
 | k+1,a0,a2,a3,a4,x1,x2,x3,x4=>if (decide (x4<a0.2.2.2.1))=true then ((Q145.f k (x1,x2) 4).bind fun r1=>(if (decide (x4<a3))=true then (if (x3.length+([(IntKind.u32.wrap (r1.1))]:List (Int)).length)*4≤140737488355328 then (Q39.l0 k a0 a2 a3 a4 r1.2.1 r1.2.2 (x3 ++ ([(IntKind.u32.wrap (r1.1))]:List (Int))) (w64 (x4+1))) else none) else (Q39.l0 k a0 a2 a3 a4 r1.2.1 r1.2.2 x3 (w64 (x4+1))))) else (Q39.l1 k a0 a2 a3 a4 x3 x1 x2 ([]:List (List UInt8)) 0)
def Q39.f (k:Nat) (a0:Int×Int×Int×Int×Int×Int×Int×Int) (a1:List (Int)×Int) (a2:Int) (a3:Int) (a4:Int):Option ((Int×List (Int)×List (List UInt8)×(List (List UInt8×Bool×List UInt8))×(List (List UInt8×List UInt8)))×(List (Int)×Int)):=Q39.l0 k a0 a2 a3 a4 a1.1 a1.2 ([]:List (Int)) 0
theorem Q39.spec {k:Nat} {a0:Int×Int×Int×Int×Int×Int×Int×Int} {a1:List (Int)×Int} {a2:Int} {a3:Int} {a4:Int} {A1:Option Addr} {c_1:Nat} {b1:Nat} {r:(Int×List (Int)×List (List UInt8)×(List (List UInt8×Bool×List UInt8))×(List (List UInt8×List UInt8)))×(List (Int)×Int)} (H:Q39.f k a0 a1 a2 a3 a4=some r) :
  SpecA Tryz.prog 69 [.agg #[.int .i64 a0.1,.int .i64 a0.2.1,.int .i64 a0.2.2.1,.int .i64 a0.2.2.2.1,.int .i64 a0.2.2.2.2.1,.int .i64 a0.2.2.2.2.2.1,.int .i64 a0.2.2.2.2.2.2.1,.int .i64 a0.2.2.2.2.2.2.2],.pointer (some ⟨b1,0,none⟩),.int .i64 a2,.int .i64 a3,.int .i64 a4] [Xh b1 a1.1 A1 c_1 a1.2] [R5 a1.1 A1 c_1] (fun v l lr=>∃(A_0:Option Addr) (c_0:Nat) (A_1:Option Addr) (c_1:Nat) (A_2:Option Addr) (c_2:Nat) (A_3:Option Addr) (c_3:Nat) (A_4:Option Addr) (c_4:Nat),v=.agg #[.int .i64 r.1.1,.slice A_0 r.1.2.1.length c_0,.slice A_1 r.1.2.2.1.length c_1,.slice A_2 r.1.2.2.2.1.length c_2,.slice A_3 r.1.2.2.2.2.length c_3]∧l=[O33 r.1.2.1 A_0 c_0,O9 r.1.2.2.1 A_1 c_1,U4 r.1.2.2.2.1 A_2 c_2,U6 r.1.2.2.2.2 A_3 c_3,Xh b1 r.2.1 A_4 c_4 r.2.2]∧lr=[R5 r.2.1 A_4 c_4]):=by
 refine Yy Tryz.func69 fun w0 F0 h0=>?_
 unfold Q39.f at H
 refine J.seq (J.region ?_)
 refine Ze (Ye h0) ?_
 rintro _ w1 ⟨b2,rfl,h1⟩
 replace h1:=nf h1
 refine Ze (Yq h1) ?_
 rintro _ w2 ⟨b3,rfl,h2⟩
 replace h2:=nf h2
 refine Zi [1,2,3,4,5,10] rfl ?_
 refine J.seq (J.region ?_)
 refine Zh 2 ?_
 refine Ze (Yq h2) ?_
 rintro _ w3 ⟨b4,rfl,h3⟩
 replace h3:=nf h3
 refine Ze (Z3 0 h3) ?_
 intro _ w4 h4
 replace h4:=nf h4
 refine Zi [1,3,4,5,10,11] rfl ?_
 refine J.seq (J.seq (J.region ?_))
 refine Zh 1 ?_
 refine Zg (Zd 2 h4.wht) ?_
 refine Zi [1,3,4,5,10,11,22,23] rfl ?_
 refine J.block ?_
 have h35:=h4.addNil 33 (.int .u32)
 have h36:=(sOR h35 [4,3,2,1,0] [0])
 refine J.loop (fun kk env w=>∃(x1:List (Int)) (A2:Option Addr) (c_2:Nat) (x2:Int) (x3:List (Int)) (A3:Option Addr) (c_3:Nat) (x4:Int),env=[(1,.pointer (some ⟨b1,0,none⟩)),(3,.int .i64 a3),(4,.int .i64 a4),(5,.pointer (some ⟨b2,0,none⟩)),(10,.pointer (some ⟨b3,0,none⟩)),(11,.pointer (some ⟨b4,0,none⟩)),(22,.int .i64 a0.2.2.2.1),(23,.int .i64 x4)]∧St w0 F0 [Xh b1 x1 A2 c_2 x2,X23 b2 a0.1 a0.2.1 a0.2.2.1 a0.2.2.2.1 a0.2.2.2.2.1 a0.2.2.2.2.2.1 a0.2.2.2.2.2.2.1 a0.2.2.2.2.2.2.2,X43 b3 0 ([]:List (Int)) none 0 ([]:List (List UInt8)) none 0 ([]:List (List UInt8×Bool×List UInt8)) none 0 ([]:List (List UInt8×List UInt8)) none 0,X43 b4 a2 x3 A3 c_3 ([]:List (List UInt8)) none 0 ([]:List (List UInt8×Bool×List UInt8)) none 0 ([]:List (List UInt8×List UInt8)) none 0,O33 x3 A3 c_3] [R5 x1 A2 c_2] w∧Q39.l0 kk a0 a2 a3 a4 x1 x2 x3 x4=some r) (k:=k) ⟨a1.1,A1,c_1,a1.2,([]:List (Int)),none,0,0,rfl,h36,H⟩ ?_
 rintro k1 env w5 ⟨x1,A2,c_2,x2,x3,A3,c_3,x4,rfl,h5,H⟩
 rcases k1 with _ | k1
 ·exact z0 H
 rw [Q39.l0] at H
 refine J.seq (Zc [1,3,4,5,10,11,22,23,24] ?_)
 refine J.seq (jIf H (fun c1 H=>?_) fun c1 H=>?_)
 ·refine J.skip (J.seq (J.block (J.seq (Zc [1,3,4,5,10,11,12,22,23] ?_))))
  refine J.seq (J.region ?_)
  refine Zh 1 ?_
  obtain ⟨r1,q1,H⟩:=Zn H
  refine Ze (Z9 [0] (Q145.spec q1) h5 rfl (Z0 (Zm 0) Zs)) ?_
  rintro _ w6 ⟨_,_,⟨A4,c_4,rfl,rfl,rfl⟩,h6⟩
  replace h6:=nf h6
  refine Zi [1,3,4,5,10,11,12,13,22,23] rfl ?_
  refine J.seq (Zc [1,3,4,5,10,11,13,22,23,31] ?_)
  refine jIf H (fun c2 H=>?_) fun c2 H=>?_
  ·refine J.region (Zh 1 ?_)
   refine Zg (Zd 3 h6.wht) ?_
   refine Zh 1 ?_
   refine Ze (Xc (.int .u32) ([(IntKind.u32.wrap (r1.1))]:List (Int)) h6) ?_
   rintro _ w7 ⟨b5,rfl,h7⟩
   replace h7:=nf h7
   obtain ⟨p1,H⟩:=Zt H
   refine Ze (Yr 5 h7 (gO 0) p1) ?_
   rintro _ w8 ⟨A5,c_5,rfl,h8⟩
   replace h8:=nf h8
   refine Zh 1 ?_
   refine Ze (Z3 5 h8) ?_
   intro _ w9 h9
   replace h9:=nf h9
   refine Zi [1,3,4,5,10,11,22,23] rfl ?_
   refine Zc [1,3,4,5,10,11,22,23] ?_
   have h10:=(sOR h9 [3,3,3,0,0] [0])
   exact ⟨k1,by omega,r1.2.1,A4,c_4,r1.2.2,(x3 ++ ([(IntKind.u32.wrap (r1.1))]:List (Int))),A5,c_5,(w64 (x4+1)),rfl,h10,H⟩
  refine J.skip (Zc [1,3,4,5,10,11,22,23] ?_)
  have h11:=(sOR h6 [0,0,0,0,0] [0])
  exact ⟨k1,by omega,r1.2.1,A4,c_4,r1.2.2,x3,A3,c_3,(w64 (x4+1)),rfl,h11,H⟩
 refine J.exit (J.seq (J.seq (J.region ?_)))
 refine Zh 1 ?_
 refine Zg (Zd 1 h5.wht) ?_
 refine Zi [1,3,4,5,10,11,41,42] rfl ?_
 refine J.block ?_
 have h33:=h5.addNil 9 .str
 have h34:=(sOR h33 [1,1,1,1,1,0] [0])
 refine J.loop (fun kk env w=>∃(x5:List (Int)) (A6:Option Addr) (c_6:Nat) (x6:Int) (x7:List (List UInt8)) (A7:Option Addr) (c_7:Nat) (x8:Int),env=[(1,.pointer (some ⟨b1,0,none⟩)),(3,.int .i64 a3),(4,.int .i64 a4),(5,.pointer (some ⟨b2,0,none⟩)),(10,.pointer (some ⟨b3,0,none⟩)),(11,.pointer (some ⟨b4,0,none⟩)),(41,.int .i64 (w64 (a0.2.2.2.1 - 1))),(42,.int .i64 x8)]∧St w0 F0 [Xh b1 x5 A6 c_6 x6,X23 b2 a0.1 a0.2.1 a0.2.2.1 a0.2.2.2.1 a0.2.2.2.2.1 a0.2.2.2.2.2.1 a0.2.2.2.2.2.2.1 a0.2.2.2.2.2.2.2,X43 b3 0 ([]:List (Int)) none 0 ([]:List (List UInt8)) none 0 ([]:List (List UInt8×Bool×List UInt8)) none 0 ([]:List (List UInt8×List UInt8)) none 0,X43 b4 a2 x3 A3 c_3 x7 A7 c_7 ([]:List (List UInt8×Bool×List UInt8)) none 0 ([]:List (List UInt8×List UInt8)) none 0,O33 x3 A3 c_3,O9 x7 A7 c_7] [R5 x5 A6 c_6] w∧Q39.l1 kk a0 a2 a3 a4 x3 x5 x6 x7 x8=some r) (k:=k1) ⟨x1,A2,c_2,x2,([]:List (List UInt8)),none,0,0,rfl,h34,H⟩ ?_
 rintro k2 env w10 ⟨x5,A6,c_6,x6,x7,A7,c_7,x8,rfl,h12,H⟩
 rcases k2 with _ | k2
 ·exact z0 H
 rw [Q39.l1] at H
 refine J.seq (Zc [1,3,4,5,10,11,41,42,43] ?_)
 refine J.seq (jIf H (fun c3 H=>?_) fun c3 H=>?_)
 ·refine J.skip (J.seq (J.block (J.seq (Zc [1,3,4,5,10,11,14,41,42] ?_))))
  refine J.seq (Zv (Zb h12 [1,1,1,1,1]) ?_)
  have h13:=h12.drew
  refine Zu [0,1,4] ?_
  refine Zj 5 rfl (Zd 0 wI) ?_
  obtain ⟨r2,q2,H⟩:=Zn H
  refine Zq 2 rfl (Z9 [0] (Q145.spec q2) h13 rfl (Z0 (Zm 0) Zs)) ?_
  rintro _ w11 ⟨_,_,⟨A8,c_8,rfl,rfl,rfl⟩,h14⟩
  replace h14:=nf h14
  refine ⟨⟨[_],(Wr h14 [1])⟩,?_⟩
  refine Zu [3] ?_
  obtain ⟨r3,q3,H⟩:=Zn H
  refine Zq 6 rfl (Z9 [0] (Q147.spec q3) h14 rfl (Z0 (Zm 0) Zs)) ?_
  rintro _ w12 ⟨_,_,⟨A9,c_9,rfl,rfl,rfl⟩,h15⟩
  replace h15:=nf h15
  refine ⟨⟨[_],(Wr h15 [2])⟩,?_⟩
  refine Zu [7] ?_
  refine Zw [1,3,4,5,10,11,14,15,41,42] ?_
  refine J.seq (Zc [1,3,4,5,10,11,15,41,42,55] ?_)
  refine jIf H (fun c4 H=>?_) fun c4 H=>?_
  ·refine J.region (Zh 1 ?_)
   refine Zg (Zd 3 h15.wht) ?_
   refine Zh 1 ?_
   refine Ze (Xc .str ([r3.1]:List (List UInt8)) h15) ?_
   rintro _ w13 ⟨b6,rfl,h16⟩
   replace h16:=nf h16
   obtain ⟨p2,H⟩:=Zt H
   refine Ze (Yr 6 h16 (gO 0) p2) ?_
   rintro _ w14 ⟨A10,c_10,rfl,h17⟩
   replace h17:=nf h17
   refine Zh 1 ?_
   refine Ze (Z3 5 h17) ?_
   intro _ w15 h18
   replace h18:=nf h18
   refine Zi [1,3,4,5,10,11,41,42] rfl ?_
   refine Zc [1,3,4,5,10,11,41,42] ?_
   have h19:=(sOR h18 [3,3,3,0,2,0] [0])
   exact ⟨k2,by omega,r3.2.1,A9,c_9,r3.2.2,(x7 ++ ([r3.1]:List (List UInt8))),A10,c_10,(w64 (x8+1)),rfl,h19,H⟩
  refine J.skip (Zc [1,3,4,5,10,11,41,42] ?_)
  have h20:=(sOR h15 [0,0,0,0,0,0] [0])
  exact ⟨k2,by omega,r3.2.1,A9,c_9,r3.2.2,x7,A7,c_7,(w64 (x8+1)),rfl,h20,H⟩
 refine J.exit (J.seq (J.seq (J.region ?_)))
 refine Zh 2 ?_
 refine Zg (Zd 1 h12.wht) ?_
 refine Zi [1,5,10,11,66,67] rfl ?_
 refine J.block ?_
 have h31:=h12.addNil 115 (.pair .str (.pair .bool .str))
 have h32:=(sOR h31 [1,1,1,1,1,1,0] [0])
 refine J.loop (fun kk env w=>∃(x9:List (Int)) (A11:Option Addr) (c_11:Nat) (x10:Int) (x11:List (List UInt8×Bool×List UInt8)) (A12:Option Addr) (c_12:Nat) (x12:Int),env=[(1,.pointer (some ⟨b1,0,none⟩)),(5,.pointer (some ⟨b2,0,none⟩)),(10,.pointer (some ⟨b3,0,none⟩)),(11,.pointer (some ⟨b4,0,none⟩)),(66,.int .i64 (if a0.2.2.2.2.1<a4 then a0.2.2.2.2.1 else a4)),(67,.int .i64 x12)]∧St w0 F0 [Xh b1 x9 A11 c_11 x10,X23 b2 a0.1 a0.2.1 a0.2.2.1 a0.2.2.2.1 a0.2.2.2.2.1 a0.2.2.2.2.2.1 a0.2.2.2.2.2.2.1 a0.2.2.2.2.2.2.2,X43 b3 0 ([]:List (Int)) none 0 ([]:List (List UInt8)) none 0 ([]:List (List UInt8×Bool×List UInt8)) none 0 ([]:List (List UInt8×List UInt8)) none 0,X43 b4 a2 x3 A3 c_3 x7 A7 c_7 x11 A12 c_12 ([]:List (List UInt8×List UInt8)) none 0,O33 x3 A3 c_3,O9 x7 A7 c_7,U4 x11 A12 c_12] [R5 x9 A11 c_11] w∧Q39.l2 kk a0 a2 a4 x3 x7 x9 x10 x11 x12=some r) (k:=k2) ⟨x5,A6,c_6,x6,([]:List (List UInt8×Bool×List UInt8)),none,0,0,rfl,h32,H⟩ ?_
 rintro k3 env w16 ⟨x9,A11,c_11,x10,x11,A12,c_12,x12,rfl,h21,H⟩
 rcases k3 with _ | k3
 ·exact z0 H
 rw [Q39.l2] at H
 refine J.seq (Zc [1,5,10,11,66,67,68] ?_)
 refine J.seq (jIf H (fun c5 H=>?_) fun c5 H=>?_)
 ·refine J.skip (J.seq (J.block (J.seq (J.region ?_))))
  refine Zh 1 ?_
  obtain ⟨r4,q4,H⟩:=Zn H
  refine Ze (Z9 [0] (Q145.spec q4) h21 rfl (Z0 (Zm 0) Zs)) ?_
  rintro _ w17 ⟨_,_,⟨A13,c_13,rfl,rfl,rfl⟩,h22⟩
  replace h22:=nf h22
  refine Zi [1,5,10,11,16,66,67] rfl ?_
  refine J.seq (J.region ?_)
  refine Zg (Zd 1 h22.wht) ?_
  refine Zh 1 ?_
  obtain ⟨r5,q5,H⟩:=Zn H
  refine Ze (Z9 [0] (Q41.spec q5) h22 rfl (Z0 (Zm 0) Zs)) ?_
  rintro _ w18 ⟨_,_,⟨A14,c_14,rfl,rfl,rfl⟩,h23⟩
  replace h23:=nf h23
  refine Zi [1,5,10,11,16,17,18,66,67] rfl ?_
  refine J.region (Zh 1 ?_)
  refine Zg (Zd 3 h23.wht) ?_
  refine Zh 5 ?_
  refine Ze (Xc (.pair .str (.pair .bool .str)) ([(r5.1,(decide (r4.1=2)),r5.2.1)]:List (List UInt8×Bool×List UInt8)) h23) ?_
  rintro _ w19 ⟨b7,rfl,h24⟩
  replace h24:=nf h24
  obtain ⟨p3,H⟩:=Zt H
  refine Ze (Yr 7 h24 (gO 0) p3) ?_
  rintro _ w20 ⟨A15,c_15,rfl,h25⟩
  replace h25:=nf h25
  refine Zh 1 ?_
  refine Ze (Z3 5 h25) ?_
  intro _ w21 h26
  replace h26:=nf h26
  refine Zi [1,5,10,11,66,67] rfl ?_
  refine Zc [1,5,10,11,66,67] ?_
  have h27:=(sOR h26 [3,3,3,0,2,2,0] [0])
  exact ⟨k3,by omega,r5.2.2.1,A14,c_14,r5.2.2.2,(x11 ++ ([(r5.1,(decide (r4.1=2)),r5.2.1)]:List (List UInt8×Bool×List UInt8))),A15,c_15,(w64 (x12+1)),rfl,h27,H⟩
 refine J.exit (J.seq (J.region ?_))
 refine Zg (Zd 3 h21.wht) ?_
 refine Ze (Z3 2 h21) ?_
 intro _ w22 h28
 replace h28:=nf h28
 refine Zi [10] rfl ?_
 have h29:=Zb h28 [0,0,2,2,2]
 replace h29:=nf h29
 refine J.ret ?_
 have h30:=h29.addNil 106 (.pair .str .str)
 cases H
 exact ⟨_,_,_,(Yf rfl (Ym (RV.cell Yu 1 h30 rfl rfl rfl rfl) Xb) rfl),⟨_,_,_,_,_,_,_,_,_,_,rfl,rfl,rfl⟩,sOR h30 [3,3,3,0,1] [0]⟩

def Q144.f (a0:List (Int)×Int):Option (Int):=some a0.2
theorem Q144.spec {a0:List (Int)×Int} {A1:Option Addr} {c_1:Nat} {b1:Nat} {r:Int} (H:Q144.f a0=some r) :
  Spec Tryz.prog 70 [.pointer (some ⟨b1,0,none⟩)] [Xh b1 a0.1 A1 c_1 a0.2] [R5 a0.1 A1 c_1] (fun v l=>v=.int .i64 r∧l=[Xh b1 a0.1 A1 c_1 a0.2]):=by
 refine Zp Tryz.func70 fun w0 F0 h0=>?_
 unfold Q144.f at H
 refine J.seq (Zc [0] ?_)
 refine J.seq (J.seq (Zc [0,4] ?_))
 refine Zz ?_
 refine J.skip (J.seq (J.region ?_))
 refine Zh 3 ?_
 refine Zg (Zd 0 h0.wht) ?_
 refine Zi [2] rfl ?_
 refine J.ret ?_
 cases H
 exact ⟨_,_,_,Za,⟨rfl,rfl⟩,Zb h0 [0]⟩

def Q110.l0:Nat→(List (Int))→(List (Int))→(Int)→Option (Bool)
 | 0,_,_,_=>none
 | k+1,a0,a1,x1=>if (decide (x1<(a0.length:Int)))=true then (if 0≤x1∧x1<(a0.length:Int) then (if 0≤x1∧x1<(a1.length:Int) then (if (!decide ((gt a0 x1)=(gt a1 x1)))=true then (some false) else (Q110.l0 k a0 a1 (w64 (x1+1)))) else none) else none) else (some true)
def Q110.f (k:Nat) (a0:List (Int)) (a1:List (Int)):Option (Bool):=if (!decide ((a0.length:Int)=(a1.length:Int)))=true then (some false) else (Q110.l0 k a0 a1 0)
theorem Q110.spec {k:Nat} {a0:List (Int)} {a1:List (Int)} {A1:Option Addr} {c_1:Nat} {A2:Option Addr} {c_2:Nat} {r:Bool} (H:Q110.f k a0 a1=some r) :
  Spec Tryz.prog 72 [.slice A1 a0.length c_1,.slice A2 a1.length c_2] [] [R5 a0 A1 c_1,R5 a1 A2 c_2] (fun v l=>v=.bool r∧l=[]):=by
 refine Zp Tryz.func72 fun w0 F0 h0=>?_
 unfold Q110.f at H
 refine J.seq (Zc [0,1] ?_)
 refine J.seq (J.seq (Zc [0,1,10] ?_))
 refine jIf H (fun c1 H=>?_) fun c1 H=>?_
 ·refine J.seq (Zc [4] ?_)
  refine J.ret ?_
  cases H
  exact ⟨_,_,_,Za,⟨rfl,rfl⟩,Zb h0 []⟩
 refine J.skip (J.seq (J.seq (Zc [0,1,12,13] ?_)))
 refine J.block ?_
 have h4:=(sOR h0 [] [0,1])
 refine J.loop (fun kk env w=>∃(x1:Int),env=[(0,.slice A1 a0.length c_1),(1,.slice A2 a1.length c_2),(12,.int .i64 (a0.length:Int)),(13,.int .i64 x1)]∧St w0 F0 [] [R5 a0 A1 c_1,R5 a1 A2 c_2] w∧Q110.l0 kk a0 a1 x1=some r) (k:=k) ⟨0,rfl,h4,H⟩ ?_
 rintro k1 env w1 ⟨x1,rfl,h1,H⟩
 rcases k1 with _ | k1
 ·exact z0 H
 rw [Q110.l0] at H
 refine J.seq (Zc [0,1,12,13,14] ?_)
 refine J.seq (jIf H (fun c2 H=>?_) fun c2 H=>?_)
 ·refine J.skip (J.seq (J.block (J.seq (Zc [0,1,5,12,13] ?_))))
  refine J.seq (Zv h1 ?_)
  have h2:=h1.drew
  refine Zu [0,1,4,5] ?_
  obtain ⟨⟨p1,p2⟩,H⟩:=Zt H
  have e1:=Z6 h2.wh (Zm 0) p1 p2
  refine Zj 2 rfl (Zk e1 p1 p2) ?_
  refine Zj 3 rfl (Zl 0 wI (Zm 0) p1 p2) ?_
  obtain ⟨⟨p3,p4⟩,H⟩:=Zt H
  have e2:=Z6 h2.wh (Zm 1) p3 p4
  refine Zj 6 rfl (Zk e2 p3 p4) ?_
  refine Zj 7 rfl (Zl 0 wI (Zm 1) p3 p4) ?_
  refine Zu [8] ?_
  refine Zw [0,1,12,13,24] ?_
  refine jIf H (fun c3 H=>?_) fun c3 H=>?_
  ·refine J.seq (Zc [4] ?_)
   refine J.ret ?_
   cases H
   exact ⟨_,_,_,Za,⟨rfl,rfl⟩,Zb h2 []⟩
  refine J.skip (Zc [0,1,12,13] ?_)
  have h3:=(sOR h2 [] [0,1])
  exact ⟨k1,by omega,(w64 (x1+1)),rfl,h3,H⟩
 refine J.exit (J.seq (Zc [4] ?_))
 refine J.ret ?_
 cases H
 exact ⟨_,_,_,Za,⟨rfl,rfl⟩,Zb h1 []⟩

def Q34.f (k:Nat) (a0:Int×Int×Int×Int×Int×Int×Int×Int) (a1:List (Int)):Option ((Int×List (Int)×List (List UInt8)×(List (List UInt8×Bool×List UInt8))×(List (List UInt8×List UInt8)))×Int):=(Q45.f a0).bind fun r1=>(if (!decide (r1=0))=true then (some ((0,([]:List (Int)),([]:List (List UInt8)),([]:List (List UInt8×Bool×List UInt8)),([]:List (List UInt8×List UInt8))),r1)) else ((Q142.f a1).bind fun r2=>((Q145.f k r2 1).bind fun r3=>((Q145.f k r3.2 1).bind fun r4=>((Q145.f k r4.2 2).bind fun r5=>((Q145.f k r5.2 2).bind fun r6=>((Q149.f k r6.2 2).bind fun r7=>(if (decide (r3.1=1))=true then ((Q40.f k a0 r7 (w64 (r5.1))).bind fun r11=>((Q144.f (r11.2.1,r11.2.2)).bind fun r8=>(if (!decide (r8=0))=true then (some ((0,([]:List (Int)),([]:List (List UInt8)),([]:List (List UInt8×Bool×List UInt8)),([]:List (List UInt8×List UInt8))),12)) else ((Q35.f k a0 (r11.1.1,r11.1.2.1,r11.1.2.2.1,r11.1.2.2.2.1,r11.1.2.2.2.2)).bind fun r9=>(if (!decide (r9.2=0))=true then (some ((0,([]:List (Int)),([]:List (List UInt8)),([]:List (List UInt8×Bool×List UInt8)),([]:List (List UInt8×List UInt8))),12)) else ((Q110.f k r9.1 a1).bind fun r10=>(if (!r10)=true then (some ((0,([]:List (Int)),([]:List (List UInt8)),([]:List (List UInt8×Bool×List UInt8)),([]:List (List UInt8×List UInt8))),12)) else (some ((r11.1.1,r11.1.2.1,r11.1.2.2.1,r11.1.2.2.2.1,r11.1.2.2.2.2),0))))))))) else (if (decide (r3.1=2))=true then ((Q39.f k a0 r7 (if (w64 (r4.1))>1 then (w64 (r4.1)) else 1) (w64 (r5.1)) (w64 (r6.1))).bind fun r12=>((Q144.f (r12.2.1,r12.2.2)).bind fun r8=>(if (!decide (r8=0))=true then (some ((0,([]:List (Int)),([]:List (List UInt8)),([]:List (List UInt8×Bool×List UInt8)),([]:List (List UInt8×List UInt8))),12)) else ((Q35.f k a0 (r12.1.1,r12.1.2.1,r12.1.2.2.1,r12.1.2.2.2.1,r12.1.2.2.2.2)).bind fun r9=>(if (!decide (r9.2=0))=true then (some ((0,([]:List (Int)),([]:List (List UInt8)),([]:List (List UInt8×Bool×List UInt8)),([]:List (List UInt8×List UInt8))),12)) else ((Q110.f k r9.1 a1).bind fun r10=>(if (!r10)=true then (some ((0,([]:List (Int)),([]:List (List UInt8)),([]:List (List UInt8×Bool×List UInt8)),([]:List (List UInt8×List UInt8))),12)) else (some ((r12.1.1,r12.1.2.1,r12.1.2.2.1,r12.1.2.2.2.1,r12.1.2.2.2.2),0))))))))) else ((Q144.f (r7.1,r7.2)).bind fun r8=>(if (!decide (r8=0))=true then (some ((0,([]:List (Int)),([]:List (List UInt8)),([]:List (List UInt8×Bool×List UInt8)),([]:List (List UInt8×List UInt8))),12)) else ((Q35.f k a0 ((-1),([]:List (Int)),([]:List (List UInt8)),([]:List (List UInt8×Bool×List UInt8)),([]:List (List UInt8×List UInt8)))).bind fun r9=>(if (!decide (r9.2=0))=true then (some ((0,([]:List (Int)),([]:List (List UInt8)),([]:List (List UInt8×Bool×List UInt8)),([]:List (List UInt8×List UInt8))),12)) else ((Q110.f k r9.1 a1).bind fun r10=>(if (!r10)=true then (some ((0,([]:List (Int)),([]:List (List UInt8)),([]:List (List UInt8×Bool×List UInt8)),([]:List (List UInt8×List UInt8))),12)) else (some (((-1),([]:List (Int)),([]:List (List UInt8)),([]:List (List UInt8×Bool×List UInt8)),([]:List (List UInt8×List UInt8))),0)))))))))))))))))
theorem Q34.spec {k:Nat} {a0:Int×Int×Int×Int×Int×Int×Int×Int} {a1:List (Int)} {A1:Option Addr} {c_1:Nat} {r:(Int×List (Int)×List (List UInt8)×(List (List UInt8×Bool×List UInt8))×(List (List UInt8×List UInt8)))×Int} (H:Q34.f k a0 a1=some r) :
  Spec Tryz.prog 21 [.agg #[.int .i64 a0.1,.int .i64 a0.2.1,.int .i64 a0.2.2.1,.int .i64 a0.2.2.2.1,.int .i64 a0.2.2.2.2.1,.int .i64 a0.2.2.2.2.2.1,.int .i64 a0.2.2.2.2.2.2.1,.int .i64 a0.2.2.2.2.2.2.2],.slice A1 a1.length c_1] [] [R5 a1 A1 c_1] (fun v l=>∃(A_0:Option Addr) (c_0:Nat) (A_1:Option Addr) (c_1:Nat) (A_2:Option Addr) (c_2:Nat) (A_3:Option Addr) (c_3:Nat),v=.tuple #[.agg #[.int .i64 r.1.1,.slice A_0 r.1.2.1.length c_0,.slice A_1 r.1.2.2.1.length c_1,.slice A_2 r.1.2.2.2.1.length c_2,.slice A_3 r.1.2.2.2.2.length c_3],.int .i64 r.2]∧l=[O33 r.1.2.1 A_0 c_0,O9 r.1.2.2.1 A_1 c_1,U4 r.1.2.2.2.1 A_2 c_2,U6 r.1.2.2.2.2 A_3 c_3]):=by
 refine Zp Tryz.func21 fun w0 F0 h0=>?_
 unfold Q34.f at H
 refine J.seq (J.region ?_)
 refine Ze (Ye h0) ?_
 rintro _ w1 ⟨b1,rfl,h1⟩
 replace h1:=nf h1
 refine Ze (Yq h1) ?_
 rintro _ w2 ⟨b2,rfl,h2⟩
 replace h2:=nf h2
 refine Zi [1,2,4] rfl ?_
 refine J.seq (J.seq (J.region ?_))
 refine Zg (Zd 1 h2.wht) ?_
 obtain ⟨r1,q1,H⟩:=Zn H
 refine Ze (Zf [] (Q45.spec q1) h2 rfl Zs) ?_
 rintro _ w3 ⟨_,⟨rfl,rfl⟩,h3⟩
 replace h3:=nf h3
 refine Zi [1,2,4,6] rfl ?_
 refine J.seq (Zc [1,2,4,6,18] ?_)
 refine jIf H (fun c1 H=>?_) fun c1 H=>?_
 ·refine J.seq (J.region ?_)
  refine Zh 2 ?_
  refine Ze (Z3 0 h3) ?_
  intro _ w4 h4
  replace h4:=nf h4
  refine Zi [4,5] rfl ?_
  refine J.ret ?_
  have h5:=h4.addNil 33 (.int .u32)
  have h6:=h5.addNil 9 .str
  have h7:=h6.addNil 115 (.pair .str (.pair .bool .str))
  have h8:=h7.addNil 106 (.pair .str .str)
  cases H
  exact ⟨_,_,_,(Yf rfl (Ym (RV.cell Yu 4 h8 rfl rfl rfl rfl) (Ym (RV.tmp rfl) Xb)) rfl),⟨_,_,_,_,_,_,_,_,rfl,rfl⟩,Zb h8 [3,2,1,0]⟩
 refine J.skip (J.seq (J.region ?_))
 refine Zh 1 ?_
 obtain ⟨r2,q2,H⟩:=Zn H
 refine Ze (Z9 [] (Q142.spec q2) h3 rfl (Z0 (Zm 0) Zs)) ?_
 rintro _ w5 ⟨_,_,⟨b3,A2,c_2,rfl,rfl,rfl⟩,h9⟩
 replace h9:=nf h9
 refine Zi [1,2,4,7] rfl ?_
 refine J.seq (J.region ?_)
 refine Zh 1 ?_
 obtain ⟨r3,q3,H⟩:=Zn H
 refine Ze (Z9 [0] (Q145.spec q3) h9 rfl (Z0 (Zm 0) Zs)) ?_
 rintro _ w6 ⟨_,_,⟨A3,c_3,rfl,rfl,rfl⟩,h10⟩
 replace h10:=nf h10
 refine Zh 1 ?_
 obtain ⟨r4,q4,H⟩:=Zn H
 refine Ze (Z9 [0] (Q145.spec q4) h10 rfl (Z0 (Zm 0) Zs)) ?_
 rintro _ w7 ⟨_,_,⟨A4,c_4,rfl,rfl,rfl⟩,h11⟩
 replace h11:=nf h11
 refine Zh 2 ?_
 obtain ⟨r5,q5,H⟩:=Zn H
 refine Ze (Z9 [0] (Q145.spec q5) h11 rfl (Z0 (Zm 0) Zs)) ?_
 rintro _ w8 ⟨_,_,⟨A5,c_5,rfl,rfl,rfl⟩,h12⟩
 replace h12:=nf h12
 refine Zh 2 ?_
 obtain ⟨r6,q6,H⟩:=Zn H
 refine Ze (Z9 [0] (Q145.spec q6) h12 rfl (Z0 (Zm 0) Zs)) ?_
 rintro _ w9 ⟨_,_,⟨A6,c_6,rfl,rfl,rfl⟩,h13⟩
 replace h13:=nf h13
 refine Zi [1,2,4,7,8,9,10,11] rfl ?_
 refine J.seq (J.region ?_)
 refine Zh 1 ?_
 obtain ⟨r7,q7,H⟩:=Zn H
 refine Ze (Z9 [0] (Q149.spec q7) h13 rfl (Z0 (Zm 0) Zs)) ?_
 rintro _ w10 ⟨_,_,⟨A7,c_7,rfl,rfl,rfl⟩,h14⟩
 replace h14:=nf h14
 refine Zi [1,2,4,7,8,9,10,11] rfl ?_
 refine J.seq (J.region ?_)
 refine Zh 1 ?_
 refine Ze (Yq h14) ?_
 rintro _ w11 ⟨b4,rfl,h15⟩
 replace h15:=nf h15
 refine Ze (Z3 0 h15) ?_
 intro _ w12 h16
 replace h16:=nf h16
 refine Zi [1,2,4,7,8,9,10,11,12] rfl ?_
 refine J.seq (J.seq (Zc [1,2,4,7,9,10,11,12,37] ?_))
 refine J.midS (fun env w=>∃(k1:Nat) (x1:List (Int)) (A8:Option Addr) (c_8:Nat) (x2:Int) (x3:Int) (x4:List (Int)) (A9:Option Addr) (c_9:Nat) (x5:List (List UInt8)) (A10:Option Addr) (c_10:Nat) (x6:List (List UInt8×Bool×List UInt8)) (A11:Option Addr) (c_11:Nat) (x7:List (List UInt8×List UInt8)) (A12:Option Addr) (c_12:Nat),env=[(1,.slice A1 a1.length c_1),(2,.pointer (some ⟨b1,0,none⟩)),(4,.pointer (some ⟨b2,0,none⟩)),(7,.pointer (some ⟨b3,0,none⟩)),(12,.pointer (some ⟨b4,0,none⟩))]∧St w0 F0 [X23 b1 a0.1 a0.2.1 a0.2.2.1 a0.2.2.2.1 a0.2.2.2.2.1 a0.2.2.2.2.2.1 a0.2.2.2.2.2.2.1 a0.2.2.2.2.2.2.2,X43 b2 0 ([]:List (Int)) none 0 ([]:List (List UInt8)) none 0 ([]:List (List UInt8×Bool×List UInt8)) none 0 ([]:List (List UInt8×List UInt8)) none 0,Xh b3 x1 A8 c_8 x2,X43 b4 x3 x4 A9 c_9 x5 A10 c_10 x6 A11 c_11 x7 A12 c_12,O33 x4 A9 c_9,O9 x5 A10 c_10,U4 x6 A11 c_11,U6 x7 A12 c_12] [R5 a1 A1 c_1,R5 x1 A8 c_8] w∧((Q144.f (x1,x2)).bind fun r8=>(if (!decide (r8=0))=true then (some ((0,([]:List (Int)),([]:List (List UInt8)),([]:List (List UInt8×Bool×List UInt8)),([]:List (List UInt8×List UInt8))),12)) else ((Q35.f k1 a0 (x3,x4,x5,x6,x7)).bind fun r9=>(if (!decide (r9.2=0))=true then (some ((0,([]:List (Int)),([]:List (List UInt8)),([]:List (List UInt8×Bool×List UInt8)),([]:List (List UInt8×List UInt8))),12)) else ((Q110.f k1 r9.1 a1).bind fun r10=>(if (!r10)=true then (some ((0,([]:List (Int)),([]:List (List UInt8)),([]:List (List UInt8×Bool×List UInt8)),([]:List (List UInt8×List UInt8))),12)) else (some ((x3,x4,x5,x6,x7),0))))))))=some r∧k1≤k) ?_ ?_
 ·refine J.block (J.seq (Zc [1,2,4,7,9,10,11,12,37,38] ?_))
  refine jIf H (fun c5 H=>?_) fun c5 H=>?_
  ·refine J.region (Zg (Zd 3 h16.wht) ?_)
   refine Zh 2 ?_
   obtain ⟨r11,q11,H⟩:=Zn H
   refine Ze (Z9 [1] (Q40.spec q11) h16 rfl (Z0 (Zm 0) Zs)) ?_
   rintro _ w22 ⟨_,_,⟨A14,c_14,A15,c_15,A16,c_16,A17,c_17,A18,c_18,rfl,rfl,rfl⟩,h42⟩
   replace h42:=nf h42
   refine Ze (Z3 5 h42) ?_
   intro _ w23 h43
   replace h43:=nf h43
   refine Zi [1,2,4,7,12] rfl ?_
   have h44:=(sOR h43 [7,6,5,0,0,0,0,0] [7,0])
   exact ⟨k,r11.2.1,A18,c_18,r11.2.2,r11.1.1,r11.1.2.1,A14,c_14,r11.1.2.2.1,A15,c_15,r11.1.2.2.2.1,A16,c_16,r11.1.2.2.2.2,A17,c_17,rfl,h44,H,Nat.le_refl _⟩
  refine J.seq (Zc [1,2,4,7,9,10,11,12,44] ?_)
  refine jIf H (fun c6 H=>?_) fun c6 H=>?_
  ·refine J.region (Zg (Zd 3 h16.wht) ?_)
   refine Zh 5 ?_
   obtain ⟨r12,q12,H⟩:=Zn H
   refine Ze (Z9 [1] (Q39.spec q12) h16 rfl (Z0 (Zm 0) Zs)) ?_
   rintro _ w24 ⟨_,_,⟨A19,c_19,A20,c_20,A21,c_21,A22,c_22,A23,c_23,rfl,rfl,rfl⟩,h45⟩
   replace h45:=nf h45
   refine Ze (Z3 5 h45) ?_
   intro _ w25 h46
   replace h46:=nf h46
   refine Zi [1,2,4,7,12] rfl ?_
   have h47:=(sOR h46 [7,6,5,0,0,0,0,0] [7,0])
   exact ⟨k,r12.2.1,A23,c_23,r12.2.2,r12.1.1,r12.1.2.1,A19,c_19,r12.1.2.2.1,A20,c_20,r12.1.2.2.2.1,A21,c_21,r12.1.2.2.2.2,A22,c_22,rfl,h47,H,Nat.le_refl _⟩
  refine Y7 [1,2,4,7,12] ?_
  refine J.skip ?_
  have h48:=h16.addNil 33 (.int .u32)
  have h49:=h48.addNil 9 .str
  have h50:=h49.addNil 115 (.pair .str (.pair .bool .str))
  have h51:=h50.addNil 106 (.pair .str .str)
  have h52:=(sOR h51 [7,6,5,4,3,2,1,0] [6,0])
  exact ⟨k,r7.1,A7,c_7,r7.2,(-1),([]:List (Int)),none,0,([]:List (List UInt8)),none,0,([]:List (List UInt8×Bool×List UInt8)),none,0,([]:List (List UInt8×List UInt8)),none,0,rfl,h52,H,Nat.le_refl _⟩
 rintro env w14 ⟨k1,x1,A8,c_8,x2,x3,x4,A9,c_9,x5,A10,c_10,x6,A11,c_11,x7,A12,c_12,rfl,h17,H,hk1⟩
 refine J.seq (J.seq (J.region ?_))
 refine Zh 1 ?_
 obtain ⟨r8,q8,H⟩:=Zn H
 refine Ze (Zf [2] (Q144.spec q8) h17 rfl (Z0 (Zm 8) Zs)) ?_
 rintro _ w15 ⟨_,⟨rfl,rfl⟩,h18⟩
 replace h18:=nf h18
 refine Zi [1,2,4,12,55] rfl ?_
 refine jIf H (fun c2 H=>?_) fun c2 H=>?_
 ·refine J.seq (J.region ?_)
  refine Zh 1 ?_
  refine Ze (Z3 2 h18) ?_
  intro _ w16 h19
  replace h19:=nf h19
  refine Zi [4,5] rfl ?_
  have h20:=Zb h19 [0]
  replace h20:=nf h20
  refine J.ret ?_
  have h21:=h20.addNil 33 (.int .u32)
  have h22:=h21.addNil 9 .str
  have h23:=h22.addNil 115 (.pair .str (.pair .bool .str))
  have h24:=h23.addNil 106 (.pair .str .str)
  cases H
  exact ⟨_,_,_,(Yf rfl (Ym (RV.cell Yu 4 h24 rfl rfl rfl rfl) (Ym (RV.tmp rfl) Xb)) rfl),⟨_,_,_,_,_,_,_,_,rfl,rfl⟩,Zb h24 [3,2,1,0]⟩
 refine J.skip (J.seq (J.seq (J.region ?_)))
 refine Zg (Zd 1 h18.wht) ?_
 refine Zg (Zd 3 h18.wht) ?_
 obtain ⟨r9,q9,H⟩:=Zn H
 refine Ze (Zf [] (Q35.spec q9) h18 rfl (Z0 (gO 4) (Z0 (gO 5) (Z0 (gO 6) (Z0 (gO 7) Zs))))) ?_
 rintro _ w17 ⟨_,⟨A13,c_13,rfl,rfl⟩,h25⟩
 replace h25:=nf h25
 refine Zi [1,4,12,13,14] rfl ?_
 have h26:=Zb h25 [0,2,2,2,2,2,2]
 replace h26:=nf h26
 refine J.seq (J.region ?_)
 refine Zh 3 ?_
 refine Z7 65 H (fun c3 H=>?_) fun c3 H=>?_
 ·refine Zi [4,12,70] rfl ?_
  refine Zo ?_
  refine J.seq (J.region ?_)
  refine Zh 1 ?_
  refine Ze (Z3 1 h26) ?_
  intro _ w18 h27
  replace h27:=nf h27
  refine Zi [4,5] rfl ?_
  have h28:=Zb h27 [0]
  replace h28:=nf h28
  refine J.ret ?_
  have h29:=h28.addNil 33 (.int .u32)
  have h30:=h29.addNil 9 .str
  have h31:=h30.addNil 115 (.pair .str (.pair .bool .str))
  have h32:=h31.addNil 106 (.pair .str .str)
  cases H
  exact ⟨_,_,_,(Yf rfl (Ym (RV.cell Yu 4 h32 rfl rfl rfl rfl) (Ym (RV.tmp rfl) Xb)) rfl),⟨_,_,_,_,_,_,_,_,rfl,rfl⟩,Zb h32 [3,2,1,0]⟩
 refine Zh 2 ?_
 obtain ⟨r10,q10,H⟩:=Zn H
 refine Ze (Zf [] (Q110.spec q10) h26 rfl (Z0 (gO 0) (Z0 (Zm 7) Zs))) ?_
 rintro _ w19 ⟨_,⟨rfl,rfl⟩,h33⟩
 replace h33:=nf h33
 refine Zi [4,12,70] rfl ?_
 refine jIf H (fun c4 H=>?_) fun c4 H=>?_
 ·refine J.seq (J.region ?_)
  refine Zh 1 ?_
  refine Ze (Z3 1 h33) ?_
  intro _ w20 h34
  replace h34:=nf h34
  refine Zi [4,5] rfl ?_
  have h35:=Zb h34 [0]
  replace h35:=nf h35
  refine J.ret ?_
  have h36:=h35.addNil 33 (.int .u32)
  have h37:=h36.addNil 9 .str
  have h38:=h37.addNil 115 (.pair .str (.pair .bool .str))
  have h39:=h38.addNil 106 (.pair .str .str)
  cases H
  exact ⟨_,_,_,(Yf rfl (Ym (RV.cell Yu 4 h39 rfl rfl rfl rfl) (Ym (RV.tmp rfl) Xb)) rfl),⟨_,_,_,_,_,_,_,_,rfl,rfl⟩,Zb h39 [3,2,1,0]⟩
 refine J.skip (J.seq (J.region ?_))
 refine Zg (Zd 2 h33.wht) ?_
 refine Ze (Z3 1 h33) ?_
 intro _ w21 h40
 replace h40:=nf h40
 refine Zi [4,5] rfl ?_
 have h41:=Zb h40 [0,2,2,2,2]
 replace h41:=nf h41
 refine J.ret ?_
 cases H
 exact ⟨_,_,_,(Yf rfl (Ym (RV.cell Yu 0 h41 rfl rfl rfl rfl) (Ym (RV.tmp rfl) Xb)) rfl),⟨_,_,_,_,_,_,_,_,rfl,rfl⟩,Zb h41 [1,1,1,1]⟩

def Q90.f (k:Nat) (a0:(Int×Int×Int×Int×Int×Int×Int×Int)×((Int×List (Int)×(Int×Int))×(List (Int×List (Int)×Bool×Int))×(List (Int×Int))×List (Int)×((List (Int×Int×Bool))×Int))×((Int×Int×List (Int)))×Int) (a1:Int):Option ((Int×List (Int)×List (List UInt8)×(List (List UInt8×Bool×List UInt8))×(List (List UInt8×List UInt8)))×Int×((Int×Int×Int×Int×Int×Int×Int×Int)×((Int×List (Int)×(Int×Int))×(List (Int×List (Int)×Bool×Int))×(List (Int×Int))×List (Int)×((List (Int×Int×Bool))×Int))×((Int×Int×List (Int)))×Int)):=(Q100.f a0 a1).bind fun r1=>(if (!decide (r1=0))=true then (some ((0,([]:List (Int)),([]:List (List UInt8)),([]:List (List UInt8×Bool×List UInt8)),([]:List (List UInt8×List UInt8))),r1,a0)) else ((Q15.f a0.2.1 a1).bind fun r2=>(if (!decide (r2.1=0))=true then (some ((0,([]:List (Int)),([]:List (List UInt8)),([]:List (List UInt8×Bool×List UInt8)),([]:List (List UInt8×List UInt8))),r2.1,(a0.1,r2.2,a0.2.2.1,a0.2.2.2))) else ((Q16.f r2.2 a1).bind fun r3=>((Q17.f r2.2 a1).bind fun r4=>(if (!decide (r3.2=0))=true then (some ((0,([]:List (Int)),([]:List (List UInt8)),([]:List (List UInt8×Bool×List UInt8)),([]:List (List UInt8×List UInt8))),r3.2,(a0.1,r4.2,a0.2.2.1,a0.2.2.2))) else ((Q34.f k a0.1 r3.1).bind fun r5=>(some (r5.1,r5.2,(a0.1,r4.2,a0.2.2.1,a0.2.2.2))))))))))
theorem Q90.spec {k:Nat} {a0:(Int×Int×Int×Int×Int×Int×Int×Int)×((Int×List (Int)×(Int×Int))×(List (Int×List (Int)×Bool×Int))×(List (Int×Int))×List (Int)×((List (Int×Int×Bool))×Int))×((Int×Int×List (Int)))×Int} {a1:Int} {b1:Nat} {b2:Nat} {b3:Nat} {b4:Nat} {b5:Nat} {b6:Nat} {b7:Nat} {A1:Option Addr} {c_1:Nat} {A2:Option Addr} {c_2:Nat} {A3:Option Addr} {c_3:Nat} {A4:Option Addr} {c_4:Nat} {A5:Option Addr} {c_5:Nat} {r:(Int×List (Int)×List (List UInt8)×(List (List UInt8×Bool×List UInt8))×(List (List UInt8×List UInt8)))×Int×((Int×Int×Int×Int×Int×Int×Int×Int)×((Int×List (Int)×(Int×Int))×(List (Int×List (Int)×Bool×Int))×(List (Int×Int))×List (Int)×((List (Int×Int×Bool))×Int))×((Int×Int×List (Int)))×Int)} (H:Q90.f k a0 a1=some r) :
  Spec Tryz.prog 24 [.pointer (some ⟨b1,0,none⟩),.int .u32 a1] [X83 b1 a0.1.1 a0.1.2.1 a0.1.2.2.1 a0.1.2.2.2.1 a0.1.2.2.2.2.1 a0.1.2.2.2.2.2.1 a0.1.2.2.2.2.2.2.1 a0.1.2.2.2.2.2.2.2 (.pointer (some ⟨b3,0,none⟩)) (.pointer (some ⟨b2,0,none⟩)) (.pointer (some ⟨b6,0,none⟩)) a0.2.2.2,Yp b2 (.pointer (some ⟨b3,0,none⟩)) a0.2.1.2.1 A2 c_2 (.map (some b4)) a0.2.1.2.2.2.1 A3 c_3 (.pointer (some ⟨b5,0,none⟩)),Yi b3 a0.2.1.1.1 a0.2.1.1.2.1 A1 c_1 a0.2.1.1.2.2.1 a0.2.1.1.2.2.2,O5 a0.2.1.1.2.1 A1 c_1,Yo a0.2.1.2.1 A2 c_2,Yj .u32 (Value.int .i64) b4 a0.2.1.2.2.1,O3 a0.2.1.2.2.2.1 A3 c_3,Ya b5 a0.2.1.2.2.2.2.1 A4 c_4 a0.2.1.2.2.2.2.2,Yb a0.2.1.2.2.2.2.1 A4 c_4,Xd b6 (.pointer (some ⟨b7,0,none⟩)),Yl b7 a0.2.2.1.1 a0.2.2.1.2.1 a0.2.2.1.2.2 A5 c_5,O61 a0.2.2.1.2.2 A5 c_5] [] (fun v l=>∃(A_0:Option Addr) (c_0:Nat) (A_1:Option Addr) (c_1:Nat) (A_2:Option Addr) (c_2:Nat) (A_3:Option Addr) (c_3:Nat) (A_4:Option Addr) (c_4:Nat) (A_5:Option Addr) (c_5:Nat) (A_6:Option Addr) (c_6:Nat) (A_7:Option Addr) (c_7:Nat) (A_8:Option Addr) (c_8:Nat),v=.tuple #[.agg #[.int .i64 r.1.1,.slice A_0 r.1.2.1.length c_0,.slice A_1 r.1.2.2.1.length c_1,.slice A_2 r.1.2.2.2.1.length c_2,.slice A_3 r.1.2.2.2.2.length c_3],.int .i64 r.2.1]∧l=[O33 r.1.2.1 A_0 c_0,O9 r.1.2.2.1 A_1 c_1,U4 r.1.2.2.2.1 A_2 c_2,U6 r.1.2.2.2.2 A_3 c_3,X83 b1 r.2.2.1.1 r.2.2.1.2.1 r.2.2.1.2.2.1 r.2.2.1.2.2.2.1 r.2.2.1.2.2.2.2.1 r.2.2.1.2.2.2.2.2.1 r.2.2.1.2.2.2.2.2.2.1 r.2.2.1.2.2.2.2.2.2.2 (.pointer (some ⟨b3,0,none⟩)) (.pointer (some ⟨b2,0,none⟩)) (.pointer (some ⟨b6,0,none⟩)) r.2.2.2.2.2,Yp b2 (.pointer (some ⟨b3,0,none⟩)) r.2.2.2.1.2.1 A_5 c_5 (.map (some b4)) r.2.2.2.1.2.2.2.1 A_6 c_6 (.pointer (some ⟨b5,0,none⟩)),Yi b3 r.2.2.2.1.1.1 r.2.2.2.1.1.2.1 A_4 c_4 r.2.2.2.1.1.2.2.1 r.2.2.2.1.1.2.2.2,O5 r.2.2.2.1.1.2.1 A_4 c_4,Yo r.2.2.2.1.2.1 A_5 c_5,Yj .u32 (Value.int .i64) b4 r.2.2.2.1.2.2.1,O3 r.2.2.2.1.2.2.2.1 A_6 c_6,Ya b5 r.2.2.2.1.2.2.2.2.1 A_7 c_7 r.2.2.2.1.2.2.2.2.2,Yb r.2.2.2.1.2.2.2.2.1 A_7 c_7,Xd b6 (.pointer (some ⟨b7,0,none⟩)),Yl b7 r.2.2.2.2.1.1 r.2.2.2.2.1.2.1 r.2.2.2.2.1.2.2 A_8 c_8,O61 r.2.2.2.2.1.2.2 A_8 c_8]):=by
 refine Zp Tryz.func24 fun w0 F0 h0=>?_
 unfold Q90.f at H
 refine J.seq (J.region ?_)
 refine Ze (Yq h0) ?_
 rintro _ w1 ⟨b8,rfl,h1⟩
 replace h1:=nf h1
 refine Zi [0,1,4] rfl ?_
 refine J.seq (J.seq (J.region ?_))
 refine Zh 2 ?_
 obtain ⟨r1,q1,H⟩:=Zn H
 refine Ze (Zf [1,1,1,1,1,1,1,1,1,1,1,1] (Q100.spec q1) h1 rfl Zs) ?_
 rintro _ w2 ⟨_,⟨rfl,rfl⟩,h2⟩
 replace h2:=nf h2
 refine Zi [0,1,4,6] rfl ?_
 refine J.seq (Zc [0,1,4,6,14] ?_)
 refine jIf H (fun c1 H=>?_) fun c1 H=>?_
 ·refine J.seq (J.region ?_)
  refine Zh 2 ?_
  refine Ze (Z3 12 h2) ?_
  intro _ w3 h3
  replace h3:=nf h3
  refine Zi [4,5] rfl ?_
  refine J.ret ?_
  have h4:=h3.addNil 33 (.int .u32)
  have h5:=h4.addNil 9 .str
  have h6:=h5.addNil 115 (.pair .str (.pair .bool .str))
  have h7:=h6.addNil 106 (.pair .str .str)
  cases H
  exact ⟨_,_,_,(Yf rfl (Ym (RV.cell Yu 4 h7 rfl rfl rfl rfl) (Ym (RV.tmp rfl) Xb)) rfl),⟨_,_,_,_,_,_,_,_,_,_,_,_,_,_,_,_,_,_,rfl,rfl⟩,Zb h7 [3,2,1,0,1,1,1,1,1,1,1,1,1,1,1,1]⟩
 refine J.skip (J.seq (J.seq (J.region ?_)))
 refine Zh 3 ?_
 refine Zg (Zd 0 h2.wht) ?_
 refine Zh 1 ?_
 obtain ⟨r2,q2,H⟩:=Zn H
 refine Ze (Zf [1,1,1,1,1,1,1,1] (Q15.spec q2) h2 rfl Zs) ?_
 rintro _ w4 ⟨_,⟨A6,c_6,A7,c_7,A8,c_8,A9,c_9,rfl,rfl⟩,h8⟩
 replace h8:=nf h8
 refine Zi [0,1,4,7] rfl ?_
 refine J.seq (Zc [0,1,4,7,24] ?_)
 refine jIf H (fun c2 H=>?_) fun c2 H=>?_
 ·refine J.seq (J.region ?_)
  refine Zh 2 ?_
  refine Ze (Z3 12 h8) ?_
  intro _ w5 h9
  replace h9:=nf h9
  refine Zi [4,5] rfl ?_
  refine J.ret ?_
  have h10:=h9.addNil 33 (.int .u32)
  have h11:=h10.addNil 9 .str
  have h12:=h11.addNil 115 (.pair .str (.pair .bool .str))
  have h13:=h12.addNil 106 (.pair .str .str)
  cases H
  exact ⟨_,_,_,(Yf rfl (Ym (RV.cell Yu 4 h13 rfl rfl rfl rfl) (Ym (RV.tmp rfl) Xb)) rfl),⟨_,_,_,_,_,_,_,_,_,_,_,_,_,_,_,_,_,_,rfl,rfl⟩,Zb h13 [3,2,1,0,9,1,1,1,1,1,1,1,1,1,1,1]⟩
 refine J.skip (J.seq (J.region ?_))
 refine Zh 3 ?_
 refine Zg (Zd 8 h8.wht) ?_
 refine Zh 1 ?_
 obtain ⟨r3,q3,H⟩:=Zn H
 refine Ze (Zf [0,0,0,0,0,0,0,0] (Q16.spec q3) h8 rfl Zs) ?_
 rintro _ w6 ⟨_,⟨A10,c_10,rfl,rfl⟩,h14⟩
 replace h14:=nf h14
 refine Zi [0,1,4,8,9] rfl ?_
 refine J.seq (J.region ?_)
 refine Zh 3 ?_
 refine Zg (Zd 9 h14.wht) ?_
 refine Zh 1 ?_
 obtain ⟨r4,q4,H⟩:=Zn H
 refine Ze (Zf [1,1,1,1,1,1,1,1] (Q17.spec q4) h14 rfl Zs) ?_
 rintro _ w7 ⟨_,⟨A11,c_11,A12,c_12,A13,c_13,A14,c_14,rfl,rfl⟩,h15⟩
 replace h15:=nf h15
 refine Zi [0,4,8,9] rfl ?_
 refine J.seq (J.seq (Zc [0,4,8,9,43] ?_))
 refine jIf H (fun c3 H=>?_) fun c3 H=>?_
 ·refine J.seq (J.region ?_)
  refine Zh 2 ?_
  refine Ze (Z3 13 h15) ?_
  intro _ w8 h16
  replace h16:=nf h16
  refine Zi [4,5] rfl ?_
  refine J.ret ?_
  have h17:=h16.addNil 33 (.int .u32)
  have h18:=h17.addNil 9 .str
  have h19:=h18.addNil 115 (.pair .str (.pair .bool .str))
  have h20:=h19.addNil 106 (.pair .str .str)
  cases H
  exact ⟨_,_,_,(Yf rfl (Ym (RV.cell Yu 4 h20 rfl rfl rfl rfl) (Ym (RV.tmp rfl) Xb)) rfl),⟨_,_,_,_,_,_,_,_,_,_,_,_,_,_,_,_,_,_,rfl,rfl⟩,Zb h20 [3,2,1,0,10,1,1,1,1,1,1,1,1,2,2,2]⟩
 refine J.skip (J.seq (J.region ?_))
 refine Zh 3 ?_
 refine Zg (Zd 9 h15.wht) ?_
 refine Zh 1 ?_
 obtain ⟨r5,q5,H⟩:=Zn H
 refine Ze (Zf [] (Q34.spec q5) h15 rfl (Z0 (gO 8) Zs)) ?_
 rintro _ w9 ⟨_,⟨A15,c_15,A16,c_16,A17,c_17,A18,c_18,rfl,rfl⟩,h21⟩
 replace h21:=nf h21
 refine Zh 2 ?_
 refine Ze (Z3 17 h21) ?_
 intro _ w10 h22
 replace h22:=nf h22
 refine Zi [4,5] rfl ?_
 refine J.ret ?_
 cases H
 exact ⟨_,_,_,(Yf rfl (Ym (RV.cell Yu 0 h22 rfl rfl rfl rfl) (Ym (RV.tmp rfl) Xb)) rfl),⟨_,_,_,_,_,_,_,_,_,_,_,_,_,_,_,_,_,_,rfl,rfl⟩,Zb h22 [1,1,1,1,10,1,1,1,1,1,1,1,1,2,2,2]⟩

def Q88.f (a0:(Int×Int×Int×Int×Int×Int×Int×Int)×((Int×List (Int)×(Int×Int))×(List (Int×List (Int)×Bool×Int))×(List (Int×Int))×List (Int)×((List (Int×Int×Bool))×Int))×((Int×Int×List (Int)))×Int):Option (Int):=(Q70.f a0.2.2.1).bind fun r1=>(some r1)
theorem Q88.spec {a0:(Int×Int×Int×Int×Int×Int×Int×Int)×((Int×List (Int)×(Int×Int))×(List (Int×List (Int)×Bool×Int))×(List (Int×Int))×List (Int)×((List (Int×Int×Bool))×Int))×((Int×Int×List (Int)))×Int} {b1:Nat} {b2:Nat} {b3:Nat} {b4:Nat} {b5:Nat} {b6:Nat} {b7:Nat} {A1:Option Addr} {c_1:Nat} {A2:Option Addr} {c_2:Nat} {A3:Option Addr} {c_3:Nat} {A4:Option Addr} {c_4:Nat} {A5:Option Addr} {c_5:Nat} {r:Int} (H:Q88.f a0=some r) :
  Spec Tryz.prog 26 [.pointer (some ⟨b1,0,none⟩)] [X83 b1 a0.1.1 a0.1.2.1 a0.1.2.2.1 a0.1.2.2.2.1 a0.1.2.2.2.2.1 a0.1.2.2.2.2.2.1 a0.1.2.2.2.2.2.2.1 a0.1.2.2.2.2.2.2.2 (.pointer (some ⟨b3,0,none⟩)) (.pointer (some ⟨b2,0,none⟩)) (.pointer (some ⟨b6,0,none⟩)) a0.2.2.2,Yp b2 (.pointer (some ⟨b3,0,none⟩)) a0.2.1.2.1 A2 c_2 (.map (some b4)) a0.2.1.2.2.2.1 A3 c_3 (.pointer (some ⟨b5,0,none⟩)),Yi b3 a0.2.1.1.1 a0.2.1.1.2.1 A1 c_1 a0.2.1.1.2.2.1 a0.2.1.1.2.2.2,O5 a0.2.1.1.2.1 A1 c_1,Yo a0.2.1.2.1 A2 c_2,Yj .u32 (Value.int .i64) b4 a0.2.1.2.2.1,O3 a0.2.1.2.2.2.1 A3 c_3,Ya b5 a0.2.1.2.2.2.2.1 A4 c_4 a0.2.1.2.2.2.2.2,Yb a0.2.1.2.2.2.2.1 A4 c_4,Xd b6 (.pointer (some ⟨b7,0,none⟩)),Yl b7 a0.2.2.1.1 a0.2.2.1.2.1 a0.2.2.1.2.2 A5 c_5,O61 a0.2.2.1.2.2 A5 c_5] [] (fun v l=>v=.int .i64 r∧l=[X83 b1 a0.1.1 a0.1.2.1 a0.1.2.2.1 a0.1.2.2.2.1 a0.1.2.2.2.2.1 a0.1.2.2.2.2.2.1 a0.1.2.2.2.2.2.2.1 a0.1.2.2.2.2.2.2.2 (.pointer (some ⟨b3,0,none⟩)) (.pointer (some ⟨b2,0,none⟩)) (.pointer (some ⟨b6,0,none⟩)) a0.2.2.2,Yp b2 (.pointer (some ⟨b3,0,none⟩)) a0.2.1.2.1 A2 c_2 (.map (some b4)) a0.2.1.2.2.2.1 A3 c_3 (.pointer (some ⟨b5,0,none⟩)),Yi b3 a0.2.1.1.1 a0.2.1.1.2.1 A1 c_1 a0.2.1.1.2.2.1 a0.2.1.1.2.2.2,O5 a0.2.1.1.2.1 A1 c_1,Yo a0.2.1.2.1 A2 c_2,Yj .u32 (Value.int .i64) b4 a0.2.1.2.2.1,O3 a0.2.1.2.2.2.1 A3 c_3,Ya b5 a0.2.1.2.2.2.2.1 A4 c_4 a0.2.1.2.2.2.2.2,Yb a0.2.1.2.2.2.2.1 A4 c_4,Xd b6 (.pointer (some ⟨b7,0,none⟩)),Yl b7 a0.2.2.1.1 a0.2.2.1.2.1 a0.2.2.1.2.2 A5 c_5,O61 a0.2.2.1.2.2 A5 c_5]):=by
 refine Zp Tryz.func26 fun w0 F0 h0=>?_
 unfold Q88.f at H
 refine J.seq (Zc [0] ?_)
 refine J.seq (J.seq (Zc [0,4] ?_))
 refine Zz ?_
 refine J.skip (J.seq (J.region ?_))
 refine Zh 3 ?_
 refine Zg (Zd 0 h0.wht) ?_
 obtain ⟨r1,q1,H⟩:=Zn H
 refine Ze (Zf [9,9,9] (Q70.spec q1) h0 rfl Zs) ?_
 rintro _ w1 ⟨_,⟨rfl,rfl⟩,h1⟩
 replace h1:=nf h1
 refine Zi [2] rfl ?_
 refine J.ret ?_
 cases H
 exact ⟨_,_,_,Za,⟨rfl,rfl⟩,Zb h1 [3,3,3,3,3,3,3,3,3,0,0,0]⟩

def Q74.f (a0:(Int×Int×List (Int))) (a1:Int):Option (Bool):=(Q78.f a0).bind fun r1=>(if (!r1)=true then ((Q6.f a0 (w64 (a1))).bind fun r2=>(some r2)) else (some false))
theorem Q74.spec {a0:(Int×Int×List (Int))} {a1:Int} {b1:Nat} {b2:Nat} {A1:Option Addr} {c_1:Nat} {r:Bool} (H:Q74.f a0 a1=some r) :
  Spec Tryz.prog 83 [.pointer (some ⟨b1,0,none⟩),.int .u32 a1] [Xd b1 (.pointer (some ⟨b2,0,none⟩)),Yl b2 a0.1 a0.2.1 a0.2.2 A1 c_1,O61 a0.2.2 A1 c_1] [] (fun v l=>v=.bool r∧l=[Xd b1 (.pointer (some ⟨b2,0,none⟩)),Yl b2 a0.1 a0.2.1 a0.2.2 A1 c_1,O61 a0.2.2 A1 c_1]):=by
 refine Zp Tryz.func83 fun w0 F0 h0=>?_
 unfold Q74.f at H
 refine J.seq (Zc [0,1] ?_)
 refine J.seq (J.region ?_)
 refine Zh 1 ?_
 obtain ⟨r1,q1,H⟩:=Zn H
 refine Ze (Zf [0,0,0] (Q78.spec q1) h0 rfl Zs) ?_
 rintro _ w1 ⟨_,⟨rfl,rfl⟩,h1⟩
 replace h1:=nf h1
 refine Zh 2 ?_
 refine Z7 8 H (fun c1 H=>?_) fun c1 H=>?_
 ·refine Zh 3 ?_
  refine Zg (Zd 0 h1.wht) ?_
  refine Zh 2 ?_
  obtain ⟨r2,q2,H⟩:=Zn H
  refine Ze (Zf [1,1] (Q6.spec q2) h1 rfl Zs) ?_
  rintro _ w2 ⟨_,⟨rfl,rfl⟩,h2⟩
  replace h2:=nf h2
  refine Zi [4] rfl ?_
  refine J.ret ?_
  cases H
  exact ⟨_,_,_,Za,⟨rfl,rfl⟩,Zb h2 [2,0,0]⟩
 refine Zi [4] rfl ?_
 refine J.ret ?_
 cases H
 exact ⟨_,_,_,Za,⟨rfl,rfl⟩,Zb h1 [0,0,0]⟩

def Q84.f (a0:(Int×Int×Int×Int×Int×Int×Int×Int)×((Int×List (Int)×(Int×Int))×(List (Int×List (Int)×Bool×Int))×(List (Int×Int))×List (Int)×((List (Int×Int×Bool))×Int))×((Int×Int×List (Int)))×Int) (a1:Int):Option (Bool):=(Q74.f a0.2.2.1 a1).bind fun r1=>(some r1)
theorem Q84.spec {a0:(Int×Int×Int×Int×Int×Int×Int×Int)×((Int×List (Int)×(Int×Int))×(List (Int×List (Int)×Bool×Int))×(List (Int×Int))×List (Int)×((List (Int×Int×Bool))×Int))×((Int×Int×List (Int)))×Int} {a1:Int} {b1:Nat} {b2:Nat} {b3:Nat} {b4:Nat} {b5:Nat} {b6:Nat} {b7:Nat} {A1:Option Addr} {c_1:Nat} {A2:Option Addr} {c_2:Nat} {A3:Option Addr} {c_3:Nat} {A4:Option Addr} {c_4:Nat} {A5:Option Addr} {c_5:Nat} {r:Bool} (H:Q84.f a0 a1=some r) :
  Spec Tryz.prog 31 [.pointer (some ⟨b1,0,none⟩),.int .u32 a1] [X83 b1 a0.1.1 a0.1.2.1 a0.1.2.2.1 a0.1.2.2.2.1 a0.1.2.2.2.2.1 a0.1.2.2.2.2.2.1 a0.1.2.2.2.2.2.2.1 a0.1.2.2.2.2.2.2.2 (.pointer (some ⟨b3,0,none⟩)) (.pointer (some ⟨b2,0,none⟩)) (.pointer (some ⟨b6,0,none⟩)) a0.2.2.2,Yp b2 (.pointer (some ⟨b3,0,none⟩)) a0.2.1.2.1 A2 c_2 (.map (some b4)) a0.2.1.2.2.2.1 A3 c_3 (.pointer (some ⟨b5,0,none⟩)),Yi b3 a0.2.1.1.1 a0.2.1.1.2.1 A1 c_1 a0.2.1.1.2.2.1 a0.2.1.1.2.2.2,O5 a0.2.1.1.2.1 A1 c_1,Yo a0.2.1.2.1 A2 c_2,Yj .u32 (Value.int .i64) b4 a0.2.1.2.2.1,O3 a0.2.1.2.2.2.1 A3 c_3,Ya b5 a0.2.1.2.2.2.2.1 A4 c_4 a0.2.1.2.2.2.2.2,Yb a0.2.1.2.2.2.2.1 A4 c_4,Xd b6 (.pointer (some ⟨b7,0,none⟩)),Yl b7 a0.2.2.1.1 a0.2.2.1.2.1 a0.2.2.1.2.2 A5 c_5,O61 a0.2.2.1.2.2 A5 c_5] [] (fun v l=>v=.bool r∧l=[X83 b1 a0.1.1 a0.1.2.1 a0.1.2.2.1 a0.1.2.2.2.1 a0.1.2.2.2.2.1 a0.1.2.2.2.2.2.1 a0.1.2.2.2.2.2.2.1 a0.1.2.2.2.2.2.2.2 (.pointer (some ⟨b3,0,none⟩)) (.pointer (some ⟨b2,0,none⟩)) (.pointer (some ⟨b6,0,none⟩)) a0.2.2.2,Yp b2 (.pointer (some ⟨b3,0,none⟩)) a0.2.1.2.1 A2 c_2 (.map (some b4)) a0.2.1.2.2.2.1 A3 c_3 (.pointer (some ⟨b5,0,none⟩)),Yi b3 a0.2.1.1.1 a0.2.1.1.2.1 A1 c_1 a0.2.1.1.2.2.1 a0.2.1.1.2.2.2,O5 a0.2.1.1.2.1 A1 c_1,Yo a0.2.1.2.1 A2 c_2,Yj .u32 (Value.int .i64) b4 a0.2.1.2.2.1,O3 a0.2.1.2.2.2.1 A3 c_3,Ya b5 a0.2.1.2.2.2.2.1 A4 c_4 a0.2.1.2.2.2.2.2,Yb a0.2.1.2.2.2.2.1 A4 c_4,Xd b6 (.pointer (some ⟨b7,0,none⟩)),Yl b7 a0.2.2.1.1 a0.2.2.1.2.1 a0.2.2.1.2.2 A5 c_5,O61 a0.2.2.1.2.2 A5 c_5]):=by
 refine Zp Tryz.func31 fun w0 F0 h0=>?_
 unfold Q84.f at H
 refine J.seq (Zc [0,1] ?_)
 refine J.seq (J.region ?_)
 refine Zh 6 ?_
 refine Zg (Zd 0 h0.wht) ?_
 refine Zh 1 ?_
 obtain ⟨r1,q1,H⟩:=Zn H
 refine Ze (Zf [9,9,9] (Q74.spec q1) h0 rfl Zs) ?_
 rintro _ w1 ⟨_,⟨rfl,rfl⟩,h1⟩
 replace h1:=nf h1
 refine Zi [4] rfl ?_
 refine J.ret ?_
 cases H
 exact ⟨_,_,_,Za,⟨rfl,rfl⟩,Zb h1 [3,3,3,3,3,3,3,3,3,0,0,0]⟩

def Q134.l0:Nat→((Int×Int×Int×Int×Int×Int×Int×Int))→(Int×List (Int)×(Int×Int))→((List (Int×Int×Bool))×Int)→(List (Int))→(Int)→Option (Bool)
 | 0,_,_,_,_,_=>none
 | k+1,r1,r3,r8,x1,x2=>if (decide (x2<r1.2.2.1))=true then (if (x1.length+([x2]:List (Int)).length)*8≤140737488355328 then (Q134.l0 k r1 r3 r8 (x1 ++ ([x2]:List (Int))) (w64 (x2+1))) else none) else ((Q50.f r3).bind fun r9=>(if (!decide (r9=r1.1))=true then (some false) else ((Q51.f r3).bind fun r10=>(if (!decide (r10=r1.2.1))=true then (some false) else ((Q69.f r1.1).bind fun r11=>(Y4 r11.1 (if (!decide (r11.2=0))=true then (some false) else none) (fun r12=>(if (!decide (r11.2=0))=false then ((Q92.f k (r1,(r3,(List.replicate r1.2.2.1.toNat ((0,([]:List (Int)),false,0):Int×List (Int)×Bool×Int)),([]:List (Int×Int)),x1,r8),r12,0) (0,([]:List (Int)),([]:List (List UInt8)),([]:List (List UInt8×Bool×List UInt8)),([]:List (List UInt8×List UInt8)))).bind fun r13=>((Q90.f k r13.2.2 2).bind fun r14=>(if (decide (r13.1=1))=true then (if (decide (r13.2.1=0))=true then ((Q88.f r14.2.2).bind fun r15=>(if (decide (r15=7))=true then (if (decide (r14.2.1=12))=true then ((Q84.f r14.2.2 1).bind fun r16=>(some r16)) else (some false)) else (some false))) else (some false)) else (some false)))) else none))))))))
def Q134.f (k:Nat):Option (Bool):=(Q135.f).bind fun r1=>((Q54.f r1.1 r1.2.1).bind fun r2=>(Y4 r2.1 (if (!decide (r2.2=0))=true then ((Q45.f r1).bind fun r4=>(if (!decide (r4=0))=true then (some false) else (some false))) else none) (fun r3=>(if (!decide (r2.2=0))=false then ((Q45.f r1).bind fun r5=>(if (!decide (r5=0))=true then (some false) else ((Q50.f r3).bind fun r6=>(if (decide (r6=0))=true then (some false) else (if (decide (r1.2.2.1<1))=true then (some false) else (if (decide (64<r1.2.2.1))=true then (some false) else ((Q31.f r1.2.2.1).bind fun r7=>(Y4 r7.1 (if (!decide (r7.2=0))=true then (some false) else none) (fun r8=>(if (!decide (r7.2=0))=false then (if 0≤r1.2.2.1∧r1.2.2.1*48≤281474976710656 then (Q134.l0 k r1 r3 r8 ([]:List (Int)) 0) else none) else none)))))))))) else none))))
theorem Q134.spec {k:Nat}   {r:Bool} (H:Q134.f k=some r) :
  Spec Tryz.prog 13 [] [] [tabC 0] (fun v l=>v=.bool r∧l=[]):=by
 refine Zp Tryz.func13 fun w0 F0 h0=>?_
 unfold Q134.f at H
 refine J.seq (Zc [] ?_)
 refine J.seq (J.region ?_)
 obtain ⟨r1,q1,H⟩:=Zn H
 refine Ze (Zf [] (Q135.spec q1) h0 rfl Zs) ?_
 rintro _ w1 ⟨_,⟨rfl,rfl⟩,h1⟩
 replace h1:=nf h1
 refine Z1 Tryz.func14 ?_
 refine J.seq (J.region ?_)
 refine Ze (Ye h1) ?_
 rintro _ w2 ⟨b1,rfl,h2⟩
 replace h2:=nf h2
 refine Zi [1] rfl ?_
 refine J.seq (J.region ?_)
 refine Zh 1 ?_
 refine Zg (Zd 0 h2.wht) ?_
 refine Zh 1 ?_
 refine Zg (Zd 0 h2.wht) ?_
 obtain ⟨r2,q2,H⟩:=Zn H
 refine Ze (Zf [] (Q54.spec q2) h2 rfl Zs) ?_
 rintro _ w3 ⟨_,⟨v1,l1,ho1,rfl,rfl⟩,h3⟩
 rcases ho2:r2.1 with _ | r3
 ·rw [ho2] at ho1
  obtain ⟨rfl,rfl⟩:=ho1
  replace H:=Y8 ho2 H
  obtain ⟨c1,H⟩:=Zt H
  replace h3:=nf h3
  refine Zi [1,4,5] rfl ?_
  refine J.seq (J.region ?_)
  refine Zg (Zd 0 h3.wht) ?_
  refine Zh 1 ?_
  refine Z1 Tryz.func35 ?_
  refine J.seq (J.region ?_)
  refine Ze (Ye h3) ?_
  rintro _ w4 ⟨b2,rfl,h4⟩
  replace h4:=nf h4
  refine Zi [1,2] rfl ?_
  refine J.seq (J.seq (J.region ?_))
  refine Zg (Zd 0 h4.wht) ?_
  obtain ⟨r4,q3,H⟩:=Zn H
  refine Ze (Zf [] (Q45.spec q3) h4 rfl Zs) ?_
  rintro _ w5 ⟨_,⟨rfl,rfl⟩,h5⟩
  replace h5:=nf h5
  refine Zi [1,2,6] rfl ?_
  refine J.seq (Zc [1,2,6,13] ?_)
  refine jIf H (fun c3 H=>?_) fun c3 H=>?_
  ·refine J.seq (Zc [4,5] ?_)
   refine J.ret (⟨_,Za,?_⟩)
   refine Zi [4,5,6,7] rfl ?_
   refine J.seq (J.seq (J.region ?_))
   refine Zh 3 ?_
   refine Z8 24 (congrArg Value.bool c1) ?_
   refine Zi [4,6,27] rfl ?_
   refine Zo ?_
   refine J.seq (Zc [2,3] ?_)
   refine J.ret (⟨_,Za,?_⟩)
   refine Zi [1] rfl ?_
   have h6:=Zb h5 []
   replace h6:=nf h6
   refine J.seq (J.seq (Zc [1,13] ?_))
   refine Zo ?_
   refine J.seq (Zc [0] ?_)
   refine J.ret ?_
   cases H
   exact ⟨_,_,_,Za,⟨rfl,rfl⟩,Zb h6 []⟩
  refine J.skip (J.seq (J.region ?_))
  refine Zh 2 ?_
  refine Zg (Zd 0 h5.wht) ?_
  refine Z1 Tryz.func85 ?_
  refine J.seq (Zc [0,1] ?_)
  refine J.seq (J.block (J.seq (J.region ?_)))
  refine Zh 1 ?_
  refine Z1 Tryz.func37 ?_
  refine J.seq (Zc [0] ?_)
  refine J.seq (J.seq (Zc [0,11] ?_))
  refine Zo ?_
  refine J.seq (Zc [2] ?_)
  refine J.ret (⟨_,Za,?_⟩)
  refine Zi [0,1,10] rfl ?_
  refine Zo ?_
  refine J.seq (Zc [4,5] ?_)
  refine J.ret (⟨_,Za,?_⟩)
  refine Zi [1,2,7,8] rfl ?_
  refine J.seq (J.seq (Zc [1,2,7,8,23] ?_))
  refine Zo ?_
  refine J.seq (Zc [4,5] ?_)
  refine J.ret (⟨_,Za,?_⟩)
  refine Zi [4,5,6,7] rfl ?_
  refine J.seq (J.seq (J.region ?_))
  refine Zh 3 ?_
  refine Z8 24 (congrArg Value.bool c1) ?_
  refine Zi [4,6,27] rfl ?_
  refine Zo ?_
  refine J.seq (Zc [2,3] ?_)
  refine J.ret (⟨_,Za,?_⟩)
  refine Zi [1] rfl ?_
  have h7:=Zb h5 []
  replace h7:=nf h7
  refine J.seq (J.seq (Zc [1,13] ?_))
  refine Zo ?_
  refine J.seq (Zc [0] ?_)
  refine J.ret ?_
  cases H
  exact ⟨_,_,_,Za,⟨rfl,rfl⟩,Zb h7 []⟩
 rw [ho2] at ho1
 obtain ⟨b3,A1,c_1,rfl,rfl⟩:=ho1
 replace H:=Y6 ho2 H
 obtain ⟨c2,H⟩:=Zt H
 replace h3:=nf h3
 refine Zi [1,4,5] rfl ?_
 refine J.seq (J.region ?_)
 refine Zg (Zd 2 h3.wht) ?_
 refine Zh 1 ?_
 refine Z1 Tryz.func35 ?_
 refine J.seq (J.region ?_)
 refine Ze (Ye h3) ?_
 rintro _ w6 ⟨b4,rfl,h8⟩
 replace h8:=nf h8
 refine Zi [1,2] rfl ?_
 refine J.seq (J.seq (J.region ?_))
 refine Zg (Zd 0 h8.wht) ?_
 obtain ⟨r5,q4,H⟩:=Zn H
 refine Ze (Zf [] (Q45.spec q4) h8 rfl Zs) ?_
 rintro _ w7 ⟨_,⟨rfl,rfl⟩,h9⟩
 replace h9:=nf h9
 refine Zi [1,2,6] rfl ?_
 refine J.seq (Zc [1,2,6,13] ?_)
 refine jIf H (fun c4 H=>?_) fun c4 H=>?_
 ·refine J.seq (Zc [4,5] ?_)
  refine J.ret (⟨_,Za,?_⟩)
  refine Zi [4,5,6,7] rfl ?_
  refine J.seq (J.seq (J.region ?_))
  refine Zh 3 ?_
  refine Z8 24 (congrArg Value.bool c2) ?_
  refine Zi [4,6,27] rfl ?_
  refine J.cond rfl (fun e=>?_) (fun e=>by rw [c4] at e; cases e)
  refine J.seq (Zc [2,3] ?_)
  refine J.ret (⟨_,Za,?_⟩)
  refine Zi [1] rfl ?_
  have h10:=Zb h9 []
  replace h10:=nf h10
  refine J.seq (J.seq (Zc [1,13] ?_))
  refine Zo ?_
  refine J.seq (Zc [0] ?_)
  refine J.ret ?_
  cases H
  exact ⟨_,_,_,Za,⟨rfl,rfl⟩,Zb h10 []⟩
 refine J.skip (J.seq (J.region ?_))
 refine Zh 2 ?_
 refine Zg (Zd 0 h9.wht) ?_
 refine Z1 Tryz.func85 ?_
 refine J.seq (Zc [0,1] ?_)
 refine J.seq (J.block (J.seq (J.region ?_)))
 refine Zh 1 ?_
 obtain ⟨r6,q5,H⟩:=Zn H
 refine Ze (Zf [1,1] (Q50.spec q5) h9 rfl Zs) ?_
 rintro _ w8 ⟨_,⟨rfl,rfl⟩,h11⟩
 replace h11:=nf h11
 refine Zi [0,1,10] rfl ?_
 refine jIf H (fun c5 H=>?_) fun c5 H=>?_
 ·refine J.seq (Zc [4,5] ?_)
  refine J.ret (⟨_,Za,?_⟩)
  refine Zi [1,2,7,8] rfl ?_
  refine J.seq (J.seq (Zc [1,2,7,8,23] ?_))
  refine Zo ?_
  refine J.seq (Zc [4,5] ?_)
  refine J.ret (⟨_,Za,?_⟩)
  refine Zi [4,5,6,7] rfl ?_
  refine J.seq (J.seq (J.region ?_))
  refine Zh 3 ?_
  refine Z8 24 (congrArg Value.bool c2) ?_
  refine Zi [4,6,27] rfl ?_
  refine Zo ?_
  refine J.seq (Zc [2,3] ?_)
  refine J.ret (⟨_,Za,?_⟩)
  refine Zi [1] rfl ?_
  have h12:=Zb h11 []
  replace h12:=nf h12
  refine J.seq (J.seq (Zc [1,13] ?_))
  refine Zo ?_
  refine J.seq (Zc [0] ?_)
  refine J.ret ?_
  cases H
  exact ⟨_,_,_,Za,⟨rfl,rfl⟩,Zb h12 []⟩
 refine J.seq (J.region ?_)
 refine Zh 3 ?_
 refine Z7 17 H (fun c6 H=>?_) fun c6 H=>?_
 ·refine Zi [0,1,14] rfl ?_
  refine Zo ?_
  refine J.seq (Zc [4,5] ?_)
  refine J.ret (⟨_,Za,?_⟩)
  refine Zi [1,2,7,8] rfl ?_
  refine J.seq (J.seq (Zc [1,2,7,8,23] ?_))
  refine Zo ?_
  refine J.seq (Zc [4,5] ?_)
  refine J.ret (⟨_,Za,?_⟩)
  refine Zi [4,5,6,7] rfl ?_
  refine J.seq (J.seq (J.region ?_))
  refine Zh 3 ?_
  refine Z8 24 (congrArg Value.bool c2) ?_
  refine Zi [4,6,27] rfl ?_
  refine Zo ?_
  refine J.seq (Zc [2,3] ?_)
  refine J.ret (⟨_,Za,?_⟩)
  refine Zi [1] rfl ?_
  have h13:=Zb h11 []
  replace h13:=nf h13
  refine J.seq (J.seq (Zc [1,13] ?_))
  refine Zo ?_
  refine J.seq (Zc [0] ?_)
  refine J.ret ?_
  cases H
  exact ⟨_,_,_,Za,⟨rfl,rfl⟩,Zb h13 []⟩
 refine Zi [0,1,14] rfl ?_
 refine jIf H (fun c7 H=>?_) fun c7 H=>?_
 ·refine J.seq (Zc [4,5] ?_)
  refine J.ret (⟨_,Za,?_⟩)
  refine Zi [1,2,7,8] rfl ?_
  refine J.seq (J.seq (Zc [1,2,7,8,23] ?_))
  refine Zo ?_
  refine J.seq (Zc [4,5] ?_)
  refine J.ret (⟨_,Za,?_⟩)
  refine Zi [4,5,6,7] rfl ?_
  refine J.seq (J.seq (J.region ?_))
  refine Zh 3 ?_
  refine Z8 24 (congrArg Value.bool c2) ?_
  refine Zi [4,6,27] rfl ?_
  refine Zo ?_
  refine J.seq (Zc [2,3] ?_)
  refine J.ret (⟨_,Za,?_⟩)
  refine Zi [1] rfl ?_
  have h14:=Zb h11 []
  replace h14:=nf h14
  refine J.seq (J.seq (Zc [1,13] ?_))
  refine Zo ?_
  refine J.seq (Zc [0] ?_)
  refine J.ret ?_
  cases H
  exact ⟨_,_,_,Za,⟨rfl,rfl⟩,Zb h14 []⟩
 refine J.skip (J.seq (J.region ?_))
 refine Zh 1 ?_
 obtain ⟨r7,q6,H⟩:=Zn H
 refine Ze (Zf [] (Q31.spec q6) h11 rfl Zs) ?_
 rintro _ w9 ⟨_,⟨v2,l2,ho3,rfl,rfl⟩,h15⟩
 rcases ho4:r7.1 with _ | r8
 ·rw [ho4] at ho3
  obtain ⟨rfl,rfl⟩:=ho3
  replace H:=Y8 ho4 H
  obtain ⟨c8,H⟩:=Zt H
  replace h15:=nf h15
  refine Zi [0,1,6,7] rfl ?_
  refine J.seq (J.seq (Zc [0,1,6,7,27] ?_))
  refine J.cond rfl (fun e=>?_) (fun e=>by rw [c8] at e; cases e)
  refine J.seq (Zc [4,5] ?_)
  refine J.ret (⟨_,Za,?_⟩)
  refine Zi [1,2,7,8] rfl ?_
  refine J.seq (J.seq (Zc [1,2,7,8,23] ?_))
  refine J.cond rfl (fun e=>?_) (fun e=>by rw [c8] at e; cases e)
  refine J.seq (Zc [4,5] ?_)
  refine J.ret (⟨_,Za,?_⟩)
  refine Zi [4,5,6,7] rfl ?_
  refine J.seq (J.seq (J.region ?_))
  refine Zh 3 ?_
  refine Z8 24 (congrArg Value.bool c2) ?_
  refine Zi [4,6,27] rfl ?_
  refine J.cond rfl (fun e=>?_) (fun e=>by rw [c8] at e; cases e)
  refine J.seq (Zc [2,3] ?_)
  refine J.ret (⟨_,Za,?_⟩)
  refine Zi [1] rfl ?_
  have h16:=Zb h15 []
  replace h16:=nf h16
  refine J.seq (J.seq (Zc [1,13] ?_))
  refine Zo ?_
  refine J.seq (Zc [0] ?_)
  refine J.ret ?_
  cases H
  exact ⟨_,_,_,Za,⟨rfl,rfl⟩,Zb h16 []⟩
 rw [ho4] at ho3
 obtain ⟨b5,A2,c_2,rfl,rfl⟩:=ho3
 replace H:=Y6 ho4 H
 obtain ⟨c9,H⟩:=Zt H
 replace h15:=nf h15
 refine Zi [0,1,6,7] rfl ?_
 refine J.seq (J.seq (Zc [0,1,6,7,27] ?_))
 refine J.cond rfl (fun e=>by rw [c9] at e; cases e) (fun e=>?_)
 refine J.skip (J.seq (J.region ?_))
 refine Zh 2 ?_
 obtain ⟨⟨p1,p2⟩,H⟩:=Zt H
 refine Ze (V7 Yu (ty:=(.pair (.int .u32) (.pair (.slice 5 (.int .u8)) (.pair .bool (.int .i64))))) ((0,([]:List (Int)),false,0):Int×List (Int)×Bool×Int) rfl rfl rfl rfl rfl rfl (fun _ _=>Zad ⟨none,0,rfl,Nat.le_refl _,.inl rfl⟩) (by decide) h15 p1 p2) ?_
 rintro _ w10 ⟨b6,rfl,h17⟩
 replace h17:=nf h17
 refine Ze (Vi .u32 (Value.int .i64) h17) ?_
 rintro _ w11 ⟨b7,rfl,h18⟩
 replace h18:=nf h18
 refine Zh 2 ?_
 refine Ze (Ye h18) ?_
 rintro _ w12 ⟨b8,rfl,h19⟩
 replace h19:=nf h19
 refine Zi [1,8] rfl ?_
 refine J.seq (J.seq (Zc [8,36,37] ?_))
 refine J.block ?_
 have h54:=h19.addNil 3 (.int .i64)
 have h55:=(sOR h54 [1,5,1,2,5,4,3,1,0,0] [0])
 refine J.loop (fun kk env w=>∃(x1:List (Int)) (A3:Option Addr) (c_3:Nat) (x2:Int),env=[(8,.pointer (some ⟨b8,0,none⟩)),(36,.int .i64 r1.2.2.1),(37,.int .i64 x2)]∧St w0 F0 [Yp b8 (.pointer (some ⟨b3,0,none⟩)) (List.replicate r1.2.2.1.toNat ((0,([]:List (Int)),false,0):Int×List (Int)×Bool×Int)) (some ⟨b6,0,none⟩) (r1.2.2.1.toNat) (.map (some b7)) x1 A3 c_3 (.pointer (some ⟨b5,0,none⟩)),Yi b3 r3.1 r3.2.1 A1 c_1 r3.2.2.1 r3.2.2.2,Yj .u32 (Value.int .i64) b7 ([]:List (Int×Int)),Ya b5 r8.1 A2 c_2 r8.2,X23 b1 r1.1 r1.2.1 r1.2.2.1 r1.2.2.2.1 r1.2.2.2.2.1 r1.2.2.2.2.2.1 r1.2.2.2.2.2.2.1 r1.2.2.2.2.2.2.2,X23 b4 r1.1 r1.2.1 r1.2.2.1 r1.2.2.2.1 r1.2.2.2.2.1 r1.2.2.2.2.2.1 r1.2.2.2.2.2.2.1 r1.2.2.2.2.2.2.2,O5 r3.2.1 A1 c_1,Yo (List.replicate r1.2.2.1.toNat ((0,([]:List (Int)),false,0):Int×List (Int)×Bool×Int)) (some ⟨b6,0,none⟩) (r1.2.2.1.toNat),O3 x1 A3 c_3,Yb r8.1 A2 c_2] [tabC 0] w∧Q134.l0 kk r1 r3 r8 x1 x2=some r) (k:=k) ⟨([]:List (Int)),none,0,0,rfl,h55,H⟩ ?_
 rintro k1 env w13 ⟨x1,A3,c_3,x2,rfl,h20,H⟩
 rcases k1 with _ | k1
 ·exact z0 H
 rw [Q134.l0] at H
 refine J.seq (Zc [8,36,37,38] ?_)
 refine J.seq (jIf H (fun c10 H=>?_) fun c10 H=>?_)
 ·refine J.skip (J.seq (J.block (J.seq (Zc [8,9,36,37] ?_))))
  refine J.region (Zh 4 ?_)
  refine Zg (Zd 0 h20.wht) ?_
  refine Zh 1 ?_
  refine Ze (Xc (.int .i64) ([x2]:List (Int)) h20) ?_
  rintro _ w14 ⟨b9,rfl,h21⟩
  replace h21:=nf h21
  obtain ⟨p3,H⟩:=Zt H
  refine Ze (Yr 9 h21 (gO 0) p3) ?_
  rintro _ w15 ⟨A4,c_4,rfl,h22⟩
  replace h22:=nf h22
  refine Zh 2 ?_
  refine Ze (Z3 2 h22) ?_
  intro _ w16 h23
  replace h23:=nf h23
  refine Zi [8,36,37] rfl ?_
  refine Zc [8,36,37] ?_
  have h24:=(sOR h23 [0,2,2,2,2,2,2,2,0,1] [0])
  exact ⟨k1,by omega,(x1 ++ ([x2]:List (Int))),A4,c_4,(w64 (x2+1)),rfl,h24,H⟩
 refine J.exit (J.seq (Zc [4,5] ?_))
 refine J.ret (⟨_,Za,?_⟩)
 refine Zi [1,2,7,8] rfl ?_
 refine J.seq (J.seq (Zc [1,2,7,8,23] ?_))
 refine Zz ?_
 refine J.skip (J.seq (J.seq ?_))
 refine Zv h20 ?_
 have h25:=h20.drew
 refine Zu [0,2] ?_
 refine Zj 3 rfl (Zd 5 wI) ?_
 obtain ⟨r9,q7,H⟩:=Zn H
 refine Zq 1 rfl (Zf [1,5] (Q50.spec q7) h25 rfl Zs) ?_
 rintro _ w17 ⟨_,⟨rfl,rfl⟩,h26⟩
 replace h26:=nf h26
 refine ⟨⟨[],(Zb h26 [2,0,1,1,1,1,0,0,0,0])⟩,?_⟩
 refine Zu [4,5] ?_
 refine Yh 30 H (fun c11 H=>?_) fun c11 H=>?_
 ·refine Zu [6,7,8,9,10,11] ?_
  refine Zw [1,2,7,36] ?_
  refine Zo ?_
  refine J.seq (Zc [4,5] ?_)
  refine J.ret (⟨_,Za,?_⟩)
  refine Zi [4,5,6,7] rfl ?_
  refine J.seq (J.seq (J.region ?_))
  refine Zh 3 ?_
  refine Z8 24 (congrArg Value.bool c2) ?_
  refine Zi [4,6,27] rfl ?_
  refine Zo ?_
  refine J.seq (Zc [2,3] ?_)
  refine J.ret (⟨_,Za,?_⟩)
  refine Zi [1] rfl ?_
  have h27:=Zb h26 []
  replace h27:=nf h27
  refine J.seq (J.seq (Zc [1,13] ?_))
  refine Zo ?_
  refine J.seq (Zc [0] ?_)
  refine J.ret ?_
  cases H
  exact ⟨_,_,_,Za,⟨rfl,rfl⟩,Zb h27 []⟩
 refine Zu [6,8] ?_
 refine Zj 9 rfl (Zd 5 wI) ?_
 obtain ⟨r10,q8,H⟩:=Zn H
 refine Zq 7 rfl (Zf [0,0] (Q51.spec q8) h26 rfl Zs) ?_
 rintro _ w18 ⟨_,⟨rfl,rfl⟩,h28⟩
 replace h28:=nf h28
 refine ⟨⟨[],(Zb h28 [2,0,1,1,1,1,0,0,0,0])⟩,?_⟩
 refine Zu [10,11] ?_
 refine Zw [1,2,7,36] ?_
 refine jIf H (fun c12 H=>?_) fun c12 H=>?_
 ·refine J.seq (Zc [4,5] ?_)
  refine J.ret (⟨_,Za,?_⟩)
  refine Zi [4,5,6,7] rfl ?_
  refine J.seq (J.seq (J.region ?_))
  refine Zh 3 ?_
  refine Z8 24 (congrArg Value.bool c2) ?_
  refine Zi [4,6,27] rfl ?_
  refine Zo ?_
  refine J.seq (Zc [2,3] ?_)
  refine J.ret (⟨_,Za,?_⟩)
  refine Zi [1] rfl ?_
  have h29:=Zb h28 []
  replace h29:=nf h29
  refine J.seq (J.seq (Zc [1,13] ?_))
  refine Zo ?_
  refine J.seq (Zc [0] ?_)
  refine J.ret ?_
  cases H
  exact ⟨_,_,_,Za,⟨rfl,rfl⟩,Zb h29 []⟩
 refine J.skip (J.seq (J.region ?_))
 refine Zh 1 ?_
 refine Zg (Zd 6 h28.wht) ?_
 obtain ⟨r11,q9,H⟩:=Zn H
 refine Ze (Zf [] (Q69.spec q9) h28 rfl Zs) ?_
 rintro _ w19 ⟨_,⟨v3,l3,ho5,rfl,rfl⟩,h30⟩
 rcases ho6:r11.1 with _ | r12
 ·rw [ho6] at ho5
  obtain ⟨rfl,rfl⟩:=ho5
  replace H:=Y8 ho6 H
  obtain ⟨c13,H⟩:=Zt H
  replace h30:=nf h30
  refine Zi [1,2,7,8,9] rfl ?_
  refine J.seq (J.seq (Zc [1,2,7,8,9,44] ?_))
  refine J.cond rfl (fun e=>?_) (fun e=>by rw [c13] at e; cases e)
  refine J.seq (Zc [4,5] ?_)
  refine J.ret (⟨_,Za,?_⟩)
  refine Zi [4,5,6,7] rfl ?_
  refine J.seq (J.seq (J.region ?_))
  refine Zh 3 ?_
  refine Z8 24 (congrArg Value.bool c2) ?_
  refine Zi [4,6,27] rfl ?_
  refine J.cond rfl (fun e=>?_) (fun e=>by rw [c13] at e; cases e)
  refine J.seq (Zc [2,3] ?_)
  refine J.ret (⟨_,Za,?_⟩)
  refine Zi [1] rfl ?_
  have h31:=Zb h30 []
  replace h31:=nf h31
  refine J.seq (J.seq (Zc [1,13] ?_))
  refine Zo ?_
  refine J.seq (Zc [0] ?_)
  refine J.ret ?_
  cases H
  exact ⟨_,_,_,Za,⟨rfl,rfl⟩,Zb h31 []⟩
 rw [ho6] at ho5
 obtain ⟨b10,b11,A5,c_5,rfl,rfl⟩:=ho5
 replace H:=Y6 ho6 H
 obtain ⟨c14,H⟩:=Zt H
 replace h30:=nf h30
 refine Zi [1,2,7,8,9] rfl ?_
 refine J.seq (J.seq (Zc [1,2,7,8,9,44] ?_))
 refine J.cond rfl (fun e=>by rw [c14] at e; cases e) (fun e=>?_)
 refine J.skip (J.seq (J.region ?_))
 refine Zg (Zd 9 h30.wht) ?_
 refine Zh 4 ?_
 refine Ze (Ye h30) ?_
 rintro _ w20 ⟨b12,rfl,h32⟩
 replace h32:=nf h32
 refine Zi [4,5] rfl ?_
 refine J.ret (⟨_,Za,?_⟩)
 refine Zi [4,5,6,7] rfl ?_
 refine J.seq (J.seq (J.region ?_))
 refine Zh 3 ?_
 refine Z8 24 (congrArg Value.bool c2) ?_
 refine Zi [4,6,27] rfl ?_
 refine Zz ?_
 refine J.skip (J.seq (Zc [2,3] ?_))
 refine J.ret (⟨_,Za,?_⟩)
 refine Zi [1] rfl ?_
 have h33:=Zb h32 [0,0,0,0,0,0,0,0,0,2,2,2]
 replace h33:=nf h33
 refine J.seq (J.seq (Zc [1,13] ?_))
 refine Zz ?_
 refine J.skip (J.seq (J.region ?_))
 refine Zh 2 ?_
 have h34:=h33.addNil 33 (.int .u32)
 have h35:=h34.freeze (k:=0) rfl Y9
 have h36:=h35.addNil 9 .str
 have h37:=h36.freeze (k:=0) rfl Y9
 have h38:=h37.addNil 115 (.pair .str (.pair .bool .str))
 have h39:=h38.freeze (k:=0) rfl Y9
 have h40:=h39.addNil 106 (.pair .str .str)
 have h41:=h40.freeze (k:=0) rfl Y9
 obtain ⟨r13,q10,H⟩:=Zn H
 refine Ze (Zf [0,5,3,3,5,3,4,3,3,0,0,0] (Q92.spec q10) h41 rfl (Z0 (Zm 3) (Z0 (Zm 2) (Z0 (Zm 1) (Z0 (Zm 0) (Z0 (Zm 4) Zs)))))) ?_
 rintro _ w21 ⟨_,⟨A6,c_6,A7,c_7,A8,c_8,A9,c_9,A10,c_10,rfl,rfl⟩,h42⟩
 replace h42:=nf h42
 refine Zi [1,3,4] rfl ?_
 refine J.seq (J.region ?_)
 refine Zh 1 ?_
 obtain ⟨r14,q11,H⟩:=Zn H
 refine Ze (Zf [0,0,0,0,0,0,0,0,0,0,0,0] (Q90.spec q11) h42 rfl Zs) ?_
 rintro _ w22 ⟨_,⟨A11,c_11,A12,c_12,A13,c_13,A14,c_14,A15,c_15,A16,c_16,A17,c_17,A18,c_18,A19,c_19,rfl,rfl⟩,h43⟩
 replace h43:=nf h43
 refine Zh 3 ?_
 refine Ze (Yq h43) ?_
 rintro _ w23 ⟨b13,rfl,h44⟩
 replace h44:=nf h44
 refine Ze (Z3 0 h44) ?_
 intro _ w24 h45
 replace h45:=nf h45
 refine Zi [1,3,4,6] rfl ?_
 have h46:=Zb h45 [5,5,5,5,5,5,5,5,5,5,5,5]
 replace h46:=nf h46
 refine J.seq (J.region ?_)
 refine Zh 3 ?_
 refine Z7 27 H (fun c15 H=>?_) fun c15 H=>?_
 ·refine Zh 4 ?_
  refine Z7 31 H (fun c16 H=>?_) fun c16 H=>?_
  ·refine Zh 1 ?_
   obtain ⟨r15,q12,H⟩:=Zn H
   refine Ze (Zf [0,0,0,0,0,0,0,0,0,0,0,0] (Q88.spec q12) h46 rfl Zs) ?_
   rintro _ w25 ⟨_,⟨rfl,rfl⟩,h47⟩
   replace h47:=nf h47
   refine Zh 3 ?_
   refine Z7 36 H (fun c17 H=>?_) fun c17 H=>?_
   ·refine Zh 4 ?_
    refine Z7 40 H (fun c18 H=>?_) fun c18 H=>?_
    ·refine Zh 1 ?_
     obtain ⟨r16,q13,H⟩:=Zn H
     refine Ze (Zf [0,0,0,0,0,0,0,0,0,0,0,0] (Q84.spec q13) h47 rfl Zs) ?_
     rintro _ w26 ⟨_,⟨rfl,rfl⟩,h48⟩
     replace h48:=nf h48
     refine Zi [0] rfl ?_
     have h49:=Zb h48 []
     replace h49:=nf h49
     refine J.ret ?_
     cases H
     exact ⟨_,_,_,Za,⟨rfl,rfl⟩,Zb h49 []⟩
    refine Zi [0] rfl ?_
    have h50:=Zb h47 []
    replace h50:=nf h50
    refine J.ret ?_
    cases H
    exact ⟨_,_,_,Za,⟨rfl,rfl⟩,Zb h50 []⟩
   refine Zi [0] rfl ?_
   have h51:=Zb h47 []
   replace h51:=nf h51
   refine J.ret ?_
   cases H
   exact ⟨_,_,_,Za,⟨rfl,rfl⟩,Zb h51 []⟩
  refine Zi [0] rfl ?_
  have h52:=Zb h46 []
  replace h52:=nf h52
  refine J.ret ?_
  cases H
  exact ⟨_,_,_,Za,⟨rfl,rfl⟩,Zb h52 []⟩
 refine Zi [0] rfl ?_
 have h53:=Zb h46 []
 replace h53:=nf h53
 refine J.ret ?_
 cases H
 exact ⟨_,_,_,Za,⟨rfl,rfl⟩,Zb h53 []⟩

def Q140.f (a0:Int) (a1:Int) (a2:Int):Option (Bool):=if (decide (a1≤a0))=true then (some (decide (a0≤a2))) else (some false)
theorem Q140.spec {a0:Int} {a1:Int} {a2:Int}  {r:Bool} (H:Q140.f a0 a1 a2=some r) :
  Spec Tryz.prog 88 [.int .i64 a0,.int .i64 a1,.int .i64 a2] [] [] (fun v l=>v=.bool r∧l=[]):=by
 refine Zp Tryz.func88 fun w0 F0 h0=>?_
 unfold Q140.f at H
 refine J.seq (Zc [0,1,2] ?_)
 refine J.seq (J.region ?_)
 refine Zh 4 ?_
 refine Z7 10 H (fun c1 H=>?_) fun c1 H=>?_
 ·refine Zi [6] rfl ?_
  refine J.ret ?_
  cases H
  exact ⟨_,_,_,Za,⟨rfl,rfl⟩,Zb h0 []⟩
 refine Zi [6] rfl ?_
 refine J.ret ?_
 cases H
 exact ⟨_,_,_,Za,⟨rfl,rfl⟩,Zb h0 []⟩

def Q139.f (a0:Int×Int×Int×Int×Int×Int×Int×Int):Option (Bool):=(Q140.f a0.2.2.2.1 8 64).bind fun r1=>(if (!r1)=true then (some false) else ((Q140.f a0.2.2.2.2.2.2.1 1 64).bind fun r2=>(if (!r2)=true then (some false) else ((Q140.f a0.2.2.2.2.2.2.2 0 256).bind fun r3=>(if (!r3)=true then (some false) else ((Q140.f a0.2.2.2.2.1 (w64 (2*a0.2.2.2.1)) 512).bind fun r4=>(if r4=true then ((Q140.f a0.2.2.2.2.2.1 a0.2.2.2.2.1 1024).bind fun r5=>(some r5)) else (some false))))))))
theorem Q139.spec {a0:Int×Int×Int×Int×Int×Int×Int×Int}  {r:Bool} (H:Q139.f a0=some r) :
  Spec Tryz.prog 87 [.agg #[.int .i64 a0.1,.int .i64 a0.2.1,.int .i64 a0.2.2.1,.int .i64 a0.2.2.2.1,.int .i64 a0.2.2.2.2.1,.int .i64 a0.2.2.2.2.2.1,.int .i64 a0.2.2.2.2.2.2.1,.int .i64 a0.2.2.2.2.2.2.2]] [] [] (fun v l=>v=.bool r∧l=[]):=by
 refine Zp Tryz.func87 fun w0 F0 h0=>?_
 unfold Q139.f at H
 refine J.seq (J.region ?_)
 refine Ze (Ye h0) ?_
 rintro _ w1 ⟨b1,rfl,h1⟩
 replace h1:=nf h1
 refine Zi [1] rfl ?_
 refine J.seq (J.seq (J.region ?_))
 refine Zh 1 ?_
 refine Zg (Zd 0 h1.wht) ?_
 obtain ⟨r1,q1,H⟩:=Zn H
 refine Ze (Zf [] (Q140.spec q1) h1 rfl Zs) ?_
 rintro _ w2 ⟨_,⟨rfl,rfl⟩,h2⟩
 replace h2:=nf h2
 refine Zh 2 ?_
 refine Z7 7 H (fun c1 H=>?_) fun c1 H=>?_
 ·refine Zi [1,18] rfl ?_
  refine Zo ?_
  refine J.seq (Zc [2] ?_)
  refine J.ret ?_
  cases H
  exact ⟨_,_,_,Za,⟨rfl,rfl⟩,Zb h2 []⟩
 refine Zh 1 ?_
 refine Zg (Zd 0 h2.wht) ?_
 obtain ⟨r2,q2,H⟩:=Zn H
 refine Ze (Zf [] (Q140.spec q2) h2 rfl Zs) ?_
 rintro _ w3 ⟨_,⟨rfl,rfl⟩,h3⟩
 replace h3:=nf h3
 refine Zh 3 ?_
 refine Z7 13 H (fun c2 H=>?_) fun c2 H=>?_
 ·refine Zi [1,18] rfl ?_
  refine Zo ?_
  refine J.seq (Zc [2] ?_)
  refine J.ret ?_
  cases H
  exact ⟨_,_,_,Za,⟨rfl,rfl⟩,Zb h3 []⟩
 refine Zh 1 ?_
 refine Zg (Zd 0 h3.wht) ?_
 obtain ⟨r3,q3,H⟩:=Zn H
 refine Ze (Zf [] (Q140.spec q3) h3 rfl Zs) ?_
 rintro _ w4 ⟨_,⟨rfl,rfl⟩,h4⟩
 replace h4:=nf h4
 refine Zi [1,18] rfl ?_
 refine jIf H (fun c3 H=>?_) fun c3 H=>?_
 ·refine J.seq (Zc [2] ?_)
  refine J.ret ?_
  cases H
  exact ⟨_,_,_,Za,⟨rfl,rfl⟩,Zb h4 []⟩
 refine J.skip (J.seq (J.region ?_))
 refine Zh 1 ?_
 refine Zg (Zd 0 h4.wht) ?_
 refine Zh 1 ?_
 refine Zg (Zd 0 h4.wht) ?_
 refine Zh 1 ?_
 obtain ⟨r4,q4,H⟩:=Zn H
 refine Ze (Zf [] (Q140.spec q4) h4 rfl Zs) ?_
 rintro _ w5 ⟨_,⟨rfl,rfl⟩,h5⟩
 replace h5:=nf h5
 refine Zh 1 ?_
 refine Z7 25 H (fun c4 H=>?_) fun c4 H=>?_
 ·refine Zh 1 ?_
  refine Zg (Zd 0 h5.wht) ?_
  refine Zh 1 ?_
  refine Zg (Zd 0 h5.wht) ?_
  obtain ⟨r5,q5,H⟩:=Zn H
  refine Ze (Zf [] (Q140.spec q5) h5 rfl Zs) ?_
  rintro _ w6 ⟨_,⟨rfl,rfl⟩,h6⟩
  replace h6:=nf h6
  refine Zi [2] rfl ?_
  refine J.ret ?_
  cases H
  exact ⟨_,_,_,Za,⟨rfl,rfl⟩,Zb h6 []⟩
 refine Zi [2] rfl ?_
 refine J.ret ?_
 cases H
 exact ⟨_,_,_,Za,⟨rfl,rfl⟩,Zb h5 []⟩

def Q136.l1:Nat→(Int×Int×Int×Int×Int×Int×Int×Int)→(Int)→(Int)→Option (Int)
 | 0,_,_,_=>none
 | k+1,a0,x3,x4=>if (decide (x4<a0.2.2.2.2.1))=true then (Q136.l1 k a0 (w64 ((w64 ((w64 (x3+4))+a0.2.2.2.2.2.2.1))+a0.2.2.2.2.2.2.2)) (w64 (x4+1))) else (some x3)
def Q136.l0:Nat→(Int×Int×Int×Int×Int×Int×Int×Int)→(Int)→(Int)→Option (Int)
 | 0,_,_,_=>none
 | k+1,a0,x1,x2=>if (decide (x2<a0.2.2.2.1))=true then (if (decide (0<x2))=true then (Q136.l0 k a0 (w64 ((w64 ((w64 (x1+4))+1))+a0.2.2.2.2.2.2.1)) (w64 (x2+1))) else (Q136.l0 k a0 (w64 (x1+4)) (w64 (x2+1)))) else (Q136.l1 k a0 x1 0)
def Q136.f (k:Nat) (a0:Int×Int×Int×Int×Int×Int×Int×Int):Option (Int):=(Q139.f a0).bind fun r1=>(if (!r1)=true then (some 0) else (Q136.l0 k a0 8 0))
theorem Q136.spec {k:Nat} {a0:Int×Int×Int×Int×Int×Int×Int×Int}  {r:Int} (H:Q136.f k a0=some r) :
  Spec Tryz.prog 89 [.agg #[.int .i64 a0.1,.int .i64 a0.2.1,.int .i64 a0.2.2.1,.int .i64 a0.2.2.2.1,.int .i64 a0.2.2.2.2.1,.int .i64 a0.2.2.2.2.2.1,.int .i64 a0.2.2.2.2.2.2.1,.int .i64 a0.2.2.2.2.2.2.2]] [] [] (fun v l=>v=.int .i64 r∧l=[]):=by
 refine Zp Tryz.func89 fun w0 F0 h0=>?_
 unfold Q136.f at H
 refine J.seq (J.region ?_)
 refine Ze (Ye h0) ?_
 rintro _ w1 ⟨b1,rfl,h1⟩
 replace h1:=nf h1
 refine Zi [1] rfl ?_
 refine J.seq (J.seq (J.region ?_))
 refine Zg (Zd 0 h1.wht) ?_
 obtain ⟨r1,q1,H⟩:=Zn H
 refine Ze (Zf [] (Q139.spec q1) h1 rfl Zs) ?_
 rintro _ w2 ⟨_,⟨rfl,rfl⟩,h2⟩
 replace h2:=nf h2
 refine Zi [1,8] rfl ?_
 refine jIf H (fun c1 H=>?_) fun c1 H=>?_
 ·refine J.seq (Zc [2] ?_)
  refine J.ret ?_
  cases H
  exact ⟨_,_,_,Za,⟨rfl,rfl⟩,Zb h2 []⟩
 refine J.skip (J.seq (Zc [1,3] ?_))
 refine J.seq (J.seq (Zc [1,3,4] ?_))
 refine J.block ?_
 have h9:=(sOR h2 [0] [])
 refine J.loop (fun kk env w=>∃(x1:Int) (x2:Int),env=[(1,.pointer (some ⟨b1,0,none⟩)),(3,.int .i64 x1),(4,.int .i64 x2)]∧St w0 F0 [X23 b1 a0.1 a0.2.1 a0.2.2.1 a0.2.2.2.1 a0.2.2.2.2.1 a0.2.2.2.2.2.1 a0.2.2.2.2.2.2.1 a0.2.2.2.2.2.2.2] [] w∧Q136.l0 kk a0 x1 x2=some r) (k:=k) ⟨8,0,rfl,h9,H⟩ ?_
 rintro k1 env w3 ⟨x1,x2,rfl,h3,H⟩
 rcases k1 with _ | k1
 ·exact z0 H
 rw [Q136.l0] at H
 refine J.seq (J.seq (J.region ?_))
 refine Zh 2 ?_
 refine Zg (Zd 0 h3.wht) ?_
 refine Zi [1,3,4,12] rfl ?_
 refine jIf H (fun c2 H=>?_) fun c2 H=>?_
 ·refine J.skip (J.seq (J.block (J.seq (Zc [1,3,4] ?_))))
  refine J.seq (Zc [1,3,4,18] ?_)
  refine jIf H (fun c3 H=>?_) fun c3 H=>?_
  ·refine J.region (Zh 3 ?_)
   refine Zg (Zd 0 h3.wht) ?_
   refine Zi [1,3,4] rfl ?_
   refine Zc [1,3,4] ?_
   have h4:=(sOR h3 [0] [])
   exact ⟨k1,by omega,(w64 ((w64 ((w64 (x1+4))+1))+a0.2.2.2.2.2.2.1)),(w64 (x2+1)),rfl,h4,H⟩
  refine J.skip (Zc [1,3,4] ?_)
  have h5:=(sOR h3 [0] [])
  exact ⟨k1,by omega,(w64 (x1+4)),(w64 (x2+1)),rfl,h5,H⟩
 refine J.exit (J.seq (J.seq (Zc [1,3,5] ?_)))
 refine J.block ?_
 have h8:=(sOR h3 [0] [])
 refine J.loop (fun kk env w=>∃(x3:Int) (x4:Int),env=[(1,.pointer (some ⟨b1,0,none⟩)),(3,.int .i64 x3),(5,.int .i64 x4)]∧St w0 F0 [X23 b1 a0.1 a0.2.1 a0.2.2.1 a0.2.2.2.1 a0.2.2.2.2.1 a0.2.2.2.2.2.1 a0.2.2.2.2.2.2.1 a0.2.2.2.2.2.2.2] [] w∧Q136.l1 kk a0 x3 x4=some r) (k:=k1) ⟨x1,0,rfl,h8,H⟩ ?_
 rintro k2 env w4 ⟨x3,x4,rfl,h6,H⟩
 rcases k2 with _ | k2
 ·exact z0 H
 rw [Q136.l1] at H
 refine J.seq (J.seq (J.region ?_))
 refine Zh 2 ?_
 refine Zg (Zd 0 h6.wht) ?_
 refine Zi [1,3,5,27] rfl ?_
 refine jIf H (fun c4 H=>?_) fun c4 H=>?_
 ·refine J.skip (J.seq (J.block (J.region ?_)))
  refine Zh 3 ?_
  refine Zg (Zd 0 h6.wht) ?_
  refine Zh 2 ?_
  refine Zg (Zd 0 h6.wht) ?_
  refine Zi [1,3,5] rfl ?_
  refine Zc [1,3,5] ?_
  have h7:=(sOR h6 [0] [])
  exact ⟨k2,by omega,(w64 ((w64 ((w64 (x3+4))+a0.2.2.2.2.2.2.1))+a0.2.2.2.2.2.2.2)),(w64 (x4+1)),rfl,h7,H⟩
 refine J.exit (J.seq (Zc [2] ?_))
 refine J.ret ?_
 cases H
 exact ⟨_,_,_,Za,⟨rfl,rfl⟩,Zb h6 []⟩

end Go.SK.T
