/- The functions, further. -/
import Derived.Test.YtgdmpkhmedbnpaaGreatDoorXShelfCostsF1
set_option linter.unusedVariables false
set_option linter.unusedSimpArgs false
set_option maxRecDepth 20000
set_option maxHeartbeats 40000000
namespace Go.SK.T
open Go Go.SK Go.Proofs
def Q21.f (a0:(Int×List (Int)×(Int×Int))×(List (Int×List (Int)×Bool×Int))×(List (Int×Int))×List (Int)×((List (Int×Int×Bool))×Int)) (a1:Int) (a2:List (Int)):Option (Int×((Int×List (Int)×(Int×Int))×(List (Int×List (Int)×Bool×Int))×(List (Int×Int))×List (Int)×((List (Int×Int×Bool))×Int))):=(Q23.f a0).bind fun r1=>(if r1=true then (some (1,a0)) else (if (!(Y2 a0.2.2.1 a1))=true then (some (8,a0)) else (if 0≤(Zw (0:Int) a0.2.2.1 a1)∧(Zw (0:Int) a0.2.2.1 a1)<(a0.2.1.length:Int) then (if (decide (((gt a0.2.1 (Zw (0:Int) a0.2.2.1 a1)).2.2.2)=0))=true then (some (8,a0)) else ((Q54.f a0.1).bind fun r2=>(if (!decide ((a2.length:Int)=r2))=true then (some (3,a0)) else ((Q94.f a2).bind fun r3=>(some (0,(a0.1,((a0.2.1.set (Zw (0:Int) a0.2.2.1 a1).toNat ((gt a0.2.1 (Zw (0:Int) a0.2.2.1 a1)).1,r3,(gt a0.2.1 (Zw (0:Int) a0.2.2.1 a1)).2.2.1,(gt a0.2.1 (Zw (0:Int) a0.2.2.1 a1)).2.2.2)).set (Zw (0:Int) a0.2.2.1 a1).toNat ((gt (a0.2.1.set (Zw (0:Int) a0.2.2.1 a1).toNat ((gt a0.2.1 (Zw (0:Int) a0.2.2.1 a1)).1,r3,(gt a0.2.1 (Zw (0:Int) a0.2.2.1 a1)).2.2.1,(gt a0.2.1 (Zw (0:Int) a0.2.2.1 a1)).2.2.2)) (Zw (0:Int) a0.2.2.1 a1)).1,(gt (a0.2.1.set (Zw (0:Int) a0.2.2.1 a1).toNat ((gt a0.2.1 (Zw (0:Int) a0.2.2.1 a1)).1,r3,(gt a0.2.1 (Zw (0:Int) a0.2.2.1 a1)).2.2.1,(gt a0.2.1 (Zw (0:Int) a0.2.2.1 a1)).2.2.2)) (Zw (0:Int) a0.2.2.1 a1)).2.1,true,(gt (a0.2.1.set (Zw (0:Int) a0.2.2.1 a1).toNat ((gt a0.2.1 (Zw (0:Int) a0.2.2.1 a1)).1,r3,(gt a0.2.1 (Zw (0:Int) a0.2.2.1 a1)).2.2.1,(gt a0.2.1 (Zw (0:Int) a0.2.2.1 a1)).2.2.2)) (Zw (0:Int) a0.2.2.1 a1)).2.2.2)),a0.2.2.1,a0.2.2.2.1,a0.2.2.2.2))))))) else none)))
theorem Q21.spec {a0:(Int×List (Int)×(Int×Int))×(List (Int×List (Int)×Bool×Int))×(List (Int×Int))×List (Int)×((List (Int×Int×Bool))×Int)} {a1:Int} {a2:List (Int)} {A5:Option Addr} {c_5:Nat} {b1:Nat} {b2:Nat} {b3:Nat} {b4:Nat} {A1:Option Addr} {c_1:Nat} {A2:Option Addr} {c_2:Nat} {A3:Option Addr} {c_3:Nat} {A4:Option Addr} {c_4:Nat} {r:Int×((Int×List (Int)×(Int×Int))×(List (Int×List (Int)×Bool×Int))×(List (Int×Int))×List (Int)×((List (Int×Int×Bool))×Int))} (H:Q21.f a0 a1 a2=some r) :
  Spec Tryz.prog 139 [.pointer (some ⟨b1,0,none⟩),.int .u32 a1,.slice A5 a2.length c_5] [Yh b1 (.pointer (some ⟨b2,0,none⟩)) a0.2.1 A2 c_2 (.map (some b3)) a0.2.2.2.1 A3 c_3 (.pointer (some ⟨b4,0,none⟩)),Yb b2 a0.1.1 a0.1.2.1 A1 c_1 a0.1.2.2.1 a0.1.2.2.2,O5 a0.1.2.1 A1 c_1,Yg a0.2.1 A2 c_2,Yc .u32 (Value.int .i64) b3 a0.2.2.1,O3 a0.2.2.2.1 A3 c_3,Z7 b4 a0.2.2.2.2.1 A4 c_4 a0.2.2.2.2.2,Z8 a0.2.2.2.2.1 A4 c_4] [R5 a2 A5 c_5] (fun v l=>∃(A_0:Option Addr) (c_0:Nat) (A_1:Option Addr) (c_1:Nat) (A_2:Option Addr) (c_2:Nat) (A_3:Option Addr) (c_3:Nat),v=.int .i64 r.1∧l=[Yh b1 (.pointer (some ⟨b2,0,none⟩)) r.2.2.1 A_1 c_1 (.map (some b3)) r.2.2.2.2.1 A_2 c_2 (.pointer (some ⟨b4,0,none⟩)),Yb b2 r.2.1.1 r.2.1.2.1 A_0 c_0 r.2.1.2.2.1 r.2.1.2.2.2,O5 r.2.1.2.1 A_0 c_0,Yg r.2.2.1 A_1 c_1,Yc .u32 (Value.int .i64) b3 r.2.2.2.1,O3 r.2.2.2.2.1 A_2 c_2,Z7 b4 r.2.2.2.2.2.1 A_3 c_3 r.2.2.2.2.2.2,Z8 r.2.2.2.2.2.1 A_3 c_3]):=by
 refine Zo Tryz.func139 fun w0 F0 h0=>?_
 unfold Q21.f at H
 refine J.seq (Zb [0,1,2] ?_)
 refine J.seq (J.region ?_)
 refine Zh 2 ?_
 refine Ys Tryz.func128 ?_
 refine J.seq (Zb [0,1] ?_)
 refine J.seq (J.seq (J.region ?_))
 refine Zh 1 ?_
 obtain ⟨r1,q1,H⟩:=Zn H
 refine Ze (Zg [0,0,0,0,0,0,0,0] (Q23.spec q1) h0 rfl Zr) ?_
 rintro _ w1 ⟨_,⟨rfl,rfl⟩,h1⟩
 replace h1:=nf h1
 refine Zi [0,1,9] rfl ?_
 refine jIf H (fun c1 H=>?_) fun c1 H=>?_
 ·refine J.seq (Zb [4,5] ?_)
  refine J.ret (⟨_,Za,?_⟩)
  refine Zi [0,2,7,8] rfl ?_
  refine J.seq (J.block (J.seq (Zb [0,2,7,8,15] ?_)))
  refine Zt ?_
  refine J.seq (Zb [6] ?_)
  refine J.ret ?_
  cases H
  exact ⟨_,_,_,Za,⟨_,_,_,_,_,_,_,_,rfl,rfl⟩,Zc h1 [0,0,0,0,0,0,0,0]⟩
 refine J.skip (J.seq (J.region ?_))
 refine Zh 3 ?_
 refine Zf (Zd 0 h1.wht) ?_
 refine Zh 1 ?_
 refine Zf (Xu (0:Int) 4 h1.wht) ?_
 refine Zi [0,6,7] rfl ?_
 refine J.seq (J.seq (J.region ?_))
 refine Zh 3 ?_
 refine Yj 21 H (fun c2 H=>?_) fun c2 H=>?_
 ·refine Zi [0,6,31] rfl ?_
  refine Zt ?_
  refine J.seq (Zb [4,5] ?_)
  refine J.ret (⟨_,Za,?_⟩)
  refine Zi [0,2,7,8] rfl ?_
  refine J.seq (J.block (J.seq (Zb [0,2,7,8,15] ?_)))
  refine Zt ?_
  refine J.seq (Zb [6] ?_)
  refine J.ret ?_
  cases H
  exact ⟨_,_,_,Za,⟨_,_,_,_,_,_,_,_,rfl,rfl⟩,Zc h1 [0,0,0,0,0,0,0,0]⟩
 refine Zh 3 ?_
 refine Zf (Zd 0 h1.wht) ?_
 refine Zh 1 ?_
 obtain ⟨⟨p1,p2⟩,H⟩:=Zs H
 have e1:=Z6 h1.wh (gO 3) p1 p2
 refine Zf (Zl e1 p1 p2) ?_
 refine Zh 1 ?_
 refine Zf (Yq 3 h1.wht (gO 3) p1 p2) ?_
 refine Zi [0,6,31] rfl ?_
 refine jIf H (fun c3 H=>?_) fun c3 H=>?_
 ·refine J.seq (Zb [4,5] ?_)
  refine J.ret (⟨_,Za,?_⟩)
  refine Zi [0,2,7,8] rfl ?_
  refine J.seq (J.block (J.seq (Zb [0,2,7,8,15] ?_)))
  refine Zt ?_
  refine J.seq (Zb [6] ?_)
  refine J.ret ?_
  cases H
  exact ⟨_,_,_,Za,⟨_,_,_,_,_,_,_,_,rfl,rfl⟩,Zc h1 [0,0,0,0,0,0,0,0]⟩
 refine J.skip (J.seq (J.region ?_))
 refine Zh 3 ?_
 refine Zf (Zd 0 h1.wht) ?_
 refine Zh 1 ?_
 refine Zf (Zl e1 p1 p2) ?_
 refine Zi [4,5] rfl ?_
 refine J.ret (⟨_,Za,?_⟩)
 refine Zi [0,2,7,8] rfl ?_
 refine J.seq (J.block (J.seq (Zb [0,2,7,8,15] ?_)))
 refine Z4 ?_
 refine J.seq (J.region ?_)
 refine Zh 5 ?_
 refine Zf (Zd 0 h1.wht) ?_
 obtain ⟨r2,q2,H⟩:=Zn H
 refine Ze (Zg [1,1] (Q54.spec q2) h1 rfl Zr) ?_
 rintro _ w2 ⟨_,⟨rfl,rfl⟩,h2⟩
 replace h2:=nf h2
 refine Zi [2,7,19] rfl ?_
 refine jIf H (fun c4 H=>?_) fun c4 H=>?_
 ·refine J.seq (Zb [6] ?_)
  refine J.ret ?_
  cases H
  exact ⟨_,_,_,Za,⟨_,_,_,_,_,_,_,_,rfl,rfl⟩,Zc h2 [2,0,0,0,0,0,0,0]⟩
 refine J.skip (J.seq (J.region ?_))
 refine Zh 3 ?_
 obtain ⟨r3,q3,H⟩:=Zn H
 refine Ze (Zg [] (Q94.spec q3) h2 rfl (Zy (Zk 8) Zr)) ?_
 rintro _ w3 ⟨_,⟨A6,c_6,rfl,rfl⟩,h3⟩
 replace h3:=nf h3
 refine Zh 2 ?_
 have h4:=(h3.only [4,0,0,0,0,0,0,0,0] rfl).both
 refine Ze (Wq 1 (.pair (.int .u32) (.pair (.slice 5 (.int .u8)) (.pair .bool (.int .i64)))) (Zw (0:Int) a0.2.2.1 a1) ((gt a0.2.1 (Zw (0:Int) a0.2.2.1 a1)).1,r3,(gt a0.2.1 (Zw (0:Int) a0.2.2.1 a1)).2.2.1,(gt a0.2.1 (Zw (0:Int) a0.2.2.1 a1)).2.2.2) h4 p1 p2 Zls) ?_
 intro _ w4 h5
 replace h5:=nf h5
 replace h5:St w0 F0 [Yg (a0.2.1.set (Zw (0:Int) a0.2.2.1 a1).toNat ((gt a0.2.1 (Zw (0:Int) a0.2.2.1 a1)).1,r3,(gt a0.2.1 (Zw (0:Int) a0.2.2.1 a1)).2.2.1,(gt a0.2.1 (Zw (0:Int) a0.2.2.1 a1)).2.2.2)) A2 c_2,Yb b2 a0.1.1 a0.1.2.1 A1 c_1 a0.1.2.2.1 a0.1.2.2.2,O5 a0.1.2.1 A1 c_1,Yh b1 (.pointer (some ⟨b2,0,none⟩)) (a0.2.1.set (Zw (0:Int) a0.2.2.1 a1).toNat ((gt a0.2.1 (Zw (0:Int) a0.2.2.1 a1)).1,r3,(gt a0.2.1 (Zw (0:Int) a0.2.2.1 a1)).2.2.1,(gt a0.2.1 (Zw (0:Int) a0.2.2.1 a1)).2.2.2)) A2 c_2 (.map (some b3)) a0.2.2.2.1 A3 c_3 (.pointer (some ⟨b4,0,none⟩)),Yc .u32 (Value.int .i64) b3 a0.2.2.1,O3 a0.2.2.2.1 A3 c_3,Z7 b4 a0.2.2.2.2.1 A4 c_4 a0.2.2.2.2.2,Z8 a0.2.2.2.2.1 A4 c_4] _ _:=h5.retell (by simp only [List.length_set,List.length_nil,Yg,Z8,O3,O5,Yb,Yh,Z7] <;> rfl)
 refine Zh 2 ?_
 refine Ze (Xx 2 (.pair (.int .u32) (.pair (.slice 5 (.int .u8)) (.pair .bool (.int .i64)))) (Zw (0:Int) a0.2.2.1 a1) ((gt (a0.2.1.set (Zw (0:Int) a0.2.2.1 a1).toNat ((gt a0.2.1 (Zw (0:Int) a0.2.2.1 a1)).1,r3,(gt a0.2.1 (Zw (0:Int) a0.2.2.1 a1)).2.2.1,(gt a0.2.1 (Zw (0:Int) a0.2.2.1 a1)).2.2.2)) (Zw (0:Int) a0.2.2.1 a1)).1,(gt (a0.2.1.set (Zw (0:Int) a0.2.2.1 a1).toNat ((gt a0.2.1 (Zw (0:Int) a0.2.2.1 a1)).1,r3,(gt a0.2.1 (Zw (0:Int) a0.2.2.1 a1)).2.2.1,(gt a0.2.1 (Zw (0:Int) a0.2.2.1 a1)).2.2.2)) (Zw (0:Int) a0.2.2.1 a1)).2.1,true,(gt (a0.2.1.set (Zw (0:Int) a0.2.2.1 a1).toNat ((gt a0.2.1 (Zw (0:Int) a0.2.2.1 a1)).1,r3,(gt a0.2.1 (Zw (0:Int) a0.2.2.1 a1)).2.2.1,(gt a0.2.1 (Zw (0:Int) a0.2.2.1 a1)).2.2.2)) (Zw (0:Int) a0.2.2.1 a1)).2.2.2) 0 h5 rfl p1 (by simpa only [List.length_set] using p2) (Uz rfl rfl)) ?_
 intro _ w5 h6
 replace h6:=nf h6
 replace h6:St w0 F0 [Yg ((a0.2.1.set (Zw (0:Int) a0.2.2.1 a1).toNat ((gt a0.2.1 (Zw (0:Int) a0.2.2.1 a1)).1,r3,(gt a0.2.1 (Zw (0:Int) a0.2.2.1 a1)).2.2.1,(gt a0.2.1 (Zw (0:Int) a0.2.2.1 a1)).2.2.2)).set (Zw (0:Int) a0.2.2.1 a1).toNat ((gt (a0.2.1.set (Zw (0:Int) a0.2.2.1 a1).toNat ((gt a0.2.1 (Zw (0:Int) a0.2.2.1 a1)).1,r3,(gt a0.2.1 (Zw (0:Int) a0.2.2.1 a1)).2.2.1,(gt a0.2.1 (Zw (0:Int) a0.2.2.1 a1)).2.2.2)) (Zw (0:Int) a0.2.2.1 a1)).1,(gt (a0.2.1.set (Zw (0:Int) a0.2.2.1 a1).toNat ((gt a0.2.1 (Zw (0:Int) a0.2.2.1 a1)).1,r3,(gt a0.2.1 (Zw (0:Int) a0.2.2.1 a1)).2.2.1,(gt a0.2.1 (Zw (0:Int) a0.2.2.1 a1)).2.2.2)) (Zw (0:Int) a0.2.2.1 a1)).2.1,true,(gt (a0.2.1.set (Zw (0:Int) a0.2.2.1 a1).toNat ((gt a0.2.1 (Zw (0:Int) a0.2.2.1 a1)).1,r3,(gt a0.2.1 (Zw (0:Int) a0.2.2.1 a1)).2.2.1,(gt a0.2.1 (Zw (0:Int) a0.2.2.1 a1)).2.2.2)) (Zw (0:Int) a0.2.2.1 a1)).2.2.2)) A2 c_2,Yb b2 a0.1.1 a0.1.2.1 A1 c_1 a0.1.2.2.1 a0.1.2.2.2,O5 a0.1.2.1 A1 c_1,Yh b1 (.pointer (some ⟨b2,0,none⟩)) ((a0.2.1.set (Zw (0:Int) a0.2.2.1 a1).toNat ((gt a0.2.1 (Zw (0:Int) a0.2.2.1 a1)).1,r3,(gt a0.2.1 (Zw (0:Int) a0.2.2.1 a1)).2.2.1,(gt a0.2.1 (Zw (0:Int) a0.2.2.1 a1)).2.2.2)).set (Zw (0:Int) a0.2.2.1 a1).toNat ((gt (a0.2.1.set (Zw (0:Int) a0.2.2.1 a1).toNat ((gt a0.2.1 (Zw (0:Int) a0.2.2.1 a1)).1,r3,(gt a0.2.1 (Zw (0:Int) a0.2.2.1 a1)).2.2.1,(gt a0.2.1 (Zw (0:Int) a0.2.2.1 a1)).2.2.2)) (Zw (0:Int) a0.2.2.1 a1)).1,(gt (a0.2.1.set (Zw (0:Int) a0.2.2.1 a1).toNat ((gt a0.2.1 (Zw (0:Int) a0.2.2.1 a1)).1,r3,(gt a0.2.1 (Zw (0:Int) a0.2.2.1 a1)).2.2.1,(gt a0.2.1 (Zw (0:Int) a0.2.2.1 a1)).2.2.2)) (Zw (0:Int) a0.2.2.1 a1)).2.1,true,(gt (a0.2.1.set (Zw (0:Int) a0.2.2.1 a1).toNat ((gt a0.2.1 (Zw (0:Int) a0.2.2.1 a1)).1,r3,(gt a0.2.1 (Zw (0:Int) a0.2.2.1 a1)).2.2.1,(gt a0.2.1 (Zw (0:Int) a0.2.2.1 a1)).2.2.2)) (Zw (0:Int) a0.2.2.1 a1)).2.2.2)) A2 c_2 (.map (some b3)) a0.2.2.2.1 A3 c_3 (.pointer (some ⟨b4,0,none⟩)),Yc .u32 (Value.int .i64) b3 a0.2.2.1,O3 a0.2.2.2.1 A3 c_3,Z7 b4 a0.2.2.2.2.1 A4 c_4 a0.2.2.2.2.2,Z8 a0.2.2.2.2.1 A4 c_4] _ _:=h6.retell (by simp only [List.length_set,List.length_nil,Yg,Z8,O3,O5,Yb,Yh,Z7] <;> rfl)
 refine Zi [] rfl ?_
 refine J.seq (Zb [6] ?_)
 refine J.ret ?_
 cases H
 exact ⟨_,_,_,Za,⟨_,_,_,_,_,_,_,_,rfl,rfl⟩,Zc h6 [3,1,1,0,0,0,0,0]⟩

def Q25.f (a0:(Int×List (Int)×(Int×Int))×(List (Int×List (Int)×Bool×Int))×(List (Int×Int))×List (Int)×((List (Int×Int×Bool))×Int)) (a1:Int):Option (Int):=(Q23.f a0).bind fun r1=>(if r1=true then (some 1) else ((Q53.f a0.1).bind fun r2=>(if (decide (r2≤(w64 (a1))))=true then (some 4) else (some 0))))
theorem Q25.spec {a0:(Int×List (Int)×(Int×Int))×(List (Int×List (Int)×Bool×Int))×(List (Int×Int))×List (Int)×((List (Int×Int×Bool))×Int)} {a1:Int} {b1:Nat} {b2:Nat} {b3:Nat} {b4:Nat} {A1:Option Addr} {c_1:Nat} {A2:Option Addr} {c_2:Nat} {A3:Option Addr} {c_3:Nat} {A4:Option Addr} {c_4:Nat} {r:Int} (H:Q25.f a0 a1=some r) :
  Spec Tryz.prog 124 [.pointer (some ⟨b1,0,none⟩),.int .u32 a1] [Yh b1 (.pointer (some ⟨b2,0,none⟩)) a0.2.1 A2 c_2 (.map (some b3)) a0.2.2.2.1 A3 c_3 (.pointer (some ⟨b4,0,none⟩)),Yb b2 a0.1.1 a0.1.2.1 A1 c_1 a0.1.2.2.1 a0.1.2.2.2,O5 a0.1.2.1 A1 c_1,Yg a0.2.1 A2 c_2,Yc .u32 (Value.int .i64) b3 a0.2.2.1,O3 a0.2.2.2.1 A3 c_3,Z7 b4 a0.2.2.2.2.1 A4 c_4 a0.2.2.2.2.2,Z8 a0.2.2.2.2.1 A4 c_4] [] (fun v l=>v=.int .i64 r∧l=[Yh b1 (.pointer (some ⟨b2,0,none⟩)) a0.2.1 A2 c_2 (.map (some b3)) a0.2.2.2.1 A3 c_3 (.pointer (some ⟨b4,0,none⟩)),Yb b2 a0.1.1 a0.1.2.1 A1 c_1 a0.1.2.2.1 a0.1.2.2.2,O5 a0.1.2.1 A1 c_1,Yg a0.2.1 A2 c_2,Yc .u32 (Value.int .i64) b3 a0.2.2.1,O3 a0.2.2.2.1 A3 c_3,Z7 b4 a0.2.2.2.2.1 A4 c_4 a0.2.2.2.2.2,Z8 a0.2.2.2.2.1 A4 c_4]):=by
 refine Zo Tryz.func124 fun w0 F0 h0=>?_
 unfold Q25.f at H
 refine J.seq (Zb [0,1] ?_)
 refine J.seq (J.block (J.seq (J.region ?_)))
 refine Zh 1 ?_
 obtain ⟨r1,q1,H⟩:=Zn H
 refine Ze (Zg [0,0,0,0,0,0,0,0] (Q23.spec q1) h0 rfl Zr) ?_
 rintro _ w1 ⟨_,⟨rfl,rfl⟩,h1⟩
 replace h1:=nf h1
 refine Zi [0,1,5] rfl ?_
 refine jIf H (fun c1 H=>?_) fun c1 H=>?_
 ·refine J.seq (Zb [4] ?_)
  refine J.ret ?_
  cases H
  exact ⟨_,_,_,Za,⟨rfl,rfl⟩,Zc h1 [0,0,0,0,0,0,0,0]⟩
 refine J.seq (J.region ?_)
 refine Zh 5 ?_
 refine Zf (Zd 0 h1.wht) ?_
 obtain ⟨r2,q2,H⟩:=Zn H
 refine Ze (Zg [1,1] (Q53.spec q2) h1 rfl Zr) ?_
 rintro _ w2 ⟨_,⟨rfl,rfl⟩,h2⟩
 replace h2:=nf h2
 refine Zi [8] rfl ?_
 refine jIf H (fun c2 H=>?_) fun c2 H=>?_
 ·refine J.seq (Zb [4] ?_)
  refine J.ret ?_
  cases H
  exact ⟨_,_,_,Za,⟨rfl,rfl⟩,Zc h2 [2,0,0,0,0,0,0,0]⟩
 refine J.skip (J.seq (Zb [4] ?_))
 refine J.ret ?_
 cases H
 exact ⟨_,_,_,Za,⟨rfl,rfl⟩,Zc h2 [2,0,0,0,0,0,0,0]⟩

def Q29.f (a0:(List (Int×Int×Bool))×Int):Option (Int):=some a0.2
theorem Q29.spec {a0:(List (Int×Int×Bool))×Int} {b1:Nat} {A1:Option Addr} {c_1:Nat} {r:Int} (H:Q29.f a0=some r) :
  Spec Tryz.prog 211 [.pointer (some ⟨b1,0,none⟩)] [Z7 b1 a0.1 A1 c_1 a0.2,Z8 a0.1 A1 c_1] [] (fun v l=>v=.int .i64 r∧l=[Z7 b1 a0.1 A1 c_1 a0.2,Z8 a0.1 A1 c_1]):=by
 refine Zo Tryz.func211 fun w0 F0 h0=>?_
 unfold Q29.f at H
 refine J.seq (Zb [0] ?_)
 refine J.seq (J.seq (Zb [0,4] ?_))
 refine Z4 ?_
 refine J.skip (J.seq (J.region ?_))
 refine Zh 3 ?_
 refine Zf (Zd 0 h0.wht) ?_
 refine Zi [2] rfl ?_
 refine J.ret ?_
 cases H
 exact ⟨_,_,_,Za,⟨rfl,rfl⟩,Zc h0 [0,0]⟩

def Q32.f (a0:(List (Int×Int×Bool))×Int):Option (Int):=some (w64 ((a0.1.length:Int) - 1))
theorem Q32.spec {a0:(List (Int×Int×Bool))×Int} {b1:Nat} {A1:Option Addr} {c_1:Nat} {r:Int} (H:Q32.f a0=some r) :
  Spec Tryz.prog 175 [.pointer (some ⟨b1,0,none⟩)] [Z7 b1 a0.1 A1 c_1 a0.2,Z8 a0.1 A1 c_1] [] (fun v l=>v=.int .i64 r∧l=[Z7 b1 a0.1 A1 c_1 a0.2,Z8 a0.1 A1 c_1]):=by
 refine Zo Tryz.func175 fun w0 F0 h0=>?_
 unfold Q32.f at H
 refine J.seq (Zb [0] ?_)
 refine J.seq (J.region ?_)
 refine Zh 3 ?_
 refine Zf (Zd 0 h0.wht) ?_
 refine Zi [2] rfl ?_
 refine J.ret ?_
 cases H
 exact ⟨_,_,_,Za,⟨rfl,rfl⟩,Zc h0 [0,0]⟩

def Q28.f (a0:(List (Int×Int×Bool))×Int):Option (Int×Bool):=(Q29.f a0).bind fun r1=>(if (decide (r1=0))=true then (some (0,false)) else ((Q32.f a0).bind fun r2=>(if 0≤r2∧r2<(a0.1.length:Int) then (some ((gt a0.1 r2).1,true)) else none)))
theorem Q28.spec {a0:(List (Int×Int×Bool))×Int} {b1:Nat} {A1:Option Addr} {c_1:Nat} {r:Int×Bool} (H:Q28.f a0=some r) :
  Spec Tryz.prog 173 [.pointer (some ⟨b1,0,none⟩)] [Z7 b1 a0.1 A1 c_1 a0.2,Z8 a0.1 A1 c_1] [] (fun v l=>v=.tuple #[.int .i64 r.1,.bool r.2]∧l=[Z7 b1 a0.1 A1 c_1 a0.2,Z8 a0.1 A1 c_1]):=by
 refine Zo Tryz.func173 fun w0 F0 h0=>?_
 unfold Q28.f at H
 refine J.seq (Zb [0] ?_)
 refine J.seq (J.seq (J.region ?_))
 refine Zh 1 ?_
 obtain ⟨r1,q1,H⟩:=Zn H
 refine Ze (Zg [0,0] (Q29.spec q1) h0 rfl Zr) ?_
 rintro _ w1 ⟨_,⟨rfl,rfl⟩,h1⟩
 replace h1:=nf h1
 refine Zi [0,6] rfl ?_
 refine jIf H (fun c1 H=>?_) fun c1 H=>?_
 ·refine J.seq (Zb [2,3] ?_)
  refine J.ret ?_
  cases H
  exact ⟨_,_,_,Za,⟨rfl,rfl⟩,Zc h1 [0,0]⟩
 refine J.skip (J.seq (Zu h1 ?_))
 have h2:=h1.drew
 refine Zv [0,1,2,4] ?_
 refine Zj 3 rfl (Zd 0 wI) ?_
 obtain ⟨r2,q2,H⟩:=Zn H
 refine Zp 5 rfl (Zg [0,0] (Q32.spec q2) h2 rfl Zr) ?_
 rintro _ w2 ⟨_,⟨rfl,rfl⟩,h3⟩
 replace h3:=nf h3
 refine ⟨⟨[],h3⟩,?_⟩
 obtain ⟨⟨p1,p2⟩,H⟩:=Zs H
 have e1:=Z6 h3.wh (gO 1) p1 p2
 refine Zj 6 rfl (Zl e1 p1 p2) ?_
 refine Zv [7] ?_
 refine Zj 8 rfl (Zm 0 wI (gO 1) p1 p2) ?_
 refine Zv [9,10] ?_
 refine Z0 [2,3] ?_
 refine J.ret ?_
 cases H
 exact ⟨_,_,_,Za,⟨rfl,rfl⟩,Zc h3 [0,0]⟩

def Q57.f (a0:Int×List (Int)×(Int×Int)) (a1:Int) (a2:List (Int)):Option (Int×(Int×List (Int)×(Int×Int))):=(Q53.f a0).bind fun r1=>(if (decide (r1=0))=true then (some (1,a0)) else ((Q53.f a0).bind fun r2=>(if (decide (r2≤(w64 (a1))))=true then (some (4,a0)) else (if 0≤(w64 ((w64 (a1))*a0.1))∧(w64 ((w64 (a1))*a0.1))≤(w64 ((w64 ((w64 (a1))*a0.1))+a0.1))∧(w64 ((w64 ((w64 (a1))*a0.1))+a0.1))≤(a0.2.1.length:Int) then (if (!decide ((a2.length:Int)=a0.1))=true then (some (3,a0)) else (some (0,(a0.1,(patch a0.2.1 (((w64 ((w64 (a1))*a0.1))).toNat) (((a0.2.1.drop ((w64 ((w64 (a1))*a0.1))).toNat).take (((w64 ((w64 ((w64 (a1))*a0.1))+a0.1))).toNat - ((w64 ((w64 (a1))*a0.1))).toNat)).length) a2),(a0.2.2.1,(IntKind.u64.wrap (a0.2.2.2+1))))))) else none))))
theorem Q57.spec {a0:Int×List (Int)×(Int×Int)} {a1:Int} {a2:List (Int)} {A2:Option Addr} {c_2:Nat} {b1:Nat} {A1:Option Addr} {c_1:Nat} {r:Int×(Int×List (Int)×(Int×Int))} (H:Q57.f a0 a1 a2=some r) :
  Spec Tryz.prog 160 [.pointer (some ⟨b1,0,none⟩),.int .u32 a1,.slice A2 a2.length c_2] [Yb b1 a0.1 a0.2.1 A1 c_1 a0.2.2.1 a0.2.2.2,O5 a0.2.1 A1 c_1] [R5 a2 A2 c_2] (fun v l=>∃(A_0:Option Addr) (c_0:Nat),v=.int .i64 r.1∧l=[Yb b1 r.2.1 r.2.2.1 A_0 c_0 r.2.2.2.1 r.2.2.2.2,O5 r.2.2.1 A_0 c_0]):=by
 refine Zo Tryz.func160 fun w0 F0 h0=>?_
 unfold Q57.f at H
 refine J.seq (Zb [0,1,2] ?_)
 refine J.seq (J.region ?_)
 refine Zh 2 ?_
 refine Ys Tryz.func62 ?_
 refine J.seq (Zb [0,1] ?_)
 refine J.seq (J.block (J.seq (J.region ?_)))
 refine Zh 1 ?_
 obtain ⟨r1,q1,H⟩:=Zn H
 refine Ze (Zg [0,0] (Q53.spec q1) h0 rfl Zr) ?_
 rintro _ w1 ⟨_,⟨rfl,rfl⟩,h1⟩
 replace h1:=nf h1
 refine Zi [0,1,7] rfl ?_
 refine jIf H (fun c1 H=>?_) fun c1 H=>?_
 ·refine J.seq (Zb [4,5] ?_)
  refine J.ret (⟨_,Za,?_⟩)
  refine Zi [0,2,7,8] rfl ?_
  refine J.seq (J.block (J.seq (Zb [0,2,7,8,15] ?_)))
  refine Zt ?_
  refine J.seq (Zb [6] ?_)
  refine J.ret ?_
  cases H
  exact ⟨_,_,_,Za,⟨_,_,rfl,rfl⟩,Zc h1 [0,0]⟩
 refine J.seq (J.region ?_)
 refine Zh 3 ?_
 obtain ⟨r2,q2,H⟩:=Zn H
 refine Ze (Zg [0,0] (Q53.spec q2) h1 rfl Zr) ?_
 rintro _ w2 ⟨_,⟨rfl,rfl⟩,h2⟩
 replace h2:=nf h2
 refine Zi [0,1,11] rfl ?_
 refine jIf H (fun c2 H=>?_) fun c2 H=>?_
 ·refine J.seq (Zb [4,5] ?_)
  refine J.ret (⟨_,Za,?_⟩)
  refine Zi [0,2,7,8] rfl ?_
  refine J.seq (J.block (J.seq (Zb [0,2,7,8,15] ?_)))
  refine Zt ?_
  refine J.seq (Zb [6] ?_)
  refine J.ret ?_
  cases H
  exact ⟨_,_,_,Za,⟨_,_,rfl,rfl⟩,Zc h2 [0,0]⟩
 refine J.skip (J.seq (J.region ?_))
 refine Zh 5 ?_
 refine Zf (Zd 0 h2.wht) ?_
 refine Zi [0,6] rfl ?_
 refine J.seq (Zu h2 ?_)
 have h3:=h2.drew
 refine Zv [0,1,2,4,5,6,7,8] ?_
 refine Zj 3 rfl (Zd 0 wI) ?_
 refine Zj 9 rfl (Zd 0 wI) ?_
 refine Zv [10] ?_
 obtain ⟨⟨p1,p2,p3⟩,H⟩:=Zs H
 have e1:=h3.cap (gO 1)
 refine Zj 11 rfl (Zdb ((a0.2.1.drop ((w64 ((w64 (a1))*a0.1))).toNat).take (((w64 ((w64 ((w64 (a1))*a0.1))+a0.1))).toNat - ((w64 ((w64 (a1))*a0.1))).toNat)) (w64 ((w64 (a1))*a0.1)) (w64 ((w64 ((w64 (a1))*a0.1))+a0.1)) e1 p1 p2 p3) ?_
 refine Zv [12,13] ?_
 refine Z0 [4,5] ?_
 refine J.ret (⟨_,Za,?_⟩)
 refine Zi [0,2,7,8] rfl ?_
 refine J.seq (J.block (J.seq (Zb [0,2,7,8,15] ?_)))
 refine Z4 ?_
 refine J.seq (J.region ?_)
 refine Zh 5 ?_
 refine Zf (Zd 0 h3.wht) ?_
 refine Zi [0,2,7,19] rfl ?_
 refine jIf H (fun c3 H=>?_) fun c3 H=>?_
 ·refine J.seq (Zb [6] ?_)
  refine J.ret ?_
  cases H
  exact ⟨_,_,_,Za,⟨_,_,rfl,rfl⟩,Zc h3 [0,0]⟩
 refine J.skip (J.seq (J.region ?_))
 refine Zh 2 ?_
 have e2:(((w64 ((w64 (a1))*a0.1))).toNat)+((a0.2.1.drop ((w64 ((w64 (a1))*a0.1))).toNat).take (((w64 ((w64 ((w64 (a1))*a0.1))+a0.1))).toNat - ((w64 ((w64 (a1))*a0.1))).toNat)).length≤a0.2.1.length:=by first | omega | (simp only [List.length_take,List.length_drop]; omega)
 refine Ze (Zai Y6 (ty:=(.int .u8)) (xs:=a0.2.1) (ys:=a2) rfl 1 rfl h3 rfl (Zk 1) rfl rfl rfl rfl rfl rfl e2) ?_
 rintro _ w3 ⟨rfl,h4⟩
 replace h4:=nf h4
 replace h4:St w0 F0 [O5 (patch a0.2.1 (((w64 ((w64 (a1))*a0.1))).toNat) (((a0.2.1.drop ((w64 ((w64 (a1))*a0.1))).toNat).take (((w64 ((w64 ((w64 (a1))*a0.1))+a0.1))).toNat - ((w64 ((w64 (a1))*a0.1))).toNat)).length) a2) A1 c_1,Yb b1 a0.1 (patch a0.2.1 (((w64 ((w64 (a1))*a0.1))).toNat) (((a0.2.1.drop ((w64 ((w64 (a1))*a0.1))).toNat).take (((w64 ((w64 ((w64 (a1))*a0.1))+a0.1))).toNat - ((w64 ((w64 (a1))*a0.1))).toNat)).length) a2) A1 c_1 a0.2.2.1 a0.2.2.2] _ _:=h4.retell (by simp only [Xk e2,List.length_nil,O5,Yb] <;> rfl)
 refine Zi [0] rfl ?_
 refine J.seq (J.region ?_)
 refine Zh 4 ?_
 refine Zf (Zd 1 h4.wht) ?_
 refine Zh 4 ?_
 refine Ze (Z3 1 h4) ?_
 intro _ w4 h5
 replace h5:=nf h5
 refine Zi [] rfl ?_
 refine J.seq (Zb [6] ?_)
 refine J.ret ?_
 cases H
 exact ⟨_,_,_,Za,⟨_,_,rfl,rfl⟩,Zc h5 [0,0]⟩

def Q33.f (a0:(List (Int×Int×Bool))×Int) (a1:Int):Option (Int):=if (decide ((a0.1.length:Int)=0))=true then (some 1) else (if (decide (a1<0))=true then (some 4) else ((Q32.f a0).bind fun r1=>(if (decide (r1≤a1))=true then (some 4) else (some 0))))
theorem Q33.spec {a0:(List (Int×Int×Bool))×Int} {a1:Int} {b1:Nat} {A1:Option Addr} {c_1:Nat} {r:Int} (H:Q33.f a0 a1=some r) :
  Spec Tryz.prog 171 [.pointer (some ⟨b1,0,none⟩),.int .i64 a1] [Z7 b1 a0.1 A1 c_1 a0.2,Z8 a0.1 A1 c_1] [] (fun v l=>v=.int .i64 r∧l=[Z7 b1 a0.1 A1 c_1 a0.2,Z8 a0.1 A1 c_1]):=by
 refine Zo Tryz.func171 fun w0 F0 h0=>?_
 unfold Q33.f at H
 refine J.seq (Zb [0,1] ?_)
 refine J.seq (J.block (J.seq (J.region ?_)))
 refine Zh 6 ?_
 refine Zf (Zd 0 h0.wht) ?_
 refine Zi [0,1,5] rfl ?_
 refine jIf H (fun c1 H=>?_) fun c1 H=>?_
 ·refine J.seq (Zb [4] ?_)
  refine J.ret ?_
  cases H
  exact ⟨_,_,_,Za,⟨rfl,rfl⟩,Zc h0 [0,0]⟩
 refine J.seq (J.region ?_)
 refine Zh 3 ?_
 refine Yj 19 H (fun c2 H=>?_) fun c2 H=>?_
 ·refine Zi [16] rfl ?_
  refine Zt ?_
  refine J.seq (Zb [4] ?_)
  refine J.ret ?_
  cases H
  exact ⟨_,_,_,Za,⟨rfl,rfl⟩,Zc h0 [0,0]⟩
 refine Zh 2 ?_
 obtain ⟨r1,q1,H⟩:=Zn H
 refine Ze (Zg [0,0] (Q32.spec q1) h0 rfl Zr) ?_
 rintro _ w1 ⟨_,⟨rfl,rfl⟩,h1⟩
 replace h1:=nf h1
 refine Zi [16] rfl ?_
 refine jIf H (fun c3 H=>?_) fun c3 H=>?_
 ·refine J.seq (Zb [4] ?_)
  refine J.ret ?_
  cases H
  exact ⟨_,_,_,Za,⟨rfl,rfl⟩,Zc h1 [0,0]⟩
 refine J.skip (J.seq (Zb [4] ?_))
 refine J.ret ?_
 cases H
 exact ⟨_,_,_,Za,⟨rfl,rfl⟩,Zc h1 [0,0]⟩

def Q30.f (a0:(List (Int×Int×Bool))×Int) (a1:Int):Option (((List (Int×Int×Bool))×Int)):=if 0≤a1∧a1<(a0.1.length:Int) then (if (!((gt a0.1 a1).2.2))=true then (some a0) else (if 0≤((gt a0.1 a1).1)∧((gt a0.1 a1).1)<(a0.1.length:Int) then (if 0≤((gt a0.1 a1).2.1)∧((gt a0.1 a1).2.1)<((a0.1.set ((gt a0.1 a1).1).toNat ((gt a0.1 ((gt a0.1 a1).1)).1,(gt a0.1 a1).2.1,(gt a0.1 ((gt a0.1 a1).1)).2.2)).length:Int) then (if 0≤a1∧a1<(((a0.1.set ((gt a0.1 a1).1).toNat ((gt a0.1 ((gt a0.1 a1).1)).1,(gt a0.1 a1).2.1,(gt a0.1 ((gt a0.1 a1).1)).2.2)).set ((gt a0.1 a1).2.1).toNat ((gt a0.1 a1).1,(gt (a0.1.set ((gt a0.1 a1).1).toNat ((gt a0.1 ((gt a0.1 a1).1)).1,(gt a0.1 a1).2.1,(gt a0.1 ((gt a0.1 a1).1)).2.2)) ((gt a0.1 a1).2.1)).2.1,(gt (a0.1.set ((gt a0.1 a1).1).toNat ((gt a0.1 ((gt a0.1 a1).1)).1,(gt a0.1 a1).2.1,(gt a0.1 ((gt a0.1 a1).1)).2.2)) ((gt a0.1 a1).2.1)).2.2)).length:Int) then (some ((((a0.1.set ((gt a0.1 a1).1).toNat ((gt a0.1 ((gt a0.1 a1).1)).1,(gt a0.1 a1).2.1,(gt a0.1 ((gt a0.1 a1).1)).2.2)).set ((gt a0.1 a1).2.1).toNat ((gt a0.1 a1).1,(gt (a0.1.set ((gt a0.1 a1).1).toNat ((gt a0.1 ((gt a0.1 a1).1)).1,(gt a0.1 a1).2.1,(gt a0.1 ((gt a0.1 a1).1)).2.2)) ((gt a0.1 a1).2.1)).2.1,(gt (a0.1.set ((gt a0.1 a1).1).toNat ((gt a0.1 ((gt a0.1 a1).1)).1,(gt a0.1 a1).2.1,(gt a0.1 ((gt a0.1 a1).1)).2.2)) ((gt a0.1 a1).2.1)).2.2)).set a1.toNat (0,0,false)),(w64 (a0.2 - 1)))) else none) else none) else none)) else none
theorem Q30.spec {a0:(List (Int×Int×Bool))×Int} {a1:Int} {b1:Nat} {A1:Option Addr} {c_1:Nat} {r:((List (Int×Int×Bool))×Int)} (H:Q30.f a0 a1=some r) :
  Spec Tryz.prog 172 [.pointer (some ⟨b1,0,none⟩),.int .i64 a1] [Z7 b1 a0.1 A1 c_1 a0.2,Z8 a0.1 A1 c_1] [] (fun v l=>∃(A_0:Option Addr) (c_0:Nat),v=.tuple #[]∧l=[Z7 b1 r.1 A_0 c_0 r.2,Z8 r.1 A_0 c_0]):=by
 refine Zo Tryz.func172 fun w0 F0 h0=>?_
 unfold Q30.f at H
 refine J.seq (J.region ?_)
 refine Zh 3 ?_
 refine Zf (Zd 0 h0.wht) ?_
 refine Zh 1 ?_
 obtain ⟨⟨p1,p2⟩,H⟩:=Zs H
 have e1:=Z6 h0.wh (gO 1) p1 p2
 refine Zf (Zl e1 p1 p2) ?_
 refine Zf (Zm 0 h0.wht (gO 1) p1 p2) ?_
 refine Ze (Xf h0) ?_
 rintro _ w1 ⟨b2,rfl,h1⟩
 replace h1:=nf h1
 refine Ze (Z3 0 h1) ?_
 intro _ w2 h2
 replace h2:=nf h2
 refine Zi [0,1,4] rfl ?_
 refine J.seq (J.seq (J.region ?_))
 refine Zh 1 ?_
 refine Zf (Zd 0 h2.wht) ?_
 refine Zi [0,1,4,14] rfl ?_
 refine jIf H (fun c1 H=>?_) fun c1 H=>?_
 ·refine J.ret ?_
  cases H
  exact ⟨_,_,_,Za,⟨_,_,rfl,rfl⟩,Zc h2 [1,1]⟩
 refine J.skip (J.seq (Zu (Zc h2 [0,0]) ?_))
 have h3:=h2.drew
 refine Zv [0,1,2,4,6] ?_
 refine Zj 3 rfl (Zd 1 wI) ?_
 refine Zj 5 rfl (Zd 0 wI) ?_
 refine Zj 7 rfl (Zd 0 wI) ?_
 obtain ⟨⟨p3,p4⟩,H⟩:=Zs H
 refine Zj 8 rfl (Zl e1 p3 p4) ?_
 refine Zv [9] ?_
 refine Zp 10 rfl (Zq 1 (.pair (.int .i64) (.pair (.int .i64) .bool)) ((gt a0.1 a1).1) ((gt a0.1 ((gt a0.1 a1).1)).1,(gt a0.1 a1).2.1,(gt a0.1 ((gt a0.1 a1).1)).2.2) 2 h3 rfl p3 p4) ?_
 intro _ w3 h4
 replace h4:=nf h4
 refine ⟨⟨[_],h4⟩,?_⟩
 replace h4:St w0 F0 [Z8 (a0.1.set ((gt a0.1 a1).1).toNat ((gt a0.1 ((gt a0.1 a1).1)).1,(gt a0.1 a1).2.1,(gt a0.1 ((gt a0.1 a1).1)).2.2)) A1 c_1,Zb4 b2 ((gt a0.1 a1).1) ((gt a0.1 a1).2.1) ((gt a0.1 a1).2.2),Z7 b1 (a0.1.set ((gt a0.1 a1).1).toNat ((gt a0.1 ((gt a0.1 a1).1)).1,(gt a0.1 a1).2.1,(gt a0.1 ((gt a0.1 a1).1)).2.2)) A1 c_1 a0.2] _ _:=h4.retell (by simp only [List.length_set,List.length_nil,Z8,Zb4,Z7] <;> rfl)
 refine Z0 [0,1,4] ?_
 refine J.seq (Zu (Zc h4 [1,1]) ?_)
 have h5:=h4.drew
 refine Zv [0,1,2,4,6] ?_
 refine Zj 3 rfl (Zd 1 wI) ?_
 refine Zj 5 rfl (Zd 0 wI) ?_
 refine Zj 7 rfl (Zd 0 wI) ?_
 obtain ⟨⟨p5,p6⟩,H⟩:=Zs H
 refine Zj 8 rfl (Zl e1 p5 p6) ?_
 refine Zv [9] ?_
 refine Zp 10 rfl (Zq 0 (.pair (.int .i64) (.pair (.int .i64) .bool)) ((gt a0.1 a1).2.1) ((gt a0.1 a1).1,(gt (a0.1.set ((gt a0.1 a1).1).toNat ((gt a0.1 ((gt a0.1 a1).1)).1,(gt a0.1 a1).2.1,(gt a0.1 ((gt a0.1 a1).1)).2.2)) ((gt a0.1 a1).2.1)).2.1,(gt (a0.1.set ((gt a0.1 a1).1).toNat ((gt a0.1 ((gt a0.1 a1).1)).1,(gt a0.1 a1).2.1,(gt a0.1 ((gt a0.1 a1).1)).2.2)) ((gt a0.1 a1).2.1)).2.2) 0 h5 rfl p5 p6) ?_
 intro _ w4 h6
 replace h6:=nf h6
 refine ⟨⟨[_],h6⟩,?_⟩
 replace h6:St w0 F0 [Z8 ((a0.1.set ((gt a0.1 a1).1).toNat ((gt a0.1 ((gt a0.1 a1).1)).1,(gt a0.1 a1).2.1,(gt a0.1 ((gt a0.1 a1).1)).2.2)).set ((gt a0.1 a1).2.1).toNat ((gt a0.1 a1).1,(gt (a0.1.set ((gt a0.1 a1).1).toNat ((gt a0.1 ((gt a0.1 a1).1)).1,(gt a0.1 a1).2.1,(gt a0.1 ((gt a0.1 a1).1)).2.2)) ((gt a0.1 a1).2.1)).2.1,(gt (a0.1.set ((gt a0.1 a1).1).toNat ((gt a0.1 ((gt a0.1 a1).1)).1,(gt a0.1 a1).2.1,(gt a0.1 ((gt a0.1 a1).1)).2.2)) ((gt a0.1 a1).2.1)).2.2)) A1 c_1,Zb4 b2 ((gt a0.1 a1).1) ((gt a0.1 a1).2.1) ((gt a0.1 a1).2.2),Z7 b1 ((a0.1.set ((gt a0.1 a1).1).toNat ((gt a0.1 ((gt a0.1 a1).1)).1,(gt a0.1 a1).2.1,(gt a0.1 ((gt a0.1 a1).1)).2.2)).set ((gt a0.1 a1).2.1).toNat ((gt a0.1 a1).1,(gt (a0.1.set ((gt a0.1 a1).1).toNat ((gt a0.1 ((gt a0.1 a1).1)).1,(gt a0.1 a1).2.1,(gt a0.1 ((gt a0.1 a1).1)).2.2)) ((gt a0.1 a1).2.1)).2.1,(gt (a0.1.set ((gt a0.1 a1).1).toNat ((gt a0.1 ((gt a0.1 a1).1)).1,(gt a0.1 a1).2.1,(gt a0.1 ((gt a0.1 a1).1)).2.2)) ((gt a0.1 a1).2.1)).2.2)) A1 c_1 a0.2] _ _:=h6.retell (by simp only [List.length_set,List.length_nil,Z8,Zb4,Z7] <;> rfl)
 refine Z0 [0,1] ?_
 refine J.seq (J.region ?_)
 refine Zh 3 ?_
 refine Zf (Zd 2 h6.wht) ?_
 refine Zh 2 ?_
 obtain ⟨⟨p7,p8⟩,H⟩:=Zs H
 refine Zf (Zl e1 p7 p8) ?_
 refine Ze (Zq 0 (.pair (.int .i64) (.pair (.int .i64) .bool)) a1 (0,0,false) 0 h6 rfl p7 p8) ?_
 intro _ w5 h7
 replace h7:=nf h7
 replace h7:St w0 F0 [Z8 (((a0.1.set ((gt a0.1 a1).1).toNat ((gt a0.1 ((gt a0.1 a1).1)).1,(gt a0.1 a1).2.1,(gt a0.1 ((gt a0.1 a1).1)).2.2)).set ((gt a0.1 a1).2.1).toNat ((gt a0.1 a1).1,(gt (a0.1.set ((gt a0.1 a1).1).toNat ((gt a0.1 ((gt a0.1 a1).1)).1,(gt a0.1 a1).2.1,(gt a0.1 ((gt a0.1 a1).1)).2.2)) ((gt a0.1 a1).2.1)).2.1,(gt (a0.1.set ((gt a0.1 a1).1).toNat ((gt a0.1 ((gt a0.1 a1).1)).1,(gt a0.1 a1).2.1,(gt a0.1 ((gt a0.1 a1).1)).2.2)) ((gt a0.1 a1).2.1)).2.2)).set a1.toNat (0,0,false)) A1 c_1,Zb4 b2 ((gt a0.1 a1).1) ((gt a0.1 a1).2.1) ((gt a0.1 a1).2.2),Z7 b1 (((a0.1.set ((gt a0.1 a1).1).toNat ((gt a0.1 ((gt a0.1 a1).1)).1,(gt a0.1 a1).2.1,(gt a0.1 ((gt a0.1 a1).1)).2.2)).set ((gt a0.1 a1).2.1).toNat ((gt a0.1 a1).1,(gt (a0.1.set ((gt a0.1 a1).1).toNat ((gt a0.1 ((gt a0.1 a1).1)).1,(gt a0.1 a1).2.1,(gt a0.1 ((gt a0.1 a1).1)).2.2)) ((gt a0.1 a1).2.1)).2.1,(gt (a0.1.set ((gt a0.1 a1).1).toNat ((gt a0.1 ((gt a0.1 a1).1)).1,(gt a0.1 a1).2.1,(gt a0.1 ((gt a0.1 a1).1)).2.2)) ((gt a0.1 a1).2.1)).2.2)).set a1.toNat (0,0,false)) A1 c_1 a0.2] _ _:=h7.retell (by simp only [List.length_set,List.length_nil,Z8,Zb4,Z7] <;> rfl)
 refine Zi [0] rfl ?_
 refine J.region (Zh 3 ?_)
 refine Zf (Zd 2 h7.wht) ?_
 refine Zh 3 ?_
 refine Ze (Z3 2 h7) ?_
 intro _ w6 h8
 replace h8:=nf h8
 refine Zi [] rfl ?_
 cases H
 exact ⟨_,_,_,Za,⟨_,_,rfl,rfl⟩,Zc h8 [0,0]⟩

def Q26.f (a0:(List (Int×Int×Bool))×Int) (a1:Int):Option (Int×((List (Int×Int×Bool))×Int)):=(Q33.f a0 a1).bind fun r1=>(if (!decide (r1=0))=true then (some (r1,a0)) else (if 0≤a1∧a1<(a0.1.length:Int) then (if (!((gt a0.1 a1).2.2))=true then (some (9,a0)) else ((Q30.f a0 a1).bind fun r2=>(some (0,r2)))) else none))
theorem Q26.spec {a0:(List (Int×Int×Bool))×Int} {a1:Int} {b1:Nat} {A1:Option Addr} {c_1:Nat} {r:Int×((List (Int×Int×Bool))×Int)} (H:Q26.f a0 a1=some r) :
  Spec Tryz.prog 125 [.pointer (some ⟨b1,0,none⟩),.int .i64 a1] [Z7 b1 a0.1 A1 c_1 a0.2,Z8 a0.1 A1 c_1] [] (fun v l=>∃(A_0:Option Addr) (c_0:Nat),v=.int .i64 r.1∧l=[Z7 b1 r.2.1 A_0 c_0 r.2.2,Z8 r.2.1 A_0 c_0]):=by
 refine Zo Tryz.func125 fun w0 F0 h0=>?_
 unfold Q26.f at H
 refine J.seq (Zb [0,1] ?_)
 refine J.seq (J.seq (J.region ?_))
 refine Zh 2 ?_
 obtain ⟨r1,q1,H⟩:=Zn H
 refine Ze (Zg [0,0] (Q33.spec q1) h0 rfl Zr) ?_
 rintro _ w1 ⟨_,⟨rfl,rfl⟩,h1⟩
 replace h1:=nf h1
 refine Zi [0,1,5] rfl ?_
 refine J.seq (Zb [0,1,5,10] ?_)
 refine jIf H (fun c1 H=>?_) fun c1 H=>?_
 ·refine J.seq (Zb [4] ?_)
  refine J.ret ?_
  cases H
  exact ⟨_,_,_,Za,⟨_,_,rfl,rfl⟩,Zc h1 [0,0]⟩
 refine J.skip (J.seq (J.seq (J.region ?_)))
 refine Zh 3 ?_
 refine Zf (Zd 0 h1.wht) ?_
 refine Zh 1 ?_
 obtain ⟨⟨p1,p2⟩,H⟩:=Zs H
 have e1:=Z6 h1.wh (gO 1) p1 p2
 refine Zf (Zl e1 p1 p2) ?_
 refine Zh 1 ?_
 refine Zf (Zm 2 h1.wht (gO 1) p1 p2) ?_
 refine Zi [0,1,20] rfl ?_
 refine jIf H (fun c2 H=>?_) fun c2 H=>?_
 ·refine J.seq (Zb [4] ?_)
  refine J.ret ?_
  cases H
  exact ⟨_,_,_,Za,⟨_,_,rfl,rfl⟩,Zc h1 [0,0]⟩
 refine J.skip (J.seq (J.region ?_))
 refine Zh 2 ?_
 obtain ⟨r2,q2,H⟩:=Zn H
 refine Ze (Zg [0,0] (Q30.spec q2) h1 rfl Zr) ?_
 rintro _ w2 ⟨_,⟨A2,c_2,rfl,rfl⟩,h2⟩
 replace h2:=nf h2
 refine Zi [] rfl ?_
 refine J.seq (Zb [4] ?_)
 refine J.ret ?_
 cases H
 exact ⟨_,_,_,Za,⟨_,_,rfl,rfl⟩,Zc h2 [0,0]⟩

def Q22.f (a0:(Int×List (Int)×(Int×Int))×(List (Int×List (Int)×Bool×Int))×(List (Int×Int))×List (Int)×((List (Int×Int×Bool))×Int)) (a1:Int):Option (((Int×List (Int)×(Int×Int))×(List (Int×List (Int)×Bool×Int))×(List (Int×Int))×List (Int)×((List (Int×Int×Bool))×Int))):=if 0≤a1∧a1<(a0.2.1.length:Int) then ((Q26.f a0.2.2.2.2 a1).bind fun r1=>(if (a0.2.2.2.1.length+([a1]:List (Int)).length)*8≤140737488355328 then (some (a0.1,(a0.2.1.set a1.toNat (0,([]:List (Int)),false,0)),(Xs ((gt a0.2.1 a1).1) a0.2.2.1),(a0.2.2.2.1 ++ ([a1]:List (Int))),r1.2)) else none)) else none
theorem Q22.spec {a0:(Int×List (Int)×(Int×Int))×(List (Int×List (Int)×Bool×Int))×(List (Int×Int))×List (Int)×((List (Int×Int×Bool))×Int)} {a1:Int} {b1:Nat} {b2:Nat} {b3:Nat} {b4:Nat} {A1:Option Addr} {c_1:Nat} {A2:Option Addr} {c_2:Nat} {A3:Option Addr} {c_3:Nat} {A4:Option Addr} {c_4:Nat} {r:((Int×List (Int)×(Int×Int))×(List (Int×List (Int)×Bool×Int))×(List (Int×Int))×List (Int)×((List (Int×Int×Bool))×Int))} (H:Q22.f a0 a1=some r) :
  Spec Tryz.prog 142 [.pointer (some ⟨b1,0,none⟩),.int .i64 a1] [Yh b1 (.pointer (some ⟨b2,0,none⟩)) a0.2.1 A2 c_2 (.map (some b3)) a0.2.2.2.1 A3 c_3 (.pointer (some ⟨b4,0,none⟩)),Yb b2 a0.1.1 a0.1.2.1 A1 c_1 a0.1.2.2.1 a0.1.2.2.2,O5 a0.1.2.1 A1 c_1,Yg a0.2.1 A2 c_2,Yc .u32 (Value.int .i64) b3 a0.2.2.1,O3 a0.2.2.2.1 A3 c_3,Z7 b4 a0.2.2.2.2.1 A4 c_4 a0.2.2.2.2.2,Z8 a0.2.2.2.2.1 A4 c_4] [] (fun v l=>∃(A_0:Option Addr) (c_0:Nat) (A_1:Option Addr) (c_1:Nat) (A_2:Option Addr) (c_2:Nat) (A_3:Option Addr) (c_3:Nat),v=.tuple #[]∧l=[Yh b1 (.pointer (some ⟨b2,0,none⟩)) r.2.1 A_1 c_1 (.map (some b3)) r.2.2.2.1 A_2 c_2 (.pointer (some ⟨b4,0,none⟩)),Yb b2 r.1.1 r.1.2.1 A_0 c_0 r.1.2.2.1 r.1.2.2.2,O5 r.1.2.1 A_0 c_0,Yg r.2.1 A_1 c_1,Yc .u32 (Value.int .i64) b3 r.2.2.1,O3 r.2.2.2.1 A_2 c_2,Z7 b4 r.2.2.2.2.1 A_3 c_3 r.2.2.2.2.2,Z8 r.2.2.2.2.1 A_3 c_3]):=by
 refine Zo Tryz.func142 fun w0 F0 h0=>?_
 unfold Q22.f at H
 refine J.seq (Zu (Zc h0 [0,0,0,0,1,1,1]) ?_)
 have h1:=h0.drew
 refine Zv [0,1,2,4,5,6,8] ?_
 refine Zj 3 rfl (Zd 0 wI) ?_
 refine Zj 7 rfl (Zd 0 wI) ?_
 obtain ⟨⟨p1,p2⟩,H⟩:=Zs H
 have e1:=Z6 h1.wh (gO 3) p1 p2
 refine Zj 9 rfl (Zl e1 p1 p2) ?_
 refine Zv [10] ?_
 refine Zj 11 rfl (Yq 0 wI (gO 3) p1 p2) ?_
 refine Zp 12 rfl (Zio Y6 (ix:=((gt a0.2.1 a1).1)) 4 rfl h1 rfl rfl rfl rfl rfl rfl rfl) ?_
 intro _ w1 h2
 replace h2:=nf h2
 refine ⟨⟨[_],h2⟩,?_⟩
 refine Z0 [0,1] ?_
 refine J.seq (J.region ?_)
 refine Zh 3 ?_
 refine Zf (Zd 1 h2.wht) ?_
 refine Zh 1 ?_
 obtain ⟨r1,q1,H⟩:=Zn H
 refine Ze (Zg [6,6] (Q26.spec q1) h2 rfl Zr) ?_
 rintro _ w2 ⟨_,⟨A5,c_5,rfl,rfl⟩,h3⟩
 replace h3:=nf h3
 refine Zi [0,1] rfl ?_
 refine J.seq (J.region ?_)
 refine Zh 3 ?_
 refine Zf (Zd 3 h3.wht) ?_
 refine Zh 2 ?_
 refine Zf (Zl e1 p1 p2) ?_
 have h4:=h3.addNil 5 (.int .u8)
 have h5:=(h4.only [7,0,0,0,0,0,0,0,0] rfl).both
 refine Ze (Wq 0 (.pair (.int .u32) (.pair (.slice 5 (.int .u8)) (.pair .bool (.int .i64)))) a1 (0,([]:List (Int)),false,0) h5 p1 p2 Zb3) ?_
 intro _ w3 h6
 replace h6:=nf h6
 replace h6:St w0 F0 [Yg (a0.2.1.set a1.toNat (0,([]:List (Int)),false,0)) A2 c_2,Z7 b4 r1.2.1 A5 c_5 r1.2.2,Z8 r1.2.1 A5 c_5,Yc .u32 (Value.int .i64) b3 (Xs ((gt a0.2.1 a1).1) a0.2.2.1),Yh b1 (.pointer (some ⟨b2,0,none⟩)) (a0.2.1.set a1.toNat (0,([]:List (Int)),false,0)) A2 c_2 (.map (some b3)) a0.2.2.2.1 A3 c_3 (.pointer (some ⟨b4,0,none⟩)),Yb b2 a0.1.1 a0.1.2.1 A1 c_1 a0.1.2.2.1 a0.1.2.2.2,O5 a0.1.2.1 A1 c_1,O3 a0.2.2.2.1 A3 c_3] _ _:=h6.retell (by simp only [List.length_set,List.length_nil,Yg,Z8,O3,O5,Yb,Yh,Z7] <;> rfl)
 refine Zi [0,1] rfl ?_
 refine J.region (Zh 4 ?_)
 refine Zf (Zd 4 h6.wht) ?_
 refine Zh 1 ?_
 refine Ze (Xg (.int .i64) ([a1]:List (Int)) h6) ?_
 rintro _ w4 ⟨b5,rfl,h7⟩
 replace h7:=nf h7
 obtain ⟨p3,H⟩:=Zs H
 refine Ze (Yx 8 h7 (gO 0) p3) ?_
 rintro _ w5 ⟨A6,c_6,rfl,h8⟩
 replace h8:=nf h8
 refine Zh 2 ?_
 refine Ze (Z3 6 h8) ?_
 intro _ w6 h9
 replace h9:=nf h9
 refine Zi [] rfl ?_
 cases H
 exact ⟨_,_,_,Za,⟨_,_,_,_,_,_,_,_,rfl,rfl⟩,Zc h9 [0,6,6,2,4,0,1,1]⟩

def Q24.f (a0:(Int×List (Int)×(Int×Int))×(List (Int×List (Int)×Bool×Int))×(List (Int×Int))×List (Int)×((List (Int×Int×Bool))×Int)):Option (Int×Bool×((Int×List (Int)×(Int×Int))×(List (Int×List (Int)×Bool×Int))×(List (Int×Int))×List (Int)×((List (Int×Int×Bool))×Int))):=if (decide ((a0.2.2.2.1.length:Int)=0))=true then ((Q28.f a0.2.2.2.2).bind fun r1=>(if (!r1.2)=true then (some (0,false,a0)) else (if 0≤r1.1∧r1.1<(a0.2.1.length:Int) then (if (gt a0.2.1 r1.1).2.2.1=true then ((Q57.f a0.1 ((gt a0.2.1 r1.1).1) ((gt a0.2.1 r1.1).2.1)).bind fun r2=>((Q22.f (r2.2,(a0.2.1.set r1.1.toNat ((gt a0.2.1 r1.1).1,(gt a0.2.1 r1.1).2.1,false,(gt a0.2.1 r1.1).2.2.2)),a0.2.2.1,a0.2.2.2.1,a0.2.2.2.2) r1.1).bind fun r3=>(if 0≤(w64 ((r3.2.2.2.1.length:Int) - 1))∧(w64 ((r3.2.2.2.1.length:Int) - 1))<(r3.2.2.2.1.length:Int) then (if (0:Int)≤(w64 ((r3.2.2.2.1.length:Int) - 1))∧(w64 ((r3.2.2.2.1.length:Int) - 1))≤(r3.2.2.2.1.length:Int) then (some ((gt r3.2.2.2.1 (w64 ((r3.2.2.2.1.length:Int) - 1))),true,(r3.1,r3.2.1,r3.2.2.1,(r3.2.2.2.1.take ((w64 ((r3.2.2.2.1.length:Int) - 1))).toNat),r3.2.2.2.2))) else none) else none))) else ((Q22.f a0 r1.1).bind fun r4=>(if 0≤(w64 ((r4.2.2.2.1.length:Int) - 1))∧(w64 ((r4.2.2.2.1.length:Int) - 1))<(r4.2.2.2.1.length:Int) then (if (0:Int)≤(w64 ((r4.2.2.2.1.length:Int) - 1))∧(w64 ((r4.2.2.2.1.length:Int) - 1))≤(r4.2.2.2.1.length:Int) then (some ((gt r4.2.2.2.1 (w64 ((r4.2.2.2.1.length:Int) - 1))),true,(r4.1,r4.2.1,r4.2.2.1,(r4.2.2.2.1.take ((w64 ((r4.2.2.2.1.length:Int) - 1))).toNat),r4.2.2.2.2))) else none) else none))) else none))) else (if 0≤(w64 ((a0.2.2.2.1.length:Int) - 1))∧(w64 ((a0.2.2.2.1.length:Int) - 1))<(a0.2.2.2.1.length:Int) then (if (0:Int)≤(w64 ((a0.2.2.2.1.length:Int) - 1))∧(w64 ((a0.2.2.2.1.length:Int) - 1))≤(a0.2.2.2.1.length:Int) then (some ((gt a0.2.2.2.1 (w64 ((a0.2.2.2.1.length:Int) - 1))),true,(a0.1,a0.2.1,a0.2.2.1,(a0.2.2.2.1.take ((w64 ((a0.2.2.2.1.length:Int) - 1))).toNat),a0.2.2.2.2))) else none) else none)
theorem Q24.spec {a0:(Int×List (Int)×(Int×Int))×(List (Int×List (Int)×Bool×Int))×(List (Int×Int))×List (Int)×((List (Int×Int×Bool))×Int)} {b1:Nat} {b2:Nat} {b3:Nat} {b4:Nat} {A1:Option Addr} {c_1:Nat} {A2:Option Addr} {c_2:Nat} {A3:Option Addr} {c_3:Nat} {A4:Option Addr} {c_4:Nat} {r:Int×Bool×((Int×List (Int)×(Int×Int))×(List (Int×List (Int)×Bool×Int))×(List (Int×Int))×List (Int)×((List (Int×Int×Bool))×Int))} (H:Q24.f a0=some r) :
  Spec Tryz.prog 126 [.pointer (some ⟨b1,0,none⟩)] [Yh b1 (.pointer (some ⟨b2,0,none⟩)) a0.2.1 A2 c_2 (.map (some b3)) a0.2.2.2.1 A3 c_3 (.pointer (some ⟨b4,0,none⟩)),Yb b2 a0.1.1 a0.1.2.1 A1 c_1 a0.1.2.2.1 a0.1.2.2.2,O5 a0.1.2.1 A1 c_1,Yg a0.2.1 A2 c_2,Yc .u32 (Value.int .i64) b3 a0.2.2.1,O3 a0.2.2.2.1 A3 c_3,Z7 b4 a0.2.2.2.2.1 A4 c_4 a0.2.2.2.2.2,Z8 a0.2.2.2.2.1 A4 c_4] [] (fun v l=>∃(A_0:Option Addr) (c_0:Nat) (A_1:Option Addr) (c_1:Nat) (A_2:Option Addr) (c_2:Nat) (A_3:Option Addr) (c_3:Nat),v=.tuple #[.int .i64 r.1,.bool r.2.1]∧l=[Yh b1 (.pointer (some ⟨b2,0,none⟩)) r.2.2.2.1 A_1 c_1 (.map (some b3)) r.2.2.2.2.2.1 A_2 c_2 (.pointer (some ⟨b4,0,none⟩)),Yb b2 r.2.2.1.1 r.2.2.1.2.1 A_0 c_0 r.2.2.1.2.2.1 r.2.2.1.2.2.2,O5 r.2.2.1.2.1 A_0 c_0,Yg r.2.2.2.1 A_1 c_1,Yc .u32 (Value.int .i64) b3 r.2.2.2.2.1,O3 r.2.2.2.2.2.1 A_2 c_2,Z7 b4 r.2.2.2.2.2.2.1 A_3 c_3 r.2.2.2.2.2.2.2,Z8 r.2.2.2.2.2.2.1 A_3 c_3]):=by
 refine Zo Tryz.func126 fun w0 F0 h0=>?_
 unfold Q24.f at H
 refine J.seq (Zb [0] ?_)
 refine J.seq (J.seq (J.region ?_))
 refine Zh 3 ?_
 refine Zf (Zd 0 h0.wht) ?_
 refine Zi [0,13] rfl ?_
 refine jIf H (fun c1 H=>?_) fun c1 H=>?_
 ·refine J.seq (J.region ?_)
  refine Zh 3 ?_
  refine Zf (Zd 0 h0.wht) ?_
  obtain ⟨r1,q1,H⟩:=Zn H
  refine Ze (Zg [6,6] (Q28.spec q1) h0 rfl Zr) ?_
  rintro _ w1 ⟨_,⟨rfl,rfl⟩,h1⟩
  replace h1:=nf h1
  refine Zi [0,4,5] rfl ?_
  refine J.seq (J.seq (Zb [0,4,23] ?_))
  refine jIf H (fun c2 H=>?_) fun c2 H=>?_
  ·refine J.seq (Zb [2,3] ?_)
   refine J.ret ?_
   cases H
   exact ⟨_,_,_,Za,⟨_,_,_,_,_,_,_,_,rfl,rfl⟩,Zc h1 [2,2,2,2,2,2,0,0]⟩
  refine J.skip (J.seq (J.region ?_))
  refine Zh 4 ?_
  refine Zf (Zd 2 h1.wht) ?_
  refine Zh 1 ?_
  obtain ⟨⟨p1,p2⟩,H⟩:=Zs H
  have e1:=Z6 h1.wh (gO 5) p1 p2
  refine Zf (Zl e1 p1 p2) ?_
  refine Ys Tryz.func110 ?_
  refine J.seq (J.region ?_)
  refine Zh 3 ?_
  refine Zf (Yq 2 h1.wht (gO 5) p1 p2) ?_
  refine Zi [0,1,7] rfl ?_
  refine jIf H (fun c3 H=>?_) fun c3 H=>?_
  ·refine J.seq ?_
   obtain ⟨A5,c_5,h2⟩:=h1.openI 5 rfl p1 p2
   refine Zu (Zc h2 [0,0,0,0,2,2]) ?_
   have h3:=h2.drew
   refine Zv [0,1,2,4,5,6,8,9,10] ?_
   refine Zj 3 rfl (Zd 3 wI) ?_
   refine Zj 7 rfl (Yq 0 wI (W8 0 Zfz) p1 p2) ?_
   refine Zj 11 rfl (Uv wI (Zk 0)) ?_
   obtain ⟨r2,q2,H⟩:=Zn H
   refine Zp 12 rfl (Zg [4,4] (Q57.spec q2) h3 rfl (Zy (W8 0 Zce) Zr)) ?_
   rintro _ w2 ⟨_,⟨A6,c_6,rfl,rfl⟩,h4⟩
   replace h4:=nf h4
   refine ⟨⟨[_,_],h4⟩,?_⟩
   refine Z0 [1] ?_
   have h5:=h4.closeI 2 rfl
   refine J.region (Zh 3 ?_)
   refine Ze (Xx 2 (.pair (.int .u32) (.pair (.slice 5 (.int .u8)) (.pair .bool (.int .i64)))) r1.1 ((gt a0.2.1 r1.1).1,(gt a0.2.1 r1.1).2.1,false,(gt a0.2.1 r1.1).2.2.2) 0 h5 rfl p1 p2 (Uz rfl rfl)) ?_
   intro _ w3 h6
   replace h6:=nf h6
   replace h6:St w0 F0 [Yg (a0.2.1.set r1.1.toNat ((gt a0.2.1 r1.1).1,(gt a0.2.1 r1.1).2.1,false,(gt a0.2.1 r1.1).2.2.2)) A2 c_2,Yb b2 r2.2.1 r2.2.2.1 A6 c_6 r2.2.2.2.1 r2.2.2.2.2,O5 r2.2.2.1 A6 c_6,Z7 b4 a0.2.2.2.2.1 A4 c_4 a0.2.2.2.2.2,Z8 a0.2.2.2.2.1 A4 c_4,Yh b1 (.pointer (some ⟨b2,0,none⟩)) (a0.2.1.set r1.1.toNat ((gt a0.2.1 r1.1).1,(gt a0.2.1 r1.1).2.1,false,(gt a0.2.1 r1.1).2.2.2)) A2 c_2 (.map (some b3)) a0.2.2.2.1 A3 c_3 (.pointer (some ⟨b4,0,none⟩)),Yc .u32 (Value.int .i64) b3 a0.2.2.1,O3 a0.2.2.2.1 A3 c_3] _ _:=h6.retell (by simp only [List.length_set,List.length_nil,Yg,Z8,O3,O5,Yb,Yh,Z7] <;> rfl)
   refine Zi [] rfl ?_
   refine ⟨_,Za,?_⟩
   refine Zi [0,4] rfl ?_
   refine J.region (Zh 2 ?_)
   obtain ⟨r3,q3,H⟩:=Zn H
   refine Ze (Zg [5,1,1,0,2,2,0,0] (Q22.spec q3) h6 rfl Zr) ?_
   rintro _ w4 ⟨_,⟨A7,c_7,A8,c_8,A9,c_9,A10,c_10,rfl,rfl⟩,h7⟩
   replace h7:=nf h7
   refine Zi [0] rfl ?_
   refine J.seq (J.region ?_)
   refine Zh 3 ?_
   refine Zf (Zd 0 h7.wht) ?_
   refine Zi [0,6] rfl ?_
   refine J.seq (J.region ?_)
   refine Zh 3 ?_
   refine Zf (Zd 0 h7.wht) ?_
   refine Zh 1 ?_
   obtain ⟨⟨p3,p4⟩,H⟩:=Zs H
   have e2:=Z6 h7.wh (gO 5) p3 p4
   refine Zf (Zl e2 p3 p4) ?_
   refine Zf (Zm 0 h7.wht (gO 5) p3 p4) ?_
   refine Zi [0,6,7] rfl ?_
   refine J.seq (J.region ?_)
   refine Zh 4 ?_
   refine Zf (Zd 0 h7.wht) ?_
   refine Zh 1 ?_
   obtain ⟨⟨p5,p6⟩,H⟩:=Zs H
   have e3:=h7.cap (gO 5)
   refine Zf (Vw (r3.2.2.2.1.take ((w64 ((r3.2.2.2.1.length:Int) - 1))).toNat) (w64 ((r3.2.2.2.1.length:Int) - 1)) e3 p5 p6) ?_
   refine Zh 2 ?_
   refine Ze (Z3 0 h7) ?_
   intro _ w5 h8
   replace h8:=nf h8
   refine Zi [7] rfl ?_
   refine J.seq (Zb [2,3] ?_)
   refine J.ret ?_
   have h9:=h8.front (ty:=(.int .i64)) rfl 5 (w64 ((r3.2.2.2.1.length:Int) - 1)).toNat rfl (by omega)
   cases H
   exact ⟨_,_,_,Za,⟨_,_,_,_,_,_,_,_,rfl,rfl⟩,Zc h9 [1,1,1,1,1,0,0,0]⟩
  refine J.skip (⟨_,Za,?_⟩)
  refine Zi [0,4] rfl ?_
  refine J.region (Zh 2 ?_)
  obtain ⟨r4,q4,H⟩:=Zn H
  refine Ze (Zg [2,2,2,2,2,2,0,0] (Q22.spec q4) h1 rfl Zr) ?_
  rintro _ w6 ⟨_,⟨A11,c_11,A12,c_12,A13,c_13,A14,c_14,rfl,rfl⟩,h10⟩
  replace h10:=nf h10
  refine Zi [0] rfl ?_
  refine J.seq (J.region ?_)
  refine Zh 3 ?_
  refine Zf (Zd 0 h10.wht) ?_
  refine Zi [0,6] rfl ?_
  refine J.seq (J.region ?_)
  refine Zh 3 ?_
  refine Zf (Zd 0 h10.wht) ?_
  refine Zh 1 ?_
  obtain ⟨⟨p7,p8⟩,H⟩:=Zs H
  have e4:=Z6 h10.wh (gO 5) p7 p8
  refine Zf (Zl e4 p7 p8) ?_
  refine Zf (Zm 0 h10.wht (gO 5) p7 p8) ?_
  refine Zi [0,6,7] rfl ?_
  refine J.seq (J.region ?_)
  refine Zh 4 ?_
  refine Zf (Zd 0 h10.wht) ?_
  refine Zh 1 ?_
  obtain ⟨⟨p9,p10⟩,H⟩:=Zs H
  have e5:=h10.cap (gO 5)
  refine Zf (Vw (r4.2.2.2.1.take ((w64 ((r4.2.2.2.1.length:Int) - 1))).toNat) (w64 ((r4.2.2.2.1.length:Int) - 1)) e5 p9 p10) ?_
  refine Zh 2 ?_
  refine Ze (Z3 0 h10) ?_
  intro _ w7 h11
  replace h11:=nf h11
  refine Zi [7] rfl ?_
  refine J.seq (Zb [2,3] ?_)
  refine J.ret ?_
  have h12:=h11.front (ty:=(.int .i64)) rfl 5 (w64 ((r4.2.2.2.1.length:Int) - 1)).toNat rfl (by omega)
  cases H
  exact ⟨_,_,_,Za,⟨_,_,_,_,_,_,_,_,rfl,rfl⟩,Zc h12 [1,1,1,1,1,0,0,0]⟩
 refine J.skip (J.seq (J.region ?_))
 refine Zh 3 ?_
 refine Zf (Zd 0 h0.wht) ?_
 refine Zi [0,6] rfl ?_
 refine J.seq (J.region ?_)
 refine Zh 3 ?_
 refine Zf (Zd 0 h0.wht) ?_
 refine Zh 1 ?_
 obtain ⟨⟨p11,p12⟩,H⟩:=Zs H
 have e6:=Z6 h0.wh (gO 5) p11 p12
 refine Zf (Zl e6 p11 p12) ?_
 refine Zf (Zm 0 h0.wht (gO 5) p11 p12) ?_
 refine Zi [0,6,7] rfl ?_
 refine J.seq (J.region ?_)
 refine Zh 4 ?_
 refine Zf (Zd 0 h0.wht) ?_
 refine Zh 1 ?_
 obtain ⟨⟨p13,p14⟩,H⟩:=Zs H
 have e7:=h0.cap (gO 5)
 refine Zf (Vw (a0.2.2.2.1.take ((w64 ((a0.2.2.2.1.length:Int) - 1))).toNat) (w64 ((a0.2.2.2.1.length:Int) - 1)) e7 p13 p14) ?_
 refine Zh 2 ?_
 refine Ze (Z3 0 h0) ?_
 intro _ w8 h13
 replace h13:=nf h13
 refine Zi [7] rfl ?_
 refine J.seq (Zb [2,3] ?_)
 refine J.ret ?_
 have h14:=h13.front (ty:=(.int .i64)) rfl 5 (w64 ((a0.2.2.2.1.length:Int) - 1)).toNat rfl (by omega)
 cases H
 exact ⟨_,_,_,Za,⟨_,_,_,_,_,_,_,_,rfl,rfl⟩,Zc h14 [1,1,1,1,1,0,0,0]⟩

def Q17.f (a0:(Int×List (Int)×(Int×Int))×(List (Int×List (Int)×Bool×Int))×(List (Int×Int))×List (Int)×((List (Int×Int×Bool))×Int)) (a1:Int):Option (Int×((Int×List (Int)×(Int×Int))×(List (Int×List (Int)×Bool×Int))×(List (Int×Int))×List (Int)×((List (Int×Int×Bool))×Int))):=(Q25.f a0 a1).bind fun r1=>(if (!decide (r1=0))=true then (some (r1,a0)) else (if (Y2 a0.2.2.1 a1)=true then (if 0≤(Zw (0:Int) a0.2.2.1 a1)∧(Zw (0:Int) a0.2.2.1 a1)<(a0.2.1.length:Int) then (if (decide (0<((gt a0.2.1 (Zw (0:Int) a0.2.2.1 a1)).2.2.2)))=true then (some (8,a0)) else (if (!(Y2 a0.2.2.1 a1))=true then ((Q24.f a0).bind fun r4=>(if (!r4.2.1)=true then (some (7,r4.2.2)) else ((Q54.f (r4.2.2.1.1,r4.2.2.1.2.1,(r4.2.2.1.2.2.1,r4.2.2.1.2.2.2))).bind fun r2=>(if 0≤r2∧r2*1≤281474976710656 then (if 0≤r4.1∧r4.1<(r4.2.2.2.1.length:Int) then ((Q26.f (r4.2.2.2.2.2.2.1,r4.2.2.2.2.2.2.2) r4.1).bind fun r3=>(some (0,((r4.2.2.1.1,r4.2.2.1.2.1,(r4.2.2.1.2.2.1,r4.2.2.1.2.2.2)),(r4.2.2.2.1.set r4.1.toNat (a1,(List.replicate r2.toNat (0:Int)),true,1)),(Va a1 r4.1 r4.2.2.2.2.1),r4.2.2.2.2.2.1,r3.2)))) else none) else none)))) else ((Q54.f (a0.1.1,a0.1.2.1,(a0.1.2.2.1,a0.1.2.2.2))).bind fun r2=>(if 0≤r2∧r2*1≤281474976710656 then (if 0≤(Zw (0:Int) a0.2.2.1 a1)∧(Zw (0:Int) a0.2.2.1 a1)<(a0.2.1.length:Int) then ((Q26.f (a0.2.2.2.2.1,a0.2.2.2.2.2) (Zw (0:Int) a0.2.2.1 a1)).bind fun r3=>(some (0,((a0.1.1,a0.1.2.1,(a0.1.2.2.1,a0.1.2.2.2)),(a0.2.1.set (Zw (0:Int) a0.2.2.1 a1).toNat (a1,(List.replicate r2.toNat (0:Int)),true,1)),(Va a1 (Zw (0:Int) a0.2.2.1 a1) a0.2.2.1),a0.2.2.2.1,r3.2)))) else none) else none)))) else none) else (if (!(Y2 a0.2.2.1 a1))=true then ((Q24.f a0).bind fun r5=>(if (!r5.2.1)=true then (some (7,r5.2.2)) else ((Q54.f (r5.2.2.1.1,r5.2.2.1.2.1,(r5.2.2.1.2.2.1,r5.2.2.1.2.2.2))).bind fun r2=>(if 0≤r2∧r2*1≤281474976710656 then (if 0≤r5.1∧r5.1<(r5.2.2.2.1.length:Int) then ((Q26.f (r5.2.2.2.2.2.2.1,r5.2.2.2.2.2.2.2) r5.1).bind fun r3=>(some (0,((r5.2.2.1.1,r5.2.2.1.2.1,(r5.2.2.1.2.2.1,r5.2.2.1.2.2.2)),(r5.2.2.2.1.set r5.1.toNat (a1,(List.replicate r2.toNat (0:Int)),true,1)),(Va a1 r5.1 r5.2.2.2.2.1),r5.2.2.2.2.2.1,r3.2)))) else none) else none)))) else ((Q54.f (a0.1.1,a0.1.2.1,(a0.1.2.2.1,a0.1.2.2.2))).bind fun r2=>(if 0≤r2∧r2*1≤281474976710656 then (if 0≤(Zw (0:Int) a0.2.2.1 a1)∧(Zw (0:Int) a0.2.2.1 a1)<(a0.2.1.length:Int) then ((Q26.f (a0.2.2.2.2.1,a0.2.2.2.2.2) (Zw (0:Int) a0.2.2.1 a1)).bind fun r3=>(some (0,((a0.1.1,a0.1.2.1,(a0.1.2.2.1,a0.1.2.2.2)),(a0.2.1.set (Zw (0:Int) a0.2.2.1 a1).toNat (a1,(List.replicate r2.toNat (0:Int)),true,1)),(Va a1 (Zw (0:Int) a0.2.2.1 a1) a0.2.2.1),a0.2.2.2.1,r3.2)))) else none) else none)))))
theorem Q17.spec {a0:(Int×List (Int)×(Int×Int))×(List (Int×List (Int)×Bool×Int))×(List (Int×Int))×List (Int)×((List (Int×Int×Bool))×Int)} {a1:Int} {b1:Nat} {b2:Nat} {b3:Nat} {b4:Nat} {A1:Option Addr} {c_1:Nat} {A2:Option Addr} {c_2:Nat} {A3:Option Addr} {c_3:Nat} {A4:Option Addr} {c_4:Nat} {r:Int×((Int×List (Int)×(Int×Int))×(List (Int×List (Int)×Bool×Int))×(List (Int×Int))×List (Int)×((List (Int×Int×Bool))×Int))} (H:Q17.f a0 a1=some r) :
  Spec Tryz.prog 140 [.pointer (some ⟨b1,0,none⟩),.int .u32 a1] [Yh b1 (.pointer (some ⟨b2,0,none⟩)) a0.2.1 A2 c_2 (.map (some b3)) a0.2.2.2.1 A3 c_3 (.pointer (some ⟨b4,0,none⟩)),Yb b2 a0.1.1 a0.1.2.1 A1 c_1 a0.1.2.2.1 a0.1.2.2.2,O5 a0.1.2.1 A1 c_1,Yg a0.2.1 A2 c_2,Yc .u32 (Value.int .i64) b3 a0.2.2.1,O3 a0.2.2.2.1 A3 c_3,Z7 b4 a0.2.2.2.2.1 A4 c_4 a0.2.2.2.2.2,Z8 a0.2.2.2.2.1 A4 c_4] [] (fun v l=>∃(A_0:Option Addr) (c_0:Nat) (A_1:Option Addr) (c_1:Nat) (A_2:Option Addr) (c_2:Nat) (A_3:Option Addr) (c_3:Nat),v=.int .i64 r.1∧l=[Yh b1 (.pointer (some ⟨b2,0,none⟩)) r.2.2.1 A_1 c_1 (.map (some b3)) r.2.2.2.2.1 A_2 c_2 (.pointer (some ⟨b4,0,none⟩)),Yb b2 r.2.1.1 r.2.1.2.1 A_0 c_0 r.2.1.2.2.1 r.2.1.2.2.2,O5 r.2.1.2.1 A_0 c_0,Yg r.2.2.1 A_1 c_1,Yc .u32 (Value.int .i64) b3 r.2.2.2.1,O3 r.2.2.2.2.1 A_2 c_2,Z7 b4 r.2.2.2.2.2.1 A_3 c_3 r.2.2.2.2.2.2,Z8 r.2.2.2.2.2.1 A_3 c_3]):=by
 refine Zo Tryz.func140 fun w0 F0 h0=>?_
 unfold Q17.f at H
 refine J.seq (Zb [0,1] ?_)
 refine J.seq (J.seq (J.region ?_))
 refine Zh 2 ?_
 obtain ⟨r1,q1,H⟩:=Zn H
 refine Ze (Zg [0,0,0,0,0,0,0,0] (Q25.spec q1) h0 rfl Zr) ?_
 rintro _ w1 ⟨_,⟨rfl,rfl⟩,h1⟩
 replace h1:=nf h1
 refine Zi [0,1,5] rfl ?_
 refine J.seq (Zb [0,1,5,12] ?_)
 refine jIf H (fun c1 H=>?_) fun c1 H=>?_
 ·refine J.seq (Zb [4] ?_)
  refine J.ret ?_
  cases H
  exact ⟨_,_,_,Za,⟨_,_,_,_,_,_,_,_,rfl,rfl⟩,Zc h1 [0,0,0,0,0,0,0,0]⟩
 refine J.skip (J.seq (J.region ?_))
 refine Zh 3 ?_
 refine Zf (Zd 0 h1.wht) ?_
 refine Zh 1 ?_
 refine Zf (Xu (0:Int) 4 h1.wht) ?_
 refine Zi [0,1,6,7] rfl ?_
 refine J.seq (J.midS (fun env w=>∃(x1:Int) (x2:List (Int)) (A5:Option Addr) (c_5:Nat) (x3:Int) (x4:Int) (x5:List (Int×List (Int)×Bool×Int)) (A6:Option Addr) (c_6:Nat) (x6:List (Int×Int)) (x7:List (Int)) (A7:Option Addr) (c_7:Nat) (x8:List (Int×Int×Bool)) (A8:Option Addr) (c_8:Nat) (x9:Int) (x10:Int),env=[(0,.pointer (some ⟨b1,0,none⟩)),(1,.int .u32 a1),(6,.int .i64 x10)]∧St w0 F0 [Yh b1 (.pointer (some ⟨b2,0,none⟩)) x5 A6 c_6 (.map (some b3)) x7 A7 c_7 (.pointer (some ⟨b4,0,none⟩)),Yb b2 x1 x2 A5 c_5 x3 x4,Yc .u32 (Value.int .i64) b3 x6,Z7 b4 x8 A8 c_8 x9,O5 x2 A5 c_5,Yg x5 A6 c_6,O3 x7 A7 c_7,Z8 x8 A8 c_8] [] w∧((Q54.f (x1,x2,(x3,x4))).bind fun r2=>(if 0≤r2∧r2*1≤281474976710656 then (if 0≤x10∧x10<(x5.length:Int) then ((Q26.f (x8,x9) x10).bind fun r3=>(some (0,((x1,x2,(x3,x4)),(x5.set x10.toNat (a1,(List.replicate r2.toNat (0:Int)),true,1)),(Va a1 x10 x6),x7,r3.2)))) else none) else none))=some r) ?_ ?_)
 ·refine J.block (J.seq (J.region ?_))
  refine Zh 2 ?_
  refine Yj 25 H (fun c2 H=>?_) fun c2 H=>?_
  ·refine Zh 3 ?_
   refine Zf (Zd 0 h1.wht) ?_
   refine Zh 1 ?_
   obtain ⟨⟨p5,p6⟩,H⟩:=Zs H
   have e2:=Z6 h1.wh (gO 3) p5 p6
   refine Zf (Zl e2 p5 p6) ?_
   refine Zh 1 ?_
   refine Zf (Yq 3 h1.wht (gO 3) p5 p6) ?_
   refine Zi [0,1,6,7,23] rfl ?_
   refine jIf H (fun c3 H=>?_) fun c3 H=>?_
   ·refine J.seq (Zb [4] ?_)
    refine J.ret ?_
    cases H
    exact ⟨_,_,_,Za,⟨_,_,_,_,_,_,_,_,rfl,rfl⟩,Zc h1 [0,0,0,0,0,0,0,0]⟩
   refine J.seq (Zb [0,1,6,36] ?_)
   refine jIf H (fun c4 H=>?_) fun c4 H=>?_
   ·refine J.seq (J.region ?_)
    refine Zh 1 ?_
    obtain ⟨r4,q4,H⟩:=Zn H
    refine Ze (Zg [0,0,0,0,0,0,0,0] (Q24.spec q4) h1 rfl Zr) ?_
    rintro _ w11 ⟨_,⟨A10,c_10,A11,c_11,A12,c_12,A13,c_13,rfl,rfl⟩,h13⟩
    replace h13:=nf h13
    refine Zi [0,1,6,7] rfl ?_
    refine J.seq (Zb [0,1,6,45] ?_)
    refine jIf H (fun c5 H=>?_) fun c5 H=>?_
    ·refine J.seq (Zb [4] ?_)
     refine J.ret ?_
     cases H
     exact ⟨_,_,_,Za,⟨_,_,_,_,_,_,_,_,rfl,rfl⟩,Zc h13 [0,0,0,0,0,0,0,0]⟩
    refine Xz [0,1,6] ?_
    refine J.skip ?_
    have h14:=(sOR h13 [0,0,2,3,0,0,0,0] [])
    exact ⟨r4.2.2.1.1,r4.2.2.1.2.1,A10,c_10,r4.2.2.1.2.2.1,r4.2.2.1.2.2.2,r4.2.2.2.1,A11,c_11,r4.2.2.2.2.1,r4.2.2.2.2.2.1,A12,c_12,r4.2.2.2.2.2.2.1,A13,c_13,r4.2.2.2.2.2.2.2,r4.1,rfl,h14,H⟩
   refine Xz [0,1,6] ?_
   refine J.skip ?_
   have h15:=(sOR h1 [0,0,2,3,0,0,0,0] [])
   exact ⟨a0.1.1,a0.1.2.1,A1,c_1,a0.1.2.2.1,a0.1.2.2.2,a0.2.1,A2,c_2,a0.2.2.1,a0.2.2.2.1,A3,c_3,a0.2.2.2.2.1,A4,c_4,a0.2.2.2.2.2,(Zw (0:Int) a0.2.2.1 a1),rfl,h15,H⟩
  refine Zi [0,1,6,7,23] rfl ?_
  refine Z4 ?_
  refine J.seq (Zb [0,1,6,36] ?_)
  refine jIf H (fun c6 H=>?_) fun c6 H=>?_
  ·refine J.seq (J.region ?_)
   refine Zh 1 ?_
   obtain ⟨r5,q5,H⟩:=Zn H
   refine Ze (Zg [0,0,0,0,0,0,0,0] (Q24.spec q5) h1 rfl Zr) ?_
   rintro _ w12 ⟨_,⟨A14,c_14,A15,c_15,A16,c_16,A17,c_17,rfl,rfl⟩,h16⟩
   replace h16:=nf h16
   refine Zi [0,1,6,7] rfl ?_
   refine J.seq (Zb [0,1,6,45] ?_)
   refine jIf H (fun c7 H=>?_) fun c7 H=>?_
   ·refine J.seq (Zb [4] ?_)
    refine J.ret ?_
    cases H
    exact ⟨_,_,_,Za,⟨_,_,_,_,_,_,_,_,rfl,rfl⟩,Zc h16 [0,0,0,0,0,0,0,0]⟩
   refine Xz [0,1,6] ?_
   refine J.skip ?_
   have h17:=(sOR h16 [0,0,2,3,0,0,0,0] [])
   exact ⟨r5.2.2.1.1,r5.2.2.1.2.1,A14,c_14,r5.2.2.1.2.2.1,r5.2.2.1.2.2.2,r5.2.2.2.1,A15,c_15,r5.2.2.2.2.1,r5.2.2.2.2.2.1,A16,c_16,r5.2.2.2.2.2.2.1,A17,c_17,r5.2.2.2.2.2.2.2,r5.1,rfl,h17,H⟩
  refine Xz [0,1,6] ?_
  refine J.skip ?_
  have h18:=(sOR h1 [0,0,2,3,0,0,0,0] [])
  exact ⟨a0.1.1,a0.1.2.1,A1,c_1,a0.1.2.2.1,a0.1.2.2.2,a0.2.1,A2,c_2,a0.2.2.1,a0.2.2.2.1,A3,c_3,a0.2.2.2.2.1,A4,c_4,a0.2.2.2.2.2,(Zw (0:Int) a0.2.2.1 a1),rfl,h18,H⟩
 rintro env w3 ⟨x1,x2,A5,c_5,x3,x4,x5,A6,c_6,x6,x7,A7,c_7,x8,A8,c_8,x9,x10,rfl,h2,H⟩
 refine J.seq (J.region ?_)
 refine Zh 6 ?_
 refine Zf (Zd 0 h2.wht) ?_
 obtain ⟨r2,q2,H⟩:=Zn H
 refine Ze (Zg [1,3] (Q54.spec q2) h2 rfl Zr) ?_
 rintro _ w4 ⟨_,⟨rfl,rfl⟩,h3⟩
 replace h3:=nf h3
 obtain ⟨⟨p1,p2⟩,H⟩:=Zs H
 refine Ze (Jw Y6 (ty:=(.int .u8)) rfl (0:Int) rfl rfl rfl rfl rfl rfl rfl (by decide) h3 p1 p2) ?_
 rintro _ w5 ⟨b5,rfl,h4⟩
 replace h4:=nf h4
 refine Zh 1 ?_
 refine Ys Tryz.func127 ?_
 refine J.seq (J.region ?_)
 refine Ze (Ym h4) ?_
 rintro _ w6 ⟨b6,rfl,h5⟩
 replace h5:=nf h5
 refine Zi [0,1,5] rfl ?_
 refine J.seq (J.region ?_)
 refine Zh 1 ?_
 refine Ze (Z3 0 h5) ?_
 intro _ w7 h6
 replace h6:=nf h6
 refine Zi [0,1,5] rfl ?_
 refine J.seq (Zu (Zc h6 [0,1,1,1,1,1,2,2]) ?_)
 have h7:=h6.drew
 refine Zv [0,1,2,4] ?_
 refine Zj 3 rfl (Zd 3 wI) ?_
 refine Zj 5 rfl (Zd 0 wI) ?_
 obtain ⟨⟨p3,p4⟩,H⟩:=Zs H
 have e1:=Z6 h7.wh (gO 7) p3 p4
 refine Zj 6 rfl (Zl e1 p3 p4) ?_
 have h8:=(h7.only [7,1,0,0,0,0,0,0,0,0] rfl).both
 refine Zp 7 rfl (Wq 0 (.pair (.int .u32) (.pair (.slice 5 (.int .u8)) (.pair .bool (.int .i64)))) x10 (a1,(List.replicate r2.toNat (0:Int)),true,1) h8 p3 p4 Zb3) ?_
 intro _ w8 h9
 replace h9:=nf h9
 refine ⟨⟨[_],h9⟩,?_⟩
 replace h9:St w0 F0 [Yg (x5.set x10.toNat (a1,(List.replicate r2.toNat (0:Int)),true,1)) A6 c_6,Zg7 b6 a1 (List.replicate r2.toNat (0:Int)) (some ⟨b5,0,none⟩) (r2.toNat) true 1,Yb b2 x1 x2 A5 c_5 x3 x4,O5 x2 A5 c_5,Yh b1 (.pointer (some ⟨b2,0,none⟩)) (x5.set x10.toNat (a1,(List.replicate r2.toNat (0:Int)),true,1)) A6 c_6 (.map (some b3)) x7 A7 c_7 (.pointer (some ⟨b4,0,none⟩)),Yc .u32 (Value.int .i64) b3 x6,Z7 b4 x8 A8 c_8 x9,O3 x7 A7 c_7,Z8 x8 A8 c_8] _ _:=h9.retell (by simp only [List.length_set,List.length_nil,Yg,Z8,O3,O5,Yb,Zg7,Yh,Z7] <;> rfl)
 refine Z0 [0,1,5] ?_
 refine J.seq (Zu (Zc h9 [0,0,0,0,0,1,1,1]) ?_)
 have h10:=h9.drew
 refine Zv [0,1,2,4,6] ?_
 refine Zj 3 rfl (Zd 4 wI) ?_
 refine Zj 5 rfl (Zd 1 wI) ?_
 refine Zp 7 rfl (Zcu Y6 (v:=x10) (ix:=a1) 5 rfl h10 rfl rfl rfl rfl rfl rfl rfl rfl rfl) ?_
 intro _ w9 h11
 replace h11:=nf h11
 refine ⟨⟨[_],h11⟩,?_⟩
 refine Z0 [0,1] ?_
 refine J.region (Zh 3 ?_)
 refine Zf (Zd 5 h11.wht) ?_
 refine Zh 1 ?_
 obtain ⟨r3,q3,H⟩:=Zn H
 refine Ze (Zg [6,7] (Q26.spec q3) h11 rfl Zr) ?_
 rintro _ w10 ⟨_,⟨A9,c_9,rfl,rfl⟩,h12⟩
 replace h12:=nf h12
 refine Zi [] rfl ?_
 refine ⟨_,Za,?_⟩
 refine Zi [] rfl ?_
 refine J.seq (Zb [4] ?_)
 refine J.ret ?_
 cases H
 exact ⟨_,_,_,Za,⟨_,_,_,_,_,_,_,_,rfl,rfl⟩,Zc h12 [7,5,5,3,2,3,0,0]⟩

def Q31.f (a0:(List (Int×Int×Bool))×Int) (a1:Int) (a2:Int):Option (((List (Int×Int×Bool))×Int)):=if 0≤a2∧a2<(a0.1.length:Int) then (if 0≤a1∧a1<(a0.1.length:Int) then (if 0≤a2∧a2<((a0.1.set a1.toNat (a2,(gt a0.1 a2).2.1,true)).length:Int) then (if 0≤((gt a0.1 a2).2.1)∧((gt a0.1 a2).2.1)<(((a0.1.set a1.toNat (a2,(gt a0.1 a2).2.1,true)).set a2.toNat ((gt (a0.1.set a1.toNat (a2,(gt a0.1 a2).2.1,true)) a2).1,a1,(gt (a0.1.set a1.toNat (a2,(gt a0.1 a2).2.1,true)) a2).2.2)).length:Int) then (some ((((a0.1.set a1.toNat (a2,(gt a0.1 a2).2.1,true)).set a2.toNat ((gt (a0.1.set a1.toNat (a2,(gt a0.1 a2).2.1,true)) a2).1,a1,(gt (a0.1.set a1.toNat (a2,(gt a0.1 a2).2.1,true)) a2).2.2)).set ((gt a0.1 a2).2.1).toNat (a1,(gt ((a0.1.set a1.toNat (a2,(gt a0.1 a2).2.1,true)).set a2.toNat ((gt (a0.1.set a1.toNat (a2,(gt a0.1 a2).2.1,true)) a2).1,a1,(gt (a0.1.set a1.toNat (a2,(gt a0.1 a2).2.1,true)) a2).2.2)) ((gt a0.1 a2).2.1)).2.1,(gt ((a0.1.set a1.toNat (a2,(gt a0.1 a2).2.1,true)).set a2.toNat ((gt (a0.1.set a1.toNat (a2,(gt a0.1 a2).2.1,true)) a2).1,a1,(gt (a0.1.set a1.toNat (a2,(gt a0.1 a2).2.1,true)) a2).2.2)) ((gt a0.1 a2).2.1)).2.2)),(w64 (a0.2+1)))) else none) else none) else none) else none
theorem Q31.spec {a0:(List (Int×Int×Bool))×Int} {a1:Int} {a2:Int} {b1:Nat} {A1:Option Addr} {c_1:Nat} {r:((List (Int×Int×Bool))×Int)} (H:Q31.f a0 a1 a2=some r) :
  Spec Tryz.prog 174 [.pointer (some ⟨b1,0,none⟩),.int .i64 a1,.int .i64 a2] [Z7 b1 a0.1 A1 c_1 a0.2,Z8 a0.1 A1 c_1] [] (fun v l=>∃(A_0:Option Addr) (c_0:Nat),v=.tuple #[]∧l=[Z7 b1 r.1 A_0 c_0 r.2,Z8 r.1 A_0 c_0]):=by
 refine Zo Tryz.func174 fun w0 F0 h0=>?_
 unfold Q31.f at H
 refine J.seq (J.region ?_)
 refine Zh 3 ?_
 refine Zf (Zd 0 h0.wht) ?_
 refine Zh 1 ?_
 obtain ⟨⟨p1,p2⟩,H⟩:=Zs H
 have e1:=Z6 h0.wh (gO 1) p1 p2
 refine Zf (Zl e1 p1 p2) ?_
 refine Zh 1 ?_
 refine Zf (Zm 1 h0.wht (gO 1) p1 p2) ?_
 refine Zi [0,1,2,6] rfl ?_
 refine J.seq (J.region ?_)
 refine Zh 3 ?_
 refine Zf (Zd 0 h0.wht) ?_
 refine Zh 4 ?_
 obtain ⟨⟨p3,p4⟩,H⟩:=Zs H
 refine Zf (Zl e1 p3 p4) ?_
 refine Ze (Zq 0 (.pair (.int .i64) (.pair (.int .i64) .bool)) a1 (a2,(gt a0.1 a2).2.1,true) 1 h0 rfl p3 p4) ?_
 intro _ w1 h1
 replace h1:=nf h1
 replace h1:St w0 F0 [Z8 (a0.1.set a1.toNat (a2,(gt a0.1 a2).2.1,true)) A1 c_1,Z7 b1 (a0.1.set a1.toNat (a2,(gt a0.1 a2).2.1,true)) A1 c_1 a0.2] _ _:=h1.retell (by simp only [List.length_set,List.length_nil,Z8,Z7] <;> rfl)
 refine Zi [0,1,2,6] rfl ?_
 refine J.seq (J.region ?_)
 refine Zh 3 ?_
 refine Zf (Zd 1 h1.wht) ?_
 refine Zh 2 ?_
 obtain ⟨⟨p5,p6⟩,H⟩:=Zs H
 refine Zf (Zl e1 p5 p6) ?_
 refine Zh 1 ?_
 refine Ze (Zq 1 (.pair (.int .i64) (.pair (.int .i64) .bool)) a2 ((gt (a0.1.set a1.toNat (a2,(gt a0.1 a2).2.1,true)) a2).1,a1,(gt (a0.1.set a1.toNat (a2,(gt a0.1 a2).2.1,true)) a2).2.2) 0 h1 rfl p5 p6) ?_
 intro _ w2 h2
 replace h2:=nf h2
 replace h2:St w0 F0 [Z8 ((a0.1.set a1.toNat (a2,(gt a0.1 a2).2.1,true)).set a2.toNat ((gt (a0.1.set a1.toNat (a2,(gt a0.1 a2).2.1,true)) a2).1,a1,(gt (a0.1.set a1.toNat (a2,(gt a0.1 a2).2.1,true)) a2).2.2)) A1 c_1,Z7 b1 ((a0.1.set a1.toNat (a2,(gt a0.1 a2).2.1,true)).set a2.toNat ((gt (a0.1.set a1.toNat (a2,(gt a0.1 a2).2.1,true)) a2).1,a1,(gt (a0.1.set a1.toNat (a2,(gt a0.1 a2).2.1,true)) a2).2.2)) A1 c_1 a0.2] _ _:=h2.retell (by simp only [List.length_set,List.length_nil,Z8,Z7] <;> rfl)
 refine Zi [0,1,6] rfl ?_
 refine J.seq (J.region ?_)
 refine Zh 3 ?_
 refine Zf (Zd 1 h2.wht) ?_
 refine Zh 2 ?_
 obtain ⟨⟨p7,p8⟩,H⟩:=Zs H
 refine Zf (Zl e1 p7 p8) ?_
 refine Zh 1 ?_
 refine Ze (Zq 0 (.pair (.int .i64) (.pair (.int .i64) .bool)) ((gt a0.1 a2).2.1) (a1,(gt ((a0.1.set a1.toNat (a2,(gt a0.1 a2).2.1,true)).set a2.toNat ((gt (a0.1.set a1.toNat (a2,(gt a0.1 a2).2.1,true)) a2).1,a1,(gt (a0.1.set a1.toNat (a2,(gt a0.1 a2).2.1,true)) a2).2.2)) ((gt a0.1 a2).2.1)).2.1,(gt ((a0.1.set a1.toNat (a2,(gt a0.1 a2).2.1,true)).set a2.toNat ((gt (a0.1.set a1.toNat (a2,(gt a0.1 a2).2.1,true)) a2).1,a1,(gt (a0.1.set a1.toNat (a2,(gt a0.1 a2).2.1,true)) a2).2.2)) ((gt a0.1 a2).2.1)).2.2) 0 h2 rfl p7 p8) ?_
 intro _ w3 h3
 replace h3:=nf h3
 replace h3:St w0 F0 [Z8 (((a0.1.set a1.toNat (a2,(gt a0.1 a2).2.1,true)).set a2.toNat ((gt (a0.1.set a1.toNat (a2,(gt a0.1 a2).2.1,true)) a2).1,a1,(gt (a0.1.set a1.toNat (a2,(gt a0.1 a2).2.1,true)) a2).2.2)).set ((gt a0.1 a2).2.1).toNat (a1,(gt ((a0.1.set a1.toNat (a2,(gt a0.1 a2).2.1,true)).set a2.toNat ((gt (a0.1.set a1.toNat (a2,(gt a0.1 a2).2.1,true)) a2).1,a1,(gt (a0.1.set a1.toNat (a2,(gt a0.1 a2).2.1,true)) a2).2.2)) ((gt a0.1 a2).2.1)).2.1,(gt ((a0.1.set a1.toNat (a2,(gt a0.1 a2).2.1,true)).set a2.toNat ((gt (a0.1.set a1.toNat (a2,(gt a0.1 a2).2.1,true)) a2).1,a1,(gt (a0.1.set a1.toNat (a2,(gt a0.1 a2).2.1,true)) a2).2.2)) ((gt a0.1 a2).2.1)).2.2)) A1 c_1,Z7 b1 (((a0.1.set a1.toNat (a2,(gt a0.1 a2).2.1,true)).set a2.toNat ((gt (a0.1.set a1.toNat (a2,(gt a0.1 a2).2.1,true)) a2).1,a1,(gt (a0.1.set a1.toNat (a2,(gt a0.1 a2).2.1,true)) a2).2.2)).set ((gt a0.1 a2).2.1).toNat (a1,(gt ((a0.1.set a1.toNat (a2,(gt a0.1 a2).2.1,true)).set a2.toNat ((gt (a0.1.set a1.toNat (a2,(gt a0.1 a2).2.1,true)) a2).1,a1,(gt (a0.1.set a1.toNat (a2,(gt a0.1 a2).2.1,true)) a2).2.2)) ((gt a0.1 a2).2.1)).2.1,(gt ((a0.1.set a1.toNat (a2,(gt a0.1 a2).2.1,true)).set a2.toNat ((gt (a0.1.set a1.toNat (a2,(gt a0.1 a2).2.1,true)) a2).1,a1,(gt (a0.1.set a1.toNat (a2,(gt a0.1 a2).2.1,true)) a2).2.2)) ((gt a0.1 a2).2.1)).2.2)) A1 c_1 a0.2] _ _:=h3.retell (by simp only [List.length_set,List.length_nil,Z8,Z7] <;> rfl)
 refine Zi [0] rfl ?_
 refine J.region (Zh 3 ?_)
 refine Zf (Zd 1 h3.wht) ?_
 refine Zh 3 ?_
 refine Ze (Z3 1 h3) ?_
 intro _ w4 h4
 replace h4:=nf h4
 refine Zi [] rfl ?_
 cases H
 exact ⟨_,_,_,Za,⟨_,_,rfl,rfl⟩,Zc h4 [0,0]⟩

def Q27.f (a0:(List (Int×Int×Bool))×Int) (a1:Int):Option (Int×((List (Int×Int×Bool))×Int)):=(Q33.f a0 a1).bind fun r1=>(if (decide (r1=0))=true then ((Q30.f a0 a1).bind fun r2=>((Q32.f r2).bind fun r3=>((Q31.f r2 a1 r3).bind fun r4=>(some (r1,r4))))) else (some (r1,a0)))
theorem Q27.spec {a0:(List (Int×Int×Bool))×Int} {a1:Int} {b1:Nat} {A1:Option Addr} {c_1:Nat} {r:Int×((List (Int×Int×Bool))×Int)} (H:Q27.f a0 a1=some r) :
  Spec Tryz.prog 129 [.pointer (some ⟨b1,0,none⟩),.int .i64 a1] [Z7 b1 a0.1 A1 c_1 a0.2,Z8 a0.1 A1 c_1] [] (fun v l=>∃(A_0:Option Addr) (c_0:Nat),v=.int .i64 r.1∧l=[Z7 b1 r.2.1 A_0 c_0 r.2.2,Z8 r.2.1 A_0 c_0]):=by
 refine Zo Tryz.func129 fun w0 F0 h0=>?_
 unfold Q27.f at H
 refine J.seq (Zb [0,1] ?_)
 refine J.seq (J.region ?_)
 refine Zh 2 ?_
 obtain ⟨r1,q1,H⟩:=Zn H
 refine Ze (Zg [0,0] (Q33.spec q1) h0 rfl Zr) ?_
 rintro _ w1 ⟨_,⟨rfl,rfl⟩,h1⟩
 replace h1:=nf h1
 refine Zi [0,1,5] rfl ?_
 refine J.seq (J.seq (Zb [0,1,5,10] ?_))
 refine jIf H (fun c1 H=>?_) fun c1 H=>?_
 ·refine J.seq (J.region ?_)
  refine Zh 2 ?_
  obtain ⟨r2,q2,H⟩:=Zn H
  refine Ze (Zg [0,0] (Q30.spec q2) h1 rfl Zr) ?_
  rintro _ w2 ⟨_,⟨A2,c_2,rfl,rfl⟩,h2⟩
  replace h2:=nf h2
  refine Zi [0,1,5] rfl ?_
  refine J.region (Zh 3 ?_)
  obtain ⟨r3,q3,H⟩:=Zn H
  refine Ze (Zg [0,0] (Q32.spec q3) h2 rfl Zr) ?_
  rintro _ w3 ⟨_,⟨rfl,rfl⟩,h3⟩
  replace h3:=nf h3
  obtain ⟨r4,q4,H⟩:=Zn H
  refine Ze (Zg [0,0] (Q31.spec q4) h3 rfl Zr) ?_
  rintro _ w4 ⟨_,⟨A3,c_3,rfl,rfl⟩,h4⟩
  replace h4:=nf h4
  refine Zi [5] rfl ?_
  refine J.seq (Zb [4] ?_)
  refine J.ret ?_
  cases H
  exact ⟨_,_,_,Za,⟨_,_,rfl,rfl⟩,Zc h4 [0,0]⟩
 refine J.skip (J.seq (Zb [4] ?_))
 refine J.ret ?_
 cases H
 exact ⟨_,_,_,Za,⟨_,_,rfl,rfl⟩,Zc h1 [0,0]⟩

def Q20.f (a0:(Int×List (Int)×(Int×Int))×(List (Int×List (Int)×Bool×Int))×(List (Int×Int))×List (Int)×((List (Int×Int×Bool))×Int)) (a1:Int):Option (Int×((Int×List (Int)×(Int×Int))×(List (Int×List (Int)×Bool×Int))×(List (Int×Int))×List (Int)×((List (Int×Int×Bool))×Int))):=(Q23.f a0).bind fun r1=>(if r1=true then (some (1,a0)) else (if (!(Y2 a0.2.2.1 a1))=true then (some (8,a0)) else (if 0≤(Zw (0:Int) a0.2.2.1 a1)∧(Zw (0:Int) a0.2.2.1 a1)<(a0.2.1.length:Int) then (if (decide (((gt a0.2.1 (Zw (0:Int) a0.2.2.1 a1)).2.2.2)=0))=true then (some (8,a0)) else (if (decide (((gt (a0.2.1.set (Zw (0:Int) a0.2.2.1 a1).toNat ((gt a0.2.1 (Zw (0:Int) a0.2.2.1 a1)).1,(gt a0.2.1 (Zw (0:Int) a0.2.2.1 a1)).2.1,(gt a0.2.1 (Zw (0:Int) a0.2.2.1 a1)).2.2.1,(w64 (((gt a0.2.1 (Zw (0:Int) a0.2.2.1 a1)).2.2.2) - 1)))) (Zw (0:Int) a0.2.2.1 a1)).2.2.2)=0))=true then ((Q27.f a0.2.2.2.2 (Zw (0:Int) a0.2.2.1 a1)).bind fun r2=>(some (0,(a0.1,(a0.2.1.set (Zw (0:Int) a0.2.2.1 a1).toNat ((gt a0.2.1 (Zw (0:Int) a0.2.2.1 a1)).1,(gt a0.2.1 (Zw (0:Int) a0.2.2.1 a1)).2.1,(gt a0.2.1 (Zw (0:Int) a0.2.2.1 a1)).2.2.1,(w64 (((gt a0.2.1 (Zw (0:Int) a0.2.2.1 a1)).2.2.2) - 1)))),a0.2.2.1,a0.2.2.2.1,r2.2)))) else (some (0,(a0.1,(a0.2.1.set (Zw (0:Int) a0.2.2.1 a1).toNat ((gt a0.2.1 (Zw (0:Int) a0.2.2.1 a1)).1,(gt a0.2.1 (Zw (0:Int) a0.2.2.1 a1)).2.1,(gt a0.2.1 (Zw (0:Int) a0.2.2.1 a1)).2.2.1,(w64 (((gt a0.2.1 (Zw (0:Int) a0.2.2.1 a1)).2.2.2) - 1)))),a0.2.2.1,a0.2.2.2.1,a0.2.2.2.2))))) else none)))
theorem Q20.spec {a0:(Int×List (Int)×(Int×Int))×(List (Int×List (Int)×Bool×Int))×(List (Int×Int))×List (Int)×((List (Int×Int×Bool))×Int)} {a1:Int} {b1:Nat} {b2:Nat} {b3:Nat} {b4:Nat} {A1:Option Addr} {c_1:Nat} {A2:Option Addr} {c_2:Nat} {A3:Option Addr} {c_3:Nat} {A4:Option Addr} {c_4:Nat} {r:Int×((Int×List (Int)×(Int×Int))×(List (Int×List (Int)×Bool×Int))×(List (Int×Int))×List (Int)×((List (Int×Int×Bool))×Int))} (H:Q20.f a0 a1=some r) :
  Spec Tryz.prog 79 [.pointer (some ⟨b1,0,none⟩),.int .u32 a1] [Yh b1 (.pointer (some ⟨b2,0,none⟩)) a0.2.1 A2 c_2 (.map (some b3)) a0.2.2.2.1 A3 c_3 (.pointer (some ⟨b4,0,none⟩)),Yb b2 a0.1.1 a0.1.2.1 A1 c_1 a0.1.2.2.1 a0.1.2.2.2,O5 a0.1.2.1 A1 c_1,Yg a0.2.1 A2 c_2,Yc .u32 (Value.int .i64) b3 a0.2.2.1,O3 a0.2.2.2.1 A3 c_3,Z7 b4 a0.2.2.2.2.1 A4 c_4 a0.2.2.2.2.2,Z8 a0.2.2.2.2.1 A4 c_4] [] (fun v l=>∃(A_0:Option Addr) (c_0:Nat) (A_1:Option Addr) (c_1:Nat) (A_2:Option Addr) (c_2:Nat) (A_3:Option Addr) (c_3:Nat),v=.int .i64 r.1∧l=[Yh b1 (.pointer (some ⟨b2,0,none⟩)) r.2.2.1 A_1 c_1 (.map (some b3)) r.2.2.2.2.1 A_2 c_2 (.pointer (some ⟨b4,0,none⟩)),Yb b2 r.2.1.1 r.2.1.2.1 A_0 c_0 r.2.1.2.2.1 r.2.1.2.2.2,O5 r.2.1.2.1 A_0 c_0,Yg r.2.2.1 A_1 c_1,Yc .u32 (Value.int .i64) b3 r.2.2.2.1,O3 r.2.2.2.2.1 A_2 c_2,Z7 b4 r.2.2.2.2.2.1 A_3 c_3 r.2.2.2.2.2.2,Z8 r.2.2.2.2.2.1 A_3 c_3]):=by
 refine Zo Tryz.func79 fun w0 F0 h0=>?_
 unfold Q20.f at H
 refine J.seq (Zb [0,1] ?_)
 refine J.seq (J.region ?_)
 refine Zh 2 ?_
 refine Ys Tryz.func128 ?_
 refine J.seq (Zb [0,1] ?_)
 refine J.seq (J.seq (J.region ?_))
 refine Zh 1 ?_
 obtain ⟨r1,q1,H⟩:=Zn H
 refine Ze (Zg [0,0,0,0,0,0,0,0] (Q23.spec q1) h0 rfl Zr) ?_
 rintro _ w1 ⟨_,⟨rfl,rfl⟩,h1⟩
 replace h1:=nf h1
 refine Zi [0,1,9] rfl ?_
 refine jIf H (fun c1 H=>?_) fun c1 H=>?_
 ·refine J.seq (Zb [4,5] ?_)
  refine J.ret (⟨_,Za,?_⟩)
  refine Zi [0,1,5,6] rfl ?_
  refine J.seq (J.seq (Zb [0,1,5,6,14] ?_))
  refine Zt ?_
  refine J.seq (Zb [4] ?_)
  refine J.ret ?_
  cases H
  exact ⟨_,_,_,Za,⟨_,_,_,_,_,_,_,_,rfl,rfl⟩,Zc h1 [0,0,0,0,0,0,0,0]⟩
 refine J.skip (J.seq (J.region ?_))
 refine Zh 3 ?_
 refine Zf (Zd 0 h1.wht) ?_
 refine Zh 1 ?_
 refine Zf (Xu (0:Int) 4 h1.wht) ?_
 refine Zi [0,6,7] rfl ?_
 refine J.seq (J.seq (J.region ?_))
 refine Zh 3 ?_
 refine Yj 21 H (fun c2 H=>?_) fun c2 H=>?_
 ·refine Zi [0,6,31] rfl ?_
  refine Zt ?_
  refine J.seq (Zb [4,5] ?_)
  refine J.ret (⟨_,Za,?_⟩)
  refine Zi [0,1,5,6] rfl ?_
  refine J.seq (J.seq (Zb [0,1,5,6,14] ?_))
  refine Zt ?_
  refine J.seq (Zb [4] ?_)
  refine J.ret ?_
  cases H
  exact ⟨_,_,_,Za,⟨_,_,_,_,_,_,_,_,rfl,rfl⟩,Zc h1 [0,0,0,0,0,0,0,0]⟩
 refine Zh 3 ?_
 refine Zf (Zd 0 h1.wht) ?_
 refine Zh 1 ?_
 obtain ⟨⟨p1,p2⟩,H⟩:=Zs H
 have e1:=Z6 h1.wh (gO 3) p1 p2
 refine Zf (Zl e1 p1 p2) ?_
 refine Zh 1 ?_
 refine Zf (Yq 3 h1.wht (gO 3) p1 p2) ?_
 refine Zi [0,6,31] rfl ?_
 refine jIf H (fun c3 H=>?_) fun c3 H=>?_
 ·refine J.seq (Zb [4,5] ?_)
  refine J.ret (⟨_,Za,?_⟩)
  refine Zi [0,1,5,6] rfl ?_
  refine J.seq (J.seq (Zb [0,1,5,6,14] ?_))
  refine Zt ?_
  refine J.seq (Zb [4] ?_)
  refine J.ret ?_
  cases H
  exact ⟨_,_,_,Za,⟨_,_,_,_,_,_,_,_,rfl,rfl⟩,Zc h1 [0,0,0,0,0,0,0,0]⟩
 refine J.skip (J.seq (J.region ?_))
 refine Zh 3 ?_
 refine Zf (Zd 0 h1.wht) ?_
 refine Zh 1 ?_
 refine Zf (Zl e1 p1 p2) ?_
 refine Zi [4,5] rfl ?_
 refine J.ret (⟨_,Za,?_⟩)
 refine Zi [0,1,5,6] rfl ?_
 refine J.seq (J.seq (Zb [0,1,5,6,14] ?_))
 refine Z4 ?_
 refine J.skip (J.seq (J.region ?_))
 refine Zh 3 ?_
 refine Zf (Yq 3 h1.wht (gO 3) p1 p2) ?_
 refine Zh 3 ?_
 refine Ze (Xx 3 (.pair (.int .u32) (.pair (.slice 5 (.int .u8)) (.pair .bool (.int .i64)))) (Zw (0:Int) a0.2.2.1 a1) ((gt a0.2.1 (Zw (0:Int) a0.2.2.1 a1)).1,(gt a0.2.1 (Zw (0:Int) a0.2.2.1 a1)).2.1,(gt a0.2.1 (Zw (0:Int) a0.2.2.1 a1)).2.2.1,(w64 (((gt a0.2.1 (Zw (0:Int) a0.2.2.1 a1)).2.2.2) - 1))) 3 h1 rfl p1 p2 (Uz rfl rfl)) ?_
 intro _ w2 h2
 replace h2:=nf h2
 replace h2:St w0 F0 [Yg (a0.2.1.set (Zw (0:Int) a0.2.2.1 a1).toNat ((gt a0.2.1 (Zw (0:Int) a0.2.2.1 a1)).1,(gt a0.2.1 (Zw (0:Int) a0.2.2.1 a1)).2.1,(gt a0.2.1 (Zw (0:Int) a0.2.2.1 a1)).2.2.1,(w64 (((gt a0.2.1 (Zw (0:Int) a0.2.2.1 a1)).2.2.2) - 1)))) A2 c_2,Yh b1 (.pointer (some ⟨b2,0,none⟩)) (a0.2.1.set (Zw (0:Int) a0.2.2.1 a1).toNat ((gt a0.2.1 (Zw (0:Int) a0.2.2.1 a1)).1,(gt a0.2.1 (Zw (0:Int) a0.2.2.1 a1)).2.1,(gt a0.2.1 (Zw (0:Int) a0.2.2.1 a1)).2.2.1,(w64 (((gt a0.2.1 (Zw (0:Int) a0.2.2.1 a1)).2.2.2) - 1)))) A2 c_2 (.map (some b3)) a0.2.2.2.1 A3 c_3 (.pointer (some ⟨b4,0,none⟩)),Yb b2 a0.1.1 a0.1.2.1 A1 c_1 a0.1.2.2.1 a0.1.2.2.2,O5 a0.1.2.1 A1 c_1,Yc .u32 (Value.int .i64) b3 a0.2.2.1,O3 a0.2.2.2.1 A3 c_3,Z7 b4 a0.2.2.2.2.1 A4 c_4 a0.2.2.2.2.2,Z8 a0.2.2.2.2.1 A4 c_4] _ _:=h2.retell (by simp only [List.length_set,List.length_nil,Yg,Z8,O3,O5,Yb,Yh,Z7] <;> rfl)
 refine Zi [0,1,5] rfl ?_
 refine J.seq (J.seq (J.region ?_))
 refine Zh 3 ?_
 refine Zf (Yq 3 h2.wht (gO 0) p1 (by simpa only [List.length_set] using p2)) ?_
 refine Zi [0,1,27] rfl ?_
 refine jIf H (fun c4 H=>?_) fun c4 H=>?_
 ·refine Zu (Zc h2 [0,0,0,0,0,0]) ?_
  have h3:=h2.drew
  refine Zv [0,1,2,4,5,6,8] ?_
  refine Zj 3 rfl (Zd 1 wI) ?_
  refine Zj 7 rfl (Zd 1 wI) ?_
  refine Zj 9 rfl (Ut (0:Int) 4 wI) ?_
  obtain ⟨r2,q2,H⟩:=Zn H
  refine Zp 10 rfl (Zg [6,6] (Q27.spec q2) h3 rfl Zr) ?_
  rintro _ w3 ⟨_,⟨A5,c_5,rfl,rfl⟩,h4⟩
  replace h4:=nf h4
  refine ⟨⟨[_,_],h4⟩,?_⟩
  refine Z0 [] ?_
  refine J.seq (Zb [4] ?_)
  refine J.ret ?_
  cases H
  exact ⟨_,_,_,Za,⟨_,_,_,_,_,_,_,_,rfl,rfl⟩,Zc h4 [3,3,3,2,2,2,0,0]⟩
 refine J.skip (J.seq (Zb [4] ?_))
 refine J.ret ?_
 cases H
 exact ⟨_,_,_,Za,⟨_,_,_,_,_,_,_,_,rfl,rfl⟩,Zc h2 [1,1,1,0,0,0,0,0]⟩

def Q91.f (a0:(Int×Int×Int×Int×Int×Int×Int×Int)×((Int×List (Int)×(Int×Int))×(List (Int×List (Int)×Bool×Int))×(List (Int×Int))×List (Int)×((List (Int×Int×Bool))×Int))×((Int×Int×List (Int)))×Int) (a1:Int) (a2:List (Int)):Option (Int×((Int×Int×Int×Int×Int×Int×Int×Int)×((Int×List (Int)×(Int×Int))×(List (Int×List (Int)×Bool×Int))×(List (Int×Int))×List (Int)×((List (Int×Int×Bool))×Int))×((Int×Int×List (Int)))×Int)):=if (decide (a1=a0.2.2.2))=true then ((Q21.f a0.2.1 a1 a2).bind fun r1=>(some (r1.1,(a0.1,r1.2,a0.2.2.1,a0.2.2.2)))) else ((Q17.f a0.2.1 a1).bind fun r2=>(if (!decide (r2.1=0))=true then (some (r2.1,(a0.1,r2.2,a0.2.2.1,a0.2.2.2))) else ((Q21.f r2.2 a1 a2).bind fun r3=>((Q20.f r3.2 a1).bind fun r4=>(some (r3.1,(a0.1,r4.2,a0.2.2.1,a0.2.2.2)))))))
theorem Q91.spec {a0:(Int×Int×Int×Int×Int×Int×Int×Int)×((Int×List (Int)×(Int×Int))×(List (Int×List (Int)×Bool×Int))×(List (Int×Int))×List (Int)×((List (Int×Int×Bool))×Int))×((Int×Int×List (Int)))×Int} {a1:Int} {a2:List (Int)} {A6:Option Addr} {c_6:Nat} {b1:Nat} {b2:Nat} {b3:Nat} {b4:Nat} {b5:Nat} {b6:Nat} {b7:Nat} {A1:Option Addr} {c_1:Nat} {A2:Option Addr} {c_2:Nat} {A3:Option Addr} {c_3:Nat} {A4:Option Addr} {c_4:Nat} {A5:Option Addr} {c_5:Nat} {r:Int×((Int×Int×Int×Int×Int×Int×Int×Int)×((Int×List (Int)×(Int×Int))×(List (Int×List (Int)×Bool×Int))×(List (Int×Int))×List (Int)×((List (Int×Int×Bool))×Int))×((Int×Int×List (Int)))×Int)} (H:Q91.f a0 a1 a2=some r) :
  Spec Tryz.prog 92 [.pointer (some ⟨b1,0,none⟩),.int .u32 a1,.slice A6 a2.length c_6] [X83 b1 a0.1.1 a0.1.2.1 a0.1.2.2.1 a0.1.2.2.2.1 a0.1.2.2.2.2.1 a0.1.2.2.2.2.2.1 a0.1.2.2.2.2.2.2.1 a0.1.2.2.2.2.2.2.2 (.pointer (some ⟨b3,0,none⟩)) (.pointer (some ⟨b2,0,none⟩)) (.pointer (some ⟨b6,0,none⟩)) a0.2.2.2,Yh b2 (.pointer (some ⟨b3,0,none⟩)) a0.2.1.2.1 A2 c_2 (.map (some b4)) a0.2.1.2.2.2.1 A3 c_3 (.pointer (some ⟨b5,0,none⟩)),Yb b3 a0.2.1.1.1 a0.2.1.1.2.1 A1 c_1 a0.2.1.1.2.2.1 a0.2.1.1.2.2.2,O5 a0.2.1.1.2.1 A1 c_1,Yg a0.2.1.2.1 A2 c_2,Yc .u32 (Value.int .i64) b4 a0.2.1.2.2.1,O3 a0.2.1.2.2.2.1 A3 c_3,Z7 b5 a0.2.1.2.2.2.2.1 A4 c_4 a0.2.1.2.2.2.2.2,Z8 a0.2.1.2.2.2.2.1 A4 c_4,Yw b6 (.pointer (some ⟨b7,0,none⟩)),Yk b7 a0.2.2.1.1 a0.2.2.1.2.1 a0.2.2.1.2.2 A5 c_5,O61 a0.2.2.1.2.2 A5 c_5] [R5 a2 A6 c_6] (fun v l=>∃(A_0:Option Addr) (c_0:Nat) (A_1:Option Addr) (c_1:Nat) (A_2:Option Addr) (c_2:Nat) (A_3:Option Addr) (c_3:Nat) (A_4:Option Addr) (c_4:Nat),v=.int .i64 r.1∧l=[X83 b1 r.2.1.1 r.2.1.2.1 r.2.1.2.2.1 r.2.1.2.2.2.1 r.2.1.2.2.2.2.1 r.2.1.2.2.2.2.2.1 r.2.1.2.2.2.2.2.2.1 r.2.1.2.2.2.2.2.2.2 (.pointer (some ⟨b3,0,none⟩)) (.pointer (some ⟨b2,0,none⟩)) (.pointer (some ⟨b6,0,none⟩)) r.2.2.2.2,Yh b2 (.pointer (some ⟨b3,0,none⟩)) r.2.2.1.2.1 A_1 c_1 (.map (some b4)) r.2.2.1.2.2.2.1 A_2 c_2 (.pointer (some ⟨b5,0,none⟩)),Yb b3 r.2.2.1.1.1 r.2.2.1.1.2.1 A_0 c_0 r.2.2.1.1.2.2.1 r.2.2.1.1.2.2.2,O5 r.2.2.1.1.2.1 A_0 c_0,Yg r.2.2.1.2.1 A_1 c_1,Yc .u32 (Value.int .i64) b4 r.2.2.1.2.2.1,O3 r.2.2.1.2.2.2.1 A_2 c_2,Z7 b5 r.2.2.1.2.2.2.2.1 A_3 c_3 r.2.2.1.2.2.2.2.2,Z8 r.2.2.1.2.2.2.2.1 A_3 c_3,Yw b6 (.pointer (some ⟨b7,0,none⟩)),Yk b7 r.2.2.2.1.1 r.2.2.2.1.2.1 r.2.2.2.1.2.2 A_4 c_4,O61 r.2.2.2.1.2.2 A_4 c_4]):=by
 refine Zo Tryz.func92 fun w0 F0 h0=>?_
 unfold Q91.f at H
 refine J.seq (Zb [0,1,2] ?_)
 refine J.seq (J.seq (J.region ?_))
 refine Zh 4 ?_
 refine Zf (Zd 0 h0.wht) ?_
 refine Zi [0,1,2,14] rfl ?_
 refine jIf H (fun c1 H=>?_) fun c1 H=>?_
 ·refine J.seq (J.region ?_)
  refine Zh 3 ?_
  refine Zf (Zd 0 h0.wht) ?_
  refine Zh 2 ?_
  obtain ⟨r1,q1,H⟩:=Zn H
  refine Ze (Zg [1,1,1,1,1,1,1,1] (Q21.spec q1) h0 rfl (Zy (Zk 4) Zr)) ?_
  rintro _ w1 ⟨_,⟨A7,c_7,A8,c_8,A9,c_9,A10,c_10,rfl,rfl⟩,h1⟩
  replace h1:=nf h1
  refine Zi [6] rfl ?_
  refine J.ret ?_
  cases H
  exact ⟨_,_,_,Za,⟨_,_,_,_,_,_,_,_,_,_,rfl,rfl⟩,Zc h1 [8,0,0,0,0,0,0,0,0,0,0,0]⟩
 refine J.skip (J.seq (J.seq (J.region ?_)))
 refine Zh 3 ?_
 refine Zf (Zd 0 h0.wht) ?_
 refine Zh 1 ?_
 obtain ⟨r2,q2,H⟩:=Zn H
 refine Ze (Zg [1,1,1,1,1,1,1,1] (Q17.spec q2) h0 rfl Zr) ?_
 rintro _ w2 ⟨_,⟨A11,c_11,A12,c_12,A13,c_13,A14,c_14,rfl,rfl⟩,h2⟩
 replace h2:=nf h2
 refine Zi [0,1,2,7] rfl ?_
 refine J.seq (Zb [0,1,2,7,29] ?_)
 refine jIf H (fun c2 H=>?_) fun c2 H=>?_
 ·refine J.seq (Zb [6] ?_)
  refine J.ret ?_
  cases H
  exact ⟨_,_,_,Za,⟨_,_,_,_,_,_,_,_,_,_,rfl,rfl⟩,Zc h2 [8,0,0,0,0,0,0,0,0,0,0,0]⟩
 refine J.skip (J.seq (J.region ?_))
 refine Zh 3 ?_
 refine Zf (Zd 8 h2.wht) ?_
 refine Zh 2 ?_
 obtain ⟨r3,q3,H⟩:=Zn H
 refine Ze (Zg [0,0,0,0,0,0,0,0] (Q21.spec q3) h2 rfl (Zy (Zk 4) Zr)) ?_
 rintro _ w3 ⟨_,⟨A15,c_15,A16,c_16,A17,c_17,A18,c_18,rfl,rfl⟩,h3⟩
 replace h3:=nf h3
 refine Zi [0,1,8] rfl ?_
 refine J.seq (J.region ?_)
 refine Zh 3 ?_
 refine Zf (Zd 8 h3.wht) ?_
 refine Zh 1 ?_
 obtain ⟨r4,q4,H⟩:=Zn H
 refine Ze (Zg [0,0,0,0,0,0,0,0] (Q20.spec q4) h3 rfl Zr) ?_
 rintro _ w4 ⟨_,⟨A19,c_19,A20,c_20,A21,c_21,A22,c_22,rfl,rfl⟩,h4⟩
 replace h4:=nf h4
 refine Zi [8] rfl ?_
 refine J.seq (Zb [6] ?_)
 refine J.ret ?_
 cases H
 exact ⟨_,_,_,Za,⟨_,_,_,_,_,_,_,_,_,_,rfl,rfl⟩,Zc h4 [8,0,0,0,0,0,0,0,0,0,0,0]⟩

def Q3.f (a0:Int×Int×List (Int)) (a1:Int):Option (Int×(Int×Int×List (Int))):=(Q10.f a0 a1).bind fun r1=>(if (!decide (r1=0))=true then (some (r1,a0)) else ((Q6.f a0 a1).bind fun r2=>(if (!r2)=true then (some (9,a0)) else (if 0≤(w64 (Int.tdiv a1 64))∧(w64 (Int.tdiv a1 64))<(a0.2.2.length:Int) then (if 0≤(Int.tmod a1 64) then (some (0,(a0.1,(w64 (a0.2.1 - 1)),(a0.2.2.set (w64 (Int.tdiv a1 64)).toNat (IntKind.u64.wrap (((BitVec.ofInt IntKind.u64.bits (gt a0.2.2 (w64 (Int.tdiv a1 64))) &&& ~~~(BitVec.ofInt IntKind.u64.bits (IntKind.u64.wrap ((1:Int)*2 ^ (min (Int.tmod a1 64).toNat 64))))).toNat:Int))))))) else none) else none))))
theorem Q3.spec {a0:Int×Int×List (Int)} {a1:Int} {b1:Nat} {A1:Option Addr} {c_1:Nat} {r:Int×(Int×Int×List (Int))} (H:Q3.f a0 a1=some r) :
  Spec Tryz.prog 141 [.pointer (some ⟨b1,0,none⟩),.int .i64 a1] [Yk b1 a0.1 a0.2.1 a0.2.2 A1 c_1,O61 a0.2.2 A1 c_1] [] (fun v l=>∃(A_0:Option Addr) (c_0:Nat),v=.int .i64 r.1∧l=[Yk b1 r.2.1 r.2.2.1 r.2.2.2 A_0 c_0,O61 r.2.2.2 A_0 c_0]):=by
 refine Zo Tryz.func141 fun w0 F0 h0=>?_
 unfold Q3.f at H
 refine J.seq (Zb [0,1] ?_)
 refine J.seq (J.seq (J.region ?_))
 refine Zh 2 ?_
 obtain ⟨r1,q1,H⟩:=Zn H
 refine Ze (Zg [0,0] (Q10.spec q1) h0 rfl Zr) ?_
 rintro _ w1 ⟨_,⟨rfl,rfl⟩,h1⟩
 replace h1:=nf h1
 refine Zi [0,1,5] rfl ?_
 refine J.seq (Zb [0,1,5,10] ?_)
 refine jIf H (fun c1 H=>?_) fun c1 H=>?_
 ·refine J.seq (Zb [4] ?_)
  refine J.ret ?_
  cases H
  exact ⟨_,_,_,Za,⟨_,_,rfl,rfl⟩,Zc h1 [0,0]⟩
 refine J.skip (J.seq (J.seq (J.region ?_)))
 refine Zh 2 ?_
 obtain ⟨r2,q2,H⟩:=Zn H
 refine Ze (Zg [0,0] (Q6.spec q2) h1 rfl Zr) ?_
 rintro _ w2 ⟨_,⟨rfl,rfl⟩,h2⟩
 replace h2:=nf h2
 refine Zi [0,1,15] rfl ?_
 refine jIf H (fun c2 H=>?_) fun c2 H=>?_
 ·refine J.seq (Zb [4] ?_)
  refine J.ret ?_
  cases H
  exact ⟨_,_,_,Za,⟨_,_,rfl,rfl⟩,Zc h2 [0,0]⟩
 refine J.skip (J.seq ?_)
 obtain ⟨⟨p1,p2⟩,H⟩:=Zs H
 obtain ⟨p3,H⟩:=Zs H
 refine J.midS (fun env w=>env=[(0,.pointer (some ⟨b1,0,none⟩))]∧St w0 F0 [Yk b1 a0.1 a0.2.1 (a0.2.2.set (w64 (Int.tdiv a1 64)).toNat (IntKind.u64.wrap (((BitVec.ofInt IntKind.u64.bits (gt a0.2.2 (w64 (Int.tdiv a1 64))) &&& ~~~(BitVec.ofInt IntKind.u64.bits (IntKind.u64.wrap ((1:Int)*2 ^ (min (Int.tmod a1 64).toNat 64))))).toNat:Int)))) A1 c_1,O61 (a0.2.2.set (w64 (Int.tdiv a1 64)).toNat (IntKind.u64.wrap (((BitVec.ofInt IntKind.u64.bits (gt a0.2.2 (w64 (Int.tdiv a1 64))) &&& ~~~(BitVec.ofInt IntKind.u64.bits (IntKind.u64.wrap ((1:Int)*2 ^ (min (Int.tmod a1 64).toNat 64))))).toNat:Int)))) A1 c_1] [] w) ?_ ?_
 ·refine Zu (Zc h2 [0]) ?_
  have h4:=h2.drew
  refine Zv [0,1,2,4,5,8,9] ?_
  refine Zj 3 rfl (Zd 0 wI) ?_
  have e2:=Z6 h4.wh (gO 1) p1 p2
  refine Zj 6 rfl (Zl e2 p1 p2) ?_
  refine HJ.pick [7,10] (i:=7) rfl rfl rfl rfl ?_
  refine (Yi ?_ (Yi ?_ Xj))
  ·refine Z5 7 rfl (OpT.ofq (Zm 0 h4.wht (gO 1) p1 p2)) ?_
   rintro _ _ ⟨rfl,rfl⟩
   replace h4:=nf h4
   refine ⟨⟨[_],(Zc h4 [1,0])⟩,?_⟩
   refine Zj 10 rfl (Ji p3) ?_
   refine Zv [11] ?_
   refine Zj 12 rfl (Zl e2 p1 p2) ?_
   refine Zp 13 rfl (Zq 0 (.int .u64) (w64 (Int.tdiv a1 64)) (IntKind.u64.wrap (((BitVec.ofInt IntKind.u64.bits (gt a0.2.2 (w64 (Int.tdiv a1 64))) &&& ~~~(BitVec.ofInt IntKind.u64.bits (IntKind.u64.wrap ((1:Int)*2 ^ (min (Int.tmod a1 64).toNat 64))))).toNat:Int))) 1 h4 rfl p1 p2) ?_
   intro _ w4 h5
   replace h5:=nf h5
   refine ⟨⟨[_],h5⟩,?_⟩
   replace h5:St w0 F0 [O61 (a0.2.2.set (w64 (Int.tdiv a1 64)).toNat (IntKind.u64.wrap (((BitVec.ofInt IntKind.u64.bits (gt a0.2.2 (w64 (Int.tdiv a1 64))) &&& ~~~(BitVec.ofInt IntKind.u64.bits (IntKind.u64.wrap ((1:Int)*2 ^ (min (Int.tmod a1 64).toNat 64))))).toNat:Int)))) A1 c_1,Yk b1 a0.1 a0.2.1 (a0.2.2.set (w64 (Int.tdiv a1 64)).toNat (IntKind.u64.wrap (((BitVec.ofInt IntKind.u64.bits (gt a0.2.2 (w64 (Int.tdiv a1 64))) &&& ~~~(BitVec.ofInt IntKind.u64.bits (IntKind.u64.wrap ((1:Int)*2 ^ (min (Int.tmod a1 64).toNat 64))))).toNat:Int)))) A1 c_1] _ _:=h5.retell (by simp only [List.length_set,List.length_nil,O61,Yk] <;> rfl)
   refine Z0 [0] ?_
   exact Zz ⟨(by simp only [List.length_set,List.length_nil] <;> rfl),((h5.only [1,0] rfl).rds [] rfl)⟩
  ·refine HS.op (i:=10) rfl rfl rfl (OpT.ofq (Zg9 rfl rfl rfl p3)) ?_; rintro _ _ ⟨rfl,rfl⟩; replace h4:St w0 F0 [_,_] _ _:=h4; refine ⟨⟨[_],(h4.only [1,0] rfl)⟩,?_⟩
   refine Zp 7 rfl (OpT.ofq (Zm 0 h4.wht (gO 1) p1 p2)) ?_
   rintro _ _ ⟨rfl,rfl⟩
   replace h4:=nf h4
   refine ⟨⟨[_],(Zc h4 [1,0])⟩,?_⟩
   refine Zv [11] ?_
   refine Zj 12 rfl (Zl e2 p1 p2) ?_
   refine Zp 13 rfl (Zq 0 (.int .u64) (w64 (Int.tdiv a1 64)) (IntKind.u64.wrap (((BitVec.ofInt IntKind.u64.bits (gt a0.2.2 (w64 (Int.tdiv a1 64))) &&& ~~~(BitVec.ofInt IntKind.u64.bits (IntKind.u64.wrap ((1:Int)*2 ^ (min (Int.tmod a1 64).toNat 64))))).toNat:Int))) 1 h4 rfl p1 p2) ?_
   intro _ w5 h6
   replace h6:=nf h6
   refine ⟨⟨[_],h6⟩,?_⟩
   replace h6:St w0 F0 [O61 (a0.2.2.set (w64 (Int.tdiv a1 64)).toNat (IntKind.u64.wrap (((BitVec.ofInt IntKind.u64.bits (gt a0.2.2 (w64 (Int.tdiv a1 64))) &&& ~~~(BitVec.ofInt IntKind.u64.bits (IntKind.u64.wrap ((1:Int)*2 ^ (min (Int.tmod a1 64).toNat 64))))).toNat:Int)))) A1 c_1,Yk b1 a0.1 a0.2.1 (a0.2.2.set (w64 (Int.tdiv a1 64)).toNat (IntKind.u64.wrap (((BitVec.ofInt IntKind.u64.bits (gt a0.2.2 (w64 (Int.tdiv a1 64))) &&& ~~~(BitVec.ofInt IntKind.u64.bits (IntKind.u64.wrap ((1:Int)*2 ^ (min (Int.tmod a1 64).toNat 64))))).toNat:Int)))) A1 c_1] _ _:=h6.retell (by simp only [List.length_set,List.length_nil,O61,Yk] <;> rfl)
   refine Z0 [0] ?_
   exact Zz ⟨(by simp only [List.length_set,List.length_nil] <;> rfl),((h6.only [1,0] rfl).rds [] rfl)⟩
 rintro env w6 ⟨rfl,h7⟩
 refine J.seq (J.region ?_)
 refine Zh 3 ?_
 refine Zf (Zd 0 h7.wht) ?_
 refine Zh 3 ?_
 refine Ze (Z3 0 h7) ?_
 intro _ w7 h8
 replace h8:=nf h8
 refine Zi [] rfl ?_
 refine J.seq (Zb [4] ?_)
 refine J.ret ?_
 cases H
 exact ⟨_,_,_,Za,⟨_,_,rfl,rfl⟩,Zc h8 [0,0]⟩

def Q75.f (a0:(Int×Int×List (Int))) (a1:Int):Option (Int×((Int×Int×List (Int)))):=(Q80.f a0).bind fun r1=>(if r1=true then (some (1,a0)) else (if (decide (a1=0))=true then (some (2,a0)) else ((Q3.f a0 (w64 (a1))).bind fun r2=>(some r2))))
theorem Q75.spec {a0:(Int×Int×List (Int))} {a1:Int} {b1:Nat} {b2:Nat} {A1:Option Addr} {c_1:Nat} {r:Int×((Int×Int×List (Int)))} (H:Q75.f a0 a1=some r) :
  Spec Tryz.prog 93 [.pointer (some ⟨b1,0,none⟩),.int .u32 a1] [Yw b1 (.pointer (some ⟨b2,0,none⟩)),Yk b2 a0.1 a0.2.1 a0.2.2 A1 c_1,O61 a0.2.2 A1 c_1] [] (fun v l=>∃(A_0:Option Addr) (c_0:Nat),v=.int .i64 r.1∧l=[Yw b1 (.pointer (some ⟨b2,0,none⟩)),Yk b2 r.2.1 r.2.2.1 r.2.2.2 A_0 c_0,O61 r.2.2.2 A_0 c_0]):=by
 refine Zo Tryz.func93 fun w0 F0 h0=>?_
 unfold Q75.f at H
 refine J.seq (Zb [0,1] ?_)
 refine J.seq (J.block (J.seq (J.region ?_)))
 refine Zh 1 ?_
 obtain ⟨r1,q1,H⟩:=Zn H
 refine Ze (Zg [0,0,0] (Q80.spec q1) h0 rfl Zr) ?_
 rintro _ w1 ⟨_,⟨rfl,rfl⟩,h1⟩
 replace h1:=nf h1
 refine Zi [0,1,5] rfl ?_
 refine jIf H (fun c1 H=>?_) fun c1 H=>?_
 ·refine J.seq (Zb [4] ?_)
  refine J.ret ?_
  cases H
  exact ⟨_,_,_,Za,⟨_,_,rfl,rfl⟩,Zc h1 [0,0,0]⟩
 refine J.seq (Zb [0,1,8] ?_)
 refine jIf H (fun c2 H=>?_) fun c2 H=>?_
 ·refine J.seq (Zb [4] ?_)
  refine J.ret ?_
  cases H
  exact ⟨_,_,_,Za,⟨_,_,rfl,rfl⟩,Zc h1 [0,0,0]⟩
 refine J.skip (J.seq (J.region ?_))
 refine Zh 3 ?_
 refine Zf (Zd 0 h1.wht) ?_
 refine Zh 2 ?_
 obtain ⟨r2,q2,H⟩:=Zn H
 refine Ze (Zg [1,1] (Q3.spec q2) h1 rfl Zr) ?_
 rintro _ w2 ⟨_,⟨A2,c_2,rfl,rfl⟩,h2⟩
 replace h2:=nf h2
 refine Zi [4] rfl ?_
 refine J.ret ?_
 cases H
 exact ⟨_,_,_,Za,⟨_,_,rfl,rfl⟩,Zc h2 [2,0,0]⟩

def Q88.f (k:Nat) (a0:(Int×Int×Int×Int×Int×Int×Int×Int)×((Int×List (Int)×(Int×Int))×(List (Int×List (Int)×Bool×Int))×(List (Int×Int))×List (Int)×((List (Int×Int×Bool))×Int))×((Int×Int×List (Int)))×Int) (a1:Int×List (Int)×List (List UInt8)×(List (List UInt8×Bool×List UInt8))×(List (List UInt8×List UInt8))):Option (Int×Int×((Int×Int×Int×Int×Int×Int×Int×Int)×((Int×List (Int)×(Int×Int))×(List (Int×List (Int)×Bool×Int))×(List (Int×Int))×List (Int)×((List (Int×Int×Bool))×Int))×((Int×Int×List (Int)))×Int)):=(Q92.f a0).bind fun r1=>(if (!decide (r1=0))=true then (some (0,r1,a0)) else ((Q38.f k a0.1 a1).bind fun r2=>(if (!decide (r2.2=0))=true then (some (0,r2.2,a0)) else ((Q79.f k a0.2.2.1).bind fun r3=>(if (!decide (r3.2.1=0))=true then (some (0,r3.2.1,(a0.1,a0.2.1,r3.2.2,a0.2.2.2))) else ((Q91.f (a0.1,a0.2.1,r3.2.2,a0.2.2.2) r3.1 r2.1).bind fun r4=>(if (!decide (r4.1=0))=true then ((Q75.f r4.2.2.2.1 r3.1).bind fun r5=>(some (0,r4.1,(r4.2.1,r4.2.2.1,r5.2,r4.2.2.2.2)))) else (some (r3.1,0,r4.2)))))))))
theorem Q88.spec {k:Nat} {a0:(Int×Int×Int×Int×Int×Int×Int×Int)×((Int×List (Int)×(Int×Int))×(List (Int×List (Int)×Bool×Int))×(List (Int×Int))×List (Int)×((List (Int×Int×Bool))×Int))×((Int×Int×List (Int)))×Int} {a1:Int×List (Int)×List (List UInt8)×(List (List UInt8×Bool×List UInt8))×(List (List UInt8×List UInt8))} {A6:Option Addr} {c_6:Nat} {A7:Option Addr} {c_7:Nat} {A8:Option Addr} {c_8:Nat} {A9:Option Addr} {c_9:Nat} {b1:Nat} {b2:Nat} {b3:Nat} {b4:Nat} {b5:Nat} {b6:Nat} {b7:Nat} {A1:Option Addr} {c_1:Nat} {A2:Option Addr} {c_2:Nat} {A3:Option Addr} {c_3:Nat} {A4:Option Addr} {c_4:Nat} {A5:Option Addr} {c_5:Nat} {r:Int×Int×((Int×Int×Int×Int×Int×Int×Int×Int)×((Int×List (Int)×(Int×Int))×(List (Int×List (Int)×Bool×Int))×(List (Int×Int))×List (Int)×((List (Int×Int×Bool))×Int))×((Int×Int×List (Int)))×Int)} (H:Q88.f k a0 a1=some r) :
  Spec Tryz.prog 39 [.pointer (some ⟨b1,0,none⟩),.agg #[.int .i64 a1.1,.slice A6 a1.2.1.length c_6,.slice A7 a1.2.2.1.length c_7,.slice A8 a1.2.2.2.1.length c_8,.slice A9 a1.2.2.2.2.length c_9]] [X83 b1 a0.1.1 a0.1.2.1 a0.1.2.2.1 a0.1.2.2.2.1 a0.1.2.2.2.2.1 a0.1.2.2.2.2.2.1 a0.1.2.2.2.2.2.2.1 a0.1.2.2.2.2.2.2.2 (.pointer (some ⟨b3,0,none⟩)) (.pointer (some ⟨b2,0,none⟩)) (.pointer (some ⟨b6,0,none⟩)) a0.2.2.2,Yh b2 (.pointer (some ⟨b3,0,none⟩)) a0.2.1.2.1 A2 c_2 (.map (some b4)) a0.2.1.2.2.2.1 A3 c_3 (.pointer (some ⟨b5,0,none⟩)),Yb b3 a0.2.1.1.1 a0.2.1.1.2.1 A1 c_1 a0.2.1.1.2.2.1 a0.2.1.1.2.2.2,O5 a0.2.1.1.2.1 A1 c_1,Yg a0.2.1.2.1 A2 c_2,Yc .u32 (Value.int .i64) b4 a0.2.1.2.2.1,O3 a0.2.1.2.2.2.1 A3 c_3,Z7 b5 a0.2.1.2.2.2.2.1 A4 c_4 a0.2.1.2.2.2.2.2,Z8 a0.2.1.2.2.2.2.1 A4 c_4,Yw b6 (.pointer (some ⟨b7,0,none⟩)),Yk b7 a0.2.2.1.1 a0.2.2.1.2.1 a0.2.2.1.2.2 A5 c_5,O61 a0.2.2.1.2.2 A5 c_5] [R33 a1.2.1 A6 c_6,R9 a1.2.2.1 A7 c_7,Xw a1.2.2.2.1 A8 c_8,Xv a1.2.2.2.2 A9 c_9,tabC 0] (fun v l=>∃(A_0:Option Addr) (c_0:Nat) (A_1:Option Addr) (c_1:Nat) (A_2:Option Addr) (c_2:Nat) (A_3:Option Addr) (c_3:Nat) (A_4:Option Addr) (c_4:Nat),v=.tuple #[.int .u32 r.1,.int .i64 r.2.1]∧l=[X83 b1 r.2.2.1.1 r.2.2.1.2.1 r.2.2.1.2.2.1 r.2.2.1.2.2.2.1 r.2.2.1.2.2.2.2.1 r.2.2.1.2.2.2.2.2.1 r.2.2.1.2.2.2.2.2.2.1 r.2.2.1.2.2.2.2.2.2.2 (.pointer (some ⟨b3,0,none⟩)) (.pointer (some ⟨b2,0,none⟩)) (.pointer (some ⟨b6,0,none⟩)) r.2.2.2.2.2,Yh b2 (.pointer (some ⟨b3,0,none⟩)) r.2.2.2.1.2.1 A_1 c_1 (.map (some b4)) r.2.2.2.1.2.2.2.1 A_2 c_2 (.pointer (some ⟨b5,0,none⟩)),Yb b3 r.2.2.2.1.1.1 r.2.2.2.1.1.2.1 A_0 c_0 r.2.2.2.1.1.2.2.1 r.2.2.2.1.1.2.2.2,O5 r.2.2.2.1.1.2.1 A_0 c_0,Yg r.2.2.2.1.2.1 A_1 c_1,Yc .u32 (Value.int .i64) b4 r.2.2.2.1.2.2.1,O3 r.2.2.2.1.2.2.2.1 A_2 c_2,Z7 b5 r.2.2.2.1.2.2.2.2.1 A_3 c_3 r.2.2.2.1.2.2.2.2.2,Z8 r.2.2.2.1.2.2.2.2.1 A_3 c_3,Yw b6 (.pointer (some ⟨b7,0,none⟩)),Yk b7 r.2.2.2.2.1.1 r.2.2.2.2.1.2.1 r.2.2.2.2.1.2.2 A_4 c_4,O61 r.2.2.2.2.1.2.2 A_4 c_4]):=by
 refine Zo Tryz.func39 fun w0 F0 h0=>?_
 unfold Q88.f at H
 refine J.seq (J.region ?_)
 refine Ze (Ym h0) ?_
 rintro _ w1 ⟨b8,rfl,h1⟩
 replace h1:=nf h1
 refine Zi [0,3] rfl ?_
 refine J.seq (J.seq (J.region ?_))
 refine Zh 1 ?_
 obtain ⟨r1,q1,H⟩:=Zn H
 refine Ze (Zg [1,1,1,1,1,1,1,1,1,1,1,1] (Q92.spec q1) h1 rfl Zr) ?_
 rintro _ w2 ⟨_,⟨rfl,rfl⟩,h2⟩
 replace h2:=nf h2
 refine Zi [0,3,6] rfl ?_
 refine J.seq (Zb [0,3,6,14] ?_)
 refine jIf H (fun c1 H=>?_) fun c1 H=>?_
 ·refine J.seq (Zb [4,5] ?_)
  refine J.ret ?_
  cases H
  exact ⟨_,_,_,Za,⟨_,_,_,_,_,_,_,_,_,_,rfl,rfl⟩,Zc h2 [0,0,0,0,0,0,0,0,0,0,0,0]⟩
 refine J.skip (J.seq (Zu h2 ?_))
 have h3:=h2.drew
 refine Zv [0,1,2] ?_
 refine Zj 3 rfl (Zd 0 wI) ?_
 refine Zj 4 rfl (Zd 12 wI) ?_
 obtain ⟨r2,q2,H⟩:=Zn H
 refine Zp 5 rfl (Zg [] (Q38.spec q2) h3 rfl (Zy (Zk 13) (Zy (Zk 14) (Zy (Zk 15) (Zy (Zk 16) Zr))))) ?_
 rintro _ w3 ⟨_,⟨A10,c_10,rfl,rfl⟩,h4⟩
 replace h4:=nf h4
 refine ⟨⟨[_],h4⟩,?_⟩
 refine Zv [6,7,8,9,10] ?_
 refine Z0 [0,7,8] ?_
 refine J.seq (J.seq (Zb [0,7,8,26] ?_))
 refine jIf H (fun c2 H=>?_) fun c2 H=>?_
 ·refine J.seq (Zb [4,5] ?_)
  have h5:=Zc h4 [1,1,1,1,1,1,1,1,1,1,1,1]
  replace h5:=nf h5
  refine J.ret ?_
  cases H
  exact ⟨_,_,_,Za,⟨_,_,_,_,_,_,_,_,_,_,rfl,rfl⟩,Zc h5 [0,0,0,0,0,0,0,0,0,0,0,0]⟩
 refine J.skip (J.seq (J.region ?_))
 refine Zh 3 ?_
 refine Zf (Zd 1 h4.wht) ?_
 obtain ⟨r3,q3,H⟩:=Zn H
 refine Ze (Zg [10,10,10] (Q79.spec q3) h4 rfl (Zy (Zk 15) Zr)) ?_
 rintro _ w4 ⟨_,⟨A11,c_11,rfl,rfl⟩,h6⟩
 replace h6:=nf h6
 refine Zi [0,7,8,9] rfl ?_
 refine J.seq (J.seq (Zb [0,7,8,9,37] ?_))
 refine jIf H (fun c3 H=>?_) fun c3 H=>?_
 ·refine J.seq (Zb [4,5] ?_)
  have h7:=Zc h6 [0,0,0,1,1,1,1,1,1,1,1,1]
  replace h7:=nf h7
  refine J.ret ?_
  cases H
  exact ⟨_,_,_,Za,⟨_,_,_,_,_,_,_,_,_,_,rfl,rfl⟩,Zc h7 [3,3,3,3,3,3,3,3,3,0,0,0]⟩
 refine J.skip (J.seq (J.seq (J.region ?_)))
 refine Zh 3 ?_
 obtain ⟨r4,q4,H⟩:=Zn H
 refine Ze (Zg [4,4,4,4,4,4,4,4,4,0,0,0] (Q91.spec q4) h6 rfl (Zy (gO 0) Zr)) ?_
 rintro _ w5 ⟨_,⟨A12,c_12,A13,c_13,A14,c_14,A15,c_15,A16,c_16,rfl,rfl⟩,h8⟩
 replace h8:=nf h8
 refine Zi [0,9,10] rfl ?_
 have h9:=Zc h8 [0,0,0,0,0,0,0,0,0,0,0,0]
 replace h9:=nf h9
 refine J.seq (Zb [0,9,10,44] ?_)
 refine jIf H (fun c4 H=>?_) fun c4 H=>?_
 ·refine J.seq (J.region ?_)
  refine Zh 3 ?_
  refine Zf (Zd 0 h9.wht) ?_
  refine Zh 1 ?_
  obtain ⟨r5,q5,H⟩:=Zn H
  refine Ze (Zg [9,9,9] (Q75.spec q5) h9 rfl Zr) ?_
  rintro _ w6 ⟨_,⟨A17,c_17,rfl,rfl⟩,h10⟩
  replace h10:=nf h10
  refine Zi [10] rfl ?_
  refine J.seq (Zb [4,5] ?_)
  refine J.ret ?_
  cases H
  exact ⟨_,_,_,Za,⟨_,_,_,_,_,_,_,_,_,_,rfl,rfl⟩,Zc h10 [3,3,3,3,3,3,3,3,3,0,0,0]⟩
 refine J.skip (J.seq (Zb [4,5] ?_))
 refine J.ret ?_
 cases H
 exact ⟨_,_,_,Za,⟨_,_,_,_,_,_,_,_,_,_,rfl,rfl⟩,Zc h9 [0,0,0,0,0,0,0,0,0,0,0,0]⟩

def Q93.f (a0:(Int×Int×Int×Int×Int×Int×Int×Int)×((Int×List (Int)×(Int×Int))×(List (Int×List (Int)×Bool×Int))×(List (Int×Int))×List (Int)×((List (Int×Int×Bool))×Int))×((Int×Int×List (Int)))×Int) (a1:Int):Option (Int):=if (decide (a1=0))=true then (some 4) else (if (decide (a0.1.1≤(w64 (a1))))=true then (some 4) else (some 0))
theorem Q93.spec {a0:(Int×Int×Int×Int×Int×Int×Int×Int)×((Int×List (Int)×(Int×Int))×(List (Int×List (Int)×Bool×Int))×(List (Int×Int))×List (Int)×((List (Int×Int×Bool))×Int))×((Int×Int×List (Int)))×Int} {a1:Int} {b1:Nat} {b2:Nat} {b3:Nat} {b4:Nat} {b5:Nat} {b6:Nat} {b7:Nat} {A1:Option Addr} {c_1:Nat} {A2:Option Addr} {c_2:Nat} {A3:Option Addr} {c_3:Nat} {A4:Option Addr} {c_4:Nat} {A5:Option Addr} {c_5:Nat} {r:Int} (H:Q93.f a0 a1=some r) :
  Spec Tryz.prog 76 [.pointer (some ⟨b1,0,none⟩),.int .u32 a1] [X83 b1 a0.1.1 a0.1.2.1 a0.1.2.2.1 a0.1.2.2.2.1 a0.1.2.2.2.2.1 a0.1.2.2.2.2.2.1 a0.1.2.2.2.2.2.2.1 a0.1.2.2.2.2.2.2.2 (.pointer (some ⟨b3,0,none⟩)) (.pointer (some ⟨b2,0,none⟩)) (.pointer (some ⟨b6,0,none⟩)) a0.2.2.2,Yh b2 (.pointer (some ⟨b3,0,none⟩)) a0.2.1.2.1 A2 c_2 (.map (some b4)) a0.2.1.2.2.2.1 A3 c_3 (.pointer (some ⟨b5,0,none⟩)),Yb b3 a0.2.1.1.1 a0.2.1.1.2.1 A1 c_1 a0.2.1.1.2.2.1 a0.2.1.1.2.2.2,O5 a0.2.1.1.2.1 A1 c_1,Yg a0.2.1.2.1 A2 c_2,Yc .u32 (Value.int .i64) b4 a0.2.1.2.2.1,O3 a0.2.1.2.2.2.1 A3 c_3,Z7 b5 a0.2.1.2.2.2.2.1 A4 c_4 a0.2.1.2.2.2.2.2,Z8 a0.2.1.2.2.2.2.1 A4 c_4,Yw b6 (.pointer (some ⟨b7,0,none⟩)),Yk b7 a0.2.2.1.1 a0.2.2.1.2.1 a0.2.2.1.2.2 A5 c_5,O61 a0.2.2.1.2.2 A5 c_5] [] (fun v l=>v=.int .i64 r∧l=[X83 b1 a0.1.1 a0.1.2.1 a0.1.2.2.1 a0.1.2.2.2.1 a0.1.2.2.2.2.1 a0.1.2.2.2.2.2.1 a0.1.2.2.2.2.2.2.1 a0.1.2.2.2.2.2.2.2 (.pointer (some ⟨b3,0,none⟩)) (.pointer (some ⟨b2,0,none⟩)) (.pointer (some ⟨b6,0,none⟩)) a0.2.2.2,Yh b2 (.pointer (some ⟨b3,0,none⟩)) a0.2.1.2.1 A2 c_2 (.map (some b4)) a0.2.1.2.2.2.1 A3 c_3 (.pointer (some ⟨b5,0,none⟩)),Yb b3 a0.2.1.1.1 a0.2.1.1.2.1 A1 c_1 a0.2.1.1.2.2.1 a0.2.1.1.2.2.2,O5 a0.2.1.1.2.1 A1 c_1,Yg a0.2.1.2.1 A2 c_2,Yc .u32 (Value.int .i64) b4 a0.2.1.2.2.1,O3 a0.2.1.2.2.2.1 A3 c_3,Z7 b5 a0.2.1.2.2.2.2.1 A4 c_4 a0.2.1.2.2.2.2.2,Z8 a0.2.1.2.2.2.2.1 A4 c_4,Yw b6 (.pointer (some ⟨b7,0,none⟩)),Yk b7 a0.2.2.1.1 a0.2.2.1.2.1 a0.2.2.1.2.2 A5 c_5,O61 a0.2.2.1.2.2 A5 c_5]):=by
 refine Zo Tryz.func76 fun w0 F0 h0=>?_
 unfold Q93.f at H
 refine J.seq (Zb [0,1] ?_)
 refine J.seq (J.block (J.seq (J.region ?_)))
 refine Zh 6 ?_
 refine Zf (Zd 0 h0.wht) ?_
 refine Zi [0,1,5] rfl ?_
 refine Z4 ?_
 refine J.seq (J.region ?_)
 refine Zh 3 ?_
 refine Yj 18 H (fun c1 H=>?_) fun c1 H=>?_
 ·refine Zi [15] rfl ?_
  refine Zt ?_
  refine J.seq (Zb [4] ?_)
  refine J.ret ?_
  cases H
  exact ⟨_,_,_,Za,⟨rfl,rfl⟩,Zc h0 [0,0,0,0,0,0,0,0,0,0,0,0]⟩
 refine Zh 6 ?_
 refine Zf (Zd 0 h0.wht) ?_
 refine Zi [15] rfl ?_
 refine jIf H (fun c2 H=>?_) fun c2 H=>?_
 ·refine J.seq (Zb [4] ?_)
  refine J.ret ?_
  cases H
  exact ⟨_,_,_,Za,⟨rfl,rfl⟩,Zc h0 [0,0,0,0,0,0,0,0,0,0,0,0]⟩
 refine J.skip (J.seq (Zb [4] ?_))
 refine J.ret ?_
 cases H
 exact ⟨_,_,_,Za,⟨rfl,rfl⟩,Zc h0 [0,0,0,0,0,0,0,0,0,0,0,0]⟩

def Q55.f (a0:Int×List (Int)×(Int×Int)) (a1:Int):Option (List (Int)×Int×(Int×List (Int)×(Int×Int))):=(Q53.f a0).bind fun r1=>(if (decide (r1=0))=true then (some (([]:List (Int)),1,a0)) else ((Q53.f a0).bind fun r2=>(if (decide (r2≤(w64 (a1))))=true then (some (([]:List (Int)),4,a0)) else (if 0≤(w64 ((w64 (a1))*a0.1))∧(w64 ((w64 (a1))*a0.1))≤(w64 ((w64 ((w64 (a1))*a0.1))+a0.1))∧(w64 ((w64 ((w64 (a1))*a0.1))+a0.1))≤(a0.2.1.length:Int) then ((Q94.f ((a0.2.1.drop ((w64 ((w64 (a1))*a0.1))).toNat).take (((w64 ((w64 ((w64 (a1))*a0.1))+a0.1))).toNat - ((w64 ((w64 (a1))*a0.1))).toNat))).bind fun r3=>(some (r3,0,(a0.1,a0.2.1,((IntKind.u64.wrap (a0.2.2.1+1)),a0.2.2.2))))) else none))))
theorem Q55.spec {a0:Int×List (Int)×(Int×Int)} {a1:Int} {b1:Nat} {A1:Option Addr} {c_1:Nat} {r:List (Int)×Int×(Int×List (Int)×(Int×Int))} (H:Q55.f a0 a1=some r) :
  Spec Tryz.prog 20 [.pointer (some ⟨b1,0,none⟩),.int .u32 a1] [Yb b1 a0.1 a0.2.1 A1 c_1 a0.2.2.1 a0.2.2.2,O5 a0.2.1 A1 c_1] [] (fun v l=>∃(A_0:Option Addr) (c_0:Nat) (A_1:Option Addr) (c_1:Nat),v=.tuple #[.slice A_0 r.1.length c_0,.int .i64 r.2.1]∧l=[O5 r.1 A_0 c_0,Yb b1 r.2.2.1 r.2.2.2.1 A_1 c_1 r.2.2.2.2.1 r.2.2.2.2.2,O5 r.2.2.2.1 A_1 c_1]):=by
 refine Zo Tryz.func20 fun w0 F0 h0=>?_
 unfold Q55.f at H
 refine J.seq (Zb [0,1] ?_)
 refine J.seq (J.region ?_)
 refine Zh 2 ?_
 refine Ys Tryz.func62 ?_
 refine J.seq (Zb [0,1] ?_)
 refine J.seq (J.block (J.seq (J.region ?_)))
 refine Zh 1 ?_
 obtain ⟨r1,q1,H⟩:=Zn H
 refine Ze (Zg [0,0] (Q53.spec q1) h0 rfl Zr) ?_
 rintro _ w1 ⟨_,⟨rfl,rfl⟩,h1⟩
 replace h1:=nf h1
 refine Zi [0,1,7] rfl ?_
 refine jIf H (fun c1 H=>?_) fun c1 H=>?_
 ·refine J.seq (Zb [4,5] ?_)
  refine J.ret (⟨_,Za,?_⟩)
  refine Zi [0,6,7] rfl ?_
  refine J.seq (J.seq (Zb [0,6,7,15] ?_))
  refine Zt ?_
  refine J.seq (Zb [4,5] ?_)
  refine J.ret ?_
  have h2:=h1.addNil 5 (.int .u8)
  cases H
  exact ⟨_,_,_,Za,⟨_,_,_,_,rfl,rfl⟩,Zc h2 [0,0,0]⟩
 refine J.seq (J.region ?_)
 refine Zh 3 ?_
 obtain ⟨r2,q2,H⟩:=Zn H
 refine Ze (Zg [0,0] (Q53.spec q2) h1 rfl Zr) ?_
 rintro _ w2 ⟨_,⟨rfl,rfl⟩,h3⟩
 replace h3:=nf h3
 refine Zi [0,1,11] rfl ?_
 refine jIf H (fun c2 H=>?_) fun c2 H=>?_
 ·refine J.seq (Zb [4,5] ?_)
  refine J.ret (⟨_,Za,?_⟩)
  refine Zi [0,6,7] rfl ?_
  refine J.seq (J.seq (Zb [0,6,7,15] ?_))
  refine Zt ?_
  refine J.seq (Zb [4,5] ?_)
  refine J.ret ?_
  have h4:=h3.addNil 5 (.int .u8)
  cases H
  exact ⟨_,_,_,Za,⟨_,_,_,_,rfl,rfl⟩,Zc h4 [0,0,0]⟩
 refine J.skip (J.seq (J.region ?_))
 refine Zh 5 ?_
 refine Zf (Zd 0 h3.wht) ?_
 refine Zi [0,6] rfl ?_
 refine J.seq (Zu h3 ?_)
 have h5:=h3.drew
 refine Zv [0,1,2,4,5,6,7,8] ?_
 refine Zj 3 rfl (Zd 0 wI) ?_
 refine Zj 9 rfl (Zd 0 wI) ?_
 refine Zv [10] ?_
 obtain ⟨⟨p1,p2,p3⟩,H⟩:=Zs H
 have e1:=h5.cap (gO 1)
 refine Zj 11 rfl (Zdb ((a0.2.1.drop ((w64 ((w64 (a1))*a0.1))).toNat).take (((w64 ((w64 ((w64 (a1))*a0.1))+a0.1))).toNat - ((w64 ((w64 (a1))*a0.1))).toNat)) (w64 ((w64 (a1))*a0.1)) (w64 ((w64 ((w64 (a1))*a0.1))+a0.1)) e1 p1 p2 p3) ?_
 refine Zv [12,13] ?_
 refine Z0 [4,5] ?_
 refine J.ret (⟨_,Za,?_⟩)
 refine Zi [0,6,7] rfl ?_
 refine J.seq (J.seq (Zb [0,6,7,15] ?_))
 refine Z4 ?_
 refine J.skip (J.seq (J.region ?_))
 refine Zh 4 ?_
 refine Zf (Zd 0 h5.wht) ?_
 refine Zh 4 ?_
 refine Ze (Z3 0 h5) ?_
 intro _ w3 h6
 replace h6:=nf h6
 refine Zi [6] rfl ?_
 refine J.seq (J.region ?_)
 refine Zh 1 ?_
 obtain ⟨r3,q3,H⟩:=Zn H
 refine Ze (Zg [] (Q94.spec q3) h6 rfl (Zy ((Gives.of 1 rfl Xh).trans (Zgb (.int .u8) ((a0.2.1.drop ((w64 ((w64 (a1))*a0.1))).toNat).take (((w64 ((w64 ((w64 (a1))*a0.1))+a0.1))).toNat - ((w64 ((w64 (a1))*a0.1))).toNat)) (w64 ((w64 (a1))*a0.1)) (w64 ((w64 ((w64 (a1))*a0.1))+a0.1)) p1 p2 p3)) Zr)) ?_
 rintro _ w4 ⟨_,⟨A2,c_2,rfl,rfl⟩,h7⟩
 replace h7:=nf h7
 refine Zi [4,5] rfl ?_
 refine J.ret ?_
 cases H
 exact ⟨_,_,_,Za,⟨_,_,_,_,rfl,rfl⟩,Zc h7 [0,0,0]⟩

def Q18.f (a0:(Int×List (Int)×(Int×Int))×(List (Int×List (Int)×Bool×Int))×(List (Int×Int))×List (Int)×((List (Int×Int×Bool))×Int)) (a1:Int):Option (Int×((Int×List (Int)×(Int×Int))×(List (Int×List (Int)×Bool×Int))×(List (Int×Int))×List (Int)×((List (Int×Int×Bool))×Int))):=(Q25.f a0 a1).bind fun r1=>(if (!decide (r1=0))=true then (some (r1,a0)) else (if (Y2 a0.2.2.1 a1)=true then (if 0≤(Zw (0:Int) a0.2.2.1 a1)∧(Zw (0:Int) a0.2.2.1 a1)<(a0.2.1.length:Int) then ((Q26.f a0.2.2.2.2 (Zw (0:Int) a0.2.2.1 a1)).bind fun r2=>(some (0,(a0.1,(a0.2.1.set (Zw (0:Int) a0.2.2.1 a1).toNat ((gt a0.2.1 (Zw (0:Int) a0.2.2.1 a1)).1,(gt a0.2.1 (Zw (0:Int) a0.2.2.1 a1)).2.1,(gt a0.2.1 (Zw (0:Int) a0.2.2.1 a1)).2.2.1,(w64 (((gt a0.2.1 (Zw (0:Int) a0.2.2.1 a1)).2.2.2)+1)))),a0.2.2.1,a0.2.2.2.1,r2.2)))) else none) else ((Q24.f a0).bind fun r3=>(if (!r3.2.1)=true then (some (7,r3.2.2)) else ((Q55.f r3.2.2.1 a1).bind fun r4=>(if (!decide (r4.2.1=0))=true then (if (r3.2.2.2.2.2.1.length+([r3.1]:List (Int)).length)*8≤140737488355328 then (some (r4.2.1,(r4.2.2,r3.2.2.2.1,r3.2.2.2.2.1,(r3.2.2.2.2.2.1 ++ ([r3.1]:List (Int))),r3.2.2.2.2.2.2))) else none) else (if 0≤r3.1∧r3.1<(r3.2.2.2.1.length:Int) then ((Q26.f r3.2.2.2.2.2.2 r3.1).bind fun r5=>(some (0,(r4.2.2,(r3.2.2.2.1.set r3.1.toNat (a1,r4.1,false,1)),(Va a1 r3.1 r3.2.2.2.2.1),r3.2.2.2.2.2.1,r5.2)))) else none)))))))
theorem Q18.spec {a0:(Int×List (Int)×(Int×Int))×(List (Int×List (Int)×Bool×Int))×(List (Int×Int))×List (Int)×((List (Int×Int×Bool))×Int)} {a1:Int} {b1:Nat} {b2:Nat} {b3:Nat} {b4:Nat} {A1:Option Addr} {c_1:Nat} {A2:Option Addr} {c_2:Nat} {A3:Option Addr} {c_3:Nat} {A4:Option Addr} {c_4:Nat} {r:Int×((Int×List (Int)×(Int×Int))×(List (Int×List (Int)×Bool×Int))×(List (Int×Int))×List (Int)×((List (Int×Int×Bool))×Int))} (H:Q18.f a0 a1=some r) :
  Spec Tryz.prog 77 [.pointer (some ⟨b1,0,none⟩),.int .u32 a1] [Yh b1 (.pointer (some ⟨b2,0,none⟩)) a0.2.1 A2 c_2 (.map (some b3)) a0.2.2.2.1 A3 c_3 (.pointer (some ⟨b4,0,none⟩)),Yb b2 a0.1.1 a0.1.2.1 A1 c_1 a0.1.2.2.1 a0.1.2.2.2,O5 a0.1.2.1 A1 c_1,Yg a0.2.1 A2 c_2,Yc .u32 (Value.int .i64) b3 a0.2.2.1,O3 a0.2.2.2.1 A3 c_3,Z7 b4 a0.2.2.2.2.1 A4 c_4 a0.2.2.2.2.2,Z8 a0.2.2.2.2.1 A4 c_4] [] (fun v l=>∃(A_0:Option Addr) (c_0:Nat) (A_1:Option Addr) (c_1:Nat) (A_2:Option Addr) (c_2:Nat) (A_3:Option Addr) (c_3:Nat),v=.int .i64 r.1∧l=[Yh b1 (.pointer (some ⟨b2,0,none⟩)) r.2.2.1 A_1 c_1 (.map (some b3)) r.2.2.2.2.1 A_2 c_2 (.pointer (some ⟨b4,0,none⟩)),Yb b2 r.2.1.1 r.2.1.2.1 A_0 c_0 r.2.1.2.2.1 r.2.1.2.2.2,O5 r.2.1.2.1 A_0 c_0,Yg r.2.2.1 A_1 c_1,Yc .u32 (Value.int .i64) b3 r.2.2.2.1,O3 r.2.2.2.2.1 A_2 c_2,Z7 b4 r.2.2.2.2.2.1 A_3 c_3 r.2.2.2.2.2.2,Z8 r.2.2.2.2.2.1 A_3 c_3]):=by
 refine Zo Tryz.func77 fun w0 F0 h0=>?_
 unfold Q18.f at H
 refine J.seq (Zb [0,1] ?_)
 refine J.seq (J.seq (J.region ?_))
 refine Zh 2 ?_
 obtain ⟨r1,q1,H⟩:=Zn H
 refine Ze (Zg [0,0,0,0,0,0,0,0] (Q25.spec q1) h0 rfl Zr) ?_
 rintro _ w1 ⟨_,⟨rfl,rfl⟩,h1⟩
 replace h1:=nf h1
 refine Zi [0,1,5] rfl ?_
 refine J.seq (Zb [0,1,5,16] ?_)
 refine jIf H (fun c1 H=>?_) fun c1 H=>?_
 ·refine J.seq (Zb [4] ?_)
  refine J.ret ?_
  cases H
  exact ⟨_,_,_,Za,⟨_,_,_,_,_,_,_,_,rfl,rfl⟩,Zc h1 [0,0,0,0,0,0,0,0]⟩
 refine J.skip (J.seq (J.seq (J.region ?_)))
 refine Zh 3 ?_
 refine Zf (Zd 0 h1.wht) ?_
 refine Zh 1 ?_
 refine Zf (Xu (0:Int) 4 h1.wht) ?_
 refine Zi [0,1,6,7] rfl ?_
 refine J.seq (Zb [0,1,6,27] ?_)
 refine jIf H (fun c2 H=>?_) fun c2 H=>?_
 ·refine J.seq (J.region ?_)
  refine Zh 3 ?_
  refine Zf (Zd 0 h1.wht) ?_
  refine Zh 1 ?_
  obtain ⟨⟨p1,p2⟩,H⟩:=Zs H
  have e1:=Z6 h1.wh (gO 3) p1 p2
  refine Zf (Zl e1 p1 p2) ?_
  refine Zh 1 ?_
  refine Zf (Yq 3 h1.wht (gO 3) p1 p2) ?_
  refine Zh 1 ?_
  refine Zf (Zl e1 p1 p2) ?_
  refine Zh 1 ?_
  refine Ze (Xx 3 (.pair (.int .u32) (.pair (.slice 5 (.int .u8)) (.pair .bool (.int .i64)))) (Zw (0:Int) a0.2.2.1 a1) ((gt a0.2.1 (Zw (0:Int) a0.2.2.1 a1)).1,(gt a0.2.1 (Zw (0:Int) a0.2.2.1 a1)).2.1,(gt a0.2.1 (Zw (0:Int) a0.2.2.1 a1)).2.2.1,(w64 (((gt a0.2.1 (Zw (0:Int) a0.2.2.1 a1)).2.2.2)+1))) 3 h1 rfl p1 p2 (Uz rfl rfl)) ?_
  intro _ w2 h2
  replace h2:=nf h2
  replace h2:St w0 F0 [Yg (a0.2.1.set (Zw (0:Int) a0.2.2.1 a1).toNat ((gt a0.2.1 (Zw (0:Int) a0.2.2.1 a1)).1,(gt a0.2.1 (Zw (0:Int) a0.2.2.1 a1)).2.1,(gt a0.2.1 (Zw (0:Int) a0.2.2.1 a1)).2.2.1,(w64 (((gt a0.2.1 (Zw (0:Int) a0.2.2.1 a1)).2.2.2)+1)))) A2 c_2,Yh b1 (.pointer (some ⟨b2,0,none⟩)) (a0.2.1.set (Zw (0:Int) a0.2.2.1 a1).toNat ((gt a0.2.1 (Zw (0:Int) a0.2.2.1 a1)).1,(gt a0.2.1 (Zw (0:Int) a0.2.2.1 a1)).2.1,(gt a0.2.1 (Zw (0:Int) a0.2.2.1 a1)).2.2.1,(w64 (((gt a0.2.1 (Zw (0:Int) a0.2.2.1 a1)).2.2.2)+1)))) A2 c_2 (.map (some b3)) a0.2.2.2.1 A3 c_3 (.pointer (some ⟨b4,0,none⟩)),Yb b2 a0.1.1 a0.1.2.1 A1 c_1 a0.1.2.2.1 a0.1.2.2.2,O5 a0.1.2.1 A1 c_1,Yc .u32 (Value.int .i64) b3 a0.2.2.1,O3 a0.2.2.2.1 A3 c_3,Z7 b4 a0.2.2.2.2.1 A4 c_4 a0.2.2.2.2.2,Z8 a0.2.2.2.2.1 A4 c_4] _ _:=h2.retell (by simp only [List.length_set,List.length_nil,Yg,Z8,O3,O5,Yb,Yh,Z7] <;> rfl)
  refine Zi [0,6] rfl ?_
  refine J.seq (J.region ?_)
  refine Zh 3 ?_
  refine Zf (Zd 1 h2.wht) ?_
  refine Zh 1 ?_
  obtain ⟨r2,q2,H⟩:=Zn H
  refine Ze (Zg [6,6] (Q26.spec q2) h2 rfl Zr) ?_
  rintro _ w3 ⟨_,⟨A5,c_5,rfl,rfl⟩,h3⟩
  replace h3:=nf h3
  refine Zi [] rfl ?_
  refine J.seq (Zb [4] ?_)
  refine J.ret ?_
  cases H
  exact ⟨_,_,_,Za,⟨_,_,_,_,_,_,_,_,rfl,rfl⟩,Zc h3 [3,3,3,2,2,2,0,0]⟩
 refine J.skip (J.seq (J.region ?_))
 refine Zh 1 ?_
 obtain ⟨r3,q3,H⟩:=Zn H
 refine Ze (Zg [0,0,0,0,0,0,0,0] (Q24.spec q3) h1 rfl Zr) ?_
 rintro _ w4 ⟨_,⟨A6,c_6,A7,c_7,A8,c_8,A9,c_9,rfl,rfl⟩,h4⟩
 replace h4:=nf h4
 refine Zi [0,1,8,9] rfl ?_
 refine J.seq (J.seq (Zb [0,1,8,51] ?_))
 refine jIf H (fun c3 H=>?_) fun c3 H=>?_
 ·refine J.seq (Zb [4] ?_)
  refine J.ret ?_
  cases H
  exact ⟨_,_,_,Za,⟨_,_,_,_,_,_,_,_,rfl,rfl⟩,Zc h4 [0,0,0,0,0,0,0,0]⟩
 refine J.skip (J.seq (J.region ?_))
 refine Zh 3 ?_
 refine Zf (Zd 0 h4.wht) ?_
 refine Zh 1 ?_
 obtain ⟨r4,q4,H⟩:=Zn H
 refine Ze (Zg [1,1] (Q55.spec q4) h4 rfl Zr) ?_
 rintro _ w5 ⟨_,⟨A10,c_10,A11,c_11,rfl,rfl⟩,h5⟩
 replace h5:=nf h5
 refine Zi [0,1,8,10,11] rfl ?_
 refine J.seq (J.seq (Zb [0,1,8,10,11,62] ?_))
 refine jIf H (fun c4 H=>?_) fun c4 H=>?_
 ·refine J.seq (J.region ?_)
  refine Zh 4 ?_
  refine Zf (Zd 3 h5.wht) ?_
  refine Zh 1 ?_
  refine Ze (Xg (.int .i64) ([r3.1]:List (Int)) h5) ?_
  rintro _ w6 ⟨b5,rfl,h6⟩
  replace h6:=nf h6
  obtain ⟨p3,H⟩:=Zs H
  refine Ze (Yx 7 h6 (gO 0) p3) ?_
  rintro _ w7 ⟨A12,c_12,rfl,h7⟩
  replace h7:=nf h7
  refine Zh 2 ?_
  refine Ze (Z3 5 h7) ?_
  intro _ w8 h8
  replace h8:=nf h8
  refine Zi [11] rfl ?_
  have h9:=Zc h8 [0,0,2,2,2,2,2,2]
  replace h9:=nf h9
  refine J.seq (Zb [4] ?_)
  refine J.ret ?_
  cases H
  exact ⟨_,_,_,Za,⟨_,_,_,_,_,_,_,_,rfl,rfl⟩,Zc h9 [0,1,1,1,1,0,0,0]⟩
 refine J.skip (J.seq (J.region ?_))
 refine Zh 5 ?_
 refine Ys Tryz.func127 ?_
 refine J.seq (J.region ?_)
 refine Ze (Ym h5) ?_
 rintro _ w9 ⟨b6,rfl,h10⟩
 replace h10:=nf h10
 refine Zi [0,1,5] rfl ?_
 refine J.seq (J.region ?_)
 refine Zh 1 ?_
 refine Ze (Z3 0 h10) ?_
 intro _ w10 h11
 replace h11:=nf h11
 refine Zi [0,1,5] rfl ?_
 refine J.seq (Zu (Zc h11 [0,1,1,1,2,2,2,2]) ?_)
 have h12:=h11.drew
 refine Zv [0,1,2,4] ?_
 refine Zj 3 rfl (Zd 3 wI) ?_
 refine Zj 5 rfl (Zd 0 wI) ?_
 obtain ⟨⟨p4,p5⟩,H⟩:=Zs H
 have e2:=Z6 h12.wh (gO 5) p4 p5
 refine Zj 6 rfl (Zl e2 p4 p5) ?_
 have h13:=(h12.only [5,1,0,0,0,0,0,0,0,0] rfl).both
 refine Zp 7 rfl (Wq 0 (.pair (.int .u32) (.pair (.slice 5 (.int .u8)) (.pair .bool (.int .i64)))) r3.1 (a1,r4.1,false,1) h13 p4 p5 Zb3) ?_
 intro _ w11 h14
 replace h14:=nf h14
 refine ⟨⟨[_],h14⟩,?_⟩
 replace h14:St w0 F0 [Yg (r3.2.2.2.1.set r3.1.toNat (a1,r4.1,false,1)) A7 c_7,Zg7 b6 a1 r4.1 A10 c_10 false 1,Yb b2 r4.2.2.1 r4.2.2.2.1 A11 c_11 r4.2.2.2.2.1 r4.2.2.2.2.2,O5 r4.2.2.2.1 A11 c_11,Yh b1 (.pointer (some ⟨b2,0,none⟩)) (r3.2.2.2.1.set r3.1.toNat (a1,r4.1,false,1)) A7 c_7 (.map (some b3)) r3.2.2.2.2.2.1 A8 c_8 (.pointer (some ⟨b4,0,none⟩)),Yc .u32 (Value.int .i64) b3 r3.2.2.2.2.1,O3 r3.2.2.2.2.2.1 A8 c_8,Z7 b4 r3.2.2.2.2.2.2.1 A9 c_9 r3.2.2.2.2.2.2.2,Z8 r3.2.2.2.2.2.2.1 A9 c_9] _ _:=h14.retell (by simp only [List.length_set,List.length_nil,Yg,Z8,O3,O5,Yb,Zg7,Yh,Z7] <;> rfl)
 refine Z0 [0,1,5] ?_
 refine J.seq (Zu (Zc h14 [0,0,0,0,0,1,1,1]) ?_)
 have h15:=h14.drew
 refine Zv [0,1,2,4,6] ?_
 refine Zj 3 rfl (Zd 4 wI) ?_
 refine Zj 5 rfl (Zd 1 wI) ?_
 refine Zp 7 rfl (Zcu Y6 (v:=r3.1) (ix:=a1) 5 rfl h15 rfl rfl rfl rfl rfl rfl rfl rfl rfl) ?_
 intro _ w12 h16
 replace h16:=nf h16
 refine ⟨⟨[_],h16⟩,?_⟩
 refine Z0 [0,1] ?_
 refine J.region (Zh 3 ?_)
 refine Zf (Zd 5 h16.wht) ?_
 refine Zh 1 ?_
 obtain ⟨r5,q5,H⟩:=Zn H
 refine Ze (Zg [7,7] (Q26.spec q5) h16 rfl Zr) ?_
 rintro _ w13 ⟨_,⟨A13,c_13,rfl,rfl⟩,h17⟩
 replace h17:=nf h17
 refine Zi [] rfl ?_
 refine ⟨_,Za,?_⟩
 refine Zi [] rfl ?_
 refine J.seq (Zb [4] ?_)
 refine J.ret ?_
 cases H
 exact ⟨_,_,_,Za,⟨_,_,_,_,_,_,_,_,rfl,rfl⟩,Zc h17 [7,5,5,3,2,3,0,0]⟩

def Q19.f (a0:(Int×List (Int)×(Int×Int))×(List (Int×List (Int)×Bool×Int))×(List (Int×Int))×List (Int)×((List (Int×Int×Bool))×Int)) (a1:Int):Option (List (Int)×Int):=(Q23.f a0).bind fun r1=>(if r1=true then (some (([]:List (Int)),1)) else (if (!(Y2 a0.2.2.1 a1))=true then (some (([]:List (Int)),8)) else (if 0≤(Zw (0:Int) a0.2.2.1 a1)∧(Zw (0:Int) a0.2.2.1 a1)<(a0.2.1.length:Int) then (if (decide (((gt a0.2.1 (Zw (0:Int) a0.2.2.1 a1)).2.2.2)=0))=true then (some (([]:List (Int)),8)) else ((Q94.f ((gt a0.2.1 (Zw (0:Int) a0.2.2.1 a1)).2.1)).bind fun r2=>(some (r2,0)))) else none)))
theorem Q19.spec {a0:(Int×List (Int)×(Int×Int))×(List (Int×List (Int)×Bool×Int))×(List (Int×Int))×List (Int)×((List (Int×Int×Bool))×Int)} {a1:Int} {b1:Nat} {b2:Nat} {b3:Nat} {b4:Nat} {A1:Option Addr} {c_1:Nat} {A2:Option Addr} {c_2:Nat} {A3:Option Addr} {c_3:Nat} {A4:Option Addr} {c_4:Nat} {r:List (Int)×Int} (H:Q19.f a0 a1=some r) :
  Spec Tryz.prog 78 [.pointer (some ⟨b1,0,none⟩),.int .u32 a1] [Yh b1 (.pointer (some ⟨b2,0,none⟩)) a0.2.1 A2 c_2 (.map (some b3)) a0.2.2.2.1 A3 c_3 (.pointer (some ⟨b4,0,none⟩)),Yb b2 a0.1.1 a0.1.2.1 A1 c_1 a0.1.2.2.1 a0.1.2.2.2,O5 a0.1.2.1 A1 c_1,Yg a0.2.1 A2 c_2,Yc .u32 (Value.int .i64) b3 a0.2.2.1,O3 a0.2.2.2.1 A3 c_3,Z7 b4 a0.2.2.2.2.1 A4 c_4 a0.2.2.2.2.2,Z8 a0.2.2.2.2.1 A4 c_4] [] (fun v l=>∃(A_0:Option Addr) (c_0:Nat),v=.tuple #[.slice A_0 r.1.length c_0,.int .i64 r.2]∧l=[O5 r.1 A_0 c_0,Yh b1 (.pointer (some ⟨b2,0,none⟩)) a0.2.1 A2 c_2 (.map (some b3)) a0.2.2.2.1 A3 c_3 (.pointer (some ⟨b4,0,none⟩)),Yb b2 a0.1.1 a0.1.2.1 A1 c_1 a0.1.2.2.1 a0.1.2.2.2,O5 a0.1.2.1 A1 c_1,Yg a0.2.1 A2 c_2,Yc .u32 (Value.int .i64) b3 a0.2.2.1,O3 a0.2.2.2.1 A3 c_3,Z7 b4 a0.2.2.2.2.1 A4 c_4 a0.2.2.2.2.2,Z8 a0.2.2.2.2.1 A4 c_4]):=by
 refine Zo Tryz.func78 fun w0 F0 h0=>?_
 unfold Q19.f at H
 refine J.seq (Zb [0,1] ?_)
 refine J.seq (J.region ?_)
 refine Zh 2 ?_
 refine Ys Tryz.func128 ?_
 refine J.seq (Zb [0,1] ?_)
 refine J.seq (J.seq (J.region ?_))
 refine Zh 1 ?_
 obtain ⟨r1,q1,H⟩:=Zn H
 refine Ze (Zg [0,0,0,0,0,0,0,0] (Q23.spec q1) h0 rfl Zr) ?_
 rintro _ w1 ⟨_,⟨rfl,rfl⟩,h1⟩
 replace h1:=nf h1
 refine Zi [0,1,9] rfl ?_
 refine jIf H (fun c1 H=>?_) fun c1 H=>?_
 ·refine J.seq (Zb [4,5] ?_)
  refine J.ret (⟨_,Za,?_⟩)
  refine Zi [6,7] rfl ?_
  refine J.seq (J.seq (Zb [6,7,15] ?_))
  refine Zt ?_
  refine J.seq (Zb [4,5] ?_)
  refine J.ret ?_
  have h2:=h1.addNil 5 (.int .u8)
  cases H
  exact ⟨_,_,_,Za,⟨_,_,rfl,rfl⟩,Zc h2 [0,0,0,0,0,0,0,0,0]⟩
 refine J.skip (J.seq (J.region ?_))
 refine Zh 3 ?_
 refine Zf (Zd 0 h1.wht) ?_
 refine Zh 1 ?_
 refine Zf (Xu (0:Int) 4 h1.wht) ?_
 refine Zi [0,6,7] rfl ?_
 refine J.seq (J.seq (J.region ?_))
 refine Zh 3 ?_
 refine Yj 21 H (fun c2 H=>?_) fun c2 H=>?_
 ·refine Zi [0,6,31] rfl ?_
  refine Zt ?_
  refine J.seq (Zb [4,5] ?_)
  refine J.ret (⟨_,Za,?_⟩)
  refine Zi [6,7] rfl ?_
  refine J.seq (J.seq (Zb [6,7,15] ?_))
  refine Zt ?_
  refine J.seq (Zb [4,5] ?_)
  refine J.ret ?_
  have h3:=h1.addNil 5 (.int .u8)
  cases H
  exact ⟨_,_,_,Za,⟨_,_,rfl,rfl⟩,Zc h3 [0,0,0,0,0,0,0,0,0]⟩
 refine Zh 3 ?_
 refine Zf (Zd 0 h1.wht) ?_
 refine Zh 1 ?_
 obtain ⟨⟨p1,p2⟩,H⟩:=Zs H
 have e1:=Z6 h1.wh (gO 3) p1 p2
 refine Zf (Zl e1 p1 p2) ?_
 refine Zh 1 ?_
 refine Zf (Yq 3 h1.wht (gO 3) p1 p2) ?_
 refine Zi [0,6,31] rfl ?_
 refine jIf H (fun c3 H=>?_) fun c3 H=>?_
 ·refine J.seq (Zb [4,5] ?_)
  refine J.ret (⟨_,Za,?_⟩)
  refine Zi [6,7] rfl ?_
  refine J.seq (J.seq (Zb [6,7,15] ?_))
  refine Zt ?_
  refine J.seq (Zb [4,5] ?_)
  refine J.ret ?_
  have h4:=h1.addNil 5 (.int .u8)
  cases H
  exact ⟨_,_,_,Za,⟨_,_,rfl,rfl⟩,Zc h4 [0,0,0,0,0,0,0,0,0]⟩
 refine J.skip (J.seq (J.region ?_))
 refine Zh 3 ?_
 refine Zf (Zd 0 h1.wht) ?_
 refine Zh 1 ?_
 refine Zf (Zl e1 p1 p2) ?_
 refine Zi [4,5] rfl ?_
 refine J.ret (⟨_,Za,?_⟩)
 refine Zi [6,7] rfl ?_
 refine J.seq (J.seq (Zb [6,7,15] ?_))
 refine Z4 ?_
 refine J.skip (J.seq ?_)
 obtain ⟨A5,c_5,h5⟩:=h1.openI 3 rfl p1 p2
 refine J.region (Zh 3 ?_)
 refine Zf (Uv h5.wht (Zk 0)) ?_
 obtain ⟨r2,q2,H⟩:=Zn H
 refine Ze (Zg [] (Q94.spec q2) h5 rfl (Zy (W8 0 Zce) Zr)) ?_
 rintro _ w2 ⟨_,⟨A6,c_6,rfl,rfl⟩,h6⟩
 replace h6:=nf h6
 refine Zi [4,5] rfl ?_
 have h7:=h6.closeI 1 rfl
 refine J.ret ?_
 cases H
 exact ⟨_,_,_,Za,⟨_,_,rfl,rfl⟩,Zc h7 [1,1,1,1,0,0,0,0,0]⟩

def Q137.f (a0:List (Int)):Option ((List (Int)×Int)):=(Q94.f a0).bind fun r1=>(some (r1,0))
theorem Q137.spec {a0:List (Int)} {A1:Option Addr} {c_1:Nat} {r:(List (Int)×Int)} (H:Q137.f a0=some r) :
  SpecA Tryz.prog 65 [.slice A1 a0.length c_1] [] [R5 a0 A1 c_1] (fun v l lr=>∃(b_0:Nat) (A_1:Option Addr) (c_1:Nat),v=.pointer (some ⟨b_0,0,none⟩)∧l=[Xr b_0 r.1 A_1 c_1 r.2]∧lr=[R5 r.1 A_1 c_1]):=by
 refine Y5 Tryz.func65 fun w0 F0 h0=>?_
 unfold Q137.f at H
 refine J.seq (Zb [0] ?_)
 refine J.seq (J.region ?_)
 refine Zh 1 ?_
 obtain ⟨r1,q1,H⟩:=Zn H
 refine Ze (Zg [] (Q94.spec q1) h0 rfl (Zy (Zk 0) Zr)) ?_
 rintro _ w1 ⟨_,⟨A2,c_2,rfl,rfl⟩,h1⟩
 replace h1:=nf h1
 refine Zh 1 ?_
 refine Ze (Ym h1) ?_
 rintro _ w2 ⟨b1,rfl,h2⟩
 replace h2:=nf h2
 refine Zi [2] rfl ?_
 refine J.ret ?_
 have h3:=h2.freeze (k:=1) rfl Xh
 cases H
 exact ⟨_,_,_,Za,⟨_,_,_,rfl,rfl,rfl⟩,sOR h3 [0] [0]⟩

def Q146.f (a0:List (Int)×Int) (a1:Int):Option ((List (Int)×Int)):=if (decide (a0.2=0))=true then (some (([]:List (Int)),a1)) else (some (([]:List (Int)),a0.2))
theorem Q146.spec {a0:List (Int)×Int} {a1:Int} {A1:Option Addr} {c_1:Nat} {b1:Nat} {r:(List (Int)×Int)} (H:Q146.f a0 a1=some r) :
  SpecA Tryz.prog 117 [.pointer (some ⟨b1,0,none⟩),.int .i64 a1] [Xr b1 a0.1 A1 c_1 a0.2] [R5 a0.1 A1 c_1] (fun v l lr=>∃(A_0:Option Addr) (c_0:Nat),v=.tuple #[]∧l=[Xr b1 r.1 A_0 c_0 r.2]∧lr=[R5 r.1 A_0 c_0]):=by
 refine Y5 Tryz.func117 fun w0 F0 h0=>?_
 unfold Q146.f at H
 refine J.seq (J.seq (J.region ?_))
 refine Zh 3 ?_
 refine Zf (Zd 0 h0.wht) ?_
 refine Zi [0,1,8] rfl ?_
 refine jIf H (fun c1 H=>?_) fun c1 H=>?_
 ·refine J.region (Zh 4 ?_)
  refine Ze (Z3 0 h0) ?_
  intro _ w1 h1
  replace h1:=nf h1
  refine Zi [0] rfl ?_
  refine J.region (Zh 3 ?_)
  refine Ze (Z3 0 h1) ?_
  intro _ w2 h2
  replace h2:=nf h2
  refine Zi [] rfl ?_
  have h3:=h2.addNil 5 (.int .u8)
  have h4:=h3.freeze (k:=0) rfl Xh
  cases H
  exact ⟨_,_,_,Za,⟨_,_,rfl,rfl,rfl⟩,sOR h4 [0] [0]⟩
 refine J.skip (J.region (Zh 3 ?_))
 refine Ze (Z3 0 h0) ?_
 intro _ w3 h5
 replace h5:=nf h5
 refine Zi [] rfl ?_
 have h6:=h5.addNil 5 (.int .u8)
 have h7:=h6.freeze (k:=0) rfl Xh
 cases H
 exact ⟨_,_,_,Za,⟨_,_,rfl,rfl,rfl⟩,sOR h7 [0] [0]⟩

def Q141.f (a0:List (Int)×Int) (a1:Int):Option (List (Int)×(List (Int)×Int)):=if (!decide (a0.2=0))=true then (some (([]:List (Int)),a0)) else (if (decide (a1<0))=true then ((Q146.f a0 2).bind fun r1=>(some (([]:List (Int)),r1))) else (if (decide ((a0.1.length:Int)<a1))=true then ((Q146.f a0 5).bind fun r2=>(some (([]:List (Int)),r2))) else (if 0≤a1∧a1*1≤281474976710656 then (if 0≤a1∧a1≤(a0.1.length:Int) then (some ((patch (List.replicate a1.toNat (0:Int)) 0 ((List.replicate a1.toNat (0:Int)).length) a0.1),((a0.1.drop a1.toNat),a0.2))) else none) else none)))
theorem Q141.spec {a0:List (Int)×Int} {a1:Int} {A1:Option Addr} {c_1:Nat} {b1:Nat} {r:List (Int)×(List (Int)×Int)} (H:Q141.f a0 a1=some r) :
  SpecA Tryz.prog 114 [.pointer (some ⟨b1,0,none⟩),.int .i64 a1] [Xr b1 a0.1 A1 c_1 a0.2] [R5 a0.1 A1 c_1] (fun v l lr=>∃(A_0:Option Addr) (c_0:Nat) (A_1:Option Addr) (c_1:Nat),v=.slice A_0 r.1.length c_0∧l=[O5 r.1 A_0 c_0,Xr b1 r.2.1 A_1 c_1 r.2.2]∧lr=[R5 r.2.1 A_1 c_1]):=by
 refine Y5 Tryz.func114 fun w0 F0 h0=>?_
 unfold Q141.f at H
 refine J.seq (Zb [0,1] ?_)
 refine J.seq (J.block (J.seq (J.region ?_)))
 refine Zh 6 ?_
 refine Zf (Zd 0 h0.wht) ?_
 refine Zi [0,1,6] rfl ?_
 refine jIf H (fun c1 H=>?_) fun c1 H=>?_
 ·refine J.seq (Zb [4] ?_)
  refine J.ret ?_
  have h1:=h0.addNil 5 (.int .u8)
  cases H
  exact ⟨_,_,_,Za,⟨_,_,_,_,rfl,rfl,rfl⟩,sOR h1 [0,0] [0]⟩
 refine J.seq (Zb [0,1,16] ?_)
 refine jIf H (fun c2 H=>?_) fun c2 H=>?_
 ·refine J.seq (J.region ?_)
  refine Zh 1 ?_
  obtain ⟨r1,q1,H⟩:=Zn H
  refine Ze (Yd [0] (Q146.spec q1) h0 rfl (Zy (Zk 0) Zr)) ?_
  rintro _ w1 ⟨_,_,⟨A2,c_2,rfl,rfl,rfl⟩,h2⟩
  replace h2:=nf h2
  refine Zi [] rfl ?_
  refine J.seq (Zb [4] ?_)
  refine J.ret ?_
  have h3:=h2.addNil 5 (.int .u8)
  cases H
  exact ⟨_,_,_,Za,⟨_,_,_,_,rfl,rfl,rfl⟩,sOR h3 [0,0] [0]⟩
 refine J.seq (J.region ?_)
 refine Zh 4 ?_
 refine Zf (Zd 0 h0.wht) ?_
 refine Zi [0,1,21] rfl ?_
 refine jIf H (fun c3 H=>?_) fun c3 H=>?_
 ·refine J.seq (J.region ?_)
  refine Zh 1 ?_
  obtain ⟨r2,q2,H⟩:=Zn H
  refine Ze (Yd [0] (Q146.spec q2) h0 rfl (Zy (Zk 0) Zr)) ?_
  rintro _ w2 ⟨_,_,⟨A3,c_3,rfl,rfl,rfl⟩,h4⟩
  replace h4:=nf h4
  refine Zi [] rfl ?_
  refine J.seq (Zb [4] ?_)
  refine J.ret ?_
  have h5:=h4.addNil 5 (.int .u8)
  cases H
  exact ⟨_,_,_,Za,⟨_,_,_,_,rfl,rfl,rfl⟩,sOR h5 [0,0] [0]⟩
 refine J.skip (J.seq (J.region ?_))
 refine Zh 1 ?_
 obtain ⟨⟨p1,p2⟩,H⟩:=Zs H
 refine Ze (Jw Y6 (ty:=(.int .u8)) rfl (0:Int) rfl rfl rfl rfl rfl rfl rfl (by decide) h0 p1 p2) ?_
 rintro _ w3 ⟨b2,rfl,h6⟩
 replace h6:=nf h6
 refine Zi [0,1,5] rfl ?_
 refine J.seq (J.region ?_)
 refine Zh 4 ?_
 refine Zf (Zd 1 h6.wht) ?_
 have e1:0+(List.replicate a1.toNat (0:Int)).length≤(List.replicate a1.toNat (0:Int)).length:=by first | omega | (simp only [List.length_take,List.length_drop]; omega)
 refine Ze (Zeh Y6 (ty:=(.int .u8)) (xs:=(List.replicate a1.toNat (0:Int))) (ys:=a0.1) rfl 0 rfl h6 rfl (Zk 1) rfl rfl rfl rfl rfl rfl e1) ?_
 rintro _ w4 ⟨rfl,h7⟩
 replace h7:=nf h7
 refine Zi [0,1,5] rfl ?_
 refine J.envEq (env':=[(0,.pointer (some ⟨b1,0,none⟩)),(1,.int .i64 a1),(5,.slice (some ⟨b2,0,none⟩) (patch (List.replicate a1.toNat (0:Int)) 0 ((List.replicate a1.toNat (0:Int)).length) a0.1).length (a1.toNat))]) (by simp only [Xk e1,List.length_nil] <;> rfl) ?_
 refine J.seq (J.region ?_)
 refine Zh 4 ?_
 refine Zf (Zd 1 h7.wht) ?_
 refine Zh 1 ?_
 obtain ⟨⟨p3,p4⟩,H⟩:=Zs H
 have e2:=h7.cap (Zk 2)
 refine Zf (Jb (a0.1.drop a1.toNat) a1 (a0.1.length:Int) e2 p3 p4 (Int.le_refl _) (Wg _ _)) ?_
 refine Zh 2 ?_
 refine Ze (Z3 1 h7) ?_
 intro _ w5 h8
 replace h8:=nf h8
 refine Zi [5] rfl ?_
 refine J.seq (Zb [4] ?_)
 refine J.ret ?_
 have h9:=h8.read (k:=0) rfl (Vk (.int .u8) (a0.1.drop a1.toNat) a1 (a0.1.length:Int) p3 p4 (Int.le_refl _) (Wg _ _))
 cases H
 exact ⟨_,_,_,Za,⟨_,_,_,_,rfl,rfl,rfl⟩,sOR h9 [1,0] [0]⟩

def Q140.l0:Nat→(List (Int)×(List (Int)×Int))→(Int)→(Int)→Option (Int×(List (Int)×Int))
 | 0,_,_,_=>none
 | k+1,r2,x2,x3=>if (decide (x3<(r2.1.length:Int)))=true then (if 0≤x3∧x3<(r2.1.length:Int) then (Q140.l0 k r2 (IntKind.u64.wrap (((BitVec.ofInt IntKind.u64.bits (IntKind.u64.wrap (x2*2 ^ 8)) ||| (BitVec.ofInt IntKind.u64.bits (IntKind.u64.wrap ((gt r2.1 x3))))).toNat:Int))) (w64 (x3+1))) else none) else (some (x2,r2.2))
def Q140.f (k:Nat) (a0:List (Int)×Int) (a1:Int):Option (Int×(List (Int)×Int)):=(Q147.f a1).bind fun r1=>(if (!r1)=true then ((Q141.f a0 (-1)).bind fun r2=>(Q140.l0 k r2 0 0)) else ((Q141.f a0 a1).bind fun r2=>(Q140.l0 k r2 0 0)))
theorem Q140.spec {k:Nat} {a0:List (Int)×Int} {a1:Int} {A1:Option Addr} {c_1:Nat} {b1:Nat} {r:Int×(List (Int)×Int)} (H:Q140.f k a0 a1=some r) :
  SpecA Tryz.prog 66 [.pointer (some ⟨b1,0,none⟩),.int .i64 a1] [Xr b1 a0.1 A1 c_1 a0.2] [R5 a0.1 A1 c_1] (fun v l lr=>∃(A_0:Option Addr) (c_0:Nat),v=.int .u64 r.1∧l=[Xr b1 r.2.1 A_0 c_0 r.2.2]∧lr=[R5 r.2.1 A_0 c_0]):=by
 refine Y5 Tryz.func66 fun w0 F0 h0=>?_
 unfold Q140.f at H
 refine J.seq (Zb [0,1] ?_)
 refine J.seq (J.seq (J.region ?_))
 refine Zh 1 ?_
 obtain ⟨r1,q1,H⟩:=Zn H
 refine Ze (Zg [] (Q147.spec q1) h0 rfl Zr) ?_
 rintro _ w1 ⟨_,⟨rfl,rfl⟩,h1⟩
 replace h1:=nf h1
 refine Zi [0,1,10] rfl ?_
 refine J.midS (fun env w=>∃(k1:Nat) (x1:Int),env=[(0,.pointer (some ⟨b1,0,none⟩)),(1,.int .i64 x1)]∧St w0 F0 [Xr b1 a0.1 A1 c_1 a0.2] [R5 a0.1 A1 c_1] w∧((Q141.f a0 x1).bind fun r2=>(Q140.l0 k1 r2 0 0))=some r∧k1≤k) ?_ ?_
 ·refine jIf H (fun c2 H=>?_) fun c2 H=>?_
  ·refine Zb [0,1] ?_
   have h7:=(sOR h1 [0] [0])
   exact ⟨k,(-1),rfl,h7,H,Nat.le_refl _⟩
  refine Xz [0,1] ?_
  refine J.skip ?_
  have h8:=(sOR h1 [0] [0])
  exact ⟨k,a1,rfl,h8,H,Nat.le_refl _⟩
 rintro env w3 ⟨k1,x1,rfl,h2,H,hk1⟩
 refine J.seq (Zb [0,1,5] ?_)
 refine J.seq (J.seq (J.region ?_))
 refine Zh 2 ?_
 obtain ⟨r2,q2,H⟩:=Zn H
 refine Ze (Yd [0] (Q141.spec q2) h2 rfl (Zy (Zk 0) Zr)) ?_
 rintro _ w4 ⟨_,_,⟨A2,c_2,A3,c_3,rfl,rfl,rfl⟩,h3⟩
 replace h3:=nf h3
 refine Zi [5,13,14,15] rfl ?_
 refine J.block ?_
 have h6:=(sOR h3 [1,0] [0])
 refine J.loop (fun kk env w=>∃(x2:Int) (x3:Int),env=[(5,.int .u64 x2),(13,.slice A2 r2.1.length c_2),(14,.int .i64 (r2.1.length:Int)),(15,.int .i64 x3)]∧St w0 F0 [Xr b1 r2.2.1 A3 c_3 r2.2.2,O5 r2.1 A2 c_2] [R5 r2.2.1 A3 c_3] w∧Q140.l0 kk r2 x2 x3=some r) (k:=k1) ⟨0,0,rfl,h6,H⟩ ?_
 rintro k2 env w5 ⟨x2,x3,rfl,h4,H⟩
 rcases k2 with _ | k2
 ·exact z0 H
 rw [Q140.l0] at H
 refine J.seq (Zb [5,13,14,15,16] ?_)
 refine J.seq (jIf H (fun c1 H=>?_) fun c1 H=>?_)
 ·refine J.skip (J.seq (J.block (J.seq (J.region ?_))))
  obtain ⟨⟨p1,p2⟩,H⟩:=Zs H
  have e1:=Z6 h4.wh (gO 1) p1 p2
  refine Zf (Zl e1 p1 p2) ?_
  refine Zf (Zm 0 h4.wht (gO 1) p1 p2) ?_
  refine Zi [5,7,13,14,15] rfl ?_
  refine Zb [5,13,14,15] ?_
  refine Zb [5,13,14,15] ?_
  have h5:=(sOR h4 [0,0] [0])
  exact ⟨k2,by omega,(IntKind.u64.wrap (((BitVec.ofInt IntKind.u64.bits (IntKind.u64.wrap (x2*2 ^ 8)) ||| (BitVec.ofInt IntKind.u64.bits (IntKind.u64.wrap ((gt r2.1 x3))))).toNat:Int))),(w64 (x3+1)),rfl,h5,H⟩
 refine J.exit (J.seq (Zb [4] ?_))
 refine J.ret ?_
 cases H
 exact ⟨_,_,_,Za,⟨_,_,rfl,rfl,rfl⟩,sOR h4 [0] [0]⟩

def Q145.f (a0:Int):Option (Bool):=some (!decide (a0=0))
theorem Q145.spec {a0:Int}  {r:Bool} (H:Q145.f a0=some r) :
  Spec Tryz.prog 116 [.int .u8 a0] [] [] (fun v l=>v=.bool r∧l=[]):=by
 refine Zo Tryz.func116 fun w0 F0 h0=>?_
 unfold Q145.f at H
 refine J.seq (Zb [0] ?_)
 refine J.seq (Zb [2] ?_)
 refine J.ret ?_
 cases H
 exact ⟨_,_,_,Za,⟨rfl,rfl⟩,Zc h0 []⟩

def Q106.l0:Nat→(List (Int))→(Int)→Option (Int)
 | 0,_,_=>none
 | k+1,a0,x1=>if (decide (x1<(a0.length:Int)))=true then (if 0≤x1∧x1<(a0.length:Int) then ((Q145.f (gt a0 x1)).bind fun r1=>(if r1=true then (some x1) else (Q106.l0 k a0 (w64 (x1+1))))) else none) else (some (-1))
def Q106.f (k:Nat) (a0:List (Int)):Option (Int):=Q106.l0 k a0 0
theorem Q106.spec {k:Nat} {a0:List (Int)} {A1:Option Addr} {c_1:Nat} {r:Int} (H:Q106.f k a0=some r) :
  Spec Tryz.prog 163 [.slice A1 a0.length c_1,.func (.func 116) #[] #[]] [] [R5 a0 A1 c_1] (fun v l=>v=.int .i64 r∧l=[]):=by
 refine Zo Tryz.func163 fun w0 F0 h0=>?_
 unfold Q106.f at H
 refine J.seq (Zb [0,1] ?_)
 refine J.seq (J.seq (Zb [0,1,7,8] ?_))
 refine J.block ?_
 have h4:=(sOR h0 [] [0])
 refine J.loop (fun kk env w=>∃(x1:Int),env=[(0,.slice A1 a0.length c_1),(1,.func (.func 116) #[] #[]),(7,.int .i64 (a0.length:Int)),(8,.int .i64 x1)]∧St w0 F0 [] [R5 a0 A1 c_1] w∧Q106.l0 kk a0 x1=some r) (k:=k) ⟨0,rfl,h4,H⟩ ?_
 rintro k1 env w1 ⟨x1,rfl,h1,H⟩
 rcases k1 with _ | k1
 ·exact z0 H
 rw [Q106.l0] at H
 refine J.seq (Zb [0,1,7,8,9] ?_)
 refine J.seq (jIf H (fun c1 H=>?_) fun c1 H=>?_)
 ·refine J.skip (J.seq (J.block (J.seq (Zb [0,1,5,7,8] ?_))))
  refine J.seq (J.region ?_)
  refine Zh 3 ?_
  obtain ⟨⟨p1,p2⟩,H⟩:=Zs H
  have e1:=Z6 h1.wh (Zk 0) p1 p2
  refine Zf (Zl e1 p1 p2) ?_
  refine Zf (Zm 0 h1.wht (Zk 0) p1 p2) ?_
  obtain ⟨r1,q1,H⟩:=Zn H
  refine Ze (Zg [] (Q145.spec q1) h1 rfl Zr) ?_
  rintro _ w2 ⟨_,⟨rfl,rfl⟩,h2⟩
  replace h2:=nf h2
  refine Zi [0,1,5,7,8,16] rfl ?_
  refine jIf H (fun c2 H=>?_) fun c2 H=>?_
  ·refine J.seq (Zb [4] ?_)
   refine J.ret ?_
   cases H
   exact ⟨_,_,_,Za,⟨rfl,rfl⟩,Zc h2 []⟩
  refine J.skip (Zb [0,1,7,8] ?_)
  have h3:=(sOR h2 [] [0])
  exact ⟨k1,by omega,(w64 (x1+1)),rfl,h3,H⟩
 refine J.exit (J.seq (Zb [4] ?_))
 refine J.ret ?_
 cases H
 exact ⟨_,_,_,Za,⟨rfl,rfl⟩,Zc h1 []⟩

def Q100.f (k:Nat) (a0:List (Int)):Option (Bool):=(Q106.f k a0).bind fun r1=>(some (decide (0≤r1)))
theorem Q100.spec {k:Nat} {a0:List (Int)} {A1:Option Addr} {c_1:Nat} {r:Bool} (H:Q100.f k a0=some r) :
  Spec Tryz.prog 115 [.slice A1 a0.length c_1,.func (.func 116) #[] #[]] [] [R5 a0 A1 c_1] (fun v l=>v=.bool r∧l=[]):=by
 refine Zo Tryz.func115 fun w0 F0 h0=>?_
 unfold Q100.f at H
 refine J.seq (Zb [0,1] ?_)
 refine J.seq (J.region ?_)
 refine Zh 2 ?_
 obtain ⟨r1,q1,H⟩:=Zn H
 refine Ze (Zg [] (Q106.spec q1) h0 rfl (Zy (Zk 0) Zr)) ?_
 rintro _ w1 ⟨_,⟨rfl,rfl⟩,h1⟩
 replace h1:=nf h1
 refine Zi [4] rfl ?_
 refine J.ret ?_
 cases H
 exact ⟨_,_,_,Za,⟨rfl,rfl⟩,Zc h1 []⟩

def Q144.f (k:Nat) (a0:List (Int)×Int) (a1:Int):Option ((List (Int)×Int)):=(Q141.f a0 a1).bind fun r1=>((Q100.f k r1.1).bind fun r2=>(if r2=true then ((Q146.f r1.2 3).bind fun r3=>(some r3)) else (some r1.2)))
theorem Q144.spec {k:Nat} {a0:List (Int)×Int} {a1:Int} {A1:Option Addr} {c_1:Nat} {b1:Nat} {r:(List (Int)×Int)} (H:Q144.f k a0 a1=some r) :
  SpecA Tryz.prog 67 [.pointer (some ⟨b1,0,none⟩),.int .i64 a1] [Xr b1 a0.1 A1 c_1 a0.2] [R5 a0.1 A1 c_1] (fun v l lr=>∃(A_0:Option Addr) (c_0:Nat),v=.tuple #[]∧l=[Xr b1 r.1 A_0 c_0 r.2]∧lr=[R5 r.1 A_0 c_0]):=by
 refine Y5 Tryz.func67 fun w0 F0 h0=>?_
 unfold Q144.f at H
 refine J.seq (J.region ?_)
 refine Zh 2 ?_
 obtain ⟨r1,q1,H⟩:=Zn H
 refine Ze (Yd [0] (Q141.spec q1) h0 rfl (Zy (Zk 0) Zr)) ?_
 rintro _ w1 ⟨_,_,⟨A2,c_2,A3,c_3,rfl,rfl,rfl⟩,h1⟩
 replace h1:=nf h1
 obtain ⟨r2,q2,H⟩:=Zn H
 refine Ze (Zg [] (Q100.spec q2) h1 rfl (Zy (gO 0) Zr)) ?_
 rintro _ w2 ⟨_,⟨rfl,rfl⟩,h2⟩
 replace h2:=nf h2
 refine Zi [0,7] rfl ?_
 refine jIf H (fun c1 H=>?_) fun c1 H=>?_
 ·refine J.region (Zh 1 ?_)
  obtain ⟨r3,q3,H⟩:=Zn H
  refine Ze (Yd [1] (Q146.spec q3) h2 rfl (Zy (Zk 0) Zr)) ?_
  rintro _ w3 ⟨_,_,⟨A4,c_4,rfl,rfl,rfl⟩,h3⟩
  replace h3:=nf h3
  refine Zi [] rfl ?_
  cases H
  exact ⟨_,_,_,Za,⟨_,_,rfl,rfl,rfl⟩,sOR h3 [0] [0]⟩
 refine J.skip ?_
 cases H
 exact ⟨_,_,_,Za,⟨_,_,rfl,rfl,rfl⟩,sOR h2 [1] [0]⟩

def Q143.f (a0:Int):Option (Bool):=some (!decide (a0=0))
theorem Q143.spec {a0:Int}  {r:Bool} (H:Q143.f a0=some r) :
  Spec Tryz.prog 164 [.int .u8 a0] [] [] (fun v l=>v=.bool r∧l=[]):=by
 refine Zo Tryz.func164 fun w0 F0 h0=>?_
 unfold Q143.f at H
 refine J.seq (Zb [0] ?_)
 refine J.seq (Zb [2] ?_)
 refine J.ret ?_
 cases H
 exact ⟨_,_,_,Za,⟨rfl,rfl⟩,Zc h0 []⟩

def Q105.l0:Nat→(List (Int))→(Int)→Option (Int)
 | 0,_,_=>none
 | k+1,a0,x1=>if (decide (x1<(a0.length:Int)))=true then (if 0≤x1∧x1<(a0.length:Int) then ((Q143.f (gt a0 x1)).bind fun r1=>(if r1=true then (some x1) else (Q105.l0 k a0 (w64 (x1+1))))) else none) else (some (-1))
def Q105.f (k:Nat) (a0:List (Int)):Option (Int):=Q105.l0 k a0 0
theorem Q105.spec {k:Nat} {a0:List (Int)} {A1:Option Addr} {c_1:Nat} {r:Int} (H:Q105.f k a0=some r) :
  Spec Tryz.prog 163 [.slice A1 a0.length c_1,.func (.func 164) #[] #[]] [] [R5 a0 A1 c_1] (fun v l=>v=.int .i64 r∧l=[]):=by
 refine Zo Tryz.func163 fun w0 F0 h0=>?_
 unfold Q105.f at H
 refine J.seq (Zb [0,1] ?_)
 refine J.seq (J.seq (Zb [0,1,7,8] ?_))
 refine J.block ?_
 have h4:=(sOR h0 [] [0])
 refine J.loop (fun kk env w=>∃(x1:Int),env=[(0,.slice A1 a0.length c_1),(1,.func (.func 164) #[] #[]),(7,.int .i64 (a0.length:Int)),(8,.int .i64 x1)]∧St w0 F0 [] [R5 a0 A1 c_1] w∧Q105.l0 kk a0 x1=some r) (k:=k) ⟨0,rfl,h4,H⟩ ?_
 rintro k1 env w1 ⟨x1,rfl,h1,H⟩
 rcases k1 with _ | k1
 ·exact z0 H
 rw [Q105.l0] at H
 refine J.seq (Zb [0,1,7,8,9] ?_)
 refine J.seq (jIf H (fun c1 H=>?_) fun c1 H=>?_)
 ·refine J.skip (J.seq (J.block (J.seq (Zb [0,1,5,7,8] ?_))))
  refine J.seq (J.region ?_)
  refine Zh 3 ?_
  obtain ⟨⟨p1,p2⟩,H⟩:=Zs H
  have e1:=Z6 h1.wh (Zk 0) p1 p2
  refine Zf (Zl e1 p1 p2) ?_
  refine Zf (Zm 0 h1.wht (Zk 0) p1 p2) ?_
  obtain ⟨r1,q1,H⟩:=Zn H
  refine Ze (Zg [] (Q143.spec q1) h1 rfl Zr) ?_
  rintro _ w2 ⟨_,⟨rfl,rfl⟩,h2⟩
  replace h2:=nf h2
  refine Zi [0,1,5,7,8,16] rfl ?_
  refine jIf H (fun c2 H=>?_) fun c2 H=>?_
  ·refine J.seq (Zb [4] ?_)
   refine J.ret ?_
   cases H
   exact ⟨_,_,_,Za,⟨rfl,rfl⟩,Zc h2 []⟩
  refine J.skip (Zb [0,1,7,8] ?_)
  have h3:=(sOR h2 [] [0])
  exact ⟨k1,by omega,(w64 (x1+1)),rfl,h3,H⟩
 refine J.exit (J.seq (Zb [4] ?_))
 refine J.ret ?_
 cases H
 exact ⟨_,_,_,Za,⟨rfl,rfl⟩,Zc h1 []⟩

def Q99.f (k:Nat) (a0:List (Int)):Option (Bool):=(Q105.f k a0).bind fun r1=>(some (decide (0≤r1)))
theorem Q99.spec {k:Nat} {a0:List (Int)} {A1:Option Addr} {c_1:Nat} {r:Bool} (H:Q99.f k a0=some r) :
  Spec Tryz.prog 115 [.slice A1 a0.length c_1,.func (.func 164) #[] #[]] [] [R5 a0 A1 c_1] (fun v l=>v=.bool r∧l=[]):=by
 refine Zo Tryz.func115 fun w0 F0 h0=>?_
 unfold Q99.f at H
 refine J.seq (Zb [0,1] ?_)
 refine J.seq (J.region ?_)
 refine Zh 2 ?_
 obtain ⟨r1,q1,H⟩:=Zn H
 refine Ze (Zg [] (Q105.spec q1) h0 rfl (Zy (Zk 0) Zr)) ?_
 rintro _ w1 ⟨_,⟨rfl,rfl⟩,h1⟩
 replace h1:=nf h1
 refine Zi [4] rfl ?_
 refine J.ret ?_
 cases H
 exact ⟨_,_,_,Za,⟨rfl,rfl⟩,Zc h1 []⟩

def Q142.f (k:Nat) (a0:List (Int)×Int) (a1:Int) (a2:Int):Option (List UInt8×(List (Int)×Int)):=if (decide (a1<0))=true then ((Q146.f a0 2).bind fun r1=>(some (([]:List UInt8),r1))) else (if (decide (a2<a1))=true then ((Q146.f a0 2).bind fun r2=>(some (([]:List UInt8),r2))) else ((Q141.f a0 a2).bind fun r3=>(if (decide ((r3.1.length:Int)<a2))=true then (some (([]:List UInt8),r3.2)) else (if 0≤a1∧a1≤(r3.1.length:Int) then ((Q99.f k (r3.1.drop a1.toNat)).bind fun r4=>(if r4=true then ((Q146.f r3.2 3).bind fun r5=>(some (([]:List UInt8),r5))) else (if (0:Int)≤a1∧a1≤(r3.1.length:Int) then (some ((toS (r3.1.take a1.toNat)),r3.2)) else none))) else none))))
theorem Q142.spec {k:Nat} {a0:List (Int)×Int} {a1:Int} {a2:Int} {A1:Option Addr} {c_1:Nat} {b1:Nat} {r:List UInt8×(List (Int)×Int)} (H:Q142.f k a0 a1 a2=some r) :
  SpecA Tryz.prog 119 [.pointer (some ⟨b1,0,none⟩),.int .i64 a1,.int .i64 a2] [Xr b1 a0.1 A1 c_1 a0.2] [R5 a0.1 A1 c_1] (fun v l lr=>∃(A_0:Option Addr) (c_0:Nat),v=.string ⟨⟨r.1⟩⟩∧l=[Xr b1 r.2.1 A_0 c_0 r.2.2]∧lr=[R5 r.2.1 A_0 c_0]):=by
 refine Y5 Tryz.func119 fun w0 F0 h0=>?_
 unfold Q142.f at H
 refine J.seq (Zb [0,1,2] ?_)
 refine J.seq (J.seq (Zb [0,1,2,9] ?_))
 refine Z4 ?_
 refine J.skip (J.seq (J.seq (J.region ?_)))
 refine Zh 3 ?_
 refine Yj 12 H (fun c1 H=>?_) fun c1 H=>?_
 ·refine Zi [0,1,2,16] rfl ?_
  refine Zt ?_
  refine J.seq (J.region ?_)
  refine Zh 1 ?_
  obtain ⟨r1,q1,H⟩:=Zn H
  refine Ze (Yd [0] (Q146.spec q1) h0 rfl (Zy (Zk 0) Zr)) ?_
  rintro _ w1 ⟨_,_,⟨A2,c_2,rfl,rfl,rfl⟩,h1⟩
  replace h1:=nf h1
  refine Zi [] rfl ?_
  refine J.seq (Zb [6] ?_)
  refine J.ret ?_
  cases H
  exact ⟨_,_,_,Za,⟨_,_,rfl,rfl,rfl⟩,sOR h1 [0] [0]⟩
 refine Zi [0,1,2,16] rfl ?_
 refine jIf H (fun c2 H=>?_) fun c2 H=>?_
 ·refine J.seq (J.region ?_)
  refine Zh 1 ?_
  obtain ⟨r2,q2,H⟩:=Zn H
  refine Ze (Yd [0] (Q146.spec q2) h0 rfl (Zy (Zk 0) Zr)) ?_
  rintro _ w2 ⟨_,_,⟨A3,c_3,rfl,rfl,rfl⟩,h2⟩
  replace h2:=nf h2
  refine Zi [] rfl ?_
  refine J.seq (Zb [6] ?_)
  refine J.ret ?_
  cases H
  exact ⟨_,_,_,Za,⟨_,_,rfl,rfl,rfl⟩,sOR h2 [0] [0]⟩
 refine J.skip (J.seq (J.region ?_))
 refine Zh 2 ?_
 obtain ⟨r3,q3,H⟩:=Zn H
 refine Ze (Yd [0] (Q141.spec q3) h0 rfl (Zy (Zk 0) Zr)) ?_
 rintro _ w3 ⟨_,_,⟨A4,c_4,A5,c_5,rfl,rfl,rfl⟩,h3⟩
 replace h3:=nf h3
 refine Zi [0,1,2,7] rfl ?_
 refine J.seq (J.seq (Zb [0,1,7,25] ?_))
 refine jIf H (fun c3 H=>?_) fun c3 H=>?_
 ·refine J.seq (Zb [6] ?_)
  refine J.ret ?_
  cases H
  exact ⟨_,_,_,Za,⟨_,_,rfl,rfl,rfl⟩,sOR h3 [1] [0]⟩
 refine J.skip (J.seq (J.seq (J.region ?_)))
 refine Zh 2 ?_
 obtain ⟨⟨p1,p2⟩,H⟩:=Zs H
 have e1:=h3.cap (gO 0)
 refine Zf (Jb (r3.1.drop a1.toNat) a1 (r3.1.length:Int) e1 p1 p2 (Int.le_refl _) (Wg _ _)) ?_
 obtain ⟨r4,q4,H⟩:=Zn H
 refine Ze (Zg [] (Q99.spec q4) h3 rfl (Zy ((Gives.of 0 rfl Xh).trans (Vk (.int .u8) (r3.1.drop a1.toNat) a1 (r3.1.length:Int) p1 p2 (Int.le_refl _) (Wg _ _))) Zr)) ?_
 rintro _ w4 ⟨_,⟨rfl,rfl⟩,h4⟩
 replace h4:=nf h4
 refine Zi [0,1,7,29] rfl ?_
 refine jIf H (fun c4 H=>?_) fun c4 H=>?_
 ·refine J.seq (J.region ?_)
  refine Zh 1 ?_
  obtain ⟨r5,q5,H⟩:=Zn H
  refine Ze (Yd [1] (Q146.spec q5) h4 rfl (Zy (Zk 0) Zr)) ?_
  rintro _ w5 ⟨_,_,⟨A6,c_6,rfl,rfl,rfl⟩,h5⟩
  replace h5:=nf h5
  refine Zi [] rfl ?_
  refine J.seq (Zb [6] ?_)
  refine J.ret ?_
  cases H
  exact ⟨_,_,_,Za,⟨_,_,rfl,rfl,rfl⟩,sOR h5 [0] [0]⟩
 refine J.skip (J.seq (J.region ?_))
 refine Zh 2 ?_
 obtain ⟨⟨p3,p4⟩,H⟩:=Zs H
 have e2:=h4.cap (gO 0)
 refine Zf (Vw (r3.1.take a1.toNat) a1 e2 p3 p4) ?_
 refine Zf (Zfd h4.wht ((Gives.of 0 rfl Xh).trans (Zan (.int .u8) (r3.1.take a1.toNat) a1 p3 p4))) ?_
 refine Zi [6] rfl ?_
 refine J.ret ?_
 cases H
 exact ⟨_,_,_,Za,⟨_,_,rfl,rfl,rfl⟩,sOR h4 [1] [0]⟩

def Q44.f (k:Nat) (a0:Int×Int×Int×Int×Int×Int×Int×Int) (a1:List (Int)×Int):Option (List UInt8×List UInt8×(List (Int)×Int)):=(Q140.f k a1 1).bind fun r1=>((Q140.f k r1.2 2).bind fun r2=>((Q142.f k r2.2 (w64 (r1.1)) a0.2.2.2.2.2.2.1).bind fun r3=>((Q142.f k r3.2 (w64 (r2.1)) a0.2.2.2.2.2.2.2).bind fun r4=>(some (r3.1,r4.1,r4.2)))))
theorem Q44.spec {k:Nat} {a0:Int×Int×Int×Int×Int×Int×Int×Int} {a1:List (Int)×Int} {A1:Option Addr} {c_1:Nat} {b1:Nat} {r:List UInt8×List UInt8×(List (Int)×Int)} (H:Q44.f k a0 a1=some r) :
  SpecA Tryz.prog 118 [.agg #[.int .i64 a0.1,.int .i64 a0.2.1,.int .i64 a0.2.2.1,.int .i64 a0.2.2.2.1,.int .i64 a0.2.2.2.2.1,.int .i64 a0.2.2.2.2.2.1,.int .i64 a0.2.2.2.2.2.2.1,.int .i64 a0.2.2.2.2.2.2.2],.pointer (some ⟨b1,0,none⟩)] [Xr b1 a1.1 A1 c_1 a1.2] [R5 a1.1 A1 c_1] (fun v l lr=>∃(A_0:Option Addr) (c_0:Nat),v=.tuple #[.string ⟨⟨r.1⟩⟩,.string ⟨⟨r.2.1⟩⟩]∧l=[Xr b1 r.2.2.1 A_0 c_0 r.2.2.2]∧lr=[R5 r.2.2.1 A_0 c_0]):=by
 refine Y5 Tryz.func118 fun w0 F0 h0=>?_
 unfold Q44.f at H
 refine J.seq (J.region ?_)
 refine Ze (Ym h0) ?_
 rintro _ w1 ⟨b2,rfl,h1⟩
 replace h1:=nf h1
 refine Zi [1,2] rfl ?_
 refine J.seq (J.region ?_)
 refine Zh 1 ?_
 obtain ⟨r1,q1,H⟩:=Zn H
 refine Ze (Yd [1] (Q140.spec q1) h1 rfl (Zy (Zk 0) Zr)) ?_
 rintro _ w2 ⟨_,_,⟨A2,c_2,rfl,rfl,rfl⟩,h2⟩
 replace h2:=nf h2
 refine Zh 2 ?_
 obtain ⟨r2,q2,H⟩:=Zn H
 refine Ze (Yd [0] (Q140.spec q2) h2 rfl (Zy (Zk 0) Zr)) ?_
 rintro _ w3 ⟨_,_,⟨A3,c_3,rfl,rfl,rfl⟩,h3⟩
 replace h3:=nf h3
 refine Zi [1,2,6,7] rfl ?_
 refine J.seq (Zu (Zc h3 [1]) ?_)
 have h4:=h3.drew
 refine Zv [0,1,2,5,6,7] ?_
 refine Zj 3 rfl (Zd 0 wI) ?_
 refine Zj 8 rfl (Zd 0 wI) ?_
 obtain ⟨r3,q3,H⟩:=Zn H
 refine Zp 4 rfl (Yd [0] (Q142.spec q3) h4 rfl (Zy (Zk 0) Zr)) ?_
 rintro _ w4 ⟨_,_,⟨A4,c_4,rfl,rfl,rfl⟩,h5⟩
 replace h5:=nf h5
 refine ⟨⟨[_],(Uk h5 [1,2,3])⟩,?_⟩
 obtain ⟨r4,q4,H⟩:=Zn H
 refine Zp 9 rfl (Yd [0] (Q142.spec q4) h5 rfl (Zy (Zk 0) Zr)) ?_
 rintro _ w5 ⟨_,_,⟨A5,c_5,rfl,rfl,rfl⟩,h6⟩
 replace h6:=nf h6
 refine ⟨⟨[_],(Uk h6 [2,3,4])⟩,?_⟩
 refine Zv [10,11] ?_
 refine Z0 [4,5] ?_
 refine J.ret ?_
 cases H
 exact ⟨_,_,_,Za,⟨_,_,rfl,rfl,rfl⟩,sOR h6 [0] [0]⟩

def Q43.l0:Nat→(Int×Int×Int×Int×Int×Int×Int×Int)→(Int)→(List (Int))→(Int)→(List (List UInt8×List UInt8))→(Int)→Option ((Int×List (Int)×List (List UInt8)×(List (List UInt8×Bool×List UInt8))×(List (List UInt8×List UInt8)))×(List (Int)×Int))
 | 0,_,_,_,_,_,_=>none
 | k+1,a0,a2,x1,x2,x3,x4=>if (decide (x4<(if a0.2.2.2.2.2.1<a2 then a0.2.2.2.2.2.1 else a2)))=true then ((Q44.f k a0 (x1,x2)).bind fun r1=>(if (x3.length+([(r1.1,r1.2.1)]:List (List UInt8×List UInt8)).length)*32≤140737488355328 then (Q43.l0 k a0 a2 r1.2.2.1 r1.2.2.2 (x3 ++ ([(r1.1,r1.2.1)]:List (List UInt8×List UInt8))) (w64 (x4+1))) else none)) else (some ((0,([]:List (Int)),([]:List (List UInt8)),([]:List (List UInt8×Bool×List UInt8)),x3),(x1,x2)))
def Q43.f (k:Nat) (a0:Int×Int×Int×Int×Int×Int×Int×Int) (a1:List (Int)×Int) (a2:Int):Option ((Int×List (Int)×List (List UInt8)×(List (List UInt8×Bool×List UInt8))×(List (List UInt8×List UInt8)))×(List (Int)×Int)):=Q43.l0 k a0 a2 a1.1 a1.2 ([]:List (List UInt8×List UInt8)) 0
theorem Q43.spec {k:Nat} {a0:Int×Int×Int×Int×Int×Int×Int×Int} {a1:List (Int)×Int} {a2:Int} {A1:Option Addr} {c_1:Nat} {b1:Nat} {r:(Int×List (Int)×List (List UInt8)×(List (List UInt8×Bool×List UInt8))×(List (List UInt8×List UInt8)))×(List (Int)×Int)} (H:Q43.f k a0 a1 a2=some r) :
  SpecA Tryz.prog 68 [.agg #[.int .i64 a0.1,.int .i64 a0.2.1,.int .i64 a0.2.2.1,.int .i64 a0.2.2.2.1,.int .i64 a0.2.2.2.2.1,.int .i64 a0.2.2.2.2.2.1,.int .i64 a0.2.2.2.2.2.2.1,.int .i64 a0.2.2.2.2.2.2.2],.pointer (some ⟨b1,0,none⟩),.int .i64 a2] [Xr b1 a1.1 A1 c_1 a1.2] [R5 a1.1 A1 c_1] (fun v l lr=>∃(A_0:Option Addr) (c_0:Nat) (A_1:Option Addr) (c_1:Nat) (A_2:Option Addr) (c_2:Nat) (A_3:Option Addr) (c_3:Nat) (A_4:Option Addr) (c_4:Nat),v=.agg #[.int .i64 r.1.1,.slice A_0 r.1.2.1.length c_0,.slice A_1 r.1.2.2.1.length c_1,.slice A_2 r.1.2.2.2.1.length c_2,.slice A_3 r.1.2.2.2.2.length c_3]∧l=[O33 r.1.2.1 A_0 c_0,O9 r.1.2.2.1 A_1 c_1,Zbt r.1.2.2.2.1 A_2 c_2,Zb0 r.1.2.2.2.2 A_3 c_3,Xr b1 r.2.1 A_4 c_4 r.2.2]∧lr=[R5 r.2.1 A_4 c_4]):=by
 refine Y5 Tryz.func68 fun w0 F0 h0=>?_
 unfold Q43.f at H
 refine J.seq (J.region ?_)
 refine Ze (Ym h0) ?_
 rintro _ w1 ⟨b2,rfl,h1⟩
 replace h1:=nf h1
 refine Ze (Xf h1) ?_
 rintro _ w2 ⟨b3,rfl,h2⟩
 replace h2:=nf h2
 refine Zi [1,2,3,6] rfl ?_
 refine J.seq (J.region ?_)
 refine Zh 1 ?_
 refine Ze (Xf h2) ?_
 rintro _ w3 ⟨b4,rfl,h3⟩
 replace h3:=nf h3
 refine Ze (Z3 0 h3) ?_
 intro _ w4 h4
 replace h4:=nf h4
 refine Zi [1,2,3,6,7] rfl ?_
 refine J.seq (J.seq (J.region ?_))
 refine Zh 2 ?_
 refine Zf (Zd 2 h4.wht) ?_
 refine Zi [1,3,6,7,14,15] rfl ?_
 refine J.block ?_
 have h16:=h4.addNil 106 (.pair .str .str)
 have h17:=(sOR h16 [4,3,2,1,0] [0])
 refine J.loop (fun kk env w=>∃(x1:List (Int)) (A2:Option Addr) (c_2:Nat) (x2:Int) (x3:List (List UInt8×List UInt8)) (A3:Option Addr) (c_3:Nat) (x4:Int),env=[(1,.pointer (some ⟨b1,0,none⟩)),(3,.pointer (some ⟨b2,0,none⟩)),(6,.pointer (some ⟨b3,0,none⟩)),(7,.pointer (some ⟨b4,0,none⟩)),(14,.int .i64 (if a0.2.2.2.2.2.1<a2 then a0.2.2.2.2.2.1 else a2)),(15,.int .i64 x4)]∧St w0 F0 [Xr b1 x1 A2 c_2 x2,X23 b2 a0.1 a0.2.1 a0.2.2.1 a0.2.2.2.1 a0.2.2.2.2.1 a0.2.2.2.2.2.1 a0.2.2.2.2.2.2.1 a0.2.2.2.2.2.2.2,X43 b3 0 ([]:List (Int)) none 0 ([]:List (List UInt8)) none 0 ([]:List (List UInt8×Bool×List UInt8)) none 0 ([]:List (List UInt8×List UInt8)) none 0,X43 b4 0 ([]:List (Int)) none 0 ([]:List (List UInt8)) none 0 ([]:List (List UInt8×Bool×List UInt8)) none 0 x3 A3 c_3,Zb0 x3 A3 c_3] [R5 x1 A2 c_2] w∧Q43.l0 kk a0 a2 x1 x2 x3 x4=some r) (k:=k) ⟨a1.1,A1,c_1,a1.2,([]:List (List UInt8×List UInt8)),none,0,0,rfl,h17,H⟩ ?_
 rintro k1 env w5 ⟨x1,A2,c_2,x2,x3,A3,c_3,x4,rfl,h5,H⟩
 rcases k1 with _ | k1
 ·exact z0 H
 rw [Q43.l0] at H
 refine J.seq (Zb [1,3,6,7,14,15,16] ?_)
 refine J.seq (jIf H (fun c1 H=>?_) fun c1 H=>?_)
 ·refine J.skip (J.seq (J.block (J.seq (J.region ?_))))
  refine Zf (Zd 1 h5.wht) ?_
  refine Zh 1 ?_
  obtain ⟨r1,q1,H⟩:=Zn H
  refine Ze (Yd [0] (Q44.spec q1) h5 rfl (Zy (Zk 0) Zr)) ?_
  rintro _ w6 ⟨_,_,⟨A4,c_4,rfl,rfl,rfl⟩,h6⟩
  replace h6:=nf h6
  refine Zi [1,3,6,7,8,9,14,15] rfl ?_
  refine J.region (Zh 1 ?_)
  refine Zf (Zd 3 h6.wht) ?_
  refine Zh 3 ?_
  refine Ze (Xg (.pair .str .str) ([(r1.1,r1.2.1)]:List (List UInt8×List UInt8)) h6) ?_
  rintro _ w7 ⟨b5,rfl,h7⟩
  replace h7:=nf h7
  obtain ⟨p1,H⟩:=Zs H
  refine Ze (Yx 5 h7 (gO 0) p1) ?_
  rintro _ w8 ⟨A5,c_5,rfl,h8⟩
  replace h8:=nf h8
  refine Zh 1 ?_
  refine Ze (Z3 5 h8) ?_
  intro _ w9 h9
  replace h9:=nf h9
  refine Zi [1,3,6,7,14,15] rfl ?_
  refine Zb [1,3,6,7,14,15] ?_
  have h10:=(sOR h9 [3,3,3,0,0] [0])
  exact ⟨k1,by omega,r1.2.2.1,A4,c_4,r1.2.2.2,(x3 ++ ([(r1.1,r1.2.1)]:List (List UInt8×List UInt8))),A5,c_5,(w64 (x4+1)),rfl,h10,H⟩
 refine J.exit (J.seq (J.region ?_))
 refine Zf (Zd 3 h5.wht) ?_
 refine Ze (Z3 2 h5) ?_
 intro _ w10 h11
 replace h11:=nf h11
 refine Zi [6] rfl ?_
 have h12:=Zc h11 [0,0,2]
 replace h12:=nf h12
 refine J.ret ?_
 have h13:=h12.addNil 33 (.int .u32)
 have h14:=h13.addNil 9 .str
 have h15:=h14.addNil 115 (.pair .str (.pair .bool .str))
 cases H
 exact ⟨_,_,_,(Yy rfl (Y9 (RV.cell Y6 3 h15 rfl rfl rfl rfl) Wi) rfl),⟨_,_,_,_,_,_,_,_,_,_,rfl,rfl,rfl⟩,sOR h15 [2,1,0,2,1] [0]⟩

def Q42.l2:Nat→(Int×Int×Int×Int×Int×Int×Int×Int)→(Int)→(Int)→(List (Int))→(List (List UInt8))→(List (Int))→(Int)→(List (List UInt8×Bool×List UInt8))→(Int)→Option ((Int×List (Int)×List (List UInt8)×(List (List UInt8×Bool×List UInt8))×(List (List UInt8×List UInt8)))×(List (Int)×Int))
 | 0,_,_,_,_,_,_,_,_,_=>none
 | k+1,a0,a2,a4,x3,x7,x9,x10,x11,x12=>if (decide (x12<(if a0.2.2.2.2.1<a4 then a0.2.2.2.2.1 else a4)))=true then ((Q140.f k (x9,x10) 1).bind fun r4=>((Q44.f k a0 r4.2).bind fun r5=>(if (x11.length+([(r5.1,(decide (r4.1=2)),r5.2.1)]:List (List UInt8×Bool×List UInt8)).length)*40≤140737488355328 then (Q42.l2 k a0 a2 a4 x3 x7 r5.2.2.1 r5.2.2.2 (x11 ++ ([(r5.1,(decide (r4.1=2)),r5.2.1)]:List (List UInt8×Bool×List UInt8))) (w64 (x12+1))) else none))) else (some ((a2,x3,x7,x11,([]:List (List UInt8×List UInt8))),(x9,x10)))
def Q42.l1:Nat→(Int×Int×Int×Int×Int×Int×Int×Int)→(Int)→(Int)→(Int)→(List (Int))→(List (Int))→(Int)→(List (List UInt8))→(Int)→Option ((Int×List (Int)×List (List UInt8)×(List (List UInt8×Bool×List UInt8))×(List (List UInt8×List UInt8)))×(List (Int)×Int))
 | 0,_,_,_,_,_,_,_,_,_=>none
 | k+1,a0,a2,a3,a4,x3,x5,x6,x7,x8=>if (decide (x8<(w64 (a0.2.2.2.1 - 1))))=true then ((Q140.f k (x5,x6) 1).bind fun r2=>((Q142.f k r2.2 (w64 (r2.1)) a0.2.2.2.2.2.2.1).bind fun r3=>(if (decide ((w64 (x8+1))<a3))=true then (if (x7.length+([r3.1]:List (List UInt8)).length)*16≤140737488355328 then (Q42.l1 k a0 a2 a3 a4 x3 r3.2.1 r3.2.2 (x7 ++ ([r3.1]:List (List UInt8))) (w64 (x8+1))) else none) else (Q42.l1 k a0 a2 a3 a4 x3 r3.2.1 r3.2.2 x7 (w64 (x8+1)))))) else (Q42.l2 k a0 a2 a4 x3 x7 x5 x6 ([]:List (List UInt8×Bool×List UInt8)) 0)
def Q42.l0:Nat→(Int×Int×Int×Int×Int×Int×Int×Int)→(Int)→(Int)→(Int)→(List (Int))→(Int)→(List (Int))→(Int)→Option ((Int×List (Int)×List (List UInt8)×(List (List UInt8×Bool×List UInt8))×(List (List UInt8×List UInt8)))×(List (Int)×Int))
 | 0,_,_,_,_,_,_,_,_=>none
 | k+1,a0,a2,a3,a4,x1,x2,x3,x4=>if (decide (x4<a0.2.2.2.1))=true then ((Q140.f k (x1,x2) 4).bind fun r1=>(if (decide (x4<a3))=true then (if (x3.length+([(IntKind.u32.wrap (r1.1))]:List (Int)).length)*4≤140737488355328 then (Q42.l0 k a0 a2 a3 a4 r1.2.1 r1.2.2 (x3 ++ ([(IntKind.u32.wrap (r1.1))]:List (Int))) (w64 (x4+1))) else none) else (Q42.l0 k a0 a2 a3 a4 r1.2.1 r1.2.2 x3 (w64 (x4+1))))) else (Q42.l1 k a0 a2 a3 a4 x3 x1 x2 ([]:List (List UInt8)) 0)
def Q42.f (k:Nat) (a0:Int×Int×Int×Int×Int×Int×Int×Int) (a1:List (Int)×Int) (a2:Int) (a3:Int) (a4:Int):Option ((Int×List (Int)×List (List UInt8)×(List (List UInt8×Bool×List UInt8))×(List (List UInt8×List UInt8)))×(List (Int)×Int)):=Q42.l0 k a0 a2 a3 a4 a1.1 a1.2 ([]:List (Int)) 0
theorem Q42.spec {k:Nat} {a0:Int×Int×Int×Int×Int×Int×Int×Int} {a1:List (Int)×Int} {a2:Int} {a3:Int} {a4:Int} {A1:Option Addr} {c_1:Nat} {b1:Nat} {r:(Int×List (Int)×List (List UInt8)×(List (List UInt8×Bool×List UInt8))×(List (List UInt8×List UInt8)))×(List (Int)×Int)} (H:Q42.f k a0 a1 a2 a3 a4=some r) :
  SpecA Tryz.prog 69 [.agg #[.int .i64 a0.1,.int .i64 a0.2.1,.int .i64 a0.2.2.1,.int .i64 a0.2.2.2.1,.int .i64 a0.2.2.2.2.1,.int .i64 a0.2.2.2.2.2.1,.int .i64 a0.2.2.2.2.2.2.1,.int .i64 a0.2.2.2.2.2.2.2],.pointer (some ⟨b1,0,none⟩),.int .i64 a2,.int .i64 a3,.int .i64 a4] [Xr b1 a1.1 A1 c_1 a1.2] [R5 a1.1 A1 c_1] (fun v l lr=>∃(A_0:Option Addr) (c_0:Nat) (A_1:Option Addr) (c_1:Nat) (A_2:Option Addr) (c_2:Nat) (A_3:Option Addr) (c_3:Nat) (A_4:Option Addr) (c_4:Nat),v=.agg #[.int .i64 r.1.1,.slice A_0 r.1.2.1.length c_0,.slice A_1 r.1.2.2.1.length c_1,.slice A_2 r.1.2.2.2.1.length c_2,.slice A_3 r.1.2.2.2.2.length c_3]∧l=[O33 r.1.2.1 A_0 c_0,O9 r.1.2.2.1 A_1 c_1,Zbt r.1.2.2.2.1 A_2 c_2,Zb0 r.1.2.2.2.2 A_3 c_3,Xr b1 r.2.1 A_4 c_4 r.2.2]∧lr=[R5 r.2.1 A_4 c_4]):=by
 refine Y5 Tryz.func69 fun w0 F0 h0=>?_
 unfold Q42.f at H
 refine J.seq (J.region ?_)
 refine Ze (Ym h0) ?_
 rintro _ w1 ⟨b2,rfl,h1⟩
 replace h1:=nf h1
 refine Ze (Xf h1) ?_
 rintro _ w2 ⟨b3,rfl,h2⟩
 replace h2:=nf h2
 refine Zi [1,2,3,4,5,10] rfl ?_
 refine J.seq (J.region ?_)
 refine Zh 2 ?_
 refine Ze (Xf h2) ?_
 rintro _ w3 ⟨b4,rfl,h3⟩
 replace h3:=nf h3
 refine Ze (Z3 0 h3) ?_
 intro _ w4 h4
 replace h4:=nf h4
 refine Zi [1,3,4,5,10,11] rfl ?_
 refine J.seq (J.seq (J.region ?_))
 refine Zh 1 ?_
 refine Zf (Zd 2 h4.wht) ?_
 refine Zi [1,3,4,5,10,11,22,23] rfl ?_
 refine J.block ?_
 have h35:=h4.addNil 33 (.int .u32)
 have h36:=(sOR h35 [4,3,2,1,0] [0])
 refine J.loop (fun kk env w=>∃(x1:List (Int)) (A2:Option Addr) (c_2:Nat) (x2:Int) (x3:List (Int)) (A3:Option Addr) (c_3:Nat) (x4:Int),env=[(1,.pointer (some ⟨b1,0,none⟩)),(3,.int .i64 a3),(4,.int .i64 a4),(5,.pointer (some ⟨b2,0,none⟩)),(10,.pointer (some ⟨b3,0,none⟩)),(11,.pointer (some ⟨b4,0,none⟩)),(22,.int .i64 a0.2.2.2.1),(23,.int .i64 x4)]∧St w0 F0 [Xr b1 x1 A2 c_2 x2,X23 b2 a0.1 a0.2.1 a0.2.2.1 a0.2.2.2.1 a0.2.2.2.2.1 a0.2.2.2.2.2.1 a0.2.2.2.2.2.2.1 a0.2.2.2.2.2.2.2,X43 b3 0 ([]:List (Int)) none 0 ([]:List (List UInt8)) none 0 ([]:List (List UInt8×Bool×List UInt8)) none 0 ([]:List (List UInt8×List UInt8)) none 0,X43 b4 a2 x3 A3 c_3 ([]:List (List UInt8)) none 0 ([]:List (List UInt8×Bool×List UInt8)) none 0 ([]:List (List UInt8×List UInt8)) none 0,O33 x3 A3 c_3] [R5 x1 A2 c_2] w∧Q42.l0 kk a0 a2 a3 a4 x1 x2 x3 x4=some r) (k:=k) ⟨a1.1,A1,c_1,a1.2,([]:List (Int)),none,0,0,rfl,h36,H⟩ ?_
 rintro k1 env w5 ⟨x1,A2,c_2,x2,x3,A3,c_3,x4,rfl,h5,H⟩
 rcases k1 with _ | k1
 ·exact z0 H
 rw [Q42.l0] at H
 refine J.seq (Zb [1,3,4,5,10,11,22,23,24] ?_)
 refine J.seq (jIf H (fun c1 H=>?_) fun c1 H=>?_)
 ·refine J.skip (J.seq (J.block (J.seq (Zb [1,3,4,5,10,11,12,22,23] ?_))))
  refine J.seq (J.region ?_)
  refine Zh 1 ?_
  obtain ⟨r1,q1,H⟩:=Zn H
  refine Ze (Yd [0] (Q140.spec q1) h5 rfl (Zy (Zk 0) Zr)) ?_
  rintro _ w6 ⟨_,_,⟨A4,c_4,rfl,rfl,rfl⟩,h6⟩
  replace h6:=nf h6
  refine Zi [1,3,4,5,10,11,12,13,22,23] rfl ?_
  refine J.seq (Zb [1,3,4,5,10,11,13,22,23,31] ?_)
  refine jIf H (fun c2 H=>?_) fun c2 H=>?_
  ·refine J.region (Zh 1 ?_)
   refine Zf (Zd 3 h6.wht) ?_
   refine Zh 1 ?_
   refine Ze (Xg (.int .u32) ([(IntKind.u32.wrap (r1.1))]:List (Int)) h6) ?_
   rintro _ w7 ⟨b5,rfl,h7⟩
   replace h7:=nf h7
   obtain ⟨p1,H⟩:=Zs H
   refine Ze (Yx 5 h7 (gO 0) p1) ?_
   rintro _ w8 ⟨A5,c_5,rfl,h8⟩
   replace h8:=nf h8
   refine Zh 1 ?_
   refine Ze (Z3 5 h8) ?_
   intro _ w9 h9
   replace h9:=nf h9
   refine Zi [1,3,4,5,10,11,22,23] rfl ?_
   refine Zb [1,3,4,5,10,11,22,23] ?_
   have h10:=(sOR h9 [3,3,3,0,0] [0])
   exact ⟨k1,by omega,r1.2.1,A4,c_4,r1.2.2,(x3 ++ ([(IntKind.u32.wrap (r1.1))]:List (Int))),A5,c_5,(w64 (x4+1)),rfl,h10,H⟩
  refine J.skip (Zb [1,3,4,5,10,11,22,23] ?_)
  have h11:=(sOR h6 [0,0,0,0,0] [0])
  exact ⟨k1,by omega,r1.2.1,A4,c_4,r1.2.2,x3,A3,c_3,(w64 (x4+1)),rfl,h11,H⟩
 refine J.exit (J.seq (J.seq (J.region ?_)))
 refine Zh 1 ?_
 refine Zf (Zd 1 h5.wht) ?_
 refine Zi [1,3,4,5,10,11,41,42] rfl ?_
 refine J.block ?_
 have h33:=h5.addNil 9 .str
 have h34:=(sOR h33 [1,1,1,1,1,0] [0])
 refine J.loop (fun kk env w=>∃(x5:List (Int)) (A6:Option Addr) (c_6:Nat) (x6:Int) (x7:List (List UInt8)) (A7:Option Addr) (c_7:Nat) (x8:Int),env=[(1,.pointer (some ⟨b1,0,none⟩)),(3,.int .i64 a3),(4,.int .i64 a4),(5,.pointer (some ⟨b2,0,none⟩)),(10,.pointer (some ⟨b3,0,none⟩)),(11,.pointer (some ⟨b4,0,none⟩)),(41,.int .i64 (w64 (a0.2.2.2.1 - 1))),(42,.int .i64 x8)]∧St w0 F0 [Xr b1 x5 A6 c_6 x6,X23 b2 a0.1 a0.2.1 a0.2.2.1 a0.2.2.2.1 a0.2.2.2.2.1 a0.2.2.2.2.2.1 a0.2.2.2.2.2.2.1 a0.2.2.2.2.2.2.2,X43 b3 0 ([]:List (Int)) none 0 ([]:List (List UInt8)) none 0 ([]:List (List UInt8×Bool×List UInt8)) none 0 ([]:List (List UInt8×List UInt8)) none 0,X43 b4 a2 x3 A3 c_3 x7 A7 c_7 ([]:List (List UInt8×Bool×List UInt8)) none 0 ([]:List (List UInt8×List UInt8)) none 0,O33 x3 A3 c_3,O9 x7 A7 c_7] [R5 x5 A6 c_6] w∧Q42.l1 kk a0 a2 a3 a4 x3 x5 x6 x7 x8=some r) (k:=k1) ⟨x1,A2,c_2,x2,([]:List (List UInt8)),none,0,0,rfl,h34,H⟩ ?_
 rintro k2 env w10 ⟨x5,A6,c_6,x6,x7,A7,c_7,x8,rfl,h12,H⟩
 rcases k2 with _ | k2
 ·exact z0 H
 rw [Q42.l1] at H
 refine J.seq (Zb [1,3,4,5,10,11,41,42,43] ?_)
 refine J.seq (jIf H (fun c3 H=>?_) fun c3 H=>?_)
 ·refine J.skip (J.seq (J.block (J.seq (Zb [1,3,4,5,10,11,14,41,42] ?_))))
  refine J.seq (Zu (Zc h12 [1,1,1,1,1]) ?_)
  have h13:=h12.drew
  refine Zv [0,1,4] ?_
  refine Zj 5 rfl (Zd 0 wI) ?_
  obtain ⟨r2,q2,H⟩:=Zn H
  refine Zp 2 rfl (Yd [0] (Q140.spec q2) h13 rfl (Zy (Zk 0) Zr)) ?_
  rintro _ w11 ⟨_,_,⟨A8,c_8,rfl,rfl,rfl⟩,h14⟩
  replace h14:=nf h14
  refine ⟨⟨[_],(Uk h14 [1])⟩,?_⟩
  refine Zv [3] ?_
  obtain ⟨r3,q3,H⟩:=Zn H
  refine Zp 6 rfl (Yd [0] (Q142.spec q3) h14 rfl (Zy (Zk 0) Zr)) ?_
  rintro _ w12 ⟨_,_,⟨A9,c_9,rfl,rfl,rfl⟩,h15⟩
  replace h15:=nf h15
  refine ⟨⟨[_],(Uk h15 [2])⟩,?_⟩
  refine Zv [7] ?_
  refine Z0 [1,3,4,5,10,11,14,15,41,42] ?_
  refine J.seq (Zb [1,3,4,5,10,11,15,41,42,55] ?_)
  refine jIf H (fun c4 H=>?_) fun c4 H=>?_
  ·refine J.region (Zh 1 ?_)
   refine Zf (Zd 3 h15.wht) ?_
   refine Zh 1 ?_
   refine Ze (Xg .str ([r3.1]:List (List UInt8)) h15) ?_
   rintro _ w13 ⟨b6,rfl,h16⟩
   replace h16:=nf h16
   obtain ⟨p2,H⟩:=Zs H
   refine Ze (Yx 6 h16 (gO 0) p2) ?_
   rintro _ w14 ⟨A10,c_10,rfl,h17⟩
   replace h17:=nf h17
   refine Zh 1 ?_
   refine Ze (Z3 5 h17) ?_
   intro _ w15 h18
   replace h18:=nf h18
   refine Zi [1,3,4,5,10,11,41,42] rfl ?_
   refine Zb [1,3,4,5,10,11,41,42] ?_
   have h19:=(sOR h18 [3,3,3,0,2,0] [0])
   exact ⟨k2,by omega,r3.2.1,A9,c_9,r3.2.2,(x7 ++ ([r3.1]:List (List UInt8))),A10,c_10,(w64 (x8+1)),rfl,h19,H⟩
  refine J.skip (Zb [1,3,4,5,10,11,41,42] ?_)
  have h20:=(sOR h15 [0,0,0,0,0,0] [0])
  exact ⟨k2,by omega,r3.2.1,A9,c_9,r3.2.2,x7,A7,c_7,(w64 (x8+1)),rfl,h20,H⟩
 refine J.exit (J.seq (J.seq (J.region ?_)))
 refine Zh 2 ?_
 refine Zf (Zd 1 h12.wht) ?_
 refine Zi [1,5,10,11,66,67] rfl ?_
 refine J.block ?_
 have h31:=h12.addNil 115 (.pair .str (.pair .bool .str))
 have h32:=(sOR h31 [1,1,1,1,1,1,0] [0])
 refine J.loop (fun kk env w=>∃(x9:List (Int)) (A11:Option Addr) (c_11:Nat) (x10:Int) (x11:List (List UInt8×Bool×List UInt8)) (A12:Option Addr) (c_12:Nat) (x12:Int),env=[(1,.pointer (some ⟨b1,0,none⟩)),(5,.pointer (some ⟨b2,0,none⟩)),(10,.pointer (some ⟨b3,0,none⟩)),(11,.pointer (some ⟨b4,0,none⟩)),(66,.int .i64 (if a0.2.2.2.2.1<a4 then a0.2.2.2.2.1 else a4)),(67,.int .i64 x12)]∧St w0 F0 [Xr b1 x9 A11 c_11 x10,X23 b2 a0.1 a0.2.1 a0.2.2.1 a0.2.2.2.1 a0.2.2.2.2.1 a0.2.2.2.2.2.1 a0.2.2.2.2.2.2.1 a0.2.2.2.2.2.2.2,X43 b3 0 ([]:List (Int)) none 0 ([]:List (List UInt8)) none 0 ([]:List (List UInt8×Bool×List UInt8)) none 0 ([]:List (List UInt8×List UInt8)) none 0,X43 b4 a2 x3 A3 c_3 x7 A7 c_7 x11 A12 c_12 ([]:List (List UInt8×List UInt8)) none 0,O33 x3 A3 c_3,O9 x7 A7 c_7,Zbt x11 A12 c_12] [R5 x9 A11 c_11] w∧Q42.l2 kk a0 a2 a4 x3 x7 x9 x10 x11 x12=some r) (k:=k2) ⟨x5,A6,c_6,x6,([]:List (List UInt8×Bool×List UInt8)),none,0,0,rfl,h32,H⟩ ?_
 rintro k3 env w16 ⟨x9,A11,c_11,x10,x11,A12,c_12,x12,rfl,h21,H⟩
 rcases k3 with _ | k3
 ·exact z0 H
 rw [Q42.l2] at H
 refine J.seq (Zb [1,5,10,11,66,67,68] ?_)
 refine J.seq (jIf H (fun c5 H=>?_) fun c5 H=>?_)
 ·refine J.skip (J.seq (J.block (J.seq (J.region ?_))))
  refine Zh 1 ?_
  obtain ⟨r4,q4,H⟩:=Zn H
  refine Ze (Yd [0] (Q140.spec q4) h21 rfl (Zy (Zk 0) Zr)) ?_
  rintro _ w17 ⟨_,_,⟨A13,c_13,rfl,rfl,rfl⟩,h22⟩
  replace h22:=nf h22
  refine Zi [1,5,10,11,16,66,67] rfl ?_
  refine J.seq (J.region ?_)
  refine Zf (Zd 1 h22.wht) ?_
  refine Zh 1 ?_
  obtain ⟨r5,q5,H⟩:=Zn H
  refine Ze (Yd [0] (Q44.spec q5) h22 rfl (Zy (Zk 0) Zr)) ?_
  rintro _ w18 ⟨_,_,⟨A14,c_14,rfl,rfl,rfl⟩,h23⟩
  replace h23:=nf h23
  refine Zi [1,5,10,11,16,17,18,66,67] rfl ?_
  refine J.region (Zh 1 ?_)
  refine Zf (Zd 3 h23.wht) ?_
  refine Zh 5 ?_
  refine Ze (Xg (.pair .str (.pair .bool .str)) ([(r5.1,(decide (r4.1=2)),r5.2.1)]:List (List UInt8×Bool×List UInt8)) h23) ?_
  rintro _ w19 ⟨b7,rfl,h24⟩
  replace h24:=nf h24
  obtain ⟨p3,H⟩:=Zs H
  refine Ze (Yx 7 h24 (gO 0) p3) ?_
  rintro _ w20 ⟨A15,c_15,rfl,h25⟩
  replace h25:=nf h25
  refine Zh 1 ?_
  refine Ze (Z3 5 h25) ?_
  intro _ w21 h26
  replace h26:=nf h26
  refine Zi [1,5,10,11,66,67] rfl ?_
  refine Zb [1,5,10,11,66,67] ?_
  have h27:=(sOR h26 [3,3,3,0,2,2,0] [0])
  exact ⟨k3,by omega,r5.2.2.1,A14,c_14,r5.2.2.2,(x11 ++ ([(r5.1,(decide (r4.1=2)),r5.2.1)]:List (List UInt8×Bool×List UInt8))),A15,c_15,(w64 (x12+1)),rfl,h27,H⟩
 refine J.exit (J.seq (J.region ?_))
 refine Zf (Zd 3 h21.wht) ?_
 refine Ze (Z3 2 h21) ?_
 intro _ w22 h28
 replace h28:=nf h28
 refine Zi [10] rfl ?_
 have h29:=Zc h28 [0,0,2,2,2]
 replace h29:=nf h29
 refine J.ret ?_
 have h30:=h29.addNil 106 (.pair .str .str)
 cases H
 exact ⟨_,_,_,(Yy rfl (Y9 (RV.cell Y6 1 h30 rfl rfl rfl rfl) Wi) rfl),⟨_,_,_,_,_,_,_,_,_,_,rfl,rfl,rfl⟩,sOR h30 [3,3,3,0,1] [0]⟩

def Q139.f (a0:List (Int)×Int):Option (Int):=some a0.2
theorem Q139.spec {a0:List (Int)×Int} {A1:Option Addr} {c_1:Nat} {b1:Nat} {r:Int} (H:Q139.f a0=some r) :
  Spec Tryz.prog 70 [.pointer (some ⟨b1,0,none⟩)] [Xr b1 a0.1 A1 c_1 a0.2] [R5 a0.1 A1 c_1] (fun v l=>v=.int .i64 r∧l=[Xr b1 a0.1 A1 c_1 a0.2]):=by
 refine Zo Tryz.func70 fun w0 F0 h0=>?_
 unfold Q139.f at H
 refine J.seq (Zb [0] ?_)
 refine J.seq (J.seq (Zb [0,4] ?_))
 refine Z4 ?_
 refine J.skip (J.seq (J.region ?_))
 refine Zh 3 ?_
 refine Zf (Zd 0 h0.wht) ?_
 refine Zi [2] rfl ?_
 refine J.ret ?_
 cases H
 exact ⟨_,_,_,Za,⟨rfl,rfl⟩,Zc h0 [0]⟩

def Q102.l0:Nat→(List (Int))→(List (Int))→(Int)→Option (Bool)
 | 0,_,_,_=>none
 | k+1,a0,a1,x1=>if (decide (x1<(a0.length:Int)))=true then (if 0≤x1∧x1<(a0.length:Int) then (if 0≤x1∧x1<(a1.length:Int) then (if (!decide ((gt a0 x1)=(gt a1 x1)))=true then (some false) else (Q102.l0 k a0 a1 (w64 (x1+1)))) else none) else none) else (some true)
def Q102.f (k:Nat) (a0:List (Int)) (a1:List (Int)):Option (Bool):=if (!decide ((a0.length:Int)=(a1.length:Int)))=true then (some false) else (Q102.l0 k a0 a1 0)
theorem Q102.spec {k:Nat} {a0:List (Int)} {a1:List (Int)} {A1:Option Addr} {c_1:Nat} {A2:Option Addr} {c_2:Nat} {r:Bool} (H:Q102.f k a0 a1=some r) :
  Spec Tryz.prog 72 [.slice A1 a0.length c_1,.slice A2 a1.length c_2] [] [R5 a0 A1 c_1,R5 a1 A2 c_2] (fun v l=>v=.bool r∧l=[]):=by
 refine Zo Tryz.func72 fun w0 F0 h0=>?_
 unfold Q102.f at H
 refine J.seq (Zb [0,1] ?_)
 refine J.seq (J.seq (Zb [0,1,10] ?_))
 refine jIf H (fun c1 H=>?_) fun c1 H=>?_
 ·refine J.seq (Zb [4] ?_)
  refine J.ret ?_
  cases H
  exact ⟨_,_,_,Za,⟨rfl,rfl⟩,Zc h0 []⟩
 refine J.skip (J.seq (J.seq (Zb [0,1,12,13] ?_)))
 refine J.block ?_
 have h4:=(sOR h0 [] [0,1])
 refine J.loop (fun kk env w=>∃(x1:Int),env=[(0,.slice A1 a0.length c_1),(1,.slice A2 a1.length c_2),(12,.int .i64 (a0.length:Int)),(13,.int .i64 x1)]∧St w0 F0 [] [R5 a0 A1 c_1,R5 a1 A2 c_2] w∧Q102.l0 kk a0 a1 x1=some r) (k:=k) ⟨0,rfl,h4,H⟩ ?_
 rintro k1 env w1 ⟨x1,rfl,h1,H⟩
 rcases k1 with _ | k1
 ·exact z0 H
 rw [Q102.l0] at H
 refine J.seq (Zb [0,1,12,13,14] ?_)
 refine J.seq (jIf H (fun c2 H=>?_) fun c2 H=>?_)
 ·refine J.skip (J.seq (J.block (J.seq (Zb [0,1,5,12,13] ?_))))
  refine J.seq (Zu h1 ?_)
  have h2:=h1.drew
  refine Zv [0,1,4,5] ?_
  obtain ⟨⟨p1,p2⟩,H⟩:=Zs H
  have e1:=Z6 h2.wh (Zk 0) p1 p2
  refine Zj 2 rfl (Zl e1 p1 p2) ?_
  refine Zj 3 rfl (Zm 0 wI (Zk 0) p1 p2) ?_
  obtain ⟨⟨p3,p4⟩,H⟩:=Zs H
  have e2:=Z6 h2.wh (Zk 1) p3 p4
  refine Zj 6 rfl (Zl e2 p3 p4) ?_
  refine Zj 7 rfl (Zm 0 wI (Zk 1) p3 p4) ?_
  refine Zv [8] ?_
  refine Z0 [0,1,12,13,24] ?_
  refine jIf H (fun c3 H=>?_) fun c3 H=>?_
  ·refine J.seq (Zb [4] ?_)
   refine J.ret ?_
   cases H
   exact ⟨_,_,_,Za,⟨rfl,rfl⟩,Zc h2 []⟩
  refine J.skip (Zb [0,1,12,13] ?_)
  have h3:=(sOR h2 [] [0,1])
  exact ⟨k1,by omega,(w64 (x1+1)),rfl,h3,H⟩
 refine J.exit (J.seq (Zb [4] ?_))
 refine J.ret ?_
 cases H
 exact ⟨_,_,_,Za,⟨rfl,rfl⟩,Zc h1 []⟩

def Q37.f (k:Nat) (a0:Int×Int×Int×Int×Int×Int×Int×Int) (a1:List (Int)):Option ((Int×List (Int)×List (List UInt8)×(List (List UInt8×Bool×List UInt8))×(List (List UInt8×List UInt8)))×Int):=(Q48.f a0).bind fun r1=>(if (!decide (r1=0))=true then (some ((0,([]:List (Int)),([]:List (List UInt8)),([]:List (List UInt8×Bool×List UInt8)),([]:List (List UInt8×List UInt8))),r1)) else ((Q137.f a1).bind fun r2=>((Q140.f k r2 1).bind fun r3=>((Q140.f k r3.2 1).bind fun r4=>((Q140.f k r4.2 2).bind fun r5=>((Q140.f k r5.2 2).bind fun r6=>((Q144.f k r6.2 2).bind fun r7=>(if (decide (r3.1=1))=true then ((Q43.f k a0 r7 (w64 (r5.1))).bind fun r11=>((Q139.f (r11.2.1,r11.2.2)).bind fun r8=>(if (!decide (r8=0))=true then (some ((0,([]:List (Int)),([]:List (List UInt8)),([]:List (List UInt8×Bool×List UInt8)),([]:List (List UInt8×List UInt8))),12)) else ((Q38.f k a0 (r11.1.1,r11.1.2.1,r11.1.2.2.1,r11.1.2.2.2.1,r11.1.2.2.2.2)).bind fun r9=>(if (!decide (r9.2=0))=true then (some ((0,([]:List (Int)),([]:List (List UInt8)),([]:List (List UInt8×Bool×List UInt8)),([]:List (List UInt8×List UInt8))),12)) else ((Q102.f k r9.1 a1).bind fun r10=>(if (!r10)=true then (some ((0,([]:List (Int)),([]:List (List UInt8)),([]:List (List UInt8×Bool×List UInt8)),([]:List (List UInt8×List UInt8))),12)) else (some ((r11.1.1,r11.1.2.1,r11.1.2.2.1,r11.1.2.2.2.1,r11.1.2.2.2.2),0))))))))) else (if (decide (r3.1=2))=true then ((Q42.f k a0 r7 (if (w64 (r4.1))>1 then (w64 (r4.1)) else 1) (w64 (r5.1)) (w64 (r6.1))).bind fun r12=>((Q139.f (r12.2.1,r12.2.2)).bind fun r8=>(if (!decide (r8=0))=true then (some ((0,([]:List (Int)),([]:List (List UInt8)),([]:List (List UInt8×Bool×List UInt8)),([]:List (List UInt8×List UInt8))),12)) else ((Q38.f k a0 (r12.1.1,r12.1.2.1,r12.1.2.2.1,r12.1.2.2.2.1,r12.1.2.2.2.2)).bind fun r9=>(if (!decide (r9.2=0))=true then (some ((0,([]:List (Int)),([]:List (List UInt8)),([]:List (List UInt8×Bool×List UInt8)),([]:List (List UInt8×List UInt8))),12)) else ((Q102.f k r9.1 a1).bind fun r10=>(if (!r10)=true then (some ((0,([]:List (Int)),([]:List (List UInt8)),([]:List (List UInt8×Bool×List UInt8)),([]:List (List UInt8×List UInt8))),12)) else (some ((r12.1.1,r12.1.2.1,r12.1.2.2.1,r12.1.2.2.2.1,r12.1.2.2.2.2),0))))))))) else ((Q139.f (r7.1,r7.2)).bind fun r8=>(if (!decide (r8=0))=true then (some ((0,([]:List (Int)),([]:List (List UInt8)),([]:List (List UInt8×Bool×List UInt8)),([]:List (List UInt8×List UInt8))),12)) else ((Q38.f k a0 ((-1),([]:List (Int)),([]:List (List UInt8)),([]:List (List UInt8×Bool×List UInt8)),([]:List (List UInt8×List UInt8)))).bind fun r9=>(if (!decide (r9.2=0))=true then (some ((0,([]:List (Int)),([]:List (List UInt8)),([]:List (List UInt8×Bool×List UInt8)),([]:List (List UInt8×List UInt8))),12)) else ((Q102.f k r9.1 a1).bind fun r10=>(if (!r10)=true then (some ((0,([]:List (Int)),([]:List (List UInt8)),([]:List (List UInt8×Bool×List UInt8)),([]:List (List UInt8×List UInt8))),12)) else (some (((-1),([]:List (Int)),([]:List (List UInt8)),([]:List (List UInt8×Bool×List UInt8)),([]:List (List UInt8×List UInt8))),0)))))))))))))))))
theorem Q37.spec {k:Nat} {a0:Int×Int×Int×Int×Int×Int×Int×Int} {a1:List (Int)} {A1:Option Addr} {c_1:Nat} {r:(Int×List (Int)×List (List UInt8)×(List (List UInt8×Bool×List UInt8))×(List (List UInt8×List UInt8)))×Int} (H:Q37.f k a0 a1=some r) :
  Spec Tryz.prog 21 [.agg #[.int .i64 a0.1,.int .i64 a0.2.1,.int .i64 a0.2.2.1,.int .i64 a0.2.2.2.1,.int .i64 a0.2.2.2.2.1,.int .i64 a0.2.2.2.2.2.1,.int .i64 a0.2.2.2.2.2.2.1,.int .i64 a0.2.2.2.2.2.2.2],.slice A1 a1.length c_1] [] [R5 a1 A1 c_1] (fun v l=>∃(A_0:Option Addr) (c_0:Nat) (A_1:Option Addr) (c_1:Nat) (A_2:Option Addr) (c_2:Nat) (A_3:Option Addr) (c_3:Nat),v=.tuple #[.agg #[.int .i64 r.1.1,.slice A_0 r.1.2.1.length c_0,.slice A_1 r.1.2.2.1.length c_1,.slice A_2 r.1.2.2.2.1.length c_2,.slice A_3 r.1.2.2.2.2.length c_3],.int .i64 r.2]∧l=[O33 r.1.2.1 A_0 c_0,O9 r.1.2.2.1 A_1 c_1,Zbt r.1.2.2.2.1 A_2 c_2,Zb0 r.1.2.2.2.2 A_3 c_3]):=by
 refine Zo Tryz.func21 fun w0 F0 h0=>?_
 unfold Q37.f at H
 refine J.seq (J.region ?_)
 refine Ze (Ym h0) ?_
 rintro _ w1 ⟨b1,rfl,h1⟩
 replace h1:=nf h1
 refine Ze (Xf h1) ?_
 rintro _ w2 ⟨b2,rfl,h2⟩
 replace h2:=nf h2
 refine Zi [1,2,4] rfl ?_
 refine J.seq (J.seq (J.region ?_))
 refine Zf (Zd 1 h2.wht) ?_
 obtain ⟨r1,q1,H⟩:=Zn H
 refine Ze (Zg [] (Q48.spec q1) h2 rfl Zr) ?_
 rintro _ w3 ⟨_,⟨rfl,rfl⟩,h3⟩
 replace h3:=nf h3
 refine Zi [1,2,4,6] rfl ?_
 refine J.seq (Zb [1,2,4,6,18] ?_)
 refine jIf H (fun c1 H=>?_) fun c1 H=>?_
 ·refine J.seq (J.region ?_)
  refine Zh 2 ?_
  refine Ze (Z3 0 h3) ?_
  intro _ w4 h4
  replace h4:=nf h4
  refine Zi [4,5] rfl ?_
  refine J.ret ?_
  have h5:=h4.addNil 33 (.int .u32)
  have h6:=h5.addNil 9 .str
  have h7:=h6.addNil 115 (.pair .str (.pair .bool .str))
  have h8:=h7.addNil 106 (.pair .str .str)
  cases H
  exact ⟨_,_,_,(Yy rfl (Y9 (RV.cell Y6 4 h8 rfl rfl rfl rfl) (Y9 (RV.tmp rfl) Wi)) rfl),⟨_,_,_,_,_,_,_,_,rfl,rfl⟩,Zc h8 [3,2,1,0]⟩
 refine J.skip (J.seq (J.region ?_))
 refine Zh 1 ?_
 obtain ⟨r2,q2,H⟩:=Zn H
 refine Ze (Yd [] (Q137.spec q2) h3 rfl (Zy (Zk 0) Zr)) ?_
 rintro _ w5 ⟨_,_,⟨b3,A2,c_2,rfl,rfl,rfl⟩,h9⟩
 replace h9:=nf h9
 refine Zi [1,2,4,7] rfl ?_
 refine J.seq (J.region ?_)
 refine Zh 1 ?_
 obtain ⟨r3,q3,H⟩:=Zn H
 refine Ze (Yd [0] (Q140.spec q3) h9 rfl (Zy (Zk 0) Zr)) ?_
 rintro _ w6 ⟨_,_,⟨A3,c_3,rfl,rfl,rfl⟩,h10⟩
 replace h10:=nf h10
 refine Zh 1 ?_
 obtain ⟨r4,q4,H⟩:=Zn H
 refine Ze (Yd [0] (Q140.spec q4) h10 rfl (Zy (Zk 0) Zr)) ?_
 rintro _ w7 ⟨_,_,⟨A4,c_4,rfl,rfl,rfl⟩,h11⟩
 replace h11:=nf h11
 refine Zh 2 ?_
 obtain ⟨r5,q5,H⟩:=Zn H
 refine Ze (Yd [0] (Q140.spec q5) h11 rfl (Zy (Zk 0) Zr)) ?_
 rintro _ w8 ⟨_,_,⟨A5,c_5,rfl,rfl,rfl⟩,h12⟩
 replace h12:=nf h12
 refine Zh 2 ?_
 obtain ⟨r6,q6,H⟩:=Zn H
 refine Ze (Yd [0] (Q140.spec q6) h12 rfl (Zy (Zk 0) Zr)) ?_
 rintro _ w9 ⟨_,_,⟨A6,c_6,rfl,rfl,rfl⟩,h13⟩
 replace h13:=nf h13
 refine Zi [1,2,4,7,8,9,10,11] rfl ?_
 refine J.seq (J.region ?_)
 refine Zh 1 ?_
 obtain ⟨r7,q7,H⟩:=Zn H
 refine Ze (Yd [0] (Q144.spec q7) h13 rfl (Zy (Zk 0) Zr)) ?_
 rintro _ w10 ⟨_,_,⟨A7,c_7,rfl,rfl,rfl⟩,h14⟩
 replace h14:=nf h14
 refine Zi [1,2,4,7,8,9,10,11] rfl ?_
 refine J.seq (J.region ?_)
 refine Zh 1 ?_
 refine Ze (Xf h14) ?_
 rintro _ w11 ⟨b4,rfl,h15⟩
 replace h15:=nf h15
 refine Ze (Z3 0 h15) ?_
 intro _ w12 h16
 replace h16:=nf h16
 refine Zi [1,2,4,7,8,9,10,11,12] rfl ?_
 refine J.seq (J.seq (Zb [1,2,4,7,9,10,11,12,37] ?_))
 refine J.midS (fun env w=>∃(k1:Nat) (x1:List (Int)) (A8:Option Addr) (c_8:Nat) (x2:Int) (x3:Int) (x4:List (Int)) (A9:Option Addr) (c_9:Nat) (x5:List (List UInt8)) (A10:Option Addr) (c_10:Nat) (x6:List (List UInt8×Bool×List UInt8)) (A11:Option Addr) (c_11:Nat) (x7:List (List UInt8×List UInt8)) (A12:Option Addr) (c_12:Nat),env=[(1,.slice A1 a1.length c_1),(2,.pointer (some ⟨b1,0,none⟩)),(4,.pointer (some ⟨b2,0,none⟩)),(7,.pointer (some ⟨b3,0,none⟩)),(12,.pointer (some ⟨b4,0,none⟩))]∧St w0 F0 [X23 b1 a0.1 a0.2.1 a0.2.2.1 a0.2.2.2.1 a0.2.2.2.2.1 a0.2.2.2.2.2.1 a0.2.2.2.2.2.2.1 a0.2.2.2.2.2.2.2,X43 b2 0 ([]:List (Int)) none 0 ([]:List (List UInt8)) none 0 ([]:List (List UInt8×Bool×List UInt8)) none 0 ([]:List (List UInt8×List UInt8)) none 0,Xr b3 x1 A8 c_8 x2,X43 b4 x3 x4 A9 c_9 x5 A10 c_10 x6 A11 c_11 x7 A12 c_12,O33 x4 A9 c_9,O9 x5 A10 c_10,Zbt x6 A11 c_11,Zb0 x7 A12 c_12] [R5 a1 A1 c_1,R5 x1 A8 c_8] w∧((Q139.f (x1,x2)).bind fun r8=>(if (!decide (r8=0))=true then (some ((0,([]:List (Int)),([]:List (List UInt8)),([]:List (List UInt8×Bool×List UInt8)),([]:List (List UInt8×List UInt8))),12)) else ((Q38.f k1 a0 (x3,x4,x5,x6,x7)).bind fun r9=>(if (!decide (r9.2=0))=true then (some ((0,([]:List (Int)),([]:List (List UInt8)),([]:List (List UInt8×Bool×List UInt8)),([]:List (List UInt8×List UInt8))),12)) else ((Q102.f k1 r9.1 a1).bind fun r10=>(if (!r10)=true then (some ((0,([]:List (Int)),([]:List (List UInt8)),([]:List (List UInt8×Bool×List UInt8)),([]:List (List UInt8×List UInt8))),12)) else (some ((x3,x4,x5,x6,x7),0))))))))=some r∧k1≤k) ?_ ?_
 ·refine J.block (J.seq (Zb [1,2,4,7,9,10,11,12,37,38] ?_))
  refine jIf H (fun c5 H=>?_) fun c5 H=>?_
  ·refine J.region (Zf (Zd 3 h16.wht) ?_)
   refine Zh 2 ?_
   obtain ⟨r11,q11,H⟩:=Zn H
   refine Ze (Yd [1] (Q43.spec q11) h16 rfl (Zy (Zk 0) Zr)) ?_
   rintro _ w22 ⟨_,_,⟨A14,c_14,A15,c_15,A16,c_16,A17,c_17,A18,c_18,rfl,rfl,rfl⟩,h42⟩
   replace h42:=nf h42
   refine Ze (Z3 5 h42) ?_
   intro _ w23 h43
   replace h43:=nf h43
   refine Zi [1,2,4,7,12] rfl ?_
   have h44:=(sOR h43 [7,6,5,0,0,0,0,0] [7,0])
   exact ⟨k,r11.2.1,A18,c_18,r11.2.2,r11.1.1,r11.1.2.1,A14,c_14,r11.1.2.2.1,A15,c_15,r11.1.2.2.2.1,A16,c_16,r11.1.2.2.2.2,A17,c_17,rfl,h44,H,Nat.le_refl _⟩
  refine J.seq (Zb [1,2,4,7,9,10,11,12,44] ?_)
  refine jIf H (fun c6 H=>?_) fun c6 H=>?_
  ·refine J.region (Zf (Zd 3 h16.wht) ?_)
   refine Zh 5 ?_
   obtain ⟨r12,q12,H⟩:=Zn H
   refine Ze (Yd [1] (Q42.spec q12) h16 rfl (Zy (Zk 0) Zr)) ?_
   rintro _ w24 ⟨_,_,⟨A19,c_19,A20,c_20,A21,c_21,A22,c_22,A23,c_23,rfl,rfl,rfl⟩,h45⟩
   replace h45:=nf h45
   refine Ze (Z3 5 h45) ?_
   intro _ w25 h46
   replace h46:=nf h46
   refine Zi [1,2,4,7,12] rfl ?_
   have h47:=(sOR h46 [7,6,5,0,0,0,0,0] [7,0])
   exact ⟨k,r12.2.1,A23,c_23,r12.2.2,r12.1.1,r12.1.2.1,A19,c_19,r12.1.2.2.1,A20,c_20,r12.1.2.2.2.1,A21,c_21,r12.1.2.2.2.2,A22,c_22,rfl,h47,H,Nat.le_refl _⟩
  refine Xz [1,2,4,7,12] ?_
  refine J.skip ?_
  have h48:=h16.addNil 33 (.int .u32)
  have h49:=h48.addNil 9 .str
  have h50:=h49.addNil 115 (.pair .str (.pair .bool .str))
  have h51:=h50.addNil 106 (.pair .str .str)
  have h52:=(sOR h51 [7,6,5,4,3,2,1,0] [6,0])
  exact ⟨k,r7.1,A7,c_7,r7.2,(-1),([]:List (Int)),none,0,([]:List (List UInt8)),none,0,([]:List (List UInt8×Bool×List UInt8)),none,0,([]:List (List UInt8×List UInt8)),none,0,rfl,h52,H,Nat.le_refl _⟩
 rintro env w14 ⟨k1,x1,A8,c_8,x2,x3,x4,A9,c_9,x5,A10,c_10,x6,A11,c_11,x7,A12,c_12,rfl,h17,H,hk1⟩
 refine J.seq (J.seq (J.region ?_))
 refine Zh 1 ?_
 obtain ⟨r8,q8,H⟩:=Zn H
 refine Ze (Zg [2] (Q139.spec q8) h17 rfl (Zy (Zk 8) Zr)) ?_
 rintro _ w15 ⟨_,⟨rfl,rfl⟩,h18⟩
 replace h18:=nf h18
 refine Zi [1,2,4,12,55] rfl ?_
 refine jIf H (fun c2 H=>?_) fun c2 H=>?_
 ·refine J.seq (J.region ?_)
  refine Zh 1 ?_
  refine Ze (Z3 2 h18) ?_
  intro _ w16 h19
  replace h19:=nf h19
  refine Zi [4,5] rfl ?_
  have h20:=Zc h19 [0]
  replace h20:=nf h20
  refine J.ret ?_
  have h21:=h20.addNil 33 (.int .u32)
  have h22:=h21.addNil 9 .str
  have h23:=h22.addNil 115 (.pair .str (.pair .bool .str))
  have h24:=h23.addNil 106 (.pair .str .str)
  cases H
  exact ⟨_,_,_,(Yy rfl (Y9 (RV.cell Y6 4 h24 rfl rfl rfl rfl) (Y9 (RV.tmp rfl) Wi)) rfl),⟨_,_,_,_,_,_,_,_,rfl,rfl⟩,Zc h24 [3,2,1,0]⟩
 refine J.skip (J.seq (J.seq (J.region ?_)))
 refine Zf (Zd 1 h18.wht) ?_
 refine Zf (Zd 3 h18.wht) ?_
 obtain ⟨r9,q9,H⟩:=Zn H
 refine Ze (Zg [] (Q38.spec q9) h18 rfl (Zy (gO 4) (Zy (gO 5) (Zy (gO 6) (Zy (gO 7) Zr))))) ?_
 rintro _ w17 ⟨_,⟨A13,c_13,rfl,rfl⟩,h25⟩
 replace h25:=nf h25
 refine Zi [1,4,12,13,14] rfl ?_
 have h26:=Zc h25 [0,2,2,2,2,2,2]
 replace h26:=nf h26
 refine J.seq (J.region ?_)
 refine Zh 3 ?_
 refine Yj 65 H (fun c3 H=>?_) fun c3 H=>?_
 ·refine Zi [4,12,70] rfl ?_
  refine Zt ?_
  refine J.seq (J.region ?_)
  refine Zh 1 ?_
  refine Ze (Z3 1 h26) ?_
  intro _ w18 h27
  replace h27:=nf h27
  refine Zi [4,5] rfl ?_
  have h28:=Zc h27 [0]
  replace h28:=nf h28
  refine J.ret ?_
  have h29:=h28.addNil 33 (.int .u32)
  have h30:=h29.addNil 9 .str
  have h31:=h30.addNil 115 (.pair .str (.pair .bool .str))
  have h32:=h31.addNil 106 (.pair .str .str)
  cases H
  exact ⟨_,_,_,(Yy rfl (Y9 (RV.cell Y6 4 h32 rfl rfl rfl rfl) (Y9 (RV.tmp rfl) Wi)) rfl),⟨_,_,_,_,_,_,_,_,rfl,rfl⟩,Zc h32 [3,2,1,0]⟩
 refine Zh 2 ?_
 obtain ⟨r10,q10,H⟩:=Zn H
 refine Ze (Zg [] (Q102.spec q10) h26 rfl (Zy (gO 0) (Zy (Zk 7) Zr))) ?_
 rintro _ w19 ⟨_,⟨rfl,rfl⟩,h33⟩
 replace h33:=nf h33
 refine Zi [4,12,70] rfl ?_
 refine jIf H (fun c4 H=>?_) fun c4 H=>?_
 ·refine J.seq (J.region ?_)
  refine Zh 1 ?_
  refine Ze (Z3 1 h33) ?_
  intro _ w20 h34
  replace h34:=nf h34
  refine Zi [4,5] rfl ?_
  have h35:=Zc h34 [0]
  replace h35:=nf h35
  refine J.ret ?_
  have h36:=h35.addNil 33 (.int .u32)
  have h37:=h36.addNil 9 .str
  have h38:=h37.addNil 115 (.pair .str (.pair .bool .str))
  have h39:=h38.addNil 106 (.pair .str .str)
  cases H
  exact ⟨_,_,_,(Yy rfl (Y9 (RV.cell Y6 4 h39 rfl rfl rfl rfl) (Y9 (RV.tmp rfl) Wi)) rfl),⟨_,_,_,_,_,_,_,_,rfl,rfl⟩,Zc h39 [3,2,1,0]⟩
 refine J.skip (J.seq (J.region ?_))
 refine Zf (Zd 2 h33.wht) ?_
 refine Ze (Z3 1 h33) ?_
 intro _ w21 h40
 replace h40:=nf h40
 refine Zi [4,5] rfl ?_
 have h41:=Zc h40 [0,2,2,2,2]
 replace h41:=nf h41
 refine J.ret ?_
 cases H
 exact ⟨_,_,_,(Yy rfl (Y9 (RV.cell Y6 0 h41 rfl rfl rfl rfl) (Y9 (RV.tmp rfl) Wi)) rfl),⟨_,_,_,_,_,_,_,_,rfl,rfl⟩,Zc h41 [1,1,1,1]⟩

def Q87.f (k:Nat) (a0:(Int×Int×Int×Int×Int×Int×Int×Int)×((Int×List (Int)×(Int×Int))×(List (Int×List (Int)×Bool×Int))×(List (Int×Int))×List (Int)×((List (Int×Int×Bool))×Int))×((Int×Int×List (Int)))×Int) (a1:Int):Option ((Int×List (Int)×List (List UInt8)×(List (List UInt8×Bool×List UInt8))×(List (List UInt8×List UInt8)))×Int×((Int×Int×Int×Int×Int×Int×Int×Int)×((Int×List (Int)×(Int×Int))×(List (Int×List (Int)×Bool×Int))×(List (Int×Int))×List (Int)×((List (Int×Int×Bool))×Int))×((Int×Int×List (Int)))×Int)):=(Q93.f a0 a1).bind fun r1=>(if (!decide (r1=0))=true then (some ((0,([]:List (Int)),([]:List (List UInt8)),([]:List (List UInt8×Bool×List UInt8)),([]:List (List UInt8×List UInt8))),r1,a0)) else ((Q18.f a0.2.1 a1).bind fun r2=>(if (!decide (r2.1=0))=true then (some ((0,([]:List (Int)),([]:List (List UInt8)),([]:List (List UInt8×Bool×List UInt8)),([]:List (List UInt8×List UInt8))),r2.1,(a0.1,r2.2,a0.2.2.1,a0.2.2.2))) else ((Q19.f r2.2 a1).bind fun r3=>((Q20.f r2.2 a1).bind fun r4=>(if (!decide (r3.2=0))=true then (some ((0,([]:List (Int)),([]:List (List UInt8)),([]:List (List UInt8×Bool×List UInt8)),([]:List (List UInt8×List UInt8))),r3.2,(a0.1,r4.2,a0.2.2.1,a0.2.2.2))) else ((Q37.f k a0.1 r3.1).bind fun r5=>(some (r5.1,r5.2,(a0.1,r4.2,a0.2.2.1,a0.2.2.2))))))))))
theorem Q87.spec {k:Nat} {a0:(Int×Int×Int×Int×Int×Int×Int×Int)×((Int×List (Int)×(Int×Int))×(List (Int×List (Int)×Bool×Int))×(List (Int×Int))×List (Int)×((List (Int×Int×Bool))×Int))×((Int×Int×List (Int)))×Int} {a1:Int} {b1:Nat} {b2:Nat} {b3:Nat} {b4:Nat} {b5:Nat} {b6:Nat} {b7:Nat} {A1:Option Addr} {c_1:Nat} {A2:Option Addr} {c_2:Nat} {A3:Option Addr} {c_3:Nat} {A4:Option Addr} {c_4:Nat} {A5:Option Addr} {c_5:Nat} {r:(Int×List (Int)×List (List UInt8)×(List (List UInt8×Bool×List UInt8))×(List (List UInt8×List UInt8)))×Int×((Int×Int×Int×Int×Int×Int×Int×Int)×((Int×List (Int)×(Int×Int))×(List (Int×List (Int)×Bool×Int))×(List (Int×Int))×List (Int)×((List (Int×Int×Bool))×Int))×((Int×Int×List (Int)))×Int)} (H:Q87.f k a0 a1=some r) :
  Spec Tryz.prog 24 [.pointer (some ⟨b1,0,none⟩),.int .u32 a1] [X83 b1 a0.1.1 a0.1.2.1 a0.1.2.2.1 a0.1.2.2.2.1 a0.1.2.2.2.2.1 a0.1.2.2.2.2.2.1 a0.1.2.2.2.2.2.2.1 a0.1.2.2.2.2.2.2.2 (.pointer (some ⟨b3,0,none⟩)) (.pointer (some ⟨b2,0,none⟩)) (.pointer (some ⟨b6,0,none⟩)) a0.2.2.2,Yh b2 (.pointer (some ⟨b3,0,none⟩)) a0.2.1.2.1 A2 c_2 (.map (some b4)) a0.2.1.2.2.2.1 A3 c_3 (.pointer (some ⟨b5,0,none⟩)),Yb b3 a0.2.1.1.1 a0.2.1.1.2.1 A1 c_1 a0.2.1.1.2.2.1 a0.2.1.1.2.2.2,O5 a0.2.1.1.2.1 A1 c_1,Yg a0.2.1.2.1 A2 c_2,Yc .u32 (Value.int .i64) b4 a0.2.1.2.2.1,O3 a0.2.1.2.2.2.1 A3 c_3,Z7 b5 a0.2.1.2.2.2.2.1 A4 c_4 a0.2.1.2.2.2.2.2,Z8 a0.2.1.2.2.2.2.1 A4 c_4,Yw b6 (.pointer (some ⟨b7,0,none⟩)),Yk b7 a0.2.2.1.1 a0.2.2.1.2.1 a0.2.2.1.2.2 A5 c_5,O61 a0.2.2.1.2.2 A5 c_5] [] (fun v l=>∃(A_0:Option Addr) (c_0:Nat) (A_1:Option Addr) (c_1:Nat) (A_2:Option Addr) (c_2:Nat) (A_3:Option Addr) (c_3:Nat) (A_4:Option Addr) (c_4:Nat) (A_5:Option Addr) (c_5:Nat) (A_6:Option Addr) (c_6:Nat) (A_7:Option Addr) (c_7:Nat) (A_8:Option Addr) (c_8:Nat),v=.tuple #[.agg #[.int .i64 r.1.1,.slice A_0 r.1.2.1.length c_0,.slice A_1 r.1.2.2.1.length c_1,.slice A_2 r.1.2.2.2.1.length c_2,.slice A_3 r.1.2.2.2.2.length c_3],.int .i64 r.2.1]∧l=[O33 r.1.2.1 A_0 c_0,O9 r.1.2.2.1 A_1 c_1,Zbt r.1.2.2.2.1 A_2 c_2,Zb0 r.1.2.2.2.2 A_3 c_3,X83 b1 r.2.2.1.1 r.2.2.1.2.1 r.2.2.1.2.2.1 r.2.2.1.2.2.2.1 r.2.2.1.2.2.2.2.1 r.2.2.1.2.2.2.2.2.1 r.2.2.1.2.2.2.2.2.2.1 r.2.2.1.2.2.2.2.2.2.2 (.pointer (some ⟨b3,0,none⟩)) (.pointer (some ⟨b2,0,none⟩)) (.pointer (some ⟨b6,0,none⟩)) r.2.2.2.2.2,Yh b2 (.pointer (some ⟨b3,0,none⟩)) r.2.2.2.1.2.1 A_5 c_5 (.map (some b4)) r.2.2.2.1.2.2.2.1 A_6 c_6 (.pointer (some ⟨b5,0,none⟩)),Yb b3 r.2.2.2.1.1.1 r.2.2.2.1.1.2.1 A_4 c_4 r.2.2.2.1.1.2.2.1 r.2.2.2.1.1.2.2.2,O5 r.2.2.2.1.1.2.1 A_4 c_4,Yg r.2.2.2.1.2.1 A_5 c_5,Yc .u32 (Value.int .i64) b4 r.2.2.2.1.2.2.1,O3 r.2.2.2.1.2.2.2.1 A_6 c_6,Z7 b5 r.2.2.2.1.2.2.2.2.1 A_7 c_7 r.2.2.2.1.2.2.2.2.2,Z8 r.2.2.2.1.2.2.2.2.1 A_7 c_7,Yw b6 (.pointer (some ⟨b7,0,none⟩)),Yk b7 r.2.2.2.2.1.1 r.2.2.2.2.1.2.1 r.2.2.2.2.1.2.2 A_8 c_8,O61 r.2.2.2.2.1.2.2 A_8 c_8]):=by
 refine Zo Tryz.func24 fun w0 F0 h0=>?_
 unfold Q87.f at H
 refine J.seq (J.region ?_)
 refine Ze (Xf h0) ?_
 rintro _ w1 ⟨b8,rfl,h1⟩
 replace h1:=nf h1
 refine Zi [0,1,4] rfl ?_
 refine J.seq (J.seq (J.region ?_))
 refine Zh 2 ?_
 obtain ⟨r1,q1,H⟩:=Zn H
 refine Ze (Zg [1,1,1,1,1,1,1,1,1,1,1,1] (Q93.spec q1) h1 rfl Zr) ?_
 rintro _ w2 ⟨_,⟨rfl,rfl⟩,h2⟩
 replace h2:=nf h2
 refine Zi [0,1,4,6] rfl ?_
 refine J.seq (Zb [0,1,4,6,14] ?_)
 refine jIf H (fun c1 H=>?_) fun c1 H=>?_
 ·refine J.seq (J.region ?_)
  refine Zh 2 ?_
  refine Ze (Z3 12 h2) ?_
  intro _ w3 h3
  replace h3:=nf h3
  refine Zi [4,5] rfl ?_
  refine J.ret ?_
  have h4:=h3.addNil 33 (.int .u32)
  have h5:=h4.addNil 9 .str
  have h6:=h5.addNil 115 (.pair .str (.pair .bool .str))
  have h7:=h6.addNil 106 (.pair .str .str)
  cases H
  exact ⟨_,_,_,(Yy rfl (Y9 (RV.cell Y6 4 h7 rfl rfl rfl rfl) (Y9 (RV.tmp rfl) Wi)) rfl),⟨_,_,_,_,_,_,_,_,_,_,_,_,_,_,_,_,_,_,rfl,rfl⟩,Zc h7 [3,2,1,0,1,1,1,1,1,1,1,1,1,1,1,1]⟩
 refine J.skip (J.seq (J.seq (J.region ?_)))
 refine Zh 3 ?_
 refine Zf (Zd 0 h2.wht) ?_
 refine Zh 1 ?_
 obtain ⟨r2,q2,H⟩:=Zn H
 refine Ze (Zg [1,1,1,1,1,1,1,1] (Q18.spec q2) h2 rfl Zr) ?_
 rintro _ w4 ⟨_,⟨A6,c_6,A7,c_7,A8,c_8,A9,c_9,rfl,rfl⟩,h8⟩
 replace h8:=nf h8
 refine Zi [0,1,4,7] rfl ?_
 refine J.seq (Zb [0,1,4,7,24] ?_)
 refine jIf H (fun c2 H=>?_) fun c2 H=>?_
 ·refine J.seq (J.region ?_)
  refine Zh 2 ?_
  refine Ze (Z3 12 h8) ?_
  intro _ w5 h9
  replace h9:=nf h9
  refine Zi [4,5] rfl ?_
  refine J.ret ?_
  have h10:=h9.addNil 33 (.int .u32)
  have h11:=h10.addNil 9 .str
  have h12:=h11.addNil 115 (.pair .str (.pair .bool .str))
  have h13:=h12.addNil 106 (.pair .str .str)
  cases H
  exact ⟨_,_,_,(Yy rfl (Y9 (RV.cell Y6 4 h13 rfl rfl rfl rfl) (Y9 (RV.tmp rfl) Wi)) rfl),⟨_,_,_,_,_,_,_,_,_,_,_,_,_,_,_,_,_,_,rfl,rfl⟩,Zc h13 [3,2,1,0,9,1,1,1,1,1,1,1,1,1,1,1]⟩
 refine J.skip (J.seq (J.region ?_))
 refine Zh 3 ?_
 refine Zf (Zd 8 h8.wht) ?_
 refine Zh 1 ?_
 obtain ⟨r3,q3,H⟩:=Zn H
 refine Ze (Zg [0,0,0,0,0,0,0,0] (Q19.spec q3) h8 rfl Zr) ?_
 rintro _ w6 ⟨_,⟨A10,c_10,rfl,rfl⟩,h14⟩
 replace h14:=nf h14
 refine Zi [0,1,4,8,9] rfl ?_
 refine J.seq (J.region ?_)
 refine Zh 3 ?_
 refine Zf (Zd 9 h14.wht) ?_
 refine Zh 1 ?_
 obtain ⟨r4,q4,H⟩:=Zn H
 refine Ze (Zg [1,1,1,1,1,1,1,1] (Q20.spec q4) h14 rfl Zr) ?_
 rintro _ w7 ⟨_,⟨A11,c_11,A12,c_12,A13,c_13,A14,c_14,rfl,rfl⟩,h15⟩
 replace h15:=nf h15
 refine Zi [0,4,8,9] rfl ?_
 refine J.seq (J.seq (Zb [0,4,8,9,43] ?_))
 refine jIf H (fun c3 H=>?_) fun c3 H=>?_
 ·refine J.seq (J.region ?_)
  refine Zh 2 ?_
  refine Ze (Z3 13 h15) ?_
  intro _ w8 h16
  replace h16:=nf h16
  refine Zi [4,5] rfl ?_
  refine J.ret ?_
  have h17:=h16.addNil 33 (.int .u32)
  have h18:=h17.addNil 9 .str
  have h19:=h18.addNil 115 (.pair .str (.pair .bool .str))
  have h20:=h19.addNil 106 (.pair .str .str)
  cases H
  exact ⟨_,_,_,(Yy rfl (Y9 (RV.cell Y6 4 h20 rfl rfl rfl rfl) (Y9 (RV.tmp rfl) Wi)) rfl),⟨_,_,_,_,_,_,_,_,_,_,_,_,_,_,_,_,_,_,rfl,rfl⟩,Zc h20 [3,2,1,0,10,1,1,1,1,1,1,1,1,2,2,2]⟩
 refine J.skip (J.seq (J.region ?_))
 refine Zh 3 ?_
 refine Zf (Zd 9 h15.wht) ?_
 refine Zh 1 ?_
 obtain ⟨r5,q5,H⟩:=Zn H
 refine Ze (Zg [] (Q37.spec q5) h15 rfl (Zy (gO 8) Zr)) ?_
 rintro _ w9 ⟨_,⟨A15,c_15,A16,c_16,A17,c_17,A18,c_18,rfl,rfl⟩,h21⟩
 replace h21:=nf h21
 refine Zh 2 ?_
 refine Ze (Z3 17 h21) ?_
 intro _ w10 h22
 replace h22:=nf h22
 refine Zi [4,5] rfl ?_
 refine J.ret ?_
 cases H
 exact ⟨_,_,_,(Yy rfl (Y9 (RV.cell Y6 0 h22 rfl rfl rfl rfl) (Y9 (RV.tmp rfl) Wi)) rfl),⟨_,_,_,_,_,_,_,_,_,_,_,_,_,_,_,_,_,_,rfl,rfl⟩,Zc h22 [1,1,1,1,10,1,1,1,1,1,1,1,1,2,2,2]⟩

def Q86.f (a0:(Int×Int×Int×Int×Int×Int×Int×Int)×((Int×List (Int)×(Int×Int))×(List (Int×List (Int)×Bool×Int))×(List (Int×Int))×List (Int)×((List (Int×Int×Bool))×Int))×((Int×Int×List (Int)))×Int):Option (Int):=(Q74.f a0.2.2.1).bind fun r1=>(some r1)
theorem Q86.spec {a0:(Int×Int×Int×Int×Int×Int×Int×Int)×((Int×List (Int)×(Int×Int))×(List (Int×List (Int)×Bool×Int))×(List (Int×Int))×List (Int)×((List (Int×Int×Bool))×Int))×((Int×Int×List (Int)))×Int} {b1:Nat} {b2:Nat} {b3:Nat} {b4:Nat} {b5:Nat} {b6:Nat} {b7:Nat} {A1:Option Addr} {c_1:Nat} {A2:Option Addr} {c_2:Nat} {A3:Option Addr} {c_3:Nat} {A4:Option Addr} {c_4:Nat} {A5:Option Addr} {c_5:Nat} {r:Int} (H:Q86.f a0=some r) :
  Spec Tryz.prog 26 [.pointer (some ⟨b1,0,none⟩)] [X83 b1 a0.1.1 a0.1.2.1 a0.1.2.2.1 a0.1.2.2.2.1 a0.1.2.2.2.2.1 a0.1.2.2.2.2.2.1 a0.1.2.2.2.2.2.2.1 a0.1.2.2.2.2.2.2.2 (.pointer (some ⟨b3,0,none⟩)) (.pointer (some ⟨b2,0,none⟩)) (.pointer (some ⟨b6,0,none⟩)) a0.2.2.2,Yh b2 (.pointer (some ⟨b3,0,none⟩)) a0.2.1.2.1 A2 c_2 (.map (some b4)) a0.2.1.2.2.2.1 A3 c_3 (.pointer (some ⟨b5,0,none⟩)),Yb b3 a0.2.1.1.1 a0.2.1.1.2.1 A1 c_1 a0.2.1.1.2.2.1 a0.2.1.1.2.2.2,O5 a0.2.1.1.2.1 A1 c_1,Yg a0.2.1.2.1 A2 c_2,Yc .u32 (Value.int .i64) b4 a0.2.1.2.2.1,O3 a0.2.1.2.2.2.1 A3 c_3,Z7 b5 a0.2.1.2.2.2.2.1 A4 c_4 a0.2.1.2.2.2.2.2,Z8 a0.2.1.2.2.2.2.1 A4 c_4,Yw b6 (.pointer (some ⟨b7,0,none⟩)),Yk b7 a0.2.2.1.1 a0.2.2.1.2.1 a0.2.2.1.2.2 A5 c_5,O61 a0.2.2.1.2.2 A5 c_5] [] (fun v l=>v=.int .i64 r∧l=[X83 b1 a0.1.1 a0.1.2.1 a0.1.2.2.1 a0.1.2.2.2.1 a0.1.2.2.2.2.1 a0.1.2.2.2.2.2.1 a0.1.2.2.2.2.2.2.1 a0.1.2.2.2.2.2.2.2 (.pointer (some ⟨b3,0,none⟩)) (.pointer (some ⟨b2,0,none⟩)) (.pointer (some ⟨b6,0,none⟩)) a0.2.2.2,Yh b2 (.pointer (some ⟨b3,0,none⟩)) a0.2.1.2.1 A2 c_2 (.map (some b4)) a0.2.1.2.2.2.1 A3 c_3 (.pointer (some ⟨b5,0,none⟩)),Yb b3 a0.2.1.1.1 a0.2.1.1.2.1 A1 c_1 a0.2.1.1.2.2.1 a0.2.1.1.2.2.2,O5 a0.2.1.1.2.1 A1 c_1,Yg a0.2.1.2.1 A2 c_2,Yc .u32 (Value.int .i64) b4 a0.2.1.2.2.1,O3 a0.2.1.2.2.2.1 A3 c_3,Z7 b5 a0.2.1.2.2.2.2.1 A4 c_4 a0.2.1.2.2.2.2.2,Z8 a0.2.1.2.2.2.2.1 A4 c_4,Yw b6 (.pointer (some ⟨b7,0,none⟩)),Yk b7 a0.2.2.1.1 a0.2.2.1.2.1 a0.2.2.1.2.2 A5 c_5,O61 a0.2.2.1.2.2 A5 c_5]):=by
 refine Zo Tryz.func26 fun w0 F0 h0=>?_
 unfold Q86.f at H
 refine J.seq (Zb [0] ?_)
 refine J.seq (J.seq (Zb [0,4] ?_))
 refine Z4 ?_
 refine J.skip (J.seq (J.region ?_))
 refine Zh 3 ?_
 refine Zf (Zd 0 h0.wht) ?_
 obtain ⟨r1,q1,H⟩:=Zn H
 refine Ze (Zg [9,9,9] (Q74.spec q1) h0 rfl Zr) ?_
 rintro _ w1 ⟨_,⟨rfl,rfl⟩,h1⟩
 replace h1:=nf h1
 refine Zi [2] rfl ?_
 refine J.ret ?_
 cases H
 exact ⟨_,_,_,Za,⟨rfl,rfl⟩,Zc h1 [3,3,3,3,3,3,3,3,3,0,0,0]⟩

def Q77.f (a0:(Int×Int×List (Int))) (a1:Int):Option (Bool):=(Q80.f a0).bind fun r1=>(if (!r1)=true then ((Q6.f a0 (w64 (a1))).bind fun r2=>(some r2)) else (some false))
theorem Q77.spec {a0:(Int×Int×List (Int))} {a1:Int} {b1:Nat} {b2:Nat} {A1:Option Addr} {c_1:Nat} {r:Bool} (H:Q77.f a0 a1=some r) :
  Spec Tryz.prog 83 [.pointer (some ⟨b1,0,none⟩),.int .u32 a1] [Yw b1 (.pointer (some ⟨b2,0,none⟩)),Yk b2 a0.1 a0.2.1 a0.2.2 A1 c_1,O61 a0.2.2 A1 c_1] [] (fun v l=>v=.bool r∧l=[Yw b1 (.pointer (some ⟨b2,0,none⟩)),Yk b2 a0.1 a0.2.1 a0.2.2 A1 c_1,O61 a0.2.2 A1 c_1]):=by
 refine Zo Tryz.func83 fun w0 F0 h0=>?_
 unfold Q77.f at H
 refine J.seq (Zb [0,1] ?_)
 refine J.seq (J.region ?_)
 refine Zh 1 ?_
 obtain ⟨r1,q1,H⟩:=Zn H
 refine Ze (Zg [0,0,0] (Q80.spec q1) h0 rfl Zr) ?_
 rintro _ w1 ⟨_,⟨rfl,rfl⟩,h1⟩
 replace h1:=nf h1
 refine Zh 2 ?_
 refine Yj 8 H (fun c1 H=>?_) fun c1 H=>?_
 ·refine Zh 3 ?_
  refine Zf (Zd 0 h1.wht) ?_
  refine Zh 2 ?_
  obtain ⟨r2,q2,H⟩:=Zn H
  refine Ze (Zg [1,1] (Q6.spec q2) h1 rfl Zr) ?_
  rintro _ w2 ⟨_,⟨rfl,rfl⟩,h2⟩
  replace h2:=nf h2
  refine Zi [4] rfl ?_
  refine J.ret ?_
  cases H
  exact ⟨_,_,_,Za,⟨rfl,rfl⟩,Zc h2 [2,0,0]⟩
 refine Zi [4] rfl ?_
 refine J.ret ?_
 cases H
 exact ⟨_,_,_,Za,⟨rfl,rfl⟩,Zc h1 [0,0,0]⟩

def Q84.f (a0:(Int×Int×Int×Int×Int×Int×Int×Int)×((Int×List (Int)×(Int×Int))×(List (Int×List (Int)×Bool×Int))×(List (Int×Int))×List (Int)×((List (Int×Int×Bool))×Int))×((Int×Int×List (Int)))×Int) (a1:Int):Option (Bool):=(Q77.f a0.2.2.1 a1).bind fun r1=>(some r1)
theorem Q84.spec {a0:(Int×Int×Int×Int×Int×Int×Int×Int)×((Int×List (Int)×(Int×Int))×(List (Int×List (Int)×Bool×Int))×(List (Int×Int))×List (Int)×((List (Int×Int×Bool))×Int))×((Int×Int×List (Int)))×Int} {a1:Int} {b1:Nat} {b2:Nat} {b3:Nat} {b4:Nat} {b5:Nat} {b6:Nat} {b7:Nat} {A1:Option Addr} {c_1:Nat} {A2:Option Addr} {c_2:Nat} {A3:Option Addr} {c_3:Nat} {A4:Option Addr} {c_4:Nat} {A5:Option Addr} {c_5:Nat} {r:Bool} (H:Q84.f a0 a1=some r) :
  Spec Tryz.prog 31 [.pointer (some ⟨b1,0,none⟩),.int .u32 a1] [X83 b1 a0.1.1 a0.1.2.1 a0.1.2.2.1 a0.1.2.2.2.1 a0.1.2.2.2.2.1 a0.1.2.2.2.2.2.1 a0.1.2.2.2.2.2.2.1 a0.1.2.2.2.2.2.2.2 (.pointer (some ⟨b3,0,none⟩)) (.pointer (some ⟨b2,0,none⟩)) (.pointer (some ⟨b6,0,none⟩)) a0.2.2.2,Yh b2 (.pointer (some ⟨b3,0,none⟩)) a0.2.1.2.1 A2 c_2 (.map (some b4)) a0.2.1.2.2.2.1 A3 c_3 (.pointer (some ⟨b5,0,none⟩)),Yb b3 a0.2.1.1.1 a0.2.1.1.2.1 A1 c_1 a0.2.1.1.2.2.1 a0.2.1.1.2.2.2,O5 a0.2.1.1.2.1 A1 c_1,Yg a0.2.1.2.1 A2 c_2,Yc .u32 (Value.int .i64) b4 a0.2.1.2.2.1,O3 a0.2.1.2.2.2.1 A3 c_3,Z7 b5 a0.2.1.2.2.2.2.1 A4 c_4 a0.2.1.2.2.2.2.2,Z8 a0.2.1.2.2.2.2.1 A4 c_4,Yw b6 (.pointer (some ⟨b7,0,none⟩)),Yk b7 a0.2.2.1.1 a0.2.2.1.2.1 a0.2.2.1.2.2 A5 c_5,O61 a0.2.2.1.2.2 A5 c_5] [] (fun v l=>v=.bool r∧l=[X83 b1 a0.1.1 a0.1.2.1 a0.1.2.2.1 a0.1.2.2.2.1 a0.1.2.2.2.2.1 a0.1.2.2.2.2.2.1 a0.1.2.2.2.2.2.2.1 a0.1.2.2.2.2.2.2.2 (.pointer (some ⟨b3,0,none⟩)) (.pointer (some ⟨b2,0,none⟩)) (.pointer (some ⟨b6,0,none⟩)) a0.2.2.2,Yh b2 (.pointer (some ⟨b3,0,none⟩)) a0.2.1.2.1 A2 c_2 (.map (some b4)) a0.2.1.2.2.2.1 A3 c_3 (.pointer (some ⟨b5,0,none⟩)),Yb b3 a0.2.1.1.1 a0.2.1.1.2.1 A1 c_1 a0.2.1.1.2.2.1 a0.2.1.1.2.2.2,O5 a0.2.1.1.2.1 A1 c_1,Yg a0.2.1.2.1 A2 c_2,Yc .u32 (Value.int .i64) b4 a0.2.1.2.2.1,O3 a0.2.1.2.2.2.1 A3 c_3,Z7 b5 a0.2.1.2.2.2.2.1 A4 c_4 a0.2.1.2.2.2.2.2,Z8 a0.2.1.2.2.2.2.1 A4 c_4,Yw b6 (.pointer (some ⟨b7,0,none⟩)),Yk b7 a0.2.2.1.1 a0.2.2.1.2.1 a0.2.2.1.2.2 A5 c_5,O61 a0.2.2.1.2.2 A5 c_5]):=by
 refine Zo Tryz.func31 fun w0 F0 h0=>?_
 unfold Q84.f at H
 refine J.seq (Zb [0,1] ?_)
 refine J.seq (J.region ?_)
 refine Zh 6 ?_
 refine Zf (Zd 0 h0.wht) ?_
 refine Zh 1 ?_
 obtain ⟨r1,q1,H⟩:=Zn H
 refine Ze (Zg [9,9,9] (Q77.spec q1) h0 rfl Zr) ?_
 rintro _ w1 ⟨_,⟨rfl,rfl⟩,h1⟩
 replace h1:=nf h1
 refine Zi [4] rfl ?_
 refine J.ret ?_
 cases H
 exact ⟨_,_,_,Za,⟨rfl,rfl⟩,Zc h1 [3,3,3,3,3,3,3,3,3,0,0,0]⟩

def Q127.l0:Nat→((Int×Int×Int×Int×Int×Int×Int×Int))→(Int×List (Int)×(Int×Int))→((List (Int×Int×Bool))×Int)→(List (Int))→(Int)→Option (Bool)
 | 0,_,_,_,_,_=>none
 | k+1,r1,r3,r9,x1,x2=>if (decide (x2<r1.2.2.1))=true then (if (x1.length+([x2]:List (Int)).length)*8≤140737488355328 then (Q127.l0 k r1 r3 r9 (x1 ++ ([x2]:List (Int))) (w64 (x2+1))) else none) else ((Q53.f r3).bind fun r10=>(if (!decide (r10=r1.1))=true then (some false) else ((Q54.f r3).bind fun r11=>(if (!decide (r11=r1.2.1))=true then (some false) else ((Q73.f r1.1).bind fun r12=>(Wv r12.1 (if (!decide (r12.2=0))=true then (some false) else none) (fun r13=>(if (!decide (r12.2=0))=false then ((Q88.f k (r1,(r3,(List.replicate r1.2.2.1.toNat ((0,([]:List (Int)),false,0):Int×List (Int)×Bool×Int)),([]:List (Int×Int)),x1,r9),r13,0) (0,([]:List (Int)),([]:List (List UInt8)),([]:List (List UInt8×Bool×List UInt8)),([]:List (List UInt8×List UInt8)))).bind fun r14=>((Q87.f k r14.2.2 2).bind fun r15=>(if (decide (r14.1=1))=true then (if (decide (r14.2.1=0))=true then ((Q86.f r15.2.2).bind fun r16=>(if (decide (r16=7))=true then (if (decide (r15.2.1=12))=true then ((Q84.f r15.2.2 1).bind fun r17=>(some r17)) else (some false)) else (some false))) else (some false)) else (some false)))) else none))))))))
def Q127.f (k:Nat):Option (Bool):=(Q128.f).bind fun r1=>((Q58.f r1.1 r1.2.1).bind fun r2=>(Wv r2.1 (if (!decide (r2.2=0))=true then ((Q81.f r1).bind fun r4=>(Wv r4.1 (if (!decide (r4.2=0))=true then (some false) else none) (fun r5=>(if (!decide (r4.2=0))=false then (some false) else none)))) else none) (fun r3=>(if (!decide (r2.2=0))=false then ((Q48.f r1).bind fun r6=>(if (!decide (r6=0))=true then (some false) else ((Q53.f r3).bind fun r7=>(if (decide (r7=0))=true then (some false) else (if (decide (r1.2.2.1<1))=true then (some false) else (if (decide (64<r1.2.2.1))=true then (some false) else ((Q34.f r1.2.2.1).bind fun r8=>(Wv r8.1 (if (!decide (r8.2=0))=true then (some false) else none) (fun r9=>(if (!decide (r8.2=0))=false then (if 0≤r1.2.2.1∧r1.2.2.1*48≤281474976710656 then (Q127.l0 k r1 r3 r9 ([]:List (Int)) 0) else none) else none)))))))))) else none))))
theorem Q127.spec {k:Nat}   {r:Bool} (H:Q127.f k=some r) :
  Spec Tryz.prog 13 [] [] [tabC 0] (fun v l=>v=.bool r∧l=[]):=by
 refine Zo Tryz.func13 fun w0 F0 h0=>?_
 unfold Q127.f at H
 refine J.seq (Zb [] ?_)
 refine J.seq (J.region ?_)
 obtain ⟨r1,q1,H⟩:=Zn H
 refine Ze (Zg [] (Q128.spec q1) h0 rfl Zr) ?_
 rintro _ w1 ⟨_,⟨rfl,rfl⟩,h1⟩
 replace h1:=nf h1
 refine Ys Tryz.func14 ?_
 refine J.seq (J.region ?_)
 refine Ze (Ym h1) ?_
 rintro _ w2 ⟨b1,rfl,h2⟩
 replace h2:=nf h2
 refine Zi [1] rfl ?_
 refine J.seq (J.region ?_)
 refine Zh 1 ?_
 refine Zf (Zd 0 h2.wht) ?_
 refine Zh 1 ?_
 refine Zf (Zd 0 h2.wht) ?_
 obtain ⟨r2,q2,H⟩:=Zn H
 refine Ze (Zg [] (Q58.spec q2) h2 rfl Zr) ?_
 rintro _ w3 ⟨_,⟨v1,l1,ho1,rfl,rfl⟩,h3⟩
 rcases ho2:r2.1 with _ | r3
 ·rw [ho2] at ho1
  obtain ⟨rfl,rfl⟩:=ho1
  replace H:=Vj ho2 H
  obtain ⟨c1,H⟩:=Zs H
  replace h3:=nf h3
  refine Zi [1,4,5] rfl ?_
  refine J.seq (J.region ?_)
  refine Zf (Zd 0 h3.wht) ?_
  refine Zh 1 ?_
  obtain ⟨r4,q3,H⟩:=Zn H
  refine Ze (Zg [] (Q81.spec q3) h3 rfl Zr) ?_
  rintro _ w4 ⟨_,⟨v2,l2,ho3,rfl,rfl⟩,h4⟩
  rcases ho4:r4.1 with _ | r5
  ·rw [ho4] at ho3
   obtain ⟨rfl,rfl⟩:=ho3
   replace H:=Vj ho4 H
   obtain ⟨c3,H⟩:=Zs H
   replace h4:=nf h4
   refine Zi [4,5,6,7] rfl ?_
   refine J.seq (J.seq (J.region ?_))
   refine Zh 3 ?_
   refine Yo 24 (congrArg Value.bool c1) ?_
   refine Zi [4,6,27] rfl ?_
   refine Zt ?_
   refine J.seq (Zb [2,3] ?_)
   refine J.ret (⟨_,Za,?_⟩)
   refine Zi [1] rfl ?_
   refine J.seq (J.seq (Zb [1,13] ?_))
   refine Zt ?_
   refine J.seq (Zb [0] ?_)
   refine J.ret ?_
   cases H
   exact ⟨_,_,_,Za,⟨rfl,rfl⟩,Zc h4 []⟩
  rw [ho4] at ho3
  obtain ⟨b2,b3,b4,A1,c_1,A2,c_2,b5,A3,c_3,b6,A4,c_4,b7,b8,A5,c_5,rfl,rfl⟩:=ho3
  replace H:=Ve ho4 H
  obtain ⟨c4,H⟩:=Zs H
  replace h4:=nf h4
  refine Zi [4,5,6,7] rfl ?_
  refine J.seq (J.seq (J.region ?_))
  refine Zh 3 ?_
  refine Yo 24 (congrArg Value.bool c1) ?_
  refine Zi [4,6,27] rfl ?_
  refine Zt ?_
  refine J.seq (Zb [2,3] ?_)
  refine J.ret (⟨_,Za,?_⟩)
  refine Zi [1] rfl ?_
  have h5:=Zc h4 []
  replace h5:=nf h5
  refine J.seq (J.seq (Zb [1,13] ?_))
  refine Zt ?_
  refine J.seq (Zb [0] ?_)
  refine J.ret ?_
  cases H
  exact ⟨_,_,_,Za,⟨rfl,rfl⟩,Zc h5 []⟩
 rw [ho2] at ho1
 obtain ⟨b9,A6,c_6,rfl,rfl⟩:=ho1
 replace H:=Ve ho2 H
 obtain ⟨c2,H⟩:=Zs H
 replace h3:=nf h3
 refine Zi [1,4,5] rfl ?_
 refine J.seq (J.region ?_)
 refine Zf (Zd 2 h3.wht) ?_
 refine Zh 1 ?_
 refine Ys Tryz.func35 ?_
 refine J.seq (J.region ?_)
 refine Ze (Ym h3) ?_
 rintro _ w5 ⟨b10,rfl,h6⟩
 replace h6:=nf h6
 refine Zi [1,2] rfl ?_
 refine J.seq (J.seq (J.region ?_))
 refine Zf (Zd 0 h6.wht) ?_
 obtain ⟨r6,q4,H⟩:=Zn H
 refine Ze (Zg [] (Q48.spec q4) h6 rfl Zr) ?_
 rintro _ w6 ⟨_,⟨rfl,rfl⟩,h7⟩
 replace h7:=nf h7
 refine Zi [1,2,6] rfl ?_
 refine J.seq (Zb [1,2,6,13] ?_)
 refine jIf H (fun c5 H=>?_) fun c5 H=>?_
 ·refine J.seq (Zb [4,5] ?_)
  refine J.ret (⟨_,Za,?_⟩)
  refine Zi [4,5,6,7] rfl ?_
  refine J.seq (J.seq (J.region ?_))
  refine Zh 3 ?_
  refine Yo 24 (congrArg Value.bool c2) ?_
  refine Zi [4,6,27] rfl ?_
  refine J.cond rfl (fun e=>?_) (fun e=>by rw [c5] at e; cases e)
  refine J.seq (Zb [2,3] ?_)
  refine J.ret (⟨_,Za,?_⟩)
  refine Zi [1] rfl ?_
  have h8:=Zc h7 []
  replace h8:=nf h8
  refine J.seq (J.seq (Zb [1,13] ?_))
  refine Zt ?_
  refine J.seq (Zb [0] ?_)
  refine J.ret ?_
  cases H
  exact ⟨_,_,_,Za,⟨rfl,rfl⟩,Zc h8 []⟩
 refine J.skip (J.seq (J.region ?_))
 refine Zh 2 ?_
 refine Zf (Zd 0 h7.wht) ?_
 refine Ys Tryz.func85 ?_
 refine J.seq (Zb [0,1] ?_)
 refine J.seq (J.block (J.seq (J.region ?_)))
 refine Zh 1 ?_
 obtain ⟨r7,q5,H⟩:=Zn H
 refine Ze (Zg [1,1] (Q53.spec q5) h7 rfl Zr) ?_
 rintro _ w7 ⟨_,⟨rfl,rfl⟩,h9⟩
 replace h9:=nf h9
 refine Zi [0,1,10] rfl ?_
 refine jIf H (fun c6 H=>?_) fun c6 H=>?_
 ·refine J.seq (Zb [4,5] ?_)
  refine J.ret (⟨_,Za,?_⟩)
  refine Zi [1,2,7,8] rfl ?_
  refine J.seq (J.seq (Zb [1,2,7,8,23] ?_))
  refine Zt ?_
  refine J.seq (Zb [4,5] ?_)
  refine J.ret (⟨_,Za,?_⟩)
  refine Zi [4,5,6,7] rfl ?_
  refine J.seq (J.seq (J.region ?_))
  refine Zh 3 ?_
  refine Yo 24 (congrArg Value.bool c2) ?_
  refine Zi [4,6,27] rfl ?_
  refine Zt ?_
  refine J.seq (Zb [2,3] ?_)
  refine J.ret (⟨_,Za,?_⟩)
  refine Zi [1] rfl ?_
  have h10:=Zc h9 []
  replace h10:=nf h10
  refine J.seq (J.seq (Zb [1,13] ?_))
  refine Zt ?_
  refine J.seq (Zb [0] ?_)
  refine J.ret ?_
  cases H
  exact ⟨_,_,_,Za,⟨rfl,rfl⟩,Zc h10 []⟩
 refine J.seq (J.region ?_)
 refine Zh 3 ?_
 refine Yj 17 H (fun c7 H=>?_) fun c7 H=>?_
 ·refine Zi [0,1,14] rfl ?_
  refine Zt ?_
  refine J.seq (Zb [4,5] ?_)
  refine J.ret (⟨_,Za,?_⟩)
  refine Zi [1,2,7,8] rfl ?_
  refine J.seq (J.seq (Zb [1,2,7,8,23] ?_))
  refine Zt ?_
  refine J.seq (Zb [4,5] ?_)
  refine J.ret (⟨_,Za,?_⟩)
  refine Zi [4,5,6,7] rfl ?_
  refine J.seq (J.seq (J.region ?_))
  refine Zh 3 ?_
  refine Yo 24 (congrArg Value.bool c2) ?_
  refine Zi [4,6,27] rfl ?_
  refine Zt ?_
  refine J.seq (Zb [2,3] ?_)
  refine J.ret (⟨_,Za,?_⟩)
  refine Zi [1] rfl ?_
  have h11:=Zc h9 []
  replace h11:=nf h11
  refine J.seq (J.seq (Zb [1,13] ?_))
  refine Zt ?_
  refine J.seq (Zb [0] ?_)
  refine J.ret ?_
  cases H
  exact ⟨_,_,_,Za,⟨rfl,rfl⟩,Zc h11 []⟩
 refine Zi [0,1,14] rfl ?_
 refine jIf H (fun c8 H=>?_) fun c8 H=>?_
 ·refine J.seq (Zb [4,5] ?_)
  refine J.ret (⟨_,Za,?_⟩)
  refine Zi [1,2,7,8] rfl ?_
  refine J.seq (J.seq (Zb [1,2,7,8,23] ?_))
  refine Zt ?_
  refine J.seq (Zb [4,5] ?_)
  refine J.ret (⟨_,Za,?_⟩)
  refine Zi [4,5,6,7] rfl ?_
  refine J.seq (J.seq (J.region ?_))
  refine Zh 3 ?_
  refine Yo 24 (congrArg Value.bool c2) ?_
  refine Zi [4,6,27] rfl ?_
  refine Zt ?_
  refine J.seq (Zb [2,3] ?_)
  refine J.ret (⟨_,Za,?_⟩)
  refine Zi [1] rfl ?_
  have h12:=Zc h9 []
  replace h12:=nf h12
  refine J.seq (J.seq (Zb [1,13] ?_))
  refine Zt ?_
  refine J.seq (Zb [0] ?_)
  refine J.ret ?_
  cases H
  exact ⟨_,_,_,Za,⟨rfl,rfl⟩,Zc h12 []⟩
 refine J.skip (J.seq (J.region ?_))
 refine Zh 1 ?_
 obtain ⟨r8,q6,H⟩:=Zn H
 refine Ze (Zg [] (Q34.spec q6) h9 rfl Zr) ?_
 rintro _ w8 ⟨_,⟨v3,l3,ho5,rfl,rfl⟩,h13⟩
 rcases ho6:r8.1 with _ | r9
 ·rw [ho6] at ho5
  obtain ⟨rfl,rfl⟩:=ho5
  replace H:=Vj ho6 H
  obtain ⟨c9,H⟩:=Zs H
  replace h13:=nf h13
  refine Zi [0,1,6,7] rfl ?_
  refine J.seq (J.seq (Zb [0,1,6,7,27] ?_))
  refine J.cond rfl (fun e=>?_) (fun e=>by rw [c9] at e; cases e)
  refine J.seq (Zb [4,5] ?_)
  refine J.ret (⟨_,Za,?_⟩)
  refine Zi [1,2,7,8] rfl ?_
  refine J.seq (J.seq (Zb [1,2,7,8,23] ?_))
  refine J.cond rfl (fun e=>?_) (fun e=>by rw [c9] at e; cases e)
  refine J.seq (Zb [4,5] ?_)
  refine J.ret (⟨_,Za,?_⟩)
  refine Zi [4,5,6,7] rfl ?_
  refine J.seq (J.seq (J.region ?_))
  refine Zh 3 ?_
  refine Yo 24 (congrArg Value.bool c2) ?_
  refine Zi [4,6,27] rfl ?_
  refine J.cond rfl (fun e=>?_) (fun e=>by rw [c9] at e; cases e)
  refine J.seq (Zb [2,3] ?_)
  refine J.ret (⟨_,Za,?_⟩)
  refine Zi [1] rfl ?_
  have h14:=Zc h13 []
  replace h14:=nf h14
  refine J.seq (J.seq (Zb [1,13] ?_))
  refine Zt ?_
  refine J.seq (Zb [0] ?_)
  refine J.ret ?_
  cases H
  exact ⟨_,_,_,Za,⟨rfl,rfl⟩,Zc h14 []⟩
 rw [ho6] at ho5
 obtain ⟨b11,A7,c_7,rfl,rfl⟩:=ho5
 replace H:=Ve ho6 H
 obtain ⟨c10,H⟩:=Zs H
 replace h13:=nf h13
 refine Zi [0,1,6,7] rfl ?_
 refine J.seq (J.seq (Zb [0,1,6,7,27] ?_))
 refine J.cond rfl (fun e=>by rw [c10] at e; cases e) (fun e=>?_)
 refine J.skip (J.seq (J.region ?_))
 refine Zh 2 ?_
 obtain ⟨⟨p1,p2⟩,H⟩:=Zs H
 refine Ze (Bu Y6 (ty:=(.pair (.int .u32) (.pair (.slice 5 (.int .u8)) (.pair .bool (.int .i64))))) ((0,([]:List (Int)),false,0):Int×List (Int)×Bool×Int) rfl rfl rfl rfl rfl rfl (fun _ _=>Zg3 ⟨none,0,rfl,Nat.le_refl _,.inl rfl⟩) (by decide) h13 p1 p2) ?_
 rintro _ w9 ⟨b12,rfl,h15⟩
 replace h15:=nf h15
 refine Ze (Jo .u32 (Value.int .i64) h15) ?_
 rintro _ w10 ⟨b13,rfl,h16⟩
 replace h16:=nf h16
 refine Zh 2 ?_
 refine Ze (Ym h16) ?_
 rintro _ w11 ⟨b14,rfl,h17⟩
 replace h17:=nf h17
 refine Zi [1,8] rfl ?_
 refine J.seq (J.seq (Zb [8,36,37] ?_))
 refine J.block ?_
 have h52:=h17.addNil 3 (.int .i64)
 have h53:=(sOR h52 [1,5,1,2,5,4,3,1,0,0] [0])
 refine J.loop (fun kk env w=>∃(x1:List (Int)) (A8:Option Addr) (c_8:Nat) (x2:Int),env=[(8,.pointer (some ⟨b14,0,none⟩)),(36,.int .i64 r1.2.2.1),(37,.int .i64 x2)]∧St w0 F0 [Yh b14 (.pointer (some ⟨b9,0,none⟩)) (List.replicate r1.2.2.1.toNat ((0,([]:List (Int)),false,0):Int×List (Int)×Bool×Int)) (some ⟨b12,0,none⟩) (r1.2.2.1.toNat) (.map (some b13)) x1 A8 c_8 (.pointer (some ⟨b11,0,none⟩)),Yb b9 r3.1 r3.2.1 A6 c_6 r3.2.2.1 r3.2.2.2,Yc .u32 (Value.int .i64) b13 ([]:List (Int×Int)),Z7 b11 r9.1 A7 c_7 r9.2,X23 b1 r1.1 r1.2.1 r1.2.2.1 r1.2.2.2.1 r1.2.2.2.2.1 r1.2.2.2.2.2.1 r1.2.2.2.2.2.2.1 r1.2.2.2.2.2.2.2,X23 b10 r1.1 r1.2.1 r1.2.2.1 r1.2.2.2.1 r1.2.2.2.2.1 r1.2.2.2.2.2.1 r1.2.2.2.2.2.2.1 r1.2.2.2.2.2.2.2,O5 r3.2.1 A6 c_6,Yg (List.replicate r1.2.2.1.toNat ((0,([]:List (Int)),false,0):Int×List (Int)×Bool×Int)) (some ⟨b12,0,none⟩) (r1.2.2.1.toNat),O3 x1 A8 c_8,Z8 r9.1 A7 c_7] [tabC 0] w∧Q127.l0 kk r1 r3 r9 x1 x2=some r) (k:=k) ⟨([]:List (Int)),none,0,0,rfl,h53,H⟩ ?_
 rintro k1 env w12 ⟨x1,A8,c_8,x2,rfl,h18,H⟩
 rcases k1 with _ | k1
 ·exact z0 H
 rw [Q127.l0] at H
 refine J.seq (Zb [8,36,37,38] ?_)
 refine J.seq (jIf H (fun c11 H=>?_) fun c11 H=>?_)
 ·refine J.skip (J.seq (J.block (J.seq (Zb [8,9,36,37] ?_))))
  refine J.region (Zh 4 ?_)
  refine Zf (Zd 0 h18.wht) ?_
  refine Zh 1 ?_
  refine Ze (Xg (.int .i64) ([x2]:List (Int)) h18) ?_
  rintro _ w13 ⟨b15,rfl,h19⟩
  replace h19:=nf h19
  obtain ⟨p3,H⟩:=Zs H
  refine Ze (Yx 9 h19 (gO 0) p3) ?_
  rintro _ w14 ⟨A9,c_9,rfl,h20⟩
  replace h20:=nf h20
  refine Zh 2 ?_
  refine Ze (Z3 2 h20) ?_
  intro _ w15 h21
  replace h21:=nf h21
  refine Zi [8,36,37] rfl ?_
  refine Zb [8,36,37] ?_
  have h22:=(sOR h21 [0,2,2,2,2,2,2,2,0,1] [0])
  exact ⟨k1,by omega,(x1 ++ ([x2]:List (Int))),A9,c_9,(w64 (x2+1)),rfl,h22,H⟩
 refine J.exit (J.seq (Zb [4,5] ?_))
 refine J.ret (⟨_,Za,?_⟩)
 refine Zi [1,2,7,8] rfl ?_
 refine J.seq (J.seq (Zb [1,2,7,8,23] ?_))
 refine Z4 ?_
 refine J.skip (J.seq (J.seq ?_))
 refine Zu h18 ?_
 have h23:=h18.drew
 refine Zv [0,2] ?_
 refine Zj 3 rfl (Zd 5 wI) ?_
 obtain ⟨r10,q7,H⟩:=Zn H
 refine Zp 1 rfl (Zg [1,5] (Q53.spec q7) h23 rfl Zr) ?_
 rintro _ w16 ⟨_,⟨rfl,rfl⟩,h24⟩
 replace h24:=nf h24
 refine ⟨⟨[],(Zc h24 [2,0,1,1,1,1,0,0,0,0])⟩,?_⟩
 refine Zv [4,5] ?_
 refine Xy 30 H (fun c12 H=>?_) fun c12 H=>?_
 ·refine Zv [6,7,8,9,10,11] ?_
  refine Z0 [1,2,7,36] ?_
  refine Zt ?_
  refine J.seq (Zb [4,5] ?_)
  refine J.ret (⟨_,Za,?_⟩)
  refine Zi [4,5,6,7] rfl ?_
  refine J.seq (J.seq (J.region ?_))
  refine Zh 3 ?_
  refine Yo 24 (congrArg Value.bool c2) ?_
  refine Zi [4,6,27] rfl ?_
  refine Zt ?_
  refine J.seq (Zb [2,3] ?_)
  refine J.ret (⟨_,Za,?_⟩)
  refine Zi [1] rfl ?_
  have h25:=Zc h24 []
  replace h25:=nf h25
  refine J.seq (J.seq (Zb [1,13] ?_))
  refine Zt ?_
  refine J.seq (Zb [0] ?_)
  refine J.ret ?_
  cases H
  exact ⟨_,_,_,Za,⟨rfl,rfl⟩,Zc h25 []⟩
 refine Zv [6,8] ?_
 refine Zj 9 rfl (Zd 5 wI) ?_
 obtain ⟨r11,q8,H⟩:=Zn H
 refine Zp 7 rfl (Zg [0,0] (Q54.spec q8) h24 rfl Zr) ?_
 rintro _ w17 ⟨_,⟨rfl,rfl⟩,h26⟩
 replace h26:=nf h26
 refine ⟨⟨[],(Zc h26 [2,0,1,1,1,1,0,0,0,0])⟩,?_⟩
 refine Zv [10,11] ?_
 refine Z0 [1,2,7,36] ?_
 refine jIf H (fun c13 H=>?_) fun c13 H=>?_
 ·refine J.seq (Zb [4,5] ?_)
  refine J.ret (⟨_,Za,?_⟩)
  refine Zi [4,5,6,7] rfl ?_
  refine J.seq (J.seq (J.region ?_))
  refine Zh 3 ?_
  refine Yo 24 (congrArg Value.bool c2) ?_
  refine Zi [4,6,27] rfl ?_
  refine Zt ?_
  refine J.seq (Zb [2,3] ?_)
  refine J.ret (⟨_,Za,?_⟩)
  refine Zi [1] rfl ?_
  have h27:=Zc h26 []
  replace h27:=nf h27
  refine J.seq (J.seq (Zb [1,13] ?_))
  refine Zt ?_
  refine J.seq (Zb [0] ?_)
  refine J.ret ?_
  cases H
  exact ⟨_,_,_,Za,⟨rfl,rfl⟩,Zc h27 []⟩
 refine J.skip (J.seq (J.region ?_))
 refine Zh 1 ?_
 refine Zf (Zd 6 h26.wht) ?_
 obtain ⟨r12,q9,H⟩:=Zn H
 refine Ze (Zg [] (Q73.spec q9) h26 rfl Zr) ?_
 rintro _ w18 ⟨_,⟨v4,l4,ho7,rfl,rfl⟩,h28⟩
 rcases ho8:r12.1 with _ | r13
 ·rw [ho8] at ho7
  obtain ⟨rfl,rfl⟩:=ho7
  replace H:=Vj ho8 H
  obtain ⟨c14,H⟩:=Zs H
  replace h28:=nf h28
  refine Zi [1,2,7,8,9] rfl ?_
  refine J.seq (J.seq (Zb [1,2,7,8,9,44] ?_))
  refine J.cond rfl (fun e=>?_) (fun e=>by rw [c14] at e; cases e)
  refine J.seq (Zb [4,5] ?_)
  refine J.ret (⟨_,Za,?_⟩)
  refine Zi [4,5,6,7] rfl ?_
  refine J.seq (J.seq (J.region ?_))
  refine Zh 3 ?_
  refine Yo 24 (congrArg Value.bool c2) ?_
  refine Zi [4,6,27] rfl ?_
  refine J.cond rfl (fun e=>?_) (fun e=>by rw [c14] at e; cases e)
  refine J.seq (Zb [2,3] ?_)
  refine J.ret (⟨_,Za,?_⟩)
  refine Zi [1] rfl ?_
  have h29:=Zc h28 []
  replace h29:=nf h29
  refine J.seq (J.seq (Zb [1,13] ?_))
  refine Zt ?_
  refine J.seq (Zb [0] ?_)
  refine J.ret ?_
  cases H
  exact ⟨_,_,_,Za,⟨rfl,rfl⟩,Zc h29 []⟩
 rw [ho8] at ho7
 obtain ⟨b16,b17,A10,c_10,rfl,rfl⟩:=ho7
 replace H:=Ve ho8 H
 obtain ⟨c15,H⟩:=Zs H
 replace h28:=nf h28
 refine Zi [1,2,7,8,9] rfl ?_
 refine J.seq (J.seq (Zb [1,2,7,8,9,44] ?_))
 refine J.cond rfl (fun e=>by rw [c15] at e; cases e) (fun e=>?_)
 refine J.skip (J.seq (J.region ?_))
 refine Zf (Zd 9 h28.wht) ?_
 refine Zh 4 ?_
 refine Ze (Ym h28) ?_
 rintro _ w19 ⟨b18,rfl,h30⟩
 replace h30:=nf h30
 refine Zi [4,5] rfl ?_
 refine J.ret (⟨_,Za,?_⟩)
 refine Zi [4,5,6,7] rfl ?_
 refine J.seq (J.seq (J.region ?_))
 refine Zh 3 ?_
 refine Yo 24 (congrArg Value.bool c2) ?_
 refine Zi [4,6,27] rfl ?_
 refine Z4 ?_
 refine J.skip (J.seq (Zb [2,3] ?_))
 refine J.ret (⟨_,Za,?_⟩)
 refine Zi [1] rfl ?_
 have h31:=Zc h30 [0,0,0,0,0,0,0,0,0,2,2,2]
 replace h31:=nf h31
 refine J.seq (J.seq (Zb [1,13] ?_))
 refine Z4 ?_
 refine J.skip (J.seq (J.region ?_))
 refine Zh 2 ?_
 have h32:=h31.addNil 33 (.int .u32)
 have h33:=h32.freeze (k:=0) rfl Xh
 have h34:=h33.addNil 9 .str
 have h35:=h34.freeze (k:=0) rfl Xh
 have h36:=h35.addNil 115 (.pair .str (.pair .bool .str))
 have h37:=h36.freeze (k:=0) rfl Xh
 have h38:=h37.addNil 106 (.pair .str .str)
 have h39:=h38.freeze (k:=0) rfl Xh
 obtain ⟨r14,q10,H⟩:=Zn H
 refine Ze (Zg [0,5,3,3,5,3,4,3,3,0,0,0] (Q88.spec q10) h39 rfl (Zy (Zk 3) (Zy (Zk 2) (Zy (Zk 1) (Zy (Zk 0) (Zy (Zk 4) Zr)))))) ?_
 rintro _ w20 ⟨_,⟨A11,c_11,A12,c_12,A13,c_13,A14,c_14,A15,c_15,rfl,rfl⟩,h40⟩
 replace h40:=nf h40
 refine Zi [1,3,4] rfl ?_
 refine J.seq (J.region ?_)
 refine Zh 1 ?_
 obtain ⟨r15,q11,H⟩:=Zn H
 refine Ze (Zg [0,0,0,0,0,0,0,0,0,0,0,0] (Q87.spec q11) h40 rfl Zr) ?_
 rintro _ w21 ⟨_,⟨A16,c_16,A17,c_17,A18,c_18,A19,c_19,A20,c_20,A21,c_21,A22,c_22,A23,c_23,A24,c_24,rfl,rfl⟩,h41⟩
 replace h41:=nf h41
 refine Zh 3 ?_
 refine Ze (Xf h41) ?_
 rintro _ w22 ⟨b19,rfl,h42⟩
 replace h42:=nf h42
 refine Ze (Z3 0 h42) ?_
 intro _ w23 h43
 replace h43:=nf h43
 refine Zi [1,3,4,6] rfl ?_
 have h44:=Zc h43 [5,5,5,5,5,5,5,5,5,5,5,5]
 replace h44:=nf h44
 refine J.seq (J.region ?_)
 refine Zh 3 ?_
 refine Yj 27 H (fun c16 H=>?_) fun c16 H=>?_
 ·refine Zh 4 ?_
  refine Yj 31 H (fun c17 H=>?_) fun c17 H=>?_
  ·refine Zh 1 ?_
   obtain ⟨r16,q12,H⟩:=Zn H
   refine Ze (Zg [0,0,0,0,0,0,0,0,0,0,0,0] (Q86.spec q12) h44 rfl Zr) ?_
   rintro _ w24 ⟨_,⟨rfl,rfl⟩,h45⟩
   replace h45:=nf h45
   refine Zh 3 ?_
   refine Yj 36 H (fun c18 H=>?_) fun c18 H=>?_
   ·refine Zh 4 ?_
    refine Yj 40 H (fun c19 H=>?_) fun c19 H=>?_
    ·refine Zh 1 ?_
     obtain ⟨r17,q13,H⟩:=Zn H
     refine Ze (Zg [0,0,0,0,0,0,0,0,0,0,0,0] (Q84.spec q13) h45 rfl Zr) ?_
     rintro _ w25 ⟨_,⟨rfl,rfl⟩,h46⟩
     replace h46:=nf h46
     refine Zi [0] rfl ?_
     have h47:=Zc h46 []
     replace h47:=nf h47
     refine J.ret ?_
     cases H
     exact ⟨_,_,_,Za,⟨rfl,rfl⟩,Zc h47 []⟩
    refine Zi [0] rfl ?_
    have h48:=Zc h45 []
    replace h48:=nf h48
    refine J.ret ?_
    cases H
    exact ⟨_,_,_,Za,⟨rfl,rfl⟩,Zc h48 []⟩
   refine Zi [0] rfl ?_
   have h49:=Zc h45 []
   replace h49:=nf h49
   refine J.ret ?_
   cases H
   exact ⟨_,_,_,Za,⟨rfl,rfl⟩,Zc h49 []⟩
  refine Zi [0] rfl ?_
  have h50:=Zc h44 []
  replace h50:=nf h50
  refine J.ret ?_
  cases H
  exact ⟨_,_,_,Za,⟨rfl,rfl⟩,Zc h50 []⟩
 refine Zi [0] rfl ?_
 have h51:=Zc h44 []
 replace h51:=nf h51
 refine J.ret ?_
 cases H
 exact ⟨_,_,_,Za,⟨rfl,rfl⟩,Zc h51 []⟩

def Q124.l2:Nat→(Int×List (Int)×List (List UInt8)×(List (List UInt8×Bool×List UInt8))×(List (List UInt8×List UInt8)))→(Int)→Option (Bool)
 | 0,_,_=>none
 | k+1,a0,x3=>if (decide (x3<(a0.2.2.2.2.length:Int)))=true then (if 0≤x3∧x3<(a0.2.2.2.2.length:Int) then (if (decide (200<(((gt a0.2.2.2.2 x3).1).length:Int)))=true then (some true) else (Q124.l2 k a0 (w64 (x3+1)))) else none) else (some false)
def Q124.l1:Nat→(Int×List (Int)×List (List UInt8)×(List (List UInt8×Bool×List UInt8))×(List (List UInt8×List UInt8)))→(Int)→Option (Bool)
 | 0,_,_=>none
 | k+1,a0,x2=>if (decide (x2<(a0.2.2.2.1.length:Int)))=true then (if 0≤x2∧x2<(a0.2.2.2.1.length:Int) then (if (decide (200<(((gt a0.2.2.2.1 x2).1).length:Int)))=true then (some true) else (Q124.l1 k a0 (w64 (x2+1)))) else none) else (Q124.l2 k a0 0)
def Q124.l0:Nat→(Int×List (Int)×List (List UInt8)×(List (List UInt8×Bool×List UInt8))×(List (List UInt8×List UInt8)))→(Int)→Option (Bool)
 | 0,_,_=>none
 | k+1,a0,x1=>if (decide (x1<(a0.2.2.1.length:Int)))=true then (if 0≤x1∧x1<(a0.2.2.1.length:Int) then (if (decide (200<((gt a0.2.2.1 x1).length:Int)))=true then (some true) else (Q124.l0 k a0 (w64 (x1+1)))) else none) else (Q124.l1 k a0 0)
def Q124.f (k:Nat) (a0:Int×List (Int)×List (List UInt8)×(List (List UInt8×Bool×List UInt8))×(List (List UInt8×List UInt8))):Option (Bool):=if (decide (80<(a0.2.1.length:Int)))=true then (some true) else (if (decide (80<(a0.2.2.1.length:Int)))=true then (some true) else (if (decide (150<(a0.2.2.2.1.length:Int)))=true then (some true) else (if (decide (150<(a0.2.2.2.2.length:Int)))=true then (some true) else (Q124.l0 k a0 0))))
theorem Q124.spec {k:Nat} {a0:Int×List (Int)×List (List UInt8)×(List (List UInt8×Bool×List UInt8))×(List (List UInt8×List UInt8))} {A1:Option Addr} {c_1:Nat} {A2:Option Addr} {c_2:Nat} {A3:Option Addr} {c_3:Nat} {A4:Option Addr} {c_4:Nat} {r:Bool} (H:Q124.f k a0=some r) :
  Spec Tryz.prog 16 [.agg #[.int .i64 a0.1,.slice A1 a0.2.1.length c_1,.slice A2 a0.2.2.1.length c_2,.slice A3 a0.2.2.2.1.length c_3,.slice A4 a0.2.2.2.2.length c_4]] [] [R33 a0.2.1 A1 c_1,R9 a0.2.2.1 A2 c_2,Xw a0.2.2.2.1 A3 c_3,Xv a0.2.2.2.2 A4 c_4] (fun v l=>v=.bool r∧l=[]):=by
 refine Zo Tryz.func16 fun w0 F0 h0=>?_
 unfold Q124.f at H
 refine J.seq (J.region ?_)
 refine Ze (Ym h0) ?_
 rintro _ w1 ⟨b1,rfl,h1⟩
 replace h1:=nf h1
 refine Zi [1] rfl ?_
 refine J.seq (J.seq (J.region ?_))
 refine Zh 1 ?_
 refine Zf (Zd 0 h1.wht) ?_
 refine Zh 3 ?_
 refine Yj 10 H (fun c1 H=>?_) fun c1 H=>?_
 ·refine Zi [1,27] rfl ?_
  refine Zt ?_
  refine J.seq (Zb [2] ?_)
  refine J.ret ?_
  cases H
  exact ⟨_,_,_,Za,⟨rfl,rfl⟩,Zc h1 []⟩
 refine Zh 1 ?_
 refine Zf (Zd 0 h1.wht) ?_
 refine Zh 4 ?_
 refine Yj 16 H (fun c2 H=>?_) fun c2 H=>?_
 ·refine Zi [1,27] rfl ?_
  refine Zt ?_
  refine J.seq (Zb [2] ?_)
  refine J.ret ?_
  cases H
  exact ⟨_,_,_,Za,⟨rfl,rfl⟩,Zc h1 []⟩
 refine Zh 1 ?_
 refine Zf (Zd 0 h1.wht) ?_
 refine Zh 4 ?_
 refine Yj 22 H (fun c3 H=>?_) fun c3 H=>?_
 ·refine Zi [1,27] rfl ?_
  refine Zt ?_
  refine J.seq (Zb [2] ?_)
  refine J.ret ?_
  cases H
  exact ⟨_,_,_,Za,⟨rfl,rfl⟩,Zc h1 []⟩
 refine Zh 1 ?_
 refine Zf (Zd 0 h1.wht) ?_
 refine Zi [1,27] rfl ?_
 refine jIf H (fun c4 H=>?_) fun c4 H=>?_
 ·refine J.seq (Zb [2] ?_)
  refine J.ret ?_
  cases H
  exact ⟨_,_,_,Za,⟨rfl,rfl⟩,Zc h1 []⟩
 refine J.skip (J.seq (J.seq (Zb [1,3] ?_)))
 refine J.block ?_
 have h10:=(sOR h1 [0] [0,1,2,3])
 refine J.loop (fun kk env w=>∃(x1:Int),env=[(1,.pointer (some ⟨b1,0,none⟩)),(3,.int .i64 x1)]∧St w0 F0 [X43 b1 a0.1 a0.2.1 A1 c_1 a0.2.2.1 A2 c_2 a0.2.2.2.1 A3 c_3 a0.2.2.2.2 A4 c_4] [R33 a0.2.1 A1 c_1,R9 a0.2.2.1 A2 c_2,Xw a0.2.2.2.1 A3 c_3,Xv a0.2.2.2.2 A4 c_4] w∧Q124.l0 kk a0 x1=some r) (k:=k) ⟨0,rfl,h10,H⟩ ?_
 rintro k1 env w2 ⟨x1,rfl,h2,H⟩
 rcases k1 with _ | k1
 ·exact z0 H
 rw [Q124.l0] at H
 refine J.seq (J.seq (J.region ?_))
 refine Zh 2 ?_
 refine Zf (Zd 0 h2.wht) ?_
 refine Zi [1,3,32] rfl ?_
 refine jIf H (fun c5 H=>?_) fun c5 H=>?_
 ·refine J.skip (J.seq (J.block (J.seq (J.region ?_))))
  refine Zh 1 ?_
  refine Zf (Zd 0 h2.wht) ?_
  refine Zh 1 ?_
  obtain ⟨⟨p1,p2⟩,H⟩:=Zs H
  have e1:=Z6 h2.wh (Zk 2) p1 p2
  refine Zf (Zl e1 p1 p2) ?_
  refine Zf (Zm 0 h2.wht (Zk 2) p1 p2) ?_
  refine Zi [1,3,41] rfl ?_
  refine jIf H (fun c6 H=>?_) fun c6 H=>?_
  ·refine J.seq (Zb [2] ?_)
   refine J.ret ?_
   cases H
   exact ⟨_,_,_,Za,⟨rfl,rfl⟩,Zc h2 []⟩
  refine J.skip (Zb [1,3] ?_)
  have h3:=(sOR h2 [0] [0,1,2,3])
  exact ⟨k1,by omega,(w64 (x1+1)),rfl,h3,H⟩
 refine J.exit (J.seq (J.seq (Zb [1,4] ?_)))
 refine J.block ?_
 have h9:=(sOR h2 [0] [0,1,2,3])
 refine J.loop (fun kk env w=>∃(x2:Int),env=[(1,.pointer (some ⟨b1,0,none⟩)),(4,.int .i64 x2)]∧St w0 F0 [X43 b1 a0.1 a0.2.1 A1 c_1 a0.2.2.1 A2 c_2 a0.2.2.2.1 A3 c_3 a0.2.2.2.2 A4 c_4] [R33 a0.2.1 A1 c_1,R9 a0.2.2.1 A2 c_2,Xw a0.2.2.2.1 A3 c_3,Xv a0.2.2.2.2 A4 c_4] w∧Q124.l1 kk a0 x2=some r) (k:=k1) ⟨0,rfl,h9,H⟩ ?_
 rintro k2 env w3 ⟨x2,rfl,h4,H⟩
 rcases k2 with _ | k2
 ·exact z0 H
 rw [Q124.l1] at H
 refine J.seq (J.seq (J.region ?_))
 refine Zh 2 ?_
 refine Zf (Zd 0 h4.wht) ?_
 refine Zi [1,4,46] rfl ?_
 refine jIf H (fun c7 H=>?_) fun c7 H=>?_
 ·refine J.skip (J.seq (J.block (J.seq (J.region ?_))))
  refine Zh 1 ?_
  refine Zf (Zd 0 h4.wht) ?_
  refine Zh 1 ?_
  obtain ⟨⟨p3,p4⟩,H⟩:=Zs H
  have e2:=Z6 h4.wh (Zk 3) p3 p4
  refine Zf (Zl e2 p3 p4) ?_
  refine Zh 1 ?_
  refine Zf (Zm 0 h4.wht (Zk 3) p3 p4) ?_
  refine Zi [1,4,56] rfl ?_
  refine jIf H (fun c8 H=>?_) fun c8 H=>?_
  ·refine J.seq (Zb [2] ?_)
   refine J.ret ?_
   cases H
   exact ⟨_,_,_,Za,⟨rfl,rfl⟩,Zc h4 []⟩
  refine J.skip (Zb [1,4] ?_)
  have h5:=(sOR h4 [0] [0,1,2,3])
  exact ⟨k2,by omega,(w64 (x2+1)),rfl,h5,H⟩
 refine J.exit (J.seq (J.seq (Zb [1,5] ?_)))
 refine J.block ?_
 have h8:=(sOR h4 [0] [0,1,2,3])
 refine J.loop (fun kk env w=>∃(x3:Int),env=[(1,.pointer (some ⟨b1,0,none⟩)),(5,.int .i64 x3)]∧St w0 F0 [X43 b1 a0.1 a0.2.1 A1 c_1 a0.2.2.1 A2 c_2 a0.2.2.2.1 A3 c_3 a0.2.2.2.2 A4 c_4] [R33 a0.2.1 A1 c_1,R9 a0.2.2.1 A2 c_2,Xw a0.2.2.2.1 A3 c_3,Xv a0.2.2.2.2 A4 c_4] w∧Q124.l2 kk a0 x3=some r) (k:=k2) ⟨0,rfl,h8,H⟩ ?_
 rintro k3 env w4 ⟨x3,rfl,h6,H⟩
 rcases k3 with _ | k3
 ·exact z0 H
 rw [Q124.l2] at H
 refine J.seq (J.seq (J.region ?_))
 refine Zh 2 ?_
 refine Zf (Zd 0 h6.wht) ?_
 refine Zi [1,5,61] rfl ?_
 refine jIf H (fun c9 H=>?_) fun c9 H=>?_
 ·refine J.skip (J.seq (J.block (J.seq (J.region ?_))))
  refine Zh 1 ?_
  refine Zf (Zd 0 h6.wht) ?_
  refine Zh 1 ?_
  obtain ⟨⟨p5,p6⟩,H⟩:=Zs H
  have e3:=Z6 h6.wh (Zk 4) p5 p6
  refine Zf (Zl e3 p5 p6) ?_
  refine Zh 1 ?_
  refine Zf (Zm 0 h6.wht (Zk 4) p5 p6) ?_
  refine Zi [1,5,71] rfl ?_
  refine jIf H (fun c10 H=>?_) fun c10 H=>?_
  ·refine J.seq (Zb [2] ?_)
   refine J.ret ?_
   cases H
   exact ⟨_,_,_,Za,⟨rfl,rfl⟩,Zc h6 []⟩
  refine J.skip (Zb [1,5] ?_)
  have h7:=(sOR h6 [0] [0,1,2,3])
  exact ⟨k3,by omega,(w64 (x3+1)),rfl,h7,H⟩
 refine J.exit (J.seq (Zb [2] ?_))
 refine J.ret ?_
 cases H
 exact ⟨_,_,_,Za,⟨rfl,rfl⟩,Zc h6 []⟩

def Q56.f (a0:Int×List (Int)×(Int×Int)):Option ((Int×Int)):=some a0.2.2
theorem Q56.spec {a0:Int×List (Int)×(Int×Int)} {b1:Nat} {A1:Option Addr} {c_1:Nat} {r:(Int×Int)} (H:Q56.f a0=some r) :
  Spec Tryz.prog 23 [.pointer (some ⟨b1,0,none⟩)] [Yb b1 a0.1 a0.2.1 A1 c_1 a0.2.2.1 a0.2.2.2,O5 a0.2.1 A1 c_1] [] (fun v l=>v=.agg #[.int .u64 r.1,.int .u64 r.2]∧l=[Yb b1 a0.1 a0.2.1 A1 c_1 a0.2.2.1 a0.2.2.2,O5 a0.2.1 A1 c_1]):=by
 refine Zo Tryz.func23 fun w0 F0 h0=>?_
 unfold Q56.f at H
 refine J.seq (J.region ?_)
 refine Ze (Xf h0) ?_
 rintro _ w1 ⟨b2,rfl,h1⟩
 replace h1:=nf h1
 refine Zi [0,2] rfl ?_
 refine J.seq (J.seq (Zb [0,2,4] ?_))
 refine Z4 ?_
 refine J.skip (J.seq (J.region ?_))
 refine Zh 3 ?_
 refine Zf (Zd 1 h1.wht) ?_
 refine Ze (Z3 0 h1) ?_
 intro _ w2 h2
 replace h2:=nf h2
 refine Zi [2] rfl ?_
 refine J.ret ?_
 cases H
 exact ⟨_,_,_,(Yy rfl (Y9 (RV.cell Y6 0 h2 rfl rfl rfl rfl) Wi) rfl),⟨rfl,rfl⟩,Zc h2 [1,1]⟩

end Go.SK.T
