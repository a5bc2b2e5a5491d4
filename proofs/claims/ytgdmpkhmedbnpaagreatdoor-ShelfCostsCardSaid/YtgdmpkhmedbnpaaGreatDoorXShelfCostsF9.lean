/- The functions, further. -/
import Derived.Test.YtgdmpkhmedbnpaaGreatDoorXShelfCostsF8
set_option linter.unusedVariables false
set_option linter.unusedSimpArgs false
set_option maxRecDepth 20000
set_option maxHeartbeats 40000000
namespace Go.SK.T
open Go Go.SK Go.Proofs
def Q14.l0:Nat→((Int×List (Int)×(Int×Int))×(List (Int×List (Int)×Bool×Int))×(List (Int×Int))×List (Int)×((List (Int×Int×Bool))×Int))→(List (Int))→(List (Int))→(Int)→Option (List (Int))
 | 0,_,_,_,_=>none
 | k+1,a0,r2,x1,x2=>if (decide (x2<(r2.length:Int)))=true then (if 0≤x2∧x2<(r2.length:Int) then (if 0≤(Zw (0:Int) a0.2.2.1 (gt r2 x2))∧(Zw (0:Int) a0.2.2.1 (gt r2 x2))<(a0.2.1.length:Int) then (if (gt a0.2.1 (Zw (0:Int) a0.2.2.1 (gt r2 x2))).2.2.1=true then (if (x1.length+([(gt r2 x2)]:List (Int)).length)*4≤140737488355328 then (Q14.l0 k a0 r2 (x1 ++ ([(gt r2 x2)]:List (Int))) (w64 (x2+1))) else none) else (Q14.l0 k a0 r2 x1 (w64 (x2+1)))) else none) else none) else (some x1)
def Q14.f (k:Nat) (a0:(Int×List (Int)×(Int×Int))×(List (Int×List (Int)×Bool×Int))×(List (Int×Int))×List (Int)×((List (Int×Int×Bool))×Int)):Option (List (Int)):=(Q23.f a0).bind fun r1=>(if r1=true then (some ([]:List (Int))) else ((Q135.f a0.2.2.1).bind fun r2=>(Q14.l0 k a0 r2 ([]:List (Int)) 0)))
theorem Q14.spec {k:Nat} {a0:(Int×List (Int)×(Int×Int))×(List (Int×List (Int)×Bool×Int))×(List (Int×Int))×List (Int)×((List (Int×Int×Bool))×Int)} {b1:Nat} {b2:Nat} {b3:Nat} {b4:Nat} {A1:Option Addr} {c_1:Nat} {A2:Option Addr} {c_2:Nat} {A3:Option Addr} {c_3:Nat} {A4:Option Addr} {c_4:Nat} {r:List (Int)} (H:Q14.f k a0=some r) :
  Spec Tryz.prog 109 [.pointer (some ⟨b1,0,none⟩)] [Yh b1 (.pointer (some ⟨b2,0,none⟩)) a0.2.1 A2 c_2 (.map (some b3)) a0.2.2.2.1 A3 c_3 (.pointer (some ⟨b4,0,none⟩)),Yb b2 a0.1.1 a0.1.2.1 A1 c_1 a0.1.2.2.1 a0.1.2.2.2,O5 a0.1.2.1 A1 c_1,Yg a0.2.1 A2 c_2,Yc .u32 (Value.int .i64) b3 a0.2.2.1,O3 a0.2.2.2.1 A3 c_3,Z7 b4 a0.2.2.2.2.1 A4 c_4 a0.2.2.2.2.2,Z8 a0.2.2.2.2.1 A4 c_4] [] (fun v l=>∃(A_0:Option Addr) (c_0:Nat),v=.slice A_0 r.length c_0∧l=[O33 r A_0 c_0,Yh b1 (.pointer (some ⟨b2,0,none⟩)) a0.2.1 A2 c_2 (.map (some b3)) a0.2.2.2.1 A3 c_3 (.pointer (some ⟨b4,0,none⟩)),Yb b2 a0.1.1 a0.1.2.1 A1 c_1 a0.1.2.2.1 a0.1.2.2.2,O5 a0.1.2.1 A1 c_1,Yg a0.2.1 A2 c_2,Yc .u32 (Value.int .i64) b3 a0.2.2.1,O3 a0.2.2.2.1 A3 c_3,Z7 b4 a0.2.2.2.2.1 A4 c_4 a0.2.2.2.2.2,Z8 a0.2.2.2.2.1 A4 c_4]):=by
 refine Zo Tryz.func109 fun w0 F0 h0=>?_
 unfold Q14.f at H
 refine J.seq (Zb [0] ?_)
 refine J.seq (J.seq (J.region ?_))
 refine Zh 1 ?_
 obtain ⟨r1,q1,H⟩:=Zn H
 refine Ze (Zg [0,0,0,0,0,0,0,0] (Q23.spec q1) h0 rfl Zr) ?_
 rintro _ w1 ⟨_,⟨rfl,rfl⟩,h1⟩
 replace h1:=nf h1
 refine Zi [0,7] rfl ?_
 refine jIf H (fun c1 H=>?_) fun c1 H=>?_
 ·refine J.seq (Zb [2] ?_)
  refine J.ret ?_
  have h2:=h1.addNil 33 (.int .u32)
  cases H
  exact ⟨_,_,_,Za,⟨_,_,rfl,rfl⟩,Zc h2 [0,0,0,0,0,0,0,0,0]⟩
 refine J.skip (J.seq (Zb [0,3] ?_))
 refine J.seq (J.seq (J.region ?_))
 refine Zh 3 ?_
 refine Zf (Zd 0 h1.wht) ?_
 refine Ze (Zg [] keys.spec h1 rfl Zr) ?_
 rintro _ w2 ⟨_,⟨b5,rfl,rfl⟩,h3⟩
 replace h3:=nf h3
 obtain ⟨r2,q2,H⟩:=Zn H
 refine Ze (Zg [0,4] (Q135.spec q2) h3 rfl Zr) ?_
 rintro _ w3 ⟨_,⟨A5,c_5,rfl,rfl⟩,h4⟩
 replace h4:=nf h4
 refine Zi [0,3,13,14,15] rfl ?_
 refine J.block ?_
 have h11:=h4.addNil 33 (.int .u32)
 have h12:=(sOR h11 [4,4,3,6,3,3,3,3,0,0] [])
 refine J.loop (fun kk env w=>∃(x1:List (Int)) (A6:Option Addr) (c_6:Nat) (x2:Int),env=[(0,.pointer (some ⟨b1,0,none⟩)),(3,.slice A6 x1.length c_6),(13,.slice A5 r2.length c_5),(14,.int .i64 (r2.length:Int)),(15,.int .i64 x2)]∧St w0 F0 [Yh b1 (.pointer (some ⟨b2,0,none⟩)) a0.2.1 A2 c_2 (.map (some b3)) a0.2.2.2.1 A3 c_3 (.pointer (some ⟨b4,0,none⟩)),Yb b2 a0.1.1 a0.1.2.1 A1 c_1 a0.1.2.2.1 a0.1.2.2.2,Yc .u32 (Value.int .i64) b3 a0.2.2.1,Z7 b4 a0.2.2.2.2.1 A4 c_4 a0.2.2.2.2.2,O5 a0.1.2.1 A1 c_1,Yg a0.2.1 A2 c_2,O3 a0.2.2.2.1 A3 c_3,Z8 a0.2.2.2.2.1 A4 c_4,O33 x1 A6 c_6,O33 r2 A5 c_5] [] w∧Q14.l0 kk a0 r2 x1 x2=some r) (k:=k) ⟨([]:List (Int)),none,0,0,rfl,h12,H⟩ ?_
 rintro k1 env w4 ⟨x1,A6,c_6,x2,rfl,h5,H⟩
 rcases k1 with _ | k1
 ·exact z0 H
 rw [Q14.l0] at H
 refine J.seq (Zb [0,3,13,14,15,16] ?_)
 refine J.seq (jIf H (fun c2 H=>?_) fun c2 H=>?_)
 ·refine J.skip (J.seq (J.block (J.seq (J.region ?_))))
  obtain ⟨⟨p1,p2⟩,H⟩:=Zs H
  have e1:=Z6 h5.wh (gO 9) p1 p2
  refine Zf (Zl e1 p1 p2) ?_
  refine Zf (Zm 0 h5.wht (gO 9) p1 p2) ?_
  refine Zi [0,3,5,13,14,15] rfl ?_
  refine J.seq (Zu h5 ?_)
  have h6:=h5.drew
  refine Zv [0,1,2,4,5,6,8] ?_
  refine Zj 3 rfl (Zd 0 wI) ?_
  refine Zj 7 rfl (Zd 0 wI) ?_
  refine Zj 9 rfl (Ut (0:Int) 2 wI) ?_
  obtain ⟨⟨p3,p4⟩,H⟩:=Zs H
  have e2:=Z6 h6.wh (gO 5) p3 p4
  refine Zj 10 rfl (Zl e2 p3 p4) ?_
  refine Zv [11] ?_
  refine Zj 12 rfl (Yq 2 wI (gO 5) p3 p4) ?_
  refine Z0 [0,3,5,13,14,15,31] ?_
  refine jIf H (fun c3 H=>?_) fun c3 H=>?_
  ·refine J.region (Zh 2 ?_)
   refine Ze (Xg (.int .u32) ([(gt r2 x2)]:List (Int)) h6) ?_
   rintro _ w5 ⟨b6,rfl,h7⟩
   replace h7:=nf h7
   obtain ⟨p5,H⟩:=Zs H
   refine Ze (Yx 9 h7 (gO 0) p5) ?_
   rintro _ w6 ⟨A7,c_7,rfl,h8⟩
   replace h8:=nf h8
   refine Zi [0,3,13,14,15] rfl ?_
   refine Zb [0,3,13,14,15] ?_
   have h9:=(sOR h8 [2,2,2,2,2,2,2,2,0,1] [])
   exact ⟨k1,by omega,(x1 ++ ([(gt r2 x2)]:List (Int))),A7,c_7,(w64 (x2+1)),rfl,h9,H⟩
  refine J.skip (Zb [0,3,13,14,15] ?_)
  have h10:=(sOR h6 [0,0,0,0,0,0,0,0,0,0] [])
  exact ⟨k1,by omega,x1,A6,c_6,(w64 (x2+1)),rfl,h10,H⟩
 refine J.exit (J.seq (Zb [2] ?_))
 refine J.ret ?_
 cases H
 exact ⟨_,_,_,Za,⟨_,_,rfl,rfl⟩,Zc h5 [8,0,0,2,2,0,1,0,0]⟩

def Q16.l0:Nat→((Int×List (Int)×(Int×Int))×(List (Int×List (Int)×Bool×Int))×(List (Int×Int))×List (Int)×((List (Int×Int×Bool))×Int))→(List (Int))→(Int)→(List (Int))→(Int)→(Int)→(List (Int×List (Int)×Bool×Int))→(Int)→Option (Int×((Int×List (Int)×(Int×Int))×(List (Int×List (Int)×Bool×Int))×(List (Int×Int))×List (Int)×((List (Int×Int×Bool))×Int)))
 | 0,_,_,_,_,_,_,_,_=>none
 | k+1,a0,r2,x1,x2,x3,x4,x5,x6=>if (decide (x6<(r2.length:Int)))=true then (if 0≤x6∧x6<(r2.length:Int) then (if 0≤(Zw (0:Int) a0.2.2.1 (gt r2 x6))∧(Zw (0:Int) a0.2.2.1 (gt r2 x6))<(x5.length:Int) then (if (gt x5 (Zw (0:Int) a0.2.2.1 (gt r2 x6))).2.2.1=true then ((Q57.f (x1,x2,(x3,x4)) ((gt x5 (Zw (0:Int) a0.2.2.1 (gt r2 x6))).1) ((gt x5 (Zw (0:Int) a0.2.2.1 (gt r2 x6))).2.1)).bind fun r3=>(Q16.l0 k a0 r2 r3.2.1 r3.2.2.1 r3.2.2.2.1 r3.2.2.2.2 (x5.set (Zw (0:Int) a0.2.2.1 (gt r2 x6)).toNat ((gt x5 (Zw (0:Int) a0.2.2.1 (gt r2 x6))).1,(gt x5 (Zw (0:Int) a0.2.2.1 (gt r2 x6))).2.1,false,(gt x5 (Zw (0:Int) a0.2.2.1 (gt r2 x6))).2.2.2)) (w64 (x6+1)))) else (Q16.l0 k a0 r2 x1 x2 x3 x4 x5 (w64 (x6+1)))) else none) else none) else (some (0,((x1,x2,(x3,x4)),x5,a0.2.2.1,a0.2.2.2.1,a0.2.2.2.2)))
def Q16.f (k:Nat) (a0:(Int×List (Int)×(Int×Int))×(List (Int×List (Int)×Bool×Int))×(List (Int×Int))×List (Int)×((List (Int×Int×Bool))×Int)):Option (Int×((Int×List (Int)×(Int×Int))×(List (Int×List (Int)×Bool×Int))×(List (Int×Int))×List (Int)×((List (Int×Int×Bool))×Int))):=(Q23.f a0).bind fun r1=>(if r1=true then (some (1,a0)) else ((Q14.f k a0).bind fun r2=>(Q16.l0 k a0 r2 a0.1.1 a0.1.2.1 a0.1.2.2.1 a0.1.2.2.2 a0.2.1 0)))
theorem Q16.spec {k:Nat} {a0:(Int×List (Int)×(Int×Int))×(List (Int×List (Int)×Bool×Int))×(List (Int×Int))×List (Int)×((List (Int×Int×Bool))×Int)} {b1:Nat} {b2:Nat} {b3:Nat} {b4:Nat} {A1:Option Addr} {c_1:Nat} {A2:Option Addr} {c_2:Nat} {A3:Option Addr} {c_3:Nat} {A4:Option Addr} {c_4:Nat} {r:Int×((Int×List (Int)×(Int×Int))×(List (Int×List (Int)×Bool×Int))×(List (Int×Int))×List (Int)×((List (Int×Int×Bool))×Int))} (H:Q16.f k a0=some r) :
  Spec Tryz.prog 61 [.pointer (some ⟨b1,0,none⟩)] [Yh b1 (.pointer (some ⟨b2,0,none⟩)) a0.2.1 A2 c_2 (.map (some b3)) a0.2.2.2.1 A3 c_3 (.pointer (some ⟨b4,0,none⟩)),Yb b2 a0.1.1 a0.1.2.1 A1 c_1 a0.1.2.2.1 a0.1.2.2.2,O5 a0.1.2.1 A1 c_1,Yg a0.2.1 A2 c_2,Yc .u32 (Value.int .i64) b3 a0.2.2.1,O3 a0.2.2.2.1 A3 c_3,Z7 b4 a0.2.2.2.2.1 A4 c_4 a0.2.2.2.2.2,Z8 a0.2.2.2.2.1 A4 c_4] [] (fun v l=>∃(A_0:Option Addr) (c_0:Nat) (A_1:Option Addr) (c_1:Nat) (A_2:Option Addr) (c_2:Nat) (A_3:Option Addr) (c_3:Nat),v=.int .i64 r.1∧l=[Yh b1 (.pointer (some ⟨b2,0,none⟩)) r.2.2.1 A_1 c_1 (.map (some b3)) r.2.2.2.2.1 A_2 c_2 (.pointer (some ⟨b4,0,none⟩)),Yb b2 r.2.1.1 r.2.1.2.1 A_0 c_0 r.2.1.2.2.1 r.2.1.2.2.2,O5 r.2.1.2.1 A_0 c_0,Yg r.2.2.1 A_1 c_1,Yc .u32 (Value.int .i64) b3 r.2.2.2.1,O3 r.2.2.2.2.1 A_2 c_2,Z7 b4 r.2.2.2.2.2.1 A_3 c_3 r.2.2.2.2.2.2,Z8 r.2.2.2.2.2.1 A_3 c_3]):=by
 refine Zo Tryz.func61 fun w0 F0 h0=>?_
 unfold Q16.f at H
 refine J.seq (Zb [0] ?_)
 refine J.seq (J.seq (J.region ?_))
 refine Zh 1 ?_
 obtain ⟨r1,q1,H⟩:=Zn H
 refine Ze (Zg [0,0,0,0,0,0,0,0] (Q23.spec q1) h0 rfl Zr) ?_
 rintro _ w1 ⟨_,⟨rfl,rfl⟩,h1⟩
 replace h1:=nf h1
 refine Zi [0,6] rfl ?_
 refine jIf H (fun c1 H=>?_) fun c1 H=>?_
 ·refine J.seq (Zb [2] ?_)
  refine J.ret ?_
  cases H
  exact ⟨_,_,_,Za,⟨_,_,_,_,_,_,_,_,rfl,rfl⟩,Zc h1 [0,0,0,0,0,0,0,0]⟩
 refine J.skip (J.seq (J.seq (J.region ?_)))
 refine Zh 1 ?_
 obtain ⟨r2,q2,H⟩:=Zn H
 refine Ze (Zg [0,0,0,0,0,0,0,0] (Q14.spec q2) h1 rfl Zr) ?_
 rintro _ w2 ⟨_,⟨A5,c_5,rfl,rfl⟩,h2⟩
 replace h2:=nf h2
 refine Zi [0,8,9,10] rfl ?_
 refine J.block ?_
 have h12:=(sOR h2 [1,1,3,4,1,1,1,1,0] [])
 refine J.loop (fun kk env w=>∃(x1:Int) (x2:List (Int)) (A6:Option Addr) (c_6:Nat) (x3:Int) (x4:Int) (x5:List (Int×List (Int)×Bool×Int)) (A7:Option Addr) (c_7:Nat) (x6:Int),env=[(0,.pointer (some ⟨b1,0,none⟩)),(8,.slice A5 r2.length c_5),(9,.int .i64 (r2.length:Int)),(10,.int .i64 x6)]∧St w0 F0 [Yh b1 (.pointer (some ⟨b2,0,none⟩)) x5 A7 c_7 (.map (some b3)) a0.2.2.2.1 A3 c_3 (.pointer (some ⟨b4,0,none⟩)),Yb b2 x1 x2 A6 c_6 x3 x4,Yc .u32 (Value.int .i64) b3 a0.2.2.1,Z7 b4 a0.2.2.2.2.1 A4 c_4 a0.2.2.2.2.2,O5 x2 A6 c_6,Yg x5 A7 c_7,O3 a0.2.2.2.1 A3 c_3,Z8 a0.2.2.2.2.1 A4 c_4,O33 r2 A5 c_5] [] w∧Q16.l0 kk a0 r2 x1 x2 x3 x4 x5 x6=some r) (k:=k) ⟨a0.1.1,a0.1.2.1,A1,c_1,a0.1.2.2.1,a0.1.2.2.2,a0.2.1,A2,c_2,0,rfl,h12,H⟩ ?_
 rintro k1 env w3 ⟨x1,x2,A6,c_6,x3,x4,x5,A7,c_7,x6,rfl,h3,H⟩
 rcases k1 with _ | k1
 ·exact z0 H
 rw [Q16.l0] at H
 refine J.seq (Zb [0,8,9,10,11] ?_)
 refine J.seq (jIf H (fun c2 H=>?_) fun c2 H=>?_)
 ·refine J.skip (J.seq (J.block (J.seq (J.region ?_))))
  obtain ⟨⟨p1,p2⟩,H⟩:=Zs H
  have e1:=Z6 h3.wh (gO 8) p1 p2
  refine Zf (Zl e1 p1 p2) ?_
  refine Zf (Zm 0 h3.wht (gO 8) p1 p2) ?_
  refine Zi [0,4,8,9,10] rfl ?_
  refine Zu (Zc h3 [0,1,1,3,3,3]) ?_
  have h4:=h3.drew
  refine Zv [0,1,2,3,5,6,7,9] ?_
  refine Zj 4 rfl (Zd 0 wI) ?_
  refine Zj 8 rfl (Zd 0 wI) ?_
  refine Zj 10 rfl (Ut (0:Int) 1 wI) ?_
  obtain ⟨⟨p3,p4⟩,H⟩:=Zs H
  have e2:=Z6 h4.wh (gO 5) p3 p4
  refine Zj 11 rfl (Zl e2 p3 p4) ?_
  refine Zdi 12 rfl Tryz.func110 ?_
  refine J.seq (J.region ?_)
  refine Zh 3 ?_
  refine Zf (Yq 2 h4.wht (gO 5) p3 p4) ?_
  refine Zi [0,1,7] rfl ?_
  refine jIf H (fun c3 H=>?_) fun c3 H=>?_
  ·refine J.seq ?_
   obtain ⟨A8,c_8,h5⟩:=h4.openI 5 rfl p3 p4
   refine Zu (Zc h5 [0,0,1,1,2,2,2]) ?_
   have h6:=h5.drew
   refine Zv [0,1,2,4,5,6,8,9,10] ?_
   refine Zj 3 rfl (Zd 1 wI) ?_
   refine Zj 7 rfl (Yq 0 wI (W8 0 Zfz) p3 p4) ?_
   refine Zj 11 rfl (Uv wI (Zk 0)) ?_
   obtain ⟨r3,q3,H⟩:=Zn H
   refine Zp 12 rfl (Zg [2,4] (Q57.spec q3) h6 rfl (Zy (W8 0 Zce) Zr)) ?_
   rintro _ w4 ⟨_,⟨A9,c_9,rfl,rfl⟩,h7⟩
   replace h7:=nf h7
   refine ⟨⟨[_,_],h7⟩,?_⟩
   refine Z0 [1] ?_
   have h8:=h7.closeI 2 rfl
   refine J.region (Zh 3 ?_)
   refine Ze (Xx 2 (.pair (.int .u32) (.pair (.slice 5 (.int .u8)) (.pair .bool (.int .i64)))) (Zw (0:Int) a0.2.2.1 (gt r2 x6)) ((gt x5 (Zw (0:Int) a0.2.2.1 (gt r2 x6))).1,(gt x5 (Zw (0:Int) a0.2.2.1 (gt r2 x6))).2.1,false,(gt x5 (Zw (0:Int) a0.2.2.1 (gt r2 x6))).2.2.2) 0 h8 rfl p3 p4 (Uz rfl rfl)) ?_
   intro _ w5 h9
   replace h9:=nf h9
   replace h9:St w0 F0 [Yg (x5.set (Zw (0:Int) a0.2.2.1 (gt r2 x6)).toNat ((gt x5 (Zw (0:Int) a0.2.2.1 (gt r2 x6))).1,(gt x5 (Zw (0:Int) a0.2.2.1 (gt r2 x6))).2.1,false,(gt x5 (Zw (0:Int) a0.2.2.1 (gt r2 x6))).2.2.2)) A7 c_7,Yb b2 r3.2.1 r3.2.2.1 A9 c_9 r3.2.2.2.1 r3.2.2.2.2,O5 r3.2.2.1 A9 c_9,Yh b1 (.pointer (some ⟨b2,0,none⟩)) (x5.set (Zw (0:Int) a0.2.2.1 (gt r2 x6)).toNat ((gt x5 (Zw (0:Int) a0.2.2.1 (gt r2 x6))).1,(gt x5 (Zw (0:Int) a0.2.2.1 (gt r2 x6))).2.1,false,(gt x5 (Zw (0:Int) a0.2.2.1 (gt r2 x6))).2.2.2)) A7 c_7 (.map (some b3)) a0.2.2.2.1 A3 c_3 (.pointer (some ⟨b4,0,none⟩)),Yc .u32 (Value.int .i64) b3 a0.2.2.1,Z7 b4 a0.2.2.2.2.1 A4 c_4 a0.2.2.2.2.2,O3 a0.2.2.2.1 A3 c_3,Z8 a0.2.2.2.2.1 A4 c_4,O33 r2 A5 c_5] _ _:=h9.retell (by simp only [List.length_set,List.length_nil,Yg,Z8,O3,O33,O5,Yb,Yh,Z7] <;> rfl)
   refine Zi [] rfl ?_
   refine ⟨_,Za,?_⟩
   replace h9:=nf h9
   refine ⟨⟨[Yg (x5.set (Zw (0:Int) a0.2.2.1 (gt r2 x6)).toNat ((gt x5 (Zw (0:Int) a0.2.2.1 (gt r2 x6))).1,(gt x5 (Zw (0:Int) a0.2.2.1 (gt r2 x6))).2.1,false,(gt x5 (Zw (0:Int) a0.2.2.1 (gt r2 x6))).2.2.2)) A7 c_7,Yb b2 r3.2.1 r3.2.2.1 A9 c_9 r3.2.2.2.1 r3.2.2.2.2,O5 r3.2.2.1 A9 c_9],(h9.retell (by simp only [List.length_set,List.cons_append,List.nil_append,List.length_nil,Yg,Z8,O3,O33,O5,Yb,Yh,Z7] <;> rfl))⟩,?_⟩
   refine Z0 [0,8,9,10] ?_
   refine Zb [0,8,9,10] ?_
   have h10:=(sOR h9 [3,1,2,2,1,0,0,0,0] [])
   exact ⟨k1,by omega,r3.2.1,r3.2.2.1,A9,c_9,r3.2.2.2.1,r3.2.2.2.2,(x5.set (Zw (0:Int) a0.2.2.1 (gt r2 x6)).toNat ((gt x5 (Zw (0:Int) a0.2.2.1 (gt r2 x6))).1,(gt x5 (Zw (0:Int) a0.2.2.1 (gt r2 x6))).2.1,false,(gt x5 (Zw (0:Int) a0.2.2.1 (gt r2 x6))).2.2.2)),A7,c_7,(w64 (x6+1)),rfl,h10,H⟩
  refine J.skip (⟨_,Za,?_⟩)
  replace h4:=nf h4
  refine ⟨⟨[_,_,_],(Zc h4 [1,3,3,0,0,0,0,0,0])⟩,?_⟩
  refine Z0 [0,8,9,10] ?_
  refine Zb [0,8,9,10] ?_
  have h11:=(sOR h4 [0,0,0,0,0,0,0,0,0] [])
  exact ⟨k1,by omega,x1,x2,A6,c_6,x3,x4,x5,A7,c_7,(w64 (x6+1)),rfl,h11,H⟩
 refine J.exit (J.seq (Zb [2] ?_))
 refine J.ret ?_
 cases H
 exact ⟨_,_,_,Za,⟨_,_,_,_,_,_,_,_,rfl,rfl⟩,Zc h3 [0,0,2,2,0,1,0,0]⟩

def Q82.f (k:Nat) (a0:(Int×Int×Int×Int×Int×Int×Int×Int)×((Int×List (Int)×(Int×Int))×(List (Int×List (Int)×Bool×Int))×(List (Int×Int))×List (Int)×((List (Int×Int×Bool))×Int))×((Int×Int×List (Int)))×Int):Option (Int×((Int×Int×Int×Int×Int×Int×Int×Int)×((Int×List (Int)×(Int×Int))×(List (Int×List (Int)×Bool×Int))×(List (Int×Int))×List (Int)×((List (Int×Int×Bool))×Int))×((Int×Int×List (Int)))×Int)):=(Q92.f a0).bind fun r1=>(if (!decide (r1=0))=true then (some (r1,a0)) else ((Q16.f k a0.2.1).bind fun r2=>(some (r2.1,(a0.1,r2.2,a0.2.2.1,a0.2.2.2)))))
theorem Q82.spec {k:Nat} {a0:(Int×Int×Int×Int×Int×Int×Int×Int)×((Int×List (Int)×(Int×Int))×(List (Int×List (Int)×Bool×Int))×(List (Int×Int))×List (Int)×((List (Int×Int×Bool))×Int))×((Int×Int×List (Int)))×Int} {b1:Nat} {b2:Nat} {b3:Nat} {b4:Nat} {b5:Nat} {b6:Nat} {b7:Nat} {A1:Option Addr} {c_1:Nat} {A2:Option Addr} {c_2:Nat} {A3:Option Addr} {c_3:Nat} {A4:Option Addr} {c_4:Nat} {A5:Option Addr} {c_5:Nat} {r:Int×((Int×Int×Int×Int×Int×Int×Int×Int)×((Int×List (Int)×(Int×Int))×(List (Int×List (Int)×Bool×Int))×(List (Int×Int))×List (Int)×((List (Int×Int×Bool))×Int))×((Int×Int×List (Int)))×Int)} (H:Q82.f k a0=some r) :
  Spec Tryz.prog 19 [.pointer (some ⟨b1,0,none⟩)] [X83 b1 a0.1.1 a0.1.2.1 a0.1.2.2.1 a0.1.2.2.2.1 a0.1.2.2.2.2.1 a0.1.2.2.2.2.2.1 a0.1.2.2.2.2.2.2.1 a0.1.2.2.2.2.2.2.2 (.pointer (some ⟨b3,0,none⟩)) (.pointer (some ⟨b2,0,none⟩)) (.pointer (some ⟨b6,0,none⟩)) a0.2.2.2,Yh b2 (.pointer (some ⟨b3,0,none⟩)) a0.2.1.2.1 A2 c_2 (.map (some b4)) a0.2.1.2.2.2.1 A3 c_3 (.pointer (some ⟨b5,0,none⟩)),Yb b3 a0.2.1.1.1 a0.2.1.1.2.1 A1 c_1 a0.2.1.1.2.2.1 a0.2.1.1.2.2.2,O5 a0.2.1.1.2.1 A1 c_1,Yg a0.2.1.2.1 A2 c_2,Yc .u32 (Value.int .i64) b4 a0.2.1.2.2.1,O3 a0.2.1.2.2.2.1 A3 c_3,Z7 b5 a0.2.1.2.2.2.2.1 A4 c_4 a0.2.1.2.2.2.2.2,Z8 a0.2.1.2.2.2.2.1 A4 c_4,Yw b6 (.pointer (some ⟨b7,0,none⟩)),Yk b7 a0.2.2.1.1 a0.2.2.1.2.1 a0.2.2.1.2.2 A5 c_5,O61 a0.2.2.1.2.2 A5 c_5] [] (fun v l=>∃(A_0:Option Addr) (c_0:Nat) (A_1:Option Addr) (c_1:Nat) (A_2:Option Addr) (c_2:Nat) (A_3:Option Addr) (c_3:Nat) (A_4:Option Addr) (c_4:Nat),v=.int .i64 r.1∧l=[X83 b1 r.2.1.1 r.2.1.2.1 r.2.1.2.2.1 r.2.1.2.2.2.1 r.2.1.2.2.2.2.1 r.2.1.2.2.2.2.2.1 r.2.1.2.2.2.2.2.2.1 r.2.1.2.2.2.2.2.2.2 (.pointer (some ⟨b3,0,none⟩)) (.pointer (some ⟨b2,0,none⟩)) (.pointer (some ⟨b6,0,none⟩)) r.2.2.2.2,Yh b2 (.pointer (some ⟨b3,0,none⟩)) r.2.2.1.2.1 A_1 c_1 (.map (some b4)) r.2.2.1.2.2.2.1 A_2 c_2 (.pointer (some ⟨b5,0,none⟩)),Yb b3 r.2.2.1.1.1 r.2.2.1.1.2.1 A_0 c_0 r.2.2.1.1.2.2.1 r.2.2.1.1.2.2.2,O5 r.2.2.1.1.2.1 A_0 c_0,Yg r.2.2.1.2.1 A_1 c_1,Yc .u32 (Value.int .i64) b4 r.2.2.1.2.2.1,O3 r.2.2.1.2.2.2.1 A_2 c_2,Z7 b5 r.2.2.1.2.2.2.2.1 A_3 c_3 r.2.2.1.2.2.2.2.2,Z8 r.2.2.1.2.2.2.2.1 A_3 c_3,Yw b6 (.pointer (some ⟨b7,0,none⟩)),Yk b7 r.2.2.2.1.1 r.2.2.2.1.2.1 r.2.2.2.1.2.2 A_4 c_4,O61 r.2.2.2.1.2.2 A_4 c_4]):=by
 refine Zo Tryz.func19 fun w0 F0 h0=>?_
 unfold Q82.f at H
 refine J.seq (Zb [0] ?_)
 refine J.seq (J.seq (J.region ?_))
 refine Zh 1 ?_
 obtain ⟨r1,q1,H⟩:=Zn H
 refine Ze (Zg [0,0,0,0,0,0,0,0,0,0,0,0] (Q92.spec q1) h0 rfl Zr) ?_
 rintro _ w1 ⟨_,⟨rfl,rfl⟩,h1⟩
 replace h1:=nf h1
 refine Zi [0,3] rfl ?_
 refine J.seq (Zb [0,3,7] ?_)
 refine jIf H (fun c1 H=>?_) fun c1 H=>?_
 ·refine J.seq (Zb [2] ?_)
  refine J.ret ?_
  cases H
  exact ⟨_,_,_,Za,⟨_,_,_,_,_,_,_,_,_,_,rfl,rfl⟩,Zc h1 [0,0,0,0,0,0,0,0,0,0,0,0]⟩
 refine J.skip (J.seq (J.region ?_))
 refine Zh 3 ?_
 refine Zf (Zd 0 h1.wht) ?_
 obtain ⟨r2,q2,H⟩:=Zn H
 refine Ze (Zg [1,1,1,1,1,1,1,1] (Q16.spec q2) h1 rfl Zr) ?_
 rintro _ w2 ⟨_,⟨A6,c_6,A7,c_7,A8,c_8,A9,c_9,rfl,rfl⟩,h2⟩
 replace h2:=nf h2
 refine Zi [2] rfl ?_
 refine J.ret ?_
 cases H
 exact ⟨_,_,_,Za,⟨_,_,_,_,_,_,_,_,_,_,rfl,rfl⟩,Zc h2 [8,0,0,0,0,0,0,0,0,0,0,0]⟩

def Q129.f (k:Nat) (a0:(Int×Int×Int×Int×Int×Int×Int×Int)×((Int×List (Int)×(Int×Int))×(List (Int×List (Int)×Bool×Int))×(List (Int×Int))×List (Int)×((List (Int×Int×Bool))×Int))×((Int×Int×List (Int)))×Int) (a1:Int×Int×(Int×List (Int)×List (List UInt8)×(List (List UInt8×Bool×List UInt8))×(List (List UInt8×List UInt8)))):Option (Int×Int×((Int×Int×Int×Int×Int×Int×Int×Int)×((Int×List (Int)×(Int×Int))×(List (Int×List (Int)×Bool×Int))×(List (Int×Int))×List (Int)×((List (Int×Int×Bool))×Int))×((Int×Int×List (Int)))×Int)):=if (decide (a1.1=0))=true then ((Q90.f k a0 a1.2.1 a1.2.2).bind fun r1=>(some (0,r1.1,r1.2))) else (if (decide (a1.1=1))=true then ((Q90.f k a0 a1.2.1 a1.2.2).bind fun r2=>(some (0,r2.1,r2.2))) else (if (decide (a1.1=2))=true then ((Q88.f k a0 a1.2.2).bind fun r3=>(some r3)) else (if (decide (a1.1=3))=true then ((Q83.f a0 a1.2.1).bind fun r4=>(some (0,r4.1,r4.2))) else (if (decide (a1.1=4))=true then ((Q89.f a0 a1.2.1).bind fun r5=>(some (0,r5.1,r5.2))) else (if (decide (a1.1=5))=true then ((Q85.f a0 a1.2.1).bind fun r6=>(some (0,r6.1,r6.2))) else (if (decide (a1.1=6))=true then ((Q82.f k a0).bind fun r7=>(some (0,r7.1,r7.2))) else (some (0,0,a0))))))))
theorem Q129.spec {k:Nat} {a0:(Int×Int×Int×Int×Int×Int×Int×Int)×((Int×List (Int)×(Int×Int))×(List (Int×List (Int)×Bool×Int))×(List (Int×Int))×List (Int)×((List (Int×Int×Bool))×Int))×((Int×Int×List (Int)))×Int} {a1:Int×Int×(Int×List (Int)×List (List UInt8)×(List (List UInt8×Bool×List UInt8))×(List (List UInt8×List UInt8)))} {A6:Option Addr} {c_6:Nat} {A7:Option Addr} {c_7:Nat} {A8:Option Addr} {c_8:Nat} {A9:Option Addr} {c_9:Nat} {b1:Nat} {b2:Nat} {b3:Nat} {b4:Nat} {b5:Nat} {b6:Nat} {b7:Nat} {A1:Option Addr} {c_1:Nat} {A2:Option Addr} {c_2:Nat} {A3:Option Addr} {c_3:Nat} {A4:Option Addr} {c_4:Nat} {A5:Option Addr} {c_5:Nat} {r:Int×Int×((Int×Int×Int×Int×Int×Int×Int×Int)×((Int×List (Int)×(Int×Int))×(List (Int×List (Int)×Bool×Int))×(List (Int×Int))×List (Int)×((List (Int×Int×Bool))×Int))×((Int×Int×List (Int)))×Int)} (H:Q129.f k a0 a1=some r) :
  Spec Tryz.prog 18 [.pointer (some ⟨b1,0,none⟩),.agg #[.int .i64 a1.1,.int .u32 a1.2.1,.int .i64 a1.2.2.1,.slice A6 a1.2.2.2.1.length c_6,.slice A7 a1.2.2.2.2.1.length c_7,.slice A8 a1.2.2.2.2.2.1.length c_8,.slice A9 a1.2.2.2.2.2.2.length c_9]] [X83 b1 a0.1.1 a0.1.2.1 a0.1.2.2.1 a0.1.2.2.2.1 a0.1.2.2.2.2.1 a0.1.2.2.2.2.2.1 a0.1.2.2.2.2.2.2.1 a0.1.2.2.2.2.2.2.2 (.pointer (some ⟨b3,0,none⟩)) (.pointer (some ⟨b2,0,none⟩)) (.pointer (some ⟨b6,0,none⟩)) a0.2.2.2,Yh b2 (.pointer (some ⟨b3,0,none⟩)) a0.2.1.2.1 A2 c_2 (.map (some b4)) a0.2.1.2.2.2.1 A3 c_3 (.pointer (some ⟨b5,0,none⟩)),Yb b3 a0.2.1.1.1 a0.2.1.1.2.1 A1 c_1 a0.2.1.1.2.2.1 a0.2.1.1.2.2.2,O5 a0.2.1.1.2.1 A1 c_1,Yg a0.2.1.2.1 A2 c_2,Yc .u32 (Value.int .i64) b4 a0.2.1.2.2.1,O3 a0.2.1.2.2.2.1 A3 c_3,Z7 b5 a0.2.1.2.2.2.2.1 A4 c_4 a0.2.1.2.2.2.2.2,Z8 a0.2.1.2.2.2.2.1 A4 c_4,Yw b6 (.pointer (some ⟨b7,0,none⟩)),Yk b7 a0.2.2.1.1 a0.2.2.1.2.1 a0.2.2.1.2.2 A5 c_5,O61 a0.2.2.1.2.2 A5 c_5] [R33 a1.2.2.2.1 A6 c_6,R9 a1.2.2.2.2.1 A7 c_7,Xw a1.2.2.2.2.2.1 A8 c_8,Xv a1.2.2.2.2.2.2 A9 c_9,tabC 0] (fun v l=>∃(A_0:Option Addr) (c_0:Nat) (A_1:Option Addr) (c_1:Nat) (A_2:Option Addr) (c_2:Nat) (A_3:Option Addr) (c_3:Nat) (A_4:Option Addr) (c_4:Nat),v=.tuple #[.int .u32 r.1,.int .i64 r.2.1]∧l=[X83 b1 r.2.2.1.1 r.2.2.1.2.1 r.2.2.1.2.2.1 r.2.2.1.2.2.2.1 r.2.2.1.2.2.2.2.1 r.2.2.1.2.2.2.2.2.1 r.2.2.1.2.2.2.2.2.2.1 r.2.2.1.2.2.2.2.2.2.2 (.pointer (some ⟨b3,0,none⟩)) (.pointer (some ⟨b2,0,none⟩)) (.pointer (some ⟨b6,0,none⟩)) r.2.2.2.2.2,Yh b2 (.pointer (some ⟨b3,0,none⟩)) r.2.2.2.1.2.1 A_1 c_1 (.map (some b4)) r.2.2.2.1.2.2.2.1 A_2 c_2 (.pointer (some ⟨b5,0,none⟩)),Yb b3 r.2.2.2.1.1.1 r.2.2.2.1.1.2.1 A_0 c_0 r.2.2.2.1.1.2.2.1 r.2.2.2.1.1.2.2.2,O5 r.2.2.2.1.1.2.1 A_0 c_0,Yg r.2.2.2.1.2.1 A_1 c_1,Yc .u32 (Value.int .i64) b4 r.2.2.2.1.2.2.1,O3 r.2.2.2.1.2.2.2.1 A_2 c_2,Z7 b5 r.2.2.2.1.2.2.2.2.1 A_3 c_3 r.2.2.2.1.2.2.2.2.2,Z8 r.2.2.2.1.2.2.2.2.1 A_3 c_3,Yw b6 (.pointer (some ⟨b7,0,none⟩)),Yk b7 r.2.2.2.2.1.1 r.2.2.2.2.1.2.1 r.2.2.2.2.1.2.2 A_4 c_4,O61 r.2.2.2.2.1.2.2 A_4 c_4]):=by
 refine Zo Tryz.func18 fun w0 F0 h0=>?_
 unfold Q129.f at H
 refine J.seq (J.region ?_)
 refine Ze (Ym h0) ?_
 rintro _ w1 ⟨b8,rfl,h1⟩
 replace h1:=nf h1
 refine Zi [0,3] rfl ?_
 refine J.seq (J.region ?_)
 refine Zh 1 ?_
 refine Zf (Zd 0 h1.wht) ?_
 refine Zi [0,3,7] rfl ?_
 refine J.block (J.seq (J.seq (Zb [0,3,7,8] ?_)))
 refine jIf H (fun c1 H=>?_) fun c1 H=>?_
 ·refine J.skip (J.cond rfl (fun e=>?_) (fun e=>by rw [c1] at e; cases e))
  refine J.seq (J.region ?_)
  refine Zh 2 ?_
  refine Zf (Zd 0 h1.wht) ?_
  refine Zh 1 ?_
  refine Zf (Zd 0 h1.wht) ?_
  obtain ⟨r1,q1,H⟩:=Zn H
  refine Ze (Zg [1,1,1,1,1,1,1,1,1,1,1,1] (Q90.spec q1) h1 rfl (Zy (Zk 1) (Zy (Zk 2) (Zy (Zk 3) (Zy (Zk 4) Zr))))) ?_
  rintro _ w2 ⟨_,⟨A10,c_10,A11,c_11,A12,c_12,A13,c_13,A14,c_14,rfl,rfl⟩,h2⟩
  replace h2:=nf h2
  refine Zi [4,5] rfl ?_
  refine J.ret ?_
  cases H
  exact ⟨_,_,_,Za,⟨_,_,_,_,_,_,_,_,_,_,rfl,rfl⟩,Zc h2 [0,0,0,0,0,0,0,0,0,0,0,0]⟩
 refine Zb [0,3,7,8] ?_
 refine jIf H (fun c2 H=>?_) fun c2 H=>?_
 ·refine J.seq (J.region ?_)
  refine Zh 2 ?_
  refine Zf (Zd 0 h1.wht) ?_
  refine Zh 1 ?_
  refine Zf (Zd 0 h1.wht) ?_
  obtain ⟨r2,q2,H⟩:=Zn H
  refine Ze (Zg [1,1,1,1,1,1,1,1,1,1,1,1] (Q90.spec q2) h1 rfl (Zy (Zk 1) (Zy (Zk 2) (Zy (Zk 3) (Zy (Zk 4) Zr))))) ?_
  rintro _ w3 ⟨_,⟨A15,c_15,A16,c_16,A17,c_17,A18,c_18,A19,c_19,rfl,rfl⟩,h3⟩
  replace h3:=nf h3
  refine Zi [4,5] rfl ?_
  refine J.ret ?_
  cases H
  exact ⟨_,_,_,Za,⟨_,_,_,_,_,_,_,_,_,_,rfl,rfl⟩,Zc h3 [0,0,0,0,0,0,0,0,0,0,0,0]⟩
 refine J.seq (Zb [0,3,7,17] ?_)
 refine jIf H (fun c3 H=>?_) fun c3 H=>?_
 ·refine J.seq (J.region ?_)
  refine Zh 2 ?_
  refine Zf (Zd 0 h1.wht) ?_
  obtain ⟨r3,q3,H⟩:=Zn H
  refine Ze (Zg [1,1,1,1,1,1,1,1,1,1,1,1] (Q88.spec q3) h1 rfl (Zy (Zk 1) (Zy (Zk 2) (Zy (Zk 3) (Zy (Zk 4) (Zy (Zk 5) Zr)))))) ?_
  rintro _ w4 ⟨_,⟨A20,c_20,A21,c_21,A22,c_22,A23,c_23,A24,c_24,rfl,rfl⟩,h4⟩
  replace h4:=nf h4
  refine Zi [4,5] rfl ?_
  refine J.ret ?_
  cases H
  exact ⟨_,_,_,Za,⟨_,_,_,_,_,_,_,_,_,_,rfl,rfl⟩,Zc h4 [0,0,0,0,0,0,0,0,0,0,0,0]⟩
 refine J.seq (Zb [0,3,7,25] ?_)
 refine jIf H (fun c4 H=>?_) fun c4 H=>?_
 ·refine J.seq (J.region ?_)
  refine Zh 2 ?_
  refine Zf (Zd 0 h1.wht) ?_
  obtain ⟨r4,q4,H⟩:=Zn H
  refine Ze (Zg [1,1,1,1,1,1,1,1,1,1,1,1] (Q83.spec q4) h1 rfl Zr) ?_
  rintro _ w5 ⟨_,⟨A25,c_25,A26,c_26,A27,c_27,A28,c_28,A29,c_29,rfl,rfl⟩,h5⟩
  replace h5:=nf h5
  refine Zi [4,5] rfl ?_
  refine J.ret ?_
  cases H
  exact ⟨_,_,_,Za,⟨_,_,_,_,_,_,_,_,_,_,rfl,rfl⟩,Zc h5 [0,0,0,0,0,0,0,0,0,0,0,0]⟩
 refine J.seq (Zb [0,3,7,31] ?_)
 refine jIf H (fun c5 H=>?_) fun c5 H=>?_
 ·refine J.seq (J.region ?_)
  refine Zh 2 ?_
  refine Zf (Zd 0 h1.wht) ?_
  obtain ⟨r5,q5,H⟩:=Zn H
  refine Ze (Zg [1,1,1,1,1,1,1,1,1,1,1,1] (Q89.spec q5) h1 rfl Zr) ?_
  rintro _ w6 ⟨_,⟨A30,c_30,A31,c_31,A32,c_32,A33,c_33,A34,c_34,rfl,rfl⟩,h6⟩
  replace h6:=nf h6
  refine Zi [4,5] rfl ?_
  refine J.ret ?_
  cases H
  exact ⟨_,_,_,Za,⟨_,_,_,_,_,_,_,_,_,_,rfl,rfl⟩,Zc h6 [0,0,0,0,0,0,0,0,0,0,0,0]⟩
 refine J.seq (Zb [0,3,7,37] ?_)
 refine jIf H (fun c6 H=>?_) fun c6 H=>?_
 ·refine J.seq (J.region ?_)
  refine Zh 2 ?_
  refine Zf (Zd 0 h1.wht) ?_
  obtain ⟨r6,q6,H⟩:=Zn H
  refine Ze (Zg [1,1,1,1,1,1,1,1,1,1,1,1] (Q85.spec q6) h1 rfl Zr) ?_
  rintro _ w7 ⟨_,⟨A35,c_35,A36,c_36,A37,c_37,A38,c_38,A39,c_39,rfl,rfl⟩,h7⟩
  replace h7:=nf h7
  refine Zi [4,5] rfl ?_
  refine J.ret ?_
  cases H
  exact ⟨_,_,_,Za,⟨_,_,_,_,_,_,_,_,_,_,rfl,rfl⟩,Zc h7 [0,0,0,0,0,0,0,0,0,0,0,0]⟩
 refine J.seq (Zb [0,43] ?_)
 refine jIf H (fun c7 H=>?_) fun c7 H=>?_
 ·refine J.seq (J.region ?_)
  refine Zh 1 ?_
  obtain ⟨r7,q7,H⟩:=Zn H
  refine Ze (Zg [1,1,1,1,1,1,1,1,1,1,1,1] (Q82.spec q7) h1 rfl Zr) ?_
  rintro _ w8 ⟨_,⟨A40,c_40,A41,c_41,A42,c_42,A43,c_43,A44,c_44,rfl,rfl⟩,h8⟩
  replace h8:=nf h8
  refine Zi [4,5] rfl ?_
  refine J.ret ?_
  cases H
  exact ⟨_,_,_,Za,⟨_,_,_,_,_,_,_,_,_,_,rfl,rfl⟩,Zc h8 [0,0,0,0,0,0,0,0,0,0,0,0]⟩
 refine J.seq (Zb [4,5] ?_)
 refine J.ret ?_
 cases H
 exact ⟨_,_,_,Za,⟨_,_,_,_,_,_,_,_,_,_,rfl,rfl⟩,Zc h1 [1,1,1,1,1,1,1,1,1,1,1,1]⟩

mutual
def Q126.l1:Nat→(Int×Int×Int×Int×Int×Int×Int×Int)→(List (Int×Int×(Int×List (Int)×List (List UInt8)×(List (List UInt8×Bool×List UInt8))×(List (List UInt8×List UInt8)))))→(Int)→(Int)→(Int)→(Int)→(Int)→(Int)→(Int)→(Int)→(Int)→(List (Int))→(Int)→(Int)→(List (Int×List (Int)×Bool×Int))→(List (Int×Int))→(List (Int))→(List (Int×Int×Bool))→(Int)→(Int)→(Int)→(List (Int))→(Int)→(Int)→(Int)→Option (Bool)
 | 0,_,_,_,_,_,_,_,_,_,_,_,_,_,_,_,_,_,_,_,_,_,_,_,_,_=>none
 | k+1,a0,a1,x3,x4,x5,x6,x7,x8,x9,x10,x11,x12,x13,x14,x15,x16,x17,x18,x19,x20,x21,x22,x23,x24,x25=>if (decide (x25<(a1.length:Int)))=true then (if (decide (x25<60))=true then (if 0≤x25∧x25<(a1.length:Int) then ((Q124.f k ((gt a1 x25).2.2)).bind fun r15=>(if r15=true then ((Q127.f k).bind fun r16=>(some r16)) else ((Q56.f (x11,x12,(x13,x14))).bind fun r17=>((Q129.f k ((x3,x4,x5,x6,x7,x8,x9,x10),((x11,x12,(x13,x14)),x15,x16,x17,(x18,x19)),(x20,x21,x22),x23) (gt a1 x25)).bind fun r18=>(if (decide (((gt a1 x25).1)=7))=true then ((Q87.f k r18.2.2 ((gt a1 x25).2.1)).bind fun r20=>(Q126.l2 k a0 a1 r17 r18 x24 x25 r20.2.2.1.1 r20.2.2.1.2.1 r20.2.2.1.2.2.1 r20.2.2.1.2.2.2.1 r20.2.2.1.2.2.2.2.1 r20.2.2.1.2.2.2.2.2.1 r20.2.2.1.2.2.2.2.2.2.1 r20.2.2.1.2.2.2.2.2.2.2 r20.2.2.2.1.1.1 r20.2.2.2.1.1.2.1 r20.2.2.2.1.1.2.2.1 r20.2.2.2.1.1.2.2.2 r20.2.2.2.1.2.1 r20.2.2.2.1.2.2.1 r20.2.2.2.1.2.2.2.1 r20.2.2.2.1.2.2.2.2.1 r20.2.2.2.1.2.2.2.2.2 r20.2.2.2.2.1.1 r20.2.2.2.2.1.2.1 r20.2.2.2.2.1.2.2 r20.2.2.2.2.2)) else (Q126.l2 k a0 a1 r17 r18 x24 x25 r18.2.2.1.1 r18.2.2.1.2.1 r18.2.2.1.2.2.1 r18.2.2.1.2.2.2.1 r18.2.2.1.2.2.2.2.1 r18.2.2.1.2.2.2.2.2.1 r18.2.2.1.2.2.2.2.2.2.1 r18.2.2.1.2.2.2.2.2.2.2 r18.2.2.2.1.1.1 r18.2.2.2.1.1.2.1 r18.2.2.2.1.1.2.2.1 r18.2.2.2.1.1.2.2.2 r18.2.2.2.1.2.1 r18.2.2.2.1.2.2.1 r18.2.2.2.1.2.2.2.1 r18.2.2.2.1.2.2.2.2.1 r18.2.2.2.1.2.2.2.2.2 r18.2.2.2.2.1.1 r18.2.2.2.2.1.2.1 r18.2.2.2.2.1.2.2 r18.2.2.2.2.2)))))) else none) else ((Q127.f k).bind fun r21=>(some r21))) else ((Q127.f k).bind fun r22=>(some r22))
def Q126.l2:Nat→(Int×Int×Int×Int×Int×Int×Int×Int)→(List (Int×Int×(Int×List (Int)×List (List UInt8)×(List (List UInt8×Bool×List UInt8))×(List (List UInt8×List UInt8)))))→((Int×Int))→(Int×Int×((Int×Int×Int×Int×Int×Int×Int×Int)×((Int×List (Int)×(Int×Int))×(List (Int×List (Int)×Bool×Int))×(List (Int×Int))×List (Int)×((List (Int×Int×Bool))×Int))×((Int×Int×List (Int)))×Int))→(Int)→(Int)→(Int)→(Int)→(Int)→(Int)→(Int)→(Int)→(Int)→(Int)→(Int)→(List (Int))→(Int)→(Int)→(List (Int×List (Int)×Bool×Int))→(List (Int×Int))→(List (Int))→(List (Int×Int×Bool))→(Int)→(Int)→(Int)→(List (Int))→(Int)→Option (Bool)
 | 0,_,_,_,_,_,_,_,_,_,_,_,_,_,_,_,_,_,_,_,_,_,_,_,_,_,_,_=>none
 | k+1,a0,a1,r17,r18,x24,x25,x26,x27,x28,x29,x30,x31,x32,x33,x34,x35,x36,x37,x38,x39,x40,x41,x42,x43,x44,x45,x46=>(Q56.f (x34,x35,(x36,x37))).bind fun r19=>(if (decide (((gt a1 x25).1)=0))=true then (Q126.l4 k a0 a1 r17 r18 r19 x24 x25 x26 x27 x28 x29 x30 x31 x32 x33 x34 x35 x36 x37 x38 x39 x40 x41 x42 x43 x44 x45 x46 (decide (((gt a1 x25).1)=0))) else (if (decide (((gt a1 x25).1)=1))=true then (Q126.l4 k a0 a1 r17 r18 r19 x24 x25 x26 x27 x28 x29 x30 x31 x32 x33 x34 x35 x36 x37 x38 x39 x40 x41 x42 x43 x44 x45 x46 (decide (((gt a1 x25).1)=1))) else (Q126.l4 k a0 a1 r17 r18 r19 x24 x25 x26 x27 x28 x29 x30 x31 x32 x33 x34 x35 x36 x37 x38 x39 x40 x41 x42 x43 x44 x45 x46 (decide (((gt a1 x25).1)=2)))))
def Q126.l3:Nat→(Int×Int×Int×Int×Int×Int×Int×Int)→(List (Int×Int×(Int×List (Int)×List (List UInt8)×(List (List UInt8×Bool×List UInt8))×(List (List UInt8×List UInt8)))))→(Int×Int×((Int×Int×Int×Int×Int×Int×Int×Int)×((Int×List (Int)×(Int×Int))×(List (Int×List (Int)×Bool×Int))×(List (Int×Int))×List (Int)×((List (Int×Int×Bool))×Int))×((Int×Int×List (Int)))×Int))→(Int)→(Int)→(Int)→(Int)→(Int)→(Int)→(Int)→(Int)→(Int)→(Int)→(Int)→(List (Int))→(Int)→(Int)→(List (Int×List (Int)×Bool×Int))→(List (Int×Int))→(List (Int))→(List (Int×Int×Bool))→(Int)→(Int)→(Int)→(List (Int))→(Int)→(Bool)→Option (Bool)
 | 0,_,_,_,_,_,_,_,_,_,_,_,_,_,_,_,_,_,_,_,_,_,_,_,_,_,_,_=>none
 | k+1,a0,a1,r18,x24,x25,x26,x27,x28,x29,x30,x31,x32,x33,x34,x35,x36,x37,x38,x39,x40,x41,x42,x43,x44,x45,x46,x47=>if (!x47)=true then (some false) else (if (decide (((gt a1 x25).1)=5))=true then (if (decide (r18.2.1=0))=true then (Q126.l1 k a0 a1 x26 x27 x28 x29 x30 x31 x32 x33 x34 x35 x36 x37 x38 x39 x40 x41 x42 x43 x44 x45 x46 ((gt a1 x25).2.1) (w64 (x25+1))) else (Q126.l1 k a0 a1 x26 x27 x28 x29 x30 x31 x32 x33 x34 x35 x36 x37 x38 x39 x40 x41 x42 x43 x44 x45 x46 x24 (w64 (x25+1)))) else (Q126.l1 k a0 a1 x26 x27 x28 x29 x30 x31 x32 x33 x34 x35 x36 x37 x38 x39 x40 x41 x42 x43 x44 x45 x46 x24 (w64 (x25+1))))
def Q126.l4:Nat→(Int×Int×Int×Int×Int×Int×Int×Int)→(List (Int×Int×(Int×List (Int)×List (List UInt8)×(List (List UInt8×Bool×List UInt8))×(List (List UInt8×List UInt8)))))→((Int×Int))→(Int×Int×((Int×Int×Int×Int×Int×Int×Int×Int)×((Int×List (Int)×(Int×Int))×(List (Int×List (Int)×Bool×Int))×(List (Int×Int))×List (Int)×((List (Int×Int×Bool))×Int))×((Int×Int×List (Int)))×Int))→((Int×Int))→(Int)→(Int)→(Int)→(Int)→(Int)→(Int)→(Int)→(Int)→(Int)→(Int)→(Int)→(List (Int))→(Int)→(Int)→(List (Int×List (Int)×Bool×Int))→(List (Int×Int))→(List (Int))→(List (Int×Int×Bool))→(Int)→(Int)→(Int)→(List (Int))→(Int)→(Bool)→Option (Bool)
 | 0,_,_,_,_,_,_,_,_,_,_,_,_,_,_,_,_,_,_,_,_,_,_,_,_,_,_,_,_,_=>none
 | k+1,a0,a1,r17,r18,r19,x24,x25,x26,x27,x28,x29,x30,x31,x32,x33,x34,x35,x36,x37,x38,x39,x40,x41,x42,x43,x44,x45,x46,x48=>if x48=true then (if (decide ((w64 ((IntKind.u64.wrap (r19.1 - r17.1))))=0))=true then (Q126.l3 k a0 a1 r18 x24 x25 x26 x27 x28 x29 x30 x31 x32 x33 x34 x35 x36 x37 x38 x39 x40 x41 x42 x43 x44 x45 x46 (decide ((w64 ((IntKind.u64.wrap (r19.2 - r17.2))))≤1))) else (Q126.l3 k a0 a1 r18 x24 x25 x26 x27 x28 x29 x30 x31 x32 x33 x34 x35 x36 x37 x38 x39 x40 x41 x42 x43 x44 x45 x46 false)) else (if (decide (((gt a1 x25).1)=5))=true then (Q126.l5 k a0 a1 r17 r18 r19 x24 x25 x26 x27 x28 x29 x30 x31 x32 x33 x34 x35 x36 x37 x38 x39 x40 x41 x42 x43 x44 x45 x46 (decide (((gt a1 x25).1)=5))) else (Q126.l5 k a0 a1 r17 r18 r19 x24 x25 x26 x27 x28 x29 x30 x31 x32 x33 x34 x35 x36 x37 x38 x39 x40 x41 x42 x43 x44 x45 x46 (decide (((gt a1 x25).1)=7))))
def Q126.l5:Nat→(Int×Int×Int×Int×Int×Int×Int×Int)→(List (Int×Int×(Int×List (Int)×List (List UInt8)×(List (List UInt8×Bool×List UInt8))×(List (List UInt8×List UInt8)))))→((Int×Int))→(Int×Int×((Int×Int×Int×Int×Int×Int×Int×Int)×((Int×List (Int)×(Int×Int))×(List (Int×List (Int)×Bool×Int))×(List (Int×Int))×List (Int)×((List (Int×Int×Bool))×Int))×((Int×Int×List (Int)))×Int))→((Int×Int))→(Int)→(Int)→(Int)→(Int)→(Int)→(Int)→(Int)→(Int)→(Int)→(Int)→(Int)→(List (Int))→(Int)→(Int)→(List (Int×List (Int)×Bool×Int))→(List (Int×Int))→(List (Int))→(List (Int×Int×Bool))→(Int)→(Int)→(Int)→(List (Int))→(Int)→(Bool)→Option (Bool)
 | 0,_,_,_,_,_,_,_,_,_,_,_,_,_,_,_,_,_,_,_,_,_,_,_,_,_,_,_,_,_=>none
 | k+1,a0,a1,r17,r18,r19,x24,x25,x26,x27,x28,x29,x30,x31,x32,x33,x34,x35,x36,x37,x38,x39,x40,x41,x42,x43,x44,x45,x46,x49=>if x49=true then (if (decide ((w64 ((IntKind.u64.wrap (r19.1 - r17.1))))≤1))=true then (if (decide ((w64 ((IntKind.u64.wrap (r19.2 - r17.2))))≤1))=true then (if (decide ((w64 ((w64 ((IntKind.u64.wrap (r19.1 - r17.1))))+(w64 ((IntKind.u64.wrap (r19.2 - r17.2))))))=0))=true then (Q126.l3 k a0 a1 r18 x24 x25 x26 x27 x28 x29 x30 x31 x32 x33 x34 x35 x36 x37 x38 x39 x40 x41 x42 x43 x44 x45 x46 true) else (Q126.l3 k a0 a1 r18 x24 x25 x26 x27 x28 x29 x30 x31 x32 x33 x34 x35 x36 x37 x38 x39 x40 x41 x42 x43 x44 x45 x46 (!decide (((gt a1 x25).2.1)=x24)))) else (Q126.l3 k a0 a1 r18 x24 x25 x26 x27 x28 x29 x30 x31 x32 x33 x34 x35 x36 x37 x38 x39 x40 x41 x42 x43 x44 x45 x46 false)) else (Q126.l3 k a0 a1 r18 x24 x25 x26 x27 x28 x29 x30 x31 x32 x33 x34 x35 x36 x37 x38 x39 x40 x41 x42 x43 x44 x45 x46 false)) else (if (decide (((gt a1 x25).1)=6))=true then (if (decide ((w64 ((IntKind.u64.wrap (r19.1 - r17.1))))=0))=true then (Q126.l3 k a0 a1 r18 x24 x25 x26 x27 x28 x29 x30 x31 x32 x33 x34 x35 x36 x37 x38 x39 x40 x41 x42 x43 x44 x45 x46 (decide ((w64 ((IntKind.u64.wrap (r19.2 - r17.2))))≤a0.2.2.1))) else (Q126.l3 k a0 a1 r18 x24 x25 x26 x27 x28 x29 x30 x31 x32 x33 x34 x35 x36 x37 x38 x39 x40 x41 x42 x43 x44 x45 x46 false)) else (Q126.l3 k a0 a1 r18 x24 x25 x26 x27 x28 x29 x30 x31 x32 x33 x34 x35 x36 x37 x38 x39 x40 x41 x42 x43 x44 x45 x46 (decide ((w64 ((w64 ((IntKind.u64.wrap (r19.1 - r17.1))))+(w64 ((IntKind.u64.wrap (r19.2 - r17.2))))))=0))))
end
def Q126.l0:Nat→(Int×Int×Int×Int×Int×Int×Int×Int)→(List (Int×Int×(Int×List (Int)×List (List UInt8)×(List (List UInt8×Bool×List UInt8))×(List (List UInt8×List UInt8)))))→(Int×List (Int)×(Int×Int))→((List (Int×Int×Bool))×Int)→(List (Int))→(Int)→Option (Bool)
 | 0,_,_,_,_,_,_=>none
 | k+1,a0,a1,r4,r10,x1,x2=>if (decide (x2<a0.2.2.1))=true then (if (x1.length+([x2]:List (Int)).length)*8≤140737488355328 then (Q126.l0 k a0 a1 r4 r10 (x1 ++ ([x2]:List (Int))) (w64 (x2+1))) else none) else ((Q53.f r4).bind fun r11=>(if (!decide (r11=a0.1))=true then (some false) else ((Q54.f r4).bind fun r12=>(if (!decide (r12=a0.2.1))=true then (some false) else ((Q73.f a0.1).bind fun r13=>(Wv r13.1 (if (!decide (r13.2=0))=true then (some false) else none) (fun r14=>(if (!decide (r13.2=0))=false then (Q126.l1 k a0 a1 a0.1 a0.2.1 a0.2.2.1 a0.2.2.2.1 a0.2.2.2.2.1 a0.2.2.2.2.2.1 a0.2.2.2.2.2.2.1 a0.2.2.2.2.2.2.2 r4.1 r4.2.1 r4.2.2.1 r4.2.2.2 (List.replicate a0.2.2.1.toNat ((0,([]:List (Int)),false,0):Int×List (Int)×Bool×Int)) ([]:List (Int×Int)) x1 r10.1 r10.2 r14.1 r14.2.1 r14.2.2 0 0 0) else none))))))))
def Q126.f (k:Nat) (a0:Int×Int×Int×Int×Int×Int×Int×Int) (a1:List (Int×Int×(Int×List (Int)×List (List UInt8)×(List (List UInt8×Bool×List UInt8))×(List (List UInt8×List UInt8))))):Option (Bool):=(Q125.f k a0).bind fun r1=>(if (!r1)=true then ((Q127.f k).bind fun r2=>(some r2)) else ((Q58.f a0.1 a0.2.1).bind fun r3=>(Wv r3.1 (if (!decide (r3.2=0))=true then ((Q81.f a0).bind fun r5=>(Wv r5.1 (if (!decide (r5.2=0))=true then (some false) else none) (fun r6=>(if (!decide (r5.2=0))=false then (some false) else none)))) else none) (fun r4=>(if (!decide (r3.2=0))=false then ((Q48.f a0).bind fun r7=>(if (!decide (r7=0))=true then (some false) else ((Q53.f r4).bind fun r8=>(if (decide (r8=0))=true then (some false) else (if (decide (a0.2.2.1<1))=true then (some false) else (if (decide (64<a0.2.2.1))=true then (some false) else ((Q34.f a0.2.2.1).bind fun r9=>(Wv r9.1 (if (!decide (r9.2=0))=true then (some false) else none) (fun r10=>(if (!decide (r9.2=0))=false then (if 0≤a0.2.2.1∧a0.2.2.1*48≤281474976710656 then (Q126.l0 k a0 a1 r4 r10 ([]:List (Int)) 0) else none) else none)))))))))) else none)))))
theorem Q126.spec {k:Nat} {a0:Int×Int×Int×Int×Int×Int×Int×Int} {a1:List (Int×Int×(Int×List (Int)×List (List UInt8)×(List (List UInt8×Bool×List UInt8))×(List (List UInt8×List UInt8))))} {A1:Option Addr} {c_1:Nat} {r:Bool} (H:Q126.f k a0 a1=some r) :
  Spec Tryz.prog 4 [.agg #[.int .i64 a0.1,.int .i64 a0.2.1,.int .i64 a0.2.2.1,.int .i64 a0.2.2.2.1,.int .i64 a0.2.2.2.2.1,.int .i64 a0.2.2.2.2.2.1,.int .i64 a0.2.2.2.2.2.2.1,.int .i64 a0.2.2.2.2.2.2.2],.slice A1 a1.length c_1] [] [R45 a1 A1 c_1,tabC 0] (fun v l=>v=.bool r∧l=[]):=by
 refine Zo Tryz.func4 fun w0 F0 h0=>?_
 unfold Q126.f at H
 refine J.seq (J.region ?_)
 refine Ze (Ym h0) ?_
 rintro _ w1 ⟨b1,rfl,h1⟩
 replace h1:=nf h1
 refine Zi [1,2] rfl ?_
 refine J.seq (J.seq (J.region ?_))
 refine Zf (Zd 0 h1.wht) ?_
 obtain ⟨r1,q1,H⟩:=Zn H
 refine Ze (Zg [] (Q125.spec q1) h1 rfl Zr) ?_
 rintro _ w2 ⟨_,⟨rfl,rfl⟩,h2⟩
 replace h2:=nf h2
 refine Zi [1,2,19] rfl ?_
 refine jIf H (fun c1 H=>?_) fun c1 H=>?_
 ·refine J.seq (J.region ?_)
  obtain ⟨r2,q2,H⟩:=Zn H
  refine Ze (Zg [] (Q127.spec q2) h2 rfl (Zy (Zk 2) Zr)) ?_
  rintro _ w3 ⟨_,⟨rfl,rfl⟩,h3⟩
  replace h3:=nf h3
  refine Zi [4] rfl ?_
  refine J.ret ?_
  cases H
  exact ⟨_,_,_,Za,⟨rfl,rfl⟩,Zc h3 []⟩
 refine J.skip (J.seq (J.region ?_))
 refine Zf (Zd 0 h2.wht) ?_
 refine Ys Tryz.func14 ?_
 refine J.seq (J.region ?_)
 refine Ze (Ym h2) ?_
 rintro _ w4 ⟨b2,rfl,h4⟩
 replace h4:=nf h4
 refine Zi [1] rfl ?_
 refine J.seq (J.region ?_)
 refine Zh 1 ?_
 refine Zf (Zd 0 h4.wht) ?_
 refine Zh 1 ?_
 refine Zf (Zd 0 h4.wht) ?_
 obtain ⟨r3,q3,H⟩:=Zn H
 refine Ze (Zg [] (Q58.spec q3) h4 rfl Zr) ?_
 rintro _ w5 ⟨_,⟨v1,l1,ho1,rfl,rfl⟩,h5⟩
 rcases ho2:r3.1 with _ | r4
 ·rw [ho2] at ho1
  obtain ⟨rfl,rfl⟩:=ho1
  replace H:=Vj ho2 H
  obtain ⟨c2,H⟩:=Zs H
  replace h5:=nf h5
  refine Zi [1,4,5] rfl ?_
  refine J.seq (J.region ?_)
  refine Zf (Zd 0 h5.wht) ?_
  refine Zh 1 ?_
  obtain ⟨r5,q4,H⟩:=Zn H
  refine Ze (Zg [] (Q81.spec q4) h5 rfl Zr) ?_
  rintro _ w6 ⟨_,⟨v2,l2,ho3,rfl,rfl⟩,h6⟩
  rcases ho4:r5.1 with _ | r6
  ·rw [ho4] at ho3
   obtain ⟨rfl,rfl⟩:=ho3
   replace H:=Vj ho4 H
   obtain ⟨c4,H⟩:=Zs H
   replace h6:=nf h6
   refine Zi [4,5,6,7] rfl ?_
   refine J.seq (J.seq (J.region ?_))
   refine Zh 3 ?_
   refine Yo 24 (congrArg Value.bool c2) ?_
   refine Zi [4,6,27] rfl ?_
   refine Zt ?_
   refine J.seq (Zb [2,3] ?_)
   refine J.ret (⟨_,Za,?_⟩)
   refine Zi [1,2,5,6] rfl ?_
   refine J.seq (J.seq (Zb [1,2,5,6,27] ?_))
   refine Zt ?_
   refine J.seq (Zb [4] ?_)
   have h7:=Zc h6 []
   replace h7:=nf h7
   refine J.ret ?_
   cases H
   exact ⟨_,_,_,Za,⟨rfl,rfl⟩,Zc h7 []⟩
  rw [ho4] at ho3
  obtain ⟨b3,b4,b5,A2,c_2,A3,c_3,b6,A4,c_4,b7,A5,c_5,b8,b9,A6,c_6,rfl,rfl⟩:=ho3
  replace H:=Ve ho4 H
  obtain ⟨c5,H⟩:=Zs H
  replace h6:=nf h6
  refine Zi [4,5,6,7] rfl ?_
  refine J.seq (J.seq (J.region ?_))
  refine Zh 3 ?_
  refine Yo 24 (congrArg Value.bool c2) ?_
  refine Zi [4,6,27] rfl ?_
  refine Zt ?_
  refine J.seq (Zb [2,3] ?_)
  refine J.ret (⟨_,Za,?_⟩)
  refine Zi [1,2,5,6] rfl ?_
  have h8:=Zc h6 [13]
  replace h8:=nf h8
  refine J.seq (J.seq (Zb [1,2,5,6,27] ?_))
  refine Zt ?_
  refine J.seq (Zb [4] ?_)
  refine J.ret ?_
  cases H
  exact ⟨_,_,_,Za,⟨rfl,rfl⟩,Zc h8 []⟩
 rw [ho2] at ho1
 obtain ⟨b10,A7,c_7,rfl,rfl⟩:=ho1
 replace H:=Ve ho2 H
 obtain ⟨c3,H⟩:=Zs H
 replace h5:=nf h5
 refine Zi [1,4,5] rfl ?_
 refine J.seq (J.region ?_)
 refine Zf (Zd 2 h5.wht) ?_
 refine Zh 1 ?_
 refine Ys Tryz.func35 ?_
 refine J.seq (J.region ?_)
 refine Ze (Ym h5) ?_
 rintro _ w7 ⟨b11,rfl,h9⟩
 replace h9:=nf h9
 refine Zi [1,2] rfl ?_
 refine J.seq (J.seq (J.region ?_))
 refine Zf (Zd 0 h9.wht) ?_
 obtain ⟨r7,q5,H⟩:=Zn H
 refine Ze (Zg [] (Q48.spec q5) h9 rfl Zr) ?_
 rintro _ w8 ⟨_,⟨rfl,rfl⟩,h10⟩
 replace h10:=nf h10
 refine Zi [1,2,6] rfl ?_
 refine J.seq (Zb [1,2,6,13] ?_)
 refine jIf H (fun c6 H=>?_) fun c6 H=>?_
 ·refine J.seq (Zb [4,5] ?_)
  refine J.ret (⟨_,Za,?_⟩)
  refine Zi [4,5,6,7] rfl ?_
  refine J.seq (J.seq (J.region ?_))
  refine Zh 3 ?_
  refine Yo 24 (congrArg Value.bool c3) ?_
  refine Zi [4,6,27] rfl ?_
  refine J.cond rfl (fun e=>?_) (fun e=>by rw [c6] at e; cases e)
  refine J.seq (Zb [2,3] ?_)
  refine J.ret (⟨_,Za,?_⟩)
  refine Zi [1,2,5,6] rfl ?_
  have h11:=Zc h10 [4]
  replace h11:=nf h11
  refine J.seq (J.seq (Zb [1,2,5,6,27] ?_))
  refine Zt ?_
  refine J.seq (Zb [4] ?_)
  refine J.ret ?_
  cases H
  exact ⟨_,_,_,Za,⟨rfl,rfl⟩,Zc h11 []⟩
 refine J.skip (J.seq (J.region ?_))
 refine Zh 2 ?_
 refine Zf (Zd 0 h10.wht) ?_
 refine Ys Tryz.func85 ?_
 refine J.seq (Zb [0,1] ?_)
 refine J.seq (J.block (J.seq (J.region ?_)))
 refine Zh 1 ?_
 obtain ⟨r8,q6,H⟩:=Zn H
 refine Ze (Zg [1,1] (Q53.spec q6) h10 rfl Zr) ?_
 rintro _ w9 ⟨_,⟨rfl,rfl⟩,h12⟩
 replace h12:=nf h12
 refine Zi [0,1,10] rfl ?_
 refine jIf H (fun c7 H=>?_) fun c7 H=>?_
 ·refine J.seq (Zb [4,5] ?_)
  refine J.ret (⟨_,Za,?_⟩)
  refine Zi [1,2,7,8] rfl ?_
  refine J.seq (J.seq (Zb [1,2,7,8,23] ?_))
  refine Zt ?_
  refine J.seq (Zb [4,5] ?_)
  refine J.ret (⟨_,Za,?_⟩)
  refine Zi [4,5,6,7] rfl ?_
  refine J.seq (J.seq (J.region ?_))
  refine Zh 3 ?_
  refine Yo 24 (congrArg Value.bool c3) ?_
  refine Zi [4,6,27] rfl ?_
  refine Zt ?_
  refine J.seq (Zb [2,3] ?_)
  refine J.ret (⟨_,Za,?_⟩)
  refine Zi [1,2,5,6] rfl ?_
  have h13:=Zc h12 [4]
  replace h13:=nf h13
  refine J.seq (J.seq (Zb [1,2,5,6,27] ?_))
  refine Zt ?_
  refine J.seq (Zb [4] ?_)
  refine J.ret ?_
  cases H
  exact ⟨_,_,_,Za,⟨rfl,rfl⟩,Zc h13 []⟩
 refine J.seq (J.region ?_)
 refine Zh 3 ?_
 refine Yj 17 H (fun c8 H=>?_) fun c8 H=>?_
 ·refine Zi [0,1,14] rfl ?_
  refine Zt ?_
  refine J.seq (Zb [4,5] ?_)
  refine J.ret (⟨_,Za,?_⟩)
  refine Zi [1,2,7,8] rfl ?_
  refine J.seq (J.seq (Zb [1,2,7,8,23] ?_))
  refine Zt ?_
  refine J.seq (Zb [4,5] ?_)
  refine J.ret (⟨_,Za,?_⟩)
  refine Zi [4,5,6,7] rfl ?_
  refine J.seq (J.seq (J.region ?_))
  refine Zh 3 ?_
  refine Yo 24 (congrArg Value.bool c3) ?_
  refine Zi [4,6,27] rfl ?_
  refine Zt ?_
  refine J.seq (Zb [2,3] ?_)
  refine J.ret (⟨_,Za,?_⟩)
  refine Zi [1,2,5,6] rfl ?_
  have h14:=Zc h12 [4]
  replace h14:=nf h14
  refine J.seq (J.seq (Zb [1,2,5,6,27] ?_))
  refine Zt ?_
  refine J.seq (Zb [4] ?_)
  refine J.ret ?_
  cases H
  exact ⟨_,_,_,Za,⟨rfl,rfl⟩,Zc h14 []⟩
 refine Zi [0,1,14] rfl ?_
 refine jIf H (fun c9 H=>?_) fun c9 H=>?_
 ·refine J.seq (Zb [4,5] ?_)
  refine J.ret (⟨_,Za,?_⟩)
  refine Zi [1,2,7,8] rfl ?_
  refine J.seq (J.seq (Zb [1,2,7,8,23] ?_))
  refine Zt ?_
  refine J.seq (Zb [4,5] ?_)
  refine J.ret (⟨_,Za,?_⟩)
  refine Zi [4,5,6,7] rfl ?_
  refine J.seq (J.seq (J.region ?_))
  refine Zh 3 ?_
  refine Yo 24 (congrArg Value.bool c3) ?_
  refine Zi [4,6,27] rfl ?_
  refine Zt ?_
  refine J.seq (Zb [2,3] ?_)
  refine J.ret (⟨_,Za,?_⟩)
  refine Zi [1,2,5,6] rfl ?_
  have h15:=Zc h12 [4]
  replace h15:=nf h15
  refine J.seq (J.seq (Zb [1,2,5,6,27] ?_))
  refine Zt ?_
  refine J.seq (Zb [4] ?_)
  refine J.ret ?_
  cases H
  exact ⟨_,_,_,Za,⟨rfl,rfl⟩,Zc h15 []⟩
 refine J.skip (J.seq (J.region ?_))
 refine Zh 1 ?_
 obtain ⟨r9,q7,H⟩:=Zn H
 refine Ze (Zg [] (Q34.spec q7) h12 rfl Zr) ?_
 rintro _ w10 ⟨_,⟨v3,l3,ho5,rfl,rfl⟩,h16⟩
 rcases ho6:r9.1 with _ | r10
 ·rw [ho6] at ho5
  obtain ⟨rfl,rfl⟩:=ho5
  replace H:=Vj ho6 H
  obtain ⟨c10,H⟩:=Zs H
  replace h16:=nf h16
  refine Zi [0,1,6,7] rfl ?_
  refine J.seq (J.seq (Zb [0,1,6,7,27] ?_))
  refine J.cond rfl (fun e=>?_) (fun e=>by rw [c10] at e; cases e)
  refine J.seq (Zb [4,5] ?_)
  refine J.ret (⟨_,Za,?_⟩)
  refine Zi [1,2,7,8] rfl ?_
  refine J.seq (J.seq (Zb [1,2,7,8,23] ?_))
  refine J.cond rfl (fun e=>?_) (fun e=>by rw [c10] at e; cases e)
  refine J.seq (Zb [4,5] ?_)
  refine J.ret (⟨_,Za,?_⟩)
  refine Zi [4,5,6,7] rfl ?_
  refine J.seq (J.seq (J.region ?_))
  refine Zh 3 ?_
  refine Yo 24 (congrArg Value.bool c3) ?_
  refine Zi [4,6,27] rfl ?_
  refine J.cond rfl (fun e=>?_) (fun e=>by rw [c10] at e; cases e)
  refine J.seq (Zb [2,3] ?_)
  refine J.ret (⟨_,Za,?_⟩)
  refine Zi [1,2,5,6] rfl ?_
  have h17:=Zc h16 [4]
  replace h17:=nf h17
  refine J.seq (J.seq (Zb [1,2,5,6,27] ?_))
  refine Zt ?_
  refine J.seq (Zb [4] ?_)
  refine J.ret ?_
  cases H
  exact ⟨_,_,_,Za,⟨rfl,rfl⟩,Zc h17 []⟩
 rw [ho6] at ho5
 obtain ⟨b12,A8,c_8,rfl,rfl⟩:=ho5
 replace H:=Ve ho6 H
 obtain ⟨c11,H⟩:=Zs H
 replace h16:=nf h16
 refine Zi [0,1,6,7] rfl ?_
 refine J.seq (J.seq (Zb [0,1,6,7,27] ?_))
 refine J.cond rfl (fun e=>by rw [c11] at e; cases e) (fun e=>?_)
 refine J.skip (J.seq (J.region ?_))
 refine Zh 2 ?_
 obtain ⟨⟨p1,p2⟩,H⟩:=Zs H
 refine Ze (Bu Y6 (ty:=(.pair (.int .u32) (.pair (.slice 5 (.int .u8)) (.pair .bool (.int .i64))))) ((0,([]:List (Int)),false,0):Int×List (Int)×Bool×Int) rfl rfl rfl rfl rfl rfl (fun _ _=>Zg3 ⟨none,0,rfl,Nat.le_refl _,.inl rfl⟩) (by decide) h16 p1 p2) ?_
 rintro _ w11 ⟨b13,rfl,h18⟩
 replace h18:=nf h18
 refine Ze (Jo .u32 (Value.int .i64) h18) ?_
 rintro _ w12 ⟨b14,rfl,h19⟩
 replace h19:=nf h19
 refine Zh 2 ?_
 refine Ze (Ym h19) ?_
 rintro _ w13 ⟨b15,rfl,h20⟩
 replace h20:=nf h20
 refine Zi [1,8] rfl ?_
 refine J.seq (J.seq (Zb [8,36,37] ?_))
 refine J.block ?_
 have h88:=h20.addNil 3 (.int .i64)
 have h89:=(sOR h88 [1,5,1,2,6,5,4,3,1,0,0] [0,1])
 refine J.loop (fun kk env w=>∃(x1:List (Int)) (A9:Option Addr) (c_9:Nat) (x2:Int),env=[(8,.pointer (some ⟨b15,0,none⟩)),(36,.int .i64 a0.2.2.1),(37,.int .i64 x2)]∧St w0 F0 [Yh b15 (.pointer (some ⟨b10,0,none⟩)) (List.replicate a0.2.2.1.toNat ((0,([]:List (Int)),false,0):Int×List (Int)×Bool×Int)) (some ⟨b13,0,none⟩) (a0.2.2.1.toNat) (.map (some b14)) x1 A9 c_9 (.pointer (some ⟨b12,0,none⟩)),Yb b10 r4.1 r4.2.1 A7 c_7 r4.2.2.1 r4.2.2.2,Yc .u32 (Value.int .i64) b14 ([]:List (Int×Int)),Z7 b12 r10.1 A8 c_8 r10.2,X23 b1 a0.1 a0.2.1 a0.2.2.1 a0.2.2.2.1 a0.2.2.2.2.1 a0.2.2.2.2.2.1 a0.2.2.2.2.2.2.1 a0.2.2.2.2.2.2.2,X23 b2 a0.1 a0.2.1 a0.2.2.1 a0.2.2.2.1 a0.2.2.2.2.1 a0.2.2.2.2.2.1 a0.2.2.2.2.2.2.1 a0.2.2.2.2.2.2.2,X23 b11 a0.1 a0.2.1 a0.2.2.1 a0.2.2.2.1 a0.2.2.2.2.1 a0.2.2.2.2.2.1 a0.2.2.2.2.2.2.1 a0.2.2.2.2.2.2.2,O5 r4.2.1 A7 c_7,Yg (List.replicate a0.2.2.1.toNat ((0,([]:List (Int)),false,0):Int×List (Int)×Bool×Int)) (some ⟨b13,0,none⟩) (a0.2.2.1.toNat),O3 x1 A9 c_9,Z8 r10.1 A8 c_8] [R45 a1 A1 c_1,tabC 0] w∧Q126.l0 kk a0 a1 r4 r10 x1 x2=some r) (k:=k) ⟨([]:List (Int)),none,0,0,rfl,h89,H⟩ ?_
 rintro k1 env w14 ⟨x1,A9,c_9,x2,rfl,h21,H⟩
 rcases k1 with _ | k1
 ·exact z0 H
 rw [Q126.l0] at H
 refine J.seq (Zb [8,36,37,38] ?_)
 refine J.seq (jIf H (fun c12 H=>?_) fun c12 H=>?_)
 ·refine J.skip (J.seq (J.block (J.seq (Zb [8,9,36,37] ?_))))
  refine J.region (Zh 4 ?_)
  refine Zf (Zd 0 h21.wht) ?_
  refine Zh 1 ?_
  refine Ze (Xg (.int .i64) ([x2]:List (Int)) h21) ?_
  rintro _ w15 ⟨b16,rfl,h22⟩
  replace h22:=nf h22
  obtain ⟨p3,H⟩:=Zs H
  refine Ze (Yx 10 h22 (gO 0) p3) ?_
  rintro _ w16 ⟨A10,c_10,rfl,h23⟩
  replace h23:=nf h23
  refine Zh 2 ?_
  refine Ze (Z3 2 h23) ?_
  intro _ w17 h24
  replace h24:=nf h24
  refine Zi [8,36,37] rfl ?_
  refine Zb [8,36,37] ?_
  have h25:=(sOR h24 [0,2,2,2,2,2,2,2,2,0,1] [0,1])
  exact ⟨k1,by omega,(x1 ++ ([x2]:List (Int))),A10,c_10,(w64 (x2+1)),rfl,h25,H⟩
 refine J.exit (J.seq (Zb [4,5] ?_))
 refine J.ret (⟨_,Za,?_⟩)
 refine Zi [1,2,7,8] rfl ?_
 refine J.seq (J.seq (Zb [1,2,7,8,23] ?_))
 refine Z4 ?_
 refine J.skip (J.seq (J.seq ?_))
 refine Zu h21 ?_
 have h26:=h21.drew
 refine Zv [0,2] ?_
 refine Zj 3 rfl (Zd 6 wI) ?_
 obtain ⟨r11,q8,H⟩:=Zn H
 refine Zp 1 rfl (Zg [1,6] (Q53.spec q8) h26 rfl Zr) ?_
 rintro _ w18 ⟨_,⟨rfl,rfl⟩,h27⟩
 replace h27:=nf h27
 refine ⟨⟨[],(Zc h27 [2,0,1,1,1,1,1,0,0,0,0])⟩,?_⟩
 refine Zv [4,5] ?_
 refine Xy 30 H (fun c13 H=>?_) fun c13 H=>?_
 ·refine Zv [6,7,8,9,10,11] ?_
  refine Z0 [1,2,7,36] ?_
  refine Zt ?_
  refine J.seq (Zb [4,5] ?_)
  refine J.ret (⟨_,Za,?_⟩)
  refine Zi [4,5,6,7] rfl ?_
  refine J.seq (J.seq (J.region ?_))
  refine Zh 3 ?_
  refine Yo 24 (congrArg Value.bool c3) ?_
  refine Zi [4,6,27] rfl ?_
  refine Zt ?_
  refine J.seq (Zb [2,3] ?_)
  refine J.ret (⟨_,Za,?_⟩)
  refine Zi [1,2,5,6] rfl ?_
  have h28:=Zc h27 [5]
  replace h28:=nf h28
  refine J.seq (J.seq (Zb [1,2,5,6,27] ?_))
  refine Zt ?_
  refine J.seq (Zb [4] ?_)
  refine J.ret ?_
  cases H
  exact ⟨_,_,_,Za,⟨rfl,rfl⟩,Zc h28 []⟩
 refine Zv [6,8] ?_
 refine Zj 9 rfl (Zd 6 wI) ?_
 obtain ⟨r12,q9,H⟩:=Zn H
 refine Zp 7 rfl (Zg [0,0] (Q54.spec q9) h27 rfl Zr) ?_
 rintro _ w19 ⟨_,⟨rfl,rfl⟩,h29⟩
 replace h29:=nf h29
 refine ⟨⟨[],(Zc h29 [2,0,1,1,1,1,1,0,0,0,0])⟩,?_⟩
 refine Zv [10,11] ?_
 refine Z0 [1,2,7,36] ?_
 refine jIf H (fun c14 H=>?_) fun c14 H=>?_
 ·refine J.seq (Zb [4,5] ?_)
  refine J.ret (⟨_,Za,?_⟩)
  refine Zi [4,5,6,7] rfl ?_
  refine J.seq (J.seq (J.region ?_))
  refine Zh 3 ?_
  refine Yo 24 (congrArg Value.bool c3) ?_
  refine Zi [4,6,27] rfl ?_
  refine Zt ?_
  refine J.seq (Zb [2,3] ?_)
  refine J.ret (⟨_,Za,?_⟩)
  refine Zi [1,2,5,6] rfl ?_
  have h30:=Zc h29 [5]
  replace h30:=nf h30
  refine J.seq (J.seq (Zb [1,2,5,6,27] ?_))
  refine Zt ?_
  refine J.seq (Zb [4] ?_)
  refine J.ret ?_
  cases H
  exact ⟨_,_,_,Za,⟨rfl,rfl⟩,Zc h30 []⟩
 refine J.skip (J.seq (J.region ?_))
 refine Zh 1 ?_
 refine Zf (Zd 7 h29.wht) ?_
 obtain ⟨r13,q10,H⟩:=Zn H
 refine Ze (Zg [] (Q73.spec q10) h29 rfl Zr) ?_
 rintro _ w20 ⟨_,⟨v4,l4,ho7,rfl,rfl⟩,h31⟩
 rcases ho8:r13.1 with _ | r14
 ·rw [ho8] at ho7
  obtain ⟨rfl,rfl⟩:=ho7
  replace H:=Vj ho8 H
  obtain ⟨c15,H⟩:=Zs H
  replace h31:=nf h31
  refine Zi [1,2,7,8,9] rfl ?_
  refine J.seq (J.seq (Zb [1,2,7,8,9,44] ?_))
  refine J.cond rfl (fun e=>?_) (fun e=>by rw [c15] at e; cases e)
  refine J.seq (Zb [4,5] ?_)
  refine J.ret (⟨_,Za,?_⟩)
  refine Zi [4,5,6,7] rfl ?_
  refine J.seq (J.seq (J.region ?_))
  refine Zh 3 ?_
  refine Yo 24 (congrArg Value.bool c3) ?_
  refine Zi [4,6,27] rfl ?_
  refine J.cond rfl (fun e=>?_) (fun e=>by rw [c15] at e; cases e)
  refine J.seq (Zb [2,3] ?_)
  refine J.ret (⟨_,Za,?_⟩)
  refine Zi [1,2,5,6] rfl ?_
  have h32:=Zc h31 [5]
  replace h32:=nf h32
  refine J.seq (J.seq (Zb [1,2,5,6,27] ?_))
  refine Zt ?_
  refine J.seq (Zb [4] ?_)
  refine J.ret ?_
  cases H
  exact ⟨_,_,_,Za,⟨rfl,rfl⟩,Zc h32 []⟩
 rw [ho8] at ho7
 obtain ⟨b17,b18,A11,c_11,rfl,rfl⟩:=ho7
 replace H:=Ve ho8 H
 obtain ⟨c16,H⟩:=Zs H
 replace h31:=nf h31
 refine Zi [1,2,7,8,9] rfl ?_
 refine J.seq (J.seq (Zb [1,2,7,8,9,44] ?_))
 refine J.cond rfl (fun e=>by rw [c16] at e; cases e) (fun e=>?_)
 refine J.skip (J.seq (J.region ?_))
 refine Zf (Zd 10 h31.wht) ?_
 refine Zh 4 ?_
 refine Ze (Ym h31) ?_
 rintro _ w21 ⟨b19,rfl,h33⟩
 replace h33:=nf h33
 refine Zi [4,5] rfl ?_
 refine J.ret (⟨_,Za,?_⟩)
 refine Zi [4,5,6,7] rfl ?_
 refine J.seq (J.seq (J.region ?_))
 refine Zh 3 ?_
 refine Yo 24 (congrArg Value.bool c3) ?_
 refine Zi [4,6,27] rfl ?_
 refine Z4 ?_
 refine J.skip (J.seq (Zb [2,3] ?_))
 refine J.ret (⟨_,Za,?_⟩)
 refine Zi [1,2,5,6] rfl ?_
 have h34:=Zc h33 [0,0,0,0,0,0,0,0,0,0,2,2,2]
 replace h34:=nf h34
 refine J.seq (J.seq (Zb [1,2,5,6,27] ?_))
 refine Z4 ?_
 refine J.skip (J.seq (Zb [1,2,5,6,7] ?_))
 refine J.seq (J.seq (Zb [1,2,5,6,7,8] ?_))
 refine J.block ?_
 have h87:=(sOR h34 [9,0,3,4,4,4,0,0,1,1,1,1,0] [0,1])
 refine J.loop (fun kk env w=>∃(x3:Int) (x4:Int) (x5:Int) (x6:Int) (x7:Int) (x8:Int) (x9:Int) (x10:Int) (x11:Int) (x12:List (Int)) (A12:Option Addr) (c_12:Nat) (x13:Int) (x14:Int) (x15:List (Int×List (Int)×Bool×Int)) (A13:Option Addr) (c_13:Nat) (x16:List (Int×Int)) (x17:List (Int)) (A14:Option Addr) (c_14:Nat) (x18:List (Int×Int×Bool)) (A15:Option Addr) (c_15:Nat) (x19:Int) (x20:Int) (x21:Int) (x22:List (Int)) (A16:Option Addr) (c_16:Nat) (x23:Int) (x24:Int) (x25:Int),env=[(1,.slice A1 a1.length c_1),(2,.pointer (some ⟨b1,0,none⟩)),(5,.pointer (some ⟨b19,0,none⟩)),(6,.pointer (some ⟨b10,0,none⟩)),(7,.int .u32 x24),(8,.int .i64 x25)]∧St w0 F0 [X23 b1 a0.1 a0.2.1 a0.2.2.1 a0.2.2.2.1 a0.2.2.2.2.1 a0.2.2.2.2.2.1 a0.2.2.2.2.2.2.1 a0.2.2.2.2.2.2.2,X83 b19 x3 x4 x5 x6 x7 x8 x9 x10 (.pointer (some ⟨b10,0,none⟩)) (.pointer (some ⟨b15,0,none⟩)) (.pointer (some ⟨b17,0,none⟩)) x23,Yb b10 x11 x12 A12 c_12 x13 x14,Yh b15 (.pointer (some ⟨b10,0,none⟩)) x15 A13 c_13 (.map (some b14)) x17 A14 c_14 (.pointer (some ⟨b12,0,none⟩)),Yc .u32 (Value.int .i64) b14 x16,Z7 b12 x18 A15 c_15 x19,Yw b17 (.pointer (some ⟨b18,0,none⟩)),Yk b18 x20 x21 x22 A16 c_16,O5 x12 A12 c_12,Yg x15 A13 c_13,O3 x17 A14 c_14,Z8 x18 A15 c_15,O61 x22 A16 c_16] [R45 a1 A1 c_1,tabC 0] w∧Q126.l1 kk a0 a1 x3 x4 x5 x6 x7 x8 x9 x10 x11 x12 x13 x14 x15 x16 x17 x18 x19 x20 x21 x22 x23 x24 x25=some r) (k:=k1) ⟨a0.1,a0.2.1,a0.2.2.1,a0.2.2.2.1,a0.2.2.2.2.1,a0.2.2.2.2.2.1,a0.2.2.2.2.2.2.1,a0.2.2.2.2.2.2.2,r4.1,r4.2.1,A7,c_7,r4.2.2.1,r4.2.2.2,(List.replicate a0.2.2.1.toNat ((0,([]:List (Int)),false,0):Int×List (Int)×Bool×Int)),(some ⟨b13,0,none⟩),a0.2.2.1.toNat,([]:List (Int×Int)),x1,A9,c_9,r10.1,A8,c_8,r10.2,r14.1,r14.2.1,r14.2.2,A11,c_11,0,0,0,rfl,h87,H⟩ ?_
 rintro k2 env w22 ⟨x3,x4,x5,x6,x7,x8,x9,x10,x11,x12,A12,c_12,x13,x14,x15,A13,c_13,x16,x17,A14,c_14,x18,A15,c_15,x19,x20,x21,x22,A16,c_16,x23,x24,x25,rfl,h35,H⟩
 rcases k2 with _ | k2
 ·exact z0 H
 rw [Q126.l1] at H
 refine J.seq (J.seq (J.region ?_))
 refine Zh 5 ?_
 refine Yj 32 H (fun c17 H=>?_) fun c17 H=>?_
 ·refine Zi [1,2,5,6,7,8,35] rfl ?_
  refine jIf H (fun c18 H=>?_) fun c18 H=>?_
  ·refine J.skip (J.seq (J.block (J.seq (J.region ?_))))
   refine Zh 2 ?_
   obtain ⟨⟨p4,p5⟩,H⟩:=Zs H
   have e1:=Z6 h35.wh (Zk 13) p4 p5
   refine Zf (Zl e1 p4 p5) ?_
   obtain ⟨cs1,h36⟩:=h35.elem 0 rfl p4 p5
   obtain ⟨cs2,cs3,rfl,h37⟩:=Wz 0 h36
   obtain ⟨cs4,cs5,rfl,h38⟩:=Wz 1 h37
   obtain rfl:=Uh (.int .i64) 2 h38
   obtain rfl:=Uh (.int .u32) 0 h38
   obtain ⟨cs6,cs7,rfl,h39⟩:=Wz 1 h38
   obtain ⟨cs8,cs9,rfl,h40⟩:=Wz 1 h39
   obtain ⟨cs10,cs11,rfl,h41⟩:=Wz 1 h40
   obtain ⟨cs12,cs13,rfl,h42⟩:=Wz 1 h41
   obtain rfl:=Uh (.int .i64) 6 h42
   obtain ⟨A17,c_17,rfl⟩:=Vh 4 h42
   obtain ⟨A18,c_18,rfl⟩:=Vh 2 h42
   obtain ⟨A19,c_19,rfl⟩:=Vh 0 h42
   obtain ⟨A20,c_20,rfl⟩:=Vh 1 h42
   refine Zf (Zdh 0 h42.wht (Zk 26)) ?_
   refine Ze (Xf h42) ?_
   rintro _ w23 ⟨b20,rfl,h43⟩
   replace h43:=nf h43
   refine Ze (Z3 0 h43) ?_
   intro _ w24 h44
   replace h44:=nf h44
   refine Zi [1,2,5,6,7,8,9] rfl ?_
   refine J.seq (J.seq (J.region ?_))
   refine Zh 1 ?_
   refine Zf (Zd 0 h44.wht) ?_
   obtain ⟨r15,q11,H⟩:=Zn H
   refine Ze (Zg [] (Q124.spec q11) h44 rfl (Zy (Zk 18) (Zy (Zk 16) (Zy (Zk 14) (Zy (Zk 15) Zr))))) ?_
   rintro _ w25 ⟨_,⟨rfl,rfl⟩,h45⟩
   replace h45:=nf h45
   refine Zi [1,2,5,6,7,8,9,44] rfl ?_
   refine jIf H (fun c19 H=>?_) fun c19 H=>?_
   ·refine J.seq (J.region ?_)
    obtain ⟨r16,q12,H⟩:=Zn H
    refine Ze (Zg [] (Q127.spec q12) h45 rfl (Zy (Zk 29) Zr)) ?_
    rintro _ w26 ⟨_,⟨rfl,rfl⟩,h46⟩
    replace h46:=nf h46
    refine Zi [4] rfl ?_
    have h47:=Zc h46 []
    replace h47:=nf h47
    refine J.ret ?_
    cases H
    exact ⟨_,_,_,Za,⟨rfl,rfl⟩,Zc h47 []⟩
   refine J.skip (J.seq (J.region ?_))
   refine Zh 1 ?_
   obtain ⟨r17,q13,H⟩:=Zn H
   refine Ze (Zg [3,8] (Q56.spec q13) h45 rfl Zr) ?_
   rintro _ w27 ⟨_,⟨rfl,rfl⟩,h48⟩
   replace h48:=nf h48
   refine Ze (Xf h48) ?_
   rintro _ w28 ⟨b21,rfl,h49⟩
   replace h49:=nf h49
   refine Ze (Z3 0 h49) ?_
   intro _ w29 h50
   replace h50:=nf h50
   refine Zi [1,2,5,6,7,8,9,10] rfl ?_
   refine J.seq (J.region ?_)
   refine Zh 1 ?_
   refine Zf (Zd 3 h50.wht) ?_
   obtain ⟨r18,q14,H⟩:=Zn H
   refine Ze (Zg [5,5,1,1,7,3,6,3,5,3,3,3] (Q129.spec q14) h50 rfl (Zy (Zk 7) (Zy (Zk 5) (Zy (Zk 3) (Zy (Zk 4) (Zy (Zk 18) Zr)))))) ?_
   rintro _ w30 ⟨_,⟨A21,c_21,A22,c_22,A23,c_23,A24,c_24,A25,c_25,rfl,rfl⟩,h51⟩
   replace h51:=nf h51
   refine Zi [1,2,5,6,7,8,9,10,12] rfl ?_
   refine J.seq (J.seq (J.region ?_))
   refine Zh 1 ?_
   refine Zf (Zd 13 h51.wht) ?_
   refine Zi [1,2,5,6,7,8,9,10,12,56] rfl ?_
   refine J.midS (fun env w=>∃(k3:Nat) (x26:Int) (x27:Int) (x28:Int) (x29:Int) (x30:Int) (x31:Int) (x32:Int) (x33:Int) (x34:Int) (x35:List (Int)) (A26:Option Addr) (c_26:Nat) (x36:Int) (x37:Int) (x38:List (Int×List (Int)×Bool×Int)) (A27:Option Addr) (c_27:Nat) (x39:List (Int×Int)) (x40:List (Int)) (A28:Option Addr) (c_28:Nat) (x41:List (Int×Int×Bool)) (A29:Option Addr) (c_29:Nat) (x42:Int) (x43:Int) (x44:Int) (x45:List (Int)) (A30:Option Addr) (c_30:Nat) (x46:Int),env=[(1,.slice A1 a1.length c_1),(2,.pointer (some ⟨b1,0,none⟩)),(5,.pointer (some ⟨b19,0,none⟩)),(6,.pointer (some ⟨b10,0,none⟩)),(7,.int .u32 x24),(8,.int .i64 x25),(9,.pointer (some ⟨b20,0,none⟩)),(10,.pointer (some ⟨b21,0,none⟩)),(12,.int .i64 r18.2.1)]∧St w0 F0 [X23 b1 a0.1 a0.2.1 a0.2.2.1 a0.2.2.2.1 a0.2.2.2.2.1 a0.2.2.2.2.2.1 a0.2.2.2.2.2.2.1 a0.2.2.2.2.2.2.2,X83 b19 x26 x27 x28 x29 x30 x31 x32 x33 (.pointer (some ⟨b10,0,none⟩)) (.pointer (some ⟨b15,0,none⟩)) (.pointer (some ⟨b17,0,none⟩)) x46,Yb b10 x34 x35 A26 c_26 x36 x37,Yh b15 (.pointer (some ⟨b10,0,none⟩)) x38 A27 c_27 (.map (some b14)) x40 A28 c_28 (.pointer (some ⟨b12,0,none⟩)),Yc .u32 (Value.int .i64) b14 x39,Z7 b12 x41 A29 c_29 x42,Yw b17 (.pointer (some ⟨b18,0,none⟩)),Yk b18 x43 x44 x45 A30 c_30,X45 b20 ((gt a1 x25).1) ((gt a1 x25).2.1) ((gt a1 x25).2.2.1) ((gt a1 x25).2.2.2.1) A17 c_17 ((gt a1 x25).2.2.2.2.1) A18 c_18 ((gt a1 x25).2.2.2.2.2.1) A19 c_19 ((gt a1 x25).2.2.2.2.2.2) A20 c_20,X63 b21 r17.1 r17.2,O5 x35 A26 c_26,Yg x38 A27 c_27,O3 x40 A28 c_28,Z8 x41 A29 c_29,O61 x45 A30 c_30] [R45 a1 A1 c_1,R33 ((gt a1 x25).2.2.2.1) A17 c_17,R9 ((gt a1 x25).2.2.2.2.1) A18 c_18,Xw ((gt a1 x25).2.2.2.2.2.1) A19 c_19,Xv ((gt a1 x25).2.2.2.2.2.2) A20 c_20,tabC 0] w∧(Q126.l2 k3 a0 a1 r17 r18 x24 x25 x26 x27 x28 x29 x30 x31 x32 x33 x34 x35 x36 x37 x38 x39 x40 x41 x42 x43 x44 x45 x46)=some r∧k3≤k2) ?_ ?_
   ·refine jIf H (fun c34 H=>?_) fun c34 H=>?_
    ·refine J.region (Zh 2 ?_)
     refine Zf (Zd 13 h51.wht) ?_
     obtain ⟨r20,q16,H⟩:=Zn H
     refine Ze (Zg [0,0,0,0,0,0,0,0,0,0,0,0] (Q87.spec q16) h51 rfl Zr) ?_
     rintro _ w42 ⟨_,⟨A31,c_31,A32,c_32,A33,c_33,A34,c_34,A35,c_35,A36,c_36,A37,c_37,A38,c_38,A39,c_39,rfl,rfl⟩,h79⟩
     replace h79:=nf h79
     refine Zi [1,2,5,6,7,8,9,10,12] rfl ?_
     have h80:=Zc h79 [4,4,4,4,4,4,4,4,4,4,4,4,4,4,4]
     replace h80:=nf h80
     have h81:=(sOR h80 [14,0,1,0,2,3,4,4,6,5,0,0,0,0,0] [14,4,2,0,1,15])
     exact ⟨k2,r20.2.2.1.1,r20.2.2.1.2.1,r20.2.2.1.2.2.1,r20.2.2.1.2.2.2.1,r20.2.2.1.2.2.2.2.1,r20.2.2.1.2.2.2.2.2.1,r20.2.2.1.2.2.2.2.2.2.1,r20.2.2.1.2.2.2.2.2.2.2,r20.2.2.2.1.1.1,r20.2.2.2.1.1.2.1,A35,c_35,r20.2.2.2.1.1.2.2.1,r20.2.2.2.1.1.2.2.2,r20.2.2.2.1.2.1,A36,c_36,r20.2.2.2.1.2.2.1,r20.2.2.2.1.2.2.2.1,A37,c_37,r20.2.2.2.1.2.2.2.2.1,A38,c_38,r20.2.2.2.1.2.2.2.2.2,r20.2.2.2.2.1.1,r20.2.2.2.2.1.2.1,r20.2.2.2.2.1.2.2,A39,c_39,r20.2.2.2.2.2,rfl,h81,H,Nat.le_refl _⟩
    refine Xz [1,2,5,6,7,8,9,10,12] ?_
    refine J.skip ?_
    have h82:=(sOR h51 [14,0,1,0,2,3,4,4,6,5,0,0,0,0,0] [14,4,2,0,1,15])
    exact ⟨k2,r18.2.2.1.1,r18.2.2.1.2.1,r18.2.2.1.2.2.1,r18.2.2.1.2.2.2.1,r18.2.2.1.2.2.2.2.1,r18.2.2.1.2.2.2.2.2.1,r18.2.2.1.2.2.2.2.2.2.1,r18.2.2.1.2.2.2.2.2.2.2,r18.2.2.2.1.1.1,r18.2.2.2.1.1.2.1,A21,c_21,r18.2.2.2.1.1.2.2.1,r18.2.2.2.1.1.2.2.2,r18.2.2.2.1.2.1,A22,c_22,r18.2.2.2.1.2.2.1,r18.2.2.2.1.2.2.2.1,A23,c_23,r18.2.2.2.1.2.2.2.2.1,A24,c_24,r18.2.2.2.1.2.2.2.2.2,r18.2.2.2.2.1.1,r18.2.2.2.2.1.2.1,r18.2.2.2.2.1.2.2,A25,c_25,r18.2.2.2.2.2,rfl,h82,H,Nat.le_refl _⟩
   rintro env w32 ⟨k3,x26,x27,x28,x29,x30,x31,x32,x33,x34,x35,A26,c_26,x36,x37,x38,A27,c_27,x39,x40,A28,c_28,x41,A29,c_29,x42,x43,x44,x45,A30,c_30,x46,rfl,h52,H,hk3⟩
   rcases k3 with _ | k3
   ·exact z0 H
   rw [Q126.l2] at H
   refine J.seq (J.region ?_)
   refine Zh 1 ?_
   obtain ⟨r19,q15,H⟩:=Zn H
   refine Ze (Zg [2,9] (Q56.spec q15) h52 rfl Zr) ?_
   rintro _ w33 ⟨_,⟨rfl,rfl⟩,h53⟩
   replace h53:=nf h53
   refine Ze (Xf h53) ?_
   rintro _ w34 ⟨b22,rfl,h54⟩
   replace h54:=nf h54
   refine Ze (Z3 0 h54) ?_
   intro _ w35 h55
   replace h55:=nf h55
   refine Zi [1,2,5,6,7,8,9,10,12,13] rfl ?_
   refine J.seq (Zu h55 ?_)
   have h56:=h55.drew
   refine Zv [0,2,6,8] ?_
   refine Zj 1 rfl (Zd 0 wI) ?_
   refine Zj 3 rfl (Zd 11 wI) ?_
   refine Zv [4,5,12] ?_
   refine Zj 7 rfl (Zd 0 wI) ?_
   refine Zj 9 rfl (Zd 11 wI) ?_
   refine Zv [10,11,13] ?_
   refine Z0 [1,2,5,6,7,8,9,12,14,15] ?_
   have h57:=Zc h56 [1,1,1,1,1,1,1,1,1,1,2,2,2,2]
   replace h57:=nf h57
   refine J.seq (Zb [1,2,5,6,7,8,9,12,14,15,16] ?_)
   refine J.seq (J.seq (J.region ?_))
   refine Zh 1 ?_
   refine Zf (Zd 9 h57.wht) ?_
   refine Zi [1,2,5,6,7,8,9,12,14,15,16,80] rfl ?_
   refine J.midS (fun env w=>∃(k4:Nat) (x47:Bool),env=[(1,.slice A1 a1.length c_1),(2,.pointer (some ⟨b1,0,none⟩)),(5,.pointer (some ⟨b19,0,none⟩)),(6,.pointer (some ⟨b10,0,none⟩)),(7,.int .u32 x24),(8,.int .i64 x25),(9,.pointer (some ⟨b20,0,none⟩)),(12,.int .i64 r18.2.1),(16,.bool x47)]∧St w0 F0 [X23 b1 a0.1 a0.2.1 a0.2.2.1 a0.2.2.2.1 a0.2.2.2.2.1 a0.2.2.2.2.2.1 a0.2.2.2.2.2.2.1 a0.2.2.2.2.2.2.2,X83 b19 x26 x27 x28 x29 x30 x31 x32 x33 (.pointer (some ⟨b10,0,none⟩)) (.pointer (some ⟨b15,0,none⟩)) (.pointer (some ⟨b17,0,none⟩)) x46,Yb b10 x34 x35 A26 c_26 x36 x37,Yh b15 (.pointer (some ⟨b10,0,none⟩)) x38 A27 c_27 (.map (some b14)) x40 A28 c_28 (.pointer (some ⟨b12,0,none⟩)),Yc .u32 (Value.int .i64) b14 x39,Z7 b12 x41 A29 c_29 x42,Yw b17 (.pointer (some ⟨b18,0,none⟩)),Yk b18 x43 x44 x45 A30 c_30,X45 b20 ((gt a1 x25).1) ((gt a1 x25).2.1) ((gt a1 x25).2.2.1) ((gt a1 x25).2.2.2.1) A17 c_17 ((gt a1 x25).2.2.2.2.1) A18 c_18 ((gt a1 x25).2.2.2.2.2.1) A19 c_19 ((gt a1 x25).2.2.2.2.2.2) A20 c_20,O5 x35 A26 c_26,Yg x38 A27 c_27,O3 x40 A28 c_28,Z8 x41 A29 c_29,O61 x45 A30 c_30] [R45 a1 A1 c_1,R33 ((gt a1 x25).2.2.2.1) A17 c_17,R9 ((gt a1 x25).2.2.2.2.1) A18 c_18,Xw ((gt a1 x25).2.2.2.2.2.1) A19 c_19,Xv ((gt a1 x25).2.2.2.2.2.2) A20 c_20,tabC 0] w∧(Q126.l3 k4 a0 a1 r18 x24 x25 x26 x27 x28 x29 x30 x31 x32 x33 x34 x35 x36 x37 x38 x39 x40 x41 x42 x43 x44 x45 x46 x47)=some r∧k4≤k3) ?_ ?_
   ·refine J.block (J.seq (J.seq (Zb [1,2,5,6,7,8,9,12,14,15,16,80,81] ?_)))
    refine J.midS (fun env w=>∃(k5:Nat) (x48:Bool),env=[(1,.slice A1 a1.length c_1),(2,.pointer (some ⟨b1,0,none⟩)),(5,.pointer (some ⟨b19,0,none⟩)),(6,.pointer (some ⟨b10,0,none⟩)),(7,.int .u32 x24),(8,.int .i64 x25),(9,.pointer (some ⟨b20,0,none⟩)),(12,.int .i64 r18.2.1),(14,.int .i64 (w64 ((IntKind.u64.wrap (r19.1 - r17.1))))),(15,.int .i64 (w64 ((IntKind.u64.wrap (r19.2 - r17.2))))),(16,.bool (decide ((w64 ((w64 ((IntKind.u64.wrap (r19.1 - r17.1))))+(w64 ((IntKind.u64.wrap (r19.2 - r17.2))))))=0))),(80,.int .i64 ((gt a1 x25).1)),(81,.bool x48)]∧St w0 F0 [X23 b1 a0.1 a0.2.1 a0.2.2.1 a0.2.2.2.1 a0.2.2.2.2.1 a0.2.2.2.2.2.1 a0.2.2.2.2.2.2.1 a0.2.2.2.2.2.2.2,X83 b19 x26 x27 x28 x29 x30 x31 x32 x33 (.pointer (some ⟨b10,0,none⟩)) (.pointer (some ⟨b15,0,none⟩)) (.pointer (some ⟨b17,0,none⟩)) x46,Yb b10 x34 x35 A26 c_26 x36 x37,Yh b15 (.pointer (some ⟨b10,0,none⟩)) x38 A27 c_27 (.map (some b14)) x40 A28 c_28 (.pointer (some ⟨b12,0,none⟩)),Yc .u32 (Value.int .i64) b14 x39,Z7 b12 x41 A29 c_29 x42,Yw b17 (.pointer (some ⟨b18,0,none⟩)),Yk b18 x43 x44 x45 A30 c_30,X45 b20 ((gt a1 x25).1) ((gt a1 x25).2.1) ((gt a1 x25).2.2.1) ((gt a1 x25).2.2.2.1) A17 c_17 ((gt a1 x25).2.2.2.2.1) A18 c_18 ((gt a1 x25).2.2.2.2.2.1) A19 c_19 ((gt a1 x25).2.2.2.2.2.2) A20 c_20,O5 x35 A26 c_26,Yg x38 A27 c_27,O3 x40 A28 c_28,Z8 x41 A29 c_29,O61 x45 A30 c_30] [R45 a1 A1 c_1,R33 ((gt a1 x25).2.2.2.1) A17 c_17,R9 ((gt a1 x25).2.2.2.2.1) A18 c_18,Xw ((gt a1 x25).2.2.2.2.2.1) A19 c_19,Xv ((gt a1 x25).2.2.2.2.2.2) A20 c_20,tabC 0] w∧(Q126.l4 k5 a0 a1 r17 r18 r19 x24 x25 x26 x27 x28 x29 x30 x31 x32 x33 x34 x35 x36 x37 x38 x39 x40 x41 x42 x43 x44 x45 x46 x48)=some r∧k5≤k3) ?_ ?_
    ·refine jIf H (fun c32 H=>?_) fun c32 H=>?_
     ·refine J.skip ?_
      have h76:=(sOR h57 [2,2,0,1,1,1,1,1,1,0,0,0,0,0] [0,1,2,3,4,5])
      exact ⟨k3,(decide (((gt a1 x25).1)=0)),rfl,h76,H,Nat.le_refl _⟩
     refine J.seq (Zb [1,2,5,6,7,8,9,12,14,15,16,80,81] ?_)
     refine jIf H (fun c33 H=>?_) fun c33 H=>?_
     ·refine J.skip ?_
      have h77:=(sOR h57 [2,2,0,1,1,1,1,1,1,0,0,0,0,0] [0,1,2,3,4,5])
      exact ⟨k3,(decide (((gt a1 x25).1)=1)),rfl,h77,H,Nat.le_refl _⟩
     refine Zb [1,2,5,6,7,8,9,12,14,15,16,80,81] ?_
     have h78:=(sOR h57 [2,2,0,1,1,1,1,1,1,0,0,0,0,0] [0,1,2,3,4,5])
     exact ⟨k3,(decide (((gt a1 x25).1)=2)),rfl,h78,H,Nat.le_refl _⟩
    rintro env w39 ⟨k5,x48,rfl,h63,H,hk5⟩
    rcases k5 with _ | k5
    ·exact z0 H
    rw [Q126.l4] at H
    refine jIf H (fun c23 H=>?_) fun c23 H=>?_
    ·refine J.region (Zh 3 ?_)
     refine Yj 87 H (fun c24 H=>?_) fun c24 H=>?_
     ·refine Zi [1,2,5,6,7,8,9,12,16] rfl ?_
      have h64:=(sOR h63 [0,0,0,0,0,0,0,0,0,0,0,0,0,0] [0,1,2,3,4,5])
      exact ⟨k5,(decide ((w64 ((IntKind.u64.wrap (r19.2 - r17.2))))≤1)),rfl,h64,H,by omega⟩
     refine Zi [1,2,5,6,7,8,9,12,16] rfl ?_
     have h65:=(sOR h63 [0,0,0,0,0,0,0,0,0,0,0,0,0,0] [0,1,2,3,4,5])
     exact ⟨k5,false,rfl,h65,H,by omega⟩
    refine J.seq (J.seq (Zb [1,2,5,6,7,8,9,12,14,15,16,80,91] ?_))
    refine J.midS (fun env w=>∃(k6:Nat) (x49:Bool),env=[(1,.slice A1 a1.length c_1),(2,.pointer (some ⟨b1,0,none⟩)),(5,.pointer (some ⟨b19,0,none⟩)),(6,.pointer (some ⟨b10,0,none⟩)),(7,.int .u32 x24),(8,.int .i64 x25),(9,.pointer (some ⟨b20,0,none⟩)),(12,.int .i64 r18.2.1),(14,.int .i64 (w64 ((IntKind.u64.wrap (r19.1 - r17.1))))),(15,.int .i64 (w64 ((IntKind.u64.wrap (r19.2 - r17.2))))),(16,.bool (decide ((w64 ((w64 ((IntKind.u64.wrap (r19.1 - r17.1))))+(w64 ((IntKind.u64.wrap (r19.2 - r17.2))))))=0))),(80,.int .i64 ((gt a1 x25).1)),(91,.bool x49)]∧St w0 F0 [X23 b1 a0.1 a0.2.1 a0.2.2.1 a0.2.2.2.1 a0.2.2.2.2.1 a0.2.2.2.2.2.1 a0.2.2.2.2.2.2.1 a0.2.2.2.2.2.2.2,X83 b19 x26 x27 x28 x29 x30 x31 x32 x33 (.pointer (some ⟨b10,0,none⟩)) (.pointer (some ⟨b15,0,none⟩)) (.pointer (some ⟨b17,0,none⟩)) x46,Yb b10 x34 x35 A26 c_26 x36 x37,Yh b15 (.pointer (some ⟨b10,0,none⟩)) x38 A27 c_27 (.map (some b14)) x40 A28 c_28 (.pointer (some ⟨b12,0,none⟩)),Yc .u32 (Value.int .i64) b14 x39,Z7 b12 x41 A29 c_29 x42,Yw b17 (.pointer (some ⟨b18,0,none⟩)),Yk b18 x43 x44 x45 A30 c_30,X45 b20 ((gt a1 x25).1) ((gt a1 x25).2.1) ((gt a1 x25).2.2.1) ((gt a1 x25).2.2.2.1) A17 c_17 ((gt a1 x25).2.2.2.2.1) A18 c_18 ((gt a1 x25).2.2.2.2.2.1) A19 c_19 ((gt a1 x25).2.2.2.2.2.2) A20 c_20,O5 x35 A26 c_26,Yg x38 A27 c_27,O3 x40 A28 c_28,Z8 x41 A29 c_29,O61 x45 A30 c_30] [R45 a1 A1 c_1,R33 ((gt a1 x25).2.2.2.1) A17 c_17,R9 ((gt a1 x25).2.2.2.2.1) A18 c_18,Xw ((gt a1 x25).2.2.2.2.2.1) A19 c_19,Xv ((gt a1 x25).2.2.2.2.2.2) A20 c_20,tabC 0] w∧(Q126.l5 k6 a0 a1 r17 r18 r19 x24 x25 x26 x27 x28 x29 x30 x31 x32 x33 x34 x35 x36 x37 x38 x39 x40 x41 x42 x43 x44 x45 x46 x49)=some r∧k6≤k5) ?_ ?_
    ·refine jIf H (fun c31 H=>?_) fun c31 H=>?_
     ·refine J.skip ?_
      have h74:=(sOR h63 [0,0,0,0,0,0,0,0,0,0,0,0,0,0] [0,1,2,3,4,5])
      exact ⟨k5,(decide (((gt a1 x25).1)=5)),rfl,h74,H,Nat.le_refl _⟩
     refine Zb [1,2,5,6,7,8,9,12,14,15,16,80,91] ?_
     have h75:=(sOR h63 [0,0,0,0,0,0,0,0,0,0,0,0,0,0] [0,1,2,3,4,5])
     exact ⟨k5,(decide (((gt a1 x25).1)=7)),rfl,h75,H,Nat.le_refl _⟩
    rintro env w41 ⟨k6,x49,rfl,h66,H,hk6⟩
    rcases k6 with _ | k6
    ·exact z0 H
    rw [Q126.l5] at H
    refine jIf H (fun c25 H=>?_) fun c25 H=>?_
    ·refine J.region (Zh 3 ?_)
     refine Yj 96 H (fun c26 H=>?_) fun c26 H=>?_
     ·refine Zh 4 ?_
      refine Yj 100 H (fun c27 H=>?_) fun c27 H=>?_
      ·refine Zh 5 ?_
       refine Yj 105 H (fun c28 H=>?_) fun c28 H=>?_
       ·refine Zi [1,2,5,6,7,8,9,12,16] rfl ?_
        have h67:=(sOR h66 [0,0,0,0,0,0,0,0,0,0,0,0,0,0] [0,1,2,3,4,5])
        exact ⟨k6,true,rfl,h67,H,by omega⟩
       refine Zh 1 ?_
       refine Zf (Zd 8 h66.wht) ?_
       refine Zi [1,2,5,6,7,8,9,12,16] rfl ?_
       have h68:=(sOR h66 [0,0,0,0,0,0,0,0,0,0,0,0,0,0] [0,1,2,3,4,5])
       exact ⟨k6,(!decide (((gt a1 x25).2.1)=x24)),rfl,h68,H,by omega⟩
      refine Zi [1,2,5,6,7,8,9,12,16] rfl ?_
      have h69:=(sOR h66 [0,0,0,0,0,0,0,0,0,0,0,0,0,0] [0,1,2,3,4,5])
      exact ⟨k6,false,rfl,h69,H,by omega⟩
     refine Zi [1,2,5,6,7,8,9,12,16] rfl ?_
     have h70:=(sOR h66 [0,0,0,0,0,0,0,0,0,0,0,0,0,0] [0,1,2,3,4,5])
     exact ⟨k6,false,rfl,h70,H,by omega⟩
    refine J.seq (Zb [1,2,5,6,7,8,9,12,14,15,16,112] ?_)
    refine jIf H (fun c29 H=>?_) fun c29 H=>?_
    ·refine J.region (Zh 3 ?_)
     refine Yj 116 H (fun c30 H=>?_) fun c30 H=>?_
     ·refine Zh 2 ?_
      refine Zf (Zd 0 h66.wht) ?_
      refine Zi [1,2,5,6,7,8,9,12,16] rfl ?_
      have h71:=(sOR h66 [0,0,0,0,0,0,0,0,0,0,0,0,0,0] [0,1,2,3,4,5])
      exact ⟨k6,(decide ((w64 ((IntKind.u64.wrap (r19.2 - r17.2))))≤a0.2.2.1)),rfl,h71,H,by omega⟩
     refine Zi [1,2,5,6,7,8,9,12,16] rfl ?_
     have h72:=(sOR h66 [0,0,0,0,0,0,0,0,0,0,0,0,0,0] [0,1,2,3,4,5])
     exact ⟨k6,false,rfl,h72,H,by omega⟩
    refine Xz [1,2,5,6,7,8,9,12,16] ?_
    refine J.skip ?_
    have h73:=(sOR h66 [0,0,0,0,0,0,0,0,0,0,0,0,0,0] [0,1,2,3,4,5])
    exact ⟨k6,(decide ((w64 ((w64 ((IntKind.u64.wrap (r19.1 - r17.1))))+(w64 ((IntKind.u64.wrap (r19.2 - r17.2))))))=0)),rfl,h73,H,by omega⟩
   rintro env w37 ⟨k4,x47,rfl,h58,H,hk4⟩
   rcases k4 with _ | k4
   ·exact z0 H
   rw [Q126.l3] at H
   refine J.seq (J.seq (Zb [1,2,5,6,7,8,9,12,123] ?_))
   refine jIf H (fun c20 H=>?_) fun c20 H=>?_
   ·refine J.seq (Zb [4] ?_)
    have h59:=Zc h58 []
    replace h59:=nf h59
    refine J.ret ?_
    cases H
    exact ⟨_,_,_,Za,⟨rfl,rfl⟩,Zc h59 []⟩
   refine J.skip (J.seq (J.region ?_))
   refine Zh 1 ?_
   refine Zf (Zd 8 h58.wht) ?_
   refine Zh 2 ?_
   refine Yj 127 H (fun c21 H=>?_) fun c21 H=>?_
   ·refine Zi [1,2,5,6,7,8,9,130] rfl ?_
    refine jIf H (fun c22 H=>?_) fun c22 H=>?_
    ·refine J.region (Zh 1 ?_)
     refine Zf (Zd 8 h58.wht) ?_
     refine Zi [1,2,5,6,7,8] rfl ?_
     refine Zb [1,2,5,6,7,8] ?_
     have h60:=(sOR h58 [0,0,0,0,0,0,0,0,1,1,1,1,1] [0,5])
     exact ⟨k4,by omega,x26,x27,x28,x29,x30,x31,x32,x33,x34,x35,A26,c_26,x36,x37,x38,A27,c_27,x39,x40,A28,c_28,x41,A29,c_29,x42,x43,x44,x45,A30,c_30,x46,((gt a1 x25).2.1),(w64 (x25+1)),rfl,h60,H⟩
    refine J.skip (Zb [1,2,5,6,7,8] ?_)
    have h61:=(sOR h58 [0,0,0,0,0,0,0,0,1,1,1,1,1] [0,5])
    exact ⟨k4,by omega,x26,x27,x28,x29,x30,x31,x32,x33,x34,x35,A26,c_26,x36,x37,x38,A27,c_27,x39,x40,A28,c_28,x41,A29,c_29,x42,x43,x44,x45,A30,c_30,x46,x24,(w64 (x25+1)),rfl,h61,H⟩
   refine Zi [1,2,5,6,7,8,9,130] rfl ?_
   refine Z4 ?_
   refine J.skip (Zb [1,2,5,6,7,8] ?_)
   have h62:=(sOR h58 [0,0,0,0,0,0,0,0,1,1,1,1,1] [0,5])
   exact ⟨k4,by omega,x26,x27,x28,x29,x30,x31,x32,x33,x34,x35,A26,c_26,x36,x37,x38,A27,c_27,x39,x40,A28,c_28,x41,A29,c_29,x42,x43,x44,x45,A30,c_30,x46,x24,(w64 (x25+1)),rfl,h62,H⟩
  refine J.exit (J.seq (J.region ?_))
  obtain ⟨r21,q17,H⟩:=Zn H
  refine Ze (Zg [] (Q127.spec q17) h35 rfl (Zy (Zk 14) Zr)) ?_
  rintro _ w43 ⟨_,⟨rfl,rfl⟩,h83⟩
  replace h83:=nf h83
  refine Zi [4] rfl ?_
  have h84:=Zc h83 []
  replace h84:=nf h84
  refine J.ret ?_
  cases H
  exact ⟨_,_,_,Za,⟨rfl,rfl⟩,Zc h84 []⟩
 refine Zi [1,2,5,6,7,8,35] rfl ?_
 refine Z4 ?_
 refine J.exit (J.seq (J.region ?_))
 obtain ⟨r22,q18,H⟩:=Zn H
 refine Ze (Zg [] (Q127.spec q18) h35 rfl (Zy (Zk 14) Zr)) ?_
 rintro _ w44 ⟨_,⟨rfl,rfl⟩,h85⟩
 replace h85:=nf h85
 refine Zi [4] rfl ?_
 have h86:=Zc h85 []
 replace h86:=nf h86
 refine J.ret ?_
 cases H
 exact ⟨_,_,_,Za,⟨rfl,rfl⟩,Zc h86 []⟩

end Go.SK.T
