/- The functions, further. -/
import Derived.Test.YtgdmpkhmedbnpaaGreatDoorXShelfPlaysF7
set_option linter.unusedVariables false
set_option linter.unusedSimpArgs false
set_option maxRecDepth 20000
set_option maxHeartbeats 40000000
namespace Go.SK.T
open Go Go.SK Go.Proofs
def Q15.l0:Nat→Tj→TV→TV→Int→Option TV
 | 0,_,_,_,_=>none
 | k+1,a0,r2,x1,x2=>if (decide (x2<(r2.length:Int)))=true then (if 0≤x2∧x2<(r2.length:Int) then (if 0≤(Zr (0:Int) a0.2.2.1 (gt r2 x2))∧(Zr (0:Int) a0.2.2.1 (gt r2 x2))<(a0.2.1.length:Int) then (if (gt a0.2.1 (Zr (0:Int) a0.2.2.1 (gt r2 x2))).2.2.1=true then (if (x1.length+([(gt r2 x2)]:List Int).length)*4≤140737488355328 then (Q15.l0 k a0 r2 (x1 ++ ([(gt r2 x2)]:List Int)) (w64 (x2+1))) else none) else (Q15.l0 k a0 r2 x1 (w64 (x2+1)))) else none) else none) else (some x1)
def Q15.f (k:Nat) (a0:Tj):Option TV:=(Q24.f a0).bind fun r1=>(if r1=true then (some ([]:List Int)) else ((Q175.f a0.2.2.1).bind fun r2=>(Q15.l0 k a0 r2 ([]:List Int) 0)))
theorem Q15.spec {k a0 b1 b2 b3 b4 A1 c_1 A2 c_2 A3 c_3 A4 c_4 r} (H:Q15.f k a0=some r) :
  Spec Tryz.prog 109 [.pointer (some ⟨b1,0,none⟩)] (Wl a0 b1 b2 b3 b4 A1 A2 A3 A4 c_1 c_2 c_3 c_4) [] (fun v l=>∃ A_0 c_0,v=.slice A_0 r.length c_0∧l=[O33 r A_0 c_0] ++ Wl a0 b1 b2 b3 b4 A1 A2 A3 A4 c_1 c_2 c_3 c_4):=by
 refine Zj Tryz.func109 fun w0 F0 h0=>?_
 replace h0:=nf h0
 unfold Q15.f at H
 refine T5 (Za [0] ?_)
 refine T5 (T5 (T3 ?_))
 refine Zd 1 ?_
 refine cS H [0,0,0,0,0,0,0,0] h0 rfl Q24.spec Zq fun r1 w1 H h1=>?_
 refine Ze [0,7] rfl ?_
 refine jIf H (fun c1 H=>?_) fun c1 H=>?_
 ·refine T5 (Za [2] ?_)
  have h2:=h1.addNil 33 (.int .u32)
  cases H
  exact T4 (jR ⟨_,_,rfl,rfl⟩ h2 [0,0,0,0,0,0,0,0,0])
 refine T6 (T5 (Za [0,3] ?_))
 refine T5 (T5 (T3 ?_))
 refine Zd 3 ?_
 refine Zc (Zb 0 h1.wht) ?_
 refine Zv (Xn [] keys.spec h1 rfl Zq) ?_
 rintro _ w2 ⟨_,⟨b5,rfl,rfl⟩,h3⟩
 replace h3:=nf h3
 refine cE H [0,4] h3 rfl Q175.spec Zq ?_
 rintro r2 w3 _ _ H ⟨A5,c_5,rfl,rfl⟩ h4
 replace h4:=nf h4
 refine Ze [0,3,13,14,15] rfl ?_
 refine TX ?_
 have h11:=h4.addNil 33 (.int .u32)
 have h12:=(sOR h11 [4,4,3,6,3,3,3,3,0,0] [])
 refine T1 (fun kk env w=>∃ x1 A6 c_6 x2,Q15.l0 kk a0 r2 x1 x2=some r∧env=[(0,.pointer (some ⟨b1,0,none⟩)),(3,.slice A6 x1.length c_6),(13,.slice A5 r2.length c_5),(14,.int .i64 (r2.length:Int)),(15,.int .i64 x2)]∧St w0 F0 [Xl b1 (.pointer (some ⟨b2,0,none⟩)) a0.2.1 A2 c_2 (.map (some b3)) a0.2.2.2.1 A3 c_3 (.pointer (some ⟨b4,0,none⟩)),Xd b2 a0.1.1 a0.1.2.1 A1 c_1 a0.1.2.2.1 a0.1.2.2.2,Y2 .u32 (Value.int .i64) b3 a0.2.2.1,Yx b4 a0.2.2.2.2.1 A4 c_4 a0.2.2.2.2.2,O5 a0.1.2.1 A1 c_1,Xk a0.2.1 A2 c_2,O3 a0.2.2.2.1 A3 c_3,Yw a0.2.2.2.2.1 A4 c_4,O33 x1 A6 c_6,O33 r2 A5 c_5] [] w) (k:=k) ⟨_,_,_,_,H,rfl,h12⟩ ?_
 rintro k1 env w4 ⟨x1,A6,c_6,x2,H,rfl,h5⟩
 rcases k1 with _ | k1
 ·exact z0 H
 rw [Q15.l0] at H
 refine T5 (Za [0,3,13,14,15,16] ?_)
 refine T5 (jIf H (fun c2 H=>?_) fun c2 H=>?_)
 ·refine T6 (T5 (TX (T5 (T3 ?_))))
  obtain ⟨⟨p1,p2⟩,H⟩:=Zm H
  have e1:=Zx h5.wh (gO 9) p1 p2
  refine Zc (Zg e1 p1 p2) ?_
  refine Zc (Zh 0 h5.wht (gO 9) p1 p2) ?_
  refine Ze [0,3,5,13,14,15] rfl ?_
  refine T5 (jH h5 fun h6=>?_)
  refine Zp [0,1,2,4,5,6,8] ?_
  refine Zf 3 rfl (Zb 0 wI) ?_
  refine Zf 7 rfl (Zb 0 wI) ?_
  refine Zf 9 rfl (J5 (0:Int) 2 wI) ?_
  obtain ⟨⟨p3,p4⟩,H⟩:=Zm H
  have e2:=Zx h6.wh (gO 5) p3 p4
  refine Zf 10 rfl (Zg e2 p3 p4) ?_
  refine Zp [11] ?_
  refine Zf 12 rfl (Ys 2 wI (gO 5) p3 p4) ?_
  refine Zu [0,3,5,13,14,15,31] ?_
  refine jIf H (fun c3 H=>?_) fun c3 H=>?_
  ·refine T3 (Zd 2 ?_)
   refine rB (Yy (.int .u32) ([(gt r2 x2)]:List Int) h6) fun b6 w5 h7=>?_
   obtain ⟨p5,H⟩:=Zm H
   refine Zv (Yn 9 h7 (gO 0) p5) ?_
   rintro _ w6 ⟨A7,c_7,rfl,h8⟩
   replace h8:=nf h8
   refine Ze [0,3,13,14,15] rfl ?_
   refine Za [0,3,13,14,15] ?_
   have h9:=(sOR h8 [2,2,2,2,2,2,2,2,0,1] [])
   exact ⟨k1,by omega,_,_,_,_,H,rfl,h9⟩
  refine T6 (Za [0,3,13,14,15] ?_)
  have h10:=(sOR h6 [0,0,0,0,0,0,0,0,0,0] [])
  exact ⟨k1,by omega,_,_,_,_,H,rfl,h10⟩
 refine T0 (T5 (Za [2] ?_))
 cases H
 exact T4 (jR ⟨_,_,rfl,rfl⟩ h5 [8,0,0,2,2,0,1,0,0])

def Q17.l0:Nat→Tj→TV→Int→TV→Int→Int→Tw→Int→Option Ti
 | 0,_,_,_,_,_,_,_,_=>none
 | k+1,a0,r2,x1,x2,x3,x4,x5,x6=>if (decide (x6<(r2.length:Int)))=true then (if 0≤x6∧x6<(r2.length:Int) then (if 0≤(Zr (0:Int) a0.2.2.1 (gt r2 x6))∧(Zr (0:Int) a0.2.2.1 (gt r2 x6))<(x5.length:Int) then (if (gt x5 (Zr (0:Int) a0.2.2.1 (gt r2 x6))).2.2.1=true then ((Q58.f (x1,x2,(x3,x4)) ((gt x5 (Zr (0:Int) a0.2.2.1 (gt r2 x6))).1) ((gt x5 (Zr (0:Int) a0.2.2.1 (gt r2 x6))).2.1)).bind fun r3=>(Q17.l0 k a0 r2 r3.2.1 r3.2.2.1 r3.2.2.2.1 r3.2.2.2.2 (x5.set (Zr (0:Int) a0.2.2.1 (gt r2 x6)).toNat ((gt x5 (Zr (0:Int) a0.2.2.1 (gt r2 x6))).1,(gt x5 (Zr (0:Int) a0.2.2.1 (gt r2 x6))).2.1,false,(gt x5 (Zr (0:Int) a0.2.2.1 (gt r2 x6))).2.2.2)) (w64 (x6+1)))) else (Q17.l0 k a0 r2 x1 x2 x3 x4 x5 (w64 (x6+1)))) else none) else none) else (some (0,((x1,x2,(x3,x4)),x5,a0.2.2.1,a0.2.2.2.1,a0.2.2.2.2)))
def Q17.f (k:Nat) (a0:Tj):Option Ti:=(Q24.f a0).bind fun r1=>(if r1=true then (some (1,a0)) else ((Q15.f k a0).bind fun r2=>(Q17.l0 k a0 r2 a0.1.1 a0.1.2.1 a0.1.2.2.1 a0.1.2.2.2 a0.2.1 0)))
theorem Q17.spec {k a0 b1 b2 b3 b4 A1 c_1 A2 c_2 A3 c_3 A4 c_4 r} (H:Q17.f k a0=some r) :
  Spec Tryz.prog 61 [.pointer (some ⟨b1,0,none⟩)] (Wl a0 b1 b2 b3 b4 A1 A2 A3 A4 c_1 c_2 c_3 c_4) [] (fun v l=>∃ A_0 c_0 A_1 c_1 A_2 c_2 A_3 c_3,v=.int .i64 r.1∧l=Wl r.2 b1 b2 b3 b4 A_0 A_1 A_2 A_3 c_0 c_1 c_2 c_3):=by
 refine Zj Tryz.func61 fun w0 F0 h0=>?_
 replace h0:=nf h0
 unfold Q17.f at H
 refine T5 (Za [0] ?_)
 refine T5 (T5 (T3 ?_))
 refine Zd 1 ?_
 refine cS H [0,0,0,0,0,0,0,0] h0 rfl Q24.spec Zq fun r1 w1 H h1=>?_
 refine Ze [0,6] rfl ?_
 refine jIf H (fun c1 H=>?_) fun c1 H=>?_
 ·refine T5 (Za [2] ?_)
  cases H
  exact T4 (jR ⟨_,_,_,_,_,_,_,_,rfl,rfl⟩ h1 [0,0,0,0,0,0,0,0])
 refine T6 (T5 (T5 (T3 ?_)))
 refine Zd 1 ?_
 refine cE H [0,0,0,0,0,0,0,0] h1 rfl Q15.spec Zq ?_
 rintro r2 w2 _ _ H ⟨A5,c_5,rfl,rfl⟩ h2
 replace h2:=nf h2
 refine Ze [0,8,9,10] rfl ?_
 refine TX ?_
 have h12:=(sOR h2 [1,1,3,4,1,1,1,1,0] [])
 refine T1 (fun kk env w=>∃ x1 x2 A6 c_6 x3 x4 x5 A7 c_7 x6,Q17.l0 kk a0 r2 x1 x2 x3 x4 x5 x6=some r∧env=[(0,.pointer (some ⟨b1,0,none⟩)),(8,.slice A5 r2.length c_5),(9,.int .i64 (r2.length:Int)),(10,.int .i64 x6)]∧St w0 F0 [Xl b1 (.pointer (some ⟨b2,0,none⟩)) x5 A7 c_7 (.map (some b3)) a0.2.2.2.1 A3 c_3 (.pointer (some ⟨b4,0,none⟩)),Xd b2 x1 x2 A6 c_6 x3 x4,Y2 .u32 (Value.int .i64) b3 a0.2.2.1,Yx b4 a0.2.2.2.2.1 A4 c_4 a0.2.2.2.2.2,O5 x2 A6 c_6,Xk x5 A7 c_7,O3 a0.2.2.2.1 A3 c_3,Yw a0.2.2.2.2.1 A4 c_4,O33 r2 A5 c_5] [] w) (k:=k) ⟨_,_,_,_,_,_,_,_,_,_,H,rfl,h12⟩ ?_
 rintro k1 env w3 ⟨x1,x2,A6,c_6,x3,x4,x5,A7,c_7,x6,H,rfl,h3⟩
 rcases k1 with _ | k1
 ·exact z0 H
 rw [Q17.l0] at H
 refine T5 (Za [0,8,9,10,11] ?_)
 refine T5 (jIf H (fun c2 H=>?_) fun c2 H=>?_)
 ·refine T6 (T5 (TX (T5 (T3 ?_))))
  obtain ⟨⟨p1,p2⟩,H⟩:=Zm H
  have e1:=Zx h3.wh (gO 8) p1 p2
  refine Zc (Zg e1 p1 p2) ?_
  refine Zc (Zh 0 h3.wht (gO 8) p1 p2) ?_
  refine Ze [0,4,8,9,10] rfl ?_
  refine Zy (Zi h3 [0,1,1,3,3,3]) ?_
  have h4:=h3.drew
  refine Zp [0,1,2,3,5,6,7,9] ?_
  refine Zf 4 rfl (Zb 0 wI) ?_
  refine Zf 8 rfl (Zb 0 wI) ?_
  refine Zf 10 rfl (J5 (0:Int) 1 wI) ?_
  obtain ⟨⟨p3,p4⟩,H⟩:=Zm H
  have e2:=Zx h4.wh (gO 5) p3 p4
  refine Zf 11 rfl (Zg e2 p3 p4) ?_
  refine Zfi 12 rfl Tryz.func110 ?_
  refine T5 (T3 ?_)
  refine Zd 3 ?_
  refine Zc (Ys 2 h4.wht (gO 5) p3 p4) ?_
  refine Ze [0,1,7] rfl ?_
  refine jIf H (fun c3 H=>?_) fun c3 H=>?_
  ·refine T5 ?_
   obtain ⟨A8,c_8,h5⟩:=h4.openI 5 rfl p3 p4
   refine Zy (Zi h5 [0,0,1,1,2,2,2]) ?_
   have h6:=h5.drew
   refine Zp [0,1,2,4,5,6,8,9,10] ?_
   refine Zf 3 rfl (Zb 1 wI) ?_
   refine Zf 7 rfl (Ys 0 wI (Vw 0 Zix) p3 p4) ?_
   refine Zf 11 rfl (J4 wI (Zl 0)) ?_
   refine cEJ 12 rfl H [2,4] h6 rfl Q58.spec (X2 (Vw 0 Zdk) Zq) ?_
   rintro r3 w4 _ _ H ⟨A9,c_9,rfl,rfl⟩ h7
   replace h7:=nf h7
   refine ⟨⟨[_,_],h7⟩,?_⟩
   refine Zu [1] ?_
   have h8:=h7.closeI 2 rfl
   refine T3 (Zd 3 ?_)
   refine rS (Wj 2 (.pair (.int .u32) (.pair (.slice 5 (.int .u8)) (.pair .bool (.int .i64)))) (Zr (0:Int) a0.2.2.1 (gt r2 x6)) ((gt x5 (Zr (0:Int) a0.2.2.1 (gt r2 x6))).1,(gt x5 (Zr (0:Int) a0.2.2.1 (gt r2 x6))).2.1,false,(gt x5 (Zr (0:Int) a0.2.2.1 (gt r2 x6))).2.2.2) 0 h8 rfl p3 p4 (Jz rfl rfl)) fun _ w5 h9=>?_
   replace h9:St w0 F0 [Xk (x5.set (Zr (0:Int) a0.2.2.1 (gt r2 x6)).toNat ((gt x5 (Zr (0:Int) a0.2.2.1 (gt r2 x6))).1,(gt x5 (Zr (0:Int) a0.2.2.1 (gt r2 x6))).2.1,false,(gt x5 (Zr (0:Int) a0.2.2.1 (gt r2 x6))).2.2.2)) A7 c_7,Xd b2 r3.2.1 r3.2.2.1 A9 c_9 r3.2.2.2.1 r3.2.2.2.2,O5 r3.2.2.1 A9 c_9,Xl b1 (.pointer (some ⟨b2,0,none⟩)) (x5.set (Zr (0:Int) a0.2.2.1 (gt r2 x6)).toNat ((gt x5 (Zr (0:Int) a0.2.2.1 (gt r2 x6))).1,(gt x5 (Zr (0:Int) a0.2.2.1 (gt r2 x6))).2.1,false,(gt x5 (Zr (0:Int) a0.2.2.1 (gt r2 x6))).2.2.2)) A7 c_7 (.map (some b3)) a0.2.2.2.1 A3 c_3 (.pointer (some ⟨b4,0,none⟩)),Y2 .u32 (Value.int .i64) b3 a0.2.2.1,Yx b4 a0.2.2.2.2.1 A4 c_4 a0.2.2.2.2.2,O3 a0.2.2.2.1 A3 c_3,Yw a0.2.2.2.2.1 A4 c_4,O33 r2 A5 c_5] _ _:=h9.retell (by simp only [List.length_set,List.length_nil,Xk,Yw,O3,O33,O5,Xd,Xl,Yx] <;> rfl)
   refine Ze [] rfl ?_
   refine ⟨_,Zk,?_⟩
   replace h9:=nf h9
   refine ⟨⟨[Xk (x5.set (Zr (0:Int) a0.2.2.1 (gt r2 x6)).toNat ((gt x5 (Zr (0:Int) a0.2.2.1 (gt r2 x6))).1,(gt x5 (Zr (0:Int) a0.2.2.1 (gt r2 x6))).2.1,false,(gt x5 (Zr (0:Int) a0.2.2.1 (gt r2 x6))).2.2.2)) A7 c_7,Xd b2 r3.2.1 r3.2.2.1 A9 c_9 r3.2.2.2.1 r3.2.2.2.2,O5 r3.2.2.1 A9 c_9],(h9.retell (by simp only [List.length_set,List.cons_append,List.nil_append,List.length_nil,Xk,Yw,O3,O33,O5,Xd,Xl,Yx] <;> rfl))⟩,?_⟩
   refine Zu [0,8,9,10] ?_
   refine Za [0,8,9,10] ?_
   have h10:=(sOR h9 [3,1,2,2,1,0,0,0,0] [])
   exact ⟨k1,by omega,_,_,_,_,_,_,_,_,_,_,H,rfl,h10⟩
  refine T6 (⟨_,Zk,?_⟩)
  replace h4:=nf h4
  refine ⟨⟨[_,_,_],(Zi h4 [1,3,3,0,0,0,0,0,0])⟩,?_⟩
  refine Zu [0,8,9,10] ?_
  refine Za [0,8,9,10] ?_
  have h11:=(sOR h4 [0,0,0,0,0,0,0,0,0] [])
  exact ⟨k1,by omega,_,_,_,_,_,_,_,_,_,_,H,rfl,h11⟩
 refine T0 (T5 (Za [2] ?_))
 cases H
 exact T4 (jR ⟨_,_,_,_,_,_,_,_,rfl,rfl⟩ h3 [0,0,2,2,0,1,0,0])

def Q85.f (k:Nat) (a0:Td):Option Tc:=(Q97.f a0).bind fun r1=>(if (!decide (r1=0))=true then (some (r1,a0)) else ((Q17.f k a0.2.1).bind fun r2=>(some (r2.1,(a0.1,r2.2,a0.2.2.1,a0.2.2.2)))))
theorem Q85.spec {k a0 b1 b2 b3 b4 b5 b6 b7 A1 c_1 A2 c_2 A3 c_3 A4 c_4 A5 c_5 r} (H:Q85.f k a0=some r) :
  Spec Tryz.prog 19 [.pointer (some ⟨b1,0,none⟩)] (Xo a0 b1 b2 b3 b4 b5 b6 b7 A1 A2 A3 A4 A5 c_1 c_2 c_3 c_4 c_5) [] (fun v l=>∃ A_0 c_0 A_1 c_1 A_2 c_2 A_3 c_3 A_4 c_4,v=.int .i64 r.1∧l=Xo r.2 b1 b2 b3 b4 b5 b6 b7 A_0 A_1 A_2 A_3 A_4 c_0 c_1 c_2 c_3 c_4):=by
 refine Zj Tryz.func19 fun w0 F0 h0=>?_
 replace h0:=nf h0
 unfold Q85.f at H
 refine T5 (Za [0] ?_)
 refine T5 (T5 (T3 ?_))
 refine Zd 1 ?_
 refine cS H [0,0,0,0,0,0,0,0,0,0,0,0] h0 rfl Q97.spec Zq fun r1 w1 H h1=>?_
 refine Ze [0,3] rfl ?_
 refine T5 (Za [0,3,7] ?_)
 refine jIf H (fun c1 H=>?_) fun c1 H=>?_
 ·refine T5 (Za [2] ?_)
  cases H
  exact T4 (jR ⟨_,_,_,_,_,_,_,_,_,_,rfl,rfl⟩ h1 [0,0,0,0,0,0,0,0,0,0,0,0])
 refine T6 (T5 (T3 ?_))
 refine Zd 3 ?_
 refine Zc (Zb 0 h1.wht) ?_
 refine cE H [1,1,1,1,1,1,1,1] h1 rfl Q17.spec Zq ?_
 rintro r2 w2 _ _ H ⟨A6,c_6,A7,c_7,A8,c_8,A9,c_9,rfl,rfl⟩ h2
 replace h2:=nf h2
 refine Ze [2] rfl ?_
 cases H
 exact T4 (jR ⟨_,_,_,_,_,_,_,_,_,_,rfl,rfl⟩ h2 [8,0,0,0,0,0,0,0,0,0,0,0])

def Q134.f (k:Nat) (a0:Td) (a1:Tn):Option Tb:=if (decide (a1.1=0))=true then ((Q94.f k a0 a1.2.1 a1.2.2).bind fun r1=>(some (0,r1.1,r1.2))) else (if (decide (a1.1=1))=true then ((Q94.f k a0 a1.2.1 a1.2.2).bind fun r2=>(some (0,r2.1,r2.2))) else (if (decide (a1.1=2))=true then ((Q92.f k a0 a1.2.2).bind fun r3=>(some r3)) else (if (decide (a1.1=3))=true then ((Q86.f a0 a1.2.1).bind fun r4=>(some (0,r4.1,r4.2))) else (if (decide (a1.1=4))=true then ((Q93.f a0 a1.2.1).bind fun r5=>(some (0,r5.1,r5.2))) else (if (decide (a1.1=5))=true then ((Q89.f a0 a1.2.1).bind fun r6=>(some (0,r6.1,r6.2))) else (if (decide (a1.1=6))=true then ((Q85.f k a0).bind fun r7=>(some (0,r7.1,r7.2))) else (some (0,0,a0))))))))
theorem Q134.spec {k a0 a1 A6 c_6 A7 c_7 A8 c_8 A9 c_9 b1 b2 b3 b4 b5 b6 b7 A1 c_1 A2 c_2 A3 c_3 A4 c_4 A5 c_5 r} (H:Q134.f k a0 a1=some r) :
  Spec Tryz.prog 18 [.pointer (some ⟨b1,0,none⟩),.agg #[.int .i64 a1.1,.int .u32 a1.2.1,.int .i64 a1.2.2.1,.slice A6 a1.2.2.2.1.length c_6,.slice A7 a1.2.2.2.2.1.length c_7,.slice A8 a1.2.2.2.2.2.1.length c_8,.slice A9 a1.2.2.2.2.2.2.length c_9]] (Xo a0 b1 b2 b3 b4 b5 b6 b7 A1 A2 A3 A4 A5 c_1 c_2 c_3 c_4 c_5) [R33 a1.2.2.2.1 A6 c_6,R9 a1.2.2.2.2.1 A7 c_7,Y4 a1.2.2.2.2.2.1 A8 c_8,Y5 a1.2.2.2.2.2.2 A9 c_9,tabC 0] (fun v l=>∃ A_0 c_0 A_1 c_1 A_2 c_2 A_3 c_3 A_4 c_4,v=.tuple #[.int .u32 r.1,.int .i64 r.2.1]∧l=Xo r.2.2 b1 b2 b3 b4 b5 b6 b7 A_0 A_1 A_2 A_3 A_4 c_0 c_1 c_2 c_3 c_4):=by
 refine Zj Tryz.func18 fun w0 F0 h0=>?_
 replace h0:=nf h0
 unfold Q134.f at H
 refine T5 (T3 ?_)
 refine rB (Z6 h0) fun b8 w1 h1=>?_
 refine Ze [0,3] rfl ?_
 refine T5 (T3 ?_)
 refine Zd 1 ?_
 refine Zc (Zb 0 h1.wht) ?_
 refine Ze [0,3,7] rfl ?_
 refine TX (T5 (T5 (Za [0,3,7,8] ?_)))
 refine jIf H (fun c1 H=>?_) fun c1 H=>?_
 ·refine T6 (TY rfl (fun e=>?_) (fun e=>by rw [c1] at e; cases e))
  refine T5 (T3 ?_)
  refine Zd 2 ?_
  refine Zc (Zb 0 h1.wht) ?_
  refine Zd 1 ?_
  refine Zc (Zb 0 h1.wht) ?_
  refine cE H [1,1,1,1,1,1,1,1,1,1,1,1] h1 rfl Q94.spec (gS [1,2,3,4]) ?_
  rintro r1 w2 _ _ H ⟨A10,c_10,A11,c_11,A12,c_12,A13,c_13,A14,c_14,rfl,rfl⟩ h2
  replace h2:=nf h2
  refine Ze [4,5] rfl ?_
  cases H
  exact T4 (jR ⟨_,_,_,_,_,_,_,_,_,_,rfl,rfl⟩ h2 [0,0,0,0,0,0,0,0,0,0,0,0])
 refine Za [0,3,7,8] ?_
 refine jIf H (fun c2 H=>?_) fun c2 H=>?_
 ·refine T5 (T3 ?_)
  refine Zd 2 ?_
  refine Zc (Zb 0 h1.wht) ?_
  refine Zd 1 ?_
  refine Zc (Zb 0 h1.wht) ?_
  refine cE H [1,1,1,1,1,1,1,1,1,1,1,1] h1 rfl Q94.spec (gS [1,2,3,4]) ?_
  rintro r2 w3 _ _ H ⟨A15,c_15,A16,c_16,A17,c_17,A18,c_18,A19,c_19,rfl,rfl⟩ h3
  replace h3:=nf h3
  refine Ze [4,5] rfl ?_
  cases H
  exact T4 (jR ⟨_,_,_,_,_,_,_,_,_,_,rfl,rfl⟩ h3 [0,0,0,0,0,0,0,0,0,0,0,0])
 refine T5 (Za [0,3,7,17] ?_)
 refine jIf H (fun c3 H=>?_) fun c3 H=>?_
 ·refine T5 (T3 ?_)
  refine Zd 2 ?_
  refine Zc (Zb 0 h1.wht) ?_
  refine cE H [1,1,1,1,1,1,1,1,1,1,1,1] h1 rfl Q92.spec (gS [1,2,3,4,5]) ?_
  rintro r3 w4 _ _ H ⟨A20,c_20,A21,c_21,A22,c_22,A23,c_23,A24,c_24,rfl,rfl⟩ h4
  replace h4:=nf h4
  refine Ze [4,5] rfl ?_
  cases H
  exact T4 (jR ⟨_,_,_,_,_,_,_,_,_,_,rfl,rfl⟩ h4 [0,0,0,0,0,0,0,0,0,0,0,0])
 refine T5 (Za [0,3,7,25] ?_)
 refine jIf H (fun c4 H=>?_) fun c4 H=>?_
 ·refine T5 (T3 ?_)
  refine Zd 2 ?_
  refine Zc (Zb 0 h1.wht) ?_
  refine cE H [1,1,1,1,1,1,1,1,1,1,1,1] h1 rfl Q86.spec Zq ?_
  rintro r4 w5 _ _ H ⟨A25,c_25,A26,c_26,A27,c_27,A28,c_28,A29,c_29,rfl,rfl⟩ h5
  replace h5:=nf h5
  refine Ze [4,5] rfl ?_
  cases H
  exact T4 (jR ⟨_,_,_,_,_,_,_,_,_,_,rfl,rfl⟩ h5 [0,0,0,0,0,0,0,0,0,0,0,0])
 refine T5 (Za [0,3,7,31] ?_)
 refine jIf H (fun c5 H=>?_) fun c5 H=>?_
 ·refine T5 (T3 ?_)
  refine Zd 2 ?_
  refine Zc (Zb 0 h1.wht) ?_
  refine cE H [1,1,1,1,1,1,1,1,1,1,1,1] h1 rfl Q93.spec Zq ?_
  rintro r5 w6 _ _ H ⟨A30,c_30,A31,c_31,A32,c_32,A33,c_33,A34,c_34,rfl,rfl⟩ h6
  replace h6:=nf h6
  refine Ze [4,5] rfl ?_
  cases H
  exact T4 (jR ⟨_,_,_,_,_,_,_,_,_,_,rfl,rfl⟩ h6 [0,0,0,0,0,0,0,0,0,0,0,0])
 refine T5 (Za [0,3,7,37] ?_)
 refine jIf H (fun c6 H=>?_) fun c6 H=>?_
 ·refine T5 (T3 ?_)
  refine Zd 2 ?_
  refine Zc (Zb 0 h1.wht) ?_
  refine cE H [1,1,1,1,1,1,1,1,1,1,1,1] h1 rfl Q89.spec Zq ?_
  rintro r6 w7 _ _ H ⟨A35,c_35,A36,c_36,A37,c_37,A38,c_38,A39,c_39,rfl,rfl⟩ h7
  replace h7:=nf h7
  refine Ze [4,5] rfl ?_
  cases H
  exact T4 (jR ⟨_,_,_,_,_,_,_,_,_,_,rfl,rfl⟩ h7 [0,0,0,0,0,0,0,0,0,0,0,0])
 refine T5 (Za [0,43] ?_)
 refine jIf H (fun c7 H=>?_) fun c7 H=>?_
 ·refine T5 (T3 ?_)
  refine Zd 1 ?_
  refine cE H [1,1,1,1,1,1,1,1,1,1,1,1] h1 rfl Q85.spec Zq ?_
  rintro r7 w8 _ _ H ⟨A40,c_40,A41,c_41,A42,c_42,A43,c_43,A44,c_44,rfl,rfl⟩ h8
  replace h8:=nf h8
  refine Ze [4,5] rfl ?_
  cases H
  exact T4 (jR ⟨_,_,_,_,_,_,_,_,_,_,rfl,rfl⟩ h8 [0,0,0,0,0,0,0,0,0,0,0,0])
 refine T5 (Za [4,5] ?_)
 cases H
 exact T4 (jR ⟨_,_,_,_,_,_,_,_,_,_,rfl,rfl⟩ h1 [1,1,1,1,1,1,1,1,1,1,1,1])

def Q168.f (a0:Th) (a1:Int):Option (Tq×Int×Bool):=(Q173.f a0 a1).bind fun r1=>(if (!r1)=true then (some ((0,([]:List Int),([]:List TQ),([]:List TA),([]:List TD)),4,true)) else (if 0≤a1∧a1<(a0.2.1.length:Int) then (if (decide (((gt a0.2.1 a1).1)=0))=true then (some ((0,([]:List Int),([]:List TQ),([]:List TA),([]:List TD)),12,true)) else (some ((gt a0.2.1 a1).2,0,(decide (((gt a0.2.1 a1).1)=1))))) else none))
theorem Q168.spec {a0 a1 A1 c_1 A2 c_2 r} (H:Q168.f a0 a1=some r) :
  SpecA Tryz.prog 25 [.agg #[.int .i64 a0.1.1,.int .i64 a0.1.2.1,.int .i64 a0.1.2.2.1,.int .i64 a0.1.2.2.2.1,.int .i64 a0.1.2.2.2.2.1,.int .i64 a0.1.2.2.2.2.2.1,.int .i64 a0.1.2.2.2.2.2.2.1,.int .i64 a0.1.2.2.2.2.2.2.2,.slice A1 a0.2.1.length c_1,.slice A2 a0.2.2.1.length c_2,.int .u32 a0.2.2.2],.int .u32 a1] [] [R53 a0.2.1 A1 c_1,R4 a0.2.2.1 A2 c_2] (fun v l lr=>∃ A_0 c_0 A_1 c_1 A_2 c_2 A_3 c_3,v=.tuple #[.agg #[.int .i64 r.1.1,.slice A_0 r.1.2.1.length c_0,.slice A_1 r.1.2.2.1.length c_1,.slice A_2 r.1.2.2.2.1.length c_2,.slice A_3 r.1.2.2.2.2.length c_3],.int .i64 r.2.1,.bool r.2.2]∧l=[]∧lr=[R33 r.1.2.1 A_0 c_0,R9 r.1.2.2.1 A_1 c_1,Y4 r.1.2.2.2.1 A_2 c_2,Y5 r.1.2.2.2.2 A_3 c_3]):=by
 refine Yc Tryz.func25 fun w0 F0 h0=>?_
 unfold Q168.f at H
 refine T5 (T3 ?_)
 refine rB (Z6 h0) fun b1 w1 h1=>?_
 refine rB (Yl h1) fun b2 w2 h2=>?_
 refine Ze [1,2,4] rfl ?_
 refine T5 (T5 (T3 ?_))
 refine Zc (Zb 1 h2.wht) ?_
 refine Zd 1 ?_
 refine cS H [] h2 rfl Q173.spec (gS [2,3]) fun r1 w3 H h3=>?_
 refine Ze [1,2,4,10] rfl ?_
 refine jIf H (fun c1 H=>?_) fun c1 H=>?_
 ·refine T5 (T3 ?_)
  refine Zd 1 ?_
  refine rS (Zt 0 h3) fun _ w4 h4=>?_
  refine Ze [4,5,6] rfl ?_
  have h5:=h4.addNil 33 (.int .u32)
  have h6:=h5.freeze (k:=0) rfl Yp
  have h7:=h6.addNil 9 .str
  have h8:=h7.freeze (k:=0) rfl Yp
  have h9:=h8.addNil 115 (.pair .str (.pair .bool .str))
  have h10:=h9.freeze (k:=0) rfl Yp
  have h11:=h10.addNil 106 (.pair .str .str)
  have h12:=h11.freeze (k:=0) rfl Yp
  cases H
  exact T4 (Xw (Z0 (Sb Yi 0 h12 rfl rfl rfl rfl) (Z0 (Sc rfl) (Z0 (Sc rfl) Yo))) ⟨_,_,_,_,_,_,_,_,rfl,rfl,rfl⟩ (sOR h12 [] [3,2,1,0]))
 refine T6 (T5 (T5 (T3 ?_)))
 refine Zd 1 ?_
 refine Zc (Zb 1 h3.wht) ?_
 refine Zd 1 ?_
 obtain ⟨⟨p1,p2⟩,H⟩:=Zm H
 have e1:=Zx h3.wh (Zl 2) p1 p2
 refine Zc (Zg e1 p1 p2) ?_
 refine Zd 1 ?_
 obtain ⟨cs1,h13⟩:=h3.elem 0 rfl p1 p2
 obtain ⟨cs2,cs3,rfl,h14⟩:=Y1 0 h13
 obtain rfl:=X0 (.int .i64) 0 h14
 obtain ⟨cs4,cs5,rfl,h15⟩:=Y1 1 h14
 obtain ⟨cs6,cs7,rfl,h16⟩:=Y1 1 h15
 obtain ⟨cs8,cs9,rfl,h17⟩:=Y1 1 h16
 obtain ⟨cs10,cs11,rfl,h18⟩:=Y1 1 h17
 obtain rfl:=X0 (.int .i64) 6 h18
 obtain ⟨A3,c_3,rfl⟩:=Y3 4 h18
 obtain ⟨A4,c_4,rfl⟩:=Y3 2 h18
 obtain ⟨A5,c_5,rfl⟩:=Y3 0 h18
 obtain ⟨A6,c_6,rfl⟩:=Y3 1 h18
 refine Zc (W4 0 h18.wht (Zl 13)) ?_
 refine Ze [1,2,4,18] rfl ?_
 refine jIf H (fun c2 H=>?_) fun c2 H=>?_
 ·refine T5 (T3 ?_)
  refine Zd 1 ?_
  refine rS (Zt 0 h18) fun _ w5 h19=>?_
  refine Ze [4,5,6] rfl ?_
  have h20:=h19.addNil 33 (.int .u32)
  have h21:=h20.freeze (k:=0) rfl Yp
  have h22:=h21.addNil 9 .str
  have h23:=h22.freeze (k:=0) rfl Yp
  have h24:=h23.addNil 115 (.pair .str (.pair .bool .str))
  have h25:=h24.freeze (k:=0) rfl Yp
  have h26:=h25.addNil 106 (.pair .str .str)
  have h27:=h26.freeze (k:=0) rfl Yp
  cases H
  exact T4 (Xw (Z0 (Sb Yi 0 h27 rfl rfl rfl rfl) (Z0 (Sc rfl) (Z0 (Sc rfl) Yo))) ⟨_,_,_,_,_,_,_,_,rfl,rfl,rfl⟩ (sOR h27 [] [3,2,1,0]))
 refine T6 (T5 (Zy (Zi h18 [1]) ?_))
 have h28:=h18.drew
 refine Zp [0,2,6,8] ?_
 refine Zf 1 rfl (Zb 0 wI) ?_
 refine Zf 3 rfl (Zg e1 p1 p2) ?_
 refine Zp [4] ?_
 refine Zf 5 rfl (W4 1 wI (Zl 12)) ?_
 refine Zf 7 rfl (Zb 0 wI) ?_
 refine Zf 9 rfl (Zg e1 p1 p2) ?_
 refine Zp [10] ?_
 refine Zf 11 rfl (W4 0 wI (Zl 12)) ?_
 refine Zp [12] ?_
 refine hS 13 rfl (Zt 0 h28) 1 fun _ w6 h29=>?_
 refine Zp [14,15] ?_
 refine Zu [4,5,6] ?_
 cases H
 exact T4 (Xw (Z0 (Sb Yi 0 h29 rfl rfl rfl rfl) (Z0 (Sc rfl) (Z0 (Sc rfl) Yo))) ⟨_,_,_,_,_,_,_,_,rfl,rfl,rfl⟩ (sOR h29 [] [4,2,0,1]))

def Q158.l0:Nat→TV→TV→Int→Option (Bool)
 | 0,_,_,_=>none
 | k+1,a0,a1,x1=>if (decide (x1<(a0.length:Int)))=true then (if 0≤x1∧x1<(a0.length:Int) then (if 0≤x1∧x1<(a1.length:Int) then (if (!decide ((gt a0 x1)=(gt a1 x1)))=true then (some false) else (Q158.l0 k a0 a1 (w64 (x1+1)))) else none) else none) else (some true)
def Q158.f (k:Nat) (a0:TV) (a1:TV):Option (Bool):=if (!decide ((a0.length:Int)=(a1.length:Int)))=true then (some false) else (Q158.l0 k a0 a1 0)
theorem Q158.spec {k a0 a1 A1 c_1 A2 c_2 r} (H:Q158.f k a0 a1=some r) :
  Spec Tryz.prog 73 [.slice A1 a0.length c_1,.slice A2 a1.length c_2] [] [R33 a0 A1 c_1,R33 a1 A2 c_2] (fun v l=>v=.bool r∧l=[]):=by
 refine Zj Tryz.func73 fun w0 F0 h0=>?_
 unfold Q158.f at H
 refine T5 (Za [0,1] ?_)
 refine T5 (T5 (Za [0,1,10] ?_))
 refine jIf H (fun c1 H=>?_) fun c1 H=>?_
 ·refine T5 (Za [4] ?_)
  cases H
  exact T4 (jR0 h0 [])
 refine T6 (T5 (T5 (Za [0,1,5] ?_)))
 refine TX ?_
 have h4:=(sOR h0 [] [0,1])
 refine T1 (fun kk env w=>∃ x1,Q158.l0 kk a0 a1 x1=some r∧env=[(0,.slice A1 a0.length c_1),(1,.slice A2 a1.length c_2),(5,.int .i64 x1)]∧St w0 F0 [] [R33 a0 A1 c_1,R33 a1 A2 c_2] w) (k:=k) ⟨_,H,rfl,h4⟩ ?_
 rintro k1 env w1 ⟨x1,H,rfl,h1⟩
 rcases k1 with _ | k1
 ·exact z0 H
 rw [Q158.l0] at H
 refine T5 (T5 (Za [0,1,5,14] ?_))
 refine jIf H (fun c2 H=>?_) fun c2 H=>?_
 ·refine T6 (T5 (TX (T5 ?_)))
  refine jH h1 fun h2=>?_
  refine Zp [0,1,4,5] ?_
  obtain ⟨⟨p1,p2⟩,H⟩:=Zm H
  have e1:=Zx h2.wh (Zl 0) p1 p2
  refine Zf 2 rfl (Zg e1 p1 p2) ?_
  refine Zf 3 rfl (Zh 0 wI (Zl 0) p1 p2) ?_
  obtain ⟨⟨p3,p4⟩,H⟩:=Zm H
  have e2:=Zx h2.wh (Zl 1) p3 p4
  refine Zf 6 rfl (Zg e2 p3 p4) ?_
  refine Zf 7 rfl (Zh 0 wI (Zl 1) p3 p4) ?_
  refine Zp [8] ?_
  refine Zu [0,1,5,25] ?_
  refine jIf H (fun c3 H=>?_) fun c3 H=>?_
  ·refine T5 (Za [4] ?_)
   cases H
   exact T4 (jR0 h2 [])
  refine T6 (Za [0,1,5] ?_)
  have h3:=(sOR h2 [] [0,1])
  exact ⟨k1,by omega,_,H,rfl,h3⟩
 refine T0 (T5 (Za [4] ?_))
 cases H
 exact T4 (jR0 h1 [])

def Q157.l0:Nat→TJ→TJ→Int→Option (Bool)
 | 0,_,_,_=>none
 | k+1,a0,a1,x1=>if (decide (x1<(a0.length:Int)))=true then (if 0≤x1∧x1<(a0.length:Int) then (if 0≤x1∧x1<(a1.length:Int) then (if (!decide ((gt a0 x1)=(gt a1 x1)))=true then (some false) else (Q157.l0 k a0 a1 (w64 (x1+1)))) else none) else none) else (some true)
def Q157.f (k:Nat) (a0:TJ) (a1:TJ):Option (Bool):=if (!decide ((a0.length:Int)=(a1.length:Int)))=true then (some false) else (Q157.l0 k a0 a1 0)
theorem Q157.spec {k a0 a1 A1 c_1 A2 c_2 r} (H:Q157.f k a0 a1=some r) :
  Spec Tryz.prog 74 [.slice A1 a0.length c_1,.slice A2 a1.length c_2] [] [R9 a0 A1 c_1,R9 a1 A2 c_2] (fun v l=>v=.bool r∧l=[]):=by
 refine Zj Tryz.func74 fun w0 F0 h0=>?_
 unfold Q157.f at H
 refine T5 (Za [0,1] ?_)
 refine T5 (T5 (Za [0,1,10] ?_))
 refine jIf H (fun c1 H=>?_) fun c1 H=>?_
 ·refine T5 (Za [4] ?_)
  cases H
  exact T4 (jR0 h0 [])
 refine T6 (T5 (T5 (Za [0,1,5] ?_)))
 refine TX ?_
 have h4:=(sOR h0 [] [0,1])
 refine T1 (fun kk env w=>∃ x1,Q157.l0 kk a0 a1 x1=some r∧env=[(0,.slice A1 a0.length c_1),(1,.slice A2 a1.length c_2),(5,.int .i64 x1)]∧St w0 F0 [] [R9 a0 A1 c_1,R9 a1 A2 c_2] w) (k:=k) ⟨_,H,rfl,h4⟩ ?_
 rintro k1 env w1 ⟨x1,H,rfl,h1⟩
 rcases k1 with _ | k1
 ·exact z0 H
 rw [Q157.l0] at H
 refine T5 (T5 (Za [0,1,5,14] ?_))
 refine jIf H (fun c2 H=>?_) fun c2 H=>?_
 ·refine T6 (T5 (TX (T5 ?_)))
  refine jH h1 fun h2=>?_
  refine Zp [0,1,4,5] ?_
  obtain ⟨⟨p1,p2⟩,H⟩:=Zm H
  have e1:=Zx h2.wh (Zl 0) p1 p2
  refine Zf 2 rfl (Zg e1 p1 p2) ?_
  refine Zf 3 rfl (Zh 0 wI (Zl 0) p1 p2) ?_
  obtain ⟨⟨p3,p4⟩,H⟩:=Zm H
  have e2:=Zx h2.wh (Zl 1) p3 p4
  refine Zf 6 rfl (Zg e2 p3 p4) ?_
  refine Zf 7 rfl (Zh 0 wI (Zl 1) p3 p4) ?_
  refine Zp [8] ?_
  refine Zu [0,1,5,25] ?_
  refine jIf H (fun c3 H=>?_) fun c3 H=>?_
  ·refine T5 (Za [4] ?_)
   cases H
   exact T4 (jR0 h2 [])
  refine T6 (Za [0,1,5] ?_)
  have h3:=(sOR h2 [] [0,1])
  exact ⟨k1,by omega,_,H,rfl,h3⟩
 refine T0 (T5 (Za [4] ?_))
 cases H
 exact T4 (jR0 h1 [])

def Q152.l0:Nat→Tu→Tu→Int→Option (Bool)
 | 0,_,_,_=>none
 | k+1,a0,a1,x1=>if (decide (x1<(a0.length:Int)))=true then (if 0≤x1∧x1<(a0.length:Int) then (if 0≤x1∧x1<(a1.length:Int) then (if (!((decide (((gt a0 x1).1)=((gt a1 x1).1))) && ((((gt a0 x1).2.1) == ((gt a1 x1).2.1)) && ((decide (((gt a0 x1).2.2)=((gt a1 x1).2.2))) && true))))=true then (some false) else (Q152.l0 k a0 a1 (w64 (x1+1)))) else none) else none) else (some true)
def Q152.f (k:Nat) (a0:Tu) (a1:Tu):Option (Bool):=if (!decide ((a0.length:Int)=(a1.length:Int)))=true then (some false) else (Q152.l0 k a0 a1 0)
theorem Q152.spec {k a0 a1 A1 c_1 A2 c_2 r} (H:Q152.f k a0 a1=some r) :
  Spec Tryz.prog 75 [.slice A1 a0.length c_1,.slice A2 a1.length c_2] [] [Y4 a0 A1 c_1,Y4 a1 A2 c_2] (fun v l=>v=.bool r∧l=[]):=by
 refine Zj Tryz.func75 fun w0 F0 h0=>?_
 unfold Q152.f at H
 refine T5 (Za [0,1] ?_)
 refine T5 (T5 (Za [0,1,10] ?_))
 refine jIf H (fun c1 H=>?_) fun c1 H=>?_
 ·refine T5 (Za [4] ?_)
  cases H
  exact T4 (jR0 h0 [])
 refine T6 (T5 (T5 (Za [0,1,5] ?_)))
 refine TX ?_
 have h4:=(sOR h0 [] [0,1])
 refine T1 (fun kk env w=>∃ x1,Q152.l0 kk a0 a1 x1=some r∧env=[(0,.slice A1 a0.length c_1),(1,.slice A2 a1.length c_2),(5,.int .i64 x1)]∧St w0 F0 [] [Y4 a0 A1 c_1,Y4 a1 A2 c_2] w) (k:=k) ⟨_,H,rfl,h4⟩ ?_
 rintro k1 env w1 ⟨x1,H,rfl,h1⟩
 rcases k1 with _ | k1
 ·exact z0 H
 rw [Q152.l0] at H
 refine T5 (T5 (Za [0,1,5,14] ?_))
 refine jIf H (fun c2 H=>?_) fun c2 H=>?_
 ·refine T6 (T5 (TX (T5 ?_)))
  refine jH h1 fun h2=>?_
  refine Zp [0,1,4,5] ?_
  obtain ⟨⟨p1,p2⟩,H⟩:=Zm H
  have e1:=Zx h2.wh (Zl 0) p1 p2
  refine Zf 2 rfl (Zg e1 p1 p2) ?_
  refine Zf 3 rfl (Zh 0 wI (Zl 0) p1 p2) ?_
  obtain ⟨⟨p3,p4⟩,H⟩:=Zm H
  have e2:=Zx h2.wh (Zl 1) p3 p4
  refine Zf 6 rfl (Zg e2 p3 p4) ?_
  refine Zf 7 rfl (Zh 0 wI (Zl 1) p3 p4) ?_
  refine Zp [8] ?_
  refine Zu [0,1,5,25] ?_
  refine jIf H (fun c3 H=>?_) fun c3 H=>?_
  ·refine T5 (Za [4] ?_)
   cases H
   exact T4 (jR0 h2 [])
  refine T6 (Za [0,1,5] ?_)
  have h3:=(sOR h2 [] [0,1])
  exact ⟨k1,by omega,_,H,rfl,h3⟩
 refine T0 (T5 (Za [4] ?_))
 cases H
 exact T4 (jR0 h1 [])

def Q154.l0:Nat→Tx→Tx→Int→Option (Bool)
 | 0,_,_,_=>none
 | k+1,a0,a1,x1=>if (decide (x1<(a0.length:Int)))=true then (if 0≤x1∧x1<(a0.length:Int) then (if 0≤x1∧x1<(a1.length:Int) then (if (!((decide (((gt a0 x1).1)=((gt a1 x1).1))) && ((decide (((gt a0 x1).2)=((gt a1 x1).2))) && true)))=true then (some false) else (Q154.l0 k a0 a1 (w64 (x1+1)))) else none) else none) else (some true)
def Q154.f (k:Nat) (a0:Tx) (a1:Tx):Option (Bool):=if (!decide ((a0.length:Int)=(a1.length:Int)))=true then (some false) else (Q154.l0 k a0 a1 0)
theorem Q154.spec {k a0 a1 A1 c_1 A2 c_2 r} (H:Q154.f k a0 a1=some r) :
  Spec Tryz.prog 49 [.slice A1 a0.length c_1,.slice A2 a1.length c_2] [] [Y5 a0 A1 c_1,Y5 a1 A2 c_2] (fun v l=>v=.bool r∧l=[]):=by
 refine Zj Tryz.func49 fun w0 F0 h0=>?_
 unfold Q154.f at H
 refine T5 (Za [0,1] ?_)
 refine T5 (T5 (Za [0,1,10] ?_))
 refine jIf H (fun c1 H=>?_) fun c1 H=>?_
 ·refine T5 (Za [4] ?_)
  cases H
  exact T4 (jR0 h0 [])
 refine T6 (T5 (T5 (Za [0,1,5] ?_)))
 refine TX ?_
 have h4:=(sOR h0 [] [0,1])
 refine T1 (fun kk env w=>∃ x1,Q154.l0 kk a0 a1 x1=some r∧env=[(0,.slice A1 a0.length c_1),(1,.slice A2 a1.length c_2),(5,.int .i64 x1)]∧St w0 F0 [] [Y5 a0 A1 c_1,Y5 a1 A2 c_2] w) (k:=k) ⟨_,H,rfl,h4⟩ ?_
 rintro k1 env w1 ⟨x1,H,rfl,h1⟩
 rcases k1 with _ | k1
 ·exact z0 H
 rw [Q154.l0] at H
 refine T5 (T5 (Za [0,1,5,14] ?_))
 refine jIf H (fun c2 H=>?_) fun c2 H=>?_
 ·refine T6 (T5 (TX (T5 ?_)))
  refine jH h1 fun h2=>?_
  refine Zp [0,1,4,5] ?_
  obtain ⟨⟨p1,p2⟩,H⟩:=Zm H
  have e1:=Zx h2.wh (Zl 0) p1 p2
  refine Zf 2 rfl (Zg e1 p1 p2) ?_
  refine Zf 3 rfl (Zh 0 wI (Zl 0) p1 p2) ?_
  obtain ⟨⟨p3,p4⟩,H⟩:=Zm H
  have e2:=Zx h2.wh (Zl 1) p3 p4
  refine Zf 6 rfl (Zg e2 p3 p4) ?_
  refine Zf 7 rfl (Zh 0 wI (Zl 1) p3 p4) ?_
  refine Zp [8] ?_
  refine Zu [0,1,5,25] ?_
  refine jIf H (fun c3 H=>?_) fun c3 H=>?_
  ·refine T5 (Za [4] ?_)
   cases H
   exact T4 (jR0 h2 [])
  refine T6 (Za [0,1,5] ?_)
  have h3:=(sOR h2 [] [0,1])
  exact ⟨k1,by omega,_,H,rfl,h3⟩
 refine T0 (T5 (Za [4] ?_))
 cases H
 exact T4 (jR0 h1 [])

def Q161.f (k:Nat) (a0:Tq) (a1:Tq):Option (Bool):=if (decide (a0.1=a1.1))=true then ((Q158.f k a0.2.1 a1.2.1).bind fun r1=>(if r1=true then ((Q157.f k a0.2.2.1 a1.2.2.1).bind fun r2=>(if r2=true then ((Q152.f k a0.2.2.2.1 a1.2.2.2.1).bind fun r3=>(if r3=true then ((Q154.f k a0.2.2.2.2 a1.2.2.2.2).bind fun r4=>(some r4)) else (some false))) else (some false))) else (some false))) else (some false)
theorem Q161.spec {k a0 a1 A1 c_1 A2 c_2 A3 c_3 A4 c_4 A5 c_5 A6 c_6 A7 c_7 A8 c_8 r} (H:Q161.f k a0 a1=some r) :
  Spec Tryz.prog 22 [.agg #[.int .i64 a0.1,.slice A1 a0.2.1.length c_1,.slice A2 a0.2.2.1.length c_2,.slice A3 a0.2.2.2.1.length c_3,.slice A4 a0.2.2.2.2.length c_4],.agg #[.int .i64 a1.1,.slice A5 a1.2.1.length c_5,.slice A6 a1.2.2.1.length c_6,.slice A7 a1.2.2.2.1.length c_7,.slice A8 a1.2.2.2.2.length c_8]] [] [R33 a0.2.1 A1 c_1,R9 a0.2.2.1 A2 c_2,Y4 a0.2.2.2.1 A3 c_3,Y5 a0.2.2.2.2 A4 c_4,R33 a1.2.1 A5 c_5,R9 a1.2.2.1 A6 c_6,Y4 a1.2.2.2.1 A7 c_7,Y5 a1.2.2.2.2 A8 c_8] (fun v l=>v=.bool r∧l=[]):=by
 refine Zj Tryz.func22 fun w0 F0 h0=>?_
 unfold Q161.f at H
 refine T5 (T3 ?_)
 refine rB (Z6 h0) fun b1 w1 h1=>?_
 refine rB (Z6 h1) fun b2 w2 h2=>?_
 refine Ze [2,3] rfl ?_
 refine T5 (T3 ?_)
 refine Zd 1 ?_
 refine Zc (Zb 1 h2.wht) ?_
 refine Zd 1 ?_
 refine Zc (Zb 0 h2.wht) ?_
 refine Zd 2 ?_
 refine Z7 10 H (fun c1 H=>?_) fun c1 H=>?_
 ·refine Zd 1 ?_
  refine Zc (Zb 1 h2.wht) ?_
  refine Zd 1 ?_
  refine Zc (Zb 0 h2.wht) ?_
  refine cS H [] h2 rfl Q158.spec (gS [2,6]) fun r1 w3 H h3=>?_
  refine Zd 2 ?_
  refine Z7 17 H (fun c2 H=>?_) fun c2 H=>?_
  ·refine Zd 1 ?_
   refine Zc (Zb 1 h3.wht) ?_
   refine Zd 1 ?_
   refine Zc (Zb 0 h3.wht) ?_
   refine cS H [] h3 rfl Q157.spec (gS [3,7]) fun r2 w4 H h4=>?_
   refine Zd 2 ?_
   refine Z7 24 H (fun c3 H=>?_) fun c3 H=>?_
   ·refine Zd 1 ?_
    refine Zc (Zb 1 h4.wht) ?_
    refine Zd 1 ?_
    refine Zc (Zb 0 h4.wht) ?_
    refine cS H [] h4 rfl Q152.spec (gS [4,8]) fun r3 w5 H h5=>?_
    refine Zd 2 ?_
    refine Z7 31 H (fun c4 H=>?_) fun c4 H=>?_
    ·refine Zd 1 ?_
     refine Zc (Zb 1 h5.wht) ?_
     refine Zd 1 ?_
     refine Zc (Zb 0 h5.wht) ?_
     refine cS H [] h5 rfl Q154.spec (gS [5,9]) fun r4 w6 H h6=>?_
     refine Ze [4] rfl ?_
     have h7:=Zi h6 []
     replace h7:=nf h7
     cases H
     exact T4 (jR0 h7 [])
    refine Ze [4] rfl ?_
    have h8:=Zi h5 []
    replace h8:=nf h8
    cases H
    exact T4 (jR0 h8 [])
   refine Ze [4] rfl ?_
   have h9:=Zi h4 []
   replace h9:=nf h9
   cases H
   exact T4 (jR0 h9 [])
  refine Ze [4] rfl ?_
  have h10:=Zi h3 []
  replace h10:=nf h10
  cases H
  exact T4 (jR0 h10 [])
 refine Ze [4] rfl ?_
 have h11:=Zi h2 []
 replace h11:=nf h11
 cases H
 exact T4 (jR0 h11 [])

def Q8.f (k:Nat) (a0:TH) (a1:Int):Option TR:=(Q7.f a0).bind fun r1=>(if (decide (r1≤a1))=true then (some (0,false)) else ((Q10.f k a0 a1 0).bind fun r2=>((Q12.f r2.1 r2.2).bind fun r3=>(some r3))))
theorem Q8.spec {k a0 a1 b1 A1 c_1 r} (H:Q8.f k a0 a1=some r) :
  Spec Tryz.prog 133 [.pointer (some ⟨b1,0,none⟩),.int .i64 a1] (Ww a0 b1 A1 c_1) [tabC 0] (fun v l=>v=.tuple #[.int .i64 r.1,.bool r.2]∧l=Ww a0 b1 A1 c_1):=by
 refine Zj Tryz.func133 fun w0 F0 h0=>?_
 replace h0:=nf h0
 unfold Q8.f at H
 refine T5 (Za [0,1] ?_)
 refine T5 (T5 (T3 ?_))
 refine Zd 2 ?_
 refine cS H [0,0] h0 rfl Q7.spec Zq fun r1 w1 H h1=>?_
 refine Ze [0,1,9] rfl ?_
 refine jIf H (fun c1 H=>?_) fun c1 H=>?_
 ·refine T5 (Za [4,5] ?_)
  cases H
  exact T4 (jR0 h1 [0,0])
 refine T6 (T5 (T3 ?_))
 refine Zd 2 ?_
 refine cS H [0,0] h1 rfl Q10.spec (gS [0]) fun r2 w2 H h2=>?_
 refine Zd 2 ?_
 refine cS H [] h2 rfl Q12.spec Zq fun r3 w3 H h3=>?_
 refine Ze [4,5] rfl ?_
 cases H
 exact T4 (jR0 h3 [0,0])

def Q80.l0:Nat→TF→TV→Int→Bool→Option TV
 | 0,_,_,_,_=>none
 | k+1,a0,x1,x2,x3=>if x3=true then (if (x1.length+([(IntKind.u32.wrap (x2))]:List Int).length)*4≤140737488355328 then ((Q8.f k a0 (w64 (x2+1))).bind fun r3=>(Q80.l0 k a0 (x1 ++ ([(IntKind.u32.wrap (x2))]:List Int)) r3.1 r3.2)) else none) else (some x1)
def Q80.f (k:Nat) (a0:TF):Option TV:=(Q82.f a0).bind fun r1=>(if r1=true then (some ([]:List Int)) else ((Q8.f k a0 0).bind fun r2=>(Q80.l0 k a0 ([]:List Int) r2.1 r2.2)))
theorem Q80.spec {k a0 b1 b2 A1 c_1 r} (H:Q80.f k a0=some r) :
  Spec Tryz.prog 82 [.pointer (some ⟨b1,0,none⟩)] (V7 a0 b1 b2 A1 c_1) [tabC 0] (fun v l=>∃ A_0 c_0,v=.slice A_0 r.length c_0∧l=[O33 r A_0 c_0] ++ V7 a0 b1 b2 A1 c_1):=by
 refine Zj Tryz.func82 fun w0 F0 h0=>?_
 replace h0:=nf h0
 unfold Q80.f at H
 refine T5 (Za [0] ?_)
 refine T5 (T5 (T3 ?_))
 refine Zd 1 ?_
 refine cS H [0,0,0] h0 rfl Q82.spec Zq fun r1 w1 H h1=>?_
 refine Ze [0,7] rfl ?_
 refine jIf H (fun c1 H=>?_) fun c1 H=>?_
 ·refine T5 (Za [2] ?_)
  have h2:=h1.addNil 33 (.int .u32)
  cases H
  exact T4 (jR ⟨_,_,rfl,rfl⟩ h2 [0,0,0,0])
 refine T6 (T5 (Za [0,3] ?_))
 refine T5 (T5 (T3 ?_))
 refine Zd 3 ?_
 refine Zc (Zb 0 h1.wht) ?_
 refine cS H [1,1] h1 rfl Q8.spec (gS [1]) fun r2 w2 H h3=>?_
 refine Ze [0,3,4,5] rfl ?_
 refine TX ?_
 have h9:=h3.addNil 33 (.int .u32)
 have h10:=(sOR h9 [3,1,1,0] [0])
 refine T1 (fun kk env w=>∃ x1 A2 c_2 x2 x3,Q80.l0 kk a0 x1 x2 x3=some r∧env=[(0,.pointer (some ⟨b1,0,none⟩)),(3,.slice A2 x1.length c_2),(4,.int .i64 x2),(5,.bool x3)]∧St w0 F0 [Jk b1 (.pointer (some ⟨b2,0,none⟩)),Wi b2 a0.1 a0.2.1 a0.2.2 A1 c_1,O61 a0.2.2 A1 c_1,O33 x1 A2 c_2] [tabC 0] w) (k:=k) ⟨_,_,_,_,_,H,rfl,h10⟩ ?_
 rintro k1 env w3 ⟨x1,A2,c_2,x2,x3,H,rfl,h4⟩
 rcases k1 with _ | k1
 ·exact z0 H
 rw [Q80.l0] at H
 refine T5 (T5 (Za [0,3,4,16] ?_))
 refine jIf H (fun c2 H=>?_) fun c2 H=>?_
 ·refine T6 (T5 (TX (T3 ?_)))
  refine Zd 3 ?_
  refine rB (Yy (.int .u32) ([(IntKind.u32.wrap (x2))]:List Int) h4) fun b3 w4 h5=>?_
  obtain ⟨p1,H⟩:=Zm H
  refine Zv (Yn 4 h5 (gO 0) p1) ?_
  rintro _ w5 ⟨A3,c_3,rfl,h6⟩
  replace h6:=nf h6
  refine Ze [0,3,4] rfl ?_
  refine T3 (Zd 3 ?_)
  refine Zc (Zb 2 h6.wht) ?_
  refine Zd 2 ?_
  refine cS H [3,3] h6 rfl Q8.spec (gS [3]) fun r3 w6 H h7=>?_
  refine Ze [0,3,4,5] rfl ?_
  have h8:=(sOR h7 [4,0,0,0] [0])
  exact ⟨k1,by omega,_,_,_,_,_,H,rfl,h8⟩
 refine T0 (T5 (Za [2] ?_))
 cases H
 exact T4 (jR ⟨_,_,rfl,rfl⟩ h4 [3,0,0,0])

def Q88.f (k:Nat) (a0:Td):Option TV:=(Q80.f k a0.2.2.1).bind fun r1=>(some r1)
theorem Q88.spec {k a0 b1 b2 b3 b4 b5 b6 b7 A1 c_1 A2 c_2 A3 c_3 A4 c_4 A5 c_5 r} (H:Q88.f k a0=some r) :
  Spec Tryz.prog 29 [.pointer (some ⟨b1,0,none⟩)] (Xo a0 b1 b2 b3 b4 b5 b6 b7 A1 A2 A3 A4 A5 c_1 c_2 c_3 c_4 c_5) [tabC 0] (fun v l=>∃ A_0 c_0,v=.slice A_0 r.length c_0∧l=[O33 r A_0 c_0] ++ Xo a0 b1 b2 b3 b4 b5 b6 b7 A1 A2 A3 A4 A5 c_1 c_2 c_3 c_4 c_5):=by
 refine Zj Tryz.func29 fun w0 F0 h0=>?_
 replace h0:=nf h0
 unfold Q88.f at H
 refine T5 (Za [0] ?_)
 refine T5 (T5 (Za [0,4] ?_))
 refine Z4 ?_
 refine T6 (T5 (T3 ?_))
 refine Zd 3 ?_
 refine Zc (Zb 0 h0.wht) ?_
 refine cE H [9,9,9] h0 rfl Q80.spec (gS [9]) ?_
 rintro r1 w1 _ _ H ⟨A6,c_6,rfl,rfl⟩ h1
 replace h1:=nf h1
 refine Ze [2] rfl ?_
 cases H
 exact T4 (jR ⟨_,_,rfl,rfl⟩ h1 [0,3,3,3,3,3,3,3,3,3,0,0,0])

def Q143.l0:Nat→TS→TV→Int→Option TV
 | 0,_,_,_=>none
 | k+1,a0,x1,x2=>if (decide (x2<(a0.length:Int)))=true then (if 0≤x2∧x2<(a0.length:Int) then (if (gt a0 x2)=true then (if (x1.length+([(IntKind.u32.wrap (x2))]:List Int).length)*4≤140737488355328 then (Q143.l0 k a0 (x1 ++ ([(IntKind.u32.wrap (x2))]:List Int)) (w64 (x2+1))) else none) else (Q143.l0 k a0 x1 (w64 (x2+1)))) else none) else (some x1)
def Q143.f (k:Nat) (a0:TS):Option TV:=Q143.l0 k a0 ([]:List Int) 0
theorem Q143.spec {k a0 A1 c_1 r} (H:Q143.f k a0=some r) :
  Spec Tryz.prog 30 [.slice A1 a0.length c_1] [] [R4 a0 A1 c_1] (fun v l=>∃ A_0 c_0,v=.slice A_0 r.length c_0∧l=[O33 r A_0 c_0]):=by
 refine Zj Tryz.func30 fun w0 F0 h0=>?_
 unfold Q143.f at H
 refine T5 (Za [0] ?_)
 refine T5 (T3 ?_)
 refine rB (Yy (.int .u32) ([]:List Int) h0) fun b1 w1 h1=>?_
 refine Ze [0,3] rfl ?_
 refine T5 (T5 (Za [0,3,4] ?_))
 refine TX ?_
 have h7:=(sOR h1 [0] [0])
 refine T1 (fun kk env w=>∃ x1 A2 c_2 x2,Q143.l0 kk a0 x1 x2=some r∧env=[(0,.slice A1 a0.length c_1),(3,.slice A2 x1.length c_2),(4,.int .i64 x2)]∧St w0 F0 [O33 x1 A2 c_2] [R4 a0 A1 c_1] w) (k:=k) ⟨_,_,_,_,H,rfl,h7⟩ ?_
 rintro k1 env w2 ⟨x1,A2,c_2,x2,H,rfl,h2⟩
 rcases k1 with _ | k1
 ·exact z0 H
 rw [Q143.l0] at H
 refine T5 (T5 (Za [0,3,4,9] ?_))
 refine jIf H (fun c1 H=>?_) fun c1 H=>?_
 ·refine T6 (T5 (TX (T5 (T3 ?_))))
  refine Zd 2 ?_
  obtain ⟨⟨p1,p2⟩,H⟩:=Zm H
  have e1:=Zx h2.wh (Zl 1) p1 p2
  refine Zc (Zg e1 p1 p2) ?_
  refine Zc (Zh 0 h2.wht (Zl 1) p1 p2) ?_
  refine Ze [0,3,4,15] rfl ?_
  refine jIf H (fun c2 H=>?_) fun c2 H=>?_
  ·refine T3 (Zd 3 ?_)
   refine rB (Yy (.int .u32) ([(IntKind.u32.wrap (x2))]:List Int) h2) fun b2 w3 h3=>?_
   obtain ⟨p3,H⟩:=Zm H
   refine Zv (Yn 1 h3 (gO 0) p3) ?_
   rintro _ w4 ⟨A3,c_3,rfl,h4⟩
   replace h4:=nf h4
   refine Ze [0,3,4] rfl ?_
   refine Za [0,3,4] ?_
   have h5:=(sOR h4 [0] [0])
   exact ⟨k1,by omega,_,_,_,_,H,rfl,h5⟩
  refine T6 (Za [0,3,4] ?_)
  have h6:=(sOR h2 [0] [0])
  exact ⟨k1,by omega,_,_,_,_,H,rfl,h6⟩
 refine T0 (T5 (Za [2] ?_))
 cases H
 exact T4 (jR ⟨_,_,rfl,rfl⟩ h2 [0])

def Q144.l0:Nat→TV→TV→Int→Option (Bool)
 | 0,_,_,_=>none
 | k+1,a0,a1,x1=>if (decide (x1<(a0.length:Int)))=true then (if 0≤x1∧x1<(a0.length:Int) then (if 0≤x1∧x1<(a1.length:Int) then (if (!decide ((gt a0 x1)=(gt a1 x1)))=true then (some false) else (Q144.l0 k a0 a1 (w64 (x1+1)))) else none) else none) else (some true)
def Q144.f (k:Nat) (a0:TV) (a1:TV):Option (Bool):=if (!decide ((a0.length:Int)=(a1.length:Int)))=true then (some false) else (Q144.l0 k a0 a1 0)
theorem Q144.spec {k a0 a1 A1 c_1 A2 c_2 r} (H:Q144.f k a0 a1=some r) :
  Spec Tryz.prog 28 [.slice A1 a0.length c_1,.slice A2 a1.length c_2] [] [R33 a0 A1 c_1,R33 a1 A2 c_2] (fun v l=>v=.bool r∧l=[]):=by
 refine Zj Tryz.func28 fun w0 F0 h0=>?_
 unfold Q144.f at H
 refine T5 (Za [0,1] ?_)
 refine T5 (T5 (Za [0,1,10] ?_))
 refine jIf H (fun c1 H=>?_) fun c1 H=>?_
 ·refine T5 (Za [4] ?_)
  cases H
  exact T4 (jR0 h0 [])
 refine T6 (T5 (T5 (Za [0,1,5] ?_)))
 refine TX ?_
 have h4:=(sOR h0 [] [0,1])
 refine T1 (fun kk env w=>∃ x1,Q144.l0 kk a0 a1 x1=some r∧env=[(0,.slice A1 a0.length c_1),(1,.slice A2 a1.length c_2),(5,.int .i64 x1)]∧St w0 F0 [] [R33 a0 A1 c_1,R33 a1 A2 c_2] w) (k:=k) ⟨_,H,rfl,h4⟩ ?_
 rintro k1 env w1 ⟨x1,H,rfl,h1⟩
 rcases k1 with _ | k1
 ·exact z0 H
 rw [Q144.l0] at H
 refine T5 (T5 (Za [0,1,5,14] ?_))
 refine jIf H (fun c2 H=>?_) fun c2 H=>?_
 ·refine T6 (T5 (TX (T5 ?_)))
  refine jH h1 fun h2=>?_
  refine Zp [0,1,4,5] ?_
  obtain ⟨⟨p1,p2⟩,H⟩:=Zm H
  have e1:=Zx h2.wh (Zl 0) p1 p2
  refine Zf 2 rfl (Zg e1 p1 p2) ?_
  refine Zf 3 rfl (Zh 0 wI (Zl 0) p1 p2) ?_
  obtain ⟨⟨p3,p4⟩,H⟩:=Zm H
  have e2:=Zx h2.wh (Zl 1) p3 p4
  refine Zf 6 rfl (Zg e2 p3 p4) ?_
  refine Zf 7 rfl (Zh 0 wI (Zl 1) p3 p4) ?_
  refine Zp [8] ?_
  refine Zu [0,1,5,25] ?_
  refine jIf H (fun c3 H=>?_) fun c3 H=>?_
  ·refine T5 (Za [4] ?_)
   cases H
   exact T4 (jR0 h2 [])
  refine T6 (Za [0,1,5] ?_)
  have h3:=(sOR h2 [] [0,1])
  exact ⟨k1,by omega,_,H,rfl,h3⟩
 refine T0 (T5 (Za [4] ?_))
 cases H
 exact T4 (jR0 h1 [])

def Q84.f (a0:Td):Option Tr:=some a0.1
theorem Q84.spec {a0 b1 b2 b3 b4 b5 b6 b7 A1 c_1 A2 c_2 A3 c_3 A4 c_4 A5 c_5 r} (H:Q84.f a0=some r) :
  Spec Tryz.prog 32 [.pointer (some ⟨b1,0,none⟩)] (Xo a0 b1 b2 b3 b4 b5 b6 b7 A1 A2 A3 A4 A5 c_1 c_2 c_3 c_4 c_5) [] (fun v l=>v=.agg #[.int .i64 r.1,.int .i64 r.2.1,.int .i64 r.2.2.1,.int .i64 r.2.2.2.1,.int .i64 r.2.2.2.2.1,.int .i64 r.2.2.2.2.2.1,.int .i64 r.2.2.2.2.2.2.1,.int .i64 r.2.2.2.2.2.2.2]∧l=Xo a0 b1 b2 b3 b4 b5 b6 b7 A1 A2 A3 A4 A5 c_1 c_2 c_3 c_4 c_5):=by
 refine Zj Tryz.func32 fun w0 F0 h0=>?_
 replace h0:=nf h0
 unfold Q84.f at H
 refine T5 (T3 ?_)
 refine rB (Yl h0) fun b8 w1 h1=>?_
 refine Ze [0,2] rfl ?_
 refine T5 (T5 (Za [0,2,4] ?_))
 refine Z4 ?_
 refine T6 (T5 (T3 ?_))
 refine Zd 3 ?_
 refine Zc (Zb 1 h1.wht) ?_
 refine rS (Zt 0 h1) fun _ w2 h2=>?_
 refine Ze [2] rfl ?_
 cases H
 exact T4 (jR2 (Z0 (Sb Yi 0 h2 rfl rfl rfl rfl) Yo) ⟨rfl,rfl⟩ h2 [1,1,1,1,1,1,1,1,1,1,1,1])

def Q57.f (a0:TC):Option (TU):=some a0.2.2
theorem Q57.spec {a0 b1 A1 c_1 r} (H:Q57.f a0=some r) :
  Spec Tryz.prog 23 [.pointer (some ⟨b1,0,none⟩)] (G0 a0 b1 A1 c_1) [] (fun v l=>v=.agg #[.int .u64 r.1,.int .u64 r.2]∧l=G0 a0 b1 A1 c_1):=by
 refine Zj Tryz.func23 fun w0 F0 h0=>?_
 replace h0:=nf h0
 unfold Q57.f at H
 refine T5 (T3 ?_)
 refine rB (Yl h0) fun b2 w1 h1=>?_
 refine Ze [0,2] rfl ?_
 refine T5 (T5 (Za [0,2,4] ?_))
 refine Z4 ?_
 refine T6 (T5 (T3 ?_))
 refine Zd 3 ?_
 refine Zc (Zb 1 h1.wht) ?_
 refine rS (Zt 0 h1) fun _ w2 h2=>?_
 refine Ze [2] rfl ?_
 cases H
 exact T4 (jR2 (Z0 (Sb Yi 0 h2 rfl rfl rfl rfl) Yo) ⟨rfl,rfl⟩ h2 [1,1])

def Q95.f (a0:Td):Option (TU):=(Q57.f a0.2.1.1).bind fun r1=>(some r1)
theorem Q95.spec {a0 b1 b2 b3 b4 b5 b6 b7 A1 c_1 A2 c_2 A3 c_3 A4 c_4 A5 c_5 r} (H:Q95.f a0=some r) :
  Spec Tryz.prog 33 [.pointer (some ⟨b1,0,none⟩)] (Xo a0 b1 b2 b3 b4 b5 b6 b7 A1 A2 A3 A4 A5 c_1 c_2 c_3 c_4 c_5) [] (fun v l=>v=.agg #[.int .u64 r.1,.int .u64 r.2]∧l=Xo a0 b1 b2 b3 b4 b5 b6 b7 A1 A2 A3 A4 A5 c_1 c_2 c_3 c_4 c_5):=by
 refine Zj Tryz.func33 fun w0 F0 h0=>?_
 replace h0:=nf h0
 unfold Q95.f at H
 refine T5 (T3 ?_)
 refine rB (Yl h0) fun b8 w1 h1=>?_
 refine Ze [0,2] rfl ?_
 refine T5 (T5 (Za [0,2,4] ?_))
 refine Z4 ?_
 refine T6 (T5 (T3 ?_))
 refine Zd 3 ?_
 refine Zc (Zb 1 h1.wht) ?_
 refine cS H [3,3] h1 rfl Q57.spec Zq fun r1 w2 H h2=>?_
 refine rS (Zt 2 h2) fun _ w3 h3=>?_
 refine Ze [2] rfl ?_
 cases H
 exact T4 (jR2 (Z0 (Sb Yi 0 h3 rfl rfl rfl rfl) Yo) ⟨rfl,rfl⟩ h3 [3,3,1,1,1,1,1,1,1,1,1,1])

mutual
def Q131.l1:Nat→Ts→Tk→Int→Ts→TC→Tz→TF→Th→Tw→TL→TV→Int→Int→Option (Bool)
 | 0,_,_,_,_,_,_,_,_,_,_,_,_,_=>none
 | k+1,a0,a1,a2,x3,x4,x5,x6,x7,x8,x9,x10,x11,x12=>if (decide (x12<(a1.length:Int)))=true then (Q131.l2 k a0 a1 a2 x3 x4 x5 x6 x7 x8 x9 x10 x11 x12 (decide (x12<40))) else (Q131.l2 k a0 a1 a2 x3 x4 x5 x6 x7 x8 x9 x10 x11 x12 false)
def Q131.l2:Nat→Ts→Tk→Int→Ts→TC→Tz→TF→Th→Tw→TL→TV→Int→Int→Bool→Option (Bool)
 | 0,_,_,_,_,_,_,_,_,_,_,_,_,_,_=>none
 | k+1,a0,a1,a2,x3,x4,x5,x6,x7,x8,x9,x10,x11,x12,x13=>if x13=true then (if 0≤x12∧x12<(a1.length:Int) then ((Q129.f k ((gt a1 x12).2.2)).bind fun r15=>(if r15=true then ((Q132.f k).bind fun r16=>(some r16)) else ((Q135.f k x7 (gt a1 x12)).bind fun r17=>((Q134.f k (x3,(x4,x8,x9,x10,x5),x6,x11) (gt a1 x12)).bind fun r18=>(if (!decide (r18.2.1=r17.2.2))=true then (Q131.l3 k a0 a1 a2 r17 r18 x12 true) else (Q131.l3 k a0 a1 a2 r17 r18 x12 (!decide (r18.1=r17.2.1)))))))) else none) else ((Q132.f k).bind fun r34=>(some r34))
def Q131.l3:Nat→Ts→Tk→Int→Te→Tb→Int→Bool→Option (Bool)
 | 0,_,_,_,_,_,_,_=>none
 | k+1,a0,a1,a2,r17,r18,x12,x14=>if x14=true then (some false) else ((Q91.f k r18.2.2 a2).bind fun r19=>((Q168.f r17.1 a2).bind fun r20=>(if r20.2.2=true then (if (!decide (r19.2.1=r20.2.1))=true then (Q131.l4 k a0 a1 a2 r17 r19 x12 true) else ((Q161.f k r19.1 r20.1).bind fun r33=>(Q131.l4 k a0 a1 a2 r17 r19 x12 (!r33)))) else (Q131.l4 k a0 a1 a2 r17 r19 x12 false))))
def Q131.l4:Nat→Ts→Tk→Int→Te→Ta→Int→Bool→Option (Bool)
 | 0,_,_,_,_,_,_,_=>none
 | k+1,a0,a1,a2,r17,r19,x12,x15=>if x15=true then (some false) else ((Q90.f r19.2.2).bind fun r21=>((Q138.f k r17.1.2.2.1).bind fun r22=>(if (!decide (r21=r22))=true then (Q131.l5 k a0 a1 a2 r17 r19 x12 true) else ((Q88.f k r19.2.2).bind fun r23=>((Q143.f k r17.1.2.2.1).bind fun r24=>((Q144.f k r23 r24).bind fun r25=>(if (!r25)=true then (Q131.l5 k a0 a1 a2 r17 r19 x12 true) else ((Q87.f r19.2.2 a2).bind fun r26=>(if (decide ((IntKind.u64.wrap (a2))<(IntKind.u64.wrap (a0.1))))=true then (if 0≤a2∧a2<(r17.1.2.2.1.length:Int) then (if (!(r26 == (gt r17.1.2.2.1 a2)))=true then (Q131.l5 k a0 a1 a2 r17 r19 x12 true) else ((Q84.f r19.2.2).bind fun r27=>(if (!((decide (r27.1=a0.1)) && ((decide (r27.2.1=a0.2.1)) && ((decide (r27.2.2.1=a0.2.2.1)) && ((decide (r27.2.2.2.1=a0.2.2.2.1)) && ((decide (r27.2.2.2.2.1=a0.2.2.2.2.1)) && ((decide (r27.2.2.2.2.2.1=a0.2.2.2.2.2.1)) && ((decide (r27.2.2.2.2.2.2.1=a0.2.2.2.2.2.2.1)) && ((decide (r27.2.2.2.2.2.2.2=a0.2.2.2.2.2.2.2)) && true)))))))))=true then (Q131.l5 k a0 a1 a2 r17 r19 x12 true) else ((Q95.f r19.2.2).bind fun r28=>((Q57.f r19.2.2.2.1.1).bind fun r29=>(Q131.l5 k a0 a1 a2 r17 r19 x12 (!((decide (r28.1=r29.1)) && ((decide (r28.2=r29.2)) && true))))))))) else none) else (if (!(r26 == false))=true then (Q131.l5 k a0 a1 a2 r17 r19 x12 true) else ((Q84.f r19.2.2).bind fun r30=>(if (!((decide (r30.1=a0.1)) && ((decide (r30.2.1=a0.2.1)) && ((decide (r30.2.2.1=a0.2.2.1)) && ((decide (r30.2.2.2.1=a0.2.2.2.1)) && ((decide (r30.2.2.2.2.1=a0.2.2.2.2.1)) && ((decide (r30.2.2.2.2.2.1=a0.2.2.2.2.2.1)) && ((decide (r30.2.2.2.2.2.2.1=a0.2.2.2.2.2.2.1)) && ((decide (r30.2.2.2.2.2.2.2=a0.2.2.2.2.2.2.2)) && true)))))))))=true then (Q131.l5 k a0 a1 a2 r17 r19 x12 true) else ((Q95.f r19.2.2).bind fun r31=>((Q57.f r19.2.2.2.1.1).bind fun r32=>(Q131.l5 k a0 a1 a2 r17 r19 x12 (!((decide (r31.1=r32.1)) && ((decide (r31.2=r32.2)) && true))))))))))))))))))
def Q131.l5:Nat→Ts→Tk→Int→Te→Ta→Int→Bool→Option (Bool)
 | 0,_,_,_,_,_,_,_=>none
 | k+1,a0,a1,a2,r17,r19,x12,x16=>if x16=true then (some false) else (Q131.l1 k a0 a1 a2 r19.2.2.1 r19.2.2.2.1.1 r19.2.2.2.1.2.2.2.2 r19.2.2.2.2.1 r17.1 r19.2.2.2.1.2.1 r19.2.2.2.1.2.2.1 r19.2.2.2.1.2.2.2.1 r19.2.2.2.2.2 (w64 (x12+1)))
end
def Q131.l0:Nat→Ts→Tk→Int→TC→Tz→TV→Int→Option (Bool)
 | 0,_,_,_,_,_,_,_=>none
 | k+1,a0,a1,a2,r4,r9,x1,x2=>if (decide (x2<a0.2.2.1))=true then (if (x1.length+([x2]:List Int).length)*8≤140737488355328 then (Q131.l0 k a0 a1 a2 r4 r9 (x1 ++ ([x2]:List Int)) (w64 (x2+1))) else none) else ((Q54.f r4).bind fun r10=>(if (!decide (r10=a0.1))=true then (some false) else ((Q55.f r4).bind fun r11=>(if (!decide (r11=a0.2.1))=true then (some false) else ((Q74.f a0.1).bind fun r12=>(V1 r12.1 (if (!decide (r12.2=0))=true then (some false) else none) (fun r13=>(if (!decide (r12.2=0))=false then ((Q171.f a0).bind fun r14=>(Q131.l1 k a0 a1 a2 a0 r4 r9 r13 r14 (List.replicate a0.2.2.1.toNat ((0,([]:List Int),false,0):Int×List Int×Bool×Int)) ([]:List TU) x1 0 0)) else none))))))))
def Q131.f (k:Nat) (a0:Ts) (a1:Tk) (a2:Int):Option (Bool):=(Q130.f k a0).bind fun r1=>(if (!r1)=true then ((Q132.f k).bind fun r2=>(some r2)) else ((Q59.f a0.1 a0.2.1).bind fun r3=>(V1 r3.1 (if (!decide (r3.2=0))=true then ((Q49.f a0).bind fun r5=>(if (!decide (r5=0))=true then (some false) else (some false))) else none) (fun r4=>(if (!decide (r3.2=0))=false then ((Q49.f a0).bind fun r6=>(if (!decide (r6=0))=true then (some false) else ((Q54.f r4).bind fun r7=>(if (decide (r7=0))=true then (some false) else (if (decide (a0.2.2.1<1))=true then (some false) else (if (decide (64<a0.2.2.1))=true then (some false) else ((Q35.f a0.2.2.1).bind fun r8=>(V1 r8.1 (if (!decide (r8.2=0))=true then (some false) else none) (fun r9=>(if (!decide (r8.2=0))=false then (if 0≤a0.2.2.1∧a0.2.2.1*48≤281474976710656 then (Q131.l0 k a0 a1 a2 r4 r9 ([]:List Int) 0) else none) else none)))))))))) else none)))))
theorem Q131.spec {k a0 a1 a2 A1 c_1 r} (H:Q131.f k a0 a1 a2=some r) :
  Spec Tryz.prog 5 [.agg #[.int .i64 a0.1,.int .i64 a0.2.1,.int .i64 a0.2.2.1,.int .i64 a0.2.2.2.1,.int .i64 a0.2.2.2.2.1,.int .i64 a0.2.2.2.2.2.1,.int .i64 a0.2.2.2.2.2.2.1,.int .i64 a0.2.2.2.2.2.2.2],.slice A1 a1.length c_1,.int .u32 a2] [] [R45 a1 A1 c_1,tabC 0] (fun v l=>v=.bool r∧l=[]):=by
 refine Zj Tryz.func5 fun w0 F0 h0=>?_
 unfold Q131.f at H
 refine T5 (T3 ?_)
 refine rB (Z6 h0) fun b1 w1 h1=>?_
 refine Ze [1,2,3] rfl ?_
 refine T5 (T5 (T3 ?_))
 refine Zc (Zb 0 h1.wht) ?_
 refine cS H [] h1 rfl Q130.spec Zq fun r1 w2 H h2=>?_
 refine Ze [1,2,3,23] rfl ?_
 refine jIf H (fun c1 H=>?_) fun c1 H=>?_
 ·refine T5 (T3 ?_)
  refine cS H [] h2 rfl Q132.spec (gS [2]) fun r2 w3 H h3=>?_
  refine Ze [6] rfl ?_
  cases H
  exact T4 (jR0 h3 [])
 refine T6 (T5 (T3 ?_))
 refine Zc (Zb 0 h2.wht) ?_
 refine Yh Tryz.func14 ?_
 refine T5 (T3 ?_)
 refine rB (Z6 h2) fun b2 w4 h4=>?_
 refine Ze [1] rfl ?_
 refine T5 (T3 ?_)
 refine Zd 1 ?_
 refine Zc (Zb 0 h4.wht) ?_
 refine Zd 1 ?_
 refine Zc (Zb 0 h4.wht) ?_
 refine cE H [] h4 rfl Q59.spec Zq ?_
 rintro r3 w5 _ _ H ⟨v1,l1,ho1,rfl,rfl⟩ h5
 rcases ho2:r3.1 with _ | r4
 ·rw [ho2] at ho1
  obtain ⟨rfl,rfl⟩:=ho1
  replace H:=Uy ho2 H
  obtain ⟨c2,H⟩:=Zm H
  replace h5:=nf h5
  refine Ze [1,4,5] rfl ?_
  refine T5 (T3 ?_)
  refine Zc (Zb 0 h5.wht) ?_
  refine Zd 1 ?_
  refine Yh Tryz.func35 ?_
  refine T5 (T3 ?_)
  refine rB (Z6 h5) fun b3 w6 h6=>?_
  refine Ze [1,2] rfl ?_
  refine T5 (T5 (T3 ?_))
  refine Zc (Zb 0 h6.wht) ?_
  refine cS H [] h6 rfl Q49.spec Zq fun r5 w7 H h7=>?_
  refine Ze [1,2,6] rfl ?_
  refine T5 (Za [1,2,6,13] ?_)
  refine jIf H (fun c4 H=>?_) fun c4 H=>?_
  ·refine T5 (Za [4,5] ?_)
   refine T4 (⟨_,Zk,?_⟩)
   refine Ze [4,5,6,7] rfl ?_
   refine T5 (T5 (T3 ?_))
   refine Zd 3 ?_
   refine Ym 24 (congrArg Value.bool c2) ?_
   refine Ze [4,6,27] rfl ?_
   refine Zo ?_
   refine T5 (Za [2,3] ?_)
   refine T4 (⟨_,Zk,?_⟩)
   refine Ze [1,2,3,7,8] rfl ?_
   have h8:=Zi h7 [2]
   replace h8:=nf h8
   refine T5 (T5 (Za [1,2,3,7,8,31] ?_))
   refine Zo ?_
   refine T5 (Za [6] ?_)
   cases H
   exact T4 (jR0 h8 [])
  refine T6 (T5 (T3 ?_))
  refine Zd 2 ?_
  refine Zc (Zb 0 h7.wht) ?_
  refine Yh Tryz.func85 ?_
  refine T5 (Za [0,1] ?_)
  refine T5 (TX (T5 (T3 ?_)))
  refine Zd 1 ?_
  refine Yh Tryz.func37 ?_
  refine T5 (Za [0] ?_)
  refine T5 (T5 (Za [0,11] ?_))
  refine Zo ?_
  refine T5 (Za [2] ?_)
  refine T4 (⟨_,Zk,?_⟩)
  refine Ze [0,1,10] rfl ?_
  refine Zo ?_
  refine T5 (Za [4,5] ?_)
  refine T4 (⟨_,Zk,?_⟩)
  refine Ze [1,2,7,8] rfl ?_
  refine T5 (T5 (Za [1,2,7,8,23] ?_))
  refine Zo ?_
  refine T5 (Za [4,5] ?_)
  refine T4 (⟨_,Zk,?_⟩)
  refine Ze [4,5,6,7] rfl ?_
  refine T5 (T5 (T3 ?_))
  refine Zd 3 ?_
  refine Ym 24 (congrArg Value.bool c2) ?_
  refine Ze [4,6,27] rfl ?_
  refine Zo ?_
  refine T5 (Za [2,3] ?_)
  refine T4 (⟨_,Zk,?_⟩)
  refine Ze [1,2,3,7,8] rfl ?_
  have h9:=Zi h7 [2]
  replace h9:=nf h9
  refine T5 (T5 (Za [1,2,3,7,8,31] ?_))
  refine Zo ?_
  refine T5 (Za [6] ?_)
  cases H
  exact T4 (jR0 h9 [])
 rw [ho2] at ho1
 obtain ⟨b4,A2,c_2,rfl,rfl⟩:=ho1
 replace H:=Uv ho2 H
 obtain ⟨c3,H⟩:=Zm H
 replace h5:=nf h5
 refine Ze [1,4,5] rfl ?_
 refine T5 (T3 ?_)
 refine Zc (Zb 2 h5.wht) ?_
 refine Zd 1 ?_
 refine Yh Tryz.func35 ?_
 refine T5 (T3 ?_)
 refine rB (Z6 h5) fun b5 w8 h10=>?_
 refine Ze [1,2] rfl ?_
 refine T5 (T5 (T3 ?_))
 refine Zc (Zb 0 h10.wht) ?_
 refine cS H [] h10 rfl Q49.spec Zq fun r6 w9 H h11=>?_
 refine Ze [1,2,6] rfl ?_
 refine T5 (Za [1,2,6,13] ?_)
 refine jIf H (fun c5 H=>?_) fun c5 H=>?_
 ·refine T5 (Za [4,5] ?_)
  refine T4 (⟨_,Zk,?_⟩)
  refine Ze [4,5,6,7] rfl ?_
  refine T5 (T5 (T3 ?_))
  refine Zd 3 ?_
  refine Ym 24 (congrArg Value.bool c3) ?_
  refine Ze [4,6,27] rfl ?_
  refine TY rfl (fun e=>?_) (fun e=>by rw [c5] at e; cases e)
  refine T5 (Za [2,3] ?_)
  refine T4 (⟨_,Zk,?_⟩)
  refine Ze [1,2,3,7,8] rfl ?_
  have h12:=Zi h11 [4]
  replace h12:=nf h12
  refine T5 (T5 (Za [1,2,3,7,8,31] ?_))
  refine Zo ?_
  refine T5 (Za [6] ?_)
  cases H
  exact T4 (jR0 h12 [])
 refine T6 (T5 (T3 ?_))
 refine Zd 2 ?_
 refine Zc (Zb 0 h11.wht) ?_
 refine Yh Tryz.func85 ?_
 refine T5 (Za [0,1] ?_)
 refine T5 (TX (T5 (T3 ?_)))
 refine Zd 1 ?_
 refine cS H [1,1] h11 rfl Q54.spec Zq fun r7 w10 H h13=>?_
 refine Ze [0,1,10] rfl ?_
 refine jIf H (fun c6 H=>?_) fun c6 H=>?_
 ·refine T5 (Za [4,5] ?_)
  refine T4 (⟨_,Zk,?_⟩)
  refine Ze [1,2,7,8] rfl ?_
  refine T5 (T5 (Za [1,2,7,8,23] ?_))
  refine Zo ?_
  refine T5 (Za [4,5] ?_)
  refine T4 (⟨_,Zk,?_⟩)
  refine Ze [4,5,6,7] rfl ?_
  refine T5 (T5 (T3 ?_))
  refine Zd 3 ?_
  refine Ym 24 (congrArg Value.bool c3) ?_
  refine Ze [4,6,27] rfl ?_
  refine Zo ?_
  refine T5 (Za [2,3] ?_)
  refine T4 (⟨_,Zk,?_⟩)
  refine Ze [1,2,3,7,8] rfl ?_
  have h14:=Zi h13 [4]
  replace h14:=nf h14
  refine T5 (T5 (Za [1,2,3,7,8,31] ?_))
  refine Zo ?_
  refine T5 (Za [6] ?_)
  cases H
  exact T4 (jR0 h14 [])
 refine T5 (T3 ?_)
 refine Zd 3 ?_
 refine Z7 17 H (fun c7 H=>?_) fun c7 H=>?_
 ·refine Ze [0,1,14] rfl ?_
  refine Zo ?_
  refine T5 (Za [4,5] ?_)
  refine T4 (⟨_,Zk,?_⟩)
  refine Ze [1,2,7,8] rfl ?_
  refine T5 (T5 (Za [1,2,7,8,23] ?_))
  refine Zo ?_
  refine T5 (Za [4,5] ?_)
  refine T4 (⟨_,Zk,?_⟩)
  refine Ze [4,5,6,7] rfl ?_
  refine T5 (T5 (T3 ?_))
  refine Zd 3 ?_
  refine Ym 24 (congrArg Value.bool c3) ?_
  refine Ze [4,6,27] rfl ?_
  refine Zo ?_
  refine T5 (Za [2,3] ?_)
  refine T4 (⟨_,Zk,?_⟩)
  refine Ze [1,2,3,7,8] rfl ?_
  have h15:=Zi h13 [4]
  replace h15:=nf h15
  refine T5 (T5 (Za [1,2,3,7,8,31] ?_))
  refine Zo ?_
  refine T5 (Za [6] ?_)
  cases H
  exact T4 (jR0 h15 [])
 refine Ze [0,1,14] rfl ?_
 refine jIf H (fun c8 H=>?_) fun c8 H=>?_
 ·refine T5 (Za [4,5] ?_)
  refine T4 (⟨_,Zk,?_⟩)
  refine Ze [1,2,7,8] rfl ?_
  refine T5 (T5 (Za [1,2,7,8,23] ?_))
  refine Zo ?_
  refine T5 (Za [4,5] ?_)
  refine T4 (⟨_,Zk,?_⟩)
  refine Ze [4,5,6,7] rfl ?_
  refine T5 (T5 (T3 ?_))
  refine Zd 3 ?_
  refine Ym 24 (congrArg Value.bool c3) ?_
  refine Ze [4,6,27] rfl ?_
  refine Zo ?_
  refine T5 (Za [2,3] ?_)
  refine T4 (⟨_,Zk,?_⟩)
  refine Ze [1,2,3,7,8] rfl ?_
  have h16:=Zi h13 [4]
  replace h16:=nf h16
  refine T5 (T5 (Za [1,2,3,7,8,31] ?_))
  refine Zo ?_
  refine T5 (Za [6] ?_)
  cases H
  exact T4 (jR0 h16 [])
 refine T6 (T5 (T3 ?_))
 refine Zd 1 ?_
 refine cE H [] h13 rfl Q35.spec Zq ?_
 rintro r8 w11 _ _ H ⟨v2,l2,ho3,rfl,rfl⟩ h17
 rcases ho4:r8.1 with _ | r9
 ·rw [ho4] at ho3
  obtain ⟨rfl,rfl⟩:=ho3
  replace H:=Uy ho4 H
  obtain ⟨c9,H⟩:=Zm H
  replace h17:=nf h17
  refine Ze [0,1,6,7] rfl ?_
  refine T5 (T5 (Za [0,1,6,7,27] ?_))
  refine TY rfl (fun e=>?_) (fun e=>by rw [c9] at e; cases e)
  refine T5 (Za [4,5] ?_)
  refine T4 (⟨_,Zk,?_⟩)
  refine Ze [1,2,7,8] rfl ?_
  refine T5 (T5 (Za [1,2,7,8,23] ?_))
  refine TY rfl (fun e=>?_) (fun e=>by rw [c9] at e; cases e)
  refine T5 (Za [4,5] ?_)
  refine T4 (⟨_,Zk,?_⟩)
  refine Ze [4,5,6,7] rfl ?_
  refine T5 (T5 (T3 ?_))
  refine Zd 3 ?_
  refine Ym 24 (congrArg Value.bool c3) ?_
  refine Ze [4,6,27] rfl ?_
  refine TY rfl (fun e=>?_) (fun e=>by rw [c9] at e; cases e)
  refine T5 (Za [2,3] ?_)
  refine T4 (⟨_,Zk,?_⟩)
  refine Ze [1,2,3,7,8] rfl ?_
  have h18:=Zi h17 [4]
  replace h18:=nf h18
  refine T5 (T5 (Za [1,2,3,7,8,31] ?_))
  refine Zo ?_
  refine T5 (Za [6] ?_)
  cases H
  exact T4 (jR0 h18 [])
 rw [ho4] at ho3
 obtain ⟨b6,A3,c_3,rfl,rfl⟩:=ho3
 replace H:=Uv ho4 H
 obtain ⟨c10,H⟩:=Zm H
 replace h17:=nf h17
 refine Ze [0,1,6,7] rfl ?_
 refine T5 (T5 (Za [0,1,6,7,27] ?_))
 refine TY rfl (fun e=>by rw [c10] at e; cases e) (fun e=>?_)
 refine T6 (T5 (T3 ?_))
 refine Zd 2 ?_
 obtain ⟨⟨p1,p2⟩,H⟩:=Zm H
 refine rB (Zaq Yi (ty:=(.pair (.int .u32) (.pair (.slice 5 (.int .u8)) (.pair .bool (.int .i64))))) ((0,([]:List Int),false,0):Int×List Int×Bool×Int) rfl rfl rfl rfl rfl rfl (fun _ _=>Zjk ⟨none,0,rfl,T7 _,.inl rfl⟩) (by decide) h17 p1 p2) fun b7 w12 h19=>?_
 refine rB (G7 .u32 (Value.int .i64) h19) fun b8 w13 h20=>?_
 refine Zd 2 ?_
 refine rB (Z6 h20) fun b9 w14 h21=>?_
 refine Ze [1,8] rfl ?_
 refine T5 (T5 (Za [8,36,37] ?_))
 refine TX ?_
 have h127:=h21.addNil 3 (.int .i64)
 have h128:=(sOR h127 [1,5,1,2,6,5,4,3,1,0,0] [0,1])
 refine T1 (fun kk env w=>∃ x1 A4 c_4 x2,Q131.l0 kk a0 a1 a2 r4 r9 x1 x2=some r∧env=[(8,.pointer (some ⟨b9,0,none⟩)),(36,.int .i64 a0.2.2.1),(37,.int .i64 x2)]∧St w0 F0 [Xl b9 (.pointer (some ⟨b4,0,none⟩)) (List.replicate a0.2.2.1.toNat ((0,([]:List Int),false,0):Int×List Int×Bool×Int)) (some ⟨b7,0,none⟩) (a0.2.2.1.toNat) (.map (some b8)) x1 A4 c_4 (.pointer (some ⟨b6,0,none⟩)),Xd b4 r4.1 r4.2.1 A2 c_2 r4.2.2.1 r4.2.2.2,Y2 .u32 (Value.int .i64) b8 ([]:List TU),Yx b6 r9.1 A3 c_3 r9.2,X23 b1 a0.1 a0.2.1 a0.2.2.1 a0.2.2.2.1 a0.2.2.2.2.1 a0.2.2.2.2.2.1 a0.2.2.2.2.2.2.1 a0.2.2.2.2.2.2.2,X23 b2 a0.1 a0.2.1 a0.2.2.1 a0.2.2.2.1 a0.2.2.2.2.1 a0.2.2.2.2.2.1 a0.2.2.2.2.2.2.1 a0.2.2.2.2.2.2.2,X23 b5 a0.1 a0.2.1 a0.2.2.1 a0.2.2.2.1 a0.2.2.2.2.1 a0.2.2.2.2.2.1 a0.2.2.2.2.2.2.1 a0.2.2.2.2.2.2.2,O5 r4.2.1 A2 c_2,Xk (List.replicate a0.2.2.1.toNat ((0,([]:List Int),false,0):Int×List Int×Bool×Int)) (some ⟨b7,0,none⟩) (a0.2.2.1.toNat),O3 x1 A4 c_4,Yw r9.1 A3 c_3] [R45 a1 A1 c_1,tabC 0] w) (k:=k) ⟨_,_,_,_,H,rfl,h128⟩ ?_
 rintro k1 env w15 ⟨x1,A4,c_4,x2,H,rfl,h22⟩
 rcases k1 with _ | k1
 ·exact z0 H
 rw [Q131.l0] at H
 refine T5 (Za [8,36,37,38] ?_)
 refine T5 (jIf H (fun c11 H=>?_) fun c11 H=>?_)
 ·refine T6 (T5 (TX (T5 (Za [8,9,36,37] ?_))))
  refine T3 (Zd 4 ?_)
  refine Zc (Zb 0 h22.wht) ?_
  refine Zd 1 ?_
  refine rB (Yy (.int .i64) ([x2]:List Int) h22) fun b10 w16 h23=>?_
  obtain ⟨p3,H⟩:=Zm H
  refine Zv (Yn 10 h23 (gO 0) p3) ?_
  rintro _ w17 ⟨A5,c_5,rfl,h24⟩
  replace h24:=nf h24
  refine Zd 2 ?_
  refine rS (Zt 2 h24) fun _ w18 h25=>?_
  refine Ze [8,36,37] rfl ?_
  refine Za [8,36,37] ?_
  have h26:=(sOR h25 [0,2,2,2,2,2,2,2,2,0,1] [0,1])
  exact ⟨k1,by omega,_,_,_,_,H,rfl,h26⟩
 refine T0 (T5 (Za [4,5] ?_))
 refine T4 (⟨_,Zk,?_⟩)
 refine Ze [1,2,7,8] rfl ?_
 refine T5 (T5 (Za [1,2,7,8,23] ?_))
 refine Z4 ?_
 refine T6 (T5 (T5 ?_))
 refine jH h22 fun h27=>?_
 refine Zp [0,2] ?_
 refine Zf 3 rfl (Zb 6 wI) ?_
 refine cEJ 1 rfl H [1,6] h27 rfl Q54.spec Zq ?_
 rintro r10 w19 _ _ H ⟨rfl,rfl⟩ h28
 replace h28:=nf h28
 refine ⟨⟨[],(Zi h28 [2,0,1,1,1,1,1,0,0,0,0])⟩,?_⟩
 refine Zp [4,5] ?_
 refine Xp 30 H (fun c12 H=>?_) fun c12 H=>?_
 ·refine Zp [6,7,8,9,10,11] ?_
  refine Zu [1,2,7,36] ?_
  refine Zo ?_
  refine T5 (Za [4,5] ?_)
  refine T4 (⟨_,Zk,?_⟩)
  refine Ze [4,5,6,7] rfl ?_
  refine T5 (T5 (T3 ?_))
  refine Zd 3 ?_
  refine Ym 24 (congrArg Value.bool c3) ?_
  refine Ze [4,6,27] rfl ?_
  refine Zo ?_
  refine T5 (Za [2,3] ?_)
  refine T4 (⟨_,Zk,?_⟩)
  refine Ze [1,2,3,7,8] rfl ?_
  have h29:=Zi h28 [5]
  replace h29:=nf h29
  refine T5 (T5 (Za [1,2,3,7,8,31] ?_))
  refine Zo ?_
  refine T5 (Za [6] ?_)
  cases H
  exact T4 (jR0 h29 [])
 refine Zp [6,8] ?_
 refine Zf 9 rfl (Zb 6 wI) ?_
 refine cEJ 7 rfl H [0,0] h28 rfl Q55.spec Zq ?_
 rintro r11 w20 _ _ H ⟨rfl,rfl⟩ h30
 replace h30:=nf h30
 refine ⟨⟨[],(Zi h30 [2,0,1,1,1,1,1,0,0,0,0])⟩,?_⟩
 refine Zp [10,11] ?_
 refine Zu [1,2,7,36] ?_
 refine jIf H (fun c13 H=>?_) fun c13 H=>?_
 ·refine T5 (Za [4,5] ?_)
  refine T4 (⟨_,Zk,?_⟩)
  refine Ze [4,5,6,7] rfl ?_
  refine T5 (T5 (T3 ?_))
  refine Zd 3 ?_
  refine Ym 24 (congrArg Value.bool c3) ?_
  refine Ze [4,6,27] rfl ?_
  refine Zo ?_
  refine T5 (Za [2,3] ?_)
  refine T4 (⟨_,Zk,?_⟩)
  refine Ze [1,2,3,7,8] rfl ?_
  have h31:=Zi h30 [5]
  replace h31:=nf h31
  refine T5 (T5 (Za [1,2,3,7,8,31] ?_))
  refine Zo ?_
  refine T5 (Za [6] ?_)
  cases H
  exact T4 (jR0 h31 [])
 refine T6 (T5 (T3 ?_))
 refine Zd 1 ?_
 refine Zc (Zb 7 h30.wht) ?_
 refine cE H [] h30 rfl Q74.spec Zq ?_
 rintro r12 w21 _ _ H ⟨v3,l3,ho5,rfl,rfl⟩ h32
 rcases ho6:r12.1 with _ | r13
 ·rw [ho6] at ho5
  obtain ⟨rfl,rfl⟩:=ho5
  replace H:=Uy ho6 H
  obtain ⟨c14,H⟩:=Zm H
  replace h32:=nf h32
  refine Ze [1,2,7,8,9] rfl ?_
  refine T5 (T5 (Za [1,2,7,8,9,44] ?_))
  refine TY rfl (fun e=>?_) (fun e=>by rw [c14] at e; cases e)
  refine T5 (Za [4,5] ?_)
  refine T4 (⟨_,Zk,?_⟩)
  refine Ze [4,5,6,7] rfl ?_
  refine T5 (T5 (T3 ?_))
  refine Zd 3 ?_
  refine Ym 24 (congrArg Value.bool c3) ?_
  refine Ze [4,6,27] rfl ?_
  refine TY rfl (fun e=>?_) (fun e=>by rw [c14] at e; cases e)
  refine T5 (Za [2,3] ?_)
  refine T4 (⟨_,Zk,?_⟩)
  refine Ze [1,2,3,7,8] rfl ?_
  have h33:=Zi h32 [5]
  replace h33:=nf h33
  refine T5 (T5 (Za [1,2,3,7,8,31] ?_))
  refine Zo ?_
  refine T5 (Za [6] ?_)
  cases H
  exact T4 (jR0 h33 [])
 rw [ho6] at ho5
 obtain ⟨b11,b12,A6,c_6,rfl,rfl⟩:=ho5
 replace H:=Uv ho6 H
 obtain ⟨c15,H⟩:=Zm H
 replace h32:=nf h32
 refine Ze [1,2,7,8,9] rfl ?_
 refine T5 (T5 (Za [1,2,7,8,9,44] ?_))
 refine TY rfl (fun e=>by rw [c15] at e; cases e) (fun e=>?_)
 refine T6 (T5 (T3 ?_))
 refine Zc (Zb 10 h32.wht) ?_
 refine Zd 4 ?_
 refine rB (Z6 h32) fun b13 w22 h34=>?_
 refine Ze [4,5] rfl ?_
 refine T4 (⟨_,Zk,?_⟩)
 refine Ze [4,5,6,7] rfl ?_
 refine T5 (T5 (T3 ?_))
 refine Zd 3 ?_
 refine Ym 24 (congrArg Value.bool c3) ?_
 refine Ze [4,6,27] rfl ?_
 refine Z4 ?_
 refine T6 (T5 (Za [2,3] ?_))
 refine T4 (⟨_,Zk,?_⟩)
 refine Ze [1,2,3,7,8] rfl ?_
 have h35:=Zi h34 [0,0,0,0,0,0,0,0,0,0,2,2,2]
 replace h35:=nf h35
 refine T5 (T5 (Za [1,2,3,7,8,31] ?_))
 refine Z4 ?_
 refine T6 (T5 (T3 ?_))
 refine Zc (Zb 9 h35.wht) ?_
 obtain ⟨r14,q11,H⟩:=Yf H
 refine Zv (Z1 [] (Q171.spec q11) h35 rfl Zq) ?_
 rintro _ w23 ⟨_,_,⟨A7,c_7,A8,c_8,rfl,rfl,rfl⟩,h36⟩
 replace h36:=nf h36
 refine rB (Yl h36) fun b14 w24 h37=>?_
 refine rS (Zt 0 h37) fun _ w25 h38=>?_
 refine Ze [1,2,3,7,8,9] rfl ?_
 refine T5 (T5 (Za [1,2,3,7,8,9,10] ?_))
 refine TX ?_
 have h125:=h38.freeze (k:=1) rfl Yp
 have h126:=(sOR h125 [10,1,4,5,5,5,1,1,0,1,1,1,1,0] [2,1,0,3])
 refine T1 (fun kk env w=>∃ x3 x4 x5 x6 x7 A9 c_9 x8 A10 c_10 x9 x10 A11 c_11 A12 c_12 A13 c_13 x11 A14 c_14 A15 c_15 x12,Q131.l1 kk a0 a1 a2 x3 x4 x5 x6 x7 x8 x9 x10 x11 x12=some r∧env=[(1,.slice A1 a1.length c_1),(2,.int .u32 a2),(3,.pointer (some ⟨b1,0,none⟩)),(7,.pointer (some ⟨b13,0,none⟩)),(8,.pointer (some ⟨b4,0,none⟩)),(9,.pointer (some ⟨b14,0,none⟩)),(10,.int .i64 x12)]∧St w0 F0 [X23 b1 a0.1 a0.2.1 a0.2.2.1 a0.2.2.2.1 a0.2.2.2.2.1 a0.2.2.2.2.2.1 a0.2.2.2.2.2.2.1 a0.2.2.2.2.2.2.2,X83 b13 x3.1 x3.2.1 x3.2.2.1 x3.2.2.2.1 x3.2.2.2.2.1 x3.2.2.2.2.2.1 x3.2.2.2.2.2.2.1 x3.2.2.2.2.2.2.2 (.pointer (some ⟨b4,0,none⟩)) (.pointer (some ⟨b9,0,none⟩)) (.pointer (some ⟨b11,0,none⟩)) x11,Xd b4 x4.1 x4.2.1 A9 c_9 x4.2.2.1 x4.2.2.2,Xl b9 (.pointer (some ⟨b4,0,none⟩)) x8 A10 c_10 (.map (some b8)) x10 A11 c_11 (.pointer (some ⟨b6,0,none⟩)),Y2 .u32 (Value.int .i64) b8 x9,Yx b6 x5.1 A12 c_12 x5.2,Jk b11 (.pointer (some ⟨b12,0,none⟩)),Wi b12 x6.1 x6.2.1 x6.2.2 A13 c_13,X35 b14 x7.1.1 x7.1.2.1 x7.1.2.2.1 x7.1.2.2.2.1 x7.1.2.2.2.2.1 x7.1.2.2.2.2.2.1 x7.1.2.2.2.2.2.2.1 x7.1.2.2.2.2.2.2.2 x7.2.1 A14 c_14 x7.2.2.1 A15 c_15 x7.2.2.2,O5 x4.2.1 A9 c_9,Xk x8 A10 c_10,O3 x10 A11 c_11,Yw x5.1 A12 c_12,O61 x6.2.2 A13 c_13] [R45 a1 A1 c_1,R53 x7.2.1 A14 c_14,R4 x7.2.2.1 A15 c_15,tabC 0] w) (k:=k1) ⟨_,_,_,_,_,_,_,_,_,_,_,_,_,_,_,_,_,_,_,_,_,_,_,_,H,rfl,h126⟩ ?_
 rintro k2 env w26 ⟨x3,x4,x5,x6,x7,A9,c_9,x8,A10,c_10,x9,x10,A11,c_11,A12,c_12,A13,c_13,x11,A14,c_14,A15,c_15,x12,H,rfl,h39⟩
 rcases k2 with _ | k2
 ·exact z0 H
 rw [Q131.l1] at H
 refine T5 (T5 ?_)
 refine T2 (fun env w=>∃ k3 x13,Q131.l2 k3 a0 a1 a2 x3 x4 x5 x6 x7 x8 x9 x10 x11 x12 x13=some r∧env=[(1,.slice A1 a1.length c_1),(2,.int .u32 a2),(3,.pointer (some ⟨b1,0,none⟩)),(7,.pointer (some ⟨b13,0,none⟩)),(8,.pointer (some ⟨b4,0,none⟩)),(9,.pointer (some ⟨b14,0,none⟩)),(10,.int .i64 x12),(41,.bool x13)]∧St w0 F0 [X23 b1 a0.1 a0.2.1 a0.2.2.1 a0.2.2.2.1 a0.2.2.2.2.1 a0.2.2.2.2.2.1 a0.2.2.2.2.2.2.1 a0.2.2.2.2.2.2.2,X83 b13 x3.1 x3.2.1 x3.2.2.1 x3.2.2.2.1 x3.2.2.2.2.1 x3.2.2.2.2.2.1 x3.2.2.2.2.2.2.1 x3.2.2.2.2.2.2.2 (.pointer (some ⟨b4,0,none⟩)) (.pointer (some ⟨b9,0,none⟩)) (.pointer (some ⟨b11,0,none⟩)) x11,Xd b4 x4.1 x4.2.1 A9 c_9 x4.2.2.1 x4.2.2.2,Xl b9 (.pointer (some ⟨b4,0,none⟩)) x8 A10 c_10 (.map (some b8)) x10 A11 c_11 (.pointer (some ⟨b6,0,none⟩)),Y2 .u32 (Value.int .i64) b8 x9,Yx b6 x5.1 A12 c_12 x5.2,Jk b11 (.pointer (some ⟨b12,0,none⟩)),Wi b12 x6.1 x6.2.1 x6.2.2 A13 c_13,X35 b14 x7.1.1 x7.1.2.1 x7.1.2.2.1 x7.1.2.2.2.1 x7.1.2.2.2.2.1 x7.1.2.2.2.2.2.1 x7.1.2.2.2.2.2.2.1 x7.1.2.2.2.2.2.2.2 x7.2.1 A14 c_14 x7.2.2.1 A15 c_15 x7.2.2.2,O5 x4.2.1 A9 c_9,Xk x8 A10 c_10,O3 x10 A11 c_11,Yw x5.1 A12 c_12,O61 x6.2.2 A13 c_13] [R45 a1 A1 c_1,R53 x7.2.1 A14 c_14,R4 x7.2.2.1 A15 c_15,tabC 0] w∧k3≤k2) ?_ ?_
 ·refine T3 (Zd 5 ?_)
  refine Z7 38 H (fun c31 H=>?_) fun c31 H=>?_
  ·refine Ze [1,2,3,7,8,9,10,41] rfl ?_
   have h123:=(sOR h39 [0,0,0,0,0,0,0,0,0,0,0,0,0,0] [0,1,2,3])
   exact ⟨k2,_,H,rfl,h123,T7 _⟩
  refine Ze [1,2,3,7,8,9,10,41] rfl ?_
  have h124:=(sOR h39 [0,0,0,0,0,0,0,0,0,0,0,0,0,0] [0,1,2,3])
  exact ⟨k2,_,H,rfl,h124,T7 _⟩
 rintro env w28 ⟨k3,x13,H,rfl,h40,hk3⟩
 rcases k3 with _ | k3
 ·exact z0 H
 rw [Q131.l2] at H
 refine jIf H (fun c16 H=>?_) fun c16 H=>?_
 ·refine T6 (T5 (TX (T5 (T5 (T3 ?_)))))
  refine Zd 2 ?_
  obtain ⟨⟨p4,p5⟩,H⟩:=Zm H
  have e1:=Zx h40.wh (Zl 14) p4 p5
  refine Zc (Zg e1 p4 p5) ?_
  refine Zd 1 ?_
  obtain ⟨cs1,h41⟩:=h40.elem 0 rfl p4 p5
  obtain ⟨cs2,cs3,rfl,h42⟩:=Y1 0 h41
  obtain ⟨cs4,cs5,rfl,h43⟩:=Y1 1 h42
  obtain rfl:=X0 (.int .i64) 2 h43
  obtain rfl:=X0 (.int .u32) 0 h43
  obtain ⟨cs6,cs7,rfl,h44⟩:=Y1 1 h43
  obtain ⟨cs8,cs9,rfl,h45⟩:=Y1 1 h44
  obtain ⟨cs10,cs11,rfl,h46⟩:=Y1 1 h45
  obtain ⟨cs12,cs13,rfl,h47⟩:=Y1 1 h46
  obtain rfl:=X0 (.int .i64) 6 h47
  obtain ⟨A16,c_16,rfl⟩:=Y3 4 h47
  obtain ⟨A17,c_17,rfl⟩:=Y3 2 h47
  obtain ⟨A18,c_18,rfl⟩:=Y3 0 h47
  obtain ⟨A19,c_19,rfl⟩:=Y3 1 h47
  refine Zc (W4 2 h47.wht (Zl 27)) ?_
  refine cS H [] h47 rfl Q129.spec (gS [18,16,14,15]) fun r15 w29 H h48=>?_
  refine Ze [1,2,3,7,8,9,10,49] rfl ?_
  refine jIf H (fun c17 H=>?_) fun c17 H=>?_
  ·refine T5 (T3 ?_)
   refine cS H [] h48 rfl Q132.spec (gS [31]) fun r16 w30 H h49=>?_
   refine Ze [6] rfl ?_
   have h50:=Zi h49 []
   replace h50:=nf h50
   cases H
   exact T4 (jR0 h50 [])
  refine T6 (T5 ?_)
  obtain ⟨r17,q14,H⟩:=Yf H
  refine T2 (fun env w=>∃(b15:Nat) (A20:Option Addr) (c_20:Nat) (A21:Option Addr) (c_21:Nat),env=[(1,.slice A1 a1.length c_1),(2,.int .u32 a2),(3,.pointer (some ⟨b1,0,none⟩)),(7,.pointer (some ⟨b13,0,none⟩)),(8,.pointer (some ⟨b4,0,none⟩)),(9,.pointer (some ⟨b14,0,none⟩)),(10,.int .i64 x12),(11,.pointer (some ⟨b15,0,none⟩)),(12,.int .u32 r17.2.1),(13,.int .i64 r17.2.2)]∧St w0 F0 [X35 b15 r17.1.1.1 r17.1.1.2.1 r17.1.1.2.2.1 r17.1.1.2.2.2.1 r17.1.1.2.2.2.2.1 r17.1.1.2.2.2.2.2.1 r17.1.1.2.2.2.2.2.2.1 r17.1.1.2.2.2.2.2.2.2 r17.1.2.1 A20 c_20 r17.1.2.2.1 A21 c_21 r17.1.2.2.2,X23 b1 a0.1 a0.2.1 a0.2.2.1 a0.2.2.2.1 a0.2.2.2.2.1 a0.2.2.2.2.2.1 a0.2.2.2.2.2.2.1 a0.2.2.2.2.2.2.2,X83 b13 x3.1 x3.2.1 x3.2.2.1 x3.2.2.2.1 x3.2.2.2.2.1 x3.2.2.2.2.2.1 x3.2.2.2.2.2.2.1 x3.2.2.2.2.2.2.2 (.pointer (some ⟨b4,0,none⟩)) (.pointer (some ⟨b9,0,none⟩)) (.pointer (some ⟨b11,0,none⟩)) x11,Xd b4 x4.1 x4.2.1 A9 c_9 x4.2.2.1 x4.2.2.2,Xl b9 (.pointer (some ⟨b4,0,none⟩)) x8 A10 c_10 (.map (some b8)) x10 A11 c_11 (.pointer (some ⟨b6,0,none⟩)),Y2 .u32 (Value.int .i64) b8 x9,Yx b6 x5.1 A12 c_12 x5.2,Jk b11 (.pointer (some ⟨b12,0,none⟩)),Wi b12 x6.1 x6.2.1 x6.2.2 A13 c_13,X35 b14 x7.1.1 x7.1.2.1 x7.1.2.2.1 x7.1.2.2.2.1 x7.1.2.2.2.2.1 x7.1.2.2.2.2.2.1 x7.1.2.2.2.2.2.2.1 x7.1.2.2.2.2.2.2.2 x7.2.1 A14 c_14 x7.2.2.1 A15 c_15 x7.2.2.2,O5 x4.2.1 A9 c_9,Xk x8 A10 c_10,O3 x10 A11 c_11,Yw x5.1 A12 c_12,O61 x6.2.2 A13 c_13] [R53 r17.1.2.1 A20 c_20,R4 r17.1.2.2.1 A21 c_21,Y4 ((gt a1 x12).2.2.2.2.2.1) A18 c_18,Y5 ((gt a1 x12).2.2.2.2.2.2) A19 c_19,R9 ((gt a1 x12).2.2.2.2.1) A17 c_17,R33 ((gt a1 x12).2.2.2.1) A16 c_16,R45 a1 A1 c_1,R53 x7.2.1 A14 c_14,R4 x7.2.2.1 A15 c_15,tabC 0] w) ?_ ?_
  ·refine jH h48 fun h54=>?_
   refine Zp [1,2] ?_
   refine Zf 0 rfl (Zb 8 wI) ?_
   refine Zf 3 rfl (Zg e1 p4 p5) ?_
   refine Zf 4 rfl (W4 0 wI (Zl 27)) ?_
   refine TW [5,10] (i:=5) rfl rfl rfl rfl ?_
   refine (Yd ?_ (Yd ?_ Xh))
   ·refine Xz 5 rfl (Z1 [] (Q135.spec q14) h54 rfl (gS [15,16,4,2,0,1])) ?_
    rintro _ w34 ⟨_,_,⟨A22,c_22,A23,c_23,rfl,rfl,rfl⟩,h55⟩
    replace h55:=nf h55
    refine ⟨⟨[],(Xb h55 [2,3,4,5,6,7,8,9,10,11,12,13,14,15,16,17,18,19])⟩,?_⟩
    refine Zp [6,7,8,9] ?_
    refine Yq 10 rfl (Yl h55) ?_
    rintro _ w35 ⟨b16,rfl,h56⟩
    replace h56:=nf h56
    refine ⟨⟨[_],(Xb h56 [2,3,4,5,6,7,8,9,10,11,12,13,14,15,16,17,18,19])⟩,?_⟩
    refine Yq 11 rfl (Zt 0 h56) ?_
    intro _ w36 h57
    replace h57:=nf h57
    refine ⟨⟨[_],(Xb h57 [2,3,4,5,6,7,8,9,10,11,12,13,14,15,16,17,18,19])⟩,?_⟩
    refine Zp [12,13] ?_
    refine Zu [1,2,3,7,8,9,10,11,12,13] ?_
    exact Zw ⟨b16,A22,c_22,A23,c_23,rfl,(sOR h57 [0,0,0,0,0,0,0,0,0,0,0,0,0,0,0] [0,1,2,3,4,6,16,17,18,19])⟩
   ·refine Xz 10 rfl (Yl h54) ?_
    rintro _ w37 ⟨b17,rfl,h58⟩
    replace h58:=nf h58
    refine ⟨⟨[_],h58⟩,?_⟩
    refine Yq 5 rfl (Z1 [] (Q135.spec q14) h58 rfl (gS [15,16,4,2,0,1])) ?_
    rintro _ w38 ⟨_,_,⟨A24,c_24,A25,c_25,rfl,rfl,rfl⟩,h59⟩
    replace h59:=nf h59
    refine ⟨⟨[_],(Xb h59 [2,3,4,5,6,7,8,9,10,11,12,13,14,15,16,17,18,19])⟩,?_⟩
    refine Zp [6,7,8,9] ?_
    refine Yq 11 rfl (Zt 0 h59) ?_
    intro _ w39 h60
    replace h60:=nf h60
    refine ⟨⟨[_],(Xb h60 [2,3,4,5,6,7,8,9,10,11,12,13,14,15,16,17,18,19])⟩,?_⟩
    refine Zp [12,13] ?_
    refine Zu [1,2,3,7,8,9,10,11,12,13] ?_
    exact Zw ⟨b17,A24,c_24,A25,c_25,rfl,(sOR h60 [0,0,0,0,0,0,0,0,0,0,0,0,0,0,0] [0,1,2,3,4,6,16,17,18,19])⟩
  rintro env w40 ⟨b15,A20,c_20,A21,c_21,rfl,h61⟩
  refine T5 (T3 ?_)
  refine Zc (Zb 0 h61.wht) ?_
  refine rS (Zt 9 h61) fun _ w41 h62=>?_
  refine Ze [1,2,3,7,8,9,10,12,13] rfl ?_
  refine T5 (T3 ?_)
  refine Zd 3 ?_
  refine Zc (Zg e1 p4 p5) ?_
  obtain ⟨cs14,h63⟩:=h62.elem 6 rfl p4 p5
  obtain ⟨cs15,cs16,rfl,h64⟩:=Y1 0 h63
  obtain ⟨cs17,cs18,rfl,h65⟩:=Y1 1 h64
  obtain rfl:=X0 (.int .i64) 2 h65
  obtain rfl:=X0 (.int .u32) 0 h65
  obtain ⟨cs19,cs20,rfl,h66⟩:=Y1 1 h65
  obtain ⟨cs21,cs22,rfl,h67⟩:=Y1 1 h66
  obtain ⟨cs23,cs24,rfl,h68⟩:=Y1 1 h67
  obtain ⟨cs25,cs26,rfl,h69⟩:=Y1 1 h68
  obtain rfl:=X0 (.int .i64) 6 h69
  obtain ⟨A26,c_26,rfl⟩:=Y3 4 h69
  obtain ⟨A27,c_27,rfl⟩:=Y3 2 h69
  obtain ⟨A28,c_28,rfl⟩:=Y3 0 h69
  obtain ⟨A29,c_29,rfl⟩:=Y3 1 h69
  refine Zc (W4 0 h69.wht (Zl 28)) ?_
  refine cE H [3,4,3,7,7,3,6,3,5,3,3,3] h69 rfl Q134.spec (gS [7,5,3,4,26]) ?_
  rintro r18 w42 _ _ H ⟨A30,c_30,A31,c_31,A32,c_32,A33,c_33,A34,c_34,rfl,rfl⟩ h70
  replace h70:=nf h70
  refine Ze [1,2,3,7,8,9,10,12,13,14,15] rfl ?_
  refine T5 (T5 ?_)
  refine T2 (fun env w=>∃ k4 x14,Q131.l3 k4 a0 a1 a2 r17 r18 x12 x14=some r∧env=[(1,.slice A1 a1.length c_1),(2,.int .u32 a2),(3,.pointer (some ⟨b1,0,none⟩)),(7,.pointer (some ⟨b13,0,none⟩)),(8,.pointer (some ⟨b4,0,none⟩)),(9,.pointer (some ⟨b14,0,none⟩)),(10,.int .i64 x12),(78,.bool x14)]∧St w0 F0 [X23 b1 a0.1 a0.2.1 a0.2.2.1 a0.2.2.2.1 a0.2.2.2.2.1 a0.2.2.2.2.2.1 a0.2.2.2.2.2.2.1 a0.2.2.2.2.2.2.2,X83 b13 r18.2.2.1.1 r18.2.2.1.2.1 r18.2.2.1.2.2.1 r18.2.2.1.2.2.2.1 r18.2.2.1.2.2.2.2.1 r18.2.2.1.2.2.2.2.2.1 r18.2.2.1.2.2.2.2.2.2.1 r18.2.2.1.2.2.2.2.2.2.2 (.pointer (some ⟨b4,0,none⟩)) (.pointer (some ⟨b9,0,none⟩)) (.pointer (some ⟨b11,0,none⟩)) r18.2.2.2.2.2,Xd b4 r18.2.2.2.1.1.1 r18.2.2.2.1.1.2.1 A30 c_30 r18.2.2.2.1.1.2.2.1 r18.2.2.2.1.1.2.2.2,Xl b9 (.pointer (some ⟨b4,0,none⟩)) r18.2.2.2.1.2.1 A31 c_31 (.map (some b8)) r18.2.2.2.1.2.2.2.1 A32 c_32 (.pointer (some ⟨b6,0,none⟩)),Y2 .u32 (Value.int .i64) b8 r18.2.2.2.1.2.2.1,Yx b6 r18.2.2.2.1.2.2.2.2.1 A33 c_33 r18.2.2.2.1.2.2.2.2.2,Jk b11 (.pointer (some ⟨b12,0,none⟩)),Wi b12 r18.2.2.2.2.1.1 r18.2.2.2.2.1.2.1 r18.2.2.2.2.1.2.2 A34 c_34,X35 b14 r17.1.1.1 r17.1.1.2.1 r17.1.1.2.2.1 r17.1.1.2.2.2.1 r17.1.1.2.2.2.2.1 r17.1.1.2.2.2.2.2.1 r17.1.1.2.2.2.2.2.2.1 r17.1.1.2.2.2.2.2.2.2 r17.1.2.1 A20 c_20 r17.1.2.2.1 A21 c_21 r17.1.2.2.2,O5 r18.2.2.2.1.1.2.1 A30 c_30,Xk r18.2.2.2.1.2.1 A31 c_31,O3 r18.2.2.2.1.2.2.2.1 A32 c_32,Yw r18.2.2.2.1.2.2.2.2.1 A33 c_33,O61 r18.2.2.2.2.1.2.2 A34 c_34] [R45 a1 A1 c_1,R53 r17.1.2.1 A20 c_20,R4 r17.1.2.2.1 A21 c_21,tabC 0] w∧k4≤k3) ?_ ?_
  ·refine T3 (Zd 4 ?_)
   refine Z7 74 H (fun c30 H=>?_) fun c30 H=>?_
   ·refine Ze [1,2,3,7,8,9,10,78] rfl ?_
    have h119:=(sOR h70 [14,0,1,0,2,3,4,4,5,0,0,0,0,0] [20,14,15,23])
    exact ⟨k3,_,H,rfl,h119,T7 _⟩
   refine Ze [1,2,3,7,8,9,10,78] rfl ?_
   have h120:=(sOR h70 [14,0,1,0,2,3,4,4,5,0,0,0,0,0] [20,14,15,23])
   exact ⟨k3,_,H,rfl,h120,T7 _⟩
  rintro env w44 ⟨k4,x14,H,rfl,h71,hk4⟩
  rcases k4 with _ | k4
  ·exact z0 H
  rw [Q131.l3] at H
  refine jIf H (fun c18 H=>?_) fun c18 H=>?_
  ·refine T5 (Za [6] ?_)
   have h72:=Zi h71 []
   replace h72:=nf h72
   cases H
   exact T4 (jR0 h72 [])
  refine T6 (T5 (T3 ?_))
  refine Zd 2 ?_
  refine cE H [1,2,1,6,6,1,5,1,4,1,1,2] h71 rfl Q91.spec Zq ?_
  rintro r19 w45 _ _ H ⟨A35,c_35,A36,c_36,A37,c_37,A38,c_38,A39,c_39,A40,c_40,A41,c_41,A42,c_42,A43,c_43,rfl,rfl⟩ h73
  replace h73:=nf h73
  refine Zd 3 ?_
  refine rB (Yl h73) fun b18 w46 h74=>?_
  refine rS (Zt 0 h74) fun _ w47 h75=>?_
  refine Ze [1,2,3,7,8,9,10,16,17] rfl ?_
  refine T5 (T3 ?_)
  refine Zc (Zb 18 h75.wht) ?_
  refine Zd 1 ?_
  obtain ⟨r20,q17,H⟩:=Yf H
  refine Zv (Z1 [] (Q168.spec q17) h75 rfl (gS [1,2])) ?_
  rintro _ w48 ⟨_,_,⟨A44,c_44,A45,c_45,A46,c_46,A47,c_47,rfl,rfl,rfl⟩,h76⟩
  replace h76:=nf h76
  refine Zd 4 ?_
  refine rB (Yl h76) fun b19 w49 h77=>?_
  refine rS (Zt 0 h77) fun _ w50 h78=>?_
  refine Ze [1,2,3,7,8,9,10,16,17,18,19,20] rfl ?_
  refine T5 (T5 ?_)
  refine T2 (fun env w=>∃ k5 x15,Q131.l4 k5 a0 a1 a2 r17 r19 x12 x15=some r∧env=[(1,.slice A1 a1.length c_1),(2,.int .u32 a2),(3,.pointer (some ⟨b1,0,none⟩)),(7,.pointer (some ⟨b13,0,none⟩)),(8,.pointer (some ⟨b4,0,none⟩)),(9,.pointer (some ⟨b14,0,none⟩)),(10,.int .i64 x12),(103,.bool x15)]∧St w0 F0 [X23 b1 a0.1 a0.2.1 a0.2.2.1 a0.2.2.2.1 a0.2.2.2.2.1 a0.2.2.2.2.2.1 a0.2.2.2.2.2.2.1 a0.2.2.2.2.2.2.2,X83 b13 r19.2.2.1.1 r19.2.2.1.2.1 r19.2.2.1.2.2.1 r19.2.2.1.2.2.2.1 r19.2.2.1.2.2.2.2.1 r19.2.2.1.2.2.2.2.2.1 r19.2.2.1.2.2.2.2.2.2.1 r19.2.2.1.2.2.2.2.2.2.2 (.pointer (some ⟨b4,0,none⟩)) (.pointer (some ⟨b9,0,none⟩)) (.pointer (some ⟨b11,0,none⟩)) r19.2.2.2.2.2,Xd b4 r19.2.2.2.1.1.1 r19.2.2.2.1.1.2.1 A39 c_39 r19.2.2.2.1.1.2.2.1 r19.2.2.2.1.1.2.2.2,Xl b9 (.pointer (some ⟨b4,0,none⟩)) r19.2.2.2.1.2.1 A40 c_40 (.map (some b8)) r19.2.2.2.1.2.2.2.1 A41 c_41 (.pointer (some ⟨b6,0,none⟩)),Y2 .u32 (Value.int .i64) b8 r19.2.2.2.1.2.2.1,Yx b6 r19.2.2.2.1.2.2.2.2.1 A42 c_42 r19.2.2.2.1.2.2.2.2.2,Jk b11 (.pointer (some ⟨b12,0,none⟩)),Wi b12 r19.2.2.2.2.1.1 r19.2.2.2.2.1.2.1 r19.2.2.2.2.1.2.2 A43 c_43,X35 b14 r17.1.1.1 r17.1.1.2.1 r17.1.1.2.2.1 r17.1.1.2.2.2.1 r17.1.1.2.2.2.2.1 r17.1.1.2.2.2.2.2.1 r17.1.1.2.2.2.2.2.2.1 r17.1.1.2.2.2.2.2.2.2 r17.1.2.1 A20 c_20 r17.1.2.2.1 A21 c_21 r17.1.2.2.2,O5 r19.2.2.2.1.1.2.1 A39 c_39,Xk r19.2.2.2.1.2.1 A40 c_40,O3 r19.2.2.2.1.2.2.2.1 A41 c_41,Yw r19.2.2.2.1.2.2.2.2.1 A42 c_42,O61 r19.2.2.2.2.1.2.2 A43 c_43] [R45 a1 A1 c_1,R53 r17.1.2.1 A20 c_20,R4 r17.1.2.2.1 A21 c_21,tabC 0] w∧k5≤k4) ?_ ?_
  ·refine T3 (Zd 2 ?_)
   refine Z7 93 H (fun c28 H=>?_) fun c28 H=>?_
   ·refine Zd 4 ?_
    refine Z7 97 H (fun c29 H=>?_) fun c29 H=>?_
    ·refine Ze [1,2,3,7,8,9,10,103] rfl ?_
     have h112:=Zi h78 [6,6,6,6,6,6,6,6,6,6,6,6,6,6]
     replace h112:=nf h112
     have h113:=(sOR h112 [12,0,1,0,2,3,4,4,5,0,0,0,0,0] [4,5,6,7])
     exact ⟨k4,_,H,rfl,h113,T7 _⟩
    refine Zc (Zb 1 h78.wht) ?_
    refine Zc (Zb 0 h78.wht) ?_
    refine cS H [] h78 rfl Q161.spec (X2 (gO 2) (X2 (gO 3) (X2 (gO 4) (X2 (gO 5) (gS [20,21,22,23]))))) fun r33 w68 H h114=>?_
    refine Ze [1,2,3,7,8,9,10,103] rfl ?_
    have h115:=Zi h114 [6,6,6,6,6,6,6,6,6,6,6,6,6,6]
    replace h115:=nf h115
    have h116:=(sOR h115 [12,0,1,0,2,3,4,4,5,0,0,0,0,0] [4,5,6,7])
    exact ⟨k4,_,H,rfl,h116,T7 _⟩
   refine Ze [1,2,3,7,8,9,10,103] rfl ?_
   have h117:=Zi h78 [6,6,6,6,6,6,6,6,6,6,6,6,6,6]
   replace h117:=nf h117
   have h118:=(sOR h117 [12,0,1,0,2,3,4,4,5,0,0,0,0,0] [4,5,6,7])
   exact ⟨k4,_,H,rfl,h118,T7 _⟩
  rintro env w52 ⟨k5,x15,H,rfl,h79,hk5⟩
  rcases k5 with _ | k5
  ·exact z0 H
  rw [Q131.l4] at H
  refine jIf H (fun c19 H=>?_) fun c19 H=>?_
  ·refine T5 (Za [6] ?_)
   have h80:=Zi h79 []
   replace h80:=nf h80
   cases H
   exact T4 (jR0 h80 [])
  refine T6 (T5 (T2 (fun env w=>∃ k6 x16,Q131.l5 k6 a0 a1 a2 r17 r19 x12 x16=some r∧env=[(1,.slice A1 a1.length c_1),(2,.int .u32 a2),(3,.pointer (some ⟨b1,0,none⟩)),(7,.pointer (some ⟨b13,0,none⟩)),(8,.pointer (some ⟨b4,0,none⟩)),(9,.pointer (some ⟨b14,0,none⟩)),(10,.int .i64 x12),(150,.bool x16)]∧St w0 F0 [X23 b1 a0.1 a0.2.1 a0.2.2.1 a0.2.2.2.1 a0.2.2.2.2.1 a0.2.2.2.2.2.1 a0.2.2.2.2.2.2.1 a0.2.2.2.2.2.2.2,X83 b13 r19.2.2.1.1 r19.2.2.1.2.1 r19.2.2.1.2.2.1 r19.2.2.1.2.2.2.1 r19.2.2.1.2.2.2.2.1 r19.2.2.1.2.2.2.2.2.1 r19.2.2.1.2.2.2.2.2.2.1 r19.2.2.1.2.2.2.2.2.2.2 (.pointer (some ⟨b4,0,none⟩)) (.pointer (some ⟨b9,0,none⟩)) (.pointer (some ⟨b11,0,none⟩)) r19.2.2.2.2.2,Xd b4 r19.2.2.2.1.1.1 r19.2.2.2.1.1.2.1 A39 c_39 r19.2.2.2.1.1.2.2.1 r19.2.2.2.1.1.2.2.2,Xl b9 (.pointer (some ⟨b4,0,none⟩)) r19.2.2.2.1.2.1 A40 c_40 (.map (some b8)) r19.2.2.2.1.2.2.2.1 A41 c_41 (.pointer (some ⟨b6,0,none⟩)),Y2 .u32 (Value.int .i64) b8 r19.2.2.2.1.2.2.1,Yx b6 r19.2.2.2.1.2.2.2.2.1 A42 c_42 r19.2.2.2.1.2.2.2.2.2,Jk b11 (.pointer (some ⟨b12,0,none⟩)),Wi b12 r19.2.2.2.2.1.1 r19.2.2.2.2.1.2.1 r19.2.2.2.2.1.2.2 A43 c_43,X35 b14 r17.1.1.1 r17.1.1.2.1 r17.1.1.2.2.1 r17.1.1.2.2.2.1 r17.1.1.2.2.2.2.1 r17.1.1.2.2.2.2.2.1 r17.1.1.2.2.2.2.2.2.1 r17.1.1.2.2.2.2.2.2.2 r17.1.2.1 A20 c_20 r17.1.2.2.1 A21 c_21 r17.1.2.2.2,O5 r19.2.2.2.1.1.2.1 A39 c_39,Xk r19.2.2.2.1.2.1 A40 c_40,O3 r19.2.2.2.1.2.2.2.1 A41 c_41,Yw r19.2.2.2.1.2.2.2.2.1 A42 c_42,O61 r19.2.2.2.2.1.2.2 A43 c_43] [R45 a1 A1 c_1,R53 r17.1.2.1 A20 c_20,R4 r17.1.2.2.1 A21 c_21,tabC 0] w∧k6≤k5) ?_ ?_))
  ·refine jH h79 fun h84=>?_
   refine Zp [0,2] ?_
   refine Zf 3 rfl (Zb 8 wI) ?_
   refine cEJ 1 rfl H [1,2,1,6,6,1,5,1,4,1,1,2] h84 rfl Q90.spec Zq ?_
   rintro r21 w55 _ _ H ⟨rfl,rfl⟩ h85
   replace h85:=nf h85
   refine ⟨⟨[],(Zi h85 [12,0,1,0,2,3,4,4,5,0,0,0,0,0])⟩,?_⟩
   refine cEJ 4 rfl H [] h85 rfl Q138.spec (gS [16]) ?_
   rintro r22 w56 _ _ H ⟨rfl,rfl⟩ h86
   replace h86:=nf h86
   refine ⟨⟨[],(Zi h86 [12,0,1,0,2,3,4,4,5,0,0,0,0,0])⟩,?_⟩
   refine Zp [5,6] ?_
   refine Xp 110 H (fun c21 H=>?_) fun c21 H=>?_
   ·refine Zp [7,8,9,10,11,12,13,14,15,16,17,18,19,20,21,22,23,24,25,26,27,28,29,30,31,32,33,34,35,36,37,38,39,40,41,42,43,44,45,46] ?_
    refine Zu [1,2,3,7,8,9,10,150] ?_
    have h87:=(sOR h86 [12,0,1,0,2,3,4,4,5,0,0,0,0,0] [0,1,2,3])
    exact ⟨k5,_,H,rfl,h87,T7 _⟩
   refine Zp [7,9] ?_
   refine Zf 10 rfl (Zb 8 wI) ?_
   refine cEJ 8 rfl H [0,0,0,0,0,0,0,0,0,0,0,0] h86 rfl Q88.spec (gS [5]) ?_
   rintro r23 w57 _ _ H ⟨A48,c_48,rfl,rfl⟩ h88
   replace h88:=nf h88
   refine ⟨⟨[_],(Zi h88 [0,12,0,1,0,2,3,4,4,5,0,0,0,0,0])⟩,?_⟩
   refine cEJ 11 rfl H [] h88 rfl Q143.spec (gS [17]) ?_
   rintro r24 w58 _ _ H ⟨A49,c_49,rfl,rfl⟩ h89
   replace h89:=nf h89
   refine ⟨⟨[_,_],(Zi h89 [0,0,12,0,1,0,2,3,4,4,5,0,0,0,0,0])⟩,?_⟩
   refine cEJ 12 rfl H [] h89 rfl Q144.spec (X2 (gO 1) (X2 (gO 0) Zq)) ?_
   rintro r25 w59 _ _ H ⟨rfl,rfl⟩ h90
   replace h90:=nf h90
   refine ⟨⟨[_,_],(Zi h90 [0,0,12,0,1,0,2,3,4,4,5,0,0,0,0,0])⟩,?_⟩
   refine Zp [13,14,15] ?_
   refine Xp 119 H (fun c22 H=>?_) fun c22 H=>?_
   ·refine Zp [16,17,18,19,20,21,22,23,24,25,26,27,28,29,30,31,32,33,34,35,36,37,38,39,40,41,42,43,44,45,46] ?_
    refine Zu [1,2,3,7,8,9,10,150] ?_
    have h91:=Zi h90 [2,2,2,2,2,2,2,2,2,2,2,2,2,2]
    replace h91:=nf h91
    have h92:=(sOR h91 [12,0,1,0,2,3,4,4,5,0,0,0,0,0] [0,1,2,3])
    exact ⟨k5,_,H,rfl,h92,T7 _⟩
   refine Zp [16,17,19,20,21] ?_
   refine Zf 22 rfl (Zb 0 wI) ?_
   refine Zp [23,24] ?_
   refine cEJ 18 rfl H [2,2,2,2,2,2,2,2,2,2,2,2] h90 rfl Q87.spec Zq ?_
   rintro r26 w60 _ _ H ⟨rfl,rfl⟩ h93
   replace h93:=nf h93
   refine ⟨⟨[_,_],(Zi h93 [12,12,12,0,1,0,2,3,4,4,5,0,0,0,0,0])⟩,?_⟩
   refine Zp [25] ?_
   refine Xp 129 H (fun c23 H=>?_) fun c23 H=>?_
   ·refine Zp [26,28] ?_
    refine Zf 27 rfl (Zb 8 wI) ?_
    obtain ⟨⟨p6,p7⟩,H⟩:=Zm H
    have e2:=Zx h93.wh (Zl 18) p6 p7
    refine Zf 29 rfl (Zg e2 p6 p7) ?_
    refine Zf 30 rfl (Zh 0 wI (Zl 16) p6 p7) ?_
    refine Zp [31,32,33,34] ?_
    refine Xp 138 H (fun c24 H=>?_) fun c24 H=>?_
    ·refine Zp [35,36,37,38,39,40,41,42,43,44,45,46] ?_
     refine Zu [1,2,3,7,8,9,10,150] ?_
     have h94:=Zi h93 [0,0,0,0,0,0,0,0,0,0,0,0,2,2]
     replace h94:=nf h94
     have h95:=(sOR h94 [12,0,1,0,2,3,4,4,5,0,0,0,0,0] [0,1,2,3])
     exact ⟨k5,_,H,rfl,h95,T7 _⟩
    refine Zp [35] ?_
    refine Zf 37 rfl (Zb 0 wI) ?_
    refine cEJ 36 rfl H [0,0,0,0,0,0,0,0,0,0,0,0] h93 rfl Q84.spec Zq ?_
    rintro r27 w61 _ _ H ⟨rfl,rfl⟩ h96
    replace h96:=nf h96
    refine ⟨⟨[_,_],(Zi h96 [12,12,12,0,1,0,2,3,4,4,5,0,0,0,0,0])⟩,?_⟩
    refine Zp [38,39,40] ?_
    refine Xp 144 H (fun c25 H=>?_) fun c25 H=>?_
    ·refine Zp [41,42,43,44,45,46] ?_
     refine Zu [1,2,3,7,8,9,10,150] ?_
     have h97:=Zi h96 [0,0,0,0,0,0,0,0,0,0,0,0,2,2]
     replace h97:=nf h97
     have h98:=(sOR h97 [12,0,1,0,2,3,4,4,5,0,0,0,0,0] [0,1,2,3])
     exact ⟨k5,_,H,rfl,h98,T7 _⟩
    refine Zp [41,43] ?_
    refine cEJ 42 rfl H [0,0,0,0,0,0,0,0,0,0,0,0] h96 rfl Q95.spec Zq ?_
    rintro r28 w62 _ _ H ⟨rfl,rfl⟩ h99
    replace h99:=nf h99
    refine ⟨⟨[_,_],(Zi h99 [12,12,12,0,1,0,2,3,4,4,5,0,0,0,0,0])⟩,?_⟩
    refine cEJ 44 rfl H [2,2] h99 rfl Q57.spec Zq ?_
    rintro r29 w63 _ _ H ⟨rfl,rfl⟩ h100
    replace h100:=nf h100
    refine ⟨⟨[_,_],(Zi h100 [12,12,12,2,0,1,2,3,4,4,5,0,0,0,0,0])⟩,?_⟩
    refine Zp [45,46] ?_
    refine Zu [1,2,3,7,8,9,10,150] ?_
    have h101:=Zi h100 [0,0,0,0,0,0,0,0,0,0,0,0,2,2]
    replace h101:=nf h101
    have h102:=(sOR h101 [12,2,0,1,2,3,4,4,5,0,0,0,0,0] [0,1,2,3])
    exact ⟨k5,_,H,rfl,h102,T7 _⟩
   refine Zp [26,27,28,29,30,31,32,33,34] ?_
   refine Xp 138 H (fun c26 H=>?_) fun c26 H=>?_
   ·refine Zp [35,36,37,38,39,40,41,42,43,44,45,46] ?_
    refine Zu [1,2,3,7,8,9,10,150] ?_
    have h103:=Zi h93 [0,0,0,0,0,0,0,0,0,0,0,0,2,2]
    replace h103:=nf h103
    have h104:=(sOR h103 [12,0,1,0,2,3,4,4,5,0,0,0,0,0] [0,1,2,3])
    exact ⟨k5,_,H,rfl,h104,T7 _⟩
   refine Zp [35] ?_
   refine Zf 37 rfl (Zb 0 wI) ?_
   refine cEJ 36 rfl H [0,0,0,0,0,0,0,0,0,0,0,0] h93 rfl Q84.spec Zq ?_
   rintro r30 w65 _ _ H ⟨rfl,rfl⟩ h105
   replace h105:=nf h105
   refine ⟨⟨[_,_],(Zi h105 [12,12,12,0,1,0,2,3,4,4,5,0,0,0,0,0])⟩,?_⟩
   refine Zp [38,39,40] ?_
   refine Xp 144 H (fun c27 H=>?_) fun c27 H=>?_
   ·refine Zp [41,42,43,44,45,46] ?_
    refine Zu [1,2,3,7,8,9,10,150] ?_
    have h106:=Zi h105 [0,0,0,0,0,0,0,0,0,0,0,0,2,2]
    replace h106:=nf h106
    have h107:=(sOR h106 [12,0,1,0,2,3,4,4,5,0,0,0,0,0] [0,1,2,3])
    exact ⟨k5,_,H,rfl,h107,T7 _⟩
   refine Zp [41,43] ?_
   refine cEJ 42 rfl H [0,0,0,0,0,0,0,0,0,0,0,0] h105 rfl Q95.spec Zq ?_
   rintro r31 w66 _ _ H ⟨rfl,rfl⟩ h108
   replace h108:=nf h108
   refine ⟨⟨[_,_],(Zi h108 [12,12,12,0,1,0,2,3,4,4,5,0,0,0,0,0])⟩,?_⟩
   refine cEJ 44 rfl H [2,2] h108 rfl Q57.spec Zq ?_
   rintro r32 w67 _ _ H ⟨rfl,rfl⟩ h109
   replace h109:=nf h109
   refine ⟨⟨[_,_],(Zi h109 [12,12,12,2,0,1,2,3,4,4,5,0,0,0,0,0])⟩,?_⟩
   refine Zp [45,46] ?_
   refine Zu [1,2,3,7,8,9,10,150] ?_
   have h110:=Zi h109 [0,0,0,0,0,0,0,0,0,0,0,0,2,2]
   replace h110:=nf h110
   have h111:=(sOR h110 [12,2,0,1,2,3,4,4,5,0,0,0,0,0] [0,1,2,3])
   exact ⟨k5,_,H,rfl,h111,T7 _⟩
  rintro env w54 ⟨k6,x16,H,rfl,h81,hk6⟩
  rcases k6 with _ | k6
  ·exact z0 H
  rw [Q131.l5] at H
  refine jIf H (fun c20 H=>?_) fun c20 H=>?_
  ·refine T5 (Za [6] ?_)
   have h82:=Zi h81 []
   replace h82:=nf h82
   cases H
   exact T4 (jR0 h82 [])
  refine T6 (Za [1,2,3,7,8,9,10] ?_)
  have h83:=(sOR h81 [0,0,0,0,0,0,0,0,0,0,0,0,0,0] [0,1,2,3])
  exact ⟨k6,by omega,_,_,_,_,_,_,_,_,_,_,_,_,_,_,_,_,_,_,_,_,_,_,_,_,H,rfl,h83⟩
 refine T0 (T5 (T3 ?_))
 refine cS H [] h40 rfl Q132.spec (gS [17]) fun r34 w69 H h121=>?_
 refine Ze [6] rfl ?_
 have h122:=Zi h121 []
 replace h122:=nf h122
 cases H
 exact T4 (jR0 h122 [])

end Go.SK.T
