/- The functions, further. -/
import Derived.Test.YtgdmpkhmedbnpaaGreatDoorXShelfFlushedF7
set_option linter.unusedVariables false
set_option linter.unusedSimpArgs false
set_option maxRecDepth 20000
set_option maxHeartbeats 40000000
namespace Go.SK.T
open Go Go.SK Go.Proofs
def Q14.l0:Nat→Ti→TU→TU→Int→Option TU
 | 0,_,_,_,_=>none
 | k+1,a0,r2,x1,x2=>if (decide (x2<(r2.length:Int)))=true then (if 0≤x2∧x2<(r2.length:Int) then (if 0≤(Zq (0:Int) a0.2.2.1 (gt r2 x2))∧(Zq (0:Int) a0.2.2.1 (gt r2 x2))<(a0.2.1.length:Int) then (if (gt a0.2.1 (Zq (0:Int) a0.2.2.1 (gt r2 x2))).2.2.1=true then (if (x1.length+([(gt r2 x2)]:List Int).length)*4≤140737488355328 then (Q14.l0 k a0 r2 (x1 ++ ([(gt r2 x2)]:List Int)) (w64 (x2+1))) else none) else (Q14.l0 k a0 r2 x1 (w64 (x2+1)))) else none) else none) else (some x1)
def Q14.f (k:Nat) (a0:Ti):Option TU:=(Q23.f a0).bind fun r1=>(if r1=true then (some ([]:List Int)) else ((Q166.f a0.2.2.1).bind fun r2=>(Q14.l0 k a0 r2 ([]:List Int) 0)))
theorem Q14.spec {k a0 b1 b2 b3 b4 A1 c_1 A2 c_2 A3 c_3 A4 c_4 r} (H:Q14.f k a0=some r) :
  Spec Tryz.prog 109 [.pointer (some ⟨b1,0,none⟩)] (Wf a0 b1 b2 b3 b4 A1 A2 A3 A4 c_1 c_2 c_3 c_4) [] (fun v l=>∃ A_0 c_0,v=.slice A_0 r.length c_0∧l=[O33 r A_0 c_0] ++ Wf a0 b1 b2 b3 b4 A1 A2 A3 A4 c_1 c_2 c_3 c_4):=by
 refine Zi Tryz.func109 fun w0 F0 h0=>?_
 replace h0:=nf h0
 unfold Q14.f at H
 refine T4 (Za [0] ?_)
 refine T4 (T4 (T2 ?_))
 refine Zd 1 ?_
 refine cS H [0,0,0,0,0,0,0,0] h0 rfl Q23.spec Zp fun r1 w1 H h1=>?_
 refine Ze [0,7] rfl ?_
 refine jIf H (fun c1 H=>?_) fun c1 H=>?_
 ·refine T4 (Za [2] ?_)
  have h2:=h1.addNil 33 (.int .u32)
  cases H
  exact T3 (jR ⟨_,_,rfl,rfl⟩ h2 [0,0,0,0,0,0,0,0,0])
 refine T5 (T4 (Za [0,3] ?_))
 refine T4 (T4 (T2 ?_))
 refine Zd 3 ?_
 refine Zc (Zb 0 h1.wht) ?_
 refine Zv (Xk [] keys.spec h1 rfl Zp) ?_
 rintro _ w2 ⟨_,⟨b5,rfl,rfl⟩,h3⟩
 replace h3:=nf h3
 refine cE H [0,4] h3 rfl Q166.spec Zp ?_
 rintro r2 w3 _ _ H ⟨A5,c_5,rfl,rfl⟩ h4
 replace h4:=nf h4
 refine Ze [0,3,13,14,15] rfl ?_
 refine TW ?_
 have h11:=h4.addNil 33 (.int .u32)
 have h12:=(sOR h11 [4,4,3,6,3,3,3,3,0,0] [])
 refine T0 (fun kk env w=>∃ x1 A6 c_6 x2,Q14.l0 kk a0 r2 x1 x2=some r∧env=[(0,.pointer (some ⟨b1,0,none⟩)),(3,.slice A6 x1.length c_6),(13,.slice A5 r2.length c_5),(14,.int .i64 (r2.length:Int)),(15,.int .i64 x2)]∧St w0 F0 [Xp b1 (.pointer (some ⟨b2,0,none⟩)) a0.2.1 A2 c_2 (.map (some b3)) a0.2.2.2.1 A3 c_3 (.pointer (some ⟨b4,0,none⟩)),Xf b2 a0.1.1 a0.1.2.1 A1 c_1 a0.1.2.2.1 a0.1.2.2.2,Y2 .u32 (Value.int .i64) b3 a0.2.2.1,Yx b4 a0.2.2.2.2.1 A4 c_4 a0.2.2.2.2.2,O5 a0.1.2.1 A1 c_1,Xm a0.2.1 A2 c_2,O3 a0.2.2.2.1 A3 c_3,Yy a0.2.2.2.2.1 A4 c_4,O33 x1 A6 c_6,O33 r2 A5 c_5] [] w) (k:=k) ⟨_,_,_,_,H,rfl,h12⟩ ?_
 rintro k1 env w4 ⟨x1,A6,c_6,x2,H,rfl,h5⟩
 rcases k1 with _ | k1
 ·exact z0 H
 rw [Q14.l0] at H
 refine T4 (Za [0,3,13,14,15,16] ?_)
 refine T4 (jIf H (fun c2 H=>?_) fun c2 H=>?_)
 ·refine T5 (T4 (TW (T4 (T2 ?_))))
  obtain ⟨⟨p1,p2⟩,H⟩:=Zl H
  have e1:=Zx h5.wh (gO 9) p1 p2
  refine Zc (Zg e1 p1 p2) ?_
  refine Zc (Zh 0 h5.wht (gO 9) p1 p2) ?_
  refine Ze [0,3,5,13,14,15] rfl ?_
  refine T4 (jH h5 fun h6=>?_)
  refine Zo [0,1,2,4,5,6,8] ?_
  refine Zf 3 rfl (Zb 0 wI) ?_
  refine Zf 7 rfl (Zb 0 wI) ?_
  refine Zf 9 rfl (J0 (0:Int) 2 wI) ?_
  obtain ⟨⟨p3,p4⟩,H⟩:=Zl H
  have e2:=Zx h6.wh (gO 5) p3 p4
  refine Zf 10 rfl (Zg e2 p3 p4) ?_
  refine Zo [11] ?_
  refine Zf 12 rfl (Yn 2 wI (gO 5) p3 p4) ?_
  refine Zt [0,3,5,13,14,15,31] ?_
  refine jIf H (fun c3 H=>?_) fun c3 H=>?_
  ·refine T2 (Zd 2 ?_)
   refine rB (Y6 (.int .u32) ([(gt r2 x2)]:List Int) h6) fun b6 w5 h7=>?_
   obtain ⟨p5,H⟩:=Zl H
   refine Zv (Yq 9 h7 (gO 0) p5) ?_
   rintro _ w6 ⟨A7,c_7,rfl,h8⟩
   replace h8:=nf h8
   refine Ze [0,3,13,14,15] rfl ?_
   refine Za [0,3,13,14,15] ?_
   have h9:=(sOR h8 [2,2,2,2,2,2,2,2,0,1] [])
   exact ⟨k1,by omega,_,_,_,_,H,rfl,h9⟩
  refine T5 (Za [0,3,13,14,15] ?_)
  have h10:=(sOR h6 [0,0,0,0,0,0,0,0,0,0] [])
  exact ⟨k1,by omega,_,_,_,_,H,rfl,h10⟩
 refine TZ (T4 (Za [2] ?_))
 cases H
 exact T3 (jR ⟨_,_,rfl,rfl⟩ h5 [8,0,0,2,2,0,1,0,0])

def Q16.l0:Nat→Ti→TU→Int→TU→Int→Int→Tv→Int→Option Th
 | 0,_,_,_,_,_,_,_,_=>none
 | k+1,a0,r2,x1,x2,x3,x4,x5,x6=>if (decide (x6<(r2.length:Int)))=true then (if 0≤x6∧x6<(r2.length:Int) then (if 0≤(Zq (0:Int) a0.2.2.1 (gt r2 x6))∧(Zq (0:Int) a0.2.2.1 (gt r2 x6))<(x5.length:Int) then (if (gt x5 (Zq (0:Int) a0.2.2.1 (gt r2 x6))).2.2.1=true then ((Q56.f (x1,x2,(x3,x4)) ((gt x5 (Zq (0:Int) a0.2.2.1 (gt r2 x6))).1) ((gt x5 (Zq (0:Int) a0.2.2.1 (gt r2 x6))).2.1)).bind fun r3=>(Q16.l0 k a0 r2 r3.2.1 r3.2.2.1 r3.2.2.2.1 r3.2.2.2.2 (x5.set (Zq (0:Int) a0.2.2.1 (gt r2 x6)).toNat ((gt x5 (Zq (0:Int) a0.2.2.1 (gt r2 x6))).1,(gt x5 (Zq (0:Int) a0.2.2.1 (gt r2 x6))).2.1,false,(gt x5 (Zq (0:Int) a0.2.2.1 (gt r2 x6))).2.2.2)) (w64 (x6+1)))) else (Q16.l0 k a0 r2 x1 x2 x3 x4 x5 (w64 (x6+1)))) else none) else none) else (some (0,((x1,x2,(x3,x4)),x5,a0.2.2.1,a0.2.2.2.1,a0.2.2.2.2)))
def Q16.f (k:Nat) (a0:Ti):Option Th:=(Q23.f a0).bind fun r1=>(if r1=true then (some (1,a0)) else ((Q14.f k a0).bind fun r2=>(Q16.l0 k a0 r2 a0.1.1 a0.1.2.1 a0.1.2.2.1 a0.1.2.2.2 a0.2.1 0)))
theorem Q16.spec {k a0 b1 b2 b3 b4 A1 c_1 A2 c_2 A3 c_3 A4 c_4 r} (H:Q16.f k a0=some r) :
  Spec Tryz.prog 61 [.pointer (some ⟨b1,0,none⟩)] (Wf a0 b1 b2 b3 b4 A1 A2 A3 A4 c_1 c_2 c_3 c_4) [] (fun v l=>∃ A_0 c_0 A_1 c_1 A_2 c_2 A_3 c_3,v=.int .i64 r.1∧l=Wf r.2 b1 b2 b3 b4 A_0 A_1 A_2 A_3 c_0 c_1 c_2 c_3):=by
 refine Zi Tryz.func61 fun w0 F0 h0=>?_
 replace h0:=nf h0
 unfold Q16.f at H
 refine T4 (Za [0] ?_)
 refine T4 (T4 (T2 ?_))
 refine Zd 1 ?_
 refine cS H [0,0,0,0,0,0,0,0] h0 rfl Q23.spec Zp fun r1 w1 H h1=>?_
 refine Ze [0,6] rfl ?_
 refine jIf H (fun c1 H=>?_) fun c1 H=>?_
 ·refine T4 (Za [2] ?_)
  cases H
  exact T3 (jR ⟨_,_,_,_,_,_,_,_,rfl,rfl⟩ h1 [0,0,0,0,0,0,0,0])
 refine T5 (T4 (T4 (T2 ?_)))
 refine Zd 1 ?_
 refine cE H [0,0,0,0,0,0,0,0] h1 rfl Q14.spec Zp ?_
 rintro r2 w2 _ _ H ⟨A5,c_5,rfl,rfl⟩ h2
 replace h2:=nf h2
 refine Ze [0,8,9,10] rfl ?_
 refine TW ?_
 have h12:=(sOR h2 [1,1,3,4,1,1,1,1,0] [])
 refine T0 (fun kk env w=>∃ x1 x2 A6 c_6 x3 x4 x5 A7 c_7 x6,Q16.l0 kk a0 r2 x1 x2 x3 x4 x5 x6=some r∧env=[(0,.pointer (some ⟨b1,0,none⟩)),(8,.slice A5 r2.length c_5),(9,.int .i64 (r2.length:Int)),(10,.int .i64 x6)]∧St w0 F0 [Xp b1 (.pointer (some ⟨b2,0,none⟩)) x5 A7 c_7 (.map (some b3)) a0.2.2.2.1 A3 c_3 (.pointer (some ⟨b4,0,none⟩)),Xf b2 x1 x2 A6 c_6 x3 x4,Y2 .u32 (Value.int .i64) b3 a0.2.2.1,Yx b4 a0.2.2.2.2.1 A4 c_4 a0.2.2.2.2.2,O5 x2 A6 c_6,Xm x5 A7 c_7,O3 a0.2.2.2.1 A3 c_3,Yy a0.2.2.2.2.1 A4 c_4,O33 r2 A5 c_5] [] w) (k:=k) ⟨_,_,_,_,_,_,_,_,_,_,H,rfl,h12⟩ ?_
 rintro k1 env w3 ⟨x1,x2,A6,c_6,x3,x4,x5,A7,c_7,x6,H,rfl,h3⟩
 rcases k1 with _ | k1
 ·exact z0 H
 rw [Q16.l0] at H
 refine T4 (Za [0,8,9,10,11] ?_)
 refine T4 (jIf H (fun c2 H=>?_) fun c2 H=>?_)
 ·refine T5 (T4 (TW (T4 (T2 ?_))))
  obtain ⟨⟨p1,p2⟩,H⟩:=Zl H
  have e1:=Zx h3.wh (gO 8) p1 p2
  refine Zc (Zg e1 p1 p2) ?_
  refine Zc (Zh 0 h3.wht (gO 8) p1 p2) ?_
  refine Ze [0,4,8,9,10] rfl ?_
  refine Zw (sO h3 [0,1,1,3,3,3]) ?_
  have h4:=h3.drew
  refine Zo [0,1,2,3,5,6,7,9] ?_
  refine Zf 4 rfl (Zb 0 wI) ?_
  refine Zf 8 rfl (Zb 0 wI) ?_
  refine Zf 10 rfl (J0 (0:Int) 1 wI) ?_
  obtain ⟨⟨p3,p4⟩,H⟩:=Zl H
  have e2:=Zx h4.wh (gO 5) p3 p4
  refine Zf 11 rfl (Zg e2 p3 p4) ?_
  refine Zfg 12 rfl Tryz.func110 ?_
  refine T4 (T2 ?_)
  refine Zd 3 ?_
  refine Zc (Yn 2 h4.wht (gO 5) p3 p4) ?_
  refine Ze [0,1,7] rfl ?_
  refine jIf H (fun c3 H=>?_) fun c3 H=>?_
  ·refine T4 ?_
   obtain ⟨A8,c_8,h5⟩:=h4.openI 5 rfl p3 p4
   refine Zw (sO h5 [0,0,1,1,2,2,2]) ?_
   have h6:=h5.drew
   refine Zo [0,1,2,4,5,6,8,9,10] ?_
   refine Zf 3 rfl (Zb 1 wI) ?_
   refine Zf 7 rfl (Yn 0 wI (Vr 0 Zh5) p3 p4) ?_
   refine Zf 11 rfl (J1 wI (Zk 0)) ?_
   refine cEJ 12 rfl H [2,4] h6 rfl Q56.spec (X4 (Vr 0 Zdf) Zp) ?_
   rintro r3 w4 _ _ H ⟨A9,c_9,rfl,rfl⟩ h7
   replace h7:=nf h7
   refine ⟨⟨[_,_],h7⟩,?_⟩
   refine Zt [1] ?_
   have h8:=h7.closeI 2 rfl
   refine T2 (Zd 3 ?_)
   refine rS (Wd 2 (.pair (.int .u32) (.pair (.slice 5 (.int .u8)) (.pair .bool (.int .i64)))) (Zq (0:Int) a0.2.2.1 (gt r2 x6)) ((gt x5 (Zq (0:Int) a0.2.2.1 (gt r2 x6))).1,(gt x5 (Zq (0:Int) a0.2.2.1 (gt r2 x6))).2.1,false,(gt x5 (Zq (0:Int) a0.2.2.1 (gt r2 x6))).2.2.2) 0 h8 rfl p3 p4 (Ju rfl rfl)) fun _ w5 h9=>?_
   replace h9:St w0 F0 [Xm (x5.set (Zq (0:Int) a0.2.2.1 (gt r2 x6)).toNat ((gt x5 (Zq (0:Int) a0.2.2.1 (gt r2 x6))).1,(gt x5 (Zq (0:Int) a0.2.2.1 (gt r2 x6))).2.1,false,(gt x5 (Zq (0:Int) a0.2.2.1 (gt r2 x6))).2.2.2)) A7 c_7,Xf b2 r3.2.1 r3.2.2.1 A9 c_9 r3.2.2.2.1 r3.2.2.2.2,O5 r3.2.2.1 A9 c_9,Xp b1 (.pointer (some ⟨b2,0,none⟩)) (x5.set (Zq (0:Int) a0.2.2.1 (gt r2 x6)).toNat ((gt x5 (Zq (0:Int) a0.2.2.1 (gt r2 x6))).1,(gt x5 (Zq (0:Int) a0.2.2.1 (gt r2 x6))).2.1,false,(gt x5 (Zq (0:Int) a0.2.2.1 (gt r2 x6))).2.2.2)) A7 c_7 (.map (some b3)) a0.2.2.2.1 A3 c_3 (.pointer (some ⟨b4,0,none⟩)),Y2 .u32 (Value.int .i64) b3 a0.2.2.1,Yx b4 a0.2.2.2.2.1 A4 c_4 a0.2.2.2.2.2,O3 a0.2.2.2.1 A3 c_3,Yy a0.2.2.2.2.1 A4 c_4,O33 r2 A5 c_5] _ _:=h9.retell (by simp only [List.length_set,List.length_nil,Xm,Yy,O3,O33,O5,Xf,Xp,Yx] <;> rfl)
   refine Ze [] rfl ?_
   refine ⟨_,Zj,?_⟩
   replace h9:=nf h9
   refine ⟨⟨[Xm (x5.set (Zq (0:Int) a0.2.2.1 (gt r2 x6)).toNat ((gt x5 (Zq (0:Int) a0.2.2.1 (gt r2 x6))).1,(gt x5 (Zq (0:Int) a0.2.2.1 (gt r2 x6))).2.1,false,(gt x5 (Zq (0:Int) a0.2.2.1 (gt r2 x6))).2.2.2)) A7 c_7,Xf b2 r3.2.1 r3.2.2.1 A9 c_9 r3.2.2.2.1 r3.2.2.2.2,O5 r3.2.2.1 A9 c_9],(h9.retell (by simp only [List.length_set,List.cons_append,List.nil_append,List.length_nil,Xm,Yy,O3,O33,O5,Xf,Xp,Yx] <;> rfl))⟩,?_⟩
   refine Zt [0,8,9,10] ?_
   refine Za [0,8,9,10] ?_
   have h10:=(sOR h9 [3,1,2,2,1,0,0,0,0] [])
   exact ⟨k1,by omega,_,_,_,_,_,_,_,_,_,_,H,rfl,h10⟩
  refine T5 (⟨_,Zj,?_⟩)
  replace h4:=nf h4
  refine ⟨⟨[_,_,_],(sO h4 [1,3,3,0,0,0,0,0,0])⟩,?_⟩
  refine Zt [0,8,9,10] ?_
  refine Za [0,8,9,10] ?_
  have h11:=(sOR h4 [0,0,0,0,0,0,0,0,0] [])
  exact ⟨k1,by omega,_,_,_,_,_,_,_,_,_,_,H,rfl,h11⟩
 refine TZ (T4 (Za [2] ?_))
 cases H
 exact T3 (jR ⟨_,_,_,_,_,_,_,_,rfl,rfl⟩ h3 [0,0,2,2,0,1,0,0])

def Q81.f (k:Nat) (a0:Tc):Option Tb:=(Q91.f a0).bind fun r1=>(if (!decide (r1=0))=true then (some (r1,a0)) else ((Q16.f k a0.2.1).bind fun r2=>(some (r2.1,(a0.1,r2.2,a0.2.2.1,a0.2.2.2)))))
theorem Q81.spec {k a0 b1 b2 b3 b4 b5 b6 b7 A1 c_1 A2 c_2 A3 c_3 A4 c_4 A5 c_5 r} (H:Q81.f k a0=some r) :
  Spec Tryz.prog 19 [.pointer (some ⟨b1,0,none⟩)] (X9 a0 b1 b2 b3 b4 b5 b6 b7 A1 A2 A3 A4 A5 c_1 c_2 c_3 c_4 c_5) [] (fun v l=>∃ A_0 c_0 A_1 c_1 A_2 c_2 A_3 c_3 A_4 c_4,v=.int .i64 r.1∧l=X9 r.2 b1 b2 b3 b4 b5 b6 b7 A_0 A_1 A_2 A_3 A_4 c_0 c_1 c_2 c_3 c_4):=by
 refine Zi Tryz.func19 fun w0 F0 h0=>?_
 replace h0:=nf h0
 unfold Q81.f at H
 refine T4 (Za [0] ?_)
 refine T4 (T4 (T2 ?_))
 refine Zd 1 ?_
 refine cS H [0,0,0,0,0,0,0,0,0,0,0,0] h0 rfl Q91.spec Zp fun r1 w1 H h1=>?_
 refine Ze [0,3] rfl ?_
 refine T4 (Za [0,3,7] ?_)
 refine jIf H (fun c1 H=>?_) fun c1 H=>?_
 ·refine T4 (Za [2] ?_)
  cases H
  exact T3 (jR ⟨_,_,_,_,_,_,_,_,_,_,rfl,rfl⟩ h1 [0,0,0,0,0,0,0,0,0,0,0,0])
 refine T5 (T4 (T2 ?_))
 refine Zd 3 ?_
 refine Zc (Zb 0 h1.wht) ?_
 refine cE H [1,1,1,1,1,1,1,1] h1 rfl Q16.spec Zp ?_
 rintro r2 w2 _ _ H ⟨A6,c_6,A7,c_7,A8,c_8,A9,c_9,rfl,rfl⟩ h2
 replace h2:=nf h2
 refine Ze [2] rfl ?_
 cases H
 exact T3 (jR ⟨_,_,_,_,_,_,_,_,_,_,rfl,rfl⟩ h2 [8,0,0,0,0,0,0,0,0,0,0,0])

def Q128.f (k:Nat) (a0:Tc) (a1:Tm):Option Ta:=if (decide (a1.1=0))=true then ((Q89.f k a0 a1.2.1 a1.2.2).bind fun r1=>(some (0,r1.1,r1.2))) else (if (decide (a1.1=1))=true then ((Q89.f k a0 a1.2.1 a1.2.2).bind fun r2=>(some (0,r2.1,r2.2))) else (if (decide (a1.1=2))=true then ((Q87.f k a0 a1.2.2).bind fun r3=>(some r3)) else (if (decide (a1.1=3))=true then ((Q82.f a0 a1.2.1).bind fun r4=>(some (0,r4.1,r4.2))) else (if (decide (a1.1=4))=true then ((Q88.f a0 a1.2.1).bind fun r5=>(some (0,r5.1,r5.2))) else (if (decide (a1.1=5))=true then ((Q84.f a0 a1.2.1).bind fun r6=>(some (0,r6.1,r6.2))) else (if (decide (a1.1=6))=true then ((Q81.f k a0).bind fun r7=>(some (0,r7.1,r7.2))) else (some (0,0,a0))))))))
theorem Q128.spec {k a0 a1 A6 c_6 A7 c_7 A8 c_8 A9 c_9 b1 b2 b3 b4 b5 b6 b7 A1 c_1 A2 c_2 A3 c_3 A4 c_4 A5 c_5 r} (H:Q128.f k a0 a1=some r) :
  Spec Tryz.prog 18 [.pointer (some ⟨b1,0,none⟩),.agg #[.int .i64 a1.1,.int .u32 a1.2.1,.int .i64 a1.2.2.1,.slice A6 a1.2.2.2.1.length c_6,.slice A7 a1.2.2.2.2.1.length c_7,.slice A8 a1.2.2.2.2.2.1.length c_8,.slice A9 a1.2.2.2.2.2.2.length c_9]] (X9 a0 b1 b2 b3 b4 b5 b6 b7 A1 A2 A3 A4 A5 c_1 c_2 c_3 c_4 c_5) [R33 a1.2.2.2.1 A6 c_6,R9 a1.2.2.2.2.1 A7 c_7,Y5 a1.2.2.2.2.2.1 A8 c_8,Y3 a1.2.2.2.2.2.2 A9 c_9,tabC 0] (fun v l=>∃ A_0 c_0 A_1 c_1 A_2 c_2 A_3 c_3 A_4 c_4,v=.tuple #[.int .u32 r.1,.int .i64 r.2.1]∧l=X9 r.2.2 b1 b2 b3 b4 b5 b6 b7 A_0 A_1 A_2 A_3 A_4 c_0 c_1 c_2 c_3 c_4):=by
 refine Zi Tryz.func18 fun w0 F0 h0=>?_
 replace h0:=nf h0
 unfold Q128.f at H
 refine T4 (T2 ?_)
 refine rB (Z4 h0) fun b8 w1 h1=>?_
 refine Ze [0,3] rfl ?_
 refine T4 (T2 ?_)
 refine Zd 1 ?_
 refine Zc (Zb 0 h1.wht) ?_
 refine Ze [0,3,7] rfl ?_
 refine TW (T4 (T4 (Za [0,3,7,8] ?_)))
 refine jIf H (fun c1 H=>?_) fun c1 H=>?_
 ·refine T5 (TX rfl (fun e=>?_) (fun e=>by rw [c1] at e; cases e))
  refine T4 (T2 ?_)
  refine Zd 2 ?_
  refine Zc (Zb 0 h1.wht) ?_
  refine Zd 1 ?_
  refine Zc (Zb 0 h1.wht) ?_
  refine cE H [1,1,1,1,1,1,1,1,1,1,1,1] h1 rfl Q89.spec (gS [1,2,3,4]) ?_
  rintro r1 w2 _ _ H ⟨A10,c_10,A11,c_11,A12,c_12,A13,c_13,A14,c_14,rfl,rfl⟩ h2
  replace h2:=nf h2
  refine Ze [4,5] rfl ?_
  cases H
  exact T3 (jR ⟨_,_,_,_,_,_,_,_,_,_,rfl,rfl⟩ h2 [0,0,0,0,0,0,0,0,0,0,0,0])
 refine Za [0,3,7,8] ?_
 refine jIf H (fun c2 H=>?_) fun c2 H=>?_
 ·refine T4 (T2 ?_)
  refine Zd 2 ?_
  refine Zc (Zb 0 h1.wht) ?_
  refine Zd 1 ?_
  refine Zc (Zb 0 h1.wht) ?_
  refine cE H [1,1,1,1,1,1,1,1,1,1,1,1] h1 rfl Q89.spec (gS [1,2,3,4]) ?_
  rintro r2 w3 _ _ H ⟨A15,c_15,A16,c_16,A17,c_17,A18,c_18,A19,c_19,rfl,rfl⟩ h3
  replace h3:=nf h3
  refine Ze [4,5] rfl ?_
  cases H
  exact T3 (jR ⟨_,_,_,_,_,_,_,_,_,_,rfl,rfl⟩ h3 [0,0,0,0,0,0,0,0,0,0,0,0])
 refine T4 (Za [0,3,7,17] ?_)
 refine jIf H (fun c3 H=>?_) fun c3 H=>?_
 ·refine T4 (T2 ?_)
  refine Zd 2 ?_
  refine Zc (Zb 0 h1.wht) ?_
  refine cE H [1,1,1,1,1,1,1,1,1,1,1,1] h1 rfl Q87.spec (gS [1,2,3,4,5]) ?_
  rintro r3 w4 _ _ H ⟨A20,c_20,A21,c_21,A22,c_22,A23,c_23,A24,c_24,rfl,rfl⟩ h4
  replace h4:=nf h4
  refine Ze [4,5] rfl ?_
  cases H
  exact T3 (jR ⟨_,_,_,_,_,_,_,_,_,_,rfl,rfl⟩ h4 [0,0,0,0,0,0,0,0,0,0,0,0])
 refine T4 (Za [0,3,7,25] ?_)
 refine jIf H (fun c4 H=>?_) fun c4 H=>?_
 ·refine T4 (T2 ?_)
  refine Zd 2 ?_
  refine Zc (Zb 0 h1.wht) ?_
  refine cE H [1,1,1,1,1,1,1,1,1,1,1,1] h1 rfl Q82.spec Zp ?_
  rintro r4 w5 _ _ H ⟨A25,c_25,A26,c_26,A27,c_27,A28,c_28,A29,c_29,rfl,rfl⟩ h5
  replace h5:=nf h5
  refine Ze [4,5] rfl ?_
  cases H
  exact T3 (jR ⟨_,_,_,_,_,_,_,_,_,_,rfl,rfl⟩ h5 [0,0,0,0,0,0,0,0,0,0,0,0])
 refine T4 (Za [0,3,7,31] ?_)
 refine jIf H (fun c5 H=>?_) fun c5 H=>?_
 ·refine T4 (T2 ?_)
  refine Zd 2 ?_
  refine Zc (Zb 0 h1.wht) ?_
  refine cE H [1,1,1,1,1,1,1,1,1,1,1,1] h1 rfl Q88.spec Zp ?_
  rintro r5 w6 _ _ H ⟨A30,c_30,A31,c_31,A32,c_32,A33,c_33,A34,c_34,rfl,rfl⟩ h6
  replace h6:=nf h6
  refine Ze [4,5] rfl ?_
  cases H
  exact T3 (jR ⟨_,_,_,_,_,_,_,_,_,_,rfl,rfl⟩ h6 [0,0,0,0,0,0,0,0,0,0,0,0])
 refine T4 (Za [0,3,7,37] ?_)
 refine jIf H (fun c6 H=>?_) fun c6 H=>?_
 ·refine T4 (T2 ?_)
  refine Zd 2 ?_
  refine Zc (Zb 0 h1.wht) ?_
  refine cE H [1,1,1,1,1,1,1,1,1,1,1,1] h1 rfl Q84.spec Zp ?_
  rintro r6 w7 _ _ H ⟨A35,c_35,A36,c_36,A37,c_37,A38,c_38,A39,c_39,rfl,rfl⟩ h7
  replace h7:=nf h7
  refine Ze [4,5] rfl ?_
  cases H
  exact T3 (jR ⟨_,_,_,_,_,_,_,_,_,_,rfl,rfl⟩ h7 [0,0,0,0,0,0,0,0,0,0,0,0])
 refine T4 (Za [0,43] ?_)
 refine jIf H (fun c7 H=>?_) fun c7 H=>?_
 ·refine T4 (T2 ?_)
  refine Zd 1 ?_
  refine cE H [1,1,1,1,1,1,1,1,1,1,1,1] h1 rfl Q81.spec Zp ?_
  rintro r7 w8 _ _ H ⟨A40,c_40,A41,c_41,A42,c_42,A43,c_43,A44,c_44,rfl,rfl⟩ h8
  replace h8:=nf h8
  refine Ze [4,5] rfl ?_
  cases H
  exact T3 (jR ⟨_,_,_,_,_,_,_,_,_,_,rfl,rfl⟩ h8 [0,0,0,0,0,0,0,0,0,0,0,0])
 refine T4 (Za [4,5] ?_)
 cases H
 exact T3 (jR ⟨_,_,_,_,_,_,_,_,_,_,rfl,rfl⟩ h1 [1,1,1,1,1,1,1,1,1,1,1,1])

def Q150.l0:Nat→TU→TU→Int→Option (Bool)
 | 0,_,_,_=>none
 | k+1,a0,a1,x1=>if (decide (x1<(a0.length:Int)))=true then (if 0≤x1∧x1<(a0.length:Int) then (if 0≤x1∧x1<(a1.length:Int) then (if (!decide ((gt a0 x1)=(gt a1 x1)))=true then (some false) else (Q150.l0 k a0 a1 (w64 (x1+1)))) else none) else none) else (some true)
def Q150.f (k:Nat) (a0:TU) (a1:TU):Option (Bool):=if (!decide ((a0.length:Int)=(a1.length:Int)))=true then (some false) else (Q150.l0 k a0 a1 0)
theorem Q150.spec {k a0 a1 A1 c_1 A2 c_2 r} (H:Q150.f k a0 a1=some r) :
  Spec Tryz.prog 73 [.slice A1 a0.length c_1,.slice A2 a1.length c_2] [] [R33 a0 A1 c_1,R33 a1 A2 c_2] (fun v l=>v=.bool r∧l=[]):=by
 refine Zi Tryz.func73 fun w0 F0 h0=>?_
 unfold Q150.f at H
 refine T4 (Za [0,1] ?_)
 refine T4 (T4 (Za [0,1,10] ?_))
 refine jIf H (fun c1 H=>?_) fun c1 H=>?_
 ·refine T4 (Za [4] ?_)
  cases H
  exact T3 (jR0 h0 [])
 refine T5 (T4 (T4 (Za [0,1,5] ?_)))
 refine TW ?_
 have h4:=(sOR h0 [] [0,1])
 refine T0 (fun kk env w=>∃ x1,Q150.l0 kk a0 a1 x1=some r∧env=[(0,.slice A1 a0.length c_1),(1,.slice A2 a1.length c_2),(5,.int .i64 x1)]∧St w0 F0 [] [R33 a0 A1 c_1,R33 a1 A2 c_2] w) (k:=k) ⟨_,H,rfl,h4⟩ ?_
 rintro k1 env w1 ⟨x1,H,rfl,h1⟩
 rcases k1 with _ | k1
 ·exact z0 H
 rw [Q150.l0] at H
 refine T4 (T4 (Za [0,1,5,14] ?_))
 refine jIf H (fun c2 H=>?_) fun c2 H=>?_
 ·refine T5 (T4 (TW (T4 ?_)))
  refine jH h1 fun h2=>?_
  refine Zo [0,1,4,5] ?_
  obtain ⟨⟨p1,p2⟩,H⟩:=Zl H
  have e1:=Zx h2.wh (Zk 0) p1 p2
  refine Zf 2 rfl (Zg e1 p1 p2) ?_
  refine Zf 3 rfl (Zh 0 wI (Zk 0) p1 p2) ?_
  obtain ⟨⟨p3,p4⟩,H⟩:=Zl H
  have e2:=Zx h2.wh (Zk 1) p3 p4
  refine Zf 6 rfl (Zg e2 p3 p4) ?_
  refine Zf 7 rfl (Zh 0 wI (Zk 1) p3 p4) ?_
  refine Zo [8] ?_
  refine Zt [0,1,5,25] ?_
  refine jIf H (fun c3 H=>?_) fun c3 H=>?_
  ·refine T4 (Za [4] ?_)
   cases H
   exact T3 (jR0 h2 [])
  refine T5 (Za [0,1,5] ?_)
  have h3:=(sOR h2 [] [0,1])
  exact ⟨k1,by omega,_,H,rfl,h3⟩
 refine TZ (T4 (Za [4] ?_))
 cases H
 exact T3 (jR0 h1 [])

def Q149.l0:Nat→TH→TH→Int→Option (Bool)
 | 0,_,_,_=>none
 | k+1,a0,a1,x1=>if (decide (x1<(a0.length:Int)))=true then (if 0≤x1∧x1<(a0.length:Int) then (if 0≤x1∧x1<(a1.length:Int) then (if (!decide ((gt a0 x1)=(gt a1 x1)))=true then (some false) else (Q149.l0 k a0 a1 (w64 (x1+1)))) else none) else none) else (some true)
def Q149.f (k:Nat) (a0:TH) (a1:TH):Option (Bool):=if (!decide ((a0.length:Int)=(a1.length:Int)))=true then (some false) else (Q149.l0 k a0 a1 0)
theorem Q149.spec {k a0 a1 A1 c_1 A2 c_2 r} (H:Q149.f k a0 a1=some r) :
  Spec Tryz.prog 74 [.slice A1 a0.length c_1,.slice A2 a1.length c_2] [] [R9 a0 A1 c_1,R9 a1 A2 c_2] (fun v l=>v=.bool r∧l=[]):=by
 refine Zi Tryz.func74 fun w0 F0 h0=>?_
 unfold Q149.f at H
 refine T4 (Za [0,1] ?_)
 refine T4 (T4 (Za [0,1,10] ?_))
 refine jIf H (fun c1 H=>?_) fun c1 H=>?_
 ·refine T4 (Za [4] ?_)
  cases H
  exact T3 (jR0 h0 [])
 refine T5 (T4 (T4 (Za [0,1,5] ?_)))
 refine TW ?_
 have h4:=(sOR h0 [] [0,1])
 refine T0 (fun kk env w=>∃ x1,Q149.l0 kk a0 a1 x1=some r∧env=[(0,.slice A1 a0.length c_1),(1,.slice A2 a1.length c_2),(5,.int .i64 x1)]∧St w0 F0 [] [R9 a0 A1 c_1,R9 a1 A2 c_2] w) (k:=k) ⟨_,H,rfl,h4⟩ ?_
 rintro k1 env w1 ⟨x1,H,rfl,h1⟩
 rcases k1 with _ | k1
 ·exact z0 H
 rw [Q149.l0] at H
 refine T4 (T4 (Za [0,1,5,14] ?_))
 refine jIf H (fun c2 H=>?_) fun c2 H=>?_
 ·refine T5 (T4 (TW (T4 ?_)))
  refine jH h1 fun h2=>?_
  refine Zo [0,1,4,5] ?_
  obtain ⟨⟨p1,p2⟩,H⟩:=Zl H
  have e1:=Zx h2.wh (Zk 0) p1 p2
  refine Zf 2 rfl (Zg e1 p1 p2) ?_
  refine Zf 3 rfl (Zh 0 wI (Zk 0) p1 p2) ?_
  obtain ⟨⟨p3,p4⟩,H⟩:=Zl H
  have e2:=Zx h2.wh (Zk 1) p3 p4
  refine Zf 6 rfl (Zg e2 p3 p4) ?_
  refine Zf 7 rfl (Zh 0 wI (Zk 1) p3 p4) ?_
  refine Zo [8] ?_
  refine Zt [0,1,5,25] ?_
  refine jIf H (fun c3 H=>?_) fun c3 H=>?_
  ·refine T4 (Za [4] ?_)
   cases H
   exact T3 (jR0 h2 [])
  refine T5 (Za [0,1,5] ?_)
  have h3:=(sOR h2 [] [0,1])
  exact ⟨k1,by omega,_,H,rfl,h3⟩
 refine TZ (T4 (Za [4] ?_))
 cases H
 exact T3 (jR0 h1 [])

def Q144.l0:Nat→Tt→Tt→Int→Option (Bool)
 | 0,_,_,_=>none
 | k+1,a0,a1,x1=>if (decide (x1<(a0.length:Int)))=true then (if 0≤x1∧x1<(a0.length:Int) then (if 0≤x1∧x1<(a1.length:Int) then (if (!((decide (((gt a0 x1).1)=((gt a1 x1).1))) && ((((gt a0 x1).2.1) == ((gt a1 x1).2.1)) && ((decide (((gt a0 x1).2.2)=((gt a1 x1).2.2))) && true))))=true then (some false) else (Q144.l0 k a0 a1 (w64 (x1+1)))) else none) else none) else (some true)
def Q144.f (k:Nat) (a0:Tt) (a1:Tt):Option (Bool):=if (!decide ((a0.length:Int)=(a1.length:Int)))=true then (some false) else (Q144.l0 k a0 a1 0)
theorem Q144.spec {k a0 a1 A1 c_1 A2 c_2 r} (H:Q144.f k a0 a1=some r) :
  Spec Tryz.prog 75 [.slice A1 a0.length c_1,.slice A2 a1.length c_2] [] [Y5 a0 A1 c_1,Y5 a1 A2 c_2] (fun v l=>v=.bool r∧l=[]):=by
 refine Zi Tryz.func75 fun w0 F0 h0=>?_
 unfold Q144.f at H
 refine T4 (Za [0,1] ?_)
 refine T4 (T4 (Za [0,1,10] ?_))
 refine jIf H (fun c1 H=>?_) fun c1 H=>?_
 ·refine T4 (Za [4] ?_)
  cases H
  exact T3 (jR0 h0 [])
 refine T5 (T4 (T4 (Za [0,1,5] ?_)))
 refine TW ?_
 have h4:=(sOR h0 [] [0,1])
 refine T0 (fun kk env w=>∃ x1,Q144.l0 kk a0 a1 x1=some r∧env=[(0,.slice A1 a0.length c_1),(1,.slice A2 a1.length c_2),(5,.int .i64 x1)]∧St w0 F0 [] [Y5 a0 A1 c_1,Y5 a1 A2 c_2] w) (k:=k) ⟨_,H,rfl,h4⟩ ?_
 rintro k1 env w1 ⟨x1,H,rfl,h1⟩
 rcases k1 with _ | k1
 ·exact z0 H
 rw [Q144.l0] at H
 refine T4 (T4 (Za [0,1,5,14] ?_))
 refine jIf H (fun c2 H=>?_) fun c2 H=>?_
 ·refine T5 (T4 (TW (T4 ?_)))
  refine jH h1 fun h2=>?_
  refine Zo [0,1,4,5] ?_
  obtain ⟨⟨p1,p2⟩,H⟩:=Zl H
  have e1:=Zx h2.wh (Zk 0) p1 p2
  refine Zf 2 rfl (Zg e1 p1 p2) ?_
  refine Zf 3 rfl (Zh 0 wI (Zk 0) p1 p2) ?_
  obtain ⟨⟨p3,p4⟩,H⟩:=Zl H
  have e2:=Zx h2.wh (Zk 1) p3 p4
  refine Zf 6 rfl (Zg e2 p3 p4) ?_
  refine Zf 7 rfl (Zh 0 wI (Zk 1) p3 p4) ?_
  refine Zo [8] ?_
  refine Zt [0,1,5,25] ?_
  refine jIf H (fun c3 H=>?_) fun c3 H=>?_
  ·refine T4 (Za [4] ?_)
   cases H
   exact T3 (jR0 h2 [])
  refine T5 (Za [0,1,5] ?_)
  have h3:=(sOR h2 [] [0,1])
  exact ⟨k1,by omega,_,H,rfl,h3⟩
 refine TZ (T4 (Za [4] ?_))
 cases H
 exact T3 (jR0 h1 [])

def Q146.l0:Nat→Tw→Tw→Int→Option (Bool)
 | 0,_,_,_=>none
 | k+1,a0,a1,x1=>if (decide (x1<(a0.length:Int)))=true then (if 0≤x1∧x1<(a0.length:Int) then (if 0≤x1∧x1<(a1.length:Int) then (if (!((decide (((gt a0 x1).1)=((gt a1 x1).1))) && ((decide (((gt a0 x1).2)=((gt a1 x1).2))) && true)))=true then (some false) else (Q146.l0 k a0 a1 (w64 (x1+1)))) else none) else none) else (some true)
def Q146.f (k:Nat) (a0:Tw) (a1:Tw):Option (Bool):=if (!decide ((a0.length:Int)=(a1.length:Int)))=true then (some false) else (Q146.l0 k a0 a1 0)
theorem Q146.spec {k a0 a1 A1 c_1 A2 c_2 r} (H:Q146.f k a0 a1=some r) :
  Spec Tryz.prog 49 [.slice A1 a0.length c_1,.slice A2 a1.length c_2] [] [Y3 a0 A1 c_1,Y3 a1 A2 c_2] (fun v l=>v=.bool r∧l=[]):=by
 refine Zi Tryz.func49 fun w0 F0 h0=>?_
 unfold Q146.f at H
 refine T4 (Za [0,1] ?_)
 refine T4 (T4 (Za [0,1,10] ?_))
 refine jIf H (fun c1 H=>?_) fun c1 H=>?_
 ·refine T4 (Za [4] ?_)
  cases H
  exact T3 (jR0 h0 [])
 refine T5 (T4 (T4 (Za [0,1,5] ?_)))
 refine TW ?_
 have h4:=(sOR h0 [] [0,1])
 refine T0 (fun kk env w=>∃ x1,Q146.l0 kk a0 a1 x1=some r∧env=[(0,.slice A1 a0.length c_1),(1,.slice A2 a1.length c_2),(5,.int .i64 x1)]∧St w0 F0 [] [Y3 a0 A1 c_1,Y3 a1 A2 c_2] w) (k:=k) ⟨_,H,rfl,h4⟩ ?_
 rintro k1 env w1 ⟨x1,H,rfl,h1⟩
 rcases k1 with _ | k1
 ·exact z0 H
 rw [Q146.l0] at H
 refine T4 (T4 (Za [0,1,5,14] ?_))
 refine jIf H (fun c2 H=>?_) fun c2 H=>?_
 ·refine T5 (T4 (TW (T4 ?_)))
  refine jH h1 fun h2=>?_
  refine Zo [0,1,4,5] ?_
  obtain ⟨⟨p1,p2⟩,H⟩:=Zl H
  have e1:=Zx h2.wh (Zk 0) p1 p2
  refine Zf 2 rfl (Zg e1 p1 p2) ?_
  refine Zf 3 rfl (Zh 0 wI (Zk 0) p1 p2) ?_
  obtain ⟨⟨p3,p4⟩,H⟩:=Zl H
  have e2:=Zx h2.wh (Zk 1) p3 p4
  refine Zf 6 rfl (Zg e2 p3 p4) ?_
  refine Zf 7 rfl (Zh 0 wI (Zk 1) p3 p4) ?_
  refine Zo [8] ?_
  refine Zt [0,1,5,25] ?_
  refine jIf H (fun c3 H=>?_) fun c3 H=>?_
  ·refine T4 (Za [4] ?_)
   cases H
   exact T3 (jR0 h2 [])
  refine T5 (Za [0,1,5] ?_)
  have h3:=(sOR h2 [] [0,1])
  exact ⟨k1,by omega,_,H,rfl,h3⟩
 refine TZ (T4 (Za [4] ?_))
 cases H
 exact T3 (jR0 h1 [])

def Q153.f (k:Nat) (a0:Tp) (a1:Tp):Option (Bool):=if (decide (a0.1=a1.1))=true then ((Q150.f k a0.2.1 a1.2.1).bind fun r1=>(if r1=true then ((Q149.f k a0.2.2.1 a1.2.2.1).bind fun r2=>(if r2=true then ((Q144.f k a0.2.2.2.1 a1.2.2.2.1).bind fun r3=>(if r3=true then ((Q146.f k a0.2.2.2.2 a1.2.2.2.2).bind fun r4=>(some r4)) else (some false))) else (some false))) else (some false))) else (some false)
theorem Q153.spec {k a0 a1 A1 c_1 A2 c_2 A3 c_3 A4 c_4 A5 c_5 A6 c_6 A7 c_7 A8 c_8 r} (H:Q153.f k a0 a1=some r) :
  Spec Tryz.prog 22 [.agg #[.int .i64 a0.1,.slice A1 a0.2.1.length c_1,.slice A2 a0.2.2.1.length c_2,.slice A3 a0.2.2.2.1.length c_3,.slice A4 a0.2.2.2.2.length c_4],.agg #[.int .i64 a1.1,.slice A5 a1.2.1.length c_5,.slice A6 a1.2.2.1.length c_6,.slice A7 a1.2.2.2.1.length c_7,.slice A8 a1.2.2.2.2.length c_8]] [] [R33 a0.2.1 A1 c_1,R9 a0.2.2.1 A2 c_2,Y5 a0.2.2.2.1 A3 c_3,Y3 a0.2.2.2.2 A4 c_4,R33 a1.2.1 A5 c_5,R9 a1.2.2.1 A6 c_6,Y5 a1.2.2.2.1 A7 c_7,Y3 a1.2.2.2.2 A8 c_8] (fun v l=>v=.bool r∧l=[]):=by
 refine Zi Tryz.func22 fun w0 F0 h0=>?_
 unfold Q153.f at H
 refine T4 (T2 ?_)
 refine rB (Z4 h0) fun b1 w1 h1=>?_
 refine rB (Z4 h1) fun b2 w2 h2=>?_
 refine Ze [2,3] rfl ?_
 refine T4 (T2 ?_)
 refine Zd 1 ?_
 refine Zc (Zb 1 h2.wht) ?_
 refine Zd 1 ?_
 refine Zc (Zb 0 h2.wht) ?_
 refine Zd 2 ?_
 refine Z7 10 H (fun c1 H=>?_) fun c1 H=>?_
 ·refine Zd 1 ?_
  refine Zc (Zb 1 h2.wht) ?_
  refine Zd 1 ?_
  refine Zc (Zb 0 h2.wht) ?_
  refine cS H [] h2 rfl Q150.spec (gS [2,6]) fun r1 w3 H h3=>?_
  refine Zd 2 ?_
  refine Z7 17 H (fun c2 H=>?_) fun c2 H=>?_
  ·refine Zd 1 ?_
   refine Zc (Zb 1 h3.wht) ?_
   refine Zd 1 ?_
   refine Zc (Zb 0 h3.wht) ?_
   refine cS H [] h3 rfl Q149.spec (gS [3,7]) fun r2 w4 H h4=>?_
   refine Zd 2 ?_
   refine Z7 24 H (fun c3 H=>?_) fun c3 H=>?_
   ·refine Zd 1 ?_
    refine Zc (Zb 1 h4.wht) ?_
    refine Zd 1 ?_
    refine Zc (Zb 0 h4.wht) ?_
    refine cS H [] h4 rfl Q144.spec (gS [4,8]) fun r3 w5 H h5=>?_
    refine Zd 2 ?_
    refine Z7 31 H (fun c4 H=>?_) fun c4 H=>?_
    ·refine Zd 1 ?_
     refine Zc (Zb 1 h5.wht) ?_
     refine Zd 1 ?_
     refine Zc (Zb 0 h5.wht) ?_
     refine cS H [] h5 rfl Q146.spec (gS [5,9]) fun r4 w6 H h6=>?_
     refine Ze [4] rfl ?_
     have h7:=sO h6 []
     replace h7:=nf h7
     cases H
     exact T3 (jR0 h7 [])
    refine Ze [4] rfl ?_
    have h8:=sO h5 []
    replace h8:=nf h8
    cases H
    exact T3 (jR0 h8 [])
   refine Ze [4] rfl ?_
   have h9:=sO h4 []
   replace h9:=nf h9
   cases H
   exact T3 (jR0 h9 [])
  refine Ze [4] rfl ?_
  have h10:=sO h3 []
  replace h10:=nf h10
  cases H
  exact T3 (jR0 h10 [])
 refine Ze [4] rfl ?_
 have h11:=sO h2 []
 replace h11:=nf h11
 cases H
 exact T3 (jR0 h11 [])

def Q125.l3:Nat→Tr→Tg→TB→Int→Option (Bool)
 | 0,_,_,_,_=>none
 | k+1,a0,x7,x14,x15=>if (decide (x15<a0.1))=true then (if 0≤x15∧x15<(x7.2.1.length:Int) then (if (!decide (((gt x7.2.1 x15).1)=1))=true then (Q125.l3 k a0 x7 x14 (w64 (x15+1))) else ((Q55.f x14 (IntKind.u32.wrap (x15))).bind fun r20=>((Q37.f k a0 r20.1).bind fun r21=>(if (!decide (r20.2.1=0))=true then (some false) else (if (!decide (r21.2=0))=true then (some false) else ((Q153.f k r21.1 ((gt x7.2.1 x15).2)).bind fun r22=>(if (!r22)=true then (some false) else (Q125.l3 k a0 x7 r20.2.2 (w64 (x15+1)))))))))) else none) else ((Q126.f k).bind fun r23=>(some r23))
mutual
def Q125.l1:Nat→Tr→Tj→Tr→TB→TA→TE→Tg→Tv→TJ→TU→Int→Int→Option (Bool)
 | 0,_,_,_,_,_,_,_,_,_,_,_,_=>none
 | k+1,a0,a1,x3,x4,x5,x6,x7,x8,x9,x10,x11,x12=>if (decide (x12<(a1.length:Int)))=true then (Q125.l2 k a0 a1 x3 x4 x5 x6 x7 x8 x9 x10 x11 x12 (decide (x12<40))) else (Q125.l2 k a0 a1 x3 x4 x5 x6 x7 x8 x9 x10 x11 x12 false)
def Q125.l2:Nat→Tr→Tj→Tr→TB→TA→TE→Tg→Tv→TJ→TU→Int→Int→Bool→Option (Bool)
 | 0,_,_,_,_,_,_,_,_,_,_,_,_,_=>none
 | k+1,a0,a1,x3,x4,x5,x6,x7,x8,x9,x10,x11,x12,x13=>if x13=true then (if 0≤x12∧x12<(a1.length:Int) then ((Q123.f k ((gt a1 x12).2.2)).bind fun r15=>(if r15=true then ((Q126.f k).bind fun r16=>(some r16)) else ((Q129.f k x7 (gt a1 x12)).bind fun r17=>((Q128.f k (x3,(x4,x8,x9,x10,x5),x6,x11) (gt a1 x12)).bind fun r18=>(Q125.l1 k a0 a1 r18.2.2.1 r18.2.2.2.1.1 r18.2.2.2.1.2.2.2.2 r18.2.2.2.2.1 r17.1 r18.2.2.2.1.2.1 r18.2.2.2.1.2.2.1 r18.2.2.2.1.2.2.2.1 r18.2.2.2.2.2 (w64 (x12+1))))))) else none) else ((Q81.f k (x3,(x4,x8,x9,x10,x5),x6,x11)).bind fun r19=>(if (!decide (r19.1=0))=true then (some false) else (Q125.l3 k a0 x7 r19.2.2.1.1 1)))
end
def Q125.l0:Nat→Tr→Tj→TB→TA→TU→Int→Option (Bool)
 | 0,_,_,_,_,_,_=>none
 | k+1,a0,a1,r4,r9,x1,x2=>if (decide (x2<a0.2.2.1))=true then (if (x1.length+([x2]:List Int).length)*8≤140737488355328 then (Q125.l0 k a0 a1 r4 r9 (x1 ++ ([x2]:List Int)) (w64 (x2+1))) else none) else ((Q53.f r4).bind fun r10=>(if (!decide (r10=a0.1))=true then (some false) else ((Q54.f r4).bind fun r11=>(if (!decide (r11=a0.2.1))=true then (some false) else ((Q72.f a0.1).bind fun r12=>(V1 r12.1 (if (!decide (r12.2=0))=true then (some false) else none) (fun r13=>(if (!decide (r12.2=0))=false then ((Q162.f a0).bind fun r14=>(Q125.l1 k a0 a1 a0 r4 r9 r13 r14 (List.replicate a0.2.2.1.toNat ((0,([]:List Int),false,0):Int×List Int×Bool×Int)) ([]:List TS) x1 0 0)) else none))))))))
def Q125.f (k:Nat) (a0:Tr) (a1:Tj):Option (Bool):=(Q124.f k a0).bind fun r1=>(if (!r1)=true then ((Q126.f k).bind fun r2=>(some r2)) else ((Q57.f a0.1 a0.2.1).bind fun r3=>(V1 r3.1 (if (!decide (r3.2=0))=true then ((Q48.f a0).bind fun r5=>(if (!decide (r5=0))=true then (some false) else (some false))) else none) (fun r4=>(if (!decide (r3.2=0))=false then ((Q48.f a0).bind fun r6=>(if (!decide (r6=0))=true then (some false) else ((Q53.f r4).bind fun r7=>(if (decide (r7=0))=true then (some false) else (if (decide (a0.2.2.1<1))=true then (some false) else (if (decide (64<a0.2.2.1))=true then (some false) else ((Q34.f a0.2.2.1).bind fun r8=>(V1 r8.1 (if (!decide (r8.2=0))=true then (some false) else none) (fun r9=>(if (!decide (r8.2=0))=false then (if 0≤a0.2.2.1∧a0.2.2.1*48≤281474976710656 then (Q125.l0 k a0 a1 r4 r9 ([]:List Int) 0) else none) else none)))))))))) else none)))))
theorem Q125.spec {k a0 a1 A1 c_1 r} (H:Q125.f k a0 a1=some r) :
  Spec Tryz.prog 3 [.agg #[.int .i64 a0.1,.int .i64 a0.2.1,.int .i64 a0.2.2.1,.int .i64 a0.2.2.2.1,.int .i64 a0.2.2.2.2.1,.int .i64 a0.2.2.2.2.2.1,.int .i64 a0.2.2.2.2.2.2.1,.int .i64 a0.2.2.2.2.2.2.2],.slice A1 a1.length c_1] [] [R45 a1 A1 c_1,tabC 0] (fun v l=>v=.bool r∧l=[]):=by
 refine Zi Tryz.func3 fun w0 F0 h0=>?_
 unfold Q125.f at H
 refine T4 (T2 ?_)
 refine rB (Z4 h0) fun b1 w1 h1=>?_
 refine Ze [1,2] rfl ?_
 refine T4 (T4 (T2 ?_))
 refine Zc (Zb 0 h1.wht) ?_
 refine cS H [] h1 rfl Q124.spec Zp fun r1 w2 H h2=>?_
 refine Ze [1,2,19] rfl ?_
 refine jIf H (fun c1 H=>?_) fun c1 H=>?_
 ·refine T4 (T2 ?_)
  refine cS H [] h2 rfl Q126.spec (gS [2]) fun r2 w3 H h3=>?_
  refine Ze [4] rfl ?_
  cases H
  exact T3 (jR0 h3 [])
 refine T5 (T4 (T2 ?_))
 refine Zc (Zb 0 h2.wht) ?_
 refine Yg Tryz.func14 ?_
 refine T4 (T2 ?_)
 refine rB (Z4 h2) fun b2 w4 h4=>?_
 refine Ze [1] rfl ?_
 refine T4 (T2 ?_)
 refine Zd 1 ?_
 refine Zc (Zb 0 h4.wht) ?_
 refine Zd 1 ?_
 refine Zc (Zb 0 h4.wht) ?_
 refine cE H [] h4 rfl Q57.spec Zp ?_
 rintro r3 w5 _ _ H ⟨v1,l1,ho1,rfl,rfl⟩ h5
 rcases ho2:r3.1 with _ | r4
 ·rw [ho2] at ho1
  obtain ⟨rfl,rfl⟩:=ho1
  replace H:=Uy ho2 H
  obtain ⟨c2,H⟩:=Zl H
  replace h5:=nf h5
  refine Ze [1,4,5] rfl ?_
  refine T4 (T2 ?_)
  refine Zc (Zb 0 h5.wht) ?_
  refine Zd 1 ?_
  refine Yg Tryz.func35 ?_
  refine T4 (T2 ?_)
  refine rB (Z4 h5) fun b3 w6 h6=>?_
  refine Ze [1,2] rfl ?_
  refine T4 (T4 (T2 ?_))
  refine Zc (Zb 0 h6.wht) ?_
  refine cS H [] h6 rfl Q48.spec Zp fun r5 w7 H h7=>?_
  refine Ze [1,2,6] rfl ?_
  refine T4 (Za [1,2,6,13] ?_)
  refine jIf H (fun c4 H=>?_) fun c4 H=>?_
  ·refine T4 (Za [4,5] ?_)
   refine T3 (⟨_,Zj,?_⟩)
   refine Ze [4,5,6,7] rfl ?_
   refine T4 (T4 (T2 ?_))
   refine Zd 3 ?_
   refine Yk 24 (congrArg Value.bool c2) ?_
   refine Ze [4,6,27] rfl ?_
   refine Zn ?_
   refine T4 (Za [2,3] ?_)
   refine T3 (⟨_,Zj,?_⟩)
   refine Ze [1,2,5,6] rfl ?_
   have h8:=sO h7 [2]
   replace h8:=nf h8
   refine T4 (T4 (Za [1,2,5,6,27] ?_))
   refine Zn ?_
   refine T4 (Za [4] ?_)
   cases H
   exact T3 (jR0 h8 [])
  refine T5 (T4 (T2 ?_))
  refine Zd 2 ?_
  refine Zc (Zb 0 h7.wht) ?_
  refine Yg Tryz.func85 ?_
  refine T4 (Za [0,1] ?_)
  refine T4 (TW (T4 (T2 ?_)))
  refine Zd 1 ?_
  refine Yg Tryz.func37 ?_
  refine T4 (Za [0] ?_)
  refine T4 (T4 (Za [0,11] ?_))
  refine Zn ?_
  refine T4 (Za [2] ?_)
  refine T3 (⟨_,Zj,?_⟩)
  refine Ze [0,1,10] rfl ?_
  refine Zn ?_
  refine T4 (Za [4,5] ?_)
  refine T3 (⟨_,Zj,?_⟩)
  refine Ze [1,2,7,8] rfl ?_
  refine T4 (T4 (Za [1,2,7,8,23] ?_))
  refine Zn ?_
  refine T4 (Za [4,5] ?_)
  refine T3 (⟨_,Zj,?_⟩)
  refine Ze [4,5,6,7] rfl ?_
  refine T4 (T4 (T2 ?_))
  refine Zd 3 ?_
  refine Yk 24 (congrArg Value.bool c2) ?_
  refine Ze [4,6,27] rfl ?_
  refine Zn ?_
  refine T4 (Za [2,3] ?_)
  refine T3 (⟨_,Zj,?_⟩)
  refine Ze [1,2,5,6] rfl ?_
  have h9:=sO h7 [2]
  replace h9:=nf h9
  refine T4 (T4 (Za [1,2,5,6,27] ?_))
  refine Zn ?_
  refine T4 (Za [4] ?_)
  cases H
  exact T3 (jR0 h9 [])
 rw [ho2] at ho1
 obtain ⟨b4,A2,c_2,rfl,rfl⟩:=ho1
 replace H:=Uz ho2 H
 obtain ⟨c3,H⟩:=Zl H
 replace h5:=nf h5
 refine Ze [1,4,5] rfl ?_
 refine T4 (T2 ?_)
 refine Zc (Zb 2 h5.wht) ?_
 refine Zd 1 ?_
 refine Yg Tryz.func35 ?_
 refine T4 (T2 ?_)
 refine rB (Z4 h5) fun b5 w8 h10=>?_
 refine Ze [1,2] rfl ?_
 refine T4 (T4 (T2 ?_))
 refine Zc (Zb 0 h10.wht) ?_
 refine cS H [] h10 rfl Q48.spec Zp fun r6 w9 H h11=>?_
 refine Ze [1,2,6] rfl ?_
 refine T4 (Za [1,2,6,13] ?_)
 refine jIf H (fun c5 H=>?_) fun c5 H=>?_
 ·refine T4 (Za [4,5] ?_)
  refine T3 (⟨_,Zj,?_⟩)
  refine Ze [4,5,6,7] rfl ?_
  refine T4 (T4 (T2 ?_))
  refine Zd 3 ?_
  refine Yk 24 (congrArg Value.bool c3) ?_
  refine Ze [4,6,27] rfl ?_
  refine TX rfl (fun e=>?_) (fun e=>by rw [c5] at e; cases e)
  refine T4 (Za [2,3] ?_)
  refine T3 (⟨_,Zj,?_⟩)
  refine Ze [1,2,5,6] rfl ?_
  have h12:=sO h11 [4]
  replace h12:=nf h12
  refine T4 (T4 (Za [1,2,5,6,27] ?_))
  refine Zn ?_
  refine T4 (Za [4] ?_)
  cases H
  exact T3 (jR0 h12 [])
 refine T5 (T4 (T2 ?_))
 refine Zd 2 ?_
 refine Zc (Zb 0 h11.wht) ?_
 refine Yg Tryz.func85 ?_
 refine T4 (Za [0,1] ?_)
 refine T4 (TW (T4 (T2 ?_)))
 refine Zd 1 ?_
 refine cS H [1,1] h11 rfl Q53.spec Zp fun r7 w10 H h13=>?_
 refine Ze [0,1,10] rfl ?_
 refine jIf H (fun c6 H=>?_) fun c6 H=>?_
 ·refine T4 (Za [4,5] ?_)
  refine T3 (⟨_,Zj,?_⟩)
  refine Ze [1,2,7,8] rfl ?_
  refine T4 (T4 (Za [1,2,7,8,23] ?_))
  refine Zn ?_
  refine T4 (Za [4,5] ?_)
  refine T3 (⟨_,Zj,?_⟩)
  refine Ze [4,5,6,7] rfl ?_
  refine T4 (T4 (T2 ?_))
  refine Zd 3 ?_
  refine Yk 24 (congrArg Value.bool c3) ?_
  refine Ze [4,6,27] rfl ?_
  refine Zn ?_
  refine T4 (Za [2,3] ?_)
  refine T3 (⟨_,Zj,?_⟩)
  refine Ze [1,2,5,6] rfl ?_
  have h14:=sO h13 [4]
  replace h14:=nf h14
  refine T4 (T4 (Za [1,2,5,6,27] ?_))
  refine Zn ?_
  refine T4 (Za [4] ?_)
  cases H
  exact T3 (jR0 h14 [])
 refine T4 (T2 ?_)
 refine Zd 3 ?_
 refine Z7 17 H (fun c7 H=>?_) fun c7 H=>?_
 ·refine Ze [0,1,14] rfl ?_
  refine Zn ?_
  refine T4 (Za [4,5] ?_)
  refine T3 (⟨_,Zj,?_⟩)
  refine Ze [1,2,7,8] rfl ?_
  refine T4 (T4 (Za [1,2,7,8,23] ?_))
  refine Zn ?_
  refine T4 (Za [4,5] ?_)
  refine T3 (⟨_,Zj,?_⟩)
  refine Ze [4,5,6,7] rfl ?_
  refine T4 (T4 (T2 ?_))
  refine Zd 3 ?_
  refine Yk 24 (congrArg Value.bool c3) ?_
  refine Ze [4,6,27] rfl ?_
  refine Zn ?_
  refine T4 (Za [2,3] ?_)
  refine T3 (⟨_,Zj,?_⟩)
  refine Ze [1,2,5,6] rfl ?_
  have h15:=sO h13 [4]
  replace h15:=nf h15
  refine T4 (T4 (Za [1,2,5,6,27] ?_))
  refine Zn ?_
  refine T4 (Za [4] ?_)
  cases H
  exact T3 (jR0 h15 [])
 refine Ze [0,1,14] rfl ?_
 refine jIf H (fun c8 H=>?_) fun c8 H=>?_
 ·refine T4 (Za [4,5] ?_)
  refine T3 (⟨_,Zj,?_⟩)
  refine Ze [1,2,7,8] rfl ?_
  refine T4 (T4 (Za [1,2,7,8,23] ?_))
  refine Zn ?_
  refine T4 (Za [4,5] ?_)
  refine T3 (⟨_,Zj,?_⟩)
  refine Ze [4,5,6,7] rfl ?_
  refine T4 (T4 (T2 ?_))
  refine Zd 3 ?_
  refine Yk 24 (congrArg Value.bool c3) ?_
  refine Ze [4,6,27] rfl ?_
  refine Zn ?_
  refine T4 (Za [2,3] ?_)
  refine T3 (⟨_,Zj,?_⟩)
  refine Ze [1,2,5,6] rfl ?_
  have h16:=sO h13 [4]
  replace h16:=nf h16
  refine T4 (T4 (Za [1,2,5,6,27] ?_))
  refine Zn ?_
  refine T4 (Za [4] ?_)
  cases H
  exact T3 (jR0 h16 [])
 refine T5 (T4 (T2 ?_))
 refine Zd 1 ?_
 refine cE H [] h13 rfl Q34.spec Zp ?_
 rintro r8 w11 _ _ H ⟨v2,l2,ho3,rfl,rfl⟩ h17
 rcases ho4:r8.1 with _ | r9
 ·rw [ho4] at ho3
  obtain ⟨rfl,rfl⟩:=ho3
  replace H:=Uy ho4 H
  obtain ⟨c9,H⟩:=Zl H
  replace h17:=nf h17
  refine Ze [0,1,6,7] rfl ?_
  refine T4 (T4 (Za [0,1,6,7,27] ?_))
  refine TX rfl (fun e=>?_) (fun e=>by rw [c9] at e; cases e)
  refine T4 (Za [4,5] ?_)
  refine T3 (⟨_,Zj,?_⟩)
  refine Ze [1,2,7,8] rfl ?_
  refine T4 (T4 (Za [1,2,7,8,23] ?_))
  refine TX rfl (fun e=>?_) (fun e=>by rw [c9] at e; cases e)
  refine T4 (Za [4,5] ?_)
  refine T3 (⟨_,Zj,?_⟩)
  refine Ze [4,5,6,7] rfl ?_
  refine T4 (T4 (T2 ?_))
  refine Zd 3 ?_
  refine Yk 24 (congrArg Value.bool c3) ?_
  refine Ze [4,6,27] rfl ?_
  refine TX rfl (fun e=>?_) (fun e=>by rw [c9] at e; cases e)
  refine T4 (Za [2,3] ?_)
  refine T3 (⟨_,Zj,?_⟩)
  refine Ze [1,2,5,6] rfl ?_
  have h18:=sO h17 [4]
  replace h18:=nf h18
  refine T4 (T4 (Za [1,2,5,6,27] ?_))
  refine Zn ?_
  refine T4 (Za [4] ?_)
  cases H
  exact T3 (jR0 h18 [])
 rw [ho4] at ho3
 obtain ⟨b6,A3,c_3,rfl,rfl⟩:=ho3
 replace H:=Uz ho4 H
 obtain ⟨c10,H⟩:=Zl H
 replace h17:=nf h17
 refine Ze [0,1,6,7] rfl ?_
 refine T4 (T4 (Za [0,1,6,7,27] ?_))
 refine TX rfl (fun e=>by rw [c10] at e; cases e) (fun e=>?_)
 refine T5 (T4 (T2 ?_))
 refine Zd 2 ?_
 obtain ⟨⟨p1,p2⟩,H⟩:=Zl H
 refine rB (Zab Yj (ty:=(.pair (.int .u32) (.pair (.slice 5 (.int .u8)) (.pair .bool (.int .i64))))) ((0,([]:List Int),false,0):Int×List Int×Bool×Int) rfl rfl rfl rfl rfl rfl (fun _ _=>Zis ⟨none,0,rfl,T6 _,.inl rfl⟩) (by decide) h17 p1 p2) fun b7 w12 h19=>?_
 refine rB (G6 .u32 (Value.int .i64) h19) fun b8 w13 h20=>?_
 refine Zd 2 ?_
 refine rB (Z4 h20) fun b9 w14 h21=>?_
 refine Ze [1,8] rfl ?_
 refine T4 (T4 (Za [8,36,37] ?_))
 refine TW ?_
 have h103:=h21.addNil 3 (.int .i64)
 have h104:=(sOR h103 [1,5,1,2,6,5,4,3,1,0,0] [0,1])
 refine T0 (fun kk env w=>∃ x1 A4 c_4 x2,Q125.l0 kk a0 a1 r4 r9 x1 x2=some r∧env=[(8,.pointer (some ⟨b9,0,none⟩)),(36,.int .i64 a0.2.2.1),(37,.int .i64 x2)]∧St w0 F0 [Xp b9 (.pointer (some ⟨b4,0,none⟩)) (List.replicate a0.2.2.1.toNat ((0,([]:List Int),false,0):Int×List Int×Bool×Int)) (some ⟨b7,0,none⟩) (a0.2.2.1.toNat) (.map (some b8)) x1 A4 c_4 (.pointer (some ⟨b6,0,none⟩)),Xf b4 r4.1 r4.2.1 A2 c_2 r4.2.2.1 r4.2.2.2,Y2 .u32 (Value.int .i64) b8 ([]:List TS),Yx b6 r9.1 A3 c_3 r9.2,X23 b1 a0.1 a0.2.1 a0.2.2.1 a0.2.2.2.1 a0.2.2.2.2.1 a0.2.2.2.2.2.1 a0.2.2.2.2.2.2.1 a0.2.2.2.2.2.2.2,X23 b2 a0.1 a0.2.1 a0.2.2.1 a0.2.2.2.1 a0.2.2.2.2.1 a0.2.2.2.2.2.1 a0.2.2.2.2.2.2.1 a0.2.2.2.2.2.2.2,X23 b5 a0.1 a0.2.1 a0.2.2.1 a0.2.2.2.1 a0.2.2.2.2.1 a0.2.2.2.2.2.1 a0.2.2.2.2.2.2.1 a0.2.2.2.2.2.2.2,O5 r4.2.1 A2 c_2,Xm (List.replicate a0.2.2.1.toNat ((0,([]:List Int),false,0):Int×List Int×Bool×Int)) (some ⟨b7,0,none⟩) (a0.2.2.1.toNat),O3 x1 A4 c_4,Yy r9.1 A3 c_3] [R45 a1 A1 c_1,tabC 0] w) (k:=k) ⟨_,_,_,_,H,rfl,h104⟩ ?_
 rintro k1 env w15 ⟨x1,A4,c_4,x2,H,rfl,h22⟩
 rcases k1 with _ | k1
 ·exact z0 H
 rw [Q125.l0] at H
 refine T4 (Za [8,36,37,38] ?_)
 refine T4 (jIf H (fun c11 H=>?_) fun c11 H=>?_)
 ·refine T5 (T4 (TW (T4 (Za [8,9,36,37] ?_))))
  refine T2 (Zd 4 ?_)
  refine Zc (Zb 0 h22.wht) ?_
  refine Zd 1 ?_
  refine rB (Y6 (.int .i64) ([x2]:List Int) h22) fun b10 w16 h23=>?_
  obtain ⟨p3,H⟩:=Zl H
  refine Zv (Yq 10 h23 (gO 0) p3) ?_
  rintro _ w17 ⟨A5,c_5,rfl,h24⟩
  replace h24:=nf h24
  refine Zd 2 ?_
  refine rS (Zs 2 h24) fun _ w18 h25=>?_
  refine Ze [8,36,37] rfl ?_
  refine Za [8,36,37] ?_
  have h26:=(sOR h25 [0,2,2,2,2,2,2,2,2,0,1] [0,1])
  exact ⟨k1,by omega,_,_,_,_,H,rfl,h26⟩
 refine TZ (T4 (Za [4,5] ?_))
 refine T3 (⟨_,Zj,?_⟩)
 refine Ze [1,2,7,8] rfl ?_
 refine T4 (T4 (Za [1,2,7,8,23] ?_))
 refine Z5 ?_
 refine T5 (T4 (T4 ?_))
 refine jH h22 fun h27=>?_
 refine Zo [0,2] ?_
 refine Zf 3 rfl (Zb 6 wI) ?_
 refine cEJ 1 rfl H [1,6] h27 rfl Q53.spec Zp ?_
 rintro r10 w19 _ _ H ⟨rfl,rfl⟩ h28
 replace h28:=nf h28
 refine ⟨⟨[],(sO h28 [2,0,1,1,1,1,1,0,0,0,0])⟩,?_⟩
 refine Zo [4,5] ?_
 refine X1 30 H (fun c12 H=>?_) fun c12 H=>?_
 ·refine Zo [6,7,8,9,10,11] ?_
  refine Zt [1,2,7,36] ?_
  refine Zn ?_
  refine T4 (Za [4,5] ?_)
  refine T3 (⟨_,Zj,?_⟩)
  refine Ze [4,5,6,7] rfl ?_
  refine T4 (T4 (T2 ?_))
  refine Zd 3 ?_
  refine Yk 24 (congrArg Value.bool c3) ?_
  refine Ze [4,6,27] rfl ?_
  refine Zn ?_
  refine T4 (Za [2,3] ?_)
  refine T3 (⟨_,Zj,?_⟩)
  refine Ze [1,2,5,6] rfl ?_
  have h29:=sO h28 [5]
  replace h29:=nf h29
  refine T4 (T4 (Za [1,2,5,6,27] ?_))
  refine Zn ?_
  refine T4 (Za [4] ?_)
  cases H
  exact T3 (jR0 h29 [])
 refine Zo [6,8] ?_
 refine Zf 9 rfl (Zb 6 wI) ?_
 refine cEJ 7 rfl H [0,0] h28 rfl Q54.spec Zp ?_
 rintro r11 w20 _ _ H ⟨rfl,rfl⟩ h30
 replace h30:=nf h30
 refine ⟨⟨[],(sO h30 [2,0,1,1,1,1,1,0,0,0,0])⟩,?_⟩
 refine Zo [10,11] ?_
 refine Zt [1,2,7,36] ?_
 refine jIf H (fun c13 H=>?_) fun c13 H=>?_
 ·refine T4 (Za [4,5] ?_)
  refine T3 (⟨_,Zj,?_⟩)
  refine Ze [4,5,6,7] rfl ?_
  refine T4 (T4 (T2 ?_))
  refine Zd 3 ?_
  refine Yk 24 (congrArg Value.bool c3) ?_
  refine Ze [4,6,27] rfl ?_
  refine Zn ?_
  refine T4 (Za [2,3] ?_)
  refine T3 (⟨_,Zj,?_⟩)
  refine Ze [1,2,5,6] rfl ?_
  have h31:=sO h30 [5]
  replace h31:=nf h31
  refine T4 (T4 (Za [1,2,5,6,27] ?_))
  refine Zn ?_
  refine T4 (Za [4] ?_)
  cases H
  exact T3 (jR0 h31 [])
 refine T5 (T4 (T2 ?_))
 refine Zd 1 ?_
 refine Zc (Zb 7 h30.wht) ?_
 refine cE H [] h30 rfl Q72.spec Zp ?_
 rintro r12 w21 _ _ H ⟨v3,l3,ho5,rfl,rfl⟩ h32
 rcases ho6:r12.1 with _ | r13
 ·rw [ho6] at ho5
  obtain ⟨rfl,rfl⟩:=ho5
  replace H:=Uy ho6 H
  obtain ⟨c14,H⟩:=Zl H
  replace h32:=nf h32
  refine Ze [1,2,7,8,9] rfl ?_
  refine T4 (T4 (Za [1,2,7,8,9,44] ?_))
  refine TX rfl (fun e=>?_) (fun e=>by rw [c14] at e; cases e)
  refine T4 (Za [4,5] ?_)
  refine T3 (⟨_,Zj,?_⟩)
  refine Ze [4,5,6,7] rfl ?_
  refine T4 (T4 (T2 ?_))
  refine Zd 3 ?_
  refine Yk 24 (congrArg Value.bool c3) ?_
  refine Ze [4,6,27] rfl ?_
  refine TX rfl (fun e=>?_) (fun e=>by rw [c14] at e; cases e)
  refine T4 (Za [2,3] ?_)
  refine T3 (⟨_,Zj,?_⟩)
  refine Ze [1,2,5,6] rfl ?_
  have h33:=sO h32 [5]
  replace h33:=nf h33
  refine T4 (T4 (Za [1,2,5,6,27] ?_))
  refine Zn ?_
  refine T4 (Za [4] ?_)
  cases H
  exact T3 (jR0 h33 [])
 rw [ho6] at ho5
 obtain ⟨b11,b12,A6,c_6,rfl,rfl⟩:=ho5
 replace H:=Uz ho6 H
 obtain ⟨c15,H⟩:=Zl H
 replace h32:=nf h32
 refine Ze [1,2,7,8,9] rfl ?_
 refine T4 (T4 (Za [1,2,7,8,9,44] ?_))
 refine TX rfl (fun e=>by rw [c15] at e; cases e) (fun e=>?_)
 refine T5 (T4 (T2 ?_))
 refine Zc (Zb 10 h32.wht) ?_
 refine Zd 4 ?_
 refine rB (Z4 h32) fun b13 w22 h34=>?_
 refine Ze [4,5] rfl ?_
 refine T3 (⟨_,Zj,?_⟩)
 refine Ze [4,5,6,7] rfl ?_
 refine T4 (T4 (T2 ?_))
 refine Zd 3 ?_
 refine Yk 24 (congrArg Value.bool c3) ?_
 refine Ze [4,6,27] rfl ?_
 refine Z5 ?_
 refine T5 (T4 (Za [2,3] ?_))
 refine T3 (⟨_,Zj,?_⟩)
 refine Ze [1,2,5,6] rfl ?_
 have h35:=sO h34 [0,0,0,0,0,0,0,0,0,0,2,2,2]
 replace h35:=nf h35
 refine T4 (T4 (Za [1,2,5,6,27] ?_))
 refine Z5 ?_
 refine T5 (T4 (T2 ?_))
 refine Zc (Zb 9 h35.wht) ?_
 obtain ⟨r14,q11,H⟩:=Ye H
 refine Zv (Zz [] (Q162.spec q11) h35 rfl Zp) ?_
 rintro _ w23 ⟨_,_,⟨A7,c_7,A8,c_8,rfl,rfl,rfl⟩,h36⟩
 replace h36:=nf h36
 refine rB (Yp h36) fun b14 w24 h37=>?_
 refine rS (Zs 0 h37) fun _ w25 h38=>?_
 refine Ze [1,2,5,6,7] rfl ?_
 refine T4 (T4 (Za [1,2,5,6,7,8] ?_))
 refine TW ?_
 have h101:=h38.freeze (k:=1) rfl Yz
 have h102:=(sOR h101 [10,1,4,5,5,5,1,1,0,1,1,1,1,0] [2,1,0,3])
 refine T0 (fun kk env w=>∃ x3 x4 x5 x6 x7 A9 c_9 x8 A10 c_10 x9 x10 A11 c_11 A12 c_12 A13 c_13 x11 A14 c_14 A15 c_15 x12,Q125.l1 kk a0 a1 x3 x4 x5 x6 x7 x8 x9 x10 x11 x12=some r∧env=[(1,.slice A1 a1.length c_1),(2,.pointer (some ⟨b1,0,none⟩)),(5,.pointer (some ⟨b13,0,none⟩)),(6,.pointer (some ⟨b4,0,none⟩)),(7,.pointer (some ⟨b14,0,none⟩)),(8,.int .i64 x12)]∧St w0 F0 [X23 b1 a0.1 a0.2.1 a0.2.2.1 a0.2.2.2.1 a0.2.2.2.2.1 a0.2.2.2.2.2.1 a0.2.2.2.2.2.2.1 a0.2.2.2.2.2.2.2,X83 b13 x3.1 x3.2.1 x3.2.2.1 x3.2.2.2.1 x3.2.2.2.2.1 x3.2.2.2.2.2.1 x3.2.2.2.2.2.2.1 x3.2.2.2.2.2.2.2 (.pointer (some ⟨b4,0,none⟩)) (.pointer (some ⟨b9,0,none⟩)) (.pointer (some ⟨b11,0,none⟩)) x11,Xf b4 x4.1 x4.2.1 A9 c_9 x4.2.2.1 x4.2.2.2,Xp b9 (.pointer (some ⟨b4,0,none⟩)) x8 A10 c_10 (.map (some b8)) x10 A11 c_11 (.pointer (some ⟨b6,0,none⟩)),Y2 .u32 (Value.int .i64) b8 x9,Yx b6 x5.1 A12 c_12 x5.2,Zaw b11 (.pointer (some ⟨b12,0,none⟩)),W6 b12 x6.1 x6.2.1 x6.2.2 A13 c_13,X35 b14 x7.1.1 x7.1.2.1 x7.1.2.2.1 x7.1.2.2.2.1 x7.1.2.2.2.2.1 x7.1.2.2.2.2.2.1 x7.1.2.2.2.2.2.2.1 x7.1.2.2.2.2.2.2.2 x7.2.1 A14 c_14 x7.2.2.1 A15 c_15 x7.2.2.2,O5 x4.2.1 A9 c_9,Xm x8 A10 c_10,O3 x10 A11 c_11,Yy x5.1 A12 c_12,O61 x6.2.2 A13 c_13] [R45 a1 A1 c_1,R53 x7.2.1 A14 c_14,R4 x7.2.2.1 A15 c_15,tabC 0] w) (k:=k1) ⟨_,_,_,_,_,_,_,_,_,_,_,_,_,_,_,_,_,_,_,_,_,_,_,_,H,rfl,h102⟩ ?_
 rintro k2 env w26 ⟨x3,x4,x5,x6,x7,A9,c_9,x8,A10,c_10,x9,x10,A11,c_11,A12,c_12,A13,c_13,x11,A14,c_14,A15,c_15,x12,H,rfl,h39⟩
 rcases k2 with _ | k2
 ·exact z0 H
 rw [Q125.l1] at H
 refine T4 (T4 ?_)
 refine T1 (fun env w=>∃ k3 x13,Q125.l2 k3 a0 a1 x3 x4 x5 x6 x7 x8 x9 x10 x11 x12 x13=some r∧env=[(1,.slice A1 a1.length c_1),(2,.pointer (some ⟨b1,0,none⟩)),(5,.pointer (some ⟨b13,0,none⟩)),(6,.pointer (some ⟨b4,0,none⟩)),(7,.pointer (some ⟨b14,0,none⟩)),(8,.int .i64 x12),(37,.bool x13)]∧St w0 F0 [X23 b1 a0.1 a0.2.1 a0.2.2.1 a0.2.2.2.1 a0.2.2.2.2.1 a0.2.2.2.2.2.1 a0.2.2.2.2.2.2.1 a0.2.2.2.2.2.2.2,X83 b13 x3.1 x3.2.1 x3.2.2.1 x3.2.2.2.1 x3.2.2.2.2.1 x3.2.2.2.2.2.1 x3.2.2.2.2.2.2.1 x3.2.2.2.2.2.2.2 (.pointer (some ⟨b4,0,none⟩)) (.pointer (some ⟨b9,0,none⟩)) (.pointer (some ⟨b11,0,none⟩)) x11,Xf b4 x4.1 x4.2.1 A9 c_9 x4.2.2.1 x4.2.2.2,Xp b9 (.pointer (some ⟨b4,0,none⟩)) x8 A10 c_10 (.map (some b8)) x10 A11 c_11 (.pointer (some ⟨b6,0,none⟩)),Y2 .u32 (Value.int .i64) b8 x9,Yx b6 x5.1 A12 c_12 x5.2,Zaw b11 (.pointer (some ⟨b12,0,none⟩)),W6 b12 x6.1 x6.2.1 x6.2.2 A13 c_13,X35 b14 x7.1.1 x7.1.2.1 x7.1.2.2.1 x7.1.2.2.2.1 x7.1.2.2.2.2.1 x7.1.2.2.2.2.2.1 x7.1.2.2.2.2.2.2.1 x7.1.2.2.2.2.2.2.2 x7.2.1 A14 c_14 x7.2.2.1 A15 c_15 x7.2.2.2,O5 x4.2.1 A9 c_9,Xm x8 A10 c_10,O3 x10 A11 c_11,Yy x5.1 A12 c_12,O61 x6.2.2 A13 c_13] [R45 a1 A1 c_1,R53 x7.2.1 A14 c_14,R4 x7.2.2.1 A15 c_15,tabC 0] w∧k3≤k2) ?_ ?_
 ·refine T2 (Zd 5 ?_)
  refine Z7 34 H (fun c24 H=>?_) fun c24 H=>?_
  ·refine Ze [1,2,5,6,7,8,37] rfl ?_
   have h99:=(sOR h39 [0,0,0,0,0,0,0,0,0,0,0,0,0,0] [0,1,2,3])
   exact ⟨k2,_,H,rfl,h99,T6 _⟩
  refine Ze [1,2,5,6,7,8,37] rfl ?_
  have h100:=(sOR h39 [0,0,0,0,0,0,0,0,0,0,0,0,0,0] [0,1,2,3])
  exact ⟨k2,_,H,rfl,h100,T6 _⟩
 rintro env w28 ⟨k3,x13,H,rfl,h40,hk3⟩
 rcases k3 with _ | k3
 ·exact z0 H
 rw [Q125.l2] at H
 refine jIf H (fun c16 H=>?_) fun c16 H=>?_
 ·refine T5 (T4 (TW (T4 (T4 (T2 ?_)))))
  refine Zd 2 ?_
  obtain ⟨⟨p4,p5⟩,H⟩:=Zl H
  have e1:=Zx h40.wh (Zk 14) p4 p5
  refine Zc (Zg e1 p4 p5) ?_
  refine Zd 1 ?_
  obtain ⟨cs1,h41⟩:=h40.elem 0 rfl p4 p5
  obtain ⟨cs2,cs3,rfl,h42⟩:=Yw 0 h41
  obtain ⟨cs4,cs5,rfl,h43⟩:=Yw 1 h42
  obtain rfl:=Xw (.int .i64) 2 h43
  obtain rfl:=Xw (.int .u32) 0 h43
  obtain ⟨cs6,cs7,rfl,h44⟩:=Yw 1 h43
  obtain ⟨cs8,cs9,rfl,h45⟩:=Yw 1 h44
  obtain ⟨cs10,cs11,rfl,h46⟩:=Yw 1 h45
  obtain ⟨cs12,cs13,rfl,h47⟩:=Yw 1 h46
  obtain rfl:=Xw (.int .i64) 6 h47
  obtain ⟨A16,c_16,rfl⟩:=Y0 4 h47
  obtain ⟨A17,c_17,rfl⟩:=Y0 2 h47
  obtain ⟨A18,c_18,rfl⟩:=Y0 0 h47
  obtain ⟨A19,c_19,rfl⟩:=Y0 1 h47
  refine Zc (Vk 2 h47.wht (Zk 27)) ?_
  refine cS H [] h47 rfl Q123.spec (gS [18,16,14,15]) fun r15 w29 H h48=>?_
  refine Ze [1,2,5,6,7,8,45] rfl ?_
  refine jIf H (fun c17 H=>?_) fun c17 H=>?_
  ·refine T4 (T2 ?_)
   refine cS H [] h48 rfl Q126.spec (gS [31]) fun r16 w30 H h49=>?_
   refine Ze [4] rfl ?_
   have h50:=sO h49 []
   replace h50:=nf h50
   cases H
   exact T3 (jR0 h50 [])
  refine T5 (T4 ?_)
  obtain ⟨r17,q14,H⟩:=Ye H
  refine T1 (fun env w=>∃(b15:Nat) (A20:Option Addr) (c_20:Nat) (A21:Option Addr) (c_21:Nat),env=[(1,.slice A1 a1.length c_1),(2,.pointer (some ⟨b1,0,none⟩)),(5,.pointer (some ⟨b13,0,none⟩)),(6,.pointer (some ⟨b4,0,none⟩)),(7,.pointer (some ⟨b14,0,none⟩)),(8,.int .i64 x12),(9,.pointer (some ⟨b15,0,none⟩))]∧St w0 F0 [X35 b15 r17.1.1.1 r17.1.1.2.1 r17.1.1.2.2.1 r17.1.1.2.2.2.1 r17.1.1.2.2.2.2.1 r17.1.1.2.2.2.2.2.1 r17.1.1.2.2.2.2.2.2.1 r17.1.1.2.2.2.2.2.2.2 r17.1.2.1 A20 c_20 r17.1.2.2.1 A21 c_21 r17.1.2.2.2,X23 b1 a0.1 a0.2.1 a0.2.2.1 a0.2.2.2.1 a0.2.2.2.2.1 a0.2.2.2.2.2.1 a0.2.2.2.2.2.2.1 a0.2.2.2.2.2.2.2,X83 b13 x3.1 x3.2.1 x3.2.2.1 x3.2.2.2.1 x3.2.2.2.2.1 x3.2.2.2.2.2.1 x3.2.2.2.2.2.2.1 x3.2.2.2.2.2.2.2 (.pointer (some ⟨b4,0,none⟩)) (.pointer (some ⟨b9,0,none⟩)) (.pointer (some ⟨b11,0,none⟩)) x11,Xf b4 x4.1 x4.2.1 A9 c_9 x4.2.2.1 x4.2.2.2,Xp b9 (.pointer (some ⟨b4,0,none⟩)) x8 A10 c_10 (.map (some b8)) x10 A11 c_11 (.pointer (some ⟨b6,0,none⟩)),Y2 .u32 (Value.int .i64) b8 x9,Yx b6 x5.1 A12 c_12 x5.2,Zaw b11 (.pointer (some ⟨b12,0,none⟩)),W6 b12 x6.1 x6.2.1 x6.2.2 A13 c_13,X35 b14 x7.1.1 x7.1.2.1 x7.1.2.2.1 x7.1.2.2.2.1 x7.1.2.2.2.2.1 x7.1.2.2.2.2.2.1 x7.1.2.2.2.2.2.2.1 x7.1.2.2.2.2.2.2.2 x7.2.1 A14 c_14 x7.2.2.1 A15 c_15 x7.2.2.2,O5 x4.2.1 A9 c_9,Xm x8 A10 c_10,O3 x10 A11 c_11,Yy x5.1 A12 c_12,O61 x6.2.2 A13 c_13] [R53 r17.1.2.1 A20 c_20,R4 r17.1.2.2.1 A21 c_21,Y5 ((gt a1 x12).2.2.2.2.2.1) A18 c_18,Y3 ((gt a1 x12).2.2.2.2.2.2) A19 c_19,R9 ((gt a1 x12).2.2.2.2.1) A17 c_17,R33 ((gt a1 x12).2.2.2.1) A16 c_16,R45 a1 A1 c_1,R53 x7.2.1 A14 c_14,R4 x7.2.2.1 A15 c_15,tabC 0] w) ?_ ?_
  ·refine jH h48 fun h54=>?_
   refine Zo [1,2] ?_
   refine Zf 0 rfl (Zb 8 wI) ?_
   refine Zf 3 rfl (Zg e1 p4 p5) ?_
   refine Zf 4 rfl (Vk 0 wI (Zk 27)) ?_
   refine TV [5,10] (i:=5) rfl rfl rfl rfl ?_
   refine (Yb ?_ (Yb ?_ Xg))
   ·refine Xv 5 rfl (Zz [] (Q129.spec q14) h54 rfl (gS [15,16,4,2,0,1])) ?_
    rintro _ w34 ⟨_,_,⟨A22,c_22,A23,c_23,rfl,rfl,rfl⟩,h55⟩
    replace h55:=nf h55
    refine ⟨⟨[],(Y9 h55 [2,3,4,5,6,7,8,9,10,11,12,13,14,15,16,17,18,19])⟩,?_⟩
    refine Zo [6,7,8,9] ?_
    refine Yl 10 rfl (Yp h55) ?_
    rintro _ w35 ⟨b16,rfl,h56⟩
    replace h56:=nf h56
    refine ⟨⟨[_],(Y9 h56 [2,3,4,5,6,7,8,9,10,11,12,13,14,15,16,17,18,19])⟩,?_⟩
    refine Yl 11 rfl (Zs 0 h56) ?_
    intro _ w36 h57
    replace h57:=nf h57
    refine ⟨⟨[_],(Y9 h57 [2,3,4,5,6,7,8,9,10,11,12,13,14,15,16,17,18,19])⟩,?_⟩
    refine Zo [12,13] ?_
    refine Zt [1,2,5,6,7,8,9] ?_
    exact Zu ⟨b16,A22,c_22,A23,c_23,rfl,(sOR h57 [0,0,0,0,0,0,0,0,0,0,0,0,0,0,0] [0,1,2,3,4,6,16,17,18,19])⟩
   ·refine Xv 10 rfl (Yp h54) ?_
    rintro _ w37 ⟨b17,rfl,h58⟩
    replace h58:=nf h58
    refine ⟨⟨[_],h58⟩,?_⟩
    refine Yl 5 rfl (Zz [] (Q129.spec q14) h58 rfl (gS [15,16,4,2,0,1])) ?_
    rintro _ w38 ⟨_,_,⟨A24,c_24,A25,c_25,rfl,rfl,rfl⟩,h59⟩
    replace h59:=nf h59
    refine ⟨⟨[_],(Y9 h59 [2,3,4,5,6,7,8,9,10,11,12,13,14,15,16,17,18,19])⟩,?_⟩
    refine Zo [6,7,8,9] ?_
    refine Yl 11 rfl (Zs 0 h59) ?_
    intro _ w39 h60
    replace h60:=nf h60
    refine ⟨⟨[_],(Y9 h60 [2,3,4,5,6,7,8,9,10,11,12,13,14,15,16,17,18,19])⟩,?_⟩
    refine Zo [12,13] ?_
    refine Zt [1,2,5,6,7,8,9] ?_
    exact Zu ⟨b17,A24,c_24,A25,c_25,rfl,(sOR h60 [0,0,0,0,0,0,0,0,0,0,0,0,0,0,0] [0,1,2,3,4,6,16,17,18,19])⟩
  rintro env w40 ⟨b15,A20,c_20,A21,c_21,rfl,h61⟩
  refine T4 (T2 ?_)
  refine Zc (Zb 0 h61.wht) ?_
  refine rS (Zs 9 h61) fun _ w41 h62=>?_
  refine Ze [1,2,5,6,7,8] rfl ?_
  refine T2 (Zd 3 ?_)
  refine Zc (Zg e1 p4 p5) ?_
  obtain ⟨cs14,h63⟩:=h62.elem 6 rfl p4 p5
  obtain ⟨cs15,cs16,rfl,h64⟩:=Yw 0 h63
  obtain ⟨cs17,cs18,rfl,h65⟩:=Yw 1 h64
  obtain rfl:=Xw (.int .i64) 2 h65
  obtain rfl:=Xw (.int .u32) 0 h65
  obtain ⟨cs19,cs20,rfl,h66⟩:=Yw 1 h65
  obtain ⟨cs21,cs22,rfl,h67⟩:=Yw 1 h66
  obtain ⟨cs23,cs24,rfl,h68⟩:=Yw 1 h67
  obtain ⟨cs25,cs26,rfl,h69⟩:=Yw 1 h68
  obtain rfl:=Xw (.int .i64) 6 h69
  obtain ⟨A26,c_26,rfl⟩:=Y0 4 h69
  obtain ⟨A27,c_27,rfl⟩:=Y0 2 h69
  obtain ⟨A28,c_28,rfl⟩:=Y0 0 h69
  obtain ⟨A29,c_29,rfl⟩:=Y0 1 h69
  refine Zc (Vk 0 h69.wht (Zk 28)) ?_
  refine cE H [3,4,3,7,7,3,6,3,5,3,3,3] h69 rfl Q128.spec (gS [7,5,3,4,26]) ?_
  rintro r18 w42 _ _ H ⟨A30,c_30,A31,c_31,A32,c_32,A33,c_33,A34,c_34,rfl,rfl⟩ h70
  replace h70:=nf h70
  refine Ze [1,2,5,6,7,8] rfl ?_
  refine Za [1,2,5,6,7,8] ?_
  have h71:=(sOR h70 [14,0,1,0,2,3,4,4,5,0,0,0,0,0] [20,14,15,23])
  exact ⟨k3,by omega,_,_,_,_,_,_,_,_,_,_,_,_,_,_,_,_,_,_,_,_,_,_,_,_,H,rfl,h71⟩
 refine TZ (T4 (T4 (T2 ?_)))
 refine Zd 1 ?_
 refine cE H [1,2,1,6,6,1,5,1,4,1,1,2] h40 rfl Q81.spec Zp ?_
 rintro r19 w43 _ _ H ⟨A35,c_35,A36,c_36,A37,c_37,A38,c_38,A39,c_39,rfl,rfl⟩ h72
 replace h72:=nf h72
 refine Ze [2,6,7,66] rfl ?_
 have h73:=sO h72 [2,2,10,10]
 replace h73:=nf h73
 refine jIf H (fun c18 H=>?_) fun c18 H=>?_
 ·refine T4 (Za [4] ?_)
  have h74:=sO h73 []
  replace h74:=nf h74
  cases H
  exact T3 (jR0 h74 [])
 refine T5 (T4 (T4 (Za [2,6,7,12] ?_)))
 refine TW ?_
 have h98:=(sOR h73 [2,0,1,0] [1,2,3])
 refine T0 (fun kk env w=>∃ x14 A40 c_40 x15,Q125.l3 kk a0 x7 x14 x15=some r∧env=[(2,.pointer (some ⟨b1,0,none⟩)),(6,.pointer (some ⟨b4,0,none⟩)),(7,.pointer (some ⟨b14,0,none⟩)),(12,.int .i64 x15)]∧St w0 F0 [X23 b1 a0.1 a0.2.1 a0.2.2.1 a0.2.2.2.1 a0.2.2.2.2.1 a0.2.2.2.2.2.1 a0.2.2.2.2.2.2.1 a0.2.2.2.2.2.2.2,Xf b4 x14.1 x14.2.1 A40 c_40 x14.2.2.1 x14.2.2.2,X35 b14 x7.1.1 x7.1.2.1 x7.1.2.2.1 x7.1.2.2.2.1 x7.1.2.2.2.2.1 x7.1.2.2.2.2.2.1 x7.1.2.2.2.2.2.2.1 x7.1.2.2.2.2.2.2.2 x7.2.1 A14 c_14 x7.2.2.1 A15 c_15 x7.2.2.2,O5 x14.2.1 A40 c_40] [R53 x7.2.1 A14 c_14,R4 x7.2.2.1 A15 c_15,tabC 0] w) (k:=k3) ⟨_,_,_,_,H,rfl,h98⟩ ?_
 rintro k4 env w44 ⟨x14,A40,c_40,x15,H,rfl,h75⟩
 rcases k4 with _ | k4
 ·exact z0 H
 rw [Q125.l3] at H
 refine T4 (T4 (T2 ?_))
 refine Zd 2 ?_
 refine Zc (Zb 0 h75.wht) ?_
 refine Ze [2,6,7,12,70] rfl ?_
 refine jIf H (fun c19 H=>?_) fun c19 H=>?_
 ·refine T5 (T4 (TW (T4 (T4 (T2 ?_)))))
  refine Zd 1 ?_
  refine Zc (Zb 2 h75.wht) ?_
  refine Zd 1 ?_
  obtain ⟨⟨p6,p7⟩,H⟩:=Zl H
  have e2:=Zx h75.wh (Zk 4) p6 p7
  refine Zc (Zg e2 p6 p7) ?_
  refine Zd 1 ?_
  obtain ⟨cs27,h76⟩:=h75.elem 0 rfl p6 p7
  obtain ⟨cs28,cs29,rfl,h77⟩:=Yw 0 h76
  obtain rfl:=Xw (.int .i64) 0 h77
  obtain ⟨cs30,cs31,rfl,h78⟩:=Yw 1 h77
  obtain ⟨cs32,cs33,rfl,h79⟩:=Yw 1 h78
  obtain ⟨cs34,cs35,rfl,h80⟩:=Yw 1 h79
  obtain ⟨cs36,cs37,rfl,h81⟩:=Yw 1 h80
  obtain rfl:=Xw (.int .i64) 6 h81
  obtain ⟨A41,c_41,rfl⟩:=Y0 4 h81
  obtain ⟨A42,c_42,rfl⟩:=Y0 2 h81
  obtain ⟨A43,c_43,rfl⟩:=Y0 0 h81
  obtain ⟨A44,c_44,rfl⟩:=Y0 1 h81
  refine Zc (Vk 0 h81.wht (Zk 15)) ?_
  refine Ze [2,6,7,12,79] rfl ?_
  refine jIf H (fun c20 H=>?_) fun c20 H=>?_
  ·refine TZ (Za [2,6,7,12] ?_)
   have h82:=(sOR h81 [0,0,0,0] [12,13,14])
   exact ⟨k4,by omega,_,_,_,_,H,rfl,h82⟩
  refine T5 (T4 (T2 ?_))
  refine Zd 3 ?_
  refine cE H [1,2] h81 rfl Q55.spec Zp ?_
  rintro r20 w45 _ _ H ⟨A45,c_45,A46,c_46,rfl,rfl⟩ h83
  replace h83:=nf h83
  refine Ze [2,6,7,12,13,14] rfl ?_
  refine T4 (T2 ?_)
  refine Zc (Zb 3 h83.wht) ?_
  refine Zd 1 ?_
  refine cE H [] h83 rfl Q37.spec (X4 (gO 0) Zp) ?_
  rintro r21 w46 _ _ H ⟨A47,c_47,A48,c_48,A49,c_49,A50,c_50,rfl,rfl⟩ h84
  replace h84:=nf h84
  refine Zd 3 ?_
  refine rB (Yp h84) fun b18 w47 h85=>?_
  refine rS (Zs 0 h85) fun _ w48 h86=>?_
  refine Ze [2,6,7,12,14,15,16] rfl ?_
  refine T4 (jH h86 fun h87=>?_)
  refine Zo [0,1,2] ?_
  refine X1 95 H (fun c21 H=>?_) fun c21 H=>?_
  ·refine Zo [3,4,5,6,7,8,9,10,11,12,13,14,15,16] ?_
   refine Zt [2,6,7,12,109] ?_
   have h88:=sO h87 [6,6,6,6]
   replace h88:=nf h88
   refine Zn ?_
   refine T4 (Za [4] ?_)
   have h89:=sO h88 []
   replace h89:=nf h89
   cases H
   exact T3 (jR0 h89 [])
  refine Zo [3,4,5,6] ?_
  refine X1 99 H (fun c22 H=>?_) fun c22 H=>?_
  ·refine Zo [7,8,9,10,11,12,13,14,15,16] ?_
   refine Zt [2,6,7,12,109] ?_
   have h90:=sO h87 [6,6,6,6]
   replace h90:=nf h90
   refine Zn ?_
   refine T4 (Za [4] ?_)
   have h91:=sO h90 []
   replace h91:=nf h91
   cases H
   exact T3 (jR0 h91 [])
  refine Zo [8,10] ?_
  refine Zf 7 rfl (Zb 0 wI) ?_
  refine Zf 9 rfl (Zb 9 wI) ?_
  refine Zf 11 rfl (Zg e2 p6 p7) ?_
  refine Zo [12] ?_
  refine Zf 13 rfl (Vk 1 wI (Zk 21)) ?_
  refine cSJ 14 rfl H [] h87 rfl Q153.spec (X4 (gO 1) (X4 (gO 2) (X4 (gO 3) (X4 (gO 4) (gS [14,12,10,11]))))) 0 fun r22 w49 H h92=>?_
  refine Zo [15,16] ?_
  refine Zt [2,6,7,12,109] ?_
  have h93:=sO h92 [6,6,6,6]
  replace h93:=nf h93
  refine jIf H (fun c23 H=>?_) fun c23 H=>?_
  ·refine T4 (Za [4] ?_)
   have h94:=sO h93 []
   replace h94:=nf h94
   cases H
   exact T3 (jR0 h94 [])
  refine T5 (Za [2,6,7,12] ?_)
  have h95:=(sOR h93 [2,0,1,0] [12,13,14])
  exact ⟨k4,by omega,_,_,_,_,H,rfl,h95⟩
 refine TZ (T4 (T2 ?_))
 refine cS H [] h75 rfl Q126.spec (gS [6]) fun r23 w50 H h96=>?_
 refine Ze [4] rfl ?_
 have h97:=sO h96 []
 replace h97:=nf h97
 cases H
 exact T3 (jR0 h97 [])

end Go.SK.T
