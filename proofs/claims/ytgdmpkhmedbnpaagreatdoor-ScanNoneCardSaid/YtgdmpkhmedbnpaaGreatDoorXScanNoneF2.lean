/- The functions, further. -/
import Derived.Test.YtgdmpkhmedbnpaaGreatDoorXScanNoneF1
set_option linter.unusedVariables false
set_option linter.unusedSimpArgs false
set_option maxRecDepth 20000
set_option maxHeartbeats 40000000
namespace Go.SK.T
open Go Go.SK Go.Proofs
def Q29.f (a0:TD):Option TV:=(Q30.f a0).bind fun r1=>(if (decide (r1=0))=true then (some (0,false)) else ((Q33.f a0).bind fun r2=>(if 0≤r2∧r2<(a0.1.length:Int) then (some ((gt a0.1 r2).1,true)) else none)))
theorem Q29.spec {a0 b1 A1 c_1 r} (H:Q29.f a0=some r) :
  Spec Tryz.prog 173 [.pointer (some ⟨b1,0,none⟩)] (Wv a0 b1 A1 c_1) [] (fun v l=>v=.tuple #[.int .i64 r.1,.bool r.2]∧l=Wv a0 b1 A1 c_1):=by
 refine Zi Tryz.func173 fun w0 F0 h0=>?_
 replace h0:=nf h0
 unfold Q29.f at H
 refine T8 (Zb [0] ?_)
 refine T8 (T8 (T6 ?_))
 refine Zd 1 ?_
 refine cS H [0,0] h0 rfl Q30.spec Zp fun r1 w1 H h1=>?_
 refine Ze [0,6] rfl ?_
 refine jIf H (fun c1 H=>?_) fun c1 H=>?_
 ·refine T8 (Zb [2,3] ?_)
  cases H
  exact T7 (jR0 h1 [0,0])
 refine T9 (T8 (jH h1 fun h2=>?_))
 refine Zo [0,1,2,4] ?_
 refine Zf 3 rfl (Za 0 wI) ?_
 refine cSJ 5 rfl H [0,0] h2 rfl Q33.spec Zp 0 fun r2 w2 H h3=>?_
 obtain ⟨⟨p1,p2⟩,H⟩:=Zk H
 have e1:=Z0 h3.wh (gO 1) p1 p2
 refine Zf 6 rfl (Zg e1 p1 p2) ?_
 refine Zo [7] ?_
 refine Zf 8 rfl (Zh 0 wI (gO 1) p1 p2) ?_
 refine Zo [9,10] ?_
 refine Zw [2,3] ?_
 cases H
 exact T7 (jR0 h3 [0,0])

def Q57.f (a0:TE) (a1:Int) (a2:TX):Option (Int×TE):=(Q54.f a0).bind fun r1=>(if (decide (r1=0))=true then (some (1,a0)) else ((Q54.f a0).bind fun r2=>(if (decide (r2≤(w64 (a1))))=true then (some (4,a0)) else (if 0≤(w64 ((w64 (a1))*a0.1))∧(w64 ((w64 (a1))*a0.1))≤(w64 ((w64 ((w64 (a1))*a0.1))+a0.1))∧(w64 ((w64 ((w64 (a1))*a0.1))+a0.1))≤(a0.2.1.length:Int) then (if (!decide ((a2.length:Int)=a0.1))=true then (some (3,a0)) else (some (0,(a0.1,(patch a0.2.1 (((w64 ((w64 (a1))*a0.1))).toNat) (((a0.2.1.drop ((w64 ((w64 (a1))*a0.1))).toNat).take (((w64 ((w64 ((w64 (a1))*a0.1))+a0.1))).toNat - ((w64 ((w64 (a1))*a0.1))).toNat)).length) a2),(a0.2.2.1,(IntKind.u64.wrap (a0.2.2.2+1))))))) else none))))
theorem Q57.spec {a0 a1 a2 A2 c_2 b1 A1 c_1 r} (H:Q57.f a0 a1 a2=some r) :
  Spec Tryz.prog 160 [.pointer (some ⟨b1,0,none⟩),.int .u32 a1,.slice A2 a2.length c_2] (B6 a0 b1 A1 c_1) [R5 a2 A2 c_2] (fun v l=>∃ A_0 c_0,v=.int .i64 r.1∧l=B6 r.2 b1 A_0 c_0):=by
 refine Zi Tryz.func160 fun w0 F0 h0=>?_
 replace h0:=nf h0
 unfold Q57.f at H
 refine T8 (Zb [0,1,2] ?_)
 refine T8 (T6 ?_)
 refine Zd 2 ?_
 refine Ye Tryz.func62 ?_
 refine T8 (Zb [0,1] ?_)
 refine T8 (T0 (T8 (T6 ?_)))
 refine Zd 1 ?_
 refine cS H [0,0] h0 rfl Q54.spec Zp fun r1 w1 H h1=>?_
 refine Ze [0,1,7] rfl ?_
 refine jIf H (fun c1 H=>?_) fun c1 H=>?_
 ·refine T8 (Zb [4,5] ?_)
  refine T7 (⟨_,Zl,?_⟩)
  refine Ze [0,2,7,8] rfl ?_
  refine T8 (T0 (T8 (Zb [0,2,7,8,15] ?_)))
  refine Zn ?_
  refine T8 (Zb [6] ?_)
  cases H
  exact T7 (jR ⟨_,_,rfl,rfl⟩ h1 [0,0])
 refine T8 (T6 ?_)
 refine Zd 3 ?_
 refine cS H [0,0] h1 rfl Q54.spec Zp fun r2 w2 H h2=>?_
 refine Ze [0,1,11] rfl ?_
 refine jIf H (fun c2 H=>?_) fun c2 H=>?_
 ·refine T8 (Zb [4,5] ?_)
  refine T7 (⟨_,Zl,?_⟩)
  refine Ze [0,2,7,8] rfl ?_
  refine T8 (T0 (T8 (Zb [0,2,7,8,15] ?_)))
  refine Zn ?_
  refine T8 (Zb [6] ?_)
  cases H
  exact T7 (jR ⟨_,_,rfl,rfl⟩ h2 [0,0])
 refine T9 (T8 (T6 ?_))
 refine Zd 5 ?_
 refine Zc (Za 0 h2.wht) ?_
 refine Ze [0,6] rfl ?_
 refine T8 (jH h2 fun h3=>?_)
 refine Zo [0,1,2,4,5,6,7,8] ?_
 refine Zf 3 rfl (Za 0 wI) ?_
 refine Zf 9 rfl (Za 0 wI) ?_
 refine Zo [10] ?_
 obtain ⟨⟨p1,p2,p3⟩,H⟩:=Zk H
 have e1:=h3.cap (gO 1)
 refine Zf 11 rfl (Uq ((a0.2.1.drop ((w64 ((w64 (a1))*a0.1))).toNat).take (((w64 ((w64 ((w64 (a1))*a0.1))+a0.1))).toNat - ((w64 ((w64 (a1))*a0.1))).toNat)) (w64 ((w64 (a1))*a0.1)) (w64 ((w64 ((w64 (a1))*a0.1))+a0.1)) e1 p1 p2 p3) ?_
 refine Zo [12,13] ?_
 refine Zw [4,5] ?_
 refine T7 (⟨_,Zl,?_⟩)
 refine Ze [0,2,7,8] rfl ?_
 refine T8 (T0 (T8 (Zb [0,2,7,8,15] ?_)))
 refine Z6 ?_
 refine T8 (T6 ?_)
 refine Zd 5 ?_
 refine Zc (Za 0 h3.wht) ?_
 refine Ze [0,2,7,19] rfl ?_
 refine jIf H (fun c3 H=>?_) fun c3 H=>?_
 ·refine T8 (Zb [6] ?_)
  cases H
  exact T7 (jR ⟨_,_,rfl,rfl⟩ h3 [0,0])
 refine T9 (T8 (T6 ?_))
 refine Zd 2 ?_
 have e2:(((w64 ((w64 (a1))*a0.1))).toNat)+((a0.2.1.drop ((w64 ((w64 (a1))*a0.1))).toNat).take (((w64 ((w64 ((w64 (a1))*a0.1))+a0.1))).toNat - ((w64 ((w64 (a1))*a0.1))).toNat)).length≤a0.2.1.length:=by first | omega | (simp only [List.length_take,List.length_drop]; omega)
 refine Zs (Za3 Z4 (ty:=(.int .u8)) (xs:=a0.2.1) (ys:=a2) rfl 1 rfl h3 rfl (Zj 1) rfl rfl rfl rfl rfl rfl e2) ?_
 rintro _ w3 ⟨rfl,h4⟩
 replace h4:=nf h4
 replace h4:St w0 F0 [O5 (patch a0.2.1 (((w64 ((w64 (a1))*a0.1))).toNat) (((a0.2.1.drop ((w64 ((w64 (a1))*a0.1))).toNat).take (((w64 ((w64 ((w64 (a1))*a0.1))+a0.1))).toNat - ((w64 ((w64 (a1))*a0.1))).toNat)).length) a2) A1 c_1,Xi b1 a0.1 (patch a0.2.1 (((w64 ((w64 (a1))*a0.1))).toNat) (((a0.2.1.drop ((w64 ((w64 (a1))*a0.1))).toNat).take (((w64 ((w64 ((w64 (a1))*a0.1))+a0.1))).toNat - ((w64 ((w64 (a1))*a0.1))).toNat)).length) a2) A1 c_1 a0.2.2.1 a0.2.2.2] _ _:=h4.retell (by simp only [Xx e2,List.length_nil,O5,Xi] <;> rfl)
 refine Ze [0] rfl ?_
 refine T8 (T6 ?_)
 refine Zd 4 ?_
 refine Zc (Za 1 h4.wht) ?_
 refine Zd 4 ?_
 refine rS (Zt 1 h4) fun _ w4 h5=>?_
 refine Ze [] rfl ?_
 refine T8 (Zb [6] ?_)
 cases H
 exact T7 (jR ⟨_,_,rfl,rfl⟩ h5 [0,0])

def Q34.f (a0:TD) (a1:Int):Option (Int):=if (decide ((a0.1.length:Int)=0))=true then (some 1) else (if (decide (a1<0))=true then (some 4) else ((Q33.f a0).bind fun r1=>(if (decide (r1≤a1))=true then (some 4) else (some 0))))
theorem Q34.spec {a0 a1 b1 A1 c_1 r} (H:Q34.f a0 a1=some r) :
  Spec Tryz.prog 171 [.pointer (some ⟨b1,0,none⟩),.int .i64 a1] (Wv a0 b1 A1 c_1) [] (fun v l=>v=.int .i64 r∧l=Wv a0 b1 A1 c_1):=by
 refine Zi Tryz.func171 fun w0 F0 h0=>?_
 replace h0:=nf h0
 unfold Q34.f at H
 refine T8 (Zb [0,1] ?_)
 refine T8 (T0 (T8 (T6 ?_)))
 refine Zd 6 ?_
 refine Zc (Za 0 h0.wht) ?_
 refine Ze [0,1,5] rfl ?_
 refine jIf H (fun c1 H=>?_) fun c1 H=>?_
 ·refine T8 (Zb [4] ?_)
  cases H
  exact T7 (jR0 h0 [0,0])
 refine T8 (T6 ?_)
 refine Zd 3 ?_
 refine Yb 19 H (fun c2 H=>?_) fun c2 H=>?_
 ·refine Ze [16] rfl ?_
  refine Zn ?_
  refine T8 (Zb [4] ?_)
  cases H
  exact T7 (jR0 h0 [0,0])
 refine Zd 2 ?_
 refine cS H [0,0] h0 rfl Q33.spec Zp fun r1 w1 H h1=>?_
 refine Ze [16] rfl ?_
 refine jIf H (fun c3 H=>?_) fun c3 H=>?_
 ·refine T8 (Zb [4] ?_)
  cases H
  exact T7 (jR0 h1 [0,0])
 refine T9 (T8 (Zb [4] ?_))
 cases H
 exact T7 (jR0 h1 [0,0])

def Q31.f (a0:TD) (a1:Int):Option (TD):=if 0≤a1∧a1<(a0.1.length:Int) then (if (!((gt a0.1 a1).2.2))=true then (some a0) else (if 0≤((gt a0.1 a1).1)∧((gt a0.1 a1).1)<(a0.1.length:Int) then (if 0≤((gt a0.1 a1).2.1)∧((gt a0.1 a1).2.1)<((a0.1.set ((gt a0.1 a1).1).toNat ((gt a0.1 ((gt a0.1 a1).1)).1,(gt a0.1 a1).2.1,(gt a0.1 ((gt a0.1 a1).1)).2.2)).length:Int) then (if 0≤a1∧a1<(((a0.1.set ((gt a0.1 a1).1).toNat ((gt a0.1 ((gt a0.1 a1).1)).1,(gt a0.1 a1).2.1,(gt a0.1 ((gt a0.1 a1).1)).2.2)).set ((gt a0.1 a1).2.1).toNat ((gt a0.1 a1).1,(gt (a0.1.set ((gt a0.1 a1).1).toNat ((gt a0.1 ((gt a0.1 a1).1)).1,(gt a0.1 a1).2.1,(gt a0.1 ((gt a0.1 a1).1)).2.2)) ((gt a0.1 a1).2.1)).2.1,(gt (a0.1.set ((gt a0.1 a1).1).toNat ((gt a0.1 ((gt a0.1 a1).1)).1,(gt a0.1 a1).2.1,(gt a0.1 ((gt a0.1 a1).1)).2.2)) ((gt a0.1 a1).2.1)).2.2)).length:Int) then (some ((((a0.1.set ((gt a0.1 a1).1).toNat ((gt a0.1 ((gt a0.1 a1).1)).1,(gt a0.1 a1).2.1,(gt a0.1 ((gt a0.1 a1).1)).2.2)).set ((gt a0.1 a1).2.1).toNat ((gt a0.1 a1).1,(gt (a0.1.set ((gt a0.1 a1).1).toNat ((gt a0.1 ((gt a0.1 a1).1)).1,(gt a0.1 a1).2.1,(gt a0.1 ((gt a0.1 a1).1)).2.2)) ((gt a0.1 a1).2.1)).2.1,(gt (a0.1.set ((gt a0.1 a1).1).toNat ((gt a0.1 ((gt a0.1 a1).1)).1,(gt a0.1 a1).2.1,(gt a0.1 ((gt a0.1 a1).1)).2.2)) ((gt a0.1 a1).2.1)).2.2)).set a1.toNat (0,0,false)),(w64 (a0.2 - 1)))) else none) else none) else none)) else none
theorem Q31.spec {a0 a1 b1 A1 c_1 r} (H:Q31.f a0 a1=some r) :
  Spec Tryz.prog 172 [.pointer (some ⟨b1,0,none⟩),.int .i64 a1] (Wv a0 b1 A1 c_1) [] (fun v l=>∃ A_0 c_0,v=.tuple #[]∧l=Wv r b1 A_0 c_0):=by
 refine Zi Tryz.func172 fun w0 F0 h0=>?_
 replace h0:=nf h0
 unfold Q31.f at H
 refine T8 (T6 ?_)
 refine Zd 3 ?_
 refine Zc (Za 0 h0.wht) ?_
 refine Zd 1 ?_
 obtain ⟨⟨p1,p2⟩,H⟩:=Zk H
 have e1:=Z0 h0.wh (gO 1) p1 p2
 refine Zc (Zg e1 p1 p2) ?_
 refine Zc (Zh 0 h0.wht (gO 1) p1 p2) ?_
 refine rB (Yt h0) fun b2 w1 h1=>?_
 refine rS (Zt 0 h1) fun _ w2 h2=>?_
 refine Ze [0,1,4] rfl ?_
 refine T8 (T8 (T6 ?_))
 refine Zd 1 ?_
 refine Zc (Za 0 h2.wht) ?_
 refine Ze [0,1,4,14] rfl ?_
 refine jIf H (fun c1 H=>?_) fun c1 H=>?_
 ·cases H
  exact T7 (jR ⟨_,_,rfl,rfl⟩ h2 [1,1])
 refine T9 (T8 (Zz (sO h2 [0,0]) ?_))
 have h3:=h2.drew
 refine Zo [0,1,2,4,6] ?_
 refine Zf 3 rfl (Za 1 wI) ?_
 refine Zf 5 rfl (Za 0 wI) ?_
 refine Zf 7 rfl (Za 0 wI) ?_
 obtain ⟨⟨p3,p4⟩,H⟩:=Zk H
 refine Zf 8 rfl (Zg e1 p3 p4) ?_
 refine Zo [9] ?_
 refine hS 10 rfl (Zm 1 (.pair (.int .i64) (.pair (.int .i64) .bool)) ((gt a0.1 a1).1) ((gt a0.1 ((gt a0.1 a1).1)).1,(gt a0.1 a1).2.1,(gt a0.1 ((gt a0.1 a1).1)).2.2) 2 h3 rfl p3 p4) 1 fun _ w3 h4=>?_
 replace h4:St w0 F0 [Y2 (a0.1.set ((gt a0.1 a1).1).toNat ((gt a0.1 ((gt a0.1 a1).1)).1,(gt a0.1 a1).2.1,(gt a0.1 ((gt a0.1 a1).1)).2.2)) A1 c_1,Zct b2 ((gt a0.1 a1).1) ((gt a0.1 a1).2.1) ((gt a0.1 a1).2.2),Y0 b1 (a0.1.set ((gt a0.1 a1).1).toNat ((gt a0.1 ((gt a0.1 a1).1)).1,(gt a0.1 a1).2.1,(gt a0.1 ((gt a0.1 a1).1)).2.2)) A1 c_1 a0.2] _ _:=h4.retell (by simp only [List.length_set,List.length_nil,Y2,Zct,Y0] <;> rfl)
 refine Zw [0,1,4] ?_
 refine T8 (Zz (sO h4 [1,1]) ?_)
 have h5:=h4.drew
 refine Zo [0,1,2,4,6] ?_
 refine Zf 3 rfl (Za 1 wI) ?_
 refine Zf 5 rfl (Za 0 wI) ?_
 refine Zf 7 rfl (Za 0 wI) ?_
 obtain ⟨⟨p5,p6⟩,H⟩:=Zk H
 refine Zf 8 rfl (Zg e1 p5 p6) ?_
 refine Zo [9] ?_
 refine hS 10 rfl (Zm 0 (.pair (.int .i64) (.pair (.int .i64) .bool)) ((gt a0.1 a1).2.1) ((gt a0.1 a1).1,(gt (a0.1.set ((gt a0.1 a1).1).toNat ((gt a0.1 ((gt a0.1 a1).1)).1,(gt a0.1 a1).2.1,(gt a0.1 ((gt a0.1 a1).1)).2.2)) ((gt a0.1 a1).2.1)).2.1,(gt (a0.1.set ((gt a0.1 a1).1).toNat ((gt a0.1 ((gt a0.1 a1).1)).1,(gt a0.1 a1).2.1,(gt a0.1 ((gt a0.1 a1).1)).2.2)) ((gt a0.1 a1).2.1)).2.2) 0 h5 rfl p5 p6) 1 fun _ w4 h6=>?_
 replace h6:St w0 F0 [Y2 ((a0.1.set ((gt a0.1 a1).1).toNat ((gt a0.1 ((gt a0.1 a1).1)).1,(gt a0.1 a1).2.1,(gt a0.1 ((gt a0.1 a1).1)).2.2)).set ((gt a0.1 a1).2.1).toNat ((gt a0.1 a1).1,(gt (a0.1.set ((gt a0.1 a1).1).toNat ((gt a0.1 ((gt a0.1 a1).1)).1,(gt a0.1 a1).2.1,(gt a0.1 ((gt a0.1 a1).1)).2.2)) ((gt a0.1 a1).2.1)).2.1,(gt (a0.1.set ((gt a0.1 a1).1).toNat ((gt a0.1 ((gt a0.1 a1).1)).1,(gt a0.1 a1).2.1,(gt a0.1 ((gt a0.1 a1).1)).2.2)) ((gt a0.1 a1).2.1)).2.2)) A1 c_1,Zct b2 ((gt a0.1 a1).1) ((gt a0.1 a1).2.1) ((gt a0.1 a1).2.2),Y0 b1 ((a0.1.set ((gt a0.1 a1).1).toNat ((gt a0.1 ((gt a0.1 a1).1)).1,(gt a0.1 a1).2.1,(gt a0.1 ((gt a0.1 a1).1)).2.2)).set ((gt a0.1 a1).2.1).toNat ((gt a0.1 a1).1,(gt (a0.1.set ((gt a0.1 a1).1).toNat ((gt a0.1 ((gt a0.1 a1).1)).1,(gt a0.1 a1).2.1,(gt a0.1 ((gt a0.1 a1).1)).2.2)) ((gt a0.1 a1).2.1)).2.1,(gt (a0.1.set ((gt a0.1 a1).1).toNat ((gt a0.1 ((gt a0.1 a1).1)).1,(gt a0.1 a1).2.1,(gt a0.1 ((gt a0.1 a1).1)).2.2)) ((gt a0.1 a1).2.1)).2.2)) A1 c_1 a0.2] _ _:=h6.retell (by simp only [List.length_set,List.length_nil,Y2,Zct,Y0] <;> rfl)
 refine Zw [0,1] ?_
 refine T8 (T6 ?_)
 refine Zd 3 ?_
 refine Zc (Za 2 h6.wht) ?_
 refine Zd 2 ?_
 obtain ⟨⟨p7,p8⟩,H⟩:=Zk H
 refine Zc (Zg e1 p7 p8) ?_
 refine rS (Zm 0 (.pair (.int .i64) (.pair (.int .i64) .bool)) a1 (0,0,false) 0 h6 rfl p7 p8) fun _ w5 h7=>?_
 replace h7:St w0 F0 [Y2 (((a0.1.set ((gt a0.1 a1).1).toNat ((gt a0.1 ((gt a0.1 a1).1)).1,(gt a0.1 a1).2.1,(gt a0.1 ((gt a0.1 a1).1)).2.2)).set ((gt a0.1 a1).2.1).toNat ((gt a0.1 a1).1,(gt (a0.1.set ((gt a0.1 a1).1).toNat ((gt a0.1 ((gt a0.1 a1).1)).1,(gt a0.1 a1).2.1,(gt a0.1 ((gt a0.1 a1).1)).2.2)) ((gt a0.1 a1).2.1)).2.1,(gt (a0.1.set ((gt a0.1 a1).1).toNat ((gt a0.1 ((gt a0.1 a1).1)).1,(gt a0.1 a1).2.1,(gt a0.1 ((gt a0.1 a1).1)).2.2)) ((gt a0.1 a1).2.1)).2.2)).set a1.toNat (0,0,false)) A1 c_1,Zct b2 ((gt a0.1 a1).1) ((gt a0.1 a1).2.1) ((gt a0.1 a1).2.2),Y0 b1 (((a0.1.set ((gt a0.1 a1).1).toNat ((gt a0.1 ((gt a0.1 a1).1)).1,(gt a0.1 a1).2.1,(gt a0.1 ((gt a0.1 a1).1)).2.2)).set ((gt a0.1 a1).2.1).toNat ((gt a0.1 a1).1,(gt (a0.1.set ((gt a0.1 a1).1).toNat ((gt a0.1 ((gt a0.1 a1).1)).1,(gt a0.1 a1).2.1,(gt a0.1 ((gt a0.1 a1).1)).2.2)) ((gt a0.1 a1).2.1)).2.1,(gt (a0.1.set ((gt a0.1 a1).1).toNat ((gt a0.1 ((gt a0.1 a1).1)).1,(gt a0.1 a1).2.1,(gt a0.1 ((gt a0.1 a1).1)).2.2)) ((gt a0.1 a1).2.1)).2.2)).set a1.toNat (0,0,false)) A1 c_1 a0.2] _ _:=h7.retell (by simp only [List.length_set,List.length_nil,Y2,Zct,Y0] <;> rfl)
 refine Ze [0] rfl ?_
 refine T6 (Zd 3 ?_)
 refine Zc (Za 2 h7.wht) ?_
 refine Zd 3 ?_
 refine rS (Zt 2 h7) fun _ w6 h8=>?_
 refine Ze [] rfl ?_
 cases H
 exact ⟨_,_,_,Zl,⟨_,_,rfl,rfl⟩,sO h8 [0,0]⟩

def Q27.f (a0:TD) (a1:Int):Option Tw:=(Q34.f a0 a1).bind fun r1=>(if (!decide (r1=0))=true then (some (r1,a0)) else (if 0≤a1∧a1<(a0.1.length:Int) then (if (!((gt a0.1 a1).2.2))=true then (some (9,a0)) else ((Q31.f a0 a1).bind fun r2=>(some (0,r2)))) else none))
theorem Q27.spec {a0 a1 b1 A1 c_1 r} (H:Q27.f a0 a1=some r) :
  Spec Tryz.prog 125 [.pointer (some ⟨b1,0,none⟩),.int .i64 a1] (Wv a0 b1 A1 c_1) [] (fun v l=>∃ A_0 c_0,v=.int .i64 r.1∧l=Wv r.2 b1 A_0 c_0):=by
 refine Zi Tryz.func125 fun w0 F0 h0=>?_
 replace h0:=nf h0
 unfold Q27.f at H
 refine T8 (Zb [0,1] ?_)
 refine T8 (T8 (T6 ?_))
 refine Zd 2 ?_
 refine cS H [0,0] h0 rfl Q34.spec Zp fun r1 w1 H h1=>?_
 refine Ze [0,1,5] rfl ?_
 refine T8 (Zb [0,1,5,10] ?_)
 refine jIf H (fun c1 H=>?_) fun c1 H=>?_
 ·refine T8 (Zb [4] ?_)
  cases H
  exact T7 (jR ⟨_,_,rfl,rfl⟩ h1 [0,0])
 refine T9 (T8 (T8 (T6 ?_)))
 refine Zd 3 ?_
 refine Zc (Za 0 h1.wht) ?_
 refine Zd 1 ?_
 obtain ⟨⟨p1,p2⟩,H⟩:=Zk H
 have e1:=Z0 h1.wh (gO 1) p1 p2
 refine Zc (Zg e1 p1 p2) ?_
 refine Zd 1 ?_
 refine Zc (Zh 2 h1.wht (gO 1) p1 p2) ?_
 refine Ze [0,1,20] rfl ?_
 refine jIf H (fun c2 H=>?_) fun c2 H=>?_
 ·refine T8 (Zb [4] ?_)
  cases H
  exact T7 (jR ⟨_,_,rfl,rfl⟩ h1 [0,0])
 refine T9 (T8 (T6 ?_))
 refine Zd 2 ?_
 refine cE H [0,0] h1 rfl Q31.spec Zp ?_
 rintro r2 w2 _ _ H ⟨A2,c_2,rfl,rfl⟩ h2
 replace h2:=nf h2
 refine Ze [] rfl ?_
 refine T8 (Zb [4] ?_)
 cases H
 exact T7 (jR ⟨_,_,rfl,rfl⟩ h2 [0,0])

def Q23.f (a0:Ti) (a1:Int):Option (Ti):=if 0≤a1∧a1<(a0.2.1.length:Int) then ((Q27.f a0.2.2.2.2 a1).bind fun r1=>(if (a0.2.2.2.1.length+([a1]:List Int).length)*8≤140737488355328 then (some (a0.1,(a0.2.1.set a1.toNat (0,([]:List Int),false,0)),(X7 ((gt a0.2.1 a1).1) a0.2.2.1),(a0.2.2.2.1 ++ ([a1]:List Int)),r1.2)) else none)) else none
theorem Q23.spec {a0 a1 b1 b2 b3 b4 A1 c_1 A2 c_2 A3 c_3 A4 c_4 r} (H:Q23.f a0 a1=some r) :
  Spec Tryz.prog 142 [.pointer (some ⟨b1,0,none⟩),.int .i64 a1] (W9 a0 b1 b2 b3 b4 A1 A2 A3 A4 c_1 c_2 c_3 c_4) [] (fun v l=>∃ A_0 c_0 A_1 c_1 A_2 c_2 A_3 c_3,v=.tuple #[]∧l=W9 r b1 b2 b3 b4 A_0 A_1 A_2 A_3 c_0 c_1 c_2 c_3):=by
 refine Zi Tryz.func142 fun w0 F0 h0=>?_
 replace h0:=nf h0
 unfold Q23.f at H
 refine T8 (Zz (sO h0 [0,0,0,0,1,1,1]) ?_)
 have h1:=h0.drew
 refine Zo [0,1,2,4,5,6,8] ?_
 refine Zf 3 rfl (Za 0 wI) ?_
 refine Zf 7 rfl (Za 0 wI) ?_
 obtain ⟨⟨p1,p2⟩,H⟩:=Zk H
 have e1:=Z0 h1.wh (gO 3) p1 p2
 refine Zf 9 rfl (Zg e1 p1 p2) ?_
 refine Zo [10] ?_
 refine Zf 11 rfl (Xb 0 wI (gO 3) p1 p2) ?_
 refine hS 12 rfl (Zhu Z4 (ix:=((gt a0.2.1 a1).1)) 4 rfl h1 rfl rfl rfl rfl rfl rfl rfl) 1 fun _ w1 h2=>?_
 refine Zw [0,1] ?_
 refine T8 (T6 ?_)
 refine Zd 3 ?_
 refine Zc (Za 1 h2.wht) ?_
 refine Zd 1 ?_
 refine cE H [6,6] h2 rfl Q27.spec Zp ?_
 rintro r1 w2 _ _ H ⟨A5,c_5,rfl,rfl⟩ h3
 replace h3:=nf h3
 refine Ze [0,1] rfl ?_
 refine T8 (T6 ?_)
 refine Zd 3 ?_
 refine Zc (Za 3 h3.wht) ?_
 refine Zd 2 ?_
 refine Zc (Zg e1 p1 p2) ?_
 have h4:=h3.addNil 5 (.int .u8)
 have h5:=(h4.only [7,0,0,0,0,0,0,0,0] rfl).both
 refine rS (W2 0 (.pair (.int .u32) (.pair (.slice 5 (.int .u8)) (.pair .bool (.int .i64)))) a1 (0,([]:List Int),false,0) h5 p1 p2 Zcz) fun _ w3 h6=>?_
 replace h6:St w0 F0 [Xq (a0.2.1.set a1.toNat (0,([]:List Int),false,0)) A2 c_2,Y0 b4 r1.2.1 A5 c_5 r1.2.2,Y2 r1.2.1 A5 c_5,Xa .u32 (Value.int .i64) b3 (X7 ((gt a0.2.1 a1).1) a0.2.2.1),Xp b1 (.pointer (some ⟨b2,0,none⟩)) (a0.2.1.set a1.toNat (0,([]:List Int),false,0)) A2 c_2 (.map (some b3)) a0.2.2.2.1 A3 c_3 (.pointer (some ⟨b4,0,none⟩)),Xi b2 a0.1.1 a0.1.2.1 A1 c_1 a0.1.2.2.1 a0.1.2.2.2,O5 a0.1.2.1 A1 c_1,O3 a0.2.2.2.1 A3 c_3] _ _:=h6.retell (by simp only [List.length_set,List.length_nil,Xq,Y2,O3,O5,Xi,Xp,Y0] <;> rfl)
 refine Ze [0,1] rfl ?_
 refine T6 (Zd 4 ?_)
 refine Zc (Za 4 h6.wht) ?_
 refine Zd 1 ?_
 refine rB (Z1 (.int .i64) ([a1]:List Int) h6) fun b5 w4 h7=>?_
 obtain ⟨p3,H⟩:=Zk H
 refine Zs (Zr 8 h7 (gO 0) p3) ?_
 rintro _ w5 ⟨A6,c_6,rfl,h8⟩
 replace h8:=nf h8
 refine Zd 2 ?_
 refine rS (Zt 6 h8) fun _ w6 h9=>?_
 refine Ze [] rfl ?_
 cases H
 exact ⟨_,_,_,Zl,⟨_,_,_,_,_,_,_,_,rfl,rfl⟩,sO h9 [0,6,6,2,4,0,1,1]⟩

def Q25.f (a0:Ti):Option (Int×Bool×Ti):=if (decide ((a0.2.2.2.1.length:Int)=0))=true then ((Q29.f a0.2.2.2.2).bind fun r1=>(if (!r1.2)=true then (some (0,false,a0)) else (if 0≤r1.1∧r1.1<(a0.2.1.length:Int) then (if (gt a0.2.1 r1.1).2.2.1=true then ((Q57.f a0.1 ((gt a0.2.1 r1.1).1) ((gt a0.2.1 r1.1).2.1)).bind fun r2=>((Q23.f (r2.2,(a0.2.1.set r1.1.toNat ((gt a0.2.1 r1.1).1,(gt a0.2.1 r1.1).2.1,false,(gt a0.2.1 r1.1).2.2.2)),a0.2.2.1,a0.2.2.2.1,a0.2.2.2.2) r1.1).bind fun r3=>(if 0≤(w64 ((r3.2.2.2.1.length:Int) - 1))∧(w64 ((r3.2.2.2.1.length:Int) - 1))<(r3.2.2.2.1.length:Int) then (if (0:Int)≤(w64 ((r3.2.2.2.1.length:Int) - 1))∧(w64 ((r3.2.2.2.1.length:Int) - 1))≤(r3.2.2.2.1.length:Int) then (some ((gt r3.2.2.2.1 (w64 ((r3.2.2.2.1.length:Int) - 1))),true,(r3.1,r3.2.1,r3.2.2.1,(r3.2.2.2.1.take ((w64 ((r3.2.2.2.1.length:Int) - 1))).toNat),r3.2.2.2.2))) else none) else none))) else ((Q23.f a0 r1.1).bind fun r4=>(if 0≤(w64 ((r4.2.2.2.1.length:Int) - 1))∧(w64 ((r4.2.2.2.1.length:Int) - 1))<(r4.2.2.2.1.length:Int) then (if (0:Int)≤(w64 ((r4.2.2.2.1.length:Int) - 1))∧(w64 ((r4.2.2.2.1.length:Int) - 1))≤(r4.2.2.2.1.length:Int) then (some ((gt r4.2.2.2.1 (w64 ((r4.2.2.2.1.length:Int) - 1))),true,(r4.1,r4.2.1,r4.2.2.1,(r4.2.2.2.1.take ((w64 ((r4.2.2.2.1.length:Int) - 1))).toNat),r4.2.2.2.2))) else none) else none))) else none))) else (if 0≤(w64 ((a0.2.2.2.1.length:Int) - 1))∧(w64 ((a0.2.2.2.1.length:Int) - 1))<(a0.2.2.2.1.length:Int) then (if (0:Int)≤(w64 ((a0.2.2.2.1.length:Int) - 1))∧(w64 ((a0.2.2.2.1.length:Int) - 1))≤(a0.2.2.2.1.length:Int) then (some ((gt a0.2.2.2.1 (w64 ((a0.2.2.2.1.length:Int) - 1))),true,(a0.1,a0.2.1,a0.2.2.1,(a0.2.2.2.1.take ((w64 ((a0.2.2.2.1.length:Int) - 1))).toNat),a0.2.2.2.2))) else none) else none)
theorem Q25.spec {a0 b1 b2 b3 b4 A1 c_1 A2 c_2 A3 c_3 A4 c_4 r} (H:Q25.f a0=some r) :
  Spec Tryz.prog 126 [.pointer (some ⟨b1,0,none⟩)] (W9 a0 b1 b2 b3 b4 A1 A2 A3 A4 c_1 c_2 c_3 c_4) [] (fun v l=>∃ A_0 c_0 A_1 c_1 A_2 c_2 A_3 c_3,v=.tuple #[.int .i64 r.1,.bool r.2.1]∧l=W9 r.2.2 b1 b2 b3 b4 A_0 A_1 A_2 A_3 c_0 c_1 c_2 c_3):=by
 refine Zi Tryz.func126 fun w0 F0 h0=>?_
 replace h0:=nf h0
 unfold Q25.f at H
 refine T8 (Zb [0] ?_)
 refine T8 (T8 (T6 ?_))
 refine Zd 3 ?_
 refine Zc (Za 0 h0.wht) ?_
 refine Ze [0,13] rfl ?_
 refine jIf H (fun c1 H=>?_) fun c1 H=>?_
 ·refine T8 (T6 ?_)
  refine Zd 3 ?_
  refine Zc (Za 0 h0.wht) ?_
  refine cS H [6,6] h0 rfl Q29.spec Zp fun r1 w1 H h1=>?_
  refine Ze [0,4,5] rfl ?_
  refine T8 (T8 (Zb [0,4,23] ?_))
  refine jIf H (fun c2 H=>?_) fun c2 H=>?_
  ·refine T8 (Zb [2,3] ?_)
   cases H
   exact T7 (jR ⟨_,_,_,_,_,_,_,_,rfl,rfl⟩ h1 [2,2,2,2,2,2,0,0])
  refine T9 (T8 (T6 ?_))
  refine Zd 4 ?_
  refine Zc (Za 2 h1.wht) ?_
  refine Zd 1 ?_
  obtain ⟨⟨p1,p2⟩,H⟩:=Zk H
  have e1:=Z0 h1.wh (gO 5) p1 p2
  refine Zc (Zg e1 p1 p2) ?_
  refine Ye Tryz.func110 ?_
  refine T8 (T6 ?_)
  refine Zd 3 ?_
  refine Zc (Xb 2 h1.wht (gO 5) p1 p2) ?_
  refine Ze [0,1,7] rfl ?_
  refine jIf H (fun c3 H=>?_) fun c3 H=>?_
  ·refine T8 ?_
   obtain ⟨A5,c_5,h2⟩:=h1.openI 5 rfl p1 p2
   refine Zz (sO h2 [0,0,0,0,2,2]) ?_
   have h3:=h2.drew
   refine Zo [0,1,2,4,5,6,8,9,10] ?_
   refine Zf 3 rfl (Za 3 wI) ?_
   refine Zf 7 rfl (Xb 0 wI (Je 0 Zkr) p1 p2) ?_
   refine Zf 11 rfl (Bs wI (Zj 0)) ?_
   refine cEJ 12 rfl H [4,4] h3 rfl Q57.spec (Y5 (Je 0 Zgl) Zp) ?_
   rintro r2 w2 _ _ H ⟨A6,c_6,rfl,rfl⟩ h4
   replace h4:=nf h4
   refine ⟨⟨[_,_],h4⟩,?_⟩
   refine Zw [1] ?_
   have h5:=h4.closeI 2 rfl
   refine T6 (Zd 3 ?_)
   refine rS (Ww 2 (.pair (.int .u32) (.pair (.slice 5 (.int .u8)) (.pair .bool (.int .i64)))) r1.1 ((gt a0.2.1 r1.1).1,(gt a0.2.1 r1.1).2.1,false,(gt a0.2.1 r1.1).2.2.2) 0 h5 rfl p1 p2 (G0 rfl rfl)) fun _ w3 h6=>?_
   replace h6:St w0 F0 [Xq (a0.2.1.set r1.1.toNat ((gt a0.2.1 r1.1).1,(gt a0.2.1 r1.1).2.1,false,(gt a0.2.1 r1.1).2.2.2)) A2 c_2,Xi b2 r2.2.1 r2.2.2.1 A6 c_6 r2.2.2.2.1 r2.2.2.2.2,O5 r2.2.2.1 A6 c_6,Y0 b4 a0.2.2.2.2.1 A4 c_4 a0.2.2.2.2.2,Y2 a0.2.2.2.2.1 A4 c_4,Xp b1 (.pointer (some ⟨b2,0,none⟩)) (a0.2.1.set r1.1.toNat ((gt a0.2.1 r1.1).1,(gt a0.2.1 r1.1).2.1,false,(gt a0.2.1 r1.1).2.2.2)) A2 c_2 (.map (some b3)) a0.2.2.2.1 A3 c_3 (.pointer (some ⟨b4,0,none⟩)),Xa .u32 (Value.int .i64) b3 a0.2.2.1,O3 a0.2.2.2.1 A3 c_3] _ _:=h6.retell (by simp only [List.length_set,List.length_nil,Xq,Y2,O3,O5,Xi,Xp,Y0] <;> rfl)
   refine Ze [] rfl ?_
   refine ⟨_,Zl,?_⟩
   refine Ze [0,4] rfl ?_
   refine T6 (Zd 2 ?_)
   refine cE H [5,1,1,0,2,2,0,0] h6 rfl Q23.spec Zp ?_
   rintro r3 w4 _ _ H ⟨A7,c_7,A8,c_8,A9,c_9,A10,c_10,rfl,rfl⟩ h7
   replace h7:=nf h7
   refine Ze [0] rfl ?_
   refine T8 (T6 ?_)
   refine Zd 3 ?_
   refine Zc (Za 0 h7.wht) ?_
   refine Ze [0,6] rfl ?_
   refine T8 (T6 ?_)
   refine Zd 3 ?_
   refine Zc (Za 0 h7.wht) ?_
   refine Zd 1 ?_
   obtain ⟨⟨p3,p4⟩,H⟩:=Zk H
   have e2:=Z0 h7.wh (gO 5) p3 p4
   refine Zc (Zg e2 p3 p4) ?_
   refine Zc (Zh 0 h7.wht (gO 5) p3 p4) ?_
   refine Ze [0,6,7] rfl ?_
   refine T8 (T6 ?_)
   refine Zd 4 ?_
   refine Zc (Za 0 h7.wht) ?_
   refine Zd 1 ?_
   obtain ⟨⟨p5,p6⟩,H⟩:=Zk H
   have e3:=h7.cap (gO 5)
   refine Zc (Yy (r3.2.2.2.1.take ((w64 ((r3.2.2.2.1.length:Int) - 1))).toNat) (w64 ((r3.2.2.2.1.length:Int) - 1)) e3 p5 p6) ?_
   refine Zd 2 ?_
   refine rS (Zt 0 h7) fun _ w5 h8=>?_
   refine Ze [7] rfl ?_
   refine T8 (Zb [2,3] ?_)
   have h9:=h8.front (ty:=(.int .i64)) rfl 5 (w64 ((r3.2.2.2.1.length:Int) - 1)).toNat rfl (by omega)
   cases H
   exact T7 (jR ⟨_,_,_,_,_,_,_,_,rfl,rfl⟩ h9 [1,1,1,1,1,0,0,0])
  refine T9 (⟨_,Zl,?_⟩)
  refine Ze [0,4] rfl ?_
  refine T6 (Zd 2 ?_)
  refine cE H [2,2,2,2,2,2,0,0] h1 rfl Q23.spec Zp ?_
  rintro r4 w6 _ _ H ⟨A11,c_11,A12,c_12,A13,c_13,A14,c_14,rfl,rfl⟩ h10
  replace h10:=nf h10
  refine Ze [0] rfl ?_
  refine T8 (T6 ?_)
  refine Zd 3 ?_
  refine Zc (Za 0 h10.wht) ?_
  refine Ze [0,6] rfl ?_
  refine T8 (T6 ?_)
  refine Zd 3 ?_
  refine Zc (Za 0 h10.wht) ?_
  refine Zd 1 ?_
  obtain ⟨⟨p7,p8⟩,H⟩:=Zk H
  have e4:=Z0 h10.wh (gO 5) p7 p8
  refine Zc (Zg e4 p7 p8) ?_
  refine Zc (Zh 0 h10.wht (gO 5) p7 p8) ?_
  refine Ze [0,6,7] rfl ?_
  refine T8 (T6 ?_)
  refine Zd 4 ?_
  refine Zc (Za 0 h10.wht) ?_
  refine Zd 1 ?_
  obtain ⟨⟨p9,p10⟩,H⟩:=Zk H
  have e5:=h10.cap (gO 5)
  refine Zc (Yy (r4.2.2.2.1.take ((w64 ((r4.2.2.2.1.length:Int) - 1))).toNat) (w64 ((r4.2.2.2.1.length:Int) - 1)) e5 p9 p10) ?_
  refine Zd 2 ?_
  refine rS (Zt 0 h10) fun _ w7 h11=>?_
  refine Ze [7] rfl ?_
  refine T8 (Zb [2,3] ?_)
  have h12:=h11.front (ty:=(.int .i64)) rfl 5 (w64 ((r4.2.2.2.1.length:Int) - 1)).toNat rfl (by omega)
  cases H
  exact T7 (jR ⟨_,_,_,_,_,_,_,_,rfl,rfl⟩ h12 [1,1,1,1,1,0,0,0])
 refine T9 (T8 (T6 ?_))
 refine Zd 3 ?_
 refine Zc (Za 0 h0.wht) ?_
 refine Ze [0,6] rfl ?_
 refine T8 (T6 ?_)
 refine Zd 3 ?_
 refine Zc (Za 0 h0.wht) ?_
 refine Zd 1 ?_
 obtain ⟨⟨p11,p12⟩,H⟩:=Zk H
 have e6:=Z0 h0.wh (gO 5) p11 p12
 refine Zc (Zg e6 p11 p12) ?_
 refine Zc (Zh 0 h0.wht (gO 5) p11 p12) ?_
 refine Ze [0,6,7] rfl ?_
 refine T8 (T6 ?_)
 refine Zd 4 ?_
 refine Zc (Za 0 h0.wht) ?_
 refine Zd 1 ?_
 obtain ⟨⟨p13,p14⟩,H⟩:=Zk H
 have e7:=h0.cap (gO 5)
 refine Zc (Yy (a0.2.2.2.1.take ((w64 ((a0.2.2.2.1.length:Int) - 1))).toNat) (w64 ((a0.2.2.2.1.length:Int) - 1)) e7 p13 p14) ?_
 refine Zd 2 ?_
 refine rS (Zt 0 h0) fun _ w8 h13=>?_
 refine Ze [7] rfl ?_
 refine T8 (Zb [2,3] ?_)
 have h14:=h13.front (ty:=(.int .i64)) rfl 5 (w64 ((a0.2.2.2.1.length:Int) - 1)).toNat rfl (by omega)
 cases H
 exact T7 (jR ⟨_,_,_,_,_,_,_,_,rfl,rfl⟩ h14 [1,1,1,1,1,0,0,0])

def Q18.f (a0:Ti) (a1:Int):Option Th:=(Q26.f a0 a1).bind fun r1=>(if (!decide (r1=0))=true then (some (r1,a0)) else (if (Y9 a0.2.2.1 a1)=true then (if 0≤(Zv (0:Int) a0.2.2.1 a1)∧(Zv (0:Int) a0.2.2.1 a1)<(a0.2.1.length:Int) then (if (decide (0<((gt a0.2.1 (Zv (0:Int) a0.2.2.1 a1)).2.2.2)))=true then (some (8,a0)) else (if (!(Y9 a0.2.2.1 a1))=true then ((Q25.f a0).bind fun r4=>(if (!r4.2.1)=true then (some (7,r4.2.2)) else ((Q55.f (r4.2.2.1.1,r4.2.2.1.2.1,(r4.2.2.1.2.2.1,r4.2.2.1.2.2.2))).bind fun r2=>(if 0≤r2∧r2*1≤281474976710656 then (if 0≤r4.1∧r4.1<(r4.2.2.2.1.length:Int) then ((Q27.f (r4.2.2.2.2.2.2.1,r4.2.2.2.2.2.2.2) r4.1).bind fun r3=>(some (0,((r4.2.2.1.1,r4.2.2.1.2.1,(r4.2.2.1.2.2.1,r4.2.2.1.2.2.2)),(r4.2.2.2.1.set r4.1.toNat (a1,(List.replicate r2.toNat (0:Int)),true,1)),(Vs a1 r4.1 r4.2.2.2.2.1),r4.2.2.2.2.2.1,r3.2)))) else none) else none)))) else ((Q55.f (a0.1.1,a0.1.2.1,(a0.1.2.2.1,a0.1.2.2.2))).bind fun r2=>(if 0≤r2∧r2*1≤281474976710656 then (if 0≤(Zv (0:Int) a0.2.2.1 a1)∧(Zv (0:Int) a0.2.2.1 a1)<(a0.2.1.length:Int) then ((Q27.f (a0.2.2.2.2.1,a0.2.2.2.2.2) (Zv (0:Int) a0.2.2.1 a1)).bind fun r3=>(some (0,((a0.1.1,a0.1.2.1,(a0.1.2.2.1,a0.1.2.2.2)),(a0.2.1.set (Zv (0:Int) a0.2.2.1 a1).toNat (a1,(List.replicate r2.toNat (0:Int)),true,1)),(Vs a1 (Zv (0:Int) a0.2.2.1 a1) a0.2.2.1),a0.2.2.2.1,r3.2)))) else none) else none)))) else none) else (if (!(Y9 a0.2.2.1 a1))=true then ((Q25.f a0).bind fun r5=>(if (!r5.2.1)=true then (some (7,r5.2.2)) else ((Q55.f (r5.2.2.1.1,r5.2.2.1.2.1,(r5.2.2.1.2.2.1,r5.2.2.1.2.2.2))).bind fun r2=>(if 0≤r2∧r2*1≤281474976710656 then (if 0≤r5.1∧r5.1<(r5.2.2.2.1.length:Int) then ((Q27.f (r5.2.2.2.2.2.2.1,r5.2.2.2.2.2.2.2) r5.1).bind fun r3=>(some (0,((r5.2.2.1.1,r5.2.2.1.2.1,(r5.2.2.1.2.2.1,r5.2.2.1.2.2.2)),(r5.2.2.2.1.set r5.1.toNat (a1,(List.replicate r2.toNat (0:Int)),true,1)),(Vs a1 r5.1 r5.2.2.2.2.1),r5.2.2.2.2.2.1,r3.2)))) else none) else none)))) else ((Q55.f (a0.1.1,a0.1.2.1,(a0.1.2.2.1,a0.1.2.2.2))).bind fun r2=>(if 0≤r2∧r2*1≤281474976710656 then (if 0≤(Zv (0:Int) a0.2.2.1 a1)∧(Zv (0:Int) a0.2.2.1 a1)<(a0.2.1.length:Int) then ((Q27.f (a0.2.2.2.2.1,a0.2.2.2.2.2) (Zv (0:Int) a0.2.2.1 a1)).bind fun r3=>(some (0,((a0.1.1,a0.1.2.1,(a0.1.2.2.1,a0.1.2.2.2)),(a0.2.1.set (Zv (0:Int) a0.2.2.1 a1).toNat (a1,(List.replicate r2.toNat (0:Int)),true,1)),(Vs a1 (Zv (0:Int) a0.2.2.1 a1) a0.2.2.1),a0.2.2.2.1,r3.2)))) else none) else none)))))
theorem Q18.spec {a0 a1 b1 b2 b3 b4 A1 c_1 A2 c_2 A3 c_3 A4 c_4 r} (H:Q18.f a0 a1=some r) :
  Spec Tryz.prog 140 [.pointer (some ⟨b1,0,none⟩),.int .u32 a1] (W9 a0 b1 b2 b3 b4 A1 A2 A3 A4 c_1 c_2 c_3 c_4) [] (fun v l=>∃ A_0 c_0 A_1 c_1 A_2 c_2 A_3 c_3,v=.int .i64 r.1∧l=W9 r.2 b1 b2 b3 b4 A_0 A_1 A_2 A_3 c_0 c_1 c_2 c_3):=by
 refine Zi Tryz.func140 fun w0 F0 h0=>?_
 replace h0:=nf h0
 unfold Q18.f at H
 refine T8 (Zb [0,1] ?_)
 refine T8 (T8 (T6 ?_))
 refine Zd 2 ?_
 refine cS H [0,0,0,0,0,0,0,0] h0 rfl Q26.spec Zp fun r1 w1 H h1=>?_
 refine Ze [0,1,5] rfl ?_
 refine T8 (Zb [0,1,5,12] ?_)
 refine jIf H (fun c1 H=>?_) fun c1 H=>?_
 ·refine T8 (Zb [4] ?_)
  cases H
  exact T7 (jR ⟨_,_,_,_,_,_,_,_,rfl,rfl⟩ h1 [0,0,0,0,0,0,0,0])
 refine T9 (T8 (T6 ?_))
 refine Zd 3 ?_
 refine Zc (Za 0 h1.wht) ?_
 refine Zd 1 ?_
 refine Zc (Wp (0:Int) 4 h1.wht) ?_
 refine Ze [0,1,6,7] rfl ?_
 refine T8 (T5 (fun env w=>∃(x1:Int) (x2:TX) (A5:Option Addr) (c_5:Nat) (x3:Int) (x4:Int) (x5:Tx) (A6:Option Addr) (c_6:Nat) (x6:TO) (x7:TX) (A7:Option Addr) (c_7:Nat) (x8:TG) (A8:Option Addr) (c_8:Nat) (x9:Int) (x10:Int),env=[(0,.pointer (some ⟨b1,0,none⟩)),(1,.int .u32 a1),(6,.int .i64 x10)]∧St w0 F0 [Xp b1 (.pointer (some ⟨b2,0,none⟩)) x5 A6 c_6 (.map (some b3)) x7 A7 c_7 (.pointer (some ⟨b4,0,none⟩)),Xi b2 x1 x2 A5 c_5 x3 x4,Xa .u32 (Value.int .i64) b3 x6,Y0 b4 x8 A8 c_8 x9,O5 x2 A5 c_5,Xq x5 A6 c_6,O3 x7 A7 c_7,Y2 x8 A8 c_8] [] w∧((Q55.f (x1,x2,(x3,x4))).bind fun r2=>(if 0≤r2∧r2*1≤281474976710656 then (if 0≤x10∧x10<(x5.length:Int) then ((Q27.f (x8,x9) x10).bind fun r3=>(some (0,((x1,x2,(x3,x4)),(x5.set x10.toNat (a1,(List.replicate r2.toNat (0:Int)),true,1)),(Vs a1 x10 x6),x7,r3.2)))) else none) else none))=some r) ?_ ?_)
 ·refine T0 (T8 (T6 ?_))
  refine Zd 2 ?_
  refine Yb 25 H (fun c2 H=>?_) fun c2 H=>?_
  ·refine Zd 3 ?_
   refine Zc (Za 0 h1.wht) ?_
   refine Zd 1 ?_
   obtain ⟨⟨p5,p6⟩,H⟩:=Zk H
   have e2:=Z0 h1.wh (gO 3) p5 p6
   refine Zc (Zg e2 p5 p6) ?_
   refine Zd 1 ?_
   refine Zc (Xb 3 h1.wht (gO 3) p5 p6) ?_
   refine Ze [0,1,6,7,23] rfl ?_
   refine jIf H (fun c3 H=>?_) fun c3 H=>?_
   ·refine T8 (Zb [4] ?_)
    cases H
    exact T7 (jR ⟨_,_,_,_,_,_,_,_,rfl,rfl⟩ h1 [0,0,0,0,0,0,0,0])
   refine T8 (Zb [0,1,6,36] ?_)
   refine jIf H (fun c4 H=>?_) fun c4 H=>?_
   ·refine T8 (T6 ?_)
    refine Zd 1 ?_
    refine cE H [0,0,0,0,0,0,0,0] h1 rfl Q25.spec Zp ?_
    rintro r4 w11 _ _ H ⟨A10,c_10,A11,c_11,A12,c_12,A13,c_13,rfl,rfl⟩ h13
    replace h13:=nf h13
    refine Ze [0,1,6,7] rfl ?_
    refine T8 (Zb [0,1,6,45] ?_)
    refine jIf H (fun c5 H=>?_) fun c5 H=>?_
    ·refine T8 (Zb [4] ?_)
     cases H
     exact T7 (jR ⟨_,_,_,_,_,_,_,_,rfl,rfl⟩ h13 [0,0,0,0,0,0,0,0])
    refine Wk [0,1,6] ?_
    refine T9 ?_
    have h14:=(sOR h13 [0,0,2,3,0,0,0,0] [])
    exact ⟨r4.2.2.1.1,r4.2.2.1.2.1,A10,c_10,r4.2.2.1.2.2.1,r4.2.2.1.2.2.2,r4.2.2.2.1,A11,c_11,r4.2.2.2.2.1,r4.2.2.2.2.2.1,A12,c_12,r4.2.2.2.2.2.2.1,A13,c_13,r4.2.2.2.2.2.2.2,r4.1,rfl,h14,H⟩
   refine Wk [0,1,6] ?_
   refine T9 ?_
   have h15:=(sOR h1 [0,0,2,3,0,0,0,0] [])
   exact ⟨a0.1.1,a0.1.2.1,A1,c_1,a0.1.2.2.1,a0.1.2.2.2,a0.2.1,A2,c_2,a0.2.2.1,a0.2.2.2.1,A3,c_3,a0.2.2.2.2.1,A4,c_4,a0.2.2.2.2.2,(Zv (0:Int) a0.2.2.1 a1),rfl,h15,H⟩
  refine Ze [0,1,6,7,23] rfl ?_
  refine Z6 ?_
  refine T8 (Zb [0,1,6,36] ?_)
  refine jIf H (fun c6 H=>?_) fun c6 H=>?_
  ·refine T8 (T6 ?_)
   refine Zd 1 ?_
   refine cE H [0,0,0,0,0,0,0,0] h1 rfl Q25.spec Zp ?_
   rintro r5 w12 _ _ H ⟨A14,c_14,A15,c_15,A16,c_16,A17,c_17,rfl,rfl⟩ h16
   replace h16:=nf h16
   refine Ze [0,1,6,7] rfl ?_
   refine T8 (Zb [0,1,6,45] ?_)
   refine jIf H (fun c7 H=>?_) fun c7 H=>?_
   ·refine T8 (Zb [4] ?_)
    cases H
    exact T7 (jR ⟨_,_,_,_,_,_,_,_,rfl,rfl⟩ h16 [0,0,0,0,0,0,0,0])
   refine Wk [0,1,6] ?_
   refine T9 ?_
   have h17:=(sOR h16 [0,0,2,3,0,0,0,0] [])
   exact ⟨r5.2.2.1.1,r5.2.2.1.2.1,A14,c_14,r5.2.2.1.2.2.1,r5.2.2.1.2.2.2,r5.2.2.2.1,A15,c_15,r5.2.2.2.2.1,r5.2.2.2.2.2.1,A16,c_16,r5.2.2.2.2.2.2.1,A17,c_17,r5.2.2.2.2.2.2.2,r5.1,rfl,h17,H⟩
  refine Wk [0,1,6] ?_
  refine T9 ?_
  have h18:=(sOR h1 [0,0,2,3,0,0,0,0] [])
  exact ⟨a0.1.1,a0.1.2.1,A1,c_1,a0.1.2.2.1,a0.1.2.2.2,a0.2.1,A2,c_2,a0.2.2.1,a0.2.2.2.1,A3,c_3,a0.2.2.2.2.1,A4,c_4,a0.2.2.2.2.2,(Zv (0:Int) a0.2.2.1 a1),rfl,h18,H⟩
 rintro env w3 ⟨x1,x2,A5,c_5,x3,x4,x5,A6,c_6,x6,x7,A7,c_7,x8,A8,c_8,x9,x10,rfl,h2,H⟩
 refine T8 (T6 ?_)
 refine Zd 6 ?_
 refine Zc (Za 0 h2.wht) ?_
 refine cS H [1,3] h2 rfl Q55.spec Zp fun r2 w4 H h3=>?_
 obtain ⟨⟨p1,p2⟩,H⟩:=Zk H
 refine rB (Gc Z4 (ty:=(.int .u8)) rfl (0:Int) rfl rfl rfl rfl rfl rfl rfl (by decide) h3 p1 p2) fun b5 w5 h4=>?_
 refine Zd 1 ?_
 refine Ye Tryz.func127 ?_
 refine T8 (T6 ?_)
 refine rB (Z9 h4) fun b6 w6 h5=>?_
 refine Ze [0,1,5] rfl ?_
 refine T8 (T6 ?_)
 refine Zd 1 ?_
 refine rS (Zt 0 h5) fun _ w7 h6=>?_
 refine Ze [0,1,5] rfl ?_
 refine T8 (Zz (sO h6 [0,1,1,1,1,1,2,2]) ?_)
 have h7:=h6.drew
 refine Zo [0,1,2,4] ?_
 refine Zf 3 rfl (Za 3 wI) ?_
 refine Zf 5 rfl (Za 0 wI) ?_
 obtain ⟨⟨p3,p4⟩,H⟩:=Zk H
 have e1:=Z0 h7.wh (gO 7) p3 p4
 refine Zf 6 rfl (Zg e1 p3 p4) ?_
 have h8:=(h7.only [7,1,0,0,0,0,0,0,0,0] rfl).both
 refine hS 7 rfl (W2 0 (.pair (.int .u32) (.pair (.slice 5 (.int .u8)) (.pair .bool (.int .i64)))) x10 (a1,(List.replicate r2.toNat (0:Int)),true,1) h8 p3 p4 Zcz) 1 fun _ w8 h9=>?_
 replace h9:St w0 F0 [Xq (x5.set x10.toNat (a1,(List.replicate r2.toNat (0:Int)),true,1)) A6 c_6,Zg0 b6 a1 (List.replicate r2.toNat (0:Int)) (some ⟨b5,0,none⟩) (r2.toNat) true 1,Xi b2 x1 x2 A5 c_5 x3 x4,O5 x2 A5 c_5,Xp b1 (.pointer (some ⟨b2,0,none⟩)) (x5.set x10.toNat (a1,(List.replicate r2.toNat (0:Int)),true,1)) A6 c_6 (.map (some b3)) x7 A7 c_7 (.pointer (some ⟨b4,0,none⟩)),Xa .u32 (Value.int .i64) b3 x6,Y0 b4 x8 A8 c_8 x9,O3 x7 A7 c_7,Y2 x8 A8 c_8] _ _:=h9.retell (by simp only [List.length_set,List.length_nil,Xq,Y2,O3,O5,Xi,Zg0,Xp,Y0] <;> rfl)
 refine Zw [0,1,5] ?_
 refine T8 (Zz (sO h9 [0,0,0,0,0,1,1,1]) ?_)
 have h10:=h9.drew
 refine Zo [0,1,2,4,6] ?_
 refine Zf 3 rfl (Za 4 wI) ?_
 refine Zf 5 rfl (Za 1 wI) ?_
 refine hS 7 rfl (Zdn Z4 (v:=x10) (ix:=a1) 5 rfl h10 rfl rfl rfl rfl rfl rfl rfl rfl rfl) 1 fun _ w9 h11=>?_
 refine Zw [0,1] ?_
 refine T6 (Zd 3 ?_)
 refine Zc (Za 5 h11.wht) ?_
 refine Zd 1 ?_
 refine cE H [6,7] h11 rfl Q27.spec Zp ?_
 rintro r3 w10 _ _ H ⟨A9,c_9,rfl,rfl⟩ h12
 replace h12:=nf h12
 refine Ze [] rfl ?_
 refine ⟨_,Zl,?_⟩
 refine Ze [] rfl ?_
 refine T8 (Zb [4] ?_)
 cases H
 exact T7 (jR ⟨_,_,_,_,_,_,_,_,rfl,rfl⟩ h12 [7,5,5,3,2,3,0,0])

def Q32.f (a0:TD) (a1:Int) (a2:Int):Option (TD):=if 0≤a2∧a2<(a0.1.length:Int) then (if 0≤a1∧a1<(a0.1.length:Int) then (if 0≤a2∧a2<((a0.1.set a1.toNat (a2,(gt a0.1 a2).2.1,true)).length:Int) then (if 0≤((gt a0.1 a2).2.1)∧((gt a0.1 a2).2.1)<(((a0.1.set a1.toNat (a2,(gt a0.1 a2).2.1,true)).set a2.toNat ((gt (a0.1.set a1.toNat (a2,(gt a0.1 a2).2.1,true)) a2).1,a1,(gt (a0.1.set a1.toNat (a2,(gt a0.1 a2).2.1,true)) a2).2.2)).length:Int) then (some ((((a0.1.set a1.toNat (a2,(gt a0.1 a2).2.1,true)).set a2.toNat ((gt (a0.1.set a1.toNat (a2,(gt a0.1 a2).2.1,true)) a2).1,a1,(gt (a0.1.set a1.toNat (a2,(gt a0.1 a2).2.1,true)) a2).2.2)).set ((gt a0.1 a2).2.1).toNat (a1,(gt ((a0.1.set a1.toNat (a2,(gt a0.1 a2).2.1,true)).set a2.toNat ((gt (a0.1.set a1.toNat (a2,(gt a0.1 a2).2.1,true)) a2).1,a1,(gt (a0.1.set a1.toNat (a2,(gt a0.1 a2).2.1,true)) a2).2.2)) ((gt a0.1 a2).2.1)).2.1,(gt ((a0.1.set a1.toNat (a2,(gt a0.1 a2).2.1,true)).set a2.toNat ((gt (a0.1.set a1.toNat (a2,(gt a0.1 a2).2.1,true)) a2).1,a1,(gt (a0.1.set a1.toNat (a2,(gt a0.1 a2).2.1,true)) a2).2.2)) ((gt a0.1 a2).2.1)).2.2)),(w64 (a0.2+1)))) else none) else none) else none) else none
theorem Q32.spec {a0 a1 a2 b1 A1 c_1 r} (H:Q32.f a0 a1 a2=some r) :
  Spec Tryz.prog 174 [.pointer (some ⟨b1,0,none⟩),.int .i64 a1,.int .i64 a2] (Wv a0 b1 A1 c_1) [] (fun v l=>∃ A_0 c_0,v=.tuple #[]∧l=Wv r b1 A_0 c_0):=by
 refine Zi Tryz.func174 fun w0 F0 h0=>?_
 replace h0:=nf h0
 unfold Q32.f at H
 refine T8 (T6 ?_)
 refine Zd 3 ?_
 refine Zc (Za 0 h0.wht) ?_
 refine Zd 1 ?_
 obtain ⟨⟨p1,p2⟩,H⟩:=Zk H
 have e1:=Z0 h0.wh (gO 1) p1 p2
 refine Zc (Zg e1 p1 p2) ?_
 refine Zd 1 ?_
 refine Zc (Zh 1 h0.wht (gO 1) p1 p2) ?_
 refine Ze [0,1,2,6] rfl ?_
 refine T8 (T6 ?_)
 refine Zd 3 ?_
 refine Zc (Za 0 h0.wht) ?_
 refine Zd 4 ?_
 obtain ⟨⟨p3,p4⟩,H⟩:=Zk H
 refine Zc (Zg e1 p3 p4) ?_
 refine rS (Zm 0 (.pair (.int .i64) (.pair (.int .i64) .bool)) a1 (a2,(gt a0.1 a2).2.1,true) 1 h0 rfl p3 p4) fun _ w1 h1=>?_
 replace h1:St w0 F0 [Y2 (a0.1.set a1.toNat (a2,(gt a0.1 a2).2.1,true)) A1 c_1,Y0 b1 (a0.1.set a1.toNat (a2,(gt a0.1 a2).2.1,true)) A1 c_1 a0.2] _ _:=h1.retell (by simp only [List.length_set,List.length_nil,Y2,Y0] <;> rfl)
 refine Ze [0,1,2,6] rfl ?_
 refine T8 (T6 ?_)
 refine Zd 3 ?_
 refine Zc (Za 1 h1.wht) ?_
 refine Zd 2 ?_
 obtain ⟨⟨p5,p6⟩,H⟩:=Zk H
 refine Zc (Zg e1 p5 p6) ?_
 refine Zd 1 ?_
 refine rS (Zm 1 (.pair (.int .i64) (.pair (.int .i64) .bool)) a2 ((gt (a0.1.set a1.toNat (a2,(gt a0.1 a2).2.1,true)) a2).1,a1,(gt (a0.1.set a1.toNat (a2,(gt a0.1 a2).2.1,true)) a2).2.2) 0 h1 rfl p5 p6) fun _ w2 h2=>?_
 replace h2:St w0 F0 [Y2 ((a0.1.set a1.toNat (a2,(gt a0.1 a2).2.1,true)).set a2.toNat ((gt (a0.1.set a1.toNat (a2,(gt a0.1 a2).2.1,true)) a2).1,a1,(gt (a0.1.set a1.toNat (a2,(gt a0.1 a2).2.1,true)) a2).2.2)) A1 c_1,Y0 b1 ((a0.1.set a1.toNat (a2,(gt a0.1 a2).2.1,true)).set a2.toNat ((gt (a0.1.set a1.toNat (a2,(gt a0.1 a2).2.1,true)) a2).1,a1,(gt (a0.1.set a1.toNat (a2,(gt a0.1 a2).2.1,true)) a2).2.2)) A1 c_1 a0.2] _ _:=h2.retell (by simp only [List.length_set,List.length_nil,Y2,Y0] <;> rfl)
 refine Ze [0,1,6] rfl ?_
 refine T8 (T6 ?_)
 refine Zd 3 ?_
 refine Zc (Za 1 h2.wht) ?_
 refine Zd 2 ?_
 obtain ⟨⟨p7,p8⟩,H⟩:=Zk H
 refine Zc (Zg e1 p7 p8) ?_
 refine Zd 1 ?_
 refine rS (Zm 0 (.pair (.int .i64) (.pair (.int .i64) .bool)) ((gt a0.1 a2).2.1) (a1,(gt ((a0.1.set a1.toNat (a2,(gt a0.1 a2).2.1,true)).set a2.toNat ((gt (a0.1.set a1.toNat (a2,(gt a0.1 a2).2.1,true)) a2).1,a1,(gt (a0.1.set a1.toNat (a2,(gt a0.1 a2).2.1,true)) a2).2.2)) ((gt a0.1 a2).2.1)).2.1,(gt ((a0.1.set a1.toNat (a2,(gt a0.1 a2).2.1,true)).set a2.toNat ((gt (a0.1.set a1.toNat (a2,(gt a0.1 a2).2.1,true)) a2).1,a1,(gt (a0.1.set a1.toNat (a2,(gt a0.1 a2).2.1,true)) a2).2.2)) ((gt a0.1 a2).2.1)).2.2) 0 h2 rfl p7 p8) fun _ w3 h3=>?_
 replace h3:St w0 F0 [Y2 (((a0.1.set a1.toNat (a2,(gt a0.1 a2).2.1,true)).set a2.toNat ((gt (a0.1.set a1.toNat (a2,(gt a0.1 a2).2.1,true)) a2).1,a1,(gt (a0.1.set a1.toNat (a2,(gt a0.1 a2).2.1,true)) a2).2.2)).set ((gt a0.1 a2).2.1).toNat (a1,(gt ((a0.1.set a1.toNat (a2,(gt a0.1 a2).2.1,true)).set a2.toNat ((gt (a0.1.set a1.toNat (a2,(gt a0.1 a2).2.1,true)) a2).1,a1,(gt (a0.1.set a1.toNat (a2,(gt a0.1 a2).2.1,true)) a2).2.2)) ((gt a0.1 a2).2.1)).2.1,(gt ((a0.1.set a1.toNat (a2,(gt a0.1 a2).2.1,true)).set a2.toNat ((gt (a0.1.set a1.toNat (a2,(gt a0.1 a2).2.1,true)) a2).1,a1,(gt (a0.1.set a1.toNat (a2,(gt a0.1 a2).2.1,true)) a2).2.2)) ((gt a0.1 a2).2.1)).2.2)) A1 c_1,Y0 b1 (((a0.1.set a1.toNat (a2,(gt a0.1 a2).2.1,true)).set a2.toNat ((gt (a0.1.set a1.toNat (a2,(gt a0.1 a2).2.1,true)) a2).1,a1,(gt (a0.1.set a1.toNat (a2,(gt a0.1 a2).2.1,true)) a2).2.2)).set ((gt a0.1 a2).2.1).toNat (a1,(gt ((a0.1.set a1.toNat (a2,(gt a0.1 a2).2.1,true)).set a2.toNat ((gt (a0.1.set a1.toNat (a2,(gt a0.1 a2).2.1,true)) a2).1,a1,(gt (a0.1.set a1.toNat (a2,(gt a0.1 a2).2.1,true)) a2).2.2)) ((gt a0.1 a2).2.1)).2.1,(gt ((a0.1.set a1.toNat (a2,(gt a0.1 a2).2.1,true)).set a2.toNat ((gt (a0.1.set a1.toNat (a2,(gt a0.1 a2).2.1,true)) a2).1,a1,(gt (a0.1.set a1.toNat (a2,(gt a0.1 a2).2.1,true)) a2).2.2)) ((gt a0.1 a2).2.1)).2.2)) A1 c_1 a0.2] _ _:=h3.retell (by simp only [List.length_set,List.length_nil,Y2,Y0] <;> rfl)
 refine Ze [0] rfl ?_
 refine T6 (Zd 3 ?_)
 refine Zc (Za 1 h3.wht) ?_
 refine Zd 3 ?_
 refine rS (Zt 1 h3) fun _ w4 h4=>?_
 refine Ze [] rfl ?_
 cases H
 exact ⟨_,_,_,Zl,⟨_,_,rfl,rfl⟩,sO h4 [0,0]⟩

def Q28.f (a0:TD) (a1:Int):Option Tw:=(Q34.f a0 a1).bind fun r1=>(if (decide (r1=0))=true then ((Q31.f a0 a1).bind fun r2=>((Q33.f r2).bind fun r3=>((Q32.f r2 a1 r3).bind fun r4=>(some (r1,r4))))) else (some (r1,a0)))
theorem Q28.spec {a0 a1 b1 A1 c_1 r} (H:Q28.f a0 a1=some r) :
  Spec Tryz.prog 129 [.pointer (some ⟨b1,0,none⟩),.int .i64 a1] (Wv a0 b1 A1 c_1) [] (fun v l=>∃ A_0 c_0,v=.int .i64 r.1∧l=Wv r.2 b1 A_0 c_0):=by
 refine Zi Tryz.func129 fun w0 F0 h0=>?_
 replace h0:=nf h0
 unfold Q28.f at H
 refine T8 (Zb [0,1] ?_)
 refine T8 (T6 ?_)
 refine Zd 2 ?_
 refine cS H [0,0] h0 rfl Q34.spec Zp fun r1 w1 H h1=>?_
 refine Ze [0,1,5] rfl ?_
 refine T8 (T8 (Zb [0,1,5,10] ?_))
 refine jIf H (fun c1 H=>?_) fun c1 H=>?_
 ·refine T8 (T6 ?_)
  refine Zd 2 ?_
  refine cE H [0,0] h1 rfl Q31.spec Zp ?_
  rintro r2 w2 _ _ H ⟨A2,c_2,rfl,rfl⟩ h2
  replace h2:=nf h2
  refine Ze [0,1,5] rfl ?_
  refine T6 (Zd 3 ?_)
  refine cS H [0,0] h2 rfl Q33.spec Zp fun r3 w3 H h3=>?_
  refine cE H [0,0] h3 rfl Q32.spec Zp ?_
  rintro r4 w4 _ _ H ⟨A3,c_3,rfl,rfl⟩ h4
  replace h4:=nf h4
  refine Ze [5] rfl ?_
  refine T8 (Zb [4] ?_)
  cases H
  exact T7 (jR ⟨_,_,rfl,rfl⟩ h4 [0,0])
 refine T9 (T8 (Zb [4] ?_))
 cases H
 exact T7 (jR ⟨_,_,rfl,rfl⟩ h1 [0,0])

def Q21.f (a0:Ti) (a1:Int):Option Th:=(Q24.f a0).bind fun r1=>(if r1=true then (some (1,a0)) else (if (!(Y9 a0.2.2.1 a1))=true then (some (8,a0)) else (if 0≤(Zv (0:Int) a0.2.2.1 a1)∧(Zv (0:Int) a0.2.2.1 a1)<(a0.2.1.length:Int) then (if (decide (((gt a0.2.1 (Zv (0:Int) a0.2.2.1 a1)).2.2.2)=0))=true then (some (8,a0)) else (if (decide (((gt (a0.2.1.set (Zv (0:Int) a0.2.2.1 a1).toNat ((gt a0.2.1 (Zv (0:Int) a0.2.2.1 a1)).1,(gt a0.2.1 (Zv (0:Int) a0.2.2.1 a1)).2.1,(gt a0.2.1 (Zv (0:Int) a0.2.2.1 a1)).2.2.1,(w64 (((gt a0.2.1 (Zv (0:Int) a0.2.2.1 a1)).2.2.2) - 1)))) (Zv (0:Int) a0.2.2.1 a1)).2.2.2)=0))=true then ((Q28.f a0.2.2.2.2 (Zv (0:Int) a0.2.2.1 a1)).bind fun r2=>(some (0,(a0.1,(a0.2.1.set (Zv (0:Int) a0.2.2.1 a1).toNat ((gt a0.2.1 (Zv (0:Int) a0.2.2.1 a1)).1,(gt a0.2.1 (Zv (0:Int) a0.2.2.1 a1)).2.1,(gt a0.2.1 (Zv (0:Int) a0.2.2.1 a1)).2.2.1,(w64 (((gt a0.2.1 (Zv (0:Int) a0.2.2.1 a1)).2.2.2) - 1)))),a0.2.2.1,a0.2.2.2.1,r2.2)))) else (some (0,(a0.1,(a0.2.1.set (Zv (0:Int) a0.2.2.1 a1).toNat ((gt a0.2.1 (Zv (0:Int) a0.2.2.1 a1)).1,(gt a0.2.1 (Zv (0:Int) a0.2.2.1 a1)).2.1,(gt a0.2.1 (Zv (0:Int) a0.2.2.1 a1)).2.2.1,(w64 (((gt a0.2.1 (Zv (0:Int) a0.2.2.1 a1)).2.2.2) - 1)))),a0.2.2.1,a0.2.2.2.1,a0.2.2.2.2))))) else none)))
theorem Q21.spec {a0 a1 b1 b2 b3 b4 A1 c_1 A2 c_2 A3 c_3 A4 c_4 r} (H:Q21.f a0 a1=some r) :
  Spec Tryz.prog 79 [.pointer (some ⟨b1,0,none⟩),.int .u32 a1] (W9 a0 b1 b2 b3 b4 A1 A2 A3 A4 c_1 c_2 c_3 c_4) [] (fun v l=>∃ A_0 c_0 A_1 c_1 A_2 c_2 A_3 c_3,v=.int .i64 r.1∧l=W9 r.2 b1 b2 b3 b4 A_0 A_1 A_2 A_3 c_0 c_1 c_2 c_3):=by
 refine Zi Tryz.func79 fun w0 F0 h0=>?_
 replace h0:=nf h0
 unfold Q21.f at H
 refine T8 (Zb [0,1] ?_)
 refine T8 (T6 ?_)
 refine Zd 2 ?_
 refine Ye Tryz.func128 ?_
 refine T8 (Zb [0,1] ?_)
 refine T8 (T8 (T6 ?_))
 refine Zd 1 ?_
 refine cS H [0,0,0,0,0,0,0,0] h0 rfl Q24.spec Zp fun r1 w1 H h1=>?_
 refine Ze [0,1,9] rfl ?_
 refine jIf H (fun c1 H=>?_) fun c1 H=>?_
 ·refine T8 (Zb [4,5] ?_)
  refine T7 (⟨_,Zl,?_⟩)
  refine Ze [0,1,5,6] rfl ?_
  refine T8 (T8 (Zb [0,1,5,6,14] ?_))
  refine Zn ?_
  refine T8 (Zb [4] ?_)
  cases H
  exact T7 (jR ⟨_,_,_,_,_,_,_,_,rfl,rfl⟩ h1 [0,0,0,0,0,0,0,0])
 refine T9 (T8 (T6 ?_))
 refine Zd 3 ?_
 refine Zc (Za 0 h1.wht) ?_
 refine Zd 1 ?_
 refine Zc (Wp (0:Int) 4 h1.wht) ?_
 refine Ze [0,6,7] rfl ?_
 refine T8 (T8 (T6 ?_))
 refine Zd 3 ?_
 refine Yb 21 H (fun c2 H=>?_) fun c2 H=>?_
 ·refine Ze [0,6,31] rfl ?_
  refine Zn ?_
  refine T8 (Zb [4,5] ?_)
  refine T7 (⟨_,Zl,?_⟩)
  refine Ze [0,1,5,6] rfl ?_
  refine T8 (T8 (Zb [0,1,5,6,14] ?_))
  refine Zn ?_
  refine T8 (Zb [4] ?_)
  cases H
  exact T7 (jR ⟨_,_,_,_,_,_,_,_,rfl,rfl⟩ h1 [0,0,0,0,0,0,0,0])
 refine Zd 3 ?_
 refine Zc (Za 0 h1.wht) ?_
 refine Zd 1 ?_
 obtain ⟨⟨p1,p2⟩,H⟩:=Zk H
 have e1:=Z0 h1.wh (gO 3) p1 p2
 refine Zc (Zg e1 p1 p2) ?_
 refine Zd 1 ?_
 refine Zc (Xb 3 h1.wht (gO 3) p1 p2) ?_
 refine Ze [0,6,31] rfl ?_
 refine jIf H (fun c3 H=>?_) fun c3 H=>?_
 ·refine T8 (Zb [4,5] ?_)
  refine T7 (⟨_,Zl,?_⟩)
  refine Ze [0,1,5,6] rfl ?_
  refine T8 (T8 (Zb [0,1,5,6,14] ?_))
  refine Zn ?_
  refine T8 (Zb [4] ?_)
  cases H
  exact T7 (jR ⟨_,_,_,_,_,_,_,_,rfl,rfl⟩ h1 [0,0,0,0,0,0,0,0])
 refine T9 (T8 (T6 ?_))
 refine Zd 3 ?_
 refine Zc (Za 0 h1.wht) ?_
 refine Zd 1 ?_
 refine Zc (Zg e1 p1 p2) ?_
 refine Ze [4,5] rfl ?_
 refine T7 (⟨_,Zl,?_⟩)
 refine Ze [0,1,5,6] rfl ?_
 refine T8 (T8 (Zb [0,1,5,6,14] ?_))
 refine Z6 ?_
 refine T9 (T8 (T6 ?_))
 refine Zd 3 ?_
 refine Zc (Xb 3 h1.wht (gO 3) p1 p2) ?_
 refine Zd 3 ?_
 refine rS (Ww 3 (.pair (.int .u32) (.pair (.slice 5 (.int .u8)) (.pair .bool (.int .i64)))) (Zv (0:Int) a0.2.2.1 a1) ((gt a0.2.1 (Zv (0:Int) a0.2.2.1 a1)).1,(gt a0.2.1 (Zv (0:Int) a0.2.2.1 a1)).2.1,(gt a0.2.1 (Zv (0:Int) a0.2.2.1 a1)).2.2.1,(w64 (((gt a0.2.1 (Zv (0:Int) a0.2.2.1 a1)).2.2.2) - 1))) 3 h1 rfl p1 p2 (G0 rfl rfl)) fun _ w2 h2=>?_
 replace h2:St w0 F0 [Xq (a0.2.1.set (Zv (0:Int) a0.2.2.1 a1).toNat ((gt a0.2.1 (Zv (0:Int) a0.2.2.1 a1)).1,(gt a0.2.1 (Zv (0:Int) a0.2.2.1 a1)).2.1,(gt a0.2.1 (Zv (0:Int) a0.2.2.1 a1)).2.2.1,(w64 (((gt a0.2.1 (Zv (0:Int) a0.2.2.1 a1)).2.2.2) - 1)))) A2 c_2,Xp b1 (.pointer (some ⟨b2,0,none⟩)) (a0.2.1.set (Zv (0:Int) a0.2.2.1 a1).toNat ((gt a0.2.1 (Zv (0:Int) a0.2.2.1 a1)).1,(gt a0.2.1 (Zv (0:Int) a0.2.2.1 a1)).2.1,(gt a0.2.1 (Zv (0:Int) a0.2.2.1 a1)).2.2.1,(w64 (((gt a0.2.1 (Zv (0:Int) a0.2.2.1 a1)).2.2.2) - 1)))) A2 c_2 (.map (some b3)) a0.2.2.2.1 A3 c_3 (.pointer (some ⟨b4,0,none⟩)),Xi b2 a0.1.1 a0.1.2.1 A1 c_1 a0.1.2.2.1 a0.1.2.2.2,O5 a0.1.2.1 A1 c_1,Xa .u32 (Value.int .i64) b3 a0.2.2.1,O3 a0.2.2.2.1 A3 c_3,Y0 b4 a0.2.2.2.2.1 A4 c_4 a0.2.2.2.2.2,Y2 a0.2.2.2.2.1 A4 c_4] _ _:=h2.retell (by simp only [List.length_set,List.length_nil,Xq,Y2,O3,O5,Xi,Xp,Y0] <;> rfl)
 refine Ze [0,1,5] rfl ?_
 refine T8 (T8 (T6 ?_))
 refine Zd 3 ?_
 refine Zc (Xb 3 h2.wht (gO 0) p1 (by simpa only [List.length_set] using p2)) ?_
 refine Ze [0,1,27] rfl ?_
 refine jIf H (fun c4 H=>?_) fun c4 H=>?_
 ·refine Zz (sO h2 [0,0,0,0,0,0]) ?_
  have h3:=h2.drew
  refine Zo [0,1,2,4,5,6,8] ?_
  refine Zf 3 rfl (Za 1 wI) ?_
  refine Zf 7 rfl (Za 1 wI) ?_
  refine Zf 9 rfl (Zfk (0:Int) 4 wI) ?_
  refine cEJ 10 rfl H [6,6] h3 rfl Q28.spec Zp ?_
  rintro r2 w3 _ _ H ⟨A5,c_5,rfl,rfl⟩ h4
  replace h4:=nf h4
  refine ⟨⟨[_,_],h4⟩,?_⟩
  refine Zw [] ?_
  refine T8 (Zb [4] ?_)
  cases H
  exact T7 (jR ⟨_,_,_,_,_,_,_,_,rfl,rfl⟩ h4 [3,3,3,2,2,2,0,0])
 refine T9 (T8 (Zb [4] ?_))
 cases H
 exact T7 (jR ⟨_,_,_,_,_,_,_,_,rfl,rfl⟩ h2 [1,1,1,0,0,0,0,0])

def Q92.f (a0:Tg) (a1:Int) (a2:TX):Option (Int×Tg):=if (decide (a1=a0.2.2.2))=true then ((Q22.f a0.2.1 a1 a2).bind fun r1=>(some (r1.1,(a0.1,r1.2,a0.2.2.1,a0.2.2.2)))) else ((Q18.f a0.2.1 a1).bind fun r2=>(if (!decide (r2.1=0))=true then (some (r2.1,(a0.1,r2.2,a0.2.2.1,a0.2.2.2))) else ((Q22.f r2.2 a1 a2).bind fun r3=>((Q21.f r3.2 a1).bind fun r4=>(some (r3.1,(a0.1,r4.2,a0.2.2.1,a0.2.2.2)))))))
theorem Q92.spec {a0 a1 a2 A6 c_6 b1 b2 b3 b4 b5 b6 b7 A1 c_1 A2 c_2 A3 c_3 A4 c_4 A5 c_5 r} (H:Q92.f a0 a1 a2=some r) :
  Spec Tryz.prog 92 [.pointer (some ⟨b1,0,none⟩),.int .u32 a1,.slice A6 a2.length c_6] (V5 a0 b1 b2 b3 b4 b5 b6 b7 A1 A2 A3 A4 A5 c_1 c_2 c_3 c_4 c_5) [R5 a2 A6 c_6] (fun v l=>∃ A_0 c_0 A_1 c_1 A_2 c_2 A_3 c_3 A_4 c_4,v=.int .i64 r.1∧l=V5 r.2 b1 b2 b3 b4 b5 b6 b7 A_0 A_1 A_2 A_3 A_4 c_0 c_1 c_2 c_3 c_4):=by
 refine Zi Tryz.func92 fun w0 F0 h0=>?_
 replace h0:=nf h0
 unfold Q92.f at H
 refine T8 (Zb [0,1,2] ?_)
 refine T8 (T8 (T6 ?_))
 refine Zd 4 ?_
 refine Zc (Za 0 h0.wht) ?_
 refine Ze [0,1,2,14] rfl ?_
 refine jIf H (fun c1 H=>?_) fun c1 H=>?_
 ·refine T8 (T6 ?_)
  refine Zd 3 ?_
  refine Zc (Za 0 h0.wht) ?_
  refine Zd 2 ?_
  refine cE H [1,1,1,1,1,1,1,1] h0 rfl Q22.spec (gS [4]) ?_
  rintro r1 w1 _ _ H ⟨A7,c_7,A8,c_8,A9,c_9,A10,c_10,rfl,rfl⟩ h1
  replace h1:=nf h1
  refine Ze [6] rfl ?_
  cases H
  exact T7 (jR ⟨_,_,_,_,_,_,_,_,_,_,rfl,rfl⟩ h1 [8,0,0,0,0,0,0,0,0,0,0,0])
 refine T9 (T8 (T8 (T6 ?_)))
 refine Zd 3 ?_
 refine Zc (Za 0 h0.wht) ?_
 refine Zd 1 ?_
 refine cE H [1,1,1,1,1,1,1,1] h0 rfl Q18.spec Zp ?_
 rintro r2 w2 _ _ H ⟨A11,c_11,A12,c_12,A13,c_13,A14,c_14,rfl,rfl⟩ h2
 replace h2:=nf h2
 refine Ze [0,1,2,7] rfl ?_
 refine T8 (Zb [0,1,2,7,29] ?_)
 refine jIf H (fun c2 H=>?_) fun c2 H=>?_
 ·refine T8 (Zb [6] ?_)
  cases H
  exact T7 (jR ⟨_,_,_,_,_,_,_,_,_,_,rfl,rfl⟩ h2 [8,0,0,0,0,0,0,0,0,0,0,0])
 refine T9 (T8 (T6 ?_))
 refine Zd 3 ?_
 refine Zc (Za 8 h2.wht) ?_
 refine Zd 2 ?_
 refine cE H [0,0,0,0,0,0,0,0] h2 rfl Q22.spec (gS [4]) ?_
 rintro r3 w3 _ _ H ⟨A15,c_15,A16,c_16,A17,c_17,A18,c_18,rfl,rfl⟩ h3
 replace h3:=nf h3
 refine Ze [0,1,8] rfl ?_
 refine T8 (T6 ?_)
 refine Zd 3 ?_
 refine Zc (Za 8 h3.wht) ?_
 refine Zd 1 ?_
 refine cE H [0,0,0,0,0,0,0,0] h3 rfl Q21.spec Zp ?_
 rintro r4 w4 _ _ H ⟨A19,c_19,A20,c_20,A21,c_21,A22,c_22,rfl,rfl⟩ h4
 replace h4:=nf h4
 refine Ze [8] rfl ?_
 refine T8 (Zb [6] ?_)
 cases H
 exact T7 (jR ⟨_,_,_,_,_,_,_,_,_,_,rfl,rfl⟩ h4 [8,0,0,0,0,0,0,0,0,0,0,0])

def Q3.f (a0:TL) (a1:Int):Option (Int×TL):=(Q10.f a0 a1).bind fun r1=>(if (!decide (r1=0))=true then (some (r1,a0)) else ((Q6.f a0 a1).bind fun r2=>(if (!r2)=true then (some (9,a0)) else (if 0≤(w64 (Int.tdiv a1 64))∧(w64 (Int.tdiv a1 64))<(a0.2.2.length:Int) then (if 0≤(Int.tmod a1 64) then (some (0,(a0.1,(w64 (a0.2.1 - 1)),(a0.2.2.set (w64 (Int.tdiv a1 64)).toNat (IntKind.u64.wrap (((BitVec.ofInt IntKind.u64.bits (gt a0.2.2 (w64 (Int.tdiv a1 64))) &&& ~~~(BitVec.ofInt IntKind.u64.bits (IntKind.u64.wrap ((1:Int)*2 ^ (min (Int.tmod a1 64).toNat 64))))).toNat:Int))))))) else none) else none))))
theorem Q3.spec {a0 a1 b1 A1 c_1 r} (H:Q3.f a0 a1=some r) :
  Spec Tryz.prog 141 [.pointer (some ⟨b1,0,none⟩),.int .i64 a1] (Wt a0 b1 A1 c_1) [] (fun v l=>∃ A_0 c_0,v=.int .i64 r.1∧l=Wt r.2 b1 A_0 c_0):=by
 refine Zi Tryz.func141 fun w0 F0 h0=>?_
 replace h0:=nf h0
 unfold Q3.f at H
 refine T8 (Zb [0,1] ?_)
 refine T8 (T8 (T6 ?_))
 refine Zd 2 ?_
 refine cS H [0,0] h0 rfl Q10.spec Zp fun r1 w1 H h1=>?_
 refine Ze [0,1,5] rfl ?_
 refine T8 (Zb [0,1,5,10] ?_)
 refine jIf H (fun c1 H=>?_) fun c1 H=>?_
 ·refine T8 (Zb [4] ?_)
  cases H
  exact T7 (jR ⟨_,_,rfl,rfl⟩ h1 [0,0])
 refine T9 (T8 (T8 (T6 ?_)))
 refine Zd 2 ?_
 refine cS H [0,0] h1 rfl Q6.spec Zp fun r2 w2 H h2=>?_
 refine Ze [0,1,15] rfl ?_
 refine jIf H (fun c2 H=>?_) fun c2 H=>?_
 ·refine T8 (Zb [4] ?_)
  cases H
  exact T7 (jR ⟨_,_,rfl,rfl⟩ h2 [0,0])
 refine T9 (T8 ?_)
 obtain ⟨⟨p1,p2⟩,H⟩:=Zk H
 obtain ⟨p3,H⟩:=Zk H
 refine T5 (fun env w=>env=[(0,.pointer (some ⟨b1,0,none⟩))]∧St w0 F0 [Xy b1 a0.1 a0.2.1 (a0.2.2.set (w64 (Int.tdiv a1 64)).toNat (IntKind.u64.wrap (((BitVec.ofInt IntKind.u64.bits (gt a0.2.2 (w64 (Int.tdiv a1 64))) &&& ~~~(BitVec.ofInt IntKind.u64.bits (IntKind.u64.wrap ((1:Int)*2 ^ (min (Int.tmod a1 64).toNat 64))))).toNat:Int)))) A1 c_1,O61 (a0.2.2.set (w64 (Int.tdiv a1 64)).toNat (IntKind.u64.wrap (((BitVec.ofInt IntKind.u64.bits (gt a0.2.2 (w64 (Int.tdiv a1 64))) &&& ~~~(BitVec.ofInt IntKind.u64.bits (IntKind.u64.wrap ((1:Int)*2 ^ (min (Int.tmod a1 64).toNat 64))))).toNat:Int)))) A1 c_1] [] w) ?_ ?_
 ·refine Zz (sO h2 [0]) ?_
  have h4:=h2.drew
  refine Zo [0,1,2,4,5,8,9] ?_
  refine Zf 3 rfl (Za 0 wI) ?_
  have e2:=Z0 h4.wh (gO 1) p1 p2
  refine Zf 6 rfl (Zg e2 p1 p2) ?_
  refine TY [7,10] (i:=7) rfl rfl rfl rfl ?_
  refine (Z5 ?_ (Z5 ?_ Y4))
  ·refine Yf 7 rfl (Sb (Zh 0 h4.wht (gO 1) p1 p2)) ?_
   rintro _ _ ⟨rfl,rfl⟩
   replace h4:=nf h4
   refine ⟨⟨[_],(sO h4 [1,0])⟩,?_⟩
   refine Zf 10 rfl (Jz p3) ?_
   refine Zo [11] ?_
   refine Zf 12 rfl (Zg e2 p1 p2) ?_
   refine hS 13 rfl (Zm 0 (.int .u64) (w64 (Int.tdiv a1 64)) (IntKind.u64.wrap (((BitVec.ofInt IntKind.u64.bits (gt a0.2.2 (w64 (Int.tdiv a1 64))) &&& ~~~(BitVec.ofInt IntKind.u64.bits (IntKind.u64.wrap ((1:Int)*2 ^ (min (Int.tmod a1 64).toNat 64))))).toNat:Int))) 1 h4 rfl p1 p2) 1 fun _ w4 h5=>?_
   replace h5:St w0 F0 [O61 (a0.2.2.set (w64 (Int.tdiv a1 64)).toNat (IntKind.u64.wrap (((BitVec.ofInt IntKind.u64.bits (gt a0.2.2 (w64 (Int.tdiv a1 64))) &&& ~~~(BitVec.ofInt IntKind.u64.bits (IntKind.u64.wrap ((1:Int)*2 ^ (min (Int.tmod a1 64).toNat 64))))).toNat:Int)))) A1 c_1,Xy b1 a0.1 a0.2.1 (a0.2.2.set (w64 (Int.tdiv a1 64)).toNat (IntKind.u64.wrap (((BitVec.ofInt IntKind.u64.bits (gt a0.2.2 (w64 (Int.tdiv a1 64))) &&& ~~~(BitVec.ofInt IntKind.u64.bits (IntKind.u64.wrap ((1:Int)*2 ^ (min (Int.tmod a1 64).toNat 64))))).toNat:Int)))) A1 c_1] _ _:=h5.retell (by simp only [List.length_set,List.length_nil,O61,Xy] <;> rfl)
   refine Zw [0] ?_
   exact Zu ⟨(by simp only [List.length_set,List.length_nil] <;> rfl),((h5.only [1,0] rfl).rds [] rfl)⟩
  ·refine HS.op (i:=10) rfl rfl rfl (Sb (Zhg rfl rfl rfl p3)) ?_; rintro _ _ ⟨rfl,rfl⟩; replace h4:St w0 F0 [_,_] _ _:=h4; refine ⟨⟨[_],(h4.only [1,0] rfl)⟩,?_⟩
   refine Zx 7 rfl (Sb (Zh 0 h4.wht (gO 1) p1 p2)) ?_
   rintro _ _ ⟨rfl,rfl⟩
   replace h4:=nf h4
   refine ⟨⟨[_],(sO h4 [1,0])⟩,?_⟩
   refine Zo [11] ?_
   refine Zf 12 rfl (Zg e2 p1 p2) ?_
   refine hS 13 rfl (Zm 0 (.int .u64) (w64 (Int.tdiv a1 64)) (IntKind.u64.wrap (((BitVec.ofInt IntKind.u64.bits (gt a0.2.2 (w64 (Int.tdiv a1 64))) &&& ~~~(BitVec.ofInt IntKind.u64.bits (IntKind.u64.wrap ((1:Int)*2 ^ (min (Int.tmod a1 64).toNat 64))))).toNat:Int))) 1 h4 rfl p1 p2) 1 fun _ w5 h6=>?_
   replace h6:St w0 F0 [O61 (a0.2.2.set (w64 (Int.tdiv a1 64)).toNat (IntKind.u64.wrap (((BitVec.ofInt IntKind.u64.bits (gt a0.2.2 (w64 (Int.tdiv a1 64))) &&& ~~~(BitVec.ofInt IntKind.u64.bits (IntKind.u64.wrap ((1:Int)*2 ^ (min (Int.tmod a1 64).toNat 64))))).toNat:Int)))) A1 c_1,Xy b1 a0.1 a0.2.1 (a0.2.2.set (w64 (Int.tdiv a1 64)).toNat (IntKind.u64.wrap (((BitVec.ofInt IntKind.u64.bits (gt a0.2.2 (w64 (Int.tdiv a1 64))) &&& ~~~(BitVec.ofInt IntKind.u64.bits (IntKind.u64.wrap ((1:Int)*2 ^ (min (Int.tmod a1 64).toNat 64))))).toNat:Int)))) A1 c_1] _ _:=h6.retell (by simp only [List.length_set,List.length_nil,O61,Xy] <;> rfl)
   refine Zw [0] ?_
   exact Zu ⟨(by simp only [List.length_set,List.length_nil] <;> rfl),((h6.only [1,0] rfl).rds [] rfl)⟩
 rintro env w6 ⟨rfl,h7⟩
 refine T8 (T6 ?_)
 refine Zd 3 ?_
 refine Zc (Za 0 h7.wht) ?_
 refine Zd 3 ?_
 refine rS (Zt 0 h7) fun _ w7 h8=>?_
 refine Ze [] rfl ?_
 refine T8 (Zb [4] ?_)
 cases H
 exact T7 (jR ⟨_,_,rfl,rfl⟩ h8 [0,0])

def Q81.f (a0:TH) (a1:Int):Option (Int×TH):=(Q84.f a0).bind fun r1=>(if r1=true then (some (1,a0)) else (if (decide (a1=0))=true then (some (2,a0)) else ((Q3.f a0 (w64 (a1))).bind fun r2=>(some r2))))
theorem Q81.spec {a0 a1 b1 b2 A1 c_1 r} (H:Q81.f a0 a1=some r) :
  Spec Tryz.prog 93 [.pointer (some ⟨b1,0,none⟩),.int .u32 a1] (J5 a0 b1 b2 A1 c_1) [] (fun v l=>∃ A_0 c_0,v=.int .i64 r.1∧l=J5 r.2 b1 b2 A_0 c_0):=by
 refine Zi Tryz.func93 fun w0 F0 h0=>?_
 replace h0:=nf h0
 unfold Q81.f at H
 refine T8 (Zb [0,1] ?_)
 refine T8 (T0 (T8 (T6 ?_)))
 refine Zd 1 ?_
 refine cS H [0,0,0] h0 rfl Q84.spec Zp fun r1 w1 H h1=>?_
 refine Ze [0,1,5] rfl ?_
 refine jIf H (fun c1 H=>?_) fun c1 H=>?_
 ·refine T8 (Zb [4] ?_)
  cases H
  exact T7 (jR ⟨_,_,rfl,rfl⟩ h1 [0,0,0])
 refine T8 (Zb [0,1,8] ?_)
 refine jIf H (fun c2 H=>?_) fun c2 H=>?_
 ·refine T8 (Zb [4] ?_)
  cases H
  exact T7 (jR ⟨_,_,rfl,rfl⟩ h1 [0,0,0])
 refine T9 (T8 (T6 ?_))
 refine Zd 3 ?_
 refine Zc (Za 0 h1.wht) ?_
 refine Zd 2 ?_
 refine cE H [1,1] h1 rfl Q3.spec Zp ?_
 rintro r2 w2 _ _ H ⟨A2,c_2,rfl,rfl⟩ h2
 replace h2:=nf h2
 refine Ze [4] rfl ?_
 cases H
 exact T7 (jR ⟨_,_,rfl,rfl⟩ h2 [2,0,0])

def Q91.f (k:Nat) (a0:Tg) (a1:Tn):Option (Int×Int×Tg):=(Q93.f a0).bind fun r1=>(if (!decide (r1=0))=true then (some (0,r1,a0)) else ((Q39.f k a0.1 a1).bind fun r2=>(if (!decide (r2.2=0))=true then (some (0,r2.2,a0)) else ((Q83.f k a0.2.2.1).bind fun r3=>(if (!decide (r3.2.1=0))=true then (some (0,r3.2.1,(a0.1,a0.2.1,r3.2.2,a0.2.2.2))) else ((Q92.f (a0.1,a0.2.1,r3.2.2,a0.2.2.2) r3.1 r2.1).bind fun r4=>(if (!decide (r4.1=0))=true then ((Q81.f r4.2.2.2.1 r3.1).bind fun r5=>(some (0,r4.1,(r4.2.1,r4.2.2.1,r5.2,r4.2.2.2.2)))) else (some (r3.1,0,r4.2)))))))))
theorem Q91.spec {k a0 a1 A6 c_6 A7 c_7 A8 c_8 A9 c_9 b1 b2 b3 b4 b5 b6 b7 A1 c_1 A2 c_2 A3 c_3 A4 c_4 A5 c_5 r} (H:Q91.f k a0 a1=some r) :
  Spec Tryz.prog 39 [.pointer (some ⟨b1,0,none⟩),.agg #[.int .i64 a1.1,.slice A6 a1.2.1.length c_6,.slice A7 a1.2.2.1.length c_7,.slice A8 a1.2.2.2.1.length c_8,.slice A9 a1.2.2.2.2.length c_9]] (V5 a0 b1 b2 b3 b4 b5 b6 b7 A1 A2 A3 A4 A5 c_1 c_2 c_3 c_4 c_5) [R33 a1.2.1 A6 c_6,R9 a1.2.2.1 A7 c_7,Yi a1.2.2.2.1 A8 c_8,Ym a1.2.2.2.2 A9 c_9,tabC 0] (fun v l=>∃ A_0 c_0 A_1 c_1 A_2 c_2 A_3 c_3 A_4 c_4,v=.tuple #[.int .u32 r.1,.int .i64 r.2.1]∧l=V5 r.2.2 b1 b2 b3 b4 b5 b6 b7 A_0 A_1 A_2 A_3 A_4 c_0 c_1 c_2 c_3 c_4):=by
 refine Zi Tryz.func39 fun w0 F0 h0=>?_
 replace h0:=nf h0
 unfold Q91.f at H
 refine T8 (T6 ?_)
 refine rB (Z9 h0) fun b8 w1 h1=>?_
 refine Ze [0,3] rfl ?_
 refine T8 (T8 (T6 ?_))
 refine Zd 1 ?_
 refine cS H [1,1,1,1,1,1,1,1,1,1,1,1] h1 rfl Q93.spec Zp fun r1 w2 H h2=>?_
 refine Ze [0,3,6] rfl ?_
 refine T8 (Zb [0,3,6,14] ?_)
 refine jIf H (fun c1 H=>?_) fun c1 H=>?_
 ·refine T8 (Zb [4,5] ?_)
  cases H
  exact T7 (jR ⟨_,_,_,_,_,_,_,_,_,_,rfl,rfl⟩ h2 [0,0,0,0,0,0,0,0,0,0,0,0])
 refine T9 (T8 (jH h2 fun h3=>?_))
 refine Zo [0,1,2] ?_
 refine Zf 3 rfl (Za 0 wI) ?_
 refine Zf 4 rfl (Za 12 wI) ?_
 refine cEJ 5 rfl H [] h3 rfl Q39.spec (gS [13,14,15,16]) ?_
 rintro r2 w3 _ _ H ⟨A10,c_10,rfl,rfl⟩ h4
 replace h4:=nf h4
 refine ⟨⟨[_],h4⟩,?_⟩
 refine Zo [6,7,8,9,10] ?_
 refine Zw [0,7,8] ?_
 refine T8 (T8 (Zb [0,7,8,26] ?_))
 refine jIf H (fun c2 H=>?_) fun c2 H=>?_
 ·refine T8 (Zb [4,5] ?_)
  have h5:=sO h4 [1,1,1,1,1,1,1,1,1,1,1,1]
  replace h5:=nf h5
  cases H
  exact T7 (jR ⟨_,_,_,_,_,_,_,_,_,_,rfl,rfl⟩ h5 [0,0,0,0,0,0,0,0,0,0,0,0])
 refine T9 (T8 (T6 ?_))
 refine Zd 3 ?_
 refine Zc (Za 1 h4.wht) ?_
 refine cE H [10,10,10] h4 rfl Q83.spec (gS [15]) ?_
 rintro r3 w4 _ _ H ⟨A11,c_11,rfl,rfl⟩ h6
 replace h6:=nf h6
 refine Ze [0,7,8,9] rfl ?_
 refine T8 (T8 (Zb [0,7,8,9,37] ?_))
 refine jIf H (fun c3 H=>?_) fun c3 H=>?_
 ·refine T8 (Zb [4,5] ?_)
  have h7:=sO h6 [0,0,0,1,1,1,1,1,1,1,1,1]
  replace h7:=nf h7
  cases H
  exact T7 (jR ⟨_,_,_,_,_,_,_,_,_,_,rfl,rfl⟩ h7 [3,3,3,3,3,3,3,3,3,0,0,0])
 refine T9 (T8 (T8 (T6 ?_)))
 refine Zd 3 ?_
 refine cE H [4,4,4,4,4,4,4,4,4,0,0,0] h6 rfl Q92.spec (Y5 (gO 0) Zp) ?_
 rintro r4 w5 _ _ H ⟨A12,c_12,A13,c_13,A14,c_14,A15,c_15,A16,c_16,rfl,rfl⟩ h8
 replace h8:=nf h8
 refine Ze [0,9,10] rfl ?_
 have h9:=sO h8 [0,0,0,0,0,0,0,0,0,0,0,0]
 replace h9:=nf h9
 refine T8 (Zb [0,9,10,44] ?_)
 refine jIf H (fun c4 H=>?_) fun c4 H=>?_
 ·refine T8 (T6 ?_)
  refine Zd 3 ?_
  refine Zc (Za 0 h9.wht) ?_
  refine Zd 1 ?_
  refine cE H [9,9,9] h9 rfl Q81.spec Zp ?_
  rintro r5 w6 _ _ H ⟨A17,c_17,rfl,rfl⟩ h10
  replace h10:=nf h10
  refine Ze [10] rfl ?_
  refine T8 (Zb [4,5] ?_)
  cases H
  exact T7 (jR ⟨_,_,_,_,_,_,_,_,_,_,rfl,rfl⟩ h10 [3,3,3,3,3,3,3,3,3,0,0,0])
 refine T9 (T8 (Zb [4,5] ?_))
 cases H
 exact T7 (jR ⟨_,_,_,_,_,_,_,_,_,_,rfl,rfl⟩ h9 [0,0,0,0,0,0,0,0,0,0,0,0])

mutual
def Q132.l0:Nat→Tl→Tq→TE→TD→TH→Tx→TO→TX→Int→TX→Int→Option Tf
 | 0,_,_,_,_,_,_,_,_,_,_,_=>none
 | k+1,a1,x1,x2,x3,x4,x5,x6,x7,x8,x9,x10=>if (decide (x10<(a1.length:Int)))=true then (Q132.l1 k a1 x9 x10 x1 x2 x3 x4 x5 x6 x7 x8 ([]:List Int) 0) else (if 0<(x9.length:Int) then (some ((gt x9 0),true,(x1,(x2,x5,x6,x7,x3),x4,x8))) else none)
def Q132.l1:Nat→Tl→TX→Int→Tq→TE→TD→TH→Tx→TO→TX→Int→TX→Int→Option Tf
 | 0,_,_,_,_,_,_,_,_,_,_,_,_,_=>none
 | k+1,a1,x9,x10,x11,x12,x13,x14,x15,x16,x17,x18,x19,x20=>if 0≤x10∧x10<(a1.length:Int) then (if (decide (x20<((gt a1 x10).length:Int)))=true then (if 0≤x20∧x20<((gt a1 x10).length:Int) then (Q132.l3 k a1 x9 x10 x11 x12 x13 x14 x15 x16 x17 x18 x19 x20 ([]:List Int) 0) else none) else (Q132.l0 k a1 x11 x12 x13 x14 x15 x16 x17 x18 x19 (w64 (x10+1)))) else none
def Q132.l2:Nat→Tl→TX→Int→Tq→TE→TD→TH→Tx→TO→TX→Int→TX→Int→TX→Int→Bool→Option Tf
 | 0,_,_,_,_,_,_,_,_,_,_,_,_,_,_,_,_=>none
 | k+1,a1,x9,x10,x11,x12,x13,x14,x15,x16,x17,x18,x19,x20,x21,x22,x23=>(Q91.f k (x11,(x12,x15,x16,x17,x13),x14,x18) ((gt (gt a1 x10) x20).1,x21,(gt (gt a1 x10) x20).2.2.1,(gt (gt a1 x10) x20).2.2.2.1,(gt (gt a1 x10) x20).2.2.2.2)).bind fun r1=>(if (!decide (r1.2.1=0))=true then (some (0,false,r1.2.2)) else (if (x19.length+([r1.1]:List Int).length)*4≤140737488355328 then (Q132.l1 k a1 x9 x10 r1.2.2.1 r1.2.2.2.1.1 r1.2.2.2.1.2.2.2.2 r1.2.2.2.2.1 r1.2.2.2.1.2.1 r1.2.2.2.1.2.2.1 r1.2.2.2.1.2.2.2.1 r1.2.2.2.2.2 (x19 ++ ([r1.1]:List Int)) (w64 (x20+1))) else none))
def Q132.l3:Nat→Tl→TX→Int→Tq→TE→TD→TH→Tx→TO→TX→Int→TX→Int→TX→Int→Option Tf
 | 0,_,_,_,_,_,_,_,_,_,_,_,_,_,_,_=>none
 | k+1,a1,x9,x10,x11,x12,x13,x14,x15,x16,x17,x18,x19,x20,x24,x25=>if (decide (x25<(((gt (gt a1 x10) x20).2.1).length:Int)))=true then (if 0≤x25∧x25<(((gt (gt a1 x10) x20).2.1).length:Int) then (if 0≤(IntKind.u32.wrap ((gt ((gt (gt a1 x10) x20).2.1) x25) - 1))∧(IntKind.u32.wrap ((gt ((gt (gt a1 x10) x20).2.1) x25) - 1))<(x9.length:Int) then (if (x24.length+([(gt x9 (IntKind.u32.wrap ((gt ((gt (gt a1 x10) x20).2.1) x25) - 1)))]:List Int).length)*4≤140737488355328 then (Q132.l3 k a1 x9 x10 x11 x12 x13 x14 x15 x16 x17 x18 x19 x20 (x24 ++ ([(gt x9 (IntKind.u32.wrap ((gt ((gt (gt a1 x10) x20).2.1) x25) - 1)))]:List Int)) (w64 (x25+1))) else none) else none) else none) else (Q132.l2 k a1 x9 x10 x11 x12 x13 x14 x15 x16 x17 x18 x19 x20 x24 x25 (decide (x25<(((gt (gt a1 x10) x20).2.1).length:Int))))
end
def Q132.f (k:Nat) (a0:Tg) (a1:Tl):Option Tf:=Q132.l0 k a1 a0.1 a0.2.1.1 a0.2.1.2.2.2.2 a0.2.2.1 a0.2.1.2.1 a0.2.1.2.2.1 a0.2.1.2.2.2.1 a0.2.2.2 ([]:List Int) 0
theorem Q132.spec {k a0 a1 A6 c_6 b1 b2 b3 b4 b5 b6 b7 A1 c_1 A2 c_2 A3 c_3 A4 c_4 A5 c_5 r} (H:Q132.f k a0 a1=some r) :
  Spec Tryz.prog 97 [.pointer (some ⟨b1,0,none⟩),.slice A6 a1.length c_6] (V5 a0 b1 b2 b3 b4 b5 b6 b7 A1 A2 A3 A4 A5 c_1 c_2 c_3 c_4 c_5) [Zbo a1 A6 c_6,tabC 0] (fun v l=>∃ A_0 c_0 A_1 c_1 A_2 c_2 A_3 c_3 A_4 c_4,v=.tuple #[.int .u32 r.1,.bool r.2.1]∧l=V5 r.2.2 b1 b2 b3 b4 b5 b6 b7 A_0 A_1 A_2 A_3 A_4 c_0 c_1 c_2 c_3 c_4):=by
 refine Zi Tryz.func97 fun w0 F0 h0=>?_
 replace h0:=nf h0
 unfold Q132.f at H
 refine T8 (Zb [0,1] ?_)
 refine T8 (T6 ?_)
 refine rB (Z1 (.int .u32) ([]:List Int) h0) fun b8 w1 h1=>?_
 refine Ze [0,1,6] rfl ?_
 refine T8 (T8 (Zb [0,1,6,7] ?_))
 refine T0 ?_
 have h30:=(sOR h1 [1,2,1,3,4,5,5,1,1,1,1,1,0] [0,1])
 refine T4 (fun kk env w=>∃ x1 x2 x3 x4 A7 c_7 x5 A8 c_8 x6 x7 A9 c_9 A10 c_10 A11 c_11 x8 x9 A12 c_12 x10,Q132.l0 kk a1 x1 x2 x3 x4 x5 x6 x7 x8 x9 x10=some r∧env=[(0,.pointer (some ⟨b1,0,none⟩)),(1,.slice A6 a1.length c_6),(6,.slice A12 x9.length c_12),(7,.int .i64 x10)]∧St w0 F0 [X83 b1 x1.1 x1.2.1 x1.2.2.1 x1.2.2.2.1 x1.2.2.2.2.1 x1.2.2.2.2.2.1 x1.2.2.2.2.2.2.1 x1.2.2.2.2.2.2.2 (.pointer (some ⟨b3,0,none⟩)) (.pointer (some ⟨b2,0,none⟩)) (.pointer (some ⟨b6,0,none⟩)) x8,Xi b3 x2.1 x2.2.1 A7 c_7 x2.2.2.1 x2.2.2.2,Xp b2 (.pointer (some ⟨b3,0,none⟩)) x5 A8 c_8 (.map (some b4)) x7 A9 c_9 (.pointer (some ⟨b5,0,none⟩)),Xa .u32 (Value.int .i64) b4 x6,Y0 b5 x3.1 A10 c_10 x3.2,Vl b6 (.pointer (some ⟨b7,0,none⟩)),Xy b7 x4.1 x4.2.1 x4.2.2 A11 c_11,O5 x2.2.1 A7 c_7,Xq x5 A8 c_8,O3 x7 A9 c_9,Y2 x3.1 A10 c_10,O61 x4.2.2 A11 c_11,O33 x9 A12 c_12] [Zbo a1 A6 c_6,tabC 0] w) (k:=k) ⟨_,_,_,_,_,_,_,_,_,_,_,_,_,_,_,_,_,_,_,_,_,_,H,rfl,h30⟩ ?_
 rintro k1 env w2 ⟨x1,x2,x3,x4,A7,c_7,x5,A8,c_8,x6,x7,A9,c_9,A10,c_10,A11,c_11,x8,x9,A12,c_12,x10,H,rfl,h2⟩
 rcases k1 with _ | k1
 ·exact z0 H
 rw [Q132.l0] at H
 refine T8 (T8 (Zb [0,1,6,7,19] ?_))
 refine jIf H (fun c1 H=>?_) fun c1 H=>?_
 ·refine T9 (T8 (T0 (T8 (T6 ?_))))
  refine rB (Z1 (.int .u32) ([]:List Int) h2) fun b9 w3 h3=>?_
  refine Ze [0,1,6,7,8] rfl ?_
  refine T8 (T8 (Zb [0,1,6,7,8,9] ?_))
  refine T0 ?_
  have h29:=(sOR h3 [1,1,1,1,1,1,1,1,1,1,1,1,1,0] [0,1])
  refine T4 (fun kk env w=>∃ x11 x12 x13 x14 A13 c_13 x15 A14 c_14 x16 x17 A15 c_15 A16 c_16 A17 c_17 x18 x19 A18 c_18 x20,Q132.l1 kk a1 x9 x10 x11 x12 x13 x14 x15 x16 x17 x18 x19 x20=some r∧env=[(0,.pointer (some ⟨b1,0,none⟩)),(1,.slice A6 a1.length c_6),(6,.slice A12 x9.length c_12),(7,.int .i64 x10),(8,.slice A18 x19.length c_18),(9,.int .i64 x20)]∧St w0 F0 [X83 b1 x11.1 x11.2.1 x11.2.2.1 x11.2.2.2.1 x11.2.2.2.2.1 x11.2.2.2.2.2.1 x11.2.2.2.2.2.2.1 x11.2.2.2.2.2.2.2 (.pointer (some ⟨b3,0,none⟩)) (.pointer (some ⟨b2,0,none⟩)) (.pointer (some ⟨b6,0,none⟩)) x18,Xi b3 x12.1 x12.2.1 A13 c_13 x12.2.2.1 x12.2.2.2,Xp b2 (.pointer (some ⟨b3,0,none⟩)) x15 A14 c_14 (.map (some b4)) x17 A15 c_15 (.pointer (some ⟨b5,0,none⟩)),Xa .u32 (Value.int .i64) b4 x16,Y0 b5 x13.1 A16 c_16 x13.2,Vl b6 (.pointer (some ⟨b7,0,none⟩)),Xy b7 x14.1 x14.2.1 x14.2.2 A17 c_17,O5 x12.2.1 A13 c_13,Xq x15 A14 c_14,O3 x17 A15 c_15,Y2 x13.1 A16 c_16,O61 x14.2.2 A17 c_17,O33 x9 A12 c_12,O33 x19 A18 c_18] [Zbo a1 A6 c_6,tabC 0] w∧kk≤k1) (k:=k1) ⟨_,_,_,_,_,_,_,_,_,_,_,_,_,_,_,_,_,_,_,_,_,_,H,rfl,h29,Sa _⟩ ?_
  rintro k2 env w4 ⟨x11,x12,x13,x14,A13,c_13,x15,A14,c_14,x16,x17,A15,c_15,A16,c_16,A17,c_17,x18,x19,A18,c_18,x20,H,rfl,h4,hk2⟩
  rcases k2 with _ | k2
  ·exact z0 H
  rw [Q132.l1] at H
  refine T8 (T8 (T6 ?_))
  refine Zd 3 ?_
  obtain ⟨⟨p1,p2⟩,H⟩:=Zk H
  have e1:=Z0 h4.wh (Zj 14) p1 p2
  refine Zc (Zg e1 p1 p2) ?_
  obtain ⟨cs1,h5⟩:=h4.elem 0 rfl p1 p2
  obtain ⟨A19,c_19,rfl⟩:=Xo 0 h5
  refine Zc (Uy 0 h5.wht (Zj 15)) ?_
  refine Ze [0,1,6,7,8,9,29] rfl ?_
  refine jIf H (fun c2 H=>?_) fun c2 H=>?_
  ·refine T9 (T8 (T0 (T8 (T6 ?_))))
   refine Zd 2 ?_
   refine Zc (Zg e1 p1 p2) ?_
   refine Zc (Uy 0 h5.wht (Zj 15)) ?_
   refine Zd 1 ?_
   obtain ⟨⟨p3,p4⟩,H⟩:=Zk H
   have e2:=Z0 h5.wh (Zj 14) p3 p4
   refine Zc (Zg e2 p3 p4) ?_
   obtain ⟨cs2,h6⟩:=h5.elem 0 rfl p3 p4
   obtain ⟨cs3,cs4,rfl,h7⟩:=Wc 0 h6
   obtain ⟨cs5,cs6,rfl,h8⟩:=Wc 1 h7
   obtain ⟨cs7,cs8,rfl,h9⟩:=Wc 1 h8
   obtain ⟨cs9,cs10,rfl,h10⟩:=Wc 1 h9
   obtain rfl:=Bh (.int .i64) 6 h10
   obtain ⟨A20,c_20,rfl⟩:=Xo 4 h10
   obtain ⟨A21,c_21,rfl⟩:=Xo 2 h10
   obtain ⟨A22,c_22,rfl⟩:=Xo 0 h10
   obtain ⟨A23,c_23,rfl⟩:=Xo 1 h10
   refine Zc (Uy 0 h10.wht (Zj 23)) ?_
   refine rB (Yt h10) fun b10 w5 h11=>?_
   refine rS (Zt 0 h11) fun _ w6 h12=>?_
   refine Ze [0,1,6,7,8,9,10] rfl ?_
   refine T8 (T6 ?_)
   refine rB (Z1 (.int .u32) ([]:List Int) h12) fun b11 w7 h13=>?_
   refine Ze [0,1,6,7,8,9,10,11] rfl ?_
   refine T8 (T8 (Zb [0,1,6,7,8,9,10,11,12] ?_))
   refine T5 (fun env w=>∃ k3 x21 A24 c_24 x22 x23,Q132.l2 k3 a1 x9 x10 x11 x12 x13 x14 x15 x16 x17 x18 x19 x20 x21 x22 x23=some r∧env=[(0,.pointer (some ⟨b1,0,none⟩)),(1,.slice A6 a1.length c_6),(6,.slice A12 x9.length c_12),(7,.int .i64 x10),(8,.slice A18 x19.length c_18),(9,.int .i64 x20),(10,.pointer (some ⟨b10,0,none⟩)),(11,.slice A24 x21.length c_24),(12,.int .i64 x22),(44,.bool x23)]∧St w0 F0 [X83 b1 x11.1 x11.2.1 x11.2.2.1 x11.2.2.2.1 x11.2.2.2.2.1 x11.2.2.2.2.2.1 x11.2.2.2.2.2.2.1 x11.2.2.2.2.2.2.2 (.pointer (some ⟨b3,0,none⟩)) (.pointer (some ⟨b2,0,none⟩)) (.pointer (some ⟨b6,0,none⟩)) x18,Xi b3 x12.1 x12.2.1 A13 c_13 x12.2.2.1 x12.2.2.2,Xp b2 (.pointer (some ⟨b3,0,none⟩)) x15 A14 c_14 (.map (some b4)) x17 A15 c_15 (.pointer (some ⟨b5,0,none⟩)),Xa .u32 (Value.int .i64) b4 x16,Y0 b5 x13.1 A16 c_16 x13.2,Vl b6 (.pointer (some ⟨b7,0,none⟩)),Xy b7 x14.1 x14.2.1 x14.2.2 A17 c_17,X43 b10 ((gt (gt a1 x10) x20).1) ((gt (gt a1 x10) x20).2.1) A20 c_20 ((gt (gt a1 x10) x20).2.2.1) A21 c_21 ((gt (gt a1 x10) x20).2.2.2.1) A22 c_22 ((gt (gt a1 x10) x20).2.2.2.2) A23 c_23,O5 x12.2.1 A13 c_13,Xq x15 A14 c_14,O3 x17 A15 c_15,Y2 x13.1 A16 c_16,O61 x14.2.2 A17 c_17,O33 x9 A12 c_12,O33 x19 A18 c_18,O33 x21 A24 c_24] [Zbo a1 A6 c_6,R33 ((gt (gt a1 x10) x20).2.1) A20 c_20,R9 ((gt (gt a1 x10) x20).2.2.1) A21 c_21,Yi ((gt (gt a1 x10) x20).2.2.2.1) A22 c_22,Ym ((gt (gt a1 x10) x20).2.2.2.2) A23 c_23,tabC 0] w∧k3≤k2) ?_ ?_
   ·refine T0 ?_
    have h27:=(sOR h13 [2,2,2,2,2,2,2,1,1,1,1,1,1,1,1,0] [12,4,2,0,1,13])
    refine T4 (fun kk env w=>∃ x24 A31 c_31 x25,Q132.l3 kk a1 x9 x10 x11 x12 x13 x14 x15 x16 x17 x18 x19 x20 x24 x25=some r∧env=[(0,.pointer (some ⟨b1,0,none⟩)),(1,.slice A6 a1.length c_6),(6,.slice A12 x9.length c_12),(7,.int .i64 x10),(8,.slice A18 x19.length c_18),(9,.int .i64 x20),(10,.pointer (some ⟨b10,0,none⟩)),(11,.slice A31 x24.length c_31),(12,.int .i64 x25)]∧St w0 F0 [X83 b1 x11.1 x11.2.1 x11.2.2.1 x11.2.2.2.1 x11.2.2.2.2.1 x11.2.2.2.2.2.1 x11.2.2.2.2.2.2.1 x11.2.2.2.2.2.2.2 (.pointer (some ⟨b3,0,none⟩)) (.pointer (some ⟨b2,0,none⟩)) (.pointer (some ⟨b6,0,none⟩)) x18,Xi b3 x12.1 x12.2.1 A13 c_13 x12.2.2.1 x12.2.2.2,Xp b2 (.pointer (some ⟨b3,0,none⟩)) x15 A14 c_14 (.map (some b4)) x17 A15 c_15 (.pointer (some ⟨b5,0,none⟩)),Xa .u32 (Value.int .i64) b4 x16,Y0 b5 x13.1 A16 c_16 x13.2,Vl b6 (.pointer (some ⟨b7,0,none⟩)),Xy b7 x14.1 x14.2.1 x14.2.2 A17 c_17,X43 b10 ((gt (gt a1 x10) x20).1) ((gt (gt a1 x10) x20).2.1) A20 c_20 ((gt (gt a1 x10) x20).2.2.1) A21 c_21 ((gt (gt a1 x10) x20).2.2.2.1) A22 c_22 ((gt (gt a1 x10) x20).2.2.2.2) A23 c_23,O5 x12.2.1 A13 c_13,Xq x15 A14 c_14,O3 x17 A15 c_15,Y2 x13.1 A16 c_16,O61 x14.2.2 A17 c_17,O33 x9 A12 c_12,O33 x19 A18 c_18,O33 x24 A31 c_31] [Zbo a1 A6 c_6,R33 ((gt (gt a1 x10) x20).2.1) A20 c_20,R9 ((gt (gt a1 x10) x20).2.2.1) A21 c_21,Yi ((gt (gt a1 x10) x20).2.2.2.1) A22 c_22,Ym ((gt (gt a1 x10) x20).2.2.2.2) A23 c_23,tabC 0] w∧kk≤k2) (k:=k2) ⟨_,_,_,_,H,rfl,h27,Sa _⟩ ?_
    rintro k4 env w14 ⟨x24,A31,c_31,x25,H,rfl,h22,hk4⟩
    rcases k4 with _ | k4
    ·exact z0 H
    rw [Q132.l3] at H
    refine T8 (T8 (T6 ?_))
    refine Zd 2 ?_
    refine Zc (Za 7 h22.wht) ?_
    refine Ze [0,1,6,7,8,9,10,11,12,44] rfl ?_
    refine jIf H (fun c4 H=>?_) fun c4 H=>?_
    ·refine T9 (T8 (T0 (T6 ?_)))
     refine Zd 3 ?_
     refine Zc (Za 7 h22.wht) ?_
     refine Zd 1 ?_
     obtain ⟨⟨p6,p7⟩,H⟩:=Zk H
     have e3:=Z0 h22.wh (Zj 17) p6 p7
     refine Zc (Zg e3 p6 p7) ?_
     refine Zc (Zh 0 h22.wht (Zj 17) p6 p7) ?_
     refine Zd 1 ?_
     obtain ⟨⟨p8,p9⟩,H⟩:=Zk H
     have e4:=Z0 h22.wh (gO 13) p8 p9
     refine Zc (Zg e4 p8 p9) ?_
     refine Zc (Zh 0 h22.wht (gO 13) p8 p9) ?_
     refine rB (Z1 (.int .u32) ([(gt x9 (IntKind.u32.wrap ((gt ((gt (gt a1 x10) x20).2.1) x25) - 1)))]:List Int) h22) fun b13 w15 h23=>?_
     obtain ⟨p10,H⟩:=Zk H
     refine Zs (Zr 16 h23 (gO 0) p10) ?_
     rintro _ w16 ⟨A32,c_32,rfl,h24⟩
     replace h24:=nf h24
     refine Ze [0,1,6,7,8,9,10,11,12] rfl ?_
     refine Zb [0,1,6,7,8,9,10,11,12] ?_
     have h25:=(sOR h24 [2,2,2,2,2,2,2,2,2,2,2,2,2,2,2,0] [0,1,2,3,4,5])
     exact ⟨k4,by omega,_,_,_,_,H,rfl,h25,by omega⟩
    refine T3 ?_
    have h26:=(sOR h22 [0,0,0,0,0,0,0,0,0,0,0,0,0,0,0,0] [0,1,2,3,4,5])
    exact ⟨k4,_,_,_,_,_,H,rfl,h26,by omega⟩
   rintro env w9 ⟨k3,x21,A24,c_24,x22,x23,H,rfl,h14,hk3⟩
   rcases k3 with _ | k3
   ·exact z0 H
   rw [Q132.l2] at H
   refine T8 (T6 ?_)
   refine Zd 2 ?_
   refine rS (Zt 7 h14) fun _ w10 h15=>?_
   refine Ze [0,1,6,7,8,9,10] rfl ?_
   refine T8 (T6 ?_)
   refine Zd 1 ?_
   refine Zc (Za 0 h15.wht) ?_
   refine cE H [1,2,1,5,5,1,4,1,3,1,1,1] h15 rfl Q91.spec (Y5 (gO 3) (gS [6,7,8,9])) ?_
   rintro r1 w11 _ _ H ⟨A25,c_25,A26,c_26,A27,c_27,A28,c_28,A29,c_29,rfl,rfl⟩ h16
   replace h16:=nf h16
   refine Ze [0,1,6,7,8,9,13,14] rfl ?_
   have h17:=sO h16 [0,0,0,0,0,0,0,0,0,0,0,0,1,1]
   replace h17:=nf h17
   refine T8 (T8 (Zb [0,1,6,7,8,9,13,68] ?_))
   refine jIf H (fun c3 H=>?_) fun c3 H=>?_
   ·refine T8 (Zb [4,5] ?_)
    have h18:=sO h17 [0,0,0,0,0,0,0,0,0,0,0,0]
    replace h18:=nf h18
    cases H
    exact T7 (jR ⟨_,_,_,_,_,_,_,_,_,_,rfl,rfl⟩ h18 [0,0,0,0,0,0,0,0,0,0,0,0])
   refine T9 (T6 (Zd 2 ?_))
   refine rB (Z1 (.int .u32) ([r1.1]:List Int) h17) fun b12 w12 h19=>?_
   obtain ⟨p5,H⟩:=Zk H
   refine Zs (Zr 14 h19 (gO 0) p5) ?_
   rintro _ w13 ⟨A30,c_30,rfl,h20⟩
   replace h20:=nf h20
   refine Ze [0,1,6,7,8,9] rfl ?_
   refine Zb [0,1,6,7,8,9] ?_
   have h21:=(sOR h20 [2,3,2,4,5,6,6,2,2,2,2,2,2,0] [0,5])
   exact ⟨k3,by omega,_,_,_,_,_,_,_,_,_,_,_,_,_,_,_,_,_,_,_,_,_,_,H,rfl,h21,by omega⟩
  refine T3 (Zb [0,1,6,7] ?_)
  refine Zb [0,1,6,7] ?_
  have h28:=(sOR h5 [0,0,0,0,0,0,0,0,0,0,0,0,1] [2,3])
  exact ⟨k2,by omega,_,_,_,_,_,_,_,_,_,_,_,_,_,_,_,_,_,_,_,_,_,_,H,rfl,h28⟩
 refine T3 (T8 (T6 ?_))
 refine Zd 1 ?_
 obtain ⟨p11,H⟩:=Zk H
 have e5:=Wl h2.wh (gO 12) p11
 refine Zc (Xr e5 p11) ?_
 refine Zc (Y7 0 h2.wht (gO 12) p11) ?_
 refine Ze [4,5] rfl ?_
 cases H
 exact T7 (jR ⟨_,_,_,_,_,_,_,_,_,_,rfl,rfl⟩ h2 [0,1,0,4,4,0,3,0,2,0,0,0])

def Q134.l2:Nat→Tq→Tp→TE→TD→TX→Int→Option Ta
 | 0,_,_,_,_,_,_=>none
 | k+1,a0,a1,r3,r8,x5,x6=>if (decide (x6<a0.2.2.1))=true then (if (x5.length+([x6]:List Int).length)*8≤140737488355328 then (Q134.l2 k a0 a1 r3 r8 (x5 ++ ([x6]:List Int)) (w64 (x6+1))) else none) else ((Q54.f r3).bind fun r9=>(if (!decide (r9=a0.1))=true then (some (none,0,([]:List Tm),false)) else ((Q55.f r3).bind fun r10=>(if (!decide (r10=a0.2.1))=true then (some (none,0,([]:List Tm),false)) else ((Q79.f a0.1).bind fun r11=>(Vb r11.1 (if (!decide (r11.2=0))=true then (some (none,0,([]:List Tm),false)) else none) (fun r12=>(if (!decide (r11.2=0))=false then ((Q133.f k a0 a1).bind fun r13=>((Q132.f k (a0,(r3,(List.replicate a0.2.2.1.toNat ((0,([]:List Int),false,0):Int×List Int×Bool×Int)),([]:List TW),x5,r8),r12,0) r13).bind fun r14=>(some ((some r14.2.2),r14.1,r13,r14.2.1)))) else none))))))))
def Q134.l1:Nat→Tq→Tp→Int→Bool→Option Ta
 | 0,_,_,_,_=>none
 | k+1,a0,a1,x3,x4=>(Q58.f a0.1 a0.2.1).bind fun r2=>(Vb r2.1 (if (!decide (r2.2=0))=true then ((Q49.f a0).bind fun r4=>(if (!decide (r4=0))=true then (some (none,0,([]:List Tm),false)) else (some (none,0,([]:List Tm),false)))) else none) (fun r3=>(if (!decide (r2.2=0))=false then ((Q49.f a0).bind fun r5=>(if (!decide (r5=0))=true then (some (none,0,([]:List Tm),false)) else ((Q54.f r3).bind fun r6=>(if (decide (r6=0))=true then (some (none,0,([]:List Tm),false)) else (if (decide (a0.2.2.1<1))=true then (some (none,0,([]:List Tm),false)) else (if (decide (64<a0.2.2.1))=true then (some (none,0,([]:List Tm),false)) else ((Q35.f a0.2.2.1).bind fun r7=>(Vb r7.1 (if (!decide (r7.2=0))=true then (some (none,0,([]:List Tm),false)) else none) (fun r8=>(if (!decide (r7.2=0))=false then (if 0≤a0.2.2.1∧a0.2.2.1*48≤281474976710656 then (Q134.l2 k a0 a1 r3 r8 ([]:List Int) 0) else none) else none)))))))))) else none)))
mutual
def Q134.l3:Nat→Tq→Tp→Int→Option Ta
 | 0,_,_,_=>none
 | k+1,a0,a1,x7=>if (decide (x7<(a1.2.1.length:Int)))=true then (Q134.l4 k a0 a1 x7 (decide (x7<100))) else (Q134.l4 k a0 a1 x7 false)
def Q134.l4:Nat→Tq→Tp→Int→Bool→Option Ta
 | 0,_,_,_,_=>none
 | k+1,a0,a1,x7,x8=>if x8=true then (if 0≤x7∧x7<(a1.2.1.length:Int) then (if (decide (200<(((gt a1.2.1 x7).1).length:Int)))=true then (some (none,0,([]:List Tm),false)) else (Q134.l3 k a0 a1 (w64 (x7+1)))) else none) else (Q134.l1 k a0 a1 x7 x8)
end
def Q134.l0:Nat→Tq→Tp→Int→Bool→Option Ta
 | 0,_,_,_,_=>none
 | k+1,a0,a1,x1,x2=>Q134.l3 k a0 a1 0
mutual
def Q134.l5:Nat→Tq→Tp→Int→Option Ta
 | 0,_,_,_=>none
 | k+1,a0,a1,x9=>if (decide (x9<(a1.1.length:Int)))=true then (Q134.l6 k a0 a1 x9 (decide (x9<150))) else (Q134.l6 k a0 a1 x9 false)
def Q134.l6:Nat→Tq→Tp→Int→Bool→Option Ta
 | 0,_,_,_,_=>none
 | k+1,a0,a1,x9,x10=>if x10=true then (if 0≤x9∧x9<(a1.1.length:Int) then (if (decide (200<(((gt a1.1 x9).1).length:Int)))=true then (some (none,0,([]:List Tm),false)) else (Q134.l5 k a0 a1 (w64 (x9+1)))) else none) else (Q134.l0 k a0 a1 x9 x10)
end
def Q134.f (k:Nat) (a0:Tq) (a1:Tp):Option Ta:=(Q131.f k a0).bind fun r1=>(if (!r1)=true then (some (none,0,([]:List Tm),false)) else (Q134.l5 k a0 a1 0))
theorem Q134.spec {k a0 a1 A1 c_1 A2 c_2 A3 c_3 A4 c_4 r} (H:Q134.f k a0 a1=some r) :
  SpecA Tryz.prog 44 [.agg #[.int .i64 a0.1,.int .i64 a0.2.1,.int .i64 a0.2.2.1,.int .i64 a0.2.2.2.1,.int .i64 a0.2.2.2.2.1,.int .i64 a0.2.2.2.2.2.1,.int .i64 a0.2.2.2.2.2.2.1,.int .i64 a0.2.2.2.2.2.2.2],.agg #[.slice A1 a1.1.length c_1,.slice A2 a1.2.1.length c_2,.slice A3 a1.2.2.1.length c_3,.slice A4 a1.2.2.2.length c_4]] [] [Ym a1.1 A1 c_1,Yi a1.2.1 A2 c_2,R5 a1.2.2.1 A3 c_3,R5 a1.2.2.2 A4 c_4,tabC 0] (fun v l lr=>∃(pv:Value) (lp:List Ch),OptC r.1 (fun d pv lp=>∃ b_0 b_1 b_2 A_3 c_3 A_4 c_4 b_5 A_6 c_6 b_7 A_8 c_8 b_9 b_10 A_11 c_11,pv=.pointer (some ⟨b_0,0,none⟩)∧lp=[X83 b_0 d.1.1 d.1.2.1 d.1.2.2.1 d.1.2.2.2.1 d.1.2.2.2.2.1 d.1.2.2.2.2.2.1 d.1.2.2.2.2.2.2.1 d.1.2.2.2.2.2.2.2 (.pointer (some ⟨b_2,0,none⟩)) (.pointer (some ⟨b_1,0,none⟩)) (.pointer (some ⟨b_9,0,none⟩)) d.2.2.2,Xp b_1 (.pointer (some ⟨b_2,0,none⟩)) d.2.1.2.1 A_4 c_4 (.map (some b_5)) d.2.1.2.2.2.1 A_6 c_6 (.pointer (some ⟨b_7,0,none⟩)),Xi b_2 d.2.1.1.1 d.2.1.1.2.1 A_3 c_3 d.2.1.1.2.2.1 d.2.1.1.2.2.2,O5 d.2.1.1.2.1 A_3 c_3,Xq d.2.1.2.1 A_4 c_4,Xa .u32 (Value.int .i64) b_5 d.2.1.2.2.1,O3 d.2.1.2.2.2.1 A_6 c_6,Y0 b_7 d.2.1.2.2.2.2.1 A_8 c_8 d.2.1.2.2.2.2.2,Y2 d.2.1.2.2.2.2.1 A_8 c_8,Vl b_9 (.pointer (some ⟨b_10,0,none⟩)),Xy b_10 d.2.2.1.1 d.2.2.1.2.1 d.2.2.1.2.2 A_11 c_11,O61 d.2.2.1.2.2 A_11 c_11]) pv lp∧∃ A_0 c_0,v=.tuple #[pv,.int .u32 r.2.1,.slice A_0 r.2.2.1.length c_0,.bool r.2.2.2]∧l=lp ++ []∧lr=[Zbo r.2.2.1 A_0 c_0]):=by
 refine Yp Tryz.func44 fun w0 F0 h0=>?_
 unfold Q134.f at H
 refine T8 (T6 ?_)
 refine rB (Z9 h0) fun b1 w1 h1=>?_
 refine rB (Z9 h1) fun b2 w2 h2=>?_
 refine Ze [2,3] rfl ?_
 refine T8 (T8 (T6 ?_))
 refine Zc (Za 1 h2.wht) ?_
 refine cS H [] h2 rfl Q131.spec Zp fun r1 w3 H h3=>?_
 refine Ze [2,3,17] rfl ?_
 refine jIf H (fun c1 H=>?_) fun c1 H=>?_
 ·refine T8 (Zb [4,5,6,7] ?_)
  have h4:=sO h3 []
  replace h4:=nf h4
  have h5:=h4.addNil 112 (.slice 43 (.pair (.int .i64) (.pair (.slice 33 (.int .u32)) (.pair (.slice 9 .str) (.pair (.slice 115 (.pair .str (.pair .bool .str))) (.slice 106 (.pair .str .str)))))))
  have h6:=h5.freeze (k:=0) rfl Yc
  cases H
  exact T7 (jRA ⟨_,_,Sc,_,_,rfl,rfl,rfl⟩ (sOR h6 [] [0]))
 refine T9 (T8 (T8 (Zb [2,3,8] ?_)))
 refine T5 (fun env w=>∃ k1 x1 x2,Q134.l0 k1 a0 a1 x1 x2=some r∧env=[(2,.pointer (some ⟨b1,0,none⟩)),(3,.pointer (some ⟨b2,0,none⟩)),(8,.int .i64 x1),(26,.bool x2)]∧St w0 F0 [X23 b1 a0.1 a0.2.1 a0.2.2.1 a0.2.2.2.1 a0.2.2.2.2.1 a0.2.2.2.2.2.1 a0.2.2.2.2.2.2.1 a0.2.2.2.2.2.2.2,X90 b2 a1.1 A1 c_1 a1.2.1 A2 c_2 a1.2.2.1 A3 c_3 a1.2.2.2 A4 c_4] [Ym a1.1 A1 c_1,Yi a1.2.1 A2 c_2,R5 a1.2.2.1 A3 c_3,R5 a1.2.2.2 A4 c_4,tabC 0] w∧k1≤k) ?_ ?_
 ·refine T0 ?_
  have h95:=(sOR h3 [1,0] [0,1,2,3,4])
  refine T4 (fun kk env w=>∃ x9,Q134.l5 kk a0 a1 x9=some r∧env=[(2,.pointer (some ⟨b1,0,none⟩)),(3,.pointer (some ⟨b2,0,none⟩)),(8,.int .i64 x9)]∧St w0 F0 [X23 b1 a0.1 a0.2.1 a0.2.2.1 a0.2.2.2.1 a0.2.2.2.2.1 a0.2.2.2.2.2.1 a0.2.2.2.2.2.2.1 a0.2.2.2.2.2.2.2,X90 b2 a1.1 A1 c_1 a1.2.1 A2 c_2 a1.2.2.1 A3 c_3 a1.2.2.2 A4 c_4] [Ym a1.1 A1 c_1,Yi a1.2.1 A2 c_2,R5 a1.2.2.1 A3 c_3,R5 a1.2.2.2 A4 c_4,tabC 0] w∧kk≤k) (k:=k) ⟨_,H,rfl,h95,Sa _⟩ ?_
  rintro k6 env w32 ⟨x9,H,rfl,h86,hk6⟩
  rcases k6 with _ | k6
  ·exact z0 H
  rw [Q134.l5] at H
  refine T8 (T8 ?_)
  refine T5 (fun env w=>∃ k7 x10,Q134.l6 k7 a0 a1 x9 x10=some r∧env=[(2,.pointer (some ⟨b1,0,none⟩)),(3,.pointer (some ⟨b2,0,none⟩)),(8,.int .i64 x9),(26,.bool x10)]∧St w0 F0 [X23 b1 a0.1 a0.2.1 a0.2.2.1 a0.2.2.2.1 a0.2.2.2.2.1 a0.2.2.2.2.2.1 a0.2.2.2.2.2.2.1 a0.2.2.2.2.2.2.2,X90 b2 a1.1 A1 c_1 a1.2.1 A2 c_2 a1.2.2.1 A3 c_3 a1.2.2.2 A4 c_4] [Ym a1.1 A1 c_1,Yi a1.2.1 A2 c_2,R5 a1.2.2.1 A3 c_3,R5 a1.2.2.2 A4 c_4,tabC 0] w∧k7≤k6) ?_ ?_
  ·refine T6 (Zd 2 ?_)
   refine Zc (Za 1 h86.wht) ?_
   refine Zd 3 ?_
   refine Yb 23 H (fun c21 H=>?_) fun c21 H=>?_
   ·refine Ze [2,3,8,26] rfl ?_
    have h93:=(sOR h86 [0,0] [0,1,2,3,4])
    exact ⟨k6,_,H,rfl,h93,Sa _⟩
   refine Ze [2,3,8,26] rfl ?_
   have h94:=(sOR h86 [0,0] [0,1,2,3,4])
   exact ⟨k6,_,H,rfl,h94,Sa _⟩
  rintro env w34 ⟨k7,x10,H,rfl,h87,hk7⟩
  rcases k7 with _ | k7
  ·exact z0 H
  rw [Q134.l6] at H
  refine jIf H (fun c19 H=>?_) fun c19 H=>?_
  ·refine T9 (T8 (T0 (T8 (T6 ?_))))
   refine Zd 1 ?_
   refine Zc (Za 1 h87.wht) ?_
   refine Zd 1 ?_
   obtain ⟨⟨p6,p7⟩,H⟩:=Zk H
   have e2:=Z0 h87.wh (Zj 2) p6 p7
   refine Zc (Zg e2 p6 p7) ?_
   refine Zd 1 ?_
   refine Zc (Zh 0 h87.wht (Zj 2) p6 p7) ?_
   refine Ze [2,3,8,36] rfl ?_
   refine jIf H (fun c20 H=>?_) fun c20 H=>?_
   ·refine T8 (Zb [4,5,6,7] ?_)
    have h88:=sO h87 []
    replace h88:=nf h88
    have h89:=h88.addNil 112 (.slice 43 (.pair (.int .i64) (.pair (.slice 33 (.int .u32)) (.pair (.slice 9 .str) (.pair (.slice 115 (.pair .str (.pair .bool .str))) (.slice 106 (.pair .str .str)))))))
    have h90:=h89.freeze (k:=0) rfl Yc
    cases H
    exact T7 (jRA ⟨_,_,Sc,_,_,rfl,rfl,rfl⟩ (sOR h90 [] [0]))
   refine T9 (Zb [2,3,8] ?_)
   have h91:=(sOR h87 [0,0] [0,1,2,3,4])
   exact ⟨k7,by omega,_,H,rfl,h91,by omega⟩
  refine T3 ?_
  have h92:=(sOR h87 [0,0] [0,1,2,3,4])
  exact ⟨k7,_,_,H,rfl,h92,by omega⟩
 rintro env w5 ⟨k1,x1,x2,H,rfl,h7,hk1⟩
 rcases k1 with _ | k1
 ·exact z0 H
 rw [Q134.l0] at H
 refine T8 (T8 (Zb [2,3,9] ?_))
 refine T5 (fun env w=>∃ k2 x3 x4,Q134.l1 k2 a0 a1 x3 x4=some r∧env=[(2,.pointer (some ⟨b1,0,none⟩)),(3,.pointer (some ⟨b2,0,none⟩)),(9,.int .i64 x3),(45,.bool x4)]∧St w0 F0 [X23 b1 a0.1 a0.2.1 a0.2.2.1 a0.2.2.2.1 a0.2.2.2.2.1 a0.2.2.2.2.2.1 a0.2.2.2.2.2.2.1 a0.2.2.2.2.2.2.2,X90 b2 a1.1 A1 c_1 a1.2.1 A2 c_2 a1.2.2.1 A3 c_3 a1.2.2.2 A4 c_4] [Ym a1.1 A1 c_1,Yi a1.2.1 A2 c_2,R5 a1.2.2.1 A3 c_3,R5 a1.2.2.2 A4 c_4,tabC 0] w∧k2≤k1) ?_ ?_
 ·refine T0 ?_
  have h85:=(sOR h7 [0,0] [0,1,2,3,4])
  refine T4 (fun kk env w=>∃ x7,Q134.l3 kk a0 a1 x7=some r∧env=[(2,.pointer (some ⟨b1,0,none⟩)),(3,.pointer (some ⟨b2,0,none⟩)),(9,.int .i64 x7)]∧St w0 F0 [X23 b1 a0.1 a0.2.1 a0.2.2.1 a0.2.2.2.1 a0.2.2.2.2.1 a0.2.2.2.2.2.1 a0.2.2.2.2.2.2.1 a0.2.2.2.2.2.2.2,X90 b2 a1.1 A1 c_1 a1.2.1 A2 c_2 a1.2.2.1 A3 c_3 a1.2.2.2 A4 c_4] [Ym a1.1 A1 c_1,Yi a1.2.1 A2 c_2,R5 a1.2.2.1 A3 c_3,R5 a1.2.2.2 A4 c_4,tabC 0] w∧kk≤k1) (k:=k1) ⟨_,H,rfl,h85,Sa _⟩ ?_
  rintro k4 env w29 ⟨x7,H,rfl,h76,hk4⟩
  rcases k4 with _ | k4
  ·exact z0 H
  rw [Q134.l3] at H
  refine T8 (T8 ?_)
  refine T5 (fun env w=>∃ k5 x8,Q134.l4 k5 a0 a1 x7 x8=some r∧env=[(2,.pointer (some ⟨b1,0,none⟩)),(3,.pointer (some ⟨b2,0,none⟩)),(9,.int .i64 x7),(45,.bool x8)]∧St w0 F0 [X23 b1 a0.1 a0.2.1 a0.2.2.1 a0.2.2.2.1 a0.2.2.2.2.1 a0.2.2.2.2.2.1 a0.2.2.2.2.2.2.1 a0.2.2.2.2.2.2.2,X90 b2 a1.1 A1 c_1 a1.2.1 A2 c_2 a1.2.2.1 A3 c_3 a1.2.2.2 A4 c_4] [Ym a1.1 A1 c_1,Yi a1.2.1 A2 c_2,R5 a1.2.2.1 A3 c_3,R5 a1.2.2.2 A4 c_4,tabC 0] w∧k5≤k4) ?_ ?_
  ·refine T6 (Zd 2 ?_)
   refine Zc (Za 1 h76.wht) ?_
   refine Zd 3 ?_
   refine Yb 42 H (fun c18 H=>?_) fun c18 H=>?_
   ·refine Ze [2,3,9,45] rfl ?_
    have h83:=(sOR h76 [0,0] [0,1,2,3,4])
    exact ⟨k4,_,H,rfl,h83,Sa _⟩
   refine Ze [2,3,9,45] rfl ?_
   have h84:=(sOR h76 [0,0] [0,1,2,3,4])
   exact ⟨k4,_,H,rfl,h84,Sa _⟩
  rintro env w31 ⟨k5,x8,H,rfl,h77,hk5⟩
  rcases k5 with _ | k5
  ·exact z0 H
  rw [Q134.l4] at H
  refine jIf H (fun c16 H=>?_) fun c16 H=>?_
  ·refine T9 (T8 (T0 (T8 (T6 ?_))))
   refine Zd 1 ?_
   refine Zc (Za 1 h77.wht) ?_
   refine Zd 1 ?_
   obtain ⟨⟨p4,p5⟩,H⟩:=Zk H
   have e1:=Z0 h77.wh (Zj 3) p4 p5
   refine Zc (Zg e1 p4 p5) ?_
   refine Zd 1 ?_
   refine Zc (Zh 0 h77.wht (Zj 3) p4 p5) ?_
   refine Ze [2,3,9,55] rfl ?_
   refine jIf H (fun c17 H=>?_) fun c17 H=>?_
   ·refine T8 (Zb [4,5,6,7] ?_)
    have h78:=sO h77 []
    replace h78:=nf h78
    have h79:=h78.addNil 112 (.slice 43 (.pair (.int .i64) (.pair (.slice 33 (.int .u32)) (.pair (.slice 9 .str) (.pair (.slice 115 (.pair .str (.pair .bool .str))) (.slice 106 (.pair .str .str)))))))
    have h80:=h79.freeze (k:=0) rfl Yc
    cases H
    exact T7 (jRA ⟨_,_,Sc,_,_,rfl,rfl,rfl⟩ (sOR h80 [] [0]))
   refine T9 (Zb [2,3,9] ?_)
   have h81:=(sOR h77 [0,0] [0,1,2,3,4])
   exact ⟨k5,by omega,_,H,rfl,h81,by omega⟩
  refine T3 ?_
  have h82:=(sOR h77 [0,0] [0,1,2,3,4])
  exact ⟨k5,_,_,H,rfl,h82,by omega⟩
 rintro env w7 ⟨k2,x3,x4,H,rfl,h8,hk2⟩
 rcases k2 with _ | k2
 ·exact z0 H
 rw [Q134.l1] at H
 refine T8 (T6 ?_)
 refine Zc (Za 0 h8.wht) ?_
 refine Ye Tryz.func14 ?_
 refine T8 (T6 ?_)
 refine rB (Z9 h8) fun b3 w8 h9=>?_
 refine Ze [1] rfl ?_
 refine T8 (T6 ?_)
 refine Zd 1 ?_
 refine Zc (Za 0 h9.wht) ?_
 refine Zd 1 ?_
 refine Zc (Za 0 h9.wht) ?_
 refine cE H [] h9 rfl Q58.spec Zp ?_
 rintro r2 w9 _ _ H ⟨v1,l1,ho1,rfl,rfl⟩ h10
 rcases ho2:r2.1 with _ | r3
 ·rw [ho2] at ho1
  obtain ⟨rfl,rfl⟩:=ho1
  replace H:=Vz ho2 H
  obtain ⟨c2,H⟩:=Zk H
  replace h10:=nf h10
  refine Ze [1,4,5] rfl ?_
  refine T8 (T6 ?_)
  refine Zc (Za 0 h10.wht) ?_
  refine Zd 1 ?_
  refine Ye Tryz.func35 ?_
  refine T8 (T6 ?_)
  refine rB (Z9 h10) fun b4 w10 h11=>?_
  refine Ze [1,2] rfl ?_
  refine T8 (T8 (T6 ?_))
  refine Zc (Za 0 h11.wht) ?_
  refine cS H [] h11 rfl Q49.spec Zp fun r4 w11 H h12=>?_
  refine Ze [1,2,6] rfl ?_
  refine T8 (Zb [1,2,6,13] ?_)
  refine jIf H (fun c4 H=>?_) fun c4 H=>?_
  ·refine T8 (Zb [4,5] ?_)
   refine T7 (⟨_,Zl,?_⟩)
   refine Ze [4,5,6,7] rfl ?_
   refine T8 (T8 (T6 ?_))
   refine Zd 3 ?_
   refine Yh 24 (congrArg Value.bool c2) ?_
   refine Ze [4,6,27] rfl ?_
   refine Zn ?_
   refine T8 (Zb [2,3] ?_)
   refine T7 (⟨_,Zl,?_⟩)
   refine Ze [2,3,10] rfl ?_
   have h13:=sO h12 [2,2]
   replace h13:=nf h13
   refine T8 (T8 (Zb [2,3,10,62] ?_))
   refine Zn ?_
   refine T8 (Zb [4,5,6,7] ?_)
   have h14:=sO h13 []
   replace h14:=nf h14
   have h15:=h14.addNil 112 (.slice 43 (.pair (.int .i64) (.pair (.slice 33 (.int .u32)) (.pair (.slice 9 .str) (.pair (.slice 115 (.pair .str (.pair .bool .str))) (.slice 106 (.pair .str .str)))))))
   have h16:=h15.freeze (k:=0) rfl Yc
   cases H
   exact T7 (jRA ⟨_,_,Sc,_,_,rfl,rfl,rfl⟩ (sOR h16 [] [0]))
  refine T9 (T8 (T6 ?_))
  refine Zd 2 ?_
  refine Zc (Za 0 h12.wht) ?_
  refine Ye Tryz.func85 ?_
  refine T8 (Zb [0,1] ?_)
  refine T8 (T0 (T8 (T6 ?_)))
  refine Zd 1 ?_
  refine Ye Tryz.func37 ?_
  refine T8 (Zb [0] ?_)
  refine T8 (T8 (Zb [0,11] ?_))
  refine Zn ?_
  refine T8 (Zb [2] ?_)
  refine T7 (⟨_,Zl,?_⟩)
  refine Ze [0,1,10] rfl ?_
  refine Zn ?_
  refine T8 (Zb [4,5] ?_)
  refine T7 (⟨_,Zl,?_⟩)
  refine Ze [1,2,7,8] rfl ?_
  refine T8 (T8 (Zb [1,2,7,8,23] ?_))
  refine Zn ?_
  refine T8 (Zb [4,5] ?_)
  refine T7 (⟨_,Zl,?_⟩)
  refine Ze [4,5,6,7] rfl ?_
  refine T8 (T8 (T6 ?_))
  refine Zd 3 ?_
  refine Yh 24 (congrArg Value.bool c2) ?_
  refine Ze [4,6,27] rfl ?_
  refine Zn ?_
  refine T8 (Zb [2,3] ?_)
  refine T7 (⟨_,Zl,?_⟩)
  refine Ze [2,3,10] rfl ?_
  have h17:=sO h12 [2,2]
  replace h17:=nf h17
  refine T8 (T8 (Zb [2,3,10,62] ?_))
  refine Zn ?_
  refine T8 (Zb [4,5,6,7] ?_)
  have h18:=sO h17 []
  replace h18:=nf h18
  have h19:=h18.addNil 112 (.slice 43 (.pair (.int .i64) (.pair (.slice 33 (.int .u32)) (.pair (.slice 9 .str) (.pair (.slice 115 (.pair .str (.pair .bool .str))) (.slice 106 (.pair .str .str)))))))
  have h20:=h19.freeze (k:=0) rfl Yc
  cases H
  exact T7 (jRA ⟨_,_,Sc,_,_,rfl,rfl,rfl⟩ (sOR h20 [] [0]))
 rw [ho2] at ho1
 obtain ⟨b5,A5,c_5,rfl,rfl⟩:=ho1
 replace H:=Vw ho2 H
 obtain ⟨c3,H⟩:=Zk H
 replace h10:=nf h10
 refine Ze [1,4,5] rfl ?_
 refine T8 (T6 ?_)
 refine Zc (Za 2 h10.wht) ?_
 refine Zd 1 ?_
 refine Ye Tryz.func35 ?_
 refine T8 (T6 ?_)
 refine rB (Z9 h10) fun b6 w12 h21=>?_
 refine Ze [1,2] rfl ?_
 refine T8 (T8 (T6 ?_))
 refine Zc (Za 0 h21.wht) ?_
 refine cS H [] h21 rfl Q49.spec Zp fun r5 w13 H h22=>?_
 refine Ze [1,2,6] rfl ?_
 refine T8 (Zb [1,2,6,13] ?_)
 refine jIf H (fun c5 H=>?_) fun c5 H=>?_
 ·refine T8 (Zb [4,5] ?_)
  refine T7 (⟨_,Zl,?_⟩)
  refine Ze [4,5,6,7] rfl ?_
  refine T8 (T8 (T6 ?_))
  refine Zd 3 ?_
  refine Yh 24 (congrArg Value.bool c3) ?_
  refine Ze [4,6,27] rfl ?_
  refine T1 rfl (fun e=>?_) (fun e=>by rw [c5] at e; cases e)
  refine T8 (Zb [2,3] ?_)
  refine T7 (⟨_,Zl,?_⟩)
  refine Ze [2,3,10] rfl ?_
  have h23:=sO h22 [4,4]
  replace h23:=nf h23
  refine T8 (T8 (Zb [2,3,10,62] ?_))
  refine Zn ?_
  refine T8 (Zb [4,5,6,7] ?_)
  have h24:=sO h23 []
  replace h24:=nf h24
  have h25:=h24.addNil 112 (.slice 43 (.pair (.int .i64) (.pair (.slice 33 (.int .u32)) (.pair (.slice 9 .str) (.pair (.slice 115 (.pair .str (.pair .bool .str))) (.slice 106 (.pair .str .str)))))))
  have h26:=h25.freeze (k:=0) rfl Yc
  cases H
  exact T7 (jRA ⟨_,_,Sc,_,_,rfl,rfl,rfl⟩ (sOR h26 [] [0]))
 refine T9 (T8 (T6 ?_))
 refine Zd 2 ?_
 refine Zc (Za 0 h22.wht) ?_
 refine Ye Tryz.func85 ?_
 refine T8 (Zb [0,1] ?_)
 refine T8 (T0 (T8 (T6 ?_)))
 refine Zd 1 ?_
 refine cS H [1,1] h22 rfl Q54.spec Zp fun r6 w14 H h27=>?_
 refine Ze [0,1,10] rfl ?_
 refine jIf H (fun c6 H=>?_) fun c6 H=>?_
 ·refine T8 (Zb [4,5] ?_)
  refine T7 (⟨_,Zl,?_⟩)
  refine Ze [1,2,7,8] rfl ?_
  refine T8 (T8 (Zb [1,2,7,8,23] ?_))
  refine Zn ?_
  refine T8 (Zb [4,5] ?_)
  refine T7 (⟨_,Zl,?_⟩)
  refine Ze [4,5,6,7] rfl ?_
  refine T8 (T8 (T6 ?_))
  refine Zd 3 ?_
  refine Yh 24 (congrArg Value.bool c3) ?_
  refine Ze [4,6,27] rfl ?_
  refine Zn ?_
  refine T8 (Zb [2,3] ?_)
  refine T7 (⟨_,Zl,?_⟩)
  refine Ze [2,3,10] rfl ?_
  have h28:=sO h27 [4,4]
  replace h28:=nf h28
  refine T8 (T8 (Zb [2,3,10,62] ?_))
  refine Zn ?_
  refine T8 (Zb [4,5,6,7] ?_)
  have h29:=sO h28 []
  replace h29:=nf h29
  have h30:=h29.addNil 112 (.slice 43 (.pair (.int .i64) (.pair (.slice 33 (.int .u32)) (.pair (.slice 9 .str) (.pair (.slice 115 (.pair .str (.pair .bool .str))) (.slice 106 (.pair .str .str)))))))
  have h31:=h30.freeze (k:=0) rfl Yc
  cases H
  exact T7 (jRA ⟨_,_,Sc,_,_,rfl,rfl,rfl⟩ (sOR h31 [] [0]))
 refine T8 (T6 ?_)
 refine Zd 3 ?_
 refine Yb 17 H (fun c7 H=>?_) fun c7 H=>?_
 ·refine Ze [0,1,14] rfl ?_
  refine Zn ?_
  refine T8 (Zb [4,5] ?_)
  refine T7 (⟨_,Zl,?_⟩)
  refine Ze [1,2,7,8] rfl ?_
  refine T8 (T8 (Zb [1,2,7,8,23] ?_))
  refine Zn ?_
  refine T8 (Zb [4,5] ?_)
  refine T7 (⟨_,Zl,?_⟩)
  refine Ze [4,5,6,7] rfl ?_
  refine T8 (T8 (T6 ?_))
  refine Zd 3 ?_
  refine Yh 24 (congrArg Value.bool c3) ?_
  refine Ze [4,6,27] rfl ?_
  refine Zn ?_
  refine T8 (Zb [2,3] ?_)
  refine T7 (⟨_,Zl,?_⟩)
  refine Ze [2,3,10] rfl ?_
  have h32:=sO h27 [4,4]
  replace h32:=nf h32
  refine T8 (T8 (Zb [2,3,10,62] ?_))
  refine Zn ?_
  refine T8 (Zb [4,5,6,7] ?_)
  have h33:=sO h32 []
  replace h33:=nf h33
  have h34:=h33.addNil 112 (.slice 43 (.pair (.int .i64) (.pair (.slice 33 (.int .u32)) (.pair (.slice 9 .str) (.pair (.slice 115 (.pair .str (.pair .bool .str))) (.slice 106 (.pair .str .str)))))))
  have h35:=h34.freeze (k:=0) rfl Yc
  cases H
  exact T7 (jRA ⟨_,_,Sc,_,_,rfl,rfl,rfl⟩ (sOR h35 [] [0]))
 refine Ze [0,1,14] rfl ?_
 refine jIf H (fun c8 H=>?_) fun c8 H=>?_
 ·refine T8 (Zb [4,5] ?_)
  refine T7 (⟨_,Zl,?_⟩)
  refine Ze [1,2,7,8] rfl ?_
  refine T8 (T8 (Zb [1,2,7,8,23] ?_))
  refine Zn ?_
  refine T8 (Zb [4,5] ?_)
  refine T7 (⟨_,Zl,?_⟩)
  refine Ze [4,5,6,7] rfl ?_
  refine T8 (T8 (T6 ?_))
  refine Zd 3 ?_
  refine Yh 24 (congrArg Value.bool c3) ?_
  refine Ze [4,6,27] rfl ?_
  refine Zn ?_
  refine T8 (Zb [2,3] ?_)
  refine T7 (⟨_,Zl,?_⟩)
  refine Ze [2,3,10] rfl ?_
  have h36:=sO h27 [4,4]
  replace h36:=nf h36
  refine T8 (T8 (Zb [2,3,10,62] ?_))
  refine Zn ?_
  refine T8 (Zb [4,5,6,7] ?_)
  have h37:=sO h36 []
  replace h37:=nf h37
  have h38:=h37.addNil 112 (.slice 43 (.pair (.int .i64) (.pair (.slice 33 (.int .u32)) (.pair (.slice 9 .str) (.pair (.slice 115 (.pair .str (.pair .bool .str))) (.slice 106 (.pair .str .str)))))))
  have h39:=h38.freeze (k:=0) rfl Yc
  cases H
  exact T7 (jRA ⟨_,_,Sc,_,_,rfl,rfl,rfl⟩ (sOR h39 [] [0]))
 refine T9 (T8 (T6 ?_))
 refine Zd 1 ?_
 refine cE H [] h27 rfl Q35.spec Zp ?_
 rintro r7 w15 _ _ H ⟨v2,l2,ho3,rfl,rfl⟩ h40
 rcases ho4:r7.1 with _ | r8
 ·rw [ho4] at ho3
  obtain ⟨rfl,rfl⟩:=ho3
  replace H:=Vz ho4 H
  obtain ⟨c9,H⟩:=Zk H
  replace h40:=nf h40
  refine Ze [0,1,6,7] rfl ?_
  refine T8 (T8 (Zb [0,1,6,7,27] ?_))
  refine T1 rfl (fun e=>?_) (fun e=>by rw [c9] at e; cases e)
  refine T8 (Zb [4,5] ?_)
  refine T7 (⟨_,Zl,?_⟩)
  refine Ze [1,2,7,8] rfl ?_
  refine T8 (T8 (Zb [1,2,7,8,23] ?_))
  refine T1 rfl (fun e=>?_) (fun e=>by rw [c9] at e; cases e)
  refine T8 (Zb [4,5] ?_)
  refine T7 (⟨_,Zl,?_⟩)
  refine Ze [4,5,6,7] rfl ?_
  refine T8 (T8 (T6 ?_))
  refine Zd 3 ?_
  refine Yh 24 (congrArg Value.bool c3) ?_
  refine Ze [4,6,27] rfl ?_
  refine T1 rfl (fun e=>?_) (fun e=>by rw [c9] at e; cases e)
  refine T8 (Zb [2,3] ?_)
  refine T7 (⟨_,Zl,?_⟩)
  refine Ze [2,3,10] rfl ?_
  have h41:=sO h40 [4,4]
  replace h41:=nf h41
  refine T8 (T8 (Zb [2,3,10,62] ?_))
  refine Zn ?_
  refine T8 (Zb [4,5,6,7] ?_)
  have h42:=sO h41 []
  replace h42:=nf h42
  have h43:=h42.addNil 112 (.slice 43 (.pair (.int .i64) (.pair (.slice 33 (.int .u32)) (.pair (.slice 9 .str) (.pair (.slice 115 (.pair .str (.pair .bool .str))) (.slice 106 (.pair .str .str)))))))
  have h44:=h43.freeze (k:=0) rfl Yc
  cases H
  exact T7 (jRA ⟨_,_,Sc,_,_,rfl,rfl,rfl⟩ (sOR h44 [] [0]))
 rw [ho4] at ho3
 obtain ⟨b7,A6,c_6,rfl,rfl⟩:=ho3
 replace H:=Vw ho4 H
 obtain ⟨c10,H⟩:=Zk H
 replace h40:=nf h40
 refine Ze [0,1,6,7] rfl ?_
 refine T8 (T8 (Zb [0,1,6,7,27] ?_))
 refine T1 rfl (fun e=>by rw [c10] at e; cases e) (fun e=>?_)
 refine T9 (T8 (T6 ?_))
 refine Zd 2 ?_
 obtain ⟨⟨p1,p2⟩,H⟩:=Zk H
 refine rB (Zac Z4 (ty:=(.pair (.int .u32) (.pair (.slice 5 (.int .u8)) (.pair .bool (.int .i64))))) ((0,([]:List Int),false,0):Int×List Int×Bool×Int) rfl rfl rfl rfl rfl rfl (fun _ _=>Zg1 ⟨none,0,rfl,Sa _,.inl rfl⟩) (by decide) h40 p1 p2) fun b8 w16 h45=>?_
 refine rB (Gd .u32 (Value.int .i64) h45) fun b9 w17 h46=>?_
 refine Zd 2 ?_
 refine rB (Z9 h46) fun b10 w18 h47=>?_
 refine Ze [1,8] rfl ?_
 refine T8 (T8 (Zb [8,36,37] ?_))
 refine T0 ?_
 have h74:=h47.addNil 3 (.int .i64)
 have h75:=(sOR h74 [1,5,1,2,6,6,5,4,3,1,0,0] [0,1,2,3,4])
 refine T4 (fun kk env w=>∃ x5 A7 c_7 x6,Q134.l2 kk a0 a1 r3 r8 x5 x6=some r∧env=[(8,.pointer (some ⟨b10,0,none⟩)),(36,.int .i64 a0.2.2.1),(37,.int .i64 x6)]∧St w0 F0 [Xp b10 (.pointer (some ⟨b5,0,none⟩)) (List.replicate a0.2.2.1.toNat ((0,([]:List Int),false,0):Int×List Int×Bool×Int)) (some ⟨b8,0,none⟩) (a0.2.2.1.toNat) (.map (some b9)) x5 A7 c_7 (.pointer (some ⟨b7,0,none⟩)),Xi b5 r3.1 r3.2.1 A5 c_5 r3.2.2.1 r3.2.2.2,Xa .u32 (Value.int .i64) b9 ([]:List TW),Y0 b7 r8.1 A6 c_6 r8.2,X23 b1 a0.1 a0.2.1 a0.2.2.1 a0.2.2.2.1 a0.2.2.2.2.1 a0.2.2.2.2.2.1 a0.2.2.2.2.2.2.1 a0.2.2.2.2.2.2.2,X90 b2 a1.1 A1 c_1 a1.2.1 A2 c_2 a1.2.2.1 A3 c_3 a1.2.2.2 A4 c_4,X23 b3 a0.1 a0.2.1 a0.2.2.1 a0.2.2.2.1 a0.2.2.2.2.1 a0.2.2.2.2.2.1 a0.2.2.2.2.2.2.1 a0.2.2.2.2.2.2.2,X23 b6 a0.1 a0.2.1 a0.2.2.1 a0.2.2.2.1 a0.2.2.2.2.1 a0.2.2.2.2.2.1 a0.2.2.2.2.2.2.1 a0.2.2.2.2.2.2.2,O5 r3.2.1 A5 c_5,Xq (List.replicate a0.2.2.1.toNat ((0,([]:List Int),false,0):Int×List Int×Bool×Int)) (some ⟨b8,0,none⟩) (a0.2.2.1.toNat),O3 x5 A7 c_7,Y2 r8.1 A6 c_6] [Ym a1.1 A1 c_1,Yi a1.2.1 A2 c_2,R5 a1.2.2.1 A3 c_3,R5 a1.2.2.2 A4 c_4,tabC 0] w) (k:=k2) ⟨_,_,_,_,H,rfl,h75⟩ ?_
 rintro k3 env w19 ⟨x5,A7,c_7,x6,H,rfl,h48⟩
 rcases k3 with _ | k3
 ·exact z0 H
 rw [Q134.l2] at H
 refine T8 (Zb [8,36,37,38] ?_)
 refine T8 (jIf H (fun c11 H=>?_) fun c11 H=>?_)
 ·refine T9 (T8 (T0 (T8 (Zb [8,9,36,37] ?_))))
  refine T6 (Zd 4 ?_)
  refine Zc (Za 0 h48.wht) ?_
  refine Zd 1 ?_
  refine rB (Z1 (.int .i64) ([x6]:List Int) h48) fun b11 w20 h49=>?_
  obtain ⟨p3,H⟩:=Zk H
  refine Zs (Zr 11 h49 (gO 0) p3) ?_
  rintro _ w21 ⟨A8,c_8,rfl,h50⟩
  replace h50:=nf h50
  refine Zd 2 ?_
  refine rS (Zt 2 h50) fun _ w22 h51=>?_
  refine Ze [8,36,37] rfl ?_
  refine Zb [8,36,37] ?_
  have h52:=(sOR h51 [0,2,2,2,2,2,2,2,2,2,0,1] [0,1,2,3,4])
  exact ⟨k3,by omega,_,_,_,_,H,rfl,h52⟩
 refine T3 (T8 (Zb [4,5] ?_))
 refine T7 (⟨_,Zl,?_⟩)
 refine Ze [1,2,7,8] rfl ?_
 refine T8 (T8 (Zb [1,2,7,8,23] ?_))
 refine Z6 ?_
 refine T9 (T8 (T8 ?_))
 refine jH h48 fun h53=>?_
 refine Zo [0,2] ?_
 refine Zf 3 rfl (Za 7 wI) ?_
 refine cEJ 1 rfl H [1,7] h53 rfl Q54.spec Zp ?_
 rintro r9 w23 _ _ H ⟨rfl,rfl⟩ h54
 replace h54:=nf h54
 refine ⟨⟨[],(sO h54 [2,0,1,1,1,1,1,1,0,0,0,0])⟩,?_⟩
 refine Zo [4,5] ?_
 refine X8 30 H (fun c12 H=>?_) fun c12 H=>?_
 ·refine Zo [6,7,8,9,10,11] ?_
  refine Zw [1,2,7,36] ?_
  refine Zn ?_
  refine T8 (Zb [4,5] ?_)
  refine T7 (⟨_,Zl,?_⟩)
  refine Ze [4,5,6,7] rfl ?_
  refine T8 (T8 (T6 ?_))
  refine Zd 3 ?_
  refine Yh 24 (congrArg Value.bool c3) ?_
  refine Ze [4,6,27] rfl ?_
  refine Zn ?_
  refine T8 (Zb [2,3] ?_)
  refine T7 (⟨_,Zl,?_⟩)
  refine Ze [2,3,10] rfl ?_
  have h55:=sO h54 [5,5]
  replace h55:=nf h55
  refine T8 (T8 (Zb [2,3,10,62] ?_))
  refine Zn ?_
  refine T8 (Zb [4,5,6,7] ?_)
  have h56:=sO h55 []
  replace h56:=nf h56
  have h57:=h56.addNil 112 (.slice 43 (.pair (.int .i64) (.pair (.slice 33 (.int .u32)) (.pair (.slice 9 .str) (.pair (.slice 115 (.pair .str (.pair .bool .str))) (.slice 106 (.pair .str .str)))))))
  have h58:=h57.freeze (k:=0) rfl Yc
  cases H
  exact T7 (jRA ⟨_,_,Sc,_,_,rfl,rfl,rfl⟩ (sOR h58 [] [0]))
 refine Zo [6,8] ?_
 refine Zf 9 rfl (Za 7 wI) ?_
 refine cEJ 7 rfl H [0,0] h54 rfl Q55.spec Zp ?_
 rintro r10 w24 _ _ H ⟨rfl,rfl⟩ h59
 replace h59:=nf h59
 refine ⟨⟨[],(sO h59 [2,0,1,1,1,1,1,1,0,0,0,0])⟩,?_⟩
 refine Zo [10,11] ?_
 refine Zw [1,2,7,36] ?_
 refine jIf H (fun c13 H=>?_) fun c13 H=>?_
 ·refine T8 (Zb [4,5] ?_)
  refine T7 (⟨_,Zl,?_⟩)
  refine Ze [4,5,6,7] rfl ?_
  refine T8 (T8 (T6 ?_))
  refine Zd 3 ?_
  refine Yh 24 (congrArg Value.bool c3) ?_
  refine Ze [4,6,27] rfl ?_
  refine Zn ?_
  refine T8 (Zb [2,3] ?_)
  refine T7 (⟨_,Zl,?_⟩)
  refine Ze [2,3,10] rfl ?_
  have h60:=sO h59 [5,5]
  replace h60:=nf h60
  refine T8 (T8 (Zb [2,3,10,62] ?_))
  refine Zn ?_
  refine T8 (Zb [4,5,6,7] ?_)
  have h61:=sO h60 []
  replace h61:=nf h61
  have h62:=h61.addNil 112 (.slice 43 (.pair (.int .i64) (.pair (.slice 33 (.int .u32)) (.pair (.slice 9 .str) (.pair (.slice 115 (.pair .str (.pair .bool .str))) (.slice 106 (.pair .str .str)))))))
  have h63:=h62.freeze (k:=0) rfl Yc
  cases H
  exact T7 (jRA ⟨_,_,Sc,_,_,rfl,rfl,rfl⟩ (sOR h63 [] [0]))
 refine T9 (T8 (T6 ?_))
 refine Zd 1 ?_
 refine Zc (Za 8 h59.wht) ?_
 refine cE H [] h59 rfl Q79.spec Zp ?_
 rintro r11 w25 _ _ H ⟨v3,l3,ho5,rfl,rfl⟩ h64
 rcases ho6:r11.1 with _ | r12
 ·rw [ho6] at ho5
  obtain ⟨rfl,rfl⟩:=ho5
  replace H:=Vz ho6 H
  obtain ⟨c14,H⟩:=Zk H
  replace h64:=nf h64
  refine Ze [1,2,7,8,9] rfl ?_
  refine T8 (T8 (Zb [1,2,7,8,9,44] ?_))
  refine T1 rfl (fun e=>?_) (fun e=>by rw [c14] at e; cases e)
  refine T8 (Zb [4,5] ?_)
  refine T7 (⟨_,Zl,?_⟩)
  refine Ze [4,5,6,7] rfl ?_
  refine T8 (T8 (T6 ?_))
  refine Zd 3 ?_
  refine Yh 24 (congrArg Value.bool c3) ?_
  refine Ze [4,6,27] rfl ?_
  refine T1 rfl (fun e=>?_) (fun e=>by rw [c14] at e; cases e)
  refine T8 (Zb [2,3] ?_)
  refine T7 (⟨_,Zl,?_⟩)
  refine Ze [2,3,10] rfl ?_
  have h65:=sO h64 [5,5]
  replace h65:=nf h65
  refine T8 (T8 (Zb [2,3,10,62] ?_))
  refine Zn ?_
  refine T8 (Zb [4,5,6,7] ?_)
  have h66:=sO h65 []
  replace h66:=nf h66
  have h67:=h66.addNil 112 (.slice 43 (.pair (.int .i64) (.pair (.slice 33 (.int .u32)) (.pair (.slice 9 .str) (.pair (.slice 115 (.pair .str (.pair .bool .str))) (.slice 106 (.pair .str .str)))))))
  have h68:=h67.freeze (k:=0) rfl Yc
  cases H
  exact T7 (jRA ⟨_,_,Sc,_,_,rfl,rfl,rfl⟩ (sOR h68 [] [0]))
 rw [ho6] at ho5
 obtain ⟨b12,b13,A9,c_9,rfl,rfl⟩:=ho5
 replace H:=Vw ho6 H
 obtain ⟨c15,H⟩:=Zk H
 replace h64:=nf h64
 refine Ze [1,2,7,8,9] rfl ?_
 refine T8 (T8 (Zb [1,2,7,8,9,44] ?_))
 refine T1 rfl (fun e=>by rw [c15] at e; cases e) (fun e=>?_)
 refine T9 (T8 (T6 ?_))
 refine Zc (Za 11 h64.wht) ?_
 refine Zd 4 ?_
 refine rB (Z9 h64) fun b14 w26 h69=>?_
 refine Ze [4,5] rfl ?_
 refine T7 (⟨_,Zl,?_⟩)
 refine Ze [4,5,6,7] rfl ?_
 refine T8 (T8 (T6 ?_))
 refine Zd 3 ?_
 refine Yh 24 (congrArg Value.bool c3) ?_
 refine Ze [4,6,27] rfl ?_
 refine Z6 ?_
 refine T9 (T8 (Zb [2,3] ?_))
 refine T7 (⟨_,Zl,?_⟩)
 refine Ze [2,3,10] rfl ?_
 have h70:=sO h69 [0,0,0,0,0,0,0,0,0,0,0,2,2,2]
 replace h70:=nf h70
 refine T8 (T8 (Zb [2,3,10,62] ?_))
 refine Z6 ?_
 refine T9 (T8 (T6 ?_))
 refine Zc (Za 9 h70.wht) ?_
 refine Zc (Za 10 h70.wht) ?_
 obtain ⟨r13,q10,H⟩:=Yj H
 refine Zs (Ya [] (Q133.spec q10) h70 rfl (gS [0,1,2,3])) ?_
 rintro _ w27 ⟨_,_,⟨A10,c_10,rfl,rfl,rfl⟩,h71⟩
 replace h71:=nf h71
 refine Ze [10,12] rfl ?_
 have h72:=sO h71 [0,0,0,0,0,0,0,0,0,2,2,2]
 replace h72:=nf h72
 refine T8 (T6 ?_)
 refine Zd 2 ?_
 refine cE H [0,5,3,3,5,3,4,3,3,0,0,0] h72 rfl Q132.spec (gS [0,5]) ?_
 rintro r14 w28 _ _ H ⟨A11,c_11,A12,c_12,A13,c_13,A14,c_14,A15,c_15,rfl,rfl⟩ h73
 replace h73:=nf h73
 refine Ze [10,12,13,14] rfl ?_
 refine T8 (Zb [4,5,6,7] ?_)
 cases H
 exact T7 (jRA ⟨_,_,(Sd ⟨_,_,_,_,_,_,_,_,_,_,_,_,_,_,_,_,_,rfl,rfl⟩),_,_,rfl,rfl,rfl⟩ (sOR h73 [0,0,0,0,0,0,0,0,0,0,0,0] [0]))

def Q94.f (a0:Tg) (a1:Int):Option (Int):=if (decide (a1=0))=true then (some 4) else (if (decide (a0.1.1≤(w64 (a1))))=true then (some 4) else (some 0))
theorem Q94.spec {a0 a1 b1 b2 b3 b4 b5 b6 b7 A1 c_1 A2 c_2 A3 c_3 A4 c_4 A5 c_5 r} (H:Q94.f a0 a1=some r) :
  Spec Tryz.prog 76 [.pointer (some ⟨b1,0,none⟩),.int .u32 a1] (V5 a0 b1 b2 b3 b4 b5 b6 b7 A1 A2 A3 A4 A5 c_1 c_2 c_3 c_4 c_5) [] (fun v l=>v=.int .i64 r∧l=V5 a0 b1 b2 b3 b4 b5 b6 b7 A1 A2 A3 A4 A5 c_1 c_2 c_3 c_4 c_5):=by
 refine Zi Tryz.func76 fun w0 F0 h0=>?_
 replace h0:=nf h0
 unfold Q94.f at H
 refine T8 (Zb [0,1] ?_)
 refine T8 (T0 (T8 (T6 ?_)))
 refine Zd 6 ?_
 refine Zc (Za 0 h0.wht) ?_
 refine Ze [0,1,5] rfl ?_
 refine Z6 ?_
 refine T8 (T6 ?_)
 refine Zd 3 ?_
 refine Yb 18 H (fun c1 H=>?_) fun c1 H=>?_
 ·refine Ze [15] rfl ?_
  refine Zn ?_
  refine T8 (Zb [4] ?_)
  cases H
  exact T7 (jR0 h0 [0,0,0,0,0,0,0,0,0,0,0,0])
 refine Zd 6 ?_
 refine Zc (Za 0 h0.wht) ?_
 refine Ze [15] rfl ?_
 refine jIf H (fun c2 H=>?_) fun c2 H=>?_
 ·refine T8 (Zb [4] ?_)
  cases H
  exact T7 (jR0 h0 [0,0,0,0,0,0,0,0,0,0,0,0])
 refine T9 (T8 (Zb [4] ?_))
 cases H
 exact T7 (jR0 h0 [0,0,0,0,0,0,0,0,0,0,0,0])

def Q56.f (a0:TE) (a1:Int):Option (List Int×Int×TE):=(Q54.f a0).bind fun r1=>(if (decide (r1=0))=true then (some (([]:List Int),1,a0)) else ((Q54.f a0).bind fun r2=>(if (decide (r2≤(w64 (a1))))=true then (some (([]:List Int),4,a0)) else (if 0≤(w64 ((w64 (a1))*a0.1))∧(w64 ((w64 (a1))*a0.1))≤(w64 ((w64 ((w64 (a1))*a0.1))+a0.1))∧(w64 ((w64 ((w64 (a1))*a0.1))+a0.1))≤(a0.2.1.length:Int) then ((Q99.f ((a0.2.1.drop ((w64 ((w64 (a1))*a0.1))).toNat).take (((w64 ((w64 ((w64 (a1))*a0.1))+a0.1))).toNat - ((w64 ((w64 (a1))*a0.1))).toNat))).bind fun r3=>(some (r3,0,(a0.1,a0.2.1,((IntKind.u64.wrap (a0.2.2.1+1)),a0.2.2.2))))) else none))))
theorem Q56.spec {a0 a1 b1 A1 c_1 r} (H:Q56.f a0 a1=some r) :
  Spec Tryz.prog 20 [.pointer (some ⟨b1,0,none⟩),.int .u32 a1] (B6 a0 b1 A1 c_1) [] (fun v l=>∃ A_0 c_0 A_1 c_1,v=.tuple #[.slice A_0 r.1.length c_0,.int .i64 r.2.1]∧l=[O5 r.1 A_0 c_0] ++ B6 r.2.2 b1 A_1 c_1):=by
 refine Zi Tryz.func20 fun w0 F0 h0=>?_
 replace h0:=nf h0
 unfold Q56.f at H
 refine T8 (Zb [0,1] ?_)
 refine T8 (T6 ?_)
 refine Zd 2 ?_
 refine Ye Tryz.func62 ?_
 refine T8 (Zb [0,1] ?_)
 refine T8 (T0 (T8 (T6 ?_)))
 refine Zd 1 ?_
 refine cS H [0,0] h0 rfl Q54.spec Zp fun r1 w1 H h1=>?_
 refine Ze [0,1,7] rfl ?_
 refine jIf H (fun c1 H=>?_) fun c1 H=>?_
 ·refine T8 (Zb [4,5] ?_)
  refine T7 (⟨_,Zl,?_⟩)
  refine Ze [0,6,7] rfl ?_
  refine T8 (T8 (Zb [0,6,7,15] ?_))
  refine Zn ?_
  refine T8 (Zb [4,5] ?_)
  have h2:=h1.addNil 5 (.int .u8)
  cases H
  exact T7 (jR ⟨_,_,_,_,rfl,rfl⟩ h2 [0,0,0])
 refine T8 (T6 ?_)
 refine Zd 3 ?_
 refine cS H [0,0] h1 rfl Q54.spec Zp fun r2 w2 H h3=>?_
 refine Ze [0,1,11] rfl ?_
 refine jIf H (fun c2 H=>?_) fun c2 H=>?_
 ·refine T8 (Zb [4,5] ?_)
  refine T7 (⟨_,Zl,?_⟩)
  refine Ze [0,6,7] rfl ?_
  refine T8 (T8 (Zb [0,6,7,15] ?_))
  refine Zn ?_
  refine T8 (Zb [4,5] ?_)
  have h4:=h3.addNil 5 (.int .u8)
  cases H
  exact T7 (jR ⟨_,_,_,_,rfl,rfl⟩ h4 [0,0,0])
 refine T9 (T8 (T6 ?_))
 refine Zd 5 ?_
 refine Zc (Za 0 h3.wht) ?_
 refine Ze [0,6] rfl ?_
 refine T8 (jH h3 fun h5=>?_)
 refine Zo [0,1,2,4,5,6,7,8] ?_
 refine Zf 3 rfl (Za 0 wI) ?_
 refine Zf 9 rfl (Za 0 wI) ?_
 refine Zo [10] ?_
 obtain ⟨⟨p1,p2,p3⟩,H⟩:=Zk H
 have e1:=h5.cap (gO 1)
 refine Zf 11 rfl (Uq ((a0.2.1.drop ((w64 ((w64 (a1))*a0.1))).toNat).take (((w64 ((w64 ((w64 (a1))*a0.1))+a0.1))).toNat - ((w64 ((w64 (a1))*a0.1))).toNat)) (w64 ((w64 (a1))*a0.1)) (w64 ((w64 ((w64 (a1))*a0.1))+a0.1)) e1 p1 p2 p3) ?_
 refine Zo [12,13] ?_
 refine Zw [4,5] ?_
 refine T7 (⟨_,Zl,?_⟩)
 refine Ze [0,6,7] rfl ?_
 refine T8 (T8 (Zb [0,6,7,15] ?_))
 refine Z6 ?_
 refine T9 (T8 (T6 ?_))
 refine Zd 4 ?_
 refine Zc (Za 0 h5.wht) ?_
 refine Zd 4 ?_
 refine rS (Zt 0 h5) fun _ w3 h6=>?_
 refine Ze [6] rfl ?_
 refine T8 (T6 ?_)
 refine Zd 1 ?_
 refine cE H [] h6 rfl Q99.spec (Y5 ((Gives.of 1 rfl Yc).trans (U5 (.int .u8) ((a0.2.1.drop ((w64 ((w64 (a1))*a0.1))).toNat).take (((w64 ((w64 ((w64 (a1))*a0.1))+a0.1))).toNat - ((w64 ((w64 (a1))*a0.1))).toNat)) (w64 ((w64 (a1))*a0.1)) (w64 ((w64 ((w64 (a1))*a0.1))+a0.1)) p1 p2 p3)) Zp) ?_
 rintro r3 w4 _ _ H ⟨A2,c_2,rfl,rfl⟩ h7
 replace h7:=nf h7
 refine Ze [4,5] rfl ?_
 cases H
 exact T7 (jR ⟨_,_,_,_,rfl,rfl⟩ h7 [0,0,0])

def Q19.f (a0:Ti) (a1:Int):Option Th:=(Q26.f a0 a1).bind fun r1=>(if (!decide (r1=0))=true then (some (r1,a0)) else (if (Y9 a0.2.2.1 a1)=true then (if 0≤(Zv (0:Int) a0.2.2.1 a1)∧(Zv (0:Int) a0.2.2.1 a1)<(a0.2.1.length:Int) then ((Q27.f a0.2.2.2.2 (Zv (0:Int) a0.2.2.1 a1)).bind fun r2=>(some (0,(a0.1,(a0.2.1.set (Zv (0:Int) a0.2.2.1 a1).toNat ((gt a0.2.1 (Zv (0:Int) a0.2.2.1 a1)).1,(gt a0.2.1 (Zv (0:Int) a0.2.2.1 a1)).2.1,(gt a0.2.1 (Zv (0:Int) a0.2.2.1 a1)).2.2.1,(w64 (((gt a0.2.1 (Zv (0:Int) a0.2.2.1 a1)).2.2.2)+1)))),a0.2.2.1,a0.2.2.2.1,r2.2)))) else none) else ((Q25.f a0).bind fun r3=>(if (!r3.2.1)=true then (some (7,r3.2.2)) else ((Q56.f r3.2.2.1 a1).bind fun r4=>(if (!decide (r4.2.1=0))=true then (if (r3.2.2.2.2.2.1.length+([r3.1]:List Int).length)*8≤140737488355328 then (some (r4.2.1,(r4.2.2,r3.2.2.2.1,r3.2.2.2.2.1,(r3.2.2.2.2.2.1 ++ ([r3.1]:List Int)),r3.2.2.2.2.2.2))) else none) else (if 0≤r3.1∧r3.1<(r3.2.2.2.1.length:Int) then ((Q27.f r3.2.2.2.2.2.2 r3.1).bind fun r5=>(some (0,(r4.2.2,(r3.2.2.2.1.set r3.1.toNat (a1,r4.1,false,1)),(Vs a1 r3.1 r3.2.2.2.2.1),r3.2.2.2.2.2.1,r5.2)))) else none)))))))
theorem Q19.spec {a0 a1 b1 b2 b3 b4 A1 c_1 A2 c_2 A3 c_3 A4 c_4 r} (H:Q19.f a0 a1=some r) :
  Spec Tryz.prog 77 [.pointer (some ⟨b1,0,none⟩),.int .u32 a1] (W9 a0 b1 b2 b3 b4 A1 A2 A3 A4 c_1 c_2 c_3 c_4) [] (fun v l=>∃ A_0 c_0 A_1 c_1 A_2 c_2 A_3 c_3,v=.int .i64 r.1∧l=W9 r.2 b1 b2 b3 b4 A_0 A_1 A_2 A_3 c_0 c_1 c_2 c_3):=by
 refine Zi Tryz.func77 fun w0 F0 h0=>?_
 replace h0:=nf h0
 unfold Q19.f at H
 refine T8 (Zb [0,1] ?_)
 refine T8 (T8 (T6 ?_))
 refine Zd 2 ?_
 refine cS H [0,0,0,0,0,0,0,0] h0 rfl Q26.spec Zp fun r1 w1 H h1=>?_
 refine Ze [0,1,5] rfl ?_
 refine T8 (Zb [0,1,5,16] ?_)
 refine jIf H (fun c1 H=>?_) fun c1 H=>?_
 ·refine T8 (Zb [4] ?_)
  cases H
  exact T7 (jR ⟨_,_,_,_,_,_,_,_,rfl,rfl⟩ h1 [0,0,0,0,0,0,0,0])
 refine T9 (T8 (T8 (T6 ?_)))
 refine Zd 3 ?_
 refine Zc (Za 0 h1.wht) ?_
 refine Zd 1 ?_
 refine Zc (Wp (0:Int) 4 h1.wht) ?_
 refine Ze [0,1,6,7] rfl ?_
 refine T8 (Zb [0,1,6,27] ?_)
 refine jIf H (fun c2 H=>?_) fun c2 H=>?_
 ·refine T8 (T6 ?_)
  refine Zd 3 ?_
  refine Zc (Za 0 h1.wht) ?_
  refine Zd 1 ?_
  obtain ⟨⟨p1,p2⟩,H⟩:=Zk H
  have e1:=Z0 h1.wh (gO 3) p1 p2
  refine Zc (Zg e1 p1 p2) ?_
  refine Zd 1 ?_
  refine Zc (Xb 3 h1.wht (gO 3) p1 p2) ?_
  refine Zd 1 ?_
  refine Zc (Zg e1 p1 p2) ?_
  refine Zd 1 ?_
  refine rS (Ww 3 (.pair (.int .u32) (.pair (.slice 5 (.int .u8)) (.pair .bool (.int .i64)))) (Zv (0:Int) a0.2.2.1 a1) ((gt a0.2.1 (Zv (0:Int) a0.2.2.1 a1)).1,(gt a0.2.1 (Zv (0:Int) a0.2.2.1 a1)).2.1,(gt a0.2.1 (Zv (0:Int) a0.2.2.1 a1)).2.2.1,(w64 (((gt a0.2.1 (Zv (0:Int) a0.2.2.1 a1)).2.2.2)+1))) 3 h1 rfl p1 p2 (G0 rfl rfl)) fun _ w2 h2=>?_
  replace h2:St w0 F0 [Xq (a0.2.1.set (Zv (0:Int) a0.2.2.1 a1).toNat ((gt a0.2.1 (Zv (0:Int) a0.2.2.1 a1)).1,(gt a0.2.1 (Zv (0:Int) a0.2.2.1 a1)).2.1,(gt a0.2.1 (Zv (0:Int) a0.2.2.1 a1)).2.2.1,(w64 (((gt a0.2.1 (Zv (0:Int) a0.2.2.1 a1)).2.2.2)+1)))) A2 c_2,Xp b1 (.pointer (some ⟨b2,0,none⟩)) (a0.2.1.set (Zv (0:Int) a0.2.2.1 a1).toNat ((gt a0.2.1 (Zv (0:Int) a0.2.2.1 a1)).1,(gt a0.2.1 (Zv (0:Int) a0.2.2.1 a1)).2.1,(gt a0.2.1 (Zv (0:Int) a0.2.2.1 a1)).2.2.1,(w64 (((gt a0.2.1 (Zv (0:Int) a0.2.2.1 a1)).2.2.2)+1)))) A2 c_2 (.map (some b3)) a0.2.2.2.1 A3 c_3 (.pointer (some ⟨b4,0,none⟩)),Xi b2 a0.1.1 a0.1.2.1 A1 c_1 a0.1.2.2.1 a0.1.2.2.2,O5 a0.1.2.1 A1 c_1,Xa .u32 (Value.int .i64) b3 a0.2.2.1,O3 a0.2.2.2.1 A3 c_3,Y0 b4 a0.2.2.2.2.1 A4 c_4 a0.2.2.2.2.2,Y2 a0.2.2.2.2.1 A4 c_4] _ _:=h2.retell (by simp only [List.length_set,List.length_nil,Xq,Y2,O3,O5,Xi,Xp,Y0] <;> rfl)
  refine Ze [0,6] rfl ?_
  refine T8 (T6 ?_)
  refine Zd 3 ?_
  refine Zc (Za 1 h2.wht) ?_
  refine Zd 1 ?_
  refine cE H [6,6] h2 rfl Q27.spec Zp ?_
  rintro r2 w3 _ _ H ⟨A5,c_5,rfl,rfl⟩ h3
  replace h3:=nf h3
  refine Ze [] rfl ?_
  refine T8 (Zb [4] ?_)
  cases H
  exact T7 (jR ⟨_,_,_,_,_,_,_,_,rfl,rfl⟩ h3 [3,3,3,2,2,2,0,0])
 refine T9 (T8 (T6 ?_))
 refine Zd 1 ?_
 refine cE H [0,0,0,0,0,0,0,0] h1 rfl Q25.spec Zp ?_
 rintro r3 w4 _ _ H ⟨A6,c_6,A7,c_7,A8,c_8,A9,c_9,rfl,rfl⟩ h4
 replace h4:=nf h4
 refine Ze [0,1,8,9] rfl ?_
 refine T8 (T8 (Zb [0,1,8,51] ?_))
 refine jIf H (fun c3 H=>?_) fun c3 H=>?_
 ·refine T8 (Zb [4] ?_)
  cases H
  exact T7 (jR ⟨_,_,_,_,_,_,_,_,rfl,rfl⟩ h4 [0,0,0,0,0,0,0,0])
 refine T9 (T8 (T6 ?_))
 refine Zd 3 ?_
 refine Zc (Za 0 h4.wht) ?_
 refine Zd 1 ?_
 refine cE H [1,1] h4 rfl Q56.spec Zp ?_
 rintro r4 w5 _ _ H ⟨A10,c_10,A11,c_11,rfl,rfl⟩ h5
 replace h5:=nf h5
 refine Ze [0,1,8,10,11] rfl ?_
 refine T8 (T8 (Zb [0,1,8,10,11,62] ?_))
 refine jIf H (fun c4 H=>?_) fun c4 H=>?_
 ·refine T8 (T6 ?_)
  refine Zd 4 ?_
  refine Zc (Za 3 h5.wht) ?_
  refine Zd 1 ?_
  refine rB (Z1 (.int .i64) ([r3.1]:List Int) h5) fun b5 w6 h6=>?_
  obtain ⟨p3,H⟩:=Zk H
  refine Zs (Zr 7 h6 (gO 0) p3) ?_
  rintro _ w7 ⟨A12,c_12,rfl,h7⟩
  replace h7:=nf h7
  refine Zd 2 ?_
  refine rS (Zt 5 h7) fun _ w8 h8=>?_
  refine Ze [11] rfl ?_
  have h9:=sO h8 [0,0,2,2,2,2,2,2]
  replace h9:=nf h9
  refine T8 (Zb [4] ?_)
  cases H
  exact T7 (jR ⟨_,_,_,_,_,_,_,_,rfl,rfl⟩ h9 [0,1,1,1,1,0,0,0])
 refine T9 (T8 (T6 ?_))
 refine Zd 5 ?_
 refine Ye Tryz.func127 ?_
 refine T8 (T6 ?_)
 refine rB (Z9 h5) fun b6 w9 h10=>?_
 refine Ze [0,1,5] rfl ?_
 refine T8 (T6 ?_)
 refine Zd 1 ?_
 refine rS (Zt 0 h10) fun _ w10 h11=>?_
 refine Ze [0,1,5] rfl ?_
 refine T8 (Zz (sO h11 [0,1,1,1,2,2,2,2]) ?_)
 have h12:=h11.drew
 refine Zo [0,1,2,4] ?_
 refine Zf 3 rfl (Za 3 wI) ?_
 refine Zf 5 rfl (Za 0 wI) ?_
 obtain ⟨⟨p4,p5⟩,H⟩:=Zk H
 have e2:=Z0 h12.wh (gO 5) p4 p5
 refine Zf 6 rfl (Zg e2 p4 p5) ?_
 have h13:=(h12.only [5,1,0,0,0,0,0,0,0,0] rfl).both
 refine hS 7 rfl (W2 0 (.pair (.int .u32) (.pair (.slice 5 (.int .u8)) (.pair .bool (.int .i64)))) r3.1 (a1,r4.1,false,1) h13 p4 p5 Zcz) 1 fun _ w11 h14=>?_
 replace h14:St w0 F0 [Xq (r3.2.2.2.1.set r3.1.toNat (a1,r4.1,false,1)) A7 c_7,Zg0 b6 a1 r4.1 A10 c_10 false 1,Xi b2 r4.2.2.1 r4.2.2.2.1 A11 c_11 r4.2.2.2.2.1 r4.2.2.2.2.2,O5 r4.2.2.2.1 A11 c_11,Xp b1 (.pointer (some ⟨b2,0,none⟩)) (r3.2.2.2.1.set r3.1.toNat (a1,r4.1,false,1)) A7 c_7 (.map (some b3)) r3.2.2.2.2.2.1 A8 c_8 (.pointer (some ⟨b4,0,none⟩)),Xa .u32 (Value.int .i64) b3 r3.2.2.2.2.1,O3 r3.2.2.2.2.2.1 A8 c_8,Y0 b4 r3.2.2.2.2.2.2.1 A9 c_9 r3.2.2.2.2.2.2.2,Y2 r3.2.2.2.2.2.2.1 A9 c_9] _ _:=h14.retell (by simp only [List.length_set,List.length_nil,Xq,Y2,O3,O5,Xi,Zg0,Xp,Y0] <;> rfl)
 refine Zw [0,1,5] ?_
 refine T8 (Zz (sO h14 [0,0,0,0,0,1,1,1]) ?_)
 have h15:=h14.drew
 refine Zo [0,1,2,4,6] ?_
 refine Zf 3 rfl (Za 4 wI) ?_
 refine Zf 5 rfl (Za 1 wI) ?_
 refine hS 7 rfl (Zdn Z4 (v:=r3.1) (ix:=a1) 5 rfl h15 rfl rfl rfl rfl rfl rfl rfl rfl rfl) 1 fun _ w12 h16=>?_
 refine Zw [0,1] ?_
 refine T6 (Zd 3 ?_)
 refine Zc (Za 5 h16.wht) ?_
 refine Zd 1 ?_
 refine cE H [7,7] h16 rfl Q27.spec Zp ?_
 rintro r5 w13 _ _ H ⟨A13,c_13,rfl,rfl⟩ h17
 replace h17:=nf h17
 refine Ze [] rfl ?_
 refine ⟨_,Zl,?_⟩
 refine Ze [] rfl ?_
 refine T8 (Zb [4] ?_)
 cases H
 exact T7 (jR ⟨_,_,_,_,_,_,_,_,rfl,rfl⟩ h17 [7,5,5,3,2,3,0,0])

def Q20.f (a0:Ti) (a1:Int):Option TQ:=(Q24.f a0).bind fun r1=>(if r1=true then (some (([]:List Int),1)) else (if (!(Y9 a0.2.2.1 a1))=true then (some (([]:List Int),8)) else (if 0≤(Zv (0:Int) a0.2.2.1 a1)∧(Zv (0:Int) a0.2.2.1 a1)<(a0.2.1.length:Int) then (if (decide (((gt a0.2.1 (Zv (0:Int) a0.2.2.1 a1)).2.2.2)=0))=true then (some (([]:List Int),8)) else ((Q99.f ((gt a0.2.1 (Zv (0:Int) a0.2.2.1 a1)).2.1)).bind fun r2=>(some (r2,0)))) else none)))
theorem Q20.spec {a0 a1 b1 b2 b3 b4 A1 c_1 A2 c_2 A3 c_3 A4 c_4 r} (H:Q20.f a0 a1=some r) :
  Spec Tryz.prog 78 [.pointer (some ⟨b1,0,none⟩),.int .u32 a1] (W9 a0 b1 b2 b3 b4 A1 A2 A3 A4 c_1 c_2 c_3 c_4) [] (fun v l=>∃ A_0 c_0,v=.tuple #[.slice A_0 r.1.length c_0,.int .i64 r.2]∧l=[O5 r.1 A_0 c_0] ++ W9 a0 b1 b2 b3 b4 A1 A2 A3 A4 c_1 c_2 c_3 c_4):=by
 refine Zi Tryz.func78 fun w0 F0 h0=>?_
 replace h0:=nf h0
 unfold Q20.f at H
 refine T8 (Zb [0,1] ?_)
 refine T8 (T6 ?_)
 refine Zd 2 ?_
 refine Ye Tryz.func128 ?_
 refine T8 (Zb [0,1] ?_)
 refine T8 (T8 (T6 ?_))
 refine Zd 1 ?_
 refine cS H [0,0,0,0,0,0,0,0] h0 rfl Q24.spec Zp fun r1 w1 H h1=>?_
 refine Ze [0,1,9] rfl ?_
 refine jIf H (fun c1 H=>?_) fun c1 H=>?_
 ·refine T8 (Zb [4,5] ?_)
  refine T7 (⟨_,Zl,?_⟩)
  refine Ze [6,7] rfl ?_
  refine T8 (T8 (Zb [6,7,15] ?_))
  refine Zn ?_
  refine T8 (Zb [4,5] ?_)
  have h2:=h1.addNil 5 (.int .u8)
  cases H
  exact T7 (jR ⟨_,_,rfl,rfl⟩ h2 [0,0,0,0,0,0,0,0,0])
 refine T9 (T8 (T6 ?_))
 refine Zd 3 ?_
 refine Zc (Za 0 h1.wht) ?_
 refine Zd 1 ?_
 refine Zc (Wp (0:Int) 4 h1.wht) ?_
 refine Ze [0,6,7] rfl ?_
 refine T8 (T8 (T6 ?_))
 refine Zd 3 ?_
 refine Yb 21 H (fun c2 H=>?_) fun c2 H=>?_
 ·refine Ze [0,6,31] rfl ?_
  refine Zn ?_
  refine T8 (Zb [4,5] ?_)
  refine T7 (⟨_,Zl,?_⟩)
  refine Ze [6,7] rfl ?_
  refine T8 (T8 (Zb [6,7,15] ?_))
  refine Zn ?_
  refine T8 (Zb [4,5] ?_)
  have h3:=h1.addNil 5 (.int .u8)
  cases H
  exact T7 (jR ⟨_,_,rfl,rfl⟩ h3 [0,0,0,0,0,0,0,0,0])
 refine Zd 3 ?_
 refine Zc (Za 0 h1.wht) ?_
 refine Zd 1 ?_
 obtain ⟨⟨p1,p2⟩,H⟩:=Zk H
 have e1:=Z0 h1.wh (gO 3) p1 p2
 refine Zc (Zg e1 p1 p2) ?_
 refine Zd 1 ?_
 refine Zc (Xb 3 h1.wht (gO 3) p1 p2) ?_
 refine Ze [0,6,31] rfl ?_
 refine jIf H (fun c3 H=>?_) fun c3 H=>?_
 ·refine T8 (Zb [4,5] ?_)
  refine T7 (⟨_,Zl,?_⟩)
  refine Ze [6,7] rfl ?_
  refine T8 (T8 (Zb [6,7,15] ?_))
  refine Zn ?_
  refine T8 (Zb [4,5] ?_)
  have h4:=h1.addNil 5 (.int .u8)
  cases H
  exact T7 (jR ⟨_,_,rfl,rfl⟩ h4 [0,0,0,0,0,0,0,0,0])
 refine T9 (T8 (T6 ?_))
 refine Zd 3 ?_
 refine Zc (Za 0 h1.wht) ?_
 refine Zd 1 ?_
 refine Zc (Zg e1 p1 p2) ?_
 refine Ze [4,5] rfl ?_
 refine T7 (⟨_,Zl,?_⟩)
 refine Ze [6,7] rfl ?_
 refine T8 (T8 (Zb [6,7,15] ?_))
 refine Z6 ?_
 refine T9 (T8 ?_)
 obtain ⟨A5,c_5,h5⟩:=h1.openI 3 rfl p1 p2
 refine T6 (Zd 3 ?_)
 refine Zc (Bs h5.wht (Zj 0)) ?_
 refine cE H [] h5 rfl Q99.spec (Y5 (Je 0 Zgl) Zp) ?_
 rintro r2 w2 _ _ H ⟨A6,c_6,rfl,rfl⟩ h6
 replace h6:=nf h6
 refine Ze [4,5] rfl ?_
 have h7:=h6.closeI 1 rfl
 cases H
 exact T7 (jR ⟨_,_,rfl,rfl⟩ h7 [1,1,1,1,0,0,0,0,0])

def Q156.f (a0:TX):Option (TQ):=(Q99.f a0).bind fun r1=>(some (r1,0))
theorem Q156.spec {a0 A1 c_1 r} (H:Q156.f a0=some r) :
  SpecA Tryz.prog 65 [.slice A1 a0.length c_1] [] [R5 a0 A1 c_1] (fun v l lr=>∃ b_0 A_1 c_1,v=.pointer (some ⟨b_0,0,none⟩)∧l=[X6 b_0 r.1 A_1 c_1 r.2]∧lr=[R5 r.1 A_1 c_1]):=by
 refine Yp Tryz.func65 fun w0 F0 h0=>?_
 unfold Q156.f at H
 refine T8 (Zb [0] ?_)
 refine T8 (T6 ?_)
 refine Zd 1 ?_
 refine cE H [] h0 rfl Q99.spec (gS [0]) ?_
 rintro r1 w1 _ _ H ⟨A2,c_2,rfl,rfl⟩ h1
 replace h1:=nf h1
 refine Zd 1 ?_
 refine rB (Z9 h1) fun b1 w2 h2=>?_
 refine Ze [2] rfl ?_
 have h3:=h2.freeze (k:=1) rfl Yc
 cases H
 exact T7 (jRA ⟨_,_,_,rfl,rfl,rfl⟩ (sOR h3 [0] [0]))

def Q165.f (a0:TQ) (a1:Int):Option (TQ):=if (decide (a0.2=0))=true then (some (([]:List Int),a1)) else (some (([]:List Int),a0.2))
theorem Q165.spec {a0 a1 A1 c_1 b1 r} (H:Q165.f a0 a1=some r) :
  SpecA Tryz.prog 117 [.pointer (some ⟨b1,0,none⟩),.int .i64 a1] [X6 b1 a0.1 A1 c_1 a0.2] [R5 a0.1 A1 c_1] (fun v l lr=>∃ A_0 c_0,v=.tuple #[]∧l=[X6 b1 r.1 A_0 c_0 r.2]∧lr=[R5 r.1 A_0 c_0]):=by
 refine Yp Tryz.func117 fun w0 F0 h0=>?_
 unfold Q165.f at H
 refine T8 (T8 (T6 ?_))
 refine Zd 3 ?_
 refine Zc (Za 0 h0.wht) ?_
 refine Ze [0,1,8] rfl ?_
 refine jIf H (fun c1 H=>?_) fun c1 H=>?_
 ·refine T6 (Zd 4 ?_)
  refine rS (Zt 0 h0) fun _ w1 h1=>?_
  refine Ze [0] rfl ?_
  refine T6 (Zd 3 ?_)
  refine rS (Zt 0 h1) fun _ w2 h2=>?_
  refine Ze [] rfl ?_
  have h3:=h2.addNil 5 (.int .u8)
  have h4:=h3.freeze (k:=0) rfl Yc
  cases H
  exact ⟨_,_,_,Zl,⟨_,_,rfl,rfl,rfl⟩,sOR h4 [0] [0]⟩
 refine T9 (T6 (Zd 3 ?_))
 refine rS (Zt 0 h0) fun _ w3 h5=>?_
 refine Ze [] rfl ?_
 have h6:=h5.addNil 5 (.int .u8)
 have h7:=h6.freeze (k:=0) rfl Yc
 cases H
 exact ⟨_,_,_,Zl,⟨_,_,rfl,rfl,rfl⟩,sOR h7 [0] [0]⟩

def Q160.f (a0:TQ) (a1:Int):Option (List Int×TQ):=if (!decide (a0.2=0))=true then (some (([]:List Int),a0)) else (if (decide (a1<0))=true then ((Q165.f a0 2).bind fun r1=>(some (([]:List Int),r1))) else (if (decide ((a0.1.length:Int)<a1))=true then ((Q165.f a0 5).bind fun r2=>(some (([]:List Int),r2))) else (if 0≤a1∧a1*1≤281474976710656 then (if 0≤a1∧a1≤(a0.1.length:Int) then (some ((patch (List.replicate a1.toNat (0:Int)) 0 ((List.replicate a1.toNat (0:Int)).length) a0.1),((a0.1.drop a1.toNat),a0.2))) else none) else none)))
theorem Q160.spec {a0 a1 A1 c_1 b1 r} (H:Q160.f a0 a1=some r) :
  SpecA Tryz.prog 114 [.pointer (some ⟨b1,0,none⟩),.int .i64 a1] [X6 b1 a0.1 A1 c_1 a0.2] [R5 a0.1 A1 c_1] (fun v l lr=>∃ A_0 c_0 A_1 c_1,v=.slice A_0 r.1.length c_0∧l=[O5 r.1 A_0 c_0,X6 b1 r.2.1 A_1 c_1 r.2.2]∧lr=[R5 r.2.1 A_1 c_1]):=by
 refine Yp Tryz.func114 fun w0 F0 h0=>?_
 unfold Q160.f at H
 refine T8 (Zb [0,1] ?_)
 refine T8 (T0 (T8 (T6 ?_)))
 refine Zd 6 ?_
 refine Zc (Za 0 h0.wht) ?_
 refine Ze [0,1,6] rfl ?_
 refine jIf H (fun c1 H=>?_) fun c1 H=>?_
 ·refine T8 (Zb [4] ?_)
  have h1:=h0.addNil 5 (.int .u8)
  cases H
  exact T7 (jRA ⟨_,_,_,_,rfl,rfl,rfl⟩ (sOR h1 [0,0] [0]))
 refine T8 (Zb [0,1,16] ?_)
 refine jIf H (fun c2 H=>?_) fun c2 H=>?_
 ·refine T8 (T6 ?_)
  refine Zd 1 ?_
  obtain ⟨r1,q1,H⟩:=Yj H
  refine Zs (Ya [0] (Q165.spec q1) h0 rfl (gS [0])) ?_
  rintro _ w1 ⟨_,_,⟨A2,c_2,rfl,rfl,rfl⟩,h2⟩
  replace h2:=nf h2
  refine Ze [] rfl ?_
  refine T8 (Zb [4] ?_)
  have h3:=h2.addNil 5 (.int .u8)
  cases H
  exact T7 (jRA ⟨_,_,_,_,rfl,rfl,rfl⟩ (sOR h3 [0,0] [0]))
 refine T8 (T6 ?_)
 refine Zd 4 ?_
 refine Zc (Za 0 h0.wht) ?_
 refine Ze [0,1,21] rfl ?_
 refine jIf H (fun c3 H=>?_) fun c3 H=>?_
 ·refine T8 (T6 ?_)
  refine Zd 1 ?_
  obtain ⟨r2,q2,H⟩:=Yj H
  refine Zs (Ya [0] (Q165.spec q2) h0 rfl (gS [0])) ?_
  rintro _ w2 ⟨_,_,⟨A3,c_3,rfl,rfl,rfl⟩,h4⟩
  replace h4:=nf h4
  refine Ze [] rfl ?_
  refine T8 (Zb [4] ?_)
  have h5:=h4.addNil 5 (.int .u8)
  cases H
  exact T7 (jRA ⟨_,_,_,_,rfl,rfl,rfl⟩ (sOR h5 [0,0] [0]))
 refine T9 (T8 (T6 ?_))
 refine Zd 1 ?_
 obtain ⟨⟨p1,p2⟩,H⟩:=Zk H
 refine rB (Gc Z4 (ty:=(.int .u8)) rfl (0:Int) rfl rfl rfl rfl rfl rfl rfl (by decide) h0 p1 p2) fun b2 w3 h6=>?_
 refine Ze [0,1,5] rfl ?_
 refine T8 (T6 ?_)
 refine Zd 4 ?_
 refine Zc (Za 1 h6.wht) ?_
 have e1:0+(List.replicate a1.toNat (0:Int)).length≤(List.replicate a1.toNat (0:Int)).length:=by first | omega | (simp only [List.length_take,List.length_drop]; omega)
 refine Zs (Zes Z4 (ty:=(.int .u8)) (xs:=(List.replicate a1.toNat (0:Int))) (ys:=a0.1) rfl 0 rfl h6 rfl (Zj 1) rfl rfl rfl rfl rfl rfl e1) ?_
 rintro _ w4 ⟨rfl,h7⟩
 replace h7:=nf h7
 refine Ze [0,1,5] rfl ?_
 refine T2 (env':=[(0,.pointer (some ⟨b1,0,none⟩)),(1,.int .i64 a1),(5,.slice (some ⟨b2,0,none⟩) (patch (List.replicate a1.toNat (0:Int)) 0 ((List.replicate a1.toNat (0:Int)).length) a0.1).length (a1.toNat))]) (by simp only [Xx e1,List.length_nil] <;> rfl) ?_
 refine T8 (T6 ?_)
 refine Zd 4 ?_
 refine Zc (Za 1 h7.wht) ?_
 refine Zd 1 ?_
 obtain ⟨⟨p3,p4⟩,H⟩:=Zk H
 have e2:=h7.cap (Zj 2)
 refine Zc (W0 (a0.1.drop a1.toNat) a1 (a0.1.length:Int) e2 p3 p4 (Int.le_refl _) (Yn _ _)) ?_
 refine Zd 2 ?_
 refine rS (Zt 1 h7) fun _ w5 h8=>?_
 refine Ze [5] rfl ?_
 refine T8 (Zb [4] ?_)
 have h9:=h8.read (k:=0) rfl (Wq (.int .u8) (a0.1.drop a1.toNat) a1 (a0.1.length:Int) p3 p4 (Int.le_refl _) (Yn _ _))
 cases H
 exact T7 (jRA ⟨_,_,_,_,rfl,rfl,rfl⟩ (sOR h9 [1,0] [0]))

def Q159.l0:Nat→(List Int×TQ)→Int→Int→Option (Int×TQ)
 | 0,_,_,_=>none
 | k+1,r2,x2,x3=>if (decide (x3<(r2.1.length:Int)))=true then (if 0≤x3∧x3<(r2.1.length:Int) then (Q159.l0 k r2 (IntKind.u64.wrap (((BitVec.ofInt IntKind.u64.bits (IntKind.u64.wrap (x2*2 ^ 8)) ||| (BitVec.ofInt IntKind.u64.bits (IntKind.u64.wrap ((gt r2.1 x3))))).toNat:Int))) (w64 (x3+1))) else none) else (some (x2,r2.2))
def Q159.f (k:Nat) (a0:TQ) (a1:Int):Option (Int×TQ):=(Q166.f a1).bind fun r1=>(if (!r1)=true then ((Q160.f a0 (-1)).bind fun r2=>(Q159.l0 k r2 0 0)) else ((Q160.f a0 a1).bind fun r2=>(Q159.l0 k r2 0 0)))
theorem Q159.spec {k a0 a1 A1 c_1 b1 r} (H:Q159.f k a0 a1=some r) :
  SpecA Tryz.prog 66 [.pointer (some ⟨b1,0,none⟩),.int .i64 a1] [X6 b1 a0.1 A1 c_1 a0.2] [R5 a0.1 A1 c_1] (fun v l lr=>∃ A_0 c_0,v=.int .u64 r.1∧l=[X6 b1 r.2.1 A_0 c_0 r.2.2]∧lr=[R5 r.2.1 A_0 c_0]):=by
 refine Yp Tryz.func66 fun w0 F0 h0=>?_
 unfold Q159.f at H
 refine T8 (Zb [0,1] ?_)
 refine T8 (T8 (T6 ?_))
 refine Zd 1 ?_
 refine cS H [] h0 rfl Q166.spec Zp fun r1 w1 H h1=>?_
 refine Ze [0,1,10] rfl ?_
 refine T5 (fun env w=>∃(k1:Nat) (x1:Int),env=[(0,.pointer (some ⟨b1,0,none⟩)),(1,.int .i64 x1)]∧St w0 F0 [X6 b1 a0.1 A1 c_1 a0.2] [R5 a0.1 A1 c_1] w∧((Q160.f a0 x1).bind fun r2=>(Q159.l0 k1 r2 0 0))=some r∧k1≤k) ?_ ?_
 ·refine jIf H (fun c2 H=>?_) fun c2 H=>?_
  ·refine Zb [0,1] ?_
   have h7:=(sOR h1 [0] [0])
   exact ⟨k,(-1),rfl,h7,H,Sa _⟩
  refine Wk [0,1] ?_
  refine T9 ?_
  have h8:=(sOR h1 [0] [0])
  exact ⟨k,a1,rfl,h8,H,Sa _⟩
 rintro env w3 ⟨k1,x1,rfl,h2,H,hk1⟩
 refine T8 (Zb [0,1,5] ?_)
 refine T8 (T8 (T6 ?_))
 refine Zd 2 ?_
 obtain ⟨r2,q2,H⟩:=Yj H
 refine Zs (Ya [0] (Q160.spec q2) h2 rfl (gS [0])) ?_
 rintro _ w4 ⟨_,_,⟨A2,c_2,A3,c_3,rfl,rfl,rfl⟩,h3⟩
 replace h3:=nf h3
 refine Ze [5,13,14,15] rfl ?_
 refine T0 ?_
 have h6:=(sOR h3 [1,0] [0])
 refine T4 (fun kk env w=>∃ x2 x3,Q159.l0 kk r2 x2 x3=some r∧env=[(5,.int .u64 x2),(13,.slice A2 r2.1.length c_2),(14,.int .i64 (r2.1.length:Int)),(15,.int .i64 x3)]∧St w0 F0 [X6 b1 r2.2.1 A3 c_3 r2.2.2,O5 r2.1 A2 c_2] [R5 r2.2.1 A3 c_3] w) (k:=k1) ⟨_,_,H,rfl,h6⟩ ?_
 rintro k2 env w5 ⟨x2,x3,H,rfl,h4⟩
 rcases k2 with _ | k2
 ·exact z0 H
 rw [Q159.l0] at H
 refine T8 (Zb [5,13,14,15,16] ?_)
 refine T8 (jIf H (fun c1 H=>?_) fun c1 H=>?_)
 ·refine T9 (T8 (T0 (T8 (T6 ?_))))
  obtain ⟨⟨p1,p2⟩,H⟩:=Zk H
  have e1:=Z0 h4.wh (gO 1) p1 p2
  refine Zc (Zg e1 p1 p2) ?_
  refine Zc (Zh 0 h4.wht (gO 1) p1 p2) ?_
  refine Ze [5,7,13,14,15] rfl ?_
  refine Zb [5,13,14,15] ?_
  refine Zb [5,13,14,15] ?_
  have h5:=(sOR h4 [0,0] [0])
  exact ⟨k2,by omega,_,_,H,rfl,h5⟩
 refine T3 (T8 (Zb [4] ?_))
 cases H
 exact T7 (jRA ⟨_,_,rfl,rfl,rfl⟩ (sOR h4 [0] [0]))

def Q164.f (a0:Int):Option (Bool):=some (!decide (a0=0))
theorem Q164.spec {a0 r} (H:Q164.f a0=some r) :
  Spec Tryz.prog 116 [.int .u8 a0] [] [] (fun v l=>v=.bool r∧l=[]):=by
 refine Zi Tryz.func116 fun w0 F0 h0=>?_
 unfold Q164.f at H
 refine T8 (Zb [0] ?_)
 refine T8 (Zb [2] ?_)
 cases H
 exact T7 (jR0 h0 [])

def Q112.l0:Nat→TX→Int→Option (Int)
 | 0,_,_=>none
 | k+1,a0,x1=>if (decide (x1<(a0.length:Int)))=true then (if 0≤x1∧x1<(a0.length:Int) then ((Q164.f (gt a0 x1)).bind fun r1=>(if r1=true then (some x1) else (Q112.l0 k a0 (w64 (x1+1))))) else none) else (some (-1))
def Q112.f (k:Nat) (a0:TX):Option (Int):=Q112.l0 k a0 0
theorem Q112.spec {k a0 A1 c_1 r} (H:Q112.f k a0=some r) :
  Spec Tryz.prog 163 [.slice A1 a0.length c_1,.func (.func 116) #[] #[]] [] [R5 a0 A1 c_1] (fun v l=>v=.int .i64 r∧l=[]):=by
 refine Zi Tryz.func163 fun w0 F0 h0=>?_
 unfold Q112.f at H
 refine T8 (Zb [0,1] ?_)
 refine T8 (T8 (Zb [0,1,7,8] ?_))
 refine T0 ?_
 have h4:=(sOR h0 [] [0])
 refine T4 (fun kk env w=>∃ x1,Q112.l0 kk a0 x1=some r∧env=[(0,.slice A1 a0.length c_1),(1,.func (.func 116) #[] #[]),(7,.int .i64 (a0.length:Int)),(8,.int .i64 x1)]∧St w0 F0 [] [R5 a0 A1 c_1] w) (k:=k) ⟨_,H,rfl,h4⟩ ?_
 rintro k1 env w1 ⟨x1,H,rfl,h1⟩
 rcases k1 with _ | k1
 ·exact z0 H
 rw [Q112.l0] at H
 refine T8 (Zb [0,1,7,8,9] ?_)
 refine T8 (jIf H (fun c1 H=>?_) fun c1 H=>?_)
 ·refine T9 (T8 (T0 (T8 (Zb [0,1,5,7,8] ?_))))
  refine T8 (T6 ?_)
  refine Zd 3 ?_
  obtain ⟨⟨p1,p2⟩,H⟩:=Zk H
  have e1:=Z0 h1.wh (Zj 0) p1 p2
  refine Zc (Zg e1 p1 p2) ?_
  refine Zc (Zh 0 h1.wht (Zj 0) p1 p2) ?_
  refine cS H [] h1 rfl Q164.spec Zp fun r1 w2 H h2=>?_
  refine Ze [0,1,5,7,8,16] rfl ?_
  refine jIf H (fun c2 H=>?_) fun c2 H=>?_
  ·refine T8 (Zb [4] ?_)
   cases H
   exact T7 (jR0 h2 [])
  refine T9 (Zb [0,1,7,8] ?_)
  have h3:=(sOR h2 [] [0])
  exact ⟨k1,by omega,_,H,rfl,h3⟩
 refine T3 (T8 (Zb [4] ?_))
 cases H
 exact T7 (jR0 h1 [])

def Q105.f (k:Nat) (a0:TX):Option (Bool):=(Q112.f k a0).bind fun r1=>(some (decide (0≤r1)))
theorem Q105.spec {k a0 A1 c_1 r} (H:Q105.f k a0=some r) :
  Spec Tryz.prog 115 [.slice A1 a0.length c_1,.func (.func 116) #[] #[]] [] [R5 a0 A1 c_1] (fun v l=>v=.bool r∧l=[]):=by
 refine Zi Tryz.func115 fun w0 F0 h0=>?_
 unfold Q105.f at H
 refine T8 (Zb [0,1] ?_)
 refine T8 (T6 ?_)
 refine Zd 2 ?_
 refine cS H [] h0 rfl Q112.spec (gS [0]) fun r1 w1 H h1=>?_
 refine Ze [4] rfl ?_
 cases H
 exact T7 (jR0 h1 [])

def Q163.f (k:Nat) (a0:TQ) (a1:Int):Option (TQ):=(Q160.f a0 a1).bind fun r1=>((Q105.f k r1.1).bind fun r2=>(if r2=true then ((Q165.f r1.2 3).bind fun r3=>(some r3)) else (some r1.2)))
theorem Q163.spec {k a0 a1 A1 c_1 b1 r} (H:Q163.f k a0 a1=some r) :
  SpecA Tryz.prog 67 [.pointer (some ⟨b1,0,none⟩),.int .i64 a1] [X6 b1 a0.1 A1 c_1 a0.2] [R5 a0.1 A1 c_1] (fun v l lr=>∃ A_0 c_0,v=.tuple #[]∧l=[X6 b1 r.1 A_0 c_0 r.2]∧lr=[R5 r.1 A_0 c_0]):=by
 refine Yp Tryz.func67 fun w0 F0 h0=>?_
 unfold Q163.f at H
 refine T8 (T6 ?_)
 refine Zd 2 ?_
 obtain ⟨r1,q1,H⟩:=Yj H
 refine Zs (Ya [0] (Q160.spec q1) h0 rfl (gS [0])) ?_
 rintro _ w1 ⟨_,_,⟨A2,c_2,A3,c_3,rfl,rfl,rfl⟩,h1⟩
 replace h1:=nf h1
 refine cS H [] h1 rfl Q105.spec (Y5 (gO 0) Zp) fun r2 w2 H h2=>?_
 refine Ze [0,7] rfl ?_
 refine jIf H (fun c1 H=>?_) fun c1 H=>?_
 ·refine T6 (Zd 1 ?_)
  obtain ⟨r3,q3,H⟩:=Yj H
  refine Zs (Ya [1] (Q165.spec q3) h2 rfl (gS [0])) ?_
  rintro _ w3 ⟨_,_,⟨A4,c_4,rfl,rfl,rfl⟩,h3⟩
  replace h3:=nf h3
  refine Ze [] rfl ?_
  cases H
  exact ⟨_,_,_,Zl,⟨_,_,rfl,rfl,rfl⟩,sOR h3 [0] [0]⟩
 refine T9 ?_
 cases H
 exact ⟨_,_,_,Zl,⟨_,_,rfl,rfl,rfl⟩,sOR h2 [1] [0]⟩

def Q162.f (a0:Int):Option (Bool):=some (!decide (a0=0))
theorem Q162.spec {a0 r} (H:Q162.f a0=some r) :
  Spec Tryz.prog 164 [.int .u8 a0] [] [] (fun v l=>v=.bool r∧l=[]):=by
 refine Zi Tryz.func164 fun w0 F0 h0=>?_
 unfold Q162.f at H
 refine T8 (Zb [0] ?_)
 refine T8 (Zb [2] ?_)
 cases H
 exact T7 (jR0 h0 [])

def Q111.l0:Nat→TX→Int→Option (Int)
 | 0,_,_=>none
 | k+1,a0,x1=>if (decide (x1<(a0.length:Int)))=true then (if 0≤x1∧x1<(a0.length:Int) then ((Q162.f (gt a0 x1)).bind fun r1=>(if r1=true then (some x1) else (Q111.l0 k a0 (w64 (x1+1))))) else none) else (some (-1))
def Q111.f (k:Nat) (a0:TX):Option (Int):=Q111.l0 k a0 0
theorem Q111.spec {k a0 A1 c_1 r} (H:Q111.f k a0=some r) :
  Spec Tryz.prog 163 [.slice A1 a0.length c_1,.func (.func 164) #[] #[]] [] [R5 a0 A1 c_1] (fun v l=>v=.int .i64 r∧l=[]):=by
 refine Zi Tryz.func163 fun w0 F0 h0=>?_
 unfold Q111.f at H
 refine T8 (Zb [0,1] ?_)
 refine T8 (T8 (Zb [0,1,7,8] ?_))
 refine T0 ?_
 have h4:=(sOR h0 [] [0])
 refine T4 (fun kk env w=>∃ x1,Q111.l0 kk a0 x1=some r∧env=[(0,.slice A1 a0.length c_1),(1,.func (.func 164) #[] #[]),(7,.int .i64 (a0.length:Int)),(8,.int .i64 x1)]∧St w0 F0 [] [R5 a0 A1 c_1] w) (k:=k) ⟨_,H,rfl,h4⟩ ?_
 rintro k1 env w1 ⟨x1,H,rfl,h1⟩
 rcases k1 with _ | k1
 ·exact z0 H
 rw [Q111.l0] at H
 refine T8 (Zb [0,1,7,8,9] ?_)
 refine T8 (jIf H (fun c1 H=>?_) fun c1 H=>?_)
 ·refine T9 (T8 (T0 (T8 (Zb [0,1,5,7,8] ?_))))
  refine T8 (T6 ?_)
  refine Zd 3 ?_
  obtain ⟨⟨p1,p2⟩,H⟩:=Zk H
  have e1:=Z0 h1.wh (Zj 0) p1 p2
  refine Zc (Zg e1 p1 p2) ?_
  refine Zc (Zh 0 h1.wht (Zj 0) p1 p2) ?_
  refine cS H [] h1 rfl Q162.spec Zp fun r1 w2 H h2=>?_
  refine Ze [0,1,5,7,8,16] rfl ?_
  refine jIf H (fun c2 H=>?_) fun c2 H=>?_
  ·refine T8 (Zb [4] ?_)
   cases H
   exact T7 (jR0 h2 [])
  refine T9 (Zb [0,1,7,8] ?_)
  have h3:=(sOR h2 [] [0])
  exact ⟨k1,by omega,_,H,rfl,h3⟩
 refine T3 (T8 (Zb [4] ?_))
 cases H
 exact T7 (jR0 h1 [])

def Q104.f (k:Nat) (a0:TX):Option (Bool):=(Q111.f k a0).bind fun r1=>(some (decide (0≤r1)))
theorem Q104.spec {k a0 A1 c_1 r} (H:Q104.f k a0=some r) :
  Spec Tryz.prog 115 [.slice A1 a0.length c_1,.func (.func 164) #[] #[]] [] [R5 a0 A1 c_1] (fun v l=>v=.bool r∧l=[]):=by
 refine Zi Tryz.func115 fun w0 F0 h0=>?_
 unfold Q104.f at H
 refine T8 (Zb [0,1] ?_)
 refine T8 (T6 ?_)
 refine Zd 2 ?_
 refine cS H [] h0 rfl Q111.spec (gS [0]) fun r1 w1 H h1=>?_
 refine Ze [4] rfl ?_
 cases H
 exact T7 (jR0 h1 [])

def Q161.f (k:Nat) (a0:TQ) (a1:Int) (a2:Int):Option (List UInt8×TQ):=if (decide (a1<0))=true then ((Q165.f a0 2).bind fun r1=>(some (([]:List UInt8),r1))) else (if (decide (a2<a1))=true then ((Q165.f a0 2).bind fun r2=>(some (([]:List UInt8),r2))) else ((Q160.f a0 a2).bind fun r3=>(if (decide ((r3.1.length:Int)<a2))=true then (some (([]:List UInt8),r3.2)) else (if 0≤a1∧a1≤(r3.1.length:Int) then ((Q104.f k (r3.1.drop a1.toNat)).bind fun r4=>(if r4=true then ((Q165.f r3.2 3).bind fun r5=>(some (([]:List UInt8),r5))) else (if (0:Int)≤a1∧a1≤(r3.1.length:Int) then (some ((toS (r3.1.take a1.toNat)),r3.2)) else none))) else none))))
theorem Q161.spec {k a0 a1 a2 A1 c_1 b1 r} (H:Q161.f k a0 a1 a2=some r) :
  SpecA Tryz.prog 119 [.pointer (some ⟨b1,0,none⟩),.int .i64 a1,.int .i64 a2] [X6 b1 a0.1 A1 c_1 a0.2] [R5 a0.1 A1 c_1] (fun v l lr=>∃ A_0 c_0,v=.string ⟨⟨r.1⟩⟩∧l=[X6 b1 r.2.1 A_0 c_0 r.2.2]∧lr=[R5 r.2.1 A_0 c_0]):=by
 refine Yp Tryz.func119 fun w0 F0 h0=>?_
 unfold Q161.f at H
 refine T8 (Zb [0,1,2] ?_)
 refine T8 (T8 (Zb [0,1,2,9] ?_))
 refine Z6 ?_
 refine T9 (T8 (T8 (T6 ?_)))
 refine Zd 3 ?_
 refine Yb 12 H (fun c1 H=>?_) fun c1 H=>?_
 ·refine Ze [0,1,2,16] rfl ?_
  refine Zn ?_
  refine T8 (T6 ?_)
  refine Zd 1 ?_
  obtain ⟨r1,q1,H⟩:=Yj H
  refine Zs (Ya [0] (Q165.spec q1) h0 rfl (gS [0])) ?_
  rintro _ w1 ⟨_,_,⟨A2,c_2,rfl,rfl,rfl⟩,h1⟩
  replace h1:=nf h1
  refine Ze [] rfl ?_
  refine T8 (Zb [6] ?_)
  cases H
  exact T7 (jRA ⟨_,_,rfl,rfl,rfl⟩ (sOR h1 [0] [0]))
 refine Ze [0,1,2,16] rfl ?_
 refine jIf H (fun c2 H=>?_) fun c2 H=>?_
 ·refine T8 (T6 ?_)
  refine Zd 1 ?_
  obtain ⟨r2,q2,H⟩:=Yj H
  refine Zs (Ya [0] (Q165.spec q2) h0 rfl (gS [0])) ?_
  rintro _ w2 ⟨_,_,⟨A3,c_3,rfl,rfl,rfl⟩,h2⟩
  replace h2:=nf h2
  refine Ze [] rfl ?_
  refine T8 (Zb [6] ?_)
  cases H
  exact T7 (jRA ⟨_,_,rfl,rfl,rfl⟩ (sOR h2 [0] [0]))
 refine T9 (T8 (T6 ?_))
 refine Zd 2 ?_
 obtain ⟨r3,q3,H⟩:=Yj H
 refine Zs (Ya [0] (Q160.spec q3) h0 rfl (gS [0])) ?_
 rintro _ w3 ⟨_,_,⟨A4,c_4,A5,c_5,rfl,rfl,rfl⟩,h3⟩
 replace h3:=nf h3
 refine Ze [0,1,2,7] rfl ?_
 refine T8 (T8 (Zb [0,1,7,25] ?_))
 refine jIf H (fun c3 H=>?_) fun c3 H=>?_
 ·refine T8 (Zb [6] ?_)
  cases H
  exact T7 (jRA ⟨_,_,rfl,rfl,rfl⟩ (sOR h3 [1] [0]))
 refine T9 (T8 (T8 (T6 ?_)))
 refine Zd 2 ?_
 obtain ⟨⟨p1,p2⟩,H⟩:=Zk H
 have e1:=h3.cap (gO 0)
 refine Zc (W0 (r3.1.drop a1.toNat) a1 (r3.1.length:Int) e1 p1 p2 (Int.le_refl _) (Yn _ _)) ?_
 refine cS H [] h3 rfl Q104.spec (Y5 ((Gives.of 0 rfl Yc).trans (Wq (.int .u8) (r3.1.drop a1.toNat) a1 (r3.1.length:Int) p1 p2 (Int.le_refl _) (Yn _ _))) Zp) fun r4 w4 H h4=>?_
 refine Ze [0,1,7,29] rfl ?_
 refine jIf H (fun c4 H=>?_) fun c4 H=>?_
 ·refine T8 (T6 ?_)
  refine Zd 1 ?_
  obtain ⟨r5,q5,H⟩:=Yj H
  refine Zs (Ya [1] (Q165.spec q5) h4 rfl (gS [0])) ?_
  rintro _ w5 ⟨_,_,⟨A6,c_6,rfl,rfl,rfl⟩,h5⟩
  replace h5:=nf h5
  refine Ze [] rfl ?_
  refine T8 (Zb [6] ?_)
  cases H
  exact T7 (jRA ⟨_,_,rfl,rfl,rfl⟩ (sOR h5 [0] [0]))
 refine T9 (T8 (T6 ?_))
 refine Zd 2 ?_
 obtain ⟨⟨p3,p4⟩,H⟩:=Zk H
 have e2:=h4.cap (gO 0)
 refine Zc (Yy (r3.1.take a1.toNat) a1 e2 p3 p4) ?_
 refine Zc (Zft h4.wht ((Gives.of 0 rfl Yc).trans (Y3 (.int .u8) (r3.1.take a1.toNat) a1 p3 p4))) ?_
 refine Ze [6] rfl ?_
 cases H
 exact T7 (jRA ⟨_,_,rfl,rfl,rfl⟩ (sOR h4 [1] [0]))

def Q45.f (k:Nat) (a0:Tq) (a1:TQ):Option (List UInt8×List UInt8×TQ):=(Q159.f k a1 1).bind fun r1=>((Q159.f k r1.2 2).bind fun r2=>((Q161.f k r2.2 (w64 (r1.1)) a0.2.2.2.2.2.2.1).bind fun r3=>((Q161.f k r3.2 (w64 (r2.1)) a0.2.2.2.2.2.2.2).bind fun r4=>(some (r3.1,r4.1,r4.2)))))
theorem Q45.spec {k a0 a1 A1 c_1 b1 r} (H:Q45.f k a0 a1=some r) :
  SpecA Tryz.prog 118 [.agg #[.int .i64 a0.1,.int .i64 a0.2.1,.int .i64 a0.2.2.1,.int .i64 a0.2.2.2.1,.int .i64 a0.2.2.2.2.1,.int .i64 a0.2.2.2.2.2.1,.int .i64 a0.2.2.2.2.2.2.1,.int .i64 a0.2.2.2.2.2.2.2],.pointer (some ⟨b1,0,none⟩)] [X6 b1 a1.1 A1 c_1 a1.2] [R5 a1.1 A1 c_1] (fun v l lr=>∃ A_0 c_0,v=.tuple #[.string ⟨⟨r.1⟩⟩,.string ⟨⟨r.2.1⟩⟩]∧l=[X6 b1 r.2.2.1 A_0 c_0 r.2.2.2]∧lr=[R5 r.2.2.1 A_0 c_0]):=by
 refine Yp Tryz.func118 fun w0 F0 h0=>?_
 unfold Q45.f at H
 refine T8 (T6 ?_)
 refine rB (Z9 h0) fun b2 w1 h1=>?_
 refine Ze [1,2] rfl ?_
 refine T8 (T6 ?_)
 refine Zd 1 ?_
 obtain ⟨r1,q1,H⟩:=Yj H
 refine Zs (Ya [1] (Q159.spec q1) h1 rfl (gS [0])) ?_
 rintro _ w2 ⟨_,_,⟨A2,c_2,rfl,rfl,rfl⟩,h2⟩
 replace h2:=nf h2
 refine Zd 2 ?_
 obtain ⟨r2,q2,H⟩:=Yj H
 refine Zs (Ya [0] (Q159.spec q2) h2 rfl (gS [0])) ?_
 rintro _ w3 ⟨_,_,⟨A3,c_3,rfl,rfl,rfl⟩,h3⟩
 replace h3:=nf h3
 refine Ze [1,2,6,7] rfl ?_
 refine T8 (Zz (sO h3 [1]) ?_)
 have h4:=h3.drew
 refine Zo [0,1,2,5,6,7] ?_
 refine Zf 3 rfl (Za 0 wI) ?_
 refine Zf 8 rfl (Za 0 wI) ?_
 obtain ⟨r3,q3,H⟩:=Yj H
 refine Zx 4 rfl (Ya [0] (Q161.spec q3) h4 rfl (gS [0])) ?_
 rintro _ w4 ⟨_,_,⟨A4,c_4,rfl,rfl,rfl⟩,h5⟩
 replace h5:=nf h5
 refine ⟨⟨[_],(Ua h5 [1,2,3])⟩,?_⟩
 obtain ⟨r4,q4,H⟩:=Yj H
 refine Zx 9 rfl (Ya [0] (Q161.spec q4) h5 rfl (gS [0])) ?_
 rintro _ w5 ⟨_,_,⟨A5,c_5,rfl,rfl,rfl⟩,h6⟩
 replace h6:=nf h6
 refine ⟨⟨[_],(Ua h6 [2,3,4])⟩,?_⟩
 refine Zo [10,11] ?_
 refine Zw [4,5] ?_
 cases H
 exact T7 (jRA ⟨_,_,rfl,rfl,rfl⟩ (sOR h6 [0] [0]))

def Q44.l0:Nat→Tq→Int→TX→Int→TA→Int→Option Tj
 | 0,_,_,_,_,_,_=>none
 | k+1,a0,a2,x1,x2,x3,x4=>if (decide (x4<(if a0.2.2.2.2.2.1<a2 then a0.2.2.2.2.2.1 else a2)))=true then ((Q45.f k a0 (x1,x2)).bind fun r1=>(if (x3.length+([(r1.1,r1.2.1)]:List TF).length)*32≤140737488355328 then (Q44.l0 k a0 a2 r1.2.2.1 r1.2.2.2 (x3 ++ ([(r1.1,r1.2.1)]:List TF)) (w64 (x4+1))) else none)) else (some ((0,([]:List Int),([]:List TS),([]:List TB),x3),(x1,x2)))
def Q44.f (k:Nat) (a0:Tq) (a1:TQ) (a2:Int):Option Tj:=Q44.l0 k a0 a2 a1.1 a1.2 ([]:List TF) 0
theorem Q44.spec {k a0 a1 a2 A1 c_1 b1 r} (H:Q44.f k a0 a1 a2=some r) :
  SpecA Tryz.prog 68 [.agg #[.int .i64 a0.1,.int .i64 a0.2.1,.int .i64 a0.2.2.1,.int .i64 a0.2.2.2.1,.int .i64 a0.2.2.2.2.1,.int .i64 a0.2.2.2.2.2.1,.int .i64 a0.2.2.2.2.2.2.1,.int .i64 a0.2.2.2.2.2.2.2],.pointer (some ⟨b1,0,none⟩),.int .i64 a2] [X6 b1 a1.1 A1 c_1 a1.2] [R5 a1.1 A1 c_1] (fun v l lr=>∃ A_0 c_0 A_1 c_1 A_2 c_2 A_3 c_3 A_4 c_4,v=.agg #[.int .i64 r.1.1,.slice A_0 r.1.2.1.length c_0,.slice A_1 r.1.2.2.1.length c_1,.slice A_2 r.1.2.2.2.1.length c_2,.slice A_3 r.1.2.2.2.2.length c_3]∧l=[O33 r.1.2.1 A_0 c_0,O9 r.1.2.2.1 A_1 c_1,Wy r.1.2.2.2.1 A_2 c_2,Xt r.1.2.2.2.2 A_3 c_3,X6 b1 r.2.1 A_4 c_4 r.2.2]∧lr=[R5 r.2.1 A_4 c_4]):=by
 refine Yp Tryz.func68 fun w0 F0 h0=>?_
 unfold Q44.f at H
 refine T8 (T6 ?_)
 refine rB (Z9 h0) fun b2 w1 h1=>?_
 refine rB (Yt h1) fun b3 w2 h2=>?_
 refine Ze [1,2,3,6] rfl ?_
 refine T8 (T6 ?_)
 refine Zd 1 ?_
 refine rB (Yt h2) fun b4 w3 h3=>?_
 refine rS (Zt 0 h3) fun _ w4 h4=>?_
 refine Ze [1,2,3,6,7] rfl ?_
 refine T8 (T8 (T6 ?_))
 refine Zd 2 ?_
 refine Zc (Za 2 h4.wht) ?_
 refine Ze [1,3,6,7,14,15] rfl ?_
 refine T0 ?_
 have h16:=h4.addNil 106 (.pair .str .str)
 have h17:=(sOR h16 [4,3,2,1,0] [0])
 refine T4 (fun kk env w=>∃ x1 A2 c_2 x2 x3 A3 c_3 x4,Q44.l0 kk a0 a2 x1 x2 x3 x4=some r∧env=[(1,.pointer (some ⟨b1,0,none⟩)),(3,.pointer (some ⟨b2,0,none⟩)),(6,.pointer (some ⟨b3,0,none⟩)),(7,.pointer (some ⟨b4,0,none⟩)),(14,.int .i64 (if a0.2.2.2.2.2.1<a2 then a0.2.2.2.2.2.1 else a2)),(15,.int .i64 x4)]∧St w0 F0 [X6 b1 x1 A2 c_2 x2,X23 b2 a0.1 a0.2.1 a0.2.2.1 a0.2.2.2.1 a0.2.2.2.2.1 a0.2.2.2.2.2.1 a0.2.2.2.2.2.2.1 a0.2.2.2.2.2.2.2,X43 b3 0 ([]:List Int) none 0 ([]:List TS) none 0 ([]:List TB) none 0 ([]:List TF) none 0,X43 b4 0 ([]:List Int) none 0 ([]:List TS) none 0 ([]:List TB) none 0 x3 A3 c_3,Xt x3 A3 c_3] [R5 x1 A2 c_2] w) (k:=k) ⟨_,_,_,_,_,_,_,_,H,rfl,h17⟩ ?_
 rintro k1 env w5 ⟨x1,A2,c_2,x2,x3,A3,c_3,x4,H,rfl,h5⟩
 rcases k1 with _ | k1
 ·exact z0 H
 rw [Q44.l0] at H
 refine T8 (Zb [1,3,6,7,14,15,16] ?_)
 refine T8 (jIf H (fun c1 H=>?_) fun c1 H=>?_)
 ·refine T9 (T8 (T0 (T8 (T6 ?_))))
  refine Zc (Za 1 h5.wht) ?_
  refine Zd 1 ?_
  obtain ⟨r1,q1,H⟩:=Yj H
  refine Zs (Ya [0] (Q45.spec q1) h5 rfl (gS [0])) ?_
  rintro _ w6 ⟨_,_,⟨A4,c_4,rfl,rfl,rfl⟩,h6⟩
  replace h6:=nf h6
  refine Ze [1,3,6,7,8,9,14,15] rfl ?_
  refine T6 (Zd 1 ?_)
  refine Zc (Za 3 h6.wht) ?_
  refine Zd 3 ?_
  refine rB (Z1 (.pair .str .str) ([(r1.1,r1.2.1)]:List TF) h6) fun b5 w7 h7=>?_
  obtain ⟨p1,H⟩:=Zk H
  refine Zs (Zr 5 h7 (gO 0) p1) ?_
  rintro _ w8 ⟨A5,c_5,rfl,h8⟩
  replace h8:=nf h8
  refine Zd 1 ?_
  refine rS (Zt 5 h8) fun _ w9 h9=>?_
  refine Ze [1,3,6,7,14,15] rfl ?_
  refine Zb [1,3,6,7,14,15] ?_
  have h10:=(sOR h9 [3,3,3,0,0] [0])
  exact ⟨k1,by omega,_,_,_,_,_,_,_,_,H,rfl,h10⟩
 refine T3 (T8 (T6 ?_))
 refine Zc (Za 3 h5.wht) ?_
 refine rS (Zt 2 h5) fun _ w10 h11=>?_
 refine Ze [6] rfl ?_
 have h12:=sO h11 [0,0,2]
 replace h12:=nf h12
 have h13:=h12.addNil 33 (.int .u32)
 have h14:=h13.addNil 9 .str
 have h15:=h14.addNil 115 (.pair .str (.pair .bool .str))
 cases H
 exact T7 (Zl2 (Z8 (Sh Z4 3 h15 rfl rfl rfl rfl) Y1) ⟨_,_,_,_,_,_,_,_,_,_,rfl,rfl,rfl⟩ (sOR h15 [2,1,0,2,1] [0]))

def Q43.l2:Nat→Tq→Int→Int→TX→TM→TX→Int→Tv→Int→Option Tj
 | 0,_,_,_,_,_,_,_,_,_=>none
 | k+1,a0,a2,a4,x3,x7,x9,x10,x11,x12=>if (decide (x12<(if a0.2.2.2.2.1<a4 then a0.2.2.2.2.1 else a4)))=true then ((Q159.f k (x9,x10) 1).bind fun r4=>((Q45.f k a0 r4.2).bind fun r5=>(if (x11.length+([(r5.1,(decide (r4.1=2)),r5.2.1)]:List TB).length)*40≤140737488355328 then (Q43.l2 k a0 a2 a4 x3 x7 r5.2.2.1 r5.2.2.2 (x11 ++ ([(r5.1,(decide (r4.1=2)),r5.2.1)]:List TB)) (w64 (x12+1))) else none))) else (some ((a2,x3,x7,x11,([]:List TF)),(x9,x10)))
def Q43.l1:Nat→Tq→Int→Int→Int→TX→TX→Int→TM→Int→Option Tj
 | 0,_,_,_,_,_,_,_,_,_=>none
 | k+1,a0,a2,a3,a4,x3,x5,x6,x7,x8=>if (decide (x8<(w64 (a0.2.2.2.1 - 1))))=true then ((Q159.f k (x5,x6) 1).bind fun r2=>((Q161.f k r2.2 (w64 (r2.1)) a0.2.2.2.2.2.2.1).bind fun r3=>(if (decide ((w64 (x8+1))<a3))=true then (if (x7.length+([r3.1]:List TS).length)*16≤140737488355328 then (Q43.l1 k a0 a2 a3 a4 x3 r3.2.1 r3.2.2 (x7 ++ ([r3.1]:List TS)) (w64 (x8+1))) else none) else (Q43.l1 k a0 a2 a3 a4 x3 r3.2.1 r3.2.2 x7 (w64 (x8+1)))))) else (Q43.l2 k a0 a2 a4 x3 x7 x5 x6 ([]:List TB) 0)
def Q43.l0:Nat→Tq→Int→Int→Int→TX→Int→TX→Int→Option Tj
 | 0,_,_,_,_,_,_,_,_=>none
 | k+1,a0,a2,a3,a4,x1,x2,x3,x4=>if (decide (x4<a0.2.2.2.1))=true then ((Q159.f k (x1,x2) 4).bind fun r1=>(if (decide (x4<a3))=true then (if (x3.length+([(IntKind.u32.wrap (r1.1))]:List Int).length)*4≤140737488355328 then (Q43.l0 k a0 a2 a3 a4 r1.2.1 r1.2.2 (x3 ++ ([(IntKind.u32.wrap (r1.1))]:List Int)) (w64 (x4+1))) else none) else (Q43.l0 k a0 a2 a3 a4 r1.2.1 r1.2.2 x3 (w64 (x4+1))))) else (Q43.l1 k a0 a2 a3 a4 x3 x1 x2 ([]:List TS) 0)
def Q43.f (k:Nat) (a0:Tq) (a1:TQ) (a2:Int) (a3:Int) (a4:Int):Option Tj:=Q43.l0 k a0 a2 a3 a4 a1.1 a1.2 ([]:List Int) 0
theorem Q43.spec {k a0 a1 a2 a3 a4 A1 c_1 b1 r} (H:Q43.f k a0 a1 a2 a3 a4=some r) :
  SpecA Tryz.prog 69 [.agg #[.int .i64 a0.1,.int .i64 a0.2.1,.int .i64 a0.2.2.1,.int .i64 a0.2.2.2.1,.int .i64 a0.2.2.2.2.1,.int .i64 a0.2.2.2.2.2.1,.int .i64 a0.2.2.2.2.2.2.1,.int .i64 a0.2.2.2.2.2.2.2],.pointer (some ⟨b1,0,none⟩),.int .i64 a2,.int .i64 a3,.int .i64 a4] [X6 b1 a1.1 A1 c_1 a1.2] [R5 a1.1 A1 c_1] (fun v l lr=>∃ A_0 c_0 A_1 c_1 A_2 c_2 A_3 c_3 A_4 c_4,v=.agg #[.int .i64 r.1.1,.slice A_0 r.1.2.1.length c_0,.slice A_1 r.1.2.2.1.length c_1,.slice A_2 r.1.2.2.2.1.length c_2,.slice A_3 r.1.2.2.2.2.length c_3]∧l=[O33 r.1.2.1 A_0 c_0,O9 r.1.2.2.1 A_1 c_1,Wy r.1.2.2.2.1 A_2 c_2,Xt r.1.2.2.2.2 A_3 c_3,X6 b1 r.2.1 A_4 c_4 r.2.2]∧lr=[R5 r.2.1 A_4 c_4]):=by
 refine Yp Tryz.func69 fun w0 F0 h0=>?_
 unfold Q43.f at H
 refine T8 (T6 ?_)
 refine rB (Z9 h0) fun b2 w1 h1=>?_
 refine rB (Yt h1) fun b3 w2 h2=>?_
 refine Ze [1,2,3,4,5,10] rfl ?_
 refine T8 (T6 ?_)
 refine Zd 2 ?_
 refine rB (Yt h2) fun b4 w3 h3=>?_
 refine rS (Zt 0 h3) fun _ w4 h4=>?_
 refine Ze [1,3,4,5,10,11] rfl ?_
 refine T8 (T8 (T6 ?_))
 refine Zd 1 ?_
 refine Zc (Za 2 h4.wht) ?_
 refine Ze [1,3,4,5,10,11,22,23] rfl ?_
 refine T0 ?_
 have h35:=h4.addNil 33 (.int .u32)
 have h36:=(sOR h35 [4,3,2,1,0] [0])
 refine T4 (fun kk env w=>∃ x1 A2 c_2 x2 x3 A3 c_3 x4,Q43.l0 kk a0 a2 a3 a4 x1 x2 x3 x4=some r∧env=[(1,.pointer (some ⟨b1,0,none⟩)),(3,.int .i64 a3),(4,.int .i64 a4),(5,.pointer (some ⟨b2,0,none⟩)),(10,.pointer (some ⟨b3,0,none⟩)),(11,.pointer (some ⟨b4,0,none⟩)),(22,.int .i64 a0.2.2.2.1),(23,.int .i64 x4)]∧St w0 F0 [X6 b1 x1 A2 c_2 x2,X23 b2 a0.1 a0.2.1 a0.2.2.1 a0.2.2.2.1 a0.2.2.2.2.1 a0.2.2.2.2.2.1 a0.2.2.2.2.2.2.1 a0.2.2.2.2.2.2.2,X43 b3 0 ([]:List Int) none 0 ([]:List TS) none 0 ([]:List TB) none 0 ([]:List TF) none 0,X43 b4 a2 x3 A3 c_3 ([]:List TS) none 0 ([]:List TB) none 0 ([]:List TF) none 0,O33 x3 A3 c_3] [R5 x1 A2 c_2] w) (k:=k) ⟨_,_,_,_,_,_,_,_,H,rfl,h36⟩ ?_
 rintro k1 env w5 ⟨x1,A2,c_2,x2,x3,A3,c_3,x4,H,rfl,h5⟩
 rcases k1 with _ | k1
 ·exact z0 H
 rw [Q43.l0] at H
 refine T8 (Zb [1,3,4,5,10,11,22,23,24] ?_)
 refine T8 (jIf H (fun c1 H=>?_) fun c1 H=>?_)
 ·refine T9 (T8 (T0 (T8 (Zb [1,3,4,5,10,11,12,22,23] ?_))))
  refine T8 (T6 ?_)
  refine Zd 1 ?_
  obtain ⟨r1,q1,H⟩:=Yj H
  refine Zs (Ya [0] (Q159.spec q1) h5 rfl (gS [0])) ?_
  rintro _ w6 ⟨_,_,⟨A4,c_4,rfl,rfl,rfl⟩,h6⟩
  replace h6:=nf h6
  refine Ze [1,3,4,5,10,11,12,13,22,23] rfl ?_
  refine T8 (Zb [1,3,4,5,10,11,13,22,23,31] ?_)
  refine jIf H (fun c2 H=>?_) fun c2 H=>?_
  ·refine T6 (Zd 1 ?_)
   refine Zc (Za 3 h6.wht) ?_
   refine Zd 1 ?_
   refine rB (Z1 (.int .u32) ([(IntKind.u32.wrap (r1.1))]:List Int) h6) fun b5 w7 h7=>?_
   obtain ⟨p1,H⟩:=Zk H
   refine Zs (Zr 5 h7 (gO 0) p1) ?_
   rintro _ w8 ⟨A5,c_5,rfl,h8⟩
   replace h8:=nf h8
   refine Zd 1 ?_
   refine rS (Zt 5 h8) fun _ w9 h9=>?_
   refine Ze [1,3,4,5,10,11,22,23] rfl ?_
   refine Zb [1,3,4,5,10,11,22,23] ?_
   have h10:=(sOR h9 [3,3,3,0,0] [0])
   exact ⟨k1,by omega,_,_,_,_,_,_,_,_,H,rfl,h10⟩
  refine T9 (Zb [1,3,4,5,10,11,22,23] ?_)
  have h11:=(sOR h6 [0,0,0,0,0] [0])
  exact ⟨k1,by omega,_,_,_,_,_,_,_,_,H,rfl,h11⟩
 refine T3 (T8 (T8 (T6 ?_)))
 refine Zd 1 ?_
 refine Zc (Za 1 h5.wht) ?_
 refine Ze [1,3,4,5,10,11,41,42] rfl ?_
 refine T0 ?_
 have h33:=h5.addNil 9 .str
 have h34:=(sOR h33 [1,1,1,1,1,0] [0])
 refine T4 (fun kk env w=>∃ x5 A6 c_6 x6 x7 A7 c_7 x8,Q43.l1 kk a0 a2 a3 a4 x3 x5 x6 x7 x8=some r∧env=[(1,.pointer (some ⟨b1,0,none⟩)),(3,.int .i64 a3),(4,.int .i64 a4),(5,.pointer (some ⟨b2,0,none⟩)),(10,.pointer (some ⟨b3,0,none⟩)),(11,.pointer (some ⟨b4,0,none⟩)),(41,.int .i64 (w64 (a0.2.2.2.1 - 1))),(42,.int .i64 x8)]∧St w0 F0 [X6 b1 x5 A6 c_6 x6,X23 b2 a0.1 a0.2.1 a0.2.2.1 a0.2.2.2.1 a0.2.2.2.2.1 a0.2.2.2.2.2.1 a0.2.2.2.2.2.2.1 a0.2.2.2.2.2.2.2,X43 b3 0 ([]:List Int) none 0 ([]:List TS) none 0 ([]:List TB) none 0 ([]:List TF) none 0,X43 b4 a2 x3 A3 c_3 x7 A7 c_7 ([]:List TB) none 0 ([]:List TF) none 0,O33 x3 A3 c_3,O9 x7 A7 c_7] [R5 x5 A6 c_6] w) (k:=k1) ⟨_,_,_,_,_,_,_,_,H,rfl,h34⟩ ?_
 rintro k2 env w10 ⟨x5,A6,c_6,x6,x7,A7,c_7,x8,H,rfl,h12⟩
 rcases k2 with _ | k2
 ·exact z0 H
 rw [Q43.l1] at H
 refine T8 (Zb [1,3,4,5,10,11,41,42,43] ?_)
 refine T8 (jIf H (fun c3 H=>?_) fun c3 H=>?_)
 ·refine T9 (T8 (T0 (T8 (Zb [1,3,4,5,10,11,14,41,42] ?_))))
  refine T8 (Zz (sO h12 [1,1,1,1,1]) ?_)
  have h13:=h12.drew
  refine Zo [0,1,4] ?_
  refine Zf 5 rfl (Za 0 wI) ?_
  obtain ⟨r2,q2,H⟩:=Yj H
  refine Zx 2 rfl (Ya [0] (Q159.spec q2) h13 rfl (gS [0])) ?_
  rintro _ w11 ⟨_,_,⟨A8,c_8,rfl,rfl,rfl⟩,h14⟩
  replace h14:=nf h14
  refine ⟨⟨[_],(Ua h14 [1])⟩,?_⟩
  refine Zo [3] ?_
  obtain ⟨r3,q3,H⟩:=Yj H
  refine Zx 6 rfl (Ya [0] (Q161.spec q3) h14 rfl (gS [0])) ?_
  rintro _ w12 ⟨_,_,⟨A9,c_9,rfl,rfl,rfl⟩,h15⟩
  replace h15:=nf h15
  refine ⟨⟨[_],(Ua h15 [2])⟩,?_⟩
  refine Zo [7] ?_
  refine Zw [1,3,4,5,10,11,14,15,41,42] ?_
  refine T8 (Zb [1,3,4,5,10,11,15,41,42,55] ?_)
  refine jIf H (fun c4 H=>?_) fun c4 H=>?_
  ·refine T6 (Zd 1 ?_)
   refine Zc (Za 3 h15.wht) ?_
   refine Zd 1 ?_
   refine rB (Z1 .str ([r3.1]:List TS) h15) fun b6 w13 h16=>?_
   obtain ⟨p2,H⟩:=Zk H
   refine Zs (Zr 6 h16 (gO 0) p2) ?_
   rintro _ w14 ⟨A10,c_10,rfl,h17⟩
   replace h17:=nf h17
   refine Zd 1 ?_
   refine rS (Zt 5 h17) fun _ w15 h18=>?_
   refine Ze [1,3,4,5,10,11,41,42] rfl ?_
   refine Zb [1,3,4,5,10,11,41,42] ?_
   have h19:=(sOR h18 [3,3,3,0,2,0] [0])
   exact ⟨k2,by omega,_,_,_,_,_,_,_,_,H,rfl,h19⟩
  refine T9 (Zb [1,3,4,5,10,11,41,42] ?_)
  have h20:=(sOR h15 [0,0,0,0,0,0] [0])
  exact ⟨k2,by omega,_,_,_,_,_,_,_,_,H,rfl,h20⟩
 refine T3 (T8 (T8 (T6 ?_)))
 refine Zd 2 ?_
 refine Zc (Za 1 h12.wht) ?_
 refine Ze [1,5,10,11,66,67] rfl ?_
 refine T0 ?_
 have h31:=h12.addNil 115 (.pair .str (.pair .bool .str))
 have h32:=(sOR h31 [1,1,1,1,1,1,0] [0])
 refine T4 (fun kk env w=>∃ x9 A11 c_11 x10 x11 A12 c_12 x12,Q43.l2 kk a0 a2 a4 x3 x7 x9 x10 x11 x12=some r∧env=[(1,.pointer (some ⟨b1,0,none⟩)),(5,.pointer (some ⟨b2,0,none⟩)),(10,.pointer (some ⟨b3,0,none⟩)),(11,.pointer (some ⟨b4,0,none⟩)),(66,.int .i64 (if a0.2.2.2.2.1<a4 then a0.2.2.2.2.1 else a4)),(67,.int .i64 x12)]∧St w0 F0 [X6 b1 x9 A11 c_11 x10,X23 b2 a0.1 a0.2.1 a0.2.2.1 a0.2.2.2.1 a0.2.2.2.2.1 a0.2.2.2.2.2.1 a0.2.2.2.2.2.2.1 a0.2.2.2.2.2.2.2,X43 b3 0 ([]:List Int) none 0 ([]:List TS) none 0 ([]:List TB) none 0 ([]:List TF) none 0,X43 b4 a2 x3 A3 c_3 x7 A7 c_7 x11 A12 c_12 ([]:List TF) none 0,O33 x3 A3 c_3,O9 x7 A7 c_7,Wy x11 A12 c_12] [R5 x9 A11 c_11] w) (k:=k2) ⟨_,_,_,_,_,_,_,_,H,rfl,h32⟩ ?_
 rintro k3 env w16 ⟨x9,A11,c_11,x10,x11,A12,c_12,x12,H,rfl,h21⟩
 rcases k3 with _ | k3
 ·exact z0 H
 rw [Q43.l2] at H
 refine T8 (Zb [1,5,10,11,66,67,68] ?_)
 refine T8 (jIf H (fun c5 H=>?_) fun c5 H=>?_)
 ·refine T9 (T8 (T0 (T8 (T6 ?_))))
  refine Zd 1 ?_
  obtain ⟨r4,q4,H⟩:=Yj H
  refine Zs (Ya [0] (Q159.spec q4) h21 rfl (gS [0])) ?_
  rintro _ w17 ⟨_,_,⟨A13,c_13,rfl,rfl,rfl⟩,h22⟩
  replace h22:=nf h22
  refine Ze [1,5,10,11,16,66,67] rfl ?_
  refine T8 (T6 ?_)
  refine Zc (Za 1 h22.wht) ?_
  refine Zd 1 ?_
  obtain ⟨r5,q5,H⟩:=Yj H
  refine Zs (Ya [0] (Q45.spec q5) h22 rfl (gS [0])) ?_
  rintro _ w18 ⟨_,_,⟨A14,c_14,rfl,rfl,rfl⟩,h23⟩
  replace h23:=nf h23
  refine Ze [1,5,10,11,16,17,18,66,67] rfl ?_
  refine T6 (Zd 1 ?_)
  refine Zc (Za 3 h23.wht) ?_
  refine Zd 5 ?_
  refine rB (Z1 (.pair .str (.pair .bool .str)) ([(r5.1,(decide (r4.1=2)),r5.2.1)]:List TB) h23) fun b7 w19 h24=>?_
  obtain ⟨p3,H⟩:=Zk H
  refine Zs (Zr 7 h24 (gO 0) p3) ?_
  rintro _ w20 ⟨A15,c_15,rfl,h25⟩
  replace h25:=nf h25
  refine Zd 1 ?_
  refine rS (Zt 5 h25) fun _ w21 h26=>?_
  refine Ze [1,5,10,11,66,67] rfl ?_
  refine Zb [1,5,10,11,66,67] ?_
  have h27:=(sOR h26 [3,3,3,0,2,2,0] [0])
  exact ⟨k3,by omega,_,_,_,_,_,_,_,_,H,rfl,h27⟩
 refine T3 (T8 (T6 ?_))
 refine Zc (Za 3 h21.wht) ?_
 refine rS (Zt 2 h21) fun _ w22 h28=>?_
 refine Ze [10] rfl ?_
 have h29:=sO h28 [0,0,2,2,2]
 replace h29:=nf h29
 have h30:=h29.addNil 106 (.pair .str .str)
 cases H
 exact T7 (Zl2 (Z8 (Sh Z4 1 h30 rfl rfl rfl rfl) Y1) ⟨_,_,_,_,_,_,_,_,_,_,rfl,rfl,rfl⟩ (sOR h30 [3,3,3,0,1] [0]))

def Q158.f (a0:TQ):Option (Int):=some a0.2
theorem Q158.spec {a0 A1 c_1 b1 r} (H:Q158.f a0=some r) :
  Spec Tryz.prog 70 [.pointer (some ⟨b1,0,none⟩)] [X6 b1 a0.1 A1 c_1 a0.2] [R5 a0.1 A1 c_1] (fun v l=>v=.int .i64 r∧l=[X6 b1 a0.1 A1 c_1 a0.2]):=by
 refine Zi Tryz.func70 fun w0 F0 h0=>?_
 unfold Q158.f at H
 refine T8 (Zb [0] ?_)
 refine T8 (T8 (Zb [0,4] ?_))
 refine Z6 ?_
 refine T9 (T8 (T6 ?_))
 refine Zd 3 ?_
 refine Zc (Za 0 h0.wht) ?_
 refine Ze [2] rfl ?_
 cases H
 exact T7 (jR0 h0 [0])

def Q108.l0:Nat→TX→TX→Int→Option (Bool)
 | 0,_,_,_=>none
 | k+1,a0,a1,x1=>if (decide (x1<(a0.length:Int)))=true then (if 0≤x1∧x1<(a0.length:Int) then (if 0≤x1∧x1<(a1.length:Int) then (if (!decide ((gt a0 x1)=(gt a1 x1)))=true then (some false) else (Q108.l0 k a0 a1 (w64 (x1+1)))) else none) else none) else (some true)
def Q108.f (k:Nat) (a0:TX) (a1:TX):Option (Bool):=if (!decide ((a0.length:Int)=(a1.length:Int)))=true then (some false) else (Q108.l0 k a0 a1 0)
theorem Q108.spec {k a0 a1 A1 c_1 A2 c_2 r} (H:Q108.f k a0 a1=some r) :
  Spec Tryz.prog 72 [.slice A1 a0.length c_1,.slice A2 a1.length c_2] [] [R5 a0 A1 c_1,R5 a1 A2 c_2] (fun v l=>v=.bool r∧l=[]):=by
 refine Zi Tryz.func72 fun w0 F0 h0=>?_
 unfold Q108.f at H
 refine T8 (Zb [0,1] ?_)
 refine T8 (T8 (Zb [0,1,10] ?_))
 refine jIf H (fun c1 H=>?_) fun c1 H=>?_
 ·refine T8 (Zb [4] ?_)
  cases H
  exact T7 (jR0 h0 [])
 refine T9 (T8 (T8 (Zb [0,1,12,13] ?_)))
 refine T0 ?_
 have h4:=(sOR h0 [] [0,1])
 refine T4 (fun kk env w=>∃ x1,Q108.l0 kk a0 a1 x1=some r∧env=[(0,.slice A1 a0.length c_1),(1,.slice A2 a1.length c_2),(12,.int .i64 (a0.length:Int)),(13,.int .i64 x1)]∧St w0 F0 [] [R5 a0 A1 c_1,R5 a1 A2 c_2] w) (k:=k) ⟨_,H,rfl,h4⟩ ?_
 rintro k1 env w1 ⟨x1,H,rfl,h1⟩
 rcases k1 with _ | k1
 ·exact z0 H
 rw [Q108.l0] at H
 refine T8 (Zb [0,1,12,13,14] ?_)
 refine T8 (jIf H (fun c2 H=>?_) fun c2 H=>?_)
 ·refine T9 (T8 (T0 (T8 (Zb [0,1,5,12,13] ?_))))
  refine T8 (jH h1 fun h2=>?_)
  refine Zo [0,1,4,5] ?_
  obtain ⟨⟨p1,p2⟩,H⟩:=Zk H
  have e1:=Z0 h2.wh (Zj 0) p1 p2
  refine Zf 2 rfl (Zg e1 p1 p2) ?_
  refine Zf 3 rfl (Zh 0 wI (Zj 0) p1 p2) ?_
  obtain ⟨⟨p3,p4⟩,H⟩:=Zk H
  have e2:=Z0 h2.wh (Zj 1) p3 p4
  refine Zf 6 rfl (Zg e2 p3 p4) ?_
  refine Zf 7 rfl (Zh 0 wI (Zj 1) p3 p4) ?_
  refine Zo [8] ?_
  refine Zw [0,1,12,13,24] ?_
  refine jIf H (fun c3 H=>?_) fun c3 H=>?_
  ·refine T8 (Zb [4] ?_)
   cases H
   exact T7 (jR0 h2 [])
  refine T9 (Zb [0,1,12,13] ?_)
  have h3:=(sOR h2 [] [0,1])
  exact ⟨k1,by omega,_,H,rfl,h3⟩
 refine T3 (T8 (Zb [4] ?_))
 cases H
 exact T7 (jR0 h1 [])

def Q38.f (k:Nat) (a0:Tq) (a1:TX):Option (Tn×Int):=(Q49.f a0).bind fun r1=>(if (!decide (r1=0))=true then (some ((0,([]:List Int),([]:List TS),([]:List TB),([]:List TF)),r1)) else ((Q156.f a1).bind fun r2=>((Q159.f k r2 1).bind fun r3=>((Q159.f k r3.2 1).bind fun r4=>((Q159.f k r4.2 2).bind fun r5=>((Q159.f k r5.2 2).bind fun r6=>((Q163.f k r6.2 2).bind fun r7=>(if (decide (r3.1=1))=true then ((Q44.f k a0 r7 (w64 (r5.1))).bind fun r11=>((Q158.f (r11.2.1,r11.2.2)).bind fun r8=>(if (!decide (r8=0))=true then (some ((0,([]:List Int),([]:List TS),([]:List TB),([]:List TF)),12)) else ((Q39.f k a0 (r11.1.1,r11.1.2.1,r11.1.2.2.1,r11.1.2.2.2.1,r11.1.2.2.2.2)).bind fun r9=>(if (!decide (r9.2=0))=true then (some ((0,([]:List Int),([]:List TS),([]:List TB),([]:List TF)),12)) else ((Q108.f k r9.1 a1).bind fun r10=>(if (!r10)=true then (some ((0,([]:List Int),([]:List TS),([]:List TB),([]:List TF)),12)) else (some ((r11.1.1,r11.1.2.1,r11.1.2.2.1,r11.1.2.2.2.1,r11.1.2.2.2.2),0))))))))) else (if (decide (r3.1=2))=true then ((Q43.f k a0 r7 (if (w64 (r4.1))>1 then (w64 (r4.1)) else 1) (w64 (r5.1)) (w64 (r6.1))).bind fun r12=>((Q158.f (r12.2.1,r12.2.2)).bind fun r8=>(if (!decide (r8=0))=true then (some ((0,([]:List Int),([]:List TS),([]:List TB),([]:List TF)),12)) else ((Q39.f k a0 (r12.1.1,r12.1.2.1,r12.1.2.2.1,r12.1.2.2.2.1,r12.1.2.2.2.2)).bind fun r9=>(if (!decide (r9.2=0))=true then (some ((0,([]:List Int),([]:List TS),([]:List TB),([]:List TF)),12)) else ((Q108.f k r9.1 a1).bind fun r10=>(if (!r10)=true then (some ((0,([]:List Int),([]:List TS),([]:List TB),([]:List TF)),12)) else (some ((r12.1.1,r12.1.2.1,r12.1.2.2.1,r12.1.2.2.2.1,r12.1.2.2.2.2),0))))))))) else ((Q158.f (r7.1,r7.2)).bind fun r8=>(if (!decide (r8=0))=true then (some ((0,([]:List Int),([]:List TS),([]:List TB),([]:List TF)),12)) else ((Q39.f k a0 ((-1),([]:List Int),([]:List TS),([]:List TB),([]:List TF))).bind fun r9=>(if (!decide (r9.2=0))=true then (some ((0,([]:List Int),([]:List TS),([]:List TB),([]:List TF)),12)) else ((Q108.f k r9.1 a1).bind fun r10=>(if (!r10)=true then (some ((0,([]:List Int),([]:List TS),([]:List TB),([]:List TF)),12)) else (some (((-1),([]:List Int),([]:List TS),([]:List TB),([]:List TF)),0)))))))))))))))))
theorem Q38.spec {k a0 a1 A1 c_1 r} (H:Q38.f k a0 a1=some r) :
  Spec Tryz.prog 21 [.agg #[.int .i64 a0.1,.int .i64 a0.2.1,.int .i64 a0.2.2.1,.int .i64 a0.2.2.2.1,.int .i64 a0.2.2.2.2.1,.int .i64 a0.2.2.2.2.2.1,.int .i64 a0.2.2.2.2.2.2.1,.int .i64 a0.2.2.2.2.2.2.2],.slice A1 a1.length c_1] [] [R5 a1 A1 c_1] (fun v l=>∃ A_0 c_0 A_1 c_1 A_2 c_2 A_3 c_3,v=.tuple #[.agg #[.int .i64 r.1.1,.slice A_0 r.1.2.1.length c_0,.slice A_1 r.1.2.2.1.length c_1,.slice A_2 r.1.2.2.2.1.length c_2,.slice A_3 r.1.2.2.2.2.length c_3],.int .i64 r.2]∧l=[O33 r.1.2.1 A_0 c_0,O9 r.1.2.2.1 A_1 c_1,Wy r.1.2.2.2.1 A_2 c_2,Xt r.1.2.2.2.2 A_3 c_3]):=by
 refine Zi Tryz.func21 fun w0 F0 h0=>?_
 unfold Q38.f at H
 refine T8 (T6 ?_)
 refine rB (Z9 h0) fun b1 w1 h1=>?_
 refine rB (Yt h1) fun b2 w2 h2=>?_
 refine Ze [1,2,4] rfl ?_
 refine T8 (T8 (T6 ?_))
 refine Zc (Za 1 h2.wht) ?_
 refine cS H [] h2 rfl Q49.spec Zp fun r1 w3 H h3=>?_
 refine Ze [1,2,4,6] rfl ?_
 refine T8 (Zb [1,2,4,6,18] ?_)
 refine jIf H (fun c1 H=>?_) fun c1 H=>?_
 ·refine T8 (T6 ?_)
  refine Zd 2 ?_
  refine rS (Zt 0 h3) fun _ w4 h4=>?_
  refine Ze [4,5] rfl ?_
  have h5:=h4.addNil 33 (.int .u32)
  have h6:=h5.addNil 9 .str
  have h7:=h6.addNil 115 (.pair .str (.pair .bool .str))
  have h8:=h7.addNil 106 (.pair .str .str)
  cases H
  exact T7 (jR2 (Z8 (Sh Z4 4 h8 rfl rfl rfl rfl) (Z8 (Si rfl) Y1)) ⟨_,_,_,_,_,_,_,_,rfl,rfl⟩ h8 [3,2,1,0])
 refine T9 (T8 (T6 ?_))
 refine Zd 1 ?_
 obtain ⟨r2,q2,H⟩:=Yj H
 refine Zs (Ya [] (Q156.spec q2) h3 rfl (gS [0])) ?_
 rintro _ w5 ⟨_,_,⟨b3,A2,c_2,rfl,rfl,rfl⟩,h9⟩
 replace h9:=nf h9
 refine Ze [1,2,4,7] rfl ?_
 refine T8 (T6 ?_)
 refine Zd 1 ?_
 obtain ⟨r3,q3,H⟩:=Yj H
 refine Zs (Ya [0] (Q159.spec q3) h9 rfl (gS [0])) ?_
 rintro _ w6 ⟨_,_,⟨A3,c_3,rfl,rfl,rfl⟩,h10⟩
 replace h10:=nf h10
 refine Zd 1 ?_
 obtain ⟨r4,q4,H⟩:=Yj H
 refine Zs (Ya [0] (Q159.spec q4) h10 rfl (gS [0])) ?_
 rintro _ w7 ⟨_,_,⟨A4,c_4,rfl,rfl,rfl⟩,h11⟩
 replace h11:=nf h11
 refine Zd 2 ?_
 obtain ⟨r5,q5,H⟩:=Yj H
 refine Zs (Ya [0] (Q159.spec q5) h11 rfl (gS [0])) ?_
 rintro _ w8 ⟨_,_,⟨A5,c_5,rfl,rfl,rfl⟩,h12⟩
 replace h12:=nf h12
 refine Zd 2 ?_
 obtain ⟨r6,q6,H⟩:=Yj H
 refine Zs (Ya [0] (Q159.spec q6) h12 rfl (gS [0])) ?_
 rintro _ w9 ⟨_,_,⟨A6,c_6,rfl,rfl,rfl⟩,h13⟩
 replace h13:=nf h13
 refine Ze [1,2,4,7,8,9,10,11] rfl ?_
 refine T8 (T6 ?_)
 refine Zd 1 ?_
 obtain ⟨r7,q7,H⟩:=Yj H
 refine Zs (Ya [0] (Q163.spec q7) h13 rfl (gS [0])) ?_
 rintro _ w10 ⟨_,_,⟨A7,c_7,rfl,rfl,rfl⟩,h14⟩
 replace h14:=nf h14
 refine Ze [1,2,4,7,8,9,10,11] rfl ?_
 refine T8 (T6 ?_)
 refine Zd 1 ?_
 refine rB (Yt h14) fun b4 w11 h15=>?_
 refine rS (Zt 0 h15) fun _ w12 h16=>?_
 refine Ze [1,2,4,7,8,9,10,11,12] rfl ?_
 refine T8 (T8 (Zb [1,2,4,7,9,10,11,12,37] ?_))
 refine T5 (fun env w=>∃(k1:Nat) (x1:TX) (A8:Option Addr) (c_8:Nat) (x2:Int) (x3:Int) (x4:TX) (A9:Option Addr) (c_9:Nat) (x5:TM) (A10:Option Addr) (c_10:Nat) (x6:Tv) (A11:Option Addr) (c_11:Nat) (x7:TA) (A12:Option Addr) (c_12:Nat),env=[(1,.slice A1 a1.length c_1),(2,.pointer (some ⟨b1,0,none⟩)),(4,.pointer (some ⟨b2,0,none⟩)),(7,.pointer (some ⟨b3,0,none⟩)),(12,.pointer (some ⟨b4,0,none⟩))]∧St w0 F0 [X23 b1 a0.1 a0.2.1 a0.2.2.1 a0.2.2.2.1 a0.2.2.2.2.1 a0.2.2.2.2.2.1 a0.2.2.2.2.2.2.1 a0.2.2.2.2.2.2.2,X43 b2 0 ([]:List Int) none 0 ([]:List TS) none 0 ([]:List TB) none 0 ([]:List TF) none 0,X6 b3 x1 A8 c_8 x2,X43 b4 x3 x4 A9 c_9 x5 A10 c_10 x6 A11 c_11 x7 A12 c_12,O33 x4 A9 c_9,O9 x5 A10 c_10,Wy x6 A11 c_11,Xt x7 A12 c_12] [R5 a1 A1 c_1,R5 x1 A8 c_8] w∧((Q158.f (x1,x2)).bind fun r8=>(if (!decide (r8=0))=true then (some ((0,([]:List Int),([]:List TS),([]:List TB),([]:List TF)),12)) else ((Q39.f k1 a0 (x3,x4,x5,x6,x7)).bind fun r9=>(if (!decide (r9.2=0))=true then (some ((0,([]:List Int),([]:List TS),([]:List TB),([]:List TF)),12)) else ((Q108.f k1 r9.1 a1).bind fun r10=>(if (!r10)=true then (some ((0,([]:List Int),([]:List TS),([]:List TB),([]:List TF)),12)) else (some ((x3,x4,x5,x6,x7),0))))))))=some r∧k1≤k) ?_ ?_
 ·refine T0 (T8 (Zb [1,2,4,7,9,10,11,12,37,38] ?_))
  refine jIf H (fun c5 H=>?_) fun c5 H=>?_
  ·refine T6 (Zc (Za 3 h16.wht) ?_)
   refine Zd 2 ?_
   obtain ⟨r11,q11,H⟩:=Yj H
   refine Zs (Ya [1] (Q44.spec q11) h16 rfl (gS [0])) ?_
   rintro _ w22 ⟨_,_,⟨A14,c_14,A15,c_15,A16,c_16,A17,c_17,A18,c_18,rfl,rfl,rfl⟩,h42⟩
   replace h42:=nf h42
   refine rS (Zt 5 h42) fun _ w23 h43=>?_
   refine Ze [1,2,4,7,12] rfl ?_
   have h44:=(sOR h43 [7,6,5,0,0,0,0,0] [7,0])
   exact ⟨k,r11.2.1,A18,c_18,r11.2.2,r11.1.1,r11.1.2.1,A14,c_14,r11.1.2.2.1,A15,c_15,r11.1.2.2.2.1,A16,c_16,r11.1.2.2.2.2,A17,c_17,rfl,h44,H,Sa _⟩
  refine T8 (Zb [1,2,4,7,9,10,11,12,44] ?_)
  refine jIf H (fun c6 H=>?_) fun c6 H=>?_
  ·refine T6 (Zc (Za 3 h16.wht) ?_)
   refine Zd 5 ?_
   obtain ⟨r12,q12,H⟩:=Yj H
   refine Zs (Ya [1] (Q43.spec q12) h16 rfl (gS [0])) ?_
   rintro _ w24 ⟨_,_,⟨A19,c_19,A20,c_20,A21,c_21,A22,c_22,A23,c_23,rfl,rfl,rfl⟩,h45⟩
   replace h45:=nf h45
   refine rS (Zt 5 h45) fun _ w25 h46=>?_
   refine Ze [1,2,4,7,12] rfl ?_
   have h47:=(sOR h46 [7,6,5,0,0,0,0,0] [7,0])
   exact ⟨k,r12.2.1,A23,c_23,r12.2.2,r12.1.1,r12.1.2.1,A19,c_19,r12.1.2.2.1,A20,c_20,r12.1.2.2.2.1,A21,c_21,r12.1.2.2.2.2,A22,c_22,rfl,h47,H,Sa _⟩
  refine Wk [1,2,4,7,12] ?_
  refine T9 ?_
  have h48:=h16.addNil 33 (.int .u32)
  have h49:=h48.addNil 9 .str
  have h50:=h49.addNil 115 (.pair .str (.pair .bool .str))
  have h51:=h50.addNil 106 (.pair .str .str)
  have h52:=(sOR h51 [7,6,5,4,3,2,1,0] [6,0])
  exact ⟨k,r7.1,A7,c_7,r7.2,(-1),([]:List Int),none,0,([]:List TS),none,0,([]:List TB),none,0,([]:List TF),none,0,rfl,h52,H,Sa _⟩
 rintro env w14 ⟨k1,x1,A8,c_8,x2,x3,x4,A9,c_9,x5,A10,c_10,x6,A11,c_11,x7,A12,c_12,rfl,h17,H,hk1⟩
 refine T8 (T8 (T6 ?_))
 refine Zd 1 ?_
 refine cS H [2] h17 rfl Q158.spec (gS [8]) fun r8 w15 H h18=>?_
 refine Ze [1,2,4,12,55] rfl ?_
 refine jIf H (fun c2 H=>?_) fun c2 H=>?_
 ·refine T8 (T6 ?_)
  refine Zd 1 ?_
  refine rS (Zt 2 h18) fun _ w16 h19=>?_
  refine Ze [4,5] rfl ?_
  have h20:=sO h19 [0]
  replace h20:=nf h20
  have h21:=h20.addNil 33 (.int .u32)
  have h22:=h21.addNil 9 .str
  have h23:=h22.addNil 115 (.pair .str (.pair .bool .str))
  have h24:=h23.addNil 106 (.pair .str .str)
  cases H
  exact T7 (jR2 (Z8 (Sh Z4 4 h24 rfl rfl rfl rfl) (Z8 (Si rfl) Y1)) ⟨_,_,_,_,_,_,_,_,rfl,rfl⟩ h24 [3,2,1,0])
 refine T9 (T8 (T8 (T6 ?_)))
 refine Zc (Za 1 h18.wht) ?_
 refine Zc (Za 3 h18.wht) ?_
 refine cE H [] h18 rfl Q39.spec (Y5 (gO 4) (Y5 (gO 5) (Y5 (gO 6) (Y5 (gO 7) Zp)))) ?_
 rintro r9 w17 _ _ H ⟨A13,c_13,rfl,rfl⟩ h25
 replace h25:=nf h25
 refine Ze [1,4,12,13,14] rfl ?_
 have h26:=sO h25 [0,2,2,2,2,2,2]
 replace h26:=nf h26
 refine T8 (T6 ?_)
 refine Zd 3 ?_
 refine Yb 65 H (fun c3 H=>?_) fun c3 H=>?_
 ·refine Ze [4,12,70] rfl ?_
  refine Zn ?_
  refine T8 (T6 ?_)
  refine Zd 1 ?_
  refine rS (Zt 1 h26) fun _ w18 h27=>?_
  refine Ze [4,5] rfl ?_
  have h28:=sO h27 [0]
  replace h28:=nf h28
  have h29:=h28.addNil 33 (.int .u32)
  have h30:=h29.addNil 9 .str
  have h31:=h30.addNil 115 (.pair .str (.pair .bool .str))
  have h32:=h31.addNil 106 (.pair .str .str)
  cases H
  exact T7 (jR2 (Z8 (Sh Z4 4 h32 rfl rfl rfl rfl) (Z8 (Si rfl) Y1)) ⟨_,_,_,_,_,_,_,_,rfl,rfl⟩ h32 [3,2,1,0])
 refine Zd 2 ?_
 refine cS H [] h26 rfl Q108.spec (Y5 (gO 0) (gS [7])) fun r10 w19 H h33=>?_
 refine Ze [4,12,70] rfl ?_
 refine jIf H (fun c4 H=>?_) fun c4 H=>?_
 ·refine T8 (T6 ?_)
  refine Zd 1 ?_
  refine rS (Zt 1 h33) fun _ w20 h34=>?_
  refine Ze [4,5] rfl ?_
  have h35:=sO h34 [0]
  replace h35:=nf h35
  have h36:=h35.addNil 33 (.int .u32)
  have h37:=h36.addNil 9 .str
  have h38:=h37.addNil 115 (.pair .str (.pair .bool .str))
  have h39:=h38.addNil 106 (.pair .str .str)
  cases H
  exact T7 (jR2 (Z8 (Sh Z4 4 h39 rfl rfl rfl rfl) (Z8 (Si rfl) Y1)) ⟨_,_,_,_,_,_,_,_,rfl,rfl⟩ h39 [3,2,1,0])
 refine T9 (T8 (T6 ?_))
 refine Zc (Za 2 h33.wht) ?_
 refine rS (Zt 1 h33) fun _ w21 h40=>?_
 refine Ze [4,5] rfl ?_
 have h41:=sO h40 [0,2,2,2,2]
 replace h41:=nf h41
 cases H
 exact T7 (jR2 (Z8 (Sh Z4 0 h41 rfl rfl rfl rfl) (Z8 (Si rfl) Y1)) ⟨_,_,_,_,_,_,_,_,rfl,rfl⟩ h41 [1,1,1,1])

def Q90.f (k:Nat) (a0:Tg) (a1:Int):Option Tb:=(Q94.f a0 a1).bind fun r1=>(if (!decide (r1=0))=true then (some ((0,([]:List Int),([]:List TS),([]:List TB),([]:List TF)),r1,a0)) else ((Q19.f a0.2.1 a1).bind fun r2=>(if (!decide (r2.1=0))=true then (some ((0,([]:List Int),([]:List TS),([]:List TB),([]:List TF)),r2.1,(a0.1,r2.2,a0.2.2.1,a0.2.2.2))) else ((Q20.f r2.2 a1).bind fun r3=>((Q21.f r2.2 a1).bind fun r4=>(if (!decide (r3.2=0))=true then (some ((0,([]:List Int),([]:List TS),([]:List TB),([]:List TF)),r3.2,(a0.1,r4.2,a0.2.2.1,a0.2.2.2))) else ((Q38.f k a0.1 r3.1).bind fun r5=>(some (r5.1,r5.2,(a0.1,r4.2,a0.2.2.1,a0.2.2.2))))))))))
theorem Q90.spec {k a0 a1 b1 b2 b3 b4 b5 b6 b7 A1 c_1 A2 c_2 A3 c_3 A4 c_4 A5 c_5 r} (H:Q90.f k a0 a1=some r) :
  Spec Tryz.prog 24 [.pointer (some ⟨b1,0,none⟩),.int .u32 a1] (V5 a0 b1 b2 b3 b4 b5 b6 b7 A1 A2 A3 A4 A5 c_1 c_2 c_3 c_4 c_5) [] (fun v l=>∃ A_0 c_0 A_1 c_1 A_2 c_2 A_3 c_3 A_4 c_4 A_5 c_5 A_6 c_6 A_7 c_7 A_8 c_8,v=.tuple #[.agg #[.int .i64 r.1.1,.slice A_0 r.1.2.1.length c_0,.slice A_1 r.1.2.2.1.length c_1,.slice A_2 r.1.2.2.2.1.length c_2,.slice A_3 r.1.2.2.2.2.length c_3],.int .i64 r.2.1]∧l=[O33 r.1.2.1 A_0 c_0,O9 r.1.2.2.1 A_1 c_1,Wy r.1.2.2.2.1 A_2 c_2,Xt r.1.2.2.2.2 A_3 c_3] ++ V5 r.2.2 b1 b2 b3 b4 b5 b6 b7 A_4 A_5 A_6 A_7 A_8 c_4 c_5 c_6 c_7 c_8):=by
 refine Zi Tryz.func24 fun w0 F0 h0=>?_
 replace h0:=nf h0
 unfold Q90.f at H
 refine T8 (T6 ?_)
 refine rB (Yt h0) fun b8 w1 h1=>?_
 refine Ze [0,1,4] rfl ?_
 refine T8 (T8 (T6 ?_))
 refine Zd 2 ?_
 refine cS H [1,1,1,1,1,1,1,1,1,1,1,1] h1 rfl Q94.spec Zp fun r1 w2 H h2=>?_
 refine Ze [0,1,4,6] rfl ?_
 refine T8 (Zb [0,1,4,6,14] ?_)
 refine jIf H (fun c1 H=>?_) fun c1 H=>?_
 ·refine T8 (T6 ?_)
  refine Zd 2 ?_
  refine rS (Zt 12 h2) fun _ w3 h3=>?_
  refine Ze [4,5] rfl ?_
  have h4:=h3.addNil 33 (.int .u32)
  have h5:=h4.addNil 9 .str
  have h6:=h5.addNil 115 (.pair .str (.pair .bool .str))
  have h7:=h6.addNil 106 (.pair .str .str)
  cases H
  exact T7 (jR2 (Z8 (Sh Z4 4 h7 rfl rfl rfl rfl) (Z8 (Si rfl) Y1)) ⟨_,_,_,_,_,_,_,_,_,_,_,_,_,_,_,_,_,_,rfl,rfl⟩ h7 [3,2,1,0,1,1,1,1,1,1,1,1,1,1,1,1])
 refine T9 (T8 (T8 (T6 ?_)))
 refine Zd 3 ?_
 refine Zc (Za 0 h2.wht) ?_
 refine Zd 1 ?_
 refine cE H [1,1,1,1,1,1,1,1] h2 rfl Q19.spec Zp ?_
 rintro r2 w4 _ _ H ⟨A6,c_6,A7,c_7,A8,c_8,A9,c_9,rfl,rfl⟩ h8
 replace h8:=nf h8
 refine Ze [0,1,4,7] rfl ?_
 refine T8 (Zb [0,1,4,7,24] ?_)
 refine jIf H (fun c2 H=>?_) fun c2 H=>?_
 ·refine T8 (T6 ?_)
  refine Zd 2 ?_
  refine rS (Zt 12 h8) fun _ w5 h9=>?_
  refine Ze [4,5] rfl ?_
  have h10:=h9.addNil 33 (.int .u32)
  have h11:=h10.addNil 9 .str
  have h12:=h11.addNil 115 (.pair .str (.pair .bool .str))
  have h13:=h12.addNil 106 (.pair .str .str)
  cases H
  exact T7 (jR2 (Z8 (Sh Z4 4 h13 rfl rfl rfl rfl) (Z8 (Si rfl) Y1)) ⟨_,_,_,_,_,_,_,_,_,_,_,_,_,_,_,_,_,_,rfl,rfl⟩ h13 [3,2,1,0,9,1,1,1,1,1,1,1,1,1,1,1])
 refine T9 (T8 (T6 ?_))
 refine Zd 3 ?_
 refine Zc (Za 8 h8.wht) ?_
 refine Zd 1 ?_
 refine cE H [0,0,0,0,0,0,0,0] h8 rfl Q20.spec Zp ?_
 rintro r3 w6 _ _ H ⟨A10,c_10,rfl,rfl⟩ h14
 replace h14:=nf h14
 refine Ze [0,1,4,8,9] rfl ?_
 refine T8 (T6 ?_)
 refine Zd 3 ?_
 refine Zc (Za 9 h14.wht) ?_
 refine Zd 1 ?_
 refine cE H [1,1,1,1,1,1,1,1] h14 rfl Q21.spec Zp ?_
 rintro r4 w7 _ _ H ⟨A11,c_11,A12,c_12,A13,c_13,A14,c_14,rfl,rfl⟩ h15
 replace h15:=nf h15
 refine Ze [0,4,8,9] rfl ?_
 refine T8 (T8 (Zb [0,4,8,9,43] ?_))
 refine jIf H (fun c3 H=>?_) fun c3 H=>?_
 ·refine T8 (T6 ?_)
  refine Zd 2 ?_
  refine rS (Zt 13 h15) fun _ w8 h16=>?_
  refine Ze [4,5] rfl ?_
  have h17:=h16.addNil 33 (.int .u32)
  have h18:=h17.addNil 9 .str
  have h19:=h18.addNil 115 (.pair .str (.pair .bool .str))
  have h20:=h19.addNil 106 (.pair .str .str)
  cases H
  exact T7 (jR2 (Z8 (Sh Z4 4 h20 rfl rfl rfl rfl) (Z8 (Si rfl) Y1)) ⟨_,_,_,_,_,_,_,_,_,_,_,_,_,_,_,_,_,_,rfl,rfl⟩ h20 [3,2,1,0,10,1,1,1,1,1,1,1,1,2,2,2])
 refine T9 (T8 (T6 ?_))
 refine Zd 3 ?_
 refine Zc (Za 9 h15.wht) ?_
 refine Zd 1 ?_
 refine cE H [] h15 rfl Q38.spec (Y5 (gO 8) Zp) ?_
 rintro r5 w9 _ _ H ⟨A15,c_15,A16,c_16,A17,c_17,A18,c_18,rfl,rfl⟩ h21
 replace h21:=nf h21
 refine Zd 2 ?_
 refine rS (Zt 17 h21) fun _ w10 h22=>?_
 refine Ze [4,5] rfl ?_
 cases H
 exact T7 (jR2 (Z8 (Sh Z4 0 h22 rfl rfl rfl rfl) (Z8 (Si rfl) Y1)) ⟨_,_,_,_,_,_,_,_,_,_,_,_,_,_,_,_,_,_,rfl,rfl⟩ h22 [1,1,1,1,10,1,1,1,1,1,1,1,1,2,2,2])

def Q65.f (a0:TF) (a1:TS):Option (Int):=(Q67.f a0.1 a1).bind fun r1=>(some r1)
theorem Q65.spec {a0 a1 r} (H:Q65.f a0 a1=some r) :
  Spec Tryz.prog 185 [.agg #[.string ⟨⟨a0.1⟩⟩,.string ⟨⟨a0.2⟩⟩],.string ⟨⟨a1⟩⟩] [] [] (fun v l=>v=.int .i64 r∧l=[]):=by
 refine Zi Tryz.func185 fun w0 F0 h0=>?_
 unfold Q65.f at H
 refine T8 (T6 ?_)
 refine rB (Z9 h0) fun b1 w1 h1=>?_
 refine Ze [1,2] rfl ?_
 refine T8 (T6 ?_)
 refine Zd 1 ?_
 refine Zc (Za 0 h1.wht) ?_
 refine Zd 1 ?_
 refine cS H [] h1 rfl Q67.spec Zp fun r1 w2 H h2=>?_
 refine Ze [4] rfl ?_
 cases H
 exact T7 (jR0 h2 [])

def Q96.l0:Nat→TA→TS→Int→Int→Option TV
 | 0,_,_,_,_=>none
 | k+1,a0,a1,x1,x2=>if (decide (x1<x2))=true then (if 0≤(w64 ((Int.fdiv (IntKind.u64.wrap ((w64 (x1+x2)))) (2 ^ 1))))∧(w64 ((Int.fdiv (IntKind.u64.wrap ((w64 (x1+x2)))) (2 ^ 1))))<(a0.length:Int) then ((Q65.f (gt a0 (w64 ((Int.fdiv (IntKind.u64.wrap ((w64 (x1+x2)))) (2 ^ 1))))) a1).bind fun r1=>(if (decide (r1<0))=true then (Q96.l0 k a0 a1 (w64 ((w64 ((Int.fdiv (IntKind.u64.wrap ((w64 (x1+x2)))) (2 ^ 1))))+1)) x2) else (Q96.l0 k a0 a1 x1 (w64 ((Int.fdiv (IntKind.u64.wrap ((w64 (x1+x2)))) (2 ^ 1))))))) else none) else (if (decide (x1<(a0.length:Int)))=true then (if 0≤x1∧x1<(a0.length:Int) then ((Q65.f (gt a0 x1) a1).bind fun r2=>(some (x1,(decide (r2=0))))) else none) else (some (x1,false)))
def Q96.f (k:Nat) (a0:TA) (a1:TS):Option TV:=Q96.l0 k a0 a1 0 (a0.length:Int)
theorem Q96.spec {k a0 a1 A1 c_1 r} (H:Q96.f k a0 a1=some r) :
  Spec Tryz.prog 184 [.slice A1 a0.length c_1,.string ⟨⟨a1⟩⟩,.func (.func 185) #[] #[]] [] [Ym a0 A1 c_1] (fun v l=>v=.tuple #[.int .i64 r.1,.bool r.2]∧l=[]):=by
 refine Zi Tryz.func184 fun w0 F0 h0=>?_
 unfold Q96.f at H
 refine T8 (Zb [0,1,2] ?_)
 refine T8 (Zb [0,1,2,8] ?_)
 refine T8 (Zb [0,1,2,8,9,10] ?_)
 refine T8 (T0 ?_)
 have h6:=(sOR h0 [] [0])
 refine T4 (fun kk env w=>∃ x1 x2,Q96.l0 kk a0 a1 x1 x2=some r∧env=[(0,.slice A1 a0.length c_1),(1,.string ⟨⟨a1⟩⟩),(2,.func (.func 185) #[] #[]),(8,.int .i64 (a0.length:Int)),(9,.int .i64 x1),(10,.int .i64 x2)]∧St w0 F0 [] [Ym a0 A1 c_1] w) (k:=k) ⟨_,_,H,rfl,h6⟩ ?_
 rintro k1 env w1 ⟨x1,x2,H,rfl,h1⟩
 rcases k1 with _ | k1
 ·exact z0 H
 rw [Q96.l0] at H
 refine T8 (T8 (Zb [0,1,2,8,9,10,17] ?_))
 refine jIf H (fun c1 H=>?_) fun c1 H=>?_
 ·refine T9 (T0 (T8 (Zb [0,1,2,8,9,10,11] ?_)))
  refine T8 (T6 ?_)
  refine Zd 3 ?_
  obtain ⟨⟨p1,p2⟩,H⟩:=Zk H
  have e1:=Z0 h1.wh (Zj 0) p1 p2
  refine Zc (Zg e1 p1 p2) ?_
  refine Zc (Zh 0 h1.wht (Zj 0) p1 p2) ?_
  refine Zd 1 ?_
  refine cS H [] h1 rfl Q65.spec Zp fun r1 w2 H h2=>?_
  refine Ze [0,1,2,8,9,10,11,31] rfl ?_
  refine jIf H (fun c2 H=>?_) fun c2 H=>?_
  ·refine Zb [0,1,2,8,9,10] ?_
   have h3:=(sOR h2 [] [0])
   exact ⟨k1,by omega,_,_,H,rfl,h3⟩
  refine Zb [0,1,2,8,9,10] ?_
  have h4:=(sOR h2 [] [0])
  exact ⟨k1,by omega,_,_,H,rfl,h4⟩
 refine T3 (T8 (T6 ?_))
 refine Zd 5 ?_
 refine Yb 39 H (fun c3 H=>?_) fun c3 H=>?_
 ·refine Zd 3 ?_
  obtain ⟨⟨p3,p4⟩,H⟩:=Zk H
  have e2:=Z0 h1.wh (Zj 0) p3 p4
  refine Zc (Zg e2 p3 p4) ?_
  refine Zc (Zh 0 h1.wht (Zj 0) p3 p4) ?_
  refine Zd 1 ?_
  refine cS H [] h1 rfl Q65.spec Zp fun r2 w3 H h5=>?_
  refine Ze [6,7] rfl ?_
  cases H
  exact T7 (jR0 h5 [])
 refine Ze [6,7] rfl ?_
 cases H
 exact T7 (jR0 h1 [])

def Q98.f (a0:TA):Option Tz:=if (([]:List TF).length+a0.length)*32≤140737488355328 then (some (([]:List TF) ++ a0)) else none
theorem Q98.spec {a0 A1 c_1 r} (H:Q98.f a0=some r) :
  Spec Tryz.prog 183 [.slice A1 a0.length c_1] [] [Ym a0 A1 c_1] (fun v l=>∃ A_0 c_0,v=.slice A_0 r.length c_0∧l=[Xt r A_0 c_0]):=by
 refine Zi Tryz.func183 fun w0 F0 h0=>?_
 unfold Q98.f at H
 refine T8 (Zb [0] ?_)
 refine T8 (T8 (Zb [0,4] ?_))
 refine U2 (fun c1=>?_) (fun c1=>?_)
 ·have e1:=h0.nilrow (Zj 0) (by simpa using c1)
  replace H:(some ([]:List TF))=some r:=by rw [e1] at H; simpa using H
  refine T8 (Zb [2] ?_)
  have h1:=h0.addNil 106 (.pair .str .str)
  cases H
  exact T7 (jR ⟨_,_,rfl,rfl⟩ h1 [0])
 refine T9 (T8 (T6 ?_))
 refine rB (Z1 (.pair .str .str) ([]:List TF) h0) fun b1 w1 h2=>?_
 refine Zd 1 ?_
 obtain ⟨p1,H⟩:=Zk H
 refine Zs (Zr 0 h2 (Zj 0) p1) ?_
 rintro _ w2 ⟨A2,c_2,rfl,h3⟩
 replace h3:=nf h3
 refine Ze [2] rfl ?_
 cases H
 exact T7 (jR ⟨_,_,rfl,rfl⟩ h3 [0])

def Q63.f (k:Nat) (a0:TA) (a1:TC) (a2:Int):Option Tz:=(Q68.f a1).bind fun r1=>(if r1=true then (some ([]:List TF)) else (if (decide (a2<1))=true then (some ([]:List TF)) else ((Q96.f k a0 a1.1).bind fun r2=>(if (!a1.2.2)=true then ((Q96.f k a0 a1.2.1).bind fun r3=>(if 0≤r2.1∧r2.1≤(if (w64 (r2.1+(if (a0.length:Int)<a2 then (a0.length:Int) else a2)))<r3.1 then (w64 (r2.1+(if (a0.length:Int)<a2 then (a0.length:Int) else a2))) else r3.1)∧(if (w64 (r2.1+(if (a0.length:Int)<a2 then (a0.length:Int) else a2)))<r3.1 then (w64 (r2.1+(if (a0.length:Int)<a2 then (a0.length:Int) else a2))) else r3.1)≤(a0.length:Int) then ((Q98.f ((a0.drop (r2.1).toNat).take (((if (w64 (r2.1+(if (a0.length:Int)<a2 then (a0.length:Int) else a2)))<r3.1 then (w64 (r2.1+(if (a0.length:Int)<a2 then (a0.length:Int) else a2))) else r3.1)).toNat - (r2.1).toNat))).bind fun r4=>(some r4)) else none)) else (if 0≤r2.1∧r2.1≤(if (w64 (r2.1+(if (a0.length:Int)<a2 then (a0.length:Int) else a2)))<(a0.length:Int) then (w64 (r2.1+(if (a0.length:Int)<a2 then (a0.length:Int) else a2))) else (a0.length:Int))∧(if (w64 (r2.1+(if (a0.length:Int)<a2 then (a0.length:Int) else a2)))<(a0.length:Int) then (w64 (r2.1+(if (a0.length:Int)<a2 then (a0.length:Int) else a2))) else (a0.length:Int))≤(a0.length:Int) then ((Q98.f ((a0.drop (r2.1).toNat).take (((if (w64 (r2.1+(if (a0.length:Int)<a2 then (a0.length:Int) else a2)))<(a0.length:Int) then (w64 (r2.1+(if (a0.length:Int)<a2 then (a0.length:Int) else a2))) else (a0.length:Int))).toNat - (r2.1).toNat))).bind fun r5=>(some r5)) else none)))))
theorem Q63.spec {k a0 a1 a2 A1 c_1 r} (H:Q63.f k a0 a1 a2=some r) :
  Spec Tryz.prog 149 [.slice A1 a0.length c_1,.agg #[.string ⟨⟨a1.1⟩⟩,.string ⟨⟨a1.2.1⟩⟩,.bool a1.2.2],.int .i64 a2] [] [Ym a0 A1 c_1] (fun v l=>∃ A_0 c_0,v=.slice A_0 r.length c_0∧l=[Xt r A_0 c_0]):=by
 refine Zi Tryz.func149 fun w0 F0 h0=>?_
 unfold Q63.f at H
 refine T8 (T6 ?_)
 refine rB (Z9 h0) fun b1 w1 h1=>?_
 refine Ze [0,2,4] rfl ?_
 refine T8 (T8 (T6 ?_))
 refine Zc (Za 0 h1.wht) ?_
 refine cS H [] h1 rfl Q68.spec Zp fun r1 w2 H h2=>?_
 refine Zd 1 ?_
 refine Yb 12 H (fun c1 H=>?_) fun c1 H=>?_
 ·refine Ze [0,2,4,15] rfl ?_
  refine Zn ?_
  refine T8 (Zb [6] ?_)
  have h3:=h2.addNil 106 (.pair .str .str)
  cases H
  exact T7 (jR ⟨_,_,rfl,rfl⟩ h3 [0])
 refine Ze [0,2,4,15] rfl ?_
 refine jIf H (fun c2 H=>?_) fun c2 H=>?_
 ·refine T8 (Zb [6] ?_)
  have h4:=h2.addNil 106 (.pair .str .str)
  cases H
  exact T7 (jR ⟨_,_,rfl,rfl⟩ h4 [0])
 refine T9 (T8 (T6 ?_))
 refine Zd 2 ?_
 refine Zc (Za 0 h2.wht) ?_
 refine cS H [] h2 rfl Q96.spec (gS [1]) fun r2 w3 H h5=>?_
 refine Ze [0,2,4,7] rfl ?_
 refine T8 (Zb [0,2,4,7,9] ?_)
 refine T8 (T8 (T6 ?_))
 refine Zd 1 ?_
 refine Zc (Za 0 h5.wht) ?_
 refine Ze [0,2,4,7,9,27] rfl ?_
 refine jIf H (fun c3 H=>?_) fun c3 H=>?_
 ·refine T6 (Zd 2 ?_)
  refine Zc (Za 0 h5.wht) ?_
  refine cS H [] h5 rfl Q96.spec (gS [1]) fun r3 w4 H h6=>?_
  refine Ze [0,2,7,9] rfl ?_
  refine T8 (T6 ?_)
  refine Zd 10 ?_
  obtain ⟨⟨p1,p2,p3⟩,H⟩:=Zk H
  have e1:=h6.cap (Zj 1)
  refine Zc (Uq ((a0.drop (r2.1).toNat).take (((if (w64 (r2.1+(if (a0.length:Int)<a2 then (a0.length:Int) else a2)))<r3.1 then (w64 (r2.1+(if (a0.length:Int)<a2 then (a0.length:Int) else a2))) else r3.1)).toNat - (r2.1).toNat)) r2.1 (if (w64 (r2.1+(if (a0.length:Int)<a2 then (a0.length:Int) else a2)))<r3.1 then (w64 (r2.1+(if (a0.length:Int)<a2 then (a0.length:Int) else a2))) else r3.1) e1 p1 p2 p3) ?_
  refine cE H [] h6 rfl Q98.spec (Y5 ((Gives.self 1 rfl).trans (U5 (.pair .str .str) ((a0.drop (r2.1).toNat).take (((if (w64 (r2.1+(if (a0.length:Int)<a2 then (a0.length:Int) else a2)))<r3.1 then (w64 (r2.1+(if (a0.length:Int)<a2 then (a0.length:Int) else a2))) else r3.1)).toNat - (r2.1).toNat)) r2.1 (if (w64 (r2.1+(if (a0.length:Int)<a2 then (a0.length:Int) else a2)))<r3.1 then (w64 (r2.1+(if (a0.length:Int)<a2 then (a0.length:Int) else a2))) else r3.1) p1 p2 p3)) Zp) ?_
  rintro r4 w5 _ _ H ⟨A2,c_2,rfl,rfl⟩ h7
  replace h7:=nf h7
  refine Ze [6] rfl ?_
  cases H
  exact T7 (jR ⟨_,_,rfl,rfl⟩ h7 [0])
 refine T9 (T8 (T6 ?_))
 refine Zd 10 ?_
 obtain ⟨⟨p4,p5,p6⟩,H⟩:=Zk H
 have e2:=h5.cap (Zj 1)
 refine Zc (Uq ((a0.drop (r2.1).toNat).take (((if (w64 (r2.1+(if (a0.length:Int)<a2 then (a0.length:Int) else a2)))<(a0.length:Int) then (w64 (r2.1+(if (a0.length:Int)<a2 then (a0.length:Int) else a2))) else (a0.length:Int))).toNat - (r2.1).toNat)) r2.1 (if (w64 (r2.1+(if (a0.length:Int)<a2 then (a0.length:Int) else a2)))<(a0.length:Int) then (w64 (r2.1+(if (a0.length:Int)<a2 then (a0.length:Int) else a2))) else (a0.length:Int)) e2 p4 p5 p6) ?_
 refine cE H [] h5 rfl Q98.spec (Y5 ((Gives.self 1 rfl).trans (U5 (.pair .str .str) ((a0.drop (r2.1).toNat).take (((if (w64 (r2.1+(if (a0.length:Int)<a2 then (a0.length:Int) else a2)))<(a0.length:Int) then (w64 (r2.1+(if (a0.length:Int)<a2 then (a0.length:Int) else a2))) else (a0.length:Int))).toNat - (r2.1).toNat)) r2.1 (if (w64 (r2.1+(if (a0.length:Int)<a2 then (a0.length:Int) else a2)))<(a0.length:Int) then (w64 (r2.1+(if (a0.length:Int)<a2 then (a0.length:Int) else a2))) else (a0.length:Int)) p4 p5 p6)) Zp) ?_
 rintro r5 w6 _ _ H ⟨A3,c_3,rfl,rfl⟩ h8
 replace h8:=nf h8
 refine Ze [6] rfl ?_
 cases H
 exact T7 (jR ⟨_,_,rfl,rfl⟩ h8 [0])

def Q107.f (a0:TA) (a1:Int) (a2:Int):Option TA:=
 if 0≤a1∧a1≤a2∧a2≤(a0.length:Int) then some (a0.take a1.toNat ++ a0.drop a2.toNat) else none
set_option maxRecDepth 20000 in
set_option maxHeartbeats 4000000 in
theorem Q107.spec {a0:TA} {a1:Int} {a2:Int} {A1:Option Addr} {c_1:Nat} {r:TA} (H:Q107.f a0 a1 a2=some r) :
  Spec Tryz.prog 186 [.slice A1 a0.length c_1,.int .i64 a1,.int .i64 a2] [Yg 106 (.pair .str .str) a0 (.slice A1 a0.length c_1)] []
   (fun v l=>∃(A_0:Option Addr) (c_0:Nat),v=.slice A_0 r.length c_0∧l=[Yg 106 (.pair .str .str) r (.slice A_0 r.length c_0)]):=by
 refine Spec.enter Tryz.func186 rfl (by kernel_rfl) (by kernel_rfl) fun w0 F0 h0=>?_
 unfold Q107.f at H
 obtain ⟨⟨p0,p1,p2⟩,H⟩:=Zk H
 obtain rfl:=Option.some.inj H
 clear H
 obtain ⟨i,rfl⟩:=Int.eq_ofNat_of_zero_le p0
 obtain ⟨j,rfl⟩:=Int.eq_ofNat_of_zero_le (show 0≤a2 by omega)
 have hij:i≤j:=by omega
 have hj:j≤a0.length:=by omega
 have hc1:=h0.cap (Gives.of 0 rfl Yc)
 simp only [Int.toNat_natCast]
 refine T8 (T6 (Sg Z4 1 rfl ?_))
 refine Se [(0,.slice A1 a0.length c_1),(1,.int .i64 (i:Int)),(2,.int .i64 (j:Int))] rfl ?_
 refine T8 (T6 (Sg Z4 5 rfl ?_))
 refine RJ.q rfl rfl (Zms (l:=(i:Int)) (h:=(j:Int)) (m:=(a0.length:Int)) Z4 rfl rfl rfl rfl hc1 rfl rfl rfl p0 p1 p2 (by omega)) ?_
 refine Se [(0,.slice A1 a0.length c_1),(1,.int .i64 (i:Int)),(2,.int .i64 (j:Int))] rfl ?_
 refine T8 (T8 (T6 (Sg Z4 3 rfl ?_)))
 refine Se [(0,.slice A1 a0.length c_1),(1,.int .i64 (i:Int)),(2,.int .i64 (j:Int)),(16,.bool (decide ((i:Int)=(j:Int))))] rfl ?_
 refine T1 rfl (fun c=>?_) (fun c=>?_)
 ·have e:i=j:=by have:=of_decide_eq_true c; omega
  refine T8 (T6 (Sg Z4 2 rfl ?_))
  refine Se [(6,.slice A1 a0.length c_1)] rfl ?_
  refine T7 ?_
  have e:a0.take i ++ a0.drop j=a0:=by rw [e,List.take_append_drop]
  rw [e]
  exact ⟨_,_,_,(Xn rfl),⟨_,_,rfl,rfl⟩,h0.only [0] rfl⟩
 ·refine T9 ?_
  have hlt:i<j:=by have:=of_decide_eq_false c; omega
  rcases h0.openRow (ty:=(.pair .str .str)) rfl 0 rfl with ⟨_,e,_⟩ | ⟨b,sp,rfl,hc,hcm,hsp,h1⟩
  ·rw [e] at hj; simp at hj; omega
  have hX:=Yw (ty:=(.pair .str .str)) rfl a0
  have nn:Ty.n (.pair .str .str)=2:=rfl
  have oX:=Vv (ty:=(.pair .str .str)) rfl a0
  have eT:(a0.flatMap (Ty.enc (.pair .str .str))).take (i*2)=(a0.take i).flatMap (Ty.enc (.pair .str .str)):=Vx (ty:=(.pair .str .str)) rfl a0 i
  have eD:(a0.flatMap (Ty.enc (.pair .str .str))).drop (j*2)=(a0.drop j).flatMap (Ty.enc (.pair .str .str)):=Jv (ty:=(.pair .str .str)) rfl a0 j
  have eR:(a0.take i ++ a0.drop j).flatMap (Ty.enc (.pair .str .str))=(a0.flatMap (Ty.enc (.pair .str .str))).take (i*2) ++ (a0.flatMap (Ty.enc (.pair .str .str))).drop (j*2):=by rw [eT,eD,List.flatMap_append]
  have lR:(a0.take i ++ a0.drop j).length=i+(a0.length - j):=by simp only [List.length_append,List.length_take,List.length_drop]; omega
  rw [nn] at hX hsp
  obtain ⟨X,hXe⟩:∃ X,X=a0.flatMap (Ty.enc (.pair .str .str)):=⟨_,rfl⟩
  rw [← hXe] at hX eR h1 oX
  refine T8 (T6 (Sg Z4 3 rfl ?_))
  refine Se [(0,.slice (some ⟨b,0,none⟩) a0.length c_1),(1,.int .i64 (i:Int)),(2,.int .i64 (j:Int)),(7,.int .i64 (a0.length:Int))] rfl ?_
  obtain ⟨G,⟨hG,hh⟩,_⟩:=h1.own (k:=0) (c:=Yr b 106 (X ++ sp)) rfl
  have lXs:(X ++ sp).length=c_1*2:=by rw [List.length_append]; omega
  have lS:∀ w',w'.heap[b]?=some (.cells (X ++ sp).toArray 106 (0,0))→Lies w' (Wf (some ⟨b,0,none⟩) c_1 j 2) (X.drop (j*2)):=fun w' hw=>by
   have:=(Zir hw lXs (l:=j)).take ((a0.length - j)*2)
   rwa [List.drop_append_of_le_length (by omega),List.take_append_of_le_length (by rw [List.length_drop]; omega),List.take_of_length_le (by rw [List.length_drop]; omega)] at this
  refine T8 (J.heldSt mix (h1.only [] rfl) ?_)
  have h2:=h1.drew
  refine TZ Z4 rfl [0,1] rfl ?_
  refine HJ.q (i:=2) rfl rfl rfl rfl rfl rfl (Wg Z4 0 (i:Int) 0 i c_1 rfl rfl rfl rfl hc rfl ⟨_,rfl⟩ (Int.le_refl _) p0 (by omega) (by omega) (by show 0+0*2=0; omega) (by omega) (by omega)) ?_
  refine TZ Z4 rfl [3,4] rfl ?_
  refine HJ.q (i:=5) rfl rfl rfl rfl rfl rfl (Zak (l:=(j:Int)) (h:=(a0.length:Int)) (sub:=a0.drop j) Z4 rfl rfl rfl rfl hc ⟨_,rfl⟩ rfl (by omega) p2 (Int.le_refl _) (by simpa using Yn a0 (j:Int))) ?_
  refine HJ.op (i:=6) rfl rfl rfl rfl rfl (Zeu Z4 (cs:=X.drop (j*2)) 0 rfl h2 rfl rfl rfl rfl rfl (by rw [List.length_drop]; omega) (by show (X.drop (j*2)).length=(a0.drop j).length*2; rw [List.length_drop,List.length_drop]; omega) (by show i*2+_≤_; rw [List.length_append,List.length_drop]; omega) (lS w0.drew hh) (fun u hu=>oX u (List.mem_of_mem_drop hu))) ?_
  rintro _ w3 ⟨rfl,h3⟩
  refine ⟨⟨[_],h3⟩,?_⟩
  replace h3:St w0 F0 (Yr b 106 (Zy (i*2) (X.drop (j*2)) (X ++ sp)) :: []) [] w3:=h3
  refine HJ.know (t:=26) (v:=.slice (some ⟨b,0,none⟩) (i+(a0.length - j)) c_1) rfl (by rw [List.length_drop]) ?_
  refine TZ Z4 rfl [7] rfl ?_
  refine HJ.fin [(0,.slice (some ⟨b,0,none⟩) (i+(a0.length - j)) c_1),(7,.int .i64 (a0.length:Int))] rfl rfl ?_
  refine T8 (T6 (Sg Z4 4 rfl ?_))
  refine RJ.q rfl rfl (Wg Z4 ((i+(a0.length - j):Nat):Int) (a0.length:Int) ((i+(a0.length - j))*2) (j - i) (c_1 - (i+(a0.length - j))) rfl rfl rfl rfl (by omega) ⟨_,rfl⟩ ⟨_,rfl⟩ (by omega) (by omega) (by omega) (by omega) (by show 0+((i+(a0.length - j):Nat):Int).toNat*2=_; omega) (by omega) (by omega)) ?_
  refine RJ.op rfl rfl (Za5 Z4 (ty:=(.pair .str .str)) rfl (([]:List UInt8),([]:List UInt8)) 0 rfl h3 rfl rfl rfl rfl rfl (by omega) (by simp only [Zy,List.length_append,List.length_take,List.length_drop,nn]; omega)) ?_
  intro _ w4 h4
  refine Se [(0,.slice (some ⟨b,0,none⟩) (i+(a0.length - j)) c_1)] rfl ?_
  refine T8 (T6 (Sg Z4 2 rfl ?_))
  refine Se [(6,.slice (some ⟨b,0,none⟩) (i+(a0.length - j)) c_1)] rfl ?_
  refine T7 ?_
  have lZ:=Yw (ty:=(.pair .str .str)) rfl (List.replicate (j - i) (([]:List UInt8),([]:List UInt8)))
  rw [List.length_replicate,nn] at lZ
  have q:=Zif (X:=X) (sp:=sp) (Z:=(List.replicate (j - i) (([]:List UInt8),([]:List UInt8))).flatMap (Ty.enc (.pair .str .str))) (a:=i*2) (b:=j*2) (by omega) (by omega) (by omega)
  have e1:(i+(a0.length - j))*2=i*2+(X.length - j*2):=by omega
  rw [e1] at h4
  have h5:=h4.closeRow (ty:=(.pair .str .str)) (ys:=a0.take i ++ a0.drop j) (c:=c_1) rfl 0 rfl (by rw [lR]; omega) hcm (by rw [q.1,lXs,nn]) (by rw [eR,lR,nn,e1,q.2])
  exact ⟨_,_,_,(Xn rfl),⟨_,_,by rw [lR]; rfl,rfl⟩,h5.only [0] rfl⟩

end Go.SK.T
