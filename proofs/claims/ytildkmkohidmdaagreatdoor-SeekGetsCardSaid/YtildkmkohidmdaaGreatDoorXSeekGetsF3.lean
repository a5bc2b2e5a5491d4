/- The functions, further. -/
import Derived.Test.YtildkmkohidmdaaGreatDoorXSeekGetsF2
set_option linter.unusedVariables false
set_option linter.unusedSimpArgs false
set_option maxRecDepth 20000
set_option maxHeartbeats 40000000
namespace Go.SK.T
open Go Go.SK Go.Proofs
def Q86.f (k:Nat) (a0:Te) (a1:Int) (a2:TQ):Option (TA×Int×Te):=(Q89.f k a0 a1 a2 a2 (([]:List UInt8),([]:List UInt8),true)).bind fun r1=>(if (!decide (r1.1=0))=true then (some ((([]:List UInt8),([]:List UInt8),false),r1.1,r1.2.1)) else (some (r1.2.2,0,r1.2.1)))
theorem Q86.spec {k a0 a1 a2 b1 b2 b3 b4 b5 b6 b7 A1 c_1 A2 c_2 A3 c_3 A4 c_4 A5 c_5 r} (H:Q86.f k a0 a1 a2=some r) :
  Spec Tryz.prog 40 [.pointer (some ⟨b1,0,none⟩),.int .u32 a1,.string ⟨⟨a2⟩⟩] (Vh a0 b1 b2 b3 b4 b5 b6 b7 A1 A2 A3 A4 A5 c_1 c_2 c_3 c_4 c_5) [] (fun v l=>∃ A_0 c_0 A_1 c_1 A_2 c_2 A_3 c_3 A_4 c_4,v=.tuple #[.agg #[.string ⟨⟨r.1.1⟩⟩,.string ⟨⟨r.1.2.1⟩⟩,.bool r.1.2.2],.int .i64 r.2.1]∧l=Vh r.2.2 b1 b2 b3 b4 b5 b6 b7 A_0 A_1 A_2 A_3 A_4 c_0 c_1 c_2 c_3 c_4):=by
 refine Zj Tryz.func40 fun w0 F0 h0=>?_
 replace h0:=nf h0
 unfold Q86.f at H
 refine T6 (T4 ?_)
 refine rB (Ya h0) fun b8 w1 h1=>?_
 refine rB (Ym h1) fun b9 w2 h2=>?_
 refine Ze [0,1,5,6] rfl ?_
 refine T6 (T4 ?_)
 refine Zd 1 ?_
 refine rB (Ym h2) fun b10 w3 h3=>?_
 refine rS (Zs 0 h3) fun _ w4 h4=>?_
 refine Ze [0,1,5,6,8] rfl ?_
 refine T6 (T4 ?_)
 refine Zd 2 ?_
 refine Zc (Zb 2 h4.wht) ?_
 refine Zd 1 ?_
 refine cE H [3,3,3,3,3,3,3,3,3,3,3,3,2,0] h4 rfl Q89.spec Zn ?_
 rintro r1 w5 _ _ H ⟨A6,c_6,A7,c_7,A8,c_8,A9,c_9,A10,c_10,rfl,rfl⟩ h5
 replace h5:=nf h5
 refine Ze [6,8,9] rfl ?_
 refine T6 (T6 (Za [6,8,9,17] ?_))
 refine jIf H (fun c1 H=>?_) fun c1 H=>?_
 ·refine T6 (T4 ?_)
  refine Zd 2 ?_
  refine rS (Zs 14 h5) fun _ w6 h6=>?_
  refine Ze [6,7] rfl ?_
  have h7:=sO h6 [0,0,0,0,0,0,0,0,0,0,0,0,0]
  replace h7:=nf h7
  cases H
  exact T5 (jR2 (Z2 (Sc Ys 0 h7 rfl rfl rfl rfl) (Z2 (Sd rfl) Yz)) ⟨_,_,_,_,_,_,_,_,_,_,rfl,rfl⟩ h7 [1,1,1,1,1,1,1,1,1,1,1,1])
 refine T7 (T6 (T4 ?_))
 refine Zc (Zb 13 h5.wht) ?_
 refine rS (Zs 14 h5) fun _ w7 h8=>?_
 refine Ze [6,7] rfl ?_
 have h9:=sO h8 [0,0,0,0,0,0,0,0,0,0,0,0,0]
 replace h9:=nf h9
 cases H
 exact T5 (jR2 (Z2 (Sc Ys 0 h9 rfl rfl rfl rfl) (Z2 (Sd rfl) Yz)) ⟨_,_,_,_,_,_,_,_,_,_,rfl,rfl⟩ h9 [1,1,1,1,1,1,1,1,1,1,1,1])

def Q133.f (k:Nat):Option (Bool):=(Q132.f k (9,200,8,8,16,16,2,1) (([]:List TC),([]:List Tz),([]:List Int),([]:List Int))).bind fun r1=>(Vw r1.1 (if (!r1.2.2.2)=true then (some false) else (none)) (fun r2=>(if (!r1.2.2.2)=true then (some false) else ((Q84.f k r2 r1.2.1 ([97]:List UInt8)).bind fun r3=>((Q86.f k r3.2.2.2 r1.2.1 ([97]:List UInt8)).bind fun r4=>(if (!r3.2.1)=true then (if (decide (r3.2.2.1=0))=true then (if ((decide (r4.1.1=([]:List UInt8))) && ((decide (r4.1.2.1=([]:List UInt8))) && ((r4.1.2.2 == true) && true)))=true then (some (decide (r4.2.1=0))) else (some false)) else (some false)) else (some false)))))))
theorem Q133.spec {k r} (H:Q133.f k=some r) :
  Spec Tryz.prog 29 [] [] [tabC 0] (fun v l=>v=.bool r∧l=[]):=by
 refine Zj Tryz.func29 fun w0 F0 h0=>?_
 unfold Q133.f at H
 refine T6 (Za [] ?_)
 refine T6 (T4 ?_)
 refine Zd 1 ?_
 refine rB (Ym h0) fun b1 w1 h1=>?_
 refine rS (Zs 0 h1) fun _ w2 h2=>?_
 refine Ze [1] rfl ?_
 refine T6 (T4 ?_)
 refine Zc (Zb 0 h2.wht) ?_
 refine Zd 1 ?_
 have h3:=h2.addNil 104 (.pair .str .str)
 have h4:=h3.freeze (k:=0) rfl Yg
 have h5:=h4.addNil 106 (.pair .str (.pair .bool .str))
 have h6:=h5.freeze (k:=0) rfl Yg
 have h7:=h6.addNil 5 (.int .u8)
 have h8:=h7.freeze (k:=0) rfl Yg
 obtain ⟨r1,q1,H⟩:=Yf H
 refine Zr (Z4 [] (Q132.spec q1) h8 rfl (gS [2,1,0,0,3])) ?_
 rintro _ w3 ⟨_,_,⟨v1,l1,ho1,A1,c_1,rfl,rfl,rfl⟩,h9⟩
 rcases ho2:r1.1 with _ | r2
 ·rw [ho2] at ho1
  obtain ⟨rfl,rfl⟩:=ho1
  replace H:=J4 ho2 H
  replace h9:=nf h9
  refine Ze [2,3,5] rfl ?_
  refine T6 (T6 (Za [2,3,21] ?_))
  refine jIf H (fun c1 H=>?_) fun c1 H=>?_
  ·refine T6 (Za [0] ?_)
   cases H
   exact T5 (jR0 h9 [])
  refine T7 (T6 (T4 ?_))
  refine Zd 2 ?_
  exact nomatch H
 rw [ho2] at ho1
 obtain ⟨b2,b3,b4,A2,c_2,A3,c_3,b5,A4,c_4,b6,A5,c_5,b7,b8,A6,c_6,rfl,rfl⟩:=ho1
 replace H:=J5 ho2 H
 replace h9:=nf h9
 refine Ze [2,3,5] rfl ?_
 refine T6 (T6 (Za [2,3,21] ?_))
 refine jIf H (fun c2 H=>?_) fun c2 H=>?_
 ·refine T6 (Za [0] ?_)
  have h10:=sO h9 []
  replace h10:=nf h10
  cases H
  exact T5 (jR0 h10 [])
 refine T7 (T6 (T4 ?_))
 refine Zd 2 ?_
 refine cE H [0,0,0,0,0,0,0,0,0,0,0,0] h9 rfl Q84.spec Zn ?_
 rintro r3 w4 _ _ H ⟨A7,c_7,A8,c_8,A9,c_9,A10,c_10,A11,c_11,rfl,rfl⟩ h11
 replace h11:=nf h11
 refine Ze [2,3,7,8] rfl ?_
 refine T6 (T4 ?_)
 refine Zd 2 ?_
 refine cE H [0,0,0,0,0,0,0,0,0,0,0,0] h11 rfl Q86.spec Zn ?_
 rintro r4 w5 _ _ H ⟨A12,c_12,A13,c_13,A14,c_14,A15,c_15,A16,c_16,rfl,rfl⟩ h12
 replace h12:=nf h12
 refine Zd 3 ?_
 refine rB (Ym h12) fun b9 w6 h13=>?_
 refine rS (Zs 0 h13) fun _ w7 h14=>?_
 refine Ze [7,8,9,10] rfl ?_
 have h15:=sO h14 [0]
 replace h15:=nf h15
 refine T6 (T4 ?_)
 refine Zd 3 ?_
 refine Z8 37 H (fun c3 H=>?_) fun c3 H=>?_
 ·refine Zd 4 ?_
  refine Z8 41 H (fun c4 H=>?_) fun c4 H=>?_
  ·refine Zc (Zb 0 h15.wht) ?_
   refine Zd 4 ?_
   refine Z8 46 H (fun c5 H=>?_) fun c5 H=>?_
   ·refine Ze [0] rfl ?_
    cases H
    exact T5 (jR0 h15 [])
   refine Ze [0] rfl ?_
   cases H
   exact T5 (jR0 h15 [])
  refine Ze [0] rfl ?_
  cases H
  exact T5 (jR0 h15 [])
 refine Ze [0] rfl ?_
 cases H
 exact T5 (jR0 h15 [])

def Q145.l0:Nat→Tt→Tw→Int→Option Tv
 | 0,_,_,_=>none
 | k+1,a1,x1,x2=>if (decide (x2<(a1.length:Int)))=true then (if 0≤x2∧x2<(a1.length:Int) then (if (gt a1 x2).2.1=true then ((Q146.f k x1 ((gt a1 x2).1)).bind fun r1=>(Q145.l0 k a1 r1 (w64 (x2+1)))) else ((Q148.f k x1 ((gt a1 x2).1) ((gt a1 x2).2.2)).bind fun r2=>(Q145.l0 k a1 r2 (w64 (x2+1))))) else none) else (some x1)
def Q145.f (k:Nat) (a0:Tw) (a1:Tt):Option Tv:=Q145.l0 k a1 a0 0
theorem Q145.spec {k a0 a1 A2 c_2 A1 c_1 r} (H:Q145.f k a0 a1=some r) :
  Spec Tryz.prog 74 [.slice A1 a0.length c_1,.slice A2 a1.length c_2] [Vn a0 A1 c_1] [Yp a1 A2 c_2] (fun v l=>∃ A_0 c_0,v=.slice A_0 r.length c_0∧l=[Vn r A_0 c_0]):=by
 refine Zj Tryz.func74 fun w0 F0 h0=>?_
 unfold Q145.f at H
 refine T6 (Za [0,1] ?_)
 refine T6 (T6 (Za [0,1,5] ?_))
 refine TY ?_
 have h7:=(sOR h0 [0] [0])
 refine T2 (fun kk env w=>∃ x1 A3 c_3 x2,Q145.l0 kk a1 x1 x2=some r∧env=[(0,.slice A3 x1.length c_3),(1,.slice A2 a1.length c_2),(5,.int .i64 x2)]∧St w0 F0 [Vn x1 A3 c_3] [Yp a1 A2 c_2] w) (k:=k) ⟨_,_,_,_,H,rfl,h7⟩ ?_
 rintro k1 env w1 ⟨x1,A3,c_3,x2,H,rfl,h1⟩
 rcases k1 with _ | k1
 ·exact z0 H
 rw [Q145.l0] at H
 refine T6 (T6 (Za [0,1,5,9] ?_))
 refine jIf H (fun c1 H=>?_) fun c1 H=>?_
 ·refine T7 (T6 (TY (T6 (T4 ?_))))
  refine Zd 2 ?_
  obtain ⟨⟨p1,p2⟩,H⟩:=Zk H
  have e1:=Zw h1.wh (Zi 1) p1 p2
  refine Zc (Zg e1 p1 p2) ?_
  refine Zd 1 ?_
  refine Zc (Zh 1 h1.wht (Zi 1) p1 p2) ?_
  refine Ze [0,1,5,16] rfl ?_
  refine jIf H (fun c2 H=>?_) fun c2 H=>?_
  ·refine T4 (Zd 3 ?_)
   refine Zc (Zg e1 p1 p2) ?_
   refine Zd 1 ?_
   refine Zc (Zh 0 h1.wht (Zi 1) p1 p2) ?_
   refine cE H [] h1 rfl Q146.spec (Xo (gO 0) Zn) ?_
   rintro r1 w2 _ _ H ⟨A4,c_4,rfl,rfl⟩ h2
   replace h2:=nf h2
   refine Ze [0,1,5] rfl ?_
   refine Za [0,1,5] ?_
   have h3:=(sOR h2 [0] [0])
   exact ⟨k1,by omega,_,_,_,_,H,rfl,h3⟩
  refine jH h1 fun h4=>?_
  refine Zl [0,1,2,6,7] ?_
  refine Zf 3 rfl (Zg e1 p1 p2) ?_
  refine Zl [4] ?_
  refine Zf 5 rfl (Zh 0 wI (Zi 1) p1 p2) ?_
  refine Zf 8 rfl (Zg e1 p1 p2) ?_
  refine Zl [9] ?_
  refine Zf 10 rfl (Zh 2 wI (Zi 1) p1 p2) ?_
  refine cEJ 11 rfl H [] h4 rfl Q148.spec (Xo (gO 0) Zn) ?_
  rintro r2 w3 _ _ H ⟨A5,c_5,rfl,rfl⟩ h5
  replace h5:=nf h5
  refine ⟨⟨[_],h5⟩,?_⟩
  refine Zl [12] ?_
  refine Zy [0,1,5] ?_
  refine Za [0,1,5] ?_
  have h6:=(sOR h5 [0] [0])
  exact ⟨k1,by omega,_,_,_,_,H,rfl,h6⟩
 refine T1 (T6 (Za [4] ?_))
 cases H
 exact T5 (jR ⟨_,_,rfl,rfl⟩ h1 [0])

mutual
def Q151.l0:Nat→Tj→Tw→Int→Option Tv
 | 0,_,_,_=>none
 | k+1,a0,x1,x2=>if (decide (x2<(a0.length:Int)))=true then (Q151.l1 k a0 x2 x1 0) else (some x1)
def Q151.l1:Nat→Tj→Int→Tw→Int→Option Tv
 | 0,_,_,_,_=>none
 | k+1,a0,x2,x3,x4=>if 0≤x2∧x2<(a0.length:Int) then (if (decide (x4<((gt a0 x2).length:Int)))=true then (if 0≤x4∧x4<((gt a0 x2).length:Int) then (if (x3.length+((gt (gt a0 x2) x4).2.2.2.2).length)*32≤140737488355328 then ((Q145.f k (x3 ++ ((gt (gt a0 x2) x4).2.2.2.2)) ((gt (gt a0 x2) x4).2.2.2.1)).bind fun r1=>(Q151.l1 k a0 x2 r1 (w64 (x4+1)))) else none) else none) else (Q151.l0 k a0 x3 (w64 (x2+1)))) else none
end
def Q151.f (k:Nat) (a0:Tj):Option Tv:=Q151.l0 k a0 ([]:List TC) 0
theorem Q151.spec {k a0 A1 c_1 r} (H:Q151.f k a0=some r) :
  Spec Tryz.prog 32 [.slice A1 a0.length c_1] [] [R47 a0 A1 c_1] (fun v l=>∃ A_0 c_0,v=.slice A_0 r.length c_0∧l=[Vn r A_0 c_0]):=by
 refine Zj Tryz.func32 fun w0 F0 h0=>?_
 unfold Q151.f at H
 refine T6 (Za [0] ?_)
 refine T6 (T4 ?_)
 refine rB (Z1 (.pair .str .str) ([]:List TC) h0) fun b1 w1 h1=>?_
 refine Ze [0,3] rfl ?_
 refine T6 (T6 (Za [0,3,4] ?_))
 refine TY ?_
 have h15:=(sOR h1 [0] [0])
 refine T2 (fun kk env w=>∃ x1 A2 c_2 x2,Q151.l0 kk a0 x1 x2=some r∧env=[(0,.slice A1 a0.length c_1),(3,.slice A2 x1.length c_2),(4,.int .i64 x2)]∧St w0 F0 [Vn x1 A2 c_2] [R47 a0 A1 c_1] w) (k:=k) ⟨_,_,_,_,H,rfl,h15⟩ ?_
 rintro k1 env w2 ⟨x1,A2,c_2,x2,H,rfl,h2⟩
 rcases k1 with _ | k1
 ·exact z0 H
 rw [Q151.l0] at H
 refine T6 (T6 (Za [0,3,4,10] ?_))
 refine jIf H (fun c1 H=>?_) fun c1 H=>?_
 ·refine T7 (T6 (TY (T6 (Za [0,3,4,5] ?_))))
  refine TY ?_
  have h14:=(sOR h2 [0] [0])
  refine T2 (fun kk env w=>∃ x3 A3 c_3 x4,Q151.l1 kk a0 x2 x3 x4=some r∧env=[(0,.slice A1 a0.length c_1),(3,.slice A3 x3.length c_3),(4,.int .i64 x2),(5,.int .i64 x4)]∧St w0 F0 [Vn x3 A3 c_3] [R47 a0 A1 c_1] w∧kk≤k1) (k:=k1) ⟨_,_,_,_,H,rfl,h14,T8 _⟩ ?_
  rintro k2 env w3 ⟨x3,A3,c_3,x4,H,rfl,h3,hk2⟩
  rcases k2 with _ | k2
  ·exact z0 H
  rw [Q151.l1] at H
  refine T6 (T6 (T4 ?_))
  refine Zd 3 ?_
  obtain ⟨⟨p1,p2⟩,H⟩:=Zk H
  have e1:=Zw h3.wh (Zi 1) p1 p2
  refine Zc (Zg e1 p1 p2) ?_
  obtain ⟨cs1,h4⟩:=h3.elem 0 rfl p1 p2
  obtain ⟨A4,c_4,rfl⟩:=Yi 0 h4
  refine Zc (X2 0 h4.wht (Zi 2)) ?_
  refine Ze [0,3,4,5,19] rfl ?_
  refine jIf H (fun c2 H=>?_) fun c2 H=>?_
  ·refine T7 (T6 (TY (T6 (T4 ?_))))
   refine Zd 3 ?_
   refine Zc (Zg e1 p1 p2) ?_
   refine Zc (X2 0 h4.wht (Zi 2)) ?_
   refine Zd 1 ?_
   obtain ⟨⟨p3,p4⟩,H⟩:=Zk H
   have e2:=Zw h4.wh (Zi 1) p3 p4
   refine Zc (Zg e2 p3 p4) ?_
   refine Zd 1 ?_
   obtain ⟨cs2,h5⟩:=h4.elem 0 rfl p3 p4
   obtain ⟨cs3,cs4,rfl,h6⟩:=Y5 0 h5
   obtain ⟨cs5,cs6,rfl,h7⟩:=Y5 1 h6
   obtain ⟨cs7,cs8,rfl,h8⟩:=Y5 1 h7
   obtain ⟨cs9,cs10,rfl,h9⟩:=Y5 1 h8
   obtain rfl:=Ul (.int .i64) 6 h9
   obtain ⟨A5,c_5,rfl⟩:=Yi 4 h9
   obtain ⟨A6,c_6,rfl⟩:=Yi 2 h9
   obtain ⟨A7,c_7,rfl⟩:=Yi 0 h9
   obtain ⟨A8,c_8,rfl⟩:=Yi 1 h9
   refine Zc (X2 4 h9.wht (Zi 10)) ?_
   obtain ⟨p5,H⟩:=Zk H
   refine Zr (Zv 0 h9 (Zi 1) p5) ?_
   rintro _ w4 ⟨A9,c_9,rfl,h10⟩
   replace h10:=nf h10
   refine Ze [0,3,4,5] rfl ?_
   refine T4 (Zd 3 ?_)
   refine Zc (Zg e1 p1 p2) ?_
   refine Zc (X2 0 h10.wht (Zi 12)) ?_
   refine Zd 1 ?_
   refine Zc (Zg e2 p3 p4) ?_
   refine Zd 1 ?_
   refine Zc (X2 3 h10.wht (Zi 10)) ?_
   refine cE H [0] h10 rfl Q145.spec (gS [0]) ?_
   rintro r1 w5 _ _ H ⟨A10,c_10,rfl,rfl⟩ h11
   replace h11:=nf h11
   refine Ze [0,3,4,5] rfl ?_
   refine Za [0,3,4,5] ?_
   have h12:=(sOR h11 [0] [12])
   exact ⟨k2,by omega,_,_,_,_,H,rfl,h12,by omega⟩
  refine T1 (Za [0,3,4] ?_)
  have h13:=(sOR h4 [0] [2])
  exact ⟨k2,by omega,_,_,_,_,H,rfl,h13⟩
 refine T1 (T6 (Za [2] ?_))
 cases H
 exact T5 (jR ⟨_,_,rfl,rfl⟩ h2 [0])

def Q147.l0:Nat→Tw→TQ→Int→Option TJ
 | 0,_,_,_=>none
 | k+1,a0,a1,x1=>if (decide (x1<(a0.length:Int)))=true then (if 0≤x1∧x1<(a0.length:Int) then (if (decide (((gt a0 x1).1)=a1))=true then (some ((gt a0 x1).2,true)) else (Q147.l0 k a0 a1 (w64 (x1+1)))) else none) else (some (([]:List UInt8),false))
def Q147.f (k:Nat) (a0:Tw) (a1:TQ):Option TJ:=Q147.l0 k a0 a1 0
theorem Q147.spec {k a0 a1 A1 c_1 r} (H:Q147.f k a0 a1=some r) :
  Spec Tryz.prog 31 [.slice A1 a0.length c_1,.string ⟨⟨a1⟩⟩] [] [Yl a0 A1 c_1] (fun v l=>v=.tuple #[.string ⟨⟨r.1⟩⟩,.bool r.2]∧l=[]):=by
 refine Zj Tryz.func31 fun w0 F0 h0=>?_
 unfold Q147.f at H
 refine T6 (Za [0,1] ?_)
 refine T6 (T6 (Za [0,1,6] ?_))
 refine TY ?_
 have h3:=(sOR h0 [] [0])
 refine T2 (fun kk env w=>∃ x1,Q147.l0 kk a0 a1 x1=some r∧env=[(0,.slice A1 a0.length c_1),(1,.string ⟨⟨a1⟩⟩),(6,.int .i64 x1)]∧St w0 F0 [] [Yl a0 A1 c_1] w) (k:=k) ⟨_,H,rfl,h3⟩ ?_
 rintro k1 env w1 ⟨x1,H,rfl,h1⟩
 rcases k1 with _ | k1
 ·exact z0 H
 rw [Q147.l0] at H
 refine T6 (T6 (Za [0,1,6,10] ?_))
 refine jIf H (fun c1 H=>?_) fun c1 H=>?_
 ·refine T7 (T6 (TY (T6 (T4 ?_))))
  refine Zd 2 ?_
  obtain ⟨⟨p1,p2⟩,H⟩:=Zk H
  have e1:=Zw h1.wh (Zi 0) p1 p2
  refine Zc (Zg e1 p1 p2) ?_
  refine Zd 1 ?_
  refine Zc (Zh 0 h1.wht (Zi 0) p1 p2) ?_
  refine Ze [0,1,6,19] rfl ?_
  refine jIf H (fun c2 H=>?_) fun c2 H=>?_
  ·refine T6 (T4 ?_)
   refine Zd 2 ?_
   refine Zc (Zg e1 p1 p2) ?_
   refine Zd 1 ?_
   refine Zc (Zh 1 h1.wht (Zi 0) p1 p2) ?_
   refine Ze [4,5] rfl ?_
   cases H
   exact T5 (jR0 h1 [])
  refine T7 (Za [0,1,6] ?_)
  have h2:=(sOR h1 [] [0])
  exact ⟨k1,by omega,_,H,rfl,h2⟩
 refine T1 (T6 (Za [4,5] ?_))
 cases H
 exact T5 (jR0 h1 [])

def Q131.l0:Nat→TQ→Ta→Te→Bool→Option (Bool)
 | 0,_,_,_,_=>none
 | k+1,a2,r1,r2,x1=>if x1=true then ((Q133.f k).bind fun r5=>(some r5)) else ((Q84.f k r2 r1.2.1 a2).bind fun r6=>((Q151.f k r1.2.2.1).bind fun r7=>((Q147.f k r7 a2).bind fun r8=>(if r8.2=true then (if (decide (r6.2.2.1=0))=true then (if r6.2.1=true then (if (decide (r6.1=r8.1))=true then ((Q133.f k).bind fun r9=>(some r9)) else (some false)) else (some false)) else (some false)) else (if (decide (r6.2.2.1=0))=true then (if (!r6.2.1)=true then (if (decide (r6.1=([]:List UInt8)))=true then ((Q133.f k).bind fun r10=>(some r10)) else (some false)) else (some false)) else (some false))))))
def Q131.f (k:Nat) (a0:Tn) (a1:Tm) (a2:TQ):Option (Bool):=(Q132.f k a0 a1).bind fun r1=>(Vw r1.1 (if (!r1.2.2.2)=true then ((Q133.f k).bind fun r3=>(some r3)) else (if (decide (300<(a2.length:Int)))=true then ((Q133.f k).bind fun r4=>(some r4)) else (none))) (fun r2=>(if (!r1.2.2.2)=true then (Q131.l0 k a2 r1 r2 true) else (Q131.l0 k a2 r1 r2 (decide (300<(a2.length:Int)))))))
theorem Q131.spec {k a0 a1 a2 A1 c_1 A2 c_2 A3 c_3 A4 c_4 r} (H:Q131.f k a0 a1 a2=some r) :
  Spec Tryz.prog 7 [.agg #[.int .i64 a0.1,.int .i64 a0.2.1,.int .i64 a0.2.2.1,.int .i64 a0.2.2.2.1,.int .i64 a0.2.2.2.2.1,.int .i64 a0.2.2.2.2.2.1,.int .i64 a0.2.2.2.2.2.2.1,.int .i64 a0.2.2.2.2.2.2.2],.agg #[.slice A1 a1.1.length c_1,.slice A2 a1.2.1.length c_2,.slice A3 a1.2.2.1.length c_3,.slice A4 a1.2.2.2.length c_4],.string ⟨⟨a2⟩⟩] [] [Yl a1.1 A1 c_1,Yp a1.2.1 A2 c_2,R5 a1.2.2.1 A3 c_3,R5 a1.2.2.2 A4 c_4,tabC 0] (fun v l=>v=.bool r∧l=[]):=by
 refine Zj Tryz.func7 fun w0 F0 h0=>?_
 unfold Q131.f at H
 refine T6 (T4 ?_)
 refine rB (Ya h0) fun b1 w1 h1=>?_
 refine rB (Ya h1) fun b2 w2 h2=>?_
 refine Ze [2,3,4] rfl ?_
 refine T6 (T4 ?_)
 refine Zc (Zb 1 h2.wht) ?_
 refine Zc (Zb 0 h2.wht) ?_
 obtain ⟨r1,q1,H⟩:=Yf H
 refine Zr (Z4 [] (Q132.spec q1) h2 rfl (gS [0,1,2,3,4])) ?_
 rintro _ w3 ⟨_,_,⟨v1,l1,ho1,A5,c_5,rfl,rfl,rfl⟩,h3⟩
 rcases ho2:r1.1 with _ | r2
 ·rw [ho2] at ho1
  obtain ⟨rfl,rfl⟩:=ho1
  replace H:=J4 ho2 H
  replace h3:=nf h3
  refine Ze [2,7,8,9,10] rfl ?_
  have h4:=sO h3 []
  replace h4:=nf h4
  refine T6 (T6 (T4 ?_))
  refine Zd 3 ?_
  refine Z8 26 H (fun c1 H=>?_) fun c1 H=>?_
  ·refine Ze [2,7,8,9,30] rfl ?_
   refine Zq ?_
   refine T6 (T4 ?_)
   refine cS H [] h4 rfl Q133.spec (gS [5]) fun r3 w4 H h5=>?_
   refine Ze [6] rfl ?_
   cases H
   exact T5 (jR0 h5 [])
  refine Ze [2,7,8,9,30] rfl ?_
  refine jIf H (fun c2 H=>?_) fun c2 H=>?_
  ·refine T6 (T4 ?_)
   refine cS H [] h4 rfl Q133.spec (gS [5]) fun r4 w5 H h6=>?_
   refine Ze [6] rfl ?_
   cases H
   exact T5 (jR0 h6 [])
  refine T7 (T6 (T4 ?_))
  refine Zd 3 ?_
  exact nomatch H
 rw [ho2] at ho1
 obtain ⟨b3,b4,b5,A6,c_6,A7,c_7,b6,A8,c_8,b7,A9,c_9,b8,b9,A10,c_10,rfl,rfl⟩:=ho1
 replace H:=J5 ho2 H
 replace h3:=nf h3
 refine Ze [2,7,8,9,10] rfl ?_
 have h7:=sO h3 [0,0,0,0,0,0,0,0,0,0,0,0]
 replace h7:=nf h7
 refine T6 (T6 ?_)
 refine T3 (fun env w=>∃ k1 x1,Q131.l0 k1 a2 r1 r2 x1=some r∧env=[(2,.string ⟨⟨a2⟩⟩),(7,.pointer (some ⟨b3,0,none⟩)),(8,.int .u32 r1.2.1),(9,.slice A5 r1.2.2.1.length c_5),(30,.bool x1)]∧St w0 F0 [Zaf b3 r2.1.1 r2.1.2.1 r2.1.2.2.1 r2.1.2.2.2.1 r2.1.2.2.2.2.1 r2.1.2.2.2.2.2.1 r2.1.2.2.2.2.2.2.1 r2.1.2.2.2.2.2.2.2 (.pointer (some ⟨b5,0,none⟩)) (.pointer (some ⟨b4,0,none⟩)) (.pointer (some ⟨b8,0,none⟩)) r2.2.2.2,X0 b5 r2.2.1.1.1 r2.2.1.1.2.1 A6 c_6 r2.2.1.1.2.2.1 r2.2.1.1.2.2.2,Wc b4 (.pointer (some ⟨b5,0,none⟩)) r2.2.1.2.1 A7 c_7 (.map (some b6)) r2.2.1.2.2.2.1 A8 c_8 (.pointer (some ⟨b7,0,none⟩)),Xs .u32 (Value.int .i64) b6 r2.2.1.2.2.1,Y8 b7 r2.2.1.2.2.2.2.1 A9 c_9 r2.2.1.2.2.2.2.2,Jv b8 (.pointer (some ⟨b9,0,none⟩)),Wo b9 r2.2.2.1.1 r2.2.2.1.2.1 r2.2.2.1.2.2 A10 c_10,O5 r2.2.1.1.2.1 A6 c_6,Wb r2.2.1.2.1 A7 c_7,O3 r2.2.1.2.2.2.1 A8 c_8,Y7 r2.2.1.2.2.2.2.1 A9 c_9,O98 r2.2.2.1.2.2 A10 c_10] [R47 r1.2.2.1 A5 c_5,tabC 0] w∧k1≤k) ?_ ?_
 ·refine T4 (Zd 3 ?_)
  refine Z8 26 H (fun c11 H=>?_) fun c11 H=>?_
  ·refine Ze [2,7,8,9,30] rfl ?_
   have h17:=(sOR h7 [0,1,0,2,3,4,4,0,0,0,0,0] [0,5])
   exact ⟨k,_,H,rfl,h17,T8 _⟩
  refine Ze [2,7,8,9,30] rfl ?_
  have h18:=(sOR h7 [0,1,0,2,3,4,4,0,0,0,0,0] [0,5])
  exact ⟨k,_,H,rfl,h18,T8 _⟩
 rintro env w7 ⟨k1,x1,H,rfl,h8,hk1⟩
 rcases k1 with _ | k1
 ·exact z0 H
 rw [Q131.l0] at H
 refine jIf H (fun c3 H=>?_) fun c3 H=>?_
 ·refine T6 (T4 ?_)
  refine cS H [] h8 rfl Q133.spec (gS [13]) fun r5 w8 H h9=>?_
  refine Ze [6] rfl ?_
  have h10:=sO h9 []
  replace h10:=nf h10
  cases H
  exact T5 (jR0 h10 [])
 refine T7 (T6 (T4 ?_))
 refine Zd 3 ?_
 refine cE H [0,1,0,4,4,0,3,0,2,0,0,0] h8 rfl Q84.spec Zn ?_
 rintro r6 w9 _ _ H ⟨A11,c_11,A12,c_12,A13,c_13,A14,c_14,A15,c_15,rfl,rfl⟩ h11
 replace h11:=nf h11
 refine Ze [2,9,11,12,13] rfl ?_
 have h12:=sO h11 []
 replace h12:=nf h12
 refine T6 (T4 ?_)
 refine Zd 1 ?_
 refine cE H [] h12 rfl Q151.spec (gS [0]) ?_
 rintro r7 w10 _ _ H ⟨A16,c_16,rfl,rfl⟩ h13
 replace h13:=nf h13
 refine Zd 1 ?_
 refine cS H [] h13 rfl Q147.spec (Xo (gO 0) Zn) fun r8 w11 H h14=>?_
 refine Ze [11,12,13,14,15] rfl ?_
 refine T6 (T6 (Za [11,12,13,14,47] ?_))
 refine jIf H (fun c4 H=>?_) fun c4 H=>?_
 ·refine T6 (T4 ?_)
  refine Zd 3 ?_
  refine Z8 50 H (fun c5 H=>?_) fun c5 H=>?_
  ·refine Zd 3 ?_
   refine Z8 53 H (fun c6 H=>?_) fun c6 H=>?_
   ·refine Zd 5 ?_
    refine Z8 58 H (fun c7 H=>?_) fun c7 H=>?_
    ·refine cS H [] h14 rfl Q133.spec (gS [2]) fun r9 w12 H h15=>?_
     refine Ze [6] rfl ?_
     cases H
     exact T5 (jR0 h15 [])
    refine Ze [6] rfl ?_
    cases H
    exact T5 (jR0 h14 [])
   refine Ze [6] rfl ?_
   cases H
   exact T5 (jR0 h14 [])
  refine Ze [6] rfl ?_
  cases H
  exact T5 (jR0 h14 [])
 refine T7 (T6 (T4 ?_))
 refine Zd 3 ?_
 refine Z8 63 H (fun c8 H=>?_) fun c8 H=>?_
 ·refine Zd 4 ?_
  refine Z8 67 H (fun c9 H=>?_) fun c9 H=>?_
  ·refine Zd 4 ?_
   refine Z8 71 H (fun c10 H=>?_) fun c10 H=>?_
   ·refine cS H [] h14 rfl Q133.spec (gS [2]) fun r10 w13 H h16=>?_
    refine Ze [6] rfl ?_
    cases H
    exact T5 (jR0 h16 [])
   refine Ze [6] rfl ?_
   cases H
   exact T5 (jR0 h14 [])
  refine Ze [6] rfl ?_
  cases H
  exact T5 (jR0 h14 [])
 refine Ze [6] rfl ?_
 cases H
 exact T5 (jR0 h14 [])

end Go.SK.T
