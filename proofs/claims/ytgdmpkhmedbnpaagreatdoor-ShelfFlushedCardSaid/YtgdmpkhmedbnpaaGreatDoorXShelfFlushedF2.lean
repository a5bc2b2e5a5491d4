/- The functions, further. -/
import Derived.Test.YtgdmpkhmedbnpaaGreatDoorXShelfFlushedF1
set_option linter.unusedVariables false
set_option linter.unusedSimpArgs false
set_option maxRecDepth 20000
set_option maxHeartbeats 40000000
namespace Go.SK.T
open Go Go.SK Go.Proofs
def Q43.l0:Nat→Tr→Int→TU→Int→Tw→Int→Option Tk
 | 0,_,_,_,_,_,_=>none
 | k+1,a0,a2,x1,x2,x3,x4=>if (decide (x4<(if a0.2.2.2.2.2.1<a2 then a0.2.2.2.2.2.1 else a2)))=true then ((Q44.f k a0 (x1,x2)).bind fun r1=>(if (x3.length+([(r1.1,r1.2.1)]:List TC).length)*32≤140737488355328 then (Q43.l0 k a0 a2 r1.2.2.1 r1.2.2.2 (x3 ++ ([(r1.1,r1.2.1)]:List TC)) (w64 (x4+1))) else none)) else (some ((0,([]:List Int),([]:List TP),([]:List Tz),x3),(x1,x2)))
def Q43.f (k:Nat) (a0:Tr) (a1:TN) (a2:Int):Option Tk:=Q43.l0 k a0 a2 a1.1 a1.2 ([]:List TC) 0
theorem Q43.spec {k a0 a1 a2 A1 c_1 b1 r} (H:Q43.f k a0 a1 a2=some r) :
  SpecA Tryz.prog 68 [.agg #[.int .i64 a0.1,.int .i64 a0.2.1,.int .i64 a0.2.2.1,.int .i64 a0.2.2.2.1,.int .i64 a0.2.2.2.2.1,.int .i64 a0.2.2.2.2.2.1,.int .i64 a0.2.2.2.2.2.2.1,.int .i64 a0.2.2.2.2.2.2.2],.pointer (some ⟨b1,0,none⟩),.int .i64 a2] [X6 b1 a1.1 A1 c_1 a1.2] [R5 a1.1 A1 c_1] (fun v l lr=>∃ A_0 c_0 A_1 c_1 A_2 c_2 A_3 c_3 A_4 c_4,v=.agg #[.int .i64 r.1.1,.slice A_0 r.1.2.1.length c_0,.slice A_1 r.1.2.2.1.length c_1,.slice A_2 r.1.2.2.2.1.length c_2,.slice A_3 r.1.2.2.2.2.length c_3]∧l=[O33 r.1.2.1 A_0 c_0,O9 r.1.2.2.1 A_1 c_1,Zdp r.1.2.2.2.1 A_2 c_2,Zdv r.1.2.2.2.2 A_3 c_3,X6 b1 r.2.1 A_4 c_4 r.2.2]∧lr=[R5 r.2.1 A_4 c_4]):=by
 refine Yd Tryz.func68 fun w0 F0 h0=>?_
 unfold Q43.f at H
 refine T4 (T2 ?_)
 refine rB (Z4 h0) fun b2 w1 h1=>?_
 refine rB (Yp h1) fun b3 w2 h2=>?_
 refine Ze [1,2,3,6] rfl ?_
 refine T4 (T2 ?_)
 refine Zd 1 ?_
 refine rB (Yp h2) fun b4 w3 h3=>?_
 refine rS (Zs 0 h3) fun _ w4 h4=>?_
 refine Ze [1,2,3,6,7] rfl ?_
 refine T4 (T4 (T2 ?_))
 refine Zd 2 ?_
 refine Zc (Zb 2 h4.wht) ?_
 refine Ze [1,3,6,7,14,15] rfl ?_
 refine TW ?_
 have h16:=h4.addNil 106 (.pair .str .str)
 have h17:=(sOR h16 [4,3,2,1,0] [0])
 refine T0 (fun kk env w=>∃ x1 A2 c_2 x2 x3 A3 c_3 x4,Q43.l0 kk a0 a2 x1 x2 x3 x4=some r∧env=[(1,.pointer (some ⟨b1,0,none⟩)),(3,.pointer (some ⟨b2,0,none⟩)),(6,.pointer (some ⟨b3,0,none⟩)),(7,.pointer (some ⟨b4,0,none⟩)),(14,.int .i64 (if a0.2.2.2.2.2.1<a2 then a0.2.2.2.2.2.1 else a2)),(15,.int .i64 x4)]∧St w0 F0 [X6 b1 x1 A2 c_2 x2,X23 b2 a0.1 a0.2.1 a0.2.2.1 a0.2.2.2.1 a0.2.2.2.2.1 a0.2.2.2.2.2.1 a0.2.2.2.2.2.2.1 a0.2.2.2.2.2.2.2,X43 b3 0 ([]:List Int) none 0 ([]:List TP) none 0 ([]:List Tz) none 0 ([]:List TC) none 0,X43 b4 0 ([]:List Int) none 0 ([]:List TP) none 0 ([]:List Tz) none 0 x3 A3 c_3,Zdv x3 A3 c_3] [R5 x1 A2 c_2] w) (k:=k) ⟨_,_,_,_,_,_,_,_,H,rfl,h17⟩ ?_
 rintro k1 env w5 ⟨x1,A2,c_2,x2,x3,A3,c_3,x4,H,rfl,h5⟩
 rcases k1 with _ | k1
 ·exact z0 H
 rw [Q43.l0] at H
 refine T4 (Za [1,3,6,7,14,15,16] ?_)
 refine T4 (jIf H (fun c1 H=>?_) fun c1 H=>?_)
 ·refine T5 (T4 (TW (T4 (T2 ?_))))
  refine Zc (Zb 1 h5.wht) ?_
  refine Zd 1 ?_
  obtain ⟨r1,q1,H⟩:=Ye H
  refine Zv (Zz [0] (Q44.spec q1) h5 rfl (gS [0])) ?_
  rintro _ w6 ⟨_,_,⟨A4,c_4,rfl,rfl,rfl⟩,h6⟩
  replace h6:=nf h6
  refine Ze [1,3,6,7,8,9,14,15] rfl ?_
  refine T2 (Zd 1 ?_)
  refine Zc (Zb 3 h6.wht) ?_
  refine Zd 3 ?_
  refine rB (Y6 (.pair .str .str) ([(r1.1,r1.2.1)]:List TC) h6) fun b5 w7 h7=>?_
  obtain ⟨p1,H⟩:=Zl H
  refine Zv (Yq 5 h7 (gO 0) p1) ?_
  rintro _ w8 ⟨A5,c_5,rfl,h8⟩
  replace h8:=nf h8
  refine Zd 1 ?_
  refine rS (Zs 5 h8) fun _ w9 h9=>?_
  refine Ze [1,3,6,7,14,15] rfl ?_
  refine Za [1,3,6,7,14,15] ?_
  have h10:=(sOR h9 [3,3,3,0,0] [0])
  exact ⟨k1,by omega,_,_,_,_,_,_,_,_,H,rfl,h10⟩
 refine TZ (T4 (T2 ?_))
 refine Zc (Zb 3 h5.wht) ?_
 refine rS (Zs 2 h5) fun _ w10 h11=>?_
 refine Ze [6] rfl ?_
 have h12:=sO h11 [0,0,2]
 replace h12:=nf h12
 have h13:=h12.addNil 33 (.int .u32)
 have h14:=h13.addNil 9 .str
 have h15:=h14.addNil 115 (.pair .str (.pair .bool .str))
 cases H
 exact T3 (X7 (Z1 (Sa Yj 3 h15 rfl rfl rfl rfl) Yt) ⟨_,_,_,_,_,_,_,_,_,_,rfl,rfl,rfl⟩ (sOR h15 [2,1,0,2,1] [0]))

def Q42.l2:Nat→Tr→Int→Int→TU→TH→TU→Int→Tt→Int→Option Tk
 | 0,_,_,_,_,_,_,_,_,_=>none
 | k+1,a0,a2,a4,x3,x7,x9,x10,x11,x12=>if (decide (x12<(if a0.2.2.2.2.1<a4 then a0.2.2.2.2.1 else a4)))=true then ((Q171.f k (x9,x10) 1).bind fun r4=>((Q44.f k a0 r4.2).bind fun r5=>(if (x11.length+([(r5.1,(decide (r4.1=2)),r5.2.1)]:List Tz).length)*40≤140737488355328 then (Q42.l2 k a0 a2 a4 x3 x7 r5.2.2.1 r5.2.2.2 (x11 ++ ([(r5.1,(decide (r4.1=2)),r5.2.1)]:List Tz)) (w64 (x12+1))) else none))) else (some ((a2,x3,x7,x11,([]:List TC)),(x9,x10)))
def Q42.l1:Nat→Tr→Int→Int→Int→TU→TU→Int→TH→Int→Option Tk
 | 0,_,_,_,_,_,_,_,_,_=>none
 | k+1,a0,a2,a3,a4,x3,x5,x6,x7,x8=>if (decide (x8<(w64 (a0.2.2.2.1 - 1))))=true then ((Q171.f k (x5,x6) 1).bind fun r2=>((Q173.f k r2.2 (w64 (r2.1)) a0.2.2.2.2.2.2.1).bind fun r3=>(if (decide ((w64 (x8+1))<a3))=true then (if (x7.length+([r3.1]:List TP).length)*16≤140737488355328 then (Q42.l1 k a0 a2 a3 a4 x3 r3.2.1 r3.2.2 (x7 ++ ([r3.1]:List TP)) (w64 (x8+1))) else none) else (Q42.l1 k a0 a2 a3 a4 x3 r3.2.1 r3.2.2 x7 (w64 (x8+1)))))) else (Q42.l2 k a0 a2 a4 x3 x7 x5 x6 ([]:List Tz) 0)
def Q42.l0:Nat→Tr→Int→Int→Int→TU→Int→TU→Int→Option Tk
 | 0,_,_,_,_,_,_,_,_=>none
 | k+1,a0,a2,a3,a4,x1,x2,x3,x4=>if (decide (x4<a0.2.2.2.1))=true then ((Q171.f k (x1,x2) 4).bind fun r1=>(if (decide (x4<a3))=true then (if (x3.length+([(IntKind.u32.wrap (r1.1))]:List Int).length)*4≤140737488355328 then (Q42.l0 k a0 a2 a3 a4 r1.2.1 r1.2.2 (x3 ++ ([(IntKind.u32.wrap (r1.1))]:List Int)) (w64 (x4+1))) else none) else (Q42.l0 k a0 a2 a3 a4 r1.2.1 r1.2.2 x3 (w64 (x4+1))))) else (Q42.l1 k a0 a2 a3 a4 x3 x1 x2 ([]:List TP) 0)
def Q42.f (k:Nat) (a0:Tr) (a1:TN) (a2:Int) (a3:Int) (a4:Int):Option Tk:=Q42.l0 k a0 a2 a3 a4 a1.1 a1.2 ([]:List Int) 0
theorem Q42.spec {k a0 a1 a2 a3 a4 A1 c_1 b1 r} (H:Q42.f k a0 a1 a2 a3 a4=some r) :
  SpecA Tryz.prog 69 [.agg #[.int .i64 a0.1,.int .i64 a0.2.1,.int .i64 a0.2.2.1,.int .i64 a0.2.2.2.1,.int .i64 a0.2.2.2.2.1,.int .i64 a0.2.2.2.2.2.1,.int .i64 a0.2.2.2.2.2.2.1,.int .i64 a0.2.2.2.2.2.2.2],.pointer (some ⟨b1,0,none⟩),.int .i64 a2,.int .i64 a3,.int .i64 a4] [X6 b1 a1.1 A1 c_1 a1.2] [R5 a1.1 A1 c_1] (fun v l lr=>∃ A_0 c_0 A_1 c_1 A_2 c_2 A_3 c_3 A_4 c_4,v=.agg #[.int .i64 r.1.1,.slice A_0 r.1.2.1.length c_0,.slice A_1 r.1.2.2.1.length c_1,.slice A_2 r.1.2.2.2.1.length c_2,.slice A_3 r.1.2.2.2.2.length c_3]∧l=[O33 r.1.2.1 A_0 c_0,O9 r.1.2.2.1 A_1 c_1,Zdp r.1.2.2.2.1 A_2 c_2,Zdv r.1.2.2.2.2 A_3 c_3,X6 b1 r.2.1 A_4 c_4 r.2.2]∧lr=[R5 r.2.1 A_4 c_4]):=by
 refine Yd Tryz.func69 fun w0 F0 h0=>?_
 unfold Q42.f at H
 refine T4 (T2 ?_)
 refine rB (Z4 h0) fun b2 w1 h1=>?_
 refine rB (Yp h1) fun b3 w2 h2=>?_
 refine Ze [1,2,3,4,5,10] rfl ?_
 refine T4 (T2 ?_)
 refine Zd 2 ?_
 refine rB (Yp h2) fun b4 w3 h3=>?_
 refine rS (Zs 0 h3) fun _ w4 h4=>?_
 refine Ze [1,3,4,5,10,11] rfl ?_
 refine T4 (T4 (T2 ?_))
 refine Zd 1 ?_
 refine Zc (Zb 2 h4.wht) ?_
 refine Ze [1,3,4,5,10,11,22,23] rfl ?_
 refine TW ?_
 have h35:=h4.addNil 33 (.int .u32)
 have h36:=(sOR h35 [4,3,2,1,0] [0])
 refine T0 (fun kk env w=>∃ x1 A2 c_2 x2 x3 A3 c_3 x4,Q42.l0 kk a0 a2 a3 a4 x1 x2 x3 x4=some r∧env=[(1,.pointer (some ⟨b1,0,none⟩)),(3,.int .i64 a3),(4,.int .i64 a4),(5,.pointer (some ⟨b2,0,none⟩)),(10,.pointer (some ⟨b3,0,none⟩)),(11,.pointer (some ⟨b4,0,none⟩)),(22,.int .i64 a0.2.2.2.1),(23,.int .i64 x4)]∧St w0 F0 [X6 b1 x1 A2 c_2 x2,X23 b2 a0.1 a0.2.1 a0.2.2.1 a0.2.2.2.1 a0.2.2.2.2.1 a0.2.2.2.2.2.1 a0.2.2.2.2.2.2.1 a0.2.2.2.2.2.2.2,X43 b3 0 ([]:List Int) none 0 ([]:List TP) none 0 ([]:List Tz) none 0 ([]:List TC) none 0,X43 b4 a2 x3 A3 c_3 ([]:List TP) none 0 ([]:List Tz) none 0 ([]:List TC) none 0,O33 x3 A3 c_3] [R5 x1 A2 c_2] w) (k:=k) ⟨_,_,_,_,_,_,_,_,H,rfl,h36⟩ ?_
 rintro k1 env w5 ⟨x1,A2,c_2,x2,x3,A3,c_3,x4,H,rfl,h5⟩
 rcases k1 with _ | k1
 ·exact z0 H
 rw [Q42.l0] at H
 refine T4 (Za [1,3,4,5,10,11,22,23,24] ?_)
 refine T4 (jIf H (fun c1 H=>?_) fun c1 H=>?_)
 ·refine T5 (T4 (TW (T4 (Za [1,3,4,5,10,11,12,22,23] ?_))))
  refine T4 (T2 ?_)
  refine Zd 1 ?_
  obtain ⟨r1,q1,H⟩:=Ye H
  refine Zv (Zz [0] (Q171.spec q1) h5 rfl (gS [0])) ?_
  rintro _ w6 ⟨_,_,⟨A4,c_4,rfl,rfl,rfl⟩,h6⟩
  replace h6:=nf h6
  refine Ze [1,3,4,5,10,11,12,13,22,23] rfl ?_
  refine T4 (Za [1,3,4,5,10,11,13,22,23,31] ?_)
  refine jIf H (fun c2 H=>?_) fun c2 H=>?_
  ·refine T2 (Zd 1 ?_)
   refine Zc (Zb 3 h6.wht) ?_
   refine Zd 1 ?_
   refine rB (Y6 (.int .u32) ([(IntKind.u32.wrap (r1.1))]:List Int) h6) fun b5 w7 h7=>?_
   obtain ⟨p1,H⟩:=Zl H
   refine Zv (Yq 5 h7 (gO 0) p1) ?_
   rintro _ w8 ⟨A5,c_5,rfl,h8⟩
   replace h8:=nf h8
   refine Zd 1 ?_
   refine rS (Zs 5 h8) fun _ w9 h9=>?_
   refine Ze [1,3,4,5,10,11,22,23] rfl ?_
   refine Za [1,3,4,5,10,11,22,23] ?_
   have h10:=(sOR h9 [3,3,3,0,0] [0])
   exact ⟨k1,by omega,_,_,_,_,_,_,_,_,H,rfl,h10⟩
  refine T5 (Za [1,3,4,5,10,11,22,23] ?_)
  have h11:=(sOR h6 [0,0,0,0,0] [0])
  exact ⟨k1,by omega,_,_,_,_,_,_,_,_,H,rfl,h11⟩
 refine TZ (T4 (T4 (T2 ?_)))
 refine Zd 1 ?_
 refine Zc (Zb 1 h5.wht) ?_
 refine Ze [1,3,4,5,10,11,41,42] rfl ?_
 refine TW ?_
 have h33:=h5.addNil 9 .str
 have h34:=(sOR h33 [1,1,1,1,1,0] [0])
 refine T0 (fun kk env w=>∃ x5 A6 c_6 x6 x7 A7 c_7 x8,Q42.l1 kk a0 a2 a3 a4 x3 x5 x6 x7 x8=some r∧env=[(1,.pointer (some ⟨b1,0,none⟩)),(3,.int .i64 a3),(4,.int .i64 a4),(5,.pointer (some ⟨b2,0,none⟩)),(10,.pointer (some ⟨b3,0,none⟩)),(11,.pointer (some ⟨b4,0,none⟩)),(41,.int .i64 (w64 (a0.2.2.2.1 - 1))),(42,.int .i64 x8)]∧St w0 F0 [X6 b1 x5 A6 c_6 x6,X23 b2 a0.1 a0.2.1 a0.2.2.1 a0.2.2.2.1 a0.2.2.2.2.1 a0.2.2.2.2.2.1 a0.2.2.2.2.2.2.1 a0.2.2.2.2.2.2.2,X43 b3 0 ([]:List Int) none 0 ([]:List TP) none 0 ([]:List Tz) none 0 ([]:List TC) none 0,X43 b4 a2 x3 A3 c_3 x7 A7 c_7 ([]:List Tz) none 0 ([]:List TC) none 0,O33 x3 A3 c_3,O9 x7 A7 c_7] [R5 x5 A6 c_6] w) (k:=k1) ⟨_,_,_,_,_,_,_,_,H,rfl,h34⟩ ?_
 rintro k2 env w10 ⟨x5,A6,c_6,x6,x7,A7,c_7,x8,H,rfl,h12⟩
 rcases k2 with _ | k2
 ·exact z0 H
 rw [Q42.l1] at H
 refine T4 (Za [1,3,4,5,10,11,41,42,43] ?_)
 refine T4 (jIf H (fun c3 H=>?_) fun c3 H=>?_)
 ·refine T5 (T4 (TW (T4 (Za [1,3,4,5,10,11,14,41,42] ?_))))
  refine T4 (Zw (sO h12 [1,1,1,1,1]) ?_)
  have h13:=h12.drew
  refine Zo [0,1,4] ?_
  refine Zf 5 rfl (Zb 0 wI) ?_
  obtain ⟨r2,q2,H⟩:=Ye H
  refine Yl 2 rfl (Zz [0] (Q171.spec q2) h13 rfl (gS [0])) ?_
  rintro _ w11 ⟨_,_,⟨A8,c_8,rfl,rfl,rfl⟩,h14⟩
  replace h14:=nf h14
  refine ⟨⟨[_],(Y9 h14 [1])⟩,?_⟩
  refine Zo [3] ?_
  obtain ⟨r3,q3,H⟩:=Ye H
  refine Yl 6 rfl (Zz [0] (Q173.spec q3) h14 rfl (gS [0])) ?_
  rintro _ w12 ⟨_,_,⟨A9,c_9,rfl,rfl,rfl⟩,h15⟩
  replace h15:=nf h15
  refine ⟨⟨[_],(Y9 h15 [2])⟩,?_⟩
  refine Zo [7] ?_
  refine Zt [1,3,4,5,10,11,14,15,41,42] ?_
  refine T4 (Za [1,3,4,5,10,11,15,41,42,55] ?_)
  refine jIf H (fun c4 H=>?_) fun c4 H=>?_
  ·refine T2 (Zd 1 ?_)
   refine Zc (Zb 3 h15.wht) ?_
   refine Zd 1 ?_
   refine rB (Y6 .str ([r3.1]:List TP) h15) fun b6 w13 h16=>?_
   obtain ⟨p2,H⟩:=Zl H
   refine Zv (Yq 6 h16 (gO 0) p2) ?_
   rintro _ w14 ⟨A10,c_10,rfl,h17⟩
   replace h17:=nf h17
   refine Zd 1 ?_
   refine rS (Zs 5 h17) fun _ w15 h18=>?_
   refine Ze [1,3,4,5,10,11,41,42] rfl ?_
   refine Za [1,3,4,5,10,11,41,42] ?_
   have h19:=(sOR h18 [3,3,3,0,2,0] [0])
   exact ⟨k2,by omega,_,_,_,_,_,_,_,_,H,rfl,h19⟩
  refine T5 (Za [1,3,4,5,10,11,41,42] ?_)
  have h20:=(sOR h15 [0,0,0,0,0,0] [0])
  exact ⟨k2,by omega,_,_,_,_,_,_,_,_,H,rfl,h20⟩
 refine TZ (T4 (T4 (T2 ?_)))
 refine Zd 2 ?_
 refine Zc (Zb 1 h12.wht) ?_
 refine Ze [1,5,10,11,66,67] rfl ?_
 refine TW ?_
 have h31:=h12.addNil 115 (.pair .str (.pair .bool .str))
 have h32:=(sOR h31 [1,1,1,1,1,1,0] [0])
 refine T0 (fun kk env w=>∃ x9 A11 c_11 x10 x11 A12 c_12 x12,Q42.l2 kk a0 a2 a4 x3 x7 x9 x10 x11 x12=some r∧env=[(1,.pointer (some ⟨b1,0,none⟩)),(5,.pointer (some ⟨b2,0,none⟩)),(10,.pointer (some ⟨b3,0,none⟩)),(11,.pointer (some ⟨b4,0,none⟩)),(66,.int .i64 (if a0.2.2.2.2.1<a4 then a0.2.2.2.2.1 else a4)),(67,.int .i64 x12)]∧St w0 F0 [X6 b1 x9 A11 c_11 x10,X23 b2 a0.1 a0.2.1 a0.2.2.1 a0.2.2.2.1 a0.2.2.2.2.1 a0.2.2.2.2.2.1 a0.2.2.2.2.2.2.1 a0.2.2.2.2.2.2.2,X43 b3 0 ([]:List Int) none 0 ([]:List TP) none 0 ([]:List Tz) none 0 ([]:List TC) none 0,X43 b4 a2 x3 A3 c_3 x7 A7 c_7 x11 A12 c_12 ([]:List TC) none 0,O33 x3 A3 c_3,O9 x7 A7 c_7,Zdp x11 A12 c_12] [R5 x9 A11 c_11] w) (k:=k2) ⟨_,_,_,_,_,_,_,_,H,rfl,h32⟩ ?_
 rintro k3 env w16 ⟨x9,A11,c_11,x10,x11,A12,c_12,x12,H,rfl,h21⟩
 rcases k3 with _ | k3
 ·exact z0 H
 rw [Q42.l2] at H
 refine T4 (Za [1,5,10,11,66,67,68] ?_)
 refine T4 (jIf H (fun c5 H=>?_) fun c5 H=>?_)
 ·refine T5 (T4 (TW (T4 (T2 ?_))))
  refine Zd 1 ?_
  obtain ⟨r4,q4,H⟩:=Ye H
  refine Zv (Zz [0] (Q171.spec q4) h21 rfl (gS [0])) ?_
  rintro _ w17 ⟨_,_,⟨A13,c_13,rfl,rfl,rfl⟩,h22⟩
  replace h22:=nf h22
  refine Ze [1,5,10,11,16,66,67] rfl ?_
  refine T4 (T2 ?_)
  refine Zc (Zb 1 h22.wht) ?_
  refine Zd 1 ?_
  obtain ⟨r5,q5,H⟩:=Ye H
  refine Zv (Zz [0] (Q44.spec q5) h22 rfl (gS [0])) ?_
  rintro _ w18 ⟨_,_,⟨A14,c_14,rfl,rfl,rfl⟩,h23⟩
  replace h23:=nf h23
  refine Ze [1,5,10,11,16,17,18,66,67] rfl ?_
  refine T2 (Zd 1 ?_)
  refine Zc (Zb 3 h23.wht) ?_
  refine Zd 5 ?_
  refine rB (Y6 (.pair .str (.pair .bool .str)) ([(r5.1,(decide (r4.1=2)),r5.2.1)]:List Tz) h23) fun b7 w19 h24=>?_
  obtain ⟨p3,H⟩:=Zl H
  refine Zv (Yq 7 h24 (gO 0) p3) ?_
  rintro _ w20 ⟨A15,c_15,rfl,h25⟩
  replace h25:=nf h25
  refine Zd 1 ?_
  refine rS (Zs 5 h25) fun _ w21 h26=>?_
  refine Ze [1,5,10,11,66,67] rfl ?_
  refine Za [1,5,10,11,66,67] ?_
  have h27:=(sOR h26 [3,3,3,0,2,2,0] [0])
  exact ⟨k3,by omega,_,_,_,_,_,_,_,_,H,rfl,h27⟩
 refine TZ (T4 (T2 ?_))
 refine Zc (Zb 3 h21.wht) ?_
 refine rS (Zs 2 h21) fun _ w22 h28=>?_
 refine Ze [10] rfl ?_
 have h29:=sO h28 [0,0,2,2,2]
 replace h29:=nf h29
 have h30:=h29.addNil 106 (.pair .str .str)
 cases H
 exact T3 (X7 (Z1 (Sa Yj 1 h30 rfl rfl rfl rfl) Yt) ⟨_,_,_,_,_,_,_,_,_,_,rfl,rfl,rfl⟩ (sOR h30 [3,3,3,0,1] [0]))

def Q170.f (a0:TN):Option (Int):=some a0.2
theorem Q170.spec {a0 A1 c_1 b1 r} (H:Q170.f a0=some r) :
  Spec Tryz.prog 70 [.pointer (some ⟨b1,0,none⟩)] [X6 b1 a0.1 A1 c_1 a0.2] [R5 a0.1 A1 c_1] (fun v l=>v=.int .i64 r∧l=[X6 b1 a0.1 A1 c_1 a0.2]):=by
 refine Zi Tryz.func70 fun w0 F0 h0=>?_
 unfold Q170.f at H
 refine T4 (Za [0] ?_)
 refine T4 (T4 (Za [0,4] ?_))
 refine Z5 ?_
 refine T5 (T4 (T2 ?_))
 refine Zd 3 ?_
 refine Zc (Zb 0 h0.wht) ?_
 refine Ze [2] rfl ?_
 cases H
 exact T3 (jR0 h0 [0])

def Q101.l0:Nat→TU→TU→Int→Option (Bool)
 | 0,_,_,_=>none
 | k+1,a0,a1,x1=>if (decide (x1<(a0.length:Int)))=true then (if 0≤x1∧x1<(a0.length:Int) then (if 0≤x1∧x1<(a1.length:Int) then (if (!decide ((gt a0 x1)=(gt a1 x1)))=true then (some false) else (Q101.l0 k a0 a1 (w64 (x1+1)))) else none) else none) else (some true)
def Q101.f (k:Nat) (a0:TU) (a1:TU):Option (Bool):=if (!decide ((a0.length:Int)=(a1.length:Int)))=true then (some false) else (Q101.l0 k a0 a1 0)
theorem Q101.spec {k a0 a1 A1 c_1 A2 c_2 r} (H:Q101.f k a0 a1=some r) :
  Spec Tryz.prog 72 [.slice A1 a0.length c_1,.slice A2 a1.length c_2] [] [R5 a0 A1 c_1,R5 a1 A2 c_2] (fun v l=>v=.bool r∧l=[]):=by
 refine Zi Tryz.func72 fun w0 F0 h0=>?_
 unfold Q101.f at H
 refine T4 (Za [0,1] ?_)
 refine T4 (T4 (Za [0,1,10] ?_))
 refine jIf H (fun c1 H=>?_) fun c1 H=>?_
 ·refine T4 (Za [4] ?_)
  cases H
  exact T3 (jR0 h0 [])
 refine T5 (T4 (T4 (Za [0,1,12,13] ?_)))
 refine TW ?_
 have h4:=(sOR h0 [] [0,1])
 refine T0 (fun kk env w=>∃ x1,Q101.l0 kk a0 a1 x1=some r∧env=[(0,.slice A1 a0.length c_1),(1,.slice A2 a1.length c_2),(12,.int .i64 (a0.length:Int)),(13,.int .i64 x1)]∧St w0 F0 [] [R5 a0 A1 c_1,R5 a1 A2 c_2] w) (k:=k) ⟨_,H,rfl,h4⟩ ?_
 rintro k1 env w1 ⟨x1,H,rfl,h1⟩
 rcases k1 with _ | k1
 ·exact z0 H
 rw [Q101.l0] at H
 refine T4 (Za [0,1,12,13,14] ?_)
 refine T4 (jIf H (fun c2 H=>?_) fun c2 H=>?_)
 ·refine T5 (T4 (TW (T4 (Za [0,1,5,12,13] ?_))))
  refine T4 (jH h1 fun h2=>?_)
  refine Zo [0,1,4,5] ?_
  obtain ⟨⟨p1,p2⟩,H⟩:=Zl H
  have e1:=Zx h2.wh (Zk 0) p1 p2
  refine Zf 2 rfl (Zg e1 p1 p2) ?_
  refine Zf 3 rfl (Zh 0 wI (Zk 0) p1 p2) ?_
  obtain ⟨⟨p3,p4⟩,H⟩:=Zl H
  have e2:=Zx h2.wh (Zk 1) p3 p4
  refine Zf 6 rfl (Zg e2 p3 p4) ?_
  refine Zf 7 rfl (Zh 0 wI (Zk 1) p3 p4) ?_
  refine Zo [8] ?_
  refine Zt [0,1,12,13,24] ?_
  refine jIf H (fun c3 H=>?_) fun c3 H=>?_
  ·refine T4 (Za [4] ?_)
   cases H
   exact T3 (jR0 h2 [])
  refine T5 (Za [0,1,12,13] ?_)
  have h3:=(sOR h2 [] [0,1])
  exact ⟨k1,by omega,_,H,rfl,h3⟩
 refine TZ (T4 (Za [4] ?_))
 cases H
 exact T3 (jR0 h1 [])

def Q37.f (k:Nat) (a0:Tr) (a1:TU):Option (Tp×Int):=(Q48.f a0).bind fun r1=>(if (!decide (r1=0))=true then (some ((0,([]:List Int),([]:List TP),([]:List Tz),([]:List TC)),r1)) else ((Q168.f a1).bind fun r2=>((Q171.f k r2 1).bind fun r3=>((Q171.f k r3.2 1).bind fun r4=>((Q171.f k r4.2 2).bind fun r5=>((Q171.f k r5.2 2).bind fun r6=>((Q175.f k r6.2 2).bind fun r7=>(if (decide (r3.1=1))=true then ((Q43.f k a0 r7 (w64 (r5.1))).bind fun r11=>((Q170.f (r11.2.1,r11.2.2)).bind fun r8=>(if (!decide (r8=0))=true then (some ((0,([]:List Int),([]:List TP),([]:List Tz),([]:List TC)),12)) else ((Q38.f k a0 (r11.1.1,r11.1.2.1,r11.1.2.2.1,r11.1.2.2.2.1,r11.1.2.2.2.2)).bind fun r9=>(if (!decide (r9.2=0))=true then (some ((0,([]:List Int),([]:List TP),([]:List Tz),([]:List TC)),12)) else ((Q101.f k r9.1 a1).bind fun r10=>(if (!r10)=true then (some ((0,([]:List Int),([]:List TP),([]:List Tz),([]:List TC)),12)) else (some ((r11.1.1,r11.1.2.1,r11.1.2.2.1,r11.1.2.2.2.1,r11.1.2.2.2.2),0))))))))) else (if (decide (r3.1=2))=true then ((Q42.f k a0 r7 (if (w64 (r4.1))>1 then (w64 (r4.1)) else 1) (w64 (r5.1)) (w64 (r6.1))).bind fun r12=>((Q170.f (r12.2.1,r12.2.2)).bind fun r8=>(if (!decide (r8=0))=true then (some ((0,([]:List Int),([]:List TP),([]:List Tz),([]:List TC)),12)) else ((Q38.f k a0 (r12.1.1,r12.1.2.1,r12.1.2.2.1,r12.1.2.2.2.1,r12.1.2.2.2.2)).bind fun r9=>(if (!decide (r9.2=0))=true then (some ((0,([]:List Int),([]:List TP),([]:List Tz),([]:List TC)),12)) else ((Q101.f k r9.1 a1).bind fun r10=>(if (!r10)=true then (some ((0,([]:List Int),([]:List TP),([]:List Tz),([]:List TC)),12)) else (some ((r12.1.1,r12.1.2.1,r12.1.2.2.1,r12.1.2.2.2.1,r12.1.2.2.2.2),0))))))))) else ((Q170.f (r7.1,r7.2)).bind fun r8=>(if (!decide (r8=0))=true then (some ((0,([]:List Int),([]:List TP),([]:List Tz),([]:List TC)),12)) else ((Q38.f k a0 ((-1),([]:List Int),([]:List TP),([]:List Tz),([]:List TC))).bind fun r9=>(if (!decide (r9.2=0))=true then (some ((0,([]:List Int),([]:List TP),([]:List Tz),([]:List TC)),12)) else ((Q101.f k r9.1 a1).bind fun r10=>(if (!r10)=true then (some ((0,([]:List Int),([]:List TP),([]:List Tz),([]:List TC)),12)) else (some (((-1),([]:List Int),([]:List TP),([]:List Tz),([]:List TC)),0)))))))))))))))))
theorem Q37.spec {k a0 a1 A1 c_1 r} (H:Q37.f k a0 a1=some r) :
  Spec Tryz.prog 21 [.agg #[.int .i64 a0.1,.int .i64 a0.2.1,.int .i64 a0.2.2.1,.int .i64 a0.2.2.2.1,.int .i64 a0.2.2.2.2.1,.int .i64 a0.2.2.2.2.2.1,.int .i64 a0.2.2.2.2.2.2.1,.int .i64 a0.2.2.2.2.2.2.2],.slice A1 a1.length c_1] [] [R5 a1 A1 c_1] (fun v l=>∃ A_0 c_0 A_1 c_1 A_2 c_2 A_3 c_3,v=.tuple #[.agg #[.int .i64 r.1.1,.slice A_0 r.1.2.1.length c_0,.slice A_1 r.1.2.2.1.length c_1,.slice A_2 r.1.2.2.2.1.length c_2,.slice A_3 r.1.2.2.2.2.length c_3],.int .i64 r.2]∧l=[O33 r.1.2.1 A_0 c_0,O9 r.1.2.2.1 A_1 c_1,Zdp r.1.2.2.2.1 A_2 c_2,Zdv r.1.2.2.2.2 A_3 c_3]):=by
 refine Zi Tryz.func21 fun w0 F0 h0=>?_
 unfold Q37.f at H
 refine T4 (T2 ?_)
 refine rB (Z4 h0) fun b1 w1 h1=>?_
 refine rB (Yp h1) fun b2 w2 h2=>?_
 refine Ze [1,2,4] rfl ?_
 refine T4 (T4 (T2 ?_))
 refine Zc (Zb 1 h2.wht) ?_
 refine cS H [] h2 rfl Q48.spec Zp fun r1 w3 H h3=>?_
 refine Ze [1,2,4,6] rfl ?_
 refine T4 (Za [1,2,4,6,18] ?_)
 refine jIf H (fun c1 H=>?_) fun c1 H=>?_
 ·refine T4 (T2 ?_)
  refine Zd 2 ?_
  refine rS (Zs 0 h3) fun _ w4 h4=>?_
  refine Ze [4,5] rfl ?_
  have h5:=h4.addNil 33 (.int .u32)
  have h6:=h5.addNil 9 .str
  have h7:=h6.addNil 115 (.pair .str (.pair .bool .str))
  have h8:=h7.addNil 106 (.pair .str .str)
  cases H
  exact T3 (jR2 (Z1 (Sa Yj 4 h8 rfl rfl rfl rfl) (Z1 (Sb rfl) Yt)) ⟨_,_,_,_,_,_,_,_,rfl,rfl⟩ h8 [3,2,1,0])
 refine T5 (T4 (T2 ?_))
 refine Zd 1 ?_
 obtain ⟨r2,q2,H⟩:=Ye H
 refine Zv (Zz [] (Q168.spec q2) h3 rfl (gS [0])) ?_
 rintro _ w5 ⟨_,_,⟨b3,A2,c_2,rfl,rfl,rfl⟩,h9⟩
 replace h9:=nf h9
 refine Ze [1,2,4,7] rfl ?_
 refine T4 (T2 ?_)
 refine Zd 1 ?_
 obtain ⟨r3,q3,H⟩:=Ye H
 refine Zv (Zz [0] (Q171.spec q3) h9 rfl (gS [0])) ?_
 rintro _ w6 ⟨_,_,⟨A3,c_3,rfl,rfl,rfl⟩,h10⟩
 replace h10:=nf h10
 refine Zd 1 ?_
 obtain ⟨r4,q4,H⟩:=Ye H
 refine Zv (Zz [0] (Q171.spec q4) h10 rfl (gS [0])) ?_
 rintro _ w7 ⟨_,_,⟨A4,c_4,rfl,rfl,rfl⟩,h11⟩
 replace h11:=nf h11
 refine Zd 2 ?_
 obtain ⟨r5,q5,H⟩:=Ye H
 refine Zv (Zz [0] (Q171.spec q5) h11 rfl (gS [0])) ?_
 rintro _ w8 ⟨_,_,⟨A5,c_5,rfl,rfl,rfl⟩,h12⟩
 replace h12:=nf h12
 refine Zd 2 ?_
 obtain ⟨r6,q6,H⟩:=Ye H
 refine Zv (Zz [0] (Q171.spec q6) h12 rfl (gS [0])) ?_
 rintro _ w9 ⟨_,_,⟨A6,c_6,rfl,rfl,rfl⟩,h13⟩
 replace h13:=nf h13
 refine Ze [1,2,4,7,8,9,10,11] rfl ?_
 refine T4 (T2 ?_)
 refine Zd 1 ?_
 obtain ⟨r7,q7,H⟩:=Ye H
 refine Zv (Zz [0] (Q175.spec q7) h13 rfl (gS [0])) ?_
 rintro _ w10 ⟨_,_,⟨A7,c_7,rfl,rfl,rfl⟩,h14⟩
 replace h14:=nf h14
 refine Ze [1,2,4,7,8,9,10,11] rfl ?_
 refine T4 (T2 ?_)
 refine Zd 1 ?_
 refine rB (Yp h14) fun b4 w11 h15=>?_
 refine rS (Zs 0 h15) fun _ w12 h16=>?_
 refine Ze [1,2,4,7,8,9,10,11,12] rfl ?_
 refine T4 (T4 (Za [1,2,4,7,9,10,11,12,37] ?_))
 refine T1 (fun env w=>∃(k1:Nat) (x1:TU) (A8:Option Addr) (c_8:Nat) (x2:Int) (x3:Int) (x4:TU) (A9:Option Addr) (c_9:Nat) (x5:TH) (A10:Option Addr) (c_10:Nat) (x6:Tt) (A11:Option Addr) (c_11:Nat) (x7:Tw) (A12:Option Addr) (c_12:Nat),env=[(1,.slice A1 a1.length c_1),(2,.pointer (some ⟨b1,0,none⟩)),(4,.pointer (some ⟨b2,0,none⟩)),(7,.pointer (some ⟨b3,0,none⟩)),(12,.pointer (some ⟨b4,0,none⟩))]∧St w0 F0 [X23 b1 a0.1 a0.2.1 a0.2.2.1 a0.2.2.2.1 a0.2.2.2.2.1 a0.2.2.2.2.2.1 a0.2.2.2.2.2.2.1 a0.2.2.2.2.2.2.2,X43 b2 0 ([]:List Int) none 0 ([]:List TP) none 0 ([]:List Tz) none 0 ([]:List TC) none 0,X6 b3 x1 A8 c_8 x2,X43 b4 x3 x4 A9 c_9 x5 A10 c_10 x6 A11 c_11 x7 A12 c_12,O33 x4 A9 c_9,O9 x5 A10 c_10,Zdp x6 A11 c_11,Zdv x7 A12 c_12] [R5 a1 A1 c_1,R5 x1 A8 c_8] w∧((Q170.f (x1,x2)).bind fun r8=>(if (!decide (r8=0))=true then (some ((0,([]:List Int),([]:List TP),([]:List Tz),([]:List TC)),12)) else ((Q38.f k1 a0 (x3,x4,x5,x6,x7)).bind fun r9=>(if (!decide (r9.2=0))=true then (some ((0,([]:List Int),([]:List TP),([]:List Tz),([]:List TC)),12)) else ((Q101.f k1 r9.1 a1).bind fun r10=>(if (!r10)=true then (some ((0,([]:List Int),([]:List TP),([]:List Tz),([]:List TC)),12)) else (some ((x3,x4,x5,x6,x7),0))))))))=some r∧k1≤k) ?_ ?_
 ·refine TW (T4 (Za [1,2,4,7,9,10,11,12,37,38] ?_))
  refine jIf H (fun c5 H=>?_) fun c5 H=>?_
  ·refine T2 (Zc (Zb 3 h16.wht) ?_)
   refine Zd 2 ?_
   obtain ⟨r11,q11,H⟩:=Ye H
   refine Zv (Zz [1] (Q43.spec q11) h16 rfl (gS [0])) ?_
   rintro _ w22 ⟨_,_,⟨A14,c_14,A15,c_15,A16,c_16,A17,c_17,A18,c_18,rfl,rfl,rfl⟩,h42⟩
   replace h42:=nf h42
   refine rS (Zs 5 h42) fun _ w23 h43=>?_
   refine Ze [1,2,4,7,12] rfl ?_
   have h44:=(sOR h43 [7,6,5,0,0,0,0,0] [7,0])
   exact ⟨k,r11.2.1,A18,c_18,r11.2.2,r11.1.1,r11.1.2.1,A14,c_14,r11.1.2.2.1,A15,c_15,r11.1.2.2.2.1,A16,c_16,r11.1.2.2.2.2,A17,c_17,rfl,h44,H,T6 _⟩
  refine T4 (Za [1,2,4,7,9,10,11,12,44] ?_)
  refine jIf H (fun c6 H=>?_) fun c6 H=>?_
  ·refine T2 (Zc (Zb 3 h16.wht) ?_)
   refine Zd 5 ?_
   obtain ⟨r12,q12,H⟩:=Ye H
   refine Zv (Zz [1] (Q42.spec q12) h16 rfl (gS [0])) ?_
   rintro _ w24 ⟨_,_,⟨A19,c_19,A20,c_20,A21,c_21,A22,c_22,A23,c_23,rfl,rfl,rfl⟩,h45⟩
   replace h45:=nf h45
   refine rS (Zs 5 h45) fun _ w25 h46=>?_
   refine Ze [1,2,4,7,12] rfl ?_
   have h47:=(sOR h46 [7,6,5,0,0,0,0,0] [7,0])
   exact ⟨k,r12.2.1,A23,c_23,r12.2.2,r12.1.1,r12.1.2.1,A19,c_19,r12.1.2.2.1,A20,c_20,r12.1.2.2.2.1,A21,c_21,r12.1.2.2.2.2,A22,c_22,rfl,h47,H,T6 _⟩
  refine Ws [1,2,4,7,12] ?_
  refine T5 ?_
  have h48:=h16.addNil 33 (.int .u32)
  have h49:=h48.addNil 9 .str
  have h50:=h49.addNil 115 (.pair .str (.pair .bool .str))
  have h51:=h50.addNil 106 (.pair .str .str)
  have h52:=(sOR h51 [7,6,5,4,3,2,1,0] [6,0])
  exact ⟨k,r7.1,A7,c_7,r7.2,(-1),([]:List Int),none,0,([]:List TP),none,0,([]:List Tz),none,0,([]:List TC),none,0,rfl,h52,H,T6 _⟩
 rintro env w14 ⟨k1,x1,A8,c_8,x2,x3,x4,A9,c_9,x5,A10,c_10,x6,A11,c_11,x7,A12,c_12,rfl,h17,H,hk1⟩
 refine T4 (T4 (T2 ?_))
 refine Zd 1 ?_
 refine cS H [2] h17 rfl Q170.spec (gS [8]) fun r8 w15 H h18=>?_
 refine Ze [1,2,4,12,55] rfl ?_
 refine jIf H (fun c2 H=>?_) fun c2 H=>?_
 ·refine T4 (T2 ?_)
  refine Zd 1 ?_
  refine rS (Zs 2 h18) fun _ w16 h19=>?_
  refine Ze [4,5] rfl ?_
  have h20:=sO h19 [0]
  replace h20:=nf h20
  have h21:=h20.addNil 33 (.int .u32)
  have h22:=h21.addNil 9 .str
  have h23:=h22.addNil 115 (.pair .str (.pair .bool .str))
  have h24:=h23.addNil 106 (.pair .str .str)
  cases H
  exact T3 (jR2 (Z1 (Sa Yj 4 h24 rfl rfl rfl rfl) (Z1 (Sb rfl) Yt)) ⟨_,_,_,_,_,_,_,_,rfl,rfl⟩ h24 [3,2,1,0])
 refine T5 (T4 (T4 (T2 ?_)))
 refine Zc (Zb 1 h18.wht) ?_
 refine Zc (Zb 3 h18.wht) ?_
 refine cE H [] h18 rfl Q38.spec (X4 (gO 4) (X4 (gO 5) (X4 (gO 6) (X4 (gO 7) Zp)))) ?_
 rintro r9 w17 _ _ H ⟨A13,c_13,rfl,rfl⟩ h25
 replace h25:=nf h25
 refine Ze [1,4,12,13,14] rfl ?_
 have h26:=sO h25 [0,2,2,2,2,2,2]
 replace h26:=nf h26
 refine T4 (T2 ?_)
 refine Zd 3 ?_
 refine Z7 65 H (fun c3 H=>?_) fun c3 H=>?_
 ·refine Ze [4,12,70] rfl ?_
  refine Zn ?_
  refine T4 (T2 ?_)
  refine Zd 1 ?_
  refine rS (Zs 1 h26) fun _ w18 h27=>?_
  refine Ze [4,5] rfl ?_
  have h28:=sO h27 [0]
  replace h28:=nf h28
  have h29:=h28.addNil 33 (.int .u32)
  have h30:=h29.addNil 9 .str
  have h31:=h30.addNil 115 (.pair .str (.pair .bool .str))
  have h32:=h31.addNil 106 (.pair .str .str)
  cases H
  exact T3 (jR2 (Z1 (Sa Yj 4 h32 rfl rfl rfl rfl) (Z1 (Sb rfl) Yt)) ⟨_,_,_,_,_,_,_,_,rfl,rfl⟩ h32 [3,2,1,0])
 refine Zd 2 ?_
 refine cS H [] h26 rfl Q101.spec (X4 (gO 0) (gS [7])) fun r10 w19 H h33=>?_
 refine Ze [4,12,70] rfl ?_
 refine jIf H (fun c4 H=>?_) fun c4 H=>?_
 ·refine T4 (T2 ?_)
  refine Zd 1 ?_
  refine rS (Zs 1 h33) fun _ w20 h34=>?_
  refine Ze [4,5] rfl ?_
  have h35:=sO h34 [0]
  replace h35:=nf h35
  have h36:=h35.addNil 33 (.int .u32)
  have h37:=h36.addNil 9 .str
  have h38:=h37.addNil 115 (.pair .str (.pair .bool .str))
  have h39:=h38.addNil 106 (.pair .str .str)
  cases H
  exact T3 (jR2 (Z1 (Sa Yj 4 h39 rfl rfl rfl rfl) (Z1 (Sb rfl) Yt)) ⟨_,_,_,_,_,_,_,_,rfl,rfl⟩ h39 [3,2,1,0])
 refine T5 (T4 (T2 ?_))
 refine Zc (Zb 2 h33.wht) ?_
 refine rS (Zs 1 h33) fun _ w21 h40=>?_
 refine Ze [4,5] rfl ?_
 have h41:=sO h40 [0,2,2,2,2]
 replace h41:=nf h41
 cases H
 exact T3 (jR2 (Z1 (Sa Yj 0 h41 rfl rfl rfl rfl) (Z1 (Sb rfl) Yt)) ⟨_,_,_,_,_,_,_,_,rfl,rfl⟩ h41 [1,1,1,1])

def Q86.f (k:Nat) (a0:Tc) (a1:Int):Option (Tp×Int×Tc):=(Q92.f a0 a1).bind fun r1=>(if (!decide (r1=0))=true then (some ((0,([]:List Int),([]:List TP),([]:List Tz),([]:List TC)),r1,a0)) else ((Q18.f a0.2.1 a1).bind fun r2=>(if (!decide (r2.1=0))=true then (some ((0,([]:List Int),([]:List TP),([]:List Tz),([]:List TC)),r2.1,(a0.1,r2.2,a0.2.2.1,a0.2.2.2))) else ((Q19.f r2.2 a1).bind fun r3=>((Q20.f r2.2 a1).bind fun r4=>(if (!decide (r3.2=0))=true then (some ((0,([]:List Int),([]:List TP),([]:List Tz),([]:List TC)),r3.2,(a0.1,r4.2,a0.2.2.1,a0.2.2.2))) else ((Q37.f k a0.1 r3.1).bind fun r5=>(some (r5.1,r5.2,(a0.1,r4.2,a0.2.2.1,a0.2.2.2))))))))))
theorem Q86.spec {k a0 a1 b1 b2 b3 b4 b5 b6 b7 A1 c_1 A2 c_2 A3 c_3 A4 c_4 A5 c_5 r} (H:Q86.f k a0 a1=some r) :
  Spec Tryz.prog 24 [.pointer (some ⟨b1,0,none⟩),.int .u32 a1] (X9 a0 b1 b2 b3 b4 b5 b6 b7 A1 A2 A3 A4 A5 c_1 c_2 c_3 c_4 c_5) [] (fun v l=>∃ A_0 c_0 A_1 c_1 A_2 c_2 A_3 c_3 A_4 c_4 A_5 c_5 A_6 c_6 A_7 c_7 A_8 c_8,v=.tuple #[.agg #[.int .i64 r.1.1,.slice A_0 r.1.2.1.length c_0,.slice A_1 r.1.2.2.1.length c_1,.slice A_2 r.1.2.2.2.1.length c_2,.slice A_3 r.1.2.2.2.2.length c_3],.int .i64 r.2.1]∧l=[O33 r.1.2.1 A_0 c_0,O9 r.1.2.2.1 A_1 c_1,Zdp r.1.2.2.2.1 A_2 c_2,Zdv r.1.2.2.2.2 A_3 c_3] ++ X9 r.2.2 b1 b2 b3 b4 b5 b6 b7 A_4 A_5 A_6 A_7 A_8 c_4 c_5 c_6 c_7 c_8):=by
 refine Zi Tryz.func24 fun w0 F0 h0=>?_
 replace h0:=nf h0
 unfold Q86.f at H
 refine T4 (T2 ?_)
 refine rB (Yp h0) fun b8 w1 h1=>?_
 refine Ze [0,1,4] rfl ?_
 refine T4 (T4 (T2 ?_))
 refine Zd 2 ?_
 refine cS H [1,1,1,1,1,1,1,1,1,1,1,1] h1 rfl Q92.spec Zp fun r1 w2 H h2=>?_
 refine Ze [0,1,4,6] rfl ?_
 refine T4 (Za [0,1,4,6,14] ?_)
 refine jIf H (fun c1 H=>?_) fun c1 H=>?_
 ·refine T4 (T2 ?_)
  refine Zd 2 ?_
  refine rS (Zs 12 h2) fun _ w3 h3=>?_
  refine Ze [4,5] rfl ?_
  have h4:=h3.addNil 33 (.int .u32)
  have h5:=h4.addNil 9 .str
  have h6:=h5.addNil 115 (.pair .str (.pair .bool .str))
  have h7:=h6.addNil 106 (.pair .str .str)
  cases H
  exact T3 (jR2 (Z1 (Sa Yj 4 h7 rfl rfl rfl rfl) (Z1 (Sb rfl) Yt)) ⟨_,_,_,_,_,_,_,_,_,_,_,_,_,_,_,_,_,_,rfl,rfl⟩ h7 [3,2,1,0,1,1,1,1,1,1,1,1,1,1,1,1])
 refine T5 (T4 (T4 (T2 ?_)))
 refine Zd 3 ?_
 refine Zc (Zb 0 h2.wht) ?_
 refine Zd 1 ?_
 refine cE H [1,1,1,1,1,1,1,1] h2 rfl Q18.spec Zp ?_
 rintro r2 w4 _ _ H ⟨A6,c_6,A7,c_7,A8,c_8,A9,c_9,rfl,rfl⟩ h8
 replace h8:=nf h8
 refine Ze [0,1,4,7] rfl ?_
 refine T4 (Za [0,1,4,7,24] ?_)
 refine jIf H (fun c2 H=>?_) fun c2 H=>?_
 ·refine T4 (T2 ?_)
  refine Zd 2 ?_
  refine rS (Zs 12 h8) fun _ w5 h9=>?_
  refine Ze [4,5] rfl ?_
  have h10:=h9.addNil 33 (.int .u32)
  have h11:=h10.addNil 9 .str
  have h12:=h11.addNil 115 (.pair .str (.pair .bool .str))
  have h13:=h12.addNil 106 (.pair .str .str)
  cases H
  exact T3 (jR2 (Z1 (Sa Yj 4 h13 rfl rfl rfl rfl) (Z1 (Sb rfl) Yt)) ⟨_,_,_,_,_,_,_,_,_,_,_,_,_,_,_,_,_,_,rfl,rfl⟩ h13 [3,2,1,0,9,1,1,1,1,1,1,1,1,1,1,1])
 refine T5 (T4 (T2 ?_))
 refine Zd 3 ?_
 refine Zc (Zb 8 h8.wht) ?_
 refine Zd 1 ?_
 refine cE H [0,0,0,0,0,0,0,0] h8 rfl Q19.spec Zp ?_
 rintro r3 w6 _ _ H ⟨A10,c_10,rfl,rfl⟩ h14
 replace h14:=nf h14
 refine Ze [0,1,4,8,9] rfl ?_
 refine T4 (T2 ?_)
 refine Zd 3 ?_
 refine Zc (Zb 9 h14.wht) ?_
 refine Zd 1 ?_
 refine cE H [1,1,1,1,1,1,1,1] h14 rfl Q20.spec Zp ?_
 rintro r4 w7 _ _ H ⟨A11,c_11,A12,c_12,A13,c_13,A14,c_14,rfl,rfl⟩ h15
 replace h15:=nf h15
 refine Ze [0,4,8,9] rfl ?_
 refine T4 (T4 (Za [0,4,8,9,43] ?_))
 refine jIf H (fun c3 H=>?_) fun c3 H=>?_
 ·refine T4 (T2 ?_)
  refine Zd 2 ?_
  refine rS (Zs 13 h15) fun _ w8 h16=>?_
  refine Ze [4,5] rfl ?_
  have h17:=h16.addNil 33 (.int .u32)
  have h18:=h17.addNil 9 .str
  have h19:=h18.addNil 115 (.pair .str (.pair .bool .str))
  have h20:=h19.addNil 106 (.pair .str .str)
  cases H
  exact T3 (jR2 (Z1 (Sa Yj 4 h20 rfl rfl rfl rfl) (Z1 (Sb rfl) Yt)) ⟨_,_,_,_,_,_,_,_,_,_,_,_,_,_,_,_,_,_,rfl,rfl⟩ h20 [3,2,1,0,10,1,1,1,1,1,1,1,1,2,2,2])
 refine T5 (T4 (T2 ?_))
 refine Zd 3 ?_
 refine Zc (Zb 9 h15.wht) ?_
 refine Zd 1 ?_
 refine cE H [] h15 rfl Q37.spec (X4 (gO 8) Zp) ?_
 rintro r5 w9 _ _ H ⟨A15,c_15,A16,c_16,A17,c_17,A18,c_18,rfl,rfl⟩ h21
 replace h21:=nf h21
 refine Zd 2 ?_
 refine rS (Zs 17 h21) fun _ w10 h22=>?_
 refine Ze [4,5] rfl ?_
 cases H
 exact T3 (jR2 (Z1 (Sa Yj 0 h22 rfl rfl rfl rfl) (Z1 (Sb rfl) Yt)) ⟨_,_,_,_,_,_,_,_,_,_,_,_,_,_,_,_,_,_,rfl,rfl⟩ h22 [1,1,1,1,10,1,1,1,1,1,1,1,1,2,2,2])

def Q85.f (a0:Tc):Option (Int):=(Q73.f a0.2.2.1).bind fun r1=>(some r1)
theorem Q85.spec {a0 b1 b2 b3 b4 b5 b6 b7 A1 c_1 A2 c_2 A3 c_3 A4 c_4 A5 c_5 r} (H:Q85.f a0=some r) :
  Spec Tryz.prog 26 [.pointer (some ⟨b1,0,none⟩)] (X9 a0 b1 b2 b3 b4 b5 b6 b7 A1 A2 A3 A4 A5 c_1 c_2 c_3 c_4 c_5) [] (fun v l=>v=.int .i64 r∧l=X9 a0 b1 b2 b3 b4 b5 b6 b7 A1 A2 A3 A4 A5 c_1 c_2 c_3 c_4 c_5):=by
 refine Zi Tryz.func26 fun w0 F0 h0=>?_
 replace h0:=nf h0
 unfold Q85.f at H
 refine T4 (Za [0] ?_)
 refine T4 (T4 (Za [0,4] ?_))
 refine Z5 ?_
 refine T5 (T4 (T2 ?_))
 refine Zd 3 ?_
 refine Zc (Zb 0 h0.wht) ?_
 refine cS H [9,9,9] h0 rfl Q73.spec Zp fun r1 w1 H h1=>?_
 refine Ze [2] rfl ?_
 cases H
 exact T3 (jR0 h1 [3,3,3,3,3,3,3,3,3,0,0,0])

def Q76.f (a0:TE) (a1:Int):Option (Bool):=(Q79.f a0).bind fun r1=>(if (!r1)=true then ((Q6.f a0 (w64 (a1))).bind fun r2=>(some r2)) else (some false))
theorem Q76.spec {a0 a1 b1 b2 A1 c_1 r} (H:Q76.f a0 a1=some r) :
  Spec Tryz.prog 83 [.pointer (some ⟨b1,0,none⟩),.int .u32 a1] (Ui a0 b1 b2 A1 c_1) [] (fun v l=>v=.bool r∧l=Ui a0 b1 b2 A1 c_1):=by
 refine Zi Tryz.func83 fun w0 F0 h0=>?_
 replace h0:=nf h0
 unfold Q76.f at H
 refine T4 (Za [0,1] ?_)
 refine T4 (T2 ?_)
 refine Zd 1 ?_
 refine cS H [0,0,0] h0 rfl Q79.spec Zp fun r1 w1 H h1=>?_
 refine Zd 2 ?_
 refine Z7 8 H (fun c1 H=>?_) fun c1 H=>?_
 ·refine Zd 3 ?_
  refine Zc (Zb 0 h1.wht) ?_
  refine Zd 2 ?_
  refine cS H [1,1] h1 rfl Q6.spec Zp fun r2 w2 H h2=>?_
  refine Ze [4] rfl ?_
  cases H
  exact T3 (jR0 h2 [2,0,0])
 refine Ze [4] rfl ?_
 cases H
 exact T3 (jR0 h1 [0,0,0])

def Q83.f (a0:Tc) (a1:Int):Option (Bool):=(Q76.f a0.2.2.1 a1).bind fun r1=>(some r1)
theorem Q83.spec {a0 a1 b1 b2 b3 b4 b5 b6 b7 A1 c_1 A2 c_2 A3 c_3 A4 c_4 A5 c_5 r} (H:Q83.f a0 a1=some r) :
  Spec Tryz.prog 31 [.pointer (some ⟨b1,0,none⟩),.int .u32 a1] (X9 a0 b1 b2 b3 b4 b5 b6 b7 A1 A2 A3 A4 A5 c_1 c_2 c_3 c_4 c_5) [] (fun v l=>v=.bool r∧l=X9 a0 b1 b2 b3 b4 b5 b6 b7 A1 A2 A3 A4 A5 c_1 c_2 c_3 c_4 c_5):=by
 refine Zi Tryz.func31 fun w0 F0 h0=>?_
 replace h0:=nf h0
 unfold Q83.f at H
 refine T4 (Za [0,1] ?_)
 refine T4 (T2 ?_)
 refine Zd 6 ?_
 refine Zc (Zb 0 h0.wht) ?_
 refine Zd 1 ?_
 refine cS H [9,9,9] h0 rfl Q76.spec Zp fun r1 w1 H h1=>?_
 refine Ze [4] rfl ?_
 cases H
 exact T3 (jR0 h1 [3,3,3,3,3,3,3,3,3,0,0,0])

def Q126.l0:Nat→Tq→TB→TA→TU→Int→Option (Bool)
 | 0,_,_,_,_,_=>none
 | k+1,r1,r3,r8,x1,x2=>if (decide (x2<r1.2.2.1))=true then (if (x1.length+([x2]:List Int).length)*8≤140737488355328 then (Q126.l0 k r1 r3 r8 (x1 ++ ([x2]:List Int)) (w64 (x2+1))) else none) else ((Q53.f r3).bind fun r9=>(if (!decide (r9=r1.1))=true then (some false) else ((Q54.f r3).bind fun r10=>(if (!decide (r10=r1.2.1))=true then (some false) else ((Q72.f r1.1).bind fun r11=>(V1 r11.1 (if (!decide (r11.2=0))=true then (some false) else none) (fun r12=>(if (!decide (r11.2=0))=false then ((Q87.f k (r1,(r3,(List.replicate r1.2.2.1.toNat ((0,([]:List Int),false,0):Int×List Int×Bool×Int)),([]:List TS),x1,r8),r12,0) (0,([]:List Int),([]:List TP),([]:List Tz),([]:List TC))).bind fun r13=>((Q86.f k r13.2.2 2).bind fun r14=>(if (decide (r13.1=1))=true then (if (decide (r13.2.1=0))=true then ((Q85.f r14.2.2).bind fun r15=>(if (decide (r15=7))=true then (if (decide (r14.2.1=12))=true then ((Q83.f r14.2.2 1).bind fun r16=>(some r16)) else (some false)) else (some false))) else (some false)) else (some false)))) else none))))))))
def Q126.f (k:Nat):Option (Bool):=(Q127.f).bind fun r1=>((Q57.f r1.1 r1.2.1).bind fun r2=>(V1 r2.1 (if (!decide (r2.2=0))=true then ((Q48.f r1).bind fun r4=>(if (!decide (r4=0))=true then (some false) else (some false))) else none) (fun r3=>(if (!decide (r2.2=0))=false then ((Q48.f r1).bind fun r5=>(if (!decide (r5=0))=true then (some false) else ((Q53.f r3).bind fun r6=>(if (decide (r6=0))=true then (some false) else (if (decide (r1.2.2.1<1))=true then (some false) else (if (decide (64<r1.2.2.1))=true then (some false) else ((Q34.f r1.2.2.1).bind fun r7=>(V1 r7.1 (if (!decide (r7.2=0))=true then (some false) else none) (fun r8=>(if (!decide (r7.2=0))=false then (if 0≤r1.2.2.1∧r1.2.2.1*48≤281474976710656 then (Q126.l0 k r1 r3 r8 ([]:List Int) 0) else none) else none)))))))))) else none))))
theorem Q126.spec {k r} (H:Q126.f k=some r) :
  Spec Tryz.prog 13 [] [] [tabC 0] (fun v l=>v=.bool r∧l=[]):=by
 refine Zi Tryz.func13 fun w0 F0 h0=>?_
 unfold Q126.f at H
 refine T4 (Za [] ?_)
 refine T4 (T2 ?_)
 refine cS H [] h0 rfl Q127.spec Zp fun r1 w1 H h1=>?_
 refine Yg Tryz.func14 ?_
 refine T4 (T2 ?_)
 refine rB (Z4 h1) fun b1 w2 h2=>?_
 refine Ze [1] rfl ?_
 refine T4 (T2 ?_)
 refine Zd 1 ?_
 refine Zc (Zb 0 h2.wht) ?_
 refine Zd 1 ?_
 refine Zc (Zb 0 h2.wht) ?_
 refine cE H [] h2 rfl Q57.spec Zp ?_
 rintro r2 w3 _ _ H ⟨v1,l1,ho1,rfl,rfl⟩ h3
 rcases ho2:r2.1 with _ | r3
 ·rw [ho2] at ho1
  obtain ⟨rfl,rfl⟩:=ho1
  replace H:=Uy ho2 H
  obtain ⟨c1,H⟩:=Zl H
  replace h3:=nf h3
  refine Ze [1,4,5] rfl ?_
  refine T4 (T2 ?_)
  refine Zc (Zb 0 h3.wht) ?_
  refine Zd 1 ?_
  refine Yg Tryz.func35 ?_
  refine T4 (T2 ?_)
  refine rB (Z4 h3) fun b2 w4 h4=>?_
  refine Ze [1,2] rfl ?_
  refine T4 (T4 (T2 ?_))
  refine Zc (Zb 0 h4.wht) ?_
  refine cS H [] h4 rfl Q48.spec Zp fun r4 w5 H h5=>?_
  refine Ze [1,2,6] rfl ?_
  refine T4 (Za [1,2,6,13] ?_)
  refine jIf H (fun c3 H=>?_) fun c3 H=>?_
  ·refine T4 (Za [4,5] ?_)
   refine T3 (⟨_,Zj,?_⟩)
   refine Ze [4,5,6,7] rfl ?_
   refine T4 (T4 (T2 ?_))
   refine Zd 3 ?_
   refine Yk 24 (congrArg Value.bool c1) ?_
   refine Ze [4,6,27] rfl ?_
   refine Zn ?_
   refine T4 (Za [2,3] ?_)
   refine T3 (⟨_,Zj,?_⟩)
   refine Ze [1] rfl ?_
   have h6:=sO h5 []
   replace h6:=nf h6
   refine T4 (T4 (Za [1,13] ?_))
   refine Zn ?_
   refine T4 (Za [0] ?_)
   cases H
   exact T3 (jR0 h6 [])
  refine T5 (T4 (T2 ?_))
  refine Zd 2 ?_
  refine Zc (Zb 0 h5.wht) ?_
  refine Yg Tryz.func85 ?_
  refine T4 (Za [0,1] ?_)
  refine T4 (TW (T4 (T2 ?_)))
  refine Zd 1 ?_
  refine Yg Tryz.func37 ?_
  refine T4 (Za [0] ?_)
  refine T4 (T4 (Za [0,11] ?_))
  refine Zn ?_
  refine T4 (Za [2] ?_)
  refine T3 (⟨_,Zj,?_⟩)
  refine Ze [0,1,10] rfl ?_
  refine Zn ?_
  refine T4 (Za [4,5] ?_)
  refine T3 (⟨_,Zj,?_⟩)
  refine Ze [1,2,7,8] rfl ?_
  refine T4 (T4 (Za [1,2,7,8,23] ?_))
  refine Zn ?_
  refine T4 (Za [4,5] ?_)
  refine T3 (⟨_,Zj,?_⟩)
  refine Ze [4,5,6,7] rfl ?_
  refine T4 (T4 (T2 ?_))
  refine Zd 3 ?_
  refine Yk 24 (congrArg Value.bool c1) ?_
  refine Ze [4,6,27] rfl ?_
  refine Zn ?_
  refine T4 (Za [2,3] ?_)
  refine T3 (⟨_,Zj,?_⟩)
  refine Ze [1] rfl ?_
  have h7:=sO h5 []
  replace h7:=nf h7
  refine T4 (T4 (Za [1,13] ?_))
  refine Zn ?_
  refine T4 (Za [0] ?_)
  cases H
  exact T3 (jR0 h7 [])
 rw [ho2] at ho1
 obtain ⟨b3,A1,c_1,rfl,rfl⟩:=ho1
 replace H:=Uz ho2 H
 obtain ⟨c2,H⟩:=Zl H
 replace h3:=nf h3
 refine Ze [1,4,5] rfl ?_
 refine T4 (T2 ?_)
 refine Zc (Zb 2 h3.wht) ?_
 refine Zd 1 ?_
 refine Yg Tryz.func35 ?_
 refine T4 (T2 ?_)
 refine rB (Z4 h3) fun b4 w6 h8=>?_
 refine Ze [1,2] rfl ?_
 refine T4 (T4 (T2 ?_))
 refine Zc (Zb 0 h8.wht) ?_
 refine cS H [] h8 rfl Q48.spec Zp fun r5 w7 H h9=>?_
 refine Ze [1,2,6] rfl ?_
 refine T4 (Za [1,2,6,13] ?_)
 refine jIf H (fun c4 H=>?_) fun c4 H=>?_
 ·refine T4 (Za [4,5] ?_)
  refine T3 (⟨_,Zj,?_⟩)
  refine Ze [4,5,6,7] rfl ?_
  refine T4 (T4 (T2 ?_))
  refine Zd 3 ?_
  refine Yk 24 (congrArg Value.bool c2) ?_
  refine Ze [4,6,27] rfl ?_
  refine TX rfl (fun e=>?_) (fun e=>by rw [c4] at e; cases e)
  refine T4 (Za [2,3] ?_)
  refine T3 (⟨_,Zj,?_⟩)
  refine Ze [1] rfl ?_
  have h10:=sO h9 []
  replace h10:=nf h10
  refine T4 (T4 (Za [1,13] ?_))
  refine Zn ?_
  refine T4 (Za [0] ?_)
  cases H
  exact T3 (jR0 h10 [])
 refine T5 (T4 (T2 ?_))
 refine Zd 2 ?_
 refine Zc (Zb 0 h9.wht) ?_
 refine Yg Tryz.func85 ?_
 refine T4 (Za [0,1] ?_)
 refine T4 (TW (T4 (T2 ?_)))
 refine Zd 1 ?_
 refine cS H [1,1] h9 rfl Q53.spec Zp fun r6 w8 H h11=>?_
 refine Ze [0,1,10] rfl ?_
 refine jIf H (fun c5 H=>?_) fun c5 H=>?_
 ·refine T4 (Za [4,5] ?_)
  refine T3 (⟨_,Zj,?_⟩)
  refine Ze [1,2,7,8] rfl ?_
  refine T4 (T4 (Za [1,2,7,8,23] ?_))
  refine Zn ?_
  refine T4 (Za [4,5] ?_)
  refine T3 (⟨_,Zj,?_⟩)
  refine Ze [4,5,6,7] rfl ?_
  refine T4 (T4 (T2 ?_))
  refine Zd 3 ?_
  refine Yk 24 (congrArg Value.bool c2) ?_
  refine Ze [4,6,27] rfl ?_
  refine Zn ?_
  refine T4 (Za [2,3] ?_)
  refine T3 (⟨_,Zj,?_⟩)
  refine Ze [1] rfl ?_
  have h12:=sO h11 []
  replace h12:=nf h12
  refine T4 (T4 (Za [1,13] ?_))
  refine Zn ?_
  refine T4 (Za [0] ?_)
  cases H
  exact T3 (jR0 h12 [])
 refine T4 (T2 ?_)
 refine Zd 3 ?_
 refine Z7 17 H (fun c6 H=>?_) fun c6 H=>?_
 ·refine Ze [0,1,14] rfl ?_
  refine Zn ?_
  refine T4 (Za [4,5] ?_)
  refine T3 (⟨_,Zj,?_⟩)
  refine Ze [1,2,7,8] rfl ?_
  refine T4 (T4 (Za [1,2,7,8,23] ?_))
  refine Zn ?_
  refine T4 (Za [4,5] ?_)
  refine T3 (⟨_,Zj,?_⟩)
  refine Ze [4,5,6,7] rfl ?_
  refine T4 (T4 (T2 ?_))
  refine Zd 3 ?_
  refine Yk 24 (congrArg Value.bool c2) ?_
  refine Ze [4,6,27] rfl ?_
  refine Zn ?_
  refine T4 (Za [2,3] ?_)
  refine T3 (⟨_,Zj,?_⟩)
  refine Ze [1] rfl ?_
  have h13:=sO h11 []
  replace h13:=nf h13
  refine T4 (T4 (Za [1,13] ?_))
  refine Zn ?_
  refine T4 (Za [0] ?_)
  cases H
  exact T3 (jR0 h13 [])
 refine Ze [0,1,14] rfl ?_
 refine jIf H (fun c7 H=>?_) fun c7 H=>?_
 ·refine T4 (Za [4,5] ?_)
  refine T3 (⟨_,Zj,?_⟩)
  refine Ze [1,2,7,8] rfl ?_
  refine T4 (T4 (Za [1,2,7,8,23] ?_))
  refine Zn ?_
  refine T4 (Za [4,5] ?_)
  refine T3 (⟨_,Zj,?_⟩)
  refine Ze [4,5,6,7] rfl ?_
  refine T4 (T4 (T2 ?_))
  refine Zd 3 ?_
  refine Yk 24 (congrArg Value.bool c2) ?_
  refine Ze [4,6,27] rfl ?_
  refine Zn ?_
  refine T4 (Za [2,3] ?_)
  refine T3 (⟨_,Zj,?_⟩)
  refine Ze [1] rfl ?_
  have h14:=sO h11 []
  replace h14:=nf h14
  refine T4 (T4 (Za [1,13] ?_))
  refine Zn ?_
  refine T4 (Za [0] ?_)
  cases H
  exact T3 (jR0 h14 [])
 refine T5 (T4 (T2 ?_))
 refine Zd 1 ?_
 refine cE H [] h11 rfl Q34.spec Zp ?_
 rintro r7 w9 _ _ H ⟨v2,l2,ho3,rfl,rfl⟩ h15
 rcases ho4:r7.1 with _ | r8
 ·rw [ho4] at ho3
  obtain ⟨rfl,rfl⟩:=ho3
  replace H:=Uy ho4 H
  obtain ⟨c8,H⟩:=Zl H
  replace h15:=nf h15
  refine Ze [0,1,6,7] rfl ?_
  refine T4 (T4 (Za [0,1,6,7,27] ?_))
  refine TX rfl (fun e=>?_) (fun e=>by rw [c8] at e; cases e)
  refine T4 (Za [4,5] ?_)
  refine T3 (⟨_,Zj,?_⟩)
  refine Ze [1,2,7,8] rfl ?_
  refine T4 (T4 (Za [1,2,7,8,23] ?_))
  refine TX rfl (fun e=>?_) (fun e=>by rw [c8] at e; cases e)
  refine T4 (Za [4,5] ?_)
  refine T3 (⟨_,Zj,?_⟩)
  refine Ze [4,5,6,7] rfl ?_
  refine T4 (T4 (T2 ?_))
  refine Zd 3 ?_
  refine Yk 24 (congrArg Value.bool c2) ?_
  refine Ze [4,6,27] rfl ?_
  refine TX rfl (fun e=>?_) (fun e=>by rw [c8] at e; cases e)
  refine T4 (Za [2,3] ?_)
  refine T3 (⟨_,Zj,?_⟩)
  refine Ze [1] rfl ?_
  have h16:=sO h15 []
  replace h16:=nf h16
  refine T4 (T4 (Za [1,13] ?_))
  refine Zn ?_
  refine T4 (Za [0] ?_)
  cases H
  exact T3 (jR0 h16 [])
 rw [ho4] at ho3
 obtain ⟨b5,A2,c_2,rfl,rfl⟩:=ho3
 replace H:=Uz ho4 H
 obtain ⟨c9,H⟩:=Zl H
 replace h15:=nf h15
 refine Ze [0,1,6,7] rfl ?_
 refine T4 (T4 (Za [0,1,6,7,27] ?_))
 refine TX rfl (fun e=>by rw [c9] at e; cases e) (fun e=>?_)
 refine T5 (T4 (T2 ?_))
 refine Zd 2 ?_
 obtain ⟨⟨p1,p2⟩,H⟩:=Zl H
 refine rB (Zab Yj (ty:=(.pair (.int .u32) (.pair (.slice 5 (.int .u8)) (.pair .bool (.int .i64))))) ((0,([]:List Int),false,0):Int×List Int×Bool×Int) rfl rfl rfl rfl rfl rfl (fun _ _=>Zis ⟨none,0,rfl,T6 _,.inl rfl⟩) (by decide) h15 p1 p2) fun b6 w10 h17=>?_
 refine rB (G6 .u32 (Value.int .i64) h17) fun b7 w11 h18=>?_
 refine Zd 2 ?_
 refine rB (Z4 h18) fun b8 w12 h19=>?_
 refine Ze [1,8] rfl ?_
 refine T4 (T4 (Za [8,36,37] ?_))
 refine TW ?_
 have h54:=h19.addNil 3 (.int .i64)
 have h55:=(sOR h54 [1,5,1,2,5,4,3,1,0,0] [0])
 refine T0 (fun kk env w=>∃ x1 A3 c_3 x2,Q126.l0 kk r1 r3 r8 x1 x2=some r∧env=[(8,.pointer (some ⟨b8,0,none⟩)),(36,.int .i64 r1.2.2.1),(37,.int .i64 x2)]∧St w0 F0 [Xp b8 (.pointer (some ⟨b3,0,none⟩)) (List.replicate r1.2.2.1.toNat ((0,([]:List Int),false,0):Int×List Int×Bool×Int)) (some ⟨b6,0,none⟩) (r1.2.2.1.toNat) (.map (some b7)) x1 A3 c_3 (.pointer (some ⟨b5,0,none⟩)),Xf b3 r3.1 r3.2.1 A1 c_1 r3.2.2.1 r3.2.2.2,Y2 .u32 (Value.int .i64) b7 ([]:List TS),Yx b5 r8.1 A2 c_2 r8.2,X23 b1 r1.1 r1.2.1 r1.2.2.1 r1.2.2.2.1 r1.2.2.2.2.1 r1.2.2.2.2.2.1 r1.2.2.2.2.2.2.1 r1.2.2.2.2.2.2.2,X23 b4 r1.1 r1.2.1 r1.2.2.1 r1.2.2.2.1 r1.2.2.2.2.1 r1.2.2.2.2.2.1 r1.2.2.2.2.2.2.1 r1.2.2.2.2.2.2.2,O5 r3.2.1 A1 c_1,Xm (List.replicate r1.2.2.1.toNat ((0,([]:List Int),false,0):Int×List Int×Bool×Int)) (some ⟨b6,0,none⟩) (r1.2.2.1.toNat),O3 x1 A3 c_3,Yy r8.1 A2 c_2] [tabC 0] w) (k:=k) ⟨_,_,_,_,H,rfl,h55⟩ ?_
 rintro k1 env w13 ⟨x1,A3,c_3,x2,H,rfl,h20⟩
 rcases k1 with _ | k1
 ·exact z0 H
 rw [Q126.l0] at H
 refine T4 (Za [8,36,37,38] ?_)
 refine T4 (jIf H (fun c10 H=>?_) fun c10 H=>?_)
 ·refine T5 (T4 (TW (T4 (Za [8,9,36,37] ?_))))
  refine T2 (Zd 4 ?_)
  refine Zc (Zb 0 h20.wht) ?_
  refine Zd 1 ?_
  refine rB (Y6 (.int .i64) ([x2]:List Int) h20) fun b9 w14 h21=>?_
  obtain ⟨p3,H⟩:=Zl H
  refine Zv (Yq 9 h21 (gO 0) p3) ?_
  rintro _ w15 ⟨A4,c_4,rfl,h22⟩
  replace h22:=nf h22
  refine Zd 2 ?_
  refine rS (Zs 2 h22) fun _ w16 h23=>?_
  refine Ze [8,36,37] rfl ?_
  refine Za [8,36,37] ?_
  have h24:=(sOR h23 [0,2,2,2,2,2,2,2,0,1] [0])
  exact ⟨k1,by omega,_,_,_,_,H,rfl,h24⟩
 refine TZ (T4 (Za [4,5] ?_))
 refine T3 (⟨_,Zj,?_⟩)
 refine Ze [1,2,7,8] rfl ?_
 refine T4 (T4 (Za [1,2,7,8,23] ?_))
 refine Z5 ?_
 refine T5 (T4 (T4 ?_))
 refine jH h20 fun h25=>?_
 refine Zo [0,2] ?_
 refine Zf 3 rfl (Zb 5 wI) ?_
 refine cEJ 1 rfl H [1,5] h25 rfl Q53.spec Zp ?_
 rintro r9 w17 _ _ H ⟨rfl,rfl⟩ h26
 replace h26:=nf h26
 refine ⟨⟨[],(sO h26 [2,0,1,1,1,1,0,0,0,0])⟩,?_⟩
 refine Zo [4,5] ?_
 refine X1 30 H (fun c11 H=>?_) fun c11 H=>?_
 ·refine Zo [6,7,8,9,10,11] ?_
  refine Zt [1,2,7,36] ?_
  refine Zn ?_
  refine T4 (Za [4,5] ?_)
  refine T3 (⟨_,Zj,?_⟩)
  refine Ze [4,5,6,7] rfl ?_
  refine T4 (T4 (T2 ?_))
  refine Zd 3 ?_
  refine Yk 24 (congrArg Value.bool c2) ?_
  refine Ze [4,6,27] rfl ?_
  refine Zn ?_
  refine T4 (Za [2,3] ?_)
  refine T3 (⟨_,Zj,?_⟩)
  refine Ze [1] rfl ?_
  have h27:=sO h26 []
  replace h27:=nf h27
  refine T4 (T4 (Za [1,13] ?_))
  refine Zn ?_
  refine T4 (Za [0] ?_)
  cases H
  exact T3 (jR0 h27 [])
 refine Zo [6,8] ?_
 refine Zf 9 rfl (Zb 5 wI) ?_
 refine cEJ 7 rfl H [0,0] h26 rfl Q54.spec Zp ?_
 rintro r10 w18 _ _ H ⟨rfl,rfl⟩ h28
 replace h28:=nf h28
 refine ⟨⟨[],(sO h28 [2,0,1,1,1,1,0,0,0,0])⟩,?_⟩
 refine Zo [10,11] ?_
 refine Zt [1,2,7,36] ?_
 refine jIf H (fun c12 H=>?_) fun c12 H=>?_
 ·refine T4 (Za [4,5] ?_)
  refine T3 (⟨_,Zj,?_⟩)
  refine Ze [4,5,6,7] rfl ?_
  refine T4 (T4 (T2 ?_))
  refine Zd 3 ?_
  refine Yk 24 (congrArg Value.bool c2) ?_
  refine Ze [4,6,27] rfl ?_
  refine Zn ?_
  refine T4 (Za [2,3] ?_)
  refine T3 (⟨_,Zj,?_⟩)
  refine Ze [1] rfl ?_
  have h29:=sO h28 []
  replace h29:=nf h29
  refine T4 (T4 (Za [1,13] ?_))
  refine Zn ?_
  refine T4 (Za [0] ?_)
  cases H
  exact T3 (jR0 h29 [])
 refine T5 (T4 (T2 ?_))
 refine Zd 1 ?_
 refine Zc (Zb 6 h28.wht) ?_
 refine cE H [] h28 rfl Q72.spec Zp ?_
 rintro r11 w19 _ _ H ⟨v3,l3,ho5,rfl,rfl⟩ h30
 rcases ho6:r11.1 with _ | r12
 ·rw [ho6] at ho5
  obtain ⟨rfl,rfl⟩:=ho5
  replace H:=Uy ho6 H
  obtain ⟨c13,H⟩:=Zl H
  replace h30:=nf h30
  refine Ze [1,2,7,8,9] rfl ?_
  refine T4 (T4 (Za [1,2,7,8,9,44] ?_))
  refine TX rfl (fun e=>?_) (fun e=>by rw [c13] at e; cases e)
  refine T4 (Za [4,5] ?_)
  refine T3 (⟨_,Zj,?_⟩)
  refine Ze [4,5,6,7] rfl ?_
  refine T4 (T4 (T2 ?_))
  refine Zd 3 ?_
  refine Yk 24 (congrArg Value.bool c2) ?_
  refine Ze [4,6,27] rfl ?_
  refine TX rfl (fun e=>?_) (fun e=>by rw [c13] at e; cases e)
  refine T4 (Za [2,3] ?_)
  refine T3 (⟨_,Zj,?_⟩)
  refine Ze [1] rfl ?_
  have h31:=sO h30 []
  replace h31:=nf h31
  refine T4 (T4 (Za [1,13] ?_))
  refine Zn ?_
  refine T4 (Za [0] ?_)
  cases H
  exact T3 (jR0 h31 [])
 rw [ho6] at ho5
 obtain ⟨b10,b11,A5,c_5,rfl,rfl⟩:=ho5
 replace H:=Uz ho6 H
 obtain ⟨c14,H⟩:=Zl H
 replace h30:=nf h30
 refine Ze [1,2,7,8,9] rfl ?_
 refine T4 (T4 (Za [1,2,7,8,9,44] ?_))
 refine TX rfl (fun e=>by rw [c14] at e; cases e) (fun e=>?_)
 refine T5 (T4 (T2 ?_))
 refine Zc (Zb 9 h30.wht) ?_
 refine Zd 4 ?_
 refine rB (Z4 h30) fun b12 w20 h32=>?_
 refine Ze [4,5] rfl ?_
 refine T3 (⟨_,Zj,?_⟩)
 refine Ze [4,5,6,7] rfl ?_
 refine T4 (T4 (T2 ?_))
 refine Zd 3 ?_
 refine Yk 24 (congrArg Value.bool c2) ?_
 refine Ze [4,6,27] rfl ?_
 refine Z5 ?_
 refine T5 (T4 (Za [2,3] ?_))
 refine T3 (⟨_,Zj,?_⟩)
 refine Ze [1] rfl ?_
 have h33:=sO h32 [0,0,0,0,0,0,0,0,0,2,2,2]
 replace h33:=nf h33
 refine T4 (T4 (Za [1,13] ?_))
 refine Z5 ?_
 refine T5 (T4 (T2 ?_))
 refine Zd 2 ?_
 have h34:=h33.addNil 33 (.int .u32)
 have h35:=h34.freeze (k:=0) rfl Yz
 have h36:=h35.addNil 9 .str
 have h37:=h36.freeze (k:=0) rfl Yz
 have h38:=h37.addNil 115 (.pair .str (.pair .bool .str))
 have h39:=h38.freeze (k:=0) rfl Yz
 have h40:=h39.addNil 106 (.pair .str .str)
 have h41:=h40.freeze (k:=0) rfl Yz
 refine cE H [0,5,3,3,5,3,4,3,3,0,0,0] h41 rfl Q87.spec (gS [3,2,1,0,4]) ?_
 rintro r13 w21 _ _ H ⟨A6,c_6,A7,c_7,A8,c_8,A9,c_9,A10,c_10,rfl,rfl⟩ h42
 replace h42:=nf h42
 refine Ze [1,3,4] rfl ?_
 refine T4 (T2 ?_)
 refine Zd 1 ?_
 refine cE H [0,0,0,0,0,0,0,0,0,0,0,0] h42 rfl Q86.spec Zp ?_
 rintro r14 w22 _ _ H ⟨A11,c_11,A12,c_12,A13,c_13,A14,c_14,A15,c_15,A16,c_16,A17,c_17,A18,c_18,A19,c_19,rfl,rfl⟩ h43
 replace h43:=nf h43
 refine Zd 3 ?_
 refine rB (Yp h43) fun b13 w23 h44=>?_
 refine rS (Zs 0 h44) fun _ w24 h45=>?_
 refine Ze [1,3,4,6] rfl ?_
 have h46:=sO h45 [5,5,5,5,5,5,5,5,5,5,5,5]
 replace h46:=nf h46
 refine T4 (T2 ?_)
 refine Zd 3 ?_
 refine Z7 27 H (fun c15 H=>?_) fun c15 H=>?_
 ·refine Zd 4 ?_
  refine Z7 31 H (fun c16 H=>?_) fun c16 H=>?_
  ·refine Zd 1 ?_
   refine cS H [0,0,0,0,0,0,0,0,0,0,0,0] h46 rfl Q85.spec Zp fun r15 w25 H h47=>?_
   refine Zd 3 ?_
   refine Z7 36 H (fun c17 H=>?_) fun c17 H=>?_
   ·refine Zd 4 ?_
    refine Z7 40 H (fun c18 H=>?_) fun c18 H=>?_
    ·refine Zd 1 ?_
     refine cS H [0,0,0,0,0,0,0,0,0,0,0,0] h47 rfl Q83.spec Zp fun r16 w26 H h48=>?_
     refine Ze [0] rfl ?_
     have h49:=sO h48 []
     replace h49:=nf h49
     cases H
     exact T3 (jR0 h49 [])
    refine Ze [0] rfl ?_
    have h50:=sO h47 []
    replace h50:=nf h50
    cases H
    exact T3 (jR0 h50 [])
   refine Ze [0] rfl ?_
   have h51:=sO h47 []
   replace h51:=nf h51
   cases H
   exact T3 (jR0 h51 [])
  refine Ze [0] rfl ?_
  have h52:=sO h46 []
  replace h52:=nf h52
  cases H
  exact T3 (jR0 h52 [])
 refine Ze [0] rfl ?_
 have h53:=sO h46 []
 replace h53:=nf h53
 cases H
 exact T3 (jR0 h53 [])

def Q136.f (a0:Int):Option TR:=if 0≤a0∧a0*1≤281474976710656 then (if 0<((List.replicate a0.toNat false).length:Int) then (some ((List.replicate a0.toNat false).set (0:Int).toNat true)) else none) else none
theorem Q136.spec {a0 r} (H:Q136.f a0=some r) :
  Spec Tryz.prog 54 [.int .i64 a0] [] [] (fun v l=>∃ A_0 c_0,v=.slice A_0 r.length c_0∧l=[O4 r A_0 c_0]):=by
 refine Zi Tryz.func54 fun w0 F0 h0=>?_
 unfold Q136.f at H
 refine T4 (Za [0] ?_)
 refine T4 (T2 ?_)
 refine Zd 1 ?_
 obtain ⟨⟨p1,p2⟩,H⟩:=Zl H
 refine rB (Jq Yj (ty:=.bool) rfl false rfl rfl rfl rfl rfl rfl rfl (by decide) h0 p1 p2) fun b1 w1 h1=>?_
 refine Ze [3] rfl ?_
 refine T4 (T2 ?_)
 refine Zd 1 ?_
 obtain ⟨p3,H⟩:=Zl H
 have e1:=Jo h1.wh (gO 0) p3
 refine Zc (V4 e1 p3) ?_
 refine rS (Zbp 0 1 .bool 0 true 0 h1 rfl p3) fun _ w2 h2=>?_
 refine Ze [3] rfl ?_
 refine TY (env':=[(3,.slice (some ⟨b1,0,none⟩) ((List.replicate a0.toNat false).set (0:Int).toNat true).length (a0.toNat))]) (by simp only [List.length_set,List.length_nil] <;> rfl) ?_
 refine T4 (Za [2] ?_)
 cases H
 exact T3 (jR ⟨_,_,rfl,rfl⟩ h2 [0])

def Q162.f (a0:Tr):Option Tf:=if 0≤a0.1∧a0.1*112≤281474976710656 then ((Q136.f a0.1).bind fun r1=>(some (a0,(List.replicate a0.1.toNat ((0,(0,([]:List Int),([]:List TP),([]:List Tz),([]:List TC))):Int×Tp)),r1,0))) else none
theorem Q162.spec {a0 r} (H:Q162.f a0=some r) :
  SpecA Tryz.prog 15 [.agg #[.int .i64 a0.1,.int .i64 a0.2.1,.int .i64 a0.2.2.1,.int .i64 a0.2.2.2.1,.int .i64 a0.2.2.2.2.1,.int .i64 a0.2.2.2.2.2.1,.int .i64 a0.2.2.2.2.2.2.1,.int .i64 a0.2.2.2.2.2.2.2]] [] [] (fun v l lr=>∃ A_0 c_0 A_1 c_1,v=.agg #[.int .i64 r.1.1,.int .i64 r.1.2.1,.int .i64 r.1.2.2.1,.int .i64 r.1.2.2.2.1,.int .i64 r.1.2.2.2.2.1,.int .i64 r.1.2.2.2.2.2.1,.int .i64 r.1.2.2.2.2.2.2.1,.int .i64 r.1.2.2.2.2.2.2.2,.slice A_0 r.2.1.length c_0,.slice A_1 r.2.2.1.length c_1,.int .u32 r.2.2.2]∧l=[O4 r.2.2.1 A_1 c_1]∧lr=[R53 r.2.1 A_0 c_0]):=by
 refine Yd Tryz.func15 fun w0 F0 h0=>?_
 unfold Q162.f at H
 refine T4 (T2 ?_)
 refine rB (Z4 h0) fun b1 w1 h1=>?_
 refine rB (Yp h1) fun b2 w2 h2=>?_
 refine Ze [1,2] rfl ?_
 refine T4 ?_
 obtain ⟨⟨p1,p2⟩,H⟩:=Zl H
 obtain ⟨r1,q1,H⟩:=Ye H
 refine T1 (fun env w=>∃(b3:Nat) (A1:Option Addr) (c_1:Nat) (cs1:List Value),env=[(2,.pointer (some ⟨b2,0,none⟩))]∧St w0 F0 [X35 b2 a0.1 a0.2.1 a0.2.2.1 a0.2.2.2.1 a0.2.2.2.2.1 a0.2.2.2.2.2.1 a0.2.2.2.2.2.2.1 a0.2.2.2.2.2.2.2 (List.replicate a0.1.toNat ((0,(0,([]:List Int),([]:List TP),([]:List Tz),([]:List TC))):Int×Tp)) (some ⟨b3,0,none⟩) (a0.1.toNat) r1 A1 c_1 0,M53 (List.replicate a0.1.toNat ((0,(0,([]:List Int),([]:List TP),([]:List Tz),([]:List TC))):Int×Tp)) (some ⟨b3,0,none⟩) (a0.1.toNat) cs1,O4 r1 A1 c_1,X23 b1 a0.1 a0.2.1 a0.2.2.1 a0.2.2.2.1 a0.2.2.2.2.1 a0.2.2.2.2.2.1 a0.2.2.2.2.2.2.1 a0.2.2.2.2.2.2.2] [E53 (List.replicate a0.1.toNat ((0,(0,([]:List Int),([]:List TP),([]:List Tz),([]:List TC))):Int×Tp)) cs1] w) ?_ ?_
 ·refine Zw (sO h2 [1]) ?_
  have h6:=h2.drew
  refine Zo [1,4] ?_
  refine Zf 0 rfl (Zb 0 wI) ?_
  refine Zf 2 rfl (Zb 0 wI) ?_
  refine Zf 5 rfl (Zb 0 wI) ?_
  refine TV [3,6] (i:=3) rfl rfl rfl rfl ?_
  refine (Yb ?_ (Yb ?_ Xg))
  ·refine Xv 3 rfl (Ze6 (.pair (.int .i64) (.pair (.int .i64) (.pair (.slice 33 (.int .u32)) (.pair (.slice 9 .str) (.pair (.slice 115 (.pair .str (.pair .bool .str))) (.slice 106 (.pair .str .str))))))) ((0,(0,([]:List Int),([]:List TP),([]:List Tz),([]:List TC))):Int×Tp) h6 p1 p2 ⟨_,_,rfl,(Vd rfl _),⟨_,_,rfl,(Vd rfl _),⟨_,_,rfl,(.inr Ug),⟨_,_,rfl,(.inr Ug),⟨_,_,rfl,(.inr Ug),(.inr Ug)⟩⟩⟩⟩⟩) ?_
   rintro _ w6 ⟨b4,cs2,rfl,h7⟩
   replace h7:=nf h7
   refine ⟨⟨[_,_],(Y9 h7 [])⟩,?_⟩
   refine Yl 6 rfl (Xk [] (Q136.spec q1) h7 rfl Zp) ?_
   rintro _ w7 ⟨_,⟨A2,c_2,rfl,rfl⟩,h8⟩
   replace h8:=nf h8
   refine ⟨⟨[_,_,_],(Y9 h8 [])⟩,?_⟩
   refine Zo [7] ?_
   refine Yl 8 rfl (Zs 2 h8) ?_
   intro _ w8 h9
   replace h9:=nf h9
   refine ⟨⟨[_,_,_],(Y9 h9 [])⟩,?_⟩
   refine Zt [2] ?_
   exact Zu ⟨b4,A2,c_2,cs2,rfl,(sOR h9 [0,1,0,0] [0])⟩
  ·refine Xv 6 rfl (Xk [] (Q136.spec q1) h6 rfl Zp) ?_
   rintro _ w9 ⟨_,⟨A3,c_3,rfl,rfl⟩,h10⟩
   replace h10:=nf h10
   refine ⟨⟨[_,_],h10⟩,?_⟩
   refine Yl 3 rfl (Ze6 (.pair (.int .i64) (.pair (.int .i64) (.pair (.slice 33 (.int .u32)) (.pair (.slice 9 .str) (.pair (.slice 115 (.pair .str (.pair .bool .str))) (.slice 106 (.pair .str .str))))))) ((0,(0,([]:List Int),([]:List TP),([]:List Tz),([]:List TC))):Int×Tp) h10 p1 p2 ⟨_,_,rfl,(Vd rfl _),⟨_,_,rfl,(Vd rfl _),⟨_,_,rfl,(.inr Ug),⟨_,_,rfl,(.inr Ug),⟨_,_,rfl,(.inr Ug),(.inr Ug)⟩⟩⟩⟩⟩) ?_
   rintro _ w10 ⟨b5,cs3,rfl,h11⟩
   replace h11:=nf h11
   refine ⟨⟨[_,_,_],(Y9 h11 [])⟩,?_⟩
   refine Zo [7] ?_
   refine Yl 8 rfl (Zs 2 h11) ?_
   intro _ w11 h12
   replace h12:=nf h12
   refine ⟨⟨[_,_,_],(Y9 h12 [])⟩,?_⟩
   refine Zt [2] ?_
   exact Zu ⟨b5,A3,c_3,cs3,rfl,(sOR h12 [0,0,0,0] [0])⟩
 rintro env w12 ⟨b3,A1,c_1,cs1,rfl,h13⟩
 have h14:=St.mixFreeze 1 0 h13
 cases H
 exact T3 (X7 (Z1 (Sa Yj 0 h14 rfl rfl rfl rfl) Yt) ⟨_,_,_,_,rfl,rfl,rfl⟩ (sOR h14 [1] [0]))

def Q123.l2:Nat→Tp→Int→Option (Bool)
 | 0,_,_=>none
 | k+1,a0,x3=>if (decide (x3<(a0.2.2.2.2.length:Int)))=true then (if 0≤x3∧x3<(a0.2.2.2.2.length:Int) then (if (decide (200<(((gt a0.2.2.2.2 x3).1).length:Int)))=true then (some true) else (Q123.l2 k a0 (w64 (x3+1)))) else none) else (some false)
def Q123.l1:Nat→Tp→Int→Option (Bool)
 | 0,_,_=>none
 | k+1,a0,x2=>if (decide (x2<(a0.2.2.2.1.length:Int)))=true then (if 0≤x2∧x2<(a0.2.2.2.1.length:Int) then (if (decide (200<(((gt a0.2.2.2.1 x2).1).length:Int)))=true then (some true) else (Q123.l1 k a0 (w64 (x2+1)))) else none) else (Q123.l2 k a0 0)
def Q123.l0:Nat→Tp→Int→Option (Bool)
 | 0,_,_=>none
 | k+1,a0,x1=>if (decide (x1<(a0.2.2.1.length:Int)))=true then (if 0≤x1∧x1<(a0.2.2.1.length:Int) then (if (decide (200<((gt a0.2.2.1 x1).length:Int)))=true then (some true) else (Q123.l0 k a0 (w64 (x1+1)))) else none) else (Q123.l1 k a0 0)
def Q123.f (k:Nat) (a0:Tp):Option (Bool):=if (decide (80<(a0.2.1.length:Int)))=true then (some true) else (if (decide (80<(a0.2.2.1.length:Int)))=true then (some true) else (if (decide (150<(a0.2.2.2.1.length:Int)))=true then (some true) else (if (decide (150<(a0.2.2.2.2.length:Int)))=true then (some true) else (Q123.l0 k a0 0))))
theorem Q123.spec {k a0 A1 c_1 A2 c_2 A3 c_3 A4 c_4 r} (H:Q123.f k a0=some r) :
  Spec Tryz.prog 16 [.agg #[.int .i64 a0.1,.slice A1 a0.2.1.length c_1,.slice A2 a0.2.2.1.length c_2,.slice A3 a0.2.2.2.1.length c_3,.slice A4 a0.2.2.2.2.length c_4]] [] [R33 a0.2.1 A1 c_1,R9 a0.2.2.1 A2 c_2,Y5 a0.2.2.2.1 A3 c_3,Y3 a0.2.2.2.2 A4 c_4] (fun v l=>v=.bool r∧l=[]):=by
 refine Zi Tryz.func16 fun w0 F0 h0=>?_
 unfold Q123.f at H
 refine T4 (T2 ?_)
 refine rB (Z4 h0) fun b1 w1 h1=>?_
 refine Ze [1] rfl ?_
 refine T4 (T4 (T2 ?_))
 refine Zd 1 ?_
 refine Zc (Zb 0 h1.wht) ?_
 refine Zd 3 ?_
 refine Z7 10 H (fun c1 H=>?_) fun c1 H=>?_
 ·refine Ze [1,27] rfl ?_
  refine Zn ?_
  refine T4 (Za [2] ?_)
  cases H
  exact T3 (jR0 h1 [])
 refine Zd 1 ?_
 refine Zc (Zb 0 h1.wht) ?_
 refine Zd 4 ?_
 refine Z7 16 H (fun c2 H=>?_) fun c2 H=>?_
 ·refine Ze [1,27] rfl ?_
  refine Zn ?_
  refine T4 (Za [2] ?_)
  cases H
  exact T3 (jR0 h1 [])
 refine Zd 1 ?_
 refine Zc (Zb 0 h1.wht) ?_
 refine Zd 4 ?_
 refine Z7 22 H (fun c3 H=>?_) fun c3 H=>?_
 ·refine Ze [1,27] rfl ?_
  refine Zn ?_
  refine T4 (Za [2] ?_)
  cases H
  exact T3 (jR0 h1 [])
 refine Zd 1 ?_
 refine Zc (Zb 0 h1.wht) ?_
 refine Ze [1,27] rfl ?_
 refine jIf H (fun c4 H=>?_) fun c4 H=>?_
 ·refine T4 (Za [2] ?_)
  cases H
  exact T3 (jR0 h1 [])
 refine T5 (T4 (T4 (Za [1,3] ?_)))
 refine TW ?_
 have h10:=(sOR h1 [0] [0,1,2,3])
 refine T0 (fun kk env w=>∃ x1,Q123.l0 kk a0 x1=some r∧env=[(1,.pointer (some ⟨b1,0,none⟩)),(3,.int .i64 x1)]∧St w0 F0 [X43 b1 a0.1 a0.2.1 A1 c_1 a0.2.2.1 A2 c_2 a0.2.2.2.1 A3 c_3 a0.2.2.2.2 A4 c_4] [R33 a0.2.1 A1 c_1,R9 a0.2.2.1 A2 c_2,Y5 a0.2.2.2.1 A3 c_3,Y3 a0.2.2.2.2 A4 c_4] w) (k:=k) ⟨_,H,rfl,h10⟩ ?_
 rintro k1 env w2 ⟨x1,H,rfl,h2⟩
 rcases k1 with _ | k1
 ·exact z0 H
 rw [Q123.l0] at H
 refine T4 (T4 (T2 ?_))
 refine Zd 2 ?_
 refine Zc (Zb 0 h2.wht) ?_
 refine Ze [1,3,32] rfl ?_
 refine jIf H (fun c5 H=>?_) fun c5 H=>?_
 ·refine T5 (T4 (TW (T4 (T2 ?_))))
  refine Zd 1 ?_
  refine Zc (Zb 0 h2.wht) ?_
  refine Zd 1 ?_
  obtain ⟨⟨p1,p2⟩,H⟩:=Zl H
  have e1:=Zx h2.wh (Zk 2) p1 p2
  refine Zc (Zg e1 p1 p2) ?_
  refine Zc (Zh 0 h2.wht (Zk 2) p1 p2) ?_
  refine Ze [1,3,41] rfl ?_
  refine jIf H (fun c6 H=>?_) fun c6 H=>?_
  ·refine T4 (Za [2] ?_)
   cases H
   exact T3 (jR0 h2 [])
  refine T5 (Za [1,3] ?_)
  have h3:=(sOR h2 [0] [0,1,2,3])
  exact ⟨k1,by omega,_,H,rfl,h3⟩
 refine TZ (T4 (T4 (Za [1,4] ?_)))
 refine TW ?_
 have h9:=(sOR h2 [0] [0,1,2,3])
 refine T0 (fun kk env w=>∃ x2,Q123.l1 kk a0 x2=some r∧env=[(1,.pointer (some ⟨b1,0,none⟩)),(4,.int .i64 x2)]∧St w0 F0 [X43 b1 a0.1 a0.2.1 A1 c_1 a0.2.2.1 A2 c_2 a0.2.2.2.1 A3 c_3 a0.2.2.2.2 A4 c_4] [R33 a0.2.1 A1 c_1,R9 a0.2.2.1 A2 c_2,Y5 a0.2.2.2.1 A3 c_3,Y3 a0.2.2.2.2 A4 c_4] w) (k:=k1) ⟨_,H,rfl,h9⟩ ?_
 rintro k2 env w3 ⟨x2,H,rfl,h4⟩
 rcases k2 with _ | k2
 ·exact z0 H
 rw [Q123.l1] at H
 refine T4 (T4 (T2 ?_))
 refine Zd 2 ?_
 refine Zc (Zb 0 h4.wht) ?_
 refine Ze [1,4,46] rfl ?_
 refine jIf H (fun c7 H=>?_) fun c7 H=>?_
 ·refine T5 (T4 (TW (T4 (T2 ?_))))
  refine Zd 1 ?_
  refine Zc (Zb 0 h4.wht) ?_
  refine Zd 1 ?_
  obtain ⟨⟨p3,p4⟩,H⟩:=Zl H
  have e2:=Zx h4.wh (Zk 3) p3 p4
  refine Zc (Zg e2 p3 p4) ?_
  refine Zd 1 ?_
  refine Zc (Zh 0 h4.wht (Zk 3) p3 p4) ?_
  refine Ze [1,4,56] rfl ?_
  refine jIf H (fun c8 H=>?_) fun c8 H=>?_
  ·refine T4 (Za [2] ?_)
   cases H
   exact T3 (jR0 h4 [])
  refine T5 (Za [1,4] ?_)
  have h5:=(sOR h4 [0] [0,1,2,3])
  exact ⟨k2,by omega,_,H,rfl,h5⟩
 refine TZ (T4 (T4 (Za [1,5] ?_)))
 refine TW ?_
 have h8:=(sOR h4 [0] [0,1,2,3])
 refine T0 (fun kk env w=>∃ x3,Q123.l2 kk a0 x3=some r∧env=[(1,.pointer (some ⟨b1,0,none⟩)),(5,.int .i64 x3)]∧St w0 F0 [X43 b1 a0.1 a0.2.1 A1 c_1 a0.2.2.1 A2 c_2 a0.2.2.2.1 A3 c_3 a0.2.2.2.2 A4 c_4] [R33 a0.2.1 A1 c_1,R9 a0.2.2.1 A2 c_2,Y5 a0.2.2.2.1 A3 c_3,Y3 a0.2.2.2.2 A4 c_4] w) (k:=k2) ⟨_,H,rfl,h8⟩ ?_
 rintro k3 env w4 ⟨x3,H,rfl,h6⟩
 rcases k3 with _ | k3
 ·exact z0 H
 rw [Q123.l2] at H
 refine T4 (T4 (T2 ?_))
 refine Zd 2 ?_
 refine Zc (Zb 0 h6.wht) ?_
 refine Ze [1,5,61] rfl ?_
 refine jIf H (fun c9 H=>?_) fun c9 H=>?_
 ·refine T5 (T4 (TW (T4 (T2 ?_))))
  refine Zd 1 ?_
  refine Zc (Zb 0 h6.wht) ?_
  refine Zd 1 ?_
  obtain ⟨⟨p5,p6⟩,H⟩:=Zl H
  have e3:=Zx h6.wh (Zk 4) p5 p6
  refine Zc (Zg e3 p5 p6) ?_
  refine Zd 1 ?_
  refine Zc (Zh 0 h6.wht (Zk 4) p5 p6) ?_
  refine Ze [1,5,71] rfl ?_
  refine jIf H (fun c10 H=>?_) fun c10 H=>?_
  ·refine T4 (Za [2] ?_)
   cases H
   exact T3 (jR0 h6 [])
  refine T5 (Za [1,5] ?_)
  have h7:=(sOR h6 [0] [0,1,2,3])
  exact ⟨k3,by omega,_,H,rfl,h7⟩
 refine TZ (T4 (Za [2] ?_))
 cases H
 exact T3 (jR0 h6 [])

def Q164.f (a0:Tg) (a1:Int):Option (Bool):=if (decide (0<a1))=true then (some (decide ((w64 (a1))<a0.1.1))) else (some false)
theorem Q164.spec {a0 a1 A1 c_1 A2 c_2 r} (H:Q164.f a0 a1=some r) :
  Spec Tryz.prog 80 [.agg #[.int .i64 a0.1.1,.int .i64 a0.1.2.1,.int .i64 a0.1.2.2.1,.int .i64 a0.1.2.2.2.1,.int .i64 a0.1.2.2.2.2.1,.int .i64 a0.1.2.2.2.2.2.1,.int .i64 a0.1.2.2.2.2.2.2.1,.int .i64 a0.1.2.2.2.2.2.2.2,.slice A1 a0.2.1.length c_1,.slice A2 a0.2.2.1.length c_2,.int .u32 a0.2.2.2],.int .u32 a1] [] [R53 a0.2.1 A1 c_1,R4 a0.2.2.1 A2 c_2] (fun v l=>v=.bool r∧l=[]):=by
 refine Zi Tryz.func80 fun w0 F0 h0=>?_
 unfold Q164.f at H
 refine T4 (T2 ?_)
 refine rB (Z4 h0) fun b1 w1 h1=>?_
 refine Ze [1,2] rfl ?_
 refine T4 (T2 ?_)
 refine Zd 3 ?_
 refine Z7 7 H (fun c1 H=>?_) fun c1 H=>?_
 ·refine Zd 4 ?_
  refine Zc (Zb 0 h1.wht) ?_
  refine Ze [4] rfl ?_
  cases H
  exact T3 (jR0 h1 [])
 refine Ze [4] rfl ?_
 cases H
 exact T3 (jR0 h1 [])

def Q157.f:Option (Tx):=some (([]:List UInt8),([]:List UInt8),true)
theorem Q157.spec {r} (H:Q157.f=some r) :
  Spec Tryz.prog 156 [] [] [] (fun v l=>v=.agg #[.string ⟨⟨r.1⟩⟩,.string ⟨⟨r.2.1⟩⟩,.bool r.2.2]∧l=[]):=by
 refine Zi Tryz.func156 fun w0 F0 h0=>?_
 unfold Q157.f at H
 refine T4 (T2 ?_)
 refine rB (Yp h0) fun b1 w1 h1=>?_
 refine Ze [0] rfl ?_
 refine T4 (T2 ?_)
 refine Zd 1 ?_
 refine rS (Zs 0 h1) fun _ w2 h2=>?_
 refine Ze [0] rfl ?_
 cases H
 exact T3 (jR2 (Z1 (Sa Yj 0 h2 rfl rfl rfl rfl) Yt) ⟨rfl,rfl⟩ h2 [])

def Q151.f (a0:Tr) (a1:TP):Option (Bool):=if (decide (1≤(a1.length:Int)))=true then (some (decide ((a1.length:Int)≤a0.2.2.2.2.2.2.1))) else (some false)
theorem Q151.spec {a0 a1 r} (H:Q151.f a0 a1=some r) :
  Spec Tryz.prog 180 [.agg #[.int .i64 a0.1,.int .i64 a0.2.1,.int .i64 a0.2.2.1,.int .i64 a0.2.2.2.1,.int .i64 a0.2.2.2.2.1,.int .i64 a0.2.2.2.2.2.1,.int .i64 a0.2.2.2.2.2.2.1,.int .i64 a0.2.2.2.2.2.2.2],.string ⟨⟨a1⟩⟩] [] [] (fun v l=>v=.bool r∧l=[]):=by
 refine Zi Tryz.func180 fun w0 F0 h0=>?_
 unfold Q151.f at H
 refine T4 (T2 ?_)
 refine rB (Z4 h0) fun b1 w1 h1=>?_
 refine Ze [1,2] rfl ?_
 refine T4 (T2 ?_)
 refine Zd 4 ?_
 refine Z7 8 H (fun c1 H=>?_) fun c1 H=>?_
 ·refine Zd 3 ?_
  refine Zc (Zb 0 h1.wht) ?_
  refine Ze [4] rfl ?_
  cases H
  exact T3 (jR0 h1 [])
 refine Ze [4] rfl ?_
 cases H
 exact T3 (jR0 h1 [])

def Q130.l0:Nat→TP→TP→Int→Option (Int)
 | 0,_,_,_=>none
 | k+1,a0,a1,x1=>if (decide (x1<(a0.length:Int)))=true then (if (decide (x1<(a1.length:Int)))=true then (if 0≤x1∧x1<(a0.length:Int) then (if 0≤x1∧x1<(a1.length:Int) then (if (decide ((gtb a0 x1)<(gtb a1 x1)))=true then (some (-1)) else (if (decide ((gtb a1 x1)<(gtb a0 x1)))=true then (some 1) else (Q130.l0 k a0 a1 (w64 (x1+1))))) else none) else none) else (if (decide ((a0.length:Int)<(a1.length:Int)))=true then (some (-1)) else (if (decide ((a1.length:Int)<(a0.length:Int)))=true then (some 1) else (some 0)))) else (if (decide ((a0.length:Int)<(a1.length:Int)))=true then (some (-1)) else (if (decide ((a1.length:Int)<(a0.length:Int)))=true then (some 1) else (some 0)))
def Q130.f (k:Nat) (a0:TP) (a1:TP):Option (Int):=Q130.l0 k a0 a1 0
theorem Q130.spec {k a0 a1 r} (H:Q130.f k a0 a1=some r) :
  Spec Tryz.prog 100 [.string ⟨⟨a0⟩⟩,.string ⟨⟨a1⟩⟩] [] [] (fun v l=>v=.int .i64 r∧l=[]):=by
 refine Zi Tryz.func100 fun w0 F0 h0=>?_
 unfold Q130.f at H
 refine T4 (Za [0,1] ?_)
 refine T4 (T4 (Za [0,1,5] ?_))
 refine TW ?_
 have h5:=(sOR h0 [] [])
 refine T0 (fun kk env w=>∃ x1,Q130.l0 kk a0 a1 x1=some r∧env=[(0,.string ⟨⟨a0⟩⟩),(1,.string ⟨⟨a1⟩⟩),(5,.int .i64 x1)]∧St w0 F0 [] [] w) (k:=k) ⟨_,H,rfl,h5⟩ ?_
 rintro k1 env w1 ⟨x1,H,rfl,h1⟩
 rcases k1 with _ | k1
 ·exact z0 H
 rw [Q130.l0] at H
 refine T4 (T4 (T2 ?_))
 refine Zd 5 ?_
 refine Z7 10 H (fun c1 H=>?_) fun c1 H=>?_
 ·refine Ze [0,1,5,15] rfl ?_
  refine jIf H (fun c2 H=>?_) fun c2 H=>?_
  ·refine T5 (T4 (TW (T4 (T4 ?_))))
   refine jH h1 fun h2=>?_
   refine Zo [0,1,3,4] ?_
   obtain ⟨⟨p1,p2⟩,H⟩:=Zl H
   refine Zf 2 rfl (Xl p1 p2) ?_
   obtain ⟨⟨p3,p4⟩,H⟩:=Zl H
   refine Zf 5 rfl (Xl p3 p4) ?_
   refine Zo [6] ?_
   refine Zt [0,1,5,24] ?_
   refine jIf H (fun c3 H=>?_) fun c3 H=>?_
   ·refine T4 (Za [4] ?_)
    cases H
    exact T3 (jR0 h2 [])
   refine T5 (T4 (jH h2 fun h3=>?_))
   refine Zo [0,1,3,4] ?_
   refine Zf 2 rfl (Xl p1 p2) ?_
   refine Zf 5 rfl (Xl p3 p4) ?_
   refine Zo [6] ?_
   refine Zt [0,1,5,31] ?_
   refine jIf H (fun c4 H=>?_) fun c4 H=>?_
   ·refine T4 (Za [4] ?_)
    cases H
    exact T3 (jR0 h3 [])
   refine T5 (Za [0,1,5] ?_)
   have h4:=(sOR h3 [] [])
   exact ⟨k1,by omega,_,H,rfl,h4⟩
  refine TZ (T4 (T4 (Za [0,1,36] ?_)))
  refine jIf H (fun c5 H=>?_) fun c5 H=>?_
  ·refine T4 (Za [4] ?_)
   cases H
   exact T3 (jR0 h1 [])
  refine T5 (T4 (T4 (Za [41] ?_)))
  refine jIf H (fun c6 H=>?_) fun c6 H=>?_
  ·refine T4 (Za [4] ?_)
   cases H
   exact T3 (jR0 h1 [])
  refine T5 (T4 (Za [4] ?_))
  cases H
  exact T3 (jR0 h1 [])
 refine Ze [0,1,5,15] rfl ?_
 refine Z5 ?_
 refine TZ (T4 (T4 (Za [0,1,36] ?_)))
 refine jIf H (fun c7 H=>?_) fun c7 H=>?_
 ·refine T4 (Za [4] ?_)
  cases H
  exact T3 (jR0 h1 [])
 refine T5 (T4 (T4 (Za [41] ?_)))
 refine jIf H (fun c8 H=>?_) fun c8 H=>?_
 ·refine T4 (Za [4] ?_)
  cases H
  exact T3 (jR0 h1 [])
 refine T5 (T4 (Za [4] ?_))
 cases H
 exact T3 (jR0 h1 [])

def Q131.f (k:Nat) (a0:Tx) (a1:TP):Option (Bool):=(Q130.f k a0.1 a1).bind fun r1=>(if (decide (r1≤0))=true then (if a0.2.2=true then (some true) else ((Q130.f k a1 a0.2.1).bind fun r2=>(some (decide (r2<0))))) else (some false))
theorem Q131.spec {k a0 a1 r} (H:Q131.f k a0 a1=some r) :
  Spec Tryz.prog 48 [.agg #[.string ⟨⟨a0.1⟩⟩,.string ⟨⟨a0.2.1⟩⟩,.bool a0.2.2],.string ⟨⟨a1⟩⟩] [] [] (fun v l=>v=.bool r∧l=[]):=by
 refine Zi Tryz.func48 fun w0 F0 h0=>?_
 unfold Q131.f at H
 refine T4 (T2 ?_)
 refine rB (Z4 h0) fun b1 w1 h1=>?_
 refine Ze [1,2] rfl ?_
 refine T4 (T2 ?_)
 refine Zd 1 ?_
 refine Zc (Zb 0 h1.wht) ?_
 refine Zd 1 ?_
 refine cS H [] h1 rfl Q130.spec Zp fun r1 w2 H h2=>?_
 refine Zd 2 ?_
 refine Z7 10 H (fun c1 H=>?_) fun c1 H=>?_
 ·refine Zd 1 ?_
  refine Zc (Zb 0 h2.wht) ?_
  refine Zd 1 ?_
  refine Z7 13 H (fun c2 H=>?_) fun c2 H=>?_
  ·refine Ze [4] rfl ?_
   cases H
   exact T3 (jR0 h2 [])
  refine Zd 2 ?_
  refine Zc (Zb 0 h2.wht) ?_
  refine cS H [] h2 rfl Q130.spec Zp fun r2 w3 H h3=>?_
  refine Ze [4] rfl ?_
  cases H
  exact T3 (jR0 h3 [])
 refine Ze [4] rfl ?_
 cases H
 exact T3 (jR0 h2 [])

def Q145.l0:Nat→Tw→Int→Option (Bool)
 | 0,_,_=>none
 | k+1,a0,x1=>if (decide (x1<(a0.length:Int)))=true then (if 0≤(w64 (x1 - 1))∧(w64 (x1 - 1))<(a0.length:Int) then (if 0≤x1∧x1<(a0.length:Int) then ((Q130.f k ((gt a0 (w64 (x1 - 1))).1) ((gt a0 x1).1)).bind fun r1=>(if (decide (0≤r1))=true then (some false) else (Q145.l0 k a0 (w64 (x1+1))))) else none) else none) else (some true)
def Q145.f (k:Nat) (a0:Tw):Option (Bool):=Q145.l0 k a0 1
theorem Q145.spec {k a0 A1 c_1 r} (H:Q145.f k a0=some r) :
  Spec Tryz.prog 220 [.slice A1 a0.length c_1] [] [Y3 a0 A1 c_1] (fun v l=>v=.bool r∧l=[]):=by
 refine Zi Tryz.func220 fun w0 F0 h0=>?_
 unfold Q145.f at H
 refine T4 (Za [0] ?_)
 refine T4 (T4 (Za [0,3] ?_))
 refine TW ?_
 have h5:=(sOR h0 [] [0])
 refine T0 (fun kk env w=>∃ x1,Q145.l0 kk a0 x1=some r∧env=[(0,.slice A1 a0.length c_1),(3,.int .i64 x1)]∧St w0 F0 [] [Y3 a0 A1 c_1] w) (k:=k) ⟨_,H,rfl,h5⟩ ?_
 rintro k1 env w1 ⟨x1,H,rfl,h1⟩
 rcases k1 with _ | k1
 ·exact z0 H
 rw [Q145.l0] at H
 refine T4 (T4 (Za [0,3,7] ?_))
 refine jIf H (fun c1 H=>?_) fun c1 H=>?_
 ·refine T5 (T4 (TW (T4 ?_)))
  refine jH h1 fun h2=>?_
  refine Zo [0,1,2,6,7] ?_
  obtain ⟨⟨p1,p2⟩,H⟩:=Zl H
  have e1:=Zx h2.wh (Zk 0) p1 p2
  refine Zf 3 rfl (Zg e1 p1 p2) ?_
  refine Zo [4] ?_
  refine Zf 5 rfl (Zh 0 wI (Zk 0) p1 p2) ?_
  obtain ⟨⟨p3,p4⟩,H⟩:=Zl H
  refine Zf 8 rfl (Zg e1 p3 p4) ?_
  refine Zo [9] ?_
  refine Zf 10 rfl (Zh 0 wI (Zk 0) p3 p4) ?_
  refine cSJ 11 rfl H [] h2 rfl Q130.spec Zp 0 fun r1 w2 H h3=>?_
  refine Zo [12] ?_
  refine Zt [0,3,22] ?_
  refine jIf H (fun c2 H=>?_) fun c2 H=>?_
  ·refine T4 (Za [2] ?_)
   cases H
   exact T3 (jR0 h3 [])
  refine T5 (Za [0,3] ?_)
  have h4:=(sOR h3 [] [0])
  exact ⟨k1,by omega,_,H,rfl,h4⟩
 refine TZ (T4 (Za [2] ?_))
 cases H
 exact T3 (jR0 h1 [])

def Q155.l0:Nat→Tr→Tx→Tp→Int→Option (Bool)
 | 0,_,_,_,_=>none
 | k+1,a0,a1,a2,x1=>if (decide (x1<(a2.2.2.2.2.length:Int)))=true then (if 0≤x1∧x1<(a2.2.2.2.2.length:Int) then ((Q151.f a0 ((gt a2.2.2.2.2 x1).1)).bind fun r1=>(if (!r1)=true then (some false) else ((Q131.f k a1 ((gt a2.2.2.2.2 x1).1)).bind fun r2=>(if (!r2)=true then (some false) else (if (decide (a0.2.2.2.2.2.2.2<(((gt a2.2.2.2.2 x1).2).length:Int)))=true then (some false) else (Q155.l0 k a0 a1 a2 (w64 (x1+1)))))))) else none) else (if (decide ((a2.2.1.length:Int)=0))=true then (if (decide ((a2.2.2.1.length:Int)=0))=true then (if (decide ((a2.2.2.2.1.length:Int)=0))=true then (if (decide ((a2.2.2.2.2.length:Int)≤a0.2.2.2.2.2.1))=true then ((Q145.f k a2.2.2.2.2).bind fun r3=>(some r3)) else (some false)) else (some false)) else (some false)) else (some false))
def Q155.f (k:Nat) (a0:Tr) (a1:Tx) (a2:Tp):Option (Bool):=Q155.l0 k a0 a1 a2 0
theorem Q155.spec {k a0 a1 a2 A1 c_1 A2 c_2 A3 c_3 A4 c_4 r} (H:Q155.f k a0 a1 a2=some r) :
  Spec Tryz.prog 193 [.agg #[.int .i64 a0.1,.int .i64 a0.2.1,.int .i64 a0.2.2.1,.int .i64 a0.2.2.2.1,.int .i64 a0.2.2.2.2.1,.int .i64 a0.2.2.2.2.2.1,.int .i64 a0.2.2.2.2.2.2.1,.int .i64 a0.2.2.2.2.2.2.2],.agg #[.string ⟨⟨a1.1⟩⟩,.string ⟨⟨a1.2.1⟩⟩,.bool a1.2.2],.agg #[.int .i64 a2.1,.slice A1 a2.2.1.length c_1,.slice A2 a2.2.2.1.length c_2,.slice A3 a2.2.2.2.1.length c_3,.slice A4 a2.2.2.2.2.length c_4]] [] [R33 a2.2.1 A1 c_1,R9 a2.2.2.1 A2 c_2,Y5 a2.2.2.2.1 A3 c_3,Y3 a2.2.2.2.2 A4 c_4] (fun v l=>v=.bool r∧l=[]):=by
 refine Zi Tryz.func193 fun w0 F0 h0=>?_
 unfold Q155.f at H
 refine T4 (T2 ?_)
 refine rB (Z4 h0) fun b1 w1 h1=>?_
 refine rB (Z4 h1) fun b2 w2 h2=>?_
 refine rB (Z4 h2) fun b3 w3 h3=>?_
 refine Ze [3,4,5] rfl ?_
 refine T4 (T4 (Za [3,4,5,7] ?_))
 refine TW ?_
 have h19:=(sOR h3 [2,1,0] [0,1,2,3])
 refine T0 (fun kk env w=>∃ x1,Q155.l0 kk a0 a1 a2 x1=some r∧env=[(3,.pointer (some ⟨b1,0,none⟩)),(4,.pointer (some ⟨b2,0,none⟩)),(5,.pointer (some ⟨b3,0,none⟩)),(7,.int .i64 x1)]∧St w0 F0 [X23 b1 a0.1 a0.2.1 a0.2.2.1 a0.2.2.2.1 a0.2.2.2.2.1 a0.2.2.2.2.2.1 a0.2.2.2.2.2.2.1 a0.2.2.2.2.2.2.2,X92 b2 a1.1 a1.2.1 a1.2.2,X43 b3 a2.1 a2.2.1 A1 c_1 a2.2.2.1 A2 c_2 a2.2.2.2.1 A3 c_3 a2.2.2.2.2 A4 c_4] [R33 a2.2.1 A1 c_1,R9 a2.2.2.1 A2 c_2,Y5 a2.2.2.2.1 A3 c_3,Y3 a2.2.2.2.2 A4 c_4] w) (k:=k) ⟨_,H,rfl,h19⟩ ?_
 rintro k1 env w4 ⟨x1,H,rfl,h4⟩
 rcases k1 with _ | k1
 ·exact z0 H
 rw [Q155.l0] at H
 refine T4 (T4 (T2 ?_))
 refine Zd 2 ?_
 refine Zc (Zb 2 h4.wht) ?_
 refine Ze [3,4,5,7,13] rfl ?_
 refine jIf H (fun c1 H=>?_) fun c1 H=>?_
 ·refine T5 (T4 (TW (T4 (T2 ?_))))
  refine Zd 1 ?_
  refine Zc (Zb 2 h4.wht) ?_
  refine Zd 1 ?_
  obtain ⟨⟨p1,p2⟩,H⟩:=Zl H
  have e1:=Zx h4.wh (Zk 6) p1 p2
  refine Zc (Zg e1 p1 p2) ?_
  refine Zc (Zh 0 h4.wht (Zk 6) p1 p2) ?_
  refine rB (Yp h4) fun b4 w5 h5=>?_
  refine rS (Zs 0 h5) fun _ w6 h6=>?_
  refine Ze [3,4,5,7,8] rfl ?_
  refine T4 (T2 ?_)
  refine Zc (Zb 1 h6.wht) ?_
  refine Zd 1 ?_
  refine Zc (Zb 0 h6.wht) ?_
  refine cS H [] h6 rfl Q151.spec Zp fun r1 w7 H h7=>?_
  refine Zd 2 ?_
  refine Z7 26 H (fun c2 H=>?_) fun c2 H=>?_
  ·refine Ze [3,4,5,7,40] rfl ?_
   refine Zn ?_
   refine T4 (Za [6] ?_)
   have h8:=sO h7 []
   replace h8:=nf h8
   cases H
   exact T3 (jR0 h8 [])
  refine Zc (Zb 2 h7.wht) ?_
  refine Zd 1 ?_
  refine Zc (Zb 0 h7.wht) ?_
  refine cS H [] h7 rfl Q131.spec Zp fun r2 w8 H h9=>?_
  refine Zd 3 ?_
  refine Z7 33 H (fun c3 H=>?_) fun c3 H=>?_
  ·refine Ze [3,4,5,7,40] rfl ?_
   refine Zn ?_
   refine T4 (Za [6] ?_)
   have h10:=sO h9 []
   replace h10:=nf h10
   cases H
   exact T3 (jR0 h10 [])
  refine Zd 1 ?_
  refine Zc (Zb 0 h9.wht) ?_
  refine Zd 2 ?_
  refine Zc (Zb 1 h9.wht) ?_
  refine Ze [3,4,5,7,40] rfl ?_
  refine jIf H (fun c4 H=>?_) fun c4 H=>?_
  ·refine T4 (Za [6] ?_)
   have h11:=sO h9 []
   replace h11:=nf h11
   cases H
   exact T3 (jR0 h11 [])
  refine T5 (Za [3,4,5,7] ?_)
  have h12:=(sOR h9 [1,1,1] [0,1,2,3])
  exact ⟨k1,by omega,_,H,rfl,h12⟩
 refine TZ (T4 (T2 ?_))
 refine Zd 1 ?_
 refine Zc (Zb 2 h4.wht) ?_
 refine Zd 3 ?_
 refine Z7 45 H (fun c5 H=>?_) fun c5 H=>?_
 ·refine Zd 1 ?_
  refine Zc (Zb 2 h4.wht) ?_
  refine Zd 4 ?_
  refine Z7 51 H (fun c6 H=>?_) fun c6 H=>?_
  ·refine Zd 1 ?_
   refine Zc (Zb 2 h4.wht) ?_
   refine Zd 4 ?_
   refine Z7 57 H (fun c7 H=>?_) fun c7 H=>?_
   ·refine Zd 1 ?_
    refine Zc (Zb 2 h4.wht) ?_
    refine Zd 2 ?_
    refine Zc (Zb 0 h4.wht) ?_
    refine Zd 3 ?_
    refine Z7 65 H (fun c8 H=>?_) fun c8 H=>?_
    ·refine Zd 1 ?_
     refine Zc (Zb 2 h4.wht) ?_
     refine cS H [] h4 rfl Q145.spec (gS [6]) fun r3 w9 H h13=>?_
     refine Ze [6] rfl ?_
     have h14:=sO h13 []
     replace h14:=nf h14
     cases H
     exact T3 (jR0 h14 [])
    refine Ze [6] rfl ?_
    have h15:=sO h4 []
    replace h15:=nf h15
    cases H
    exact T3 (jR0 h15 [])
   refine Ze [6] rfl ?_
   have h16:=sO h4 []
   replace h16:=nf h16
   cases H
   exact T3 (jR0 h16 [])
  refine Ze [6] rfl ?_
  have h17:=sO h4 []
  replace h17:=nf h17
  cases H
  exact T3 (jR0 h17 [])
 refine Ze [6] rfl ?_
 have h18:=sO h4 []
 replace h18:=nf h18
 cases H
 exact T3 (jR0 h18 [])

def Q148.l0:Nat→TH→Int→Option (Bool)
 | 0,_,_=>none
 | k+1,a0,x1=>if (decide (x1<(a0.length:Int)))=true then (if 0≤(w64 (x1 - 1))∧(w64 (x1 - 1))<(a0.length:Int) then (if 0≤x1∧x1<(a0.length:Int) then ((Q130.f k (gt a0 (w64 (x1 - 1))) (gt a0 x1)).bind fun r1=>(if (decide (0≤r1))=true then (some false) else (Q148.l0 k a0 (w64 (x1+1))))) else none) else none) else (some true)
def Q148.f (k:Nat) (a0:TH):Option (Bool):=Q148.l0 k a0 1
theorem Q148.spec {k a0 A1 c_1 r} (H:Q148.f k a0=some r) :
  Spec Tryz.prog 233 [.slice A1 a0.length c_1] [] [R9 a0 A1 c_1] (fun v l=>v=.bool r∧l=[]):=by
 refine Zi Tryz.func233 fun w0 F0 h0=>?_
 unfold Q148.f at H
 refine T4 (Za [0] ?_)
 refine T4 (T4 (Za [0,3] ?_))
 refine TW ?_
 have h5:=(sOR h0 [] [0])
 refine T0 (fun kk env w=>∃ x1,Q148.l0 kk a0 x1=some r∧env=[(0,.slice A1 a0.length c_1),(3,.int .i64 x1)]∧St w0 F0 [] [R9 a0 A1 c_1] w) (k:=k) ⟨_,H,rfl,h5⟩ ?_
 rintro k1 env w1 ⟨x1,H,rfl,h1⟩
 rcases k1 with _ | k1
 ·exact z0 H
 rw [Q148.l0] at H
 refine T4 (T4 (Za [0,3,7] ?_))
 refine jIf H (fun c1 H=>?_) fun c1 H=>?_
 ·refine T5 (T4 (TW (T4 ?_)))
  refine jH h1 fun h2=>?_
  refine Zo [0,1,2,5,6] ?_
  obtain ⟨⟨p1,p2⟩,H⟩:=Zl H
  have e1:=Zx h2.wh (Zk 0) p1 p2
  refine Zf 3 rfl (Zg e1 p1 p2) ?_
  refine Zf 4 rfl (Zh 0 wI (Zk 0) p1 p2) ?_
  obtain ⟨⟨p3,p4⟩,H⟩:=Zl H
  refine Zf 7 rfl (Zg e1 p3 p4) ?_
  refine Zf 8 rfl (Zh 0 wI (Zk 0) p3 p4) ?_
  refine cSJ 9 rfl H [] h2 rfl Q130.spec Zp 0 fun r1 w2 H h3=>?_
  refine Zo [10] ?_
  refine Zt [0,3,20] ?_
  refine jIf H (fun c2 H=>?_) fun c2 H=>?_
  ·refine T4 (Za [2] ?_)
   cases H
   exact T3 (jR0 h3 [])
  refine T5 (Za [0,3] ?_)
  have h4:=(sOR h3 [] [0])
  exact ⟨k1,by omega,_,H,rfl,h4⟩
 refine TZ (T4 (Za [2] ?_))
 cases H
 exact T3 (jR0 h1 [])

def Q147.l0:Nat→TH→Tx→Int→Option (Bool)
 | 0,_,_,_=>none
 | k+1,a0,a1,x1=>if (decide (x1<(a0.length:Int)))=true then (if 0≤x1∧x1<(a0.length:Int) then ((Q131.f k a1 (gt a0 x1)).bind fun r1=>(if (!r1)=true then (some false) else (if (decide ((gt a0 x1)=a1.1))=true then (some false) else (Q147.l0 k a0 a1 (w64 (x1+1)))))) else none) else ((Q148.f k a0).bind fun r2=>(some r2))
def Q147.f (k:Nat) (a0:TH) (a1:Tx):Option (Bool):=Q147.l0 k a0 a1 0
theorem Q147.spec {k a0 a1 A1 c_1 r} (H:Q147.f k a0 a1=some r) :
  Spec Tryz.prog 221 [.slice A1 a0.length c_1,.agg #[.string ⟨⟨a1.1⟩⟩,.string ⟨⟨a1.2.1⟩⟩,.bool a1.2.2]] [] [R9 a0 A1 c_1] (fun v l=>v=.bool r∧l=[]):=by
 refine Zi Tryz.func221 fun w0 F0 h0=>?_
 unfold Q147.f at H
 refine T4 (T2 ?_)
 refine rB (Z4 h0) fun b1 w1 h1=>?_
 refine Ze [0,3] rfl ?_
 refine T4 (T4 (Za [0,3,5] ?_))
 refine TW ?_
 have h7:=(sOR h1 [0] [0])
 refine T0 (fun kk env w=>∃ x1,Q147.l0 kk a0 a1 x1=some r∧env=[(0,.slice A1 a0.length c_1),(3,.pointer (some ⟨b1,0,none⟩)),(5,.int .i64 x1)]∧St w0 F0 [X92 b1 a1.1 a1.2.1 a1.2.2] [R9 a0 A1 c_1] w) (k:=k) ⟨_,H,rfl,h7⟩ ?_
 rintro k1 env w2 ⟨x1,H,rfl,h2⟩
 rcases k1 with _ | k1
 ·exact z0 H
 rw [Q147.l0] at H
 refine T4 (T4 (Za [0,3,5,9] ?_))
 refine jIf H (fun c1 H=>?_) fun c1 H=>?_
 ·refine T5 (T4 (TW (T4 ?_)))
  refine jH h2 fun h3=>?_
  refine Zo [1,2] ?_
  refine Zf 0 rfl (Zb 0 wI) ?_
  obtain ⟨⟨p1,p2⟩,H⟩:=Zl H
  have e1:=Zx h3.wh (Zk 1) p1 p2
  refine Zf 3 rfl (Zg e1 p1 p2) ?_
  refine Zf 4 rfl (Zh 0 wI (Zk 1) p1 p2) ?_
  refine cSJ 5 rfl H [] h3 rfl Q131.spec Zp 0 fun r1 w3 H h4=>?_
  refine Zo [6,7] ?_
  refine X1 19 H (fun c2 H=>?_) fun c2 H=>?_
  ·refine Zo [8,9,10,11,12,13,14,15] ?_
   refine Zt [0,3,5,27] ?_
   refine Zn ?_
   refine T4 (Za [4] ?_)
   cases H
   exact T3 (jR0 h4 [])
  refine Zo [8,9,12] ?_
  refine Zf 10 rfl (Zg e1 p1 p2) ?_
  refine Zf 11 rfl (Zh 0 wI (Zk 1) p1 p2) ?_
  refine Zf 13 rfl (Zb 0 wI) ?_
  refine Zo [14,15] ?_
  refine Zt [0,3,5,27] ?_
  refine jIf H (fun c3 H=>?_) fun c3 H=>?_
  ·refine T4 (Za [4] ?_)
   cases H
   exact T3 (jR0 h4 [])
  refine T5 (Za [0,3,5] ?_)
  have h5:=(sOR h4 [0] [0])
  exact ⟨k1,by omega,_,H,rfl,h5⟩
 refine TZ (T4 (T2 ?_))
 refine Zd 1 ?_
 refine cS H [] h2 rfl Q148.spec (gS [1]) fun r2 w4 H h6=>?_
 refine Ze [4] rfl ?_
 cases H
 exact T3 (jR0 h6 [])

def Q143.l0:Nat→Tt→Int→Option (Bool)
 | 0,_,_=>none
 | k+1,a0,x1=>if (decide (x1<(a0.length:Int)))=true then (if 0≤(w64 (x1 - 1))∧(w64 (x1 - 1))<(a0.length:Int) then (if 0≤x1∧x1<(a0.length:Int) then ((Q130.f k ((gt a0 (w64 (x1 - 1))).1) ((gt a0 x1).1)).bind fun r1=>(if (decide (0≤r1))=true then (some false) else (Q143.l0 k a0 (w64 (x1+1))))) else none) else none) else (some true)
def Q143.f (k:Nat) (a0:Tt):Option (Bool):=Q143.l0 k a0 1
theorem Q143.spec {k a0 A1 c_1 r} (H:Q143.f k a0=some r) :
  Spec Tryz.prog 222 [.slice A1 a0.length c_1] [] [Y5 a0 A1 c_1] (fun v l=>v=.bool r∧l=[]):=by
 refine Zi Tryz.func222 fun w0 F0 h0=>?_
 unfold Q143.f at H
 refine T4 (Za [0] ?_)
 refine T4 (T4 (Za [0,3] ?_))
 refine TW ?_
 have h5:=(sOR h0 [] [0])
 refine T0 (fun kk env w=>∃ x1,Q143.l0 kk a0 x1=some r∧env=[(0,.slice A1 a0.length c_1),(3,.int .i64 x1)]∧St w0 F0 [] [Y5 a0 A1 c_1] w) (k:=k) ⟨_,H,rfl,h5⟩ ?_
 rintro k1 env w1 ⟨x1,H,rfl,h1⟩
 rcases k1 with _ | k1
 ·exact z0 H
 rw [Q143.l0] at H
 refine T4 (T4 (Za [0,3,7] ?_))
 refine jIf H (fun c1 H=>?_) fun c1 H=>?_
 ·refine T5 (T4 (TW (T4 ?_)))
  refine jH h1 fun h2=>?_
  refine Zo [0,1,2,6,7] ?_
  obtain ⟨⟨p1,p2⟩,H⟩:=Zl H
  have e1:=Zx h2.wh (Zk 0) p1 p2
  refine Zf 3 rfl (Zg e1 p1 p2) ?_
  refine Zo [4] ?_
  refine Zf 5 rfl (Zh 0 wI (Zk 0) p1 p2) ?_
  obtain ⟨⟨p3,p4⟩,H⟩:=Zl H
  refine Zf 8 rfl (Zg e1 p3 p4) ?_
  refine Zo [9] ?_
  refine Zf 10 rfl (Zh 0 wI (Zk 0) p3 p4) ?_
  refine cSJ 11 rfl H [] h2 rfl Q130.spec Zp 0 fun r1 w2 H h3=>?_
  refine Zo [12] ?_
  refine Zt [0,3,22] ?_
  refine jIf H (fun c2 H=>?_) fun c2 H=>?_
  ·refine T4 (Za [2] ?_)
   cases H
   exact T3 (jR0 h3 [])
  refine T5 (Za [0,3] ?_)
  have h4:=(sOR h3 [] [0])
  exact ⟨k1,by omega,_,H,rfl,h4⟩
 refine TZ (T4 (Za [2] ?_))
 cases H
 exact T3 (jR0 h1 [])

def Q154.l3:Nat→Tr→Tx→Tp→Int→Option (Bool)
 | 0,_,_,_,_=>none
 | k+1,a0,a1,a2,x4=>if (decide (x4<(a2.2.2.2.1.length:Int)))=true then (if 0≤x4∧x4<(a2.2.2.2.1.length:Int) then ((Q151.f a0 ((gt a2.2.2.2.1 x4).1)).bind fun r2=>(if (!r2)=true then (some false) else ((Q131.f k a1 ((gt a2.2.2.2.1 x4).1)).bind fun r3=>(if (!r3)=true then (some false) else (if (decide (a0.2.2.2.2.2.2.2<(((gt a2.2.2.2.1 x4).2.2).length:Int)))=true then (some false) else (if (gt a2.2.2.2.1 x4).2.1=true then (if (!decide (((gt a2.2.2.2.1 x4).2.2)=([]:List UInt8)))=true then (some false) else (Q154.l3 k a0 a1 a2 (w64 (x4+1)))) else (Q154.l3 k a0 a1 a2 (w64 (x4+1))))))))) else none) else (if (decide (40<a2.1))=true then (some false) else (if (decide (0<(a2.2.2.2.2.length:Int)))=true then (some false) else (if (decide ((a2.2.1.length:Int)<1))=true then (some false) else (if (decide (a0.2.2.2.1<(a2.2.1.length:Int)))=true then (some false) else (if (!decide ((w64 ((a2.2.2.1.length:Int)+1))=(a2.2.1.length:Int)))=true then (some false) else ((Q147.f k a2.2.2.1 a1).bind fun r4=>(if r4=true then (if (decide ((a2.2.2.2.1.length:Int)≤a0.2.2.2.2.1))=true then ((Q143.f k a2.2.2.2.1).bind fun r5=>(some r5)) else (some false)) else (some false))))))))
def Q154.l2:Nat→Tr→Tx→Tp→Int→Option (Bool)
 | 0,_,_,_,_=>none
 | k+1,a0,a1,a2,x3=>if (decide (x3<(a2.2.2.1.length:Int)))=true then (if 0≤x3∧x3<(a2.2.2.1.length:Int) then ((Q151.f a0 (gt a2.2.2.1 x3)).bind fun r1=>(if (!r1)=true then (some false) else (Q154.l2 k a0 a1 a2 (w64 (x3+1))))) else none) else (Q154.l3 k a0 a1 a2 0)
mutual
def Q154.l0:Nat→Tr→Tx→Tp→Int→Option (Bool)
 | 0,_,_,_,_=>none
 | k+1,a0,a1,a2,x1=>if (decide (x1<(a2.2.1.length:Int)))=true then (if 0≤x1∧x1<(a2.2.1.length:Int) then (if (decide ((gt a2.2.1 x1)=0))=true then (some false) else (if (decide (a0.1≤(w64 ((gt a2.2.1 x1)))))=true then (some false) else (Q154.l1 k a0 a1 a2 x1 0))) else none) else (Q154.l2 k a0 a1 a2 0)
def Q154.l1:Nat→Tr→Tx→Tp→Int→Int→Option (Bool)
 | 0,_,_,_,_,_=>none
 | k+1,a0,a1,a2,x1,x2=>if (decide (x2<x1))=true then (if 0≤x2∧x2<(a2.2.1.length:Int) then (if (decide ((gt a2.2.1 x2)=(gt a2.2.1 x1)))=true then (some false) else (Q154.l1 k a0 a1 a2 x1 (w64 (x2+1)))) else none) else (Q154.l0 k a0 a1 a2 (w64 (x1+1)))
end
def Q154.f (k:Nat) (a0:Tr) (a1:Tx) (a2:Tp):Option (Bool):=Q154.l0 k a0 a1 a2 0
theorem Q154.spec {k a0 a1 a2 A1 c_1 A2 c_2 A3 c_3 A4 c_4 r} (H:Q154.f k a0 a1 a2=some r) :
  Spec Tryz.prog 194 [.agg #[.int .i64 a0.1,.int .i64 a0.2.1,.int .i64 a0.2.2.1,.int .i64 a0.2.2.2.1,.int .i64 a0.2.2.2.2.1,.int .i64 a0.2.2.2.2.2.1,.int .i64 a0.2.2.2.2.2.2.1,.int .i64 a0.2.2.2.2.2.2.2],.agg #[.string ⟨⟨a1.1⟩⟩,.string ⟨⟨a1.2.1⟩⟩,.bool a1.2.2],.agg #[.int .i64 a2.1,.slice A1 a2.2.1.length c_1,.slice A2 a2.2.2.1.length c_2,.slice A3 a2.2.2.2.1.length c_3,.slice A4 a2.2.2.2.2.length c_4]] [] [R33 a2.2.1 A1 c_1,R9 a2.2.2.1 A2 c_2,Y5 a2.2.2.2.1 A3 c_3,Y3 a2.2.2.2.2 A4 c_4] (fun v l=>v=.bool r∧l=[]):=by
 refine Zi Tryz.func194 fun w0 F0 h0=>?_
 unfold Q154.f at H
 refine T4 (T2 ?_)
 refine rB (Z4 h0) fun b1 w1 h1=>?_
 refine rB (Z4 h1) fun b2 w2 h2=>?_
 refine rB (Z4 h2) fun b3 w3 h3=>?_
 refine Ze [3,4,5] rfl ?_
 refine T4 (T4 (Za [3,4,5,7] ?_))
 refine TW ?_
 have h42:=(sOR h3 [2,1,0] [0,1,2,3])
 refine T0 (fun kk env w=>∃ x1,Q154.l0 kk a0 a1 a2 x1=some r∧env=[(3,.pointer (some ⟨b1,0,none⟩)),(4,.pointer (some ⟨b2,0,none⟩)),(5,.pointer (some ⟨b3,0,none⟩)),(7,.int .i64 x1)]∧St w0 F0 [X23 b1 a0.1 a0.2.1 a0.2.2.1 a0.2.2.2.1 a0.2.2.2.2.1 a0.2.2.2.2.2.1 a0.2.2.2.2.2.2.1 a0.2.2.2.2.2.2.2,X92 b2 a1.1 a1.2.1 a1.2.2,X43 b3 a2.1 a2.2.1 A1 c_1 a2.2.2.1 A2 c_2 a2.2.2.2.1 A3 c_3 a2.2.2.2.2 A4 c_4] [R33 a2.2.1 A1 c_1,R9 a2.2.2.1 A2 c_2,Y5 a2.2.2.2.1 A3 c_3,Y3 a2.2.2.2.2 A4 c_4] w) (k:=k) ⟨_,H,rfl,h42⟩ ?_
 rintro k1 env w4 ⟨x1,H,rfl,h4⟩
 rcases k1 with _ | k1
 ·exact z0 H
 rw [Q154.l0] at H
 refine T4 (T4 (T2 ?_))
 refine Zd 2 ?_
 refine Zc (Zb 2 h4.wht) ?_
 refine Ze [3,4,5,7,16] rfl ?_
 refine jIf H (fun c1 H=>?_) fun c1 H=>?_
 ·refine T5 (T4 (TW (T4 (T4 ?_))))
  refine jH h4 fun h5=>?_
  refine Zo [0,2] ?_
  refine Zf 1 rfl (Zb 2 wI) ?_
  obtain ⟨⟨p1,p2⟩,H⟩:=Zl H
  have e1:=Zx h5.wh (Zk 3) p1 p2
  refine Zf 3 rfl (Zg e1 p1 p2) ?_
  refine Zf 4 rfl (Zh 0 wI (Zk 3) p1 p2) ?_
  refine Zo [5,6] ?_
  refine X1 25 H (fun c2 H=>?_) fun c2 H=>?_
  ·refine Zo [7,8,9,10,11,12,13,14,15,16] ?_
   refine Zt [3,4,5,7,35] ?_
   refine Zn ?_
   refine T4 (Za [6] ?_)
   have h6:=sO h5 []
   replace h6:=nf h6
   cases H
   exact T3 (jR0 h6 [])
  refine Zo [7,9,13] ?_
  refine Zf 8 rfl (Zb 2 wI) ?_
  refine Zf 10 rfl (Zg e1 p1 p2) ?_
  refine Zf 11 rfl (Zh 0 wI (Zk 3) p1 p2) ?_
  refine Zo [12] ?_
  refine Zf 14 rfl (Zb 0 wI) ?_
  refine Zo [15,16] ?_
  refine Zt [3,4,5,7,35] ?_
  refine jIf H (fun c3 H=>?_) fun c3 H=>?_
  ·refine T4 (Za [6] ?_)
   have h7:=sO h5 []
   replace h7:=nf h7
   cases H
   exact T3 (jR0 h7 [])
  refine T5 (T4 (Za [3,4,5,7,8] ?_))
  refine TW ?_
  have h13:=(sOR h5 [0,0,0] [0,1,2,3])
  refine T0 (fun kk env w=>∃ x2,Q154.l1 kk a0 a1 a2 x1 x2=some r∧env=[(3,.pointer (some ⟨b1,0,none⟩)),(4,.pointer (some ⟨b2,0,none⟩)),(5,.pointer (some ⟨b3,0,none⟩)),(7,.int .i64 x1),(8,.int .i64 x2)]∧St w0 F0 [X23 b1 a0.1 a0.2.1 a0.2.2.1 a0.2.2.2.1 a0.2.2.2.2.1 a0.2.2.2.2.2.1 a0.2.2.2.2.2.2.1 a0.2.2.2.2.2.2.2,X92 b2 a1.1 a1.2.1 a1.2.2,X43 b3 a2.1 a2.2.1 A1 c_1 a2.2.2.1 A2 c_2 a2.2.2.2.1 A3 c_3 a2.2.2.2.2 A4 c_4] [R33 a2.2.1 A1 c_1,R9 a2.2.2.1 A2 c_2,Y5 a2.2.2.2.1 A3 c_3,Y3 a2.2.2.2.2 A4 c_4] w∧kk≤k1) (k:=k1) ⟨_,H,rfl,h13,T6 _⟩ ?_
  rintro k2 env w5 ⟨x2,H,rfl,h8,hk2⟩
  rcases k2 with _ | k2
  ·exact z0 H
  rw [Q154.l1] at H
  refine T4 (T4 (Za [3,4,5,7,8,38] ?_))
  refine jIf H (fun c4 H=>?_) fun c4 H=>?_
  ·refine T5 (T4 (TW (T4 ?_)))
   refine jH h8 fun h9=>?_
   refine Zo [0,2,5,7] ?_
   refine Zf 1 rfl (Zb 2 wI) ?_
   obtain ⟨⟨p3,p4⟩,H⟩:=Zl H
   refine Zf 3 rfl (Zg e1 p3 p4) ?_
   refine Zf 4 rfl (Zh 0 wI (Zk 3) p3 p4) ?_
   refine Zf 6 rfl (Zb 2 wI) ?_
   refine Zf 8 rfl (Zg e1 p1 p2) ?_
   refine Zf 9 rfl (Zh 0 wI (Zk 3) p1 p2) ?_
   refine Zo [10] ?_
   refine Zt [3,4,5,7,8,51] ?_
   refine jIf H (fun c5 H=>?_) fun c5 H=>?_
   ·refine T4 (Za [6] ?_)
    have h10:=sO h9 []
    replace h10:=nf h10
    cases H
    exact T3 (jR0 h10 [])
   refine T5 (Za [3,4,5,7,8] ?_)
   have h11:=(sOR h9 [0,0,0] [0,1,2,3])
   exact ⟨k2,by omega,_,H,rfl,h11,by omega⟩
  refine TZ (Za [3,4,5,7] ?_)
  have h12:=(sOR h8 [0,0,0] [0,1,2,3])
  exact ⟨k2,by omega,_,H,rfl,h12⟩
 refine TZ (T4 (T4 (Za [3,4,5,9] ?_)))
 refine TW ?_
 have h41:=(sOR h4 [0,0,0] [0,1,2,3])
 refine T0 (fun kk env w=>∃ x3,Q154.l2 kk a0 a1 a2 x3=some r∧env=[(3,.pointer (some ⟨b1,0,none⟩)),(4,.pointer (some ⟨b2,0,none⟩)),(5,.pointer (some ⟨b3,0,none⟩)),(9,.int .i64 x3)]∧St w0 F0 [X23 b1 a0.1 a0.2.1 a0.2.2.1 a0.2.2.2.1 a0.2.2.2.2.1 a0.2.2.2.2.2.1 a0.2.2.2.2.2.2.1 a0.2.2.2.2.2.2.2,X92 b2 a1.1 a1.2.1 a1.2.2,X43 b3 a2.1 a2.2.1 A1 c_1 a2.2.2.1 A2 c_2 a2.2.2.2.1 A3 c_3 a2.2.2.2.2 A4 c_4] [R33 a2.2.1 A1 c_1,R9 a2.2.2.1 A2 c_2,Y5 a2.2.2.2.1 A3 c_3,Y3 a2.2.2.2.2 A4 c_4] w) (k:=k1) ⟨_,H,rfl,h41⟩ ?_
 rintro k3 env w6 ⟨x3,H,rfl,h14⟩
 rcases k3 with _ | k3
 ·exact z0 H
 rw [Q154.l2] at H
 refine T4 (T4 (T2 ?_))
 refine Zd 2 ?_
 refine Zc (Zb 2 h14.wht) ?_
 refine Ze [3,4,5,9,56] rfl ?_
 refine jIf H (fun c6 H=>?_) fun c6 H=>?_
 ·refine T5 (T4 (TW (T4 ?_)))
  refine jH h14 fun h15=>?_
  refine Zo [1,3] ?_
  refine Zf 0 rfl (Zb 0 wI) ?_
  refine Zf 2 rfl (Zb 2 wI) ?_
  obtain ⟨⟨p5,p6⟩,H⟩:=Zl H
  have e2:=Zx h15.wh (Zk 4) p5 p6
  refine Zf 4 rfl (Zg e2 p5 p6) ?_
  refine Zf 5 rfl (Zh 0 wI (Zk 4) p5 p6) ?_
  refine cSJ 6 rfl H [] h15 rfl Q151.spec Zp 0 fun r1 w7 H h16=>?_
  refine Zo [7] ?_
  refine Zt [3,4,5,9,66] ?_
  refine jIf H (fun c7 H=>?_) fun c7 H=>?_
  ·refine T4 (Za [6] ?_)
   have h17:=sO h16 []
   replace h17:=nf h17
   cases H
   exact T3 (jR0 h17 [])
  refine T5 (Za [3,4,5,9] ?_)
  have h18:=(sOR h16 [0,0,0] [0,1,2,3])
  exact ⟨k3,by omega,_,H,rfl,h18⟩
 refine TZ (T4 (T4 (Za [3,4,5,10] ?_)))
 refine TW ?_
 have h40:=(sOR h14 [0,0,0] [0,1,2,3])
 refine T0 (fun kk env w=>∃ x4,Q154.l3 kk a0 a1 a2 x4=some r∧env=[(3,.pointer (some ⟨b1,0,none⟩)),(4,.pointer (some ⟨b2,0,none⟩)),(5,.pointer (some ⟨b3,0,none⟩)),(10,.int .i64 x4)]∧St w0 F0 [X23 b1 a0.1 a0.2.1 a0.2.2.1 a0.2.2.2.1 a0.2.2.2.2.1 a0.2.2.2.2.2.1 a0.2.2.2.2.2.2.1 a0.2.2.2.2.2.2.2,X92 b2 a1.1 a1.2.1 a1.2.2,X43 b3 a2.1 a2.2.1 A1 c_1 a2.2.2.1 A2 c_2 a2.2.2.2.1 A3 c_3 a2.2.2.2.2 A4 c_4] [R33 a2.2.1 A1 c_1,R9 a2.2.2.1 A2 c_2,Y5 a2.2.2.2.1 A3 c_3,Y3 a2.2.2.2.2 A4 c_4] w) (k:=k3) ⟨_,H,rfl,h40⟩ ?_
 rintro k4 env w8 ⟨x4,H,rfl,h19⟩
 rcases k4 with _ | k4
 ·exact z0 H
 rw [Q154.l3] at H
 refine T4 (T4 (T2 ?_))
 refine Zd 2 ?_
 refine Zc (Zb 2 h19.wht) ?_
 refine Ze [3,4,5,10,71] rfl ?_
 refine jIf H (fun c8 H=>?_) fun c8 H=>?_
 ·refine T5 (T4 (TW (T4 (T2 ?_))))
  refine Zd 1 ?_
  refine Zc (Zb 2 h19.wht) ?_
  refine Zd 1 ?_
  obtain ⟨⟨p7,p8⟩,H⟩:=Zl H
  have e3:=Zx h19.wh (Zk 5) p7 p8
  refine Zc (Zg e3 p7 p8) ?_
  refine Zc (Zh 0 h19.wht (Zk 5) p7 p8) ?_
  refine rB (Yp h19) fun b4 w9 h20=>?_
  refine rS (Zs 0 h20) fun _ w10 h21=>?_
  refine Ze [3,4,5,10,11] rfl ?_
  refine T4 (T2 ?_)
  refine Zc (Zb 1 h21.wht) ?_
  refine Zd 1 ?_
  refine Zc (Zb 0 h21.wht) ?_
  refine cS H [] h21 rfl Q151.spec Zp fun r2 w11 H h22=>?_
  refine Zd 2 ?_
  refine Z7 84 H (fun c9 H=>?_) fun c9 H=>?_
  ·refine Ze [3,4,5,10,107] rfl ?_
   refine Zn ?_
   refine T4 (Za [6] ?_)
   have h23:=sO h22 []
   replace h23:=nf h23
   cases H
   exact T3 (jR0 h23 [])
  refine Zc (Zb 2 h22.wht) ?_
  refine Zd 1 ?_
  refine Zc (Zb 0 h22.wht) ?_
  refine cS H [] h22 rfl Q131.spec Zp fun r3 w12 H h24=>?_
  refine Zd 3 ?_
  refine Z7 91 H (fun c10 H=>?_) fun c10 H=>?_
  ·refine Ze [3,4,5,10,107] rfl ?_
   refine Zn ?_
   refine T4 (Za [6] ?_)
   have h25:=sO h24 []
   replace h25:=nf h25
   cases H
   exact T3 (jR0 h25 [])
  refine Zd 1 ?_
  refine Zc (Zb 0 h24.wht) ?_
  refine Zd 2 ?_
  refine Zc (Zb 1 h24.wht) ?_
  refine Zd 3 ?_
  refine Z7 99 H (fun c11 H=>?_) fun c11 H=>?_
  ·refine Ze [3,4,5,10,107] rfl ?_
   refine Zn ?_
   refine T4 (Za [6] ?_)
   have h26:=sO h24 []
   replace h26:=nf h26
   cases H
   exact T3 (jR0 h26 [])
  refine Zd 1 ?_
  refine Zc (Zb 0 h24.wht) ?_
  refine Zd 1 ?_
  refine Z7 102 H (fun c12 H=>?_) fun c12 H=>?_
  ·refine Zd 1 ?_
   refine Zc (Zb 0 h24.wht) ?_
   refine Ze [3,4,5,10,107] rfl ?_
   refine jIf H (fun c13 H=>?_) fun c13 H=>?_
   ·refine T4 (Za [6] ?_)
    have h27:=sO h24 []
    replace h27:=nf h27
    cases H
    exact T3 (jR0 h27 [])
   refine T5 (Za [3,4,5,10] ?_)
   have h28:=(sOR h24 [1,1,1] [0,1,2,3])
   exact ⟨k4,by omega,_,H,rfl,h28⟩
  refine Ze [3,4,5,10,107] rfl ?_
  refine Z5 ?_
  refine T5 (Za [3,4,5,10] ?_)
  have h29:=(sOR h24 [1,1,1] [0,1,2,3])
  exact ⟨k4,by omega,_,H,rfl,h29⟩
 refine TZ (T4 (T4 (T2 ?_)))
 refine Zd 1 ?_
 refine Zc (Zb 2 h19.wht) ?_
 refine Zd 2 ?_
 refine Z7 111 H (fun c14 H=>?_) fun c14 H=>?_
 ·refine Ze [3,4,5,140] rfl ?_
  refine Zn ?_
  refine T4 (Za [6] ?_)
  have h30:=sO h19 []
  replace h30:=nf h30
  cases H
  exact T3 (jR0 h30 [])
 refine Zd 1 ?_
 refine Zc (Zb 2 h19.wht) ?_
 refine Zd 4 ?_
 refine Z7 117 H (fun c15 H=>?_) fun c15 H=>?_
 ·refine Ze [3,4,5,140] rfl ?_
  refine Zn ?_
  refine T4 (Za [6] ?_)
  have h31:=sO h19 []
  replace h31:=nf h31
  cases H
  exact T3 (jR0 h31 [])
 refine Zd 1 ?_
 refine Zc (Zb 2 h19.wht) ?_
 refine Zd 4 ?_
 refine Z7 123 H (fun c16 H=>?_) fun c16 H=>?_
 ·refine Ze [3,4,5,140] rfl ?_
  refine Zn ?_
  refine T4 (Za [6] ?_)
  have h32:=sO h19 []
  replace h32:=nf h32
  cases H
  exact T3 (jR0 h32 [])
 refine Zd 1 ?_
 refine Zc (Zb 2 h19.wht) ?_
 refine Zd 2 ?_
 refine Zc (Zb 0 h19.wht) ?_
 refine Zd 3 ?_
 refine Z7 131 H (fun c17 H=>?_) fun c17 H=>?_
 ·refine Ze [3,4,5,140] rfl ?_
  refine Zn ?_
  refine T4 (Za [6] ?_)
  have h33:=sO h19 []
  replace h33:=nf h33
  cases H
  exact T3 (jR0 h33 [])
 refine Zd 1 ?_
 refine Zc (Zb 2 h19.wht) ?_
 refine Zd 3 ?_
 refine Zc (Zb 2 h19.wht) ?_
 refine Ze [3,4,5,140] rfl ?_
 refine jIf H (fun c18 H=>?_) fun c18 H=>?_
 ·refine T4 (Za [6] ?_)
  have h34:=sO h19 []
  replace h34:=nf h34
  cases H
  exact T3 (jR0 h34 [])
 refine T5 (T4 (T2 ?_))
 refine Zd 1 ?_
 refine Zc (Zb 2 h19.wht) ?_
 refine Zc (Zb 1 h19.wht) ?_
 refine cS H [] h19 rfl Q147.spec (gS [4]) fun r4 w13 H h35=>?_
 refine Zd 1 ?_
 refine Z7 145 H (fun c19 H=>?_) fun c19 H=>?_
 ·refine Zd 1 ?_
  refine Zc (Zb 2 h35.wht) ?_
  refine Zd 2 ?_
  refine Zc (Zb 0 h35.wht) ?_
  refine Zd 3 ?_
  refine Z7 153 H (fun c20 H=>?_) fun c20 H=>?_
  ·refine Zd 1 ?_
   refine Zc (Zb 2 h35.wht) ?_
   refine cS H [] h35 rfl Q143.spec (gS [5]) fun r5 w14 H h36=>?_
   refine Ze [6] rfl ?_
   have h37:=sO h36 []
   replace h37:=nf h37
   cases H
   exact T3 (jR0 h37 [])
  refine Ze [6] rfl ?_
  have h38:=sO h35 []
  replace h38:=nf h38
  cases H
  exact T3 (jR0 h38 [])
 refine Ze [6] rfl ?_
 have h39:=sO h35 []
 replace h39:=nf h39
 cases H
 exact T3 (jR0 h39 [])

def Q152.f (k:Nat) (a0:Tr) (a1:Tx) (a2:Tp):Option (Bool):=if (decide (a2.1=0))=true then ((Q155.f k a0 a1 a2).bind fun r1=>(some r1)) else (if (decide (0<a2.1))=true then ((Q154.f k a0 a1 a2).bind fun r2=>(some r2)) else (some false))
theorem Q152.spec {k a0 a1 a2 A1 c_1 A2 c_2 A3 c_3 A4 c_4 r} (H:Q152.f k a0 a1 a2=some r) :
  Spec Tryz.prog 155 [.agg #[.int .i64 a0.1,.int .i64 a0.2.1,.int .i64 a0.2.2.1,.int .i64 a0.2.2.2.1,.int .i64 a0.2.2.2.2.1,.int .i64 a0.2.2.2.2.2.1,.int .i64 a0.2.2.2.2.2.2.1,.int .i64 a0.2.2.2.2.2.2.2],.agg #[.string ⟨⟨a1.1⟩⟩,.string ⟨⟨a1.2.1⟩⟩,.bool a1.2.2],.agg #[.int .i64 a2.1,.slice A1 a2.2.1.length c_1,.slice A2 a2.2.2.1.length c_2,.slice A3 a2.2.2.2.1.length c_3,.slice A4 a2.2.2.2.2.length c_4]] [] [R33 a2.2.1 A1 c_1,R9 a2.2.2.1 A2 c_2,Y5 a2.2.2.2.1 A3 c_3,Y3 a2.2.2.2.2 A4 c_4] (fun v l=>v=.bool r∧l=[]):=by
 refine Zi Tryz.func155 fun w0 F0 h0=>?_
 unfold Q152.f at H
 refine T4 (T2 ?_)
 refine rB (Z4 h0) fun b1 w1 h1=>?_
 refine rB (Z4 h1) fun b2 w2 h2=>?_
 refine rB (Z4 h2) fun b3 w3 h3=>?_
 refine Ze [3,4,5] rfl ?_
 refine T4 (T4 (T2 ?_))
 refine Zd 1 ?_
 refine Zc (Zb 0 h3.wht) ?_
 refine Ze [3,4,5,9] rfl ?_
 refine jIf H (fun c1 H=>?_) fun c1 H=>?_
 ·refine T4 (T2 ?_)
  refine Zc (Zb 2 h3.wht) ?_
  refine Zc (Zb 1 h3.wht) ?_
  refine Zc (Zb 0 h3.wht) ?_
  refine cS H [] h3 rfl Q155.spec (gS [3,4,5,6]) fun r1 w4 H h4=>?_
  refine Ze [6] rfl ?_
  have h5:=sO h4 []
  replace h5:=nf h5
  cases H
  exact T3 (jR0 h5 [])
 refine T5 (T4 (T2 ?_))
 refine Zd 1 ?_
 refine Zc (Zb 0 h3.wht) ?_
 refine Zd 2 ?_
 refine Z7 17 H (fun c2 H=>?_) fun c2 H=>?_
 ·refine Zc (Zb 2 h3.wht) ?_
  refine Zc (Zb 1 h3.wht) ?_
  refine Zc (Zb 0 h3.wht) ?_
  refine cS H [] h3 rfl Q154.spec (gS [3,4,5,6]) fun r2 w5 H h6=>?_
  refine Ze [6] rfl ?_
  have h7:=sO h6 []
  replace h7:=nf h7
  cases H
  exact T3 (jR0 h7 [])
 refine Ze [6] rfl ?_
 have h8:=sO h3 []
 replace h8:=nf h8
 cases H
 exact T3 (jR0 h8 [])

def Q156.f (k:Nat) (a0:Tr) (a1:Tp):Option (Bool):=(Q140.f k a0).bind fun r1=>(if r1=true then ((Q157.f).bind fun r2=>((Q152.f k a0 r2 a1).bind fun r3=>(some r3))) else (some false))
theorem Q156.spec {k a0 a1 A1 c_1 A2 c_2 A3 c_3 A4 c_4 r} (H:Q156.f k a0 a1=some r) :
  Spec Tryz.prog 103 [.agg #[.int .i64 a0.1,.int .i64 a0.2.1,.int .i64 a0.2.2.1,.int .i64 a0.2.2.2.1,.int .i64 a0.2.2.2.2.1,.int .i64 a0.2.2.2.2.2.1,.int .i64 a0.2.2.2.2.2.2.1,.int .i64 a0.2.2.2.2.2.2.2],.agg #[.int .i64 a1.1,.slice A1 a1.2.1.length c_1,.slice A2 a1.2.2.1.length c_2,.slice A3 a1.2.2.2.1.length c_3,.slice A4 a1.2.2.2.2.length c_4]] [] [R33 a1.2.1 A1 c_1,R9 a1.2.2.1 A2 c_2,Y5 a1.2.2.2.1 A3 c_3,Y3 a1.2.2.2.2 A4 c_4] (fun v l=>v=.bool r∧l=[]):=by
 refine Zi Tryz.func103 fun w0 F0 h0=>?_
 unfold Q156.f at H
 refine T4 (T2 ?_)
 refine rB (Z4 h0) fun b1 w1 h1=>?_
 refine rB (Z4 h1) fun b2 w2 h2=>?_
 refine Ze [2,3] rfl ?_
 refine T4 (jH h2 fun h3=>?_)
 refine Zf 0 rfl (Zb 1 wI) ?_
 refine cSJ 1 rfl H [] h3 rfl Q140.spec Zp 0 fun r1 w3 H h4=>?_
 refine Zo [2] ?_
 refine X1 7 H (fun c1 H=>?_) fun c1 H=>?_
 ·refine Zf 3 rfl (Zb 1 wI) ?_
  refine Zf 5 rfl (Zb 0 wI) ?_
  refine cSJ 4 rfl H [] h4 rfl Q157.spec Zp 0 fun r2 w4 H h5=>?_
  refine cSJ 6 rfl H [] h5 rfl Q152.spec (gS [2,3,4,5]) 0 fun r3 w5 H h6=>?_
  refine Zo [7,8] ?_
  refine Zt [4] ?_
  have h7:=sO h6 []
  replace h7:=nf h7
  cases H
  exact T3 (jR0 h7 [])
 refine Zo [3,4,5,6,7,8] ?_
 refine Zt [4] ?_
 have h8:=sO h4 []
 replace h8:=nf h8
 cases H
 exact T3 (jR0 h8 [])

def Q165.f (a0:Tg) (a1:Int) (a2:Tn):Option Tf:=if (([]:List Tn).length+a0.2.1.length)*112≤140737488355328 then (if 0≤a1∧a1<((([]:List Tn) ++ a0.2.1).length:Int) then (some (a0.1,((([]:List Tn) ++ a0.2.1).set a1.toNat a2),a0.2.2.1,a0.2.2.2)) else none) else none
theorem Q165.spec {a0 a1 a2 A1 c_1 A2 c_2 A3 c_3 A4 c_4 A5 c_5 A6 c_6 r} (H:Q165.f a0 a1 a2=some r) :
  SpecA Tryz.prog 104 [.agg #[.int .i64 a0.1.1,.int .i64 a0.1.2.1,.int .i64 a0.1.2.2.1,.int .i64 a0.1.2.2.2.1,.int .i64 a0.1.2.2.2.2.1,.int .i64 a0.1.2.2.2.2.2.1,.int .i64 a0.1.2.2.2.2.2.2.1,.int .i64 a0.1.2.2.2.2.2.2.2,.slice A1 a0.2.1.length c_1,.slice A2 a0.2.2.1.length c_2,.int .u32 a0.2.2.2],.int .u32 a1,.agg #[.int .i64 a2.1,.int .i64 a2.2.1,.slice A3 a2.2.2.1.length c_3,.slice A4 a2.2.2.2.1.length c_4,.slice A5 a2.2.2.2.2.1.length c_5,.slice A6 a2.2.2.2.2.2.length c_6]] [] [R53 a0.2.1 A1 c_1,R4 a0.2.2.1 A2 c_2,R33 a2.2.2.1 A3 c_3,R9 a2.2.2.2.1 A4 c_4,Y5 a2.2.2.2.2.1 A5 c_5,Y3 a2.2.2.2.2.2 A6 c_6] (fun v l lr=>∃ A_0 c_0 A_1 c_1,v=.agg #[.int .i64 r.1.1,.int .i64 r.1.2.1,.int .i64 r.1.2.2.1,.int .i64 r.1.2.2.2.1,.int .i64 r.1.2.2.2.2.1,.int .i64 r.1.2.2.2.2.2.1,.int .i64 r.1.2.2.2.2.2.2.1,.int .i64 r.1.2.2.2.2.2.2.2,.slice A_0 r.2.1.length c_0,.slice A_1 r.2.2.1.length c_1,.int .u32 r.2.2.2]∧l=[]∧lr=[R53 r.2.1 A_0 c_0,R4 r.2.2.1 A_1 c_1]):=by
 refine Yd Tryz.func104 fun w0 F0 h0=>?_
 unfold Q165.f at H
 refine T4 (T2 ?_)
 refine rB (Z4 h0) fun b1 w1 h1=>?_
 refine rB (Z4 h1) fun b2 w2 h2=>?_
 refine rB (Yp h2) fun b3 w3 h3=>?_
 refine Ze [1,3,5,6] rfl ?_
 refine T4 (T2 ?_)
 refine rB (Zl3 (.pair (.int .i64) (.pair (.int .i64) (.pair (.slice 33 (.int .u32)) (.pair (.slice 9 .str) (.pair (.slice 115 (.pair .str (.pair .bool .str))) (.slice 106 (.pair .str .str))))))) h3) fun b4 w4 h4=>?_
 refine Zd 1 ?_
 refine Zc (Zb 3 h4.wht) ?_
 obtain ⟨p1,H⟩:=Zl H
 refine Zv (Zme 0 0 1 h4 p1) ?_
 rintro _ w5 ⟨A7,c_7,cs1,rfl,h5⟩
 replace h5:=nf h5
 refine Ze [1,3,5,6,7] rfl ?_
 refine T4 (T2 ?_)
 refine Zd 2 ?_
 refine Zc (Zb 2 h5.wht) ?_
 obtain ⟨⟨p2,p3⟩,H⟩:=Zl H
 have e1:=St.rawA 0 h5 p2 p3
 refine Zc (Zg e1 p2 p3) ?_
 refine Zv (Zhq (ty:=(.pair (.int .i64) (.pair (.int .i64) (.pair (.slice 33 (.int .u32)) (.pair (.slice 9 .str) (.pair (.slice 115 (.pair .str (.pair .bool .str))) (.slice 106 (.pair .str .str)))))))) (ix:=a1) a2 0 0 h5 p2 p3 e1 ⟨_,_,rfl,(Vd rfl _),⟨_,_,rfl,(Vd rfl _),⟨_,_,rfl,(.inl (Zk 4)),⟨_,_,rfl,(.inl (Zk 5)),⟨_,_,rfl,(.inl (Zk 6)),(.inl (Zk 7))⟩⟩⟩⟩⟩) ?_
 rintro _ w6 ⟨cs2,h6⟩
 replace h6:=nf h6
 refine Ze [3,6,7] rfl ?_
 refine TY (env':=[(3,.pointer (some ⟨b1,0,none⟩)),(6,.pointer (some ⟨b3,0,none⟩)),(7,.slice A7 ((([]:List Tn) ++ a0.2.1).set a1.toNat a2).length c_7)]) (by simp only [List.length_set,List.length_nil] <;> rfl) ?_
 refine T4 (T2 ?_)
 refine Zd 2 ?_
 refine rS (Zs 3 h6) fun _ w7 h7=>?_
 refine Ze [3,6] rfl ?_
 refine T4 (T2 ?_)
 refine Zc (Zb 0 h7.wht) ?_
 refine rS (Zs 2 h7) fun _ w8 h8=>?_
 refine Ze [6] rfl ?_
 have h9:=sO h8 [0,1]
 replace h9:=nf h9
 have h10:=St.mixFreeze 1 0 h9
 cases H
 exact T3 (X7 (Z1 (Sa Yj 0 h10 rfl rfl rfl rfl) Yt) ⟨_,_,_,_,rfl,rfl,rfl⟩ (sOR h10 [] [0,5]))

def Q163.f (k:Nat) (a0:Tg) (a1:Int) (a2:Tp):Option Te:=(Q164.f a0 a1).bind fun r1=>(if (!r1)=true then (some (a0,4)) else ((Q156.f k a0.1 a2).bind fun r2=>(if (!r2)=true then (some (a0,3)) else ((Q165.f a0 a1 (1,a2)).bind fun r3=>(some (r3,0))))))
theorem Q163.spec {k a0 a1 a2 A1 c_1 A2 c_2 A3 c_3 A4 c_4 A5 c_5 A6 c_6 r} (H:Q163.f k a0 a1 a2=some r) :
  SpecA Tryz.prog 55 [.agg #[.int .i64 a0.1.1,.int .i64 a0.1.2.1,.int .i64 a0.1.2.2.1,.int .i64 a0.1.2.2.2.1,.int .i64 a0.1.2.2.2.2.1,.int .i64 a0.1.2.2.2.2.2.1,.int .i64 a0.1.2.2.2.2.2.2.1,.int .i64 a0.1.2.2.2.2.2.2.2,.slice A1 a0.2.1.length c_1,.slice A2 a0.2.2.1.length c_2,.int .u32 a0.2.2.2],.int .u32 a1,.agg #[.int .i64 a2.1,.slice A3 a2.2.1.length c_3,.slice A4 a2.2.2.1.length c_4,.slice A5 a2.2.2.2.1.length c_5,.slice A6 a2.2.2.2.2.length c_6]] [] [R53 a0.2.1 A1 c_1,R4 a0.2.2.1 A2 c_2,R33 a2.2.1 A3 c_3,R9 a2.2.2.1 A4 c_4,Y5 a2.2.2.2.1 A5 c_5,Y3 a2.2.2.2.2 A6 c_6] (fun v l lr=>∃ A_0 c_0 A_1 c_1,v=.tuple #[.agg #[.int .i64 r.1.1.1,.int .i64 r.1.1.2.1,.int .i64 r.1.1.2.2.1,.int .i64 r.1.1.2.2.2.1,.int .i64 r.1.1.2.2.2.2.1,.int .i64 r.1.1.2.2.2.2.2.1,.int .i64 r.1.1.2.2.2.2.2.2.1,.int .i64 r.1.1.2.2.2.2.2.2.2,.slice A_0 r.1.2.1.length c_0,.slice A_1 r.1.2.2.1.length c_1,.int .u32 r.1.2.2.2],.int .i64 r.2]∧l=[]∧lr=[R53 r.1.2.1 A_0 c_0,R4 r.1.2.2.1 A_1 c_1]):=by
 refine Yd Tryz.func55 fun w0 F0 h0=>?_
 unfold Q163.f at H
 refine T4 (T2 ?_)
 refine rB (Z4 h0) fun b1 w1 h1=>?_
 refine rB (Z4 h1) fun b2 w2 h2=>?_
 refine rB (Yp h2) fun b3 w3 h3=>?_
 refine Ze [1,3,5,6] rfl ?_
 refine T4 (T4 (T2 ?_))
 refine Zc (Zb 2 h3.wht) ?_
 refine Zd 1 ?_
 refine cS H [] h3 rfl Q164.spec (gS [3,4]) fun r1 w4 H h4=>?_
 refine Ze [1,3,5,6,11] rfl ?_
 refine jIf H (fun c1 H=>?_) fun c1 H=>?_
 ·refine T4 (T2 ?_)
  refine Zc (Zb 2 h4.wht) ?_
  refine rS (Zs 0 h4) fun _ w5 h5=>?_
  refine Ze [6,7] rfl ?_
  have h6:=sO h5 [0]
  replace h6:=nf h6
  cases H
  exact T3 (X7 (Z1 (Sa Yj 0 h6 rfl rfl rfl rfl) (Z1 (Sb rfl) Yt)) ⟨_,_,_,_,rfl,rfl,rfl⟩ (sOR h6 [] [0,1]))
 refine T5 (T4 (T4 (T2 ?_)))
 refine Zd 1 ?_
 refine Zc (Zb 2 h4.wht) ?_
 refine Zc (Zb 1 h4.wht) ?_
 refine cS H [] h4 rfl Q156.spec (gS [5,6,7,8]) fun r2 w6 H h7=>?_
 refine Ze [1,3,5,6,17] rfl ?_
 refine jIf H (fun c2 H=>?_) fun c2 H=>?_
 ·refine T4 (T2 ?_)
  refine Zc (Zb 2 h7.wht) ?_
  refine rS (Zs 0 h7) fun _ w7 h8=>?_
  refine Ze [6,7] rfl ?_
  have h9:=sO h8 [0]
  replace h9:=nf h9
  cases H
  exact T3 (X7 (Z1 (Sa Yj 0 h9 rfl rfl rfl rfl) (Z1 (Sb rfl) Yt)) ⟨_,_,_,_,rfl,rfl,rfl⟩ (sOR h9 [] [0,1]))
 refine T5 (T4 (T2 ?_))
 refine Zc (Zb 2 h7.wht) ?_
 refine Zd 1 ?_
 refine Zc (Zb 1 h7.wht) ?_
 refine Zd 1 ?_
 obtain ⟨r3,q3,H⟩:=Ye H
 refine Zv (Zz [] (Q165.spec q3) h7 rfl (gS [0,1,2,3,4,5])) ?_
 rintro _ w8 ⟨_,_,⟨A7,c_7,A8,c_8,rfl,rfl,rfl⟩,h10⟩
 replace h10:=nf h10
 refine rS (Zs 0 h10) fun _ w9 h11=>?_
 refine Ze [6,7] rfl ?_
 have h12:=sO h11 [0]
 replace h12:=nf h12
 cases H
 exact T3 (X7 (Z1 (Sa Yj 0 h12 rfl rfl rfl rfl) (Z1 (Sb rfl) Yt)) ⟨_,_,_,_,rfl,rfl,rfl⟩ (sOR h12 [] [0,1]))

def Q132.l0:Nat→TR→Int→Int→Option (Int)
 | 0,_,_,_=>none
 | k+1,a0,x1,x2=>if (decide (x2<(a0.length:Int)))=true then (if 0≤x2∧x2<(a0.length:Int) then (if (!(gt a0 x2))=true then (Q132.l0 k a0 (w64 (x1+1)) (w64 (x2+1))) else (Q132.l0 k a0 x1 (w64 (x2+1)))) else none) else (some x1)
def Q132.f (k:Nat) (a0:TR):Option (Int):=Q132.l0 k a0 0 0
theorem Q132.spec {k a0 A1 c_1 r} (H:Q132.f k a0=some r) :
  Spec Tryz.prog 27 [.slice A1 a0.length c_1] [] [R4 a0 A1 c_1] (fun v l=>v=.int .i64 r∧l=[]):=by
 refine Zi Tryz.func27 fun w0 F0 h0=>?_
 unfold Q132.f at H
 refine T4 (Za [0] ?_)
 refine T4 (Za [0,3] ?_)
 refine T4 (T4 (Za [0,3,4] ?_))
 refine TW ?_
 have h4:=(sOR h0 [] [0])
 refine T0 (fun kk env w=>∃ x1 x2,Q132.l0 kk a0 x1 x2=some r∧env=[(0,.slice A1 a0.length c_1),(3,.int .i64 x1),(4,.int .i64 x2)]∧St w0 F0 [] [R4 a0 A1 c_1] w) (k:=k) ⟨_,_,H,rfl,h4⟩ ?_
 rintro k1 env w1 ⟨x1,x2,H,rfl,h1⟩
 rcases k1 with _ | k1
 ·exact z0 H
 rw [Q132.l0] at H
 refine T4 (T4 (Za [0,3,4,8] ?_))
 refine jIf H (fun c1 H=>?_) fun c1 H=>?_
 ·refine T5 (T4 (TW (T4 (T2 ?_))))
  refine Zd 2 ?_
  obtain ⟨⟨p1,p2⟩,H⟩:=Zl H
  have e1:=Zx h1.wh (Zk 0) p1 p2
  refine Zc (Zg e1 p1 p2) ?_
  refine Zc (Zh 0 h1.wht (Zk 0) p1 p2) ?_
  refine Ze [0,3,4,15] rfl ?_
  refine jIf H (fun c2 H=>?_) fun c2 H=>?_
  ·refine Za [0,3,4] ?_
   refine Za [0,3,4] ?_
   have h2:=(sOR h1 [] [0])
   exact ⟨k1,by omega,_,_,H,rfl,h2⟩
  refine T5 (Za [0,3,4] ?_)
  have h3:=(sOR h1 [] [0])
  exact ⟨k1,by omega,_,_,H,rfl,h3⟩
 refine TZ (T4 (Za [2] ?_))
 cases H
 exact T3 (jR0 h1 [])

def Q137.f (a0:TR) (a1:Int) (a2:Bool):Option TR:=if (([]:List Bool).length+a0.length)*1≤140737488355328 then (if 0≤a1∧a1<((([]:List Bool) ++ a0).length:Int) then (some ((([]:List Bool) ++ a0).set a1.toNat a2)) else none) else none
theorem Q137.spec {a0 a1 a2 A1 c_1 r} (H:Q137.f a0 a1 a2=some r) :
  Spec Tryz.prog 157 [.slice A1 a0.length c_1,.int .i64 a1,.bool a2] [] [R4 a0 A1 c_1] (fun v l=>∃ A_0 c_0,v=.slice A_0 r.length c_0∧l=[O4 r A_0 c_0]):=by
 refine Zi Tryz.func157 fun w0 F0 h0=>?_
 unfold Q137.f at H
 refine T4 (Za [0,1,2] ?_)
 refine T4 (T2 ?_)
 refine rB (Y6 .bool ([]:List Bool) h0) fun b1 w1 h1=>?_
 refine Zd 1 ?_
 obtain ⟨p1,H⟩:=Zl H
 refine Zv (Yq 0 h1 (Zk 0) p1) ?_
 rintro _ w2 ⟨A2,c_2,rfl,h2⟩
 replace h2:=nf h2
 refine Ze [1,2,7] rfl ?_
 refine T4 (T2 ?_)
 refine Zd 3 ?_
 obtain ⟨⟨p2,p3⟩,H⟩:=Zl H
 have e1:=Zx h2.wh (gO 0) p2 p3
 refine Zc (Zg e1 p2 p3) ?_
 refine rS (Zm 0 .bool a1 a2 0 h2 rfl p2 p3) fun _ w3 h3=>?_
 refine Ze [7] rfl ?_
 refine TY (env':=[(7,.slice A2 ((([]:List Bool) ++ a0).set a1.toNat a2).length c_2)]) (by simp only [List.length_set,List.length_nil] <;> rfl) ?_
 refine T4 (Za [6] ?_)
 cases H
 exact T3 (jR ⟨_,_,rfl,rfl⟩ h3 [0])

def Q134.l0:Nat→Int→TR→TU→Int→Option (List Bool×List Int×Int)
 | 0,_,_,_,_=>none
 | k+1,a1,x1,x2,x3=>if (decide (x3<(x1.length:Int)))=true then (if (decide ((x2.length:Int)<a1))=true then (if 0≤x3∧x3<(x1.length:Int) then (if (!(gt x1 x3))=true then ((Q137.f x1 x3 true).bind fun r2=>(if (x2.length+([(IntKind.u32.wrap (x3))]:List Int).length)*4≤140737488355328 then (Q134.l0 k a1 r2 (x2 ++ ([(IntKind.u32.wrap (x3))]:List Int)) (w64 (x3+1))) else none)) else (Q134.l0 k a1 x1 x2 (w64 (x3+1)))) else none) else (some (x1,x2,0))) else (some (x1,x2,0))
def Q134.f (k:Nat) (a0:TR) (a1:Int):Option (List Bool×List Int×Int):=if (decide (a1<0))=true then (some (a0,([]:List Int),2)) else ((Q132.f k a0).bind fun r1=>(if (decide (r1<a1))=true then (some (a0,([]:List Int),11)) else (Q134.l0 k a1 a0 ([]:List Int) 0)))
theorem Q134.spec {k a0 a1 A1 c_1 r} (H:Q134.f k a0 a1=some r) :
  SpecA Tryz.prog 105 [.slice A1 a0.length c_1,.int .i64 a1] [] [R4 a0 A1 c_1] (fun v l lr=>∃ A_0 c_0 A_1 c_1,v=.tuple #[.slice A_0 r.1.length c_0,.slice A_1 r.2.1.length c_1,.int .i64 r.2.2]∧l=[O33 r.2.1 A_1 c_1]∧lr=[R4 r.1 A_0 c_0]):=by
 refine Yd Tryz.func105 fun w0 F0 h0=>?_
 unfold Q134.f at H
 refine T4 (Za [0,1] ?_)
 refine T4 (T4 (Za [0,1,10] ?_))
 refine jIf H (fun c1 H=>?_) fun c1 H=>?_
 ·refine T4 (Za [4,5,6] ?_)
  have h1:=h0.addNil 33 (.int .u32)
  cases H
  exact T3 (jRA ⟨_,_,_,_,rfl,rfl,rfl⟩ (sOR h1 [0] [0]))
 refine T5 (T4 (T4 (T2 ?_)))
 refine Zd 2 ?_
 refine cS H [] h0 rfl Q132.spec (gS [0]) fun r1 w1 H h2=>?_
 refine Ze [0,1,15] rfl ?_
 refine jIf H (fun c2 H=>?_) fun c2 H=>?_
 ·refine T4 (Za [4,5,6] ?_)
  have h3:=h2.addNil 33 (.int .u32)
  cases H
  exact T3 (jRA ⟨_,_,_,_,rfl,rfl,rfl⟩ (sOR h3 [0] [0]))
 refine T5 (T4 (T2 ?_))
 refine rB (Y6 (.int .u32) ([]:List Int) h2) fun b1 w2 h4=>?_
 refine Ze [0,1,7] rfl ?_
 refine T4 (T4 (Za [0,1,7,8] ?_))
 refine TW ?_
 have h12:=(sOR h4 [0] [0])
 refine T0 (fun kk env w=>∃ x1 A2 c_2 x2 A3 c_3 x3,Q134.l0 kk a1 x1 x2 x3=some r∧env=[(0,.slice A2 x1.length c_2),(1,.int .i64 a1),(7,.slice A3 x2.length c_3),(8,.int .i64 x3)]∧St w0 F0 [O33 x2 A3 c_3] [R4 x1 A2 c_2] w) (k:=k) ⟨_,_,_,_,_,_,_,H,rfl,h12⟩ ?_
 rintro k1 env w3 ⟨x1,A2,c_2,x2,A3,c_3,x3,H,rfl,h5⟩
 rcases k1 with _ | k1
 ·exact z0 H
 rw [Q134.l0] at H
 refine T4 (T4 (T2 ?_))
 refine Zd 5 ?_
 refine Z7 22 H (fun c3 H=>?_) fun c3 H=>?_
 ·refine Ze [0,1,7,8,27] rfl ?_
  refine jIf H (fun c4 H=>?_) fun c4 H=>?_
  ·refine T5 (T4 (TW (T4 (T2 ?_))))
   refine Zd 2 ?_
   obtain ⟨⟨p1,p2⟩,H⟩:=Zl H
   have e1:=Zx h5.wh (Zk 1) p1 p2
   refine Zc (Zg e1 p1 p2) ?_
   refine Zc (Zh 0 h5.wht (Zk 1) p1 p2) ?_
   refine Ze [0,1,7,8,34] rfl ?_
   refine jIf H (fun c5 H=>?_) fun c5 H=>?_
   ·refine T4 (T2 ?_)
    refine Zd 2 ?_
    refine cE H [] h5 rfl Q137.spec (gS [1]) ?_
    rintro r2 w4 _ _ H ⟨A4,c_4,rfl,rfl⟩ h6
    replace h6:=nf h6
    refine Ze [0,1,7,8] rfl ?_
    refine T2 (Zd 3 ?_)
    refine rB (Y6 (.int .u32) ([(IntKind.u32.wrap (x3))]:List Int) h6) fun b2 w5 h7=>?_
    obtain ⟨p3,H⟩:=Zl H
    refine Zv (Yq 2 h7 (gO 0) p3) ?_
    rintro _ w6 ⟨A5,c_5,rfl,h8⟩
    replace h8:=nf h8
    refine Ze [0,1,7,8] rfl ?_
    refine Za [0,1,7,8] ?_
    have h9:=h8.freeze (k:=2) rfl Yz
    have h10:=(sOR h9 [0] [0])
    exact ⟨k1,by omega,_,_,_,_,_,_,_,H,rfl,h10⟩
   refine T5 (Za [0,1,7,8] ?_)
   have h11:=(sOR h5 [0] [0])
   exact ⟨k1,by omega,_,_,_,_,_,_,_,H,rfl,h11⟩
  refine TZ (T4 (Za [4,5,6] ?_))
  cases H
  exact T3 (jRA ⟨_,_,_,_,rfl,rfl,rfl⟩ (sOR h5 [0] [0]))
 refine Ze [0,1,7,8,27] rfl ?_
 refine Z5 ?_
 refine TZ (T4 (Za [4,5,6] ?_))
 cases H
 exact T3 (jRA ⟨_,_,_,_,rfl,rfl,rfl⟩ (sOR h5 [0] [0]))

def Q160.f (k:Nat) (a0:Tg) (a1:Tp):Option Td:=(Q156.f k a0.1 a1).bind fun r1=>(if (!r1)=true then (some (a0,0,3)) else ((Q134.f k a0.2.2.1 1).bind fun r2=>(if (!decide (r2.2.2=0))=true then (some (a0,0,r2.2.2)) else (if 0<(r2.2.1.length:Int) then ((Q165.f (a0.1,a0.2.1,r2.1,a0.2.2.2) (gt r2.2.1 0) (1,a1)).bind fun r3=>(some (r3,(gt r2.2.1 0),0))) else none))))
theorem Q160.spec {k a0 a1 A1 c_1 A2 c_2 A3 c_3 A4 c_4 A5 c_5 A6 c_6 r} (H:Q160.f k a0 a1=some r) :
  SpecA Tryz.prog 56 [.agg #[.int .i64 a0.1.1,.int .i64 a0.1.2.1,.int .i64 a0.1.2.2.1,.int .i64 a0.1.2.2.2.1,.int .i64 a0.1.2.2.2.2.1,.int .i64 a0.1.2.2.2.2.2.1,.int .i64 a0.1.2.2.2.2.2.2.1,.int .i64 a0.1.2.2.2.2.2.2.2,.slice A1 a0.2.1.length c_1,.slice A2 a0.2.2.1.length c_2,.int .u32 a0.2.2.2],.agg #[.int .i64 a1.1,.slice A3 a1.2.1.length c_3,.slice A4 a1.2.2.1.length c_4,.slice A5 a1.2.2.2.1.length c_5,.slice A6 a1.2.2.2.2.length c_6]] [] [R53 a0.2.1 A1 c_1,R4 a0.2.2.1 A2 c_2,R33 a1.2.1 A3 c_3,R9 a1.2.2.1 A4 c_4,Y5 a1.2.2.2.1 A5 c_5,Y3 a1.2.2.2.2 A6 c_6] (fun v l lr=>∃ A_0 c_0 A_1 c_1,v=.tuple #[.agg #[.int .i64 r.1.1.1,.int .i64 r.1.1.2.1,.int .i64 r.1.1.2.2.1,.int .i64 r.1.1.2.2.2.1,.int .i64 r.1.1.2.2.2.2.1,.int .i64 r.1.1.2.2.2.2.2.1,.int .i64 r.1.1.2.2.2.2.2.2.1,.int .i64 r.1.1.2.2.2.2.2.2.2,.slice A_0 r.1.2.1.length c_0,.slice A_1 r.1.2.2.1.length c_1,.int .u32 r.1.2.2.2],.int .u32 r.2.1,.int .i64 r.2.2]∧l=[]∧lr=[R53 r.1.2.1 A_0 c_0,R4 r.1.2.2.1 A_1 c_1]):=by
 refine Yd Tryz.func56 fun w0 F0 h0=>?_
 unfold Q160.f at H
 refine T4 (T2 ?_)
 refine rB (Z4 h0) fun b1 w1 h1=>?_
 refine rB (Z4 h1) fun b2 w2 h2=>?_
 refine rB (Yp h2) fun b3 w3 h3=>?_
 refine Ze [2,3,4] rfl ?_
 refine T4 (T4 (T2 ?_))
 refine Zd 1 ?_
 refine Zc (Zb 2 h3.wht) ?_
 refine Zc (Zb 1 h3.wht) ?_
 refine cS H [] h3 rfl Q156.spec (gS [5,6,7,8]) fun r1 w4 H h4=>?_
 refine Ze [2,3,4,14] rfl ?_
 refine jIf H (fun c1 H=>?_) fun c1 H=>?_
 ·refine T4 (T2 ?_)
  refine Zc (Zb 2 h4.wht) ?_
  refine rS (Zs 0 h4) fun _ w5 h5=>?_
  refine Ze [4,5,6] rfl ?_
  have h6:=sO h5 [0]
  replace h6:=nf h6
  cases H
  exact T3 (X7 (Z1 (Sa Yj 0 h6 rfl rfl rfl rfl) (Z1 (Sb rfl) (Z1 (Sb rfl) Yt))) ⟨_,_,_,_,rfl,rfl,rfl⟩ (sOR h6 [] [0,1]))
 refine T5 (T4 (T2 ?_))
 refine Zd 1 ?_
 refine Zc (Zb 2 h4.wht) ?_
 obtain ⟨r2,q2,H⟩:=Ye H
 refine Zv (Zz [] (Q134.spec q2) h4 rfl (gS [1])) ?_
 rintro _ w6 ⟨_,_,⟨A7,c_7,A8,c_8,rfl,rfl,rfl⟩,h7⟩
 replace h7:=nf h7
 refine Ze [2,3,4,7,8,9] rfl ?_
 refine T4 (T4 (Za [2,3,4,7,8,9,24] ?_))
 refine jIf H (fun c2 H=>?_) fun c2 H=>?_
 ·refine T4 (T2 ?_)
  refine Zc (Zb 3 h7.wht) ?_
  refine Zd 1 ?_
  refine rS (Zs 1 h7) fun _ w7 h8=>?_
  refine Ze [4,5,6] rfl ?_
  have h9:=sO h8 [0]
  replace h9:=nf h9
  cases H
  exact T3 (X7 (Z1 (Sa Yj 0 h9 rfl rfl rfl rfl) (Z1 (Sb rfl) (Z1 (Sb rfl) Yt))) ⟨_,_,_,_,rfl,rfl,rfl⟩ (sOR h9 [] [1,2]))
 refine T5 (T4 (T2 ?_))
 refine Zd 2 ?_
 refine rS (Zs 3 h7) fun _ w8 h10=>?_
 refine Ze [2,3,4,8] rfl ?_
 refine T4 (Zw (sO h10 [0,0,1]) ?_)
 have h11:=h10.drew
 refine Zo [1,7] ?_
 refine Zf 0 rfl (Zb 0 wI) ?_
 obtain ⟨p1,H⟩:=Zl H
 have e1:=Jo h11.wh (gO 1) p1
 refine Zf 2 rfl (V4 e1 p1) ?_
 refine Zf 3 rfl (Vp 0 wI (gO 1) p1) ?_
 refine Zf 4 rfl (Zb 2 wI) ?_
 refine Zo [5] ?_
 refine Zf 8 rfl (V4 e1 p1) ?_
 refine Zf 9 rfl (Vp 0 wI (gO 1) p1) ?_
 obtain ⟨r3,q3,H⟩:=Ye H
 refine Yl 6 rfl (Zz [] (Q165.spec q3) h11 rfl (gS [1,0,3,4,5,6])) ?_
 rintro _ w9 ⟨_,_,⟨A9,c_9,A10,c_10,rfl,rfl,rfl⟩,h12⟩
 replace h12:=nf h12
 refine ⟨⟨[_],(sOR h12 [2,0,0,0] [2,3,4,5,6,7,8])⟩,?_⟩
 refine Yl 10 rfl (Zs 2 h12) ?_
 intro _ w10 h13
 replace h13:=nf h13
 refine ⟨⟨[_],(Y9 h13 [2,3,4,5,6,7,8])⟩,?_⟩
 refine Zo [11,12] ?_
 refine Zt [4,5,6] ?_
 have h14:=sO h13 [0]
 replace h14:=nf h14
 cases H
 exact T3 (X7 (Z1 (Sa Yj 0 h14 rfl rfl rfl rfl) (Z1 (Sb rfl) (Z1 (Sb rfl) Yt))) ⟨_,_,_,_,rfl,rfl,rfl⟩ (sOR h14 [] [0,1]))

def Q133.f (a0:TR) (a1:Int):Option (List Bool×Int):=if (decide ((IntKind.u64.wrap ((a0.length:Int)))≤(IntKind.u64.wrap (a1))))=true then (some (a0,4)) else (if (decide (a1=0))=true then (some (a0,2)) else (if 0≤a1∧a1<(a0.length:Int) then (if (!(gt a0 a1))=true then (some (a0,9)) else ((Q137.f a0 (w64 (a1)) false).bind fun r1=>(some (r1,0)))) else none))
theorem Q133.spec {a0 a1 A1 c_1 r} (H:Q133.f a0 a1=some r) :
  SpecA Tryz.prog 106 [.slice A1 a0.length c_1,.int .u32 a1] [] [R4 a0 A1 c_1] (fun v l lr=>∃ A_0 c_0,v=.tuple #[.slice A_0 r.1.length c_0,.int .i64 r.2]∧l=[]∧lr=[R4 r.1 A_0 c_0]):=by
 refine Yd Tryz.func106 fun w0 F0 h0=>?_
 unfold Q133.f at H
 refine T4 (Za [0,1] ?_)
 refine T4 (T4 (Za [0,1,11] ?_))
 refine jIf H (fun c1 H=>?_) fun c1 H=>?_
 ·refine T4 (Za [4,5] ?_)
  cases H
  exact T3 (jRA ⟨_,_,rfl,rfl,rfl⟩ (sOR h0 [] [0]))
 refine T5 (T4 (T4 (Za [0,1,14] ?_)))
 refine jIf H (fun c2 H=>?_) fun c2 H=>?_
 ·refine T4 (Za [4,5] ?_)
  cases H
  exact T3 (jRA ⟨_,_,rfl,rfl,rfl⟩ (sOR h0 [] [0]))
 refine T5 (T4 (T4 (T2 ?_)))
 refine Zd 2 ?_
 obtain ⟨⟨p1,p2⟩,H⟩:=Zl H
 have e1:=Zx h0.wh (Zk 0) p1 p2
 refine Zc (Zg e1 p1 p2) ?_
 refine Zc (Zh 0 h0.wht (Zk 0) p1 p2) ?_
 refine Ze [0,1,20] rfl ?_
 refine jIf H (fun c3 H=>?_) fun c3 H=>?_
 ·refine T4 (Za [4,5] ?_)
  cases H
  exact T3 (jRA ⟨_,_,rfl,rfl,rfl⟩ (sOR h0 [] [0]))
 refine T5 (T4 (T2 ?_))
 refine Zd 3 ?_
 refine cE H [] h0 rfl Q137.spec (gS [0]) ?_
 rintro r1 w1 _ _ H ⟨A2,c_2,rfl,rfl⟩ h1
 replace h1:=nf h1
 refine Ze [4,5] rfl ?_
 have h2:=h1.freeze (k:=0) rfl Yz
 cases H
 exact T3 (jRA ⟨_,_,rfl,rfl,rfl⟩ (sOR h2 [] [0]))

def Q158.f (a0:Tg) (a1:Int):Option Te:=(Q164.f a0 a1).bind fun r1=>(if (!r1)=true then (some (a0,4)) else (if (decide (a1=a0.2.2.2))=true then (some (a0,8)) else ((Q133.f a0.2.2.1 a1).bind fun r2=>(if (!decide (r2.2=0))=true then (some (a0,r2.2)) else ((Q165.f (a0.1,a0.2.1,r2.1,a0.2.2.2) a1 (2,(0,([]:List Int),([]:List TP),([]:List Tz),([]:List TC)))).bind fun r3=>(some (r3,0)))))))
theorem Q158.spec {a0 a1 A1 c_1 A2 c_2 r} (H:Q158.f a0 a1=some r) :
  SpecA Tryz.prog 57 [.agg #[.int .i64 a0.1.1,.int .i64 a0.1.2.1,.int .i64 a0.1.2.2.1,.int .i64 a0.1.2.2.2.1,.int .i64 a0.1.2.2.2.2.1,.int .i64 a0.1.2.2.2.2.2.1,.int .i64 a0.1.2.2.2.2.2.2.1,.int .i64 a0.1.2.2.2.2.2.2.2,.slice A1 a0.2.1.length c_1,.slice A2 a0.2.2.1.length c_2,.int .u32 a0.2.2.2],.int .u32 a1] [] [R53 a0.2.1 A1 c_1,R4 a0.2.2.1 A2 c_2] (fun v l lr=>∃ A_0 c_0 A_1 c_1,v=.tuple #[.agg #[.int .i64 r.1.1.1,.int .i64 r.1.1.2.1,.int .i64 r.1.1.2.2.1,.int .i64 r.1.1.2.2.2.1,.int .i64 r.1.1.2.2.2.2.1,.int .i64 r.1.1.2.2.2.2.2.1,.int .i64 r.1.1.2.2.2.2.2.2.1,.int .i64 r.1.1.2.2.2.2.2.2.2,.slice A_0 r.1.2.1.length c_0,.slice A_1 r.1.2.2.1.length c_1,.int .u32 r.1.2.2.2],.int .i64 r.2]∧l=[]∧lr=[R53 r.1.2.1 A_0 c_0,R4 r.1.2.2.1 A_1 c_1]):=by
 refine Yd Tryz.func57 fun w0 F0 h0=>?_
 unfold Q158.f at H
 refine T4 (T2 ?_)
 refine rB (Z4 h0) fun b1 w1 h1=>?_
 refine rB (Yp h1) fun b2 w2 h2=>?_
 refine Ze [1,2,4] rfl ?_
 refine T4 (T4 (T2 ?_))
 refine Zc (Zb 1 h2.wht) ?_
 refine Zd 1 ?_
 refine cS H [] h2 rfl Q164.spec (gS [2,3]) fun r1 w3 H h3=>?_
 refine Ze [1,2,4,11] rfl ?_
 refine jIf H (fun c1 H=>?_) fun c1 H=>?_
 ·refine T4 (T2 ?_)
  refine Zc (Zb 1 h3.wht) ?_
  refine rS (Zs 0 h3) fun _ w4 h4=>?_
  refine Ze [4,5] rfl ?_
  cases H
  exact T3 (X7 (Z1 (Sa Yj 0 h4 rfl rfl rfl rfl) (Z1 (Sb rfl) Yt)) ⟨_,_,_,_,rfl,rfl,rfl⟩ (sOR h4 [] [0,1]))
 refine T5 (T4 (T4 (T2 ?_)))
 refine Zd 2 ?_
 refine Zc (Zb 1 h3.wht) ?_
 refine Ze [1,2,4,16] rfl ?_
 refine jIf H (fun c2 H=>?_) fun c2 H=>?_
 ·refine T4 (T2 ?_)
  refine Zc (Zb 1 h3.wht) ?_
  refine rS (Zs 0 h3) fun _ w5 h5=>?_
  refine Ze [4,5] rfl ?_
  cases H
  exact T3 (X7 (Z1 (Sa Yj 0 h5 rfl rfl rfl rfl) (Z1 (Sb rfl) Yt)) ⟨_,_,_,_,rfl,rfl,rfl⟩ (sOR h5 [] [0,1]))
 refine T5 (T4 (T2 ?_))
 refine Zd 1 ?_
 refine Zc (Zb 1 h3.wht) ?_
 refine Zd 1 ?_
 obtain ⟨r2,q2,H⟩:=Ye H
 refine Zv (Zz [] (Q133.spec q2) h3 rfl (gS [1])) ?_
 rintro _ w6 ⟨_,_,⟨A3,c_3,rfl,rfl,rfl⟩,h6⟩
 replace h6:=nf h6
 refine Ze [1,2,4,6,7] rfl ?_
 refine T4 (T4 (Za [1,2,4,6,7,26] ?_))
 refine jIf H (fun c3 H=>?_) fun c3 H=>?_
 ·refine T4 (T2 ?_)
  refine Zc (Zb 1 h6.wht) ?_
  refine Zd 1 ?_
  refine rS (Zs 0 h6) fun _ w7 h7=>?_
  refine Ze [4,5] rfl ?_
  cases H
  exact T3 (X7 (Z1 (Sa Yj 0 h7 rfl rfl rfl rfl) (Z1 (Sb rfl) Yt)) ⟨_,_,_,_,rfl,rfl,rfl⟩ (sOR h7 [] [1,2]))
 refine T5 (T4 (T2 ?_))
 refine Zd 2 ?_
 refine rS (Zs 1 h6) fun _ w8 h8=>?_
 refine Ze [1,2,4] rfl ?_
 refine T4 (T2 ?_)
 refine Zc (Zb 0 h8.wht) ?_
 refine Zd 2 ?_
 have h9:=h8.addNil 33 (.int .u32)
 have h10:=h9.freeze (k:=0) rfl Yz
 have h11:=h10.addNil 9 .str
 have h12:=h11.freeze (k:=0) rfl Yz
 have h13:=h12.addNil 115 (.pair .str (.pair .bool .str))
 have h14:=h13.freeze (k:=0) rfl Yz
 have h15:=h14.addNil 106 (.pair .str .str)
 have h16:=h15.freeze (k:=0) rfl Yz
 obtain ⟨r3,q3,H⟩:=Ye H
 refine Zv (Zz [] (Q165.spec q3) h16 rfl (gS [5,4,3,2,1,0])) ?_
 rintro _ w9 ⟨_,_,⟨A4,c_4,A5,c_5,rfl,rfl,rfl⟩,h17⟩
 replace h17:=nf h17
 refine rS (Zs 1 h17) fun _ w10 h18=>?_
 refine Ze [4,5] rfl ?_
 cases H
 exact T3 (X7 (Z1 (Sa Yj 0 h18 rfl rfl rfl rfl) (Z1 (Sb rfl) Yt)) ⟨_,_,_,_,rfl,rfl,rfl⟩ (sOR h18 [] [0,1]))

def Q135.f (a0:TR) (a1:Int):Option (List Bool×Int):=if (decide ((IntKind.u64.wrap ((a0.length:Int)))≤(IntKind.u64.wrap (a1))))=true then (some (a0,4)) else (if 0≤a1∧a1<(a0.length:Int) then (if (gt a0 a1)=true then (some (a0,10)) else ((Q137.f a0 (w64 (a1)) true).bind fun r1=>(some (r1,0)))) else none)
theorem Q135.spec {a0 a1 A1 c_1 r} (H:Q135.f a0 a1=some r) :
  SpecA Tryz.prog 107 [.slice A1 a0.length c_1,.int .u32 a1] [] [R4 a0 A1 c_1] (fun v l lr=>∃ A_0 c_0,v=.tuple #[.slice A_0 r.1.length c_0,.int .i64 r.2]∧l=[]∧lr=[R4 r.1 A_0 c_0]):=by
 refine Yd Tryz.func107 fun w0 F0 h0=>?_
 unfold Q135.f at H
 refine T4 (Za [0,1] ?_)
 refine T4 (T4 (Za [0,1,11] ?_))
 refine jIf H (fun c1 H=>?_) fun c1 H=>?_
 ·refine T4 (Za [4,5] ?_)
  cases H
  exact T3 (jRA ⟨_,_,rfl,rfl,rfl⟩ (sOR h0 [] [0]))
 refine T5 (T4 (T4 (T2 ?_)))
 refine Zd 2 ?_
 obtain ⟨⟨p1,p2⟩,H⟩:=Zl H
 have e1:=Zx h0.wh (Zk 0) p1 p2
 refine Zc (Zg e1 p1 p2) ?_
 refine Zc (Zh 0 h0.wht (Zk 0) p1 p2) ?_
 refine Ze [0,1,16] rfl ?_
 refine jIf H (fun c2 H=>?_) fun c2 H=>?_
 ·refine T4 (Za [4,5] ?_)
  cases H
  exact T3 (jRA ⟨_,_,rfl,rfl,rfl⟩ (sOR h0 [] [0]))
 refine T5 (T4 (T2 ?_))
 refine Zd 3 ?_
 refine cE H [] h0 rfl Q137.spec (gS [0]) ?_
 rintro r1 w1 _ _ H ⟨A2,c_2,rfl,rfl⟩ h1
 replace h1:=nf h1
 refine Ze [4,5] rfl ?_
 have h2:=h1.freeze (k:=0) rfl Yz
 cases H
 exact T3 (jRA ⟨_,_,rfl,rfl,rfl⟩ (sOR h2 [] [0]))

def Q161.f (a0:Tg) (a1:Int):Option Te:=(Q164.f a0 a1).bind fun r1=>(if (!r1)=true then (some (a0,4)) else ((Q135.f a0.2.2.1 a1).bind fun r2=>(some ((a0.1,a0.2.1,r2.1,a0.2.2.2),r2.2))))
theorem Q161.spec {a0 a1 A1 c_1 A2 c_2 r} (H:Q161.f a0 a1=some r) :
  SpecA Tryz.prog 58 [.agg #[.int .i64 a0.1.1,.int .i64 a0.1.2.1,.int .i64 a0.1.2.2.1,.int .i64 a0.1.2.2.2.1,.int .i64 a0.1.2.2.2.2.1,.int .i64 a0.1.2.2.2.2.2.1,.int .i64 a0.1.2.2.2.2.2.2.1,.int .i64 a0.1.2.2.2.2.2.2.2,.slice A1 a0.2.1.length c_1,.slice A2 a0.2.2.1.length c_2,.int .u32 a0.2.2.2],.int .u32 a1] [] [R53 a0.2.1 A1 c_1,R4 a0.2.2.1 A2 c_2] (fun v l lr=>∃ A_0 c_0 A_1 c_1,v=.tuple #[.agg #[.int .i64 r.1.1.1,.int .i64 r.1.1.2.1,.int .i64 r.1.1.2.2.1,.int .i64 r.1.1.2.2.2.1,.int .i64 r.1.1.2.2.2.2.1,.int .i64 r.1.1.2.2.2.2.2.1,.int .i64 r.1.1.2.2.2.2.2.2.1,.int .i64 r.1.1.2.2.2.2.2.2.2,.slice A_0 r.1.2.1.length c_0,.slice A_1 r.1.2.2.1.length c_1,.int .u32 r.1.2.2.2],.int .i64 r.2]∧l=[]∧lr=[R53 r.1.2.1 A_0 c_0,R4 r.1.2.2.1 A_1 c_1]):=by
 refine Yd Tryz.func58 fun w0 F0 h0=>?_
 unfold Q161.f at H
 refine T4 (T2 ?_)
 refine rB (Z4 h0) fun b1 w1 h1=>?_
 refine rB (Yp h1) fun b2 w2 h2=>?_
 refine Ze [1,2,4] rfl ?_
 refine T4 (T4 (T2 ?_))
 refine Zc (Zb 1 h2.wht) ?_
 refine Zd 1 ?_
 refine cS H [] h2 rfl Q164.spec (gS [2,3]) fun r1 w3 H h3=>?_
 refine Ze [1,2,4,11] rfl ?_
 refine jIf H (fun c1 H=>?_) fun c1 H=>?_
 ·refine T4 (T2 ?_)
  refine Zc (Zb 1 h3.wht) ?_
  refine rS (Zs 0 h3) fun _ w4 h4=>?_
  refine Ze [4,5] rfl ?_
  cases H
  exact T3 (X7 (Z1 (Sa Yj 0 h4 rfl rfl rfl rfl) (Z1 (Sb rfl) Yt)) ⟨_,_,_,_,rfl,rfl,rfl⟩ (sOR h4 [] [0,1]))
 refine T5 (T4 (T2 ?_))
 refine Zd 1 ?_
 refine Zc (Zb 1 h3.wht) ?_
 refine Zd 1 ?_
 obtain ⟨r2,q2,H⟩:=Ye H
 refine Zv (Zz [] (Q135.spec q2) h3 rfl (gS [1])) ?_
 rintro _ w5 ⟨_,_,⟨A3,c_3,rfl,rfl,rfl⟩,h5⟩
 replace h5:=nf h5
 refine Ze [2,4,6,7] rfl ?_
 refine T4 (T2 ?_)
 refine Zd 2 ?_
 refine rS (Zs 1 h5) fun _ w6 h6=>?_
 refine Ze [2,4,7] rfl ?_
 refine T4 (T2 ?_)
 refine Zc (Zb 0 h6.wht) ?_
 refine Zd 1 ?_
 refine rS (Zs 1 h6) fun _ w7 h7=>?_
 refine Ze [4,5] rfl ?_
 cases H
 exact T3 (X7 (Z1 (Sa Yj 0 h7 rfl rfl rfl rfl) (Z1 (Sb rfl) Yt)) ⟨_,_,_,_,rfl,rfl,rfl⟩ (sOR h7 [] [1,0]))

def Q159.f (a0:Tg) (a1:Int):Option Te:=if (decide (0<a1))=true then ((Q164.f a0 a1).bind fun r1=>(if (!r1)=true then (some (a0,4)) else (some ((a0.1,a0.2.1,a0.2.2.1,a1),0)))) else (some ((a0.1,a0.2.1,a0.2.2.1,a1),0))
theorem Q159.spec {a0 a1 A1 c_1 A2 c_2 r} (H:Q159.f a0 a1=some r) :
  SpecA Tryz.prog 59 [.agg #[.int .i64 a0.1.1,.int .i64 a0.1.2.1,.int .i64 a0.1.2.2.1,.int .i64 a0.1.2.2.2.1,.int .i64 a0.1.2.2.2.2.1,.int .i64 a0.1.2.2.2.2.2.1,.int .i64 a0.1.2.2.2.2.2.2.1,.int .i64 a0.1.2.2.2.2.2.2.2,.slice A1 a0.2.1.length c_1,.slice A2 a0.2.2.1.length c_2,.int .u32 a0.2.2.2],.int .u32 a1] [] [R53 a0.2.1 A1 c_1,R4 a0.2.2.1 A2 c_2] (fun v l lr=>∃ A_0 c_0 A_1 c_1,v=.tuple #[.agg #[.int .i64 r.1.1.1,.int .i64 r.1.1.2.1,.int .i64 r.1.1.2.2.1,.int .i64 r.1.1.2.2.2.1,.int .i64 r.1.1.2.2.2.2.1,.int .i64 r.1.1.2.2.2.2.2.1,.int .i64 r.1.1.2.2.2.2.2.2.1,.int .i64 r.1.1.2.2.2.2.2.2.2,.slice A_0 r.1.2.1.length c_0,.slice A_1 r.1.2.2.1.length c_1,.int .u32 r.1.2.2.2],.int .i64 r.2]∧l=[]∧lr=[R53 r.1.2.1 A_0 c_0,R4 r.1.2.2.1 A_1 c_1]):=by
 refine Yd Tryz.func59 fun w0 F0 h0=>?_
 unfold Q159.f at H
 refine T4 (T2 ?_)
 refine rB (Z4 h0) fun b1 w1 h1=>?_
 refine rB (Yp h1) fun b2 w2 h2=>?_
 refine Ze [1,2,4] rfl ?_
 refine T4 (T4 (T2 ?_))
 refine Zd 3 ?_
 refine Z7 8 H (fun c1 H=>?_) fun c1 H=>?_
 ·refine Zc (Zb 1 h2.wht) ?_
  refine Zd 1 ?_
  refine cS H [] h2 rfl Q164.spec (gS [2,3]) fun r1 w3 H h3=>?_
  refine Ze [1,2,4,13] rfl ?_
  refine jIf H (fun c2 H=>?_) fun c2 H=>?_
  ·refine T4 (T2 ?_)
   refine Zc (Zb 1 h3.wht) ?_
   refine rS (Zs 0 h3) fun _ w4 h4=>?_
   refine Ze [4,5] rfl ?_
   cases H
   exact T3 (X7 (Z1 (Sa Yj 0 h4 rfl rfl rfl rfl) (Z1 (Sb rfl) Yt)) ⟨_,_,_,_,rfl,rfl,rfl⟩ (sOR h4 [] [0,1]))
  refine T5 (T4 (T2 ?_))
  refine Zd 2 ?_
  refine rS (Zs 1 h3) fun _ w5 h5=>?_
  refine Ze [2,4] rfl ?_
  refine T4 (T2 ?_)
  refine Zc (Zb 0 h5.wht) ?_
  refine rS (Zs 1 h5) fun _ w6 h6=>?_
  refine Ze [4,5] rfl ?_
  cases H
  exact T3 (X7 (Z1 (Sa Yj 0 h6 rfl rfl rfl rfl) (Z1 (Sb rfl) Yt)) ⟨_,_,_,_,rfl,rfl,rfl⟩ (sOR h6 [] [0,1]))
 refine Ze [1,2,4,13] rfl ?_
 refine Z5 ?_
 refine T5 (T4 (T2 ?_))
 refine Zd 2 ?_
 refine rS (Zs 1 h2) fun _ w7 h7=>?_
 refine Ze [2,4] rfl ?_
 refine T4 (T2 ?_)
 refine Zc (Zb 0 h7.wht) ?_
 refine rS (Zs 1 h7) fun _ w8 h8=>?_
 refine Ze [4,5] rfl ?_
 cases H
 exact T3 (X7 (Z1 (Sa Yj 0 h8 rfl rfl rfl rfl) (Z1 (Sb rfl) Yt)) ⟨_,_,_,_,rfl,rfl,rfl⟩ (sOR h8 [] [0,1]))

def Q129.f (k:Nat) (a0:Tg) (a1:Tm):Option Td:=if (decide (a1.1=0))=true then ((Q163.f k a0 a1.2.1 a1.2.2).bind fun r1=>(some (r1.1,0,r1.2))) else (if (decide (a1.1=1))=true then ((Q163.f k a0 a1.2.1 a1.2.2).bind fun r2=>(some (r2.1,0,r2.2))) else (if (decide (a1.1=2))=true then ((Q160.f k a0 a1.2.2).bind fun r3=>(some r3)) else (if (decide (a1.1=3))=true then ((Q158.f a0 a1.2.1).bind fun r4=>(some (r4.1,0,r4.2))) else (if (decide (a1.1=4))=true then ((Q161.f a0 a1.2.1).bind fun r5=>(some (r5.1,0,r5.2))) else (if (decide (a1.1=5))=true then ((Q159.f a0 a1.2.1).bind fun r6=>(some (r6.1,0,r6.2))) else (some (a0,0,0)))))))
theorem Q129.spec {k a0 a1 A1 c_1 A2 c_2 A3 c_3 A4 c_4 A5 c_5 A6 c_6 r} (H:Q129.f k a0 a1=some r) :
  SpecA Tryz.prog 17 [.agg #[.int .i64 a0.1.1,.int .i64 a0.1.2.1,.int .i64 a0.1.2.2.1,.int .i64 a0.1.2.2.2.1,.int .i64 a0.1.2.2.2.2.1,.int .i64 a0.1.2.2.2.2.2.1,.int .i64 a0.1.2.2.2.2.2.2.1,.int .i64 a0.1.2.2.2.2.2.2.2,.slice A1 a0.2.1.length c_1,.slice A2 a0.2.2.1.length c_2,.int .u32 a0.2.2.2],.agg #[.int .i64 a1.1,.int .u32 a1.2.1,.int .i64 a1.2.2.1,.slice A3 a1.2.2.2.1.length c_3,.slice A4 a1.2.2.2.2.1.length c_4,.slice A5 a1.2.2.2.2.2.1.length c_5,.slice A6 a1.2.2.2.2.2.2.length c_6]] [] [R53 a0.2.1 A1 c_1,R4 a0.2.2.1 A2 c_2,R33 a1.2.2.2.1 A3 c_3,R9 a1.2.2.2.2.1 A4 c_4,Y5 a1.2.2.2.2.2.1 A5 c_5,Y3 a1.2.2.2.2.2.2 A6 c_6] (fun v l lr=>∃ A_0 c_0 A_1 c_1,v=.tuple #[.agg #[.int .i64 r.1.1.1,.int .i64 r.1.1.2.1,.int .i64 r.1.1.2.2.1,.int .i64 r.1.1.2.2.2.1,.int .i64 r.1.1.2.2.2.2.1,.int .i64 r.1.1.2.2.2.2.2.1,.int .i64 r.1.1.2.2.2.2.2.2.1,.int .i64 r.1.1.2.2.2.2.2.2.2,.slice A_0 r.1.2.1.length c_0,.slice A_1 r.1.2.2.1.length c_1,.int .u32 r.1.2.2.2],.int .u32 r.2.1,.int .i64 r.2.2]∧l=[]∧lr=[R53 r.1.2.1 A_0 c_0,R4 r.1.2.2.1 A_1 c_1]):=by
 refine Yd Tryz.func17 fun w0 F0 h0=>?_
 unfold Q129.f at H
 refine T4 (T2 ?_)
 refine rB (Z4 h0) fun b1 w1 h1=>?_
 refine rB (Z4 h1) fun b2 w2 h2=>?_
 refine rB (Yp h2) fun b3 w3 h3=>?_
 refine Ze [2,3,4] rfl ?_
 refine T4 (Za [2,3,4,7] ?_)
 refine T4 (Za [2,3,4,7,8] ?_)
 refine T4 (T4 (T2 ?_))
 refine Zd 1 ?_
 refine Zc (Zb 1 h3.wht) ?_
 refine Ze [2,3,4,7,8,10] rfl ?_
 refine TW (T4 (T4 (Za [2,3,4,7,8,10,11] ?_)))
 refine jIf H (fun c1 H=>?_) fun c1 H=>?_
 ·refine T5 (TX rfl (fun e=>?_) (fun e=>by rw [c1] at e; cases e))
  refine T2 (Zc (Zb 2 h3.wht) ?_)
  refine Zd 1 ?_
  refine Zc (Zb 1 h3.wht) ?_
  refine Zd 1 ?_
  refine Zc (Zb 1 h3.wht) ?_
  obtain ⟨r1,q1,H⟩:=Ye H
  refine Zv (Zz [] (Q163.spec q1) h3 rfl (gS [0,1,2,3,4,5])) ?_
  rintro _ w4 ⟨_,_,⟨A7,c_7,A8,c_8,rfl,rfl,rfl⟩,h4⟩
  replace h4:=nf h4
  refine Zd 3 ?_
  refine rS (Zs 2 h4) fun _ w5 h5=>?_
  refine Ze [2,4,7,8] rfl ?_
  refine T4 (T2 ?_)
  refine Zc (Zb 0 h5.wht) ?_
  refine Zd 2 ?_
  refine rS (Zs 1 h5) fun _ w6 h6=>?_
  refine Ze [4,5,6] rfl ?_
  have h7:=sO h6 [0]
  replace h7:=nf h7
  cases H
  exact T3 (X7 (Z1 (Sa Yj 0 h7 rfl rfl rfl rfl) (Z1 (Sb rfl) (Z1 (Sb rfl) Yt))) ⟨_,_,_,_,rfl,rfl,rfl⟩ (sOR h7 [] [0,1]))
 refine Za [2,3,4,7,8,10,11] ?_
 refine jIf H (fun c2 H=>?_) fun c2 H=>?_
 ·refine T2 (Zc (Zb 2 h3.wht) ?_)
  refine Zd 1 ?_
  refine Zc (Zb 1 h3.wht) ?_
  refine Zd 1 ?_
  refine Zc (Zb 1 h3.wht) ?_
  obtain ⟨r2,q2,H⟩:=Ye H
  refine Zv (Zz [] (Q163.spec q2) h3 rfl (gS [0,1,2,3,4,5])) ?_
  rintro _ w7 ⟨_,_,⟨A9,c_9,A10,c_10,rfl,rfl,rfl⟩,h8⟩
  replace h8:=nf h8
  refine Zd 3 ?_
  refine rS (Zs 2 h8) fun _ w8 h9=>?_
  refine Ze [2,4,7,8] rfl ?_
  refine T4 (T2 ?_)
  refine Zc (Zb 0 h9.wht) ?_
  refine Zd 2 ?_
  refine rS (Zs 1 h9) fun _ w9 h10=>?_
  refine Ze [4,5,6] rfl ?_
  have h11:=sO h10 [0]
  replace h11:=nf h11
  cases H
  exact T3 (X7 (Z1 (Sa Yj 0 h11 rfl rfl rfl rfl) (Z1 (Sb rfl) (Z1 (Sb rfl) Yt))) ⟨_,_,_,_,rfl,rfl,rfl⟩ (sOR h11 [] [0,1]))
 refine T4 (Za [2,3,4,7,8,10,23] ?_)
 refine jIf H (fun c3 H=>?_) fun c3 H=>?_
 ·refine T2 (Zc (Zb 2 h3.wht) ?_)
  refine Zd 1 ?_
  refine Zc (Zb 1 h3.wht) ?_
  obtain ⟨r3,q3,H⟩:=Ye H
  refine Zv (Zz [] (Q160.spec q3) h3 rfl (gS [0,1,2,3,4,5])) ?_
  rintro _ w10 ⟨_,_,⟨A11,c_11,A12,c_12,rfl,rfl,rfl⟩,h12⟩
  replace h12:=nf h12
  refine Zd 4 ?_
  refine rS (Zs 2 h12) fun _ w11 h13=>?_
  refine Ze [2,4,7,8] rfl ?_
  refine T4 (T2 ?_)
  refine Zc (Zb 0 h13.wht) ?_
  refine Zd 2 ?_
  refine rS (Zs 1 h13) fun _ w12 h14=>?_
  refine Ze [4,5,6] rfl ?_
  have h15:=sO h14 [0]
  replace h15:=nf h15
  cases H
  exact T3 (X7 (Z1 (Sa Yj 0 h15 rfl rfl rfl rfl) (Z1 (Sb rfl) (Z1 (Sb rfl) Yt))) ⟨_,_,_,_,rfl,rfl,rfl⟩ (sOR h15 [] [0,1]))
 refine T4 (Za [2,3,4,7,8,10,33] ?_)
 refine jIf H (fun c4 H=>?_) fun c4 H=>?_
 ·refine T2 (Zc (Zb 2 h3.wht) ?_)
  refine Zd 1 ?_
  refine Zc (Zb 1 h3.wht) ?_
  obtain ⟨r4,q4,H⟩:=Ye H
  refine Zv (Zz [] (Q158.spec q4) h3 rfl (gS [0,1])) ?_
  rintro _ w13 ⟨_,_,⟨A13,c_13,A14,c_14,rfl,rfl,rfl⟩,h16⟩
  replace h16:=nf h16
  refine Zd 3 ?_
  refine rS (Zs 2 h16) fun _ w14 h17=>?_
  refine Ze [2,4,7,8] rfl ?_
  refine T4 (T2 ?_)
  refine Zc (Zb 0 h17.wht) ?_
  refine Zd 2 ?_
  refine rS (Zs 1 h17) fun _ w15 h18=>?_
  refine Ze [4,5,6] rfl ?_
  have h19:=sO h18 [0]
  replace h19:=nf h19
  cases H
  exact T3 (X7 (Z1 (Sa Yj 0 h19 rfl rfl rfl rfl) (Z1 (Sb rfl) (Z1 (Sb rfl) Yt))) ⟨_,_,_,_,rfl,rfl,rfl⟩ (sOR h19 [] [0,1]))
 refine T4 (Za [2,3,4,7,8,10,42] ?_)
 refine jIf H (fun c5 H=>?_) fun c5 H=>?_
 ·refine T2 (Zc (Zb 2 h3.wht) ?_)
  refine Zd 1 ?_
  refine Zc (Zb 1 h3.wht) ?_
  obtain ⟨r5,q5,H⟩:=Ye H
  refine Zv (Zz [] (Q161.spec q5) h3 rfl (gS [0,1])) ?_
  rintro _ w16 ⟨_,_,⟨A15,c_15,A16,c_16,rfl,rfl,rfl⟩,h20⟩
  replace h20:=nf h20
  refine Zd 3 ?_
  refine rS (Zs 2 h20) fun _ w17 h21=>?_
  refine Ze [2,4,7,8] rfl ?_
  refine T4 (T2 ?_)
  refine Zc (Zb 0 h21.wht) ?_
  refine Zd 2 ?_
  refine rS (Zs 1 h21) fun _ w18 h22=>?_
  refine Ze [4,5,6] rfl ?_
  have h23:=sO h22 [0]
  replace h23:=nf h23
  cases H
  exact T3 (X7 (Z1 (Sa Yj 0 h23 rfl rfl rfl rfl) (Z1 (Sb rfl) (Z1 (Sb rfl) Yt))) ⟨_,_,_,_,rfl,rfl,rfl⟩ (sOR h23 [] [0,1]))
 refine T4 (Za [2,3,4,7,8,51] ?_)
 refine jIf H (fun c6 H=>?_) fun c6 H=>?_
 ·refine T2 (Zc (Zb 2 h3.wht) ?_)
  refine Zd 1 ?_
  refine Zc (Zb 1 h3.wht) ?_
  obtain ⟨r6,q6,H⟩:=Ye H
  refine Zv (Zz [] (Q159.spec q6) h3 rfl (gS [0,1])) ?_
  rintro _ w19 ⟨_,_,⟨A17,c_17,A18,c_18,rfl,rfl,rfl⟩,h24⟩
  replace h24:=nf h24
  refine Zd 3 ?_
  refine rS (Zs 2 h24) fun _ w20 h25=>?_
  refine Ze [2,4,7,8] rfl ?_
  refine T4 (T2 ?_)
  refine Zc (Zb 0 h25.wht) ?_
  refine Zd 2 ?_
  refine rS (Zs 1 h25) fun _ w21 h26=>?_
  refine Ze [4,5,6] rfl ?_
  have h27:=sO h26 [0]
  replace h27:=nf h27
  cases H
  exact T3 (X7 (Z1 (Sa Yj 0 h27 rfl rfl rfl rfl) (Z1 (Sb rfl) (Z1 (Sb rfl) Yt))) ⟨_,_,_,_,rfl,rfl,rfl⟩ (sOR h27 [] [0,1]))
 refine T5 (T4 (T2 ?_))
 refine Zc (Zb 2 h3.wht) ?_
 refine Zd 2 ?_
 refine rS (Zs 0 h3) fun _ w22 h28=>?_
 refine Ze [4,5,6] rfl ?_
 have h29:=sO h28 [0]
 replace h29:=nf h29
 cases H
 exact T3 (X7 (Z1 (Sa Yj 0 h29 rfl rfl rfl rfl) (Z1 (Sb rfl) (Z1 (Sb rfl) Yt))) ⟨_,_,_,_,rfl,rfl,rfl⟩ (sOR h29 [] [0,1]))

def Q89.f (k:Nat) (a0:Tc) (a1:Int) (a2:Tp):Option Tb:=(Q92.f a0 a1).bind fun r1=>(if (!decide (r1=0))=true then (some (r1,a0)) else ((Q38.f k a0.1 a2).bind fun r2=>(if (!decide (r2.2=0))=true then (some (r2.2,a0)) else ((Q90.f a0 a1 r2.1).bind fun r3=>(some r3)))))
theorem Q89.spec {k a0 a1 a2 A6 c_6 A7 c_7 A8 c_8 A9 c_9 b1 b2 b3 b4 b5 b6 b7 A1 c_1 A2 c_2 A3 c_3 A4 c_4 A5 c_5 r} (H:Q89.f k a0 a1 a2=some r) :
  Spec Tryz.prog 40 [.pointer (some ⟨b1,0,none⟩),.int .u32 a1,.agg #[.int .i64 a2.1,.slice A6 a2.2.1.length c_6,.slice A7 a2.2.2.1.length c_7,.slice A8 a2.2.2.2.1.length c_8,.slice A9 a2.2.2.2.2.length c_9]] (X9 a0 b1 b2 b3 b4 b5 b6 b7 A1 A2 A3 A4 A5 c_1 c_2 c_3 c_4 c_5) [R33 a2.2.1 A6 c_6,R9 a2.2.2.1 A7 c_7,Y5 a2.2.2.2.1 A8 c_8,Y3 a2.2.2.2.2 A9 c_9] (fun v l=>∃ A_0 c_0 A_1 c_1 A_2 c_2 A_3 c_3 A_4 c_4,v=.int .i64 r.1∧l=X9 r.2 b1 b2 b3 b4 b5 b6 b7 A_0 A_1 A_2 A_3 A_4 c_0 c_1 c_2 c_3 c_4):=by
 refine Zi Tryz.func40 fun w0 F0 h0=>?_
 replace h0:=nf h0
 unfold Q89.f at H
 refine T4 (T2 ?_)
 refine rB (Z4 h0) fun b8 w1 h1=>?_
 refine Ze [0,1,5] rfl ?_
 refine T4 (T4 (T2 ?_))
 refine Zd 2 ?_
 refine cS H [1,1,1,1,1,1,1,1,1,1,1,1] h1 rfl Q92.spec Zp fun r1 w2 H h2=>?_
 refine Ze [0,1,5,7] rfl ?_
 refine T4 (Za [0,1,5,7,14] ?_)
 refine jIf H (fun c1 H=>?_) fun c1 H=>?_
 ·refine T4 (Za [6] ?_)
  cases H
  exact T3 (jR ⟨_,_,_,_,_,_,_,_,_,_,rfl,rfl⟩ h2 [0,0,0,0,0,0,0,0,0,0,0,0])
 refine T5 (T4 (jH h2 fun h3=>?_))
 refine Zo [0,1,2] ?_
 refine Zf 3 rfl (Zb 0 wI) ?_
 refine Zf 4 rfl (Zb 12 wI) ?_
 refine cEJ 5 rfl H [] h3 rfl Q38.spec (gS [13,14,15,16]) ?_
 rintro r2 w3 _ _ H ⟨A10,c_10,rfl,rfl⟩ h4
 replace h4:=nf h4
 refine ⟨⟨[_],h4⟩,?_⟩
 refine Zo [6,7,8,9,10] ?_
 refine Zt [0,1,8,9] ?_
 refine T4 (T4 (Za [0,1,8,9,26] ?_))
 refine jIf H (fun c2 H=>?_) fun c2 H=>?_
 ·refine T4 (Za [6] ?_)
  have h5:=sO h4 [1,1,1,1,1,1,1,1,1,1,1,1]
  replace h5:=nf h5
  cases H
  exact T3 (jR ⟨_,_,_,_,_,_,_,_,_,_,rfl,rfl⟩ h5 [0,0,0,0,0,0,0,0,0,0,0,0])
 refine T5 (T4 (T2 ?_))
 refine Zd 3 ?_
 refine cE H [1,1,1,1,1,1,1,1,1,1,1,1] h4 rfl Q90.spec (X4 (gO 0) Zp) ?_
 rintro r3 w4 _ _ H ⟨A11,c_11,A12,c_12,A13,c_13,A14,c_14,A15,c_15,rfl,rfl⟩ h6
 replace h6:=nf h6
 refine Ze [6] rfl ?_
 have h7:=sO h6 [0,0,0,0,0,0,0,0,0,0,0,0]
 replace h7:=nf h7
 cases H
 exact T3 (jR ⟨_,_,_,_,_,_,_,_,_,_,rfl,rfl⟩ h7 [0,0,0,0,0,0,0,0,0,0,0,0])

def Q15.f (a0:Ti) (a1:Int):Option Th:=(Q23.f a0).bind fun r1=>(if r1=true then (some (1,a0)) else (if (!(Y1 a0.2.2.1 a1))=true then (some (0,a0)) else (if 0≤(Zq (0:Int) a0.2.2.1 a1)∧(Zq (0:Int) a0.2.2.1 a1)<(a0.2.1.length:Int) then (if (decide (0<((gt a0.2.1 (Zq (0:Int) a0.2.2.1 a1)).2.2.2)))=true then (some (8,a0)) else ((Q22.f a0 (Zq (0:Int) a0.2.2.1 a1)).bind fun r2=>(some (0,r2)))) else none)))
theorem Q15.spec {a0 a1 b1 b2 b3 b4 A1 c_1 A2 c_2 A3 c_3 A4 c_4 r} (H:Q15.f a0 a1=some r) :
  Spec Tryz.prog 94 [.pointer (some ⟨b1,0,none⟩),.int .u32 a1] (Wf a0 b1 b2 b3 b4 A1 A2 A3 A4 c_1 c_2 c_3 c_4) [] (fun v l=>∃ A_0 c_0 A_1 c_1 A_2 c_2 A_3 c_3,v=.int .i64 r.1∧l=Wf r.2 b1 b2 b3 b4 A_0 A_1 A_2 A_3 c_0 c_1 c_2 c_3):=by
 refine Zi Tryz.func94 fun w0 F0 h0=>?_
 replace h0:=nf h0
 unfold Q15.f at H
 refine T4 (Za [0,1] ?_)
 refine T4 (T4 (T2 ?_))
 refine Zd 1 ?_
 refine cS H [0,0,0,0,0,0,0,0] h0 rfl Q23.spec Zp fun r1 w1 H h1=>?_
 refine Ze [0,1,8] rfl ?_
 refine jIf H (fun c1 H=>?_) fun c1 H=>?_
 ·refine T4 (Za [4] ?_)
  cases H
  exact T3 (jR ⟨_,_,_,_,_,_,_,_,rfl,rfl⟩ h1 [0,0,0,0,0,0,0,0])
 refine T5 (T4 (T2 ?_))
 refine Zd 3 ?_
 refine Zc (Zb 0 h1.wht) ?_
 refine Zd 1 ?_
 refine Zc (Wa (0:Int) 4 h1.wht) ?_
 refine Ze [0,5,6] rfl ?_
 refine T4 (TW (T4 (Za [0,5,18] ?_)))
 refine jIf H (fun c2 H=>?_) fun c2 H=>?_
 ·refine T4 (Za [4] ?_)
  cases H
  exact T3 (jR ⟨_,_,_,_,_,_,_,_,rfl,rfl⟩ h1 [0,0,0,0,0,0,0,0])
 refine T4 (T2 ?_)
 refine Zd 3 ?_
 refine Zc (Zb 0 h1.wht) ?_
 refine Zd 1 ?_
 obtain ⟨⟨p1,p2⟩,H⟩:=Zl H
 have e1:=Zx h1.wh (gO 3) p1 p2
 refine Zc (Zg e1 p1 p2) ?_
 refine Zd 1 ?_
 refine Zc (Yn 3 h1.wht (gO 3) p1 p2) ?_
 refine Ze [0,5,21] rfl ?_
 refine jIf H (fun c3 H=>?_) fun c3 H=>?_
 ·refine T4 (Za [4] ?_)
  cases H
  exact T3 (jR ⟨_,_,_,_,_,_,_,_,rfl,rfl⟩ h1 [0,0,0,0,0,0,0,0])
 refine T5 (T4 (T2 ?_))
 refine Zd 2 ?_
 refine cE H [0,0,0,0,0,0,0,0] h1 rfl Q22.spec Zp ?_
 rintro r2 w2 _ _ H ⟨A5,c_5,A6,c_6,A7,c_7,A8,c_8,rfl,rfl⟩ h2
 replace h2:=nf h2
 refine Ze [] rfl ?_
 refine T4 (Za [4] ?_)
 cases H
 exact T3 (jR ⟨_,_,_,_,_,_,_,_,rfl,rfl⟩ h2 [0,0,0,0,0,0,0,0])

def Q82.f (a0:Tc) (a1:Int):Option Tb:=(Q92.f a0 a1).bind fun r1=>(if (!decide (r1=0))=true then (some (r1,a0)) else (if (decide (a1=a0.2.2.2))=true then (some (8,a0)) else ((Q74.f a0.2.2.1 a1).bind fun r2=>(if (!decide (r2.1=0))=true then (some (r2.1,(a0.1,a0.2.1,r2.2,a0.2.2.2))) else ((Q15.f a0.2.1 a1).bind fun r3=>(some (r3.1,(a0.1,r3.2,r2.2,a0.2.2.2))))))))
theorem Q82.spec {a0 a1 b1 b2 b3 b4 b5 b6 b7 A1 c_1 A2 c_2 A3 c_3 A4 c_4 A5 c_5 r} (H:Q82.f a0 a1=some r) :
  Spec Tryz.prog 41 [.pointer (some ⟨b1,0,none⟩),.int .u32 a1] (X9 a0 b1 b2 b3 b4 b5 b6 b7 A1 A2 A3 A4 A5 c_1 c_2 c_3 c_4 c_5) [] (fun v l=>∃ A_0 c_0 A_1 c_1 A_2 c_2 A_3 c_3 A_4 c_4,v=.int .i64 r.1∧l=X9 r.2 b1 b2 b3 b4 b5 b6 b7 A_0 A_1 A_2 A_3 A_4 c_0 c_1 c_2 c_3 c_4):=by
 refine Zi Tryz.func41 fun w0 F0 h0=>?_
 replace h0:=nf h0
 unfold Q82.f at H
 refine T4 (Za [0,1] ?_)
 refine T4 (T4 (T2 ?_))
 refine Zd 2 ?_
 refine cS H [0,0,0,0,0,0,0,0,0,0,0,0] h0 rfl Q92.spec Zp fun r1 w1 H h1=>?_
 refine Ze [0,1,5] rfl ?_
 refine T4 (Za [0,1,5,11] ?_)
 refine jIf H (fun c1 H=>?_) fun c1 H=>?_
 ·refine T4 (Za [4] ?_)
  cases H
  exact T3 (jR ⟨_,_,_,_,_,_,_,_,_,_,rfl,rfl⟩ h1 [0,0,0,0,0,0,0,0,0,0,0,0])
 refine T5 (T4 (T4 (T2 ?_)))
 refine Zd 4 ?_
 refine Zc (Zb 0 h1.wht) ?_
 refine Ze [0,1,18] rfl ?_
 refine jIf H (fun c2 H=>?_) fun c2 H=>?_
 ·refine T4 (Za [4] ?_)
  cases H
  exact T3 (jR ⟨_,_,_,_,_,_,_,_,_,_,rfl,rfl⟩ h1 [0,0,0,0,0,0,0,0,0,0,0,0])
 refine T5 (T4 (T4 (T2 ?_)))
 refine Zd 3 ?_
 refine Zc (Zb 0 h1.wht) ?_
 refine Zd 1 ?_
 refine cE H [9,9,9] h1 rfl Q74.spec Zp ?_
 rintro r2 w2 _ _ H ⟨A6,c_6,rfl,rfl⟩ h2
 replace h2:=nf h2
 refine Ze [0,1,6] rfl ?_
 refine T4 (Za [0,1,6,26] ?_)
 refine jIf H (fun c3 H=>?_) fun c3 H=>?_
 ·refine T4 (Za [4] ?_)
  cases H
  exact T3 (jR ⟨_,_,_,_,_,_,_,_,_,_,rfl,rfl⟩ h2 [3,3,3,3,3,3,3,3,3,0,0,0])
 refine T5 (T4 (T2 ?_))
 refine Zd 3 ?_
 refine Zc (Zb 3 h2.wht) ?_
 refine Zd 1 ?_
 refine cE H [4,4,4,4,4,4,4,4] h2 rfl Q15.spec Zp ?_
 rintro r3 w3 _ _ H ⟨A7,c_7,A8,c_8,A9,c_9,A10,c_10,rfl,rfl⟩ h3
 replace h3:=nf h3
 refine Ze [4] rfl ?_
 cases H
 exact T3 (jR ⟨_,_,_,_,_,_,_,_,_,_,rfl,rfl⟩ h3 [11,0,0,0,0,0,0,0,0,0,0,0])

def Q77.f (a0:TE) (a1:Int):Option (Int×TE):=(Q79.f a0).bind fun r1=>(if r1=true then (some (1,a0)) else ((Q8.f a0 (w64 (a1))).bind fun r2=>(some r2)))
theorem Q77.spec {a0 a1 b1 b2 A1 c_1 r} (H:Q77.f a0 a1=some r) :
  Spec Tryz.prog 95 [.pointer (some ⟨b1,0,none⟩),.int .u32 a1] (Ui a0 b1 b2 A1 c_1) [] (fun v l=>∃ A_0 c_0,v=.int .i64 r.1∧l=Ui r.2 b1 b2 A_0 c_0):=by
 refine Zi Tryz.func95 fun w0 F0 h0=>?_
 replace h0:=nf h0
 unfold Q77.f at H
 refine T4 (Za [0,1] ?_)
 refine T4 (T4 (T2 ?_))
 refine Zd 1 ?_
 refine cS H [0,0,0] h0 rfl Q79.spec Zp fun r1 w1 H h1=>?_
 refine Ze [0,1,6] rfl ?_
 refine jIf H (fun c1 H=>?_) fun c1 H=>?_
 ·refine T4 (Za [4] ?_)
  cases H
  exact T3 (jR ⟨_,_,rfl,rfl⟩ h1 [0,0,0])
 refine T5 (T4 (T2 ?_))
 refine Zd 3 ?_
 refine Zc (Zb 0 h1.wht) ?_
 refine Zd 2 ?_
 refine cE H [1,1] h1 rfl Q8.spec Zp ?_
 rintro r2 w2 _ _ H ⟨A2,c_2,rfl,rfl⟩ h2
 replace h2:=nf h2
 refine Ze [4] rfl ?_
 cases H
 exact T3 (jR ⟨_,_,rfl,rfl⟩ h2 [2,0,0])

def Q88.f (a0:Tc) (a1:Int):Option Tb:=(Q92.f a0 a1).bind fun r1=>(if (!decide (r1=0))=true then (some (r1,a0)) else ((Q77.f a0.2.2.1 a1).bind fun r2=>(some (r2.1,(a0.1,a0.2.1,r2.2,a0.2.2.2)))))
theorem Q88.spec {a0 a1 b1 b2 b3 b4 b5 b6 b7 A1 c_1 A2 c_2 A3 c_3 A4 c_4 A5 c_5 r} (H:Q88.f a0 a1=some r) :
  Spec Tryz.prog 42 [.pointer (some ⟨b1,0,none⟩),.int .u32 a1] (X9 a0 b1 b2 b3 b4 b5 b6 b7 A1 A2 A3 A4 A5 c_1 c_2 c_3 c_4 c_5) [] (fun v l=>∃ A_0 c_0 A_1 c_1 A_2 c_2 A_3 c_3 A_4 c_4,v=.int .i64 r.1∧l=X9 r.2 b1 b2 b3 b4 b5 b6 b7 A_0 A_1 A_2 A_3 A_4 c_0 c_1 c_2 c_3 c_4):=by
 refine Zi Tryz.func42 fun w0 F0 h0=>?_
 replace h0:=nf h0
 unfold Q88.f at H
 refine T4 (Za [0,1] ?_)
 refine T4 (T4 (T2 ?_))
 refine Zd 2 ?_
 refine cS H [0,0,0,0,0,0,0,0,0,0,0,0] h0 rfl Q92.spec Zp fun r1 w1 H h1=>?_
 refine Ze [0,1,5] rfl ?_
 refine T4 (Za [0,1,5,10] ?_)
 refine jIf H (fun c1 H=>?_) fun c1 H=>?_
 ·refine T4 (Za [4] ?_)
  cases H
  exact T3 (jR ⟨_,_,_,_,_,_,_,_,_,_,rfl,rfl⟩ h1 [0,0,0,0,0,0,0,0,0,0,0,0])
 refine T5 (T4 (T2 ?_))
 refine Zd 3 ?_
 refine Zc (Zb 0 h1.wht) ?_
 refine Zd 1 ?_
 refine cE H [9,9,9] h1 rfl Q77.spec Zp ?_
 rintro r2 w2 _ _ H ⟨A6,c_6,rfl,rfl⟩ h2
 replace h2:=nf h2
 refine Ze [4] rfl ?_
 cases H
 exact T3 (jR ⟨_,_,_,_,_,_,_,_,_,_,rfl,rfl⟩ h2 [3,3,3,3,3,3,3,3,3,0,0,0])

def Q84.f (a0:Tc) (a1:Int):Option Tb:=if (!decide (a1=0))=true then ((Q92.f a0 a1).bind fun r1=>(if (!decide (r1=0))=true then (some (r1,a0)) else ((Q91.f a0).bind fun r2=>(if (!decide (r2=0))=true then (some (r2,a0)) else (if (decide (a1=a0.2.2.2))=true then (some (r2,a0)) else ((Q18.f a0.2.1 a1).bind fun r3=>(if (!decide (r3.1=0))=true then (some (r3.1,(a0.1,r3.2,a0.2.2.1,a0.2.2.2))) else (if (!decide (a0.2.2.2=0))=true then ((Q20.f r3.2 a0.2.2.2).bind fun r4=>(some (0,(a0.1,r4.2,a0.2.2.1,a1)))) else (some (0,(a0.1,r3.2,a0.2.2.1,a1))))))))))) else ((Q91.f a0).bind fun r5=>(if (!decide (r5=0))=true then (some (r5,a0)) else (if (decide (a1=a0.2.2.2))=true then (some (r5,a0)) else (if (!decide (a0.2.2.2=0))=true then ((Q20.f a0.2.1 a0.2.2.2).bind fun r6=>(some (0,(a0.1,r6.2,a0.2.2.1,a1)))) else (some (0,(a0.1,a0.2.1,a0.2.2.1,a1)))))))
theorem Q84.spec {a0 a1 b1 b2 b3 b4 b5 b6 b7 A1 c_1 A2 c_2 A3 c_3 A4 c_4 A5 c_5 r} (H:Q84.f a0 a1=some r) :
  Spec Tryz.prog 43 [.pointer (some ⟨b1,0,none⟩),.int .u32 a1] (X9 a0 b1 b2 b3 b4 b5 b6 b7 A1 A2 A3 A4 A5 c_1 c_2 c_3 c_4 c_5) [] (fun v l=>∃ A_0 c_0 A_1 c_1 A_2 c_2 A_3 c_3 A_4 c_4,v=.int .i64 r.1∧l=X9 r.2 b1 b2 b3 b4 b5 b6 b7 A_0 A_1 A_2 A_3 A_4 c_0 c_1 c_2 c_3 c_4):=by
 refine Zi Tryz.func43 fun w0 F0 h0=>?_
 replace h0:=nf h0
 unfold Q84.f at H
 refine T4 (Za [0,1] ?_)
 refine T4 (T4 (Za [0,1,9] ?_))
 refine jIf H (fun c1 H=>?_) fun c1 H=>?_
 ·refine T4 (T2 ?_)
  refine Zd 2 ?_
  refine cS H [0,0,0,0,0,0,0,0,0,0,0,0] h0 rfl Q92.spec Zp fun r1 w1 H h1=>?_
  refine Ze [0,1,5] rfl ?_
  refine T4 (Za [0,1,5,14] ?_)
  refine jIf H (fun c2 H=>?_) fun c2 H=>?_
  ·refine T4 (Za [4] ?_)
   cases H
   exact T3 (jR ⟨_,_,_,_,_,_,_,_,_,_,rfl,rfl⟩ h1 [0,0,0,0,0,0,0,0,0,0,0,0])
  refine T5 (T4 (T4 (T2 ?_)))
  refine Zd 1 ?_
  refine cS H [0,0,0,0,0,0,0,0,0,0,0,0] h1 rfl Q91.spec Zp fun r2 w2 H h2=>?_
  refine Ze [0,1,6] rfl ?_
  refine T4 (T2 ?_)
  refine Zd 3 ?_
  refine Z7 20 H (fun c3 H=>?_) fun c3 H=>?_
  ·refine Ze [0,1,6,27] rfl ?_
   refine Zn ?_
   refine T4 (Za [4] ?_)
   cases H
   exact T3 (jR ⟨_,_,_,_,_,_,_,_,_,_,rfl,rfl⟩ h2 [0,0,0,0,0,0,0,0,0,0,0,0])
  refine Zd 4 ?_
  refine Zc (Zb 0 h2.wht) ?_
  refine Ze [0,1,6,27] rfl ?_
  refine jIf H (fun c4 H=>?_) fun c4 H=>?_
  ·refine T4 (Za [4] ?_)
   cases H
   exact T3 (jR ⟨_,_,_,_,_,_,_,_,_,_,rfl,rfl⟩ h2 [0,0,0,0,0,0,0,0,0,0,0,0])
  refine T5 (T4 (T4 (Za [0,1,30] ?_)))
  refine TX rfl (fun e=>?_) (fun e=>by rw [c1] at e; cases e)
  refine T4 (T2 ?_)
  refine Zd 3 ?_
  refine Zc (Zb 0 h2.wht) ?_
  refine Zd 1 ?_
  refine cE H [1,1,1,1,1,1,1,1] h2 rfl Q18.spec Zp ?_
  rintro r3 w3 _ _ H ⟨A6,c_6,A7,c_7,A8,c_8,A9,c_9,rfl,rfl⟩ h3
  replace h3:=nf h3
  refine Ze [0,1,7] rfl ?_
  refine T4 (Za [0,1,7,38] ?_)
  refine jIf H (fun c5 H=>?_) fun c5 H=>?_
  ·refine T4 (Za [4] ?_)
   cases H
   exact T3 (jR ⟨_,_,_,_,_,_,_,_,_,_,rfl,rfl⟩ h3 [8,0,0,0,0,0,0,0,0,0,0,0])
  refine T5 (T4 (T4 (T2 ?_)))
  refine Zd 3 ?_
  refine Zc (Zb 8 h3.wht) ?_
  refine Ze [0,1,44] rfl ?_
  refine jIf H (fun c6 H=>?_) fun c6 H=>?_
  ·refine Zw (sO h3 [8,8,8,8]) ?_
   have h4:=h3.drew
   refine Zo [0,1,2,4,5,6] ?_
   refine Zf 3 rfl (Zb 0 wI) ?_
   refine Zf 7 rfl (Zb 0 wI) ?_
   refine cEJ 8 rfl H [0,0,0,0,0,0,0,0] h4 rfl Q20.spec Zp ?_
   rintro r4 w4 _ _ H ⟨A10,c_10,A11,c_11,A12,c_12,A13,c_13,rfl,rfl⟩ h5
   replace h5:=nf h5
   refine ⟨⟨[_,_,_,_,_,_,_,_],h5⟩,?_⟩
   refine Zt [0,1] ?_
   refine T4 (T2 ?_)
   refine Zd 4 ?_
   refine rS (Zs 8 h5) fun _ w5 h6=>?_
   refine Ze [] rfl ?_
   refine T4 (Za [4] ?_)
   cases H
   exact T3 (jR ⟨_,_,_,_,_,_,_,_,_,_,rfl,rfl⟩ h6 [0,0,0,0,0,0,0,0,0,0,0,0])
  refine T5 (T4 (T2 ?_))
  refine Zd 4 ?_
  refine rS (Zs 8 h3) fun _ w6 h7=>?_
  refine Ze [] rfl ?_
  refine T4 (Za [4] ?_)
  cases H
  exact T3 (jR ⟨_,_,_,_,_,_,_,_,_,_,rfl,rfl⟩ h7 [0,0,0,0,0,0,0,0,0,0,0,0])
 refine T5 (T4 (T4 (T2 ?_)))
 refine Zd 1 ?_
 refine cS H [0,0,0,0,0,0,0,0,0,0,0,0] h0 rfl Q91.spec Zp fun r5 w7 H h8=>?_
 refine Ze [0,1,6] rfl ?_
 refine T4 (T2 ?_)
 refine Zd 3 ?_
 refine Z7 20 H (fun c7 H=>?_) fun c7 H=>?_
 ·refine Ze [0,1,6,27] rfl ?_
  refine Zn ?_
  refine T4 (Za [4] ?_)
  cases H
  exact T3 (jR ⟨_,_,_,_,_,_,_,_,_,_,rfl,rfl⟩ h8 [0,0,0,0,0,0,0,0,0,0,0,0])
 refine Zd 4 ?_
 refine Zc (Zb 0 h8.wht) ?_
 refine Ze [0,1,6,27] rfl ?_
 refine jIf H (fun c8 H=>?_) fun c8 H=>?_
 ·refine T4 (Za [4] ?_)
  cases H
  exact T3 (jR ⟨_,_,_,_,_,_,_,_,_,_,rfl,rfl⟩ h8 [0,0,0,0,0,0,0,0,0,0,0,0])
 refine T5 (T4 (T4 (Za [0,1,30] ?_)))
 refine TX rfl (fun e=>by rw [c1] at e; cases e) (fun e=>?_)
 refine T5 (T4 (T4 (T2 ?_)))
 refine Zd 3 ?_
 refine Zc (Zb 0 h8.wht) ?_
 refine Ze [0,1,44] rfl ?_
 refine jIf H (fun c9 H=>?_) fun c9 H=>?_
 ·refine Zw (sO h8 [0,8,8,8]) ?_
  have h9:=h8.drew
  refine Zo [0,1,2,4,5,6] ?_
  refine Zf 3 rfl (Zb 0 wI) ?_
  refine Zf 7 rfl (Zb 0 wI) ?_
  refine cEJ 8 rfl H [1,1,1,1,1,1,1,1] h9 rfl Q20.spec Zp ?_
  rintro r6 w8 _ _ H ⟨A14,c_14,A15,c_15,A16,c_16,A17,c_17,rfl,rfl⟩ h10
  replace h10:=nf h10
  refine ⟨⟨[_,_,_,_,_,_,_,_],h10⟩,?_⟩
  refine Zt [0,1] ?_
  refine T4 (T2 ?_)
  refine Zd 4 ?_
  refine rS (Zs 8 h10) fun _ w9 h11=>?_
  refine Ze [] rfl ?_
  refine T4 (Za [4] ?_)
  cases H
  exact T3 (jR ⟨_,_,_,_,_,_,_,_,_,_,rfl,rfl⟩ h11 [0,0,0,0,0,0,0,0,0,0,0,0])
 refine T5 (T4 (T2 ?_))
 refine Zd 4 ?_
 refine rS (Zs 0 h8) fun _ w10 h12=>?_
 refine Ze [] rfl ?_
 refine T4 (Za [4] ?_)
 cases H
 exact T3 (jR ⟨_,_,_,_,_,_,_,_,_,_,rfl,rfl⟩ h12 [0,0,0,0,0,0,0,0,0,0,0,0])

end Go.SK.T
