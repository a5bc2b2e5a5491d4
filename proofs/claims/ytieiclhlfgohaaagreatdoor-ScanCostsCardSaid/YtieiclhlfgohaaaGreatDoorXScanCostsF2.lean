/- The functions, further. -/
import Derived.Test.YtieiclhlfgohaaaGreatDoorXScanCostsF1
set_option linter.unusedVariables false
set_option linter.unusedSimpArgs false
set_option maxRecDepth 20000
set_option maxHeartbeats 40000000
namespace Go.SK.T
open Go Go.SK Go.Proofs
open BitVec (ofInt)
open List (length_set length_nil append_assoc length_cons drop_eq_nil_of_le length_take length_drop length_map length_range length_replicate)
open Tryz (prog)
def Q21.f (a0:Ti) (a1:Int):Option Th:=(Q24.f a0).bind fun r1=>(if r1=true then (some (1,a0)) else (if (!(Y7 a0.2.2.1 a1))=true then (some (8,a0)) else (if 0<=(Zq (0:Int) a0.2.2.1 a1)/\(Zq (0:Int) a0.2.2.1 a1)<(a0.2.1.length:Int) then (if (decide (((gt a0.2.1 (Zq (0:Int) a0.2.2.1 a1)).2.2.2)=0))=true then (some (8,a0)) else (if (decide (((gt (a0.2.1.set (Zq (0:Int) a0.2.2.1 a1).toNat ((gt a0.2.1 (Zq (0:Int) a0.2.2.1 a1)).1,(gt a0.2.1 (Zq (0:Int) a0.2.2.1 a1)).2.1,(gt a0.2.1 (Zq (0:Int) a0.2.2.1 a1)).2.2.1,(w64 (((gt a0.2.1 (Zq (0:Int) a0.2.2.1 a1)).2.2.2) - 1)))) (Zq (0:Int) a0.2.2.1 a1)).2.2.2)=0))=true then ((Q28.f a0.2.2.2.2 (Zq (0:Int) a0.2.2.1 a1)).bind fun r2=>(some (0,(a0.1,(a0.2.1.set (Zq (0:Int) a0.2.2.1 a1).toNat ((gt a0.2.1 (Zq (0:Int) a0.2.2.1 a1)).1,(gt a0.2.1 (Zq (0:Int) a0.2.2.1 a1)).2.1,(gt a0.2.1 (Zq (0:Int) a0.2.2.1 a1)).2.2.1,(w64 (((gt a0.2.1 (Zq (0:Int) a0.2.2.1 a1)).2.2.2) - 1)))),a0.2.2.1,a0.2.2.2.1,r2.2)))) else (some (0,(a0.1,(a0.2.1.set (Zq (0:Int) a0.2.2.1 a1).toNat ((gt a0.2.1 (Zq (0:Int) a0.2.2.1 a1)).1,(gt a0.2.1 (Zq (0:Int) a0.2.2.1 a1)).2.1,(gt a0.2.1 (Zq (0:Int) a0.2.2.1 a1)).2.2.1,(w64 (((gt a0.2.1 (Zq (0:Int) a0.2.2.1 a1)).2.2.2) - 1)))),a0.2.2.1,a0.2.2.2.1,a0.2.2.2.2))))) else none)))
theorem Q21.spec {a0 a1 b1 b2 b3 b4 A1 c_1 A2 c_2 A3 c_3 A4 c_4 r} (H:Q21.f a0 a1=some r) :
  Spec prog 33 [.pointer (some ⟨b1,0,none⟩),.int .u32 a1] (Ua a0 b1 b2 b3 b4 A1 A2 A3 A4 c_1 c_2 c_3 c_4) [] (fun v l=>∃ A_0 c_0 A_1 c_1 A_2 c_2 A_3 c_3,v=.int .i64 r.1/\l=Ua r.2 b1 b2 b3 b4 A_0 A_1 A_2 A_3 c_0 c_1 c_2 c_3):=by
 refine Zf Tryz.func33 fun w0 F0 h0=>?_
 replace h0:=nf h0
 unfold Q21.f at H
 refine T8 (Za [0,1] ?_)
 refine T8 (T6 (Ze 2 ?_))
 refine Xf Tryz.func60 ?_
 refine T8 (Za [0,1] ?_)
 refine T8 (T8 (T6 (Ze 1 ?_)))
 refine cS H [0,0,0,0,0,0,0,0] h0 rfl Q24.spec Zm fun r1 w1 H h1=>?_
 refine rFi [0,1,9] ?_
 refine jIf H (fun c1 H=>?_) fun c1 H=>?_
 ·refine T8 (Za [4,5] ?_)
  refine T7 (⟨_,Zk,?_⟩)
  refine rFi [0,1,5,6] ?_
  refine T8 (T8 (Za [0,1,5,6,14] ?_))
  refine Zo ?_
  refine T8 (Za [4] ?_)
  cases H
  exact T7 (jR ⟨_,_,_,_,_,_,_,_,rfl,rfl⟩ h1 [0,0,0,0,0,0,0,0])
 refine T9 (T8 (T6 (rRL 3 0 h1 ?_)))
 refine Ze 1 ?_
 refine Zj (W9 (0:Int) 4 h1.wht) ?_
 refine rFi [0,6,7] ?_
 refine T8 (T8 (T6 (Ze 3 ?_)))
 refine Z7 21 H (fun c2 H=>?_) fun c2 H=>?_
 ·refine rFi [0,6,31] ?_
  refine Zo ?_
  refine T8 (Za [4,5] ?_)
  refine T7 (⟨_,Zk,?_⟩)
  refine rFi [0,1,5,6] ?_
  refine T8 (T8 (Za [0,1,5,6,14] ?_))
  refine Zo ?_
  refine T8 (Za [4] ?_)
  cases H
  exact T7 (jR ⟨_,_,_,_,_,_,_,_,rfl,rfl⟩ h1 [0,0,0,0,0,0,0,0])
 refine rRL 3 0 h1 ?_
 refine Ze 1 ?_
 obtain ⟨⟨p1,p2⟩,H⟩:=Zh H
 have e1:=Zy h1.wh (gO 3) p1 p2
 refine Zj (Zc e1 p1 p2) ?_
 refine Ze 1 ?_
 refine Zj (Xa 3 h1.wht (gO 3) p1 p2) ?_
 refine rFi [0,6,31] ?_
 refine jIf H (fun c3 H=>?_) fun c3 H=>?_
 ·refine T8 (Za [4,5] ?_)
  refine T7 (⟨_,Zk,?_⟩)
  refine rFi [0,1,5,6] ?_
  refine T8 (T8 (Za [0,1,5,6,14] ?_))
  refine Zo ?_
  refine T8 (Za [4] ?_)
  cases H
  exact T7 (jR ⟨_,_,_,_,_,_,_,_,rfl,rfl⟩ h1 [0,0,0,0,0,0,0,0])
 refine T9 (T8 (T6 (rRL 3 0 h1 ?_)))
 refine Ze 1 ?_
 refine Zj (Zc e1 p1 p2) ?_
 refine rFi [4,5] ?_
 refine T7 (⟨_,Zk,?_⟩)
 refine rFi [0,1,5,6] ?_
 refine T8 (T8 (Za [0,1,5,6,14] ?_))
 refine Z1 ?_
 refine T9 (T8 (T6 (Ze 3 ?_)))
 refine Zj (Xa 3 h1.wht (gO 3) p1 p2) ?_
 refine Ze 3 ?_
 refine rS (Vg 3 (.pair (.int .u32) (.pair (.slice 5 (.int .u8)) (.pair .bool (.int .i64)))) (Zq (0:Int) a0.2.2.1 a1) ((gt a0.2.1 (Zq (0:Int) a0.2.2.1 a1)).1,(gt a0.2.1 (Zq (0:Int) a0.2.2.1 a1)).2.1,(gt a0.2.1 (Zq (0:Int) a0.2.2.1 a1)).2.2.1,(w64 (((gt a0.2.1 (Zq (0:Int) a0.2.2.1 a1)).2.2.2) - 1))) 3 h1 rfl p1 p2 (Zaz rfl rfl)) fun _ w2 h2=>?_
 replace h2:St w0 F0 [Xo (a0.2.1.set (Zq (0:Int) a0.2.2.1 a1).toNat ((gt a0.2.1 (Zq (0:Int) a0.2.2.1 a1)).1,(gt a0.2.1 (Zq (0:Int) a0.2.2.1 a1)).2.1,(gt a0.2.1 (Zq (0:Int) a0.2.2.1 a1)).2.2.1,(w64 (((gt a0.2.1 (Zq (0:Int) a0.2.2.1 a1)).2.2.2) - 1)))) A2 c_2,Xp b1 (.pointer (some ⟨b2,0,none⟩)) (a0.2.1.set (Zq (0:Int) a0.2.2.1 a1).toNat ((gt a0.2.1 (Zq (0:Int) a0.2.2.1 a1)).1,(gt a0.2.1 (Zq (0:Int) a0.2.2.1 a1)).2.1,(gt a0.2.1 (Zq (0:Int) a0.2.2.1 a1)).2.2.1,(w64 (((gt a0.2.1 (Zq (0:Int) a0.2.2.1 a1)).2.2.2) - 1)))) A2 c_2 (.map (some b3)) a0.2.2.2.1 A3 c_3 (.pointer (some ⟨b4,0,none⟩)),Xc b2 a0.1.1 a0.1.2.1 A1 c_1 a0.1.2.2.1 a0.1.2.2.2,O5 a0.1.2.1 A1 c_1,Y5 .u32 (Value.int .i64) b3 a0.2.2.1,O3 a0.2.2.2.1 A3 c_3,Yw b4 a0.2.2.2.2.1 A4 c_4 a0.2.2.2.2.2,Yx a0.2.2.2.2.1 A4 c_4] _ _:=h2.retell (by simp only [length_set,length_nil,Xo,Yx,O3,O5,Xp,Xc,Yw] <;> rfl)
 refine rFi [0,1,5] ?_
 refine T8 (T8 (T6 (Ze 3 ?_)))
 refine Zj (Xa 3 h2.wht (gO 0) p1 (by simpa only [length_set] using p2)) ?_
 refine rFi [0,1,27] ?_
 refine jIf H (fun c4 H=>?_) fun c4 H=>?_
 ·refine Zv (sO h2 [0,0,0,0,0,0]) ?_
  have h3:=h2.drew
  refine Zr [0,1,2,4,5,6,8] ?_
  refine Zb 3 rfl (Zi 1 wI) ?_
  refine Zb 7 rfl (Zi 1 wI) ?_
  refine Zb 9 rfl (Zji (0:Int) 4 wI) ?_
  refine cEJ 10 rfl H [6,6] h3 rfl Q28.spec Zm ?_
  rintro r2 w3 _ _ H ⟨A5,c_5,rfl,rfl⟩ h4
  replace h4:=nf h4
  refine ⟨⟨[_,_],h4⟩,?_⟩
  refine Y6 [] ?_
  refine T8 (Za [4] ?_)
  cases H
  exact T7 (jR ⟨_,_,_,_,_,_,_,_,rfl,rfl⟩ h4 [3,3,3,2,2,2,0,0])
 refine T9 (T8 (Za [4] ?_))
 cases H
 exact T7 (jR ⟨_,_,_,_,_,_,_,_,rfl,rfl⟩ h2 [1,1,1,0,0,0,0,0])

def Q93.f (a0:Tg) (a1:Int) (a2:TW):Option Tf:=if (decide (a1=a0.2.2.2))=true then ((Q22.f a0.2.1 a1 a2).bind fun r1=>(some (r1.1,(a0.1,r1.2,a0.2.2.1,a0.2.2.2)))) else ((Q18.f a0.2.1 a1).bind fun r2=>(if (!decide (r2.1=0))=true then (some (r2.1,(a0.1,r2.2,a0.2.2.1,a0.2.2.2))) else ((Q22.f r2.2 a1 a2).bind fun r3=>((Q21.f r3.2 a1).bind fun r4=>(some (r3.1,(a0.1,r4.2,a0.2.2.1,a0.2.2.2)))))))
theorem Q93.spec {a0 a1 a2 A6 c_6 b1 b2 b3 b4 b5 b6 b7 A1 c_1 A2 c_2 A3 c_3 A4 c_4 A5 c_5 r} (H:Q93.f a0 a1 a2=some r) :
  Spec prog 36 [.pointer (some ⟨b1,0,none⟩),.int .u32 a1,.slice A6 a2.length c_6] (Ub a0 b1 b2 b3 b4 b5 b6 b7 A1 A2 A3 A4 A5 c_1 c_2 c_3 c_4 c_5) [R5 a2 A6 c_6] (fun v l=>∃ A_0 c_0 A_1 c_1 A_2 c_2 A_3 c_3 A_4 c_4,v=.int .i64 r.1/\l=Ub r.2 b1 b2 b3 b4 b5 b6 b7 A_0 A_1 A_2 A_3 A_4 c_0 c_1 c_2 c_3 c_4):=by
 refine Zf Tryz.func36 fun w0 F0 h0=>?_
 replace h0:=nf h0
 unfold Q93.f at H
 refine T8 (Za [0,1,2] ?_)
 refine T8 (T8 (T6 (rRL 4 0 h0 ?_)))
 refine rFi [0,1,2,14] ?_
 refine jIf H (fun c1 H=>?_) fun c1 H=>?_
 ·refine T8 (T6 (rRL 3 0 h0 ?_))
  refine Ze 2 ?_
  refine cE H [1,1,1,1,1,1,1,1] h0 rfl Q22.spec (gS [4]) ?_
  rintro r1 w1 _ _ H ⟨A7,c_7,A8,c_8,A9,c_9,A10,c_10,rfl,rfl⟩ h1
  replace h1:=nf h1
  refine rFi [6] ?_
  cases H
  exact T7 (jR ⟨_,_,_,_,_,_,_,_,_,_,rfl,rfl⟩ h1 [8,0,0,0,0,0,0,0,0,0,0,0])
 refine T9 (T8 (T8 (T6 (rRL 3 0 h0 ?_))))
 refine Ze 1 ?_
 refine cE H [1,1,1,1,1,1,1,1] h0 rfl Q18.spec Zm ?_
 rintro r2 w2 _ _ H ⟨A11,c_11,A12,c_12,A13,c_13,A14,c_14,rfl,rfl⟩ h2
 replace h2:=nf h2
 refine rFi [0,1,2,7] ?_
 refine T8 (Za [0,1,2,7,29] ?_)
 refine jIf H (fun c2 H=>?_) fun c2 H=>?_
 ·refine T8 (Za [6] ?_)
  cases H
  exact T7 (jR ⟨_,_,_,_,_,_,_,_,_,_,rfl,rfl⟩ h2 [8,0,0,0,0,0,0,0,0,0,0,0])
 refine T9 (T8 (T6 (rRL 3 8 h2 ?_)))
 refine Ze 2 ?_
 refine cE H [0,0,0,0,0,0,0,0] h2 rfl Q22.spec (gS [4]) ?_
 rintro r3 w3 _ _ H ⟨A15,c_15,A16,c_16,A17,c_17,A18,c_18,rfl,rfl⟩ h3
 replace h3:=nf h3
 refine rFi [0,1,8] ?_
 refine T8 (T6 (rRL 3 8 h3 ?_))
 refine Ze 1 ?_
 refine cE H [0,0,0,0,0,0,0,0] h3 rfl Q21.spec Zm ?_
 rintro r4 w4 _ _ H ⟨A19,c_19,A20,c_20,A21,c_21,A22,c_22,rfl,rfl⟩ h4
 replace h4:=nf h4
 refine rFi [8] ?_
 refine T8 (Za [6] ?_)
 cases H
 exact T7 (jR ⟨_,_,_,_,_,_,_,_,_,_,rfl,rfl⟩ h4 [8,0,0,0,0,0,0,0,0,0,0,0])

def Q3.f (a0:TJ) (a1:Int):Option (Int×TJ):=(Q10.f a0 a1).bind fun r1=>(if (!decide (r1=0))=true then (some (r1,a0)) else ((Q6.f a0 a1).bind fun r2=>(if (!r2)=true then (some (9,a0)) else (if 0<=(w64 (Int.tdiv a1 64))/\(w64 (Int.tdiv a1 64))<(a0.2.2.length:Int) then (if 0<=(Int.tmod a1 64) then (some (0,(a0.1,(w64 (a0.2.1 - 1)),(a0.2.2.set (w64 (Int.tdiv a1 64)).toNat (uH.wrap (((ofInt uH.bits (gt a0.2.2 (w64 (Int.tdiv a1 64))) &&& ~~~(ofInt uH.bits (uH.wrap ((1:Int)*2 ^ (min (Int.tmod a1 64).toNat 64))))).toNat:Int))))))) else none) else none))))
theorem Q3.spec {a0 a1 b1 A1 c_1 r} (H:Q3.f a0 a1=some r) :
  Spec prog 132 [.pointer (some ⟨b1,0,none⟩),.int .i64 a1] (Vh a0 b1 A1 c_1) [] (fun v l=>∃ A_0 c_0,v=.int .i64 r.1/\l=Vh r.2 b1 A_0 c_0):=by
 refine Zf Tryz.func132 fun w0 F0 h0=>?_
 replace h0:=nf h0
 unfold Q3.f at H
 refine T8 (Za [0,1] ?_)
 refine T8 (T8 (T6 (Ze 2 ?_)))
 refine cS H [0,0] h0 rfl Q10.spec Zm fun r1 w1 H h1=>?_
 refine rFi [0,1,5] ?_
 refine T8 (Za [0,1,5,10] ?_)
 refine jIf H (fun c1 H=>?_) fun c1 H=>?_
 ·refine T8 (Za [4] ?_)
  cases H
  exact T7 (jR ⟨_,_,rfl,rfl⟩ h1 [0,0])
 refine T9 (T8 (T8 (T6 (Ze 2 ?_))))
 refine cS H [0,0] h1 rfl Q6.spec Zm fun r2 w2 H h2=>?_
 refine rFi [0,1,15] ?_
 refine jIf H (fun c2 H=>?_) fun c2 H=>?_
 ·refine T8 (Za [4] ?_)
  cases H
  exact T7 (jR ⟨_,_,rfl,rfl⟩ h2 [0,0])
 refine T9 (T8 ?_)
 obtain ⟨⟨p1,p2⟩,H⟩:=Zh H
 obtain ⟨p3,H⟩:=Zh H
 refine T5 (fun env w=>env=[(0,.pointer (some ⟨b1,0,none⟩))]/\St w0 F0 [X1 b1 a0.1 a0.2.1 (a0.2.2.set (w64 (Int.tdiv a1 64)).toNat (uH.wrap (((ofInt uH.bits (gt a0.2.2 (w64 (Int.tdiv a1 64))) &&& ~~~(ofInt uH.bits (uH.wrap ((1:Int)*2 ^ (min (Int.tmod a1 64).toNat 64))))).toNat:Int)))) A1 c_1,O63 (a0.2.2.set (w64 (Int.tdiv a1 64)).toNat (uH.wrap (((ofInt uH.bits (gt a0.2.2 (w64 (Int.tdiv a1 64))) &&& ~~~(ofInt uH.bits (uH.wrap ((1:Int)*2 ^ (min (Int.tmod a1 64).toNat 64))))).toNat:Int)))) A1 c_1] [] w) ?_ ?_
 ·refine Zv (sO h2 [0]) ?_
  have h4:=h2.drew
  refine Zr [0,1,2,4,5,8,9] ?_
  refine Zb 3 rfl (Zi 0 wI) ?_
  have e2:=Zy h4.wh (gO 1) p1 p2
  refine Zb 6 rfl (Zc e2 p1 p2) ?_
  refine HJ.named fun G E hE hG=>?_
  have j7:∀ w2,St w0 F0 [X1 b1 a0.1 a0.2.1 a0.2.2 A1 c_1,O63 a0.2.2 A1 c_1] [] w2->G [12,11,10,7,6,3,9,8,5,4,2,1,0] ((28,.pointer (some ⟨blk A1,ofs A1+(w64 (Int.tdiv a1 64)).toNat*1,none⟩)) :: (27,.int .u64 (uH.wrap (((ofInt uH.bits (gt a0.2.2 (w64 (Int.tdiv a1 64))) &&& ~~~(ofInt uH.bits (uH.wrap ((1:Int)*2 ^ (min (Int.tmod a1 64).toNat 64))))).toNat:Int)))) :: (26,.int .u64 (uH.wrap ((1:Int)*2 ^ (min (Int.tmod a1 64).toNat 64)))) :: (23,.int .u64 (gt a0.2.2 (w64 (Int.tdiv a1 64)))) :: E) w2:=by
   intro w2 h4
   subst hE
   refine (hG _ _ _).1 ?_
   refine hS 13 rfl (Zn 0 (.int .u64) (w64 (Int.tdiv a1 64)) (uH.wrap (((ofInt uH.bits (gt a0.2.2 (w64 (Int.tdiv a1 64))) &&& ~~~(ofInt uH.bits (uH.wrap ((1:Int)*2 ^ (min (Int.tmod a1 64).toNat 64))))).toNat:Int))) 1 h4 rfl p1 p2) 1 fun _ w7 h8=>?_
   replace h8:St w0 F0 [O63 (a0.2.2.set (w64 (Int.tdiv a1 64)).toNat (uH.wrap (((ofInt uH.bits (gt a0.2.2 (w64 (Int.tdiv a1 64))) &&& ~~~(ofInt uH.bits (uH.wrap ((1:Int)*2 ^ (min (Int.tmod a1 64).toNat 64))))).toNat:Int)))) A1 c_1,X1 b1 a0.1 a0.2.1 (a0.2.2.set (w64 (Int.tdiv a1 64)).toNat (uH.wrap (((ofInt uH.bits (gt a0.2.2 (w64 (Int.tdiv a1 64))) &&& ~~~(ofInt uH.bits (uH.wrap ((1:Int)*2 ^ (min (Int.tmod a1 64).toNat 64))))).toNat:Int)))) A1 c_1] _ _:=h8.retell (by simp only [length_set,length_nil,O63,X1] <;> rfl)
   refine Y6 [0] ?_
   exact Y4 ⟨(by simp only [length_set,length_nil] <;> rfl),((h8.only [1,0] rfl).rds [] rfl)⟩
  subst hE
  refine (hG _ _ _).1 ?_
  refine TY [7,10] (i:=7) rfl rfl rfl rfl ?_
  refine (Y1 ?_ (Y1 ?_ Vr))
  ·refine Yt 7 rfl (Sb (Zd 0 h4.wht (gO 1) p1 p2)) ?_
   rintro _ _ ⟨rfl,rfl⟩
   replace h4:=nf h4
   refine ⟨⟨[_],(sO h4 [1,0])⟩,?_⟩
   refine Zb 10 rfl (Bo p3) ?_
   refine Zr [11] ?_
   refine Zb 12 rfl (Zc e2 p1 p2) ?_
   exact (hG _ _ _).2 (j7 _ h4)
  ·refine HS.op (i:=10) rfl rfl rfl (Sb (Zlw rfl rfl rfl p3)) ?_; rintro _ _ ⟨rfl,rfl⟩; replace h4:St w0 F0 [_,_] _ _:=h4; refine ⟨⟨[_],(h4.only [1,0] rfl)⟩,?_⟩
   refine Yd 7 rfl (Sb (Zd 0 h4.wht (gO 1) p1 p2)) ?_
   rintro _ _ ⟨rfl,rfl⟩
   replace h4:=nf h4
   refine ⟨⟨[_],(sO h4 [1,0])⟩,?_⟩
   refine Zr [11] ?_
   refine Zb 12 rfl (Zc e2 p1 p2) ?_
   exact ((hG _ _ _).2 (j7 _ h4)).re [0,1,3,2] 4
 rintro env w10 ⟨rfl,h11⟩
 refine T8 (T6 (rRL 3 0 h11 ?_))
 refine Ze 3 ?_
 refine rS (Zt 0 h11) fun _ w11 h12=>?_
 refine rFi [] ?_
 refine T8 (Za [4] ?_)
 cases H
 exact T7 (jR ⟨_,_,rfl,rfl⟩ h12 [0,0])

def Q82.f (a0:TG) (a1:Int):Option (Int×TG):=(Q85.f a0).bind fun r1=>(if r1=true then (some (1,a0)) else (if (decide (a1=0))=true then (some (2,a0)) else ((Q3.f a0 (w64 (a1))).bind fun r2=>(some r2))))
theorem Q82.spec {a0 a1 b1 b2 A1 c_1 r} (H:Q82.f a0 a1=some r) :
  Spec prog 90 [.pointer (some ⟨b1,0,none⟩),.int .u32 a1] (B7 a0 b1 b2 A1 c_1) [] (fun v l=>∃ A_0 c_0,v=.int .i64 r.1/\l=B7 r.2 b1 b2 A_0 c_0):=by
 refine Zf Tryz.func90 fun w0 F0 h0=>?_
 replace h0:=nf h0
 unfold Q82.f at H
 refine T8 (Za [0,1] ?_)
 refine T8 (T0 (T8 (T6 (Ze 1 ?_))))
 refine cS H [0,0,0] h0 rfl Q85.spec Zm fun r1 w1 H h1=>?_
 refine rFi [0,1,5] ?_
 refine jIf H (fun c1 H=>?_) fun c1 H=>?_
 ·refine T8 (Za [4] ?_)
  cases H
  exact T7 (jR ⟨_,_,rfl,rfl⟩ h1 [0,0,0])
 refine T8 (Za [0,1,8] ?_)
 refine jIf H (fun c2 H=>?_) fun c2 H=>?_
 ·refine T8 (Za [4] ?_)
  cases H
  exact T7 (jR ⟨_,_,rfl,rfl⟩ h1 [0,0,0])
 refine T9 (T8 (T6 (rRL 3 0 h1 ?_)))
 refine Ze 2 ?_
 refine cE H [1,1] h1 rfl Q3.spec Zm ?_
 rintro r2 w2 _ _ H ⟨A2,c_2,rfl,rfl⟩ h2
 replace h2:=nf h2
 refine rFi [4] ?_
 cases H
 exact T7 (jR ⟨_,_,rfl,rfl⟩ h2 [2,0,0])

def Q91.f (k:Nat) (a0:Tg) (a1:Tn):Option (Int×Int×Tg):=(Q94.f a0).bind fun r1=>(if (!decide (r1=0))=true then (some (0,r1,a0)) else ((Q39.f k a0.1 a1).bind fun r2=>(if (!decide (r2.2=0))=true then (some (0,r2.2,a0)) else ((Q84.f k a0.2.2.1).bind fun r3=>(if (!decide (r3.2.1=0))=true then (some (0,r3.2.1,(a0.1,a0.2.1,r3.2.2,a0.2.2.2))) else ((Q93.f (a0.1,a0.2.1,r3.2.2,a0.2.2.2) r3.1 r2.1).bind fun r4=>(if (!decide (r4.1=0))=true then ((Q82.f r4.2.2.2.1 r3.1).bind fun r5=>(some (0,r4.1,(r4.2.1,r4.2.2.1,r5.2,r4.2.2.2.2)))) else (some (r3.1,0,r4.2)))))))))
theorem Q91.spec {k a0 a1 A6 c_6 A7 c_7 A8 c_8 A9 c_9 b1 b2 b3 b4 b5 b6 b7 A1 c_1 A2 c_2 A3 c_3 A4 c_4 A5 c_5 r} (H:Q91.f k a0 a1=some r) :
  Spec prog 47 [.pointer (some ⟨b1,0,none⟩),.agg #[.int .i64 a1.1,.slice A6 a1.2.1.length c_6,.slice A7 a1.2.2.1.length c_7,.slice A8 a1.2.2.2.1.length c_8,.slice A9 a1.2.2.2.2.length c_9]] (Ub a0 b1 b2 b3 b4 b5 b6 b7 A1 A2 A3 A4 A5 c_1 c_2 c_3 c_4 c_5) [R32 a1.2.1 A6 c_6,R9 a1.2.2.1 A7 c_7,R69 a1.2.2.2.1 A8 c_8,R47 a1.2.2.2.2 A9 c_9,tabC 1] (fun v l=>∃ A_0 c_0 A_1 c_1 A_2 c_2 A_3 c_3 A_4 c_4,v=.tuple #[.int .u32 r.1,.int .i64 r.2.1]/\l=Ub r.2.2 b1 b2 b3 b4 b5 b6 b7 A_0 A_1 A_2 A_3 A_4 c_0 c_1 c_2 c_3 c_4):=by
 refine Zf Tryz.func47 fun w0 F0 h0=>?_
 replace h0:=nf h0
 unfold Q91.f at H
 refine T8 (T6 (rB (Z5 h0) fun b8 w1 h1=>?_))
 refine rFi [0,3] ?_
 refine T8 (T8 (T6 (Ze 1 ?_)))
 refine cS H [1,1,1,1,1,1,1,1,1,1,1,1] h1 rfl Q94.spec Zm fun r1 w2 H h2=>?_
 refine rFi [0,3,6] ?_
 refine T8 (Za [0,3,6,14] ?_)
 refine jIf H (fun c1 H=>?_) fun c1 H=>?_
 ·refine T8 (Za [4,5] ?_)
  cases H
  exact T7 (jR ⟨_,_,_,_,_,_,_,_,_,_,rfl,rfl⟩ h2 [0,0,0,0,0,0,0,0,0,0,0,0])
 refine T9 (T8 (jH h2 fun h3=>?_))
 refine Zr [0,1,2] ?_
 refine Zb 3 rfl (Zi 0 wI) ?_
 refine Zb 4 rfl (Zi 12 wI) ?_
 refine cEJ 5 rfl H [] h3 rfl Q39.spec (gS [13,14,15,16]) ?_
 rintro r2 w3 _ _ H ⟨A10,c_10,rfl,rfl⟩ h4
 replace h4:=nf h4
 refine ⟨⟨[_],h4⟩,?_⟩
 refine hRF [6,7,8,9,10] [0,7,8] ?_
 refine T8 (T8 (Za [0,7,8,26] ?_))
 refine jIf H (fun c2 H=>?_) fun c2 H=>?_
 ·refine T8 (Za [4,5] ?_)
  have h5:=sO h4 [1,1,1,1,1,1,1,1,1,1,1,1]
  replace h5:=nf h5
  cases H
  exact T7 (jR ⟨_,_,_,_,_,_,_,_,_,_,rfl,rfl⟩ h5 [0,0,0,0,0,0,0,0,0,0,0,0])
 refine T9 (T8 (T6 (rRL 3 1 h4 ?_)))
 refine cE H [10,10,10] h4 rfl Q84.spec (gS [15]) ?_
 rintro r3 w4 _ _ H ⟨A11,c_11,rfl,rfl⟩ h6
 replace h6:=nf h6
 refine rFi [0,7,8,9] ?_
 refine T8 (T8 (Za [0,7,8,9,37] ?_))
 refine jIf H (fun c3 H=>?_) fun c3 H=>?_
 ·refine T8 (Za [4,5] ?_)
  have h7:=sO h6 [0,0,0,1,1,1,1,1,1,1,1,1]
  replace h7:=nf h7
  cases H
  exact T7 (jR ⟨_,_,_,_,_,_,_,_,_,_,rfl,rfl⟩ h7 [3,3,3,3,3,3,3,3,3,0,0,0])
 refine T9 (T8 (T8 (T6 (Ze 3 ?_))))
 refine cE H [4,4,4,4,4,4,4,4,4,0,0,0] h6 rfl Q93.spec (Xl (gO 0) Zm) ?_
 rintro r4 w5 _ _ H ⟨A12,c_12,A13,c_13,A14,c_14,A15,c_15,A16,c_16,rfl,rfl⟩ h8
 replace h8:=nf h8
 refine rFi [0,9,10] ?_
 have h9:=sO h8 [0,0,0,0,0,0,0,0,0,0,0,0]
 replace h9:=nf h9
 refine T8 (Za [0,9,10,44] ?_)
 refine jIf H (fun c4 H=>?_) fun c4 H=>?_
 ·refine T8 (T6 (rRL 3 0 h9 ?_))
  refine Ze 1 ?_
  refine cE H [9,9,9] h9 rfl Q82.spec Zm ?_
  rintro r5 w6 _ _ H ⟨A17,c_17,rfl,rfl⟩ h10
  replace h10:=nf h10
  refine rFi [10] ?_
  refine T8 (Za [4,5] ?_)
  cases H
  exact T7 (jR ⟨_,_,_,_,_,_,_,_,_,_,rfl,rfl⟩ h10 [3,3,3,3,3,3,3,3,3,0,0,0])
 refine T9 (T8 (Za [4,5] ?_))
 cases H
 exact T7 (jR ⟨_,_,_,_,_,_,_,_,_,_,rfl,rfl⟩ h9 [0,0,0,0,0,0,0,0,0,0,0,0])

mutual
def Q133.l0:Nat->Tl->Tq->TD->TC->TG->Tw->TM->TW->(Int)->TW->(Int)->Option Te
 | 0,_,_,_,_,_,_,_,_,_,_,_=>none
 | k+1,a1,x1,x2,x3,x4,x5,x6,x7,x8,x9,x10=>if (decide (x10<(a1.length:Int)))=true then (Q133.l1 k a1 x9 x10 x1 x2 x3 x4 x5 x6 x7 x8 [] 0) else (if 0<(x9.length:Int) then (some ((gt x9 0),true,(x1,(x2,x5,x6,x7,x3),x4,x8))) else none)
def Q133.l1:Nat->Tl->TW->(Int)->Tq->TD->TC->TG->Tw->TM->TW->(Int)->TW->(Int)->Option Te
 | 0,_,_,_,_,_,_,_,_,_,_,_,_,_=>none
 | k+1,a1,x9,x10,x11,x12,x13,x14,x15,x16,x17,x18,x19,x20=>if 0<=x10/\x10<(a1.length:Int) then (if (decide (x20<((gt a1 x10).length:Int)))=true then (if 0<=x20/\x20<((gt a1 x10).length:Int) then (Q133.l3 k a1 x9 x10 x11 x12 x13 x14 x15 x16 x17 x18 x19 x20 [] 0) else none) else (Q133.l0 k a1 x11 x12 x13 x14 x15 x16 x17 x18 x19 (w64 (x10+1)))) else none
def Q133.l2:Nat->Tl->TW->(Int)->Tq->TD->TC->TG->Tw->TM->TW->(Int)->TW->(Int)->TW->(Int)->(Bool)->Option Te
 | 0,_,_,_,_,_,_,_,_,_,_,_,_,_,_,_,_=>none
 | k+1,a1,x9,x10,x11,x12,x13,x14,x15,x16,x17,x18,x19,x20,x21,x22,x23=>(Q91.f k (x11,(x12,x15,x16,x17,x13),x14,x18) ((gt (gt a1 x10) x20).1,x21,(gt (gt a1 x10) x20).2.2.1,(gt (gt a1 x10) x20).2.2.2.1,(gt (gt a1 x10) x20).2.2.2.2)).bind fun r1=>(if (!decide (r1.2.1=0))=true then (some (0,false,r1.2.2)) else (if (x19.length+([r1.1]:List Int).length)*4<=140737488355328 then (Q133.l1 k a1 x9 x10 r1.2.2.1 r1.2.2.2.1.1 r1.2.2.2.1.2.2.2.2 r1.2.2.2.2.1 r1.2.2.2.1.2.1 r1.2.2.2.1.2.2.1 r1.2.2.2.1.2.2.2.1 r1.2.2.2.2.2 (x19 ++ [r1.1]) (w64 (x20+1))) else none))
def Q133.l3:Nat->Tl->TW->(Int)->Tq->TD->TC->TG->Tw->TM->TW->(Int)->TW->(Int)->TW->(Int)->Option Te
 | 0,_,_,_,_,_,_,_,_,_,_,_,_,_,_,_=>none
 | k+1,a1,x9,x10,x11,x12,x13,x14,x15,x16,x17,x18,x19,x20,x24,x25=>if (decide (x25<(((gt (gt a1 x10) x20).2.1).length:Int)))=true then (if 0<=x25/\x25<(((gt (gt a1 x10) x20).2.1).length:Int) then (if 0<=(uD.wrap ((gt ((gt (gt a1 x10) x20).2.1) x25) - 1))/\(uD.wrap ((gt ((gt (gt a1 x10) x20).2.1) x25) - 1))<(x9.length:Int) then (if (x24.length+([(gt x9 (uD.wrap ((gt ((gt (gt a1 x10) x20).2.1) x25) - 1)))]:List Int).length)*4<=140737488355328 then (Q133.l3 k a1 x9 x10 x11 x12 x13 x14 x15 x16 x17 x18 x19 x20 (x24 ++ [(gt x9 (uD.wrap ((gt ((gt (gt a1 x10) x20).2.1) x25) - 1)))]) (w64 (x25+1))) else none) else none) else none) else (Q133.l2 k a1 x9 x10 x11 x12 x13 x14 x15 x16 x17 x18 x19 x20 x24 x25 (decide (x25<(((gt (gt a1 x10) x20).2.1).length:Int))))
end
def Q133.f (k:Nat) (a0:Tg) (a1:Tl):Option Te:=Q133.l0 k a1 a0.1 a0.2.1.1 a0.2.1.2.2.2.2 a0.2.2.1 a0.2.1.2.1 a0.2.1.2.2.1 a0.2.1.2.2.2.1 a0.2.2.2 [] 0
theorem Q133.spec {k a0 a1 A6 c_6 b1 b2 b3 b4 b5 b6 b7 A1 c_1 A2 c_2 A3 c_3 A4 c_4 A5 c_5 r} (H:Q133.f k a0 a1=some r) :
  Spec prog 24 [.pointer (some ⟨b1,0,none⟩),.slice A6 a1.length c_6] (Ub a0 b1 b2 b3 b4 b5 b6 b7 A1 A2 A3 A4 A5 c_1 c_2 c_3 c_4 c_5) [R62 a1 A6 c_6,tabC 1] (fun v l=>∃ A_0 c_0 A_1 c_1 A_2 c_2 A_3 c_3 A_4 c_4,v=.tuple #[.int .u32 r.1,.bool r.2.1]/\l=Ub r.2.2 b1 b2 b3 b4 b5 b6 b7 A_0 A_1 A_2 A_3 A_4 c_0 c_1 c_2 c_3 c_4):=by
 refine Zf Tryz.func24 fun w0 F0 h0=>?_
 replace h0:=nf h0
 unfold Q133.f at H
 refine T8 (Za [0,1] ?_)
 refine T8 (T6 (rB (Zx (.int .u32) [] h0) fun b8 w1 h1=>?_))
 refine rFi [0,1,6] ?_
 refine T8 (T8 (Za [0,1,6,7] ?_))
 refine T0 ?_
 have h30:=(sOR h1 [1,2,1,3,4,5,5,1,1,1,1,1,0] [0,1])
 refine T4 (fun kk env w=>∃ x1 x2 x3 x4 A7 c_7 x5 A8 c_8 x6 x7 A9 c_9 A10 c_10 A11 c_11 x8 x9 A12 c_12 x10,Q133.l0 kk a1 x1 x2 x3 x4 x5 x6 x7 x8 x9 x10=some r/\env=[(0,.pointer (some ⟨b1,0,none⟩)),(1,.slice A6 a1.length c_6),(6,.slice A12 x9.length c_12),(7,.int .i64 x10)]/\St w0 F0 [X86 b1 x1.1 x1.2.1 x1.2.2.1 x1.2.2.2.1 x1.2.2.2.2.1 x1.2.2.2.2.2.1 x1.2.2.2.2.2.2.1 x1.2.2.2.2.2.2.2 (.pointer (some ⟨b3,0,none⟩)) (.pointer (some ⟨b2,0,none⟩)) (.pointer (some ⟨b6,0,none⟩)) x8,Xc b3 x2.1 x2.2.1 A7 c_7 x2.2.2.1 x2.2.2.2,Xp b2 (.pointer (some ⟨b3,0,none⟩)) x5 A8 c_8 (.map (some b4)) x7 A9 c_9 (.pointer (some ⟨b5,0,none⟩)),Y5 .u32 (Value.int .i64) b4 x6,Yw b5 x3.1 A10 c_10 x3.2,Vl b6 (.pointer (some ⟨b7,0,none⟩)),X1 b7 x4.1 x4.2.1 x4.2.2 A11 c_11,O5 x2.2.1 A7 c_7,Xo x5 A8 c_8,O3 x7 A9 c_9,Yx x3.1 A10 c_10,O63 x4.2.2 A11 c_11,O32 x9 A12 c_12] [R62 a1 A6 c_6,tabC 1] w) (k:=k) ⟨_,_,_,_,_,_,_,_,_,_,_,_,_,_,_,_,_,_,_,_,_,_,H,rfl,h30⟩ ?_
 rintro k1 env w2 ⟨x1,x2,x3,x4,A7,c_7,x5,A8,c_8,x6,x7,A9,c_9,A10,c_10,A11,c_11,x8,x9,A12,c_12,x10,H,rfl,h2⟩
 rcases k1 with _ | k1
 ·exact z0 H
 rw [Q133.l0] at H
 refine T8 (T8 (Za [0,1,6,7,19] ?_))
 refine jIf H (fun c1 H=>?_) fun c1 H=>?_
 ·refine T9 (T8 (T0 (T8 (T6 (rB (Zx (.int .u32) [] h2) fun b9 w3 h3=>?_)))))
  refine rFi [0,1,6,7,8] ?_
  refine T8 (T8 (Za [0,1,6,7,8,9] ?_))
  refine T0 ?_
  have h29:=(sOR h3 [1,1,1,1,1,1,1,1,1,1,1,1,1,0] [0,1])
  refine T4 (fun kk env w=>∃ x11 x12 x13 x14 A13 c_13 x15 A14 c_14 x16 x17 A15 c_15 A16 c_16 A17 c_17 x18 x19 A18 c_18 x20,Q133.l1 kk a1 x9 x10 x11 x12 x13 x14 x15 x16 x17 x18 x19 x20=some r/\env=[(0,.pointer (some ⟨b1,0,none⟩)),(1,.slice A6 a1.length c_6),(6,.slice A12 x9.length c_12),(7,.int .i64 x10),(8,.slice A18 x19.length c_18),(9,.int .i64 x20)]/\St w0 F0 [X86 b1 x11.1 x11.2.1 x11.2.2.1 x11.2.2.2.1 x11.2.2.2.2.1 x11.2.2.2.2.2.1 x11.2.2.2.2.2.2.1 x11.2.2.2.2.2.2.2 (.pointer (some ⟨b3,0,none⟩)) (.pointer (some ⟨b2,0,none⟩)) (.pointer (some ⟨b6,0,none⟩)) x18,Xc b3 x12.1 x12.2.1 A13 c_13 x12.2.2.1 x12.2.2.2,Xp b2 (.pointer (some ⟨b3,0,none⟩)) x15 A14 c_14 (.map (some b4)) x17 A15 c_15 (.pointer (some ⟨b5,0,none⟩)),Y5 .u32 (Value.int .i64) b4 x16,Yw b5 x13.1 A16 c_16 x13.2,Vl b6 (.pointer (some ⟨b7,0,none⟩)),X1 b7 x14.1 x14.2.1 x14.2.2 A17 c_17,O5 x12.2.1 A13 c_13,Xo x15 A14 c_14,O3 x17 A15 c_15,Yx x13.1 A16 c_16,O63 x14.2.2 A17 c_17,O32 x9 A12 c_12,O32 x19 A18 c_18] [R62 a1 A6 c_6,tabC 1] w/\kk<=k1) (k:=k1) ⟨_,_,_,_,_,_,_,_,_,_,_,_,_,_,_,_,_,_,_,_,_,_,H,rfl,h29,Sa _⟩ ?_
  rintro k2 env w4 ⟨x11,x12,x13,x14,A13,c_13,x15,A14,c_14,x16,x17,A15,c_15,A16,c_16,A17,c_17,x18,x19,A18,c_18,x20,H,rfl,h4,hk2⟩
  rcases k2 with _ | k2
  ·exact z0 H
  rw [Q133.l1] at H
  refine T8 (T8 (T6 (Ze 3 ?_)))
  obtain ⟨⟨p1,p2⟩,H⟩:=Zh H
  have e1:=Zy h4.wh (Zg 14) p1 p2
  refine Zj (Zc e1 p1 p2) ?_
  obtain ⟨cs1,h5⟩:=h4.elem 0 rfl p1 p2
  obtain ⟨A19,c_19,rfl⟩:=Xh 0 h5
  refine Zj (Uy 0 h5.wht (Zg 15)) ?_
  refine rFi [0,1,6,7,8,9,29] ?_
  refine jIf H (fun c2 H=>?_) fun c2 H=>?_
  ·refine T9 (T8 (T0 (T8 (T6 (Ze 2 ?_)))))
   refine Zj (Zc e1 p1 p2) ?_
   refine Zj (Uy 0 h5.wht (Zg 15)) ?_
   refine Ze 1 ?_
   obtain ⟨⟨p3,p4⟩,H⟩:=Zh H
   have e2:=Zy h5.wh (Zg 14) p3 p4
   refine Zj (Zc e2 p3 p4) ?_
   obtain ⟨cs2,h6⟩:=h5.elem 0 rfl p3 p4
   obtain ⟨cs3,cs4,rfl,h7⟩:=Ww 0 h6
   obtain ⟨cs5,cs6,rfl,h8⟩:=Ww 1 h7
   obtain ⟨cs7,cs8,rfl,h9⟩:=Ww 1 h8
   obtain ⟨cs9,cs10,rfl,h10⟩:=Ww 1 h9
   obtain rfl:=Zbk (.int .i64) 6 h10
   obtain ⟨A20,c_20,rfl⟩:=Xh 4 h10
   obtain ⟨A21,c_21,rfl⟩:=Xh 2 h10
   obtain ⟨A22,c_22,rfl⟩:=Xh 0 h10
   obtain ⟨A23,c_23,rfl⟩:=Xh 1 h10
   refine Zj (Uy 0 h10.wht (Zg 23)) ?_
   refine rB (Yp h10) fun b10 w5 h11=>?_
   refine rS (Zt 0 h11) fun _ w6 h12=>?_
   refine rFi [0,1,6,7,8,9,10] ?_
   refine T8 (T6 (rB (Zx (.int .u32) [] h12) fun b11 w7 h13=>?_))
   refine rFi [0,1,6,7,8,9,10,11] ?_
   refine T8 (T8 (Za [0,1,6,7,8,9,10,11,12] ?_))
   refine T5 (fun env w=>∃ k3 x21 A24 c_24 x22 x23,Q133.l2 k3 a1 x9 x10 x11 x12 x13 x14 x15 x16 x17 x18 x19 x20 x21 x22 x23=some r/\env=[(0,.pointer (some ⟨b1,0,none⟩)),(1,.slice A6 a1.length c_6),(6,.slice A12 x9.length c_12),(7,.int .i64 x10),(8,.slice A18 x19.length c_18),(9,.int .i64 x20),(10,.pointer (some ⟨b10,0,none⟩)),(11,.slice A24 x21.length c_24),(12,.int .i64 x22),(44,.bool x23)]/\St w0 F0 [X86 b1 x11.1 x11.2.1 x11.2.2.1 x11.2.2.2.1 x11.2.2.2.2.1 x11.2.2.2.2.2.1 x11.2.2.2.2.2.2.1 x11.2.2.2.2.2.2.2 (.pointer (some ⟨b3,0,none⟩)) (.pointer (some ⟨b2,0,none⟩)) (.pointer (some ⟨b6,0,none⟩)) x18,Xc b3 x12.1 x12.2.1 A13 c_13 x12.2.2.1 x12.2.2.2,Xp b2 (.pointer (some ⟨b3,0,none⟩)) x15 A14 c_14 (.map (some b4)) x17 A15 c_15 (.pointer (some ⟨b5,0,none⟩)),Y5 .u32 (Value.int .i64) b4 x16,Yw b5 x13.1 A16 c_16 x13.2,Vl b6 (.pointer (some ⟨b7,0,none⟩)),X1 b7 x14.1 x14.2.1 x14.2.2 A17 c_17,X55 b10 ((gt (gt a1 x10) x20).1) ((gt (gt a1 x10) x20).2.1) A20 c_20 ((gt (gt a1 x10) x20).2.2.1) A21 c_21 ((gt (gt a1 x10) x20).2.2.2.1) A22 c_22 ((gt (gt a1 x10) x20).2.2.2.2) A23 c_23,O5 x12.2.1 A13 c_13,Xo x15 A14 c_14,O3 x17 A15 c_15,Yx x13.1 A16 c_16,O63 x14.2.2 A17 c_17,O32 x9 A12 c_12,O32 x19 A18 c_18,O32 x21 A24 c_24] [R62 a1 A6 c_6,R32 ((gt (gt a1 x10) x20).2.1) A20 c_20,R9 ((gt (gt a1 x10) x20).2.2.1) A21 c_21,R69 ((gt (gt a1 x10) x20).2.2.2.1) A22 c_22,R47 ((gt (gt a1 x10) x20).2.2.2.2) A23 c_23,tabC 1] w/\k3<=k2) ?_ ?_
   ·refine T0 ?_
    have h27:=(sOR h13 [2,2,2,2,2,2,2,1,1,1,1,1,1,1,1,0] [12,4,2,0,1,13])
    refine T4 (fun kk env w=>∃ x24 A31 c_31 x25,Q133.l3 kk a1 x9 x10 x11 x12 x13 x14 x15 x16 x17 x18 x19 x20 x24 x25=some r/\env=[(0,.pointer (some ⟨b1,0,none⟩)),(1,.slice A6 a1.length c_6),(6,.slice A12 x9.length c_12),(7,.int .i64 x10),(8,.slice A18 x19.length c_18),(9,.int .i64 x20),(10,.pointer (some ⟨b10,0,none⟩)),(11,.slice A31 x24.length c_31),(12,.int .i64 x25)]/\St w0 F0 [X86 b1 x11.1 x11.2.1 x11.2.2.1 x11.2.2.2.1 x11.2.2.2.2.1 x11.2.2.2.2.2.1 x11.2.2.2.2.2.2.1 x11.2.2.2.2.2.2.2 (.pointer (some ⟨b3,0,none⟩)) (.pointer (some ⟨b2,0,none⟩)) (.pointer (some ⟨b6,0,none⟩)) x18,Xc b3 x12.1 x12.2.1 A13 c_13 x12.2.2.1 x12.2.2.2,Xp b2 (.pointer (some ⟨b3,0,none⟩)) x15 A14 c_14 (.map (some b4)) x17 A15 c_15 (.pointer (some ⟨b5,0,none⟩)),Y5 .u32 (Value.int .i64) b4 x16,Yw b5 x13.1 A16 c_16 x13.2,Vl b6 (.pointer (some ⟨b7,0,none⟩)),X1 b7 x14.1 x14.2.1 x14.2.2 A17 c_17,X55 b10 ((gt (gt a1 x10) x20).1) ((gt (gt a1 x10) x20).2.1) A20 c_20 ((gt (gt a1 x10) x20).2.2.1) A21 c_21 ((gt (gt a1 x10) x20).2.2.2.1) A22 c_22 ((gt (gt a1 x10) x20).2.2.2.2) A23 c_23,O5 x12.2.1 A13 c_13,Xo x15 A14 c_14,O3 x17 A15 c_15,Yx x13.1 A16 c_16,O63 x14.2.2 A17 c_17,O32 x9 A12 c_12,O32 x19 A18 c_18,O32 x24 A31 c_31] [R62 a1 A6 c_6,R32 ((gt (gt a1 x10) x20).2.1) A20 c_20,R9 ((gt (gt a1 x10) x20).2.2.1) A21 c_21,R69 ((gt (gt a1 x10) x20).2.2.2.1) A22 c_22,R47 ((gt (gt a1 x10) x20).2.2.2.2) A23 c_23,tabC 1] w/\kk<=k2) (k:=k2) ⟨_,_,_,_,H,rfl,h27,Sa _⟩ ?_
    rintro k4 env w14 ⟨x24,A31,c_31,x25,H,rfl,h22,hk4⟩
    rcases k4 with _ | k4
    ·exact z0 H
    rw [Q133.l3] at H
    refine T8 (T8 (T6 (rRL 2 7 h22 ?_)))
    refine rFi [0,1,6,7,8,9,10,11,12,44] ?_
    refine jIf H (fun c4 H=>?_) fun c4 H=>?_
    ·refine T9 (T8 (T0 (T6 (rRL 3 7 h22 ?_))))
     refine Ze 1 ?_
     obtain ⟨⟨p6,p7⟩,H⟩:=Zh H
     have e3:=Zy h22.wh (Zg 17) p6 p7
     refine Zj (Zc e3 p6 p7) ?_
     refine Zj (Zd 0 h22.wht (Zg 17) p6 p7) ?_
     refine Ze 1 ?_
     obtain ⟨⟨p8,p9⟩,H⟩:=Zh H
     have e4:=Zy h22.wh (gO 13) p8 p9
     refine Zj (Zc e4 p8 p9) ?_
     refine Zj (Zd 0 h22.wht (gO 13) p8 p9) ?_
     refine rB (Zx (.int .u32) [(gt x9 (uD.wrap ((gt ((gt (gt a1 x10) x20).2.1) x25) - 1)))] h22) fun b13 w15 h23=>?_
     obtain ⟨p10,H⟩:=Zh H
     refine Zp (Zs 16 h23 (gO 0) p10) ?_
     rintro _ w16 ⟨A32,c_32,rfl,h24⟩
     replace h24:=nf h24
     refine rFi [0,1,6,7,8,9,10,11,12] ?_
     refine Za [0,1,6,7,8,9,10,11,12] ?_
     have h25:=(sOR h24 [2,2,2,2,2,2,2,2,2,2,2,2,2,2,2,0] [0,1,2,3,4,5])
     exact ⟨k4,by omega,_,_,_,_,H,rfl,h25,by omega⟩
    refine T3 ?_
    have h26:=(sOR h22 [0,0,0,0,0,0,0,0,0,0,0,0,0,0,0,0] [0,1,2,3,4,5])
    exact ⟨k4,_,_,_,_,_,H,rfl,h26,by omega⟩
   rintro env w9 ⟨k3,x21,A24,c_24,x22,x23,H,rfl,h14,hk3⟩
   rcases k3 with _ | k3
   ·exact z0 H
   rw [Q133.l2] at H
   refine T8 (T6 (Ze 2 ?_))
   refine rS (Zt 7 h14) fun _ w10 h15=>?_
   refine rFi [0,1,6,7,8,9,10] ?_
   refine T8 (T6 (rRL 1 0 h15 ?_))
   refine cE H [1,2,1,5,5,1,4,1,3,1,1,1] h15 rfl Q91.spec (Xl (gO 3) (gS [6,7,8,9])) ?_
   rintro r1 w11 _ _ H ⟨A25,c_25,A26,c_26,A27,c_27,A28,c_28,A29,c_29,rfl,rfl⟩ h16
   replace h16:=nf h16
   refine rFi [0,1,6,7,8,9,13,14] ?_
   have h17:=sO h16 [0,0,0,0,0,0,0,0,0,0,0,0,1,1]
   replace h17:=nf h17
   refine T8 (T8 (Za [0,1,6,7,8,9,13,68] ?_))
   refine jIf H (fun c3 H=>?_) fun c3 H=>?_
   ·refine T8 (Za [4,5] ?_)
    have h18:=sO h17 [0,0,0,0,0,0,0,0,0,0,0,0]
    replace h18:=nf h18
    cases H
    exact T7 (jR ⟨_,_,_,_,_,_,_,_,_,_,rfl,rfl⟩ h18 [0,0,0,0,0,0,0,0,0,0,0,0])
   refine T9 (T6 (Ze 2 ?_))
   refine rB (Zx (.int .u32) [r1.1] h17) fun b12 w12 h19=>?_
   obtain ⟨p5,H⟩:=Zh H
   refine Zp (Zs 14 h19 (gO 0) p5) ?_
   rintro _ w13 ⟨A30,c_30,rfl,h20⟩
   replace h20:=nf h20
   refine rFi [0,1,6,7,8,9] ?_
   refine Za [0,1,6,7,8,9] ?_
   have h21:=(sOR h20 [2,3,2,4,5,6,6,2,2,2,2,2,2,0] [0,5])
   exact ⟨k3,by omega,_,_,_,_,_,_,_,_,_,_,_,_,_,_,_,_,_,_,_,_,_,_,H,rfl,h21,by omega⟩
  refine T3 (Za [0,1,6,7] ?_)
  refine Za [0,1,6,7] ?_
  have h28:=(sOR h5 [0,0,0,0,0,0,0,0,0,0,0,0,1] [2,3])
  exact ⟨k2,by omega,_,_,_,_,_,_,_,_,_,_,_,_,_,_,_,_,_,_,_,_,_,_,H,rfl,h28⟩
 refine T3 (T8 (T6 (Ze 1 ?_)))
 obtain ⟨p11,H⟩:=Zh H
 have e5:=Vu h2.wh (gO 12) p11
 refine Zj (X4 e5 p11) ?_
 refine Zj (Xb 0 h2.wht (gO 12) p11) ?_
 refine rFi [4,5] ?_
 cases H
 exact T7 (jR ⟨_,_,_,_,_,_,_,_,_,_,rfl,rfl⟩ h2 [0,1,0,4,4,0,3,0,2,0,0,0])

def Q135.l2:Nat->Tq->Tp->TD->TC->TW->(Int)->Option Ta
 | 0,_,_,_,_,_,_=>none
 | k+1,a0,a1,r3,r7,x5,x6=>if (decide (x6<a0.2.2.1))=true then (if (x5.length+([x6]:List Int).length)*8<=140737488355328 then (Q135.l2 k a0 a1 r3 r7 (x5 ++ [x6]) (w64 (x6+1))) else none) else ((Q54.f r3).bind fun r8=>(if (!decide (r8=a0.1))=true then (some (none,0,[],false)) else ((Q55.f r3).bind fun r9=>(if (!decide (r9=a0.2.1))=true then (some (none,0,[],false)) else ((Q80.f a0.1).bind fun r10=>(Vz r10.1 (if (!decide (r10.2=0))=true then (some (none,0,[],false)) else none) (fun r11=>(if (!decide (r10.2=0))=false then ((Q134.f k a0 a1).bind fun r12=>((Q133.f k (a0,(r3,(List.replicate a0.2.2.1.toNat ((0,[],false,0):Int×List Int×Bool×Int)),[],x5,r7),r11,0) r12).bind fun r13=>(some ((some r13.2.2),r13.1,r12,r13.2.1)))) else none))))))))
def Q135.l1:Nat->Tq->Tp->(Int)->(Bool)->Option Ta
 | 0,_,_,_,_=>none
 | k+1,a0,a1,x3,x4=>(Q59.f a0.1 a0.2.1).bind fun r2=>(Vz r2.1 (if (!decide (r2.2=0))=true then (none) else none) (fun r3=>(if (!decide (r2.2=0))=false then ((Q49.f a0).bind fun r4=>(if (!decide (r4=0))=true then (some (none,0,[],false)) else ((Q54.f r3).bind fun r5=>(if (decide (r5=0))=true then (some (none,0,[],false)) else (if (decide (a0.2.2.1<1))=true then (some (none,0,[],false)) else (if (decide (64<a0.2.2.1))=true then (some (none,0,[],false)) else ((Q35.f a0.2.2.1).bind fun r6=>(Vz r6.1 (if (!decide (r6.2=0))=true then (some (none,0,[],false)) else none) (fun r7=>(if (!decide (r6.2=0))=false then (if 0<=a0.2.2.1/\a0.2.2.1*48<=281474976710656 then (Q135.l2 k a0 a1 r3 r7 [] 0) else none) else none)))))))))) else none)))
mutual
def Q135.l3:Nat->Tq->Tp->(Int)->Option Ta
 | 0,_,_,_=>none
 | k+1,a0,a1,x7=>if (decide (x7<(a1.2.1.length:Int)))=true then (Q135.l4 k a0 a1 x7 (decide (x7<100))) else (Q135.l4 k a0 a1 x7 false)
def Q135.l4:Nat->Tq->Tp->(Int)->(Bool)->Option Ta
 | 0,_,_,_,_=>none
 | k+1,a0,a1,x7,x8=>if x8=true then (if 0<=x7/\x7<(a1.2.1.length:Int) then (if (decide (200<(((gt a1.2.1 x7).1).length:Int)))=true then (some (none,0,[],false)) else (Q135.l3 k a0 a1 (w64 (x7+1)))) else none) else (Q135.l1 k a0 a1 x7 x8)
end
def Q135.l0:Nat->Tq->Tp->(Int)->(Bool)->Option Ta
 | 0,_,_,_,_=>none
 | k+1,a0,a1,x1,x2=>Q135.l3 k a0 a1 0
mutual
def Q135.l5:Nat->Tq->Tp->(Int)->Option Ta
 | 0,_,_,_=>none
 | k+1,a0,a1,x9=>if (decide (x9<(a1.1.length:Int)))=true then (Q135.l6 k a0 a1 x9 (decide (x9<150))) else (Q135.l6 k a0 a1 x9 false)
def Q135.l6:Nat->Tq->Tp->(Int)->(Bool)->Option Ta
 | 0,_,_,_,_=>none
 | k+1,a0,a1,x9,x10=>if x10=true then (if 0<=x9/\x9<(a1.1.length:Int) then (if (decide (200<(((gt a1.1 x9).1).length:Int)))=true then (some (none,0,[],false)) else (Q135.l5 k a0 a1 (w64 (x9+1)))) else none) else (Q135.l0 k a0 a1 x9 x10)
end
def Q135.f (k:Nat) (a0:Tq) (a1:Tp):Option Ta:=(Q132.f k a0).bind fun r1=>(if (!r1)=true then (some (none,0,[],false)) else (Q135.l5 k a0 a1 0))
theorem Q135.spec {k a0 a1 A1 c_1 A2 c_2 A3 c_3 A4 c_4 r} (H:Q135.f k a0 a1=some r) :
  SpecA prog 7 [.agg #[.int .i64 a0.1,.int .i64 a0.2.1,.int .i64 a0.2.2.1,.int .i64 a0.2.2.2.1,.int .i64 a0.2.2.2.2.1,.int .i64 a0.2.2.2.2.2.1,.int .i64 a0.2.2.2.2.2.2.1,.int .i64 a0.2.2.2.2.2.2.2],.agg #[.slice A1 a1.1.length c_1,.slice A2 a1.2.1.length c_2,.slice A3 a1.2.2.1.length c_3,.slice A4 a1.2.2.2.length c_4]] [] [R47 a1.1 A1 c_1,R69 a1.2.1 A2 c_2,R5 a1.2.2.1 A3 c_3,R5 a1.2.2.2 A4 c_4,tabC 1] (fun v l lr=>∃(pv:Value) (lp:List Ch),OptC r.1 (fun d pv lp=>∃ b_0 b_1 b_2 A_3 c_3 A_4 c_4 b_5 A_6 c_6 b_7 A_8 c_8 b_9 b_10 A_11 c_11,pv=.pointer (some ⟨b_0,0,none⟩)/\lp=[X86 b_0 d.1.1 d.1.2.1 d.1.2.2.1 d.1.2.2.2.1 d.1.2.2.2.2.1 d.1.2.2.2.2.2.1 d.1.2.2.2.2.2.2.1 d.1.2.2.2.2.2.2.2 (.pointer (some ⟨b_2,0,none⟩)) (.pointer (some ⟨b_1,0,none⟩)) (.pointer (some ⟨b_9,0,none⟩)) d.2.2.2,Xp b_1 (.pointer (some ⟨b_2,0,none⟩)) d.2.1.2.1 A_4 c_4 (.map (some b_5)) d.2.1.2.2.2.1 A_6 c_6 (.pointer (some ⟨b_7,0,none⟩)),Xc b_2 d.2.1.1.1 d.2.1.1.2.1 A_3 c_3 d.2.1.1.2.2.1 d.2.1.1.2.2.2,O5 d.2.1.1.2.1 A_3 c_3,Xo d.2.1.2.1 A_4 c_4,Y5 .u32 (Value.int .i64) b_5 d.2.1.2.2.1,O3 d.2.1.2.2.2.1 A_6 c_6,Yw b_7 d.2.1.2.2.2.2.1 A_8 c_8 d.2.1.2.2.2.2.2,Yx d.2.1.2.2.2.2.1 A_8 c_8,Vl b_9 (.pointer (some ⟨b_10,0,none⟩)),X1 b_10 d.2.2.1.1 d.2.2.1.2.1 d.2.2.1.2.2 A_11 c_11,O63 d.2.2.1.2.2 A_11 c_11]) pv lp/\∃ A_0 c_0,v=.tuple #[pv,.int .u32 r.2.1,.slice A_0 r.2.2.1.length c_0,.bool r.2.2.2]/\l=lp ++ []/\lr=[R62 r.2.2.1 A_0 c_0]):=by
 refine Yq Tryz.func7 fun w0 F0 h0=>?_
 unfold Q135.f at H
 refine T8 (T6 (rB (Z5 h0) fun b1 w1 h1=>?_))
 refine rB (Z5 h1) fun b2 w2 h2=>?_
 refine rFi [2,3] ?_
 refine T8 (T8 (T6 (rLo 1 h2 ?_)))
 refine cS H [] h2 rfl Q132.spec Zm fun r1 w3 H h3=>?_
 refine rFi [2,3,17] ?_
 refine jIf H (fun c1 H=>?_) fun c1 H=>?_
 ·refine T8 (Za [4,5,6,7] ?_)
  have h4:=sO h3 []
  replace h4:=nf h4
  have h5:=h4.addNil 62 (.slice 55 (.pair (.int .i64) (.pair (.slice 32 (.int .u32)) (.pair (.slice 9 .str) (.pair (.slice 69 (.pair .str (.pair .bool .str))) (.slice 47 (.pair .str .str)))))))
  have h6:=h5.freeze (k:=0) rfl Ye
  cases H
  exact T7 (jRA ⟨_,_,Sc,_,_,rfl,rfl,rfl⟩ (sOR h6 [] [0]))
 refine T9 (T8 (T8 (Za [2,3,8] ?_)))
 refine T5 (fun env w=>∃ k1 x1 x2,Q135.l0 k1 a0 a1 x1 x2=some r/\env=[(2,.pointer (some ⟨b1,0,none⟩)),(3,.pointer (some ⟨b2,0,none⟩)),(8,.int .i64 x1),(26,.bool x2)]/\St w0 F0 [X23 b1 a0.1 a0.2.1 a0.2.2.1 a0.2.2.2.1 a0.2.2.2.2.1 a0.2.2.2.2.2.1 a0.2.2.2.2.2.2.1 a0.2.2.2.2.2.2.2,X28 b2 a1.1 A1 c_1 a1.2.1 A2 c_2 a1.2.2.1 A3 c_3 a1.2.2.2 A4 c_4] [R47 a1.1 A1 c_1,R69 a1.2.1 A2 c_2,R5 a1.2.2.1 A3 c_3,R5 a1.2.2.2 A4 c_4,tabC 1] w/\k1<=k) ?_ ?_
 ·refine T0 ?_
  have h85:=(sOR h3 [1,0] [0,1,2,3,4])
  refine T4 (fun kk env w=>∃ x9,Q135.l5 kk a0 a1 x9=some r/\env=[(2,.pointer (some ⟨b1,0,none⟩)),(3,.pointer (some ⟨b2,0,none⟩)),(8,.int .i64 x9)]/\St w0 F0 [X23 b1 a0.1 a0.2.1 a0.2.2.1 a0.2.2.2.1 a0.2.2.2.2.1 a0.2.2.2.2.2.1 a0.2.2.2.2.2.2.1 a0.2.2.2.2.2.2.2,X28 b2 a1.1 A1 c_1 a1.2.1 A2 c_2 a1.2.2.1 A3 c_3 a1.2.2.2 A4 c_4] [R47 a1.1 A1 c_1,R69 a1.2.1 A2 c_2,R5 a1.2.2.1 A3 c_3,R5 a1.2.2.2 A4 c_4,tabC 1] w/\kk<=k) (k:=k) ⟨_,H,rfl,h85,Sa _⟩ ?_
  rintro k6 env w30 ⟨x9,H,rfl,h76,hk6⟩
  rcases k6 with _ | k6
  ·exact z0 H
  rw [Q135.l5] at H
  refine T8 (T8 (T5 (fun env w=>∃ k7 x10,Q135.l6 k7 a0 a1 x9 x10=some r/\env=[(2,.pointer (some ⟨b1,0,none⟩)),(3,.pointer (some ⟨b2,0,none⟩)),(8,.int .i64 x9),(26,.bool x10)]/\St w0 F0 [X23 b1 a0.1 a0.2.1 a0.2.2.1 a0.2.2.2.1 a0.2.2.2.2.1 a0.2.2.2.2.2.1 a0.2.2.2.2.2.2.1 a0.2.2.2.2.2.2.2,X28 b2 a1.1 A1 c_1 a1.2.1 A2 c_2 a1.2.2.1 A3 c_3 a1.2.2.2 A4 c_4] [R47 a1.1 A1 c_1,R69 a1.2.1 A2 c_2,R5 a1.2.2.1 A3 c_3,R5 a1.2.2.2 A4 c_4,tabC 1] w/\k7<=k6) ?_ ?_))
  ·refine T6 (rRL 2 1 h76 ?_)
   refine Ze 3 ?_
   refine Z7 23 H (fun c20 H=>?_) fun c20 H=>?_
   ·refine rFi [2,3,8,26] ?_
    have h83:=(sOR h76 [0,0] [0,1,2,3,4])
    exact ⟨k6,_,H,rfl,h83,Sa _⟩
   refine rFi [2,3,8,26] ?_
   have h84:=(sOR h76 [0,0] [0,1,2,3,4])
   exact ⟨k6,_,H,rfl,h84,Sa _⟩
  rintro env w32 ⟨k7,x10,H,rfl,h77,hk7⟩
  rcases k7 with _ | k7
  ·exact z0 H
  rw [Q135.l6] at H
  refine jIf H (fun c18 H=>?_) fun c18 H=>?_
  ·refine T9 (T8 (T0 (T8 (T6 (rRL 1 1 h77 ?_)))))
   refine Ze 1 ?_
   obtain ⟨⟨p6,p7⟩,H⟩:=Zh H
   have e2:=Zy h77.wh (Zg 2) p6 p7
   refine Zj (Zc e2 p6 p7) ?_
   refine Ze 1 ?_
   refine Zj (Zd 0 h77.wht (Zg 2) p6 p7) ?_
   refine rFi [2,3,8,36] ?_
   refine jIf H (fun c19 H=>?_) fun c19 H=>?_
   ·refine T8 (Za [4,5,6,7] ?_)
    have h78:=sO h77 []
    replace h78:=nf h78
    have h79:=h78.addNil 62 (.slice 55 (.pair (.int .i64) (.pair (.slice 32 (.int .u32)) (.pair (.slice 9 .str) (.pair (.slice 69 (.pair .str (.pair .bool .str))) (.slice 47 (.pair .str .str)))))))
    have h80:=h79.freeze (k:=0) rfl Ye
    cases H
    exact T7 (jRA ⟨_,_,Sc,_,_,rfl,rfl,rfl⟩ (sOR h80 [] [0]))
   refine T9 (Za [2,3,8] ?_)
   have h81:=(sOR h77 [0,0] [0,1,2,3,4])
   exact ⟨k7,by omega,_,H,rfl,h81,by omega⟩
  refine T3 ?_
  have h82:=(sOR h77 [0,0] [0,1,2,3,4])
  exact ⟨k7,_,_,H,rfl,h82,by omega⟩
 rintro env w5 ⟨k1,x1,x2,H,rfl,h7,hk1⟩
 rcases k1 with _ | k1
 ·exact z0 H
 rw [Q135.l0] at H
 refine T8 (T8 (Za [2,3,9] ?_))
 refine T5 (fun env w=>∃ k2 x3 x4,Q135.l1 k2 a0 a1 x3 x4=some r/\env=[(2,.pointer (some ⟨b1,0,none⟩)),(3,.pointer (some ⟨b2,0,none⟩)),(9,.int .i64 x3),(45,.bool x4)]/\St w0 F0 [X23 b1 a0.1 a0.2.1 a0.2.2.1 a0.2.2.2.1 a0.2.2.2.2.1 a0.2.2.2.2.2.1 a0.2.2.2.2.2.2.1 a0.2.2.2.2.2.2.2,X28 b2 a1.1 A1 c_1 a1.2.1 A2 c_2 a1.2.2.1 A3 c_3 a1.2.2.2 A4 c_4] [R47 a1.1 A1 c_1,R69 a1.2.1 A2 c_2,R5 a1.2.2.1 A3 c_3,R5 a1.2.2.2 A4 c_4,tabC 1] w/\k2<=k1) ?_ ?_
 ·refine T0 ?_
  have h75:=(sOR h7 [0,0] [0,1,2,3,4])
  refine T4 (fun kk env w=>∃ x7,Q135.l3 kk a0 a1 x7=some r/\env=[(2,.pointer (some ⟨b1,0,none⟩)),(3,.pointer (some ⟨b2,0,none⟩)),(9,.int .i64 x7)]/\St w0 F0 [X23 b1 a0.1 a0.2.1 a0.2.2.1 a0.2.2.2.1 a0.2.2.2.2.1 a0.2.2.2.2.2.1 a0.2.2.2.2.2.2.1 a0.2.2.2.2.2.2.2,X28 b2 a1.1 A1 c_1 a1.2.1 A2 c_2 a1.2.2.1 A3 c_3 a1.2.2.2 A4 c_4] [R47 a1.1 A1 c_1,R69 a1.2.1 A2 c_2,R5 a1.2.2.1 A3 c_3,R5 a1.2.2.2 A4 c_4,tabC 1] w/\kk<=k1) (k:=k1) ⟨_,H,rfl,h75,Sa _⟩ ?_
  rintro k4 env w27 ⟨x7,H,rfl,h66,hk4⟩
  rcases k4 with _ | k4
  ·exact z0 H
  rw [Q135.l3] at H
  refine T8 (T8 (T5 (fun env w=>∃ k5 x8,Q135.l4 k5 a0 a1 x7 x8=some r/\env=[(2,.pointer (some ⟨b1,0,none⟩)),(3,.pointer (some ⟨b2,0,none⟩)),(9,.int .i64 x7),(45,.bool x8)]/\St w0 F0 [X23 b1 a0.1 a0.2.1 a0.2.2.1 a0.2.2.2.1 a0.2.2.2.2.1 a0.2.2.2.2.2.1 a0.2.2.2.2.2.2.1 a0.2.2.2.2.2.2.2,X28 b2 a1.1 A1 c_1 a1.2.1 A2 c_2 a1.2.2.1 A3 c_3 a1.2.2.2 A4 c_4] [R47 a1.1 A1 c_1,R69 a1.2.1 A2 c_2,R5 a1.2.2.1 A3 c_3,R5 a1.2.2.2 A4 c_4,tabC 1] w/\k5<=k4) ?_ ?_))
  ·refine T6 (rRL 2 1 h66 ?_)
   refine Ze 3 ?_
   refine Z7 42 H (fun c17 H=>?_) fun c17 H=>?_
   ·refine rFi [2,3,9,45] ?_
    have h73:=(sOR h66 [0,0] [0,1,2,3,4])
    exact ⟨k4,_,H,rfl,h73,Sa _⟩
   refine rFi [2,3,9,45] ?_
   have h74:=(sOR h66 [0,0] [0,1,2,3,4])
   exact ⟨k4,_,H,rfl,h74,Sa _⟩
  rintro env w29 ⟨k5,x8,H,rfl,h67,hk5⟩
  rcases k5 with _ | k5
  ·exact z0 H
  rw [Q135.l4] at H
  refine jIf H (fun c15 H=>?_) fun c15 H=>?_
  ·refine T9 (T8 (T0 (T8 (T6 (rRL 1 1 h67 ?_)))))
   refine Ze 1 ?_
   obtain ⟨⟨p4,p5⟩,H⟩:=Zh H
   have e1:=Zy h67.wh (Zg 3) p4 p5
   refine Zj (Zc e1 p4 p5) ?_
   refine Ze 1 ?_
   refine Zj (Zd 0 h67.wht (Zg 3) p4 p5) ?_
   refine rFi [2,3,9,55] ?_
   refine jIf H (fun c16 H=>?_) fun c16 H=>?_
   ·refine T8 (Za [4,5,6,7] ?_)
    have h68:=sO h67 []
    replace h68:=nf h68
    have h69:=h68.addNil 62 (.slice 55 (.pair (.int .i64) (.pair (.slice 32 (.int .u32)) (.pair (.slice 9 .str) (.pair (.slice 69 (.pair .str (.pair .bool .str))) (.slice 47 (.pair .str .str)))))))
    have h70:=h69.freeze (k:=0) rfl Ye
    cases H
    exact T7 (jRA ⟨_,_,Sc,_,_,rfl,rfl,rfl⟩ (sOR h70 [] [0]))
   refine T9 (Za [2,3,9] ?_)
   have h71:=(sOR h67 [0,0] [0,1,2,3,4])
   exact ⟨k5,by omega,_,H,rfl,h71,by omega⟩
  refine T3 ?_
  have h72:=(sOR h67 [0,0] [0,1,2,3,4])
  exact ⟨k5,_,_,H,rfl,h72,by omega⟩
 rintro env w7 ⟨k2,x3,x4,H,rfl,h8,hk2⟩
 rcases k2 with _ | k2
 ·exact z0 H
 rw [Q135.l1] at H
 refine T8 (T6 (rLo 0 h8 ?_))
 refine Xf Tryz.func22 ?_
 refine T8 (T6 (rB (Z5 h8) fun b3 w8 h9=>?_))
 refine rFi [1] ?_
 refine T8 (T6 (rRL 1 0 h9 ?_))
 refine rRL 1 0 h9 ?_
 refine cE H [] h9 rfl Q59.spec Zm ?_
 rintro r2 w9 _ _ H ⟨v1,l1,ho1,rfl,rfl⟩ h10
 rcases ho2:r2.1 with _ | r3
 ·rw [ho2] at ho1
  obtain ⟨rfl,rfl⟩:=ho1
  replace H:=Gr ho2 H
  obtain ⟨c2,H⟩:=Zh H
  replace h10:=nf h10
  refine rFi [1,4,5] ?_
  refine T8 (T6 (rLo 0 h10 ?_))
  refine Ze 1 ?_
  exact nomatch H
 rw [ho2] at ho1
 obtain ⟨b4,A5,c_5,rfl,rfl⟩:=ho1
 replace H:=Gq ho2 H
 obtain ⟨c3,H⟩:=Zh H
 replace h10:=nf h10
 refine rFi [1,4,5] ?_
 refine T8 (T6 (rLo 2 h10 ?_))
 refine Ze 1 ?_
 refine Xf Tryz.func41 ?_
 refine T8 (T6 (rB (Z5 h10) fun b5 w10 h11=>?_))
 refine rFi [1,2] ?_
 refine T8 (T8 (T6 (rLo 0 h11 ?_)))
 refine cS H [] h11 rfl Q49.spec Zm fun r4 w11 H h12=>?_
 refine rFi [1,2,6] ?_
 refine T8 (Za [1,2,6,13] ?_)
 refine jIf H (fun c4 H=>?_) fun c4 H=>?_
 ·refine T8 (Za [4,5] ?_)
  refine T7 (⟨_,Zk,?_⟩)
  refine rFi [4,5,6,7] ?_
  refine T8 (T8 (T6 (Ze 3 ?_)))
  refine Xw 24 (congrArg Value.bool c3) ?_
  refine rFi [4,6,27] ?_
  refine T1 rfl (fun e=>?_) (fun e=>by rw [c4] at e; cases e)
  refine T8 (Za [2,3] ?_)
  refine T7 (⟨_,Zk,?_⟩)
  refine rFi [2,3,10] ?_
  have h13:=sO h12 [4,4]
  replace h13:=nf h13
  refine T8 (T8 (Za [2,3,10,62] ?_))
  refine Zo ?_
  refine T8 (Za [4,5,6,7] ?_)
  have h14:=sO h13 []
  replace h14:=nf h14
  have h15:=h14.addNil 62 (.slice 55 (.pair (.int .i64) (.pair (.slice 32 (.int .u32)) (.pair (.slice 9 .str) (.pair (.slice 69 (.pair .str (.pair .bool .str))) (.slice 47 (.pair .str .str)))))))
  have h16:=h15.freeze (k:=0) rfl Ye
  cases H
  exact T7 (jRA ⟨_,_,Sc,_,_,rfl,rfl,rfl⟩ (sOR h16 [] [0]))
 refine T9 (T8 (T6 (rRL 2 0 h12 ?_)))
 refine Xf Tryz.func82 ?_
 refine T8 (Za [0,1] ?_)
 refine T8 (T0 (T8 (T6 (Ze 1 ?_))))
 refine cS H [1,1] h12 rfl Q54.spec Zm fun r5 w12 H h17=>?_
 refine rFi [0,1,10] ?_
 refine jIf H (fun c5 H=>?_) fun c5 H=>?_
 ·refine T8 (Za [4,5] ?_)
  refine T7 (⟨_,Zk,?_⟩)
  refine rFi [1,2,7,8] ?_
  refine T8 (T8 (Za [1,2,7,8,23] ?_))
  refine Zo ?_
  refine T8 (Za [4,5] ?_)
  refine T7 (⟨_,Zk,?_⟩)
  refine rFi [4,5,6,7] ?_
  refine T8 (T8 (T6 (Ze 3 ?_)))
  refine Xw 24 (congrArg Value.bool c3) ?_
  refine rFi [4,6,27] ?_
  refine Zo ?_
  refine T8 (Za [2,3] ?_)
  refine T7 (⟨_,Zk,?_⟩)
  refine rFi [2,3,10] ?_
  have h18:=sO h17 [4,4]
  replace h18:=nf h18
  refine T8 (T8 (Za [2,3,10,62] ?_))
  refine Zo ?_
  refine T8 (Za [4,5,6,7] ?_)
  have h19:=sO h18 []
  replace h19:=nf h19
  have h20:=h19.addNil 62 (.slice 55 (.pair (.int .i64) (.pair (.slice 32 (.int .u32)) (.pair (.slice 9 .str) (.pair (.slice 69 (.pair .str (.pair .bool .str))) (.slice 47 (.pair .str .str)))))))
  have h21:=h20.freeze (k:=0) rfl Ye
  cases H
  exact T7 (jRA ⟨_,_,Sc,_,_,rfl,rfl,rfl⟩ (sOR h21 [] [0]))
 refine T8 (T6 (Ze 3 ?_))
 refine Z7 17 H (fun c6 H=>?_) fun c6 H=>?_
 ·refine rFi [0,1,14] ?_
  refine Zo ?_
  refine T8 (Za [4,5] ?_)
  refine T7 (⟨_,Zk,?_⟩)
  refine rFi [1,2,7,8] ?_
  refine T8 (T8 (Za [1,2,7,8,23] ?_))
  refine Zo ?_
  refine T8 (Za [4,5] ?_)
  refine T7 (⟨_,Zk,?_⟩)
  refine rFi [4,5,6,7] ?_
  refine T8 (T8 (T6 (Ze 3 ?_)))
  refine Xw 24 (congrArg Value.bool c3) ?_
  refine rFi [4,6,27] ?_
  refine Zo ?_
  refine T8 (Za [2,3] ?_)
  refine T7 (⟨_,Zk,?_⟩)
  refine rFi [2,3,10] ?_
  have h22:=sO h17 [4,4]
  replace h22:=nf h22
  refine T8 (T8 (Za [2,3,10,62] ?_))
  refine Zo ?_
  refine T8 (Za [4,5,6,7] ?_)
  have h23:=sO h22 []
  replace h23:=nf h23
  have h24:=h23.addNil 62 (.slice 55 (.pair (.int .i64) (.pair (.slice 32 (.int .u32)) (.pair (.slice 9 .str) (.pair (.slice 69 (.pair .str (.pair .bool .str))) (.slice 47 (.pair .str .str)))))))
  have h25:=h24.freeze (k:=0) rfl Ye
  cases H
  exact T7 (jRA ⟨_,_,Sc,_,_,rfl,rfl,rfl⟩ (sOR h25 [] [0]))
 refine rFi [0,1,14] ?_
 refine jIf H (fun c7 H=>?_) fun c7 H=>?_
 ·refine T8 (Za [4,5] ?_)
  refine T7 (⟨_,Zk,?_⟩)
  refine rFi [1,2,7,8] ?_
  refine T8 (T8 (Za [1,2,7,8,23] ?_))
  refine Zo ?_
  refine T8 (Za [4,5] ?_)
  refine T7 (⟨_,Zk,?_⟩)
  refine rFi [4,5,6,7] ?_
  refine T8 (T8 (T6 (Ze 3 ?_)))
  refine Xw 24 (congrArg Value.bool c3) ?_
  refine rFi [4,6,27] ?_
  refine Zo ?_
  refine T8 (Za [2,3] ?_)
  refine T7 (⟨_,Zk,?_⟩)
  refine rFi [2,3,10] ?_
  have h26:=sO h17 [4,4]
  replace h26:=nf h26
  refine T8 (T8 (Za [2,3,10,62] ?_))
  refine Zo ?_
  refine T8 (Za [4,5,6,7] ?_)
  have h27:=sO h26 []
  replace h27:=nf h27
  have h28:=h27.addNil 62 (.slice 55 (.pair (.int .i64) (.pair (.slice 32 (.int .u32)) (.pair (.slice 9 .str) (.pair (.slice 69 (.pair .str (.pair .bool .str))) (.slice 47 (.pair .str .str)))))))
  have h29:=h28.freeze (k:=0) rfl Ye
  cases H
  exact T7 (jRA ⟨_,_,Sc,_,_,rfl,rfl,rfl⟩ (sOR h29 [] [0]))
 refine T9 (T8 (T6 (Ze 1 ?_)))
 refine cE H [] h17 rfl Q35.spec Zm ?_
 rintro r6 w13 _ _ H ⟨v2,l2,ho3,rfl,rfl⟩ h30
 rcases ho4:r6.1 with _ | r7
 ·rw [ho4] at ho3
  obtain ⟨rfl,rfl⟩:=ho3
  replace H:=Gr ho4 H
  obtain ⟨c8,H⟩:=Zh H
  replace h30:=nf h30
  refine rFi [0,1,6,7] ?_
  refine T8 (T8 (Za [0,1,6,7,27] ?_))
  refine T1 rfl (fun e=>?_) (fun e=>by rw [c8] at e; cases e)
  refine T8 (Za [4,5] ?_)
  refine T7 (⟨_,Zk,?_⟩)
  refine rFi [1,2,7,8] ?_
  refine T8 (T8 (Za [1,2,7,8,23] ?_))
  refine T1 rfl (fun e=>?_) (fun e=>by rw [c8] at e; cases e)
  refine T8 (Za [4,5] ?_)
  refine T7 (⟨_,Zk,?_⟩)
  refine rFi [4,5,6,7] ?_
  refine T8 (T8 (T6 (Ze 3 ?_)))
  refine Xw 24 (congrArg Value.bool c3) ?_
  refine rFi [4,6,27] ?_
  refine T1 rfl (fun e=>?_) (fun e=>by rw [c8] at e; cases e)
  refine T8 (Za [2,3] ?_)
  refine T7 (⟨_,Zk,?_⟩)
  refine rFi [2,3,10] ?_
  have h31:=sO h30 [4,4]
  replace h31:=nf h31
  refine T8 (T8 (Za [2,3,10,62] ?_))
  refine Zo ?_
  refine T8 (Za [4,5,6,7] ?_)
  have h32:=sO h31 []
  replace h32:=nf h32
  have h33:=h32.addNil 62 (.slice 55 (.pair (.int .i64) (.pair (.slice 32 (.int .u32)) (.pair (.slice 9 .str) (.pair (.slice 69 (.pair .str (.pair .bool .str))) (.slice 47 (.pair .str .str)))))))
  have h34:=h33.freeze (k:=0) rfl Ye
  cases H
  exact T7 (jRA ⟨_,_,Sc,_,_,rfl,rfl,rfl⟩ (sOR h34 [] [0]))
 rw [ho4] at ho3
 obtain ⟨b6,A6,c_6,rfl,rfl⟩:=ho3
 replace H:=Gq ho4 H
 obtain ⟨c9,H⟩:=Zh H
 replace h30:=nf h30
 refine rFi [0,1,6,7] ?_
 refine T8 (T8 (Za [0,1,6,7,27] ?_))
 refine T1 rfl (fun e=>by rw [c9] at e; cases e) (fun e=>?_)
 refine T9 (T8 (T6 (Ze 2 ?_)))
 obtain ⟨⟨p1,p2⟩,H⟩:=Zh H
 refine rB (Zh7 Z3 (ty:=(.pair (.int .u32) (.pair (.slice 5 (.int .u8)) (.pair .bool (.int .i64))))) ((0,[],false,0):Int×List Int×Bool×Int) rfl rfl rfl rfl rfl rfl (fun _ _=>Zpv ⟨none,0,rfl,Sa _,.inl rfl⟩) (by decide) h30 p1 p2) fun b7 w14 h35=>?_
 refine rB (Ze6 .u32 (Value.int .i64) h35) fun b8 w15 h36=>?_
 refine Ze 2 ?_
 refine rB (Z5 h36) fun b9 w16 h37=>?_
 refine rFi [1,8] ?_
 refine T8 (T8 (Za [8,36,37] ?_))
 refine T0 ?_
 have h64:=h37.addNil 3 (.int .i64)
 have h65:=(sOR h64 [1,5,1,2,6,6,5,4,3,1,0,0] [0,1,2,3,4])
 refine T4 (fun kk env w=>∃ x5 A7 c_7 x6,Q135.l2 kk a0 a1 r3 r7 x5 x6=some r/\env=[(8,.pointer (some ⟨b9,0,none⟩)),(36,.int .i64 a0.2.2.1),(37,.int .i64 x6)]/\St w0 F0 [Xp b9 (.pointer (some ⟨b4,0,none⟩)) (List.replicate a0.2.2.1.toNat ((0,[],false,0):Int×List Int×Bool×Int)) (some ⟨b7,0,none⟩) (a0.2.2.1.toNat) (.map (some b8)) x5 A7 c_7 (.pointer (some ⟨b6,0,none⟩)),Xc b4 r3.1 r3.2.1 A5 c_5 r3.2.2.1 r3.2.2.2,Y5 .u32 (Value.int .i64) b8 [],Yw b6 r7.1 A6 c_6 r7.2,X23 b1 a0.1 a0.2.1 a0.2.2.1 a0.2.2.2.1 a0.2.2.2.2.1 a0.2.2.2.2.2.1 a0.2.2.2.2.2.2.1 a0.2.2.2.2.2.2.2,X28 b2 a1.1 A1 c_1 a1.2.1 A2 c_2 a1.2.2.1 A3 c_3 a1.2.2.2 A4 c_4,X23 b3 a0.1 a0.2.1 a0.2.2.1 a0.2.2.2.1 a0.2.2.2.2.1 a0.2.2.2.2.2.1 a0.2.2.2.2.2.2.1 a0.2.2.2.2.2.2.2,X23 b5 a0.1 a0.2.1 a0.2.2.1 a0.2.2.2.1 a0.2.2.2.2.1 a0.2.2.2.2.2.1 a0.2.2.2.2.2.2.1 a0.2.2.2.2.2.2.2,O5 r3.2.1 A5 c_5,Xo (List.replicate a0.2.2.1.toNat ((0,[],false,0):Int×List Int×Bool×Int)) (some ⟨b7,0,none⟩) (a0.2.2.1.toNat),O3 x5 A7 c_7,Yx r7.1 A6 c_6] [R47 a1.1 A1 c_1,R69 a1.2.1 A2 c_2,R5 a1.2.2.1 A3 c_3,R5 a1.2.2.2 A4 c_4,tabC 1] w) (k:=k2) ⟨_,_,_,_,H,rfl,h65⟩ ?_
 rintro k3 env w17 ⟨x5,A7,c_7,x6,H,rfl,h38⟩
 rcases k3 with _ | k3
 ·exact z0 H
 rw [Q135.l2] at H
 refine T8 (Za [8,36,37,38] ?_)
 refine T8 (jIf H (fun c10 H=>?_) fun c10 H=>?_)
 ·refine T9 (T8 (T0 (T8 (Za [8,9,36,37] ?_))))
  refine T6 (rRL 4 0 h38 ?_)
  refine Ze 1 ?_
  refine rB (Zx (.int .i64) [x6] h38) fun b10 w18 h39=>?_
  obtain ⟨p3,H⟩:=Zh H
  refine Zp (Zs 11 h39 (gO 0) p3) ?_
  rintro _ w19 ⟨A8,c_8,rfl,h40⟩
  replace h40:=nf h40
  refine Ze 2 ?_
  refine rS (Zt 2 h40) fun _ w20 h41=>?_
  refine rFi [8,36,37] ?_
  refine Za [8,36,37] ?_
  have h42:=(sOR h41 [0,2,2,2,2,2,2,2,2,2,0,1] [0,1,2,3,4])
  exact ⟨k3,by omega,_,_,_,_,H,rfl,h42⟩
 refine T3 (T8 (Za [4,5] ?_))
 refine T7 (⟨_,Zk,?_⟩)
 refine rFi [1,2,7,8] ?_
 refine T8 (T8 (Za [1,2,7,8,23] ?_))
 refine Z1 ?_
 refine T9 (T8 (T8 (jH h38 fun h43=>?_)))
 refine Zr [0,2] ?_
 refine Zb 3 rfl (Zi 7 wI) ?_
 refine cEJ 1 rfl H [1,7] h43 rfl Q54.spec Zm ?_
 rintro r8 w21 _ _ H ⟨rfl,rfl⟩ h44
 replace h44:=nf h44
 refine ⟨⟨[],(sO h44 [2,0,1,1,1,1,1,1,0,0,0,0])⟩,?_⟩
 refine Zr [4,5] ?_
 refine W0 30 H (fun c11 H=>?_) fun c11 H=>?_
 ·refine hRF [6,7,8,9,10,11] [1,2,7,36] ?_
  refine Zo ?_
  refine T8 (Za [4,5] ?_)
  refine T7 (⟨_,Zk,?_⟩)
  refine rFi [4,5,6,7] ?_
  refine T8 (T8 (T6 (Ze 3 ?_)))
  refine Xw 24 (congrArg Value.bool c3) ?_
  refine rFi [4,6,27] ?_
  refine Zo ?_
  refine T8 (Za [2,3] ?_)
  refine T7 (⟨_,Zk,?_⟩)
  refine rFi [2,3,10] ?_
  have h45:=sO h44 [5,5]
  replace h45:=nf h45
  refine T8 (T8 (Za [2,3,10,62] ?_))
  refine Zo ?_
  refine T8 (Za [4,5,6,7] ?_)
  have h46:=sO h45 []
  replace h46:=nf h46
  have h47:=h46.addNil 62 (.slice 55 (.pair (.int .i64) (.pair (.slice 32 (.int .u32)) (.pair (.slice 9 .str) (.pair (.slice 69 (.pair .str (.pair .bool .str))) (.slice 47 (.pair .str .str)))))))
  have h48:=h47.freeze (k:=0) rfl Ye
  cases H
  exact T7 (jRA ⟨_,_,Sc,_,_,rfl,rfl,rfl⟩ (sOR h48 [] [0]))
 refine Zr [6,8] ?_
 refine Zb 9 rfl (Zi 7 wI) ?_
 refine cEJ 7 rfl H [0,0] h44 rfl Q55.spec Zm ?_
 rintro r9 w22 _ _ H ⟨rfl,rfl⟩ h49
 replace h49:=nf h49
 refine ⟨⟨[],(sO h49 [2,0,1,1,1,1,1,1,0,0,0,0])⟩,?_⟩
 refine hRF [10,11] [1,2,7,36] ?_
 refine jIf H (fun c12 H=>?_) fun c12 H=>?_
 ·refine T8 (Za [4,5] ?_)
  refine T7 (⟨_,Zk,?_⟩)
  refine rFi [4,5,6,7] ?_
  refine T8 (T8 (T6 (Ze 3 ?_)))
  refine Xw 24 (congrArg Value.bool c3) ?_
  refine rFi [4,6,27] ?_
  refine Zo ?_
  refine T8 (Za [2,3] ?_)
  refine T7 (⟨_,Zk,?_⟩)
  refine rFi [2,3,10] ?_
  have h50:=sO h49 [5,5]
  replace h50:=nf h50
  refine T8 (T8 (Za [2,3,10,62] ?_))
  refine Zo ?_
  refine T8 (Za [4,5,6,7] ?_)
  have h51:=sO h50 []
  replace h51:=nf h51
  have h52:=h51.addNil 62 (.slice 55 (.pair (.int .i64) (.pair (.slice 32 (.int .u32)) (.pair (.slice 9 .str) (.pair (.slice 69 (.pair .str (.pair .bool .str))) (.slice 47 (.pair .str .str)))))))
  have h53:=h52.freeze (k:=0) rfl Ye
  cases H
  exact T7 (jRA ⟨_,_,Sc,_,_,rfl,rfl,rfl⟩ (sOR h53 [] [0]))
 refine T9 (T8 (T6 (rRL 1 8 h49 ?_)))
 refine cE H [] h49 rfl Q80.spec Zm ?_
 rintro r10 w23 _ _ H ⟨v3,l3,ho5,rfl,rfl⟩ h54
 rcases ho6:r10.1 with _ | r11
 ·rw [ho6] at ho5
  obtain ⟨rfl,rfl⟩:=ho5
  replace H:=Gr ho6 H
  obtain ⟨c13,H⟩:=Zh H
  replace h54:=nf h54
  refine rFi [1,2,7,8,9] ?_
  refine T8 (T8 (Za [1,2,7,8,9,44] ?_))
  refine T1 rfl (fun e=>?_) (fun e=>by rw [c13] at e; cases e)
  refine T8 (Za [4,5] ?_)
  refine T7 (⟨_,Zk,?_⟩)
  refine rFi [4,5,6,7] ?_
  refine T8 (T8 (T6 (Ze 3 ?_)))
  refine Xw 24 (congrArg Value.bool c3) ?_
  refine rFi [4,6,27] ?_
  refine T1 rfl (fun e=>?_) (fun e=>by rw [c13] at e; cases e)
  refine T8 (Za [2,3] ?_)
  refine T7 (⟨_,Zk,?_⟩)
  refine rFi [2,3,10] ?_
  have h55:=sO h54 [5,5]
  replace h55:=nf h55
  refine T8 (T8 (Za [2,3,10,62] ?_))
  refine Zo ?_
  refine T8 (Za [4,5,6,7] ?_)
  have h56:=sO h55 []
  replace h56:=nf h56
  have h57:=h56.addNil 62 (.slice 55 (.pair (.int .i64) (.pair (.slice 32 (.int .u32)) (.pair (.slice 9 .str) (.pair (.slice 69 (.pair .str (.pair .bool .str))) (.slice 47 (.pair .str .str)))))))
  have h58:=h57.freeze (k:=0) rfl Ye
  cases H
  exact T7 (jRA ⟨_,_,Sc,_,_,rfl,rfl,rfl⟩ (sOR h58 [] [0]))
 rw [ho6] at ho5
 obtain ⟨b11,b12,A9,c_9,rfl,rfl⟩:=ho5
 replace H:=Gq ho6 H
 obtain ⟨c14,H⟩:=Zh H
 replace h54:=nf h54
 refine rFi [1,2,7,8,9] ?_
 refine T8 (T8 (Za [1,2,7,8,9,44] ?_))
 refine T1 rfl (fun e=>by rw [c14] at e; cases e) (fun e=>?_)
 refine T9 (T8 (T6 (rLo 11 h54 ?_)))
 refine Ze 4 ?_
 refine rB (Z5 h54) fun b13 w24 h59=>?_
 refine rFi [4,5] ?_
 refine T7 (⟨_,Zk,?_⟩)
 refine rFi [4,5,6,7] ?_
 refine T8 (T8 (T6 (Ze 3 ?_)))
 refine Xw 24 (congrArg Value.bool c3) ?_
 refine rFi [4,6,27] ?_
 refine Z1 ?_
 refine T9 (T8 (Za [2,3] ?_))
 refine T7 (⟨_,Zk,?_⟩)
 refine rFi [2,3,10] ?_
 have h60:=sO h59 [0,0,0,0,0,0,0,0,0,0,0,2,2,2]
 replace h60:=nf h60
 refine T8 (T8 (Za [2,3,10,62] ?_))
 refine Z1 ?_
 refine T9 (T8 (T6 (rLo 9 h60 ?_)))
 refine rLo 10 h60 ?_
 obtain ⟨r12,q9,H⟩:=Yf H
 refine Zp (Z2 [] (Q134.spec q9) h60 rfl (gS [0,1,2,3])) ?_
 rintro _ w25 ⟨_,_,⟨A10,c_10,rfl,rfl,rfl⟩,h61⟩
 replace h61:=nf h61
 refine rFi [10,12] ?_
 have h62:=sO h61 [0,0,0,0,0,0,0,0,0,2,2,2]
 replace h62:=nf h62
 refine T8 (T6 (Ze 2 ?_))
 refine cE H [0,5,3,3,5,3,4,3,3,0,0,0] h62 rfl Q133.spec (gS [0,5]) ?_
 rintro r13 w26 _ _ H ⟨A11,c_11,A12,c_12,A13,c_13,A14,c_14,A15,c_15,rfl,rfl⟩ h63
 replace h63:=nf h63
 refine rFi [10,12,13,14] ?_
 refine T8 (Za [4,5,6,7] ?_)
 cases H
 exact T7 (jRA ⟨_,_,(Sd ⟨_,_,_,_,_,_,_,_,_,_,_,_,_,_,_,_,_,rfl,rfl⟩),_,_,rfl,rfl,rfl⟩ (sOR h63 [0,0,0,0,0,0,0,0,0,0,0,0] [0]))

def Q69.f (a0:TA):Option (Bool):=if (!a0.2.2)=true then (some (Op.bytesLess a0.2.1 a0.1 || decide (a0.2.1=a0.1))) else (some false)
theorem Q69.spec {a0 r} (H:Q69.f a0=some r) :
  Spec prog 25 [.agg #[.string ⟨⟨a0.1⟩⟩,.string ⟨⟨a0.2.1⟩⟩,.bool a0.2.2]] [] [] (fun v l=>v=.bool r/\l=[]):=by
 refine Zf Tryz.func25 fun w0 F0 h0=>?_
 unfold Q69.f at H
 refine T8 (T6 (rB (Z5 h0) fun b1 w1 h1=>?_))
 refine rFi [1] ?_
 refine T8 (T6 (rRL 1 0 h1 ?_))
 refine Ze 2 ?_
 refine Z7 6 H (fun c1 H=>?_) fun c1 H=>?_
 ·refine rRL 1 0 h1 ?_
  refine rRL 1 0 h1 ?_
  refine rFi [2] ?_
  cases H
  exact T7 (jR0 h1 [])
 refine rFi [2] ?_
 cases H
 exact T7 (jR0 h1 [])

def Q95.f (a0:Tg) (a1:Int):Option (Int):=if (decide (a1=0))=true then (some 4) else (if (decide (a0.1.1<=(w64 (a1))))=true then (some 4) else (some 0))
theorem Q95.spec {a0 a1 b1 b2 b3 b4 b5 b6 b7 A1 c_1 A2 c_2 A3 c_3 A4 c_4 A5 c_5 r} (H:Q95.f a0 a1=some r) :
  Spec prog 30 [.pointer (some ⟨b1,0,none⟩),.int .u32 a1] (Ub a0 b1 b2 b3 b4 b5 b6 b7 A1 A2 A3 A4 A5 c_1 c_2 c_3 c_4 c_5) [] (fun v l=>v=.int .i64 r/\l=Ub a0 b1 b2 b3 b4 b5 b6 b7 A1 A2 A3 A4 A5 c_1 c_2 c_3 c_4 c_5):=by
 refine Zf Tryz.func30 fun w0 F0 h0=>?_
 replace h0:=nf h0
 unfold Q95.f at H
 refine T8 (Za [0,1] ?_)
 refine T8 (T0 (T8 (T6 (rRL 6 0 h0 ?_))))
 refine rFi [0,1,5] ?_
 refine Z1 ?_
 refine T8 (T6 (Ze 3 ?_))
 refine Z7 18 H (fun c1 H=>?_) fun c1 H=>?_
 ·refine rFi [15] ?_
  refine Zo ?_
  refine T8 (Za [4] ?_)
  cases H
  exact T7 (jR0 h0 [0,0,0,0,0,0,0,0,0,0,0,0])
 refine rRL 6 0 h0 ?_
 refine rFi [15] ?_
 refine jIf H (fun c2 H=>?_) fun c2 H=>?_
 ·refine T8 (Za [4] ?_)
  cases H
  exact T7 (jR0 h0 [0,0,0,0,0,0,0,0,0,0,0,0])
 refine T9 (T8 (Za [4] ?_))
 cases H
 exact T7 (jR0 h0 [0,0,0,0,0,0,0,0,0,0,0,0])

def Q56.f (a0:TD) (a1:Int):Option (List Int×Int×TD):=(Q54.f a0).bind fun r1=>(if (decide (r1=0))=true then (some ([],1,a0)) else ((Q54.f a0).bind fun r2=>(if (decide (r2<=(w64 (a1))))=true then (some ([],4,a0)) else (if 0<=(w64 ((w64 (a1))*a0.1))/\(w64 ((w64 (a1))*a0.1))<=(w64 ((w64 ((w64 (a1))*a0.1))+a0.1))/\(w64 ((w64 ((w64 (a1))*a0.1))+a0.1))<=(a0.2.1.length:Int) then ((Q100.f ((a0.2.1.drop ((w64 ((w64 (a1))*a0.1))).toNat).take (((w64 ((w64 ((w64 (a1))*a0.1))+a0.1))).toNat - ((w64 ((w64 (a1))*a0.1))).toNat))).bind fun r3=>(some (r3,0,(a0.1,a0.2.1,((uH.wrap (a0.2.2.1+1)),a0.2.2.2))))) else none))))
theorem Q56.spec {a0 a1 b1 A1 c_1 r} (H:Q56.f a0 a1=some r) :
  Spec prog 58 [.pointer (some ⟨b1,0,none⟩),.int .u32 a1] (B9 a0 b1 A1 c_1) [] (fun v l=>∃ A_0 c_0 A_1 c_1,v=.tuple #[.slice A_0 r.1.length c_0,.int .i64 r.2.1]/\l=[O5 r.1 A_0 c_0] ++ B9 r.2.2 b1 A_1 c_1):=by
 refine Zf Tryz.func58 fun w0 F0 h0=>?_
 replace h0:=nf h0
 unfold Q56.f at H
 refine T8 (Za [0,1] ?_)
 refine T8 (T6 (Ze 2 ?_))
 refine Xf Tryz.func107 ?_
 refine T8 (Za [0,1] ?_)
 refine T8 (T0 (T8 (T6 (Ze 1 ?_))))
 refine cS H [0,0] h0 rfl Q54.spec Zm fun r1 w1 H h1=>?_
 refine rFi [0,1,7] ?_
 refine jIf H (fun c1 H=>?_) fun c1 H=>?_
 ·refine T8 (Za [4,5] ?_)
  refine T7 (⟨_,Zk,?_⟩)
  refine rFi [0,6,7] ?_
  refine T8 (T8 (Za [0,6,7,15] ?_))
  refine Zo ?_
  refine T8 (Za [4,5] ?_)
  have h2:=h1.addNil 5 (.int .u8)
  cases H
  exact T7 (jR ⟨_,_,_,_,rfl,rfl⟩ h2 [0,0,0])
 refine T8 (T6 (Ze 3 ?_))
 refine cS H [0,0] h1 rfl Q54.spec Zm fun r2 w2 H h3=>?_
 refine rFi [0,1,11] ?_
 refine jIf H (fun c2 H=>?_) fun c2 H=>?_
 ·refine T8 (Za [4,5] ?_)
  refine T7 (⟨_,Zk,?_⟩)
  refine rFi [0,6,7] ?_
  refine T8 (T8 (Za [0,6,7,15] ?_))
  refine Zo ?_
  refine T8 (Za [4,5] ?_)
  have h4:=h3.addNil 5 (.int .u8)
  cases H
  exact T7 (jR ⟨_,_,_,_,rfl,rfl⟩ h4 [0,0,0])
 refine T9 (T8 (T6 (rRL 5 0 h3 ?_)))
 refine rFi [0,6] ?_
 refine T8 (jH h3 fun h5=>?_)
 refine Zr [0,1,2,4,5,6,7,8] ?_
 refine Zb 3 rfl (Zi 0 wI) ?_
 refine Zb 9 rfl (Zi 0 wI) ?_
 refine Zr [10] ?_
 obtain ⟨⟨p1,p2,p3⟩,H⟩:=Zh H
 have e1:=h5.cap (gO 1)
 refine Zb 11 rfl (J4 ((a0.2.1.drop ((w64 ((w64 (a1))*a0.1))).toNat).take (((w64 ((w64 ((w64 (a1))*a0.1))+a0.1))).toNat - ((w64 ((w64 (a1))*a0.1))).toNat)) (w64 ((w64 (a1))*a0.1)) (w64 ((w64 ((w64 (a1))*a0.1))+a0.1)) e1 p1 p2 p3) ?_
 refine hRF [12,13] [4,5] ?_
 refine T7 (⟨_,Zk,?_⟩)
 refine rFi [0,6,7] ?_
 refine T8 (T8 (Za [0,6,7,15] ?_))
 refine Z1 ?_
 refine T9 (T8 (T6 (rRL 4 0 h5 ?_)))
 refine Ze 4 ?_
 refine rS (Zt 0 h5) fun _ w3 h6=>?_
 refine rFi [6] ?_
 refine T8 (T6 (Ze 1 ?_))
 refine cE H [] h6 rfl Q100.spec (Xl ((Gives.of 1 rfl Ye).trans (Gj (.int .u8) ((a0.2.1.drop ((w64 ((w64 (a1))*a0.1))).toNat).take (((w64 ((w64 ((w64 (a1))*a0.1))+a0.1))).toNat - ((w64 ((w64 (a1))*a0.1))).toNat)) (w64 ((w64 (a1))*a0.1)) (w64 ((w64 ((w64 (a1))*a0.1))+a0.1)) p1 p2 p3)) Zm) ?_
 rintro r3 w4 _ _ H ⟨A2,c_2,rfl,rfl⟩ h7
 replace h7:=nf h7
 refine rFi [4,5] ?_
 cases H
 exact T7 (jR ⟨_,_,_,_,rfl,rfl⟩ h7 [0,0,0])

def Q19.f (a0:Ti) (a1:Int):Option Th:=(Q26.f a0 a1).bind fun r1=>(if (!decide (r1=0))=true then (some (r1,a0)) else (if (Y7 a0.2.2.1 a1)=true then (if 0<=(Zq (0:Int) a0.2.2.1 a1)/\(Zq (0:Int) a0.2.2.1 a1)<(a0.2.1.length:Int) then ((Q27.f a0.2.2.2.2 (Zq (0:Int) a0.2.2.1 a1)).bind fun r2=>(some (0,(a0.1,(a0.2.1.set (Zq (0:Int) a0.2.2.1 a1).toNat ((gt a0.2.1 (Zq (0:Int) a0.2.2.1 a1)).1,(gt a0.2.1 (Zq (0:Int) a0.2.2.1 a1)).2.1,(gt a0.2.1 (Zq (0:Int) a0.2.2.1 a1)).2.2.1,(w64 (((gt a0.2.1 (Zq (0:Int) a0.2.2.1 a1)).2.2.2)+1)))),a0.2.2.1,a0.2.2.2.1,r2.2)))) else none) else ((Q25.f a0).bind fun r3=>(if (!r3.2.1)=true then (some (7,r3.2.2)) else ((Q56.f r3.2.2.1 a1).bind fun r4=>(if (!decide (r4.2.1=0))=true then (if (r3.2.2.2.2.2.1.length+([r3.1]:List Int).length)*8<=140737488355328 then (some (r4.2.1,(r4.2.2,r3.2.2.2.1,r3.2.2.2.2.1,(r3.2.2.2.2.2.1 ++ [r3.1]),r3.2.2.2.2.2.2))) else none) else (if 0<=r3.1/\r3.1<(r3.2.2.2.1.length:Int) then ((Q27.f r3.2.2.2.2.2.2 r3.1).bind fun r5=>(some (0,(r4.2.2,(r3.2.2.2.1.set r3.1.toNat (a1,r4.1,false,1)),(Ul a1 r3.1 r3.2.2.2.2.1),r3.2.2.2.2.2.1,r5.2)))) else none)))))))
theorem Q19.spec {a0 a1 b1 b2 b3 b4 A1 c_1 A2 c_2 A3 c_3 A4 c_4 r} (H:Q19.f a0 a1=some r) :
  Spec prog 31 [.pointer (some ⟨b1,0,none⟩),.int .u32 a1] (Ua a0 b1 b2 b3 b4 A1 A2 A3 A4 c_1 c_2 c_3 c_4) [] (fun v l=>∃ A_0 c_0 A_1 c_1 A_2 c_2 A_3 c_3,v=.int .i64 r.1/\l=Ua r.2 b1 b2 b3 b4 A_0 A_1 A_2 A_3 c_0 c_1 c_2 c_3):=by
 refine Zf Tryz.func31 fun w0 F0 h0=>?_
 replace h0:=nf h0
 unfold Q19.f at H
 refine T8 (Za [0,1] ?_)
 refine T8 (T8 (T6 (Ze 2 ?_)))
 refine cS H [0,0,0,0,0,0,0,0] h0 rfl Q26.spec Zm fun r1 w1 H h1=>?_
 refine rFi [0,1,5] ?_
 refine T8 (Za [0,1,5,16] ?_)
 refine jIf H (fun c1 H=>?_) fun c1 H=>?_
 ·refine T8 (Za [4] ?_)
  cases H
  exact T7 (jR ⟨_,_,_,_,_,_,_,_,rfl,rfl⟩ h1 [0,0,0,0,0,0,0,0])
 refine T9 (T8 (T8 (T6 (rRL 3 0 h1 ?_))))
 refine Ze 1 ?_
 refine Zj (W9 (0:Int) 4 h1.wht) ?_
 refine rFi [0,1,6,7] ?_
 refine T8 (Za [0,1,6,27] ?_)
 refine jIf H (fun c2 H=>?_) fun c2 H=>?_
 ·refine T8 (T6 (rRL 3 0 h1 ?_))
  refine Ze 1 ?_
  obtain ⟨⟨p1,p2⟩,H⟩:=Zh H
  have e1:=Zy h1.wh (gO 3) p1 p2
  refine Zj (Zc e1 p1 p2) ?_
  refine Ze 1 ?_
  refine Zj (Xa 3 h1.wht (gO 3) p1 p2) ?_
  refine Ze 1 ?_
  refine Zj (Zc e1 p1 p2) ?_
  refine Ze 1 ?_
  refine rS (Vg 3 (.pair (.int .u32) (.pair (.slice 5 (.int .u8)) (.pair .bool (.int .i64)))) (Zq (0:Int) a0.2.2.1 a1) ((gt a0.2.1 (Zq (0:Int) a0.2.2.1 a1)).1,(gt a0.2.1 (Zq (0:Int) a0.2.2.1 a1)).2.1,(gt a0.2.1 (Zq (0:Int) a0.2.2.1 a1)).2.2.1,(w64 (((gt a0.2.1 (Zq (0:Int) a0.2.2.1 a1)).2.2.2)+1))) 3 h1 rfl p1 p2 (Zaz rfl rfl)) fun _ w2 h2=>?_
  replace h2:St w0 F0 [Xo (a0.2.1.set (Zq (0:Int) a0.2.2.1 a1).toNat ((gt a0.2.1 (Zq (0:Int) a0.2.2.1 a1)).1,(gt a0.2.1 (Zq (0:Int) a0.2.2.1 a1)).2.1,(gt a0.2.1 (Zq (0:Int) a0.2.2.1 a1)).2.2.1,(w64 (((gt a0.2.1 (Zq (0:Int) a0.2.2.1 a1)).2.2.2)+1)))) A2 c_2,Xp b1 (.pointer (some ⟨b2,0,none⟩)) (a0.2.1.set (Zq (0:Int) a0.2.2.1 a1).toNat ((gt a0.2.1 (Zq (0:Int) a0.2.2.1 a1)).1,(gt a0.2.1 (Zq (0:Int) a0.2.2.1 a1)).2.1,(gt a0.2.1 (Zq (0:Int) a0.2.2.1 a1)).2.2.1,(w64 (((gt a0.2.1 (Zq (0:Int) a0.2.2.1 a1)).2.2.2)+1)))) A2 c_2 (.map (some b3)) a0.2.2.2.1 A3 c_3 (.pointer (some ⟨b4,0,none⟩)),Xc b2 a0.1.1 a0.1.2.1 A1 c_1 a0.1.2.2.1 a0.1.2.2.2,O5 a0.1.2.1 A1 c_1,Y5 .u32 (Value.int .i64) b3 a0.2.2.1,O3 a0.2.2.2.1 A3 c_3,Yw b4 a0.2.2.2.2.1 A4 c_4 a0.2.2.2.2.2,Yx a0.2.2.2.2.1 A4 c_4] _ _:=h2.retell (by simp only [length_set,length_nil,Xo,Yx,O3,O5,Xp,Xc,Yw] <;> rfl)
  refine rFi [0,6] ?_
  refine T8 (T6 (rRL 3 1 h2 ?_))
  refine Ze 1 ?_
  refine cE H [6,6] h2 rfl Q27.spec Zm ?_
  rintro r2 w3 _ _ H ⟨A5,c_5,rfl,rfl⟩ h3
  replace h3:=nf h3
  refine rFi [] ?_
  refine T8 (Za [4] ?_)
  cases H
  exact T7 (jR ⟨_,_,_,_,_,_,_,_,rfl,rfl⟩ h3 [3,3,3,2,2,2,0,0])
 refine T9 (T8 (T6 (Ze 1 ?_)))
 refine cE H [0,0,0,0,0,0,0,0] h1 rfl Q25.spec Zm ?_
 rintro r3 w4 _ _ H ⟨A6,c_6,A7,c_7,A8,c_8,A9,c_9,rfl,rfl⟩ h4
 replace h4:=nf h4
 refine rFi [0,1,8,9] ?_
 refine T8 (T8 (Za [0,1,8,51] ?_))
 refine jIf H (fun c3 H=>?_) fun c3 H=>?_
 ·refine T8 (Za [4] ?_)
  cases H
  exact T7 (jR ⟨_,_,_,_,_,_,_,_,rfl,rfl⟩ h4 [0,0,0,0,0,0,0,0])
 refine T9 (T8 (T6 (rRL 3 0 h4 ?_)))
 refine Ze 1 ?_
 refine cE H [1,1] h4 rfl Q56.spec Zm ?_
 rintro r4 w5 _ _ H ⟨A10,c_10,A11,c_11,rfl,rfl⟩ h5
 replace h5:=nf h5
 refine rFi [0,1,8,10,11] ?_
 refine T8 (T8 (Za [0,1,8,10,11,62] ?_))
 refine jIf H (fun c4 H=>?_) fun c4 H=>?_
 ·refine T8 (T6 (rRL 4 3 h5 ?_))
  refine Ze 1 ?_
  refine rB (Zx (.int .i64) [r3.1] h5) fun b5 w6 h6=>?_
  obtain ⟨p3,H⟩:=Zh H
  refine Zp (Zs 7 h6 (gO 0) p3) ?_
  rintro _ w7 ⟨A12,c_12,rfl,h7⟩
  replace h7:=nf h7
  refine Ze 2 ?_
  refine rS (Zt 5 h7) fun _ w8 h8=>?_
  refine rFi [11] ?_
  have h9:=sO h8 [0,0,2,2,2,2,2,2]
  replace h9:=nf h9
  refine T8 (Za [4] ?_)
  cases H
  exact T7 (jR ⟨_,_,_,_,_,_,_,_,rfl,rfl⟩ h9 [0,1,1,1,1,0,0,0])
 refine T9 (T8 (T6 (Ze 5 ?_)))
 refine Xf Tryz.func59 ?_
 refine T8 (T6 (rB (Z5 h5) fun b6 w9 h10=>?_))
 refine rFi [0,1,5] ?_
 refine T8 (T6 (Ze 1 ?_))
 refine rS (Zt 0 h10) fun _ w10 h11=>?_
 refine rFi [0,1,5] ?_
 refine T8 (Zv (sO h11 [0,1,1,1,2,2,2,2]) ?_)
 have h12:=h11.drew
 refine Zr [0,1,2,4] ?_
 refine Zb 3 rfl (Zi 3 wI) ?_
 refine Zb 5 rfl (Zi 0 wI) ?_
 obtain ⟨⟨p4,p5⟩,H⟩:=Zh H
 have e2:=Zy h12.wh (gO 5) p4 p5
 refine Zb 6 rfl (Zc e2 p4 p5) ?_
 have h13:=(h12.only [5,1,0,0,0,0,0,0,0,0] rfl).both
 refine hS 7 rfl (V2 0 (.pair (.int .u32) (.pair (.slice 5 (.int .u8)) (.pair .bool (.int .i64)))) r3.1 (a1,r4.1,false,1) h13 p4 p5 Zfi) 1 fun _ w11 h14=>?_
 replace h14:St w0 F0 [Xo (r3.2.2.2.1.set r3.1.toNat (a1,r4.1,false,1)) A7 c_7,Zmb b6 a1 r4.1 A10 c_10 false 1,Xc b2 r4.2.2.1 r4.2.2.2.1 A11 c_11 r4.2.2.2.2.1 r4.2.2.2.2.2,O5 r4.2.2.2.1 A11 c_11,Xp b1 (.pointer (some ⟨b2,0,none⟩)) (r3.2.2.2.1.set r3.1.toNat (a1,r4.1,false,1)) A7 c_7 (.map (some b3)) r3.2.2.2.2.2.1 A8 c_8 (.pointer (some ⟨b4,0,none⟩)),Y5 .u32 (Value.int .i64) b3 r3.2.2.2.2.1,O3 r3.2.2.2.2.2.1 A8 c_8,Yw b4 r3.2.2.2.2.2.2.1 A9 c_9 r3.2.2.2.2.2.2.2,Yx r3.2.2.2.2.2.2.1 A9 c_9] _ _:=h14.retell (by simp only [length_set,length_nil,Xo,Yx,O3,O5,Xp,Zmb,Xc,Yw] <;> rfl)
 refine Y6 [0,1,5] ?_
 refine T8 (Zv (sO h14 [0,0,0,0,0,1,1,1]) ?_)
 have h15:=h14.drew
 refine Zr [0,1,2,4,6] ?_
 refine Zb 3 rfl (Zi 4 wI) ?_
 refine Zb 5 rfl (Zi 1 wI) ?_
 refine hS 7 rfl (Zgo Z3 (v:=r3.1) (ix:=a1) 5 rfl h15 rfl rfl rfl rfl rfl rfl rfl rfl rfl) 1 fun _ w12 h16=>?_
 refine Y6 [0,1] ?_
 refine T6 (rRL 3 5 h16 ?_)
 refine Ze 1 ?_
 refine cE H [7,7] h16 rfl Q27.spec Zm ?_
 rintro r5 w13 _ _ H ⟨A13,c_13,rfl,rfl⟩ h17
 replace h17:=nf h17
 refine rFi [] ?_
 refine ⟨_,Zk,?_⟩
 refine rFi [] ?_
 refine T8 (Za [4] ?_)
 cases H
 exact T7 (jR ⟨_,_,_,_,_,_,_,_,rfl,rfl⟩ h17 [7,5,5,3,2,3,0,0])

def Q20.f (a0:Ti) (a1:Int):Option TQ:=(Q24.f a0).bind fun r1=>(if r1=true then (some ([],1)) else (if (!(Y7 a0.2.2.1 a1))=true then (some ([],8)) else (if 0<=(Zq (0:Int) a0.2.2.1 a1)/\(Zq (0:Int) a0.2.2.1 a1)<(a0.2.1.length:Int) then (if (decide (((gt a0.2.1 (Zq (0:Int) a0.2.2.1 a1)).2.2.2)=0))=true then (some ([],8)) else ((Q100.f ((gt a0.2.1 (Zq (0:Int) a0.2.2.1 a1)).2.1)).bind fun r2=>(some (r2,0)))) else none)))
theorem Q20.spec {a0 a1 b1 b2 b3 b4 A1 c_1 A2 c_2 A3 c_3 A4 c_4 r} (H:Q20.f a0 a1=some r) :
  Spec prog 32 [.pointer (some ⟨b1,0,none⟩),.int .u32 a1] (Ua a0 b1 b2 b3 b4 A1 A2 A3 A4 c_1 c_2 c_3 c_4) [] (fun v l=>∃ A_0 c_0,v=.tuple #[.slice A_0 r.1.length c_0,.int .i64 r.2]/\l=[O5 r.1 A_0 c_0] ++ Ua a0 b1 b2 b3 b4 A1 A2 A3 A4 c_1 c_2 c_3 c_4):=by
 refine Zf Tryz.func32 fun w0 F0 h0=>?_
 replace h0:=nf h0
 unfold Q20.f at H
 refine T8 (Za [0,1] ?_)
 refine T8 (T6 (Ze 2 ?_))
 refine Xf Tryz.func60 ?_
 refine T8 (Za [0,1] ?_)
 refine T8 (T8 (T6 (Ze 1 ?_)))
 refine cS H [0,0,0,0,0,0,0,0] h0 rfl Q24.spec Zm fun r1 w1 H h1=>?_
 refine rFi [0,1,9] ?_
 refine jIf H (fun c1 H=>?_) fun c1 H=>?_
 ·refine T8 (Za [4,5] ?_)
  refine T7 (⟨_,Zk,?_⟩)
  refine rFi [6,7] ?_
  refine T8 (T8 (Za [6,7,15] ?_))
  refine Zo ?_
  refine T8 (Za [4,5] ?_)
  have h2:=h1.addNil 5 (.int .u8)
  cases H
  exact T7 (jR ⟨_,_,rfl,rfl⟩ h2 [0,0,0,0,0,0,0,0,0])
 refine T9 (T8 (T6 (rRL 3 0 h1 ?_)))
 refine Ze 1 ?_
 refine Zj (W9 (0:Int) 4 h1.wht) ?_
 refine rFi [0,6,7] ?_
 refine T8 (T8 (T6 (Ze 3 ?_)))
 refine Z7 21 H (fun c2 H=>?_) fun c2 H=>?_
 ·refine rFi [0,6,31] ?_
  refine Zo ?_
  refine T8 (Za [4,5] ?_)
  refine T7 (⟨_,Zk,?_⟩)
  refine rFi [6,7] ?_
  refine T8 (T8 (Za [6,7,15] ?_))
  refine Zo ?_
  refine T8 (Za [4,5] ?_)
  have h3:=h1.addNil 5 (.int .u8)
  cases H
  exact T7 (jR ⟨_,_,rfl,rfl⟩ h3 [0,0,0,0,0,0,0,0,0])
 refine rRL 3 0 h1 ?_
 refine Ze 1 ?_
 obtain ⟨⟨p1,p2⟩,H⟩:=Zh H
 have e1:=Zy h1.wh (gO 3) p1 p2
 refine Zj (Zc e1 p1 p2) ?_
 refine Ze 1 ?_
 refine Zj (Xa 3 h1.wht (gO 3) p1 p2) ?_
 refine rFi [0,6,31] ?_
 refine jIf H (fun c3 H=>?_) fun c3 H=>?_
 ·refine T8 (Za [4,5] ?_)
  refine T7 (⟨_,Zk,?_⟩)
  refine rFi [6,7] ?_
  refine T8 (T8 (Za [6,7,15] ?_))
  refine Zo ?_
  refine T8 (Za [4,5] ?_)
  have h4:=h1.addNil 5 (.int .u8)
  cases H
  exact T7 (jR ⟨_,_,rfl,rfl⟩ h4 [0,0,0,0,0,0,0,0,0])
 refine T9 (T8 (T6 (rRL 3 0 h1 ?_)))
 refine Ze 1 ?_
 refine Zj (Zc e1 p1 p2) ?_
 refine rFi [4,5] ?_
 refine T7 (⟨_,Zk,?_⟩)
 refine rFi [6,7] ?_
 refine T8 (T8 (Za [6,7,15] ?_))
 refine Z1 ?_
 refine T9 (T8 ?_)
 obtain ⟨A5,c_5,h5⟩:=h1.openI 3 rfl p1 p2
 refine T6 (Ze 3 ?_)
 refine Zj (Zb1 h5.wht (Zg 0)) ?_
 refine cE H [] h5 rfl Q100.spec (Xl (G5 0 Zj4) Zm) ?_
 rintro r2 w2 _ _ H ⟨A6,c_6,rfl,rfl⟩ h6
 replace h6:=nf h6
 refine rFi [4,5] ?_
 have h7:=h6.closeI 1 rfl
 cases H
 exact T7 (jR ⟨_,_,rfl,rfl⟩ h7 [1,1,1,1,0,0,0,0,0])

def Q156.f (a0:TW):Option (TQ):=(Q100.f a0).bind fun r1=>(some (r1,0))
theorem Q156.spec {a0 A1 c_1 r} (H:Q156.f a0=some r) :
  SpecA prog 64 [.slice A1 a0.length c_1] [] [R5 a0 A1 c_1] (fun v l lr=>∃ b_0 A_1 c_1,v=.pointer (some ⟨b_0,0,none⟩)/\l=[Wj b_0 r.1 A_1 c_1 r.2]/\lr=[R5 r.1 A_1 c_1]):=by
 refine Yq Tryz.func64 fun w0 F0 h0=>?_
 unfold Q156.f at H
 refine T8 (Za [0] ?_)
 refine T8 (T6 (Ze 1 ?_))
 refine cE H [] h0 rfl Q100.spec (gS [0]) ?_
 rintro r1 w1 _ _ H ⟨A2,c_2,rfl,rfl⟩ h1
 replace h1:=nf h1
 refine Ze 1 ?_
 refine rB (Z5 h1) fun b1 w2 h2=>?_
 refine rFi [2] ?_
 have h3:=h2.freeze (k:=1) rfl Ye
 cases H
 exact T7 (jRA ⟨_,_,_,rfl,rfl,rfl⟩ (sOR h3 [0] [0]))

def Q165.f (a0:TQ) (a1:Int):Option (TQ):=if (decide (a0.2=0))=true then (some ([],a1)) else (some ([],a0.2))
theorem Q165.spec {a0 a1 A1 c_1 b1 r} (H:Q165.f a0 a1=some r) :
  SpecA prog 116 [.pointer (some ⟨b1,0,none⟩),.int .i64 a1] [Wj b1 a0.1 A1 c_1 a0.2] [R5 a0.1 A1 c_1] (fun v l lr=>∃ A_0 c_0,v=.tuple #[]/\l=[Wj b1 r.1 A_0 c_0 r.2]/\lr=[R5 r.1 A_0 c_0]):=by
 refine Yq Tryz.func116 fun w0 F0 h0=>?_
 unfold Q165.f at H
 refine T8 (T8 (T6 (rRL 3 0 h0 ?_)))
 refine rFi [0,1,8] ?_
 refine jIf H (fun c1 H=>?_) fun c1 H=>?_
 ·refine T6 (Ze 4 ?_)
  refine rS (Zt 0 h0) fun _ w1 h1=>?_
  refine rFi [0] ?_
  refine T6 (Ze 3 ?_)
  refine rS (Zt 0 h1) fun _ w2 h2=>?_
  refine rFi [] ?_
  have h3:=h2.addNil 5 (.int .u8)
  have h4:=h3.freeze (k:=0) rfl Ye
  cases H
  exact ⟨_,_,_,Zk,⟨_,_,rfl,rfl,rfl⟩,sOR h4 [0] [0]⟩
 refine T9 (T6 (Ze 3 ?_))
 refine rS (Zt 0 h0) fun _ w3 h5=>?_
 refine rFi [] ?_
 have h6:=h5.addNil 5 (.int .u8)
 have h7:=h6.freeze (k:=0) rfl Ye
 cases H
 exact ⟨_,_,_,Zk,⟨_,_,rfl,rfl,rfl⟩,sOR h7 [0] [0]⟩

def Q160.f (a0:TQ) (a1:Int):Option (List Int×TQ):=if (!decide (a0.2=0))=true then (some ([],a0)) else (if (decide (a1<0))=true then ((Q165.f a0 2).bind fun r1=>(some ([],r1))) else (if (decide ((a0.1.length:Int)<a1))=true then ((Q165.f a0 5).bind fun r2=>(some ([],r2))) else (if 0<=a1/\a1*1<=281474976710656 then (if 0<=a1/\a1<=(a0.1.length:Int) then (some ((patch (List.replicate a1.toNat (0:Int)) 0 ((List.replicate a1.toNat (0:Int)).length) a0.1),((a0.1.drop a1.toNat),a0.2))) else none) else none)))
theorem Q160.spec {a0 a1 A1 c_1 b1 r} (H:Q160.f a0 a1=some r) :
  SpecA prog 113 [.pointer (some ⟨b1,0,none⟩),.int .i64 a1] [Wj b1 a0.1 A1 c_1 a0.2] [R5 a0.1 A1 c_1] (fun v l lr=>∃ A_0 c_0 A_1 c_1,v=.slice A_0 r.1.length c_0/\l=[O5 r.1 A_0 c_0,Wj b1 r.2.1 A_1 c_1 r.2.2]/\lr=[R5 r.2.1 A_1 c_1]):=by
 refine Yq Tryz.func113 fun w0 F0 h0=>?_
 unfold Q160.f at H
 refine T8 (Za [0,1] ?_)
 refine T8 (T0 (T8 (T6 (rRL 6 0 h0 ?_))))
 refine rFi [0,1,6] ?_
 refine jIf H (fun c1 H=>?_) fun c1 H=>?_
 ·refine T8 (Za [4] ?_)
  have h1:=h0.addNil 5 (.int .u8)
  cases H
  exact T7 (jRA ⟨_,_,_,_,rfl,rfl,rfl⟩ (sOR h1 [0,0] [0]))
 refine T8 (Za [0,1,16] ?_)
 refine jIf H (fun c2 H=>?_) fun c2 H=>?_
 ·refine T8 (T6 (Ze 1 ?_))
  obtain ⟨r1,q1,H⟩:=Yf H
  refine Zp (Z2 [0] (Q165.spec q1) h0 rfl (gS [0])) ?_
  rintro _ w1 ⟨_,_,⟨A2,c_2,rfl,rfl,rfl⟩,h2⟩
  replace h2:=nf h2
  refine rFi [] ?_
  refine T8 (Za [4] ?_)
  have h3:=h2.addNil 5 (.int .u8)
  cases H
  exact T7 (jRA ⟨_,_,_,_,rfl,rfl,rfl⟩ (sOR h3 [0,0] [0]))
 refine T8 (T6 (rRL 4 0 h0 ?_))
 refine rFi [0,1,21] ?_
 refine jIf H (fun c3 H=>?_) fun c3 H=>?_
 ·refine T8 (T6 (Ze 1 ?_))
  obtain ⟨r2,q2,H⟩:=Yf H
  refine Zp (Z2 [0] (Q165.spec q2) h0 rfl (gS [0])) ?_
  rintro _ w2 ⟨_,_,⟨A3,c_3,rfl,rfl,rfl⟩,h4⟩
  replace h4:=nf h4
  refine rFi [] ?_
  refine T8 (Za [4] ?_)
  have h5:=h4.addNil 5 (.int .u8)
  cases H
  exact T7 (jRA ⟨_,_,_,_,rfl,rfl,rfl⟩ (sOR h5 [0,0] [0]))
 refine T9 (T8 (T6 (Ze 1 ?_)))
 obtain ⟨⟨p1,p2⟩,H⟩:=Zh H
 refine rB (Zaj Z3 (ty:=(.int .u8)) rfl (0:Int) rfl rfl rfl rfl rfl rfl rfl (by decide) h0 p1 p2) fun b2 w3 h6=>?_
 refine rFi [0,1,5] ?_
 refine T8 (T6 (rRL 4 1 h6 ?_))
 have e1:0+(List.replicate a1.toNat (0:Int)).length<=(List.replicate a1.toNat (0:Int)).length:=by first | omega | (simp only [length_take,length_drop]; omega)
 refine Zp (Zh0 Z3 (ty:=(.int .u8)) (xs:=(List.replicate a1.toNat (0:Int))) (ys:=a0.1) rfl 0 rfl h6 rfl (Zg 1) rfl rfl rfl rfl rfl rfl e1) ?_
 rintro _ w4 ⟨rfl,h7⟩
 replace h7:=nf h7
 refine rFi [0,1,5] ?_
 refine T2 (env':=[(0,.pointer (some ⟨b1,0,none⟩)),(1,.int .i64 a1),(5,.slice (some ⟨b2,0,none⟩) (patch (List.replicate a1.toNat (0:Int)) 0 ((List.replicate a1.toNat (0:Int)).length) a0.1).length (a1.toNat))]) (by simp only [X7 e1,length_nil] <;> rfl) ?_
 refine T8 (T6 (rRL 4 1 h7 ?_))
 refine Ze 1 ?_
 obtain ⟨⟨p3,p4⟩,H⟩:=Zh H
 have e2:=h7.cap (Zg 2)
 refine Zj (Uj (a0.1.drop a1.toNat) a1 (a0.1.length:Int) e2 p3 p4 (Int.le_refl _) (Yv _ _)) ?_
 refine Ze 2 ?_
 refine rS (Zt 1 h7) fun _ w5 h8=>?_
 refine rFi [5] ?_
 refine T8 (Za [4] ?_)
 have h9:=h8.read (k:=0) rfl (Vs (.int .u8) (a0.1.drop a1.toNat) a1 (a0.1.length:Int) p3 p4 (Int.le_refl _) (Yv _ _))
 cases H
 exact T7 (jRA ⟨_,_,_,_,rfl,rfl,rfl⟩ (sOR h9 [1,0] [0]))

def Q159.l0:Nat->(List Int×TQ)->(Int)->(Int)->Option (Int×TQ)
 | 0,_,_,_=>none
 | k+1,r2,x2,x3=>if (decide (x3<(r2.1.length:Int)))=true then (if 0<=x3/\x3<(r2.1.length:Int) then (Q159.l0 k r2 (uH.wrap (((ofInt uH.bits (uH.wrap (x2*2 ^ 8)) ||| (ofInt uH.bits (uH.wrap ((gt r2.1 x3))))).toNat:Int))) (w64 (x3+1))) else none) else (some (x2,r2.2))
def Q159.f (k:Nat) (a0:TQ) (a1:Int):Option (Int×TQ):=(Q166.f a1).bind fun r1=>(if (!r1)=true then ((Q160.f a0 (-1)).bind fun r2=>(Q159.l0 k r2 0 0)) else ((Q160.f a0 a1).bind fun r2=>(Q159.l0 k r2 0 0)))
theorem Q159.spec {k a0 a1 A1 c_1 b1 r} (H:Q159.f k a0 a1=some r) :
  SpecA prog 65 [.pointer (some ⟨b1,0,none⟩),.int .i64 a1] [Wj b1 a0.1 A1 c_1 a0.2] [R5 a0.1 A1 c_1] (fun v l lr=>∃ A_0 c_0,v=.int .u64 r.1/\l=[Wj b1 r.2.1 A_0 c_0 r.2.2]/\lr=[R5 r.2.1 A_0 c_0]):=by
 refine Yq Tryz.func65 fun w0 F0 h0=>?_
 unfold Q159.f at H
 refine T8 (Za [0,1] ?_)
 refine T8 (T8 (T6 (Ze 1 ?_)))
 refine cS H [] h0 rfl Q166.spec Zm fun r1 w1 H h1=>?_
 refine rFi [0,1,10] ?_
 refine T5 (fun env w=>∃(k1:Nat) (x1:Int),env=[(0,.pointer (some ⟨b1,0,none⟩)),(1,.int .i64 x1)]/\St w0 F0 [Wj b1 a0.1 A1 c_1 a0.2] [R5 a0.1 A1 c_1] w/\((Q160.f a0 x1).bind fun r2=>(Q159.l0 k1 r2 0 0))=some r/\k1<=k) ?_ ?_
 ·refine jIf H (fun c2 H=>?_) fun c2 H=>?_
  ·refine Za [0,1] ?_
   have h7:=(sOR h1 [0] [0])
   exact ⟨k,(-1),rfl,h7,H,Sa _⟩
  refine Wf [0,1] ?_
  refine T9 ?_
  have h8:=(sOR h1 [0] [0])
  exact ⟨k,a1,rfl,h8,H,Sa _⟩
 rintro env w3 ⟨k1,x1,rfl,h2,H,hk1⟩
 refine T8 (Za [0,1,5] ?_)
 refine T8 (T8 (T6 (Ze 2 ?_)))
 obtain ⟨r2,q2,H⟩:=Yf H
 refine Zp (Z2 [0] (Q160.spec q2) h2 rfl (gS [0])) ?_
 rintro _ w4 ⟨_,_,⟨A2,c_2,A3,c_3,rfl,rfl,rfl⟩,h3⟩
 replace h3:=nf h3
 refine rFi [5,13,14,15] ?_
 refine T0 ?_
 have h6:=(sOR h3 [1,0] [0])
 refine T4 (fun kk env w=>∃ x2 x3,Q159.l0 kk r2 x2 x3=some r/\env=[(5,.int .u64 x2),(13,.slice A2 r2.1.length c_2),(14,.int .i64 (r2.1.length:Int)),(15,.int .i64 x3)]/\St w0 F0 [Wj b1 r2.2.1 A3 c_3 r2.2.2,O5 r2.1 A2 c_2] [R5 r2.2.1 A3 c_3] w) (k:=k1) ⟨_,_,H,rfl,h6⟩ ?_
 rintro k2 env w5 ⟨x2,x3,H,rfl,h4⟩
 rcases k2 with _ | k2
 ·exact z0 H
 rw [Q159.l0] at H
 refine T8 (Za [5,13,14,15,16] ?_)
 refine T8 (jIf H (fun c1 H=>?_) fun c1 H=>?_)
 ·refine T9 (T8 (T0 (T8 (T6 ?_))))
  obtain ⟨⟨p1,p2⟩,H⟩:=Zh H
  have e1:=Zy h4.wh (gO 1) p1 p2
  refine Zj (Zc e1 p1 p2) ?_
  refine Zj (Zd 0 h4.wht (gO 1) p1 p2) ?_
  refine rFi [5,7,13,14,15] ?_
  refine Za [5,13,14,15] ?_
  refine Za [5,13,14,15] ?_
  have h5:=(sOR h4 [0,0] [0])
  exact ⟨k2,by omega,_,_,H,rfl,h5⟩
 refine T3 (T8 (Za [4] ?_))
 cases H
 exact T7 (jRA ⟨_,_,rfl,rfl,rfl⟩ (sOR h4 [0] [0]))

def Q164.f (a0:Int):Option (Bool):=some (!decide (a0=0))
theorem Q164.spec {a0 r} (H:Q164.f a0=some r) :
  Spec prog 115 [.int .u8 a0] [] [] (fun v l=>v=.bool r/\l=[]):=by
 refine Zf Tryz.func115 fun w0 F0 h0=>?_
 unfold Q164.f at H
 refine T8 (Za [0] ?_)
 refine T8 (Za [2] ?_)
 cases H
 exact T7 (jR0 h0 [])

def Q113.l0:Nat->TW->(Int)->Option (Int)
 | 0,_,_=>none
 | k+1,a0,x1=>if (decide (x1<(a0.length:Int)))=true then (if 0<=x1/\x1<(a0.length:Int) then ((Q164.f (gt a0 x1)).bind fun r1=>(if r1=true then (some x1) else (Q113.l0 k a0 (w64 (x1+1))))) else none) else (some (-1))
def Q113.f (k:Nat) (a0:TW):Option (Int):=Q113.l0 k a0 0
theorem Q113.spec {k a0 A1 c_1 r} (H:Q113.f k a0=some r) :
  Spec prog 142 [.slice A1 a0.length c_1,.func (.func 115) #[] #[]] [] [R5 a0 A1 c_1] (fun v l=>v=.int .i64 r/\l=[]):=by
 refine Zf Tryz.func142 fun w0 F0 h0=>?_
 unfold Q113.f at H
 refine T8 (Za [0,1] ?_)
 refine T8 (T8 (Za [0,1,7,8] ?_))
 refine T0 ?_
 have h4:=(sOR h0 [] [0])
 refine T4 (fun kk env w=>∃ x1,Q113.l0 kk a0 x1=some r/\env=[(0,.slice A1 a0.length c_1),(1,.func (.func 115) #[] #[]),(7,.int .i64 (a0.length:Int)),(8,.int .i64 x1)]/\St w0 F0 [] [R5 a0 A1 c_1] w) (k:=k) ⟨_,H,rfl,h4⟩ ?_
 rintro k1 env w1 ⟨x1,H,rfl,h1⟩
 rcases k1 with _ | k1
 ·exact z0 H
 rw [Q113.l0] at H
 refine T8 (Za [0,1,7,8,9] ?_)
 refine T8 (jIf H (fun c1 H=>?_) fun c1 H=>?_)
 ·refine T9 (T8 (T0 (T8 (Za [0,1,5,7,8] ?_))))
  refine T8 (T6 (Ze 3 ?_))
  obtain ⟨⟨p1,p2⟩,H⟩:=Zh H
  have e1:=Zy h1.wh (Zg 0) p1 p2
  refine Zj (Zc e1 p1 p2) ?_
  refine Zj (Zd 0 h1.wht (Zg 0) p1 p2) ?_
  refine cS H [] h1 rfl Q164.spec Zm fun r1 w2 H h2=>?_
  refine rFi [0,1,5,7,8,16] ?_
  refine jIf H (fun c2 H=>?_) fun c2 H=>?_
  ·refine T8 (Za [4] ?_)
   cases H
   exact T7 (jR0 h2 [])
  refine T9 (Za [0,1,7,8] ?_)
  have h3:=(sOR h2 [] [0])
  exact ⟨k1,by omega,_,H,rfl,h3⟩
 refine T3 (T8 (Za [4] ?_))
 cases H
 exact T7 (jR0 h1 [])

def Q106.f (k:Nat) (a0:TW):Option (Bool):=(Q113.f k a0).bind fun r1=>(some (decide (0<=r1)))
theorem Q106.spec {k a0 A1 c_1 r} (H:Q106.f k a0=some r) :
  Spec prog 114 [.slice A1 a0.length c_1,.func (.func 115) #[] #[]] [] [R5 a0 A1 c_1] (fun v l=>v=.bool r/\l=[]):=by
 refine Zf Tryz.func114 fun w0 F0 h0=>?_
 unfold Q106.f at H
 refine T8 (Za [0,1] ?_)
 refine T8 (T6 (Ze 2 ?_))
 refine cS H [] h0 rfl Q113.spec (gS [0]) fun r1 w1 H h1=>?_
 refine rFi [4] ?_
 cases H
 exact T7 (jR0 h1 [])

def Q163.f (k:Nat) (a0:TQ) (a1:Int):Option (TQ):=(Q160.f a0 a1).bind fun r1=>((Q106.f k r1.1).bind fun r2=>(if r2=true then ((Q165.f r1.2 3).bind fun r3=>(some r3)) else (some r1.2)))
theorem Q163.spec {k a0 a1 A1 c_1 b1 r} (H:Q163.f k a0 a1=some r) :
  SpecA prog 66 [.pointer (some ⟨b1,0,none⟩),.int .i64 a1] [Wj b1 a0.1 A1 c_1 a0.2] [R5 a0.1 A1 c_1] (fun v l lr=>∃ A_0 c_0,v=.tuple #[]/\l=[Wj b1 r.1 A_0 c_0 r.2]/\lr=[R5 r.1 A_0 c_0]):=by
 refine Yq Tryz.func66 fun w0 F0 h0=>?_
 unfold Q163.f at H
 refine T8 (T6 (Ze 2 ?_))
 obtain ⟨r1,q1,H⟩:=Yf H
 refine Zp (Z2 [0] (Q160.spec q1) h0 rfl (gS [0])) ?_
 rintro _ w1 ⟨_,_,⟨A2,c_2,A3,c_3,rfl,rfl,rfl⟩,h1⟩
 replace h1:=nf h1
 refine cS H [] h1 rfl Q106.spec (Xl (gO 0) Zm) fun r2 w2 H h2=>?_
 refine rFi [0,7] ?_
 refine jIf H (fun c1 H=>?_) fun c1 H=>?_
 ·refine T6 (Ze 1 ?_)
  obtain ⟨r3,q3,H⟩:=Yf H
  refine Zp (Z2 [1] (Q165.spec q3) h2 rfl (gS [0])) ?_
  rintro _ w3 ⟨_,_,⟨A4,c_4,rfl,rfl,rfl⟩,h3⟩
  replace h3:=nf h3
  refine rFi [] ?_
  cases H
  exact ⟨_,_,_,Zk,⟨_,_,rfl,rfl,rfl⟩,sOR h3 [0] [0]⟩
 refine T9 ?_
 cases H
 exact ⟨_,_,_,Zk,⟨_,_,rfl,rfl,rfl⟩,sOR h2 [1] [0]⟩

def Q162.f (a0:Int):Option (Bool):=some (!decide (a0=0))
theorem Q162.spec {a0 r} (H:Q162.f a0=some r) :
  Spec prog 143 [.int .u8 a0] [] [] (fun v l=>v=.bool r/\l=[]):=by
 refine Zf Tryz.func143 fun w0 F0 h0=>?_
 unfold Q162.f at H
 refine T8 (Za [0] ?_)
 refine T8 (Za [2] ?_)
 cases H
 exact T7 (jR0 h0 [])

def Q112.l0:Nat->TW->(Int)->Option (Int)
 | 0,_,_=>none
 | k+1,a0,x1=>if (decide (x1<(a0.length:Int)))=true then (if 0<=x1/\x1<(a0.length:Int) then ((Q162.f (gt a0 x1)).bind fun r1=>(if r1=true then (some x1) else (Q112.l0 k a0 (w64 (x1+1))))) else none) else (some (-1))
def Q112.f (k:Nat) (a0:TW):Option (Int):=Q112.l0 k a0 0
theorem Q112.spec {k a0 A1 c_1 r} (H:Q112.f k a0=some r) :
  Spec prog 142 [.slice A1 a0.length c_1,.func (.func 143) #[] #[]] [] [R5 a0 A1 c_1] (fun v l=>v=.int .i64 r/\l=[]):=by
 refine Zf Tryz.func142 fun w0 F0 h0=>?_
 unfold Q112.f at H
 refine T8 (Za [0,1] ?_)
 refine T8 (T8 (Za [0,1,7,8] ?_))
 refine T0 ?_
 have h4:=(sOR h0 [] [0])
 refine T4 (fun kk env w=>∃ x1,Q112.l0 kk a0 x1=some r/\env=[(0,.slice A1 a0.length c_1),(1,.func (.func 143) #[] #[]),(7,.int .i64 (a0.length:Int)),(8,.int .i64 x1)]/\St w0 F0 [] [R5 a0 A1 c_1] w) (k:=k) ⟨_,H,rfl,h4⟩ ?_
 rintro k1 env w1 ⟨x1,H,rfl,h1⟩
 rcases k1 with _ | k1
 ·exact z0 H
 rw [Q112.l0] at H
 refine T8 (Za [0,1,7,8,9] ?_)
 refine T8 (jIf H (fun c1 H=>?_) fun c1 H=>?_)
 ·refine T9 (T8 (T0 (T8 (Za [0,1,5,7,8] ?_))))
  refine T8 (T6 (Ze 3 ?_))
  obtain ⟨⟨p1,p2⟩,H⟩:=Zh H
  have e1:=Zy h1.wh (Zg 0) p1 p2
  refine Zj (Zc e1 p1 p2) ?_
  refine Zj (Zd 0 h1.wht (Zg 0) p1 p2) ?_
  refine cS H [] h1 rfl Q162.spec Zm fun r1 w2 H h2=>?_
  refine rFi [0,1,5,7,8,16] ?_
  refine jIf H (fun c2 H=>?_) fun c2 H=>?_
  ·refine T8 (Za [4] ?_)
   cases H
   exact T7 (jR0 h2 [])
  refine T9 (Za [0,1,7,8] ?_)
  have h3:=(sOR h2 [] [0])
  exact ⟨k1,by omega,_,H,rfl,h3⟩
 refine T3 (T8 (Za [4] ?_))
 cases H
 exact T7 (jR0 h1 [])

def Q105.f (k:Nat) (a0:TW):Option (Bool):=(Q112.f k a0).bind fun r1=>(some (decide (0<=r1)))
theorem Q105.spec {k a0 A1 c_1 r} (H:Q105.f k a0=some r) :
  Spec prog 114 [.slice A1 a0.length c_1,.func (.func 143) #[] #[]] [] [R5 a0 A1 c_1] (fun v l=>v=.bool r/\l=[]):=by
 refine Zf Tryz.func114 fun w0 F0 h0=>?_
 unfold Q105.f at H
 refine T8 (Za [0,1] ?_)
 refine T8 (T6 (Ze 2 ?_))
 refine cS H [] h0 rfl Q112.spec (gS [0]) fun r1 w1 H h1=>?_
 refine rFi [4] ?_
 cases H
 exact T7 (jR0 h1 [])

def Q161.f (k:Nat) (a0:TQ) (a1:Int) (a2:Int):Option (List UInt8×TQ):=if (decide (a1<0))=true then ((Q165.f a0 2).bind fun r1=>(some ([],r1))) else (if (decide (a2<a1))=true then ((Q165.f a0 2).bind fun r2=>(some ([],r2))) else ((Q160.f a0 a2).bind fun r3=>(if (decide ((r3.1.length:Int)<a2))=true then (some ([],r3.2)) else (if 0<=a1/\a1<=(r3.1.length:Int) then ((Q105.f k (r3.1.drop a1.toNat)).bind fun r4=>(if r4=true then ((Q165.f r3.2 3).bind fun r5=>(some ([],r5))) else (if (0:Int)<=a1/\a1<=(r3.1.length:Int) then (some ((toS (r3.1.take a1.toNat)),r3.2)) else none))) else none))))
theorem Q161.spec {k a0 a1 a2 A1 c_1 b1 r} (H:Q161.f k a0 a1 a2=some r) :
  SpecA prog 118 [.pointer (some ⟨b1,0,none⟩),.int .i64 a1,.int .i64 a2] [Wj b1 a0.1 A1 c_1 a0.2] [R5 a0.1 A1 c_1] (fun v l lr=>∃ A_0 c_0,v=.string ⟨⟨r.1⟩⟩/\l=[Wj b1 r.2.1 A_0 c_0 r.2.2]/\lr=[R5 r.2.1 A_0 c_0]):=by
 refine Yq Tryz.func118 fun w0 F0 h0=>?_
 unfold Q161.f at H
 refine T8 (Za [0,1,2] ?_)
 refine T8 (T8 (Za [0,1,2,9] ?_))
 refine Z1 ?_
 refine T9 (T8 (T8 (T6 (Ze 3 ?_))))
 refine Z7 12 H (fun c1 H=>?_) fun c1 H=>?_
 ·refine rFi [0,1,2,16] ?_
  refine Zo ?_
  refine T8 (T6 (Ze 1 ?_))
  obtain ⟨r1,q1,H⟩:=Yf H
  refine Zp (Z2 [0] (Q165.spec q1) h0 rfl (gS [0])) ?_
  rintro _ w1 ⟨_,_,⟨A2,c_2,rfl,rfl,rfl⟩,h1⟩
  replace h1:=nf h1
  refine rFi [] ?_
  refine T8 (Za [6] ?_)
  cases H
  exact T7 (jRA ⟨_,_,rfl,rfl,rfl⟩ (sOR h1 [0] [0]))
 refine rFi [0,1,2,16] ?_
 refine jIf H (fun c2 H=>?_) fun c2 H=>?_
 ·refine T8 (T6 (Ze 1 ?_))
  obtain ⟨r2,q2,H⟩:=Yf H
  refine Zp (Z2 [0] (Q165.spec q2) h0 rfl (gS [0])) ?_
  rintro _ w2 ⟨_,_,⟨A3,c_3,rfl,rfl,rfl⟩,h2⟩
  replace h2:=nf h2
  refine rFi [] ?_
  refine T8 (Za [6] ?_)
  cases H
  exact T7 (jRA ⟨_,_,rfl,rfl,rfl⟩ (sOR h2 [0] [0]))
 refine T9 (T8 (T6 (Ze 2 ?_)))
 obtain ⟨r3,q3,H⟩:=Yf H
 refine Zp (Z2 [0] (Q160.spec q3) h0 rfl (gS [0])) ?_
 rintro _ w3 ⟨_,_,⟨A4,c_4,A5,c_5,rfl,rfl,rfl⟩,h3⟩
 replace h3:=nf h3
 refine rFi [0,1,2,7] ?_
 refine T8 (T8 (Za [0,1,7,25] ?_))
 refine jIf H (fun c3 H=>?_) fun c3 H=>?_
 ·refine T8 (Za [6] ?_)
  cases H
  exact T7 (jRA ⟨_,_,rfl,rfl,rfl⟩ (sOR h3 [1] [0]))
 refine T9 (T8 (T8 (T6 (Ze 2 ?_))))
 obtain ⟨⟨p1,p2⟩,H⟩:=Zh H
 have e1:=h3.cap (gO 0)
 refine Zj (Uj (r3.1.drop a1.toNat) a1 (r3.1.length:Int) e1 p1 p2 (Int.le_refl _) (Yv _ _)) ?_
 refine cS H [] h3 rfl Q105.spec (Xl ((Gives.of 0 rfl Ye).trans (Vs (.int .u8) (r3.1.drop a1.toNat) a1 (r3.1.length:Int) p1 p2 (Int.le_refl _) (Yv _ _))) Zm) fun r4 w4 H h4=>?_
 refine rFi [0,1,7,29] ?_
 refine jIf H (fun c4 H=>?_) fun c4 H=>?_
 ·refine T8 (T6 (Ze 1 ?_))
  obtain ⟨r5,q5,H⟩:=Yf H
  refine Zp (Z2 [1] (Q165.spec q5) h4 rfl (gS [0])) ?_
  rintro _ w5 ⟨_,_,⟨A6,c_6,rfl,rfl,rfl⟩,h5⟩
  replace h5:=nf h5
  refine rFi [] ?_
  refine T8 (Za [6] ?_)
  cases H
  exact T7 (jRA ⟨_,_,rfl,rfl,rfl⟩ (sOR h5 [0] [0]))
 refine T9 (T8 (T6 (Ze 2 ?_)))
 obtain ⟨⟨p3,p4⟩,H⟩:=Zh H
 have e2:=h4.cap (gO 0)
 refine Zj (X6 (r3.1.take a1.toNat) a1 e2 p3 p4) ?_
 refine Zj (Zjy h4.wht ((Gives.of 0 rfl Ye).trans (Uu (.int .u8) (r3.1.take a1.toNat) a1 p3 p4))) ?_
 refine rFi [6] ?_
 cases H
 exact T7 (jRA ⟨_,_,rfl,rfl,rfl⟩ (sOR h4 [1] [0]))

def Q45.f (k:Nat) (a0:Tq) (a1:TQ):Option (List UInt8×List UInt8×TQ):=(Q159.f k a1 1).bind fun r1=>((Q159.f k r1.2 2).bind fun r2=>((Q161.f k r2.2 (w64 (r1.1)) a0.2.2.2.2.2.2.1).bind fun r3=>((Q161.f k r3.2 (w64 (r2.1)) a0.2.2.2.2.2.2.2).bind fun r4=>(some (r3.1,r4.1,r4.2)))))
theorem Q45.spec {k a0 a1 A1 c_1 b1 r} (H:Q45.f k a0 a1=some r) :
  SpecA prog 117 [.agg #[.int .i64 a0.1,.int .i64 a0.2.1,.int .i64 a0.2.2.1,.int .i64 a0.2.2.2.1,.int .i64 a0.2.2.2.2.1,.int .i64 a0.2.2.2.2.2.1,.int .i64 a0.2.2.2.2.2.2.1,.int .i64 a0.2.2.2.2.2.2.2],.pointer (some ⟨b1,0,none⟩)] [Wj b1 a1.1 A1 c_1 a1.2] [R5 a1.1 A1 c_1] (fun v l lr=>∃ A_0 c_0,v=.tuple #[.string ⟨⟨r.1⟩⟩,.string ⟨⟨r.2.1⟩⟩]/\l=[Wj b1 r.2.2.1 A_0 c_0 r.2.2.2]/\lr=[R5 r.2.2.1 A_0 c_0]):=by
 refine Yq Tryz.func117 fun w0 F0 h0=>?_
 unfold Q45.f at H
 refine T8 (T6 (rB (Z5 h0) fun b2 w1 h1=>?_))
 refine rFi [1,2] ?_
 refine T8 (T6 (Ze 1 ?_))
 obtain ⟨r1,q1,H⟩:=Yf H
 refine Zp (Z2 [1] (Q159.spec q1) h1 rfl (gS [0])) ?_
 rintro _ w2 ⟨_,_,⟨A2,c_2,rfl,rfl,rfl⟩,h2⟩
 replace h2:=nf h2
 refine Ze 2 ?_
 obtain ⟨r2,q2,H⟩:=Yf H
 refine Zp (Z2 [0] (Q159.spec q2) h2 rfl (gS [0])) ?_
 rintro _ w3 ⟨_,_,⟨A3,c_3,rfl,rfl,rfl⟩,h3⟩
 replace h3:=nf h3
 refine rFi [1,2,6,7] ?_
 refine T8 (Zv (sO h3 [1]) ?_)
 have h4:=h3.drew
 refine Zr [0,1,2,5,6,7] ?_
 refine Zb 3 rfl (Zi 0 wI) ?_
 refine Zb 8 rfl (Zi 0 wI) ?_
 obtain ⟨r3,q3,H⟩:=Yf H
 refine Yd 4 rfl (Z2 [0] (Q161.spec q3) h4 rfl (gS [0])) ?_
 rintro _ w4 ⟨_,_,⟨A4,c_4,rfl,rfl,rfl⟩,h5⟩
 replace h5:=nf h5
 refine ⟨⟨[_],(Ji h5 [1,2,3])⟩,?_⟩
 obtain ⟨r4,q4,H⟩:=Yf H
 refine Yd 9 rfl (Z2 [0] (Q161.spec q4) h5 rfl (gS [0])) ?_
 rintro _ w5 ⟨_,_,⟨A5,c_5,rfl,rfl,rfl⟩,h6⟩
 replace h6:=nf h6
 refine ⟨⟨[_],(Ji h6 [2,3,4])⟩,?_⟩
 refine hRF [10,11] [4,5] ?_
 cases H
 exact T7 (jRA ⟨_,_,rfl,rfl,rfl⟩ (sOR h6 [0] [0]))

def Q44.l0:Nat->Tq->(Int)->TW->(Int)->Tz->(Int)->Option Tj
 | 0,_,_,_,_,_,_=>none
 | k+1,a0,a2,x1,x2,x3,x4=>if (decide (x4<(if a0.2.2.2.2.2.1<a2 then a0.2.2.2.2.2.1 else a2)))=true then ((Q45.f k a0 (x1,x2)).bind fun r1=>(if (x3.length+([(r1.1,r1.2.1)]:List TE).length)*32<=140737488355328 then (Q44.l0 k a0 a2 r1.2.2.1 r1.2.2.2 (x3 ++ [(r1.1,r1.2.1)]) (w64 (x4+1))) else none)) else (some ((0,[],[],[],x3),(x1,x2)))
def Q44.f (k:Nat) (a0:Tq) (a1:TQ) (a2:Int):Option Tj:=Q44.l0 k a0 a2 a1.1 a1.2 [] 0
theorem Q44.spec {k a0 a1 a2 A1 c_1 b1 r} (H:Q44.f k a0 a1 a2=some r) :
  SpecA prog 67 [.agg #[.int .i64 a0.1,.int .i64 a0.2.1,.int .i64 a0.2.2.1,.int .i64 a0.2.2.2.1,.int .i64 a0.2.2.2.2.1,.int .i64 a0.2.2.2.2.2.1,.int .i64 a0.2.2.2.2.2.2.1,.int .i64 a0.2.2.2.2.2.2.2],.pointer (some ⟨b1,0,none⟩),.int .i64 a2] [Wj b1 a1.1 A1 c_1 a1.2] [R5 a1.1 A1 c_1] (fun v l lr=>∃ A_0 c_0 A_1 c_1 A_2 c_2 A_3 c_3 A_4 c_4,v=.agg #[.int .i64 r.1.1,.slice A_0 r.1.2.1.length c_0,.slice A_1 r.1.2.2.1.length c_1,.slice A_2 r.1.2.2.2.1.length c_2,.slice A_3 r.1.2.2.2.2.length c_3]/\l=[O32 r.1.2.1 A_0 c_0,O9 r.1.2.2.1 A_1 c_1,O69 r.1.2.2.2.1 A_2 c_2,O47 r.1.2.2.2.2 A_3 c_3,Wj b1 r.2.1 A_4 c_4 r.2.2]/\lr=[R5 r.2.1 A_4 c_4]):=by
 refine Yq Tryz.func67 fun w0 F0 h0=>?_
 unfold Q44.f at H
 refine T8 (T6 (rB (Z5 h0) fun b2 w1 h1=>?_))
 refine rB (Yp h1) fun b3 w2 h2=>?_
 refine rFi [1,2,3,6] ?_
 refine T8 (T6 (Ze 1 ?_))
 refine rB (Yp h2) fun b4 w3 h3=>?_
 refine rS (Zt 0 h3) fun _ w4 h4=>?_
 refine rFi [1,2,3,6,7] ?_
 refine T8 (T8 (T6 (rRL 2 2 h4 ?_)))
 refine rFi [1,3,6,7,14,15] ?_
 refine T0 ?_
 have h16:=h4.addNil 47 (.pair .str .str)
 have h17:=(sOR h16 [4,3,2,1,0] [0])
 refine T4 (fun kk env w=>∃ x1 A2 c_2 x2 x3 A3 c_3 x4,Q44.l0 kk a0 a2 x1 x2 x3 x4=some r/\env=[(1,.pointer (some ⟨b1,0,none⟩)),(3,.pointer (some ⟨b2,0,none⟩)),(6,.pointer (some ⟨b3,0,none⟩)),(7,.pointer (some ⟨b4,0,none⟩)),(14,.int .i64 (if a0.2.2.2.2.2.1<a2 then a0.2.2.2.2.2.1 else a2)),(15,.int .i64 x4)]/\St w0 F0 [Wj b1 x1 A2 c_2 x2,X23 b2 a0.1 a0.2.1 a0.2.2.1 a0.2.2.2.1 a0.2.2.2.2.1 a0.2.2.2.2.2.1 a0.2.2.2.2.2.2.1 a0.2.2.2.2.2.2.2,X55 b3 0 [] none 0 [] none 0 [] none 0 [] none 0,X55 b4 0 [] none 0 [] none 0 [] none 0 x3 A3 c_3,O47 x3 A3 c_3] [R5 x1 A2 c_2] w) (k:=k) ⟨_,_,_,_,_,_,_,_,H,rfl,h17⟩ ?_
 rintro k1 env w5 ⟨x1,A2,c_2,x2,x3,A3,c_3,x4,H,rfl,h5⟩
 rcases k1 with _ | k1
 ·exact z0 H
 rw [Q44.l0] at H
 refine T8 (Za [1,3,6,7,14,15,16] ?_)
 refine T8 (jIf H (fun c1 H=>?_) fun c1 H=>?_)
 ·refine T9 (T8 (T0 (T8 (T6 (rLo 1 h5 ?_)))))
  refine Ze 1 ?_
  obtain ⟨r1,q1,H⟩:=Yf H
  refine Zp (Z2 [0] (Q45.spec q1) h5 rfl (gS [0])) ?_
  rintro _ w6 ⟨_,_,⟨A4,c_4,rfl,rfl,rfl⟩,h6⟩
  replace h6:=nf h6
  refine rFi [1,3,6,7,8,9,14,15] ?_
  refine T6 (rRL 1 3 h6 ?_)
  refine Ze 3 ?_
  refine rB (Zx (.pair .str .str) [(r1.1,r1.2.1)] h6) fun b5 w7 h7=>?_
  obtain ⟨p1,H⟩:=Zh H
  refine Zp (Zs 5 h7 (gO 0) p1) ?_
  rintro _ w8 ⟨A5,c_5,rfl,h8⟩
  replace h8:=nf h8
  refine Ze 1 ?_
  refine rS (Zt 5 h8) fun _ w9 h9=>?_
  refine rFi [1,3,6,7,14,15] ?_
  refine Za [1,3,6,7,14,15] ?_
  have h10:=(sOR h9 [3,3,3,0,0] [0])
  exact ⟨k1,by omega,_,_,_,_,_,_,_,_,H,rfl,h10⟩
 refine T3 (T8 (T6 (rLo 3 h5 ?_)))
 refine rS (Zt 2 h5) fun _ w10 h11=>?_
 refine rFi [6] ?_
 have h12:=sO h11 [0,0,2]
 replace h12:=nf h12
 have h13:=h12.addNil 32 (.int .u32)
 have h14:=h13.addNil 9 .str
 have h15:=h14.addNil 69 (.pair .str (.pair .bool .str))
 cases H
 exact T7 (Zrx (Yg (Sh Z3 3 h15 rfl rfl rfl rfl) X2) ⟨_,_,_,_,_,_,_,_,_,_,rfl,rfl,rfl⟩ (sOR h15 [2,1,0,2,1] [0]))

def Q43.l2:Nat->Tq->(Int)->(Int)->TW->TL->TW->(Int)->Tu->(Int)->Option Tj
 | 0,_,_,_,_,_,_,_,_,_=>none
 | k+1,a0,a2,a4,x3,x7,x9,x10,x11,x12=>if (decide (x12<(if a0.2.2.2.2.1<a4 then a0.2.2.2.2.1 else a4)))=true then ((Q159.f k (x9,x10) 1).bind fun r4=>((Q45.f k a0 r4.2).bind fun r5=>(if (x11.length+([(r5.1,(decide (r4.1=2)),r5.2.1)]:List TB).length)*40<=140737488355328 then (Q43.l2 k a0 a2 a4 x3 x7 r5.2.2.1 r5.2.2.2 (x11 ++ [(r5.1,(decide (r4.1=2)),r5.2.1)]) (w64 (x12+1))) else none))) else (some ((a2,x3,x7,x11,[]),(x9,x10)))
def Q43.l1:Nat->Tq->(Int)->(Int)->(Int)->TW->TW->(Int)->TL->(Int)->Option Tj
 | 0,_,_,_,_,_,_,_,_,_=>none
 | k+1,a0,a2,a3,a4,x3,x5,x6,x7,x8=>if (decide (x8<(w64 (a0.2.2.2.1 - 1))))=true then ((Q159.f k (x5,x6) 1).bind fun r2=>((Q161.f k r2.2 (w64 (r2.1)) a0.2.2.2.2.2.2.1).bind fun r3=>(if (decide ((w64 (x8+1))<a3))=true then (if (x7.length+([r3.1]:List TR).length)*16<=140737488355328 then (Q43.l1 k a0 a2 a3 a4 x3 r3.2.1 r3.2.2 (x7 ++ [r3.1]) (w64 (x8+1))) else none) else (Q43.l1 k a0 a2 a3 a4 x3 r3.2.1 r3.2.2 x7 (w64 (x8+1)))))) else (Q43.l2 k a0 a2 a4 x3 x7 x5 x6 [] 0)
def Q43.l0:Nat->Tq->(Int)->(Int)->(Int)->TW->(Int)->TW->(Int)->Option Tj
 | 0,_,_,_,_,_,_,_,_=>none
 | k+1,a0,a2,a3,a4,x1,x2,x3,x4=>if (decide (x4<a0.2.2.2.1))=true then ((Q159.f k (x1,x2) 4).bind fun r1=>(if (decide (x4<a3))=true then (if (x3.length+([(uD.wrap (r1.1))]:List Int).length)*4<=140737488355328 then (Q43.l0 k a0 a2 a3 a4 r1.2.1 r1.2.2 (x3 ++ [(uD.wrap (r1.1))]) (w64 (x4+1))) else none) else (Q43.l0 k a0 a2 a3 a4 r1.2.1 r1.2.2 x3 (w64 (x4+1))))) else (Q43.l1 k a0 a2 a3 a4 x3 x1 x2 [] 0)
def Q43.f (k:Nat) (a0:Tq) (a1:TQ) (a2:Int) (a3:Int) (a4:Int):Option Tj:=Q43.l0 k a0 a2 a3 a4 a1.1 a1.2 [] 0
theorem Q43.spec {k a0 a1 a2 a3 a4 A1 c_1 b1 r} (H:Q43.f k a0 a1 a2 a3 a4=some r) :
  SpecA prog 68 [.agg #[.int .i64 a0.1,.int .i64 a0.2.1,.int .i64 a0.2.2.1,.int .i64 a0.2.2.2.1,.int .i64 a0.2.2.2.2.1,.int .i64 a0.2.2.2.2.2.1,.int .i64 a0.2.2.2.2.2.2.1,.int .i64 a0.2.2.2.2.2.2.2],.pointer (some ⟨b1,0,none⟩),.int .i64 a2,.int .i64 a3,.int .i64 a4] [Wj b1 a1.1 A1 c_1 a1.2] [R5 a1.1 A1 c_1] (fun v l lr=>∃ A_0 c_0 A_1 c_1 A_2 c_2 A_3 c_3 A_4 c_4,v=.agg #[.int .i64 r.1.1,.slice A_0 r.1.2.1.length c_0,.slice A_1 r.1.2.2.1.length c_1,.slice A_2 r.1.2.2.2.1.length c_2,.slice A_3 r.1.2.2.2.2.length c_3]/\l=[O32 r.1.2.1 A_0 c_0,O9 r.1.2.2.1 A_1 c_1,O69 r.1.2.2.2.1 A_2 c_2,O47 r.1.2.2.2.2 A_3 c_3,Wj b1 r.2.1 A_4 c_4 r.2.2]/\lr=[R5 r.2.1 A_4 c_4]):=by
 refine Yq Tryz.func68 fun w0 F0 h0=>?_
 unfold Q43.f at H
 refine T8 (T6 (rB (Z5 h0) fun b2 w1 h1=>?_))
 refine rB (Yp h1) fun b3 w2 h2=>?_
 refine rFi [1,2,3,4,5,10] ?_
 refine T8 (T6 (Ze 2 ?_))
 refine rB (Yp h2) fun b4 w3 h3=>?_
 refine rS (Zt 0 h3) fun _ w4 h4=>?_
 refine rFi [1,3,4,5,10,11] ?_
 refine T8 (T8 (T6 (rRL 1 2 h4 ?_)))
 refine rFi [1,3,4,5,10,11,22,23] ?_
 refine T0 ?_
 have h35:=h4.addNil 32 (.int .u32)
 have h36:=(sOR h35 [4,3,2,1,0] [0])
 refine T4 (fun kk env w=>∃ x1 A2 c_2 x2 x3 A3 c_3 x4,Q43.l0 kk a0 a2 a3 a4 x1 x2 x3 x4=some r/\env=[(1,.pointer (some ⟨b1,0,none⟩)),(3,.int .i64 a3),(4,.int .i64 a4),(5,.pointer (some ⟨b2,0,none⟩)),(10,.pointer (some ⟨b3,0,none⟩)),(11,.pointer (some ⟨b4,0,none⟩)),(22,.int .i64 a0.2.2.2.1),(23,.int .i64 x4)]/\St w0 F0 [Wj b1 x1 A2 c_2 x2,X23 b2 a0.1 a0.2.1 a0.2.2.1 a0.2.2.2.1 a0.2.2.2.2.1 a0.2.2.2.2.2.1 a0.2.2.2.2.2.2.1 a0.2.2.2.2.2.2.2,X55 b3 0 [] none 0 [] none 0 [] none 0 [] none 0,X55 b4 a2 x3 A3 c_3 [] none 0 [] none 0 [] none 0,O32 x3 A3 c_3] [R5 x1 A2 c_2] w) (k:=k) ⟨_,_,_,_,_,_,_,_,H,rfl,h36⟩ ?_
 rintro k1 env w5 ⟨x1,A2,c_2,x2,x3,A3,c_3,x4,H,rfl,h5⟩
 rcases k1 with _ | k1
 ·exact z0 H
 rw [Q43.l0] at H
 refine T8 (Za [1,3,4,5,10,11,22,23,24] ?_)
 refine T8 (jIf H (fun c1 H=>?_) fun c1 H=>?_)
 ·refine T9 (T8 (T0 (T8 (Za [1,3,4,5,10,11,12,22,23] ?_))))
  refine T8 (T6 (Ze 1 ?_))
  obtain ⟨r1,q1,H⟩:=Yf H
  refine Zp (Z2 [0] (Q159.spec q1) h5 rfl (gS [0])) ?_
  rintro _ w6 ⟨_,_,⟨A4,c_4,rfl,rfl,rfl⟩,h6⟩
  replace h6:=nf h6
  refine rFi [1,3,4,5,10,11,12,13,22,23] ?_
  refine T8 (Za [1,3,4,5,10,11,13,22,23,31] ?_)
  refine jIf H (fun c2 H=>?_) fun c2 H=>?_
  ·refine T6 (rRL 1 3 h6 ?_)
   refine Ze 1 ?_
   refine rB (Zx (.int .u32) [(uD.wrap (r1.1))] h6) fun b5 w7 h7=>?_
   obtain ⟨p1,H⟩:=Zh H
   refine Zp (Zs 5 h7 (gO 0) p1) ?_
   rintro _ w8 ⟨A5,c_5,rfl,h8⟩
   replace h8:=nf h8
   refine Ze 1 ?_
   refine rS (Zt 5 h8) fun _ w9 h9=>?_
   refine rFi [1,3,4,5,10,11,22,23] ?_
   refine Za [1,3,4,5,10,11,22,23] ?_
   have h10:=(sOR h9 [3,3,3,0,0] [0])
   exact ⟨k1,by omega,_,_,_,_,_,_,_,_,H,rfl,h10⟩
  refine T9 (Za [1,3,4,5,10,11,22,23] ?_)
  have h11:=(sOR h6 [0,0,0,0,0] [0])
  exact ⟨k1,by omega,_,_,_,_,_,_,_,_,H,rfl,h11⟩
 refine T3 (T8 (T8 (T6 (rRL 1 1 h5 ?_))))
 refine rFi [1,3,4,5,10,11,41,42] ?_
 refine T0 ?_
 have h33:=h5.addNil 9 .str
 have h34:=(sOR h33 [1,1,1,1,1,0] [0])
 refine T4 (fun kk env w=>∃ x5 A6 c_6 x6 x7 A7 c_7 x8,Q43.l1 kk a0 a2 a3 a4 x3 x5 x6 x7 x8=some r/\env=[(1,.pointer (some ⟨b1,0,none⟩)),(3,.int .i64 a3),(4,.int .i64 a4),(5,.pointer (some ⟨b2,0,none⟩)),(10,.pointer (some ⟨b3,0,none⟩)),(11,.pointer (some ⟨b4,0,none⟩)),(41,.int .i64 (w64 (a0.2.2.2.1 - 1))),(42,.int .i64 x8)]/\St w0 F0 [Wj b1 x5 A6 c_6 x6,X23 b2 a0.1 a0.2.1 a0.2.2.1 a0.2.2.2.1 a0.2.2.2.2.1 a0.2.2.2.2.2.1 a0.2.2.2.2.2.2.1 a0.2.2.2.2.2.2.2,X55 b3 0 [] none 0 [] none 0 [] none 0 [] none 0,X55 b4 a2 x3 A3 c_3 x7 A7 c_7 [] none 0 [] none 0,O32 x3 A3 c_3,O9 x7 A7 c_7] [R5 x5 A6 c_6] w) (k:=k1) ⟨_,_,_,_,_,_,_,_,H,rfl,h34⟩ ?_
 rintro k2 env w10 ⟨x5,A6,c_6,x6,x7,A7,c_7,x8,H,rfl,h12⟩
 rcases k2 with _ | k2
 ·exact z0 H
 rw [Q43.l1] at H
 refine T8 (Za [1,3,4,5,10,11,41,42,43] ?_)
 refine T8 (jIf H (fun c3 H=>?_) fun c3 H=>?_)
 ·refine T9 (T8 (T0 (T8 (Za [1,3,4,5,10,11,14,41,42] ?_))))
  refine T8 (Zv (sO h12 [1,1,1,1,1]) ?_)
  have h13:=h12.drew
  refine Zr [0,1,4] ?_
  refine Zb 5 rfl (Zi 0 wI) ?_
  obtain ⟨r2,q2,H⟩:=Yf H
  refine Yd 2 rfl (Z2 [0] (Q159.spec q2) h13 rfl (gS [0])) ?_
  rintro _ w11 ⟨_,_,⟨A8,c_8,rfl,rfl,rfl⟩,h14⟩
  replace h14:=nf h14
  refine ⟨⟨[_],(Ji h14 [1])⟩,?_⟩
  refine Zr [3] ?_
  obtain ⟨r3,q3,H⟩:=Yf H
  refine Yd 6 rfl (Z2 [0] (Q161.spec q3) h14 rfl (gS [0])) ?_
  rintro _ w12 ⟨_,_,⟨A9,c_9,rfl,rfl,rfl⟩,h15⟩
  replace h15:=nf h15
  refine ⟨⟨[_],(Ji h15 [2])⟩,?_⟩
  refine hRF [7] [1,3,4,5,10,11,14,15,41,42] ?_
  refine T8 (Za [1,3,4,5,10,11,15,41,42,55] ?_)
  refine jIf H (fun c4 H=>?_) fun c4 H=>?_
  ·refine T6 (rRL 1 3 h15 ?_)
   refine Ze 1 ?_
   refine rB (Zx .str [r3.1] h15) fun b6 w13 h16=>?_
   obtain ⟨p2,H⟩:=Zh H
   refine Zp (Zs 6 h16 (gO 0) p2) ?_
   rintro _ w14 ⟨A10,c_10,rfl,h17⟩
   replace h17:=nf h17
   refine Ze 1 ?_
   refine rS (Zt 5 h17) fun _ w15 h18=>?_
   refine rFi [1,3,4,5,10,11,41,42] ?_
   refine Za [1,3,4,5,10,11,41,42] ?_
   have h19:=(sOR h18 [3,3,3,0,2,0] [0])
   exact ⟨k2,by omega,_,_,_,_,_,_,_,_,H,rfl,h19⟩
  refine T9 (Za [1,3,4,5,10,11,41,42] ?_)
  have h20:=(sOR h15 [0,0,0,0,0,0] [0])
  exact ⟨k2,by omega,_,_,_,_,_,_,_,_,H,rfl,h20⟩
 refine T3 (T8 (T8 (T6 (rRL 2 1 h12 ?_))))
 refine rFi [1,5,10,11,66,67] ?_
 refine T0 ?_
 have h31:=h12.addNil 69 (.pair .str (.pair .bool .str))
 have h32:=(sOR h31 [1,1,1,1,1,1,0] [0])
 refine T4 (fun kk env w=>∃ x9 A11 c_11 x10 x11 A12 c_12 x12,Q43.l2 kk a0 a2 a4 x3 x7 x9 x10 x11 x12=some r/\env=[(1,.pointer (some ⟨b1,0,none⟩)),(5,.pointer (some ⟨b2,0,none⟩)),(10,.pointer (some ⟨b3,0,none⟩)),(11,.pointer (some ⟨b4,0,none⟩)),(66,.int .i64 (if a0.2.2.2.2.1<a4 then a0.2.2.2.2.1 else a4)),(67,.int .i64 x12)]/\St w0 F0 [Wj b1 x9 A11 c_11 x10,X23 b2 a0.1 a0.2.1 a0.2.2.1 a0.2.2.2.1 a0.2.2.2.2.1 a0.2.2.2.2.2.1 a0.2.2.2.2.2.2.1 a0.2.2.2.2.2.2.2,X55 b3 0 [] none 0 [] none 0 [] none 0 [] none 0,X55 b4 a2 x3 A3 c_3 x7 A7 c_7 x11 A12 c_12 [] none 0,O32 x3 A3 c_3,O9 x7 A7 c_7,O69 x11 A12 c_12] [R5 x9 A11 c_11] w) (k:=k2) ⟨_,_,_,_,_,_,_,_,H,rfl,h32⟩ ?_
 rintro k3 env w16 ⟨x9,A11,c_11,x10,x11,A12,c_12,x12,H,rfl,h21⟩
 rcases k3 with _ | k3
 ·exact z0 H
 rw [Q43.l2] at H
 refine T8 (Za [1,5,10,11,66,67,68] ?_)
 refine T8 (jIf H (fun c5 H=>?_) fun c5 H=>?_)
 ·refine T9 (T8 (T0 (T8 (T6 (Ze 1 ?_)))))
  obtain ⟨r4,q4,H⟩:=Yf H
  refine Zp (Z2 [0] (Q159.spec q4) h21 rfl (gS [0])) ?_
  rintro _ w17 ⟨_,_,⟨A13,c_13,rfl,rfl,rfl⟩,h22⟩
  replace h22:=nf h22
  refine rFi [1,5,10,11,16,66,67] ?_
  refine T8 (T6 (rLo 1 h22 ?_))
  refine Ze 1 ?_
  obtain ⟨r5,q5,H⟩:=Yf H
  refine Zp (Z2 [0] (Q45.spec q5) h22 rfl (gS [0])) ?_
  rintro _ w18 ⟨_,_,⟨A14,c_14,rfl,rfl,rfl⟩,h23⟩
  replace h23:=nf h23
  refine rFi [1,5,10,11,16,17,18,66,67] ?_
  refine T6 (rRL 1 3 h23 ?_)
  refine Ze 5 ?_
  refine rB (Zx (.pair .str (.pair .bool .str)) [(r5.1,(decide (r4.1=2)),r5.2.1)] h23) fun b7 w19 h24=>?_
  obtain ⟨p3,H⟩:=Zh H
  refine Zp (Zs 7 h24 (gO 0) p3) ?_
  rintro _ w20 ⟨A15,c_15,rfl,h25⟩
  replace h25:=nf h25
  refine Ze 1 ?_
  refine rS (Zt 5 h25) fun _ w21 h26=>?_
  refine rFi [1,5,10,11,66,67] ?_
  refine Za [1,5,10,11,66,67] ?_
  have h27:=(sOR h26 [3,3,3,0,2,2,0] [0])
  exact ⟨k3,by omega,_,_,_,_,_,_,_,_,H,rfl,h27⟩
 refine T3 (T8 (T6 (rLo 3 h21 ?_)))
 refine rS (Zt 2 h21) fun _ w22 h28=>?_
 refine rFi [10] ?_
 have h29:=sO h28 [0,0,2,2,2]
 replace h29:=nf h29
 have h30:=h29.addNil 47 (.pair .str .str)
 cases H
 exact T7 (Zrx (Yg (Sh Z3 1 h30 rfl rfl rfl rfl) X2) ⟨_,_,_,_,_,_,_,_,_,_,rfl,rfl,rfl⟩ (sOR h30 [3,3,3,0,1] [0]))

def Q158.f (a0:TQ):Option (Int):=some a0.2
theorem Q158.spec {a0 A1 c_1 b1 r} (H:Q158.f a0=some r) :
  Spec prog 69 [.pointer (some ⟨b1,0,none⟩)] [Wj b1 a0.1 A1 c_1 a0.2] [R5 a0.1 A1 c_1] (fun v l=>v=.int .i64 r/\l=[Wj b1 a0.1 A1 c_1 a0.2]):=by
 refine Zf Tryz.func69 fun w0 F0 h0=>?_
 unfold Q158.f at H
 refine T8 (Za [0] ?_)
 refine T8 (T8 (Za [0,4] ?_))
 refine Z1 ?_
 refine T9 (T8 (T6 (rRL 3 0 h0 ?_)))
 refine rFi [2] ?_
 cases H
 exact T7 (jR0 h0 [0])

def Q109.l0:Nat->TW->TW->(Int)->Option (Bool)
 | 0,_,_,_=>none
 | k+1,a0,a1,x1=>if (decide (x1<(a0.length:Int)))=true then (if 0<=x1/\x1<(a0.length:Int) then (if 0<=x1/\x1<(a1.length:Int) then (if (!decide ((gt a0 x1)=(gt a1 x1)))=true then (some false) else (Q109.l0 k a0 a1 (w64 (x1+1)))) else none) else none) else (some true)
def Q109.f (k:Nat) (a0:TW) (a1:TW):Option (Bool):=if (!decide ((a0.length:Int)=(a1.length:Int)))=true then (some false) else (Q109.l0 k a0 a1 0)
theorem Q109.spec {k a0 a1 A1 c_1 A2 c_2 r} (H:Q109.f k a0 a1=some r) :
  Spec prog 70 [.slice A1 a0.length c_1,.slice A2 a1.length c_2] [] [R5 a0 A1 c_1,R5 a1 A2 c_2] (fun v l=>v=.bool r/\l=[]):=by
 refine Zf Tryz.func70 fun w0 F0 h0=>?_
 unfold Q109.f at H
 refine T8 (Za [0,1] ?_)
 refine T8 (T8 (Za [0,1,10] ?_))
 refine jIf H (fun c1 H=>?_) fun c1 H=>?_
 ·refine T8 (Za [4] ?_)
  cases H
  exact T7 (jR0 h0 [])
 refine T9 (T8 (T8 (Za [0,1,12,13] ?_)))
 refine T0 ?_
 have h4:=(sOR h0 [] [0,1])
 refine T4 (fun kk env w=>∃ x1,Q109.l0 kk a0 a1 x1=some r/\env=[(0,.slice A1 a0.length c_1),(1,.slice A2 a1.length c_2),(12,.int .i64 (a0.length:Int)),(13,.int .i64 x1)]/\St w0 F0 [] [R5 a0 A1 c_1,R5 a1 A2 c_2] w) (k:=k) ⟨_,H,rfl,h4⟩ ?_
 rintro k1 env w1 ⟨x1,H,rfl,h1⟩
 rcases k1 with _ | k1
 ·exact z0 H
 rw [Q109.l0] at H
 refine T8 (Za [0,1,12,13,14] ?_)
 refine T8 (jIf H (fun c2 H=>?_) fun c2 H=>?_)
 ·refine T9 (T8 (T0 (T8 (Za [0,1,5,12,13] ?_))))
  refine T8 (jH h1 fun h2=>?_)
  refine Zr [0,1,4,5] ?_
  obtain ⟨⟨p1,p2⟩,H⟩:=Zh H
  have e1:=Zy h2.wh (Zg 0) p1 p2
  refine Zb 2 rfl (Zc e1 p1 p2) ?_
  refine Zb 3 rfl (Zd 0 wI (Zg 0) p1 p2) ?_
  obtain ⟨⟨p3,p4⟩,H⟩:=Zh H
  have e2:=Zy h2.wh (Zg 1) p3 p4
  refine Zb 6 rfl (Zc e2 p3 p4) ?_
  refine Zb 7 rfl (Zd 0 wI (Zg 1) p3 p4) ?_
  refine hRF [8] [0,1,12,13,24] ?_
  refine jIf H (fun c3 H=>?_) fun c3 H=>?_
  ·refine T8 (Za [4] ?_)
   cases H
   exact T7 (jR0 h2 [])
  refine T9 (Za [0,1,12,13] ?_)
  have h3:=(sOR h2 [] [0,1])
  exact ⟨k1,by omega,_,H,rfl,h3⟩
 refine T3 (T8 (Za [4] ?_))
 cases H
 exact T7 (jR0 h1 [])

def Q38.f (k:Nat) (a0:Tq) (a1:TW):Option (Tn×Int):=(Q49.f a0).bind fun r1=>(if (!decide (r1=0))=true then (some ((0,[],[],[],[]),r1)) else ((Q156.f a1).bind fun r2=>((Q159.f k r2 1).bind fun r3=>((Q159.f k r3.2 1).bind fun r4=>((Q159.f k r4.2 2).bind fun r5=>((Q159.f k r5.2 2).bind fun r6=>((Q163.f k r6.2 2).bind fun r7=>(if (decide (r3.1=1))=true then ((Q44.f k a0 r7 (w64 (r5.1))).bind fun r11=>((Q158.f (r11.2.1,r11.2.2)).bind fun r8=>(if (!decide (r8=0))=true then (some ((0,[],[],[],[]),12)) else ((Q39.f k a0 (r11.1.1,r11.1.2.1,r11.1.2.2.1,r11.1.2.2.2.1,r11.1.2.2.2.2)).bind fun r9=>(if (!decide (r9.2=0))=true then (some ((0,[],[],[],[]),12)) else ((Q109.f k r9.1 a1).bind fun r10=>(if (!r10)=true then (some ((0,[],[],[],[]),12)) else (some ((r11.1.1,r11.1.2.1,r11.1.2.2.1,r11.1.2.2.2.1,r11.1.2.2.2.2),0))))))))) else (if (decide (r3.1=2))=true then ((Q43.f k a0 r7 (if (w64 (r4.1))>1 then (w64 (r4.1)) else 1) (w64 (r5.1)) (w64 (r6.1))).bind fun r12=>((Q158.f (r12.2.1,r12.2.2)).bind fun r8=>(if (!decide (r8=0))=true then (some ((0,[],[],[],[]),12)) else ((Q39.f k a0 (r12.1.1,r12.1.2.1,r12.1.2.2.1,r12.1.2.2.2.1,r12.1.2.2.2.2)).bind fun r9=>(if (!decide (r9.2=0))=true then (some ((0,[],[],[],[]),12)) else ((Q109.f k r9.1 a1).bind fun r10=>(if (!r10)=true then (some ((0,[],[],[],[]),12)) else (some ((r12.1.1,r12.1.2.1,r12.1.2.2.1,r12.1.2.2.2.1,r12.1.2.2.2.2),0))))))))) else ((Q158.f (r7.1,r7.2)).bind fun r8=>(if (!decide (r8=0))=true then (some ((0,[],[],[],[]),12)) else ((Q39.f k a0 ((-1),[],[],[],[])).bind fun r9=>(if (!decide (r9.2=0))=true then (some ((0,[],[],[],[]),12)) else ((Q109.f k r9.1 a1).bind fun r10=>(if (!r10)=true then (some ((0,[],[],[],[]),12)) else (some (((-1),[],[],[],[]),0)))))))))))))))))
theorem Q38.spec {k a0 a1 A1 c_1 r} (H:Q38.f k a0 a1=some r) :
  Spec prog 34 [.agg #[.int .i64 a0.1,.int .i64 a0.2.1,.int .i64 a0.2.2.1,.int .i64 a0.2.2.2.1,.int .i64 a0.2.2.2.2.1,.int .i64 a0.2.2.2.2.2.1,.int .i64 a0.2.2.2.2.2.2.1,.int .i64 a0.2.2.2.2.2.2.2],.slice A1 a1.length c_1] [] [R5 a1 A1 c_1] (fun v l=>∃ A_0 c_0 A_1 c_1 A_2 c_2 A_3 c_3,v=.tuple #[.agg #[.int .i64 r.1.1,.slice A_0 r.1.2.1.length c_0,.slice A_1 r.1.2.2.1.length c_1,.slice A_2 r.1.2.2.2.1.length c_2,.slice A_3 r.1.2.2.2.2.length c_3],.int .i64 r.2]/\l=[O32 r.1.2.1 A_0 c_0,O9 r.1.2.2.1 A_1 c_1,O69 r.1.2.2.2.1 A_2 c_2,O47 r.1.2.2.2.2 A_3 c_3]):=by
 refine Zf Tryz.func34 fun w0 F0 h0=>?_
 unfold Q38.f at H
 refine T8 (T6 (rB (Z5 h0) fun b1 w1 h1=>?_))
 refine rB (Yp h1) fun b2 w2 h2=>?_
 refine rFi [1,2,4] ?_
 refine T8 (T8 (T6 (rLo 1 h2 ?_)))
 refine cS H [] h2 rfl Q49.spec Zm fun r1 w3 H h3=>?_
 refine rFi [1,2,4,6] ?_
 refine T8 (Za [1,2,4,6,18] ?_)
 refine jIf H (fun c1 H=>?_) fun c1 H=>?_
 ·refine T8 (T6 (Ze 2 ?_))
  refine rS (Zt 0 h3) fun _ w4 h4=>?_
  refine rFi [4,5] ?_
  have h5:=h4.addNil 32 (.int .u32)
  have h6:=h5.addNil 9 .str
  have h7:=h6.addNil 69 (.pair .str (.pair .bool .str))
  have h8:=h7.addNil 47 (.pair .str .str)
  cases H
  exact T7 (jR2 (Yg (Sh Z3 4 h8 rfl rfl rfl rfl) (Yg (Si rfl) X2)) ⟨_,_,_,_,_,_,_,_,rfl,rfl⟩ h8 [3,2,1,0])
 refine T9 (T8 (T6 (Ze 1 ?_)))
 obtain ⟨r2,q2,H⟩:=Yf H
 refine Zp (Z2 [] (Q156.spec q2) h3 rfl (gS [0])) ?_
 rintro _ w5 ⟨_,_,⟨b3,A2,c_2,rfl,rfl,rfl⟩,h9⟩
 replace h9:=nf h9
 refine rFi [1,2,4,7] ?_
 refine T8 (T6 (Ze 1 ?_))
 obtain ⟨r3,q3,H⟩:=Yf H
 refine Zp (Z2 [0] (Q159.spec q3) h9 rfl (gS [0])) ?_
 rintro _ w6 ⟨_,_,⟨A3,c_3,rfl,rfl,rfl⟩,h10⟩
 replace h10:=nf h10
 refine Ze 1 ?_
 obtain ⟨r4,q4,H⟩:=Yf H
 refine Zp (Z2 [0] (Q159.spec q4) h10 rfl (gS [0])) ?_
 rintro _ w7 ⟨_,_,⟨A4,c_4,rfl,rfl,rfl⟩,h11⟩
 replace h11:=nf h11
 refine Ze 2 ?_
 obtain ⟨r5,q5,H⟩:=Yf H
 refine Zp (Z2 [0] (Q159.spec q5) h11 rfl (gS [0])) ?_
 rintro _ w8 ⟨_,_,⟨A5,c_5,rfl,rfl,rfl⟩,h12⟩
 replace h12:=nf h12
 refine Ze 2 ?_
 obtain ⟨r6,q6,H⟩:=Yf H
 refine Zp (Z2 [0] (Q159.spec q6) h12 rfl (gS [0])) ?_
 rintro _ w9 ⟨_,_,⟨A6,c_6,rfl,rfl,rfl⟩,h13⟩
 replace h13:=nf h13
 refine rFi [1,2,4,7,8,9,10,11] ?_
 refine T8 (T6 (Ze 1 ?_))
 obtain ⟨r7,q7,H⟩:=Yf H
 refine Zp (Z2 [0] (Q163.spec q7) h13 rfl (gS [0])) ?_
 rintro _ w10 ⟨_,_,⟨A7,c_7,rfl,rfl,rfl⟩,h14⟩
 replace h14:=nf h14
 refine rFi [1,2,4,7,8,9,10,11] ?_
 refine T8 (T6 (Ze 1 ?_))
 refine rB (Yp h14) fun b4 w11 h15=>?_
 refine rS (Zt 0 h15) fun _ w12 h16=>?_
 refine rFi [1,2,4,7,8,9,10,11,12] ?_
 refine T8 (T8 (Za [1,2,4,7,9,10,11,12,37] ?_))
 refine T5 (fun env w=>∃(k1:Nat) (x1:TW) (A8:_) (c_8:_) (x2:Int) (x3:Int) (x4:TW) (A9:_) (c_9:_) (x5:TL) (A10:_) (c_10:_) (x6:Tu) (A11:_) (c_11:_) (x7:Tz) (A12:_) (c_12:_),env=[(1,.slice A1 a1.length c_1),(2,.pointer (some ⟨b1,0,none⟩)),(4,.pointer (some ⟨b2,0,none⟩)),(7,.pointer (some ⟨b3,0,none⟩)),(12,.pointer (some ⟨b4,0,none⟩))]/\St w0 F0 [X23 b1 a0.1 a0.2.1 a0.2.2.1 a0.2.2.2.1 a0.2.2.2.2.1 a0.2.2.2.2.2.1 a0.2.2.2.2.2.2.1 a0.2.2.2.2.2.2.2,X55 b2 0 [] none 0 [] none 0 [] none 0 [] none 0,Wj b3 x1 A8 c_8 x2,X55 b4 x3 x4 A9 c_9 x5 A10 c_10 x6 A11 c_11 x7 A12 c_12,O32 x4 A9 c_9,O9 x5 A10 c_10,O69 x6 A11 c_11,O47 x7 A12 c_12] [R5 a1 A1 c_1,R5 x1 A8 c_8] w/\((Q158.f (x1,x2)).bind fun r8=>(if (!decide (r8=0))=true then (some ((0,[],[],[],[]),12)) else ((Q39.f k1 a0 (x3,x4,x5,x6,x7)).bind fun r9=>(if (!decide (r9.2=0))=true then (some ((0,[],[],[],[]),12)) else ((Q109.f k1 r9.1 a1).bind fun r10=>(if (!r10)=true then (some ((0,[],[],[],[]),12)) else (some ((x3,x4,x5,x6,x7),0))))))))=some r/\k1<=k) ?_ ?_
 ·refine T0 (T8 (Za [1,2,4,7,9,10,11,12,37,38] ?_))
  refine jIf H (fun c5 H=>?_) fun c5 H=>?_
  ·refine T6 (rLo 3 h16 ?_)
   refine Ze 2 ?_
   obtain ⟨r11,q11,H⟩:=Yf H
   refine Zp (Z2 [1] (Q44.spec q11) h16 rfl (gS [0])) ?_
   rintro _ w22 ⟨_,_,⟨A14,c_14,A15,c_15,A16,c_16,A17,c_17,A18,c_18,rfl,rfl,rfl⟩,h42⟩
   replace h42:=nf h42
   refine rS (Zt 5 h42) fun _ w23 h43=>?_
   refine rFi [1,2,4,7,12] ?_
   have h44:=(sOR h43 [7,6,5,0,0,0,0,0] [7,0])
   exact ⟨k,r11.2.1,A18,c_18,r11.2.2,r11.1.1,r11.1.2.1,A14,c_14,r11.1.2.2.1,A15,c_15,r11.1.2.2.2.1,A16,c_16,r11.1.2.2.2.2,A17,c_17,rfl,h44,H,Sa _⟩
  refine T8 (Za [1,2,4,7,9,10,11,12,44] ?_)
  refine jIf H (fun c6 H=>?_) fun c6 H=>?_
  ·refine T6 (rLo 3 h16 ?_)
   refine Ze 5 ?_
   obtain ⟨r12,q12,H⟩:=Yf H
   refine Zp (Z2 [1] (Q43.spec q12) h16 rfl (gS [0])) ?_
   rintro _ w24 ⟨_,_,⟨A19,c_19,A20,c_20,A21,c_21,A22,c_22,A23,c_23,rfl,rfl,rfl⟩,h45⟩
   replace h45:=nf h45
   refine rS (Zt 5 h45) fun _ w25 h46=>?_
   refine rFi [1,2,4,7,12] ?_
   have h47:=(sOR h46 [7,6,5,0,0,0,0,0] [7,0])
   exact ⟨k,r12.2.1,A23,c_23,r12.2.2,r12.1.1,r12.1.2.1,A19,c_19,r12.1.2.2.1,A20,c_20,r12.1.2.2.2.1,A21,c_21,r12.1.2.2.2.2,A22,c_22,rfl,h47,H,Sa _⟩
  refine Wf [1,2,4,7,12] ?_
  refine T9 ?_
  have h48:=h16.addNil 32 (.int .u32)
  have h49:=h48.addNil 9 .str
  have h50:=h49.addNil 69 (.pair .str (.pair .bool .str))
  have h51:=h50.addNil 47 (.pair .str .str)
  have h52:=(sOR h51 [7,6,5,4,3,2,1,0] [6,0])
  exact ⟨k,r7.1,A7,c_7,r7.2,(-1),[],none,0,[],none,0,[],none,0,[],none,0,rfl,h52,H,Sa _⟩
 rintro env w14 ⟨k1,x1,A8,c_8,x2,x3,x4,A9,c_9,x5,A10,c_10,x6,A11,c_11,x7,A12,c_12,rfl,h17,H,hk1⟩
 refine T8 (T8 (T6 (Ze 1 ?_)))
 refine cS H [2] h17 rfl Q158.spec (gS [8]) fun r8 w15 H h18=>?_
 refine rFi [1,2,4,12,55] ?_
 refine jIf H (fun c2 H=>?_) fun c2 H=>?_
 ·refine T8 (T6 (Ze 1 ?_))
  refine rS (Zt 2 h18) fun _ w16 h19=>?_
  refine rFi [4,5] ?_
  have h20:=sO h19 [0]
  replace h20:=nf h20
  have h21:=h20.addNil 32 (.int .u32)
  have h22:=h21.addNil 9 .str
  have h23:=h22.addNil 69 (.pair .str (.pair .bool .str))
  have h24:=h23.addNil 47 (.pair .str .str)
  cases H
  exact T7 (jR2 (Yg (Sh Z3 4 h24 rfl rfl rfl rfl) (Yg (Si rfl) X2)) ⟨_,_,_,_,_,_,_,_,rfl,rfl⟩ h24 [3,2,1,0])
 refine T9 (T8 (T8 (T6 (rLo 1 h18 ?_))))
 refine rLo 3 h18 ?_
 refine cE H [] h18 rfl Q39.spec (Xl (gO 4) (Xl (gO 5) (Xl (gO 6) (Xl (gO 7) Zm)))) ?_
 rintro r9 w17 _ _ H ⟨A13,c_13,rfl,rfl⟩ h25
 replace h25:=nf h25
 refine rFi [1,4,12,13,14] ?_
 have h26:=sO h25 [0,2,2,2,2,2,2]
 replace h26:=nf h26
 refine T8 (T6 (Ze 3 ?_))
 refine Z7 65 H (fun c3 H=>?_) fun c3 H=>?_
 ·refine rFi [4,12,70] ?_
  refine Zo ?_
  refine T8 (T6 (Ze 1 ?_))
  refine rS (Zt 1 h26) fun _ w18 h27=>?_
  refine rFi [4,5] ?_
  have h28:=sO h27 [0]
  replace h28:=nf h28
  have h29:=h28.addNil 32 (.int .u32)
  have h30:=h29.addNil 9 .str
  have h31:=h30.addNil 69 (.pair .str (.pair .bool .str))
  have h32:=h31.addNil 47 (.pair .str .str)
  cases H
  exact T7 (jR2 (Yg (Sh Z3 4 h32 rfl rfl rfl rfl) (Yg (Si rfl) X2)) ⟨_,_,_,_,_,_,_,_,rfl,rfl⟩ h32 [3,2,1,0])
 refine Ze 2 ?_
 refine cS H [] h26 rfl Q109.spec (Xl (gO 0) (gS [7])) fun r10 w19 H h33=>?_
 refine rFi [4,12,70] ?_
 refine jIf H (fun c4 H=>?_) fun c4 H=>?_
 ·refine T8 (T6 (Ze 1 ?_))
  refine rS (Zt 1 h33) fun _ w20 h34=>?_
  refine rFi [4,5] ?_
  have h35:=sO h34 [0]
  replace h35:=nf h35
  have h36:=h35.addNil 32 (.int .u32)
  have h37:=h36.addNil 9 .str
  have h38:=h37.addNil 69 (.pair .str (.pair .bool .str))
  have h39:=h38.addNil 47 (.pair .str .str)
  cases H
  exact T7 (jR2 (Yg (Sh Z3 4 h39 rfl rfl rfl rfl) (Yg (Si rfl) X2)) ⟨_,_,_,_,_,_,_,_,rfl,rfl⟩ h39 [3,2,1,0])
 refine T9 (T8 (T6 (rLo 2 h33 ?_)))
 refine rS (Zt 1 h33) fun _ w21 h40=>?_
 refine rFi [4,5] ?_
 have h41:=sO h40 [0,2,2,2,2]
 replace h41:=nf h41
 cases H
 exact T7 (jR2 (Yg (Sh Z3 0 h41 rfl rfl rfl rfl) (Yg (Si rfl) X2)) ⟨_,_,_,_,_,_,_,_,rfl,rfl⟩ h41 [1,1,1,1])

def Q90.f (k:Nat) (a0:Tg) (a1:Int):Option Tb:=(Q95.f a0 a1).bind fun r1=>(if (!decide (r1=0))=true then (some ((0,[],[],[],[]),r1,a0)) else ((Q19.f a0.2.1 a1).bind fun r2=>(if (!decide (r2.1=0))=true then (some ((0,[],[],[],[]),r2.1,(a0.1,r2.2,a0.2.2.1,a0.2.2.2))) else ((Q20.f r2.2 a1).bind fun r3=>((Q21.f r2.2 a1).bind fun r4=>(if (!decide (r3.2=0))=true then (some ((0,[],[],[],[]),r3.2,(a0.1,r4.2,a0.2.2.1,a0.2.2.2))) else ((Q38.f k a0.1 r3.1).bind fun r5=>(some (r5.1,r5.2,(a0.1,r4.2,a0.2.2.1,a0.2.2.2))))))))))
theorem Q90.spec {k a0 a1 b1 b2 b3 b4 b5 b6 b7 A1 c_1 A2 c_2 A3 c_3 A4 c_4 A5 c_5 r} (H:Q90.f k a0 a1=some r) :
  Spec prog 17 [.pointer (some ⟨b1,0,none⟩),.int .u32 a1] (Ub a0 b1 b2 b3 b4 b5 b6 b7 A1 A2 A3 A4 A5 c_1 c_2 c_3 c_4 c_5) [] (fun v l=>∃ A_0 c_0 A_1 c_1 A_2 c_2 A_3 c_3 A_4 c_4 A_5 c_5 A_6 c_6 A_7 c_7 A_8 c_8,v=.tuple #[.agg #[.int .i64 r.1.1,.slice A_0 r.1.2.1.length c_0,.slice A_1 r.1.2.2.1.length c_1,.slice A_2 r.1.2.2.2.1.length c_2,.slice A_3 r.1.2.2.2.2.length c_3],.int .i64 r.2.1]/\l=[O32 r.1.2.1 A_0 c_0,O9 r.1.2.2.1 A_1 c_1,O69 r.1.2.2.2.1 A_2 c_2,O47 r.1.2.2.2.2 A_3 c_3] ++ Ub r.2.2 b1 b2 b3 b4 b5 b6 b7 A_4 A_5 A_6 A_7 A_8 c_4 c_5 c_6 c_7 c_8):=by
 refine Zf Tryz.func17 fun w0 F0 h0=>?_
 replace h0:=nf h0
 unfold Q90.f at H
 refine T8 (T6 (rB (Yp h0) fun b8 w1 h1=>?_))
 refine rFi [0,1,4] ?_
 refine T8 (T8 (T6 (Ze 2 ?_)))
 refine cS H [1,1,1,1,1,1,1,1,1,1,1,1] h1 rfl Q95.spec Zm fun r1 w2 H h2=>?_
 refine rFi [0,1,4,6] ?_
 refine T8 (Za [0,1,4,6,14] ?_)
 refine jIf H (fun c1 H=>?_) fun c1 H=>?_
 ·refine T8 (T6 (Ze 2 ?_))
  refine rS (Zt 12 h2) fun _ w3 h3=>?_
  refine rFi [4,5] ?_
  have h4:=h3.addNil 32 (.int .u32)
  have h5:=h4.addNil 9 .str
  have h6:=h5.addNil 69 (.pair .str (.pair .bool .str))
  have h7:=h6.addNil 47 (.pair .str .str)
  cases H
  exact T7 (jR2 (Yg (Sh Z3 4 h7 rfl rfl rfl rfl) (Yg (Si rfl) X2)) ⟨_,_,_,_,_,_,_,_,_,_,_,_,_,_,_,_,_,_,rfl,rfl⟩ h7 [3,2,1,0,1,1,1,1,1,1,1,1,1,1,1,1])
 refine T9 (T8 (T8 (T6 (rRL 3 0 h2 ?_))))
 refine Ze 1 ?_
 refine cE H [1,1,1,1,1,1,1,1] h2 rfl Q19.spec Zm ?_
 rintro r2 w4 _ _ H ⟨A6,c_6,A7,c_7,A8,c_8,A9,c_9,rfl,rfl⟩ h8
 replace h8:=nf h8
 refine rFi [0,1,4,7] ?_
 refine T8 (Za [0,1,4,7,24] ?_)
 refine jIf H (fun c2 H=>?_) fun c2 H=>?_
 ·refine T8 (T6 (Ze 2 ?_))
  refine rS (Zt 12 h8) fun _ w5 h9=>?_
  refine rFi [4,5] ?_
  have h10:=h9.addNil 32 (.int .u32)
  have h11:=h10.addNil 9 .str
  have h12:=h11.addNil 69 (.pair .str (.pair .bool .str))
  have h13:=h12.addNil 47 (.pair .str .str)
  cases H
  exact T7 (jR2 (Yg (Sh Z3 4 h13 rfl rfl rfl rfl) (Yg (Si rfl) X2)) ⟨_,_,_,_,_,_,_,_,_,_,_,_,_,_,_,_,_,_,rfl,rfl⟩ h13 [3,2,1,0,9,1,1,1,1,1,1,1,1,1,1,1])
 refine T9 (T8 (T6 (rRL 3 8 h8 ?_)))
 refine Ze 1 ?_
 refine cE H [0,0,0,0,0,0,0,0] h8 rfl Q20.spec Zm ?_
 rintro r3 w6 _ _ H ⟨A10,c_10,rfl,rfl⟩ h14
 replace h14:=nf h14
 refine rFi [0,1,4,8,9] ?_
 refine T8 (T6 (rRL 3 9 h14 ?_))
 refine Ze 1 ?_
 refine cE H [1,1,1,1,1,1,1,1] h14 rfl Q21.spec Zm ?_
 rintro r4 w7 _ _ H ⟨A11,c_11,A12,c_12,A13,c_13,A14,c_14,rfl,rfl⟩ h15
 replace h15:=nf h15
 refine rFi [0,4,8,9] ?_
 refine T8 (T8 (Za [0,4,8,9,43] ?_))
 refine jIf H (fun c3 H=>?_) fun c3 H=>?_
 ·refine T8 (T6 (Ze 2 ?_))
  refine rS (Zt 13 h15) fun _ w8 h16=>?_
  refine rFi [4,5] ?_
  have h17:=h16.addNil 32 (.int .u32)
  have h18:=h17.addNil 9 .str
  have h19:=h18.addNil 69 (.pair .str (.pair .bool .str))
  have h20:=h19.addNil 47 (.pair .str .str)
  cases H
  exact T7 (jR2 (Yg (Sh Z3 4 h20 rfl rfl rfl rfl) (Yg (Si rfl) X2)) ⟨_,_,_,_,_,_,_,_,_,_,_,_,_,_,_,_,_,_,rfl,rfl⟩ h20 [3,2,1,0,10,1,1,1,1,1,1,1,1,2,2,2])
 refine T9 (T8 (T6 (rRL 3 9 h15 ?_)))
 refine Ze 1 ?_
 refine cE H [] h15 rfl Q38.spec (Xl (gO 8) Zm) ?_
 rintro r5 w9 _ _ H ⟨A15,c_15,A16,c_16,A17,c_17,A18,c_18,rfl,rfl⟩ h21
 replace h21:=nf h21
 refine Ze 2 ?_
 refine rS (Zt 17 h21) fun _ w10 h22=>?_
 refine rFi [4,5] ?_
 cases H
 exact T7 (jR2 (Yg (Sh Z3 0 h22 rfl rfl rfl rfl) (Yg (Si rfl) X2)) ⟨_,_,_,_,_,_,_,_,_,_,_,_,_,_,_,_,_,_,rfl,rfl⟩ h22 [1,1,1,1,10,1,1,1,1,1,1,1,1,2,2,2])

def Q66.f (a0:TE) (a1:TR):Option (Int):=(Q68.f a0.1 a1).bind fun r1=>(some r1)
theorem Q66.spec {a0 a1 r} (H:Q66.f a0 a1=some r) :
  Spec prog 93 [.agg #[.string ⟨⟨a0.1⟩⟩,.string ⟨⟨a0.2⟩⟩],.string ⟨⟨a1⟩⟩] [] [] (fun v l=>v=.int .i64 r/\l=[]):=by
 refine Zf Tryz.func93 fun w0 F0 h0=>?_
 unfold Q66.f at H
 refine T8 (T6 (rB (Z5 h0) fun b1 w1 h1=>?_))
 refine rFi [1,2] ?_
 refine T8 (T6 (rRL 1 0 h1 ?_))
 refine Ze 1 ?_
 refine cS H [] h1 rfl Q68.spec Zm fun r1 w2 H h2=>?_
 refine rFi [4] ?_
 cases H
 exact T7 (jR0 h2 [])

def Q97.l0:Nat->Tz->TR->(Int)->(Int)->Option TU
 | 0,_,_,_,_=>none
 | k+1,a0,a1,x1,x2=>if (decide (x1<x2))=true then (if 0<=(w64 ((Int.fdiv (uH.wrap ((w64 (x1+x2)))) (2 ^ 1))))/\(w64 ((Int.fdiv (uH.wrap ((w64 (x1+x2)))) (2 ^ 1))))<(a0.length:Int) then ((Q66.f (gt a0 (w64 ((Int.fdiv (uH.wrap ((w64 (x1+x2)))) (2 ^ 1))))) a1).bind fun r1=>(if (decide (r1<0))=true then (Q97.l0 k a0 a1 (w64 ((w64 ((Int.fdiv (uH.wrap ((w64 (x1+x2)))) (2 ^ 1))))+1)) x2) else (Q97.l0 k a0 a1 x1 (w64 ((Int.fdiv (uH.wrap ((w64 (x1+x2)))) (2 ^ 1))))))) else none) else (if (decide (x1<(a0.length:Int)))=true then (if 0<=x1/\x1<(a0.length:Int) then ((Q66.f (gt a0 x1) a1).bind fun r2=>(some (x1,(decide (r2=0))))) else none) else (some (x1,false)))
def Q97.f (k:Nat) (a0:Tz) (a1:TR):Option TU:=Q97.l0 k a0 a1 0 (a0.length:Int)
theorem Q97.spec {k a0 a1 A1 c_1 r} (H:Q97.f k a0 a1=some r) :
  Spec prog 92 [.slice A1 a0.length c_1,.string ⟨⟨a1⟩⟩,.func (.func 93) #[] #[]] [] [R47 a0 A1 c_1] (fun v l=>v=.tuple #[.int .i64 r.1,.bool r.2]/\l=[]):=by
 refine Zf Tryz.func92 fun w0 F0 h0=>?_
 unfold Q97.f at H
 refine T8 (Za [0,1,2] ?_)
 refine T8 (Za [0,1,2,8] ?_)
 refine T8 (Za [0,1,2,8,9,10] ?_)
 refine T8 (T0 ?_)
 have h6:=(sOR h0 [] [0])
 refine T4 (fun kk env w=>∃ x1 x2,Q97.l0 kk a0 a1 x1 x2=some r/\env=[(0,.slice A1 a0.length c_1),(1,.string ⟨⟨a1⟩⟩),(2,.func (.func 93) #[] #[]),(8,.int .i64 (a0.length:Int)),(9,.int .i64 x1),(10,.int .i64 x2)]/\St w0 F0 [] [R47 a0 A1 c_1] w) (k:=k) ⟨_,_,H,rfl,h6⟩ ?_
 rintro k1 env w1 ⟨x1,x2,H,rfl,h1⟩
 rcases k1 with _ | k1
 ·exact z0 H
 rw [Q97.l0] at H
 refine T8 (T8 (Za [0,1,2,8,9,10,17] ?_))
 refine jIf H (fun c1 H=>?_) fun c1 H=>?_
 ·refine T9 (T0 (T8 (Za [0,1,2,8,9,10,11] ?_)))
  refine T8 (T6 (Ze 3 ?_))
  obtain ⟨⟨p1,p2⟩,H⟩:=Zh H
  have e1:=Zy h1.wh (Zg 0) p1 p2
  refine Zj (Zc e1 p1 p2) ?_
  refine Zj (Zd 0 h1.wht (Zg 0) p1 p2) ?_
  refine Ze 1 ?_
  refine cS H [] h1 rfl Q66.spec Zm fun r1 w2 H h2=>?_
  refine rFi [0,1,2,8,9,10,11,31] ?_
  refine jIf H (fun c2 H=>?_) fun c2 H=>?_
  ·refine Za [0,1,2,8,9,10] ?_
   have h3:=(sOR h2 [] [0])
   exact ⟨k1,by omega,_,_,H,rfl,h3⟩
  refine Za [0,1,2,8,9,10] ?_
  have h4:=(sOR h2 [] [0])
  exact ⟨k1,by omega,_,_,H,rfl,h4⟩
 refine T3 (T8 (T6 (Ze 5 ?_)))
 refine Z7 39 H (fun c3 H=>?_) fun c3 H=>?_
 ·refine Ze 3 ?_
  obtain ⟨⟨p3,p4⟩,H⟩:=Zh H
  have e2:=Zy h1.wh (Zg 0) p3 p4
  refine Zj (Zc e2 p3 p4) ?_
  refine Zj (Zd 0 h1.wht (Zg 0) p3 p4) ?_
  refine Ze 1 ?_
  refine cS H [] h1 rfl Q66.spec Zm fun r2 w3 H h5=>?_
  refine rFi [6,7] ?_
  cases H
  exact T7 (jR0 h5 [])
 refine rFi [6,7] ?_
 cases H
 exact T7 (jR0 h1 [])

def Q99.f (a0:Tz):Option Tx:=if (([]:List TE).length+a0.length)*32<=140737488355328 then (some ([] ++ a0)) else none
theorem Q99.spec {a0 A1 c_1 r} (H:Q99.f a0=some r) :
  Spec prog 91 [.slice A1 a0.length c_1] [] [R47 a0 A1 c_1] (fun v l=>∃ A_0 c_0,v=.slice A_0 r.length c_0/\l=[O47 r A_0 c_0]):=by
 refine Zf Tryz.func91 fun w0 F0 h0=>?_
 unfold Q99.f at H
 refine T8 (Za [0] ?_)
 refine T8 (T8 (Za [0,4] ?_))
 refine Ge (fun c1=>?_) (fun c1=>?_)
 ·have e1:=h0.nilrow (Zg 0) (by simpa using c1)
  replace H:(some [])=some r:=by rw [e1] at H; simpa using H
  refine T8 (Za [2] ?_)
  have h1:=h0.addNil 47 (.pair .str .str)
  cases H
  exact T7 (jR ⟨_,_,rfl,rfl⟩ h1 [0])
 refine T9 (T8 (T6 (rB (Zx (.pair .str .str) [] h0) fun b1 w1 h2=>?_)))
 refine Ze 1 ?_
 obtain ⟨p1,H⟩:=Zh H
 refine Zp (Zs 0 h2 (Zg 0) p1) ?_
 rintro _ w2 ⟨A2,c_2,rfl,h3⟩
 replace h3:=nf h3
 refine rFi [2] ?_
 cases H
 exact T7 (jR ⟨_,_,rfl,rfl⟩ h3 [0])

def Q64.f (k:Nat) (a0:Tz) (a1:TA) (a2:Int):Option Tx:=(Q69.f a1).bind fun r1=>(if r1=true then (some []) else (if (decide (a2<1))=true then (some []) else ((Q97.f k a0 a1.1).bind fun r2=>(if (!a1.2.2)=true then ((Q97.f k a0 a1.2.1).bind fun r3=>(if 0<=r2.1/\r2.1<=(if (w64 (r2.1+(if (a0.length:Int)<a2 then (a0.length:Int) else a2)))<r3.1 then (w64 (r2.1+(if (a0.length:Int)<a2 then (a0.length:Int) else a2))) else r3.1)/\(if (w64 (r2.1+(if (a0.length:Int)<a2 then (a0.length:Int) else a2)))<r3.1 then (w64 (r2.1+(if (a0.length:Int)<a2 then (a0.length:Int) else a2))) else r3.1)<=(a0.length:Int) then ((Q99.f ((a0.drop (r2.1).toNat).take (((if (w64 (r2.1+(if (a0.length:Int)<a2 then (a0.length:Int) else a2)))<r3.1 then (w64 (r2.1+(if (a0.length:Int)<a2 then (a0.length:Int) else a2))) else r3.1)).toNat - (r2.1).toNat))).bind fun r4=>(some r4)) else none)) else (if 0<=r2.1/\r2.1<=(if (w64 (r2.1+(if (a0.length:Int)<a2 then (a0.length:Int) else a2)))<(a0.length:Int) then (w64 (r2.1+(if (a0.length:Int)<a2 then (a0.length:Int) else a2))) else (a0.length:Int))/\(if (w64 (r2.1+(if (a0.length:Int)<a2 then (a0.length:Int) else a2)))<(a0.length:Int) then (w64 (r2.1+(if (a0.length:Int)<a2 then (a0.length:Int) else a2))) else (a0.length:Int))<=(a0.length:Int) then ((Q99.f ((a0.drop (r2.1).toNat).take (((if (w64 (r2.1+(if (a0.length:Int)<a2 then (a0.length:Int) else a2)))<(a0.length:Int) then (w64 (r2.1+(if (a0.length:Int)<a2 then (a0.length:Int) else a2))) else (a0.length:Int))).toNat - (r2.1).toNat))).bind fun r5=>(some r5)) else none)))))
theorem Q64.spec {k a0 a1 a2 A1 c_1 r} (H:Q64.f k a0 a1 a2=some r) :
  Spec prog 49 [.slice A1 a0.length c_1,.agg #[.string ⟨⟨a1.1⟩⟩,.string ⟨⟨a1.2.1⟩⟩,.bool a1.2.2],.int .i64 a2] [] [R47 a0 A1 c_1] (fun v l=>∃ A_0 c_0,v=.slice A_0 r.length c_0/\l=[O47 r A_0 c_0]):=by
 refine Zf Tryz.func49 fun w0 F0 h0=>?_
 unfold Q64.f at H
 refine T8 (T6 (rB (Z5 h0) fun b1 w1 h1=>?_))
 refine rFi [0,2,4] ?_
 refine T8 (T8 (T6 (rLo 0 h1 ?_)))
 refine cS H [] h1 rfl Q69.spec Zm fun r1 w2 H h2=>?_
 refine Ze 1 ?_
 refine Z7 12 H (fun c1 H=>?_) fun c1 H=>?_
 ·refine rFi [0,2,4,15] ?_
  refine Zo ?_
  refine T8 (Za [6] ?_)
  have h3:=h2.addNil 47 (.pair .str .str)
  cases H
  exact T7 (jR ⟨_,_,rfl,rfl⟩ h3 [0])
 refine rFi [0,2,4,15] ?_
 refine jIf H (fun c2 H=>?_) fun c2 H=>?_
 ·refine T8 (Za [6] ?_)
  have h4:=h2.addNil 47 (.pair .str .str)
  cases H
  exact T7 (jR ⟨_,_,rfl,rfl⟩ h4 [0])
 refine T9 (T8 (T6 (rRL 2 0 h2 ?_)))
 refine cS H [] h2 rfl Q97.spec (gS [1]) fun r2 w3 H h5=>?_
 refine rFi [0,2,4,7] ?_
 refine T8 (Za [0,2,4,7,9] ?_)
 refine T8 (T8 (T6 (rRL 1 0 h5 ?_)))
 refine rFi [0,2,4,7,9,27] ?_
 refine jIf H (fun c3 H=>?_) fun c3 H=>?_
 ·refine T6 (rRL 2 0 h5 ?_)
  refine cS H [] h5 rfl Q97.spec (gS [1]) fun r3 w4 H h6=>?_
  refine rFi [0,2,7,9] ?_
  refine T8 (T6 (Ze 10 ?_))
  obtain ⟨⟨p1,p2,p3⟩,H⟩:=Zh H
  have e1:=h6.cap (Zg 1)
  refine Zj (J4 ((a0.drop (r2.1).toNat).take (((if (w64 (r2.1+(if (a0.length:Int)<a2 then (a0.length:Int) else a2)))<r3.1 then (w64 (r2.1+(if (a0.length:Int)<a2 then (a0.length:Int) else a2))) else r3.1)).toNat - (r2.1).toNat)) r2.1 (if (w64 (r2.1+(if (a0.length:Int)<a2 then (a0.length:Int) else a2)))<r3.1 then (w64 (r2.1+(if (a0.length:Int)<a2 then (a0.length:Int) else a2))) else r3.1) e1 p1 p2 p3) ?_
  refine cE H [] h6 rfl Q99.spec (Xl ((Gives.self 1 rfl).trans (Gj (.pair .str .str) ((a0.drop (r2.1).toNat).take (((if (w64 (r2.1+(if (a0.length:Int)<a2 then (a0.length:Int) else a2)))<r3.1 then (w64 (r2.1+(if (a0.length:Int)<a2 then (a0.length:Int) else a2))) else r3.1)).toNat - (r2.1).toNat)) r2.1 (if (w64 (r2.1+(if (a0.length:Int)<a2 then (a0.length:Int) else a2)))<r3.1 then (w64 (r2.1+(if (a0.length:Int)<a2 then (a0.length:Int) else a2))) else r3.1) p1 p2 p3)) Zm) ?_
  rintro r4 w5 _ _ H ⟨A2,c_2,rfl,rfl⟩ h7
  replace h7:=nf h7
  refine rFi [6] ?_
  cases H
  exact T7 (jR ⟨_,_,rfl,rfl⟩ h7 [0])
 refine T9 (T8 (T6 (Ze 10 ?_)))
 obtain ⟨⟨p4,p5,p6⟩,H⟩:=Zh H
 have e2:=h5.cap (Zg 1)
 refine Zj (J4 ((a0.drop (r2.1).toNat).take (((if (w64 (r2.1+(if (a0.length:Int)<a2 then (a0.length:Int) else a2)))<(a0.length:Int) then (w64 (r2.1+(if (a0.length:Int)<a2 then (a0.length:Int) else a2))) else (a0.length:Int))).toNat - (r2.1).toNat)) r2.1 (if (w64 (r2.1+(if (a0.length:Int)<a2 then (a0.length:Int) else a2)))<(a0.length:Int) then (w64 (r2.1+(if (a0.length:Int)<a2 then (a0.length:Int) else a2))) else (a0.length:Int)) e2 p4 p5 p6) ?_
 refine cE H [] h5 rfl Q99.spec (Xl ((Gives.self 1 rfl).trans (Gj (.pair .str .str) ((a0.drop (r2.1).toNat).take (((if (w64 (r2.1+(if (a0.length:Int)<a2 then (a0.length:Int) else a2)))<(a0.length:Int) then (w64 (r2.1+(if (a0.length:Int)<a2 then (a0.length:Int) else a2))) else (a0.length:Int))).toNat - (r2.1).toNat)) r2.1 (if (w64 (r2.1+(if (a0.length:Int)<a2 then (a0.length:Int) else a2)))<(a0.length:Int) then (w64 (r2.1+(if (a0.length:Int)<a2 then (a0.length:Int) else a2))) else (a0.length:Int)) p4 p5 p6)) Zm) ?_
 rintro r5 w6 _ _ H ⟨A3,c_3,rfl,rfl⟩ h8
 replace h8:=nf h8
 refine rFi [6] ?_
 cases H
 exact T7 (jR ⟨_,_,rfl,rfl⟩ h8 [0])

def Q108.f (a0:Tz) (a1:Int) (a2:Int):Option Tz:=
 if 0<=a1/\a1<=a2/\a2<=(a0.length:Int) then some (a0.take a1.toNat ++ a0.drop a2.toNat) else none
set_option maxRecDepth 20000 in
set_option maxHeartbeats 4000000 in
theorem Q108.spec {a0:Tz} {a1:Int} {a2:Int} {A1:Option Addr} {c_1:Nat} {r:Tz} (H:Q108.f a0 a1 a2=some r) :
  Spec prog 94 [.slice A1 a0.length c_1,.int .i64 a1,.int .i64 a2] [Yc 47 (.pair .str .str) a0 (.slice A1 a0.length c_1)] []
   (fun v l=>∃(A_0:Option Addr) (c_0:_),v=.slice A_0 r.length c_0/\l=[Yc 47 (.pair .str .str) r (.slice A_0 r.length c_0)]):=by
 refine Spec.enter Tryz.func94 rfl (by kernel_rfl) (by kernel_rfl) fun w0 F0 h0=>?_
 unfold Q108.f at H
 obtain ⟨⟨p0,p1,p2⟩,H⟩:=Zh H
 obtain rfl:=Option.some.inj H
 clear H
 obtain ⟨i,rfl⟩:=Int.eq_ofNat_of_zero_le p0
 obtain ⟨j,rfl⟩:=Int.eq_ofNat_of_zero_le (show 0<=a2 by omega)
 have hij:i<=j:=by omega
 have hj:j<=a0.length:=by omega
 have hc1:=h0.cap (Gives.of 0 rfl Ye)
 simp only [Int.toNat_natCast]
 refine T8 (T6 (Sg Z3 1 rfl ?_))
 refine Se [(0,.slice A1 a0.length c_1),(1,.int .i64 (i:Int)),(2,.int .i64 (j:Int))] rfl ?_
 refine T8 (T6 (Sg Z3 5 rfl ?_))
 refine RJ.q rfl rfl (Zsm (l:=(i:Int)) (h:=(j:Int)) (m:=(a0.length:Int)) Z3 rfl rfl rfl rfl hc1 rfl rfl rfl p0 p1 p2 (by omega)) ?_
 refine Se [(0,.slice A1 a0.length c_1),(1,.int .i64 (i:Int)),(2,.int .i64 (j:Int))] rfl ?_
 refine T8 (T8 (T6 (Sg Z3 3 rfl ?_)))
 refine Se [(0,.slice A1 a0.length c_1),(1,.int .i64 (i:Int)),(2,.int .i64 (j:Int)),(16,.bool (decide ((i:Int)=(j:Int))))] rfl ?_
 refine T1 rfl (fun c=>?_) (fun c=>?_)
 ·have e:i=j:=by have:=of_decide_eq_true c; omega
  refine T8 (T6 (Sg Z3 2 rfl ?_))
  refine Se [(6,.slice A1 a0.length c_1)] rfl ?_
  refine T7 ?_
  have e:a0.take i ++ a0.drop j=a0:=by rw [e,List.take_append_drop]
  rw [e]
  exact ⟨_,_,_,(Xs rfl),⟨_,_,rfl,rfl⟩,h0.only [0] rfl⟩
 ·refine T9 ?_
  have hlt:i<j:=by have:=of_decide_eq_false c; omega
  rcases h0.openRow (ty:=(.pair .str .str)) rfl 0 rfl with ⟨_,e,_⟩ | ⟨b,sp,rfl,hc,hcm,hsp,h1⟩
  ·rw [e] at hj; simp at hj; omega
  have hX:=Ys (ty:=(.pair .str .str)) rfl a0
  have nn:Ty.n (.pair .str .str)=2:=rfl
  have oX:=U2 (ty:=(.pair .str .str)) rfl a0
  have eT:(a0.flatMap (Ty.enc (.pair .str .str))).take (i*2)=(a0.take i).flatMap (Ty.enc (.pair .str .str)):=U3 (ty:=(.pair .str .str)) rfl a0 i
  have eD:(a0.flatMap (Ty.enc (.pair .str .str))).drop (j*2)=(a0.drop j).flatMap (Ty.enc (.pair .str .str)):=Bv (ty:=(.pair .str .str)) rfl a0 j
  have eR:(a0.take i ++ a0.drop j).flatMap (Ty.enc (.pair .str .str))=(a0.flatMap (Ty.enc (.pair .str .str))).take (i*2) ++ (a0.flatMap (Ty.enc (.pair .str .str))).drop (j*2):=by rw [eT,eD,List.flatMap_append]
  have lR:(a0.take i ++ a0.drop j).length=i+(a0.length - j):=by simp only [List.length_append,length_take,length_drop]; omega
  rw [nn] at hX hsp
  obtain ⟨X,hXe⟩:∃ X,X=a0.flatMap (Ty.enc (.pair .str .str)):=⟨_,rfl⟩
  rw [<- hXe] at hX eR h1 oX
  refine T8 (T6 (Sg Z3 3 rfl ?_))
  refine Se [(0,.slice (some ⟨b,0,none⟩) a0.length c_1),(1,.int .i64 (i:Int)),(2,.int .i64 (j:Int)),(7,.int .i64 (a0.length:Int))] rfl ?_
  obtain ⟨G,⟨hG,hh⟩,_⟩:=h1.own (k:=0) (c:=Ym b 47 (X ++ sp)) rfl
  have lXs:(X ++ sp).length=c_1*2:=by rw [List.length_append]; omega
  have lS:∀ w',w'.heap[b]?=some (.cells (X ++ sp).toArray 47 (0,0))->Lies w' (W1 (some ⟨b,0,none⟩) c_1 j 2) (X.drop (j*2)):=fun w' hw=>by
   have:=(Znb hw lXs (l:=j)).take ((a0.length - j)*2)
   rwa [List.drop_append_of_le_length (by omega),List.take_append_of_le_length (by rw [length_drop]; omega),List.take_of_length_le (by rw [length_drop]; omega)] at this
  refine T8 (J.heldSt mix (h1.only [] rfl) ?_)
  have h2:=h1.drew
  refine TZ Z3 rfl [0,1] rfl ?_
  refine HJ.q (i:=2) rfl rfl rfl rfl rfl rfl (Wz Z3 0 (i:Int) 0 i c_1 rfl rfl rfl rfl hc rfl ⟨_,rfl⟩ (Int.le_refl _) p0 (by omega) (by omega) (by show 0+0*2=0; omega) (by omega) (by omega)) ?_
  refine TZ Z3 rfl [3,4] rfl ?_
  refine HJ.q (i:=5) rfl rfl rfl rfl rfl rfl (Zcy (l:=(j:Int)) (h:=(a0.length:Int)) (sub:=a0.drop j) Z3 rfl rfl rfl rfl hc ⟨_,rfl⟩ rfl (by omega) p2 (Int.le_refl _) (by simpa using Yv a0 (j:Int))) ?_
  refine HJ.op (i:=6) rfl rfl rfl rfl rfl (Zjd Z3 (cs:=X.drop (j*2)) 0 rfl h2 rfl rfl rfl rfl rfl (by rw [length_drop]; omega) (by show (X.drop (j*2)).length=(a0.drop j).length*2; rw [length_drop,length_drop]; omega) (by show i*2+_<=_; rw [List.length_append,length_drop]; omega) (lS w0.drew hh) (fun u hu=>oX u (List.mem_of_mem_drop hu))) ?_
  rintro _ w3 ⟨rfl,h3⟩
  refine ⟨⟨[_],h3⟩,?_⟩
  replace h3:St w0 F0 (Ym b 47 (Zu (i*2) (X.drop (j*2)) (X ++ sp)) :: []) [] w3:=h3
  refine HJ.know (t:=26) (v:=.slice (some ⟨b,0,none⟩) (i+(a0.length - j)) c_1) rfl (by rw [length_drop]) ?_
  refine TZ Z3 rfl [7] rfl ?_
  refine HJ.fin [(0,.slice (some ⟨b,0,none⟩) (i+(a0.length - j)) c_1),(7,.int .i64 (a0.length:Int))] rfl rfl ?_
  refine T8 (T6 (Sg Z3 4 rfl ?_))
  refine RJ.q rfl rfl (Wz Z3 ((i+(a0.length - j):Nat):Int) (a0.length:Int) ((i+(a0.length - j))*2) (j - i) (c_1 - (i+(a0.length - j))) rfl rfl rfl rfl (by omega) ⟨_,rfl⟩ ⟨_,rfl⟩ (by omega) (by omega) (by omega) (by omega) (by show 0+((i+(a0.length - j):Nat):Int).toNat*2=_; omega) (by omega) (by omega)) ?_
  refine RJ.op rfl rfl (Zc3 Z3 (ty:=(.pair .str .str)) rfl (([]:List UInt8),([]:List UInt8)) 0 rfl h3 rfl rfl rfl rfl rfl (by omega) (by simp only [Zu,List.length_append,length_take,length_drop,nn]; omega)) ?_
  intro _ w4 h4
  refine Se [(0,.slice (some ⟨b,0,none⟩) (i+(a0.length - j)) c_1)] rfl ?_
  refine T8 (T6 (Sg Z3 2 rfl ?_))
  refine Se [(6,.slice (some ⟨b,0,none⟩) (i+(a0.length - j)) c_1)] rfl ?_
  refine T7 ?_
  have lZ:=Ys (ty:=(.pair .str .str)) rfl (List.replicate (j - i) (([]:List UInt8),([]:List UInt8)))
  rw [length_replicate,nn] at lZ
  have q:=Zn0 (X:=X) (sp:=sp) (Z:=(List.replicate (j - i) (([]:List UInt8),([]:List UInt8))).flatMap (Ty.enc (.pair .str .str))) (a:=i*2) (b:=j*2) (by omega) (by omega) (by omega)
  have e1:(i+(a0.length - j))*2=i*2+(X.length - j*2):=by omega
  rw [e1] at h4
  have h5:=h4.closeRow (ty:=(.pair .str .str)) (ys:=a0.take i ++ a0.drop j) (c:=c_1) rfl 0 rfl (by rw [lR]; omega) hcm (by rw [q.1,lXs,nn]) (by rw [eR,lR,nn,e1,q.2])
  exact ⟨_,_,_,(Xs rfl),⟨_,_,by rw [lR]; rfl,rfl⟩,h5.only [0] rfl⟩

theorem slices_Insert_api_Pair_api_Pair.ov:Ov prog 133 24:=Ov.of (rs:=Tryz.f133.resultTypes) Tryz.func133 (by kernel_rfl) (by kernel_rfl) (by kernel_rfl) (by kernel_rfl)
def Q115.f (a0:Tz) (a1:Int) (a2:Tz):Option Tz:=
 if 0<=a1/\a1<=(a0.length:Int) then (if (a0.length+a2.length)*32<=140737488355328 then some (a0.take a1.toNat ++ a2 ++ a0.drop a1.toNat) else none) else none
set_option maxRecDepth 20000 in
set_option maxHeartbeats 4000000 in
theorem Q115.spec {a0:Tz} {a1:Int} {a2:Tz} {A1:Option Addr} {c_1:Nat} {A2:Option Addr} {c_2:Nat} {r:Tz} (H:Q115.f a0 a1 a2=some r) :
  Spec prog 95 [.slice A1 a0.length c_1,.int .i64 a1,.slice A2 a2.length c_2] [Yc 47 (.pair .str .str) a0 (.slice A1 a0.length c_1)] [rdC 47 (.pair .str .str) a2 (.slice A2 a2.length c_2)]
   (fun v l=>∃(A_0:Option Addr) (c_0:_),v=.slice A_0 r.length c_0/\l=[Yc 47 (.pair .str .str) r (.slice A_0 r.length c_0)]):=by
 refine Spec.enter Tryz.func95 rfl (by kernel_rfl) (by kernel_rfl) fun w0 F0 h0=>?_
 unfold Q115.f at H
 obtain ⟨⟨p0,p1⟩,H⟩:=Zh H
 obtain ⟨p2,H⟩:=Zh H
 obtain rfl:=Option.some.inj H
 clear H
 obtain ⟨i,rfl⟩:=Int.eq_ofNat_of_zero_le p0
 have hi:i<=a0.length:=by omega
 have hc1:=h0.cap (Gives.of 0 rfl Ye)
 simp only [Int.toNat_natCast]
 refine T8 (T6 (Sg Z3 1 rfl ?_))
 refine Se [(0,.slice A1 a0.length c_1),(1,.int .i64 (i:Int)),(2,.slice A2 a2.length c_2)] rfl ?_
 refine T8 (T6 (Sg Z3 2 rfl ?_))
 refine RJ.q rfl rfl (Zcy (l:=(i:Int)) (h:=(a0.length:Int)) (sub:=a0.drop i) Z3 rfl rfl rfl rfl hc1 ⟨_,rfl⟩ rfl p0 p1 (Int.le_refl _) (by simpa using Yv a0 (i:Int))) ?_
 refine Se [(0,.slice A1 a0.length c_1),(1,.int .i64 (i:Int)),(2,.slice A2 a2.length c_2)] rfl ?_
 refine T8 (T6 (Sg Z3 3 rfl ?_))
 refine Se [(0,.slice A1 a0.length c_1),(1,.int .i64 (i:Int)),(2,.slice A2 a2.length c_2),(7,.int .i64 (a2.length:Int))] rfl ?_
 refine T8 (T8 (T6 (Sg Z3 2 rfl ?_)))
 refine Se [(0,.slice A1 a0.length c_1),(1,.int .i64 (i:Int)),(2,.slice A2 a2.length c_2),(7,.int .i64 (a2.length:Int)),(16,.bool (decide ((a2.length:Int)=0)))] rfl ?_
 refine T1 rfl (fun c=>?_) (fun c=>?_)
 ·have hz:a2=[]:=List.eq_nil_of_length_eq_zero (by have:=of_decide_eq_true c; omega)
  subst hz
  refine T8 (T6 (Sg Z3 2 rfl ?_))
  refine Se [(6,.slice A1 a0.length c_1)] rfl ?_
  refine T7 ?_
  have e:a0.take i ++ [] ++ a0.drop i=a0:=by simp
  rw [e]
  exact ⟨_,_,_,(Xs rfl),⟨_,_,rfl,rfl⟩,h0.only [0] rfl⟩
 ·refine T9 ?_
  have hm:a2.length≠0:=by have:=of_decide_eq_false c; omega
  refine T8 (T6 (Sg Z3 3 rfl ?_))
  refine Se [(0,.slice A1 a0.length c_1),(1,.int .i64 (i:Int)),(2,.slice A2 a2.length c_2),(7,.int .i64 (a2.length:Int)),(8,.int .i64 (a0.length:Int))] rfl ?_
  refine T8 (T8 (T6 (Sg Z3 3 rfl ?_)))
  refine Se [(0,.slice A1 a0.length c_1),(1,.int .i64 (i:Int)),(2,.slice A2 a2.length c_2),(7,.int .i64 (a2.length:Int)),(8,.int .i64 (a0.length:Int)),(22,.bool (decide ((i:Int)=(a0.length:Int))))] rfl ?_
  refine T1 rfl (fun c=>?_) (fun c=>?_)
  ·have hie:i=a0.length:=by have:=of_decide_eq_true c; omega
   refine T8 (T6 (Sg Z3 2 rfl ?_))
   refine RJ.op rfl rfl (Zgp Z3 (ty:=(.pair .str .str)) rfl 0 rfl h0 rfl (Gives.self 0 rfl) rfl rfl rfl rfl rfl rfl (by decide) (by decide) p2) ?_
   rintro _ w1 ⟨A,c_3,rfl,h1⟩
   refine Sg Z3 1 rfl ?_
   refine Se [(6,.slice A (a0 ++ a2).length c_3)] rfl ?_
   refine T7 ?_
   have e:a0.take i ++ a2 ++ a0.drop i=a0 ++ a2:=by rw [hie]; simp
   rw [e]
   exact ⟨_,_,_,(Xs rfl),⟨_,_,rfl,rfl⟩,h1.only [0] rfl⟩
  ·refine T9 ?_
   have hlt:i<a0.length:=by have:=of_decide_eq_false c; omega
   have w1:w64 ((a0.length:Int)+(a2.length:Int))=((a0.length+a2.length:Nat):Int):=by rw [V4 (by omega) (by omega)]; omega
   have wim:w64 ((i:Int)+(a2.length:Int))=((i+a2.length:Nat):Int):=by rw [V4 (by omega) (by omega)]; omega
   rcases h0.openRow (ty:=(.pair .str .str)) rfl 0 rfl with ⟨_,e,_⟩ | ⟨b,sp,rfl,hc,hcm,hsp,h1⟩
   ·rw [e] at hlt; cases hlt
   have hX:=Ys (ty:=(.pair .str .str)) rfl a0
   have hY:=Ys (ty:=(.pair .str .str)) rfl a2
   have nn:Ty.n (.pair .str .str)=2:=rfl
   have oX:=U2 (ty:=(.pair .str .str)) rfl a0
   have oY:=U2 (ty:=(.pair .str .str)) rfl a2
   have eT:(a0.flatMap (Ty.enc (.pair .str .str))).take (i*2)=(a0.take i).flatMap (Ty.enc (.pair .str .str)):=U3 (ty:=(.pair .str .str)) rfl a0 i
   have eD:(a0.flatMap (Ty.enc (.pair .str .str))).drop (i*2)=(a0.drop i).flatMap (Ty.enc (.pair .str .str)):=Bv (ty:=(.pair .str .str)) rfl a0 i
   have eR:(a0.take i ++ a2 ++ a0.drop i).flatMap (Ty.enc (.pair .str .str))=(a0.flatMap (Ty.enc (.pair .str .str))).take (i*2) ++ a2.flatMap (Ty.enc (.pair .str .str)) ++ (a0.flatMap (Ty.enc (.pair .str .str))).drop (i*2):=by rw [eT,eD,List.flatMap_append,List.flatMap_append]
   have lR:(a0.take i ++ a2 ++ a0.drop i).length=a0.length+a2.length:=by simp only [List.length_append,length_take,length_drop]; omega
   rw [nn] at hX hY hsp
   obtain ⟨X,hXe⟩:∃ X,X=a0.flatMap (Ty.enc (.pair .str .str)):=⟨_,rfl⟩
   obtain ⟨Y,hYe⟩:∃ Y,Y=a2.flatMap (Ty.enc (.pair .str .str)):=⟨_,rfl⟩
   rw [<- hXe] at hX eR h1 oX
   rw [<- hYe] at hY eR oY
   refine T8 (T8 (T6 (Sg Z3 3 rfl ?_)))
   refine Sf (t:=28) rfl (congrArg (Value.int .i64) w1) ?_
   refine Sg Z3 3 rfl ?_
   refine Se [(0,.slice (some ⟨b,0,none⟩) a0.length c_1),(1,.int .i64 (i:Int)),(2,.slice A2 a2.length c_2),(7,.int .i64 (a2.length:Int)),(8,.int .i64 (a0.length:Int)),(31,.bool (decide ((c_1:Int)<((a0.length+a2.length:Nat):Int))))] rfl ?_
   refine T1 rfl (fun c=>?_) (fun c=>?_)
   ·-- a new row
    have hgr:=of_decide_eq_true c
    have w2:w64 (((a0.length+a2.length:Nat):Int) - (i:Int))=((a0.length+a2.length - i:Nat):Int):=by rw [V4 (by omega) (by omega)]; omega
    refine T8 (T6 (Sg Z3 2 rfl ?_))
    refine RJ.q rfl rfl (Wz Z3 0 (i:Int) (0) (i) (c_1) rfl rfl rfl rfl hc rfl ⟨_,rfl⟩ (Int.le_refl _) p0 (by omega) (by omega) (by show 0+0*2=0; omega) (by omega) (by omega)) ?_
    refine Sg Z3 3 rfl ?_
    refine Sf (t:=37) rfl (congrArg (Value.int .i64) w1) ?_
    refine Sg Z3 2 rfl ?_
    refine Sf (t:=39) rfl (congrArg (Value.int .i64) w2) ?_
    refine RJ.op rfl rfl (Zk5 Z3 0 rfl h1 rfl rfl rfl rfl rfl rfl rfl (by decide) (by decide) (by omega) (by omega) (by rw [List.length_append]; show i*2<=_; omega) (by show ((i:Int)+_)*(32:Nat)<=_; omega)) ?_
    rintro _ w2' ⟨b2,cap,tail,rfl,hcap,hcap2,htail,h2⟩
    rw [Int.toNat_natCast] at hcap
    replace hcap:a0.length+a2.length<=cap:=by omega
    replace htail:tail.length=(cap - i)*2:=htail
    refine Sf (t:=40) (v:=.slice (some ⟨b2,0,none⟩) (a0.length+a2.length) cap) rfl (by rw [Int.toNat_natCast]; congr 1; omega) ?_
    have eX:(X ++ sp).take (i*2)=X.take (i*2):=List.take_append_of_le_length (by omega)
    have lX:(X.take (i*2)).length=i*2:=by rw [length_take]; omega
    replace h2:St w0 F0 (Ym b2 47 (X.take (i*2) ++ tail) :: [Ym b 47 (X ++ sp)]) [rdC 47 (.pair .str .str) a2 (.slice A2 a2.length c_2)] w2':=by rw [<- eX]; exact h2
    obtain ⟨R,hR,_⟩:=h2.gives (c:=rdC 47 (.pair .str .str) a2 (.slice A2 a2.length c_2)) (Gives.self 2 rfl)
    have lY:=(Zan (ty:=(.pair .str .str)) rfl hR).2.1
    rw [<- hYe] at lY
    refine Sg Z3 1 rfl ?_
    refine Se [(0,.slice (some ⟨b,0,none⟩) a0.length c_1),(1,.int .i64 (i:Int)),(2,.slice A2 a2.length c_2),(7,.int .i64 (a2.length:Int)),(9,.slice (some ⟨b2,0,none⟩) (a0.length+a2.length) cap)] rfl ?_
    refine T8 (T6 (Sg Z3 2 rfl ?_))
    refine RJ.q rfl rfl (Wz Z3 (i:Int) ((a0.length+a2.length:Nat):Int) (i*2) (a0.length+a2.length - i) (cap - i) rfl rfl rfl rfl hcap ⟨_,rfl⟩ rfl p0 (by omega) (by omega) (by omega) (by show 0+(i:Int).toNat*2=i*2; omega) (by omega) (by omega)) ?_
    refine Sg Z3 1 rfl ?_
    refine RJ.op rfl rfl (Jc Z3 (cs:=Y) 0 rfl h2 rfl rfl rfl rfl rfl (by show Y.length=min a2.length (a0.length+a2.length - i)*2; rw [Nat.min_eq_left (by omega)]; exact hY) (by rw [List.length_append]; omega) lY oY) ?_
    intro _ w3 h3
    refine Se [(0,.slice (some ⟨b,0,none⟩) a0.length c_1),(1,.int .i64 (i:Int)),(7,.int .i64 (a2.length:Int)),(9,.slice (some ⟨b2,0,none⟩) (a0.length+a2.length) cap)] rfl ?_
    obtain ⟨G,⟨hG,hh⟩,_⟩:=h3.own (k:=1) (c:=Ym b 47 (X ++ sp)) rfl
    have l3:(Zu (i*2) Y (X.take (i*2) ++ tail)).length=cap*2:=by simp only [Zu,List.length_append,length_take,length_drop]; omega
    refine T8 (J.heldSt mix (h3.only [] rfl) ?_)
    have h3:=h3.drew
    have lS:∀ w',w'.heap[b]?=some (.cells (X ++ sp).toArray 47 (0,0))->Lies w' (some ⟨b,i*2,none⟩) (X.drop (i*2)):=fun w' hw=>by
     have:=(Zas hw (i*2)).take ((a0.length - i)*2)
     rwa [List.drop_append_of_le_length (by omega),List.take_append_of_le_length (by rw [length_drop]; omega),List.take_of_length_le (by rw [length_drop]; omega)] at this
    refine TZ Z3 rfl [0,1,2,3] rfl ?_
    refine HJ.know (t:=49) rfl (congrArg (Value.int .i64) wim) ?_
    refine HJ.q (i:=4) rfl rfl rfl rfl rfl rfl (Wz Z3 ((i+a2.length:Nat):Int) ((a0.length+a2.length:Nat):Int) ((i+a2.length)*2) (a0.length - i) (cap - (i+a2.length)) rfl rfl rfl rfl hcap ⟨_,rfl⟩ rfl (by omega) (by omega) (by omega) (by omega) (by show 0+((i+a2.length:Nat):Int).toNat*2=(i+a2.length)*2; omega) (by omega) (by omega)) ?_
    refine TZ Z3 rfl [5,6] rfl ?_
    refine HJ.q (i:=7) rfl rfl rfl rfl rfl rfl (Wz Z3 (i:Int) (a0.length:Int) (i*2) (a0.length - i) (c_1 - i) rfl rfl rfl rfl hc ⟨_,rfl⟩ rfl p0 p1 (by omega) (by omega) (by show 0+(i:Int).toNat*2=i*2; omega) (by omega) (by omega)) ?_
    refine HJ.op (i:=8) rfl rfl rfl rfl rfl (Jc Z3 (cs:=X.drop (i*2)) 0 rfl h3 rfl rfl rfl rfl rfl (by show (X.drop (i*2)).length=min (a0.length - i) (a0.length - i)*2; rw [length_drop,Nat.min_self]; omega) (by rw [l3,length_drop]; omega) (lS _ hh) (fun u hu=>oX u (List.mem_of_mem_drop hu))) ?_
    intro _ w4 h4
    refine ⟨⟨[_,_],h4⟩,?_⟩
    refine HJ.fin [(9,.slice (some ⟨b2,0,none⟩) (a0.length+a2.length) cap)] rfl rfl ?_
    refine T8 (T6 (Sg Z3 2 rfl ?_))
    refine Se [(6,.slice (some ⟨b2,0,none⟩) (a0.length+a2.length) cap)] rfl ?_
    refine T7 ?_
    have q:=Zoy (X:=X) (Y:=Y) (tail:=tail) (a:=i*2) (by omega) (by omega)
    have e1:(i+a2.length)*2=i*2+Y.length:=by omega
    rw [e1] at h4
    have h5:=h4.closeRow (ty:=(.pair .str .str)) (ys:=a0.take i ++ a2 ++ a0.drop i) (c:=cap) rfl 0 rfl (by rw [lR]; exact hcap) hcap2 (by rw [q.1,List.length_append,lX,nn]; omega) (by rw [eR,lR,nn,<- q.2]; congr 1; omega)
    exact ⟨_,_,_,(Xs rfl),⟨_,_,by rw [lR]; rfl,rfl⟩,h5.only [0] rfl⟩
   ·-- in place
    have hroom:a0.length+a2.length<=c_1:=by have:=of_decide_eq_false c; omega
    refine T9 (T8 (T6 (Sg Z3 4 rfl ?_)))
    refine Sf (t:=59) rfl (congrArg (Value.int .i64) w1) ?_
    refine RJ.q rfl rfl (Wz Z3 0 ((a0.length+a2.length:Nat):Int) (0) (a0.length+a2.length) (c_1) rfl rfl rfl rfl hc rfl ⟨_,rfl⟩ (Int.le_refl _) (by omega) (by omega) (by omega) (by show 0+0*2=0; omega) (by omega) (by omega)) ?_
    refine Sg Z3 1 rfl ?_
    refine Se [(0,.slice (some ⟨b,0,none⟩) (a0.length+a2.length) c_1),(1,.int .i64 (i:Int)),(2,.slice A2 a2.length c_2),(7,.int .i64 (a2.length:Int)),(8,.int .i64 (a0.length:Int))] rfl ?_
    refine T8 (T8 (T6 (Sg Z3 4 rfl ?_)))
    refine Sg Z3 1 rfl ?_
    refine Sf (t:=65) rfl (congrArg (Value.int .i64) wim) ?_
    refine RJ.q rfl rfl (Wz Z3 ((i+a2.length:Nat):Int) ((a0.length+a2.length:Nat):Int) ((i+a2.length)*2) (a0.length - i) (c_1 - (i+a2.length)) rfl rfl rfl rfl hroom ⟨_,rfl⟩ rfl (by omega) (by omega) (by omega) (by omega) (by show 0+((i+a2.length:Nat):Int).toNat*2=(i+a2.length)*2; omega) (by omega) (by omega)) ?_
    refine RJ.q rfl rfl (Zlm Z3 (ty:=(.pair .str .str)) (ys:=a2) rfl 0 slices_Insert_api_Pair_api_Pair.ov rfl rfl rfl h1 rfl (Gives.self 0 rfl) rfl rfl (by decide)) ?_
    refine Sg Z3 1 rfl ?_
    refine Se [(0,.slice (some ⟨b,0,none⟩) (a0.length+a2.length) c_1),(1,.int .i64 (i:Int)),(2,.slice A2 a2.length c_2),(7,.int .i64 (a2.length:Int)),(8,.int .i64 (a0.length:Int)),(68,.bool true)] rfl ?_
    refine J.condT rfl ?_
    obtain ⟨G,⟨hG,hh⟩,_⟩:=h1.own (k:=0) (c:=Ym b 47 (X ++ sp)) rfl
    have lS:∀ w',w'.heap[b]?=some (.cells (X ++ sp).toArray 47 (0,0))->Lies w' (some ⟨b,i*2,none⟩) (X.drop (i*2)):=fun w' hw=>by
     have:=(Zas hw (i*2)).take ((a0.length - i)*2)
     rwa [List.drop_append_of_le_length (by omega),List.take_append_of_le_length (by rw [length_drop]; omega),List.take_of_length_le (by rw [length_drop]; omega)] at this
    refine T8 (J.heldSt mix (h1.only [] rfl) ?_)
    have h2:=h1.drew
    refine TZ Z3 rfl [0,1,2,3] rfl ?_
    refine HJ.know (t:=72) rfl (congrArg (Value.int .i64) wim) ?_
    refine HJ.q (i:=4) rfl rfl rfl rfl rfl rfl (Wz Z3 ((i+a2.length:Nat):Int) ((a0.length+a2.length:Nat):Int) ((i+a2.length)*2) (a0.length - i) (c_1 - (i+a2.length)) rfl rfl rfl rfl hroom ⟨_,rfl⟩ rfl (by omega) (by omega) (by omega) (by omega) (by show 0+((i+a2.length:Nat):Int).toNat*2=(i+a2.length)*2; omega) (by omega) (by omega)) ?_
    refine TZ Z3 rfl [5,6] rfl ?_
    refine HJ.q (i:=7) rfl rfl rfl rfl rfl rfl (Wz Z3 (i:Int) ((a0.length+a2.length:Nat):Int) (i*2) (a0.length+a2.length - i) (c_1 - i) rfl rfl rfl rfl hroom ⟨_,rfl⟩ rfl p0 (by omega) (by omega) (by omega) (by show 0+(i:Int).toNat*2=i*2; omega) (by omega) (by omega)) ?_
    refine HJ.op (i:=8) rfl rfl rfl rfl rfl (Jc Z3 (cs:=X.drop (i*2)) 0 rfl h2 rfl rfl rfl rfl rfl (by show (X.drop (i*2)).length=min (a0.length+a2.length - i) (a0.length - i)*2; rw [length_drop,Nat.min_eq_right (by omega)]; omega) (by rw [List.length_append,length_drop]; omega) (lS _ hh) (fun u hu=>oX u (List.mem_of_mem_drop hu))) ?_
    intro _ w3 h3
    refine ⟨⟨[_],h3⟩,?_⟩
    refine HJ.fin [(0,.slice (some ⟨b,0,none⟩) (a0.length+a2.length) c_1),(1,.int .i64 (i:Int)),(2,.slice A2 a2.length c_2)] rfl rfl ?_
    obtain ⟨R,hR,_⟩:=h3.gives (c:=rdC 47 (.pair .str .str) a2 (.slice A2 a2.length c_2)) (Gives.self 1 rfl)
    have lY:=(Zan (ty:=(.pair .str .str)) rfl hR).2.1
    rw [<- hYe] at lY
    have q:=Zn9 (X:=X) (Y:=Y) (sp:=sp) (a:=i*2) (by omega) (by omega)
    have e1:(i+a2.length)*2=i*2+Y.length:=by omega
    rw [e1] at h3
    refine T8 (T6 (Sg Z3 2 rfl ?_))
    refine RJ.q rfl rfl (Wz Z3 (i:Int) ((a0.length+a2.length:Nat):Int) (i*2) (a0.length+a2.length - i) (c_1 - i) rfl rfl rfl rfl hroom ⟨_,rfl⟩ rfl p0 (by omega) (by omega) (by omega) (by show 0+(i:Int).toNat*2=i*2; omega) (by omega) (by omega)) ?_
    refine Sg Z3 1 rfl ?_
    refine RJ.op rfl rfl (Jc Z3 (cs:=Y) 0 rfl h3 rfl rfl rfl rfl rfl (by show Y.length=min a2.length (a0.length+a2.length - i)*2; rw [Nat.min_eq_left (by omega)]; exact hY) (by simp only [Zu,List.length_append,length_take,length_drop]; omega) lY oY) ?_
    intro _ w4 h4
    refine Se [(0,.slice (some ⟨b,0,none⟩) (a0.length+a2.length) c_1)] rfl ?_
    refine T8 (T6 (Sg Z3 2 rfl ?_))
    refine Se [(6,.slice (some ⟨b,0,none⟩) (a0.length+a2.length) c_1)] rfl ?_
    refine T7 ?_
    have h5:=h4.closeRow (ty:=(.pair .str .str)) (ys:=a0.take i ++ a2 ++ a0.drop i) (c:=c_1) rfl 0 rfl (by rw [lR]; exact hroom) hcm (by rw [q.1,List.length_append,nn]; omega) (by rw [eR,lR,nn,<- q.2]; congr 1; omega)
    exact ⟨_,_,_,(Xs rfl),⟨_,_,by rw [lR]; rfl,rfl⟩,h5.only [0] rfl⟩

def Q63.l0:Nat->Tu->Tz->(Int)->Option Tx
 | 0,_,_,_=>none
 | k+1,a1,x1,x2=>if (decide (x2<(a1.length:Int)))=true then (if 0<=x2/\x2<(a1.length:Int) then ((Q97.f k x1 ((gt a1 x2).1)).bind fun r2=>(if r2.2=true then (if (gt a1 x2).2.1=true then ((Q108.f x1 r2.1 (w64 (r2.1+1))).bind fun r3=>(Q63.l0 k a1 r3 (w64 (x2+1)))) else (if 0<=r2.1/\r2.1<(x1.length:Int) then (Q63.l0 k a1 (x1.set r2.1.toNat ((gt x1 r2.1).1,(gt a1 x2).2.2)) (w64 (x2+1))) else none)) else (if (!((gt a1 x2).2.1))=true then ((Q115.f x1 r2.1 [((gt a1 x2).1,(gt a1 x2).2.2)]).bind fun r4=>(Q63.l0 k a1 r4 (w64 (x2+1)))) else (Q63.l0 k a1 x1 (w64 (x2+1)))))) else none) else (some x1)
def Q63.f (k:Nat) (a0:Tz) (a1:Tu):Option Tx:=(Q99.f a0).bind fun r1=>(Q63.l0 k a1 r1 0)
theorem Q63.spec {k a0 a1 A1 c_1 A2 c_2 r} (H:Q63.f k a0 a1=some r) :
  Spec prog 48 [.slice A1 a0.length c_1,.slice A2 a1.length c_2] [] [R47 a0 A1 c_1,R69 a1 A2 c_2] (fun v l=>∃ A_0 c_0,v=.slice A_0 r.length c_0/\l=[O47 r A_0 c_0]):=by
 refine Zf Tryz.func48 fun w0 F0 h0=>?_
 unfold Q63.f at H
 refine T8 (Za [0,1] ?_)
 refine T8 (T6 (Ze 1 ?_))
 refine cE H [] h0 rfl Q99.spec (gS [0]) ?_
 rintro r1 w1 _ _ H ⟨A3,c_3,rfl,rfl⟩ h1
 replace h1:=nf h1
 refine rFi [1,5] ?_
 refine T8 (T8 (Za [5,12,13,14] ?_))
 refine T0 ?_
 have h15:=(sOR h1 [0] [1])
 refine T4 (fun kk env w=>∃ x1 A4 c_4 x2,Q63.l0 kk a1 x1 x2=some r/\env=[(5,.slice A4 x1.length c_4),(12,.slice A2 a1.length c_2),(13,.int .i64 (a1.length:Int)),(14,.int .i64 x2)]/\St w0 F0 [O47 x1 A4 c_4] [R69 a1 A2 c_2] w) (k:=k) ⟨_,_,_,_,H,rfl,h15⟩ ?_
 rintro k1 env w2 ⟨x1,A4,c_4,x2,H,rfl,h2⟩
 rcases k1 with _ | k1
 ·exact z0 H
 rw [Q63.l0] at H
 refine T8 (Za [5,12,13,14,15] ?_)
 refine T8 (jIf H (fun c1 H=>?_) fun c1 H=>?_)
 ·refine T9 (T8 (T0 (T8 (T6 ?_))))
  obtain ⟨⟨p1,p2⟩,H⟩:=Zh H
  have e1:=Zy h2.wh (Zg 1) p1 p2
  refine Zj (Zc e1 p1 p2) ?_
  refine Zj (Zd 0 h2.wht (Zg 1) p1 p2) ?_
  refine rB (Yp h2) fun b1 w3 h3=>?_
  refine rS (Zt 0 h3) fun _ w4 h4=>?_
  refine rFi [5,7,12,13,14] ?_
  refine T8 (T6 (rRL 2 0 h4 ?_))
  refine cS H [] h4 rfl Q97.spec (Xl (gO 1) Zm) fun r2 w5 H h5=>?_
  refine rFi [5,7,8,9,12,13,14] ?_
  refine T0 (T8 (T6 (Ze 2 ?_)))
  refine Z7 27 H (fun c2 H=>?_) fun c2 H=>?_
  ·refine rRL 1 0 h5 ?_
   refine rFi [5,7,8,9,12,13,14,25] ?_
   refine jIf H (fun c3 H=>?_) fun c3 H=>?_
   ·refine T6 (Ze 4 ?_)
    refine cE H [1] h5 rfl Q108.spec Zm ?_
    rintro r3 w6 _ _ H ⟨A5,c_5,rfl,rfl⟩ h6
    replace h6:=nf h6
    refine rFi [5,12,13,14] ?_
    refine Za [5,12,13,14] ?_
    have h7:=(sOR h6 [0] [0])
    exact ⟨k1,by omega,_,_,_,_,H,rfl,h7⟩
   refine T8 (Za [5,7,8,12,13,14,36] ?_)
   refine T1 rfl (fun e=>?_) (fun e=>by rw [c2] at e; cases e)
   refine T6 (rRL 3 0 h5 ?_)
   obtain ⟨⟨p3,p4⟩,H⟩:=Zh H
   have e2:=Zy h5.wh (gO 1) p3 p4
   refine Zj (Zc e2 p3 p4) ?_
   refine Ze 1 ?_
   refine rS (Zn 1 (.pair .str .str) r2.1 ((gt x1 r2.1).1,(gt a1 x2).2.2) 1 h5 rfl p3 p4) fun _ w7 h8=>?_
   refine rFi [5,12,13,14] ?_
   refine T2 (env':=[(5,.slice A4 (x1.set r2.1.toNat ((gt x1 r2.1).1,(gt a1 x2).2.2)).length c_4),(12,.slice A2 a1.length c_2),(13,.int .i64 (a1.length:Int)),(14,.int .i64 x2)]) (by simp only [length_set,length_nil] <;> rfl) ?_
   refine Za [5,12,13,14] ?_
   have h9:=(sOR h8 [0] [0])
   exact ⟨k1,by omega,_,_,_,_,H,rfl,h9⟩
  refine rFi [5,7,8,9,12,13,14,25] ?_
  refine Z1 ?_
  refine T8 (Za [5,7,8,12,13,14,36] ?_)
  refine T1 rfl (fun e=>by rw [c2] at e; cases e) (fun e=>?_)
  refine T8 (T6 (rRL 1 0 h5 ?_))
  refine rFi [5,7,8,12,13,14,44] ?_
  refine jIf H (fun c4 H=>?_) fun c4 H=>?_
  ·refine T6 (rRL 3 0 h5 ?_)
   refine rRL 1 0 h5 ?_
   refine Ze 1 ?_
   refine rB (Zx (.pair .str .str) [((gt a1 x2).1,(gt a1 x2).2.2)] h5) fun b2 w8 h10=>?_
   refine cE H [2] h10 rfl Q115.spec (Xl (gO 0) Zm) ?_
   rintro r4 w9 _ _ H ⟨A6,c_6,rfl,rfl⟩ h11
   replace h11:=nf h11
   refine rFi [5,12,13,14] ?_
   have h12:=sO h11 [0]
   replace h12:=nf h12
   refine Za [5,12,13,14] ?_
   have h13:=(sOR h12 [0] [0])
   exact ⟨k1,by omega,_,_,_,_,H,rfl,h13⟩
  refine T9 (Za [5,12,13,14] ?_)
  have h14:=(sOR h5 [1] [0])
  exact ⟨k1,by omega,_,_,_,_,H,rfl,h14⟩
 refine T3 (T8 (Za [4] ?_))
 cases H
 exact T7 (jR ⟨_,_,rfl,rfl⟩ h2 [0])

def Q15.f (a0:TB) (a1:TR):Option (Int):=(Q68.f a0.1 a1).bind fun r1=>(some r1)
theorem Q15.spec {a0 a1 r} (H:Q15.f a0 a1=some r) :
  Spec prog 137 [.agg #[.string ⟨⟨a0.1⟩⟩,.bool a0.2.1,.string ⟨⟨a0.2.2⟩⟩],.string ⟨⟨a1⟩⟩] [] [] (fun v l=>v=.int .i64 r/\l=[]):=by
 refine Zf Tryz.func137 fun w0 F0 h0=>?_
 unfold Q15.f at H
 refine T8 (T6 (rB (Z5 h0) fun b1 w1 h1=>?_))
 refine rFi [1,2] ?_
 refine T8 (T6 (rRL 1 0 h1 ?_))
 refine Ze 1 ?_
 refine cS H [] h1 rfl Q68.spec Zm fun r1 w2 H h2=>?_
 refine rFi [4] ?_
 cases H
 exact T7 (jR0 h2 [])

def Q96.l0:Nat->Tu->TR->(Int)->(Int)->Option TU
 | 0,_,_,_,_=>none
 | k+1,a0,a1,x1,x2=>if (decide (x1<x2))=true then (if 0<=(w64 ((Int.fdiv (uH.wrap ((w64 (x1+x2)))) (2 ^ 1))))/\(w64 ((Int.fdiv (uH.wrap ((w64 (x1+x2)))) (2 ^ 1))))<(a0.length:Int) then ((Q15.f (gt a0 (w64 ((Int.fdiv (uH.wrap ((w64 (x1+x2)))) (2 ^ 1))))) a1).bind fun r1=>(if (decide (r1<0))=true then (Q96.l0 k a0 a1 (w64 ((w64 ((Int.fdiv (uH.wrap ((w64 (x1+x2)))) (2 ^ 1))))+1)) x2) else (Q96.l0 k a0 a1 x1 (w64 ((Int.fdiv (uH.wrap ((w64 (x1+x2)))) (2 ^ 1))))))) else none) else (if (decide (x1<(a0.length:Int)))=true then (if 0<=x1/\x1<(a0.length:Int) then ((Q15.f (gt a0 x1) a1).bind fun r2=>(some (x1,(decide (r2=0))))) else none) else (some (x1,false)))
def Q96.f (k:Nat) (a0:Tu) (a1:TR):Option TU:=Q96.l0 k a0 a1 0 (a0.length:Int)
theorem Q96.spec {k a0 a1 A1 c_1 r} (H:Q96.f k a0 a1=some r) :
  Spec prog 136 [.slice A1 a0.length c_1,.string ⟨⟨a1⟩⟩,.func (.func 137) #[] #[]] [] [R69 a0 A1 c_1] (fun v l=>v=.tuple #[.int .i64 r.1,.bool r.2]/\l=[]):=by
 refine Zf Tryz.func136 fun w0 F0 h0=>?_
 unfold Q96.f at H
 refine T8 (Za [0,1,2] ?_)
 refine T8 (Za [0,1,2,8] ?_)
 refine T8 (Za [0,1,2,8,9,10] ?_)
 refine T8 (T0 ?_)
 have h6:=(sOR h0 [] [0])
 refine T4 (fun kk env w=>∃ x1 x2,Q96.l0 kk a0 a1 x1 x2=some r/\env=[(0,.slice A1 a0.length c_1),(1,.string ⟨⟨a1⟩⟩),(2,.func (.func 137) #[] #[]),(8,.int .i64 (a0.length:Int)),(9,.int .i64 x1),(10,.int .i64 x2)]/\St w0 F0 [] [R69 a0 A1 c_1] w) (k:=k) ⟨_,_,H,rfl,h6⟩ ?_
 rintro k1 env w1 ⟨x1,x2,H,rfl,h1⟩
 rcases k1 with _ | k1
 ·exact z0 H
 rw [Q96.l0] at H
 refine T8 (T8 (Za [0,1,2,8,9,10,17] ?_))
 refine jIf H (fun c1 H=>?_) fun c1 H=>?_
 ·refine T9 (T0 (T8 (Za [0,1,2,8,9,10,11] ?_)))
  refine T8 (T6 (Ze 3 ?_))
  obtain ⟨⟨p1,p2⟩,H⟩:=Zh H
  have e1:=Zy h1.wh (Zg 0) p1 p2
  refine Zj (Zc e1 p1 p2) ?_
  refine Zj (Zd 0 h1.wht (Zg 0) p1 p2) ?_
  refine Ze 1 ?_
  refine cS H [] h1 rfl Q15.spec Zm fun r1 w2 H h2=>?_
  refine rFi [0,1,2,8,9,10,11,31] ?_
  refine jIf H (fun c2 H=>?_) fun c2 H=>?_
  ·refine Za [0,1,2,8,9,10] ?_
   have h3:=(sOR h2 [] [0])
   exact ⟨k1,by omega,_,_,H,rfl,h3⟩
  refine Za [0,1,2,8,9,10] ?_
  have h4:=(sOR h2 [] [0])
  exact ⟨k1,by omega,_,_,H,rfl,h4⟩
 refine T3 (T8 (T6 (Ze 5 ?_)))
 refine Z7 39 H (fun c3 H=>?_) fun c3 H=>?_
 ·refine Ze 3 ?_
  obtain ⟨⟨p3,p4⟩,H⟩:=Zh H
  have e2:=Zy h1.wh (Zg 0) p3 p4
  refine Zj (Zc e2 p3 p4) ?_
  refine Zj (Zd 0 h1.wht (Zg 0) p3 p4) ?_
  refine Ze 1 ?_
  refine cS H [] h1 rfl Q15.spec Zm fun r2 w3 H h5=>?_
  refine rFi [6,7] ?_
  cases H
  exact T7 (jR0 h5 [])
 refine rFi [6,7] ?_
 cases H
 exact T7 (jR0 h1 [])

def Q16.f (k:Nat) (a0:Tu) (a1:TA):Option TV:=(Q69.f a1).bind fun r1=>(if r1=true then (some (0,0)) else ((Q96.f k a0 a1.1).bind fun r2=>(if (!a1.2.2)=true then ((Q96.f k a0 a1.2.1).bind fun r3=>(some (r2.1,r3.1))) else (some (r2.1,(a0.length:Int))))))
theorem Q16.spec {k a0 a1 A1 c_1 r} (H:Q16.f k a0 a1=some r) :
  Spec prog 97 [.slice A1 a0.length c_1,.agg #[.string ⟨⟨a1.1⟩⟩,.string ⟨⟨a1.2.1⟩⟩,.bool a1.2.2]] [] [R69 a0 A1 c_1] (fun v l=>v=.tuple #[.int .i64 r.1,.int .i64 r.2]/\l=[]):=by
 refine Zf Tryz.func97 fun w0 F0 h0=>?_
 unfold Q16.f at H
 refine T8 (T6 (rB (Z5 h0) fun b1 w1 h1=>?_))
 refine rFi [0,3] ?_
 refine T8 (T8 (T6 (rLo 0 h1 ?_)))
 refine cS H [] h1 rfl Q69.spec Zm fun r1 w2 H h2=>?_
 refine rFi [0,3,10] ?_
 refine jIf H (fun c1 H=>?_) fun c1 H=>?_
 ·refine T8 (Za [4,5] ?_)
  cases H
  exact T7 (jR0 h2 [])
 refine T9 (T8 (T6 (rRL 2 0 h2 ?_)))
 refine cS H [] h2 rfl Q96.spec (gS [1]) fun r2 w3 H h3=>?_
 refine rFi [0,3,6] ?_
 refine T8 (Za [0,3,6,8] ?_)
 refine T8 (T8 (T6 (rRL 1 0 h3 ?_)))
 refine rFi [0,3,6,8,22] ?_
 refine jIf H (fun c2 H=>?_) fun c2 H=>?_
 ·refine T6 (rRL 2 0 h3 ?_)
  refine cS H [] h3 rfl Q96.spec (gS [1]) fun r3 w4 H h4=>?_
  refine rFi [6,8] ?_
  refine T8 (Za [4,5] ?_)
  cases H
  exact T7 (jR0 h4 [])
 refine T9 (T8 (Za [4,5] ?_))
 cases H
 exact T7 (jR0 h3 [])

def Q98.f (a0:Tu):Option Ts:=if (([]:List TB).length+a0.length)*40<=140737488355328 then (some ([] ++ a0)) else none
theorem Q98.spec {a0 A1 c_1 r} (H:Q98.f a0=some r) :
  Spec prog 98 [.slice A1 a0.length c_1] [] [R69 a0 A1 c_1] (fun v l=>∃ A_0 c_0,v=.slice A_0 r.length c_0/\l=[O69 r A_0 c_0]):=by
 refine Zf Tryz.func98 fun w0 F0 h0=>?_
 unfold Q98.f at H
 refine T8 (Za [0] ?_)
 refine T8 (T8 (Za [0,4] ?_))
 refine Ge (fun c1=>?_) (fun c1=>?_)
 ·have e1:=h0.nilrow (Zg 0) (by simpa using c1)
  replace H:(some [])=some r:=by rw [e1] at H; simpa using H
  refine T8 (Za [2] ?_)
  have h1:=h0.addNil 69 (.pair .str (.pair .bool .str))
  cases H
  exact T7 (jR ⟨_,_,rfl,rfl⟩ h1 [0])
 refine T9 (T8 (T6 (rB (Zx (.pair .str (.pair .bool .str)) [] h0) fun b1 w1 h2=>?_)))
 refine Ze 1 ?_
 obtain ⟨p1,H⟩:=Zh H
 refine Zp (Zs 0 h2 (Zg 0) p1) ?_
 rintro _ w2 ⟨A2,c_2,rfl,h3⟩
 replace h3:=nf h3
 refine rFi [2] ?_
 cases H
 exact T7 (jR ⟨_,_,rfl,rfl⟩ h3 [0])

def Q13.f (k:Nat) (a0:Tu) (a1:TA):Option Ts:=(Q16.f k a0 a1).bind fun r1=>(if 0<=r1.1/\r1.1<=r1.2/\r1.2<=(a0.length:Int) then ((Q98.f ((a0.drop (r1.1).toNat).take ((r1.2).toNat - (r1.1).toNat))).bind fun r2=>(some r2)) else none)
theorem Q13.spec {k a0 a1 A1 c_1 r} (H:Q13.f k a0 a1=some r) :
  Spec prog 51 [.slice A1 a0.length c_1,.agg #[.string ⟨⟨a1.1⟩⟩,.string ⟨⟨a1.2.1⟩⟩,.bool a1.2.2]] [] [R69 a0 A1 c_1] (fun v l=>∃ A_0 c_0,v=.slice A_0 r.length c_0/\l=[O69 r A_0 c_0]):=by
 refine Zf Tryz.func51 fun w0 F0 h0=>?_
 unfold Q13.f at H
 refine T8 (T6 (rB (Z5 h0) fun b1 w1 h1=>?_))
 refine rFi [0,3] ?_
 refine T8 (T6 (rRL 1 0 h1 ?_))
 refine cS H [] h1 rfl Q16.spec (gS [1]) fun r1 w2 H h2=>?_
 refine rFi [0,5,6] ?_
 refine T8 (T6 (Ze 3 ?_))
 obtain ⟨⟨p1,p2,p3⟩,H⟩:=Zh H
 have e1:=h2.cap (Zg 1)
 refine Zj (J4 ((a0.drop (r1.1).toNat).take ((r1.2).toNat - (r1.1).toNat)) r1.1 r1.2 e1 p1 p2 p3) ?_
 refine cE H [] h2 rfl Q98.spec (Xl ((Gives.self 1 rfl).trans (Gj (.pair .str (.pair .bool .str)) ((a0.drop (r1.1).toNat).take ((r1.2).toNat - (r1.1).toNat)) r1.1 r1.2 p1 p2 p3)) Zm) ?_
 rintro r2 w3 _ _ H ⟨A2,c_2,rfl,rfl⟩ h3
 replace h3:=nf h3
 refine rFi [4] ?_
 cases H
 exact T7 (jR ⟨_,_,rfl,rfl⟩ h3 [0])

def Q12.l0:Nat->Tu->Tu->Tu->Option Ts
 | 0,_,_,_=>none
 | k+1,x1,x2,x3=>if (decide (0<(x1.length:Int)))=true then (if (decide (0<(x2.length:Int)))=true then (if 0<(x1.length:Int) then (if 0<(x2.length:Int) then ((Q68.f ((gt x1 0).1) ((gt x2 0).1)).bind fun r1=>(if (decide (r1=1))=true then (if (x3.length+([(gt x2 0)]:List TB).length)*40<=140737488355328 then (if (1:Int)<=(x2.length:Int) then (Q12.l0 k x1 (x2.drop 1) (x3 ++ [(gt x2 0)])) else none) else none) else (if (decide (r1=0))=true then (if (1:Int)<=(x2.length:Int) then (if (x3.length+([(gt x1 0)]:List TB).length)*40<=140737488355328 then (if (1:Int)<=(x1.length:Int) then (Q12.l0 k (x1.drop 1) (x2.drop 1) (x3 ++ [(gt x1 0)])) else none) else none) else none) else (if (x3.length+([(gt x1 0)]:List TB).length)*40<=140737488355328 then (if (1:Int)<=(x1.length:Int) then (Q12.l0 k (x1.drop 1) x2 (x3 ++ [(gt x1 0)])) else none) else none)))) else none) else none) else (if (x3.length+x1.length)*40<=140737488355328 then (if ((x3 ++ x1).length+x2.length)*40<=140737488355328 then (some ((x3 ++ x1) ++ x2)) else none) else none)) else (if (x3.length+x1.length)*40<=140737488355328 then (if ((x3 ++ x1).length+x2.length)*40<=140737488355328 then (some ((x3 ++ x1) ++ x2)) else none) else none)
def Q12.f (k:Nat) (a0:Tu) (a1:Tu):Option Ts:=if 0<=(w64 ((a0.length:Int)+(a1.length:Int)))/\(w64 ((a0.length:Int)+(a1.length:Int)))*40<=281474976710656 then (Q12.l0 k a0 a1 []) else none
theorem Q12.spec {k a0 a1 A1 c_1 A2 c_2 r} (H:Q12.f k a0 a1=some r) :
  Spec prog 50 [.slice A1 a0.length c_1,.slice A2 a1.length c_2] [] [R69 a0 A1 c_1,R69 a1 A2 c_2] (fun v l=>∃ A_0 c_0,v=.slice A_0 r.length c_0/\l=[O69 r A_0 c_0]):=by
 refine Zf Tryz.func50 fun w0 F0 h0=>?_
 unfold Q12.f at H
 refine T8 (Za [0,1] ?_)
 refine T8 (T6 (Ze 5 ?_))
 obtain ⟨⟨p1,p2⟩,H⟩:=Zh H
 refine rB (Zi9 (.pair .str (.pair .bool .str)) h0 p1 p2) fun b1 w1 h1=>?_
 refine rFi [0,1,5] ?_
 refine T8 (T0 ?_)
 have h22:=(sOR h1 [0] [0,1])
 refine T4 (fun kk env w=>∃ x1 A3 c_3 x2 A4 c_4 x3 A5 c_5,Q12.l0 kk x1 x2 x3=some r/\env=[(0,.slice A3 x1.length c_3),(1,.slice A4 x2.length c_4),(5,.slice A5 x3.length c_5)]/\St w0 F0 [O69 x3 A5 c_5] [R69 x1 A3 c_3,R69 x2 A4 c_4] w) (k:=k) ⟨_,_,_,_,_,_,_,_,_,H,rfl,h22⟩ ?_
 rintro k1 env w2 ⟨x1,A3,c_3,x2,A4,c_4,x3,A5,c_5,H,rfl,h2⟩
 rcases k1 with _ | k1
 ·exact z0 H
 rw [Q12.l0] at H
 refine T8 (T8 (T6 (Ze 4 ?_)))
 refine Z7 15 H (fun c1 H=>?_) fun c1 H=>?_
 ·refine rFi [0,1,5,19] ?_
  refine jIf H (fun c2 H=>?_) fun c2 H=>?_
  ·refine T9 (T0 (T8 (T8 (jH h2 fun h3=>?_))))
   refine Zr [0,4] ?_
   obtain ⟨p3,H⟩:=Zh H
   have e1:=Vu h3.wh (Zg 1) p3
   refine Zb 1 rfl (X4 e1 p3) ?_
   refine Zr [2] ?_
   refine Zb 3 rfl (Xb 0 wI (Zg 1) p3) ?_
   obtain ⟨p4,H⟩:=Zh H
   have e2:=Vu h3.wh (Zg 2) p4
   refine Zb 5 rfl (X4 e2 p4) ?_
   refine Zr [6] ?_
   refine Zb 7 rfl (Xb 0 wI (Zg 2) p4) ?_
   refine cSJ 8 rfl H [] h3 rfl Q68.spec Zm 0 fun r1 w3 H h4=>?_
   refine Y6 [0,1,5,28] ?_
   refine T0 (T8 (Za [0,1,5,28,29] ?_))
   refine jIf H (fun c3 H=>?_) fun c3 H=>?_
   ·refine T8 (T6 (Ze 2 ?_))
    refine Zj (X4 e2 p4) ?_
    refine Zj (Xb 0 h4.wht (Zg 2) p4) ?_
    refine rB (Zx (.pair .str (.pair .bool .str)) [(gt x2 0)] h4) fun b2 w4 h5=>?_
    obtain ⟨p5,H⟩:=Zh H
    refine Zp (Zs 1 h5 (gO 0) p5) ?_
    rintro _ w5 ⟨A6,c_6,rfl,h6⟩
    replace h6:=nf h6
    refine rFi [0,1,5] ?_
    refine T8 (T6 (Ze 1 ?_))
    obtain ⟨p6,H⟩:=Zh H
    have e3:=h6.cap (Zg 3)
    refine Zj (Bg (x2.drop 1) 1 (x2.length:Int) e3 p6 (Int.le_refl _) (Yv _ _)) ?_
    refine rFi [0,1,5] ?_
    refine T3 ?_
    have h7:=h6.read (k:=1) rfl (fun w F h=>((U9 (ty:=(.pair .str (.pair .bool .str))) (l:=1) (h:=(x2.length:Int)) (sub:=(x2.drop 1)) rfl (by decide) p6 (Int.le_refl _) (Yv _ _)) w F h))
    have h8:=(sOR h7 [0] [1,0])
    exact ⟨k1,by omega,_,_,_,_,_,_,_,_,_,H,rfl,h8⟩
   refine T8 (Za [0,1,5,39] ?_)
   refine jIf H (fun c4 H=>?_) fun c4 H=>?_
   ·refine T6 (Ze 1 ?_)
    obtain ⟨p7,H⟩:=Zh H
    have e4:=h4.cap (Zg 2)
    refine Zj (Bg (x2.drop 1) 1 (x2.length:Int) e4 p7 (Int.le_refl _) (Yv _ _)) ?_
    refine rFi [0,1,5] ?_
    refine T8 (T6 (Ze 2 ?_))
    refine Zj (X4 e1 p3) ?_
    refine Zj (Xb 0 h4.wht (Zg 1) p3) ?_
    refine rB (Zx (.pair .str (.pair .bool .str)) [(gt x1 0)] h4) fun b3 w6 h9=>?_
    obtain ⟨p8,H⟩:=Zh H
    refine Zp (Zs 1 h9 (gO 0) p8) ?_
    rintro _ w7 ⟨A7,c_7,rfl,h10⟩
    replace h10:=nf h10
    refine rFi [0,1,5] ?_
    refine T6 (Ze 1 ?_)
    obtain ⟨p9,H⟩:=Zh H
    have e5:=h10.cap (Zg 2)
    refine Zj (Bg (x1.drop 1) 1 (x1.length:Int) e5 p9 (Int.le_refl _) (Yv _ _)) ?_
    refine rFi [0,1,5] ?_
    have h11:=h10.read (k:=0) rfl (fun w F h=>((U9 (ty:=(.pair .str (.pair .bool .str))) (l:=1) (h:=(x1.length:Int)) (sub:=(x1.drop 1)) rfl (by decide) p9 (Int.le_refl _) (Yv _ _)) w F h))
    have h12:=h11.read (k:=2) rfl (fun w F h=>((U9 (ty:=(.pair .str (.pair .bool .str))) (l:=1) (h:=(x2.length:Int)) (sub:=(x2.drop 1)) rfl (by decide) p7 (Int.le_refl _) (Yv _ _)) w F h))
    have h13:=(sOR h12 [0] [1,0])
    exact ⟨k1,by omega,_,_,_,_,_,_,_,_,_,H,rfl,h13⟩
   refine T9 (T8 (T6 (Ze 2 ?_)))
   refine Zj (X4 e1 p3) ?_
   refine Zj (Xb 0 h4.wht (Zg 1) p3) ?_
   refine rB (Zx (.pair .str (.pair .bool .str)) [(gt x1 0)] h4) fun b4 w8 h14=>?_
   obtain ⟨p10,H⟩:=Zh H
   refine Zp (Zs 1 h14 (gO 0) p10) ?_
   rintro _ w9 ⟨A8,c_8,rfl,h15⟩
   replace h15:=nf h15
   refine rFi [0,1,5] ?_
   refine T6 (Ze 1 ?_)
   obtain ⟨p11,H⟩:=Zh H
   have e6:=h15.cap (Zg 2)
   refine Zj (Bg (x1.drop 1) 1 (x1.length:Int) e6 p11 (Int.le_refl _) (Yv _ _)) ?_
   refine rFi [0,1,5] ?_
   have h16:=h15.read (k:=0) rfl (fun w F h=>((U9 (ty:=(.pair .str (.pair .bool .str))) (l:=1) (h:=(x1.length:Int)) (sub:=(x1.drop 1)) rfl (by decide) p11 (Int.le_refl _) (Yv _ _)) w F h))
   have h17:=(sOR h16 [0] [0,2])
   exact ⟨k1,by omega,_,_,_,_,_,_,_,_,_,H,rfl,h17⟩
  refine T3 (T8 (T6 (Ze 2 ?_)))
  obtain ⟨p12,H⟩:=Zh H
  refine Zp (Zs 0 h2 (Zg 0) p12) ?_
  rintro _ w10 ⟨A9,c_9,rfl,h18⟩
  replace h18:=nf h18
  refine rFi [1,5] ?_
  refine T8 (T6 (Ze 2 ?_))
  obtain ⟨p13,H⟩:=Zh H
  refine Zp (Zs 0 h18 (Zg 1) p13) ?_
  rintro _ w11 ⟨A10,c_10,rfl,h19⟩
  replace h19:=nf h19
  refine rFi [4] ?_
  cases H
  exact T7 (jR ⟨_,_,rfl,rfl⟩ h19 [0])
 refine rFi [0,1,5,19] ?_
 refine Z1 ?_
 refine T3 (T8 (T6 (Ze 2 ?_)))
 obtain ⟨p14,H⟩:=Zh H
 refine Zp (Zs 0 h2 (Zg 0) p14) ?_
 rintro _ w12 ⟨A11,c_11,rfl,h20⟩
 replace h20:=nf h20
 refine rFi [1,5] ?_
 refine T8 (T6 (Ze 2 ?_))
 obtain ⟨p15,H⟩:=Zh H
 refine Zp (Zs 0 h20 (Zg 1) p15) ?_
 rintro _ w13 ⟨A12,c_12,rfl,h21⟩
 replace h21:=nf h21
 refine rFi [4] ?_
 cases H
 exact T7 (jR ⟨_,_,rfl,rfl⟩ h21 [0])

def Q71.f (a0:TA) (a1:TA):Option Tt:=if a0.2.2=true then (if (!a1.2.2)=true then ((Q69.f ((if (!Op.bytesLess a0.1 a1.1)=true then a0.1 else a1.1),a1.2.1,a1.2.2)).bind fun r1=>(if r1=true then (some (([],[],false),false)) else (some (((if (!Op.bytesLess a0.1 a1.1)=true then a0.1 else a1.1),a1.2.1,a1.2.2),true)))) else (if a1.2.2=true then (if (!a0.2.2)=true then ((Q69.f ((if (!Op.bytesLess a0.1 a1.1)=true then a0.1 else a1.1),a0.2.1,a1.2.2)).bind fun r1=>(if r1=true then (some (([],[],false),false)) else (some (((if (!Op.bytesLess a0.1 a1.1)=true then a0.1 else a1.1),a0.2.1,a1.2.2),true)))) else ((Q69.f ((if (!Op.bytesLess a0.1 a1.1)=true then a0.1 else a1.1),[],a1.2.2)).bind fun r1=>(if r1=true then (some (([],[],false),false)) else (some (((if (!Op.bytesLess a0.1 a1.1)=true then a0.1 else a1.1),[],a1.2.2),true))))) else (if (!a0.2.2)=true then ((Q69.f ((if (!Op.bytesLess a0.1 a1.1)=true then a0.1 else a1.1),(if (Op.bytesLess a0.2.1 a1.2.1 || decide (a0.2.1=a1.2.1))=true then a0.2.1 else a1.2.1),a1.2.2)).bind fun r1=>(if r1=true then (some (([],[],false),false)) else (some (((if (!Op.bytesLess a0.1 a1.1)=true then a0.1 else a1.1),(if (Op.bytesLess a0.2.1 a1.2.1 || decide (a0.2.1=a1.2.1))=true then a0.2.1 else a1.2.1),a1.2.2),true)))) else ((Q69.f ((if (!Op.bytesLess a0.1 a1.1)=true then a0.1 else a1.1),[],a1.2.2)).bind fun r1=>(if r1=true then (some (([],[],false),false)) else (some (((if (!Op.bytesLess a0.1 a1.1)=true then a0.1 else a1.1),[],a1.2.2),true))))))) else (if a1.2.2=true then (if (!a0.2.2)=true then ((Q69.f ((if (!Op.bytesLess a0.1 a1.1)=true then a0.1 else a1.1),a0.2.1,false)).bind fun r2=>(if r2=true then (some (([],[],false),false)) else (some (((if (!Op.bytesLess a0.1 a1.1)=true then a0.1 else a1.1),a0.2.1,false),true)))) else ((Q69.f ((if (!Op.bytesLess a0.1 a1.1)=true then a0.1 else a1.1),[],false)).bind fun r2=>(if r2=true then (some (([],[],false),false)) else (some (((if (!Op.bytesLess a0.1 a1.1)=true then a0.1 else a1.1),[],false),true))))) else (if (!a0.2.2)=true then ((Q69.f ((if (!Op.bytesLess a0.1 a1.1)=true then a0.1 else a1.1),(if (Op.bytesLess a0.2.1 a1.2.1 || decide (a0.2.1=a1.2.1))=true then a0.2.1 else a1.2.1),false)).bind fun r2=>(if r2=true then (some (([],[],false),false)) else (some (((if (!Op.bytesLess a0.1 a1.1)=true then a0.1 else a1.1),(if (Op.bytesLess a0.2.1 a1.2.1 || decide (a0.2.1=a1.2.1))=true then a0.2.1 else a1.2.1),false),true)))) else ((Q69.f ((if (!Op.bytesLess a0.1 a1.1)=true then a0.1 else a1.1),[],false)).bind fun r2=>(if r2=true then (some (([],[],false),false)) else (some (((if (!Op.bytesLess a0.1 a1.1)=true then a0.1 else a1.1),[],false),true))))))
theorem Q71.spec {a0 a1 r} (H:Q71.f a0 a1=some r) :
  Spec prog 99 [.agg #[.string ⟨⟨a0.1⟩⟩,.string ⟨⟨a0.2.1⟩⟩,.bool a0.2.2],.agg #[.string ⟨⟨a1.1⟩⟩,.string ⟨⟨a1.2.1⟩⟩,.bool a1.2.2]] [] [] (fun v l=>v=.tuple #[.agg #[.string ⟨⟨r.1.1⟩⟩,.string ⟨⟨r.1.2.1⟩⟩,.bool r.1.2.2],.bool r.2]/\l=[]):=by
 refine Zf Tryz.func99 fun w0 F0 h0=>?_
 unfold Q71.f at H
 refine T8 (T6 (rB (Z5 h0) fun b1 w1 h1=>?_))
 refine rB (Z5 h1) fun b2 w2 h2=>?_
 refine rB (Yp h2) fun b3 w3 h3=>?_
 refine rFi [2,3,4] ?_
 refine T8 (T6 (rRL 1 2 h3 ?_))
 refine rRL 1 1 h3 ?_
 refine rRL 2 2 h3 ?_
 refine Ze 1 ?_
 refine Z7 14 H (fun c1 H=>?_) fun c1 H=>?_
 ·refine rRL 1 1 h3 ?_
  refine Ze 2 ?_
  refine rB (Yp h3) fun b4 w4 h4=>?_
  refine rS (Zt 0 h4) fun _ w5 h5=>?_
  refine rFi [2,3,4,6] ?_
  refine T8 (T5 (fun env w=>∃(x1:TR),env=[(4,.pointer (some ⟨b3,0,none⟩)),(6,.pointer (some ⟨b4,0,none⟩))]/\St w0 F0 [X30 b3 [] [] false,X30 b4 (if (!Op.bytesLess a0.1 a1.1)=true then a0.1 else a1.1) x1 a1.2.2] [] w/\((Q69.f ((if (!Op.bytesLess a0.1 a1.1)=true then a0.1 else a1.1),x1,a1.2.2)).bind fun r1=>(if r1=true then (some (([],[],false),false)) else (some (((if (!Op.bytesLess a0.1 a1.1)=true then a0.1 else a1.1),x1,a1.2.2),true))))=some r) ?_ ?_)
  ·refine T0 (T8 (T6 (rRL 1 3 h5 ?_)))
   refine Ze 1 ?_
   refine Xw 22 (congrArg Value.bool c1) ?_
   refine rRL 1 2 h5 ?_
   refine rFi [2,3,4,6,19] ?_
   refine jIf H (fun c3 H=>?_) fun c3 H=>?_
   ·refine T6 (rRL 1 2 h5 ?_)
    refine Ze 1 ?_
    refine rS (Zt 0 h5) fun _ w11 h10=>?_
    refine rFi [4,6] ?_
    have h11:=sO h10 [0,0]
    replace h11:=nf h11
    have h12:=(sOR h11 [1,0] [])
    exact ⟨a1.2.1,rfl,h12,H⟩
   refine T8 (T6 (rRL 1 2 h5 ?_))
   refine Ze 1 ?_
   refine Z7 33 H (fun c4 H=>?_) fun c4 H=>?_
   ·refine rRL 1 3 h5 ?_
    refine rFi [2,3,4,6,30] ?_
    refine jIf H (fun c5 H=>?_) fun c5 H=>?_
    ·refine T6 (rRL 1 3 h5 ?_)
     refine Ze 1 ?_
     refine rS (Zt 0 h5) fun _ w12 h13=>?_
     refine rFi [4,6] ?_
     have h14:=sO h13 [0,0]
     replace h14:=nf h14
     have h15:=(sOR h14 [1,0] [])
     exact ⟨a0.2.1,rfl,h15,H⟩
    refine T8 (T6 (rRL 1 3 h5 ?_))
    refine rFi [2,3,4,6,41] ?_
    refine T1 rfl (fun e=>by rw [c5] at e; cases e) (fun e=>?_)
    refine Wf [4,6] ?_
    refine T9 ?_
    have h16:=(sOR h5 [1,0] [])
    exact ⟨[],rfl,h16,H⟩
   refine rFi [2,3,4,6,30] ?_
   refine Z1 ?_
   refine T8 (T6 (rRL 1 3 h5 ?_))
   refine rFi [2,3,4,6,41] ?_
   refine jIf H (fun c6 H=>?_) fun c6 H=>?_
   ·refine T6 (rRL 1 3 h5 ?_)
    refine rRL 1 2 h5 ?_
    refine Ze 2 ?_
    refine rS (Zt 0 h5) fun _ w13 h17=>?_
    refine rFi [4,6] ?_
    have h18:=sO h17 [0,0]
    replace h18:=nf h18
    have h19:=(sOR h18 [1,0] [])
    exact ⟨(if (Op.bytesLess a0.2.1 a1.2.1 || decide (a0.2.1=a1.2.1))=true then a0.2.1 else a1.2.1),rfl,h19,H⟩
   refine Wf [4,6] ?_
   refine T9 ?_
   have h20:=(sOR h5 [1,0] [])
   exact ⟨[],rfl,h20,H⟩
  rintro env w7 ⟨x1,rfl,h6,H⟩
  refine T8 (T8 (T6 (rLo 1 h6 ?_)))
  refine cS H [] h6 rfl Q69.spec Zm fun r1 w8 H h7=>?_
  refine rFi [4,6,52] ?_
  refine jIf H (fun c2 H=>?_) fun c2 H=>?_
  ·refine T8 (T6 (Ze 1 ?_))
   refine rS (Zt 0 h7) fun _ w9 h8=>?_
   refine rFi [4,5] ?_
   cases H
   exact T7 (jR2 (Yg (Sh Z3 0 h8 rfl rfl rfl rfl) (Yg (Si rfl) X2)) ⟨rfl,rfl⟩ h8 [])
  refine T9 (T8 (T6 (rLo 1 h7 ?_)))
  refine rS (Zt 0 h7) fun _ w10 h9=>?_
  refine rFi [4,5] ?_
  cases H
  exact T7 (jR2 (Yg (Sh Z3 0 h9 rfl rfl rfl rfl) (Yg (Si rfl) X2)) ⟨rfl,rfl⟩ h9 [])
 refine Ze 4 ?_
 refine rB (Yp h3) fun b5 w14 h21=>?_
 refine rS (Zt 0 h21) fun _ w15 h22=>?_
 refine rFi [2,3,4,6] ?_
 refine T8 (T5 (fun env w=>∃(x2:TR),env=[(4,.pointer (some ⟨b3,0,none⟩)),(6,.pointer (some ⟨b5,0,none⟩))]/\St w0 F0 [X30 b3 [] [] false,X30 b5 (if (!Op.bytesLess a0.1 a1.1)=true then a0.1 else a1.1) x2 false] [] w/\((Q69.f ((if (!Op.bytesLess a0.1 a1.1)=true then a0.1 else a1.1),x2,false)).bind fun r2=>(if r2=true then (some (([],[],false),false)) else (some (((if (!Op.bytesLess a0.1 a1.1)=true then a0.1 else a1.1),x2,false),true))))=some r) ?_ ?_)
 ·refine T0 (T8 (T6 (rRL 1 3 h22 ?_)))
  refine Ze 1 ?_
  refine Xw 22 (congrArg Value.bool c1) ?_
  refine rFi [2,3,4,6,19] ?_
  refine Z1 ?_
  refine T8 (T6 (rRL 1 2 h22 ?_))
  refine Ze 1 ?_
  refine Z7 33 H (fun c8 H=>?_) fun c8 H=>?_
  ·refine rRL 1 3 h22 ?_
   refine rFi [2,3,4,6,30] ?_
   refine jIf H (fun c9 H=>?_) fun c9 H=>?_
   ·refine T6 (rRL 1 3 h22 ?_)
    refine Ze 1 ?_
    refine rS (Zt 0 h22) fun _ w21 h27=>?_
    refine rFi [4,6] ?_
    have h28:=sO h27 [0,0]
    replace h28:=nf h28
    have h29:=(sOR h28 [1,0] [])
    exact ⟨a0.2.1,rfl,h29,H⟩
   refine T8 (T6 (rRL 1 3 h22 ?_))
   refine rFi [2,3,4,6,41] ?_
   refine T1 rfl (fun e=>by rw [c9] at e; cases e) (fun e=>?_)
   refine Wf [4,6] ?_
   refine T9 ?_
   have h30:=(sOR h22 [1,0] [])
   exact ⟨[],rfl,h30,H⟩
  refine rFi [2,3,4,6,30] ?_
  refine Z1 ?_
  refine T8 (T6 (rRL 1 3 h22 ?_))
  refine rFi [2,3,4,6,41] ?_
  refine jIf H (fun c10 H=>?_) fun c10 H=>?_
  ·refine T6 (rRL 1 3 h22 ?_)
   refine rRL 1 2 h22 ?_
   refine Ze 2 ?_
   refine rS (Zt 0 h22) fun _ w22 h31=>?_
   refine rFi [4,6] ?_
   have h32:=sO h31 [0,0]
   replace h32:=nf h32
   have h33:=(sOR h32 [1,0] [])
   exact ⟨(if (Op.bytesLess a0.2.1 a1.2.1 || decide (a0.2.1=a1.2.1))=true then a0.2.1 else a1.2.1),rfl,h33,H⟩
  refine Wf [4,6] ?_
  refine T9 ?_
  have h34:=(sOR h22 [1,0] [])
  exact ⟨[],rfl,h34,H⟩
 rintro env w17 ⟨x2,rfl,h23,H⟩
 refine T8 (T8 (T6 (rLo 1 h23 ?_)))
 refine cS H [] h23 rfl Q69.spec Zm fun r2 w18 H h24=>?_
 refine rFi [4,6,52] ?_
 refine jIf H (fun c7 H=>?_) fun c7 H=>?_
 ·refine T8 (T6 (Ze 1 ?_))
  refine rS (Zt 0 h24) fun _ w19 h25=>?_
  refine rFi [4,5] ?_
  cases H
  exact T7 (jR2 (Yg (Sh Z3 0 h25 rfl rfl rfl rfl) (Yg (Si rfl) X2)) ⟨rfl,rfl⟩ h25 [])
 refine T9 (T8 (T6 (rLo 1 h24 ?_)))
 refine rS (Zt 0 h24) fun _ w20 h26=>?_
 refine rFi [4,5] ?_
 cases H
 exact T7 (jR2 (Yg (Sh Z3 0 h26 rfl rfl rfl rfl) (Yg (Si rfl) X2)) ⟨rfl,rfl⟩ h26 [])

def Q62.f (a0:TL) (a1:Int) (a2:TA):Option Tt:=if (decide (a1<0))=true then (some (([],[],false),false)) else (if (decide ((a0.length:Int)<a1))=true then (some (([],[],false),false)) else (if (decide (0<a1))=true then (if 0<=(w64 (a1 - 1))/\(w64 (a1 - 1))<(a0.length:Int) then (if (!(decide (a1=(a0.length:Int))))=true then (if 0<=a1/\a1<(a0.length:Int) then ((Q71.f ((gt a0 (w64 (a1 - 1))),(gt a0 a1),(decide (a1=(a0.length:Int)))) a2).bind fun r1=>(some r1)) else none) else ((Q71.f ((gt a0 (w64 (a1 - 1))),[],(decide (a1=(a0.length:Int)))) a2).bind fun r2=>(some r2))) else none) else (if (!(decide (a1=(a0.length:Int))))=true then (if 0<=a1/\a1<(a0.length:Int) then ((Q71.f ([],(gt a0 a1),(decide (a1=(a0.length:Int)))) a2).bind fun r1=>(some r1)) else none) else ((Q71.f ([],[],(decide (a1=(a0.length:Int)))) a2).bind fun r2=>(some r2)))))
theorem Q62.spec {a0 a1 a2 A1 c_1 r} (H:Q62.f a0 a1 a2=some r) :
  Spec prog 52 [.slice A1 a0.length c_1,.int .i64 a1,.agg #[.string ⟨⟨a2.1⟩⟩,.string ⟨⟨a2.2.1⟩⟩,.bool a2.2.2]] [] [R9 a0 A1 c_1] (fun v l=>v=.tuple #[.agg #[.string ⟨⟨r.1.1⟩⟩,.string ⟨⟨r.1.2.1⟩⟩,.bool r.1.2.2],.bool r.2]/\l=[]):=by
 refine Zf Tryz.func52 fun w0 F0 h0=>?_
 unfold Q62.f at H
 refine T8 (T6 (rB (Z5 h0) fun b1 w1 h1=>?_))
 refine rB (Yp h1) fun b2 w2 h2=>?_
 refine rFi [0,1,5,6] ?_
 refine T8 (T8 (T6 (Ze 3 ?_)))
 refine Z7 11 H (fun c1 H=>?_) fun c1 H=>?_
 ·refine rFi [0,1,5,6,16] ?_
  refine Zo ?_
  refine T8 (T6 (Ze 1 ?_))
  refine rS (Zt 0 h2) fun _ w3 h3=>?_
  refine rFi [6,7] ?_
  cases H
  exact T7 (jR2 (Yg (Sh Z3 0 h3 rfl rfl rfl rfl) (Yg (Si rfl) X2)) ⟨rfl,rfl⟩ h3 [])
 refine rFi [0,1,5,6,16] ?_
 refine jIf H (fun c2 H=>?_) fun c2 H=>?_
 ·refine T8 (T6 (Ze 1 ?_))
  refine rS (Zt 0 h2) fun _ w4 h4=>?_
  refine rFi [6,7] ?_
  cases H
  exact T7 (jR2 (Yg (Sh Z3 0 h4 rfl rfl rfl rfl) (Yg (Si rfl) X2)) ⟨rfl,rfl⟩ h4 [])
 refine T9 (T8 (T6 (Ze 5 ?_)))
 refine rB (Yp h2) fun b3 w5 h5=>?_
 refine rS (Zt 0 h5) fun _ w6 h6=>?_
 refine rFi [0,1,5,6,8] ?_
 refine T8 (T8 (Za [0,1,5,6,8,24] ?_))
 refine T5 (fun env w=>∃(x1:TR),env=[(0,.slice A1 a0.length c_1),(1,.int .i64 a1),(5,.pointer (some ⟨b1,0,none⟩)),(6,.pointer (some ⟨b2,0,none⟩)),(8,.pointer (some ⟨b3,0,none⟩))]/\St w0 F0 [X30 b1 a2.1 a2.2.1 a2.2.2,X30 b2 [] [] false,X30 b3 x1 [] (decide (a1=(a0.length:Int)))] [R9 a0 A1 c_1] w/\(if (!(decide (a1=(a0.length:Int))))=true then (if 0<=a1/\a1<(a0.length:Int) then ((Q71.f (x1,(gt a0 a1),(decide (a1=(a0.length:Int)))) a2).bind fun r1=>(some r1)) else none) else ((Q71.f (x1,[],(decide (a1=(a0.length:Int)))) a2).bind fun r2=>(some r2)))=some r) ?_ ?_
 ·refine jIf H (fun c4 H=>?_) fun c4 H=>?_
  ·refine T6 (Ze 3 ?_)
   obtain ⟨⟨p3,p4⟩,H⟩:=Zh H
   have e2:=Zy h6.wh (Zg 3) p3 p4
   refine Zj (Zc e2 p3 p4) ?_
   refine Zj (Zd 0 h6.wht (Zg 3) p3 p4) ?_
   refine Ze 1 ?_
   refine rS (Zt 0 h6) fun _ w14 h15=>?_
   refine rFi [0,1,5,6,8] ?_
   have h16:=(sOR h15 [2,1,0] [0])
   exact ⟨(gt a0 (w64 (a1 - 1))),rfl,h16,H⟩
  refine Wf [0,1,5,6,8] ?_
  refine T9 ?_
  have h17:=(sOR h6 [2,1,0] [0])
  exact ⟨[],rfl,h17,H⟩
 rintro env w8 ⟨x1,rfl,h7,H⟩
 refine T8 (T8 (T6 (rRL 1 2 h7 ?_)))
 refine rFi [0,1,5,6,8,33] ?_
 refine jIf H (fun c3 H=>?_) fun c3 H=>?_
 ·refine T6 (Ze 2 ?_)
  obtain ⟨⟨p1,p2⟩,H⟩:=Zh H
  have e1:=Zy h7.wh (Zg 3) p1 p2
  refine Zj (Zc e1 p1 p2) ?_
  refine Zj (Zd 0 h7.wht (Zg 3) p1 p2) ?_
  refine Ze 1 ?_
  refine rS (Zt 2 h7) fun _ w9 h8=>?_
  refine rFi [5,6,8] ?_
  refine T8 (T6 (rLo 0 h8 ?_))
  refine rLo 1 h8 ?_
  refine cS H [] h8 rfl Q71.spec Zm fun r1 w10 H h9=>?_
  refine Ze 2 ?_
  refine rS (Zt 2 h9) fun _ w11 h10=>?_
  refine rFi [6,7] ?_
  have h11:=sO h10 [0]
  replace h11:=nf h11
  cases H
  exact T7 (jR2 (Yg (Sh Z3 0 h11 rfl rfl rfl rfl) (Yg (Si rfl) X2)) ⟨rfl,rfl⟩ h11 [])
 refine T9 (T8 (T6 (rLo 2 h7 ?_)))
 refine rLo 0 h7 ?_
 refine cS H [] h7 rfl Q71.spec Zm fun r2 w12 H h12=>?_
 refine Ze 2 ?_
 refine rS (Zt 1 h12) fun _ w13 h13=>?_
 refine rFi [6,7] ?_
 have h14:=sO h13 [0]
 replace h14:=nf h14
 cases H
 exact T7 (jR2 (Yg (Sh Z3 0 h14 rfl rfl rfl rfl) (Yg (Si rfl) X2)) ⟨rfl,rfl⟩ h14 [])

def Q87.f (a0:Td):Option (Bool):=some (decide (a0.2.1<=(a0.2.2.length:Int)))
theorem Q87.spec {a0 b1 b2 b3 b4 b5 b6 b7 b8 A1 c_1 A2 c_2 A3 c_3 A4 c_4 A5 c_5 A6 c_6 r} (H:Q87.f a0=some r) :
  Spec prog 53 [.pointer (some ⟨b1,0,none⟩)] (Zly a0 b1 b2 b3 b4 b5 b6 b7 b8 A1 A2 A3 A4 A5 A6 c_1 c_2 c_3 c_4 c_5 c_6) [] (fun v l=>v=.bool r/\l=Zly a0 b1 b2 b3 b4 b5 b6 b7 b8 A1 A2 A3 A4 A5 A6 c_1 c_2 c_3 c_4 c_5 c_6):=by
 refine Zf Tryz.func53 fun w0 F0 h0=>?_
 replace h0:=nf h0
 unfold Q87.f at H
 refine T8 (Za [0] ?_)
 refine T8 (jH h0 fun h1=>?_)
 refine Zr [0,1,2,5,6,7] ?_
 refine Zb 3 rfl (Zi 0 wI) ?_
 refine Zr [4] ?_
 refine Zb 8 rfl (Zi 0 wI) ?_
 refine hRF [9,10] [2] ?_
 cases H
 exact T7 (jR0 h1 [0,0,0,0,0,0,0,0,0,0,0,0,0,0])

end Go.SK.T
