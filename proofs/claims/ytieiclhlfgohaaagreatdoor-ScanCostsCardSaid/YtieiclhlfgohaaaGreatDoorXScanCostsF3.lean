/- The functions, further. -/
import Derived.Test.YtieiclhlfgohaaaGreatDoorXScanCostsF2
set_option linter.unusedVariables false
set_option linter.unusedSimpArgs false
set_option maxRecDepth 20000
set_option maxHeartbeats 40000000
namespace Go.SK.T
open Go Go.SK Go.Proofs
open Tryz (prog)
mutual
def Q88.l0:Nat->Td->TA->Tu->Tb->(Bool)->Option Tc
 | 0,_,_,_,_,_=>none
 | k+1,a0,a3,a4,r1,x1=>if (decide (r1.1.1=0))=true then ((Q64.f k r1.1.2.2.2.2 a3 (r1.1.2.2.2.2.length:Int)).bind fun r2=>((Q63.f k r2 a4).bind fun r3=>(if (0:Int)<=(if (w64 (a0.2.1 - (a0.2.2.length:Int)))<(r3.length:Int) then (w64 (a0.2.1 - (a0.2.2.length:Int))) else (r3.length:Int))/\(if (w64 (a0.2.1 - (a0.2.2.length:Int)))<(r3.length:Int) then (w64 (a0.2.1 - (a0.2.2.length:Int))) else (r3.length:Int))<=(r3.length:Int) then (if (a0.2.2.length+(r3.take ((if (w64 (a0.2.1 - (a0.2.2.length:Int)))<(r3.length:Int) then (w64 (a0.2.1 - (a0.2.2.length:Int))) else (r3.length:Int))).toNat).length)*32<=140737488355328 then (some (0,(r1.2.2,a0.2.1,(a0.2.2 ++ (r3.take ((if (w64 (a0.2.1 - (a0.2.2.length:Int)))<(r3.length:Int) then (w64 (a0.2.1 - (a0.2.2.length:Int))) else (r3.length:Int))).toNat))))) else none) else none))) else ((Q13.f k r1.1.2.2.2.1 a3).bind fun r4=>((Q12.f k a4 r4).bind fun r5=>(Q88.l1 k a3 r1 r5 r1.2.2.1 r1.2.2.2.1.1 r1.2.2.2.1.2.2.2.2 r1.2.2.2.2.1 r1.2.2.2.1.2.1 r1.2.2.2.1.2.2.1 r1.2.2.2.1.2.2.2.1 r1.2.2.2.2.2 a0.2.1 a0.2.2 0)))
def Q88.l1:Nat->TA->Tb->Ts->Tq->TD->TC->TG->Tw->TM->TW->(Int)->(Int)->Tz->(Int)->Option Tc
 | 0,_,_,_,_,_,_,_,_,_,_,_,_,_,_=>none
 | k+1,a3,r1,r5,x2,x3,x4,x5,x6,x7,x8,x9,x10,x11,x12=>if (decide (x12<(r1.1.2.1.length:Int)))=true then (if 0<=x12/\x12<(r1.1.2.1.length:Int) then ((Q62.f r1.1.2.2.1 x12 a3).bind fun r6=>(if (!r6.2)=true then (Q88.l1 k a3 r1 r5 x2 x3 x4 x5 x6 x7 x8 x9 x10 x11 (w64 (x12+1))) else ((Q87.f ((x2,(x3,x6,x7,x8,x4),x5,x9),x10,x11)).bind fun r7=>(if r7=true then (some (0,((x2,(x3,x6,x7,x8,x4),x5,x9),x10,x11))) else ((Q13.f k r5 r6.1).bind fun r8=>((Q88.f k ((x2,(x3,x6,x7,x8,x4),x5,x9),x10,x11) (gt r1.1.2.1 x12) (w64 (r1.1.1 - 1)) r6.1 r8).bind fun r9=>(if (!decide (r9.1=0))=true then (some r9) else (Q88.l1 k a3 r1 r5 r9.2.1.1 r9.2.1.2.1.1 r9.2.1.2.1.2.2.2.2 r9.2.1.2.2.1 r9.2.1.2.1.2.1 r9.2.1.2.1.2.2.1 r9.2.1.2.1.2.2.2.1 r9.2.1.2.2.2 r9.2.2.1 r9.2.2.2 (w64 (x12+1)))))))))) else none) else (some (0,((x2,(x3,x6,x7,x8,x4),x5,x9),x10,x11)))
def Q88.f:Nat->Td->(Int)->(Int)->TA->Tu->Option Tc
 | 0,_,_,_,_,_=>none
 | k+1,a0,a1,a2,a3,a4=>(Q90.f k a0.1 a1).bind fun r1=>(if (!decide (r1.2.1=0))=true then (some (r1.2.1,(r1.2.2,a0.2.1,a0.2.2))) else (if (decide (0<=a2))=true then (if (!decide (r1.1.1=a2))=true then (some (12,(r1.2.2,a0.2.1,a0.2.2))) else (Q88.l0 k a0 a3 a4 r1 (!decide (r1.1.1=a2)))) else (Q88.l0 k a0 a3 a4 r1 false)))
end
theorem Q88.spec:∀ {k a0 a1 a2 a3 a4 A7 c_7 b1 b2 b3 b4 b5 b6 b7 b8 A1 c_1 A2 c_2 A3 c_3 A4 c_4 A5 c_5 A6 c_6 r},Q88.f k a0 a1 a2 a3 a4=some r->
  Spec prog 26 [.pointer (some ⟨b1,0,none⟩),.int .u32 a1,.int .i64 a2,.agg #[.string ⟨⟨a3.1⟩⟩,.string ⟨⟨a3.2.1⟩⟩,.bool a3.2.2],.slice A7 a4.length c_7] (Zly a0 b1 b2 b3 b4 b5 b6 b7 b8 A1 A2 A3 A4 A5 A6 c_1 c_2 c_3 c_4 c_5 c_6) [R69 a4 A7 c_7] (fun v l=>∃ A_0 c_0 A_1 c_1 A_2 c_2 A_3 c_3 A_4 c_4 A_5 c_5,v=.int .i64 r.1/\l=Zly r.2 b1 b2 b3 b4 b5 b6 b7 b8 A_0 A_1 A_2 A_3 A_4 A_5 c_0 c_1 c_2 c_3 c_4 c_5):=by
 intro k
 induction k using Nat.strongRecOn with
 | _ k ih=>
 intro a0 a1 a2 a3 a4 A7 c_7 b1 b2 b3 b4 b5 b6 b7 b8 A1 c_1 A2 c_2 A3 c_3 A4 c_4 A5 c_5 A6 c_6 r H
 cases k with
 | zero=>rw [Q88.f] at H; cases H
 | succ kr=>
 refine Zf Tryz.func26 fun w0 F0 h0=>?_
 replace h0:=nf h0
 rw [Q88.f] at H
 refine T8 (T6 (rB (Z5 h0) fun b9 w1 h1=>?_))
 refine rFi [0,1,2,4,8] ?_
 refine T8 (T6 (rRL 3 1 h1 ?_))
 refine Ze 1 ?_
 refine cE H [2,2,2,2,2,2,2,2,2,2,2,2] h1 rfl Q90.spec Zm ?_
 rintro r1 w2 _ _ H ⟨A8,c_8,A9,c_9,A10,c_10,A11,c_11,A12,c_12,A13,c_13,A14,c_14,A15,c_15,A16,c_16,rfl,rfl⟩ h2
 replace h2:=nf h2
 refine Ze 3 ?_
 refine rB (Yp h2) fun b10 w3 h3=>?_
 refine rS (Zt 0 h3) fun _ w4 h4=>?_
 refine rFi [0,2,4,8,11,12] ?_
 refine T8 (T5 (fun env w=>∃ k1 x1,Q88.l0 k1 a0 a3 a4 r1 x1=some r/\env=[(0,.pointer (some ⟨b1,0,none⟩)),(4,.slice A7 a4.length c_7),(8,.pointer (some ⟨b9,0,none⟩)),(11,.pointer (some ⟨b10,0,none⟩)),(32,.bool x1)]/\St w0 F0 [X78 b1 (.pointer (some ⟨b2,0,none⟩)) a0.2.1 a0.2.2 A6 c_6,X86 b2 r1.2.2.1.1 r1.2.2.1.2.1 r1.2.2.1.2.2.1 r1.2.2.1.2.2.2.1 r1.2.2.1.2.2.2.2.1 r1.2.2.1.2.2.2.2.2.1 r1.2.2.1.2.2.2.2.2.2.1 r1.2.2.1.2.2.2.2.2.2.2 (.pointer (some ⟨b4,0,none⟩)) (.pointer (some ⟨b3,0,none⟩)) (.pointer (some ⟨b7,0,none⟩)) r1.2.2.2.2.2,Xc b4 r1.2.2.2.1.1.1 r1.2.2.2.1.1.2.1 A12 c_12 r1.2.2.2.1.1.2.2.1 r1.2.2.2.1.1.2.2.2,Xp b3 (.pointer (some ⟨b4,0,none⟩)) r1.2.2.2.1.2.1 A13 c_13 (.map (some b5)) r1.2.2.2.1.2.2.2.1 A14 c_14 (.pointer (some ⟨b6,0,none⟩)),Y5 .u32 (Value.int .i64) b5 r1.2.2.2.1.2.2.1,Yw b6 r1.2.2.2.1.2.2.2.2.1 A15 c_15 r1.2.2.2.1.2.2.2.2.2,Vl b7 (.pointer (some ⟨b8,0,none⟩)),X1 b8 r1.2.2.2.2.1.1 r1.2.2.2.2.1.2.1 r1.2.2.2.2.1.2.2 A16 c_16,X30 b9 a3.1 a3.2.1 a3.2.2,X55 b10 r1.1.1 r1.1.2.1 A8 c_8 r1.1.2.2.1 A9 c_9 r1.1.2.2.2.1 A10 c_10 r1.1.2.2.2.2 A11 c_11,O5 r1.2.2.2.1.1.2.1 A12 c_12,Xo r1.2.2.2.1.2.1 A13 c_13,O3 r1.2.2.2.1.2.2.2.1 A14 c_14,Yx r1.2.2.2.1.2.2.2.2.1 A15 c_15,O63 r1.2.2.2.2.1.2.2 A16 c_16,O47 a0.2.2 A6 c_6,O32 r1.1.2.1 A8 c_8,O9 r1.1.2.2.1 A9 c_9,O69 r1.1.2.2.2.1 A10 c_10,O47 r1.1.2.2.2.2 A11 c_11] [R69 a4 A7 c_7] w/\k1<=kr) ?_ ?_)
 ·refine T0 (T8 (Za [0,2,4,8,11,12,28] ?_))
  refine jIf H (fun c6 H=>?_) fun c6 H=>?_
  ·refine T8 (Za [10] ?_)
   have h58:=sO h4 [5,5,5,5,5,5,5,5,5,5,5,5,6,6]
   replace h58:=nf h58
   cases H
   exact T7 (jR ⟨_,_,_,_,_,_,_,_,_,_,_,_,rfl,rfl⟩ h58 [12,0,0,0,0,0,0,0,0,0,0,0,0,0])
  refine T8 (T6 (Ze 3 ?_))
  refine Z7 35 H (fun c7 H=>?_) fun c7 H=>?_
  ·refine rRL 1 0 h4 ?_
   refine rFi [0,4,8,11,32] ?_
   refine jIf H (fun c8 H=>?_) fun c8 H=>?_
   ·refine T8 (Za [10] ?_)
    have h59:=sO h4 [5,5,5,5,5,5,5,5,5,5,5,5,6,6]
    replace h59:=nf h59
    cases H
    exact T7 (jR ⟨_,_,_,_,_,_,_,_,_,_,_,_,rfl,rfl⟩ h59 [12,0,0,0,0,0,0,0,0,0,0,0,0,0])
   refine T9 ?_
   have h60:=(sOR h4 [18,5,6,5,7,8,9,9,10,0,4,4,4,4,4,4,0,0,0,0] [0])
   exact ⟨kr,_,H,rfl,h60,Sa _⟩
  refine rFi [0,4,8,11,32] ?_
  refine Z1 ?_
  refine T9 ?_
  have h61:=(sOR h4 [18,5,6,5,7,8,9,9,10,0,4,4,4,4,4,4,0,0,0,0] [0])
  exact ⟨kr,_,H,rfl,h61,Sa _⟩
 rintro env w6 ⟨k1,x1,H,rfl,h5,hk1⟩
 rcases k1 with _ | k1
 ·exact z0 H
 rw [Q88.l0] at H
 refine T8 (T8 (T6 (rRL 1 9 h5 ?_)))
 refine rFi [0,4,8,11,43] ?_
 refine jIf H (fun c1 H=>?_) fun c1 H=>?_
 ·refine T8 (T6 (rRL 1 9 h5 ?_))
  refine rLo 8 h5 ?_
  refine rRL 1 9 h5 ?_
  refine Ze 1 ?_
  refine cE H [] h5 rfl Q64.spec (Xl (gO 19) Zm) ?_
  rintro r2 w7 _ _ H ⟨A17,c_17,rfl,rfl⟩ h6
  replace h6:=nf h6
  refine Ze 1 ?_
  refine cE H [] h6 rfl Q63.spec (Xl (gO 0) (gS [21])) ?_
  rintro r3 w8 _ _ H ⟨A18,c_18,rfl,rfl⟩ h7
  replace h7:=nf h7
  refine rFi [0,13] ?_
  have h8:=sO h7 [0,1,1,1,1,1,1,1,1,3,3,3,3,3,3]
  replace h8:=nf h8
  refine T8 ?_
  obtain ⟨⟨p1,p2⟩,H⟩:=Zh H
  obtain ⟨p3,H⟩:=Zh H
  refine T5 (fun env w=>∃(A19:_) (c_19:_),env=[]/\St w0 F0 [X78 b1 (.pointer (some ⟨b2,0,none⟩)) a0.2.1 (a0.2.2 ++ (r3.take ((if (w64 (a0.2.1 - (a0.2.2.length:Int)))<(r3.length:Int) then (w64 (a0.2.1 - (a0.2.2.length:Int))) else (r3.length:Int))).toNat)) A19 c_19,O47 (a0.2.2 ++ (r3.take ((if (w64 (a0.2.1 - (a0.2.2.length:Int)))<(r3.length:Int) then (w64 (a0.2.1 - (a0.2.2.length:Int))) else (r3.length:Int))).toNat)) A19 c_19,O47 r3 A18 c_18,X86 b2 r1.2.2.1.1 r1.2.2.1.2.1 r1.2.2.1.2.2.1 r1.2.2.1.2.2.2.1 r1.2.2.1.2.2.2.2.1 r1.2.2.1.2.2.2.2.2.1 r1.2.2.1.2.2.2.2.2.2.1 r1.2.2.1.2.2.2.2.2.2.2 (.pointer (some ⟨b4,0,none⟩)) (.pointer (some ⟨b3,0,none⟩)) (.pointer (some ⟨b7,0,none⟩)) r1.2.2.2.2.2,Xc b4 r1.2.2.2.1.1.1 r1.2.2.2.1.1.2.1 A12 c_12 r1.2.2.2.1.1.2.2.1 r1.2.2.2.1.1.2.2.2,Xp b3 (.pointer (some ⟨b4,0,none⟩)) r1.2.2.2.1.2.1 A13 c_13 (.map (some b5)) r1.2.2.2.1.2.2.2.1 A14 c_14 (.pointer (some ⟨b6,0,none⟩)),Y5 .u32 (Value.int .i64) b5 r1.2.2.2.1.2.2.1,Yw b6 r1.2.2.2.1.2.2.2.2.1 A15 c_15 r1.2.2.2.1.2.2.2.2.2,Vl b7 (.pointer (some ⟨b8,0,none⟩)),X1 b8 r1.2.2.2.2.1.1 r1.2.2.2.2.1.2.1 r1.2.2.2.2.1.2.2 A16 c_16,O5 r1.2.2.2.1.1.2.1 A12 c_12,Xo r1.2.2.2.1.2.1 A13 c_13,O3 r1.2.2.2.1.2.2.2.1 A14 c_14,Yx r1.2.2.2.1.2.2.2.2.1 A15 c_15,O63 r1.2.2.2.2.1.2.2 A16 c_16] [R69 a4 A7 c_7] w) ?_ ?_
  ·refine Zv (sO h8 [2,2,2,2,2,2,2]) ?_
   have h11:=h8.drew
   refine Zr [0,1,2,3,5,6,7,8,9,10,12,13,14] ?_
   refine HJ.named fun G E hE hG=>?_
   have j22:∀ w8,St w0 F0 [O47 r3 A18 c_18,X78 b1 (.pointer (some ⟨b2,0,none⟩)) a0.2.1 a0.2.2 A6 c_6,X86 b2 r1.2.2.1.1 r1.2.2.1.2.1 r1.2.2.1.2.2.1 r1.2.2.1.2.2.2.1 r1.2.2.1.2.2.2.2.1 r1.2.2.1.2.2.2.2.2.1 r1.2.2.1.2.2.2.2.2.2.1 r1.2.2.1.2.2.2.2.2.2.2 (.pointer (some ⟨b4,0,none⟩)) (.pointer (some ⟨b3,0,none⟩)) (.pointer (some ⟨b7,0,none⟩)) r1.2.2.2.2.2,Xc b4 r1.2.2.2.1.1.1 r1.2.2.2.1.1.2.1 A12 c_12 r1.2.2.2.1.1.2.2.1 r1.2.2.2.1.1.2.2.2,Xp b3 (.pointer (some ⟨b4,0,none⟩)) r1.2.2.2.1.2.1 A13 c_13 (.map (some b5)) r1.2.2.2.1.2.2.2.1 A14 c_14 (.pointer (some ⟨b6,0,none⟩)),Y5 .u32 (Value.int .i64) b5 r1.2.2.2.1.2.2.1,Yw b6 r1.2.2.2.1.2.2.2.2.1 A15 c_15 r1.2.2.2.1.2.2.2.2.2,Vl b7 (.pointer (some ⟨b8,0,none⟩)),X1 b8 r1.2.2.2.2.1.1 r1.2.2.2.2.1.2.1 r1.2.2.2.2.1.2.2 A16 c_16,O5 r1.2.2.2.1.1.2.1 A12 c_12,Xo r1.2.2.2.1.2.1 A13 c_13,O3 r1.2.2.2.1.2.2.2.1 A14 c_14,Yx r1.2.2.2.1.2.2.2.2.1 A15 c_15,O63 r1.2.2.2.2.1.2.2 A16 c_16,O47 a0.2.2 A6 c_6] [R69 a4 A7 c_7] w8->G [19,18,17,16,15,11,4,14,13,12,10,9,8,7,6,5,3,2,1,0] ((72,.slice A18 (r3.take ((if (w64 (a0.2.1 - (a0.2.2.length:Int)))<(r3.length:Int) then (w64 (a0.2.1 - (a0.2.2.length:Int))) else (r3.length:Int))).toNat).length c_18) :: (71,.int .i64 (if (w64 (a0.2.1 - (a0.2.2.length:Int)))<(r3.length:Int) then (w64 (a0.2.1 - (a0.2.2.length:Int))) else (r3.length:Int))) :: (70,.int .i64 (w64 (a0.2.1 - (a0.2.2.length:Int)))) :: (69,.int .i64 (a0.2.2.length:Int)) :: (68,.slice A6 a0.2.2.length c_6) :: (64,.int .i64 a0.2.1) :: (57,.slice A6 a0.2.2.length c_6) :: E) w8:=by
    intro w8 h11
    subst hE
    refine (hG _ _ _).1 ?_
    refine Yd 20 rfl (Zs 14 h11 ((Gives.of 0 rfl Ye).trans (Uu (.pair .str .str) (r3.take ((if (w64 (a0.2.1 - (a0.2.2.length:Int)))<(r3.length:Int) then (w64 (a0.2.1 - (a0.2.2.length:Int))) else (r3.length:Int))).toNat) (if (w64 (a0.2.1 - (a0.2.2.length:Int)))<(r3.length:Int) then (w64 (a0.2.1 - (a0.2.2.length:Int))) else (r3.length:Int)) p1 p2)) p3) ?_
    rintro _ w77 ⟨A27,c_27,rfl,h26⟩
    replace h26:=nf h26
    refine ⟨⟨[_,_,_,_,_,_,_,_],(sO h26 [0,0,0,7,7,7,7,7,0,0,0,0,0,0,0])⟩,?_⟩
    refine Zr [21,22] ?_
    refine Yd 23 rfl (Zt 2 h26) ?_
    intro _ w78 h27
    replace h27:=nf h27
    refine ⟨⟨[_,_,_,_,_,_,_,_],(sO h27 [0,0,0,7,7,7,7,7,0,0,0,0,0,0,0])⟩,?_⟩
    refine Y6 [] ?_
    exact Y4 ⟨A27,c_27,rfl,(sOR h27 [0,0,0,0,0,0,0,0,0,0,0,0,0,0,0] [0])⟩
   have j21:∀ w8,St w0 F0 [O47 r3 A18 c_18,X78 b1 (.pointer (some ⟨b2,0,none⟩)) a0.2.1 a0.2.2 A6 c_6,X86 b2 r1.2.2.1.1 r1.2.2.1.2.1 r1.2.2.1.2.2.1 r1.2.2.1.2.2.2.1 r1.2.2.1.2.2.2.2.1 r1.2.2.1.2.2.2.2.2.1 r1.2.2.1.2.2.2.2.2.2.1 r1.2.2.1.2.2.2.2.2.2.2 (.pointer (some ⟨b4,0,none⟩)) (.pointer (some ⟨b3,0,none⟩)) (.pointer (some ⟨b7,0,none⟩)) r1.2.2.2.2.2,Xc b4 r1.2.2.2.1.1.1 r1.2.2.2.1.1.2.1 A12 c_12 r1.2.2.2.1.1.2.2.1 r1.2.2.2.1.1.2.2.2,Xp b3 (.pointer (some ⟨b4,0,none⟩)) r1.2.2.2.1.2.1 A13 c_13 (.map (some b5)) r1.2.2.2.1.2.2.2.1 A14 c_14 (.pointer (some ⟨b6,0,none⟩)),Y5 .u32 (Value.int .i64) b5 r1.2.2.2.1.2.2.1,Yw b6 r1.2.2.2.1.2.2.2.2.1 A15 c_15 r1.2.2.2.1.2.2.2.2.2,Vl b7 (.pointer (some ⟨b8,0,none⟩)),X1 b8 r1.2.2.2.2.1.1 r1.2.2.2.2.1.2.1 r1.2.2.2.2.1.2.2 A16 c_16,O5 r1.2.2.2.1.1.2.1 A12 c_12,Xo r1.2.2.2.1.2.1 A13 c_13,O3 r1.2.2.2.1.2.2.2.1 A14 c_14,Yx r1.2.2.2.1.2.2.2.2.1 A15 c_15,O63 r1.2.2.2.2.1.2.2 A16 c_16,O47 a0.2.2 A6 c_6] [R69 a4 A7 c_7] w8->G [19,18,17,16,15,11,14,13,12,10,9,8,7,6,5,3,2,1,0] ((72,.slice A18 (r3.take ((if (w64 (a0.2.1 - (a0.2.2.length:Int)))<(r3.length:Int) then (w64 (a0.2.1 - (a0.2.2.length:Int))) else (r3.length:Int))).toNat).length c_18) :: (71,.int .i64 (if (w64 (a0.2.1 - (a0.2.2.length:Int)))<(r3.length:Int) then (w64 (a0.2.1 - (a0.2.2.length:Int))) else (r3.length:Int))) :: (70,.int .i64 (w64 (a0.2.1 - (a0.2.2.length:Int)))) :: (69,.int .i64 (a0.2.2.length:Int)) :: (68,.slice A6 a0.2.2.length c_6) :: (64,.int .i64 a0.2.1) :: E) w8:=by
    intro w8 h11
    subst hE
    refine (hG _ _ _).1 ?_
    refine Yd 4 rfl (Sb (Zi 1 h11.wht)) ?_
    rintro _ _ ⟨rfl,rfl⟩
    replace h11:=nf h11
    refine ⟨⟨[_,_,_,_,_,_,_,_],(sO h11 [0,0,7,7,7,7,7,7,0,0,0,0,0,0,0])⟩,?_⟩
    exact ((hG _ _ _).2 (j22 _ h11)).re [1,2,3,4,5,6,0] 7
   have j20:∀ w8,St w0 F0 [O47 r3 A18 c_18,X78 b1 (.pointer (some ⟨b2,0,none⟩)) a0.2.1 a0.2.2 A6 c_6,X86 b2 r1.2.2.1.1 r1.2.2.1.2.1 r1.2.2.1.2.2.1 r1.2.2.1.2.2.2.1 r1.2.2.1.2.2.2.2.1 r1.2.2.1.2.2.2.2.2.1 r1.2.2.1.2.2.2.2.2.2.1 r1.2.2.1.2.2.2.2.2.2.2 (.pointer (some ⟨b4,0,none⟩)) (.pointer (some ⟨b3,0,none⟩)) (.pointer (some ⟨b7,0,none⟩)) r1.2.2.2.2.2,Xc b4 r1.2.2.2.1.1.1 r1.2.2.2.1.1.2.1 A12 c_12 r1.2.2.2.1.1.2.2.1 r1.2.2.2.1.1.2.2.2,Xp b3 (.pointer (some ⟨b4,0,none⟩)) r1.2.2.2.1.2.1 A13 c_13 (.map (some b5)) r1.2.2.2.1.2.2.2.1 A14 c_14 (.pointer (some ⟨b6,0,none⟩)),Y5 .u32 (Value.int .i64) b5 r1.2.2.2.1.2.2.1,Yw b6 r1.2.2.2.1.2.2.2.2.1 A15 c_15 r1.2.2.2.1.2.2.2.2.2,Vl b7 (.pointer (some ⟨b8,0,none⟩)),X1 b8 r1.2.2.2.2.1.1 r1.2.2.2.2.1.2.1 r1.2.2.2.2.1.2.2 A16 c_16,O5 r1.2.2.2.1.1.2.1 A12 c_12,Xo r1.2.2.2.1.2.1 A13 c_13,O3 r1.2.2.2.1.2.2.2.1 A14 c_14,Yx r1.2.2.2.1.2.2.2.2.1 A15 c_15,O63 r1.2.2.2.2.1.2.2 A16 c_16,O47 a0.2.2 A6 c_6] [R69 a4 A7 c_7] w8->G [16,15,4,14,13,12,10,9,8,7,6,5,3,2,1,0] ((69,.int .i64 (a0.2.2.length:Int)) :: (68,.slice A6 a0.2.2.length c_6) :: (57,.slice A6 a0.2.2.length c_6) :: E) w8:=by
    intro w8 h11
    subst hE
    refine (hG _ _ _).1 ?_
    refine Yd 11 rfl (Sb (Zi 1 h11.wht)) ?_
    rintro _ _ ⟨rfl,rfl⟩
    replace h11:=nf h11
    refine ⟨⟨[_,_,_,_,_,_,_,_],(sO h11 [0,0,7,7,7,7,7,7,0,0,0,0,0,0,0])⟩,?_⟩
    refine Zr [17,18] ?_
    have e17:=h11.cap (gO 0)
    refine Zb 19 rfl (X6 (r3.take ((if (w64 (a0.2.1 - (a0.2.2.length:Int)))<(r3.length:Int) then (w64 (a0.2.1 - (a0.2.2.length:Int))) else (r3.length:Int))).toNat) (if (w64 (a0.2.1 - (a0.2.2.length:Int)))<(r3.length:Int) then (w64 (a0.2.1 - (a0.2.2.length:Int))) else (r3.length:Int)) e17 p1 p2) ?_
    exact ((hG _ _ _).2 (j22 _ h11)).re [0,1,2,4,5,3,6] 7
   have j19:∀ w8,St w0 F0 [O47 r3 A18 c_18,X78 b1 (.pointer (some ⟨b2,0,none⟩)) a0.2.1 a0.2.2 A6 c_6,X86 b2 r1.2.2.1.1 r1.2.2.1.2.1 r1.2.2.1.2.2.1 r1.2.2.1.2.2.2.1 r1.2.2.1.2.2.2.2.1 r1.2.2.1.2.2.2.2.2.1 r1.2.2.1.2.2.2.2.2.2.1 r1.2.2.1.2.2.2.2.2.2.2 (.pointer (some ⟨b4,0,none⟩)) (.pointer (some ⟨b3,0,none⟩)) (.pointer (some ⟨b7,0,none⟩)) r1.2.2.2.2.2,Xc b4 r1.2.2.2.1.1.1 r1.2.2.2.1.1.2.1 A12 c_12 r1.2.2.2.1.1.2.2.1 r1.2.2.2.1.1.2.2.2,Xp b3 (.pointer (some ⟨b4,0,none⟩)) r1.2.2.2.1.2.1 A13 c_13 (.map (some b5)) r1.2.2.2.1.2.2.2.1 A14 c_14 (.pointer (some ⟨b6,0,none⟩)),Y5 .u32 (Value.int .i64) b5 r1.2.2.2.1.2.2.1,Yw b6 r1.2.2.2.1.2.2.2.2.1 A15 c_15 r1.2.2.2.1.2.2.2.2.2,Vl b7 (.pointer (some ⟨b8,0,none⟩)),X1 b8 r1.2.2.2.2.1.1 r1.2.2.2.2.1.2.1 r1.2.2.2.2.1.2.2 A16 c_16,O5 r1.2.2.2.1.1.2.1 A12 c_12,Xo r1.2.2.2.1.2.1 A13 c_13,O3 r1.2.2.2.1.2.2.2.1 A14 c_14,Yx r1.2.2.2.1.2.2.2.2.1 A15 c_15,O63 r1.2.2.2.2.1.2.2 A16 c_16,O47 a0.2.2 A6 c_6] [R69 a4 A7 c_7] w8->G [11,4,14,13,12,10,9,8,7,6,5,3,2,1,0] ((64,.int .i64 a0.2.1) :: (57,.slice A6 a0.2.2.length c_6) :: E) w8:=by
    intro w8 h11
    subst hE
    refine (hG _ _ _).1 ?_
    refine Yd 15 rfl (Sb (Zi 1 h11.wht)) ?_
    rintro _ _ ⟨rfl,rfl⟩
    replace h11:=nf h11
    refine ⟨⟨[_,_,_,_,_,_,_,_],(sO h11 [0,0,7,7,7,7,7,7,0,0,0,0,0,0,0])⟩,?_⟩
    refine Zr [16,17,18] ?_
    have e16:=h11.cap (gO 0)
    refine Zb 19 rfl (X6 (r3.take ((if (w64 (a0.2.1 - (a0.2.2.length:Int)))<(r3.length:Int) then (w64 (a0.2.1 - (a0.2.2.length:Int))) else (r3.length:Int))).toNat) (if (w64 (a0.2.1 - (a0.2.2.length:Int)))<(r3.length:Int) then (w64 (a0.2.1 - (a0.2.2.length:Int))) else (r3.length:Int)) e16 p1 p2) ?_
    exact (hG _ _ _).2 (j22 _ h11)
   subst hE
   refine (hG _ _ _).1 ?_
   refine TY [4,11,15] (i:=4) rfl rfl rfl rfl ?_
   refine (Y1 ?_ (Y1 ?_ (Y1 ?_ Vr)))
   ·refine Yt 4 rfl (Sb (Zi 1 h11.wht)) ?_
    rintro _ _ ⟨rfl,rfl⟩
    replace h11:=nf h11
    refine ⟨⟨[_,_,_,_,_,_,_,_],(sO h11 [0,0,7,7,7,7,7,7,0,0,0,0,0,0,0])⟩,?_⟩
    refine TY [11,15] (i:=11) rfl rfl rfl rfl ?_
    refine (Y1 ?_ (Y1 ?_ Vr))
    ·refine Yt 11 rfl (Sb (Zi 1 h11.wht)) ?_
     rintro _ _ ⟨rfl,rfl⟩
     replace h11:=nf h11
     refine ⟨⟨[_,_,_,_,_,_,_,_],(sO h11 [0,0,7,7,7,7,7,7,0,0,0,0,0,0,0])⟩,?_⟩
     exact (hG _ _ _).2 (j19 _ h11)
    ·refine Yt 15 rfl (Sb (Zi 1 h11.wht)) ?_
     rintro _ _ ⟨rfl,rfl⟩
     replace h11:=nf h11
     refine ⟨⟨[_,_,_,_,_,_,_,_],(sO h11 [0,0,7,7,7,7,7,7,0,0,0,0,0,0,0])⟩,?_⟩
     refine Zr [16] ?_
     exact (hG _ _ _).2 (j20 _ h11)
   ·refine Yt 11 rfl (Sb (Zi 1 h11.wht)) ?_
    rintro _ _ ⟨rfl,rfl⟩
    replace h11:=nf h11
    refine ⟨⟨[_,_,_,_,_,_,_,_],(sO h11 [0,0,7,7,7,7,7,7,0,0,0,0,0,0,0])⟩,?_⟩
    refine TY [4,15] (i:=4) rfl rfl rfl rfl ?_
    refine (Y1 ?_ (Y1 ?_ Vr))
    ·refine Yt 4 rfl (Sb (Zi 1 h11.wht)) ?_
     rintro _ _ ⟨rfl,rfl⟩
     replace h11:=nf h11
     refine ⟨⟨[_,_,_,_,_,_,_,_],(sO h11 [0,0,7,7,7,7,7,7,0,0,0,0,0,0,0])⟩,?_⟩
     exact ((hG _ _ _).2 (j19 _ h11)).re [1,0] 2
    ·refine Yt 15 rfl (Sb (Zi 1 h11.wht)) ?_
     rintro _ _ ⟨rfl,rfl⟩
     replace h11:=nf h11
     refine ⟨⟨[_,_,_,_,_,_,_,_],(sO h11 [0,0,7,7,7,7,7,7,0,0,0,0,0,0,0])⟩,?_⟩
     refine Zr [16,17,18] ?_
     have e14:=h11.cap (gO 0)
     refine Zb 19 rfl (X6 (r3.take ((if (w64 (a0.2.1 - (a0.2.2.length:Int)))<(r3.length:Int) then (w64 (a0.2.1 - (a0.2.2.length:Int))) else (r3.length:Int))).toNat) (if (w64 (a0.2.1 - (a0.2.2.length:Int)))<(r3.length:Int) then (w64 (a0.2.1 - (a0.2.2.length:Int))) else (r3.length:Int)) e14 p1 p2) ?_
     exact (hG _ _ _).2 (j21 _ h11)
   ·refine Yt 15 rfl (Sb (Zi 1 h11.wht)) ?_
    rintro _ _ ⟨rfl,rfl⟩
    replace h11:=nf h11
    refine ⟨⟨[_,_,_,_,_,_,_,_],(sO h11 [0,0,7,7,7,7,7,7,0,0,0,0,0,0,0])⟩,?_⟩
    refine Zr [16] ?_
    refine TY [4,11] (i:=4) rfl rfl rfl rfl ?_
    refine (Y1 ?_ (Y1 ?_ Vr))
    ·refine Yt 4 rfl (Sb (Zi 1 h11.wht)) ?_
     rintro _ _ ⟨rfl,rfl⟩
     replace h11:=nf h11
     refine ⟨⟨[_,_,_,_,_,_,_,_],(sO h11 [0,0,7,7,7,7,7,7,0,0,0,0,0,0,0])⟩,?_⟩
     exact ((hG _ _ _).2 (j20 _ h11)).re [1,2,0] 3
    ·refine Yt 11 rfl (Sb (Zi 1 h11.wht)) ?_
     rintro _ _ ⟨rfl,rfl⟩
     replace h11:=nf h11
     refine ⟨⟨[_,_,_,_,_,_,_,_],(sO h11 [0,0,7,7,7,7,7,7,0,0,0,0,0,0,0])⟩,?_⟩
     refine Zr [17,18] ?_
     have e15:=h11.cap (gO 0)
     refine Zb 19 rfl (X6 (r3.take ((if (w64 (a0.2.1 - (a0.2.2.length:Int)))<(r3.length:Int) then (w64 (a0.2.1 - (a0.2.2.length:Int))) else (r3.length:Int))).toNat) (if (w64 (a0.2.1 - (a0.2.2.length:Int)))<(r3.length:Int) then (w64 (a0.2.1 - (a0.2.2.length:Int))) else (r3.length:Int)) e15 p1 p2) ?_
     exact ((hG _ _ _).2 (j21 _ h11)).re [0,1,2,4,5,3] 6
  rintro env w106 ⟨A19,c_19,rfl,h40⟩
  refine T8 (Za [10] ?_)
  cases H
  exact T7 (jR ⟨_,_,_,_,_,_,_,_,_,_,_,_,rfl,rfl⟩ h40 [0,2,3,2,6,6,2,5,2,4,2,2,2,0])
 refine T9 (T8 (T6 (rRL 2 9 h5 ?_)))
 refine rLo 8 h5 ?_
 refine cE H [] h5 rfl Q13.spec (Xl (gO 18) Zm) ?_
 rintro r4 w107 _ _ H ⟨A34,c_34,rfl,rfl⟩ h41
 replace h41:=nf h41
 refine cE H [] h41 rfl Q12.spec (Xl (Zg 21) (Xl (gO 0) Zm)) ?_
 rintro r5 w108 _ _ H ⟨A35,c_35,rfl,rfl⟩ h42
 replace h42:=nf h42
 refine rFi [0,4,8,11] ?_
 refine T8 (T8 (T6 (rRL 1 11 h42 ?_)))
 refine rFi [0,4,8,11,83,84,85] ?_
 refine T0 ?_
 have h57:=(sOR h42 [2,2,2,2,2,2,2,2,2,2,2,2,2,2,2,2,0,1,1,1,1] [])
 refine T4 (fun kk env w=>∃ x2 x3 x4 x5 A36 c_36 x6 A37 c_37 x7 x8 A38 c_38 A39 c_39 A40 c_40 x9 x10 x11 A41 c_41 x12,Q88.l1 kk a3 r1 r5 x2 x3 x4 x5 x6 x7 x8 x9 x10 x11 x12=some r/\env=[(0,.pointer (some ⟨b1,0,none⟩)),(4,.slice A35 r5.length c_35),(8,.pointer (some ⟨b9,0,none⟩)),(11,.pointer (some ⟨b10,0,none⟩)),(83,.slice A8 r1.1.2.1.length c_8),(84,.int .i64 (r1.1.2.1.length:Int)),(85,.int .i64 x12)]/\St w0 F0 [X78 b1 (.pointer (some ⟨b2,0,none⟩)) x10 x11 A41 c_41,X86 b2 x2.1 x2.2.1 x2.2.2.1 x2.2.2.2.1 x2.2.2.2.2.1 x2.2.2.2.2.2.1 x2.2.2.2.2.2.2.1 x2.2.2.2.2.2.2.2 (.pointer (some ⟨b4,0,none⟩)) (.pointer (some ⟨b3,0,none⟩)) (.pointer (some ⟨b7,0,none⟩)) x9,Xc b4 x3.1 x3.2.1 A36 c_36 x3.2.2.1 x3.2.2.2,Xp b3 (.pointer (some ⟨b4,0,none⟩)) x6 A37 c_37 (.map (some b5)) x8 A38 c_38 (.pointer (some ⟨b6,0,none⟩)),Y5 .u32 (Value.int .i64) b5 x7,Yw b6 x4.1 A39 c_39 x4.2,Vl b7 (.pointer (some ⟨b8,0,none⟩)),X1 b8 x5.1 x5.2.1 x5.2.2 A40 c_40,X30 b9 a3.1 a3.2.1 a3.2.2,X55 b10 r1.1.1 r1.1.2.1 A8 c_8 r1.1.2.2.1 A9 c_9 r1.1.2.2.2.1 A10 c_10 r1.1.2.2.2.2 A11 c_11,O5 x3.2.1 A36 c_36,Xo x6 A37 c_37,O3 x8 A38 c_38,Yx x4.1 A39 c_39,O63 x5.2.2 A40 c_40,O47 x11 A41 c_41,O69 r5 A35 c_35,O32 r1.1.2.1 A8 c_8,O9 r1.1.2.2.1 A9 c_9,O69 r1.1.2.2.2.1 A10 c_10,O47 r1.1.2.2.2.2 A11 c_11] [] w/\kk<=k1) (k:=k1) ⟨_,_,_,_,_,_,_,_,_,_,_,_,_,_,_,_,_,_,_,_,_,_,_,H,rfl,h57,Sa _⟩ ?_
 rintro k2 env w109 ⟨x2,x3,x4,x5,A36,c_36,x6,A37,c_37,x7,x8,A38,c_38,A39,c_39,A40,c_40,x9,x10,x11,A41,c_41,x12,H,rfl,h43,hk2⟩
 rcases k2 with _ | k2
 ·exact z0 H
 rw [Q88.l1] at H
 refine T8 (Za [0,4,8,11,83,84,85,86] ?_)
 refine T8 (jIf H (fun c2 H=>?_) fun c2 H=>?_)
 ·refine T9 (T8 (T0 (T8 (T6 (Ze 1 ?_)))))
  obtain ⟨⟨p4,p5⟩,H⟩:=Zh H
  have e24:=Zy h43.wh (gO 17) p4 p5
  refine Zj (Zc e24 p4 p5) ?_
  refine Zj (Zd 0 h43.wht (gO 17) p4 p5) ?_
  refine rFi [0,4,8,11,14,15,83,84,85] ?_
  refine T8 (T6 (rRL 1 9 h43 ?_))
  refine rRL 1 8 h43 ?_
  refine cS H [] h43 rfl Q62.spec (Xl (gO 18) Zm) fun r6 w110 H h44=>?_
  refine Ze 3 ?_
  refine rB (Yp h44) fun b11 w111 h45=>?_
  refine rS (Zt 0 h45) fun _ w112 h46=>?_
  refine rFi [0,4,8,11,15,16,17,83,84,85] ?_
  refine T8 (T8 (Za [0,4,8,11,15,16,83,84,85,99] ?_))
  refine jIf H (fun c3 H=>?_) fun c3 H=>?_
  ·refine T3 (Za [0,4,8,11,83,84,85] ?_)
   have h47:=(sOR h46 [1,1,1,1,1,1,1,1,1,1,1,1,1,1,1,1,1,1,1,1,1] [])
   exact ⟨k2,by omega,_,_,_,_,_,_,_,_,_,_,_,_,_,_,_,_,_,_,_,_,_,_,_,H,rfl,h47,by omega⟩
  refine T9 (T8 (T8 (T6 (Ze 1 ?_))))
  refine cS H [1,1,2,1,7,7,1,6,1,5,1,1,3,3] h46 rfl Q87.spec Zm fun r7 w113 H h48=>?_
  refine rFi [0,4,8,11,15,16,83,84,85,101] ?_
  refine jIf H (fun c4 H=>?_) fun c4 H=>?_
  ·refine T8 (Za [10] ?_)
   have h49:=sO h48 [0,0,0,0,0,0,0,0,0,0,0,0,0,0]
   replace h49:=nf h49
   cases H
   exact T7 (jR ⟨_,_,_,_,_,_,_,_,_,_,_,_,rfl,rfl⟩ h49 [0,0,0,0,0,0,0,0,0,0,0,0,0,0])
  refine T9 (T8 (Zv (sO h48 [14,14,14,14,14,14,14,14]) ?_))
  have h50:=h48.drew
  refine Zr [0,1,2,6] ?_
  refine Zb 3 rfl (Zi 2 wI) ?_
  refine Zr [4] ?_
  refine Zb 5 rfl (Zi 0 wI) ?_
  refine Zb 7 rfl (Zi 0 wI) ?_
  refine cEJ 8 rfl H [] h50 rfl Q13.spec (Xl (gO 17) Zm) ?_
  rintro r8 w114 _ _ H ⟨A42,c_42,rfl,rfl⟩ h51
  replace h51:=nf h51
  refine ⟨⟨[_,_,_,_,_,_,_,_,_,_,_,_,_,_,_],h51⟩,?_⟩
  refine cEJ 9 rfl H [1,1,1,1,1,1,1,1,1,1,1,1,1,1] h51 rfl (ih k2 (by omega)) (Xl (gO 0) Zm) ?_
  rintro r9 w115 _ _ H ⟨A43,c_43,A44,c_44,A45,c_45,A46,c_46,A47,c_47,A48,c_48,rfl,rfl⟩ h52
  replace h52:=nf h52
  refine ⟨⟨[_,_,_,_,_,_,_,_,_,_,_,_,_,_,_],h52⟩,?_⟩
  refine hRF [10] [0,4,8,11,18,83,84,85] ?_
  have h53:=sO h52 [0,0,0,0,0,0,0,0,0,0,0,0,0,0,2,2,2,2,2,2,2]
  replace h53:=nf h53
  refine T8 (Za [0,4,8,11,18,83,84,85,113] ?_)
  refine jIf H (fun c5 H=>?_) fun c5 H=>?_
  ·refine T8 (Za [10] ?_)
   have h54:=sO h53 [0,0,0,0,0,0,0,0,0,0,0,0,0,0]
   replace h54:=nf h54
   cases H
   exact T7 (jR ⟨_,_,_,_,_,_,_,_,_,_,_,_,rfl,rfl⟩ h54 [0,0,0,0,0,0,0,0,0,0,0,0,0,0])
  refine T9 (Za [0,4,8,11,83,84,85] ?_)
  have h55:=(sOR h53 [0,0,1,0,2,3,4,4,6,6,0,0,0,0,0,0,0,0,0,0,0] [])
  exact ⟨k2,by omega,_,_,_,_,_,_,_,_,_,_,_,_,_,_,_,_,_,_,_,_,_,_,_,H,rfl,h55,by omega⟩
 refine T3 (T8 (Za [10] ?_))
 have h56:=sO h43 [0,0,0,0,0,0,0,0,2,2,2,2,2,2]
 replace h56:=nf h56
 cases H
 exact T7 (jR ⟨_,_,_,_,_,_,_,_,_,_,_,_,rfl,rfl⟩ h56 [0,0,1,0,4,4,0,3,0,2,0,0,0,0])

def Q86.f (k:Nat) (a0:Tg) (a1:Int) (a2:TA) (a3:Int):Option (Tz×Int×Tg):=if (decide (a3<1))=true then (some ([],0,a0)) else ((Q69.f a2).bind fun r1=>(if r1=true then (some ([],0,a0)) else ((Q88.f k (a0,a3,[]) a1 (-1) a2 []).bind fun r2=>(if (!decide (r2.1=0))=true then (some ([],r2.1,r2.2.1)) else (some (r2.2.2.2,0,r2.2.1))))))
theorem Q86.spec {k a0 a1 a2 a3 b1 b2 b3 b4 b5 b6 b7 A1 c_1 A2 c_2 A3 c_3 A4 c_4 A5 c_5 r} (H:Q86.f k a0 a1 a2 a3=some r) :
  Spec prog 10 [.pointer (some ⟨b1,0,none⟩),.int .u32 a1,.agg #[.string ⟨⟨a2.1⟩⟩,.string ⟨⟨a2.2.1⟩⟩,.bool a2.2.2],.int .i64 a3] (Ub a0 b1 b2 b3 b4 b5 b6 b7 A1 A2 A3 A4 A5 c_1 c_2 c_3 c_4 c_5) [] (fun v l=>∃ A_0 c_0 A_1 c_1 A_2 c_2 A_3 c_3 A_4 c_4 A_5 c_5,v=.tuple #[.slice A_0 r.1.length c_0,.int .i64 r.2.1]/\l=[O47 r.1 A_0 c_0] ++ Ub r.2.2 b1 b2 b3 b4 b5 b6 b7 A_1 A_2 A_3 A_4 A_5 c_1 c_2 c_3 c_4 c_5):=by
 refine Zf Tryz.func10 fun w0 F0 h0=>?_
 replace h0:=nf h0
 unfold Q86.f at H
 refine T8 (T6 (rB (Z5 h0) fun b8 w1 h1=>?_))
 refine rFi [0,1,3,6] ?_
 refine T8 (T8 (T6 (Ze 3 ?_)))
 refine Z7 14 H (fun c1 H=>?_) fun c1 H=>?_
 ·refine rFi [0,1,3,6,17] ?_
  refine Zo ?_
  refine T8 (Za [8,9] ?_)
  have h2:=h1.addNil 47 (.pair .str .str)
  cases H
  exact T7 (jR ⟨_,_,_,_,_,_,_,_,_,_,_,_,rfl,rfl⟩ h2 [0,1,1,1,1,1,1,1,1,1,1,1,1])
 refine rLo 0 h1 ?_
 refine cS H [] h1 rfl Q69.spec Zm fun r1 w2 H h3=>?_
 refine rFi [0,1,3,6,17] ?_
 refine jIf H (fun c2 H=>?_) fun c2 H=>?_
 ·refine T8 (Za [8,9] ?_)
  have h4:=h3.addNil 47 (.pair .str .str)
  cases H
  exact T7 (jR ⟨_,_,_,_,_,_,_,_,_,_,_,_,rfl,rfl⟩ h4 [0,1,1,1,1,1,1,1,1,1,1,1,1])
 refine T9 (T8 (T6 (Ze 3 ?_)))
 refine rB (Z5 h3) fun b9 w3 h5=>?_
 refine rFi [1,6,10] ?_
 refine T8 (T8 (T6 (rRL 2 1 h5 ?_)))
 have h6:=h5.addNil 69 (.pair .str (.pair .bool .str))
 have h7:=h6.freeze (k:=0) rfl Ye
 have h8:=h7.addNil 47 (.pair .str .str)
 refine cE H [1,2,2,2,2,2,2,2,2,2,2,2,2,0] h8 rfl Q88.spec (gS [1]) ?_
 rintro r2 w4 _ _ H ⟨A6,c_6,A7,c_7,A8,c_8,A9,c_9,A10,c_10,A11,c_11,rfl,rfl⟩ h9
 replace h9:=nf h9
 refine rFi [10,11] ?_
 refine T8 (Za [10,11,27] ?_)
 refine jIf H (fun c3 H=>?_) fun c3 H=>?_
 ·refine T8 (Za [8,9] ?_)
  have h10:=sO h9 [1,1,1,1,1,1,1,1,1,1,1,1]
  replace h10:=nf h10
  have h11:=h10.addNil 47 (.pair .str .str)
  cases H
  exact T7 (jR ⟨_,_,_,_,_,_,_,_,_,_,_,_,rfl,rfl⟩ h11 [0,0,0,0,0,0,0,0,0,0,0,0,0])
 refine T9 (T8 (T6 (rRL 3 0 h9 ?_)))
 refine rFi [8,9] ?_
 have h12:=sO h9 [1,1,1,1,1,1,1,1,1,1,1,1,1]
 replace h12:=nf h12
 cases H
 exact T7 (jR ⟨_,_,_,_,_,_,_,_,_,_,_,_,rfl,rfl⟩ h12 [12,0,0,0,0,0,0,0,0,0,0,0,0])

def Q140.f (k:Nat):Option (Bool):=(Q135.f k (9,200,8,8,16,16,2,1) ([([97],[]),([98],[]),([99],[])],[],[],[])).bind fun r1=>(Vz r1.1 (if (!r1.2.2.2)=true then (some false) else (none)) (fun r2=>(if (!r1.2.2.2)=true then (some false) else ((Q86.f k r2 r1.2.1 ([98],[],true) 1).bind fun r3=>(if (decide (r3.2.1=0))=true then (if (decide ((r3.1.length:Int)=1))=true then (if 0<(r3.1.length:Int) then (some (decide (((gt r3.1 0).1)=[98]))) else none) else (some false)) else (some false))))))
theorem Q140.spec {k r} (H:Q140.f k=some r) :
  Spec prog 9 [] [] [tabC 1] (fun v l=>v=.bool r/\l=[]):=by
 refine Zf Tryz.func9 fun w0 F0 h0=>?_
 unfold Q140.f at H
 refine T8 (Za [] ?_)
 refine T8 (T6 (Ze 1 ?_))
 refine rB (Yp h0) fun b1 w1 h1=>?_
 refine rS (Zt 0 h1) fun _ w2 h2=>?_
 refine rFi [1] ?_
 refine T8 (T6 (rLo 0 h2 ?_))
 refine Ze 3 ?_
 refine rB (Zx (.pair .str .str) [([97],[]),([98],[]),([99],[])] h2) fun b2 w3 h3=>?_
 refine Ze 1 ?_
 have h4:=h3.addNil 69 (.pair .str (.pair .bool .str))
 have h5:=h4.freeze (k:=0) rfl Ye
 have h6:=h5.addNil 5 (.int .u8)
 have h7:=h6.freeze (k:=0) rfl Ye
 have h8:=h7.freeze (k:=0) rfl Ye
 obtain ⟨r1,q1,H⟩:=Yf H
 refine Zp (Z2 [] (Q135.spec q1) h8 rfl (gS [0,2,1,1,3])) ?_
 rintro _ w4 ⟨_,_,⟨v1,l1,ho1,A1,c_1,rfl,rfl,rfl⟩,h9⟩
 rcases ho2:r1.1 with _ | r2
 ·rw [ho2] at ho1
  obtain ⟨rfl,rfl⟩:=ho1
  replace H:=Gr ho2 H
  replace h9:=nf h9
  refine rFi [2,3,5] ?_
  refine T8 (T8 (Za [2,3,22] ?_))
  refine jIf H (fun c1 H=>?_) fun c1 H=>?_
  ·refine T8 (Za [0] ?_)
   cases H
   exact T7 (jR0 h9 [])
  refine T9 (T8 (T6 (Ze 3 ?_)))
  exact nomatch H
 rw [ho2] at ho1
 obtain ⟨b3,b4,b5,A2,c_2,A3,c_3,b6,A4,c_4,b7,A5,c_5,b8,b9,A6,c_6,rfl,rfl⟩:=ho1
 replace H:=Gq ho2 H
 replace h9:=nf h9
 refine rFi [2,3,5] ?_
 refine T8 (T8 (Za [2,3,22] ?_))
 refine jIf H (fun c2 H=>?_) fun c2 H=>?_
 ·refine T8 (Za [0] ?_)
  have h10:=sO h9 []
  replace h10:=nf h10
  cases H
  exact T7 (jR0 h10 [])
 refine T9 (T8 (T6 (Ze 3 ?_)))
 refine cE H [0,0,0,0,0,0,0,0,0,0,0,0] h9 rfl Q86.spec Zm ?_
 rintro r3 w5 _ _ H ⟨A7,c_7,A8,c_8,A9,c_9,A10,c_10,A11,c_11,A12,c_12,rfl,rfl⟩ h11
 replace h11:=nf h11
 refine rFi [6,7] ?_
 have h12:=sO h11 [0]
 replace h12:=nf h12
 refine T8 (T6 (Ze 3 ?_))
 refine Z7 32 H (fun c3 H=>?_) fun c3 H=>?_
 ·refine Ze 5 ?_
  refine Z7 37 H (fun c4 H=>?_) fun c4 H=>?_
  ·refine Ze 1 ?_
   obtain ⟨p1,H⟩:=Zh H
   have e1:=Vu h12.wh (gO 0) p1
   refine Zj (X4 e1 p1) ?_
   refine Ze 1 ?_
   refine Zj (Xb 0 h12.wht (gO 0) p1) ?_
   refine rFi [0] ?_
   cases H
   exact T7 (jR0 h12 [])
  refine rFi [0] ?_
  cases H
  exact T7 (jR0 h12 [])
 refine rFi [0] ?_
 cases H
 exact T7 (jR0 h12 [])

def Q89.f (a0:Tg) (a1:Int):Option Tf:=if (!decide (a1=0))=true then ((Q95.f a0 a1).bind fun r1=>(if (!decide (r1=0))=true then (some (r1,a0)) else ((Q94.f a0).bind fun r2=>(if (!decide (r2=0))=true then (some (r2,a0)) else (if (decide (a1=a0.2.2.2))=true then (some (r2,a0)) else ((Q19.f a0.2.1 a1).bind fun r3=>(if (!decide (r3.1=0))=true then (some (r3.1,(a0.1,r3.2,a0.2.2.1,a0.2.2.2))) else (if (!decide (a0.2.2.2=0))=true then ((Q21.f r3.2 a0.2.2.2).bind fun r4=>(some (0,(a0.1,r4.2,a0.2.2.1,a1)))) else (some (0,(a0.1,r3.2,a0.2.2.1,a1))))))))))) else ((Q94.f a0).bind fun r5=>(if (!decide (r5=0))=true then (some (r5,a0)) else (if (decide (a1=a0.2.2.2))=true then (some (r5,a0)) else (if (!decide (a0.2.2.2=0))=true then ((Q21.f a0.2.1 a0.2.2.2).bind fun r6=>(some (0,(a0.1,r6.2,a0.2.2.1,a1)))) else (some (0,(a0.1,a0.2.1,a0.2.2.1,a1)))))))
theorem Q89.spec {a0 a1 b1 b2 b3 b4 b5 b6 b7 A1 c_1 A2 c_2 A3 c_3 A4 c_4 A5 c_5 r} (H:Q89.f a0 a1=some r) :
  Spec prog 19 [.pointer (some ⟨b1,0,none⟩),.int .u32 a1] (Ub a0 b1 b2 b3 b4 b5 b6 b7 A1 A2 A3 A4 A5 c_1 c_2 c_3 c_4 c_5) [] (fun v l=>∃ A_0 c_0 A_1 c_1 A_2 c_2 A_3 c_3 A_4 c_4,v=.int .i64 r.1/\l=Ub r.2 b1 b2 b3 b4 b5 b6 b7 A_0 A_1 A_2 A_3 A_4 c_0 c_1 c_2 c_3 c_4):=by
 refine Zf Tryz.func19 fun w0 F0 h0=>?_
 replace h0:=nf h0
 unfold Q89.f at H
 refine T8 (Za [0,1] ?_)
 refine T8 (T8 (Za [0,1,9] ?_))
 refine jIf H (fun c1 H=>?_) fun c1 H=>?_
 ·refine T8 (T6 (Ze 2 ?_))
  refine cS H [0,0,0,0,0,0,0,0,0,0,0,0] h0 rfl Q95.spec Zm fun r1 w1 H h1=>?_
  refine rFi [0,1,5] ?_
  refine T8 (Za [0,1,5,14] ?_)
  refine jIf H (fun c2 H=>?_) fun c2 H=>?_
  ·refine T8 (Za [4] ?_)
   cases H
   exact T7 (jR ⟨_,_,_,_,_,_,_,_,_,_,rfl,rfl⟩ h1 [0,0,0,0,0,0,0,0,0,0,0,0])
  refine T9 (T8 (T8 (T6 (Ze 1 ?_))))
  refine cS H [0,0,0,0,0,0,0,0,0,0,0,0] h1 rfl Q94.spec Zm fun r2 w2 H h2=>?_
  refine rFi [0,1,6] ?_
  refine T8 (T6 (Ze 3 ?_))
  refine Z7 20 H (fun c3 H=>?_) fun c3 H=>?_
  ·refine rFi [0,1,6,27] ?_
   refine Zo ?_
   refine T8 (Za [4] ?_)
   cases H
   exact T7 (jR ⟨_,_,_,_,_,_,_,_,_,_,rfl,rfl⟩ h2 [0,0,0,0,0,0,0,0,0,0,0,0])
  refine rRL 4 0 h2 ?_
  refine rFi [0,1,6,27] ?_
  refine jIf H (fun c4 H=>?_) fun c4 H=>?_
  ·refine T8 (Za [4] ?_)
   cases H
   exact T7 (jR ⟨_,_,_,_,_,_,_,_,_,_,rfl,rfl⟩ h2 [0,0,0,0,0,0,0,0,0,0,0,0])
  refine T9 (T8 (T8 (Za [0,1,30] ?_)))
  refine T1 rfl (fun e=>?_) (fun e=>by rw [c1] at e; cases e)
  refine T8 (T6 (rRL 3 0 h2 ?_))
  refine Ze 1 ?_
  refine cE H [1,1,1,1,1,1,1,1] h2 rfl Q19.spec Zm ?_
  rintro r3 w3 _ _ H ⟨A6,c_6,A7,c_7,A8,c_8,A9,c_9,rfl,rfl⟩ h3
  replace h3:=nf h3
  refine rFi [0,1,7] ?_
  refine T8 (Za [0,1,7,38] ?_)
  refine jIf H (fun c5 H=>?_) fun c5 H=>?_
  ·refine T8 (Za [4] ?_)
   cases H
   exact T7 (jR ⟨_,_,_,_,_,_,_,_,_,_,rfl,rfl⟩ h3 [8,0,0,0,0,0,0,0,0,0,0,0])
  refine T9 (T8 (T8 (T6 (rRL 3 8 h3 ?_))))
  refine rFi [0,1,44] ?_
  refine jIf H (fun c6 H=>?_) fun c6 H=>?_
  ·refine Zv (sO h3 [8,8,8,8]) ?_
   have h4:=h3.drew
   refine Zr [0,1,2,4,5,6] ?_
   refine Zb 3 rfl (Zi 0 wI) ?_
   refine Zb 7 rfl (Zi 0 wI) ?_
   refine cEJ 8 rfl H [0,0,0,0,0,0,0,0] h4 rfl Q21.spec Zm ?_
   rintro r4 w4 _ _ H ⟨A10,c_10,A11,c_11,A12,c_12,A13,c_13,rfl,rfl⟩ h5
   replace h5:=nf h5
   refine ⟨⟨[_,_,_,_,_,_,_,_],h5⟩,?_⟩
   refine Y6 [0,1] ?_
   refine T8 (T6 (Ze 4 ?_))
   refine rS (Zt 8 h5) fun _ w5 h6=>?_
   refine rFi [] ?_
   refine T8 (Za [4] ?_)
   cases H
   exact T7 (jR ⟨_,_,_,_,_,_,_,_,_,_,rfl,rfl⟩ h6 [0,0,0,0,0,0,0,0,0,0,0,0])
  refine T9 (T8 (T6 (Ze 4 ?_)))
  refine rS (Zt 8 h3) fun _ w6 h7=>?_
  refine rFi [] ?_
  refine T8 (Za [4] ?_)
  cases H
  exact T7 (jR ⟨_,_,_,_,_,_,_,_,_,_,rfl,rfl⟩ h7 [0,0,0,0,0,0,0,0,0,0,0,0])
 refine T9 (T8 (T8 (T6 (Ze 1 ?_))))
 refine cS H [0,0,0,0,0,0,0,0,0,0,0,0] h0 rfl Q94.spec Zm fun r5 w7 H h8=>?_
 refine rFi [0,1,6] ?_
 refine T8 (T6 (Ze 3 ?_))
 refine Z7 20 H (fun c7 H=>?_) fun c7 H=>?_
 ·refine rFi [0,1,6,27] ?_
  refine Zo ?_
  refine T8 (Za [4] ?_)
  cases H
  exact T7 (jR ⟨_,_,_,_,_,_,_,_,_,_,rfl,rfl⟩ h8 [0,0,0,0,0,0,0,0,0,0,0,0])
 refine rRL 4 0 h8 ?_
 refine rFi [0,1,6,27] ?_
 refine jIf H (fun c8 H=>?_) fun c8 H=>?_
 ·refine T8 (Za [4] ?_)
  cases H
  exact T7 (jR ⟨_,_,_,_,_,_,_,_,_,_,rfl,rfl⟩ h8 [0,0,0,0,0,0,0,0,0,0,0,0])
 refine T9 (T8 (T8 (Za [0,1,30] ?_)))
 refine T1 rfl (fun e=>by rw [c1] at e; cases e) (fun e=>?_)
 refine T9 (T8 (T8 (T6 (rRL 3 0 h8 ?_))))
 refine rFi [0,1,44] ?_
 refine jIf H (fun c9 H=>?_) fun c9 H=>?_
 ·refine Zv (sO h8 [0,8,8,8]) ?_
  have h9:=h8.drew
  refine Zr [0,1,2,4,5,6] ?_
  refine Zb 3 rfl (Zi 0 wI) ?_
  refine Zb 7 rfl (Zi 0 wI) ?_
  refine cEJ 8 rfl H [1,1,1,1,1,1,1,1] h9 rfl Q21.spec Zm ?_
  rintro r6 w8 _ _ H ⟨A14,c_14,A15,c_15,A16,c_16,A17,c_17,rfl,rfl⟩ h10
  replace h10:=nf h10
  refine ⟨⟨[_,_,_,_,_,_,_,_],h10⟩,?_⟩
  refine Y6 [0,1] ?_
  refine T8 (T6 (Ze 4 ?_))
  refine rS (Zt 8 h10) fun _ w9 h11=>?_
  refine rFi [] ?_
  refine T8 (Za [4] ?_)
  cases H
  exact T7 (jR ⟨_,_,_,_,_,_,_,_,_,_,rfl,rfl⟩ h11 [0,0,0,0,0,0,0,0,0,0,0,0])
 refine T9 (T8 (T6 (Ze 4 ?_)))
 refine rS (Zt 0 h8) fun _ w10 h12=>?_
 refine rFi [] ?_
 refine T8 (Za [4] ?_)
 cases H
 exact T7 (jR ⟨_,_,_,_,_,_,_,_,_,_,rfl,rfl⟩ h12 [0,0,0,0,0,0,0,0,0,0,0,0])

def Q57.f (a0:TD):Option (TV):=some a0.2.2
theorem Q57.spec {a0 b1 A1 c_1 r} (H:Q57.f a0=some r) :
  Spec prog 38 [.pointer (some ⟨b1,0,none⟩)] (B9 a0 b1 A1 c_1) [] (fun v l=>v=.agg #[.int .u64 r.1,.int .u64 r.2]/\l=B9 a0 b1 A1 c_1):=by
 refine Zf Tryz.func38 fun w0 F0 h0=>?_
 replace h0:=nf h0
 unfold Q57.f at H
 refine T8 (T6 (rB (Yp h0) fun b2 w1 h1=>?_))
 refine rFi [0,2] ?_
 refine T8 (T8 (Za [0,2,4] ?_))
 refine Z1 ?_
 refine T9 (T8 (T6 (rRL 3 1 h1 ?_)))
 refine rS (Zt 0 h1) fun _ w2 h2=>?_
 refine rFi [2] ?_
 cases H
 exact T7 (jR2 (Yg (Sh Z3 0 h2 rfl rfl rfl rfl) X2) ⟨rfl,rfl⟩ h2 [1,1])

def Q92.f (a0:Tg):Option (TV):=(Q57.f a0.2.1.1).bind fun r1=>(some r1)
theorem Q92.spec {a0 b1 b2 b3 b4 b5 b6 b7 A1 c_1 A2 c_2 A3 c_3 A4 c_4 A5 c_5 r} (H:Q92.f a0=some r) :
  Spec prog 20 [.pointer (some ⟨b1,0,none⟩)] (Ub a0 b1 b2 b3 b4 b5 b6 b7 A1 A2 A3 A4 A5 c_1 c_2 c_3 c_4 c_5) [] (fun v l=>v=.agg #[.int .u64 r.1,.int .u64 r.2]/\l=Ub a0 b1 b2 b3 b4 b5 b6 b7 A1 A2 A3 A4 A5 c_1 c_2 c_3 c_4 c_5):=by
 refine Zf Tryz.func20 fun w0 F0 h0=>?_
 replace h0:=nf h0
 unfold Q92.f at H
 refine T8 (T6 (rB (Yp h0) fun b8 w1 h1=>?_))
 refine rFi [0,2] ?_
 refine T8 (T8 (Za [0,2,4] ?_))
 refine Z1 ?_
 refine T9 (T8 (T6 (rRL 3 1 h1 ?_)))
 refine cS H [3,3] h1 rfl Q57.spec Zm fun r1 w2 H h2=>?_
 refine rS (Zt 2 h2) fun _ w3 h3=>?_
 refine rFi [2] ?_
 cases H
 exact T7 (jR2 (Yg (Sh Z3 0 h3 rfl rfl rfl rfl) X2) ⟨rfl,rfl⟩ h3 [3,3,1,1,1,1,1,1,1,1,1,1])

def Q139.l1:Nat->TA->TR->Ta->Tq->TD->TC->TG->Tw->TM->TW->(Int)->(Int)->(Int)->(Bool)->Option (Bool)
 | 0,_,_,_,_,_,_,_,_,_,_,_,_,_,_=>none
 | k+1,a2,a3,r1,x1,x2,x3,x4,x5,x6,x7,x8,x10,x11,x12=>(Q92.f (x1,(x2,x5,x6,x7,x3),x4,x8)).bind fun r5=>((Q86.f k (x1,(x2,x5,x6,x7,x3),x4,x8) r1.2.1 a2 1073741824).bind fun r6=>((Q92.f r6.2.2).bind fun r7=>(if (decide ((uH.wrap ((w64 (2*(w64 (x10 - 1))))))<(uH.wrap ((uH.wrap ((uH.wrap (r7.1 - r5.1))+r7.2)) - r5.2))))=true then (some false) else (if a3.length+([0]:List UInt8).length<=9223372036854775807 then ((Q86.f k r6.2.2 r1.2.1 (a3,(a3 ++ [0]),false) 9).bind fun r8=>((Q92.f r8.2.2).bind fun r9=>(if (decide (r8.2.1=0))=true then (if (decide ((uH.wrap ((uH.wrap ((uH.wrap (r9.1 - r7.1))+r9.2)) - r7.2))<=(uH.wrap ((w64 (2*(w64 ((r1.2.2.1.length:Int) - 1))))))))=true then ((Q140.f k).bind fun r10=>(some r10)) else (some false)) else (some false)))) else none))))
def Q139.l2:Nat->TA->TR->Ta->Tq->TD->TC->TG->Tw->TM->TW->(Int)->(Int)->(Int)->Option (Bool)
 | 0,_,_,_,_,_,_,_,_,_,_,_,_,_=>none
 | k+1,a2,a3,r1,x1,x2,x3,x4,x5,x6,x7,x8,x13,x14=>if (decide (x14<(r1.2.2.1.length:Int)))=true then (if 0<=x14/\x14<(r1.2.2.1.length:Int) then (Q139.l2 k a2 a3 r1 x1 x2 x3 x4 x5 x6 x7 x8 (w64 (x13+((gt r1.2.2.1 x14).length:Int))) (w64 (x14+1))) else none) else (Q139.l1 k a2 a3 r1 x1 x2 x3 x4 x5 x6 x7 x8 x13 x14 (decide (x14<(r1.2.2.1.length:Int))))
def Q139.l0:Nat->TA->TR->Ta->Tq->TD->TC->TG->Tw->TM->TW->(Int)->(Bool)->Option (Bool)
 | 0,_,_,_,_,_,_,_,_,_,_,_,_=>none
 | k+1,a2,a3,r1,x1,x2,x3,x4,x5,x6,x7,x8,x9=>if x9=true then ((Q140.f k).bind fun r4=>(some r4)) else (Q139.l2 k a2 a3 r1 x1 x2 x3 x4 x5 x6 x7 x8 0 0)
def Q139.f (k:Nat) (a0:Tq) (a1:Tp) (a2:TA) (a3:TR):Option (Bool):=(Q135.f k a0 a1).bind fun r1=>(Vz r1.1 (if (!r1.2.2.2)=true then ((Q140.f k).bind fun r3=>(some r3)) else (none)) (fun r2=>(if (!r1.2.2.2)=true then (Q139.l0 k a2 a3 r1 r2.1 r2.2.1.1 r2.2.1.2.2.2.2 r2.2.2.1 r2.2.1.2.1 r2.2.1.2.2.1 r2.2.1.2.2.2.1 r2.2.2.2 true) else ((Q89.f r2 r1.2.1).bind fun r11=>(Q139.l0 k a2 a3 r1 r11.2.1 r11.2.2.1.1 r11.2.2.1.2.2.2.2 r11.2.2.2.1 r11.2.2.1.2.1 r11.2.2.1.2.2.1 r11.2.2.1.2.2.2.1 r11.2.2.2.2 (!decide (r11.1=0)))))))
theorem Q139.spec {k a0 a1 a2 a3 A1 c_1 A2 c_2 A3 c_3 A4 c_4 r} (H:Q139.f k a0 a1 a2 a3=some r) :
  Spec prog 6 [.agg #[.int .i64 a0.1,.int .i64 a0.2.1,.int .i64 a0.2.2.1,.int .i64 a0.2.2.2.1,.int .i64 a0.2.2.2.2.1,.int .i64 a0.2.2.2.2.2.1,.int .i64 a0.2.2.2.2.2.2.1,.int .i64 a0.2.2.2.2.2.2.2],.agg #[.slice A1 a1.1.length c_1,.slice A2 a1.2.1.length c_2,.slice A3 a1.2.2.1.length c_3,.slice A4 a1.2.2.2.length c_4],.agg #[.string ⟨⟨a2.1⟩⟩,.string ⟨⟨a2.2.1⟩⟩,.bool a2.2.2],.string ⟨⟨a3⟩⟩] [] [R47 a1.1 A1 c_1,R69 a1.2.1 A2 c_2,R5 a1.2.2.1 A3 c_3,R5 a1.2.2.2 A4 c_4,tabC 1] (fun v l=>v=.bool r/\l=[]):=by
 refine Zf Tryz.func6 fun w0 F0 h0=>?_
 unfold Q139.f at H
 refine T8 (T6 (rB (Z5 h0) fun b1 w1 h1=>?_))
 refine rB (Z5 h1) fun b2 w2 h2=>?_
 refine rB (Z5 h2) fun b3 w3 h3=>?_
 refine rFi [3,4,5,6] ?_
 refine T8 (T6 (rLo 2 h3 ?_))
 refine rLo 1 h3 ?_
 obtain ⟨r1,q1,H⟩:=Yf H
 refine Zp (Z2 [] (Q135.spec q1) h3 rfl (gS [0,1,2,3,4])) ?_
 rintro _ w4 ⟨_,_,⟨v1,l1,ho1,A5,c_5,rfl,rfl,rfl⟩,h4⟩
 rcases ho2:r1.1 with _ | r2
 ·rw [ho2] at ho1
  obtain ⟨rfl,rfl⟩:=ho1
  replace H:=Gr ho2 H
  replace h4:=nf h4
  refine rFi [3,6,9,10,11,12] ?_
  have h5:=sO h4 [0]
  replace h5:=nf h5
  refine T8 (T8 (T6 (Ze 3 ?_)))
  refine Z7 30 H (fun c1 H=>?_) fun c1 H=>?_
  ·refine rFi [3,6,9,10,11,35] ?_
   refine Zo ?_
   refine T8 (T6 (cS H [] h5 rfl Q140.spec (gS [6]) fun r3 w5 H h6=>?_))
   refine rFi [8] ?_
   cases H
   exact T7 (jR0 h6 [])
  refine Ze 2 ?_
  exact nomatch H
 rw [ho2] at ho1
 obtain ⟨b4,b5,b6,A6,c_6,A7,c_7,b7,A8,c_8,b8,A9,c_9,b9,b10,A10,c_10,rfl,rfl⟩:=ho1
 replace H:=Gq ho2 H
 replace h4:=nf h4
 refine rFi [3,6,9,10,11,12] ?_
 have h7:=sO h4 [0,0,0,0,0,0,0,0,0,0,0,0,0]
 replace h7:=nf h7
 refine T8 (T8 (T5 (fun env w=>∃ k1 x1 x2 x3 x4 A11 c_11 x5 A12 c_12 x6 x7 A13 c_13 A14 c_14 A15 c_15 x8 x9,Q139.l0 k1 a2 a3 r1 x1 x2 x3 x4 x5 x6 x7 x8 x9=some r/\env=[(3,.string ⟨⟨a3⟩⟩),(6,.pointer (some ⟨b3,0,none⟩)),(9,.pointer (some ⟨b4,0,none⟩)),(10,.int .u32 r1.2.1),(11,.slice A5 r1.2.2.1.length c_5),(35,.bool x9)]/\St w0 F0 [X30 b3 a2.1 a2.2.1 a2.2.2,X86 b4 x1.1 x1.2.1 x1.2.2.1 x1.2.2.2.1 x1.2.2.2.2.1 x1.2.2.2.2.2.1 x1.2.2.2.2.2.2.1 x1.2.2.2.2.2.2.2 (.pointer (some ⟨b6,0,none⟩)) (.pointer (some ⟨b5,0,none⟩)) (.pointer (some ⟨b9,0,none⟩)) x8,Xc b6 x2.1 x2.2.1 A11 c_11 x2.2.2.1 x2.2.2.2,Xp b5 (.pointer (some ⟨b6,0,none⟩)) x5 A12 c_12 (.map (some b7)) x7 A13 c_13 (.pointer (some ⟨b8,0,none⟩)),Y5 .u32 (Value.int .i64) b7 x6,Yw b8 x3.1 A14 c_14 x3.2,Vl b9 (.pointer (some ⟨b10,0,none⟩)),X1 b10 x4.1 x4.2.1 x4.2.2 A15 c_15,O5 x2.2.1 A11 c_11,Xo x5 A12 c_12,O3 x7 A13 c_13,Yx x3.1 A14 c_14,O63 x4.2.2 A15 c_15] [R62 r1.2.2.1 A5 c_5,tabC 1] w/\k1<=k) ?_ ?_))
 ·refine T6 (Ze 3 ?_)
  refine Z7 30 H (fun c7 H=>?_) fun c7 H=>?_
  ·refine rFi [3,6,9,10,11,35] ?_
   have h36:=(sOR h7 [12,0,1,0,2,3,4,4,0,0,0,0,0] [0,5])
   exact ⟨k,_,_,_,_,_,_,_,_,_,_,_,_,_,_,_,_,_,_,_,H,rfl,h36,Sa _⟩
  refine Ze 2 ?_
  refine cE H [0,0,0,0,0,0,0,0,0,0,0,0] h7 rfl Q89.spec Zm ?_
  rintro r11 w24 _ _ H ⟨A29,c_29,A30,c_30,A31,c_31,A32,c_32,A33,c_33,rfl,rfl⟩ h37
  replace h37:=nf h37
  refine rFi [3,6,9,10,11,35] ?_
  have h38:=(sOR h37 [12,0,1,0,2,3,4,4,0,0,0,0,0] [0,5])
  exact ⟨k,_,_,_,_,_,_,_,_,_,_,_,_,_,_,_,_,_,_,_,H,rfl,h38,Sa _⟩
 rintro env w7 ⟨k1,x1,x2,x3,x4,A11,c_11,x5,A12,c_12,x6,x7,A13,c_13,A14,c_14,A15,c_15,x8,x9,H,rfl,h8,hk1⟩
 rcases k1 with _ | k1
 ·exact z0 H
 rw [Q139.l0] at H
 refine jIf H (fun c2 H=>?_) fun c2 H=>?_
 ·refine T8 (T6 (cS H [] h8 rfl Q140.spec (gS [14]) fun r4 w8 H h9=>?_))
  refine rFi [8] ?_
  have h10:=sO h9 []
  replace h10:=nf h10
  cases H
  exact T7 (jR0 h10 [])
 refine T9 (T8 (Za [3,6,9,10,11,13] ?_))
 refine T8 (T8 (Za [3,6,9,10,11,13,14] ?_))
 refine T5 (fun env w=>∃ k2 x10 x11 x12,Q139.l1 k2 a2 a3 r1 x1 x2 x3 x4 x5 x6 x7 x8 x10 x11 x12=some r/\env=[(3,.string ⟨⟨a3⟩⟩),(6,.pointer (some ⟨b3,0,none⟩)),(9,.pointer (some ⟨b4,0,none⟩)),(10,.int .u32 r1.2.1),(11,.slice A5 r1.2.2.1.length c_5),(13,.int .i64 x10),(14,.int .i64 x11),(40,.bool x12)]/\St w0 F0 [X30 b3 a2.1 a2.2.1 a2.2.2,X86 b4 x1.1 x1.2.1 x1.2.2.1 x1.2.2.2.1 x1.2.2.2.2.1 x1.2.2.2.2.2.1 x1.2.2.2.2.2.2.1 x1.2.2.2.2.2.2.2 (.pointer (some ⟨b6,0,none⟩)) (.pointer (some ⟨b5,0,none⟩)) (.pointer (some ⟨b9,0,none⟩)) x8,Xc b6 x2.1 x2.2.1 A11 c_11 x2.2.2.1 x2.2.2.2,Xp b5 (.pointer (some ⟨b6,0,none⟩)) x5 A12 c_12 (.map (some b7)) x7 A13 c_13 (.pointer (some ⟨b8,0,none⟩)),Y5 .u32 (Value.int .i64) b7 x6,Yw b8 x3.1 A14 c_14 x3.2,Vl b9 (.pointer (some ⟨b10,0,none⟩)),X1 b10 x4.1 x4.2.1 x4.2.2 A15 c_15,O5 x2.2.1 A11 c_11,Xo x5 A12 c_12,O3 x7 A13 c_13,Yx x3.1 A14 c_14,O63 x4.2.2 A15 c_15] [R62 r1.2.2.1 A5 c_5,tabC 1] w/\k2<=k1) ?_ ?_
 ·refine T0 ?_
  have h35:=(sOR h8 [0,0,0,0,0,0,0,0,0,0,0,0,0] [0,1])
  refine T4 (fun kk env w=>∃ x13 x14,Q139.l2 kk a2 a3 r1 x1 x2 x3 x4 x5 x6 x7 x8 x13 x14=some r/\env=[(3,.string ⟨⟨a3⟩⟩),(6,.pointer (some ⟨b3,0,none⟩)),(9,.pointer (some ⟨b4,0,none⟩)),(10,.int .u32 r1.2.1),(11,.slice A5 r1.2.2.1.length c_5),(13,.int .i64 x13),(14,.int .i64 x14)]/\St w0 F0 [X30 b3 a2.1 a2.2.1 a2.2.2,X86 b4 x1.1 x1.2.1 x1.2.2.1 x1.2.2.2.1 x1.2.2.2.2.1 x1.2.2.2.2.2.1 x1.2.2.2.2.2.2.1 x1.2.2.2.2.2.2.2 (.pointer (some ⟨b6,0,none⟩)) (.pointer (some ⟨b5,0,none⟩)) (.pointer (some ⟨b9,0,none⟩)) x8,Xc b6 x2.1 x2.2.1 A11 c_11 x2.2.2.1 x2.2.2.2,Xp b5 (.pointer (some ⟨b6,0,none⟩)) x5 A12 c_12 (.map (some b7)) x7 A13 c_13 (.pointer (some ⟨b8,0,none⟩)),Y5 .u32 (Value.int .i64) b7 x6,Yw b8 x3.1 A14 c_14 x3.2,Vl b9 (.pointer (some ⟨b10,0,none⟩)),X1 b10 x4.1 x4.2.1 x4.2.2 A15 c_15,O5 x2.2.1 A11 c_11,Xo x5 A12 c_12,O3 x7 A13 c_13,Yx x3.1 A14 c_14,O63 x4.2.2 A15 c_15] [R62 r1.2.2.1 A5 c_5,tabC 1] w/\kk<=k1) (k:=k1) ⟨_,_,H,rfl,h35,Sa _⟩ ?_
  rintro k3 env w23 ⟨x13,x14,H,rfl,h31,hk3⟩
  rcases k3 with _ | k3
  ·exact z0 H
  rw [Q139.l2] at H
  refine T8 (T8 (Za [3,6,9,10,11,13,14,40] ?_))
  refine jIf H (fun c6 H=>?_) fun c6 H=>?_
  ·refine T9 (T8 (T0 (T6 (Ze 3 ?_))))
   obtain ⟨⟨p2,p3⟩,H⟩:=Zh H
   have e1:=Zy h31.wh (Zg 13) p2 p3
   refine Zj (Zc e1 p2 p3) ?_
   obtain ⟨cs1,h32⟩:=h31.elem 0 rfl p2 p3
   obtain ⟨A28,c_28,rfl⟩:=Xh 0 h32
   refine Zj (Uy 0 h32.wht (Zg 14)) ?_
   refine rFi [3,6,9,10,11,13,14] ?_
   refine Za [3,6,9,10,11,13,14] ?_
   have h33:=(sOR h32 [0,0,0,0,0,0,0,0,0,0,0,0,0] [2,3])
   exact ⟨k3,by omega,_,_,H,rfl,h33,by omega⟩
  refine T3 ?_
  have h34:=(sOR h31 [0,0,0,0,0,0,0,0,0,0,0,0,0] [0,1])
  exact ⟨k3,_,_,_,H,rfl,h34,by omega⟩
 rintro env w10 ⟨k2,x10,x11,x12,H,rfl,h11,hk2⟩
 rcases k2 with _ | k2
 ·exact z0 H
 rw [Q139.l1] at H
 refine T8 (T6 (Ze 1 ?_))
 refine cS H [1,2,1,5,5,1,4,1,3,1,1,1] h11 rfl Q92.spec Zm fun r5 w11 H h12=>?_
 refine rB (Yp h12) fun b11 w12 h13=>?_
 refine rS (Zt 0 h13) fun _ w13 h14=>?_
 refine rFi [3,6,9,10,11,13,15] ?_
 refine T8 (T6 (rRL 2 13 h14 ?_))
 refine cE H [1,1,1,1,1,1,1,1,1,1,1,1] h14 rfl Q86.spec Zm ?_
 rintro r6 w14 _ _ H ⟨A16,c_16,A17,c_17,A18,c_18,A19,c_19,A20,c_20,A21,c_21,rfl,rfl⟩ h15
 replace h15:=nf h15
 refine rFi [3,9,10,11,13,15] ?_
 have h16:=sO h15 [1,1,1,1,1,1,1,1,1,1,1,1,1]
 replace h16:=nf h16
 refine T8 (T6 (Ze 1 ?_))
 refine cS H [0,0,0,0,0,0,0,0,0,0,0,0] h16 rfl Q92.spec Zm fun r7 w15 H h17=>?_
 refine rB (Yp h17) fun b12 w16 h18=>?_
 refine rS (Zt 0 h18) fun _ w17 h19=>?_
 refine rFi [3,9,10,11,13,15,16] ?_
 refine T8 (T8 (T6 (rRL 1 0 h19 ?_)))
 refine rRL 1 13 h19 ?_
 refine rRL 2 0 h19 ?_
 refine rRL 2 13 h19 ?_
 refine rFi [3,9,10,11,16,73] ?_
 refine jIf H (fun c3 H=>?_) fun c3 H=>?_
 ·refine T8 (Za [8] ?_)
  have h20:=sO h19 []
  replace h20:=nf h20
  cases H
  exact T7 (jR0 h20 [])
 refine T9 (T8 (T6 (Ze 4 ?_)))
 obtain ⟨p1,H⟩:=Zh H
 refine Zj (Zi6 p1) ?_
 refine Ze 1 ?_
 refine cE H [1,1,1,1,1,1,1,1,1,1,1,1] h19 rfl Q86.spec Zm ?_
 rintro r8 w18 _ _ H ⟨A22,c_22,A23,c_23,A24,c_24,A25,c_25,A26,c_26,A27,c_27,rfl,rfl⟩ h21
 replace h21:=nf h21
 refine rFi [9,11,16,18] ?_
 have h22:=sO h21 [1,1,1,1,1,1,1,1,1,1,1,1,1]
 replace h22:=nf h22
 refine T8 (T6 (Ze 1 ?_))
 refine cS H [0,0,0,0,0,0,0,0,0,0,0,0] h22 rfl Q92.spec Zm fun r9 w19 H h23=>?_
 refine rB (Yp h23) fun b13 w20 h24=>?_
 refine rS (Zt 0 h24) fun _ w21 h25=>?_
 refine rFi [11,16,18,19] ?_
 have h26:=sO h25 [0,12]
 replace h26:=nf h26
 refine T8 (T6 (Ze 3 ?_))
 refine Z7 88 H (fun c4 H=>?_) fun c4 H=>?_
 ·refine rRL 1 0 h26 ?_
  refine rRL 1 1 h26 ?_
  refine rRL 2 0 h26 ?_
  refine rRL 2 1 h26 ?_
  refine Ze 9 ?_
  refine Z7 107 H (fun c5 H=>?_) fun c5 H=>?_
  ·refine cS H [] h26 rfl Q140.spec (gS [3]) fun r10 w22 H h27=>?_
   refine rFi [8] ?_
   have h28:=sO h27 []
   replace h28:=nf h28
   cases H
   exact T7 (jR0 h28 [])
  refine rFi [8] ?_
  have h29:=sO h26 []
  replace h29:=nf h29
  cases H
  exact T7 (jR0 h29 [])
 refine rFi [8] ?_
 have h30:=sO h26 []
 replace h30:=nf h30
 cases H
 exact T7 (jR0 h30 [])

end Go.SK.T
