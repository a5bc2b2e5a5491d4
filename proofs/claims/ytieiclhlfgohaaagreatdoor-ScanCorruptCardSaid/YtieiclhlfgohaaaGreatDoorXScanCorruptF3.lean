/- The functions, further. -/
import Derived.Test.YtieiclhlfgohaaaGreatDoorXScanCorruptF2
set_option linter.unusedVariables false
set_option linter.unusedSimpArgs false
set_option maxRecDepth 20000
set_option maxHeartbeats 40000000
namespace Go.SK.T
open Go Go.SK Go.Proofs
open Tryz (prog)
mutual
def Q89.l0:Nat->Td->TC->Tv->Tb->(Bool)->Option Tc
 | 0,_,_,_,_,_=>none
 | k+1,a0,a3,a4,r1,x1=>if (decide (r1.1.1=0))=true then ((Q63.f k r1.1.2.2.2.2 a3 (r1.1.2.2.2.2.length:Int)).bind fun r2=>((Q62.f k r2 a4).bind fun r3=>(if (0:Int)<=(if (w64 (a0.2.1 - (a0.2.2.length:Int)))<(r3.length:Int) then (w64 (a0.2.1 - (a0.2.2.length:Int))) else (r3.length:Int))/\(if (w64 (a0.2.1 - (a0.2.2.length:Int)))<(r3.length:Int) then (w64 (a0.2.1 - (a0.2.2.length:Int))) else (r3.length:Int))<=(r3.length:Int) then (if (a0.2.2.length+(r3.take ((if (w64 (a0.2.1 - (a0.2.2.length:Int)))<(r3.length:Int) then (w64 (a0.2.1 - (a0.2.2.length:Int))) else (r3.length:Int))).toNat).length)*32<=140737488355328 then (some (0,(r1.2.2,a0.2.1,(a0.2.2 ++ (r3.take ((if (w64 (a0.2.1 - (a0.2.2.length:Int)))<(r3.length:Int) then (w64 (a0.2.1 - (a0.2.2.length:Int))) else (r3.length:Int))).toNat))))) else none) else none))) else ((Q13.f k r1.1.2.2.2.1 a3).bind fun r4=>((Q12.f k a4 r4).bind fun r5=>(Q89.l1 k a3 r1 r5 r1.2.2.1 r1.2.2.2.1.1 r1.2.2.2.1.2.2.2.2 r1.2.2.2.2.1 r1.2.2.2.1.2.1 r1.2.2.2.1.2.2.1 r1.2.2.2.1.2.2.2.1 r1.2.2.2.2.2 a0.2.1 a0.2.2 0)))
def Q89.l1:Nat->TC->Tb->Ts->Tr->TE->TB->TH->Tx->TN->TX->(Int)->(Int)->TA->(Int)->Option Tc
 | 0,_,_,_,_,_,_,_,_,_,_,_,_,_,_=>none
 | k+1,a3,r1,r5,x2,x3,x4,x5,x6,x7,x8,x9,x10,x11,x12=>if (decide (x12<(r1.1.2.1.length:Int)))=true then (if 0<=x12/\x12<(r1.1.2.1.length:Int) then ((Q61.f r1.1.2.2.1 x12 a3).bind fun r6=>(if (!r6.2)=true then (Q89.l1 k a3 r1 r5 x2 x3 x4 x5 x6 x7 x8 x9 x10 x11 (w64 (x12+1))) else ((Q88.f ((x2,(x3,x6,x7,x8,x4),x5,x9),x10,x11)).bind fun r7=>(if r7=true then (some (0,((x2,(x3,x6,x7,x8,x4),x5,x9),x10,x11))) else ((Q13.f k r5 r6.1).bind fun r8=>((Q89.f k ((x2,(x3,x6,x7,x8,x4),x5,x9),x10,x11) (gt r1.1.2.1 x12) (w64 (r1.1.1 - 1)) r6.1 r8).bind fun r9=>(if (!decide (r9.1=0))=true then (some r9) else (Q89.l1 k a3 r1 r5 r9.2.1.1 r9.2.1.2.1.1 r9.2.1.2.1.2.2.2.2 r9.2.1.2.2.1 r9.2.1.2.1.2.1 r9.2.1.2.1.2.2.1 r9.2.1.2.1.2.2.2.1 r9.2.1.2.2.2 r9.2.2.1 r9.2.2.2 (w64 (x12+1)))))))))) else none) else (some (0,((x2,(x3,x6,x7,x8,x4),x5,x9),x10,x11)))
def Q89.f:Nat->Td->(Int)->(Int)->TC->Tv->Option Tc
 | 0,_,_,_,_,_=>none
 | k+1,a0,a1,a2,a3,a4=>(Q90.f k a0.1 a1).bind fun r1=>(if (!decide (r1.2.1=0))=true then (some (r1.2.1,(r1.2.2,a0.2.1,a0.2.2))) else (if (decide (0<=a2))=true then (if (!decide (r1.1.1=a2))=true then (some (12,(r1.2.2,a0.2.1,a0.2.2))) else (Q89.l0 k a0 a3 a4 r1 (!decide (r1.1.1=a2)))) else (Q89.l0 k a0 a3 a4 r1 false)))
end
theorem Q89.spec:∀ {k a0 a1 a2 a3 a4 A7 c_7 b1 b2 b3 b4 b5 b6 b7 b8 A1 c_1 A2 c_2 A3 c_3 A4 c_4 A5 c_5 A6 c_6 r},Q89.f k a0 a1 a2 a3 a4=some r->
  Spec prog 26 [.pointer (some ⟨b1,0,none⟩),.int .u32 a1,.int .i64 a2,.agg #[.string ⟨⟨a3.1⟩⟩,.string ⟨⟨a3.2.1⟩⟩,.bool a3.2.2],.slice A7 a4.length c_7] (Zkl a0 b1 b2 b3 b4 b5 b6 b7 b8 A1 A2 A3 A4 A5 A6 c_1 c_2 c_3 c_4 c_5 c_6) [R69 a4 A7 c_7] (fun v l=>∃ A_0 c_0 A_1 c_1 A_2 c_2 A_3 c_3 A_4 c_4 A_5 c_5,v=.int .i64 r.1/\l=Zkl r.2 b1 b2 b3 b4 b5 b6 b7 b8 A_0 A_1 A_2 A_3 A_4 A_5 c_0 c_1 c_2 c_3 c_4 c_5):=by
 intro k
 induction k using Nat.strongRecOn with
 | _ k ih=>
 intro a0 a1 a2 a3 a4 A7 c_7 b1 b2 b3 b4 b5 b6 b7 b8 A1 c_1 A2 c_2 A3 c_3 A4 c_4 A5 c_5 A6 c_6 r H
 cases k with
 | zero=>rw [Q89.f] at H; cases H
 | succ kr=>
 refine Zi Tryz.func26 fun w0 F0 h0=>?_
 replace h0:=nf h0
 rw [Q89.f] at H
 refine T9 (T7 ?_)
 refine rB (Z8 h0) fun b9 w1 h1=>?_
 refine Ze [0,1,2,4,8] rfl ?_
 refine T9 (T7 ?_)
 refine Zd 3 ?_
 refine Zc (Za 1 h1.wht) ?_
 refine Zd 1 ?_
 refine cE H [2,2,2,2,2,2,2,2,2,2,2,2] h1 rfl Q90.spec Zo ?_
 rintro r1 w2 _ _ H ⟨A8,c_8,A9,c_9,A10,c_10,A11,c_11,A12,c_12,A13,c_13,A14,c_14,A15,c_15,A16,c_16,rfl,rfl⟩ h2
 replace h2:=nf h2
 refine Zd 3 ?_
 refine rB (Yv h2) fun b10 w3 h3=>?_
 refine rS (Zv 0 h3) fun _ w4 h4=>?_
 refine Ze [0,2,4,8,11,12] rfl ?_
 refine T9 (T6 (fun env w=>∃ k1 x1,Q89.l0 k1 a0 a3 a4 r1 x1=some r/\env=[(0,.pointer (some ⟨b1,0,none⟩)),(4,.slice A7 a4.length c_7),(8,.pointer (some ⟨b9,0,none⟩)),(11,.pointer (some ⟨b10,0,none⟩)),(32,.bool x1)]/\St w0 F0 [X78 b1 (.pointer (some ⟨b2,0,none⟩)) a0.2.1 a0.2.2 A6 c_6,X86 b2 r1.2.2.1.1 r1.2.2.1.2.1 r1.2.2.1.2.2.1 r1.2.2.1.2.2.2.1 r1.2.2.1.2.2.2.2.1 r1.2.2.1.2.2.2.2.2.1 r1.2.2.1.2.2.2.2.2.2.1 r1.2.2.1.2.2.2.2.2.2.2 (.pointer (some ⟨b4,0,none⟩)) (.pointer (some ⟨b3,0,none⟩)) (.pointer (some ⟨b7,0,none⟩)) r1.2.2.2.2.2,Xd b4 r1.2.2.2.1.1.1 r1.2.2.2.1.1.2.1 A12 c_12 r1.2.2.2.1.1.2.2.1 r1.2.2.2.1.1.2.2.2,Xr b3 (.pointer (some ⟨b4,0,none⟩)) r1.2.2.2.1.2.1 A13 c_13 (.map (some b5)) r1.2.2.2.1.2.2.2.1 A14 c_14 (.pointer (some ⟨b6,0,none⟩)),Y8 .u32 (Value.int .i64) b5 r1.2.2.2.1.2.2.1,Y0 b6 r1.2.2.2.1.2.2.2.2.1 A15 c_15 r1.2.2.2.1.2.2.2.2.2,Vv b7 (.pointer (some ⟨b8,0,none⟩)),X4 b8 r1.2.2.2.2.1.1 r1.2.2.2.2.1.2.1 r1.2.2.2.2.1.2.2 A16 c_16,X30 b9 a3.1 a3.2.1 a3.2.2,X55 b10 r1.1.1 r1.1.2.1 A8 c_8 r1.1.2.2.1 A9 c_9 r1.1.2.2.2.1 A10 c_10 r1.1.2.2.2.2 A11 c_11,O5 r1.2.2.2.1.1.2.1 A12 c_12,Xs r1.2.2.2.1.2.1 A13 c_13,O3 r1.2.2.2.1.2.2.2.1 A14 c_14,Y1 r1.2.2.2.1.2.2.2.2.1 A15 c_15,O63 r1.2.2.2.2.1.2.2 A16 c_16,O47 a0.2.2 A6 c_6,O32 r1.1.2.1 A8 c_8,O9 r1.1.2.2.1 A9 c_9,O69 r1.1.2.2.2.1 A10 c_10,O47 r1.1.2.2.2.2 A11 c_11] [R69 a4 A7 c_7] w/\k1<=kr) ?_ ?_)
 ·refine T1 (T9 (Zb [0,2,4,8,11,12,28] ?_))
  refine jIf H (fun c6 H=>?_) fun c6 H=>?_
  ·refine T9 (Zb [10] ?_)
   have h58:=sO h4 [5,5,5,5,5,5,5,5,5,5,5,5,6,6]
   replace h58:=nf h58
   cases H
   exact T8 (jR ⟨_,_,_,_,_,_,_,_,_,_,_,_,rfl,rfl⟩ h58 [12,0,0,0,0,0,0,0,0,0,0,0,0,0])
  refine T9 (T7 ?_)
  refine Zd 3 ?_
  refine Z7 35 H (fun c7 H=>?_) fun c7 H=>?_
  ·refine Zd 1 ?_
   refine Zc (Za 0 h4.wht) ?_
   refine Ze [0,4,8,11,32] rfl ?_
   refine jIf H (fun c8 H=>?_) fun c8 H=>?_
   ·refine T9 (Zb [10] ?_)
    have h59:=sO h4 [5,5,5,5,5,5,5,5,5,5,5,5,6,6]
    replace h59:=nf h59
    cases H
    exact T8 (jR ⟨_,_,_,_,_,_,_,_,_,_,_,_,rfl,rfl⟩ h59 [12,0,0,0,0,0,0,0,0,0,0,0,0,0])
   refine Sa ?_
   have h60:=(sOR h4 [18,5,6,5,7,8,9,9,10,0,4,4,4,4,4,4,0,0,0,0] [0])
   exact ⟨kr,_,H,rfl,h60,Sb _⟩
  refine Ze [0,4,8,11,32] rfl ?_
  refine Z4 ?_
  refine Sa ?_
  have h61:=(sOR h4 [18,5,6,5,7,8,9,9,10,0,4,4,4,4,4,4,0,0,0,0] [0])
  exact ⟨kr,_,H,rfl,h61,Sb _⟩
 rintro env w6 ⟨k1,x1,H,rfl,h5,hk1⟩
 rcases k1 with _ | k1
 ·exact z0 H
 rw [Q89.l0] at H
 refine T9 (T9 (T7 ?_))
 refine Zd 1 ?_
 refine Zc (Za 9 h5.wht) ?_
 refine Ze [0,4,8,11,43] rfl ?_
 refine jIf H (fun c1 H=>?_) fun c1 H=>?_
 ·refine T9 (T7 ?_)
  refine Zd 1 ?_
  refine Zc (Za 9 h5.wht) ?_
  refine Zc (Za 8 h5.wht) ?_
  refine Zd 1 ?_
  refine Zc (Za 9 h5.wht) ?_
  refine Zd 1 ?_
  refine cE H [] h5 rfl Q63.spec (Xh (gO 19) Zo) ?_
  rintro r2 w7 _ _ H ⟨A17,c_17,rfl,rfl⟩ h6
  replace h6:=nf h6
  refine Zd 1 ?_
  refine cE H [] h6 rfl Q62.spec (Xh (gO 0) (gS [21])) ?_
  rintro r3 w8 _ _ H ⟨A18,c_18,rfl,rfl⟩ h7
  replace h7:=nf h7
  refine Ze [0,13] rfl ?_
  have h8:=sO h7 [0,1,1,1,1,1,1,1,1,3,3,3,3,3,3]
  replace h8:=nf h8
  refine T9 ?_
  obtain ⟨⟨p1,p2⟩,H⟩:=Zk H
  obtain ⟨p3,H⟩:=Zk H
  refine T6 (fun env w=>∃(A19:_) (c_19:_),env=[]/\St w0 F0 [X78 b1 (.pointer (some ⟨b2,0,none⟩)) a0.2.1 (a0.2.2 ++ (r3.take ((if (w64 (a0.2.1 - (a0.2.2.length:Int)))<(r3.length:Int) then (w64 (a0.2.1 - (a0.2.2.length:Int))) else (r3.length:Int))).toNat)) A19 c_19,O47 (a0.2.2 ++ (r3.take ((if (w64 (a0.2.1 - (a0.2.2.length:Int)))<(r3.length:Int) then (w64 (a0.2.1 - (a0.2.2.length:Int))) else (r3.length:Int))).toNat)) A19 c_19,O47 r3 A18 c_18,X86 b2 r1.2.2.1.1 r1.2.2.1.2.1 r1.2.2.1.2.2.1 r1.2.2.1.2.2.2.1 r1.2.2.1.2.2.2.2.1 r1.2.2.1.2.2.2.2.2.1 r1.2.2.1.2.2.2.2.2.2.1 r1.2.2.1.2.2.2.2.2.2.2 (.pointer (some ⟨b4,0,none⟩)) (.pointer (some ⟨b3,0,none⟩)) (.pointer (some ⟨b7,0,none⟩)) r1.2.2.2.2.2,Xd b4 r1.2.2.2.1.1.1 r1.2.2.2.1.1.2.1 A12 c_12 r1.2.2.2.1.1.2.2.1 r1.2.2.2.1.1.2.2.2,Xr b3 (.pointer (some ⟨b4,0,none⟩)) r1.2.2.2.1.2.1 A13 c_13 (.map (some b5)) r1.2.2.2.1.2.2.2.1 A14 c_14 (.pointer (some ⟨b6,0,none⟩)),Y8 .u32 (Value.int .i64) b5 r1.2.2.2.1.2.2.1,Y0 b6 r1.2.2.2.1.2.2.2.2.1 A15 c_15 r1.2.2.2.1.2.2.2.2.2,Vv b7 (.pointer (some ⟨b8,0,none⟩)),X4 b8 r1.2.2.2.2.1.1 r1.2.2.2.2.1.2.1 r1.2.2.2.2.1.2.2 A16 c_16,O5 r1.2.2.2.1.1.2.1 A12 c_12,Xs r1.2.2.2.1.2.1 A13 c_13,O3 r1.2.2.2.1.2.2.2.1 A14 c_14,Y1 r1.2.2.2.1.2.2.2.2.1 A15 c_15,O63 r1.2.2.2.2.1.2.2 A16 c_16] [R69 a4 A7 c_7] w) ?_ ?_
  ·refine Zx (sO h8 [2,2,2,2,2,2,2]) ?_
   have h11:=h8.drew
   refine Zl [0,1,2,3,5,6,7,8,9,10,12,13,14] ?_
   refine HJ.named fun G E hE hG=>?_
   have j22:∀ w8,St w0 F0 [O47 r3 A18 c_18,X78 b1 (.pointer (some ⟨b2,0,none⟩)) a0.2.1 a0.2.2 A6 c_6,X86 b2 r1.2.2.1.1 r1.2.2.1.2.1 r1.2.2.1.2.2.1 r1.2.2.1.2.2.2.1 r1.2.2.1.2.2.2.2.1 r1.2.2.1.2.2.2.2.2.1 r1.2.2.1.2.2.2.2.2.2.1 r1.2.2.1.2.2.2.2.2.2.2 (.pointer (some ⟨b4,0,none⟩)) (.pointer (some ⟨b3,0,none⟩)) (.pointer (some ⟨b7,0,none⟩)) r1.2.2.2.2.2,Xd b4 r1.2.2.2.1.1.1 r1.2.2.2.1.1.2.1 A12 c_12 r1.2.2.2.1.1.2.2.1 r1.2.2.2.1.1.2.2.2,Xr b3 (.pointer (some ⟨b4,0,none⟩)) r1.2.2.2.1.2.1 A13 c_13 (.map (some b5)) r1.2.2.2.1.2.2.2.1 A14 c_14 (.pointer (some ⟨b6,0,none⟩)),Y8 .u32 (Value.int .i64) b5 r1.2.2.2.1.2.2.1,Y0 b6 r1.2.2.2.1.2.2.2.2.1 A15 c_15 r1.2.2.2.1.2.2.2.2.2,Vv b7 (.pointer (some ⟨b8,0,none⟩)),X4 b8 r1.2.2.2.2.1.1 r1.2.2.2.2.1.2.1 r1.2.2.2.2.1.2.2 A16 c_16,O5 r1.2.2.2.1.1.2.1 A12 c_12,Xs r1.2.2.2.1.2.1 A13 c_13,O3 r1.2.2.2.1.2.2.2.1 A14 c_14,Y1 r1.2.2.2.1.2.2.2.2.1 A15 c_15,O63 r1.2.2.2.2.1.2.2 A16 c_16,O47 a0.2.2 A6 c_6] [R69 a4 A7 c_7] w8->G [19,18,17,16,15,11,4,14,13,12,10,9,8,7,6,5,3,2,1,0] ((72,.slice A18 (r3.take ((if (w64 (a0.2.1 - (a0.2.2.length:Int)))<(r3.length:Int) then (w64 (a0.2.1 - (a0.2.2.length:Int))) else (r3.length:Int))).toNat).length c_18) :: (71,.int .i64 (if (w64 (a0.2.1 - (a0.2.2.length:Int)))<(r3.length:Int) then (w64 (a0.2.1 - (a0.2.2.length:Int))) else (r3.length:Int))) :: (70,.int .i64 (w64 (a0.2.1 - (a0.2.2.length:Int)))) :: (69,.int .i64 (a0.2.2.length:Int)) :: (68,.slice A6 a0.2.2.length c_6) :: (64,.int .i64 a0.2.1) :: (57,.slice A6 a0.2.2.length c_6) :: E) w8:=by
    intro w8 h11
    subst hE
    refine (hG _ _ _).1 ?_
    refine Yh 20 rfl (Zu 14 h11 ((Gives.of 0 rfl Yi).trans (Uf (.pair .str .str) (r3.take ((if (w64 (a0.2.1 - (a0.2.2.length:Int)))<(r3.length:Int) then (w64 (a0.2.1 - (a0.2.2.length:Int))) else (r3.length:Int))).toNat) (if (w64 (a0.2.1 - (a0.2.2.length:Int)))<(r3.length:Int) then (w64 (a0.2.1 - (a0.2.2.length:Int))) else (r3.length:Int)) p1 p2)) p3) ?_
    rintro _ w77 ⟨A27,c_27,rfl,h26⟩
    replace h26:=nf h26
    refine ⟨⟨[_,_,_,_,_,_,_,_],(sO h26 [0,0,0,7,7,7,7,7,0,0,0,0,0,0,0])⟩,?_⟩
    refine Zl [21,22] ?_
    refine Yh 23 rfl (Zv 2 h26) ?_
    intro _ w78 h27
    replace h27:=nf h27
    refine ⟨⟨[_,_,_,_,_,_,_,_],(sO h27 [0,0,0,7,7,7,7,7,0,0,0,0,0,0,0])⟩,?_⟩
    refine Z0 [] ?_
    exact Y6 ⟨A27,c_27,rfl,(sOR h27 [0,0,0,0,0,0,0,0,0,0,0,0,0,0,0] [0])⟩
   have j21:∀ w8,St w0 F0 [O47 r3 A18 c_18,X78 b1 (.pointer (some ⟨b2,0,none⟩)) a0.2.1 a0.2.2 A6 c_6,X86 b2 r1.2.2.1.1 r1.2.2.1.2.1 r1.2.2.1.2.2.1 r1.2.2.1.2.2.2.1 r1.2.2.1.2.2.2.2.1 r1.2.2.1.2.2.2.2.2.1 r1.2.2.1.2.2.2.2.2.2.1 r1.2.2.1.2.2.2.2.2.2.2 (.pointer (some ⟨b4,0,none⟩)) (.pointer (some ⟨b3,0,none⟩)) (.pointer (some ⟨b7,0,none⟩)) r1.2.2.2.2.2,Xd b4 r1.2.2.2.1.1.1 r1.2.2.2.1.1.2.1 A12 c_12 r1.2.2.2.1.1.2.2.1 r1.2.2.2.1.1.2.2.2,Xr b3 (.pointer (some ⟨b4,0,none⟩)) r1.2.2.2.1.2.1 A13 c_13 (.map (some b5)) r1.2.2.2.1.2.2.2.1 A14 c_14 (.pointer (some ⟨b6,0,none⟩)),Y8 .u32 (Value.int .i64) b5 r1.2.2.2.1.2.2.1,Y0 b6 r1.2.2.2.1.2.2.2.2.1 A15 c_15 r1.2.2.2.1.2.2.2.2.2,Vv b7 (.pointer (some ⟨b8,0,none⟩)),X4 b8 r1.2.2.2.2.1.1 r1.2.2.2.2.1.2.1 r1.2.2.2.2.1.2.2 A16 c_16,O5 r1.2.2.2.1.1.2.1 A12 c_12,Xs r1.2.2.2.1.2.1 A13 c_13,O3 r1.2.2.2.1.2.2.2.1 A14 c_14,Y1 r1.2.2.2.1.2.2.2.2.1 A15 c_15,O63 r1.2.2.2.2.1.2.2 A16 c_16,O47 a0.2.2 A6 c_6] [R69 a4 A7 c_7] w8->G [19,18,17,16,15,11,14,13,12,10,9,8,7,6,5,3,2,1,0] ((72,.slice A18 (r3.take ((if (w64 (a0.2.1 - (a0.2.2.length:Int)))<(r3.length:Int) then (w64 (a0.2.1 - (a0.2.2.length:Int))) else (r3.length:Int))).toNat).length c_18) :: (71,.int .i64 (if (w64 (a0.2.1 - (a0.2.2.length:Int)))<(r3.length:Int) then (w64 (a0.2.1 - (a0.2.2.length:Int))) else (r3.length:Int))) :: (70,.int .i64 (w64 (a0.2.1 - (a0.2.2.length:Int)))) :: (69,.int .i64 (a0.2.2.length:Int)) :: (68,.slice A6 a0.2.2.length c_6) :: (64,.int .i64 a0.2.1) :: E) w8:=by
    intro w8 h11
    subst hE
    refine (hG _ _ _).1 ?_
    refine Yh 4 rfl (Sc (Za 1 h11.wht)) ?_
    rintro _ _ ⟨rfl,rfl⟩
    replace h11:=nf h11
    refine ⟨⟨[_,_,_,_,_,_,_,_],(sO h11 [0,0,7,7,7,7,7,7,0,0,0,0,0,0,0])⟩,?_⟩
    exact ((hG _ _ _).2 (j22 _ h11)).re [1,2,3,4,5,6,0] 7
   have j20:∀ w8,St w0 F0 [O47 r3 A18 c_18,X78 b1 (.pointer (some ⟨b2,0,none⟩)) a0.2.1 a0.2.2 A6 c_6,X86 b2 r1.2.2.1.1 r1.2.2.1.2.1 r1.2.2.1.2.2.1 r1.2.2.1.2.2.2.1 r1.2.2.1.2.2.2.2.1 r1.2.2.1.2.2.2.2.2.1 r1.2.2.1.2.2.2.2.2.2.1 r1.2.2.1.2.2.2.2.2.2.2 (.pointer (some ⟨b4,0,none⟩)) (.pointer (some ⟨b3,0,none⟩)) (.pointer (some ⟨b7,0,none⟩)) r1.2.2.2.2.2,Xd b4 r1.2.2.2.1.1.1 r1.2.2.2.1.1.2.1 A12 c_12 r1.2.2.2.1.1.2.2.1 r1.2.2.2.1.1.2.2.2,Xr b3 (.pointer (some ⟨b4,0,none⟩)) r1.2.2.2.1.2.1 A13 c_13 (.map (some b5)) r1.2.2.2.1.2.2.2.1 A14 c_14 (.pointer (some ⟨b6,0,none⟩)),Y8 .u32 (Value.int .i64) b5 r1.2.2.2.1.2.2.1,Y0 b6 r1.2.2.2.1.2.2.2.2.1 A15 c_15 r1.2.2.2.1.2.2.2.2.2,Vv b7 (.pointer (some ⟨b8,0,none⟩)),X4 b8 r1.2.2.2.2.1.1 r1.2.2.2.2.1.2.1 r1.2.2.2.2.1.2.2 A16 c_16,O5 r1.2.2.2.1.1.2.1 A12 c_12,Xs r1.2.2.2.1.2.1 A13 c_13,O3 r1.2.2.2.1.2.2.2.1 A14 c_14,Y1 r1.2.2.2.1.2.2.2.2.1 A15 c_15,O63 r1.2.2.2.2.1.2.2 A16 c_16,O47 a0.2.2 A6 c_6] [R69 a4 A7 c_7] w8->G [16,15,4,14,13,12,10,9,8,7,6,5,3,2,1,0] ((69,.int .i64 (a0.2.2.length:Int)) :: (68,.slice A6 a0.2.2.length c_6) :: (57,.slice A6 a0.2.2.length c_6) :: E) w8:=by
    intro w8 h11
    subst hE
    refine (hG _ _ _).1 ?_
    refine Yh 11 rfl (Sc (Za 1 h11.wht)) ?_
    rintro _ _ ⟨rfl,rfl⟩
    replace h11:=nf h11
    refine ⟨⟨[_,_,_,_,_,_,_,_],(sO h11 [0,0,7,7,7,7,7,7,0,0,0,0,0,0,0])⟩,?_⟩
    refine Zl [17,18] ?_
    have e17:=h11.cap (gO 0)
    refine Zf 19 rfl (X8 (r3.take ((if (w64 (a0.2.1 - (a0.2.2.length:Int)))<(r3.length:Int) then (w64 (a0.2.1 - (a0.2.2.length:Int))) else (r3.length:Int))).toNat) (if (w64 (a0.2.1 - (a0.2.2.length:Int)))<(r3.length:Int) then (w64 (a0.2.1 - (a0.2.2.length:Int))) else (r3.length:Int)) e17 p1 p2) ?_
    exact ((hG _ _ _).2 (j22 _ h11)).re [0,1,2,4,5,3,6] 7
   have j19:∀ w8,St w0 F0 [O47 r3 A18 c_18,X78 b1 (.pointer (some ⟨b2,0,none⟩)) a0.2.1 a0.2.2 A6 c_6,X86 b2 r1.2.2.1.1 r1.2.2.1.2.1 r1.2.2.1.2.2.1 r1.2.2.1.2.2.2.1 r1.2.2.1.2.2.2.2.1 r1.2.2.1.2.2.2.2.2.1 r1.2.2.1.2.2.2.2.2.2.1 r1.2.2.1.2.2.2.2.2.2.2 (.pointer (some ⟨b4,0,none⟩)) (.pointer (some ⟨b3,0,none⟩)) (.pointer (some ⟨b7,0,none⟩)) r1.2.2.2.2.2,Xd b4 r1.2.2.2.1.1.1 r1.2.2.2.1.1.2.1 A12 c_12 r1.2.2.2.1.1.2.2.1 r1.2.2.2.1.1.2.2.2,Xr b3 (.pointer (some ⟨b4,0,none⟩)) r1.2.2.2.1.2.1 A13 c_13 (.map (some b5)) r1.2.2.2.1.2.2.2.1 A14 c_14 (.pointer (some ⟨b6,0,none⟩)),Y8 .u32 (Value.int .i64) b5 r1.2.2.2.1.2.2.1,Y0 b6 r1.2.2.2.1.2.2.2.2.1 A15 c_15 r1.2.2.2.1.2.2.2.2.2,Vv b7 (.pointer (some ⟨b8,0,none⟩)),X4 b8 r1.2.2.2.2.1.1 r1.2.2.2.2.1.2.1 r1.2.2.2.2.1.2.2 A16 c_16,O5 r1.2.2.2.1.1.2.1 A12 c_12,Xs r1.2.2.2.1.2.1 A13 c_13,O3 r1.2.2.2.1.2.2.2.1 A14 c_14,Y1 r1.2.2.2.1.2.2.2.2.1 A15 c_15,O63 r1.2.2.2.2.1.2.2 A16 c_16,O47 a0.2.2 A6 c_6] [R69 a4 A7 c_7] w8->G [11,4,14,13,12,10,9,8,7,6,5,3,2,1,0] ((64,.int .i64 a0.2.1) :: (57,.slice A6 a0.2.2.length c_6) :: E) w8:=by
    intro w8 h11
    subst hE
    refine (hG _ _ _).1 ?_
    refine Yh 15 rfl (Sc (Za 1 h11.wht)) ?_
    rintro _ _ ⟨rfl,rfl⟩
    replace h11:=nf h11
    refine ⟨⟨[_,_,_,_,_,_,_,_],(sO h11 [0,0,7,7,7,7,7,7,0,0,0,0,0,0,0])⟩,?_⟩
    refine Zl [16,17,18] ?_
    have e16:=h11.cap (gO 0)
    refine Zf 19 rfl (X8 (r3.take ((if (w64 (a0.2.1 - (a0.2.2.length:Int)))<(r3.length:Int) then (w64 (a0.2.1 - (a0.2.2.length:Int))) else (r3.length:Int))).toNat) (if (w64 (a0.2.1 - (a0.2.2.length:Int)))<(r3.length:Int) then (w64 (a0.2.1 - (a0.2.2.length:Int))) else (r3.length:Int)) e16 p1 p2) ?_
    exact (hG _ _ _).2 (j22 _ h11)
   subst hE
   refine (hG _ _ _).1 ?_
   refine TZ [4,11,15] (i:=4) rfl rfl rfl rfl ?_
   refine (Y4 ?_ (Y4 ?_ (Y4 ?_ Vs)))
   ·refine Yz 4 rfl (Sc (Za 1 h11.wht)) ?_
    rintro _ _ ⟨rfl,rfl⟩
    replace h11:=nf h11
    refine ⟨⟨[_,_,_,_,_,_,_,_],(sO h11 [0,0,7,7,7,7,7,7,0,0,0,0,0,0,0])⟩,?_⟩
    refine TZ [11,15] (i:=11) rfl rfl rfl rfl ?_
    refine (Y4 ?_ (Y4 ?_ Vs))
    ·refine Yz 11 rfl (Sc (Za 1 h11.wht)) ?_
     rintro _ _ ⟨rfl,rfl⟩
     replace h11:=nf h11
     refine ⟨⟨[_,_,_,_,_,_,_,_],(sO h11 [0,0,7,7,7,7,7,7,0,0,0,0,0,0,0])⟩,?_⟩
     exact (hG _ _ _).2 (j19 _ h11)
    ·refine Yz 15 rfl (Sc (Za 1 h11.wht)) ?_
     rintro _ _ ⟨rfl,rfl⟩
     replace h11:=nf h11
     refine ⟨⟨[_,_,_,_,_,_,_,_],(sO h11 [0,0,7,7,7,7,7,7,0,0,0,0,0,0,0])⟩,?_⟩
     refine Zl [16] ?_
     exact (hG _ _ _).2 (j20 _ h11)
   ·refine Yz 11 rfl (Sc (Za 1 h11.wht)) ?_
    rintro _ _ ⟨rfl,rfl⟩
    replace h11:=nf h11
    refine ⟨⟨[_,_,_,_,_,_,_,_],(sO h11 [0,0,7,7,7,7,7,7,0,0,0,0,0,0,0])⟩,?_⟩
    refine TZ [4,15] (i:=4) rfl rfl rfl rfl ?_
    refine (Y4 ?_ (Y4 ?_ Vs))
    ·refine Yz 4 rfl (Sc (Za 1 h11.wht)) ?_
     rintro _ _ ⟨rfl,rfl⟩
     replace h11:=nf h11
     refine ⟨⟨[_,_,_,_,_,_,_,_],(sO h11 [0,0,7,7,7,7,7,7,0,0,0,0,0,0,0])⟩,?_⟩
     exact ((hG _ _ _).2 (j19 _ h11)).re [1,0] 2
    ·refine Yz 15 rfl (Sc (Za 1 h11.wht)) ?_
     rintro _ _ ⟨rfl,rfl⟩
     replace h11:=nf h11
     refine ⟨⟨[_,_,_,_,_,_,_,_],(sO h11 [0,0,7,7,7,7,7,7,0,0,0,0,0,0,0])⟩,?_⟩
     refine Zl [16,17,18] ?_
     have e14:=h11.cap (gO 0)
     refine Zf 19 rfl (X8 (r3.take ((if (w64 (a0.2.1 - (a0.2.2.length:Int)))<(r3.length:Int) then (w64 (a0.2.1 - (a0.2.2.length:Int))) else (r3.length:Int))).toNat) (if (w64 (a0.2.1 - (a0.2.2.length:Int)))<(r3.length:Int) then (w64 (a0.2.1 - (a0.2.2.length:Int))) else (r3.length:Int)) e14 p1 p2) ?_
     exact (hG _ _ _).2 (j21 _ h11)
   ·refine Yz 15 rfl (Sc (Za 1 h11.wht)) ?_
    rintro _ _ ⟨rfl,rfl⟩
    replace h11:=nf h11
    refine ⟨⟨[_,_,_,_,_,_,_,_],(sO h11 [0,0,7,7,7,7,7,7,0,0,0,0,0,0,0])⟩,?_⟩
    refine Zl [16] ?_
    refine TZ [4,11] (i:=4) rfl rfl rfl rfl ?_
    refine (Y4 ?_ (Y4 ?_ Vs))
    ·refine Yz 4 rfl (Sc (Za 1 h11.wht)) ?_
     rintro _ _ ⟨rfl,rfl⟩
     replace h11:=nf h11
     refine ⟨⟨[_,_,_,_,_,_,_,_],(sO h11 [0,0,7,7,7,7,7,7,0,0,0,0,0,0,0])⟩,?_⟩
     exact ((hG _ _ _).2 (j20 _ h11)).re [1,2,0] 3
    ·refine Yz 11 rfl (Sc (Za 1 h11.wht)) ?_
     rintro _ _ ⟨rfl,rfl⟩
     replace h11:=nf h11
     refine ⟨⟨[_,_,_,_,_,_,_,_],(sO h11 [0,0,7,7,7,7,7,7,0,0,0,0,0,0,0])⟩,?_⟩
     refine Zl [17,18] ?_
     have e15:=h11.cap (gO 0)
     refine Zf 19 rfl (X8 (r3.take ((if (w64 (a0.2.1 - (a0.2.2.length:Int)))<(r3.length:Int) then (w64 (a0.2.1 - (a0.2.2.length:Int))) else (r3.length:Int))).toNat) (if (w64 (a0.2.1 - (a0.2.2.length:Int)))<(r3.length:Int) then (w64 (a0.2.1 - (a0.2.2.length:Int))) else (r3.length:Int)) e15 p1 p2) ?_
     exact ((hG _ _ _).2 (j21 _ h11)).re [0,1,2,4,5,3] 6
  rintro env w106 ⟨A19,c_19,rfl,h40⟩
  refine T9 (Zb [10] ?_)
  cases H
  exact T8 (jR ⟨_,_,_,_,_,_,_,_,_,_,_,_,rfl,rfl⟩ h40 [0,2,3,2,6,6,2,5,2,4,2,2,2,0])
 refine Sa (T9 (T7 ?_))
 refine Zd 2 ?_
 refine Zc (Za 9 h5.wht) ?_
 refine Zc (Za 8 h5.wht) ?_
 refine cE H [] h5 rfl Q13.spec (Xh (gO 18) Zo) ?_
 rintro r4 w107 _ _ H ⟨A34,c_34,rfl,rfl⟩ h41
 replace h41:=nf h41
 refine cE H [] h41 rfl Q12.spec (Xh (Zj 21) (Xh (gO 0) Zo)) ?_
 rintro r5 w108 _ _ H ⟨A35,c_35,rfl,rfl⟩ h42
 replace h42:=nf h42
 refine Ze [0,4,8,11] rfl ?_
 refine T9 (T9 (T7 ?_))
 refine Zd 1 ?_
 refine Zc (Za 11 h42.wht) ?_
 refine Ze [0,4,8,11,83,84,85] rfl ?_
 refine T1 ?_
 have h57:=(sOR h42 [2,2,2,2,2,2,2,2,2,2,2,2,2,2,2,2,0,1,1,1,1] [])
 refine T5 (fun kk env w=>∃ x2 x3 x4 x5 A36 c_36 x6 A37 c_37 x7 x8 A38 c_38 A39 c_39 A40 c_40 x9 x10 x11 A41 c_41 x12,Q89.l1 kk a3 r1 r5 x2 x3 x4 x5 x6 x7 x8 x9 x10 x11 x12=some r/\env=[(0,.pointer (some ⟨b1,0,none⟩)),(4,.slice A35 r5.length c_35),(8,.pointer (some ⟨b9,0,none⟩)),(11,.pointer (some ⟨b10,0,none⟩)),(83,.slice A8 r1.1.2.1.length c_8),(84,.int .i64 (r1.1.2.1.length:Int)),(85,.int .i64 x12)]/\St w0 F0 [X78 b1 (.pointer (some ⟨b2,0,none⟩)) x10 x11 A41 c_41,X86 b2 x2.1 x2.2.1 x2.2.2.1 x2.2.2.2.1 x2.2.2.2.2.1 x2.2.2.2.2.2.1 x2.2.2.2.2.2.2.1 x2.2.2.2.2.2.2.2 (.pointer (some ⟨b4,0,none⟩)) (.pointer (some ⟨b3,0,none⟩)) (.pointer (some ⟨b7,0,none⟩)) x9,Xd b4 x3.1 x3.2.1 A36 c_36 x3.2.2.1 x3.2.2.2,Xr b3 (.pointer (some ⟨b4,0,none⟩)) x6 A37 c_37 (.map (some b5)) x8 A38 c_38 (.pointer (some ⟨b6,0,none⟩)),Y8 .u32 (Value.int .i64) b5 x7,Y0 b6 x4.1 A39 c_39 x4.2,Vv b7 (.pointer (some ⟨b8,0,none⟩)),X4 b8 x5.1 x5.2.1 x5.2.2 A40 c_40,X30 b9 a3.1 a3.2.1 a3.2.2,X55 b10 r1.1.1 r1.1.2.1 A8 c_8 r1.1.2.2.1 A9 c_9 r1.1.2.2.2.1 A10 c_10 r1.1.2.2.2.2 A11 c_11,O5 x3.2.1 A36 c_36,Xs x6 A37 c_37,O3 x8 A38 c_38,Y1 x4.1 A39 c_39,O63 x5.2.2 A40 c_40,O47 x11 A41 c_41,O69 r5 A35 c_35,O32 r1.1.2.1 A8 c_8,O9 r1.1.2.2.1 A9 c_9,O69 r1.1.2.2.2.1 A10 c_10,O47 r1.1.2.2.2.2 A11 c_11] [] w/\kk<=k1) (k:=k1) ⟨_,_,_,_,_,_,_,_,_,_,_,_,_,_,_,_,_,_,_,_,_,_,_,H,rfl,h57,Sb _⟩ ?_
 rintro k2 env w109 ⟨x2,x3,x4,x5,A36,c_36,x6,A37,c_37,x7,x8,A38,c_38,A39,c_39,A40,c_40,x9,x10,x11,A41,c_41,x12,H,rfl,h43,hk2⟩
 rcases k2 with _ | k2
 ·exact z0 H
 rw [Q89.l1] at H
 refine T9 (Zb [0,4,8,11,83,84,85,86] ?_)
 refine T9 (jIf H (fun c2 H=>?_) fun c2 H=>?_)
 ·refine Sa (T9 (T1 (T9 (T7 ?_))))
  refine Zd 1 ?_
  obtain ⟨⟨p4,p5⟩,H⟩:=Zk H
  have e24:=Z1 h43.wh (gO 17) p4 p5
  refine Zc (Zg e24 p4 p5) ?_
  refine Zc (Zh 0 h43.wht (gO 17) p4 p5) ?_
  refine Ze [0,4,8,11,14,15,83,84,85] rfl ?_
  refine T9 (T7 ?_)
  refine Zd 1 ?_
  refine Zc (Za 9 h43.wht) ?_
  refine Zd 1 ?_
  refine Zc (Za 8 h43.wht) ?_
  refine cS H [] h43 rfl Q61.spec (Xh (gO 18) Zo) fun r6 w110 H h44=>?_
  refine Zd 3 ?_
  refine rB (Yv h44) fun b11 w111 h45=>?_
  refine rS (Zv 0 h45) fun _ w112 h46=>?_
  refine Ze [0,4,8,11,15,16,17,83,84,85] rfl ?_
  refine T9 (T9 (Zb [0,4,8,11,15,16,83,84,85,99] ?_))
  refine jIf H (fun c3 H=>?_) fun c3 H=>?_
  ·refine T4 (Zb [0,4,8,11,83,84,85] ?_)
   have h47:=(sOR h46 [1,1,1,1,1,1,1,1,1,1,1,1,1,1,1,1,1,1,1,1,1] [])
   exact ⟨k2,by omega,_,_,_,_,_,_,_,_,_,_,_,_,_,_,_,_,_,_,_,_,_,_,_,H,rfl,h47,by omega⟩
  refine Sa (T9 (T9 (T7 ?_)))
  refine Zd 1 ?_
  refine cS H [1,1,2,1,7,7,1,6,1,5,1,1,3,3] h46 rfl Q88.spec Zo fun r7 w113 H h48=>?_
  refine Ze [0,4,8,11,15,16,83,84,85,101] rfl ?_
  refine jIf H (fun c4 H=>?_) fun c4 H=>?_
  ·refine T9 (Zb [10] ?_)
   have h49:=sO h48 [0,0,0,0,0,0,0,0,0,0,0,0,0,0]
   replace h49:=nf h49
   cases H
   exact T8 (jR ⟨_,_,_,_,_,_,_,_,_,_,_,_,rfl,rfl⟩ h49 [0,0,0,0,0,0,0,0,0,0,0,0,0,0])
  refine Sa (T9 (Zx (sO h48 [14,14,14,14,14,14,14,14]) ?_))
  have h50:=h48.drew
  refine Zl [0,1,2,6] ?_
  refine Zf 3 rfl (Za 2 wI) ?_
  refine Zl [4] ?_
  refine Zf 5 rfl (Za 0 wI) ?_
  refine Zf 7 rfl (Za 0 wI) ?_
  refine cEJ 8 rfl H [] h50 rfl Q13.spec (Xh (gO 17) Zo) ?_
  rintro r8 w114 _ _ H ⟨A42,c_42,rfl,rfl⟩ h51
  replace h51:=nf h51
  refine ⟨⟨[_,_,_,_,_,_,_,_,_,_,_,_,_,_,_],h51⟩,?_⟩
  refine cEJ 9 rfl H [1,1,1,1,1,1,1,1,1,1,1,1,1,1] h51 rfl (ih k2 (by omega)) (Xh (gO 0) Zo) ?_
  rintro r9 w115 _ _ H ⟨A43,c_43,A44,c_44,A45,c_45,A46,c_46,A47,c_47,A48,c_48,rfl,rfl⟩ h52
  replace h52:=nf h52
  refine ⟨⟨[_,_,_,_,_,_,_,_,_,_,_,_,_,_,_],h52⟩,?_⟩
  refine Zl [10] ?_
  refine Z0 [0,4,8,11,18,83,84,85] ?_
  have h53:=sO h52 [0,0,0,0,0,0,0,0,0,0,0,0,0,0,2,2,2,2,2,2,2]
  replace h53:=nf h53
  refine T9 (Zb [0,4,8,11,18,83,84,85,113] ?_)
  refine jIf H (fun c5 H=>?_) fun c5 H=>?_
  ·refine T9 (Zb [10] ?_)
   have h54:=sO h53 [0,0,0,0,0,0,0,0,0,0,0,0,0,0]
   replace h54:=nf h54
   cases H
   exact T8 (jR ⟨_,_,_,_,_,_,_,_,_,_,_,_,rfl,rfl⟩ h54 [0,0,0,0,0,0,0,0,0,0,0,0,0,0])
  refine Sa (Zb [0,4,8,11,83,84,85] ?_)
  have h55:=(sOR h53 [0,0,1,0,2,3,4,4,6,6,0,0,0,0,0,0,0,0,0,0,0] [])
  exact ⟨k2,by omega,_,_,_,_,_,_,_,_,_,_,_,_,_,_,_,_,_,_,_,_,_,_,_,H,rfl,h55,by omega⟩
 refine T4 (T9 (Zb [10] ?_))
 have h56:=sO h43 [0,0,0,0,0,0,0,0,2,2,2,2,2,2]
 replace h56:=nf h56
 cases H
 exact T8 (jR ⟨_,_,_,_,_,_,_,_,_,_,_,_,rfl,rfl⟩ h56 [0,0,1,0,4,4,0,3,0,2,0,0,0,0])

def Q87.f (k:Nat) (a0:Th) (a1:Int) (a2:TC) (a3:Int):Option (TA×Int×Th):=if (decide (a3<1))=true then (some ([],0,a0)) else ((Q68.f a2).bind fun r1=>(if r1=true then (some ([],0,a0)) else ((Q89.f k (a0,a3,[]) a1 (-1) a2 []).bind fun r2=>(if (!decide (r2.1=0))=true then (some ([],r2.1,r2.2.1)) else (some (r2.2.2.2,0,r2.2.1))))))
theorem Q87.spec {k a0 a1 a2 a3 b1 b2 b3 b4 b5 b6 b7 A1 c_1 A2 c_2 A3 c_3 A4 c_4 A5 c_5 r} (H:Q87.f k a0 a1 a2 a3=some r) :
  Spec prog 10 [.pointer (some ⟨b1,0,none⟩),.int .u32 a1,.agg #[.string ⟨⟨a2.1⟩⟩,.string ⟨⟨a2.2.1⟩⟩,.bool a2.2.2],.int .i64 a3] (Vk a0 b1 b2 b3 b4 b5 b6 b7 A1 A2 A3 A4 A5 c_1 c_2 c_3 c_4 c_5) [] (fun v l=>∃ A_0 c_0 A_1 c_1 A_2 c_2 A_3 c_3 A_4 c_4 A_5 c_5,v=.tuple #[.slice A_0 r.1.length c_0,.int .i64 r.2.1]/\l=[O47 r.1 A_0 c_0] ++ Vk r.2.2 b1 b2 b3 b4 b5 b6 b7 A_1 A_2 A_3 A_4 A_5 c_1 c_2 c_3 c_4 c_5):=by
 refine Zi Tryz.func10 fun w0 F0 h0=>?_
 replace h0:=nf h0
 unfold Q87.f at H
 refine T9 (T7 ?_)
 refine rB (Z8 h0) fun b8 w1 h1=>?_
 refine Ze [0,1,3,6] rfl ?_
 refine T9 (T9 (T7 ?_))
 refine Zd 3 ?_
 refine Z7 14 H (fun c1 H=>?_) fun c1 H=>?_
 ·refine Ze [0,1,3,6,17] rfl ?_
  refine Zq ?_
  refine T9 (Zb [8,9] ?_)
  have h2:=h1.addNil 47 (.pair .str .str)
  cases H
  exact T8 (jR ⟨_,_,_,_,_,_,_,_,_,_,_,_,rfl,rfl⟩ h2 [0,1,1,1,1,1,1,1,1,1,1,1,1])
 refine Zc (Za 0 h1.wht) ?_
 refine cS H [] h1 rfl Q68.spec Zo fun r1 w2 H h3=>?_
 refine Ze [0,1,3,6,17] rfl ?_
 refine jIf H (fun c2 H=>?_) fun c2 H=>?_
 ·refine T9 (Zb [8,9] ?_)
  have h4:=h3.addNil 47 (.pair .str .str)
  cases H
  exact T8 (jR ⟨_,_,_,_,_,_,_,_,_,_,_,_,rfl,rfl⟩ h4 [0,1,1,1,1,1,1,1,1,1,1,1,1])
 refine Sa (T9 (T7 ?_))
 refine Zd 3 ?_
 refine rB (Z8 h3) fun b9 w3 h5=>?_
 refine Ze [1,6,10] rfl ?_
 refine T9 (T9 (T7 ?_))
 refine Zd 2 ?_
 refine Zc (Za 1 h5.wht) ?_
 have h6:=h5.addNil 69 (.pair .str (.pair .bool .str))
 have h7:=h6.freeze (k:=0) rfl Yi
 have h8:=h7.addNil 47 (.pair .str .str)
 refine cE H [1,2,2,2,2,2,2,2,2,2,2,2,2,0] h8 rfl Q89.spec (gS [1]) ?_
 rintro r2 w4 _ _ H ⟨A6,c_6,A7,c_7,A8,c_8,A9,c_9,A10,c_10,A11,c_11,rfl,rfl⟩ h9
 replace h9:=nf h9
 refine Ze [10,11] rfl ?_
 refine T9 (Zb [10,11,27] ?_)
 refine jIf H (fun c3 H=>?_) fun c3 H=>?_
 ·refine T9 (Zb [8,9] ?_)
  have h10:=sO h9 [1,1,1,1,1,1,1,1,1,1,1,1]
  replace h10:=nf h10
  have h11:=h10.addNil 47 (.pair .str .str)
  cases H
  exact T8 (jR ⟨_,_,_,_,_,_,_,_,_,_,_,_,rfl,rfl⟩ h11 [0,0,0,0,0,0,0,0,0,0,0,0,0])
 refine Sa (T9 (T7 ?_))
 refine Zd 3 ?_
 refine Zc (Za 0 h9.wht) ?_
 refine Ze [8,9] rfl ?_
 have h12:=sO h9 [1,1,1,1,1,1,1,1,1,1,1,1,1]
 replace h12:=nf h12
 cases H
 exact T8 (jR ⟨_,_,_,_,_,_,_,_,_,_,_,_,rfl,rfl⟩ h12 [12,0,0,0,0,0,0,0,0,0,0,0,0])

def Q141.f (k:Nat):Option (Bool):=(Q136.f k (9,200,8,8,16,16,2,1) ([([97],[]),([98],[]),([99],[])],[],[],[])).bind fun r1=>(Vo r1.1 (if (!r1.2.2.2)=true then (some false) else (none)) (fun r2=>(if (!r1.2.2.2)=true then (some false) else ((Q87.f k r2 r1.2.1 ([98],[],true) 1).bind fun r3=>(if (decide (r3.2.1=0))=true then (if (decide ((r3.1.length:Int)=1))=true then (if 0<(r3.1.length:Int) then (some (decide (((gt r3.1 0).1)=[98]))) else none) else (some false)) else (some false))))))
theorem Q141.spec {k r} (H:Q141.f k=some r) :
  Spec prog 9 [] [] [tabC 1] (fun v l=>v=.bool r/\l=[]):=by
 refine Zi Tryz.func9 fun w0 F0 h0=>?_
 unfold Q141.f at H
 refine T9 (Zb [] ?_)
 refine T9 (T7 ?_)
 refine Zd 1 ?_
 refine rB (Yv h0) fun b1 w1 h1=>?_
 refine rS (Zv 0 h1) fun _ w2 h2=>?_
 refine Ze [1] rfl ?_
 refine T9 (T7 ?_)
 refine Zc (Za 0 h2.wht) ?_
 refine Zd 3 ?_
 refine rB (Zz (.pair .str .str) [([97],[]),([98],[]),([99],[])] h2) fun b2 w3 h3=>?_
 refine Zd 1 ?_
 have h4:=h3.addNil 69 (.pair .str (.pair .bool .str))
 have h5:=h4.freeze (k:=0) rfl Yi
 have h6:=h5.addNil 5 (.int .u8)
 have h7:=h6.freeze (k:=0) rfl Yi
 have h8:=h7.freeze (k:=0) rfl Yi
 obtain ⟨r1,q1,H⟩:=Yj H
 refine Zr (Z5 [] (Q136.spec q1) h8 rfl (gS [0,2,1,1,3])) ?_
 rintro _ w4 ⟨_,_,⟨v1,l1,ho1,A1,c_1,rfl,rfl,rfl⟩,h9⟩
 rcases ho2:r1.1 with _ | r2
 ·rw [ho2] at ho1
  obtain ⟨rfl,rfl⟩:=ho1
  replace H:=J3 ho2 H
  replace h9:=nf h9
  refine Ze [2,3,5] rfl ?_
  refine T9 (T9 (Zb [2,3,22] ?_))
  refine jIf H (fun c1 H=>?_) fun c1 H=>?_
  ·refine T9 (Zb [0] ?_)
   cases H
   exact T8 (jR0 h9 [])
  refine Sa (T9 (T7 ?_))
  refine Zd 3 ?_
  exact nomatch H
 rw [ho2] at ho1
 obtain ⟨b3,b4,b5,A2,c_2,A3,c_3,b6,A4,c_4,b7,A5,c_5,b8,b9,A6,c_6,rfl,rfl⟩:=ho1
 replace H:=J4 ho2 H
 replace h9:=nf h9
 refine Ze [2,3,5] rfl ?_
 refine T9 (T9 (Zb [2,3,22] ?_))
 refine jIf H (fun c2 H=>?_) fun c2 H=>?_
 ·refine T9 (Zb [0] ?_)
  have h10:=sO h9 []
  replace h10:=nf h10
  cases H
  exact T8 (jR0 h10 [])
 refine Sa (T9 (T7 ?_))
 refine Zd 3 ?_
 refine cE H [0,0,0,0,0,0,0,0,0,0,0,0] h9 rfl Q87.spec Zo ?_
 rintro r3 w5 _ _ H ⟨A7,c_7,A8,c_8,A9,c_9,A10,c_10,A11,c_11,A12,c_12,rfl,rfl⟩ h11
 replace h11:=nf h11
 refine Ze [6,7] rfl ?_
 have h12:=sO h11 [0]
 replace h12:=nf h12
 refine T9 (T7 ?_)
 refine Zd 3 ?_
 refine Z7 32 H (fun c3 H=>?_) fun c3 H=>?_
 ·refine Zd 5 ?_
  refine Z7 37 H (fun c4 H=>?_) fun c4 H=>?_
  ·refine Zd 1 ?_
   obtain ⟨p1,H⟩:=Zk H
   have e1:=Wu h12.wh (gO 0) p1
   refine Zc (Xt e1 p1) ?_
   refine Zd 1 ?_
   refine Zc (Y2 0 h12.wht (gO 0) p1) ?_
   refine Ze [0] rfl ?_
   cases H
   exact T8 (jR0 h12 [])
  refine Ze [0] rfl ?_
  cases H
  exact T8 (jR0 h12 [])
 refine Ze [0] rfl ?_
 cases H
 exact T8 (jR0 h12 [])

def Q92.f (k:Nat) (a0:Th) (a1:Int) (a2:Tp):Option Tg:=(Q95.f a0 a1).bind fun r1=>(if (!decide (r1=0))=true then (some (r1,a0)) else ((Q39.f k a0.1 a2).bind fun r2=>(if (!decide (r2.2=0))=true then (some (r2.2,a0)) else ((Q93.f a0 a1 r2.1).bind fun r3=>(some r3)))))
theorem Q92.spec {k a0 a1 a2 A6 c_6 A7 c_7 A8 c_8 A9 c_9 b1 b2 b3 b4 b5 b6 b7 A1 c_1 A2 c_2 A3 c_3 A4 c_4 A5 c_5 r} (H:Q92.f k a0 a1 a2=some r) :
  Spec prog 18 [.pointer (some ⟨b1,0,none⟩),.int .u32 a1,.agg #[.int .i64 a2.1,.slice A6 a2.2.1.length c_6,.slice A7 a2.2.2.1.length c_7,.slice A8 a2.2.2.2.1.length c_8,.slice A9 a2.2.2.2.2.length c_9]] (Vk a0 b1 b2 b3 b4 b5 b6 b7 A1 A2 A3 A4 A5 c_1 c_2 c_3 c_4 c_5) [R32 a2.2.1 A6 c_6,R9 a2.2.2.1 A7 c_7,R69 a2.2.2.2.1 A8 c_8,R47 a2.2.2.2.2 A9 c_9] (fun v l=>∃ A_0 c_0 A_1 c_1 A_2 c_2 A_3 c_3 A_4 c_4,v=.int .i64 r.1/\l=Vk r.2 b1 b2 b3 b4 b5 b6 b7 A_0 A_1 A_2 A_3 A_4 c_0 c_1 c_2 c_3 c_4):=by
 refine Zi Tryz.func18 fun w0 F0 h0=>?_
 replace h0:=nf h0
 unfold Q92.f at H
 refine T9 (T7 ?_)
 refine rB (Z8 h0) fun b8 w1 h1=>?_
 refine Ze [0,1,5] rfl ?_
 refine T9 (T9 (T7 ?_))
 refine Zd 2 ?_
 refine cS H [1,1,1,1,1,1,1,1,1,1,1,1] h1 rfl Q95.spec Zo fun r1 w2 H h2=>?_
 refine Ze [0,1,5,7] rfl ?_
 refine T9 (Zb [0,1,5,7,14] ?_)
 refine jIf H (fun c1 H=>?_) fun c1 H=>?_
 ·refine T9 (Zb [6] ?_)
  cases H
  exact T8 (jR ⟨_,_,_,_,_,_,_,_,_,_,rfl,rfl⟩ h2 [0,0,0,0,0,0,0,0,0,0,0,0])
 refine Sa (T9 (jH h2 fun h3=>?_))
 refine Zl [0,1,2] ?_
 refine Zf 3 rfl (Za 0 wI) ?_
 refine Zf 4 rfl (Za 12 wI) ?_
 refine cEJ 5 rfl H [] h3 rfl Q39.spec (gS [13,14,15,16]) ?_
 rintro r2 w3 _ _ H ⟨A10,c_10,rfl,rfl⟩ h4
 replace h4:=nf h4
 refine ⟨⟨[_],h4⟩,?_⟩
 refine Zl [6,7,8,9,10] ?_
 refine Z0 [0,1,8,9] ?_
 refine T9 (T9 (Zb [0,1,8,9,26] ?_))
 refine jIf H (fun c2 H=>?_) fun c2 H=>?_
 ·refine T9 (Zb [6] ?_)
  have h5:=sO h4 [1,1,1,1,1,1,1,1,1,1,1,1]
  replace h5:=nf h5
  cases H
  exact T8 (jR ⟨_,_,_,_,_,_,_,_,_,_,rfl,rfl⟩ h5 [0,0,0,0,0,0,0,0,0,0,0,0])
 refine Sa (T9 (T7 ?_))
 refine Zd 3 ?_
 refine cE H [1,1,1,1,1,1,1,1,1,1,1,1] h4 rfl Q93.spec (Xh (gO 0) Zo) ?_
 rintro r3 w4 _ _ H ⟨A11,c_11,A12,c_12,A13,c_13,A14,c_14,A15,c_15,rfl,rfl⟩ h6
 replace h6:=nf h6
 refine Ze [6] rfl ?_
 have h7:=sO h6 [0,0,0,0,0,0,0,0,0,0,0,0]
 replace h7:=nf h7
 cases H
 exact T8 (jR ⟨_,_,_,_,_,_,_,_,_,_,rfl,rfl⟩ h7 [0,0,0,0,0,0,0,0,0,0,0,0])

def Q85.f (k:Nat) (a0:Th) (a1:Int) (a2:TC):Option Tf:=(Q87.f k a0 a1 a2 1099511627776).bind fun r1=>(some ((r1.1.length:Int),r1.2.1,r1.2.2))
theorem Q85.spec {k a0 a1 a2 b1 b2 b3 b4 b5 b6 b7 A1 c_1 A2 c_2 A3 c_3 A4 c_4 A5 c_5 r} (H:Q85.f k a0 a1 a2=some r) :
  Spec prog 13 [.pointer (some ⟨b1,0,none⟩),.int .u32 a1,.agg #[.string ⟨⟨a2.1⟩⟩,.string ⟨⟨a2.2.1⟩⟩,.bool a2.2.2]] (Vk a0 b1 b2 b3 b4 b5 b6 b7 A1 A2 A3 A4 A5 c_1 c_2 c_3 c_4 c_5) [] (fun v l=>∃ A_0 c_0 A_1 c_1 A_2 c_2 A_3 c_3 A_4 c_4,v=.tuple #[.int .i64 r.1,.int .i64 r.2.1]/\l=Vk r.2.2 b1 b2 b3 b4 b5 b6 b7 A_0 A_1 A_2 A_3 A_4 c_0 c_1 c_2 c_3 c_4):=by
 refine Zi Tryz.func13 fun w0 F0 h0=>?_
 replace h0:=nf h0
 unfold Q85.f at H
 refine T9 (T7 ?_)
 refine rB (Z8 h0) fun b8 w1 h1=>?_
 refine Ze [0,1,5] rfl ?_
 refine T9 (T7 ?_)
 refine Zd 2 ?_
 refine Zc (Za 0 h1.wht) ?_
 refine cE H [1,1,1,1,1,1,1,1,1,1,1,1] h1 rfl Q87.spec Zo ?_
 rintro r1 w2 _ _ H ⟨A6,c_6,A7,c_7,A8,c_8,A9,c_9,A10,c_10,A11,c_11,rfl,rfl⟩ h2
 replace h2:=nf h2
 refine Ze [8,9] rfl ?_
 refine T9 (Zb [6,7] ?_)
 have h3:=sO h2 [1,1,1,1,1,1,1,1,1,1,1,1]
 replace h3:=nf h3
 cases H
 exact T8 (jR ⟨_,_,_,_,_,_,_,_,_,_,rfl,rfl⟩ h3 [0,0,0,0,0,0,0,0,0,0,0,0])

def Q86.f (k:Nat) (a0:Th) (a1:Int) (a2:TC):Option (TF×Bool×Int×Th):=(Q87.f k a0 a1 a2 1).bind fun r1=>(if (!decide (r1.2.1=0))=true then (some (([],[]),false,r1.2.1,r1.2.2)) else (if (decide ((r1.1.length:Int)=0))=true then (some (([],[]),false,r1.2.1,r1.2.2)) else (if 0<(r1.1.length:Int) then (some ((gt r1.1 0),true,0,r1.2.2)) else none)))
theorem Q86.spec {k a0 a1 a2 b1 b2 b3 b4 b5 b6 b7 A1 c_1 A2 c_2 A3 c_3 A4 c_4 A5 c_5 r} (H:Q86.f k a0 a1 a2=some r) :
  Spec prog 14 [.pointer (some ⟨b1,0,none⟩),.int .u32 a1,.agg #[.string ⟨⟨a2.1⟩⟩,.string ⟨⟨a2.2.1⟩⟩,.bool a2.2.2]] (Vk a0 b1 b2 b3 b4 b5 b6 b7 A1 A2 A3 A4 A5 c_1 c_2 c_3 c_4 c_5) [] (fun v l=>∃ A_0 c_0 A_1 c_1 A_2 c_2 A_3 c_3 A_4 c_4,v=.tuple #[.agg #[.string ⟨⟨r.1.1⟩⟩,.string ⟨⟨r.1.2⟩⟩],.bool r.2.1,.int .i64 r.2.2.1]/\l=Vk r.2.2.2 b1 b2 b3 b4 b5 b6 b7 A_0 A_1 A_2 A_3 A_4 c_0 c_1 c_2 c_3 c_4):=by
 refine Zi Tryz.func14 fun w0 F0 h0=>?_
 replace h0:=nf h0
 unfold Q86.f at H
 refine T9 (T7 ?_)
 refine rB (Z8 h0) fun b8 w1 h1=>?_
 refine rB (Yv h1) fun b9 w2 h2=>?_
 refine Ze [0,1,5,6] rfl ?_
 refine T9 (T7 ?_)
 refine Zd 2 ?_
 refine Zc (Za 1 h2.wht) ?_
 refine cE H [2,2,2,2,2,2,2,2,2,2,2,2] h2 rfl Q87.spec Zo ?_
 rintro r1 w3 _ _ H ⟨A6,c_6,A7,c_7,A8,c_8,A9,c_9,A10,c_10,A11,c_11,rfl,rfl⟩ h3
 replace h3:=nf h3
 refine Ze [6,9,10] rfl ?_
 refine T9 (T9 (T7 ?_))
 refine Zd 3 ?_
 refine Z7 20 H (fun c1 H=>?_) fun c1 H=>?_
 ·refine Ze [6,9,10,24] rfl ?_
  refine Zq ?_
  refine T9 (T7 ?_)
  refine Zd 2 ?_
  refine rS (Zv 13 h3) fun _ w4 h4=>?_
  refine Ze [6,7,8] rfl ?_
  have h5:=sO h4 [0,1,1,1,1,1,1,1,1,1,1,1,1]
  replace h5:=nf h5
  cases H
  exact T8 (jR2 (Ye (Si Z6 0 h5 rfl rfl rfl rfl) (Ye (Sj rfl) (Ye (Sj rfl) Xz))) ⟨_,_,_,_,_,_,_,_,_,_,rfl,rfl⟩ h5 [1,1,1,1,1,1,1,1,1,1,1,1])
 refine Ze [6,9,10,24] rfl ?_
 refine jIf H (fun c2 H=>?_) fun c2 H=>?_
 ·refine T9 (T7 ?_)
  refine Zd 2 ?_
  refine rS (Zv 13 h3) fun _ w5 h6=>?_
  refine Ze [6,7,8] rfl ?_
  have h7:=sO h6 [0,1,1,1,1,1,1,1,1,1,1,1,1]
  replace h7:=nf h7
  cases H
  exact T8 (jR2 (Ye (Si Z6 0 h7 rfl rfl rfl rfl) (Ye (Sj rfl) (Ye (Sj rfl) Xz))) ⟨_,_,_,_,_,_,_,_,_,_,rfl,rfl⟩ h7 [1,1,1,1,1,1,1,1,1,1,1,1])
 refine Sa (T9 (T7 ?_))
 refine Zd 1 ?_
 obtain ⟨p1,H⟩:=Zk H
 have e1:=Wu h3.wh (gO 0) p1
 refine Zc (Xt e1 p1) ?_
 refine Zc (Y2 0 h3.wht (gO 0) p1) ?_
 refine rS (Zv 13 h3) fun _ w6 h8=>?_
 refine Ze [6,7,8] rfl ?_
 have h9:=sO h8 [0,1,1,1,1,1,1,1,1,1,1,1,1]
 replace h9:=nf h9
 cases H
 exact T8 (jR2 (Ye (Si Z6 0 h9 rfl rfl rfl rfl) (Ye (Sj rfl) (Ye (Sj rfl) Xz))) ⟨_,_,_,_,_,_,_,_,_,_,rfl,rfl⟩ h9 [1,1,1,1,1,1,1,1,1,1,1,1])

def Q140.l0:Nat->(Bool)->Option (Bool)
 | 0,_=>none
 | k+1,x1=>if x1=true then ((Q141.f k).bind fun r3=>(some r3)) else (none)
def Q140.l2:Nat->Ta->Tr->TE->TB->TH->Tx->TN->TX->(Int)->(Bool)->Option (Bool)
 | 0,_,_,_,_,_,_,_,_,_,_=>none
 | k+1,r1,x3,x4,x5,x6,x7,x8,x9,x10,x11=>if x11=true then ((Q141.f k).bind fun r8=>(some r8)) else ((Q87.f k (x3,(x4,x7,x8,x9,x5),x6,x10) r1.2.1 ([],[],true) 1073741824).bind fun r9=>((Q85.f k r9.2.2 r1.2.1 ([],[],true)).bind fun r10=>((Q86.f k r10.2.2 r1.2.1 ([],[],true)).bind fun r11=>(if (decide (r9.2.1=12))=true then (if (decide ((r9.1.length:Int)=0))=true then (if (decide (r10.1=0))=true then (if (decide (r10.2.1=r9.2.1))=true then (if ((decide (r11.1.1=[])) && ((decide (r11.1.2=[])) && true))=true then (if (!r11.2.1)=true then (if (decide (r11.2.2.1=r9.2.1))=true then ((Q141.f k).bind fun r12=>(some r12)) else (some false)) else (some false)) else (some false)) else (some false)) else (some false)) else (some false)) else (some false)))))
def Q140.l1:Nat->Tp->Ta->Th->(Bool)->Option (Bool)
 | 0,_,_,_,_=>none
 | k+1,a2,r1,r2,x2=>if x2=true then ((Q141.f k).bind fun r6=>(some r6)) else ((Q90.f k r2 r1.2.1).bind fun r7=>(if (!decide (r7.2.1=0))=true then (Q140.l2 k r1 r7.2.2.1 r7.2.2.2.1.1 r7.2.2.2.1.2.2.2.2 r7.2.2.2.2.1 r7.2.2.2.1.2.1 r7.2.2.2.1.2.2.1 r7.2.2.2.1.2.2.2.1 r7.2.2.2.2.2 true) else (if (decide (a2.1=(w64 ((r1.2.2.1.length:Int) - 2))))=true then (Q140.l2 k r1 r7.2.2.1 r7.2.2.2.1.1 r7.2.2.2.1.2.2.2.2 r7.2.2.2.2.1 r7.2.2.2.1.2.1 r7.2.2.2.1.2.2.1 r7.2.2.2.1.2.2.2.1 r7.2.2.2.2.2 true) else (if 0<(r7.1.2.1.length:Int) then ((Q92.f k r7.2.2 (gt r7.1.2.1 0) a2).bind fun r13=>(Q140.l2 k r1 r13.2.1 r13.2.2.1.1 r13.2.2.1.2.2.2.2 r13.2.2.2.1 r13.2.2.1.2.1 r13.2.2.1.2.2.1 r13.2.2.1.2.2.2.1 r13.2.2.2.2 (!decide (r13.1=0)))) else none))))
def Q140.f (k:Nat) (a0:Tr) (a1:Tq) (a2:Tp) (a3:TC):Option (Bool):=(Q136.f k a0 a1).bind fun r1=>(Vo r1.1 (if (!r1.2.2.2)=true then (Q140.l0 k true) else ((Q132.f k a2).bind fun r4=>(if r4=true then (Q140.l0 k true) else ((Q142.f k a3).bind fun r5=>(if r5=true then (Q140.l0 k true) else (Q140.l0 k (decide ((r1.2.2.1.length:Int)<2)))))))) (fun r2=>(if (!r1.2.2.2)=true then (Q140.l1 k a2 r1 r2 true) else ((Q132.f k a2).bind fun r14=>(if r14=true then (Q140.l1 k a2 r1 r2 true) else ((Q142.f k a3).bind fun r15=>(if r15=true then (Q140.l1 k a2 r1 r2 true) else (Q140.l1 k a2 r1 r2 (decide ((r1.2.2.1.length:Int)<2))))))))))
theorem Q140.spec {k a0 a1 a2 a3 A1 c_1 A2 c_2 A3 c_3 A4 c_4 A5 c_5 A6 c_6 A7 c_7 A8 c_8 r} (H:Q140.f k a0 a1 a2 a3=some r) :
  Spec prog 5 [.agg #[.int .i64 a0.1,.int .i64 a0.2.1,.int .i64 a0.2.2.1,.int .i64 a0.2.2.2.1,.int .i64 a0.2.2.2.2.1,.int .i64 a0.2.2.2.2.2.1,.int .i64 a0.2.2.2.2.2.2.1,.int .i64 a0.2.2.2.2.2.2.2],.agg #[.slice A1 a1.1.length c_1,.slice A2 a1.2.1.length c_2,.slice A3 a1.2.2.1.length c_3,.slice A4 a1.2.2.2.length c_4],.agg #[.int .i64 a2.1,.slice A5 a2.2.1.length c_5,.slice A6 a2.2.2.1.length c_6,.slice A7 a2.2.2.2.1.length c_7,.slice A8 a2.2.2.2.2.length c_8],.agg #[.string ⟨⟨a3.1⟩⟩,.string ⟨⟨a3.2.1⟩⟩,.bool a3.2.2]] [] [R47 a1.1 A1 c_1,R69 a1.2.1 A2 c_2,R5 a1.2.2.1 A3 c_3,R5 a1.2.2.2 A4 c_4,R32 a2.2.1 A5 c_5,R9 a2.2.2.1 A6 c_6,R69 a2.2.2.2.1 A7 c_7,R47 a2.2.2.2.2 A8 c_8,tabC 1] (fun v l=>v=.bool r/\l=[]):=by
 refine Zi Tryz.func5 fun w0 F0 h0=>?_
 unfold Q140.f at H
 refine T9 (T7 ?_)
 refine rB (Z8 h0) fun b1 w1 h1=>?_
 refine rB (Z8 h1) fun b2 w2 h2=>?_
 refine rB (Z8 h2) fun b3 w3 h3=>?_
 refine rB (Z8 h3) fun b4 w4 h4=>?_
 refine Ze [4,5,6,7] rfl ?_
 refine T9 (T7 ?_)
 refine Zc (Za 3 h4.wht) ?_
 refine Zc (Za 2 h4.wht) ?_
 obtain ⟨r1,q1,H⟩:=Yj H
 refine Zr (Z5 [] (Q136.spec q1) h4 rfl (gS [0,1,2,3,8])) ?_
 rintro _ w5 ⟨_,_,⟨v1,l1,ho1,A9,c_9,rfl,rfl,rfl⟩,h5⟩
 rcases ho2:r1.1 with _ | r2
 ·rw [ho2] at ho1
  obtain ⟨rfl,rfl⟩:=ho1
  replace H:=J3 ho2 H
  replace h5:=nf h5
  refine Ze [6,7,9,10,11,12] rfl ?_
  have h6:=sO h5 [0,0]
  replace h6:=nf h6
  refine T9 (T9 ?_)
  refine T6 (fun env w=>∃ k1 x1,Q140.l0 k1 x1=some r/\env=[(6,.pointer (some ⟨b3,0,none⟩)),(9,.pointer none),(10,.int .u32 r1.2.1),(11,.slice A9 r1.2.2.1.length c_9),(44,.bool x1)]/\St w0 F0 [X55 b3 a2.1 a2.2.1 A5 c_5 a2.2.2.1 A6 c_6 a2.2.2.2.1 A7 c_7 a2.2.2.2.2 A8 c_8] [R32 a2.2.1 A5 c_5,R9 a2.2.2.1 A6 c_6,R69 a2.2.2.2.1 A7 c_7,R47 a2.2.2.2.2 A8 c_8,R62 r1.2.2.1 A9 c_9,tabC 1] w/\k1<=k) ?_ ?_
  ·refine T7 (Zd 3 ?_)
   refine Z7 32 H (fun c2 H=>?_) fun c2 H=>?_
   ·refine Ze [6,9,10,11,44] rfl ?_
    have h9:=(sOR h6 [1] [5,6,7,8,0,9])
    exact ⟨k,_,H,rfl,h9,Sb _⟩
   refine Zc (Za 1 h6.wht) ?_
   refine cS H [] h6 rfl Q132.spec (gS [7,8,9,10]) fun r4 w9 H h10=>?_
   refine Zd 2 ?_
   refine Z7 36 H (fun c3 H=>?_) fun c3 H=>?_
   ·refine Ze [6,9,10,11,44] rfl ?_
    have h11:=(sOR h10 [1] [5,6,7,8,0,9])
    exact ⟨k,_,H,rfl,h11,Sb _⟩
   refine Zc (Za 0 h10.wht) ?_
   refine cS H [] h10 rfl Q142.spec Zo fun r5 w10 H h12=>?_
   refine Zd 2 ?_
   refine Z7 40 H (fun c4 H=>?_) fun c4 H=>?_
   ·refine Ze [6,9,10,11,44] rfl ?_
    have h13:=(sOR h12 [1] [5,6,7,8,0,9])
    exact ⟨k,_,H,rfl,h13,Sb _⟩
   refine Ze [6,9,10,11,44] rfl ?_
   have h14:=(sOR h12 [1] [5,6,7,8,0,9])
   exact ⟨k,_,H,rfl,h14,Sb _⟩
  rintro env w7 ⟨k1,x1,H,rfl,h7,hk1⟩
  rcases k1 with _ | k1
  ·exact z0 H
  rw [Q140.l0] at H
  refine jIf H (fun c1 H=>?_) fun c1 H=>?_
  ·refine T9 (T7 ?_)
   refine cS H [] h7 rfl Q141.spec (gS [6]) fun r3 w8 H h8=>?_
   refine Ze [8] rfl ?_
   cases H
   exact T8 (jR0 h8 [])
  refine Sa (T9 (T7 ?_))
  refine Zd 2 ?_
  exact nomatch H
 rw [ho2] at ho1
 obtain ⟨b5,b6,b7,A10,c_10,A11,c_11,b8,A12,c_12,b9,A13,c_13,b10,b11,A14,c_14,rfl,rfl⟩:=ho1
 replace H:=J4 ho2 H
 replace h5:=nf h5
 refine Ze [6,7,9,10,11,12] rfl ?_
 have h15:=sO h5 [0,0,0,0,0,0,0,0,0,0,0,0,0,0]
 replace h15:=nf h15
 refine T9 (T9 ?_)
 refine T6 (fun env w=>∃ k2 x2,Q140.l1 k2 a2 r1 r2 x2=some r/\env=[(6,.pointer (some ⟨b3,0,none⟩)),(9,.pointer (some ⟨b5,0,none⟩)),(10,.int .u32 r1.2.1),(11,.slice A9 r1.2.2.1.length c_9),(44,.bool x2)]/\St w0 F0 [X55 b3 a2.1 a2.2.1 A5 c_5 a2.2.2.1 A6 c_6 a2.2.2.2.1 A7 c_7 a2.2.2.2.2 A8 c_8,X86 b5 r2.1.1 r2.1.2.1 r2.1.2.2.1 r2.1.2.2.2.1 r2.1.2.2.2.2.1 r2.1.2.2.2.2.2.1 r2.1.2.2.2.2.2.2.1 r2.1.2.2.2.2.2.2.2 (.pointer (some ⟨b7,0,none⟩)) (.pointer (some ⟨b6,0,none⟩)) (.pointer (some ⟨b10,0,none⟩)) r2.2.2.2,Xd b7 r2.2.1.1.1 r2.2.1.1.2.1 A10 c_10 r2.2.1.1.2.2.1 r2.2.1.1.2.2.2,Xr b6 (.pointer (some ⟨b7,0,none⟩)) r2.2.1.2.1 A11 c_11 (.map (some b8)) r2.2.1.2.2.2.1 A12 c_12 (.pointer (some ⟨b9,0,none⟩)),Y8 .u32 (Value.int .i64) b8 r2.2.1.2.2.1,Y0 b9 r2.2.1.2.2.2.2.1 A13 c_13 r2.2.1.2.2.2.2.2,Vv b10 (.pointer (some ⟨b11,0,none⟩)),X4 b11 r2.2.2.1.1 r2.2.2.1.2.1 r2.2.2.1.2.2 A14 c_14,O5 r2.2.1.1.2.1 A10 c_10,Xs r2.2.1.2.1 A11 c_11,O3 r2.2.1.2.2.2.1 A12 c_12,Y1 r2.2.1.2.2.2.2.1 A13 c_13,O63 r2.2.2.1.2.2 A14 c_14] [R32 a2.2.1 A5 c_5,R9 a2.2.2.1 A6 c_6,R69 a2.2.2.2.1 A7 c_7,R47 a2.2.2.2.2 A8 c_8,R62 r1.2.2.1 A9 c_9,tabC 1] w/\k2<=k) ?_ ?_
 ·refine T7 (Zd 3 ?_)
  refine Z7 32 H (fun c16 H=>?_) fun c16 H=>?_
  ·refine Ze [6,9,10,11,44] rfl ?_
   have h48:=(sOR h15 [13,0,1,0,2,3,4,4,0,0,0,0,0] [5,6,7,8,0,9])
   exact ⟨k,_,H,rfl,h48,Sb _⟩
  refine Zc (Za 13 h15.wht) ?_
  refine cS H [] h15 rfl Q132.spec (gS [19,20,21,22]) fun r14 w27 H h49=>?_
  refine Zd 2 ?_
  refine Z7 36 H (fun c17 H=>?_) fun c17 H=>?_
  ·refine Ze [6,9,10,11,44] rfl ?_
   have h50:=(sOR h49 [13,0,1,0,2,3,4,4,0,0,0,0,0] [5,6,7,8,0,9])
   exact ⟨k,_,H,rfl,h50,Sb _⟩
  refine Zc (Za 12 h49.wht) ?_
  refine cS H [] h49 rfl Q142.spec Zo fun r15 w28 H h51=>?_
  refine Zd 2 ?_
  refine Z7 40 H (fun c18 H=>?_) fun c18 H=>?_
  ·refine Ze [6,9,10,11,44] rfl ?_
   have h52:=(sOR h51 [13,0,1,0,2,3,4,4,0,0,0,0,0] [5,6,7,8,0,9])
   exact ⟨k,_,H,rfl,h52,Sb _⟩
  refine Ze [6,9,10,11,44] rfl ?_
  have h53:=(sOR h51 [13,0,1,0,2,3,4,4,0,0,0,0,0] [5,6,7,8,0,9])
  exact ⟨k,_,H,rfl,h53,Sb _⟩
 rintro env w12 ⟨k2,x2,H,rfl,h16,hk2⟩
 rcases k2 with _ | k2
 ·exact z0 H
 rw [Q140.l1] at H
 refine jIf H (fun c5 H=>?_) fun c5 H=>?_
 ·refine T9 (T7 ?_)
  refine cS H [] h16 rfl Q141.spec (gS [18]) fun r6 w13 H h17=>?_
  refine Ze [8] rfl ?_
  have h18:=sO h17 []
  replace h18:=nf h18
  cases H
  exact T8 (jR0 h18 [])
 refine Sa (T9 (T7 ?_))
 refine Zd 2 ?_
 refine cE H [1,2,1,5,5,1,4,1,3,1,1,1] h16 rfl Q90.spec Zo ?_
 rintro r7 w14 _ _ H ⟨A15,c_15,A16,c_16,A17,c_17,A18,c_18,A19,c_19,A20,c_20,A21,c_21,A22,c_22,A23,c_23,rfl,rfl⟩ h19
 replace h19:=nf h19
 refine Zd 3 ?_
 refine rB (Yv h19) fun b12 w15 h20=>?_
 refine rS (Zv 0 h20) fun _ w16 h21=>?_
 refine Ze [6,9,10,11,13,14] rfl ?_
 refine T9 (T9 ?_)
 refine T6 (fun env w=>∃ k3 x3 x4 x5 x6 A24 c_24 x7 A25 c_25 x8 x9 A26 c_26 A27 c_27 A28 c_28 x10 x11,Q140.l2 k3 r1 x3 x4 x5 x6 x7 x8 x9 x10 x11=some r/\env=[(9,.pointer (some ⟨b5,0,none⟩)),(10,.int .u32 r1.2.1),(71,.bool x11)]/\St w0 F0 [X86 b5 x3.1 x3.2.1 x3.2.2.1 x3.2.2.2.1 x3.2.2.2.2.1 x3.2.2.2.2.2.1 x3.2.2.2.2.2.2.1 x3.2.2.2.2.2.2.2 (.pointer (some ⟨b7,0,none⟩)) (.pointer (some ⟨b6,0,none⟩)) (.pointer (some ⟨b10,0,none⟩)) x10,Xd b7 x4.1 x4.2.1 A24 c_24 x4.2.2.1 x4.2.2.2,Xr b6 (.pointer (some ⟨b7,0,none⟩)) x7 A25 c_25 (.map (some b8)) x9 A26 c_26 (.pointer (some ⟨b9,0,none⟩)),Y8 .u32 (Value.int .i64) b8 x8,Y0 b9 x5.1 A27 c_27 x5.2,Vv b10 (.pointer (some ⟨b11,0,none⟩)),X4 b11 x6.1 x6.2.1 x6.2.2 A28 c_28,O5 x4.2.1 A24 c_24,Xs x7 A25 c_25,O3 x9 A26 c_26,Y1 x5.1 A27 c_27,O63 x6.2.2 A28 c_28] [tabC 1] w/\k3<=k2) ?_ ?_
 ·refine Zx (sO h21 [0,0,0,0,0,12]) ?_
  have h40:=h21.drew
  refine Zl [0,1,2] ?_
  refine Wn 54 H (fun c14 H=>?_) fun c14 H=>?_
  ·refine Zl [3,4,5,6,7,8,9,10,11,12,13,14,15,16,17,18,19] ?_
   refine Z0 [9,10,71] ?_
   have h41:=sO h40 [5,5,5,5,5,5,5,5,5,5,5,5]
   replace h41:=nf h41
   have h42:=(sOR h41 [0,1,0,2,3,4,4,0,0,0,0,0] [5])
   exact ⟨k2,_,_,_,_,_,_,_,_,_,_,_,_,_,_,_,_,_,_,_,H,rfl,h42,Sb _⟩
  refine Zl [3,5,6,7] ?_
  refine Zf 4 rfl (Za 5 wI) ?_
  refine Zl [8,9,10] ?_
  refine Wn 62 H (fun c15 H=>?_) fun c15 H=>?_
  ·refine Zl [11,12,13,14,15,16,17,18,19] ?_
   refine Z0 [9,10,71] ?_
   have h43:=sO h40 [5,5,5,5,5,5,5,5,5,5,5,5]
   replace h43:=nf h43
   have h44:=(sOR h43 [0,1,0,2,3,4,4,0,0,0,0,0] [5])
   exact ⟨k2,_,_,_,_,_,_,_,_,_,_,_,_,_,_,_,_,_,_,_,H,rfl,h44,Sb _⟩
  refine Zl [11,12] ?_
  refine Zf 13 rfl (Za 0 wI) ?_
  obtain ⟨p1,H⟩:=Zk H
  have e1:=Wu h40.wh (gO 1) p1
  refine Zf 14 rfl (Xt e1 p1) ?_
  refine Zf 15 rfl (Y2 0 wI (gO 1) p1) ?_
  refine Zf 16 rfl (Za 5 wI) ?_
  refine cEJ 17 rfl H [5,5,5,5,5,5,5,5,5,5,5,5] h40 rfl Q92.spec (gS [6,7,8,9]) ?_
  rintro r13 w26 _ _ H ⟨A45,c_45,A46,c_46,A47,c_47,A48,c_48,A49,c_49,rfl,rfl⟩ h45
  replace h45:=nf h45
  refine ⟨⟨[_,_,_,_,_,_,_,_,_,_,_,_],h45⟩,?_⟩
  refine Zl [18,19] ?_
  refine Z0 [9,10,71] ?_
  have h46:=sO h45 [0,0,0,0,0,0,0,0,0,0,0,0]
  replace h46:=nf h46
  have h47:=(sOR h46 [0,1,0,2,3,4,4,0,0,0,0,0] [5])
  exact ⟨k2,_,_,_,_,_,_,_,_,_,_,_,_,_,_,_,_,_,_,_,H,rfl,h47,Sb _⟩
 rintro env w18 ⟨k3,x3,x4,x5,x6,A24,c_24,x7,A25,c_25,x8,x9,A26,c_26,A27,c_27,A28,c_28,x10,x11,H,rfl,h22,hk3⟩
 rcases k3 with _ | k3
 ·exact z0 H
 rw [Q140.l2] at H
 refine jIf H (fun c6 H=>?_) fun c6 H=>?_
 ·refine T9 (T7 ?_)
  refine cS H [] h22 rfl Q141.spec (gS [12]) fun r8 w19 H h23=>?_
  refine Ze [8] rfl ?_
  have h24:=sO h23 []
  replace h24:=nf h24
  cases H
  exact T8 (jR0 h24 [])
 refine Sa (T9 (T7 ?_))
 refine Zd 3 ?_
 refine cE H [0,1,0,4,4,0,3,0,2,0,0,0] h22 rfl Q87.spec Zo ?_
 rintro r9 w20 _ _ H ⟨A29,c_29,A30,c_30,A31,c_31,A32,c_32,A33,c_33,A34,c_34,rfl,rfl⟩ h25
 replace h25:=nf h25
 refine Ze [9,10,15,16] rfl ?_
 refine T9 (T7 ?_)
 refine Zd 3 ?_
 refine cE H [1,1,1,1,1,1,1,1,1,1,1,1] h25 rfl Q85.spec Zo ?_
 rintro r10 w21 _ _ H ⟨A35,c_35,A36,c_36,A37,c_37,A38,c_38,A39,c_39,rfl,rfl⟩ h26
 replace h26:=nf h26
 refine Ze [9,10,15,16,17,18] rfl ?_
 refine T9 (T7 ?_)
 refine Zd 3 ?_
 refine cE H [0,0,0,0,0,0,0,0,0,0,0,0] h26 rfl Q86.spec Zo ?_
 rintro r11 w22 _ _ H ⟨A40,c_40,A41,c_41,A42,c_42,A43,c_43,A44,c_44,rfl,rfl⟩ h27
 replace h27:=nf h27
 refine Zd 4 ?_
 refine rB (Yv h27) fun b13 w23 h28=>?_
 refine rS (Zv 0 h28) fun _ w24 h29=>?_
 refine Ze [15,16,17,18,19,20,21] rfl ?_
 have h30:=sO h29 [0,12]
 replace h30:=nf h30
 refine T9 (T7 ?_)
 refine Zd 3 ?_
 refine Z7 97 H (fun c7 H=>?_) fun c7 H=>?_
 ·refine Zd 5 ?_
  refine Z7 102 H (fun c8 H=>?_) fun c8 H=>?_
  ·refine Zd 4 ?_
   refine Z7 106 H (fun c9 H=>?_) fun c9 H=>?_
   ·refine Zd 5 ?_
    refine Z7 111 H (fun c10 H=>?_) fun c10 H=>?_
    ·refine Zc (Za 0 h30.wht) ?_
     refine Zd 4 ?_
     refine Z7 116 H (fun c11 H=>?_) fun c11 H=>?_
     ·refine Zd 4 ?_
      refine Z7 120 H (fun c12 H=>?_) fun c12 H=>?_
      ·refine Zd 5 ?_
       refine Z7 125 H (fun c13 H=>?_) fun c13 H=>?_
       ·refine cS H [] h30 rfl Q141.spec (gS [2]) fun r12 w25 H h31=>?_
        refine Ze [8] rfl ?_
        have h32:=sO h31 []
        replace h32:=nf h32
        cases H
        exact T8 (jR0 h32 [])
       refine Ze [8] rfl ?_
       have h33:=sO h30 []
       replace h33:=nf h33
       cases H
       exact T8 (jR0 h33 [])
      refine Ze [8] rfl ?_
      have h34:=sO h30 []
      replace h34:=nf h34
      cases H
      exact T8 (jR0 h34 [])
     refine Ze [8] rfl ?_
     have h35:=sO h30 []
     replace h35:=nf h35
     cases H
     exact T8 (jR0 h35 [])
    refine Ze [8] rfl ?_
    have h36:=sO h30 []
    replace h36:=nf h36
    cases H
    exact T8 (jR0 h36 [])
   refine Ze [8] rfl ?_
   have h37:=sO h30 []
   replace h37:=nf h37
   cases H
   exact T8 (jR0 h37 [])
  refine Ze [8] rfl ?_
  have h38:=sO h30 []
  replace h38:=nf h38
  cases H
  exact T8 (jR0 h38 [])
 refine Ze [8] rfl ?_
 have h39:=sO h30 []
 replace h39:=nf h39
 cases H
 exact T8 (jR0 h39 [])

end Go.SK.T
