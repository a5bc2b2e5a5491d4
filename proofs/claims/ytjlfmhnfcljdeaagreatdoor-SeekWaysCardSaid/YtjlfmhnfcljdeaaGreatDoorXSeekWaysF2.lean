/- The functions, further. -/
import Derived.Test.YtjlfmhnfcljdeaaGreatDoorXSeekWaysF1
set_option linter.unusedVariables false
set_option linter.unusedSimpArgs false
set_option maxRecDepth 20000
set_option maxHeartbeats 40000000
namespace Go.SK.T
open Go Go.SK Go.Proofs
open BitVec (ofInt)
open Tryz (prog)
def Q19.f (a0:Tj) (a1:Int):Option Ti:=(Q22.f a0).bind fun r1=>(if r1=true then (some (1,a0)) else (if (!(Xc a0.2.2.1 a1))=true then (some (8,a0)) else (if 0<=(Zs (0:Int) a0.2.2.1 a1)/\(Zs (0:Int) a0.2.2.1 a1)<(a0.2.1.length:Int) then (if (decide (((gt a0.2.1 (Zs (0:Int) a0.2.2.1 a1)).2.2.2)=0))=true then (some (8,a0)) else (if (decide (((gt (a0.2.1.set (Zs (0:Int) a0.2.2.1 a1).toNat ((gt a0.2.1 (Zs (0:Int) a0.2.2.1 a1)).1,(gt a0.2.1 (Zs (0:Int) a0.2.2.1 a1)).2.1,(gt a0.2.1 (Zs (0:Int) a0.2.2.1 a1)).2.2.1,(w64 (((gt a0.2.1 (Zs (0:Int) a0.2.2.1 a1)).2.2.2) - 1)))) (Zs (0:Int) a0.2.2.1 a1)).2.2.2)=0))=true then ((Q26.f a0.2.2.2.2 (Zs (0:Int) a0.2.2.1 a1)).bind fun r2=>(some (0,(a0.1,(a0.2.1.set (Zs (0:Int) a0.2.2.1 a1).toNat ((gt a0.2.1 (Zs (0:Int) a0.2.2.1 a1)).1,(gt a0.2.1 (Zs (0:Int) a0.2.2.1 a1)).2.1,(gt a0.2.1 (Zs (0:Int) a0.2.2.1 a1)).2.2.1,(w64 (((gt a0.2.1 (Zs (0:Int) a0.2.2.1 a1)).2.2.2) - 1)))),a0.2.2.1,a0.2.2.2.1,r2.2)))) else (some (0,(a0.1,(a0.2.1.set (Zs (0:Int) a0.2.2.1 a1).toNat ((gt a0.2.1 (Zs (0:Int) a0.2.2.1 a1)).1,(gt a0.2.1 (Zs (0:Int) a0.2.2.1 a1)).2.1,(gt a0.2.1 (Zs (0:Int) a0.2.2.1 a1)).2.2.1,(w64 (((gt a0.2.1 (Zs (0:Int) a0.2.2.1 a1)).2.2.2) - 1)))),a0.2.2.1,a0.2.2.2.1,a0.2.2.2.2))))) else none)))
theorem Q19.spec {a0 a1 b1 b2 b3 b4 A1 c_1 A2 c_2 A3 c_3 A4 c_4 r} (H:Q19.f a0 a1=some r) :
  Spec prog 30 [.pointer (some ⟨b1,0,none⟩),.int .u32 a1] (V2 a0 b1 b2 b3 b4 A1 A2 A3 A4 c_1 c_2 c_3 c_4) [] (fun v l=>∃ A_0 c_0 A_1 c_1 A_2 c_2 A_3 c_3,v=.int .i64 r.1/\l=V2 r.2 b1 b2 b3 b4 A_0 A_1 A_2 A_3 c_0 c_1 c_2 c_3):=by
 refine Zg Tryz.func30 fun w0 F0 h0=>?_
 replace h0:=nf h0
 unfold Q19.f at H
 refine Sc (Za [0,1] ?_)
 refine Sc (Sa (Zf 2 ?_))
 refine Xk Tryz.func57 ?_
 refine Sc (Za [0,1] ?_)
 refine Sc (Sc (Sa (Zf 1 ?_)))
 refine cS H [0,0,0,0,0,0,0,0] h0 rfl Q22.spec Zm fun r1 w1 H h1=>?_
 refine rFi [0,1,9] ?_
 refine jIf H (fun c1 H=>?_) fun c1 H=>?_
 ·refine Sc (Za [4,5] ?_)
  refine Sb (⟨_,Zl,?_⟩)
  refine rFi [0,1,5,6] ?_
  refine Sc (Sc (Za [0,1,5,6,14] ?_))
  refine Zn ?_
  refine Sc (Za [4] ?_)
  cases H
  exact Sb (jR ⟨_,_,_,_,_,_,_,_,rfl,rfl⟩ h1 [0,0,0,0,0,0,0,0])
 refine Sd (Sc (Sa (rRL 3 0 h1 ?_)))
 refine Zf 1 ?_
 refine Zj (Vh (0:Int) 4 h1.wht) ?_
 refine rFi [0,6,7] ?_
 refine Sc (Sc (Sa (Zf 3 ?_)))
 refine Z7 21 H (fun c2 H=>?_) fun c2 H=>?_
 ·refine rFi [0,6,31] ?_
  refine Zn ?_
  refine Sc (Za [4,5] ?_)
  refine Sb (⟨_,Zl,?_⟩)
  refine rFi [0,1,5,6] ?_
  refine Sc (Sc (Za [0,1,5,6,14] ?_))
  refine Zn ?_
  refine Sc (Za [4] ?_)
  cases H
  exact Sb (jR ⟨_,_,_,_,_,_,_,_,rfl,rfl⟩ h1 [0,0,0,0,0,0,0,0])
 refine rRL 3 0 h1 ?_
 refine Zf 1 ?_
 obtain ⟨⟨p1,p2⟩,H⟩:=Zi H
 have e1:=Zv h1.wh (gO 3) p1 p2
 refine Zj (Zd e1 p1 p2) ?_
 refine Zf 1 ?_
 refine Zj (Xe 3 h1.wht (gO 3) p1 p2) ?_
 refine rFi [0,6,31] ?_
 refine jIf H (fun c3 H=>?_) fun c3 H=>?_
 ·refine Sc (Za [4,5] ?_)
  refine Sb (⟨_,Zl,?_⟩)
  refine rFi [0,1,5,6] ?_
  refine Sc (Sc (Za [0,1,5,6,14] ?_))
  refine Zn ?_
  refine Sc (Za [4] ?_)
  cases H
  exact Sb (jR ⟨_,_,_,_,_,_,_,_,rfl,rfl⟩ h1 [0,0,0,0,0,0,0,0])
 refine Sd (Sc (Sa (rRL 3 0 h1 ?_)))
 refine Zf 1 ?_
 refine Zj (Zd e1 p1 p2) ?_
 refine rFi [4,5] ?_
 refine Sb (⟨_,Zl,?_⟩)
 refine rFi [0,1,5,6] ?_
 refine Sc (Sc (Za [0,1,5,6,14] ?_))
 refine Z0 ?_
 refine Sd (Sc (Sa (Zf 3 ?_)))
 refine Zj (Xe 3 h1.wht (gO 3) p1 p2) ?_
 refine Zf 3 ?_
 refine rS (Vk 3 (.pair (.int .u32) (.pair (.slice 5 (.int .u8)) (.pair .bool (.int .i64)))) (Zs (0:Int) a0.2.2.1 a1) ((gt a0.2.1 (Zs (0:Int) a0.2.2.1 a1)).1,(gt a0.2.1 (Zs (0:Int) a0.2.2.1 a1)).2.1,(gt a0.2.1 (Zs (0:Int) a0.2.2.1 a1)).2.2.1,(w64 (((gt a0.2.1 (Zs (0:Int) a0.2.2.1 a1)).2.2.2) - 1))) 3 h1 rfl p1 p2 (Zar rfl rfl)) fun _ w2 h2=>?_
 replace h2:St w0 F0 [X7 (a0.2.1.set (Zs (0:Int) a0.2.2.1 a1).toNat ((gt a0.2.1 (Zs (0:Int) a0.2.2.1 a1)).1,(gt a0.2.1 (Zs (0:Int) a0.2.2.1 a1)).2.1,(gt a0.2.1 (Zs (0:Int) a0.2.2.1 a1)).2.2.1,(w64 (((gt a0.2.1 (Zs (0:Int) a0.2.2.1 a1)).2.2.2) - 1)))) A2 c_2,X6 b1 (.pointer (some ⟨b2,0,none⟩)) (a0.2.1.set (Zs (0:Int) a0.2.2.1 a1).toNat ((gt a0.2.1 (Zs (0:Int) a0.2.2.1 a1)).1,(gt a0.2.1 (Zs (0:Int) a0.2.2.1 a1)).2.1,(gt a0.2.1 (Zs (0:Int) a0.2.2.1 a1)).2.2.1,(w64 (((gt a0.2.1 (Zs (0:Int) a0.2.2.1 a1)).2.2.2) - 1)))) A2 c_2 (.map (some b3)) a0.2.2.2.1 A3 c_3 (.pointer (some ⟨b4,0,none⟩)),Xu b2 a0.1.1 a0.1.2.1 A1 c_1 a0.1.2.2.1 a0.1.2.2.2,O5 a0.1.2.1 A1 c_1,Xj .u32 (Value.int .i64) b3 a0.2.2.1,O3 a0.2.2.2.1 A3 c_3,Y2 b4 a0.2.2.2.2.1 A4 c_4 a0.2.2.2.2.2,Y3 a0.2.2.2.2.1 A4 c_4] _ _:=h2.retell (by simp only [List.length_set,List.length_nil,X7,Y3,O3,O5,X6,Xu,Y2] <;> rfl)
 refine rFi [0,1,5] ?_
 refine Sc (Sc (Sa (Zf 3 ?_)))
 refine Zj (Xe 3 h2.wht (gO 0) p1 (by simpa only [List.length_set] using p2)) ?_
 refine rFi [0,1,27] ?_
 refine jIf H (fun c4 H=>?_) fun c4 H=>?_
 ·refine Zy (sO h2 [0,0,0,0,0,0]) ?_
  have h3:=h2.drew
  refine Zq [0,1,2,4,5,6,8] ?_
  refine Zb 3 rfl (Zh 1 wI) ?_
  refine Zb 7 rfl (Zh 1 wI) ?_
  refine Zb 9 rfl (Zhs (0:Int) 4 wI) ?_
  refine cEJ 10 rfl H [6,6] h3 rfl Q26.spec Zm ?_
  rintro r2 w3 _ _ H ⟨A5,c_5,rfl,rfl⟩ h4
  replace h4:=nf h4
  refine ⟨⟨[_,_],h4⟩,?_⟩
  refine Y7 [] ?_
  refine Sc (Za [4] ?_)
  cases H
  exact Sb (jR ⟨_,_,_,_,_,_,_,_,rfl,rfl⟩ h4 [3,3,3,2,2,2,0,0])
 refine Sd (Sc (Za [4] ?_))
 cases H
 exact Sb (jR ⟨_,_,_,_,_,_,_,_,rfl,rfl⟩ h2 [1,1,1,0,0,0,0,0])

def Q95.f (a0:Th) (a1:Int) (a2:T0):Option (Int×Th):=if (decide (a1=a0.2.2.2))=true then ((Q20.f a0.2.1 a1 a2).bind fun r1=>(some (r1.1,(a0.1,r1.2,a0.2.2.1,a0.2.2.2)))) else ((Q16.f a0.2.1 a1).bind fun r2=>(if (!decide (r2.1=0))=true then (some (r2.1,(a0.1,r2.2,a0.2.2.1,a0.2.2.2))) else ((Q20.f r2.2 a1 a2).bind fun r3=>((Q19.f r3.2 a1).bind fun r4=>(some (r3.1,(a0.1,r4.2,a0.2.2.1,a0.2.2.2)))))))
theorem Q95.spec {a0 a1 a2 A6 c_6 b1 b2 b3 b4 b5 b6 b7 A1 c_1 A2 c_2 A3 c_3 A4 c_4 A5 c_5 r} (H:Q95.f a0 a1 a2=some r) :
  Spec prog 83 [.pointer (some ⟨b1,0,none⟩),.int .u32 a1,.slice A6 a2.length c_6] (Wy a0 b1 b2 b3 b4 b5 b6 b7 A1 A2 A3 A4 A5 c_1 c_2 c_3 c_4 c_5) [R5 a2 A6 c_6] (fun v l=>∃ A_0 c_0 A_1 c_1 A_2 c_2 A_3 c_3 A_4 c_4,v=.int .i64 r.1/\l=Wy r.2 b1 b2 b3 b4 b5 b6 b7 A_0 A_1 A_2 A_3 A_4 c_0 c_1 c_2 c_3 c_4):=by
 refine Zg Tryz.func83 fun w0 F0 h0=>?_
 replace h0:=nf h0
 unfold Q95.f at H
 refine Sc (Za [0,1,2] ?_)
 refine Sc (Sc (Sa (rRL 4 0 h0 ?_)))
 refine rFi [0,1,2,14] ?_
 refine jIf H (fun c1 H=>?_) fun c1 H=>?_
 ·refine Sc (Sa (rRL 3 0 h0 ?_))
  refine Zf 2 ?_
  refine cE H [1,1,1,1,1,1,1,1] h0 rfl Q20.spec (gS [4]) ?_
  rintro r1 w1 _ _ H ⟨A7,c_7,A8,c_8,A9,c_9,A10,c_10,rfl,rfl⟩ h1
  replace h1:=nf h1
  refine rFi [6] ?_
  cases H
  exact Sb (jR ⟨_,_,_,_,_,_,_,_,_,_,rfl,rfl⟩ h1 [8,0,0,0,0,0,0,0,0,0,0,0])
 refine Sd (Sc (Sc (Sa (rRL 3 0 h0 ?_))))
 refine Zf 1 ?_
 refine cE H [1,1,1,1,1,1,1,1] h0 rfl Q16.spec Zm ?_
 rintro r2 w2 _ _ H ⟨A11,c_11,A12,c_12,A13,c_13,A14,c_14,rfl,rfl⟩ h2
 replace h2:=nf h2
 refine rFi [0,1,2,7] ?_
 refine Sc (Za [0,1,2,7,29] ?_)
 refine jIf H (fun c2 H=>?_) fun c2 H=>?_
 ·refine Sc (Za [6] ?_)
  cases H
  exact Sb (jR ⟨_,_,_,_,_,_,_,_,_,_,rfl,rfl⟩ h2 [8,0,0,0,0,0,0,0,0,0,0,0])
 refine Sd (Sc (Sa (rRL 3 8 h2 ?_)))
 refine Zf 2 ?_
 refine cE H [0,0,0,0,0,0,0,0] h2 rfl Q20.spec (gS [4]) ?_
 rintro r3 w3 _ _ H ⟨A15,c_15,A16,c_16,A17,c_17,A18,c_18,rfl,rfl⟩ h3
 replace h3:=nf h3
 refine rFi [0,1,8] ?_
 refine Sc (Sa (rRL 3 8 h3 ?_))
 refine Zf 1 ?_
 refine cE H [0,0,0,0,0,0,0,0] h3 rfl Q19.spec Zm ?_
 rintro r4 w4 _ _ H ⟨A19,c_19,A20,c_20,A21,c_21,A22,c_22,rfl,rfl⟩ h4
 replace h4:=nf h4
 refine rFi [8] ?_
 refine Sc (Za [6] ?_)
 cases H
 exact Sb (jR ⟨_,_,_,_,_,_,_,_,_,_,rfl,rfl⟩ h4 [8,0,0,0,0,0,0,0,0,0,0,0])

def Q3.f (a0:TN) (a1:Int):Option (Int×TN):=(Q10.f a0 a1).bind fun r1=>(if (!decide (r1=0))=true then (some (r1,a0)) else ((Q6.f a0 a1).bind fun r2=>(if (!r2)=true then (some (9,a0)) else (if 0<=(w64 (Int.tdiv a1 64))/\(w64 (Int.tdiv a1 64))<(a0.2.2.length:Int) then (if 0<=(Int.tmod a1 64) then (some (0,(a0.1,(w64 (a0.2.1 - 1)),(a0.2.2.set (w64 (Int.tdiv a1 64)).toNat (uH.wrap (((ofInt uH.bits (gt a0.2.2 (w64 (Int.tdiv a1 64))) &&& ~~~(ofInt uH.bits (uH.wrap ((1:Int)*2 ^ (min (Int.tmod a1 64).toNat 64))))).toNat:Int))))))) else none) else none))))
theorem Q3.spec {a0 a1 b1 A1 c_1 r} (H:Q3.f a0 a1=some r) :
  Spec prog 121 [.pointer (some ⟨b1,0,none⟩),.int .i64 a1] (Vl a0 b1 A1 c_1) [] (fun v l=>∃ A_0 c_0,v=.int .i64 r.1/\l=Vl r.2 b1 A_0 c_0):=by
 refine Zg Tryz.func121 fun w0 F0 h0=>?_
 replace h0:=nf h0
 unfold Q3.f at H
 refine Sc (Za [0,1] ?_)
 refine Sc (Sc (Sa (Zf 2 ?_)))
 refine cS H [0,0] h0 rfl Q10.spec Zm fun r1 w1 H h1=>?_
 refine rFi [0,1,5] ?_
 refine Sc (Za [0,1,5,10] ?_)
 refine jIf H (fun c1 H=>?_) fun c1 H=>?_
 ·refine Sc (Za [4] ?_)
  cases H
  exact Sb (jR ⟨_,_,rfl,rfl⟩ h1 [0,0])
 refine Sd (Sc (Sc (Sa (Zf 2 ?_))))
 refine cS H [0,0] h1 rfl Q6.spec Zm fun r2 w2 H h2=>?_
 refine rFi [0,1,15] ?_
 refine jIf H (fun c2 H=>?_) fun c2 H=>?_
 ·refine Sc (Za [4] ?_)
  cases H
  exact Sb (jR ⟨_,_,rfl,rfl⟩ h2 [0,0])
 refine Sd (Sc ?_)
 obtain ⟨⟨p1,p2⟩,H⟩:=Zi H
 obtain ⟨p3,H⟩:=Zi H
 refine T9 (fun env w=>env=[(0,.pointer (some ⟨b1,0,none⟩))]/\St w0 F0 [Ws b1 a0.1 a0.2.1 (a0.2.2.set (w64 (Int.tdiv a1 64)).toNat (uH.wrap (((ofInt uH.bits (gt a0.2.2 (w64 (Int.tdiv a1 64))) &&& ~~~(ofInt uH.bits (uH.wrap ((1:Int)*2 ^ (min (Int.tmod a1 64).toNat 64))))).toNat:Int)))) A1 c_1,Wr (a0.2.2.set (w64 (Int.tdiv a1 64)).toNat (uH.wrap (((ofInt uH.bits (gt a0.2.2 (w64 (Int.tdiv a1 64))) &&& ~~~(ofInt uH.bits (uH.wrap ((1:Int)*2 ^ (min (Int.tmod a1 64).toNat 64))))).toNat:Int)))) A1 c_1] [] w) ?_ ?_
 ·refine Zy (sO h2 [0]) ?_
  have h4:=h2.drew
  refine Zq [0,1,2,4,5,8,9] ?_
  refine Zb 3 rfl (Zh 0 wI) ?_
  have e2:=Zv h4.wh (gO 1) p1 p2
  refine Zb 6 rfl (Zd e2 p1 p2) ?_
  refine T2 fun G E hE hG=>?_
  have j7:∀ w2,St w0 F0 [Ws b1 a0.1 a0.2.1 a0.2.2 A1 c_1,Wr a0.2.2 A1 c_1] [] w2->G [12,11,10,7,6,3,9,8,5,4,2,1,0] ((28,.pointer (some ⟨blk A1,ofs A1+(w64 (Int.tdiv a1 64)).toNat*1,none⟩)) :: (27,.int .u64 (uH.wrap (((ofInt uH.bits (gt a0.2.2 (w64 (Int.tdiv a1 64))) &&& ~~~(ofInt uH.bits (uH.wrap ((1:Int)*2 ^ (min (Int.tmod a1 64).toNat 64))))).toNat:Int)))) :: (26,.int .u64 (uH.wrap ((1:Int)*2 ^ (min (Int.tmod a1 64).toNat 64)))) :: (23,.int .u64 (gt a0.2.2 (w64 (Int.tdiv a1 64)))) :: E) w2:=by
   intro w2 h4
   subst hE
   refine (hG _ _ _).1 ?_
   refine hS 13 rfl (Zr 0 (.int .u64) (w64 (Int.tdiv a1 64)) (uH.wrap (((ofInt uH.bits (gt a0.2.2 (w64 (Int.tdiv a1 64))) &&& ~~~(ofInt uH.bits (uH.wrap ((1:Int)*2 ^ (min (Int.tmod a1 64).toNat 64))))).toNat:Int))) 1 h4 rfl p1 p2) 1 fun _ w7 h8=>?_
   replace h8:St w0 F0 [Wr (a0.2.2.set (w64 (Int.tdiv a1 64)).toNat (uH.wrap (((ofInt uH.bits (gt a0.2.2 (w64 (Int.tdiv a1 64))) &&& ~~~(ofInt uH.bits (uH.wrap ((1:Int)*2 ^ (min (Int.tmod a1 64).toNat 64))))).toNat:Int)))) A1 c_1,Ws b1 a0.1 a0.2.1 (a0.2.2.set (w64 (Int.tdiv a1 64)).toNat (uH.wrap (((ofInt uH.bits (gt a0.2.2 (w64 (Int.tdiv a1 64))) &&& ~~~(ofInt uH.bits (uH.wrap ((1:Int)*2 ^ (min (Int.tmod a1 64).toNat 64))))).toNat:Int)))) A1 c_1] _ _:=h8.retell (by simp only [List.length_set,List.length_nil,Wr,Ws] <;> rfl)
   refine Y7 [0] ?_
   exact Yt ⟨(by simp only [List.length_set,List.length_nil] <;> rfl),((h8.only [1,0] rfl).rds [] rfl)⟩
  subst hE
  refine (hG _ _ _).1 ?_
  refine T3 [7,10] (i:=7) rfl rfl rfl rfl ?_
  refine (Z9 ?_ (Z9 ?_ Xs))
  ·refine Z2 7 rfl (Sf (Ze 0 h4.wht (gO 1) p1 p2)) ?_
   rintro _ _ ⟨rfl,rfl⟩
   replace h4:=nf h4
   refine ⟨⟨[_],(sO h4 [1,0])⟩,?_⟩
   refine Zb 10 rfl (Gr p3) ?_
   refine Zq [11] ?_
   refine Zb 12 rfl (Zd e2 p1 p2) ?_
   exact (hG _ _ _).2 (j7 _ h4)
  ·refine HS.op (i:=10) rfl rfl rfl (Sf (Zk5 rfl rfl rfl p3)) ?_; rintro _ _ ⟨rfl,rfl⟩; replace h4:St w0 F0 [_,_] _ _:=h4; refine ⟨⟨[_],(h4.only [1,0] rfl)⟩,?_⟩
   refine Yb 7 rfl (Sf (Ze 0 h4.wht (gO 1) p1 p2)) ?_
   rintro _ _ ⟨rfl,rfl⟩
   replace h4:=nf h4
   refine ⟨⟨[_],(sO h4 [1,0])⟩,?_⟩
   refine Zq [11] ?_
   refine Zb 12 rfl (Zd e2 p1 p2) ?_
   exact ((hG _ _ _).2 (j7 _ h4)).re [0,1,3,2] 4
 rintro env w10 ⟨rfl,h11⟩
 refine Sc (Sa (rRL 3 0 h11 ?_))
 refine Zf 3 ?_
 refine rS (Zk 0 h11) fun _ w11 h12=>?_
 refine rFi [] ?_
 refine Sc (Za [4] ?_)
 cases H
 exact Sb (jR ⟨_,_,rfl,rfl⟩ h12 [0,0])

def Q79.f (a0:TL) (a1:Int):Option (Int×TL):=(Q82.f a0).bind fun r1=>(if r1=true then (some (1,a0)) else (if (decide (a1=0))=true then (some (2,a0)) else ((Q3.f a0 (w64 (a1))).bind fun r2=>(some r2))))
theorem Q79.spec {a0 a1 b1 b2 A1 c_1 r} (H:Q79.f a0 a1=some r) :
  Spec prog 84 [.pointer (some ⟨b1,0,none⟩),.int .u32 a1] (Bh a0 b1 b2 A1 c_1) [] (fun v l=>∃ A_0 c_0,v=.int .i64 r.1/\l=Bh r.2 b1 b2 A_0 c_0):=by
 refine Zg Tryz.func84 fun w0 F0 h0=>?_
 replace h0:=nf h0
 unfold Q79.f at H
 refine Sc (Za [0,1] ?_)
 refine Sc (T4 (Sc (Sa (Zf 1 ?_))))
 refine cS H [0,0,0] h0 rfl Q82.spec Zm fun r1 w1 H h1=>?_
 refine rFi [0,1,5] ?_
 refine jIf H (fun c1 H=>?_) fun c1 H=>?_
 ·refine Sc (Za [4] ?_)
  cases H
  exact Sb (jR ⟨_,_,rfl,rfl⟩ h1 [0,0,0])
 refine Sc (Za [0,1,8] ?_)
 refine jIf H (fun c2 H=>?_) fun c2 H=>?_
 ·refine Sc (Za [4] ?_)
  cases H
  exact Sb (jR ⟨_,_,rfl,rfl⟩ h1 [0,0,0])
 refine Sd (Sc (Sa (rRL 3 0 h1 ?_)))
 refine Zf 2 ?_
 refine cE H [1,1] h1 rfl Q3.spec Zm ?_
 rintro r2 w2 _ _ H ⟨A2,c_2,rfl,rfl⟩ h2
 replace h2:=nf h2
 refine rFi [4] ?_
 cases H
 exact Sb (jR ⟨_,_,rfl,rfl⟩ h2 [2,0,0])

def Q94.f (k:Nat) (a0:Th) (a1:Tq):Option (Int×Int×Th):=(Q96.f a0).bind fun r1=>(if (!decide (r1=0))=true then (some (0,r1,a0)) else ((Q37.f k a0.1 a1).bind fun r2=>(if (!decide (r2.2=0))=true then (some (0,r2.2,a0)) else ((Q81.f k a0.2.2.1).bind fun r3=>(if (!decide (r3.2.1=0))=true then (some (0,r3.2.1,(a0.1,a0.2.1,r3.2.2,a0.2.2.2))) else ((Q95.f (a0.1,a0.2.1,r3.2.2,a0.2.2.2) r3.1 r2.1).bind fun r4=>(if (!decide (r4.1=0))=true then ((Q79.f r4.2.2.2.1 r3.1).bind fun r5=>(some (0,r4.1,(r4.2.1,r4.2.2.1,r5.2,r4.2.2.2.2)))) else (some (r3.1,0,r4.2)))))))))
theorem Q94.spec {k a0 a1 A6 c_6 A7 c_7 A8 c_8 A9 c_9 b1 b2 b3 b4 b5 b6 b7 A1 c_1 A2 c_2 A3 c_3 A4 c_4 A5 c_5 r} (H:Q94.f k a0 a1=some r) :
  Spec prog 44 [.pointer (some ⟨b1,0,none⟩),.agg #[.int .i64 a1.1,.slice A6 a1.2.1.length c_6,.slice A7 a1.2.2.1.length c_7,.slice A8 a1.2.2.2.1.length c_8,.slice A9 a1.2.2.2.2.length c_9]] (Wy a0 b1 b2 b3 b4 b5 b6 b7 A1 A2 A3 A4 A5 c_1 c_2 c_3 c_4 c_5) [R30 a1.2.1 A6 c_6,R9 a1.2.2.1 A7 c_7,R59 a1.2.2.2.1 A8 c_8,R57 a1.2.2.2.2 A9 c_9,tabC 1] (fun v l=>∃ A_0 c_0 A_1 c_1 A_2 c_2 A_3 c_3 A_4 c_4,v=.tuple #[.int .u32 r.1,.int .i64 r.2.1]/\l=Wy r.2.2 b1 b2 b3 b4 b5 b6 b7 A_0 A_1 A_2 A_3 A_4 c_0 c_1 c_2 c_3 c_4):=by
 refine Zg Tryz.func44 fun w0 F0 h0=>?_
 replace h0:=nf h0
 unfold Q94.f at H
 refine Sc (Sa (rB (Z8 h0) fun b8 w1 h1=>?_))
 refine rFi [0,3] ?_
 refine Sc (Sc (Sa (Zf 1 ?_)))
 refine cS H [1,1,1,1,1,1,1,1,1,1,1,1] h1 rfl Q96.spec Zm fun r1 w2 H h2=>?_
 refine rFi [0,3,6] ?_
 refine Sc (Za [0,3,6,14] ?_)
 refine jIf H (fun c1 H=>?_) fun c1 H=>?_
 ·refine Sc (Za [4,5] ?_)
  cases H
  exact Sb (jR ⟨_,_,_,_,_,_,_,_,_,_,rfl,rfl⟩ h2 [0,0,0,0,0,0,0,0,0,0,0,0])
 refine Sd (Sc (jH h2 fun h3=>?_))
 refine Zq [0,1,2] ?_
 refine Zb 3 rfl (Zh 0 wI) ?_
 refine Zb 4 rfl (Zh 12 wI) ?_
 refine cEJ 5 rfl H [] h3 rfl Q37.spec (gS [13,14,15,16]) ?_
 rintro r2 w3 _ _ H ⟨A10,c_10,rfl,rfl⟩ h4
 replace h4:=nf h4
 refine ⟨⟨[_],h4⟩,?_⟩
 refine hRF [6,7,8,9,10] [0,7,8] ?_
 refine Sc (Sc (Za [0,7,8,26] ?_))
 refine jIf H (fun c2 H=>?_) fun c2 H=>?_
 ·refine Sc (Za [4,5] ?_)
  have h5:=sO h4 [1,1,1,1,1,1,1,1,1,1,1,1]
  replace h5:=nf h5
  cases H
  exact Sb (jR ⟨_,_,_,_,_,_,_,_,_,_,rfl,rfl⟩ h5 [0,0,0,0,0,0,0,0,0,0,0,0])
 refine Sd (Sc (Sa (rRL 3 1 h4 ?_)))
 refine cE H [10,10,10] h4 rfl Q81.spec (gS [15]) ?_
 rintro r3 w4 _ _ H ⟨A11,c_11,rfl,rfl⟩ h6
 replace h6:=nf h6
 refine rFi [0,7,8,9] ?_
 refine Sc (Sc (Za [0,7,8,9,37] ?_))
 refine jIf H (fun c3 H=>?_) fun c3 H=>?_
 ·refine Sc (Za [4,5] ?_)
  have h7:=sO h6 [0,0,0,1,1,1,1,1,1,1,1,1]
  replace h7:=nf h7
  cases H
  exact Sb (jR ⟨_,_,_,_,_,_,_,_,_,_,rfl,rfl⟩ h7 [3,3,3,3,3,3,3,3,3,0,0,0])
 refine Sd (Sc (Sc (Sa (Zf 3 ?_))))
 refine cE H [4,4,4,4,4,4,4,4,4,0,0,0] h6 rfl Q95.spec (Xm (gO 0) Zm) ?_
 rintro r4 w5 _ _ H ⟨A12,c_12,A13,c_13,A14,c_14,A15,c_15,A16,c_16,rfl,rfl⟩ h8
 replace h8:=nf h8
 refine rFi [0,9,10] ?_
 have h9:=sO h8 [0,0,0,0,0,0,0,0,0,0,0,0]
 replace h9:=nf h9
 refine Sc (Za [0,9,10,44] ?_)
 refine jIf H (fun c4 H=>?_) fun c4 H=>?_
 ·refine Sc (Sa (rRL 3 0 h9 ?_))
  refine Zf 1 ?_
  refine cE H [9,9,9] h9 rfl Q79.spec Zm ?_
  rintro r5 w6 _ _ H ⟨A17,c_17,rfl,rfl⟩ h10
  replace h10:=nf h10
  refine rFi [10] ?_
  refine Sc (Za [4,5] ?_)
  cases H
  exact Sb (jR ⟨_,_,_,_,_,_,_,_,_,_,rfl,rfl⟩ h10 [3,3,3,3,3,3,3,3,3,0,0,0])
 refine Sd (Sc (Za [4,5] ?_))
 cases H
 exact Sb (jR ⟨_,_,_,_,_,_,_,_,_,_,rfl,rfl⟩ h9 [0,0,0,0,0,0,0,0,0,0,0,0])

mutual
def Q132.l0:Nat->Tm->Ts->TG->TE->TL->Tz->TQ->T0->(Int)->T0->(Int)->Option Tg
 | 0,_,_,_,_,_,_,_,_,_,_,_=>none
 | k+1,a1,x1,x2,x3,x4,x5,x6,x7,x8,x9,x10=>if (decide (x10<(a1.length:Int)))=true then (Q132.l1 k a1 x9 x10 x1 x2 x3 x4 x5 x6 x7 x8 [] 0) else (if 0<(x9.length:Int) then (some ((gt x9 0),true,(x1,(x2,x5,x6,x7,x3),x4,x8))) else none)
def Q132.l1:Nat->Tm->T0->(Int)->Ts->TG->TE->TL->Tz->TQ->T0->(Int)->T0->(Int)->Option Tg
 | 0,_,_,_,_,_,_,_,_,_,_,_,_,_=>none
 | k+1,a1,x9,x10,x11,x12,x13,x14,x15,x16,x17,x18,x19,x20=>if 0<=x10/\x10<(a1.length:Int) then (if (decide (x20<((gt a1 x10).length:Int)))=true then (if 0<=x20/\x20<((gt a1 x10).length:Int) then (Q132.l3 k a1 x9 x10 x11 x12 x13 x14 x15 x16 x17 x18 x19 x20 [] 0) else none) else (Q132.l0 k a1 x11 x12 x13 x14 x15 x16 x17 x18 x19 (w64 (x10+1)))) else none
def Q132.l2:Nat->Tm->T0->(Int)->Ts->TG->TE->TL->Tz->TQ->T0->(Int)->T0->(Int)->T0->(Int)->(Bool)->Option Tg
 | 0,_,_,_,_,_,_,_,_,_,_,_,_,_,_,_,_=>none
 | k+1,a1,x9,x10,x11,x12,x13,x14,x15,x16,x17,x18,x19,x20,x21,x22,x23=>(Q94.f k (x11,(x12,x15,x16,x17,x13),x14,x18) ((gt (gt a1 x10) x20).1,x21,(gt (gt a1 x10) x20).2.2.1,(gt (gt a1 x10) x20).2.2.2.1,(gt (gt a1 x10) x20).2.2.2.2)).bind fun r1=>(if (!decide (r1.2.1=0))=true then (some (0,false,r1.2.2)) else (if (x19.length+([r1.1]:List Int).length)*4<=140737488355328 then (Q132.l1 k a1 x9 x10 r1.2.2.1 r1.2.2.2.1.1 r1.2.2.2.1.2.2.2.2 r1.2.2.2.2.1 r1.2.2.2.1.2.1 r1.2.2.2.1.2.2.1 r1.2.2.2.1.2.2.2.1 r1.2.2.2.2.2 (x19 ++ [r1.1]) (w64 (x20+1))) else none))
def Q132.l3:Nat->Tm->T0->(Int)->Ts->TG->TE->TL->Tz->TQ->T0->(Int)->T0->(Int)->T0->(Int)->Option Tg
 | 0,_,_,_,_,_,_,_,_,_,_,_,_,_,_,_=>none
 | k+1,a1,x9,x10,x11,x12,x13,x14,x15,x16,x17,x18,x19,x20,x24,x25=>if (decide (x25<(((gt (gt a1 x10) x20).2.1).length:Int)))=true then (if 0<=x25/\x25<(((gt (gt a1 x10) x20).2.1).length:Int) then (if 0<=(uD.wrap ((gt ((gt (gt a1 x10) x20).2.1) x25) - 1))/\(uD.wrap ((gt ((gt (gt a1 x10) x20).2.1) x25) - 1))<(x9.length:Int) then (if (x24.length+([(gt x9 (uD.wrap ((gt ((gt (gt a1 x10) x20).2.1) x25) - 1)))]:List Int).length)*4<=140737488355328 then (Q132.l3 k a1 x9 x10 x11 x12 x13 x14 x15 x16 x17 x18 x19 x20 (x24 ++ [(gt x9 (uD.wrap ((gt ((gt (gt a1 x10) x20).2.1) x25) - 1)))]) (w64 (x25+1))) else none) else none) else none) else (Q132.l2 k a1 x9 x10 x11 x12 x13 x14 x15 x16 x17 x18 x19 x20 x24 x25 (decide (x25<(((gt (gt a1 x10) x20).2.1).length:Int))))
end
def Q132.f (k:Nat) (a0:Th) (a1:Tm):Option Tg:=Q132.l0 k a1 a0.1 a0.2.1.1 a0.2.1.2.2.2.2 a0.2.2.1 a0.2.1.2.1 a0.2.1.2.2.1 a0.2.1.2.2.2.1 a0.2.2.2 [] 0
theorem Q132.spec {k a0 a1 A6 c_6 b1 b2 b3 b4 b5 b6 b7 A1 c_1 A2 c_2 A3 c_3 A4 c_4 A5 c_5 r} (H:Q132.f k a0 a1=some r) :
  Spec prog 17 [.pointer (some ⟨b1,0,none⟩),.slice A6 a1.length c_6] (Wy a0 b1 b2 b3 b4 b5 b6 b7 A1 A2 A3 A4 A5 c_1 c_2 c_3 c_4 c_5) [R35 a1 A6 c_6,tabC 1] (fun v l=>∃ A_0 c_0 A_1 c_1 A_2 c_2 A_3 c_3 A_4 c_4,v=.tuple #[.int .u32 r.1,.bool r.2.1]/\l=Wy r.2.2 b1 b2 b3 b4 b5 b6 b7 A_0 A_1 A_2 A_3 A_4 c_0 c_1 c_2 c_3 c_4):=by
 refine Zg Tryz.func17 fun w0 F0 h0=>?_
 replace h0:=nf h0
 unfold Q132.f at H
 refine Sc (Za [0,1] ?_)
 refine Sc (Sa (rB (Zx (.int .u32) [] h0) fun b8 w1 h1=>?_))
 refine rFi [0,1,6] ?_
 refine Sc (Sc (Za [0,1,6,7] ?_))
 refine T4 ?_
 have h30:=(sOR h1 [1,2,1,3,4,5,5,1,1,1,1,1,0] [0,1])
 refine T8 (fun kk env w=>∃ x1 x2 x3 x4 A7 c_7 x5 A8 c_8 x6 x7 A9 c_9 A10 c_10 A11 c_11 x8 x9 A12 c_12 x10,Q132.l0 kk a1 x1 x2 x3 x4 x5 x6 x7 x8 x9 x10=some r/\env=[(0,.pointer (some ⟨b1,0,none⟩)),(1,.slice A6 a1.length c_6),(6,.slice A12 x9.length c_12),(7,.int .i64 x10)]/\St w0 F0 [X78 b1 x1.1 x1.2.1 x1.2.2.1 x1.2.2.2.1 x1.2.2.2.2.1 x1.2.2.2.2.2.1 x1.2.2.2.2.2.2.1 x1.2.2.2.2.2.2.2 (.pointer (some ⟨b3,0,none⟩)) (.pointer (some ⟨b2,0,none⟩)) (.pointer (some ⟨b6,0,none⟩)) x8,Xu b3 x2.1 x2.2.1 A7 c_7 x2.2.2.1 x2.2.2.2,X6 b2 (.pointer (some ⟨b3,0,none⟩)) x5 A8 c_8 (.map (some b4)) x7 A9 c_9 (.pointer (some ⟨b5,0,none⟩)),Xj .u32 (Value.int .i64) b4 x6,Y2 b5 x3.1 A10 c_10 x3.2,Us b6 (.pointer (some ⟨b7,0,none⟩)),Ws b7 x4.1 x4.2.1 x4.2.2 A11 c_11,O5 x2.2.1 A7 c_7,X7 x5 A8 c_8,O3 x7 A9 c_9,Y3 x3.1 A10 c_10,Wr x4.2.2 A11 c_11,O30 x9 A12 c_12] [R35 a1 A6 c_6,tabC 1] w) (k:=k) ⟨_,_,_,_,_,_,_,_,_,_,_,_,_,_,_,_,_,_,_,_,_,_,H,rfl,h30⟩ ?_
 rintro k1 env w2 ⟨x1,x2,x3,x4,A7,c_7,x5,A8,c_8,x6,x7,A9,c_9,A10,c_10,A11,c_11,x8,x9,A12,c_12,x10,H,rfl,h2⟩
 rcases k1 with _ | k1
 ·exact z0 H
 rw [Q132.l0] at H
 refine Sc (Sc (Za [0,1,6,7,19] ?_))
 refine jIf H (fun c1 H=>?_) fun c1 H=>?_
 ·refine Sd (Sc (T4 (Sc (Sa (rB (Zx (.int .u32) [] h2) fun b9 w3 h3=>?_)))))
  refine rFi [0,1,6,7,8] ?_
  refine Sc (Sc (Za [0,1,6,7,8,9] ?_))
  refine T4 ?_
  have h29:=(sOR h3 [1,1,1,1,1,1,1,1,1,1,1,1,1,0] [0,1])
  refine T8 (fun kk env w=>∃ x11 x12 x13 x14 A13 c_13 x15 A14 c_14 x16 x17 A15 c_15 A16 c_16 A17 c_17 x18 x19 A18 c_18 x20,Q132.l1 kk a1 x9 x10 x11 x12 x13 x14 x15 x16 x17 x18 x19 x20=some r/\env=[(0,.pointer (some ⟨b1,0,none⟩)),(1,.slice A6 a1.length c_6),(6,.slice A12 x9.length c_12),(7,.int .i64 x10),(8,.slice A18 x19.length c_18),(9,.int .i64 x20)]/\St w0 F0 [X78 b1 x11.1 x11.2.1 x11.2.2.1 x11.2.2.2.1 x11.2.2.2.2.1 x11.2.2.2.2.2.1 x11.2.2.2.2.2.2.1 x11.2.2.2.2.2.2.2 (.pointer (some ⟨b3,0,none⟩)) (.pointer (some ⟨b2,0,none⟩)) (.pointer (some ⟨b6,0,none⟩)) x18,Xu b3 x12.1 x12.2.1 A13 c_13 x12.2.2.1 x12.2.2.2,X6 b2 (.pointer (some ⟨b3,0,none⟩)) x15 A14 c_14 (.map (some b4)) x17 A15 c_15 (.pointer (some ⟨b5,0,none⟩)),Xj .u32 (Value.int .i64) b4 x16,Y2 b5 x13.1 A16 c_16 x13.2,Us b6 (.pointer (some ⟨b7,0,none⟩)),Ws b7 x14.1 x14.2.1 x14.2.2 A17 c_17,O5 x12.2.1 A13 c_13,X7 x15 A14 c_14,O3 x17 A15 c_15,Y3 x13.1 A16 c_16,Wr x14.2.2 A17 c_17,O30 x9 A12 c_12,O30 x19 A18 c_18] [R35 a1 A6 c_6,tabC 1] w/\kk<=k1) (k:=k1) ⟨_,_,_,_,_,_,_,_,_,_,_,_,_,_,_,_,_,_,_,_,_,_,H,rfl,h29,Se _⟩ ?_
  rintro k2 env w4 ⟨x11,x12,x13,x14,A13,c_13,x15,A14,c_14,x16,x17,A15,c_15,A16,c_16,A17,c_17,x18,x19,A18,c_18,x20,H,rfl,h4,hk2⟩
  rcases k2 with _ | k2
  ·exact z0 H
  rw [Q132.l1] at H
  refine Sc (Sc (Sa (Zf 3 ?_)))
  obtain ⟨⟨p1,p2⟩,H⟩:=Zi H
  have e1:=Zv h4.wh (Zc 14) p1 p2
  refine Zj (Zd e1 p1 p2) ?_
  obtain ⟨cs1,h5⟩:=h4.elem 0 rfl p1 p2
  obtain ⟨A19,c_19,rfl⟩:=Z3 0 h5
  refine Zj (Xd 0 h5.wht (Zc 15)) ?_
  refine rFi [0,1,6,7,8,9,29] ?_
  refine jIf H (fun c2 H=>?_) fun c2 H=>?_
  ·refine Sd (Sc (T4 (Sc (Sa (Zf 2 ?_)))))
   refine Zj (Zd e1 p1 p2) ?_
   refine Zj (Xd 0 h5.wht (Zc 15)) ?_
   refine Zf 1 ?_
   obtain ⟨⟨p3,p4⟩,H⟩:=Zi H
   have e2:=Zv h5.wh (Zc 14) p3 p4
   refine Zj (Zd e2 p3 p4) ?_
   obtain ⟨cs2,h6⟩:=h5.elem 0 rfl p3 p4
   obtain ⟨cs3,cs4,rfl,h7⟩:=Yd 0 h6
   obtain ⟨cs5,cs6,rfl,h8⟩:=Yd 1 h7
   obtain ⟨cs7,cs8,rfl,h9⟩:=Yd 1 h8
   obtain ⟨cs9,cs10,rfl,h10⟩:=Yd 1 h9
   obtain rfl:=Wf (.int .i64) 6 h10
   obtain ⟨A20,c_20,rfl⟩:=Z3 4 h10
   obtain ⟨A21,c_21,rfl⟩:=Z3 2 h10
   obtain ⟨A22,c_22,rfl⟩:=Z3 0 h10
   obtain ⟨A23,c_23,rfl⟩:=Z3 1 h10
   refine Zj (Xd 0 h10.wht (Zc 23)) ?_
   refine rB (Yi h10) fun b10 w5 h11=>?_
   refine rS (Zk 0 h11) fun _ w6 h12=>?_
   refine rFi [0,1,6,7,8,9,10] ?_
   refine Sc (Sa (rB (Zx (.int .u32) [] h12) fun b11 w7 h13=>?_))
   refine rFi [0,1,6,7,8,9,10,11] ?_
   refine Sc (Sc (Za [0,1,6,7,8,9,10,11,12] ?_))
   refine T9 (fun env w=>∃ k3 x21 A24 c_24 x22 x23,Q132.l2 k3 a1 x9 x10 x11 x12 x13 x14 x15 x16 x17 x18 x19 x20 x21 x22 x23=some r/\env=[(0,.pointer (some ⟨b1,0,none⟩)),(1,.slice A6 a1.length c_6),(6,.slice A12 x9.length c_12),(7,.int .i64 x10),(8,.slice A18 x19.length c_18),(9,.int .i64 x20),(10,.pointer (some ⟨b10,0,none⟩)),(11,.slice A24 x21.length c_24),(12,.int .i64 x22),(44,.bool x23)]/\St w0 F0 [X78 b1 x11.1 x11.2.1 x11.2.2.1 x11.2.2.2.1 x11.2.2.2.2.1 x11.2.2.2.2.2.1 x11.2.2.2.2.2.2.1 x11.2.2.2.2.2.2.2 (.pointer (some ⟨b3,0,none⟩)) (.pointer (some ⟨b2,0,none⟩)) (.pointer (some ⟨b6,0,none⟩)) x18,Xu b3 x12.1 x12.2.1 A13 c_13 x12.2.2.1 x12.2.2.2,X6 b2 (.pointer (some ⟨b3,0,none⟩)) x15 A14 c_14 (.map (some b4)) x17 A15 c_15 (.pointer (some ⟨b5,0,none⟩)),Xj .u32 (Value.int .i64) b4 x16,Y2 b5 x13.1 A16 c_16 x13.2,Us b6 (.pointer (some ⟨b7,0,none⟩)),Ws b7 x14.1 x14.2.1 x14.2.2 A17 c_17,X50 b10 ((gt (gt a1 x10) x20).1) ((gt (gt a1 x10) x20).2.1) A20 c_20 ((gt (gt a1 x10) x20).2.2.1) A21 c_21 ((gt (gt a1 x10) x20).2.2.2.1) A22 c_22 ((gt (gt a1 x10) x20).2.2.2.2) A23 c_23,O5 x12.2.1 A13 c_13,X7 x15 A14 c_14,O3 x17 A15 c_15,Y3 x13.1 A16 c_16,Wr x14.2.2 A17 c_17,O30 x9 A12 c_12,O30 x19 A18 c_18,O30 x21 A24 c_24] [R35 a1 A6 c_6,R30 ((gt (gt a1 x10) x20).2.1) A20 c_20,R9 ((gt (gt a1 x10) x20).2.2.1) A21 c_21,R59 ((gt (gt a1 x10) x20).2.2.2.1) A22 c_22,R57 ((gt (gt a1 x10) x20).2.2.2.2) A23 c_23,tabC 1] w/\k3<=k2) ?_ ?_
   ·refine T4 ?_
    have h27:=(sOR h13 [2,2,2,2,2,2,2,1,1,1,1,1,1,1,1,0] [12,4,2,0,1,13])
    refine T8 (fun kk env w=>∃ x24 A31 c_31 x25,Q132.l3 kk a1 x9 x10 x11 x12 x13 x14 x15 x16 x17 x18 x19 x20 x24 x25=some r/\env=[(0,.pointer (some ⟨b1,0,none⟩)),(1,.slice A6 a1.length c_6),(6,.slice A12 x9.length c_12),(7,.int .i64 x10),(8,.slice A18 x19.length c_18),(9,.int .i64 x20),(10,.pointer (some ⟨b10,0,none⟩)),(11,.slice A31 x24.length c_31),(12,.int .i64 x25)]/\St w0 F0 [X78 b1 x11.1 x11.2.1 x11.2.2.1 x11.2.2.2.1 x11.2.2.2.2.1 x11.2.2.2.2.2.1 x11.2.2.2.2.2.2.1 x11.2.2.2.2.2.2.2 (.pointer (some ⟨b3,0,none⟩)) (.pointer (some ⟨b2,0,none⟩)) (.pointer (some ⟨b6,0,none⟩)) x18,Xu b3 x12.1 x12.2.1 A13 c_13 x12.2.2.1 x12.2.2.2,X6 b2 (.pointer (some ⟨b3,0,none⟩)) x15 A14 c_14 (.map (some b4)) x17 A15 c_15 (.pointer (some ⟨b5,0,none⟩)),Xj .u32 (Value.int .i64) b4 x16,Y2 b5 x13.1 A16 c_16 x13.2,Us b6 (.pointer (some ⟨b7,0,none⟩)),Ws b7 x14.1 x14.2.1 x14.2.2 A17 c_17,X50 b10 ((gt (gt a1 x10) x20).1) ((gt (gt a1 x10) x20).2.1) A20 c_20 ((gt (gt a1 x10) x20).2.2.1) A21 c_21 ((gt (gt a1 x10) x20).2.2.2.1) A22 c_22 ((gt (gt a1 x10) x20).2.2.2.2) A23 c_23,O5 x12.2.1 A13 c_13,X7 x15 A14 c_14,O3 x17 A15 c_15,Y3 x13.1 A16 c_16,Wr x14.2.2 A17 c_17,O30 x9 A12 c_12,O30 x19 A18 c_18,O30 x24 A31 c_31] [R35 a1 A6 c_6,R30 ((gt (gt a1 x10) x20).2.1) A20 c_20,R9 ((gt (gt a1 x10) x20).2.2.1) A21 c_21,R59 ((gt (gt a1 x10) x20).2.2.2.1) A22 c_22,R57 ((gt (gt a1 x10) x20).2.2.2.2) A23 c_23,tabC 1] w/\kk<=k2) (k:=k2) ⟨_,_,_,_,H,rfl,h27,Se _⟩ ?_
    rintro k4 env w14 ⟨x24,A31,c_31,x25,H,rfl,h22,hk4⟩
    rcases k4 with _ | k4
    ·exact z0 H
    rw [Q132.l3] at H
    refine Sc (Sc (Sa (rRL 2 7 h22 ?_)))
    refine rFi [0,1,6,7,8,9,10,11,12,44] ?_
    refine jIf H (fun c4 H=>?_) fun c4 H=>?_
    ·refine Sd (Sc (T4 (Sa (rRL 3 7 h22 ?_))))
     refine Zf 1 ?_
     obtain ⟨⟨p6,p7⟩,H⟩:=Zi H
     have e3:=Zv h22.wh (Zc 17) p6 p7
     refine Zj (Zd e3 p6 p7) ?_
     refine Zj (Ze 0 h22.wht (Zc 17) p6 p7) ?_
     refine Zf 1 ?_
     obtain ⟨⟨p8,p9⟩,H⟩:=Zi H
     have e4:=Zv h22.wh (gO 13) p8 p9
     refine Zj (Zd e4 p8 p9) ?_
     refine Zj (Ze 0 h22.wht (gO 13) p8 p9) ?_
     refine rB (Zx (.int .u32) [(gt x9 (uD.wrap ((gt ((gt (gt a1 x10) x20).2.1) x25) - 1)))] h22) fun b13 w15 h23=>?_
     obtain ⟨p10,H⟩:=Zi H
     refine Zp (Zz 16 h23 (gO 0) p10) ?_
     rintro _ w16 ⟨A32,c_32,rfl,h24⟩
     replace h24:=nf h24
     refine rFi [0,1,6,7,8,9,10,11,12] ?_
     refine Za [0,1,6,7,8,9,10,11,12] ?_
     have h25:=(sOR h24 [2,2,2,2,2,2,2,2,2,2,2,2,2,2,2,0] [0,1,2,3,4,5])
     exact ⟨k4,by omega,_,_,_,_,H,rfl,h25,by omega⟩
    refine T7 ?_
    have h26:=(sOR h22 [0,0,0,0,0,0,0,0,0,0,0,0,0,0,0,0] [0,1,2,3,4,5])
    exact ⟨k4,_,_,_,_,_,H,rfl,h26,by omega⟩
   rintro env w9 ⟨k3,x21,A24,c_24,x22,x23,H,rfl,h14,hk3⟩
   rcases k3 with _ | k3
   ·exact z0 H
   rw [Q132.l2] at H
   refine Sc (Sa (Zf 2 ?_))
   refine rS (Zk 7 h14) fun _ w10 h15=>?_
   refine rFi [0,1,6,7,8,9,10] ?_
   refine Sc (Sa (rRL 1 0 h15 ?_))
   refine cE H [1,2,1,5,5,1,4,1,3,1,1,1] h15 rfl Q94.spec (Xm (gO 3) (gS [6,7,8,9])) ?_
   rintro r1 w11 _ _ H ⟨A25,c_25,A26,c_26,A27,c_27,A28,c_28,A29,c_29,rfl,rfl⟩ h16
   replace h16:=nf h16
   refine rFi [0,1,6,7,8,9,13,14] ?_
   have h17:=sO h16 [0,0,0,0,0,0,0,0,0,0,0,0,1,1]
   replace h17:=nf h17
   refine Sc (Sc (Za [0,1,6,7,8,9,13,68] ?_))
   refine jIf H (fun c3 H=>?_) fun c3 H=>?_
   ·refine Sc (Za [4,5] ?_)
    have h18:=sO h17 [0,0,0,0,0,0,0,0,0,0,0,0]
    replace h18:=nf h18
    cases H
    exact Sb (jR ⟨_,_,_,_,_,_,_,_,_,_,rfl,rfl⟩ h18 [0,0,0,0,0,0,0,0,0,0,0,0])
   refine Sd (Sa (Zf 2 ?_))
   refine rB (Zx (.int .u32) [r1.1] h17) fun b12 w12 h19=>?_
   obtain ⟨p5,H⟩:=Zi H
   refine Zp (Zz 14 h19 (gO 0) p5) ?_
   rintro _ w13 ⟨A30,c_30,rfl,h20⟩
   replace h20:=nf h20
   refine rFi [0,1,6,7,8,9] ?_
   refine Za [0,1,6,7,8,9] ?_
   have h21:=(sOR h20 [2,3,2,4,5,6,6,2,2,2,2,2,2,0] [0,5])
   exact ⟨k3,by omega,_,_,_,_,_,_,_,_,_,_,_,_,_,_,_,_,_,_,_,_,_,_,H,rfl,h21,by omega⟩
  refine T7 (Za [0,1,6,7] ?_)
  refine Za [0,1,6,7] ?_
  have h28:=(sOR h5 [0,0,0,0,0,0,0,0,0,0,0,0,1] [2,3])
  exact ⟨k2,by omega,_,_,_,_,_,_,_,_,_,_,_,_,_,_,_,_,_,_,_,_,_,_,H,rfl,h28⟩
 refine T7 (Sc (Sa (Zf 1 ?_)))
 obtain ⟨p11,H⟩:=Zi H
 have e5:=U3 h2.wh (gO 12) p11
 refine Zj (Ul e5 p11) ?_
 refine Zj (Vd 0 h2.wht (gO 12) p11) ?_
 refine rFi [4,5] ?_
 cases H
 exact Sb (jR ⟨_,_,_,_,_,_,_,_,_,_,rfl,rfl⟩ h2 [0,1,0,4,4,0,3,0,2,0,0,0])

def Q135.l2:Nat->Ts->Tr->TG->TE->T0->(Int)->Option Ta
 | 0,_,_,_,_,_,_=>none
 | k+1,a0,a1,r3,r7,x5,x6=>if (decide (x6<a0.2.2.1))=true then (if (x5.length+([x6]:List Int).length)*8<=140737488355328 then (Q135.l2 k a0 a1 r3 r7 (x5 ++ [x6]) (w64 (x6+1))) else none) else ((Q52.f r3).bind fun r8=>(if (!decide (r8=a0.1))=true then (some (none,0,[],false)) else ((Q53.f r3).bind fun r9=>(if (!decide (r9=a0.2.1))=true then (some (none,0,[],false)) else ((Q77.f a0.1).bind fun r10=>(Vn r10.1 (if (!decide (r10.2=0))=true then (some (none,0,[],false)) else none) (fun r11=>(if (!decide (r10.2=0))=false then ((Q133.f k a0 a1).bind fun r12=>((Q132.f k (a0,(r3,(List.replicate a0.2.2.1.toNat ((0,[],false,0):Int×List Int×Bool×Int)),[],x5,r7),r11,0) r12).bind fun r13=>(some ((some r13.2.2),r13.1,r12,r13.2.1)))) else none))))))))
def Q135.l1:Nat->Ts->Tr->(Int)->(Bool)->Option Ta
 | 0,_,_,_,_=>none
 | k+1,a0,a1,x3,x4=>(Q56.f a0.1 a0.2.1).bind fun r2=>(Vn r2.1 (if (!decide (r2.2=0))=true then (none) else none) (fun r3=>(if (!decide (r2.2=0))=false then ((Q47.f a0).bind fun r4=>(if (!decide (r4=0))=true then (some (none,0,[],false)) else ((Q52.f r3).bind fun r5=>(if (decide (r5=0))=true then (some (none,0,[],false)) else (if (decide (a0.2.2.1<1))=true then (some (none,0,[],false)) else (if (decide (64<a0.2.2.1))=true then (some (none,0,[],false)) else ((Q33.f a0.2.2.1).bind fun r6=>(Vn r6.1 (if (!decide (r6.2=0))=true then (some (none,0,[],false)) else none) (fun r7=>(if (!decide (r6.2=0))=false then (if 0<=a0.2.2.1/\a0.2.2.1*48<=281474976710656 then (Q135.l2 k a0 a1 r3 r7 [] 0) else none) else none)))))))))) else none)))
mutual
def Q135.l3:Nat->Ts->Tr->(Int)->Option Ta
 | 0,_,_,_=>none
 | k+1,a0,a1,x7=>if (decide (x7<(a1.2.1.length:Int)))=true then (Q135.l4 k a0 a1 x7 (decide (x7<100))) else (Q135.l4 k a0 a1 x7 false)
def Q135.l4:Nat->Ts->Tr->(Int)->(Bool)->Option Ta
 | 0,_,_,_,_=>none
 | k+1,a0,a1,x7,x8=>if x8=true then (if 0<=x7/\x7<(a1.2.1.length:Int) then (if (decide (200<(((gt a1.2.1 x7).1).length:Int)))=true then (some (none,0,[],false)) else (Q135.l3 k a0 a1 (w64 (x7+1)))) else none) else (Q135.l1 k a0 a1 x7 x8)
end
def Q135.l0:Nat->Ts->Tr->(Int)->(Bool)->Option Ta
 | 0,_,_,_,_=>none
 | k+1,a0,a1,x1,x2=>Q135.l3 k a0 a1 0
mutual
def Q135.l5:Nat->Ts->Tr->(Int)->Option Ta
 | 0,_,_,_=>none
 | k+1,a0,a1,x9=>if (decide (x9<(a1.1.length:Int)))=true then (Q135.l6 k a0 a1 x9 (decide (x9<150))) else (Q135.l6 k a0 a1 x9 false)
def Q135.l6:Nat->Ts->Tr->(Int)->(Bool)->Option Ta
 | 0,_,_,_,_=>none
 | k+1,a0,a1,x9,x10=>if x10=true then (if 0<=x9/\x9<(a1.1.length:Int) then (if (decide (200<(((gt a1.1 x9).1).length:Int)))=true then (some (none,0,[],false)) else (Q135.l5 k a0 a1 (w64 (x9+1)))) else none) else (Q135.l0 k a0 a1 x9 x10)
end
def Q135.f (k:Nat) (a0:Ts) (a1:Tr):Option Ta:=(Q131.f k a0).bind fun r1=>(if (!r1)=true then (some (none,0,[],false)) else (Q135.l5 k a0 a1 0))
theorem Q135.spec {k a0 a1 A1 c_1 A2 c_2 A3 c_3 A4 c_4 r} (H:Q135.f k a0 a1=some r) :
  SpecA prog 4 [.agg #[.int .i64 a0.1,.int .i64 a0.2.1,.int .i64 a0.2.2.1,.int .i64 a0.2.2.2.1,.int .i64 a0.2.2.2.2.1,.int .i64 a0.2.2.2.2.2.1,.int .i64 a0.2.2.2.2.2.2.1,.int .i64 a0.2.2.2.2.2.2.2],.agg #[.slice A1 a1.1.length c_1,.slice A2 a1.2.1.length c_2,.slice A3 a1.2.2.1.length c_3,.slice A4 a1.2.2.2.length c_4]] [] [R57 a1.1 A1 c_1,R59 a1.2.1 A2 c_2,R5 a1.2.2.1 A3 c_3,R5 a1.2.2.2 A4 c_4,tabC 1] (fun v l lr=>∃(pv:Value) (lp:List Ch),OptC r.1 (fun d pv lp=>∃ b_0 b_1 b_2 A_3 c_3 A_4 c_4 b_5 A_6 c_6 b_7 A_8 c_8 b_9 b_10 A_11 c_11,pv=.pointer (some ⟨b_0,0,none⟩)/\lp=[X78 b_0 d.1.1 d.1.2.1 d.1.2.2.1 d.1.2.2.2.1 d.1.2.2.2.2.1 d.1.2.2.2.2.2.1 d.1.2.2.2.2.2.2.1 d.1.2.2.2.2.2.2.2 (.pointer (some ⟨b_2,0,none⟩)) (.pointer (some ⟨b_1,0,none⟩)) (.pointer (some ⟨b_9,0,none⟩)) d.2.2.2,X6 b_1 (.pointer (some ⟨b_2,0,none⟩)) d.2.1.2.1 A_4 c_4 (.map (some b_5)) d.2.1.2.2.2.1 A_6 c_6 (.pointer (some ⟨b_7,0,none⟩)),Xu b_2 d.2.1.1.1 d.2.1.1.2.1 A_3 c_3 d.2.1.1.2.2.1 d.2.1.1.2.2.2,O5 d.2.1.1.2.1 A_3 c_3,X7 d.2.1.2.1 A_4 c_4,Xj .u32 (Value.int .i64) b_5 d.2.1.2.2.1,O3 d.2.1.2.2.2.1 A_6 c_6,Y2 b_7 d.2.1.2.2.2.2.1 A_8 c_8 d.2.1.2.2.2.2.2,Y3 d.2.1.2.2.2.2.1 A_8 c_8,Us b_9 (.pointer (some ⟨b_10,0,none⟩)),Ws b_10 d.2.2.1.1 d.2.2.1.2.1 d.2.2.1.2.2 A_11 c_11,Wr d.2.2.1.2.2 A_11 c_11]) pv lp/\∃ A_0 c_0,v=.tuple #[pv,.int .u32 r.2.1,.slice A_0 r.2.2.1.length c_0,.bool r.2.2.2]/\l=lp ++ []/\lr=[R35 r.2.2.1 A_0 c_0]):=by
 refine Yj Tryz.func4 fun w0 F0 h0=>?_
 unfold Q135.f at H
 refine Sc (Sa (rB (Z8 h0) fun b1 w1 h1=>?_))
 refine rB (Z8 h1) fun b2 w2 h2=>?_
 refine rFi [2,3] ?_
 refine Sc (Sc (Sa (rLo 1 h2 ?_)))
 refine cS H [] h2 rfl Q131.spec Zm fun r1 w3 H h3=>?_
 refine rFi [2,3,17] ?_
 refine jIf H (fun c1 H=>?_) fun c1 H=>?_
 ·refine Sc (Za [4,5,6,7] ?_)
  have h4:=sO h3 []
  replace h4:=nf h4
  have h5:=h4.addNil 35 (.slice 50 (.pair (.int .i64) (.pair (.slice 30 (.int .u32)) (.pair (.slice 9 .str) (.pair (.slice 59 (.pair .str (.pair .bool .str))) (.slice 57 (.pair .str .str)))))))
  have h6:=h5.freeze (k:=0) rfl Ye
  cases H
  exact Sb (jRA ⟨_,_,Sg,_,_,rfl,rfl,rfl⟩ (sOR h6 [] [0]))
 refine Sd (Sc (Sc (Za [2,3,8] ?_)))
 refine T9 (fun env w=>∃ k1 x1 x2,Q135.l0 k1 a0 a1 x1 x2=some r/\env=[(2,.pointer (some ⟨b1,0,none⟩)),(3,.pointer (some ⟨b2,0,none⟩)),(8,.int .i64 x1),(26,.bool x2)]/\St w0 F0 [X23 b1 a0.1 a0.2.1 a0.2.2.1 a0.2.2.2.1 a0.2.2.2.2.1 a0.2.2.2.2.2.1 a0.2.2.2.2.2.2.1 a0.2.2.2.2.2.2.2,X28 b2 a1.1 A1 c_1 a1.2.1 A2 c_2 a1.2.2.1 A3 c_3 a1.2.2.2 A4 c_4] [R57 a1.1 A1 c_1,R59 a1.2.1 A2 c_2,R5 a1.2.2.1 A3 c_3,R5 a1.2.2.2 A4 c_4,tabC 1] w/\k1<=k) ?_ ?_
 ·refine T4 ?_
  have h85:=(sOR h3 [1,0] [0,1,2,3,4])
  refine T8 (fun kk env w=>∃ x9,Q135.l5 kk a0 a1 x9=some r/\env=[(2,.pointer (some ⟨b1,0,none⟩)),(3,.pointer (some ⟨b2,0,none⟩)),(8,.int .i64 x9)]/\St w0 F0 [X23 b1 a0.1 a0.2.1 a0.2.2.1 a0.2.2.2.1 a0.2.2.2.2.1 a0.2.2.2.2.2.1 a0.2.2.2.2.2.2.1 a0.2.2.2.2.2.2.2,X28 b2 a1.1 A1 c_1 a1.2.1 A2 c_2 a1.2.2.1 A3 c_3 a1.2.2.2 A4 c_4] [R57 a1.1 A1 c_1,R59 a1.2.1 A2 c_2,R5 a1.2.2.1 A3 c_3,R5 a1.2.2.2 A4 c_4,tabC 1] w/\kk<=k) (k:=k) ⟨_,H,rfl,h85,Se _⟩ ?_
  rintro k6 env w30 ⟨x9,H,rfl,h76,hk6⟩
  rcases k6 with _ | k6
  ·exact z0 H
  rw [Q135.l5] at H
  refine Sc (Sc (T9 (fun env w=>∃ k7 x10,Q135.l6 k7 a0 a1 x9 x10=some r/\env=[(2,.pointer (some ⟨b1,0,none⟩)),(3,.pointer (some ⟨b2,0,none⟩)),(8,.int .i64 x9),(26,.bool x10)]/\St w0 F0 [X23 b1 a0.1 a0.2.1 a0.2.2.1 a0.2.2.2.1 a0.2.2.2.2.1 a0.2.2.2.2.2.1 a0.2.2.2.2.2.2.1 a0.2.2.2.2.2.2.2,X28 b2 a1.1 A1 c_1 a1.2.1 A2 c_2 a1.2.2.1 A3 c_3 a1.2.2.2 A4 c_4] [R57 a1.1 A1 c_1,R59 a1.2.1 A2 c_2,R5 a1.2.2.1 A3 c_3,R5 a1.2.2.2 A4 c_4,tabC 1] w/\k7<=k6) ?_ ?_))
  ·refine Sa (rRL 2 1 h76 ?_)
   refine Zf 3 ?_
   refine Z7 23 H (fun c20 H=>?_) fun c20 H=>?_
   ·refine rFi [2,3,8,26] ?_
    have h83:=(sOR h76 [0,0] [0,1,2,3,4])
    exact ⟨k6,_,H,rfl,h83,Se _⟩
   refine rFi [2,3,8,26] ?_
   have h84:=(sOR h76 [0,0] [0,1,2,3,4])
   exact ⟨k6,_,H,rfl,h84,Se _⟩
  rintro env w32 ⟨k7,x10,H,rfl,h77,hk7⟩
  rcases k7 with _ | k7
  ·exact z0 H
  rw [Q135.l6] at H
  refine jIf H (fun c18 H=>?_) fun c18 H=>?_
  ·refine Sd (Sc (T4 (Sc (Sa (rRL 1 1 h77 ?_)))))
   refine Zf 1 ?_
   obtain ⟨⟨p6,p7⟩,H⟩:=Zi H
   have e2:=Zv h77.wh (Zc 2) p6 p7
   refine Zj (Zd e2 p6 p7) ?_
   refine Zf 1 ?_
   refine Zj (Ze 0 h77.wht (Zc 2) p6 p7) ?_
   refine rFi [2,3,8,36] ?_
   refine jIf H (fun c19 H=>?_) fun c19 H=>?_
   ·refine Sc (Za [4,5,6,7] ?_)
    have h78:=sO h77 []
    replace h78:=nf h78
    have h79:=h78.addNil 35 (.slice 50 (.pair (.int .i64) (.pair (.slice 30 (.int .u32)) (.pair (.slice 9 .str) (.pair (.slice 59 (.pair .str (.pair .bool .str))) (.slice 57 (.pair .str .str)))))))
    have h80:=h79.freeze (k:=0) rfl Ye
    cases H
    exact Sb (jRA ⟨_,_,Sg,_,_,rfl,rfl,rfl⟩ (sOR h80 [] [0]))
   refine Sd (Za [2,3,8] ?_)
   have h81:=(sOR h77 [0,0] [0,1,2,3,4])
   exact ⟨k7,by omega,_,H,rfl,h81,by omega⟩
  refine T7 ?_
  have h82:=(sOR h77 [0,0] [0,1,2,3,4])
  exact ⟨k7,_,_,H,rfl,h82,by omega⟩
 rintro env w5 ⟨k1,x1,x2,H,rfl,h7,hk1⟩
 rcases k1 with _ | k1
 ·exact z0 H
 rw [Q135.l0] at H
 refine Sc (Sc (Za [2,3,9] ?_))
 refine T9 (fun env w=>∃ k2 x3 x4,Q135.l1 k2 a0 a1 x3 x4=some r/\env=[(2,.pointer (some ⟨b1,0,none⟩)),(3,.pointer (some ⟨b2,0,none⟩)),(9,.int .i64 x3),(45,.bool x4)]/\St w0 F0 [X23 b1 a0.1 a0.2.1 a0.2.2.1 a0.2.2.2.1 a0.2.2.2.2.1 a0.2.2.2.2.2.1 a0.2.2.2.2.2.2.1 a0.2.2.2.2.2.2.2,X28 b2 a1.1 A1 c_1 a1.2.1 A2 c_2 a1.2.2.1 A3 c_3 a1.2.2.2 A4 c_4] [R57 a1.1 A1 c_1,R59 a1.2.1 A2 c_2,R5 a1.2.2.1 A3 c_3,R5 a1.2.2.2 A4 c_4,tabC 1] w/\k2<=k1) ?_ ?_
 ·refine T4 ?_
  have h75:=(sOR h7 [0,0] [0,1,2,3,4])
  refine T8 (fun kk env w=>∃ x7,Q135.l3 kk a0 a1 x7=some r/\env=[(2,.pointer (some ⟨b1,0,none⟩)),(3,.pointer (some ⟨b2,0,none⟩)),(9,.int .i64 x7)]/\St w0 F0 [X23 b1 a0.1 a0.2.1 a0.2.2.1 a0.2.2.2.1 a0.2.2.2.2.1 a0.2.2.2.2.2.1 a0.2.2.2.2.2.2.1 a0.2.2.2.2.2.2.2,X28 b2 a1.1 A1 c_1 a1.2.1 A2 c_2 a1.2.2.1 A3 c_3 a1.2.2.2 A4 c_4] [R57 a1.1 A1 c_1,R59 a1.2.1 A2 c_2,R5 a1.2.2.1 A3 c_3,R5 a1.2.2.2 A4 c_4,tabC 1] w/\kk<=k1) (k:=k1) ⟨_,H,rfl,h75,Se _⟩ ?_
  rintro k4 env w27 ⟨x7,H,rfl,h66,hk4⟩
  rcases k4 with _ | k4
  ·exact z0 H
  rw [Q135.l3] at H
  refine Sc (Sc (T9 (fun env w=>∃ k5 x8,Q135.l4 k5 a0 a1 x7 x8=some r/\env=[(2,.pointer (some ⟨b1,0,none⟩)),(3,.pointer (some ⟨b2,0,none⟩)),(9,.int .i64 x7),(45,.bool x8)]/\St w0 F0 [X23 b1 a0.1 a0.2.1 a0.2.2.1 a0.2.2.2.1 a0.2.2.2.2.1 a0.2.2.2.2.2.1 a0.2.2.2.2.2.2.1 a0.2.2.2.2.2.2.2,X28 b2 a1.1 A1 c_1 a1.2.1 A2 c_2 a1.2.2.1 A3 c_3 a1.2.2.2 A4 c_4] [R57 a1.1 A1 c_1,R59 a1.2.1 A2 c_2,R5 a1.2.2.1 A3 c_3,R5 a1.2.2.2 A4 c_4,tabC 1] w/\k5<=k4) ?_ ?_))
  ·refine Sa (rRL 2 1 h66 ?_)
   refine Zf 3 ?_
   refine Z7 42 H (fun c17 H=>?_) fun c17 H=>?_
   ·refine rFi [2,3,9,45] ?_
    have h73:=(sOR h66 [0,0] [0,1,2,3,4])
    exact ⟨k4,_,H,rfl,h73,Se _⟩
   refine rFi [2,3,9,45] ?_
   have h74:=(sOR h66 [0,0] [0,1,2,3,4])
   exact ⟨k4,_,H,rfl,h74,Se _⟩
  rintro env w29 ⟨k5,x8,H,rfl,h67,hk5⟩
  rcases k5 with _ | k5
  ·exact z0 H
  rw [Q135.l4] at H
  refine jIf H (fun c15 H=>?_) fun c15 H=>?_
  ·refine Sd (Sc (T4 (Sc (Sa (rRL 1 1 h67 ?_)))))
   refine Zf 1 ?_
   obtain ⟨⟨p4,p5⟩,H⟩:=Zi H
   have e1:=Zv h67.wh (Zc 3) p4 p5
   refine Zj (Zd e1 p4 p5) ?_
   refine Zf 1 ?_
   refine Zj (Ze 0 h67.wht (Zc 3) p4 p5) ?_
   refine rFi [2,3,9,55] ?_
   refine jIf H (fun c16 H=>?_) fun c16 H=>?_
   ·refine Sc (Za [4,5,6,7] ?_)
    have h68:=sO h67 []
    replace h68:=nf h68
    have h69:=h68.addNil 35 (.slice 50 (.pair (.int .i64) (.pair (.slice 30 (.int .u32)) (.pair (.slice 9 .str) (.pair (.slice 59 (.pair .str (.pair .bool .str))) (.slice 57 (.pair .str .str)))))))
    have h70:=h69.freeze (k:=0) rfl Ye
    cases H
    exact Sb (jRA ⟨_,_,Sg,_,_,rfl,rfl,rfl⟩ (sOR h70 [] [0]))
   refine Sd (Za [2,3,9] ?_)
   have h71:=(sOR h67 [0,0] [0,1,2,3,4])
   exact ⟨k5,by omega,_,H,rfl,h71,by omega⟩
  refine T7 ?_
  have h72:=(sOR h67 [0,0] [0,1,2,3,4])
  exact ⟨k5,_,_,H,rfl,h72,by omega⟩
 rintro env w7 ⟨k2,x3,x4,H,rfl,h8,hk2⟩
 rcases k2 with _ | k2
 ·exact z0 H
 rw [Q135.l1] at H
 refine Sc (Sa (rLo 0 h8 ?_))
 refine Xk Tryz.func15 ?_
 refine Sc (Sa (rB (Z8 h8) fun b3 w8 h9=>?_))
 refine rFi [1] ?_
 refine Sc (Sa (rRL 1 0 h9 ?_))
 refine rRL 1 0 h9 ?_
 refine cE H [] h9 rfl Q56.spec Zm ?_
 rintro r2 w9 _ _ H ⟨v1,l1,ho1,rfl,rfl⟩ h10
 rcases ho2:r2.1 with _ | r3
 ·rw [ho2] at ho1
  obtain ⟨rfl,rfl⟩:=ho1
  replace H:=J9 ho2 H
  obtain ⟨c2,H⟩:=Zi H
  replace h10:=nf h10
  refine rFi [1,4,5] ?_
  refine Sc (Sa (rLo 0 h10 ?_))
  refine Zf 1 ?_
  exact nomatch H
 rw [ho2] at ho1
 obtain ⟨b4,A5,c_5,rfl,rfl⟩:=ho1
 replace H:=J8 ho2 H
 obtain ⟨c3,H⟩:=Zi H
 replace h10:=nf h10
 refine rFi [1,4,5] ?_
 refine Sc (Sa (rLo 2 h10 ?_))
 refine Zf 1 ?_
 refine Xk Tryz.func38 ?_
 refine Sc (Sa (rB (Z8 h10) fun b5 w10 h11=>?_))
 refine rFi [1,2] ?_
 refine Sc (Sc (Sa (rLo 0 h11 ?_)))
 refine cS H [] h11 rfl Q47.spec Zm fun r4 w11 H h12=>?_
 refine rFi [1,2,6] ?_
 refine Sc (Za [1,2,6,13] ?_)
 refine jIf H (fun c4 H=>?_) fun c4 H=>?_
 ·refine Sc (Za [4,5] ?_)
  refine Sb (⟨_,Zl,?_⟩)
  refine rFi [4,5,6,7] ?_
  refine Sc (Sc (Sa (Zf 3 ?_)))
  refine X1 24 (congrArg Value.bool c3) ?_
  refine rFi [4,6,27] ?_
  refine T5 rfl (fun e=>?_) (fun e=>by rw [c4] at e; cases e)
  refine Sc (Za [2,3] ?_)
  refine Sb (⟨_,Zl,?_⟩)
  refine rFi [2,3,10] ?_
  have h13:=sO h12 [4,4]
  replace h13:=nf h13
  refine Sc (Sc (Za [2,3,10,62] ?_))
  refine Zn ?_
  refine Sc (Za [4,5,6,7] ?_)
  have h14:=sO h13 []
  replace h14:=nf h14
  have h15:=h14.addNil 35 (.slice 50 (.pair (.int .i64) (.pair (.slice 30 (.int .u32)) (.pair (.slice 9 .str) (.pair (.slice 59 (.pair .str (.pair .bool .str))) (.slice 57 (.pair .str .str)))))))
  have h16:=h15.freeze (k:=0) rfl Ye
  cases H
  exact Sb (jRA ⟨_,_,Sg,_,_,rfl,rfl,rfl⟩ (sOR h16 [] [0]))
 refine Sd (Sc (Sa (rRL 2 0 h12 ?_)))
 refine Xk Tryz.func74 ?_
 refine Sc (Za [0,1] ?_)
 refine Sc (T4 (Sc (Sa (Zf 1 ?_))))
 refine cS H [1,1] h12 rfl Q52.spec Zm fun r5 w12 H h17=>?_
 refine rFi [0,1,10] ?_
 refine jIf H (fun c5 H=>?_) fun c5 H=>?_
 ·refine Sc (Za [4,5] ?_)
  refine Sb (⟨_,Zl,?_⟩)
  refine rFi [1,2,7,8] ?_
  refine Sc (Sc (Za [1,2,7,8,23] ?_))
  refine Zn ?_
  refine Sc (Za [4,5] ?_)
  refine Sb (⟨_,Zl,?_⟩)
  refine rFi [4,5,6,7] ?_
  refine Sc (Sc (Sa (Zf 3 ?_)))
  refine X1 24 (congrArg Value.bool c3) ?_
  refine rFi [4,6,27] ?_
  refine Zn ?_
  refine Sc (Za [2,3] ?_)
  refine Sb (⟨_,Zl,?_⟩)
  refine rFi [2,3,10] ?_
  have h18:=sO h17 [4,4]
  replace h18:=nf h18
  refine Sc (Sc (Za [2,3,10,62] ?_))
  refine Zn ?_
  refine Sc (Za [4,5,6,7] ?_)
  have h19:=sO h18 []
  replace h19:=nf h19
  have h20:=h19.addNil 35 (.slice 50 (.pair (.int .i64) (.pair (.slice 30 (.int .u32)) (.pair (.slice 9 .str) (.pair (.slice 59 (.pair .str (.pair .bool .str))) (.slice 57 (.pair .str .str)))))))
  have h21:=h20.freeze (k:=0) rfl Ye
  cases H
  exact Sb (jRA ⟨_,_,Sg,_,_,rfl,rfl,rfl⟩ (sOR h21 [] [0]))
 refine Sc (Sa (Zf 3 ?_))
 refine Z7 17 H (fun c6 H=>?_) fun c6 H=>?_
 ·refine rFi [0,1,14] ?_
  refine Zn ?_
  refine Sc (Za [4,5] ?_)
  refine Sb (⟨_,Zl,?_⟩)
  refine rFi [1,2,7,8] ?_
  refine Sc (Sc (Za [1,2,7,8,23] ?_))
  refine Zn ?_
  refine Sc (Za [4,5] ?_)
  refine Sb (⟨_,Zl,?_⟩)
  refine rFi [4,5,6,7] ?_
  refine Sc (Sc (Sa (Zf 3 ?_)))
  refine X1 24 (congrArg Value.bool c3) ?_
  refine rFi [4,6,27] ?_
  refine Zn ?_
  refine Sc (Za [2,3] ?_)
  refine Sb (⟨_,Zl,?_⟩)
  refine rFi [2,3,10] ?_
  have h22:=sO h17 [4,4]
  replace h22:=nf h22
  refine Sc (Sc (Za [2,3,10,62] ?_))
  refine Zn ?_
  refine Sc (Za [4,5,6,7] ?_)
  have h23:=sO h22 []
  replace h23:=nf h23
  have h24:=h23.addNil 35 (.slice 50 (.pair (.int .i64) (.pair (.slice 30 (.int .u32)) (.pair (.slice 9 .str) (.pair (.slice 59 (.pair .str (.pair .bool .str))) (.slice 57 (.pair .str .str)))))))
  have h25:=h24.freeze (k:=0) rfl Ye
  cases H
  exact Sb (jRA ⟨_,_,Sg,_,_,rfl,rfl,rfl⟩ (sOR h25 [] [0]))
 refine rFi [0,1,14] ?_
 refine jIf H (fun c7 H=>?_) fun c7 H=>?_
 ·refine Sc (Za [4,5] ?_)
  refine Sb (⟨_,Zl,?_⟩)
  refine rFi [1,2,7,8] ?_
  refine Sc (Sc (Za [1,2,7,8,23] ?_))
  refine Zn ?_
  refine Sc (Za [4,5] ?_)
  refine Sb (⟨_,Zl,?_⟩)
  refine rFi [4,5,6,7] ?_
  refine Sc (Sc (Sa (Zf 3 ?_)))
  refine X1 24 (congrArg Value.bool c3) ?_
  refine rFi [4,6,27] ?_
  refine Zn ?_
  refine Sc (Za [2,3] ?_)
  refine Sb (⟨_,Zl,?_⟩)
  refine rFi [2,3,10] ?_
  have h26:=sO h17 [4,4]
  replace h26:=nf h26
  refine Sc (Sc (Za [2,3,10,62] ?_))
  refine Zn ?_
  refine Sc (Za [4,5,6,7] ?_)
  have h27:=sO h26 []
  replace h27:=nf h27
  have h28:=h27.addNil 35 (.slice 50 (.pair (.int .i64) (.pair (.slice 30 (.int .u32)) (.pair (.slice 9 .str) (.pair (.slice 59 (.pair .str (.pair .bool .str))) (.slice 57 (.pair .str .str)))))))
  have h29:=h28.freeze (k:=0) rfl Ye
  cases H
  exact Sb (jRA ⟨_,_,Sg,_,_,rfl,rfl,rfl⟩ (sOR h29 [] [0]))
 refine Sd (Sc (Sa (Zf 1 ?_)))
 refine cE H [] h17 rfl Q33.spec Zm ?_
 rintro r6 w13 _ _ H ⟨v2,l2,ho3,rfl,rfl⟩ h30
 rcases ho4:r6.1 with _ | r7
 ·rw [ho4] at ho3
  obtain ⟨rfl,rfl⟩:=ho3
  replace H:=J9 ho4 H
  obtain ⟨c8,H⟩:=Zi H
  replace h30:=nf h30
  refine rFi [0,1,6,7] ?_
  refine Sc (Sc (Za [0,1,6,7,27] ?_))
  refine T5 rfl (fun e=>?_) (fun e=>by rw [c8] at e; cases e)
  refine Sc (Za [4,5] ?_)
  refine Sb (⟨_,Zl,?_⟩)
  refine rFi [1,2,7,8] ?_
  refine Sc (Sc (Za [1,2,7,8,23] ?_))
  refine T5 rfl (fun e=>?_) (fun e=>by rw [c8] at e; cases e)
  refine Sc (Za [4,5] ?_)
  refine Sb (⟨_,Zl,?_⟩)
  refine rFi [4,5,6,7] ?_
  refine Sc (Sc (Sa (Zf 3 ?_)))
  refine X1 24 (congrArg Value.bool c3) ?_
  refine rFi [4,6,27] ?_
  refine T5 rfl (fun e=>?_) (fun e=>by rw [c8] at e; cases e)
  refine Sc (Za [2,3] ?_)
  refine Sb (⟨_,Zl,?_⟩)
  refine rFi [2,3,10] ?_
  have h31:=sO h30 [4,4]
  replace h31:=nf h31
  refine Sc (Sc (Za [2,3,10,62] ?_))
  refine Zn ?_
  refine Sc (Za [4,5,6,7] ?_)
  have h32:=sO h31 []
  replace h32:=nf h32
  have h33:=h32.addNil 35 (.slice 50 (.pair (.int .i64) (.pair (.slice 30 (.int .u32)) (.pair (.slice 9 .str) (.pair (.slice 59 (.pair .str (.pair .bool .str))) (.slice 57 (.pair .str .str)))))))
  have h34:=h33.freeze (k:=0) rfl Ye
  cases H
  exact Sb (jRA ⟨_,_,Sg,_,_,rfl,rfl,rfl⟩ (sOR h34 [] [0]))
 rw [ho4] at ho3
 obtain ⟨b6,A6,c_6,rfl,rfl⟩:=ho3
 replace H:=J8 ho4 H
 obtain ⟨c9,H⟩:=Zi H
 replace h30:=nf h30
 refine rFi [0,1,6,7] ?_
 refine Sc (Sc (Za [0,1,6,7,27] ?_))
 refine T5 rfl (fun e=>by rw [c9] at e; cases e) (fun e=>?_)
 refine Sd (Sc (Sa (Zf 2 ?_)))
 obtain ⟨⟨p1,p2⟩,H⟩:=Zi H
 refine rB (Zg6 Yk (ty:=(.pair (.int .u32) (.pair (.slice 5 (.int .u8)) (.pair .bool (.int .i64))))) ((0,[],false,0):Int×List Int×Bool×Int) rfl rfl rfl rfl rfl rfl (fun _ _=>Zow ⟨none,0,rfl,Se _,.inl rfl⟩) (by decide) h30 p1 p2) fun b7 w14 h35=>?_
 refine rB (Zeo .u32 (Value.int .i64) h35) fun b8 w15 h36=>?_
 refine Zf 2 ?_
 refine rB (Z8 h36) fun b9 w16 h37=>?_
 refine rFi [1,8] ?_
 refine Sc (Sc (Za [8,36,37] ?_))
 refine T4 ?_
 have h64:=h37.addNil 3 (.int .i64)
 have h65:=(sOR h64 [1,5,1,2,6,6,5,4,3,1,0,0] [0,1,2,3,4])
 refine T8 (fun kk env w=>∃ x5 A7 c_7 x6,Q135.l2 kk a0 a1 r3 r7 x5 x6=some r/\env=[(8,.pointer (some ⟨b9,0,none⟩)),(36,.int .i64 a0.2.2.1),(37,.int .i64 x6)]/\St w0 F0 [X6 b9 (.pointer (some ⟨b4,0,none⟩)) (List.replicate a0.2.2.1.toNat ((0,[],false,0):Int×List Int×Bool×Int)) (some ⟨b7,0,none⟩) (a0.2.2.1.toNat) (.map (some b8)) x5 A7 c_7 (.pointer (some ⟨b6,0,none⟩)),Xu b4 r3.1 r3.2.1 A5 c_5 r3.2.2.1 r3.2.2.2,Xj .u32 (Value.int .i64) b8 [],Y2 b6 r7.1 A6 c_6 r7.2,X23 b1 a0.1 a0.2.1 a0.2.2.1 a0.2.2.2.1 a0.2.2.2.2.1 a0.2.2.2.2.2.1 a0.2.2.2.2.2.2.1 a0.2.2.2.2.2.2.2,X28 b2 a1.1 A1 c_1 a1.2.1 A2 c_2 a1.2.2.1 A3 c_3 a1.2.2.2 A4 c_4,X23 b3 a0.1 a0.2.1 a0.2.2.1 a0.2.2.2.1 a0.2.2.2.2.1 a0.2.2.2.2.2.1 a0.2.2.2.2.2.2.1 a0.2.2.2.2.2.2.2,X23 b5 a0.1 a0.2.1 a0.2.2.1 a0.2.2.2.1 a0.2.2.2.2.1 a0.2.2.2.2.2.1 a0.2.2.2.2.2.2.1 a0.2.2.2.2.2.2.2,O5 r3.2.1 A5 c_5,X7 (List.replicate a0.2.2.1.toNat ((0,[],false,0):Int×List Int×Bool×Int)) (some ⟨b7,0,none⟩) (a0.2.2.1.toNat),O3 x5 A7 c_7,Y3 r7.1 A6 c_6] [R57 a1.1 A1 c_1,R59 a1.2.1 A2 c_2,R5 a1.2.2.1 A3 c_3,R5 a1.2.2.2 A4 c_4,tabC 1] w) (k:=k2) ⟨_,_,_,_,H,rfl,h65⟩ ?_
 rintro k3 env w17 ⟨x5,A7,c_7,x6,H,rfl,h38⟩
 rcases k3 with _ | k3
 ·exact z0 H
 rw [Q135.l2] at H
 refine Sc (Za [8,36,37,38] ?_)
 refine Sc (jIf H (fun c10 H=>?_) fun c10 H=>?_)
 ·refine Sd (Sc (T4 (Sc (Za [8,9,36,37] ?_))))
  refine Sa (rRL 4 0 h38 ?_)
  refine Zf 1 ?_
  refine rB (Zx (.int .i64) [x6] h38) fun b10 w18 h39=>?_
  obtain ⟨p3,H⟩:=Zi H
  refine Zp (Zz 11 h39 (gO 0) p3) ?_
  rintro _ w19 ⟨A8,c_8,rfl,h40⟩
  replace h40:=nf h40
  refine Zf 2 ?_
  refine rS (Zk 2 h40) fun _ w20 h41=>?_
  refine rFi [8,36,37] ?_
  refine Za [8,36,37] ?_
  have h42:=(sOR h41 [0,2,2,2,2,2,2,2,2,2,0,1] [0,1,2,3,4])
  exact ⟨k3,by omega,_,_,_,_,H,rfl,h42⟩
 refine T7 (Sc (Za [4,5] ?_))
 refine Sb (⟨_,Zl,?_⟩)
 refine rFi [1,2,7,8] ?_
 refine Sc (Sc (Za [1,2,7,8,23] ?_))
 refine Z0 ?_
 refine Sd (Sc (Sc (jH h38 fun h43=>?_)))
 refine Zq [0,2] ?_
 refine Zb 3 rfl (Zh 7 wI) ?_
 refine cEJ 1 rfl H [1,7] h43 rfl Q52.spec Zm ?_
 rintro r8 w21 _ _ H ⟨rfl,rfl⟩ h44
 replace h44:=nf h44
 refine ⟨⟨[],(sO h44 [2,0,1,1,1,1,1,1,0,0,0,0])⟩,?_⟩
 refine Zq [4,5] ?_
 refine Xo 30 H (fun c11 H=>?_) fun c11 H=>?_
 ·refine hRF [6,7,8,9,10,11] [1,2,7,36] ?_
  refine Zn ?_
  refine Sc (Za [4,5] ?_)
  refine Sb (⟨_,Zl,?_⟩)
  refine rFi [4,5,6,7] ?_
  refine Sc (Sc (Sa (Zf 3 ?_)))
  refine X1 24 (congrArg Value.bool c3) ?_
  refine rFi [4,6,27] ?_
  refine Zn ?_
  refine Sc (Za [2,3] ?_)
  refine Sb (⟨_,Zl,?_⟩)
  refine rFi [2,3,10] ?_
  have h45:=sO h44 [5,5]
  replace h45:=nf h45
  refine Sc (Sc (Za [2,3,10,62] ?_))
  refine Zn ?_
  refine Sc (Za [4,5,6,7] ?_)
  have h46:=sO h45 []
  replace h46:=nf h46
  have h47:=h46.addNil 35 (.slice 50 (.pair (.int .i64) (.pair (.slice 30 (.int .u32)) (.pair (.slice 9 .str) (.pair (.slice 59 (.pair .str (.pair .bool .str))) (.slice 57 (.pair .str .str)))))))
  have h48:=h47.freeze (k:=0) rfl Ye
  cases H
  exact Sb (jRA ⟨_,_,Sg,_,_,rfl,rfl,rfl⟩ (sOR h48 [] [0]))
 refine Zq [6,8] ?_
 refine Zb 9 rfl (Zh 7 wI) ?_
 refine cEJ 7 rfl H [0,0] h44 rfl Q53.spec Zm ?_
 rintro r9 w22 _ _ H ⟨rfl,rfl⟩ h49
 replace h49:=nf h49
 refine ⟨⟨[],(sO h49 [2,0,1,1,1,1,1,1,0,0,0,0])⟩,?_⟩
 refine hRF [10,11] [1,2,7,36] ?_
 refine jIf H (fun c12 H=>?_) fun c12 H=>?_
 ·refine Sc (Za [4,5] ?_)
  refine Sb (⟨_,Zl,?_⟩)
  refine rFi [4,5,6,7] ?_
  refine Sc (Sc (Sa (Zf 3 ?_)))
  refine X1 24 (congrArg Value.bool c3) ?_
  refine rFi [4,6,27] ?_
  refine Zn ?_
  refine Sc (Za [2,3] ?_)
  refine Sb (⟨_,Zl,?_⟩)
  refine rFi [2,3,10] ?_
  have h50:=sO h49 [5,5]
  replace h50:=nf h50
  refine Sc (Sc (Za [2,3,10,62] ?_))
  refine Zn ?_
  refine Sc (Za [4,5,6,7] ?_)
  have h51:=sO h50 []
  replace h51:=nf h51
  have h52:=h51.addNil 35 (.slice 50 (.pair (.int .i64) (.pair (.slice 30 (.int .u32)) (.pair (.slice 9 .str) (.pair (.slice 59 (.pair .str (.pair .bool .str))) (.slice 57 (.pair .str .str)))))))
  have h53:=h52.freeze (k:=0) rfl Ye
  cases H
  exact Sb (jRA ⟨_,_,Sg,_,_,rfl,rfl,rfl⟩ (sOR h53 [] [0]))
 refine Sd (Sc (Sa (rRL 1 8 h49 ?_)))
 refine cE H [] h49 rfl Q77.spec Zm ?_
 rintro r10 w23 _ _ H ⟨v3,l3,ho5,rfl,rfl⟩ h54
 rcases ho6:r10.1 with _ | r11
 ·rw [ho6] at ho5
  obtain ⟨rfl,rfl⟩:=ho5
  replace H:=J9 ho6 H
  obtain ⟨c13,H⟩:=Zi H
  replace h54:=nf h54
  refine rFi [1,2,7,8,9] ?_
  refine Sc (Sc (Za [1,2,7,8,9,44] ?_))
  refine T5 rfl (fun e=>?_) (fun e=>by rw [c13] at e; cases e)
  refine Sc (Za [4,5] ?_)
  refine Sb (⟨_,Zl,?_⟩)
  refine rFi [4,5,6,7] ?_
  refine Sc (Sc (Sa (Zf 3 ?_)))
  refine X1 24 (congrArg Value.bool c3) ?_
  refine rFi [4,6,27] ?_
  refine T5 rfl (fun e=>?_) (fun e=>by rw [c13] at e; cases e)
  refine Sc (Za [2,3] ?_)
  refine Sb (⟨_,Zl,?_⟩)
  refine rFi [2,3,10] ?_
  have h55:=sO h54 [5,5]
  replace h55:=nf h55
  refine Sc (Sc (Za [2,3,10,62] ?_))
  refine Zn ?_
  refine Sc (Za [4,5,6,7] ?_)
  have h56:=sO h55 []
  replace h56:=nf h56
  have h57:=h56.addNil 35 (.slice 50 (.pair (.int .i64) (.pair (.slice 30 (.int .u32)) (.pair (.slice 9 .str) (.pair (.slice 59 (.pair .str (.pair .bool .str))) (.slice 57 (.pair .str .str)))))))
  have h58:=h57.freeze (k:=0) rfl Ye
  cases H
  exact Sb (jRA ⟨_,_,Sg,_,_,rfl,rfl,rfl⟩ (sOR h58 [] [0]))
 rw [ho6] at ho5
 obtain ⟨b11,b12,A9,c_9,rfl,rfl⟩:=ho5
 replace H:=J8 ho6 H
 obtain ⟨c14,H⟩:=Zi H
 replace h54:=nf h54
 refine rFi [1,2,7,8,9] ?_
 refine Sc (Sc (Za [1,2,7,8,9,44] ?_))
 refine T5 rfl (fun e=>by rw [c14] at e; cases e) (fun e=>?_)
 refine Sd (Sc (Sa (rLo 11 h54 ?_)))
 refine Zf 4 ?_
 refine rB (Z8 h54) fun b13 w24 h59=>?_
 refine rFi [4,5] ?_
 refine Sb (⟨_,Zl,?_⟩)
 refine rFi [4,5,6,7] ?_
 refine Sc (Sc (Sa (Zf 3 ?_)))
 refine X1 24 (congrArg Value.bool c3) ?_
 refine rFi [4,6,27] ?_
 refine Z0 ?_
 refine Sd (Sc (Za [2,3] ?_))
 refine Sb (⟨_,Zl,?_⟩)
 refine rFi [2,3,10] ?_
 have h60:=sO h59 [0,0,0,0,0,0,0,0,0,0,0,2,2,2]
 replace h60:=nf h60
 refine Sc (Sc (Za [2,3,10,62] ?_))
 refine Z0 ?_
 refine Sd (Sc (Sa (rLo 9 h60 ?_)))
 refine rLo 10 h60 ?_
 obtain ⟨r12,q9,H⟩:=Yf H
 refine Zp (Z4 [] (Q133.spec q9) h60 rfl (gS [0,1,2,3])) ?_
 rintro _ w25 ⟨_,_,⟨A10,c_10,rfl,rfl,rfl⟩,h61⟩
 replace h61:=nf h61
 refine rFi [10,12] ?_
 have h62:=sO h61 [0,0,0,0,0,0,0,0,0,2,2,2]
 replace h62:=nf h62
 refine Sc (Sa (Zf 2 ?_))
 refine cE H [0,5,3,3,5,3,4,3,3,0,0,0] h62 rfl Q132.spec (gS [0,5]) ?_
 rintro r13 w26 _ _ H ⟨A11,c_11,A12,c_12,A13,c_13,A14,c_14,A15,c_15,rfl,rfl⟩ h63
 replace h63:=nf h63
 refine rFi [10,12,13,14] ?_
 refine Sc (Za [4,5,6,7] ?_)
 cases H
 exact Sb (jRA ⟨_,_,(Sh ⟨_,_,_,_,_,_,_,_,_,_,_,_,_,_,_,_,_,rfl,rfl⟩),_,_,rfl,rfl,rfl⟩ (sOR h63 [0,0,0,0,0,0,0,0,0,0,0,0] [0]))

def Q97.f (a0:Th) (a1:Int):Option (Int):=if (decide (a1=0))=true then (some 4) else (if (decide (a0.1.1<=(w64 (a1))))=true then (some 4) else (some 0))
theorem Q97.spec {a0 a1 b1 b2 b3 b4 b5 b6 b7 A1 c_1 A2 c_2 A3 c_3 A4 c_4 A5 c_5 r} (H:Q97.f a0 a1=some r) :
  Spec prog 27 [.pointer (some ⟨b1,0,none⟩),.int .u32 a1] (Wy a0 b1 b2 b3 b4 b5 b6 b7 A1 A2 A3 A4 A5 c_1 c_2 c_3 c_4 c_5) [] (fun v l=>v=.int .i64 r/\l=Wy a0 b1 b2 b3 b4 b5 b6 b7 A1 A2 A3 A4 A5 c_1 c_2 c_3 c_4 c_5):=by
 refine Zg Tryz.func27 fun w0 F0 h0=>?_
 replace h0:=nf h0
 unfold Q97.f at H
 refine Sc (Za [0,1] ?_)
 refine Sc (T4 (Sc (Sa (rRL 6 0 h0 ?_))))
 refine rFi [0,1,5] ?_
 refine Z0 ?_
 refine Sc (Sa (Zf 3 ?_))
 refine Z7 18 H (fun c1 H=>?_) fun c1 H=>?_
 ·refine rFi [15] ?_
  refine Zn ?_
  refine Sc (Za [4] ?_)
  cases H
  exact Sb (jR0 h0 [0,0,0,0,0,0,0,0,0,0,0,0])
 refine rRL 6 0 h0 ?_
 refine rFi [15] ?_
 refine jIf H (fun c2 H=>?_) fun c2 H=>?_
 ·refine Sc (Za [4] ?_)
  cases H
  exact Sb (jR0 h0 [0,0,0,0,0,0,0,0,0,0,0,0])
 refine Sd (Sc (Za [4] ?_))
 cases H
 exact Sb (jR0 h0 [0,0,0,0,0,0,0,0,0,0,0,0])

def Q54.f (a0:TG) (a1:Int):Option (List Int×Int×TG):=(Q52.f a0).bind fun r1=>(if (decide (r1=0))=true then (some ([],1,a0)) else ((Q52.f a0).bind fun r2=>(if (decide (r2<=(w64 (a1))))=true then (some ([],4,a0)) else (if 0<=(w64 ((w64 (a1))*a0.1))/\(w64 ((w64 (a1))*a0.1))<=(w64 ((w64 ((w64 (a1))*a0.1))+a0.1))/\(w64 ((w64 ((w64 (a1))*a0.1))+a0.1))<=(a0.2.1.length:Int) then ((Q101.f ((a0.2.1.drop ((w64 ((w64 (a1))*a0.1))).toNat).take (((w64 ((w64 ((w64 (a1))*a0.1))+a0.1))).toNat - ((w64 ((w64 (a1))*a0.1))).toNat))).bind fun r3=>(some (r3,0,(a0.1,a0.2.1,((uH.wrap (a0.2.2.1+1)),a0.2.2.2))))) else none))))
theorem Q54.spec {a0 a1 b1 A1 c_1 r} (H:Q54.f a0 a1=some r) :
  Spec prog 55 [.pointer (some ⟨b1,0,none⟩),.int .u32 a1] (Zbl a0 b1 A1 c_1) [] (fun v l=>∃ A_0 c_0 A_1 c_1,v=.tuple #[.slice A_0 r.1.length c_0,.int .i64 r.2.1]/\l=[O5 r.1 A_0 c_0] ++ Zbl r.2.2 b1 A_1 c_1):=by
 refine Zg Tryz.func55 fun w0 F0 h0=>?_
 replace h0:=nf h0
 unfold Q54.f at H
 refine Sc (Za [0,1] ?_)
 refine Sc (Sa (Zf 2 ?_))
 refine Xk Tryz.func96 ?_
 refine Sc (Za [0,1] ?_)
 refine Sc (T4 (Sc (Sa (Zf 1 ?_))))
 refine cS H [0,0] h0 rfl Q52.spec Zm fun r1 w1 H h1=>?_
 refine rFi [0,1,7] ?_
 refine jIf H (fun c1 H=>?_) fun c1 H=>?_
 ·refine Sc (Za [4,5] ?_)
  refine Sb (⟨_,Zl,?_⟩)
  refine rFi [0,6,7] ?_
  refine Sc (Sc (Za [0,6,7,15] ?_))
  refine Zn ?_
  refine Sc (Za [4,5] ?_)
  have h2:=h1.addNil 5 (.int .u8)
  cases H
  exact Sb (jR ⟨_,_,_,_,rfl,rfl⟩ h2 [0,0,0])
 refine Sc (Sa (Zf 3 ?_))
 refine cS H [0,0] h1 rfl Q52.spec Zm fun r2 w2 H h3=>?_
 refine rFi [0,1,11] ?_
 refine jIf H (fun c2 H=>?_) fun c2 H=>?_
 ·refine Sc (Za [4,5] ?_)
  refine Sb (⟨_,Zl,?_⟩)
  refine rFi [0,6,7] ?_
  refine Sc (Sc (Za [0,6,7,15] ?_))
  refine Zn ?_
  refine Sc (Za [4,5] ?_)
  have h4:=h3.addNil 5 (.int .u8)
  cases H
  exact Sb (jR ⟨_,_,_,_,rfl,rfl⟩ h4 [0,0,0])
 refine Sd (Sc (Sa (rRL 5 0 h3 ?_)))
 refine rFi [0,6] ?_
 refine Sc (jH h3 fun h5=>?_)
 refine Zq [0,1,2,4,5,6,7,8] ?_
 refine Zb 3 rfl (Zh 0 wI) ?_
 refine Zb 9 rfl (Zh 0 wI) ?_
 refine Zq [10] ?_
 obtain ⟨⟨p1,p2,p3⟩,H⟩:=Zi H
 have e1:=h5.cap (gO 1)
 refine Zb 11 rfl (Zgc ((a0.2.1.drop ((w64 ((w64 (a1))*a0.1))).toNat).take (((w64 ((w64 ((w64 (a1))*a0.1))+a0.1))).toNat - ((w64 ((w64 (a1))*a0.1))).toNat)) (w64 ((w64 (a1))*a0.1)) (w64 ((w64 ((w64 (a1))*a0.1))+a0.1)) e1 p1 p2 p3) ?_
 refine hRF [12,13] [4,5] ?_
 refine Sb (⟨_,Zl,?_⟩)
 refine rFi [0,6,7] ?_
 refine Sc (Sc (Za [0,6,7,15] ?_))
 refine Z0 ?_
 refine Sd (Sc (Sa (rRL 4 0 h5 ?_)))
 refine Zf 4 ?_
 refine rS (Zk 0 h5) fun _ w3 h6=>?_
 refine rFi [6] ?_
 refine Sc (Sa (Zf 1 ?_))
 refine cE H [] h6 rfl Q101.spec (Xm ((Gives.of 1 rfl Ye).trans (Zkj (.int .u8) ((a0.2.1.drop ((w64 ((w64 (a1))*a0.1))).toNat).take (((w64 ((w64 ((w64 (a1))*a0.1))+a0.1))).toNat - ((w64 ((w64 (a1))*a0.1))).toNat)) (w64 ((w64 (a1))*a0.1)) (w64 ((w64 ((w64 (a1))*a0.1))+a0.1)) p1 p2 p3)) Zm) ?_
 rintro r3 w4 _ _ H ⟨A2,c_2,rfl,rfl⟩ h7
 replace h7:=nf h7
 refine rFi [4,5] ?_
 cases H
 exact Sb (jR ⟨_,_,_,_,rfl,rfl⟩ h7 [0,0,0])

def Q17.f (a0:Tj) (a1:Int):Option Ti:=(Q24.f a0 a1).bind fun r1=>(if (!decide (r1=0))=true then (some (r1,a0)) else (if (Xc a0.2.2.1 a1)=true then (if 0<=(Zs (0:Int) a0.2.2.1 a1)/\(Zs (0:Int) a0.2.2.1 a1)<(a0.2.1.length:Int) then ((Q25.f a0.2.2.2.2 (Zs (0:Int) a0.2.2.1 a1)).bind fun r2=>(some (0,(a0.1,(a0.2.1.set (Zs (0:Int) a0.2.2.1 a1).toNat ((gt a0.2.1 (Zs (0:Int) a0.2.2.1 a1)).1,(gt a0.2.1 (Zs (0:Int) a0.2.2.1 a1)).2.1,(gt a0.2.1 (Zs (0:Int) a0.2.2.1 a1)).2.2.1,(w64 (((gt a0.2.1 (Zs (0:Int) a0.2.2.1 a1)).2.2.2)+1)))),a0.2.2.1,a0.2.2.2.1,r2.2)))) else none) else ((Q23.f a0).bind fun r3=>(if (!r3.2.1)=true then (some (7,r3.2.2)) else ((Q54.f r3.2.2.1 a1).bind fun r4=>(if (!decide (r4.2.1=0))=true then (if (r3.2.2.2.2.2.1.length+([r3.1]:List Int).length)*8<=140737488355328 then (some (r4.2.1,(r4.2.2,r3.2.2.2.1,r3.2.2.2.2.1,(r3.2.2.2.2.2.1 ++ [r3.1]),r3.2.2.2.2.2.2))) else none) else (if 0<=r3.1/\r3.1<(r3.2.2.2.1.length:Int) then ((Q25.f r3.2.2.2.2.2.2 r3.1).bind fun r5=>(some (0,(r4.2.2,(r3.2.2.2.1.set r3.1.toNat (a1,r4.1,false,1)),(Ub a1 r3.1 r3.2.2.2.2.1),r3.2.2.2.2.2.1,r5.2)))) else none)))))))
theorem Q17.spec {a0 a1 b1 b2 b3 b4 A1 c_1 A2 c_2 A3 c_3 A4 c_4 r} (H:Q17.f a0 a1=some r) :
  Spec prog 28 [.pointer (some ⟨b1,0,none⟩),.int .u32 a1] (V2 a0 b1 b2 b3 b4 A1 A2 A3 A4 c_1 c_2 c_3 c_4) [] (fun v l=>∃ A_0 c_0 A_1 c_1 A_2 c_2 A_3 c_3,v=.int .i64 r.1/\l=V2 r.2 b1 b2 b3 b4 A_0 A_1 A_2 A_3 c_0 c_1 c_2 c_3):=by
 refine Zg Tryz.func28 fun w0 F0 h0=>?_
 replace h0:=nf h0
 unfold Q17.f at H
 refine Sc (Za [0,1] ?_)
 refine Sc (Sc (Sa (Zf 2 ?_)))
 refine cS H [0,0,0,0,0,0,0,0] h0 rfl Q24.spec Zm fun r1 w1 H h1=>?_
 refine rFi [0,1,5] ?_
 refine Sc (Za [0,1,5,16] ?_)
 refine jIf H (fun c1 H=>?_) fun c1 H=>?_
 ·refine Sc (Za [4] ?_)
  cases H
  exact Sb (jR ⟨_,_,_,_,_,_,_,_,rfl,rfl⟩ h1 [0,0,0,0,0,0,0,0])
 refine Sd (Sc (Sc (Sa (rRL 3 0 h1 ?_))))
 refine Zf 1 ?_
 refine Zj (Vh (0:Int) 4 h1.wht) ?_
 refine rFi [0,1,6,7] ?_
 refine Sc (Za [0,1,6,27] ?_)
 refine jIf H (fun c2 H=>?_) fun c2 H=>?_
 ·refine Sc (Sa (rRL 3 0 h1 ?_))
  refine Zf 1 ?_
  obtain ⟨⟨p1,p2⟩,H⟩:=Zi H
  have e1:=Zv h1.wh (gO 3) p1 p2
  refine Zj (Zd e1 p1 p2) ?_
  refine Zf 1 ?_
  refine Zj (Xe 3 h1.wht (gO 3) p1 p2) ?_
  refine Zf 1 ?_
  refine Zj (Zd e1 p1 p2) ?_
  refine Zf 1 ?_
  refine rS (Vk 3 (.pair (.int .u32) (.pair (.slice 5 (.int .u8)) (.pair .bool (.int .i64)))) (Zs (0:Int) a0.2.2.1 a1) ((gt a0.2.1 (Zs (0:Int) a0.2.2.1 a1)).1,(gt a0.2.1 (Zs (0:Int) a0.2.2.1 a1)).2.1,(gt a0.2.1 (Zs (0:Int) a0.2.2.1 a1)).2.2.1,(w64 (((gt a0.2.1 (Zs (0:Int) a0.2.2.1 a1)).2.2.2)+1))) 3 h1 rfl p1 p2 (Zar rfl rfl)) fun _ w2 h2=>?_
  replace h2:St w0 F0 [X7 (a0.2.1.set (Zs (0:Int) a0.2.2.1 a1).toNat ((gt a0.2.1 (Zs (0:Int) a0.2.2.1 a1)).1,(gt a0.2.1 (Zs (0:Int) a0.2.2.1 a1)).2.1,(gt a0.2.1 (Zs (0:Int) a0.2.2.1 a1)).2.2.1,(w64 (((gt a0.2.1 (Zs (0:Int) a0.2.2.1 a1)).2.2.2)+1)))) A2 c_2,X6 b1 (.pointer (some ⟨b2,0,none⟩)) (a0.2.1.set (Zs (0:Int) a0.2.2.1 a1).toNat ((gt a0.2.1 (Zs (0:Int) a0.2.2.1 a1)).1,(gt a0.2.1 (Zs (0:Int) a0.2.2.1 a1)).2.1,(gt a0.2.1 (Zs (0:Int) a0.2.2.1 a1)).2.2.1,(w64 (((gt a0.2.1 (Zs (0:Int) a0.2.2.1 a1)).2.2.2)+1)))) A2 c_2 (.map (some b3)) a0.2.2.2.1 A3 c_3 (.pointer (some ⟨b4,0,none⟩)),Xu b2 a0.1.1 a0.1.2.1 A1 c_1 a0.1.2.2.1 a0.1.2.2.2,O5 a0.1.2.1 A1 c_1,Xj .u32 (Value.int .i64) b3 a0.2.2.1,O3 a0.2.2.2.1 A3 c_3,Y2 b4 a0.2.2.2.2.1 A4 c_4 a0.2.2.2.2.2,Y3 a0.2.2.2.2.1 A4 c_4] _ _:=h2.retell (by simp only [List.length_set,List.length_nil,X7,Y3,O3,O5,X6,Xu,Y2] <;> rfl)
  refine rFi [0,6] ?_
  refine Sc (Sa (rRL 3 1 h2 ?_))
  refine Zf 1 ?_
  refine cE H [6,6] h2 rfl Q25.spec Zm ?_
  rintro r2 w3 _ _ H ⟨A5,c_5,rfl,rfl⟩ h3
  replace h3:=nf h3
  refine rFi [] ?_
  refine Sc (Za [4] ?_)
  cases H
  exact Sb (jR ⟨_,_,_,_,_,_,_,_,rfl,rfl⟩ h3 [3,3,3,2,2,2,0,0])
 refine Sd (Sc (Sa (Zf 1 ?_)))
 refine cE H [0,0,0,0,0,0,0,0] h1 rfl Q23.spec Zm ?_
 rintro r3 w4 _ _ H ⟨A6,c_6,A7,c_7,A8,c_8,A9,c_9,rfl,rfl⟩ h4
 replace h4:=nf h4
 refine rFi [0,1,8,9] ?_
 refine Sc (Sc (Za [0,1,8,51] ?_))
 refine jIf H (fun c3 H=>?_) fun c3 H=>?_
 ·refine Sc (Za [4] ?_)
  cases H
  exact Sb (jR ⟨_,_,_,_,_,_,_,_,rfl,rfl⟩ h4 [0,0,0,0,0,0,0,0])
 refine Sd (Sc (Sa (rRL 3 0 h4 ?_)))
 refine Zf 1 ?_
 refine cE H [1,1] h4 rfl Q54.spec Zm ?_
 rintro r4 w5 _ _ H ⟨A10,c_10,A11,c_11,rfl,rfl⟩ h5
 replace h5:=nf h5
 refine rFi [0,1,8,10,11] ?_
 refine Sc (Sc (Za [0,1,8,10,11,62] ?_))
 refine jIf H (fun c4 H=>?_) fun c4 H=>?_
 ·refine Sc (Sa (rRL 4 3 h5 ?_))
  refine Zf 1 ?_
  refine rB (Zx (.int .i64) [r3.1] h5) fun b5 w6 h6=>?_
  obtain ⟨p3,H⟩:=Zi H
  refine Zp (Zz 7 h6 (gO 0) p3) ?_
  rintro _ w7 ⟨A12,c_12,rfl,h7⟩
  replace h7:=nf h7
  refine Zf 2 ?_
  refine rS (Zk 5 h7) fun _ w8 h8=>?_
  refine rFi [11] ?_
  have h9:=sO h8 [0,0,2,2,2,2,2,2]
  replace h9:=nf h9
  refine Sc (Za [4] ?_)
  cases H
  exact Sb (jR ⟨_,_,_,_,_,_,_,_,rfl,rfl⟩ h9 [0,1,1,1,1,0,0,0])
 refine Sd (Sc (Sa (Zf 5 ?_)))
 refine Xk Tryz.func56 ?_
 refine Sc (Sa (rB (Z8 h5) fun b6 w9 h10=>?_))
 refine rFi [0,1,5] ?_
 refine Sc (Sa (Zf 1 ?_))
 refine rS (Zk 0 h10) fun _ w10 h11=>?_
 refine rFi [0,1,5] ?_
 refine Sc (Zy (sO h11 [0,1,1,1,2,2,2,2]) ?_)
 have h12:=h11.drew
 refine Zq [0,1,2,4] ?_
 refine Zb 3 rfl (Zh 3 wI) ?_
 refine Zb 5 rfl (Zh 0 wI) ?_
 obtain ⟨⟨p4,p5⟩,H⟩:=Zi H
 have e2:=Zv h12.wh (gO 5) p4 p5
 refine Zb 6 rfl (Zd e2 p4 p5) ?_
 have h13:=(h12.only [5,1,0,0,0,0,0,0,0,0] rfl).both
 refine hS 7 rfl (Vu 0 (.pair (.int .u32) (.pair (.slice 5 (.int .u8)) (.pair .bool (.int .i64)))) r3.1 (a1,r4.1,false,1) h13 p4 p5 Zes) 1 fun _ w11 h14=>?_
 replace h14:St w0 F0 [X7 (r3.2.2.2.1.set r3.1.toNat (a1,r4.1,false,1)) A7 c_7,Zk7 b6 a1 r4.1 A10 c_10 false 1,Xu b2 r4.2.2.1 r4.2.2.2.1 A11 c_11 r4.2.2.2.2.1 r4.2.2.2.2.2,O5 r4.2.2.2.1 A11 c_11,X6 b1 (.pointer (some ⟨b2,0,none⟩)) (r3.2.2.2.1.set r3.1.toNat (a1,r4.1,false,1)) A7 c_7 (.map (some b3)) r3.2.2.2.2.2.1 A8 c_8 (.pointer (some ⟨b4,0,none⟩)),Xj .u32 (Value.int .i64) b3 r3.2.2.2.2.1,O3 r3.2.2.2.2.2.1 A8 c_8,Y2 b4 r3.2.2.2.2.2.2.1 A9 c_9 r3.2.2.2.2.2.2.2,Y3 r3.2.2.2.2.2.2.1 A9 c_9] _ _:=h14.retell (by simp only [List.length_set,List.length_nil,X7,Y3,O3,O5,X6,Zk7,Xu,Y2] <;> rfl)
 refine Y7 [0,1,5] ?_
 refine Sc (Zy (sO h14 [0,0,0,0,0,1,1,1]) ?_)
 have h15:=h14.drew
 refine Zq [0,1,2,4,6] ?_
 refine Zb 3 rfl (Zh 4 wI) ?_
 refine Zb 5 rfl (Zh 1 wI) ?_
 refine hS 7 rfl (Zfl Yk (v:=r3.1) (ix:=a1) 5 rfl h15 rfl rfl rfl rfl rfl rfl rfl rfl rfl) 1 fun _ w12 h16=>?_
 refine Y7 [0,1] ?_
 refine Sa (rRL 3 5 h16 ?_)
 refine Zf 1 ?_
 refine cE H [7,7] h16 rfl Q25.spec Zm ?_
 rintro r5 w13 _ _ H ⟨A13,c_13,rfl,rfl⟩ h17
 replace h17:=nf h17
 refine rFi [] ?_
 refine ⟨_,Zl,?_⟩
 refine rFi [] ?_
 refine Sc (Za [4] ?_)
 cases H
 exact Sb (jR ⟨_,_,_,_,_,_,_,_,rfl,rfl⟩ h17 [7,5,5,3,2,3,0,0])

def Q18.f (a0:Tj) (a1:Int):Option TU:=(Q22.f a0).bind fun r1=>(if r1=true then (some ([],1)) else (if (!(Xc a0.2.2.1 a1))=true then (some ([],8)) else (if 0<=(Zs (0:Int) a0.2.2.1 a1)/\(Zs (0:Int) a0.2.2.1 a1)<(a0.2.1.length:Int) then (if (decide (((gt a0.2.1 (Zs (0:Int) a0.2.2.1 a1)).2.2.2)=0))=true then (some ([],8)) else ((Q101.f ((gt a0.2.1 (Zs (0:Int) a0.2.2.1 a1)).2.1)).bind fun r2=>(some (r2,0)))) else none)))
theorem Q18.spec {a0 a1 b1 b2 b3 b4 A1 c_1 A2 c_2 A3 c_3 A4 c_4 r} (H:Q18.f a0 a1=some r) :
  Spec prog 29 [.pointer (some ⟨b1,0,none⟩),.int .u32 a1] (V2 a0 b1 b2 b3 b4 A1 A2 A3 A4 c_1 c_2 c_3 c_4) [] (fun v l=>∃ A_0 c_0,v=.tuple #[.slice A_0 r.1.length c_0,.int .i64 r.2]/\l=[O5 r.1 A_0 c_0] ++ V2 a0 b1 b2 b3 b4 A1 A2 A3 A4 c_1 c_2 c_3 c_4):=by
 refine Zg Tryz.func29 fun w0 F0 h0=>?_
 replace h0:=nf h0
 unfold Q18.f at H
 refine Sc (Za [0,1] ?_)
 refine Sc (Sa (Zf 2 ?_))
 refine Xk Tryz.func57 ?_
 refine Sc (Za [0,1] ?_)
 refine Sc (Sc (Sa (Zf 1 ?_)))
 refine cS H [0,0,0,0,0,0,0,0] h0 rfl Q22.spec Zm fun r1 w1 H h1=>?_
 refine rFi [0,1,9] ?_
 refine jIf H (fun c1 H=>?_) fun c1 H=>?_
 ·refine Sc (Za [4,5] ?_)
  refine Sb (⟨_,Zl,?_⟩)
  refine rFi [6,7] ?_
  refine Sc (Sc (Za [6,7,15] ?_))
  refine Zn ?_
  refine Sc (Za [4,5] ?_)
  have h2:=h1.addNil 5 (.int .u8)
  cases H
  exact Sb (jR ⟨_,_,rfl,rfl⟩ h2 [0,0,0,0,0,0,0,0,0])
 refine Sd (Sc (Sa (rRL 3 0 h1 ?_)))
 refine Zf 1 ?_
 refine Zj (Vh (0:Int) 4 h1.wht) ?_
 refine rFi [0,6,7] ?_
 refine Sc (Sc (Sa (Zf 3 ?_)))
 refine Z7 21 H (fun c2 H=>?_) fun c2 H=>?_
 ·refine rFi [0,6,31] ?_
  refine Zn ?_
  refine Sc (Za [4,5] ?_)
  refine Sb (⟨_,Zl,?_⟩)
  refine rFi [6,7] ?_
  refine Sc (Sc (Za [6,7,15] ?_))
  refine Zn ?_
  refine Sc (Za [4,5] ?_)
  have h3:=h1.addNil 5 (.int .u8)
  cases H
  exact Sb (jR ⟨_,_,rfl,rfl⟩ h3 [0,0,0,0,0,0,0,0,0])
 refine rRL 3 0 h1 ?_
 refine Zf 1 ?_
 obtain ⟨⟨p1,p2⟩,H⟩:=Zi H
 have e1:=Zv h1.wh (gO 3) p1 p2
 refine Zj (Zd e1 p1 p2) ?_
 refine Zf 1 ?_
 refine Zj (Xe 3 h1.wht (gO 3) p1 p2) ?_
 refine rFi [0,6,31] ?_
 refine jIf H (fun c3 H=>?_) fun c3 H=>?_
 ·refine Sc (Za [4,5] ?_)
  refine Sb (⟨_,Zl,?_⟩)
  refine rFi [6,7] ?_
  refine Sc (Sc (Za [6,7,15] ?_))
  refine Zn ?_
  refine Sc (Za [4,5] ?_)
  have h4:=h1.addNil 5 (.int .u8)
  cases H
  exact Sb (jR ⟨_,_,rfl,rfl⟩ h4 [0,0,0,0,0,0,0,0,0])
 refine Sd (Sc (Sa (rRL 3 0 h1 ?_)))
 refine Zf 1 ?_
 refine Zj (Zd e1 p1 p2) ?_
 refine rFi [4,5] ?_
 refine Sb (⟨_,Zl,?_⟩)
 refine rFi [6,7] ?_
 refine Sc (Sc (Za [6,7,15] ?_))
 refine Z0 ?_
 refine Sd (Sc ?_)
 obtain ⟨A5,c_5,h5⟩:=h1.openI 3 rfl p1 p2
 refine Sa (Zf 3 ?_)
 refine Zj (Zba h5.wht (Zc 0)) ?_
 refine cE H [] h5 rfl Q101.spec (Xm (Gj 0 Zjj) Zm) ?_
 rintro r2 w2 _ _ H ⟨A6,c_6,rfl,rfl⟩ h6
 replace h6:=nf h6
 refine rFi [4,5] ?_
 have h7:=h6.closeI 1 rfl
 cases H
 exact Sb (jR ⟨_,_,rfl,rfl⟩ h7 [1,1,1,1,0,0,0,0,0])

def Q166.f (a0:T0):Option (TU):=(Q101.f a0).bind fun r1=>(some (r1,0))
theorem Q166.spec {a0 A1 c_1 r} (H:Q166.f a0=some r) :
  SpecA prog 61 [.slice A1 a0.length c_1] [] [R5 a0 A1 c_1] (fun v l lr=>∃ b_0 A_1 c_1,v=.pointer (some ⟨b_0,0,none⟩)/\l=[Wq b_0 r.1 A_1 c_1 r.2]/\lr=[R5 r.1 A_1 c_1]):=by
 refine Yj Tryz.func61 fun w0 F0 h0=>?_
 unfold Q166.f at H
 refine Sc (Za [0] ?_)
 refine Sc (Sa (Zf 1 ?_))
 refine cE H [] h0 rfl Q101.spec (gS [0]) ?_
 rintro r1 w1 _ _ H ⟨A2,c_2,rfl,rfl⟩ h1
 replace h1:=nf h1
 refine Zf 1 ?_
 refine rB (Z8 h1) fun b1 w2 h2=>?_
 refine rFi [2] ?_
 have h3:=h2.freeze (k:=1) rfl Ye
 cases H
 exact Sb (jRA ⟨_,_,_,rfl,rfl,rfl⟩ (sOR h3 [0] [0]))

def Q175.f (a0:TU) (a1:Int):Option (TU):=if (decide (a0.2=0))=true then (some ([],a1)) else (some ([],a0.2))
theorem Q175.spec {a0 a1 A1 c_1 b1 r} (H:Q175.f a0 a1=some r) :
  SpecA prog 105 [.pointer (some ⟨b1,0,none⟩),.int .i64 a1] [Wq b1 a0.1 A1 c_1 a0.2] [R5 a0.1 A1 c_1] (fun v l lr=>∃ A_0 c_0,v=.tuple #[]/\l=[Wq b1 r.1 A_0 c_0 r.2]/\lr=[R5 r.1 A_0 c_0]):=by
 refine Yj Tryz.func105 fun w0 F0 h0=>?_
 unfold Q175.f at H
 refine Sc (Sc (Sa (rRL 3 0 h0 ?_)))
 refine rFi [0,1,8] ?_
 refine jIf H (fun c1 H=>?_) fun c1 H=>?_
 ·refine Sa (Zf 4 ?_)
  refine rS (Zk 0 h0) fun _ w1 h1=>?_
  refine rFi [0] ?_
  refine Sa (Zf 3 ?_)
  refine rS (Zk 0 h1) fun _ w2 h2=>?_
  refine rFi [] ?_
  have h3:=h2.addNil 5 (.int .u8)
  have h4:=h3.freeze (k:=0) rfl Ye
  cases H
  exact ⟨_,_,_,Zl,⟨_,_,rfl,rfl,rfl⟩,sOR h4 [0] [0]⟩
 refine Sd (Sa (Zf 3 ?_))
 refine rS (Zk 0 h0) fun _ w3 h5=>?_
 refine rFi [] ?_
 have h6:=h5.addNil 5 (.int .u8)
 have h7:=h6.freeze (k:=0) rfl Ye
 cases H
 exact ⟨_,_,_,Zl,⟨_,_,rfl,rfl,rfl⟩,sOR h7 [0] [0]⟩

def Q170.f (a0:TU) (a1:Int):Option (List Int×TU):=if (!decide (a0.2=0))=true then (some ([],a0)) else (if (decide (a1<0))=true then ((Q175.f a0 2).bind fun r1=>(some ([],r1))) else (if (decide ((a0.1.length:Int)<a1))=true then ((Q175.f a0 5).bind fun r2=>(some ([],r2))) else (if 0<=a1/\a1*1<=281474976710656 then (if 0<=a1/\a1<=(a0.1.length:Int) then (some ((patch (List.replicate a1.toNat (0:Int)) 0 ((List.replicate a1.toNat (0:Int)).length) a0.1),((a0.1.drop a1.toNat),a0.2))) else none) else none)))
theorem Q170.spec {a0 a1 A1 c_1 b1 r} (H:Q170.f a0 a1=some r) :
  SpecA prog 102 [.pointer (some ⟨b1,0,none⟩),.int .i64 a1] [Wq b1 a0.1 A1 c_1 a0.2] [R5 a0.1 A1 c_1] (fun v l lr=>∃ A_0 c_0 A_1 c_1,v=.slice A_0 r.1.length c_0/\l=[O5 r.1 A_0 c_0,Wq b1 r.2.1 A_1 c_1 r.2.2]/\lr=[R5 r.2.1 A_1 c_1]):=by
 refine Yj Tryz.func102 fun w0 F0 h0=>?_
 unfold Q170.f at H
 refine Sc (Za [0,1] ?_)
 refine Sc (T4 (Sc (Sa (rRL 6 0 h0 ?_))))
 refine rFi [0,1,6] ?_
 refine jIf H (fun c1 H=>?_) fun c1 H=>?_
 ·refine Sc (Za [4] ?_)
  have h1:=h0.addNil 5 (.int .u8)
  cases H
  exact Sb (jRA ⟨_,_,_,_,rfl,rfl,rfl⟩ (sOR h1 [0,0] [0]))
 refine Sc (Za [0,1,16] ?_)
 refine jIf H (fun c2 H=>?_) fun c2 H=>?_
 ·refine Sc (Sa (Zf 1 ?_))
  obtain ⟨r1,q1,H⟩:=Yf H
  refine Zp (Z4 [0] (Q175.spec q1) h0 rfl (gS [0])) ?_
  rintro _ w1 ⟨_,_,⟨A2,c_2,rfl,rfl,rfl⟩,h2⟩
  replace h2:=nf h2
  refine rFi [] ?_
  refine Sc (Za [4] ?_)
  have h3:=h2.addNil 5 (.int .u8)
  cases H
  exact Sb (jRA ⟨_,_,_,_,rfl,rfl,rfl⟩ (sOR h3 [0,0] [0]))
 refine Sc (Sa (rRL 4 0 h0 ?_))
 refine rFi [0,1,21] ?_
 refine jIf H (fun c3 H=>?_) fun c3 H=>?_
 ·refine Sc (Sa (Zf 1 ?_))
  obtain ⟨r2,q2,H⟩:=Yf H
  refine Zp (Z4 [0] (Q175.spec q2) h0 rfl (gS [0])) ?_
  rintro _ w2 ⟨_,_,⟨A3,c_3,rfl,rfl,rfl⟩,h4⟩
  replace h4:=nf h4
  refine rFi [] ?_
  refine Sc (Za [4] ?_)
  have h5:=h4.addNil 5 (.int .u8)
  cases H
  exact Sb (jRA ⟨_,_,_,_,rfl,rfl,rfl⟩ (sOR h5 [0,0] [0]))
 refine Sd (Sc (Sa (Zf 1 ?_)))
 obtain ⟨⟨p1,p2⟩,H⟩:=Zi H
 refine rB (Bv Yk (ty:=(.int .u8)) rfl (0:Int) rfl rfl rfl rfl rfl rfl rfl (by decide) h0 p1 p2) fun b2 w3 h6=>?_
 refine rFi [0,1,5] ?_
 refine Sc (Sa (rRL 4 1 h6 ?_))
 have e1:0+(List.replicate a1.toNat (0:Int)).length<=(List.replicate a1.toNat (0:Int)).length:=by first | omega | (simp only [List.length_take,List.length_drop]; omega)
 refine Zp (Zhf Yk (ty:=(.int .u8)) (xs:=(List.replicate a1.toNat (0:Int))) (ys:=a0.1) rfl 0 rfl h6 rfl (Zc 1) rfl rfl rfl rfl rfl rfl e1) ?_
 rintro _ w4 ⟨rfl,h7⟩
 replace h7:=nf h7
 refine rFi [0,1,5] ?_
 refine T6 (env':=[(0,.pointer (some ⟨b1,0,none⟩)),(1,.int .i64 a1),(5,.slice (some ⟨b2,0,none⟩) (patch (List.replicate a1.toNat (0:Int)) 0 ((List.replicate a1.toNat (0:Int)).length) a0.1).length (a1.toNat))]) (by simp only [Wc e1,List.length_nil] <;> rfl) ?_
 refine Sc (Sa (rRL 4 1 h7 ?_))
 refine Zf 1 ?_
 obtain ⟨⟨p3,p4⟩,H⟩:=Zi H
 have e2:=h7.cap (Zc 2)
 refine Zj (V6 (a0.1.drop a1.toNat) a1 (a0.1.length:Int) e2 p3 p4 (Int.le_refl _) (Xy _ _)) ?_
 refine Zf 2 ?_
 refine rS (Zk 1 h7) fun _ w5 h8=>?_
 refine rFi [5] ?_
 refine Sc (Za [4] ?_)
 have h9:=h8.read (k:=0) rfl (Vw (.int .u8) (a0.1.drop a1.toNat) a1 (a0.1.length:Int) p3 p4 (Int.le_refl _) (Xy _ _))
 cases H
 exact Sb (jRA ⟨_,_,_,_,rfl,rfl,rfl⟩ (sOR h9 [1,0] [0]))

def Q169.l0:Nat->(List Int×TU)->(Int)->(Int)->Option (Int×TU)
 | 0,_,_,_=>none
 | k+1,r2,x2,x3=>if (decide (x3<(r2.1.length:Int)))=true then (if 0<=x3/\x3<(r2.1.length:Int) then (Q169.l0 k r2 (uH.wrap (((ofInt uH.bits (uH.wrap (x2*2 ^ 8)) ||| (ofInt uH.bits (uH.wrap ((gt r2.1 x3))))).toNat:Int))) (w64 (x3+1))) else none) else (some (x2,r2.2))
def Q169.f (k:Nat) (a0:TU) (a1:Int):Option (Int×TU):=(Q176.f a1).bind fun r1=>(if (!r1)=true then ((Q170.f a0 (-1)).bind fun r2=>(Q169.l0 k r2 0 0)) else ((Q170.f a0 a1).bind fun r2=>(Q169.l0 k r2 0 0)))
theorem Q169.spec {k a0 a1 A1 c_1 b1 r} (H:Q169.f k a0 a1=some r) :
  SpecA prog 62 [.pointer (some ⟨b1,0,none⟩),.int .i64 a1] [Wq b1 a0.1 A1 c_1 a0.2] [R5 a0.1 A1 c_1] (fun v l lr=>∃ A_0 c_0,v=.int .u64 r.1/\l=[Wq b1 r.2.1 A_0 c_0 r.2.2]/\lr=[R5 r.2.1 A_0 c_0]):=by
 refine Yj Tryz.func62 fun w0 F0 h0=>?_
 unfold Q169.f at H
 refine Sc (Za [0,1] ?_)
 refine Sc (Sc (Sa (Zf 1 ?_)))
 refine cS H [] h0 rfl Q176.spec Zm fun r1 w1 H h1=>?_
 refine rFi [0,1,10] ?_
 refine T9 (fun env w=>∃(k1:Nat) (x1:Int),env=[(0,.pointer (some ⟨b1,0,none⟩)),(1,.int .i64 x1)]/\St w0 F0 [Wq b1 a0.1 A1 c_1 a0.2] [R5 a0.1 A1 c_1] w/\((Q170.f a0 x1).bind fun r2=>(Q169.l0 k1 r2 0 0))=some r/\k1<=k) ?_ ?_
 ·refine jIf H (fun c2 H=>?_) fun c2 H=>?_
  ·refine Za [0,1] ?_
   have h7:=(sOR h1 [0] [0])
   exact ⟨k,(-1),rfl,h7,H,Se _⟩
  refine Wj [0,1] ?_
  refine Sd ?_
  have h8:=(sOR h1 [0] [0])
  exact ⟨k,a1,rfl,h8,H,Se _⟩
 rintro env w3 ⟨k1,x1,rfl,h2,H,hk1⟩
 refine Sc (Za [0,1,5] ?_)
 refine Sc (Sc (Sa (Zf 2 ?_)))
 obtain ⟨r2,q2,H⟩:=Yf H
 refine Zp (Z4 [0] (Q170.spec q2) h2 rfl (gS [0])) ?_
 rintro _ w4 ⟨_,_,⟨A2,c_2,A3,c_3,rfl,rfl,rfl⟩,h3⟩
 replace h3:=nf h3
 refine rFi [5,13,14,15] ?_
 refine T4 ?_
 have h6:=(sOR h3 [1,0] [0])
 refine T8 (fun kk env w=>∃ x2 x3,Q169.l0 kk r2 x2 x3=some r/\env=[(5,.int .u64 x2),(13,.slice A2 r2.1.length c_2),(14,.int .i64 (r2.1.length:Int)),(15,.int .i64 x3)]/\St w0 F0 [Wq b1 r2.2.1 A3 c_3 r2.2.2,O5 r2.1 A2 c_2] [R5 r2.2.1 A3 c_3] w) (k:=k1) ⟨_,_,H,rfl,h6⟩ ?_
 rintro k2 env w5 ⟨x2,x3,H,rfl,h4⟩
 rcases k2 with _ | k2
 ·exact z0 H
 rw [Q169.l0] at H
 refine Sc (Za [5,13,14,15,16] ?_)
 refine Sc (jIf H (fun c1 H=>?_) fun c1 H=>?_)
 ·refine Sd (Sc (T4 (Sc (Sa ?_))))
  obtain ⟨⟨p1,p2⟩,H⟩:=Zi H
  have e1:=Zv h4.wh (gO 1) p1 p2
  refine Zj (Zd e1 p1 p2) ?_
  refine Zj (Ze 0 h4.wht (gO 1) p1 p2) ?_
  refine rFi [5,7,13,14,15] ?_
  refine Za [5,13,14,15] ?_
  refine Za [5,13,14,15] ?_
  have h5:=(sOR h4 [0,0] [0])
  exact ⟨k2,by omega,_,_,H,rfl,h5⟩
 refine T7 (Sc (Za [4] ?_))
 cases H
 exact Sb (jRA ⟨_,_,rfl,rfl,rfl⟩ (sOR h4 [0] [0]))

def Q174.f (a0:Int):Option (Bool):=some (!decide (a0=0))
theorem Q174.spec {a0 r} (H:Q174.f a0=some r) :
  Spec prog 104 [.int .u8 a0] [] [] (fun v l=>v=.bool r/\l=[]):=by
 refine Zg Tryz.func104 fun w0 F0 h0=>?_
 unfold Q174.f at H
 refine Sc (Za [0] ?_)
 refine Sc (Za [2] ?_)
 cases H
 exact Sb (jR0 h0 [])

def Q113.l0:Nat->T0->(Int)->Option (Int)
 | 0,_,_=>none
 | k+1,a0,x1=>if (decide (x1<(a0.length:Int)))=true then (if 0<=x1/\x1<(a0.length:Int) then ((Q174.f (gt a0 x1)).bind fun r1=>(if r1=true then (some x1) else (Q113.l0 k a0 (w64 (x1+1))))) else none) else (some (-1))
def Q113.f (k:Nat) (a0:T0):Option (Int):=Q113.l0 k a0 0
theorem Q113.spec {k a0 A1 c_1 r} (H:Q113.f k a0=some r) :
  Spec prog 129 [.slice A1 a0.length c_1,.func (.func 104) #[] #[]] [] [R5 a0 A1 c_1] (fun v l=>v=.int .i64 r/\l=[]):=by
 refine Zg Tryz.func129 fun w0 F0 h0=>?_
 unfold Q113.f at H
 refine Sc (Za [0,1] ?_)
 refine Sc (Sc (Za [0,1,7,8] ?_))
 refine T4 ?_
 have h4:=(sOR h0 [] [0])
 refine T8 (fun kk env w=>∃ x1,Q113.l0 kk a0 x1=some r/\env=[(0,.slice A1 a0.length c_1),(1,.func (.func 104) #[] #[]),(7,.int .i64 (a0.length:Int)),(8,.int .i64 x1)]/\St w0 F0 [] [R5 a0 A1 c_1] w) (k:=k) ⟨_,H,rfl,h4⟩ ?_
 rintro k1 env w1 ⟨x1,H,rfl,h1⟩
 rcases k1 with _ | k1
 ·exact z0 H
 rw [Q113.l0] at H
 refine Sc (Za [0,1,7,8,9] ?_)
 refine Sc (jIf H (fun c1 H=>?_) fun c1 H=>?_)
 ·refine Sd (Sc (T4 (Sc (Za [0,1,5,7,8] ?_))))
  refine Sc (Sa (Zf 3 ?_))
  obtain ⟨⟨p1,p2⟩,H⟩:=Zi H
  have e1:=Zv h1.wh (Zc 0) p1 p2
  refine Zj (Zd e1 p1 p2) ?_
  refine Zj (Ze 0 h1.wht (Zc 0) p1 p2) ?_
  refine cS H [] h1 rfl Q174.spec Zm fun r1 w2 H h2=>?_
  refine rFi [0,1,5,7,8,16] ?_
  refine jIf H (fun c2 H=>?_) fun c2 H=>?_
  ·refine Sc (Za [4] ?_)
   cases H
   exact Sb (jR0 h2 [])
  refine Sd (Za [0,1,7,8] ?_)
  have h3:=(sOR h2 [] [0])
  exact ⟨k1,by omega,_,H,rfl,h3⟩
 refine T7 (Sc (Za [4] ?_))
 cases H
 exact Sb (jR0 h1 [])

def Q107.f (k:Nat) (a0:T0):Option (Bool):=(Q113.f k a0).bind fun r1=>(some (decide (0<=r1)))
theorem Q107.spec {k a0 A1 c_1 r} (H:Q107.f k a0=some r) :
  Spec prog 103 [.slice A1 a0.length c_1,.func (.func 104) #[] #[]] [] [R5 a0 A1 c_1] (fun v l=>v=.bool r/\l=[]):=by
 refine Zg Tryz.func103 fun w0 F0 h0=>?_
 unfold Q107.f at H
 refine Sc (Za [0,1] ?_)
 refine Sc (Sa (Zf 2 ?_))
 refine cS H [] h0 rfl Q113.spec (gS [0]) fun r1 w1 H h1=>?_
 refine rFi [4] ?_
 cases H
 exact Sb (jR0 h1 [])

def Q173.f (k:Nat) (a0:TU) (a1:Int):Option (TU):=(Q170.f a0 a1).bind fun r1=>((Q107.f k r1.1).bind fun r2=>(if r2=true then ((Q175.f r1.2 3).bind fun r3=>(some r3)) else (some r1.2)))
theorem Q173.spec {k a0 a1 A1 c_1 b1 r} (H:Q173.f k a0 a1=some r) :
  SpecA prog 63 [.pointer (some ⟨b1,0,none⟩),.int .i64 a1] [Wq b1 a0.1 A1 c_1 a0.2] [R5 a0.1 A1 c_1] (fun v l lr=>∃ A_0 c_0,v=.tuple #[]/\l=[Wq b1 r.1 A_0 c_0 r.2]/\lr=[R5 r.1 A_0 c_0]):=by
 refine Yj Tryz.func63 fun w0 F0 h0=>?_
 unfold Q173.f at H
 refine Sc (Sa (Zf 2 ?_))
 obtain ⟨r1,q1,H⟩:=Yf H
 refine Zp (Z4 [0] (Q170.spec q1) h0 rfl (gS [0])) ?_
 rintro _ w1 ⟨_,_,⟨A2,c_2,A3,c_3,rfl,rfl,rfl⟩,h1⟩
 replace h1:=nf h1
 refine cS H [] h1 rfl Q107.spec (Xm (gO 0) Zm) fun r2 w2 H h2=>?_
 refine rFi [0,7] ?_
 refine jIf H (fun c1 H=>?_) fun c1 H=>?_
 ·refine Sa (Zf 1 ?_)
  obtain ⟨r3,q3,H⟩:=Yf H
  refine Zp (Z4 [1] (Q175.spec q3) h2 rfl (gS [0])) ?_
  rintro _ w3 ⟨_,_,⟨A4,c_4,rfl,rfl,rfl⟩,h3⟩
  replace h3:=nf h3
  refine rFi [] ?_
  cases H
  exact ⟨_,_,_,Zl,⟨_,_,rfl,rfl,rfl⟩,sOR h3 [0] [0]⟩
 refine Sd ?_
 cases H
 exact ⟨_,_,_,Zl,⟨_,_,rfl,rfl,rfl⟩,sOR h2 [1] [0]⟩

def Q172.f (a0:Int):Option (Bool):=some (!decide (a0=0))
theorem Q172.spec {a0 r} (H:Q172.f a0=some r) :
  Spec prog 130 [.int .u8 a0] [] [] (fun v l=>v=.bool r/\l=[]):=by
 refine Zg Tryz.func130 fun w0 F0 h0=>?_
 unfold Q172.f at H
 refine Sc (Za [0] ?_)
 refine Sc (Za [2] ?_)
 cases H
 exact Sb (jR0 h0 [])

def Q112.l0:Nat->T0->(Int)->Option (Int)
 | 0,_,_=>none
 | k+1,a0,x1=>if (decide (x1<(a0.length:Int)))=true then (if 0<=x1/\x1<(a0.length:Int) then ((Q172.f (gt a0 x1)).bind fun r1=>(if r1=true then (some x1) else (Q112.l0 k a0 (w64 (x1+1))))) else none) else (some (-1))
def Q112.f (k:Nat) (a0:T0):Option (Int):=Q112.l0 k a0 0
theorem Q112.spec {k a0 A1 c_1 r} (H:Q112.f k a0=some r) :
  Spec prog 129 [.slice A1 a0.length c_1,.func (.func 130) #[] #[]] [] [R5 a0 A1 c_1] (fun v l=>v=.int .i64 r/\l=[]):=by
 refine Zg Tryz.func129 fun w0 F0 h0=>?_
 unfold Q112.f at H
 refine Sc (Za [0,1] ?_)
 refine Sc (Sc (Za [0,1,7,8] ?_))
 refine T4 ?_
 have h4:=(sOR h0 [] [0])
 refine T8 (fun kk env w=>∃ x1,Q112.l0 kk a0 x1=some r/\env=[(0,.slice A1 a0.length c_1),(1,.func (.func 130) #[] #[]),(7,.int .i64 (a0.length:Int)),(8,.int .i64 x1)]/\St w0 F0 [] [R5 a0 A1 c_1] w) (k:=k) ⟨_,H,rfl,h4⟩ ?_
 rintro k1 env w1 ⟨x1,H,rfl,h1⟩
 rcases k1 with _ | k1
 ·exact z0 H
 rw [Q112.l0] at H
 refine Sc (Za [0,1,7,8,9] ?_)
 refine Sc (jIf H (fun c1 H=>?_) fun c1 H=>?_)
 ·refine Sd (Sc (T4 (Sc (Za [0,1,5,7,8] ?_))))
  refine Sc (Sa (Zf 3 ?_))
  obtain ⟨⟨p1,p2⟩,H⟩:=Zi H
  have e1:=Zv h1.wh (Zc 0) p1 p2
  refine Zj (Zd e1 p1 p2) ?_
  refine Zj (Ze 0 h1.wht (Zc 0) p1 p2) ?_
  refine cS H [] h1 rfl Q172.spec Zm fun r1 w2 H h2=>?_
  refine rFi [0,1,5,7,8,16] ?_
  refine jIf H (fun c2 H=>?_) fun c2 H=>?_
  ·refine Sc (Za [4] ?_)
   cases H
   exact Sb (jR0 h2 [])
  refine Sd (Za [0,1,7,8] ?_)
  have h3:=(sOR h2 [] [0])
  exact ⟨k1,by omega,_,H,rfl,h3⟩
 refine T7 (Sc (Za [4] ?_))
 cases H
 exact Sb (jR0 h1 [])

def Q106.f (k:Nat) (a0:T0):Option (Bool):=(Q112.f k a0).bind fun r1=>(some (decide (0<=r1)))
theorem Q106.spec {k a0 A1 c_1 r} (H:Q106.f k a0=some r) :
  Spec prog 103 [.slice A1 a0.length c_1,.func (.func 130) #[] #[]] [] [R5 a0 A1 c_1] (fun v l=>v=.bool r/\l=[]):=by
 refine Zg Tryz.func103 fun w0 F0 h0=>?_
 unfold Q106.f at H
 refine Sc (Za [0,1] ?_)
 refine Sc (Sa (Zf 2 ?_))
 refine cS H [] h0 rfl Q112.spec (gS [0]) fun r1 w1 H h1=>?_
 refine rFi [4] ?_
 cases H
 exact Sb (jR0 h1 [])

def Q171.f (k:Nat) (a0:TU) (a1:Int) (a2:Int):Option (List UInt8×TU):=if (decide (a1<0))=true then ((Q175.f a0 2).bind fun r1=>(some ([],r1))) else (if (decide (a2<a1))=true then ((Q175.f a0 2).bind fun r2=>(some ([],r2))) else ((Q170.f a0 a2).bind fun r3=>(if (decide ((r3.1.length:Int)<a2))=true then (some ([],r3.2)) else (if 0<=a1/\a1<=(r3.1.length:Int) then ((Q106.f k (r3.1.drop a1.toNat)).bind fun r4=>(if r4=true then ((Q175.f r3.2 3).bind fun r5=>(some ([],r5))) else (if (0:Int)<=a1/\a1<=(r3.1.length:Int) then (some ((toS (r3.1.take a1.toNat)),r3.2)) else none))) else none))))
theorem Q171.spec {k a0 a1 a2 A1 c_1 b1 r} (H:Q171.f k a0 a1 a2=some r) :
  SpecA prog 107 [.pointer (some ⟨b1,0,none⟩),.int .i64 a1,.int .i64 a2] [Wq b1 a0.1 A1 c_1 a0.2] [R5 a0.1 A1 c_1] (fun v l lr=>∃ A_0 c_0,v=.string ⟨⟨r.1⟩⟩/\l=[Wq b1 r.2.1 A_0 c_0 r.2.2]/\lr=[R5 r.2.1 A_0 c_0]):=by
 refine Yj Tryz.func107 fun w0 F0 h0=>?_
 unfold Q171.f at H
 refine Sc (Za [0,1,2] ?_)
 refine Sc (Sc (Za [0,1,2,9] ?_))
 refine Z0 ?_
 refine Sd (Sc (Sc (Sa (Zf 3 ?_))))
 refine Z7 12 H (fun c1 H=>?_) fun c1 H=>?_
 ·refine rFi [0,1,2,16] ?_
  refine Zn ?_
  refine Sc (Sa (Zf 1 ?_))
  obtain ⟨r1,q1,H⟩:=Yf H
  refine Zp (Z4 [0] (Q175.spec q1) h0 rfl (gS [0])) ?_
  rintro _ w1 ⟨_,_,⟨A2,c_2,rfl,rfl,rfl⟩,h1⟩
  replace h1:=nf h1
  refine rFi [] ?_
  refine Sc (Za [6] ?_)
  cases H
  exact Sb (jRA ⟨_,_,rfl,rfl,rfl⟩ (sOR h1 [0] [0]))
 refine rFi [0,1,2,16] ?_
 refine jIf H (fun c2 H=>?_) fun c2 H=>?_
 ·refine Sc (Sa (Zf 1 ?_))
  obtain ⟨r2,q2,H⟩:=Yf H
  refine Zp (Z4 [0] (Q175.spec q2) h0 rfl (gS [0])) ?_
  rintro _ w2 ⟨_,_,⟨A3,c_3,rfl,rfl,rfl⟩,h2⟩
  replace h2:=nf h2
  refine rFi [] ?_
  refine Sc (Za [6] ?_)
  cases H
  exact Sb (jRA ⟨_,_,rfl,rfl,rfl⟩ (sOR h2 [0] [0]))
 refine Sd (Sc (Sa (Zf 2 ?_)))
 obtain ⟨r3,q3,H⟩:=Yf H
 refine Zp (Z4 [0] (Q170.spec q3) h0 rfl (gS [0])) ?_
 rintro _ w3 ⟨_,_,⟨A4,c_4,A5,c_5,rfl,rfl,rfl⟩,h3⟩
 replace h3:=nf h3
 refine rFi [0,1,2,7] ?_
 refine Sc (Sc (Za [0,1,7,25] ?_))
 refine jIf H (fun c3 H=>?_) fun c3 H=>?_
 ·refine Sc (Za [6] ?_)
  cases H
  exact Sb (jRA ⟨_,_,rfl,rfl,rfl⟩ (sOR h3 [1] [0]))
 refine Sd (Sc (Sc (Sa (Zf 2 ?_))))
 obtain ⟨⟨p1,p2⟩,H⟩:=Zi H
 have e1:=h3.cap (gO 0)
 refine Zj (V6 (r3.1.drop a1.toNat) a1 (r3.1.length:Int) e1 p1 p2 (Int.le_refl _) (Xy _ _)) ?_
 refine cS H [] h3 rfl Q106.spec (Xm ((Gives.of 0 rfl Ye).trans (Vw (.int .u8) (r3.1.drop a1.toNat) a1 (r3.1.length:Int) p1 p2 (Int.le_refl _) (Xy _ _))) Zm) fun r4 w4 H h4=>?_
 refine rFi [0,1,7,29] ?_
 refine jIf H (fun c4 H=>?_) fun c4 H=>?_
 ·refine Sc (Sa (Zf 1 ?_))
  obtain ⟨r5,q5,H⟩:=Yf H
  refine Zp (Z4 [1] (Q175.spec q5) h4 rfl (gS [0])) ?_
  rintro _ w5 ⟨_,_,⟨A6,c_6,rfl,rfl,rfl⟩,h5⟩
  replace h5:=nf h5
  refine rFi [] ?_
  refine Sc (Za [6] ?_)
  cases H
  exact Sb (jRA ⟨_,_,rfl,rfl,rfl⟩ (sOR h5 [0] [0]))
 refine Sd (Sc (Sa (Zf 2 ?_)))
 obtain ⟨⟨p3,p4⟩,H⟩:=Zi H
 have e2:=h4.cap (gO 0)
 refine Zj (Vz (r3.1.take a1.toNat) a1 e2 p3 p4) ?_
 refine Zj (Ziw h4.wht ((Gives.of 0 rfl Ye).trans (Jh (.int .u8) (r3.1.take a1.toNat) a1 p3 p4))) ?_
 refine rFi [6] ?_
 cases H
 exact Sb (jRA ⟨_,_,rfl,rfl,rfl⟩ (sOR h4 [1] [0]))

def Q43.f (k:Nat) (a0:Ts) (a1:TU):Option (List UInt8×List UInt8×TU):=(Q169.f k a1 1).bind fun r1=>((Q169.f k r1.2 2).bind fun r2=>((Q171.f k r2.2 (w64 (r1.1)) a0.2.2.2.2.2.2.1).bind fun r3=>((Q171.f k r3.2 (w64 (r2.1)) a0.2.2.2.2.2.2.2).bind fun r4=>(some (r3.1,r4.1,r4.2)))))
theorem Q43.spec {k a0 a1 A1 c_1 b1 r} (H:Q43.f k a0 a1=some r) :
  SpecA prog 106 [.agg #[.int .i64 a0.1,.int .i64 a0.2.1,.int .i64 a0.2.2.1,.int .i64 a0.2.2.2.1,.int .i64 a0.2.2.2.2.1,.int .i64 a0.2.2.2.2.2.1,.int .i64 a0.2.2.2.2.2.2.1,.int .i64 a0.2.2.2.2.2.2.2],.pointer (some ⟨b1,0,none⟩)] [Wq b1 a1.1 A1 c_1 a1.2] [R5 a1.1 A1 c_1] (fun v l lr=>∃ A_0 c_0,v=.tuple #[.string ⟨⟨r.1⟩⟩,.string ⟨⟨r.2.1⟩⟩]/\l=[Wq b1 r.2.2.1 A_0 c_0 r.2.2.2]/\lr=[R5 r.2.2.1 A_0 c_0]):=by
 refine Yj Tryz.func106 fun w0 F0 h0=>?_
 unfold Q43.f at H
 refine Sc (Sa (rB (Z8 h0) fun b2 w1 h1=>?_))
 refine rFi [1,2] ?_
 refine Sc (Sa (Zf 1 ?_))
 obtain ⟨r1,q1,H⟩:=Yf H
 refine Zp (Z4 [1] (Q169.spec q1) h1 rfl (gS [0])) ?_
 rintro _ w2 ⟨_,_,⟨A2,c_2,rfl,rfl,rfl⟩,h2⟩
 replace h2:=nf h2
 refine Zf 2 ?_
 obtain ⟨r2,q2,H⟩:=Yf H
 refine Zp (Z4 [0] (Q169.spec q2) h2 rfl (gS [0])) ?_
 rintro _ w3 ⟨_,_,⟨A3,c_3,rfl,rfl,rfl⟩,h3⟩
 replace h3:=nf h3
 refine rFi [1,2,6,7] ?_
 refine Sc (Zy (sO h3 [1]) ?_)
 have h4:=h3.drew
 refine Zq [0,1,2,5,6,7] ?_
 refine Zb 3 rfl (Zh 0 wI) ?_
 refine Zb 8 rfl (Zh 0 wI) ?_
 obtain ⟨r3,q3,H⟩:=Yf H
 refine Yb 4 rfl (Z4 [0] (Q171.spec q3) h4 rfl (gS [0])) ?_
 rintro _ w4 ⟨_,_,⟨A4,c_4,rfl,rfl,rfl⟩,h5⟩
 replace h5:=nf h5
 refine ⟨⟨[_],(Wo h5 [1,2,3])⟩,?_⟩
 obtain ⟨r4,q4,H⟩:=Yf H
 refine Yb 9 rfl (Z4 [0] (Q171.spec q4) h5 rfl (gS [0])) ?_
 rintro _ w5 ⟨_,_,⟨A5,c_5,rfl,rfl,rfl⟩,h6⟩
 replace h6:=nf h6
 refine ⟨⟨[_],(Wo h6 [2,3,4])⟩,?_⟩
 refine hRF [10,11] [4,5] ?_
 cases H
 exact Sb (jRA ⟨_,_,rfl,rfl,rfl⟩ (sOR h6 [0] [0]))

def Q42.l0:Nat->Ts->(Int)->T0->(Int)->TC->(Int)->Option Tk
 | 0,_,_,_,_,_,_=>none
 | k+1,a0,a2,x1,x2,x3,x4=>if (decide (x4<(if a0.2.2.2.2.2.1<a2 then a0.2.2.2.2.2.1 else a2)))=true then ((Q43.f k a0 (x1,x2)).bind fun r1=>(if (x3.length+([(r1.1,r1.2.1)]:List TH).length)*32<=140737488355328 then (Q42.l0 k a0 a2 r1.2.2.1 r1.2.2.2 (x3 ++ [(r1.1,r1.2.1)]) (w64 (x4+1))) else none)) else (some ((0,[],[],[],x3),(x1,x2)))
def Q42.f (k:Nat) (a0:Ts) (a1:TU) (a2:Int):Option Tk:=Q42.l0 k a0 a2 a1.1 a1.2 [] 0
theorem Q42.spec {k a0 a1 a2 A1 c_1 b1 r} (H:Q42.f k a0 a1 a2=some r) :
  SpecA prog 64 [.agg #[.int .i64 a0.1,.int .i64 a0.2.1,.int .i64 a0.2.2.1,.int .i64 a0.2.2.2.1,.int .i64 a0.2.2.2.2.1,.int .i64 a0.2.2.2.2.2.1,.int .i64 a0.2.2.2.2.2.2.1,.int .i64 a0.2.2.2.2.2.2.2],.pointer (some ⟨b1,0,none⟩),.int .i64 a2] [Wq b1 a1.1 A1 c_1 a1.2] [R5 a1.1 A1 c_1] (fun v l lr=>∃ A_0 c_0 A_1 c_1 A_2 c_2 A_3 c_3 A_4 c_4,v=.agg #[.int .i64 r.1.1,.slice A_0 r.1.2.1.length c_0,.slice A_1 r.1.2.2.1.length c_1,.slice A_2 r.1.2.2.2.1.length c_2,.slice A_3 r.1.2.2.2.2.length c_3]/\l=[O30 r.1.2.1 A_0 c_0,O9 r.1.2.2.1 A_1 c_1,O59 r.1.2.2.2.1 A_2 c_2,O57 r.1.2.2.2.2 A_3 c_3,Wq b1 r.2.1 A_4 c_4 r.2.2]/\lr=[R5 r.2.1 A_4 c_4]):=by
 refine Yj Tryz.func64 fun w0 F0 h0=>?_
 unfold Q42.f at H
 refine Sc (Sa (rB (Z8 h0) fun b2 w1 h1=>?_))
 refine rB (Yi h1) fun b3 w2 h2=>?_
 refine rFi [1,2,3,6] ?_
 refine Sc (Sa (Zf 1 ?_))
 refine rB (Yi h2) fun b4 w3 h3=>?_
 refine rS (Zk 0 h3) fun _ w4 h4=>?_
 refine rFi [1,2,3,6,7] ?_
 refine Sc (Sc (Sa (rRL 2 2 h4 ?_)))
 refine rFi [1,3,6,7,14,15] ?_
 refine T4 ?_
 have h16:=h4.addNil 57 (.pair .str .str)
 have h17:=(sOR h16 [4,3,2,1,0] [0])
 refine T8 (fun kk env w=>∃ x1 A2 c_2 x2 x3 A3 c_3 x4,Q42.l0 kk a0 a2 x1 x2 x3 x4=some r/\env=[(1,.pointer (some ⟨b1,0,none⟩)),(3,.pointer (some ⟨b2,0,none⟩)),(6,.pointer (some ⟨b3,0,none⟩)),(7,.pointer (some ⟨b4,0,none⟩)),(14,.int .i64 (if a0.2.2.2.2.2.1<a2 then a0.2.2.2.2.2.1 else a2)),(15,.int .i64 x4)]/\St w0 F0 [Wq b1 x1 A2 c_2 x2,X23 b2 a0.1 a0.2.1 a0.2.2.1 a0.2.2.2.1 a0.2.2.2.2.1 a0.2.2.2.2.2.1 a0.2.2.2.2.2.2.1 a0.2.2.2.2.2.2.2,X50 b3 0 [] none 0 [] none 0 [] none 0 [] none 0,X50 b4 0 [] none 0 [] none 0 [] none 0 x3 A3 c_3,O57 x3 A3 c_3] [R5 x1 A2 c_2] w) (k:=k) ⟨_,_,_,_,_,_,_,_,H,rfl,h17⟩ ?_
 rintro k1 env w5 ⟨x1,A2,c_2,x2,x3,A3,c_3,x4,H,rfl,h5⟩
 rcases k1 with _ | k1
 ·exact z0 H
 rw [Q42.l0] at H
 refine Sc (Za [1,3,6,7,14,15,16] ?_)
 refine Sc (jIf H (fun c1 H=>?_) fun c1 H=>?_)
 ·refine Sd (Sc (T4 (Sc (Sa (rLo 1 h5 ?_)))))
  refine Zf 1 ?_
  obtain ⟨r1,q1,H⟩:=Yf H
  refine Zp (Z4 [0] (Q43.spec q1) h5 rfl (gS [0])) ?_
  rintro _ w6 ⟨_,_,⟨A4,c_4,rfl,rfl,rfl⟩,h6⟩
  replace h6:=nf h6
  refine rFi [1,3,6,7,8,9,14,15] ?_
  refine Sa (rRL 1 3 h6 ?_)
  refine Zf 3 ?_
  refine rB (Zx (.pair .str .str) [(r1.1,r1.2.1)] h6) fun b5 w7 h7=>?_
  obtain ⟨p1,H⟩:=Zi H
  refine Zp (Zz 5 h7 (gO 0) p1) ?_
  rintro _ w8 ⟨A5,c_5,rfl,h8⟩
  replace h8:=nf h8
  refine Zf 1 ?_
  refine rS (Zk 5 h8) fun _ w9 h9=>?_
  refine rFi [1,3,6,7,14,15] ?_
  refine Za [1,3,6,7,14,15] ?_
  have h10:=(sOR h9 [3,3,3,0,0] [0])
  exact ⟨k1,by omega,_,_,_,_,_,_,_,_,H,rfl,h10⟩
 refine T7 (Sc (Sa (rLo 3 h5 ?_)))
 refine rS (Zk 2 h5) fun _ w10 h11=>?_
 refine rFi [6] ?_
 have h12:=sO h11 [0,0,2]
 replace h12:=nf h12
 have h13:=h12.addNil 30 (.int .u32)
 have h14:=h13.addNil 9 .str
 have h15:=h14.addNil 59 (.pair .str (.pair .bool .str))
 cases H
 exact Sb (Zqw (Zt (Si Yk 3 h15 rfl rfl rfl rfl) Yl) ⟨_,_,_,_,_,_,_,_,_,_,rfl,rfl,rfl⟩ (sOR h15 [2,1,0,2,1] [0]))

def Q41.l2:Nat->Ts->(Int)->(Int)->T0->TO->T0->(Int)->Tw->(Int)->Option Tk
 | 0,_,_,_,_,_,_,_,_,_=>none
 | k+1,a0,a2,a4,x3,x7,x9,x10,x11,x12=>if (decide (x12<(if a0.2.2.2.2.1<a4 then a0.2.2.2.2.1 else a4)))=true then ((Q169.f k (x9,x10) 1).bind fun r4=>((Q43.f k a0 r4.2).bind fun r5=>(if (x11.length+([(r5.1,(decide (r4.1=2)),r5.2.1)]:List TD).length)*40<=140737488355328 then (Q41.l2 k a0 a2 a4 x3 x7 r5.2.2.1 r5.2.2.2 (x11 ++ [(r5.1,(decide (r4.1=2)),r5.2.1)]) (w64 (x12+1))) else none))) else (some ((a2,x3,x7,x11,[]),(x9,x10)))
def Q41.l1:Nat->Ts->(Int)->(Int)->(Int)->T0->T0->(Int)->TO->(Int)->Option Tk
 | 0,_,_,_,_,_,_,_,_,_=>none
 | k+1,a0,a2,a3,a4,x3,x5,x6,x7,x8=>if (decide (x8<(w64 (a0.2.2.2.1 - 1))))=true then ((Q169.f k (x5,x6) 1).bind fun r2=>((Q171.f k r2.2 (w64 (r2.1)) a0.2.2.2.2.2.2.1).bind fun r3=>(if (decide ((w64 (x8+1))<a3))=true then (if (x7.length+([r3.1]:List TW).length)*16<=140737488355328 then (Q41.l1 k a0 a2 a3 a4 x3 r3.2.1 r3.2.2 (x7 ++ [r3.1]) (w64 (x8+1))) else none) else (Q41.l1 k a0 a2 a3 a4 x3 r3.2.1 r3.2.2 x7 (w64 (x8+1)))))) else (Q41.l2 k a0 a2 a4 x3 x7 x5 x6 [] 0)
def Q41.l0:Nat->Ts->(Int)->(Int)->(Int)->T0->(Int)->T0->(Int)->Option Tk
 | 0,_,_,_,_,_,_,_,_=>none
 | k+1,a0,a2,a3,a4,x1,x2,x3,x4=>if (decide (x4<a0.2.2.2.1))=true then ((Q169.f k (x1,x2) 4).bind fun r1=>(if (decide (x4<a3))=true then (if (x3.length+([(uD.wrap (r1.1))]:List Int).length)*4<=140737488355328 then (Q41.l0 k a0 a2 a3 a4 r1.2.1 r1.2.2 (x3 ++ [(uD.wrap (r1.1))]) (w64 (x4+1))) else none) else (Q41.l0 k a0 a2 a3 a4 r1.2.1 r1.2.2 x3 (w64 (x4+1))))) else (Q41.l1 k a0 a2 a3 a4 x3 x1 x2 [] 0)
def Q41.f (k:Nat) (a0:Ts) (a1:TU) (a2:Int) (a3:Int) (a4:Int):Option Tk:=Q41.l0 k a0 a2 a3 a4 a1.1 a1.2 [] 0
theorem Q41.spec {k a0 a1 a2 a3 a4 A1 c_1 b1 r} (H:Q41.f k a0 a1 a2 a3 a4=some r) :
  SpecA prog 65 [.agg #[.int .i64 a0.1,.int .i64 a0.2.1,.int .i64 a0.2.2.1,.int .i64 a0.2.2.2.1,.int .i64 a0.2.2.2.2.1,.int .i64 a0.2.2.2.2.2.1,.int .i64 a0.2.2.2.2.2.2.1,.int .i64 a0.2.2.2.2.2.2.2],.pointer (some ⟨b1,0,none⟩),.int .i64 a2,.int .i64 a3,.int .i64 a4] [Wq b1 a1.1 A1 c_1 a1.2] [R5 a1.1 A1 c_1] (fun v l lr=>∃ A_0 c_0 A_1 c_1 A_2 c_2 A_3 c_3 A_4 c_4,v=.agg #[.int .i64 r.1.1,.slice A_0 r.1.2.1.length c_0,.slice A_1 r.1.2.2.1.length c_1,.slice A_2 r.1.2.2.2.1.length c_2,.slice A_3 r.1.2.2.2.2.length c_3]/\l=[O30 r.1.2.1 A_0 c_0,O9 r.1.2.2.1 A_1 c_1,O59 r.1.2.2.2.1 A_2 c_2,O57 r.1.2.2.2.2 A_3 c_3,Wq b1 r.2.1 A_4 c_4 r.2.2]/\lr=[R5 r.2.1 A_4 c_4]):=by
 refine Yj Tryz.func65 fun w0 F0 h0=>?_
 unfold Q41.f at H
 refine Sc (Sa (rB (Z8 h0) fun b2 w1 h1=>?_))
 refine rB (Yi h1) fun b3 w2 h2=>?_
 refine rFi [1,2,3,4,5,10] ?_
 refine Sc (Sa (Zf 2 ?_))
 refine rB (Yi h2) fun b4 w3 h3=>?_
 refine rS (Zk 0 h3) fun _ w4 h4=>?_
 refine rFi [1,3,4,5,10,11] ?_
 refine Sc (Sc (Sa (rRL 1 2 h4 ?_)))
 refine rFi [1,3,4,5,10,11,22,23] ?_
 refine T4 ?_
 have h35:=h4.addNil 30 (.int .u32)
 have h36:=(sOR h35 [4,3,2,1,0] [0])
 refine T8 (fun kk env w=>∃ x1 A2 c_2 x2 x3 A3 c_3 x4,Q41.l0 kk a0 a2 a3 a4 x1 x2 x3 x4=some r/\env=[(1,.pointer (some ⟨b1,0,none⟩)),(3,.int .i64 a3),(4,.int .i64 a4),(5,.pointer (some ⟨b2,0,none⟩)),(10,.pointer (some ⟨b3,0,none⟩)),(11,.pointer (some ⟨b4,0,none⟩)),(22,.int .i64 a0.2.2.2.1),(23,.int .i64 x4)]/\St w0 F0 [Wq b1 x1 A2 c_2 x2,X23 b2 a0.1 a0.2.1 a0.2.2.1 a0.2.2.2.1 a0.2.2.2.2.1 a0.2.2.2.2.2.1 a0.2.2.2.2.2.2.1 a0.2.2.2.2.2.2.2,X50 b3 0 [] none 0 [] none 0 [] none 0 [] none 0,X50 b4 a2 x3 A3 c_3 [] none 0 [] none 0 [] none 0,O30 x3 A3 c_3] [R5 x1 A2 c_2] w) (k:=k) ⟨_,_,_,_,_,_,_,_,H,rfl,h36⟩ ?_
 rintro k1 env w5 ⟨x1,A2,c_2,x2,x3,A3,c_3,x4,H,rfl,h5⟩
 rcases k1 with _ | k1
 ·exact z0 H
 rw [Q41.l0] at H
 refine Sc (Za [1,3,4,5,10,11,22,23,24] ?_)
 refine Sc (jIf H (fun c1 H=>?_) fun c1 H=>?_)
 ·refine Sd (Sc (T4 (Sc (Za [1,3,4,5,10,11,12,22,23] ?_))))
  refine Sc (Sa (Zf 1 ?_))
  obtain ⟨r1,q1,H⟩:=Yf H
  refine Zp (Z4 [0] (Q169.spec q1) h5 rfl (gS [0])) ?_
  rintro _ w6 ⟨_,_,⟨A4,c_4,rfl,rfl,rfl⟩,h6⟩
  replace h6:=nf h6
  refine rFi [1,3,4,5,10,11,12,13,22,23] ?_
  refine Sc (Za [1,3,4,5,10,11,13,22,23,31] ?_)
  refine jIf H (fun c2 H=>?_) fun c2 H=>?_
  ·refine Sa (rRL 1 3 h6 ?_)
   refine Zf 1 ?_
   refine rB (Zx (.int .u32) [(uD.wrap (r1.1))] h6) fun b5 w7 h7=>?_
   obtain ⟨p1,H⟩:=Zi H
   refine Zp (Zz 5 h7 (gO 0) p1) ?_
   rintro _ w8 ⟨A5,c_5,rfl,h8⟩
   replace h8:=nf h8
   refine Zf 1 ?_
   refine rS (Zk 5 h8) fun _ w9 h9=>?_
   refine rFi [1,3,4,5,10,11,22,23] ?_
   refine Za [1,3,4,5,10,11,22,23] ?_
   have h10:=(sOR h9 [3,3,3,0,0] [0])
   exact ⟨k1,by omega,_,_,_,_,_,_,_,_,H,rfl,h10⟩
  refine Sd (Za [1,3,4,5,10,11,22,23] ?_)
  have h11:=(sOR h6 [0,0,0,0,0] [0])
  exact ⟨k1,by omega,_,_,_,_,_,_,_,_,H,rfl,h11⟩
 refine T7 (Sc (Sc (Sa (rRL 1 1 h5 ?_))))
 refine rFi [1,3,4,5,10,11,41,42] ?_
 refine T4 ?_
 have h33:=h5.addNil 9 .str
 have h34:=(sOR h33 [1,1,1,1,1,0] [0])
 refine T8 (fun kk env w=>∃ x5 A6 c_6 x6 x7 A7 c_7 x8,Q41.l1 kk a0 a2 a3 a4 x3 x5 x6 x7 x8=some r/\env=[(1,.pointer (some ⟨b1,0,none⟩)),(3,.int .i64 a3),(4,.int .i64 a4),(5,.pointer (some ⟨b2,0,none⟩)),(10,.pointer (some ⟨b3,0,none⟩)),(11,.pointer (some ⟨b4,0,none⟩)),(41,.int .i64 (w64 (a0.2.2.2.1 - 1))),(42,.int .i64 x8)]/\St w0 F0 [Wq b1 x5 A6 c_6 x6,X23 b2 a0.1 a0.2.1 a0.2.2.1 a0.2.2.2.1 a0.2.2.2.2.1 a0.2.2.2.2.2.1 a0.2.2.2.2.2.2.1 a0.2.2.2.2.2.2.2,X50 b3 0 [] none 0 [] none 0 [] none 0 [] none 0,X50 b4 a2 x3 A3 c_3 x7 A7 c_7 [] none 0 [] none 0,O30 x3 A3 c_3,O9 x7 A7 c_7] [R5 x5 A6 c_6] w) (k:=k1) ⟨_,_,_,_,_,_,_,_,H,rfl,h34⟩ ?_
 rintro k2 env w10 ⟨x5,A6,c_6,x6,x7,A7,c_7,x8,H,rfl,h12⟩
 rcases k2 with _ | k2
 ·exact z0 H
 rw [Q41.l1] at H
 refine Sc (Za [1,3,4,5,10,11,41,42,43] ?_)
 refine Sc (jIf H (fun c3 H=>?_) fun c3 H=>?_)
 ·refine Sd (Sc (T4 (Sc (Za [1,3,4,5,10,11,14,41,42] ?_))))
  refine Sc (Zy (sO h12 [1,1,1,1,1]) ?_)
  have h13:=h12.drew
  refine Zq [0,1,4] ?_
  refine Zb 5 rfl (Zh 0 wI) ?_
  obtain ⟨r2,q2,H⟩:=Yf H
  refine Yb 2 rfl (Z4 [0] (Q169.spec q2) h13 rfl (gS [0])) ?_
  rintro _ w11 ⟨_,_,⟨A8,c_8,rfl,rfl,rfl⟩,h14⟩
  replace h14:=nf h14
  refine ⟨⟨[_],(Wo h14 [1])⟩,?_⟩
  refine Zq [3] ?_
  obtain ⟨r3,q3,H⟩:=Yf H
  refine Yb 6 rfl (Z4 [0] (Q171.spec q3) h14 rfl (gS [0])) ?_
  rintro _ w12 ⟨_,_,⟨A9,c_9,rfl,rfl,rfl⟩,h15⟩
  replace h15:=nf h15
  refine ⟨⟨[_],(Wo h15 [2])⟩,?_⟩
  refine hRF [7] [1,3,4,5,10,11,14,15,41,42] ?_
  refine Sc (Za [1,3,4,5,10,11,15,41,42,55] ?_)
  refine jIf H (fun c4 H=>?_) fun c4 H=>?_
  ·refine Sa (rRL 1 3 h15 ?_)
   refine Zf 1 ?_
   refine rB (Zx .str [r3.1] h15) fun b6 w13 h16=>?_
   obtain ⟨p2,H⟩:=Zi H
   refine Zp (Zz 6 h16 (gO 0) p2) ?_
   rintro _ w14 ⟨A10,c_10,rfl,h17⟩
   replace h17:=nf h17
   refine Zf 1 ?_
   refine rS (Zk 5 h17) fun _ w15 h18=>?_
   refine rFi [1,3,4,5,10,11,41,42] ?_
   refine Za [1,3,4,5,10,11,41,42] ?_
   have h19:=(sOR h18 [3,3,3,0,2,0] [0])
   exact ⟨k2,by omega,_,_,_,_,_,_,_,_,H,rfl,h19⟩
  refine Sd (Za [1,3,4,5,10,11,41,42] ?_)
  have h20:=(sOR h15 [0,0,0,0,0,0] [0])
  exact ⟨k2,by omega,_,_,_,_,_,_,_,_,H,rfl,h20⟩
 refine T7 (Sc (Sc (Sa (rRL 2 1 h12 ?_))))
 refine rFi [1,5,10,11,66,67] ?_
 refine T4 ?_
 have h31:=h12.addNil 59 (.pair .str (.pair .bool .str))
 have h32:=(sOR h31 [1,1,1,1,1,1,0] [0])
 refine T8 (fun kk env w=>∃ x9 A11 c_11 x10 x11 A12 c_12 x12,Q41.l2 kk a0 a2 a4 x3 x7 x9 x10 x11 x12=some r/\env=[(1,.pointer (some ⟨b1,0,none⟩)),(5,.pointer (some ⟨b2,0,none⟩)),(10,.pointer (some ⟨b3,0,none⟩)),(11,.pointer (some ⟨b4,0,none⟩)),(66,.int .i64 (if a0.2.2.2.2.1<a4 then a0.2.2.2.2.1 else a4)),(67,.int .i64 x12)]/\St w0 F0 [Wq b1 x9 A11 c_11 x10,X23 b2 a0.1 a0.2.1 a0.2.2.1 a0.2.2.2.1 a0.2.2.2.2.1 a0.2.2.2.2.2.1 a0.2.2.2.2.2.2.1 a0.2.2.2.2.2.2.2,X50 b3 0 [] none 0 [] none 0 [] none 0 [] none 0,X50 b4 a2 x3 A3 c_3 x7 A7 c_7 x11 A12 c_12 [] none 0,O30 x3 A3 c_3,O9 x7 A7 c_7,O59 x11 A12 c_12] [R5 x9 A11 c_11] w) (k:=k2) ⟨_,_,_,_,_,_,_,_,H,rfl,h32⟩ ?_
 rintro k3 env w16 ⟨x9,A11,c_11,x10,x11,A12,c_12,x12,H,rfl,h21⟩
 rcases k3 with _ | k3
 ·exact z0 H
 rw [Q41.l2] at H
 refine Sc (Za [1,5,10,11,66,67,68] ?_)
 refine Sc (jIf H (fun c5 H=>?_) fun c5 H=>?_)
 ·refine Sd (Sc (T4 (Sc (Sa (Zf 1 ?_)))))
  obtain ⟨r4,q4,H⟩:=Yf H
  refine Zp (Z4 [0] (Q169.spec q4) h21 rfl (gS [0])) ?_
  rintro _ w17 ⟨_,_,⟨A13,c_13,rfl,rfl,rfl⟩,h22⟩
  replace h22:=nf h22
  refine rFi [1,5,10,11,16,66,67] ?_
  refine Sc (Sa (rLo 1 h22 ?_))
  refine Zf 1 ?_
  obtain ⟨r5,q5,H⟩:=Yf H
  refine Zp (Z4 [0] (Q43.spec q5) h22 rfl (gS [0])) ?_
  rintro _ w18 ⟨_,_,⟨A14,c_14,rfl,rfl,rfl⟩,h23⟩
  replace h23:=nf h23
  refine rFi [1,5,10,11,16,17,18,66,67] ?_
  refine Sa (rRL 1 3 h23 ?_)
  refine Zf 5 ?_
  refine rB (Zx (.pair .str (.pair .bool .str)) [(r5.1,(decide (r4.1=2)),r5.2.1)] h23) fun b7 w19 h24=>?_
  obtain ⟨p3,H⟩:=Zi H
  refine Zp (Zz 7 h24 (gO 0) p3) ?_
  rintro _ w20 ⟨A15,c_15,rfl,h25⟩
  replace h25:=nf h25
  refine Zf 1 ?_
  refine rS (Zk 5 h25) fun _ w21 h26=>?_
  refine rFi [1,5,10,11,66,67] ?_
  refine Za [1,5,10,11,66,67] ?_
  have h27:=(sOR h26 [3,3,3,0,2,2,0] [0])
  exact ⟨k3,by omega,_,_,_,_,_,_,_,_,H,rfl,h27⟩
 refine T7 (Sc (Sa (rLo 3 h21 ?_)))
 refine rS (Zk 2 h21) fun _ w22 h28=>?_
 refine rFi [10] ?_
 have h29:=sO h28 [0,0,2,2,2]
 replace h29:=nf h29
 have h30:=h29.addNil 57 (.pair .str .str)
 cases H
 exact Sb (Zqw (Zt (Si Yk 1 h30 rfl rfl rfl rfl) Yl) ⟨_,_,_,_,_,_,_,_,_,_,rfl,rfl,rfl⟩ (sOR h30 [3,3,3,0,1] [0]))

def Q168.f (a0:TU):Option (Int):=some a0.2
theorem Q168.spec {a0 A1 c_1 b1 r} (H:Q168.f a0=some r) :
  Spec prog 66 [.pointer (some ⟨b1,0,none⟩)] [Wq b1 a0.1 A1 c_1 a0.2] [R5 a0.1 A1 c_1] (fun v l=>v=.int .i64 r/\l=[Wq b1 a0.1 A1 c_1 a0.2]):=by
 refine Zg Tryz.func66 fun w0 F0 h0=>?_
 unfold Q168.f at H
 refine Sc (Za [0] ?_)
 refine Sc (Sc (Za [0,4] ?_))
 refine Z0 ?_
 refine Sd (Sc (Sa (rRL 3 0 h0 ?_)))
 refine rFi [2] ?_
 cases H
 exact Sb (jR0 h0 [0])

def Q109.l0:Nat->T0->T0->(Int)->Option (Bool)
 | 0,_,_,_=>none
 | k+1,a0,a1,x1=>if (decide (x1<(a0.length:Int)))=true then (if 0<=x1/\x1<(a0.length:Int) then (if 0<=x1/\x1<(a1.length:Int) then (if (!decide ((gt a0 x1)=(gt a1 x1)))=true then (some false) else (Q109.l0 k a0 a1 (w64 (x1+1)))) else none) else none) else (some true)
def Q109.f (k:Nat) (a0:T0) (a1:T0):Option (Bool):=if (!decide ((a0.length:Int)=(a1.length:Int)))=true then (some false) else (Q109.l0 k a0 a1 0)
theorem Q109.spec {k a0 a1 A1 c_1 A2 c_2 r} (H:Q109.f k a0 a1=some r) :
  Spec prog 68 [.slice A1 a0.length c_1,.slice A2 a1.length c_2] [] [R5 a0 A1 c_1,R5 a1 A2 c_2] (fun v l=>v=.bool r/\l=[]):=by
 refine Zg Tryz.func68 fun w0 F0 h0=>?_
 unfold Q109.f at H
 refine Sc (Za [0,1] ?_)
 refine Sc (Sc (Za [0,1,10] ?_))
 refine jIf H (fun c1 H=>?_) fun c1 H=>?_
 ·refine Sc (Za [4] ?_)
  cases H
  exact Sb (jR0 h0 [])
 refine Sd (Sc (Sc (Za [0,1,12,13] ?_)))
 refine T4 ?_
 have h4:=(sOR h0 [] [0,1])
 refine T8 (fun kk env w=>∃ x1,Q109.l0 kk a0 a1 x1=some r/\env=[(0,.slice A1 a0.length c_1),(1,.slice A2 a1.length c_2),(12,.int .i64 (a0.length:Int)),(13,.int .i64 x1)]/\St w0 F0 [] [R5 a0 A1 c_1,R5 a1 A2 c_2] w) (k:=k) ⟨_,H,rfl,h4⟩ ?_
 rintro k1 env w1 ⟨x1,H,rfl,h1⟩
 rcases k1 with _ | k1
 ·exact z0 H
 rw [Q109.l0] at H
 refine Sc (Za [0,1,12,13,14] ?_)
 refine Sc (jIf H (fun c2 H=>?_) fun c2 H=>?_)
 ·refine Sd (Sc (T4 (Sc (Za [0,1,5,12,13] ?_))))
  refine Sc (jH h1 fun h2=>?_)
  refine Zq [0,1,4,5] ?_
  obtain ⟨⟨p1,p2⟩,H⟩:=Zi H
  have e1:=Zv h2.wh (Zc 0) p1 p2
  refine Zb 2 rfl (Zd e1 p1 p2) ?_
  refine Zb 3 rfl (Ze 0 wI (Zc 0) p1 p2) ?_
  obtain ⟨⟨p3,p4⟩,H⟩:=Zi H
  have e2:=Zv h2.wh (Zc 1) p3 p4
  refine Zb 6 rfl (Zd e2 p3 p4) ?_
  refine Zb 7 rfl (Ze 0 wI (Zc 1) p3 p4) ?_
  refine hRF [8] [0,1,12,13,24] ?_
  refine jIf H (fun c3 H=>?_) fun c3 H=>?_
  ·refine Sc (Za [4] ?_)
   cases H
   exact Sb (jR0 h2 [])
  refine Sd (Za [0,1,12,13] ?_)
  have h3:=(sOR h2 [] [0,1])
  exact ⟨k1,by omega,_,H,rfl,h3⟩
 refine T7 (Sc (Za [4] ?_))
 cases H
 exact Sb (jR0 h1 [])

def Q36.f (k:Nat) (a0:Ts) (a1:T0):Option (Tq×Int):=(Q47.f a0).bind fun r1=>(if (!decide (r1=0))=true then (some ((0,[],[],[],[]),r1)) else ((Q166.f a1).bind fun r2=>((Q169.f k r2 1).bind fun r3=>((Q169.f k r3.2 1).bind fun r4=>((Q169.f k r4.2 2).bind fun r5=>((Q169.f k r5.2 2).bind fun r6=>((Q173.f k r6.2 2).bind fun r7=>(if (decide (r3.1=1))=true then ((Q42.f k a0 r7 (w64 (r5.1))).bind fun r11=>((Q168.f (r11.2.1,r11.2.2)).bind fun r8=>(if (!decide (r8=0))=true then (some ((0,[],[],[],[]),12)) else ((Q37.f k a0 (r11.1.1,r11.1.2.1,r11.1.2.2.1,r11.1.2.2.2.1,r11.1.2.2.2.2)).bind fun r9=>(if (!decide (r9.2=0))=true then (some ((0,[],[],[],[]),12)) else ((Q109.f k r9.1 a1).bind fun r10=>(if (!r10)=true then (some ((0,[],[],[],[]),12)) else (some ((r11.1.1,r11.1.2.1,r11.1.2.2.1,r11.1.2.2.2.1,r11.1.2.2.2.2),0))))))))) else (if (decide (r3.1=2))=true then ((Q41.f k a0 r7 (if (w64 (r4.1))>1 then (w64 (r4.1)) else 1) (w64 (r5.1)) (w64 (r6.1))).bind fun r12=>((Q168.f (r12.2.1,r12.2.2)).bind fun r8=>(if (!decide (r8=0))=true then (some ((0,[],[],[],[]),12)) else ((Q37.f k a0 (r12.1.1,r12.1.2.1,r12.1.2.2.1,r12.1.2.2.2.1,r12.1.2.2.2.2)).bind fun r9=>(if (!decide (r9.2=0))=true then (some ((0,[],[],[],[]),12)) else ((Q109.f k r9.1 a1).bind fun r10=>(if (!r10)=true then (some ((0,[],[],[],[]),12)) else (some ((r12.1.1,r12.1.2.1,r12.1.2.2.1,r12.1.2.2.2.1,r12.1.2.2.2.2),0))))))))) else ((Q168.f (r7.1,r7.2)).bind fun r8=>(if (!decide (r8=0))=true then (some ((0,[],[],[],[]),12)) else ((Q37.f k a0 ((-1),[],[],[],[])).bind fun r9=>(if (!decide (r9.2=0))=true then (some ((0,[],[],[],[]),12)) else ((Q109.f k r9.1 a1).bind fun r10=>(if (!r10)=true then (some ((0,[],[],[],[]),12)) else (some (((-1),[],[],[],[]),0)))))))))))))))))
theorem Q36.spec {k a0 a1 A1 c_1 r} (H:Q36.f k a0 a1=some r) :
  Spec prog 31 [.agg #[.int .i64 a0.1,.int .i64 a0.2.1,.int .i64 a0.2.2.1,.int .i64 a0.2.2.2.1,.int .i64 a0.2.2.2.2.1,.int .i64 a0.2.2.2.2.2.1,.int .i64 a0.2.2.2.2.2.2.1,.int .i64 a0.2.2.2.2.2.2.2],.slice A1 a1.length c_1] [] [R5 a1 A1 c_1] (fun v l=>∃ A_0 c_0 A_1 c_1 A_2 c_2 A_3 c_3,v=.tuple #[.agg #[.int .i64 r.1.1,.slice A_0 r.1.2.1.length c_0,.slice A_1 r.1.2.2.1.length c_1,.slice A_2 r.1.2.2.2.1.length c_2,.slice A_3 r.1.2.2.2.2.length c_3],.int .i64 r.2]/\l=[O30 r.1.2.1 A_0 c_0,O9 r.1.2.2.1 A_1 c_1,O59 r.1.2.2.2.1 A_2 c_2,O57 r.1.2.2.2.2 A_3 c_3]):=by
 refine Zg Tryz.func31 fun w0 F0 h0=>?_
 unfold Q36.f at H
 refine Sc (Sa (rB (Z8 h0) fun b1 w1 h1=>?_))
 refine rB (Yi h1) fun b2 w2 h2=>?_
 refine rFi [1,2,4] ?_
 refine Sc (Sc (Sa (rLo 1 h2 ?_)))
 refine cS H [] h2 rfl Q47.spec Zm fun r1 w3 H h3=>?_
 refine rFi [1,2,4,6] ?_
 refine Sc (Za [1,2,4,6,18] ?_)
 refine jIf H (fun c1 H=>?_) fun c1 H=>?_
 ·refine Sc (Sa (Zf 2 ?_))
  refine rS (Zk 0 h3) fun _ w4 h4=>?_
  refine rFi [4,5] ?_
  have h5:=h4.addNil 30 (.int .u32)
  have h6:=h5.addNil 9 .str
  have h7:=h6.addNil 59 (.pair .str (.pair .bool .str))
  have h8:=h7.addNil 57 (.pair .str .str)
  cases H
  exact Sb (jR2 (Zt (Si Yk 4 h8 rfl rfl rfl rfl) (Zt (Sj rfl) Yl)) ⟨_,_,_,_,_,_,_,_,rfl,rfl⟩ h8 [3,2,1,0])
 refine Sd (Sc (Sa (Zf 1 ?_)))
 obtain ⟨r2,q2,H⟩:=Yf H
 refine Zp (Z4 [] (Q166.spec q2) h3 rfl (gS [0])) ?_
 rintro _ w5 ⟨_,_,⟨b3,A2,c_2,rfl,rfl,rfl⟩,h9⟩
 replace h9:=nf h9
 refine rFi [1,2,4,7] ?_
 refine Sc (Sa (Zf 1 ?_))
 obtain ⟨r3,q3,H⟩:=Yf H
 refine Zp (Z4 [0] (Q169.spec q3) h9 rfl (gS [0])) ?_
 rintro _ w6 ⟨_,_,⟨A3,c_3,rfl,rfl,rfl⟩,h10⟩
 replace h10:=nf h10
 refine Zf 1 ?_
 obtain ⟨r4,q4,H⟩:=Yf H
 refine Zp (Z4 [0] (Q169.spec q4) h10 rfl (gS [0])) ?_
 rintro _ w7 ⟨_,_,⟨A4,c_4,rfl,rfl,rfl⟩,h11⟩
 replace h11:=nf h11
 refine Zf 2 ?_
 obtain ⟨r5,q5,H⟩:=Yf H
 refine Zp (Z4 [0] (Q169.spec q5) h11 rfl (gS [0])) ?_
 rintro _ w8 ⟨_,_,⟨A5,c_5,rfl,rfl,rfl⟩,h12⟩
 replace h12:=nf h12
 refine Zf 2 ?_
 obtain ⟨r6,q6,H⟩:=Yf H
 refine Zp (Z4 [0] (Q169.spec q6) h12 rfl (gS [0])) ?_
 rintro _ w9 ⟨_,_,⟨A6,c_6,rfl,rfl,rfl⟩,h13⟩
 replace h13:=nf h13
 refine rFi [1,2,4,7,8,9,10,11] ?_
 refine Sc (Sa (Zf 1 ?_))
 obtain ⟨r7,q7,H⟩:=Yf H
 refine Zp (Z4 [0] (Q173.spec q7) h13 rfl (gS [0])) ?_
 rintro _ w10 ⟨_,_,⟨A7,c_7,rfl,rfl,rfl⟩,h14⟩
 replace h14:=nf h14
 refine rFi [1,2,4,7,8,9,10,11] ?_
 refine Sc (Sa (Zf 1 ?_))
 refine rB (Yi h14) fun b4 w11 h15=>?_
 refine rS (Zk 0 h15) fun _ w12 h16=>?_
 refine rFi [1,2,4,7,8,9,10,11,12] ?_
 refine Sc (Sc (Za [1,2,4,7,9,10,11,12,37] ?_))
 refine T9 (fun env w=>∃(k1:Nat) (x1:T0) (A8:_) (c_8:_) (x2:Int) (x3:Int) (x4:T0) (A9:_) (c_9:_) (x5:TO) (A10:_) (c_10:_) (x6:Tw) (A11:_) (c_11:_) (x7:TC) (A12:_) (c_12:_),env=[(1,.slice A1 a1.length c_1),(2,.pointer (some ⟨b1,0,none⟩)),(4,.pointer (some ⟨b2,0,none⟩)),(7,.pointer (some ⟨b3,0,none⟩)),(12,.pointer (some ⟨b4,0,none⟩))]/\St w0 F0 [X23 b1 a0.1 a0.2.1 a0.2.2.1 a0.2.2.2.1 a0.2.2.2.2.1 a0.2.2.2.2.2.1 a0.2.2.2.2.2.2.1 a0.2.2.2.2.2.2.2,X50 b2 0 [] none 0 [] none 0 [] none 0 [] none 0,Wq b3 x1 A8 c_8 x2,X50 b4 x3 x4 A9 c_9 x5 A10 c_10 x6 A11 c_11 x7 A12 c_12,O30 x4 A9 c_9,O9 x5 A10 c_10,O59 x6 A11 c_11,O57 x7 A12 c_12] [R5 a1 A1 c_1,R5 x1 A8 c_8] w/\((Q168.f (x1,x2)).bind fun r8=>(if (!decide (r8=0))=true then (some ((0,[],[],[],[]),12)) else ((Q37.f k1 a0 (x3,x4,x5,x6,x7)).bind fun r9=>(if (!decide (r9.2=0))=true then (some ((0,[],[],[],[]),12)) else ((Q109.f k1 r9.1 a1).bind fun r10=>(if (!r10)=true then (some ((0,[],[],[],[]),12)) else (some ((x3,x4,x5,x6,x7),0))))))))=some r/\k1<=k) ?_ ?_
 ·refine T4 (Sc (Za [1,2,4,7,9,10,11,12,37,38] ?_))
  refine jIf H (fun c5 H=>?_) fun c5 H=>?_
  ·refine Sa (rLo 3 h16 ?_)
   refine Zf 2 ?_
   obtain ⟨r11,q11,H⟩:=Yf H
   refine Zp (Z4 [1] (Q42.spec q11) h16 rfl (gS [0])) ?_
   rintro _ w22 ⟨_,_,⟨A14,c_14,A15,c_15,A16,c_16,A17,c_17,A18,c_18,rfl,rfl,rfl⟩,h42⟩
   replace h42:=nf h42
   refine rS (Zk 5 h42) fun _ w23 h43=>?_
   refine rFi [1,2,4,7,12] ?_
   have h44:=(sOR h43 [7,6,5,0,0,0,0,0] [7,0])
   exact ⟨k,r11.2.1,A18,c_18,r11.2.2,r11.1.1,r11.1.2.1,A14,c_14,r11.1.2.2.1,A15,c_15,r11.1.2.2.2.1,A16,c_16,r11.1.2.2.2.2,A17,c_17,rfl,h44,H,Se _⟩
  refine Sc (Za [1,2,4,7,9,10,11,12,44] ?_)
  refine jIf H (fun c6 H=>?_) fun c6 H=>?_
  ·refine Sa (rLo 3 h16 ?_)
   refine Zf 5 ?_
   obtain ⟨r12,q12,H⟩:=Yf H
   refine Zp (Z4 [1] (Q41.spec q12) h16 rfl (gS [0])) ?_
   rintro _ w24 ⟨_,_,⟨A19,c_19,A20,c_20,A21,c_21,A22,c_22,A23,c_23,rfl,rfl,rfl⟩,h45⟩
   replace h45:=nf h45
   refine rS (Zk 5 h45) fun _ w25 h46=>?_
   refine rFi [1,2,4,7,12] ?_
   have h47:=(sOR h46 [7,6,5,0,0,0,0,0] [7,0])
   exact ⟨k,r12.2.1,A23,c_23,r12.2.2,r12.1.1,r12.1.2.1,A19,c_19,r12.1.2.2.1,A20,c_20,r12.1.2.2.2.1,A21,c_21,r12.1.2.2.2.2,A22,c_22,rfl,h47,H,Se _⟩
  refine Wj [1,2,4,7,12] ?_
  refine Sd ?_
  have h48:=h16.addNil 30 (.int .u32)
  have h49:=h48.addNil 9 .str
  have h50:=h49.addNil 59 (.pair .str (.pair .bool .str))
  have h51:=h50.addNil 57 (.pair .str .str)
  have h52:=(sOR h51 [7,6,5,4,3,2,1,0] [6,0])
  exact ⟨k,r7.1,A7,c_7,r7.2,(-1),[],none,0,[],none,0,[],none,0,[],none,0,rfl,h52,H,Se _⟩
 rintro env w14 ⟨k1,x1,A8,c_8,x2,x3,x4,A9,c_9,x5,A10,c_10,x6,A11,c_11,x7,A12,c_12,rfl,h17,H,hk1⟩
 refine Sc (Sc (Sa (Zf 1 ?_)))
 refine cS H [2] h17 rfl Q168.spec (gS [8]) fun r8 w15 H h18=>?_
 refine rFi [1,2,4,12,55] ?_
 refine jIf H (fun c2 H=>?_) fun c2 H=>?_
 ·refine Sc (Sa (Zf 1 ?_))
  refine rS (Zk 2 h18) fun _ w16 h19=>?_
  refine rFi [4,5] ?_
  have h20:=sO h19 [0]
  replace h20:=nf h20
  have h21:=h20.addNil 30 (.int .u32)
  have h22:=h21.addNil 9 .str
  have h23:=h22.addNil 59 (.pair .str (.pair .bool .str))
  have h24:=h23.addNil 57 (.pair .str .str)
  cases H
  exact Sb (jR2 (Zt (Si Yk 4 h24 rfl rfl rfl rfl) (Zt (Sj rfl) Yl)) ⟨_,_,_,_,_,_,_,_,rfl,rfl⟩ h24 [3,2,1,0])
 refine Sd (Sc (Sc (Sa (rLo 1 h18 ?_))))
 refine rLo 3 h18 ?_
 refine cE H [] h18 rfl Q37.spec (Xm (gO 4) (Xm (gO 5) (Xm (gO 6) (Xm (gO 7) Zm)))) ?_
 rintro r9 w17 _ _ H ⟨A13,c_13,rfl,rfl⟩ h25
 replace h25:=nf h25
 refine rFi [1,4,12,13,14] ?_
 have h26:=sO h25 [0,2,2,2,2,2,2]
 replace h26:=nf h26
 refine Sc (Sa (Zf 3 ?_))
 refine Z7 65 H (fun c3 H=>?_) fun c3 H=>?_
 ·refine rFi [4,12,70] ?_
  refine Zn ?_
  refine Sc (Sa (Zf 1 ?_))
  refine rS (Zk 1 h26) fun _ w18 h27=>?_
  refine rFi [4,5] ?_
  have h28:=sO h27 [0]
  replace h28:=nf h28
  have h29:=h28.addNil 30 (.int .u32)
  have h30:=h29.addNil 9 .str
  have h31:=h30.addNil 59 (.pair .str (.pair .bool .str))
  have h32:=h31.addNil 57 (.pair .str .str)
  cases H
  exact Sb (jR2 (Zt (Si Yk 4 h32 rfl rfl rfl rfl) (Zt (Sj rfl) Yl)) ⟨_,_,_,_,_,_,_,_,rfl,rfl⟩ h32 [3,2,1,0])
 refine Zf 2 ?_
 refine cS H [] h26 rfl Q109.spec (Xm (gO 0) (gS [7])) fun r10 w19 H h33=>?_
 refine rFi [4,12,70] ?_
 refine jIf H (fun c4 H=>?_) fun c4 H=>?_
 ·refine Sc (Sa (Zf 1 ?_))
  refine rS (Zk 1 h33) fun _ w20 h34=>?_
  refine rFi [4,5] ?_
  have h35:=sO h34 [0]
  replace h35:=nf h35
  have h36:=h35.addNil 30 (.int .u32)
  have h37:=h36.addNil 9 .str
  have h38:=h37.addNil 59 (.pair .str (.pair .bool .str))
  have h39:=h38.addNil 57 (.pair .str .str)
  cases H
  exact Sb (jR2 (Zt (Si Yk 4 h39 rfl rfl rfl rfl) (Zt (Sj rfl) Yl)) ⟨_,_,_,_,_,_,_,_,rfl,rfl⟩ h39 [3,2,1,0])
 refine Sd (Sc (Sa (rLo 2 h33 ?_)))
 refine rS (Zk 1 h33) fun _ w21 h40=>?_
 refine rFi [4,5] ?_
 have h41:=sO h40 [0,2,2,2,2]
 replace h41:=nf h41
 cases H
 exact Sb (jR2 (Zt (Si Yk 0 h41 rfl rfl rfl rfl) (Zt (Sj rfl) Yl)) ⟨_,_,_,_,_,_,_,_,rfl,rfl⟩ h41 [1,1,1,1])

def Q93.f (k:Nat) (a0:Th) (a1:Int):Option (Tq×Int×Th):=(Q97.f a0 a1).bind fun r1=>(if (!decide (r1=0))=true then (some ((0,[],[],[],[]),r1,a0)) else ((Q17.f a0.2.1 a1).bind fun r2=>(if (!decide (r2.1=0))=true then (some ((0,[],[],[],[]),r2.1,(a0.1,r2.2,a0.2.2.1,a0.2.2.2))) else ((Q18.f r2.2 a1).bind fun r3=>((Q19.f r2.2 a1).bind fun r4=>(if (!decide (r3.2=0))=true then (some ((0,[],[],[],[]),r3.2,(a0.1,r4.2,a0.2.2.1,a0.2.2.2))) else ((Q36.f k a0.1 r3.1).bind fun r5=>(some (r5.1,r5.2,(a0.1,r4.2,a0.2.2.1,a0.2.2.2))))))))))
theorem Q93.spec {k a0 a1 b1 b2 b3 b4 b5 b6 b7 A1 c_1 A2 c_2 A3 c_3 A4 c_4 A5 c_5 r} (H:Q93.f k a0 a1=some r) :
  Spec prog 12 [.pointer (some ⟨b1,0,none⟩),.int .u32 a1] (Wy a0 b1 b2 b3 b4 b5 b6 b7 A1 A2 A3 A4 A5 c_1 c_2 c_3 c_4 c_5) [] (fun v l=>∃ A_0 c_0 A_1 c_1 A_2 c_2 A_3 c_3 A_4 c_4 A_5 c_5 A_6 c_6 A_7 c_7 A_8 c_8,v=.tuple #[.agg #[.int .i64 r.1.1,.slice A_0 r.1.2.1.length c_0,.slice A_1 r.1.2.2.1.length c_1,.slice A_2 r.1.2.2.2.1.length c_2,.slice A_3 r.1.2.2.2.2.length c_3],.int .i64 r.2.1]/\l=[O30 r.1.2.1 A_0 c_0,O9 r.1.2.2.1 A_1 c_1,O59 r.1.2.2.2.1 A_2 c_2,O57 r.1.2.2.2.2 A_3 c_3] ++ Wy r.2.2 b1 b2 b3 b4 b5 b6 b7 A_4 A_5 A_6 A_7 A_8 c_4 c_5 c_6 c_7 c_8):=by
 refine Zg Tryz.func12 fun w0 F0 h0=>?_
 replace h0:=nf h0
 unfold Q93.f at H
 refine Sc (Sa (rB (Yi h0) fun b8 w1 h1=>?_))
 refine rFi [0,1,4] ?_
 refine Sc (Sc (Sa (Zf 2 ?_)))
 refine cS H [1,1,1,1,1,1,1,1,1,1,1,1] h1 rfl Q97.spec Zm fun r1 w2 H h2=>?_
 refine rFi [0,1,4,6] ?_
 refine Sc (Za [0,1,4,6,14] ?_)
 refine jIf H (fun c1 H=>?_) fun c1 H=>?_
 ·refine Sc (Sa (Zf 2 ?_))
  refine rS (Zk 12 h2) fun _ w3 h3=>?_
  refine rFi [4,5] ?_
  have h4:=h3.addNil 30 (.int .u32)
  have h5:=h4.addNil 9 .str
  have h6:=h5.addNil 59 (.pair .str (.pair .bool .str))
  have h7:=h6.addNil 57 (.pair .str .str)
  cases H
  exact Sb (jR2 (Zt (Si Yk 4 h7 rfl rfl rfl rfl) (Zt (Sj rfl) Yl)) ⟨_,_,_,_,_,_,_,_,_,_,_,_,_,_,_,_,_,_,rfl,rfl⟩ h7 [3,2,1,0,1,1,1,1,1,1,1,1,1,1,1,1])
 refine Sd (Sc (Sc (Sa (rRL 3 0 h2 ?_))))
 refine Zf 1 ?_
 refine cE H [1,1,1,1,1,1,1,1] h2 rfl Q17.spec Zm ?_
 rintro r2 w4 _ _ H ⟨A6,c_6,A7,c_7,A8,c_8,A9,c_9,rfl,rfl⟩ h8
 replace h8:=nf h8
 refine rFi [0,1,4,7] ?_
 refine Sc (Za [0,1,4,7,24] ?_)
 refine jIf H (fun c2 H=>?_) fun c2 H=>?_
 ·refine Sc (Sa (Zf 2 ?_))
  refine rS (Zk 12 h8) fun _ w5 h9=>?_
  refine rFi [4,5] ?_
  have h10:=h9.addNil 30 (.int .u32)
  have h11:=h10.addNil 9 .str
  have h12:=h11.addNil 59 (.pair .str (.pair .bool .str))
  have h13:=h12.addNil 57 (.pair .str .str)
  cases H
  exact Sb (jR2 (Zt (Si Yk 4 h13 rfl rfl rfl rfl) (Zt (Sj rfl) Yl)) ⟨_,_,_,_,_,_,_,_,_,_,_,_,_,_,_,_,_,_,rfl,rfl⟩ h13 [3,2,1,0,9,1,1,1,1,1,1,1,1,1,1,1])
 refine Sd (Sc (Sa (rRL 3 8 h8 ?_)))
 refine Zf 1 ?_
 refine cE H [0,0,0,0,0,0,0,0] h8 rfl Q18.spec Zm ?_
 rintro r3 w6 _ _ H ⟨A10,c_10,rfl,rfl⟩ h14
 replace h14:=nf h14
 refine rFi [0,1,4,8,9] ?_
 refine Sc (Sa (rRL 3 9 h14 ?_))
 refine Zf 1 ?_
 refine cE H [1,1,1,1,1,1,1,1] h14 rfl Q19.spec Zm ?_
 rintro r4 w7 _ _ H ⟨A11,c_11,A12,c_12,A13,c_13,A14,c_14,rfl,rfl⟩ h15
 replace h15:=nf h15
 refine rFi [0,4,8,9] ?_
 refine Sc (Sc (Za [0,4,8,9,43] ?_))
 refine jIf H (fun c3 H=>?_) fun c3 H=>?_
 ·refine Sc (Sa (Zf 2 ?_))
  refine rS (Zk 13 h15) fun _ w8 h16=>?_
  refine rFi [4,5] ?_
  have h17:=h16.addNil 30 (.int .u32)
  have h18:=h17.addNil 9 .str
  have h19:=h18.addNil 59 (.pair .str (.pair .bool .str))
  have h20:=h19.addNil 57 (.pair .str .str)
  cases H
  exact Sb (jR2 (Zt (Si Yk 4 h20 rfl rfl rfl rfl) (Zt (Sj rfl) Yl)) ⟨_,_,_,_,_,_,_,_,_,_,_,_,_,_,_,_,_,_,rfl,rfl⟩ h20 [3,2,1,0,10,1,1,1,1,1,1,1,1,2,2,2])
 refine Sd (Sc (Sa (rRL 3 9 h15 ?_)))
 refine Zf 1 ?_
 refine cE H [] h15 rfl Q36.spec (Xm (gO 8) Zm) ?_
 rintro r5 w9 _ _ H ⟨A15,c_15,A16,c_16,A17,c_17,A18,c_18,rfl,rfl⟩ h21
 replace h21:=nf h21
 refine Zf 2 ?_
 refine rS (Zk 17 h21) fun _ w10 h22=>?_
 refine rFi [4,5] ?_
 cases H
 exact Sb (jR2 (Zt (Si Yk 0 h22 rfl rfl rfl rfl) (Zt (Sj rfl) Yl)) ⟨_,_,_,_,_,_,_,_,_,_,_,_,_,_,_,_,_,_,rfl,rfl⟩ h22 [1,1,1,1,10,1,1,1,1,1,1,1,1,2,2,2])

def Q14.f (a0:TD) (a1:TW):Option (Int):=(Q65.f a0.1 a1).bind fun r1=>(some r1)
theorem Q14.spec {a0 a1 r} (H:Q14.f a0 a1=some r) :
  Spec prog 86 [.agg #[.string ⟨⟨a0.1⟩⟩,.bool a0.2.1,.string ⟨⟨a0.2.2⟩⟩],.string ⟨⟨a1⟩⟩] [] [] (fun v l=>v=.int .i64 r/\l=[]):=by
 refine Zg Tryz.func86 fun w0 F0 h0=>?_
 unfold Q14.f at H
 refine Sc (Sa (rB (Z8 h0) fun b1 w1 h1=>?_))
 refine rFi [1,2] ?_
 refine Sc (Sa (rRL 1 0 h1 ?_))
 refine Zf 1 ?_
 refine cS H [] h1 rfl Q65.spec Zm fun r1 w2 H h2=>?_
 refine rFi [4] ?_
 cases H
 exact Sb (jR0 h2 [])

def Q98.l0:Nat->Tw->TW->(Int)->(Int)->Option TY
 | 0,_,_,_,_=>none
 | k+1,a0,a1,x1,x2=>if (decide (x1<x2))=true then (if 0<=(w64 ((Int.fdiv (uH.wrap ((w64 (x1+x2)))) (2 ^ 1))))/\(w64 ((Int.fdiv (uH.wrap ((w64 (x1+x2)))) (2 ^ 1))))<(a0.length:Int) then ((Q14.f (gt a0 (w64 ((Int.fdiv (uH.wrap ((w64 (x1+x2)))) (2 ^ 1))))) a1).bind fun r1=>(if (decide (r1<0))=true then (Q98.l0 k a0 a1 (w64 ((w64 ((Int.fdiv (uH.wrap ((w64 (x1+x2)))) (2 ^ 1))))+1)) x2) else (Q98.l0 k a0 a1 x1 (w64 ((Int.fdiv (uH.wrap ((w64 (x1+x2)))) (2 ^ 1))))))) else none) else (if (decide (x1<(a0.length:Int)))=true then (if 0<=x1/\x1<(a0.length:Int) then ((Q14.f (gt a0 x1) a1).bind fun r2=>(some (x1,(decide (r2=0))))) else none) else (some (x1,false)))
def Q98.f (k:Nat) (a0:Tw) (a1:TW):Option TY:=Q98.l0 k a0 a1 0 (a0.length:Int)
theorem Q98.spec {k a0 a1 A1 c_1 r} (H:Q98.f k a0 a1=some r) :
  Spec prog 85 [.slice A1 a0.length c_1,.string ⟨⟨a1⟩⟩,.func (.func 86) #[] #[]] [] [R59 a0 A1 c_1] (fun v l=>v=.tuple #[.int .i64 r.1,.bool r.2]/\l=[]):=by
 refine Zg Tryz.func85 fun w0 F0 h0=>?_
 unfold Q98.f at H
 refine Sc (Za [0,1,2] ?_)
 refine Sc (Za [0,1,2,8] ?_)
 refine Sc (Za [0,1,2,8,9,10] ?_)
 refine Sc (T4 ?_)
 have h6:=(sOR h0 [] [0])
 refine T8 (fun kk env w=>∃ x1 x2,Q98.l0 kk a0 a1 x1 x2=some r/\env=[(0,.slice A1 a0.length c_1),(1,.string ⟨⟨a1⟩⟩),(2,.func (.func 86) #[] #[]),(8,.int .i64 (a0.length:Int)),(9,.int .i64 x1),(10,.int .i64 x2)]/\St w0 F0 [] [R59 a0 A1 c_1] w) (k:=k) ⟨_,_,H,rfl,h6⟩ ?_
 rintro k1 env w1 ⟨x1,x2,H,rfl,h1⟩
 rcases k1 with _ | k1
 ·exact z0 H
 rw [Q98.l0] at H
 refine Sc (Sc (Za [0,1,2,8,9,10,17] ?_))
 refine jIf H (fun c1 H=>?_) fun c1 H=>?_
 ·refine Sd (T4 (Sc (Za [0,1,2,8,9,10,11] ?_)))
  refine Sc (Sa (Zf 3 ?_))
  obtain ⟨⟨p1,p2⟩,H⟩:=Zi H
  have e1:=Zv h1.wh (Zc 0) p1 p2
  refine Zj (Zd e1 p1 p2) ?_
  refine Zj (Ze 0 h1.wht (Zc 0) p1 p2) ?_
  refine Zf 1 ?_
  refine cS H [] h1 rfl Q14.spec Zm fun r1 w2 H h2=>?_
  refine rFi [0,1,2,8,9,10,11,31] ?_
  refine jIf H (fun c2 H=>?_) fun c2 H=>?_
  ·refine Za [0,1,2,8,9,10] ?_
   have h3:=(sOR h2 [] [0])
   exact ⟨k1,by omega,_,_,H,rfl,h3⟩
  refine Za [0,1,2,8,9,10] ?_
  have h4:=(sOR h2 [] [0])
  exact ⟨k1,by omega,_,_,H,rfl,h4⟩
 refine T7 (Sc (Sa (Zf 5 ?_)))
 refine Z7 39 H (fun c3 H=>?_) fun c3 H=>?_
 ·refine Zf 3 ?_
  obtain ⟨⟨p3,p4⟩,H⟩:=Zi H
  have e2:=Zv h1.wh (Zc 0) p3 p4
  refine Zj (Zd e2 p3 p4) ?_
  refine Zj (Ze 0 h1.wht (Zc 0) p3 p4) ?_
  refine Zf 1 ?_
  refine cS H [] h1 rfl Q14.spec Zm fun r2 w3 H h5=>?_
  refine rFi [6,7] ?_
  cases H
  exact Sb (jR0 h5 [])
 refine rFi [6,7] ?_
 cases H
 exact Sb (jR0 h1 [])

def Q12.f (k:Nat) (a0:Tw) (a1:TW):Option (TD×Bool):=(Q98.f k a0 a1).bind fun r1=>(if (!r1.2)=true then (some (([],false,[]),false)) else (if 0<=r1.1/\r1.1<(a0.length:Int) then (some ((gt a0 r1.1),true)) else none))
theorem Q12.spec {k a0 a1 A1 c_1 r} (H:Q12.f k a0 a1=some r) :
  Spec prog 46 [.slice A1 a0.length c_1,.string ⟨⟨a1⟩⟩] [] [R59 a0 A1 c_1] (fun v l=>v=.tuple #[.agg #[.string ⟨⟨r.1.1⟩⟩,.bool r.1.2.1,.string ⟨⟨r.1.2.2⟩⟩],.bool r.2]/\l=[]):=by
 refine Zg Tryz.func46 fun w0 F0 h0=>?_
 unfold Q12.f at H
 refine Sc (Sa (rB (Yi h0) fun b1 w1 h1=>?_))
 refine rFi [0,1,4] ?_
 refine Sc (Sa (Zf 2 ?_))
 refine cS H [] h1 rfl Q98.spec (gS [1]) fun r1 w2 H h2=>?_
 refine rFi [0,4,6,7] ?_
 refine Sc (Sc (Za [0,4,6,15] ?_))
 refine jIf H (fun c1 H=>?_) fun c1 H=>?_
 ·refine Sc (Sa (Zf 1 ?_))
  refine rS (Zk 0 h2) fun _ w3 h3=>?_
  refine rFi [4,5] ?_
  cases H
  exact Sb (jR2 (Zt (Si Yk 0 h3 rfl rfl rfl rfl) (Zt (Sj rfl) Yl)) ⟨rfl,rfl⟩ h3 [])
 refine Sd (Sc (Sa (Zf 2 ?_)))
 obtain ⟨⟨p1,p2⟩,H⟩:=Zi H
 have e1:=Zv h2.wh (Zc 1) p1 p2
 refine Zj (Zd e1 p1 p2) ?_
 refine Zj (Ze 0 h2.wht (Zc 1) p1 p2) ?_
 refine rS (Zk 0 h2) fun _ w4 h4=>?_
 refine rFi [4,5] ?_
 cases H
 exact Sb (jR2 (Zt (Si Yk 0 h4 rfl rfl rfl rfl) (Zt (Sj rfl) Yl)) ⟨rfl,rfl⟩ h4 [])

def Q85.f (k:Nat) (a0:Int) (a1:Tq) (a2:Tp) (a3:TW):Option (Bool×Tp):=(Q12.f k a1.2.2.2.1 a3).bind fun r1=>(some ((!r1.2),[a1]))
theorem Q85.spec {k a0 a1 a2 a3 A1 c_1 A2 c_2 A3 c_3 A4 c_4 cs1 b1 b2 A5 c_5 r} (H:Q85.f k a0 a1 a2 a3=some r) :
  SpecA prog 45 [.int .u32 a0,.agg #[.int .i64 a1.1,.slice A1 a1.2.1.length c_1,.slice A2 a1.2.2.1.length c_2,.slice A3 a1.2.2.2.1.length c_3,.slice A4 a1.2.2.2.2.length c_4],.pointer (some ⟨b1,0,none⟩),.pointer (some ⟨b2,0,none⟩)] [X35 b1 a2 A5 c_5,M50 a2 A5 c_5 cs1,X9 b2 a3] [R30 a1.2.1 A1 c_1,R9 a1.2.2.1 A2 c_2,R59 a1.2.2.2.1 A3 c_3,R57 a1.2.2.2.2 A4 c_4,E50 a2 cs1] (fun v l lr=>∃ A_0 c_0 cs_0,v=.bool r.1/\l=[X35 b1 r.2 A_0 c_0,M50 r.2 A_0 c_0 cs_0,X9 b2 a3]/\lr=[E50 r.2 cs_0]):=by
 refine Yj Tryz.func45 fun w0 F0 h0=>?_
 unfold Q85.f at H
 refine Sc (Sa (rB (Z8 h0) fun b3 w1 h1=>?_))
 refine rFi [2,3,5] ?_
 refine Sc (Sa (rLo 0 h1 ?_))
 refine Zp (Zl4 (.pair (.int .i64) (.pair (.slice 30 (.int .u32)) (.pair (.slice 9 .str) (.pair (.slice 59 (.pair .str (.pair .bool .str))) (.slice 57 (.pair .str .str)))))) [a1] h1 (W7 ⟨_,_,rfl,(Xf rfl _),⟨_,_,rfl,(.inl (Zc 0)),⟨_,_,rfl,(.inl (Zc 1)),⟨_,_,rfl,(.inl (Zc 2)),(.inl (Zc 3))⟩⟩⟩⟩ V3)) ?_
 rintro _ w2 ⟨b4,cs2,rfl,h2⟩
 replace h2:=nf h2
 refine rS (Zk 2 h2) fun _ w3 h3=>?_
 refine rFi [3,5] ?_
 refine Sc (Sa (rRL 1 2 h3 ?_))
 refine rLo 4 h3 ?_
 refine cS H [] h3 rfl Q12.spec (gS [8]) fun r1 w4 H h4=>?_
 refine Zf 3 ?_
 refine rB (Yi h4) fun b5 w5 h5=>?_
 refine rS (Zk 0 h5) fun _ w6 h6=>?_
 refine rFi [8] ?_
 have h7:=sO h6 [1,1,3]
 replace h7:=nf h7
 refine Sc (Za [6] ?_)
 cases H
 exact Sb (jRA ⟨_,_,_,rfl,rfl,rfl⟩ (sOR h7 [0,0,0] [0]))

def Q100.l0:Nat->TO->TW->(Int)->(Int)->Option TY
 | 0,_,_,_,_=>none
 | k+1,a0,a1,x1,x2=>if (decide (x1<x2))=true then (if 0<=(w64 ((Int.fdiv (uH.wrap ((w64 (x1+x2)))) (2 ^ 1))))/\(w64 ((Int.fdiv (uH.wrap ((w64 (x1+x2)))) (2 ^ 1))))<(a0.length:Int) then ((Q65.f (gt a0 (w64 ((Int.fdiv (uH.wrap ((w64 (x1+x2)))) (2 ^ 1))))) a1).bind fun r1=>(if (decide (r1<0))=true then (Q100.l0 k a0 a1 (w64 ((w64 ((Int.fdiv (uH.wrap ((w64 (x1+x2)))) (2 ^ 1))))+1)) x2) else (Q100.l0 k a0 a1 x1 (w64 ((Int.fdiv (uH.wrap ((w64 (x1+x2)))) (2 ^ 1))))))) else none) else (if (decide (x1<(a0.length:Int)))=true then (if 0<=x1/\x1<(a0.length:Int) then ((Q65.f (gt a0 x1) a1).bind fun r2=>(some (x1,(decide (r2=0))))) else none) else (some (x1,false)))
def Q100.f (k:Nat) (a0:TO) (a1:TW):Option TY:=Q100.l0 k a0 a1 0 (a0.length:Int)
theorem Q100.spec {k a0 a1 A1 c_1 r} (H:Q100.f k a0 a1=some r) :
  Spec prog 49 [.slice A1 a0.length c_1,.string ⟨⟨a1⟩⟩,.func (.func 50) #[] #[]] [] [R9 a0 A1 c_1] (fun v l=>v=.tuple #[.int .i64 r.1,.bool r.2]/\l=[]):=by
 refine Zg Tryz.func49 fun w0 F0 h0=>?_
 unfold Q100.f at H
 refine Sc (Za [0,1,2] ?_)
 refine Sc (Za [0,1,2,8] ?_)
 refine Sc (Za [0,1,2,8,9,10] ?_)
 refine Sc (T4 ?_)
 have h6:=(sOR h0 [] [0])
 refine T8 (fun kk env w=>∃ x1 x2,Q100.l0 kk a0 a1 x1 x2=some r/\env=[(0,.slice A1 a0.length c_1),(1,.string ⟨⟨a1⟩⟩),(2,.func (.func 50) #[] #[]),(8,.int .i64 (a0.length:Int)),(9,.int .i64 x1),(10,.int .i64 x2)]/\St w0 F0 [] [R9 a0 A1 c_1] w) (k:=k) ⟨_,_,H,rfl,h6⟩ ?_
 rintro k1 env w1 ⟨x1,x2,H,rfl,h1⟩
 rcases k1 with _ | k1
 ·exact z0 H
 rw [Q100.l0] at H
 refine Sc (Sc (Za [0,1,2,8,9,10,17] ?_))
 refine jIf H (fun c1 H=>?_) fun c1 H=>?_
 ·refine Sd (T4 (Sc (Za [0,1,2,8,9,10,11] ?_)))
  refine Sc (Sa (Zf 3 ?_))
  obtain ⟨⟨p1,p2⟩,H⟩:=Zi H
  have e1:=Zv h1.wh (Zc 0) p1 p2
  refine Zj (Zd e1 p1 p2) ?_
  refine Zj (Ze 0 h1.wht (Zc 0) p1 p2) ?_
  refine Zf 1 ?_
  refine cS H [] h1 rfl Q65.spec Zm fun r1 w2 H h2=>?_
  refine rFi [0,1,2,8,9,10,11,31] ?_
  refine jIf H (fun c2 H=>?_) fun c2 H=>?_
  ·refine Za [0,1,2,8,9,10] ?_
   have h3:=(sOR h2 [] [0])
   exact ⟨k1,by omega,_,_,H,rfl,h3⟩
  refine Za [0,1,2,8,9,10] ?_
  have h4:=(sOR h2 [] [0])
  exact ⟨k1,by omega,_,_,H,rfl,h4⟩
 refine T7 (Sc (Sa (Zf 5 ?_)))
 refine Z7 39 H (fun c3 H=>?_) fun c3 H=>?_
 ·refine Zf 3 ?_
  obtain ⟨⟨p3,p4⟩,H⟩:=Zi H
  have e2:=Zv h1.wh (Zc 0) p3 p4
  refine Zj (Zd e2 p3 p4) ?_
  refine Zj (Ze 0 h1.wht (Zc 0) p3 p4) ?_
  refine Zf 1 ?_
  refine cS H [] h1 rfl Q65.spec Zm fun r2 w3 H h5=>?_
  refine rFi [6,7] ?_
  cases H
  exact Sb (jR0 h5 [])
 refine rFi [6,7] ?_
 cases H
 exact Sb (jR0 h1 [])

def Q60.f (k:Nat) (a0:TO) (a1:TW):Option (Int):=(Q100.f k a0 a1).bind fun r1=>(if r1.2=true then (some (w64 (r1.1+1))) else (some r1.1))
theorem Q60.spec {k a0 a1 A1 c_1 r} (H:Q60.f k a0 a1=some r) :
  Spec prog 23 [.slice A1 a0.length c_1,.string ⟨⟨a1⟩⟩] [] [R9 a0 A1 c_1] (fun v l=>v=.int .i64 r/\l=[]):=by
 refine Zg Tryz.func23 fun w0 F0 h0=>?_
 unfold Q60.f at H
 refine Sc (Za [0,1] ?_)
 refine Sc (Sa (Zf 2 ?_))
 refine cS H [] h0 rfl Q100.spec (gS [0]) fun r1 w1 H h1=>?_
 refine rFi [5,6] ?_
 refine Sc (Sc (Za [5,13] ?_))
 refine jIf H (fun c1 H=>?_) fun c1 H=>?_
 ·refine Za [5] ?_
  refine Sc (Za [4] ?_)
  cases H
  exact Sb (jR0 h1 [])
 refine Sd (Sc (Za [4] ?_))
 cases H
 exact Sb (jR0 h1 [])

def Q90.l0:Nat->TW->TW->Ts->TG->TE->TL->Tz->TQ->T0->(Int)->Tp->(Int)->(Int)->Option Td
 | 0,_,_,_,_,_,_,_,_,_,_,_,_,_=>none
 | k+1,a2,a5,x1,x2,x3,x4,x5,x6,x7,x8,x9,x10,x11=>(Q93.f k (x1,(x2,x5,x6,x7,x3),x4,x8) x11).bind fun r1=>(if (!decide (r1.2.1=0))=true then (some (r1.2.1,r1.2.2,x9)) else (if (decide (0<=x10))=true then (if (!decide (r1.1.1=(w64 (x10 - 1))))=true then (some (12,r1.2.2,x9)) else ((Q85.f k x11 r1.1 x9 a5).bind fun r2=>(if (!r2.1)=true then (some (0,r1.2.2,r2.2)) else (if (decide (r1.1.1=0))=true then (some (0,r1.2.2,r2.2)) else ((Q60.f k r1.1.2.2.1 a2).bind fun r3=>(if 0<=r3/\r3<(r1.1.2.1.length:Int) then (Q90.l0 k a2 a5 r1.2.2.1 r1.2.2.2.1.1 r1.2.2.2.1.2.2.2.2 r1.2.2.2.2.1 r1.2.2.2.1.2.1 r1.2.2.2.1.2.2.1 r1.2.2.2.1.2.2.2.1 r1.2.2.2.2.2 r2.2 r1.1.1 (gt r1.1.2.1 r3)) else none)))))) else ((Q85.f k x11 r1.1 x9 a5).bind fun r4=>(if (!r4.1)=true then (some (0,r1.2.2,r4.2)) else (if (decide (r1.1.1=0))=true then (some (0,r1.2.2,r4.2)) else ((Q60.f k r1.1.2.2.1 a2).bind fun r5=>(if 0<=r5/\r5<(r1.1.2.1.length:Int) then (Q90.l0 k a2 a5 r1.2.2.1 r1.2.2.2.1.1 r1.2.2.2.1.2.2.2.2 r1.2.2.2.2.1 r1.2.2.2.1.2.1 r1.2.2.2.1.2.2.1 r1.2.2.2.1.2.2.2.1 r1.2.2.2.2.2 r4.2 r1.1.1 (gt r1.1.2.1 r5)) else none)))))))
def Q90.f (k:Nat) (a0:Th) (a1:Int) (a2:TW) (a4:Tp) (a5:TW):Option Td:=Q90.l0 k a2 a5 a0.1 a0.2.1.1 a0.2.1.2.2.2.2 a0.2.2.1 a0.2.1.2.1 a0.2.1.2.2.1 a0.2.1.2.2.2.1 a0.2.2.2 a4 (-1) a1
theorem Q90.spec {k a0 a1 a2 a4 a5 cs1 b1 b2 b3 b4 b5 b6 b7 b8 b9 A1 c_1 A2 c_2 A3 c_3 A4 c_4 A5 c_5 A6 c_6 r} (H:Q90.f k a0 a1 a2 a4 a5=some r) :
  SpecA prog 19 [.pointer (some ⟨b1,0,none⟩),.int .u32 a1,.string ⟨⟨a2⟩⟩,.func (.func 45) #[] #[.pointer (some ⟨b8,0,none⟩),.pointer (some ⟨b9,0,none⟩)]] (Wy a0 b1 b2 b3 b4 b5 b6 b7 A1 A2 A3 A4 A5 c_1 c_2 c_3 c_4 c_5 ++ [X35 b8 a4 A6 c_6,M50 a4 A6 c_6 cs1,X9 b9 a5]) [E50 a4 cs1] (fun v l lr=>∃ A_0 c_0 A_1 c_1 A_2 c_2 A_3 c_3 A_4 c_4 A_5 c_5 cs_5,v=.int .i64 r.1/\l=Wy r.2.1 b1 b2 b3 b4 b5 b6 b7 A_0 A_1 A_2 A_3 A_4 c_0 c_1 c_2 c_3 c_4 ++ [X35 b8 r.2.2 A_5 c_5,M50 r.2.2 A_5 c_5 cs_5,X9 b9 a5]/\lr=[E50 r.2.2 cs_5]):=by
 refine Yj Tryz.func19 fun w0 F0 h0=>?_
 replace h0:=nf h0
 unfold Q90.f at H
 refine Sc (Za [0,1,2,3] ?_)
 refine Sc (Za [0,1,2,3,9] ?_)
 refine Sc (Za [0,2,3,9,10] ?_)
 refine T4 ?_
 have h23:=(sOR h0 [0,1,0,2,3,4,4,5,6,0,0,0,0,0,0] [0])
 refine T8 (fun kk env w=>∃ x1 x2 x3 x4 A7 c_7 x5 A8 c_8 x6 x7 A9 c_9 A10 c_10 A11 c_11 x8 x9 A12 c_12 x10 x11 cs2,Q90.l0 kk a2 a5 x1 x2 x3 x4 x5 x6 x7 x8 x9 x10 x11=some r/\env=[(0,.pointer (some ⟨b1,0,none⟩)),(2,.string ⟨⟨a2⟩⟩),(3,.func (.func 45) #[] #[.pointer (some ⟨b8,0,none⟩),.pointer (some ⟨b9,0,none⟩)]),(9,.int .i64 x10),(10,.int .u32 x11)]/\St w0 F0 [X78 b1 x1.1 x1.2.1 x1.2.2.1 x1.2.2.2.1 x1.2.2.2.2.1 x1.2.2.2.2.2.1 x1.2.2.2.2.2.2.1 x1.2.2.2.2.2.2.2 (.pointer (some ⟨b3,0,none⟩)) (.pointer (some ⟨b2,0,none⟩)) (.pointer (some ⟨b6,0,none⟩)) x8,Xu b3 x2.1 x2.2.1 A7 c_7 x2.2.2.1 x2.2.2.2,X6 b2 (.pointer (some ⟨b3,0,none⟩)) x5 A8 c_8 (.map (some b4)) x7 A9 c_9 (.pointer (some ⟨b5,0,none⟩)),Xj .u32 (Value.int .i64) b4 x6,Y2 b5 x3.1 A10 c_10 x3.2,Us b6 (.pointer (some ⟨b7,0,none⟩)),Ws b7 x4.1 x4.2.1 x4.2.2 A11 c_11,X35 b8 x9 A12 c_12,X9 b9 a5,O5 x2.2.1 A7 c_7,X7 x5 A8 c_8,O3 x7 A9 c_9,Y3 x3.1 A10 c_10,Wr x4.2.2 A11 c_11,M50 x9 A12 c_12 cs2] [E50 x9 cs2] w) (k:=k) ⟨_,_,_,_,_,_,_,_,_,_,_,_,_,_,_,_,_,_,_,_,_,_,_,_,H,rfl,h23⟩ ?_
 rintro k1 env w1 ⟨x1,x2,x3,x4,A7,c_7,x5,A8,c_8,x6,x7,A9,c_9,A10,c_10,A11,c_11,x8,x9,A12,c_12,x10,x11,cs2,H,rfl,h1⟩
 rcases k1 with _ | k1
 ·exact z0 H
 rw [Q90.l0] at H
 refine T4 (Sc (Sa (Zf 2 ?_)))
 refine cE H [0,1,0,6,6,0,5,0,4,0,0,2] h1 rfl Q93.spec Zm ?_
 rintro r1 w2 _ _ H ⟨A13,c_13,A14,c_14,A15,c_15,A16,c_16,A17,c_17,A18,c_18,A19,c_19,A20,c_20,A21,c_21,rfl,rfl⟩ h2
 replace h2:=nf h2
 refine Zf 3 ?_
 refine rB (Yi h2) fun b10 w3 h3=>?_
 refine rS (Zk 0 h3) fun _ w4 h4=>?_
 refine rFi [0,2,3,9,10,11,12] ?_
 refine Sc (Sc (Za [0,2,3,9,10,11,12,21] ?_))
 refine jIf H (fun c1 H=>?_) fun c1 H=>?_
 ·refine Sc (Za [8] ?_)
  have h5:=sO h4 [5,5,5,5,5,5,5,5,5,5,5,5,5,5,5]
  replace h5:=nf h5
  cases H
  exact Sb (jRA ⟨_,_,_,_,_,_,_,_,_,_,_,_,_,rfl,rfl,rfl⟩ (sOR h5 [0,0,0,0,0,0,0,0,0,0,0,0,0,1,0] [0]))
 refine Sd (Sc (Sc (Sa (Zf 3 ?_))))
 refine Z7 25 H (fun c2 H=>?_) fun c2 H=>?_
 ·refine rRL 1 0 h4 ?_
  refine rFi [0,2,3,10,11,31] ?_
  refine jIf H (fun c3 H=>?_) fun c3 H=>?_
  ·refine Sc (Za [8] ?_)
   have h6:=sO h4 [5,5,5,5,5,5,5,5,5,5,5,5,5,5,5]
   replace h6:=nf h6
   cases H
   exact Sb (jRA ⟨_,_,_,_,_,_,_,_,_,_,_,_,_,rfl,rfl,rfl⟩ (sOR h6 [0,0,0,0,0,0,0,0,0,0,0,0,0,1,0] [0]))
  refine Sd (Sc (Sc (Sa (rRL 2 0 h4 ?_))))
  have h7:=h4.freeze (k:=1) rfl Ye
  have h8:=h7.freeze (k:=1) rfl Ye
  have h9:=h8.freeze (k:=1) rfl Ye
  have h10:=h9.freeze (k:=1) rfl Ye
  obtain ⟨r2,q2,H⟩:=Yf H
  refine Zp (Un [.int .u32 x11,.agg #[.int .i64 r1.1.1,.slice A13 r1.1.2.1.length c_13,.slice A14 r1.1.2.2.1.length c_14,.slice A15 r1.1.2.2.2.1.length c_15,.slice A16 r1.1.2.2.2.2.length c_16]] [.pointer (some ⟨b8,0,none⟩),.pointer (some ⟨b9,0,none⟩)] [13,14,13] (Q85.spec q2) h10 rfl (gS [3,2,1,0,4])) ?_
  rintro _ w5 ⟨_,_,⟨A22,c_22,cs3,rfl,rfl,rfl⟩,h11⟩
  replace h11:=nf h11
  refine Zf 2 ?_
  refine Z7 37 H (fun c4 H=>?_) fun c4 H=>?_
  ·refine rFi [0,2,3,11,41] ?_
   refine Zn ?_
   refine Sc (Za [8] ?_)
   cases H
   exact Sb (jRA ⟨_,_,_,_,_,_,_,_,_,_,_,_,_,rfl,rfl,rfl⟩ (sOR h11 [4,4,4,4,4,4,4,4,4,4,4,4,0,0,0] [0]))
  refine rRL 1 3 h11 ?_
  refine rFi [0,2,3,11,41] ?_
  refine jIf H (fun c5 H=>?_) fun c5 H=>?_
  ·refine Sc (Za [8] ?_)
   cases H
   exact Sb (jRA ⟨_,_,_,_,_,_,_,_,_,_,_,_,_,rfl,rfl,rfl⟩ (sOR h11 [4,4,4,4,4,4,4,4,4,4,4,4,0,0,0] [0]))
  refine Sd (Sc (Sa (rRL 1 3 h11 ?_)))
  refine rFi [0,2,3,9,11] ?_
  refine jH h11 fun h12=>?_
  refine Zq [0,2,4] ?_
  refine Zb 1 rfl (Zh 3 wI) ?_
  refine Zb 3 rfl (Zh 3 wI) ?_
  refine cSJ 5 rfl H [] h12 rfl Q60.spec (gS [19]) 0 fun r3 w6 H h13=>?_
  obtain ⟨⟨p1,p2⟩,H⟩:=Zi H
  have e1:=Zv h13.wh (Zc 20) p1 p2
  refine Zb 6 rfl (Zd e1 p1 p2) ?_
  refine Zb 7 rfl (Ze 0 wI (Zc 20) p1 p2) ?_
  refine hRF [8] [0,2,3,9,10] ?_
  have h14:=(sOR h13 [4,5,4,6,7,8,8,0,1,2,2,2,2,2,0] [0])
  exact ⟨k1,by omega,_,_,_,_,_,_,_,_,_,_,_,_,_,_,_,_,_,_,_,_,_,_,_,_,H,rfl,h14⟩
 refine rFi [0,2,3,10,11,31] ?_
 refine Z0 ?_
 refine Sd (Sc (Sc (Sa (rRL 2 0 h4 ?_))))
 have h15:=h4.freeze (k:=1) rfl Ye
 have h16:=h15.freeze (k:=1) rfl Ye
 have h17:=h16.freeze (k:=1) rfl Ye
 have h18:=h17.freeze (k:=1) rfl Ye
 obtain ⟨r4,q4,H⟩:=Yf H
 refine Zp (Un [.int .u32 x11,.agg #[.int .i64 r1.1.1,.slice A13 r1.1.2.1.length c_13,.slice A14 r1.1.2.2.1.length c_14,.slice A15 r1.1.2.2.2.1.length c_15,.slice A16 r1.1.2.2.2.2.length c_16]] [.pointer (some ⟨b8,0,none⟩),.pointer (some ⟨b9,0,none⟩)] [13,14,13] (Q85.spec q4) h18 rfl (gS [3,2,1,0,4])) ?_
 rintro _ w7 ⟨_,_,⟨A23,c_23,cs4,rfl,rfl,rfl⟩,h19⟩
 replace h19:=nf h19
 refine Zf 2 ?_
 refine Z7 37 H (fun c6 H=>?_) fun c6 H=>?_
 ·refine rFi [0,2,3,11,41] ?_
  refine Zn ?_
  refine Sc (Za [8] ?_)
  cases H
  exact Sb (jRA ⟨_,_,_,_,_,_,_,_,_,_,_,_,_,rfl,rfl,rfl⟩ (sOR h19 [4,4,4,4,4,4,4,4,4,4,4,4,0,0,0] [0]))
 refine rRL 1 3 h19 ?_
 refine rFi [0,2,3,11,41] ?_
 refine jIf H (fun c7 H=>?_) fun c7 H=>?_
 ·refine Sc (Za [8] ?_)
  cases H
  exact Sb (jRA ⟨_,_,_,_,_,_,_,_,_,_,_,_,_,rfl,rfl,rfl⟩ (sOR h19 [4,4,4,4,4,4,4,4,4,4,4,4,0,0,0] [0]))
 refine Sd (Sc (Sa (rRL 1 3 h19 ?_)))
 refine rFi [0,2,3,9,11] ?_
 refine jH h19 fun h20=>?_
 refine Zq [0,2,4] ?_
 refine Zb 1 rfl (Zh 3 wI) ?_
 refine Zb 3 rfl (Zh 3 wI) ?_
 refine cSJ 5 rfl H [] h20 rfl Q60.spec (gS [19]) 0 fun r5 w8 H h21=>?_
 obtain ⟨⟨p3,p4⟩,H⟩:=Zi H
 have e2:=Zv h21.wh (Zc 20) p3 p4
 refine Zb 6 rfl (Zd e2 p3 p4) ?_
 refine Zb 7 rfl (Ze 0 wI (Zc 20) p3 p4) ?_
 refine hRF [8] [0,2,3,9,10] ?_
 have h22:=(sOR h21 [4,5,4,6,7,8,8,0,1,2,2,2,2,2,0] [0])
 exact ⟨k1,by omega,_,_,_,_,_,_,_,_,_,_,_,_,_,_,_,_,_,_,_,_,_,_,_,_,H,rfl,h22⟩

def Q63.f (a0:TH) (a1:TW):Option (Int):=(Q65.f a0.1 a1).bind fun r1=>(some r1)
theorem Q63.spec {a0 a1 r} (H:Q63.f a0 a1=some r) :
  Spec prog 123 [.agg #[.string ⟨⟨a0.1⟩⟩,.string ⟨⟨a0.2⟩⟩],.string ⟨⟨a1⟩⟩] [] [] (fun v l=>v=.int .i64 r/\l=[]):=by
 refine Zg Tryz.func123 fun w0 F0 h0=>?_
 unfold Q63.f at H
 refine Sc (Sa (rB (Z8 h0) fun b1 w1 h1=>?_))
 refine rFi [1,2] ?_
 refine Sc (Sa (rRL 1 0 h1 ?_))
 refine Zf 1 ?_
 refine cS H [] h1 rfl Q65.spec Zm fun r1 w2 H h2=>?_
 refine rFi [4] ?_
 cases H
 exact Sb (jR0 h2 [])

def Q99.l0:Nat->TC->TW->(Int)->(Int)->Option TY
 | 0,_,_,_,_=>none
 | k+1,a0,a1,x1,x2=>if (decide (x1<x2))=true then (if 0<=(w64 ((Int.fdiv (uH.wrap ((w64 (x1+x2)))) (2 ^ 1))))/\(w64 ((Int.fdiv (uH.wrap ((w64 (x1+x2)))) (2 ^ 1))))<(a0.length:Int) then ((Q63.f (gt a0 (w64 ((Int.fdiv (uH.wrap ((w64 (x1+x2)))) (2 ^ 1))))) a1).bind fun r1=>(if (decide (r1<0))=true then (Q99.l0 k a0 a1 (w64 ((w64 ((Int.fdiv (uH.wrap ((w64 (x1+x2)))) (2 ^ 1))))+1)) x2) else (Q99.l0 k a0 a1 x1 (w64 ((Int.fdiv (uH.wrap ((w64 (x1+x2)))) (2 ^ 1))))))) else none) else (if (decide (x1<(a0.length:Int)))=true then (if 0<=x1/\x1<(a0.length:Int) then ((Q63.f (gt a0 x1) a1).bind fun r2=>(some (x1,(decide (r2=0))))) else none) else (some (x1,false)))
def Q99.f (k:Nat) (a0:TC) (a1:TW):Option TY:=Q99.l0 k a0 a1 0 (a0.length:Int)
theorem Q99.spec {k a0 a1 A1 c_1 r} (H:Q99.f k a0 a1=some r) :
  Spec prog 122 [.slice A1 a0.length c_1,.string ⟨⟨a1⟩⟩,.func (.func 123) #[] #[]] [] [R57 a0 A1 c_1] (fun v l=>v=.tuple #[.int .i64 r.1,.bool r.2]/\l=[]):=by
 refine Zg Tryz.func122 fun w0 F0 h0=>?_
 unfold Q99.f at H
 refine Sc (Za [0,1,2] ?_)
 refine Sc (Za [0,1,2,8] ?_)
 refine Sc (Za [0,1,2,8,9,10] ?_)
 refine Sc (T4 ?_)
 have h6:=(sOR h0 [] [0])
 refine T8 (fun kk env w=>∃ x1 x2,Q99.l0 kk a0 a1 x1 x2=some r/\env=[(0,.slice A1 a0.length c_1),(1,.string ⟨⟨a1⟩⟩),(2,.func (.func 123) #[] #[]),(8,.int .i64 (a0.length:Int)),(9,.int .i64 x1),(10,.int .i64 x2)]/\St w0 F0 [] [R57 a0 A1 c_1] w) (k:=k) ⟨_,_,H,rfl,h6⟩ ?_
 rintro k1 env w1 ⟨x1,x2,H,rfl,h1⟩
 rcases k1 with _ | k1
 ·exact z0 H
 rw [Q99.l0] at H
 refine Sc (Sc (Za [0,1,2,8,9,10,17] ?_))
 refine jIf H (fun c1 H=>?_) fun c1 H=>?_
 ·refine Sd (T4 (Sc (Za [0,1,2,8,9,10,11] ?_)))
  refine Sc (Sa (Zf 3 ?_))
  obtain ⟨⟨p1,p2⟩,H⟩:=Zi H
  have e1:=Zv h1.wh (Zc 0) p1 p2
  refine Zj (Zd e1 p1 p2) ?_
  refine Zj (Ze 0 h1.wht (Zc 0) p1 p2) ?_
  refine Zf 1 ?_
  refine cS H [] h1 rfl Q63.spec Zm fun r1 w2 H h2=>?_
  refine rFi [0,1,2,8,9,10,11,31] ?_
  refine jIf H (fun c2 H=>?_) fun c2 H=>?_
  ·refine Za [0,1,2,8,9,10] ?_
   have h3:=(sOR h2 [] [0])
   exact ⟨k1,by omega,_,_,H,rfl,h3⟩
  refine Za [0,1,2,8,9,10] ?_
  have h4:=(sOR h2 [] [0])
  exact ⟨k1,by omega,_,_,H,rfl,h4⟩
 refine T7 (Sc (Sa (Zf 5 ?_)))
 refine Z7 39 H (fun c3 H=>?_) fun c3 H=>?_
 ·refine Zf 3 ?_
  obtain ⟨⟨p3,p4⟩,H⟩:=Zi H
  have e2:=Zv h1.wh (Zc 0) p3 p4
  refine Zj (Zd e2 p3 p4) ?_
  refine Zj (Ze 0 h1.wht (Zc 0) p3 p4) ?_
  refine Zf 1 ?_
  refine cS H [] h1 rfl Q63.spec Zm fun r2 w3 H h5=>?_
  refine rFi [6,7] ?_
  cases H
  exact Sb (jR0 h5 [])
 refine rFi [6,7] ?_
 cases H
 exact Sb (jR0 h1 [])

def Q61.f (k:Nat) (a0:TC) (a1:TW):Option TP:=(Q99.f k a0 a1).bind fun r1=>(if (!r1.2)=true then (some ([],false)) else (if 0<=r1.1/\r1.1<(a0.length:Int) then (some ((gt a0 r1.1).2,true)) else none))
theorem Q61.spec {k a0 a1 A1 c_1 r} (H:Q61.f k a0 a1=some r) :
  Spec prog 87 [.slice A1 a0.length c_1,.string ⟨⟨a1⟩⟩] [] [R57 a0 A1 c_1] (fun v l=>v=.tuple #[.string ⟨⟨r.1⟩⟩,.bool r.2]/\l=[]):=by
 refine Zg Tryz.func87 fun w0 F0 h0=>?_
 unfold Q61.f at H
 refine Sc (Za [0,1] ?_)
 refine Sc (Sa (Zf 2 ?_))
 refine cS H [] h0 rfl Q99.spec (gS [0]) fun r1 w1 H h1=>?_
 refine rFi [0,6,7] ?_
 refine Sc (Sc (Za [0,6,15] ?_))
 refine jIf H (fun c1 H=>?_) fun c1 H=>?_
 ·refine Sc (Za [4,5] ?_)
  cases H
  exact Sb (jR0 h1 [])
 refine Sd (Sc (Sa (Zf 2 ?_)))
 obtain ⟨⟨p1,p2⟩,H⟩:=Zi H
 have e1:=Zv h1.wh (Zc 0) p1 p2
 refine Zj (Zd e1 p1 p2) ?_
 refine Zf 1 ?_
 refine Zj (Ze 1 h1.wht (Zc 0) p1 p2) ?_
 refine rFi [4,5] ?_
 cases H
 exact Sb (jR0 h1 [])

def Q83.l0:Nat->Tp->TW->(Int)->Option TP
 | 0,_,_,_=>none
 | k+1,a0,a1,x1=>if (decide (x1<(a0.length:Int)))=true then (if 0<=x1/\x1<(a0.length:Int) then (if (decide (((gt a0 x1).1)=0))=true then ((Q61.f k ((gt a0 x1).2.2.2.2) a1).bind fun r1=>(some r1)) else ((Q12.f k ((gt a0 x1).2.2.2.1) a1).bind fun r2=>(if r2.2=true then (some (r2.1.2.2,(!r2.1.2.1))) else (Q83.l0 k a0 a1 (w64 (x1+1)))))) else none) else (some ([],false))
def Q83.f (k:Nat) (a0:Tp) (a1:TW):Option TP:=Q83.l0 k a0 a1 0
theorem Q83.spec {k a0 a1 A1 c_1 r} (H:Q83.f k a0 a1=some r) :
  Spec prog 47 [.slice A1 a0.length c_1,.string ⟨⟨a1⟩⟩] [] [R50 a0 A1 c_1] (fun v l=>v=.tuple #[.string ⟨⟨r.1⟩⟩,.bool r.2]/\l=[]):=by
 refine Zg Tryz.func47 fun w0 F0 h0=>?_
 unfold Q83.f at H
 refine Sc (Za [0,1] ?_)
 refine Sc (Sc (Za [1,10,11,12] ?_))
 refine T4 ?_
 have h17:=(sOR h0 [] [0])
 refine T8 (fun kk env w=>∃ x1,Q83.l0 kk a0 a1 x1=some r/\env=[(1,.string ⟨⟨a1⟩⟩),(10,.slice A1 a0.length c_1),(11,.int .i64 (a0.length:Int)),(12,.int .i64 x1)]/\St w0 F0 [] [R50 a0 A1 c_1] w) (k:=k) ⟨_,H,rfl,h17⟩ ?_
 rintro k1 env w1 ⟨x1,H,rfl,h1⟩
 rcases k1 with _ | k1
 ·exact z0 H
 rw [Q83.l0] at H
 refine Sc (Za [1,10,11,12,13] ?_)
 refine Sc (jIf H (fun c1 H=>?_) fun c1 H=>?_)
 ·refine Sd (Sc (T4 (Sc (Sa ?_))))
  obtain ⟨⟨p1,p2⟩,H⟩:=Zi H
  have e1:=Zv h1.wh (Zc 0) p1 p2
  refine Zj (Zd e1 p1 p2) ?_
  obtain ⟨cs1,h2⟩:=h1.elem 0 rfl p1 p2
  obtain ⟨cs2,cs3,rfl,h3⟩:=Yd 0 h2
  obtain ⟨cs4,cs5,rfl,h4⟩:=Yd 1 h3
  obtain ⟨cs6,cs7,rfl,h5⟩:=Yd 1 h4
  obtain ⟨cs8,cs9,rfl,h6⟩:=Yd 1 h5
  obtain rfl:=Wf (.int .i64) 6 h6
  obtain ⟨A2,c_2,rfl⟩:=Z3 4 h6
  obtain ⟨A3,c_3,rfl⟩:=Z3 2 h6
  obtain ⟨A4,c_4,rfl⟩:=Z3 0 h6
  obtain ⟨A5,c_5,rfl⟩:=Z3 1 h6
  refine Zj (Xd 0 h6.wht (Zc 9)) ?_
  refine rB (Yi h6) fun b1 w2 h7=>?_
  refine rS (Zk 0 h7) fun _ w3 h8=>?_
  refine rFi [1,7,10,11,12] ?_
  refine Sc (Sc (Sa (rRL 1 0 h8 ?_)))
  refine rFi [1,7,10,11,12,18] ?_
  refine jIf H (fun c2 H=>?_) fun c2 H=>?_
  ·refine Sc (Sa (rRL 1 0 h8 ?_))
   refine Zf 1 ?_
   refine cS H [] h8 rfl Q61.spec (gS [2]) fun r1 w4 H h9=>?_
   refine rFi [4,5] ?_
   cases H
   exact Sb (jR0 h9 [])
  refine Sd (Sc (Sa (rRL 1 0 h8 ?_)))
  refine Zf 1 ?_
  refine cS H [] h8 rfl Q12.spec (gS [1]) fun r2 w5 H h10=>?_
  refine Zf 3 ?_
  refine rB (Yi h10) fun b2 w6 h11=>?_
  refine rS (Zk 0 h11) fun _ w7 h12=>?_
  refine rFi [1,8,9,10,11,12] ?_
  refine Sc (Za [1,8,10,11,12,32] ?_)
  refine jIf H (fun c3 H=>?_) fun c3 H=>?_
  ·refine Sc (jH h12 fun h13=>?_)
   refine Zq [0,2] ?_
   refine Zb 1 rfl (Zh 0 wI) ?_
   refine Zq [5] ?_
   refine Zb 3 rfl (Zh 0 wI) ?_
   refine hRF [4,6] [4,5] ?_
   have h14:=sO h13 []
   replace h14:=nf h14
   cases H
   exact Sb (jR0 h14 [])
  refine Sd (Za [1,10,11,12] ?_)
  have h15:=sO h12 []
  replace h15:=nf h15
  have h16:=(sOR h15 [] [10])
  exact ⟨k1,by omega,_,H,rfl,h16⟩
 refine T7 (Sc (Za [4,5] ?_))
 cases H
 exact Sb (jR0 h1 [])

def Q84.f (k:Nat) (a0:Th) (a1:Int) (a2:TW):Option (List UInt8×Bool×Int×Th):=(Q90.f k a0 a1 a2 [] a2).bind fun r1=>(if (!decide (r1.1=0))=true then (some ([],false,r1.1,r1.2.1)) else ((Q83.f k r1.2.2 a2).bind fun r2=>(some (r2.1,r2.2,0,r1.2.1))))
theorem Q84.spec {k a0 a1 a2 b1 b2 b3 b4 b5 b6 b7 A1 c_1 A2 c_2 A3 c_3 A4 c_4 A5 c_5 r} (H:Q84.f k a0 a1 a2=some r) :
  Spec prog 18 [.pointer (some ⟨b1,0,none⟩),.int .u32 a1,.string ⟨⟨a2⟩⟩] (Wy a0 b1 b2 b3 b4 b5 b6 b7 A1 A2 A3 A4 A5 c_1 c_2 c_3 c_4 c_5) [] (fun v l=>∃ A_0 c_0 A_1 c_1 A_2 c_2 A_3 c_3 A_4 c_4,v=.tuple #[.string ⟨⟨r.1⟩⟩,.bool r.2.1,.int .i64 r.2.2.1]/\l=Wy r.2.2.2 b1 b2 b3 b4 b5 b6 b7 A_0 A_1 A_2 A_3 A_4 c_0 c_1 c_2 c_3 c_4):=by
 refine Zg Tryz.func18 fun w0 F0 h0=>?_
 replace h0:=nf h0
 unfold Q84.f at H
 refine Sc (Sa (rB (Z8 h0) fun b8 w1 h1=>?_))
 refine rFi [0,1,5] ?_
 refine Sc (Sa (rB (Yi h1) fun b9 w2 h2=>?_))
 refine rFi [0,1,5,9] ?_
 refine Sc (Sa (rRL 2 1 h2 ?_))
 refine Zf 1 ?_
 have h3:=h2.rawNil 50 (.pair (.int .i64) (.pair (.slice 30 (.int .u32)) (.pair (.slice 9 .str) (.pair (.slice 59 (.pair .str (.pair .bool .str))) (.slice 57 (.pair .str .str))))))
 obtain ⟨r1,q1,H⟩:=Yf H
 refine Zp (Z4 [3,3,3,3,3,3,3,3,3,3,3,3,1,0,0] (Q90.spec q1) h3 rfl (gS [0])) ?_
 rintro _ w3 ⟨_,_,⟨A6,c_6,A7,c_7,A8,c_8,A9,c_9,A10,c_10,A11,c_11,cs1,rfl,rfl,rfl⟩,h4⟩
 replace h4:=nf h4
 refine rFi [5,9,10] ?_
 refine Sc (Sc (Za [5,9,10,19] ?_))
 refine jIf H (fun c1 H=>?_) fun c1 H=>?_
 ·refine Sc (Za [6,7,8] ?_)
  have h5:=sO h4 [0,0,0,0,0,0,0,0,0,0,0,0]
  replace h5:=nf h5
  cases H
  exact Sb (jR ⟨_,_,_,_,_,_,_,_,_,_,rfl,rfl⟩ h5 [0,0,0,0,0,0,0,0,0,0,0,0])
 refine Sd (Sc (Sa (rLo 12 h4 ?_)))
 refine rLo 14 h4 ?_
 have h6:=Sk 13 0 h4
 refine cS H [] h6 rfl Q83.spec (gS [14]) fun r2 w4 H h7=>?_
 refine rFi [11,12] ?_
 have h8:=sO h7 [0,0,0,0,0,0,0,0,0,0,0,0]
 replace h8:=nf h8
 refine Sc (Za [6,7,8] ?_)
 cases H
 exact Sb (jR ⟨_,_,_,_,_,_,_,_,_,_,rfl,rfl⟩ h8 [0,0,0,0,0,0,0,0,0,0,0,0])

def Q66.f (a0:TF):Option (Bool):=if (!a0.2.2)=true then (some (Op.bytesLess a0.2.1 a0.1 || decide (a0.2.1=a0.1))) else (some false)
theorem Q66.spec {a0 r} (H:Q66.f a0=some r) :
  Spec prog 88 [.agg #[.string ⟨⟨a0.1⟩⟩,.string ⟨⟨a0.2.1⟩⟩,.bool a0.2.2]] [] [] (fun v l=>v=.bool r/\l=[]):=by
 refine Zg Tryz.func88 fun w0 F0 h0=>?_
 unfold Q66.f at H
 refine Sc (Sa (rB (Z8 h0) fun b1 w1 h1=>?_))
 refine rFi [1] ?_
 refine Sc (Sa (rRL 1 0 h1 ?_))
 refine Zf 2 ?_
 refine Z7 6 H (fun c1 H=>?_) fun c1 H=>?_
 ·refine rRL 1 0 h1 ?_
  refine rRL 1 0 h1 ?_
  refine rFi [2] ?_
  cases H
  exact Sb (jR0 h1 [])
 refine rFi [2] ?_
 cases H
 exact Sb (jR0 h1 [])

def Q68.f (a0:TF) (a1:TF):Option Tv:=if a0.2.2=true then (if (!a1.2.2)=true then ((Q66.f ((if (!Op.bytesLess a0.1 a1.1)=true then a0.1 else a1.1),a1.2.1,a1.2.2)).bind fun r1=>(if r1=true then (some (([],[],false),false)) else (some (((if (!Op.bytesLess a0.1 a1.1)=true then a0.1 else a1.1),a1.2.1,a1.2.2),true)))) else (if a1.2.2=true then (if (!a0.2.2)=true then ((Q66.f ((if (!Op.bytesLess a0.1 a1.1)=true then a0.1 else a1.1),a0.2.1,a1.2.2)).bind fun r1=>(if r1=true then (some (([],[],false),false)) else (some (((if (!Op.bytesLess a0.1 a1.1)=true then a0.1 else a1.1),a0.2.1,a1.2.2),true)))) else ((Q66.f ((if (!Op.bytesLess a0.1 a1.1)=true then a0.1 else a1.1),[],a1.2.2)).bind fun r1=>(if r1=true then (some (([],[],false),false)) else (some (((if (!Op.bytesLess a0.1 a1.1)=true then a0.1 else a1.1),[],a1.2.2),true))))) else (if (!a0.2.2)=true then ((Q66.f ((if (!Op.bytesLess a0.1 a1.1)=true then a0.1 else a1.1),(if (Op.bytesLess a0.2.1 a1.2.1 || decide (a0.2.1=a1.2.1))=true then a0.2.1 else a1.2.1),a1.2.2)).bind fun r1=>(if r1=true then (some (([],[],false),false)) else (some (((if (!Op.bytesLess a0.1 a1.1)=true then a0.1 else a1.1),(if (Op.bytesLess a0.2.1 a1.2.1 || decide (a0.2.1=a1.2.1))=true then a0.2.1 else a1.2.1),a1.2.2),true)))) else ((Q66.f ((if (!Op.bytesLess a0.1 a1.1)=true then a0.1 else a1.1),[],a1.2.2)).bind fun r1=>(if r1=true then (some (([],[],false),false)) else (some (((if (!Op.bytesLess a0.1 a1.1)=true then a0.1 else a1.1),[],a1.2.2),true))))))) else (if a1.2.2=true then (if (!a0.2.2)=true then ((Q66.f ((if (!Op.bytesLess a0.1 a1.1)=true then a0.1 else a1.1),a0.2.1,false)).bind fun r2=>(if r2=true then (some (([],[],false),false)) else (some (((if (!Op.bytesLess a0.1 a1.1)=true then a0.1 else a1.1),a0.2.1,false),true)))) else ((Q66.f ((if (!Op.bytesLess a0.1 a1.1)=true then a0.1 else a1.1),[],false)).bind fun r2=>(if r2=true then (some (([],[],false),false)) else (some (((if (!Op.bytesLess a0.1 a1.1)=true then a0.1 else a1.1),[],false),true))))) else (if (!a0.2.2)=true then ((Q66.f ((if (!Op.bytesLess a0.1 a1.1)=true then a0.1 else a1.1),(if (Op.bytesLess a0.2.1 a1.2.1 || decide (a0.2.1=a1.2.1))=true then a0.2.1 else a1.2.1),false)).bind fun r2=>(if r2=true then (some (([],[],false),false)) else (some (((if (!Op.bytesLess a0.1 a1.1)=true then a0.1 else a1.1),(if (Op.bytesLess a0.2.1 a1.2.1 || decide (a0.2.1=a1.2.1))=true then a0.2.1 else a1.2.1),false),true)))) else ((Q66.f ((if (!Op.bytesLess a0.1 a1.1)=true then a0.1 else a1.1),[],false)).bind fun r2=>(if r2=true then (some (([],[],false),false)) else (some (((if (!Op.bytesLess a0.1 a1.1)=true then a0.1 else a1.1),[],false),true))))))
theorem Q68.spec {a0 a1 r} (H:Q68.f a0 a1=some r) :
  Spec prog 48 [.agg #[.string ⟨⟨a0.1⟩⟩,.string ⟨⟨a0.2.1⟩⟩,.bool a0.2.2],.agg #[.string ⟨⟨a1.1⟩⟩,.string ⟨⟨a1.2.1⟩⟩,.bool a1.2.2]] [] [] (fun v l=>v=.tuple #[.agg #[.string ⟨⟨r.1.1⟩⟩,.string ⟨⟨r.1.2.1⟩⟩,.bool r.1.2.2],.bool r.2]/\l=[]):=by
 refine Zg Tryz.func48 fun w0 F0 h0=>?_
 unfold Q68.f at H
 refine Sc (Sa (rB (Z8 h0) fun b1 w1 h1=>?_))
 refine rB (Z8 h1) fun b2 w2 h2=>?_
 refine rB (Yi h2) fun b3 w3 h3=>?_
 refine rFi [2,3,4] ?_
 refine Sc (Sa (rRL 1 2 h3 ?_))
 refine rRL 1 1 h3 ?_
 refine rRL 2 2 h3 ?_
 refine Zf 1 ?_
 refine Z7 14 H (fun c1 H=>?_) fun c1 H=>?_
 ·refine rRL 1 1 h3 ?_
  refine Zf 2 ?_
  refine rB (Yi h3) fun b4 w4 h4=>?_
  refine rS (Zk 0 h4) fun _ w5 h5=>?_
  refine rFi [2,3,4,6] ?_
  refine Sc (T9 (fun env w=>∃(x1:TW),env=[(4,.pointer (some ⟨b3,0,none⟩)),(6,.pointer (some ⟨b4,0,none⟩))]/\St w0 F0 [X41 b3 [] [] false,X41 b4 (if (!Op.bytesLess a0.1 a1.1)=true then a0.1 else a1.1) x1 a1.2.2] [] w/\((Q66.f ((if (!Op.bytesLess a0.1 a1.1)=true then a0.1 else a1.1),x1,a1.2.2)).bind fun r1=>(if r1=true then (some (([],[],false),false)) else (some (((if (!Op.bytesLess a0.1 a1.1)=true then a0.1 else a1.1),x1,a1.2.2),true))))=some r) ?_ ?_)
  ·refine T4 (Sc (Sa (rRL 1 3 h5 ?_)))
   refine Zf 1 ?_
   refine X1 22 (congrArg Value.bool c1) ?_
   refine rRL 1 2 h5 ?_
   refine rFi [2,3,4,6,19] ?_
   refine jIf H (fun c3 H=>?_) fun c3 H=>?_
   ·refine Sa (rRL 1 2 h5 ?_)
    refine Zf 1 ?_
    refine rS (Zk 0 h5) fun _ w11 h10=>?_
    refine rFi [4,6] ?_
    have h11:=sO h10 [0,0]
    replace h11:=nf h11
    have h12:=(sOR h11 [1,0] [])
    exact ⟨a1.2.1,rfl,h12,H⟩
   refine Sc (Sa (rRL 1 2 h5 ?_))
   refine Zf 1 ?_
   refine Z7 33 H (fun c4 H=>?_) fun c4 H=>?_
   ·refine rRL 1 3 h5 ?_
    refine rFi [2,3,4,6,30] ?_
    refine jIf H (fun c5 H=>?_) fun c5 H=>?_
    ·refine Sa (rRL 1 3 h5 ?_)
     refine Zf 1 ?_
     refine rS (Zk 0 h5) fun _ w12 h13=>?_
     refine rFi [4,6] ?_
     have h14:=sO h13 [0,0]
     replace h14:=nf h14
     have h15:=(sOR h14 [1,0] [])
     exact ⟨a0.2.1,rfl,h15,H⟩
    refine Sc (Sa (rRL 1 3 h5 ?_))
    refine rFi [2,3,4,6,41] ?_
    refine T5 rfl (fun e=>by rw [c5] at e; cases e) (fun e=>?_)
    refine Wj [4,6] ?_
    refine Sd ?_
    have h16:=(sOR h5 [1,0] [])
    exact ⟨[],rfl,h16,H⟩
   refine rFi [2,3,4,6,30] ?_
   refine Z0 ?_
   refine Sc (Sa (rRL 1 3 h5 ?_))
   refine rFi [2,3,4,6,41] ?_
   refine jIf H (fun c6 H=>?_) fun c6 H=>?_
   ·refine Sa (rRL 1 3 h5 ?_)
    refine rRL 1 2 h5 ?_
    refine Zf 2 ?_
    refine rS (Zk 0 h5) fun _ w13 h17=>?_
    refine rFi [4,6] ?_
    have h18:=sO h17 [0,0]
    replace h18:=nf h18
    have h19:=(sOR h18 [1,0] [])
    exact ⟨(if (Op.bytesLess a0.2.1 a1.2.1 || decide (a0.2.1=a1.2.1))=true then a0.2.1 else a1.2.1),rfl,h19,H⟩
   refine Wj [4,6] ?_
   refine Sd ?_
   have h20:=(sOR h5 [1,0] [])
   exact ⟨[],rfl,h20,H⟩
  rintro env w7 ⟨x1,rfl,h6,H⟩
  refine Sc (Sc (Sa (rLo 1 h6 ?_)))
  refine cS H [] h6 rfl Q66.spec Zm fun r1 w8 H h7=>?_
  refine rFi [4,6,52] ?_
  refine jIf H (fun c2 H=>?_) fun c2 H=>?_
  ·refine Sc (Sa (Zf 1 ?_))
   refine rS (Zk 0 h7) fun _ w9 h8=>?_
   refine rFi [4,5] ?_
   cases H
   exact Sb (jR2 (Zt (Si Yk 0 h8 rfl rfl rfl rfl) (Zt (Sj rfl) Yl)) ⟨rfl,rfl⟩ h8 [])
  refine Sd (Sc (Sa (rLo 1 h7 ?_)))
  refine rS (Zk 0 h7) fun _ w10 h9=>?_
  refine rFi [4,5] ?_
  cases H
  exact Sb (jR2 (Zt (Si Yk 0 h9 rfl rfl rfl rfl) (Zt (Sj rfl) Yl)) ⟨rfl,rfl⟩ h9 [])
 refine Zf 4 ?_
 refine rB (Yi h3) fun b5 w14 h21=>?_
 refine rS (Zk 0 h21) fun _ w15 h22=>?_
 refine rFi [2,3,4,6] ?_
 refine Sc (T9 (fun env w=>∃(x2:TW),env=[(4,.pointer (some ⟨b3,0,none⟩)),(6,.pointer (some ⟨b5,0,none⟩))]/\St w0 F0 [X41 b3 [] [] false,X41 b5 (if (!Op.bytesLess a0.1 a1.1)=true then a0.1 else a1.1) x2 false] [] w/\((Q66.f ((if (!Op.bytesLess a0.1 a1.1)=true then a0.1 else a1.1),x2,false)).bind fun r2=>(if r2=true then (some (([],[],false),false)) else (some (((if (!Op.bytesLess a0.1 a1.1)=true then a0.1 else a1.1),x2,false),true))))=some r) ?_ ?_)
 ·refine T4 (Sc (Sa (rRL 1 3 h22 ?_)))
  refine Zf 1 ?_
  refine X1 22 (congrArg Value.bool c1) ?_
  refine rFi [2,3,4,6,19] ?_
  refine Z0 ?_
  refine Sc (Sa (rRL 1 2 h22 ?_))
  refine Zf 1 ?_
  refine Z7 33 H (fun c8 H=>?_) fun c8 H=>?_
  ·refine rRL 1 3 h22 ?_
   refine rFi [2,3,4,6,30] ?_
   refine jIf H (fun c9 H=>?_) fun c9 H=>?_
   ·refine Sa (rRL 1 3 h22 ?_)
    refine Zf 1 ?_
    refine rS (Zk 0 h22) fun _ w21 h27=>?_
    refine rFi [4,6] ?_
    have h28:=sO h27 [0,0]
    replace h28:=nf h28
    have h29:=(sOR h28 [1,0] [])
    exact ⟨a0.2.1,rfl,h29,H⟩
   refine Sc (Sa (rRL 1 3 h22 ?_))
   refine rFi [2,3,4,6,41] ?_
   refine T5 rfl (fun e=>by rw [c9] at e; cases e) (fun e=>?_)
   refine Wj [4,6] ?_
   refine Sd ?_
   have h30:=(sOR h22 [1,0] [])
   exact ⟨[],rfl,h30,H⟩
  refine rFi [2,3,4,6,30] ?_
  refine Z0 ?_
  refine Sc (Sa (rRL 1 3 h22 ?_))
  refine rFi [2,3,4,6,41] ?_
  refine jIf H (fun c10 H=>?_) fun c10 H=>?_
  ·refine Sa (rRL 1 3 h22 ?_)
   refine rRL 1 2 h22 ?_
   refine Zf 2 ?_
   refine rS (Zk 0 h22) fun _ w22 h31=>?_
   refine rFi [4,6] ?_
   have h32:=sO h31 [0,0]
   replace h32:=nf h32
   have h33:=(sOR h32 [1,0] [])
   exact ⟨(if (Op.bytesLess a0.2.1 a1.2.1 || decide (a0.2.1=a1.2.1))=true then a0.2.1 else a1.2.1),rfl,h33,H⟩
  refine Wj [4,6] ?_
  refine Sd ?_
  have h34:=(sOR h22 [1,0] [])
  exact ⟨[],rfl,h34,H⟩
 rintro env w17 ⟨x2,rfl,h23,H⟩
 refine Sc (Sc (Sa (rLo 1 h23 ?_)))
 refine cS H [] h23 rfl Q66.spec Zm fun r2 w18 H h24=>?_
 refine rFi [4,6,52] ?_
 refine jIf H (fun c7 H=>?_) fun c7 H=>?_
 ·refine Sc (Sa (Zf 1 ?_))
  refine rS (Zk 0 h24) fun _ w19 h25=>?_
  refine rFi [4,5] ?_
  cases H
  exact Sb (jR2 (Zt (Si Yk 0 h25 rfl rfl rfl rfl) (Zt (Sj rfl) Yl)) ⟨rfl,rfl⟩ h25 [])
 refine Sd (Sc (Sa (rLo 1 h24 ?_)))
 refine rS (Zk 0 h24) fun _ w20 h26=>?_
 refine rFi [4,5] ?_
 cases H
 exact Sb (jR2 (Zt (Si Yk 0 h26 rfl rfl rfl rfl) (Zt (Sj rfl) Yl)) ⟨rfl,rfl⟩ h26 [])

def Q59.f (a0:TO) (a1:Int) (a2:TF):Option Tv:=if (decide (a1<0))=true then (some (([],[],false),false)) else (if (decide ((a0.length:Int)<a1))=true then (some (([],[],false),false)) else (if (decide (0<a1))=true then (if 0<=(w64 (a1 - 1))/\(w64 (a1 - 1))<(a0.length:Int) then (if (!(decide (a1=(a0.length:Int))))=true then (if 0<=a1/\a1<(a0.length:Int) then ((Q68.f ((gt a0 (w64 (a1 - 1))),(gt a0 a1),(decide (a1=(a0.length:Int)))) a2).bind fun r1=>(some r1)) else none) else ((Q68.f ((gt a0 (w64 (a1 - 1))),[],(decide (a1=(a0.length:Int)))) a2).bind fun r2=>(some r2))) else none) else (if (!(decide (a1=(a0.length:Int))))=true then (if 0<=a1/\a1<(a0.length:Int) then ((Q68.f ([],(gt a0 a1),(decide (a1=(a0.length:Int)))) a2).bind fun r1=>(some r1)) else none) else ((Q68.f ([],[],(decide (a1=(a0.length:Int)))) a2).bind fun r2=>(some r2)))))
theorem Q59.spec {a0 a1 a2 A1 c_1 r} (H:Q59.f a0 a1 a2=some r) :
  Spec prog 22 [.slice A1 a0.length c_1,.int .i64 a1,.agg #[.string ⟨⟨a2.1⟩⟩,.string ⟨⟨a2.2.1⟩⟩,.bool a2.2.2]] [] [R9 a0 A1 c_1] (fun v l=>v=.tuple #[.agg #[.string ⟨⟨r.1.1⟩⟩,.string ⟨⟨r.1.2.1⟩⟩,.bool r.1.2.2],.bool r.2]/\l=[]):=by
 refine Zg Tryz.func22 fun w0 F0 h0=>?_
 unfold Q59.f at H
 refine Sc (Sa (rB (Z8 h0) fun b1 w1 h1=>?_))
 refine rB (Yi h1) fun b2 w2 h2=>?_
 refine rFi [0,1,5,6] ?_
 refine Sc (Sc (Sa (Zf 3 ?_)))
 refine Z7 11 H (fun c1 H=>?_) fun c1 H=>?_
 ·refine rFi [0,1,5,6,16] ?_
  refine Zn ?_
  refine Sc (Sa (Zf 1 ?_))
  refine rS (Zk 0 h2) fun _ w3 h3=>?_
  refine rFi [6,7] ?_
  cases H
  exact Sb (jR2 (Zt (Si Yk 0 h3 rfl rfl rfl rfl) (Zt (Sj rfl) Yl)) ⟨rfl,rfl⟩ h3 [])
 refine rFi [0,1,5,6,16] ?_
 refine jIf H (fun c2 H=>?_) fun c2 H=>?_
 ·refine Sc (Sa (Zf 1 ?_))
  refine rS (Zk 0 h2) fun _ w4 h4=>?_
  refine rFi [6,7] ?_
  cases H
  exact Sb (jR2 (Zt (Si Yk 0 h4 rfl rfl rfl rfl) (Zt (Sj rfl) Yl)) ⟨rfl,rfl⟩ h4 [])
 refine Sd (Sc (Sa (Zf 5 ?_)))
 refine rB (Yi h2) fun b3 w5 h5=>?_
 refine rS (Zk 0 h5) fun _ w6 h6=>?_
 refine rFi [0,1,5,6,8] ?_
 refine Sc (Sc (Za [0,1,5,6,8,24] ?_))
 refine T9 (fun env w=>∃(x1:TW),env=[(0,.slice A1 a0.length c_1),(1,.int .i64 a1),(5,.pointer (some ⟨b1,0,none⟩)),(6,.pointer (some ⟨b2,0,none⟩)),(8,.pointer (some ⟨b3,0,none⟩))]/\St w0 F0 [X41 b1 a2.1 a2.2.1 a2.2.2,X41 b2 [] [] false,X41 b3 x1 [] (decide (a1=(a0.length:Int)))] [R9 a0 A1 c_1] w/\(if (!(decide (a1=(a0.length:Int))))=true then (if 0<=a1/\a1<(a0.length:Int) then ((Q68.f (x1,(gt a0 a1),(decide (a1=(a0.length:Int)))) a2).bind fun r1=>(some r1)) else none) else ((Q68.f (x1,[],(decide (a1=(a0.length:Int)))) a2).bind fun r2=>(some r2)))=some r) ?_ ?_
 ·refine jIf H (fun c4 H=>?_) fun c4 H=>?_
  ·refine Sa (Zf 3 ?_)
   obtain ⟨⟨p3,p4⟩,H⟩:=Zi H
   have e2:=Zv h6.wh (Zc 3) p3 p4
   refine Zj (Zd e2 p3 p4) ?_
   refine Zj (Ze 0 h6.wht (Zc 3) p3 p4) ?_
   refine Zf 1 ?_
   refine rS (Zk 0 h6) fun _ w14 h15=>?_
   refine rFi [0,1,5,6,8] ?_
   have h16:=(sOR h15 [2,1,0] [0])
   exact ⟨(gt a0 (w64 (a1 - 1))),rfl,h16,H⟩
  refine Wj [0,1,5,6,8] ?_
  refine Sd ?_
  have h17:=(sOR h6 [2,1,0] [0])
  exact ⟨[],rfl,h17,H⟩
 rintro env w8 ⟨x1,rfl,h7,H⟩
 refine Sc (Sc (Sa (rRL 1 2 h7 ?_)))
 refine rFi [0,1,5,6,8,33] ?_
 refine jIf H (fun c3 H=>?_) fun c3 H=>?_
 ·refine Sa (Zf 2 ?_)
  obtain ⟨⟨p1,p2⟩,H⟩:=Zi H
  have e1:=Zv h7.wh (Zc 3) p1 p2
  refine Zj (Zd e1 p1 p2) ?_
  refine Zj (Ze 0 h7.wht (Zc 3) p1 p2) ?_
  refine Zf 1 ?_
  refine rS (Zk 2 h7) fun _ w9 h8=>?_
  refine rFi [5,6,8] ?_
  refine Sc (Sa (rLo 0 h8 ?_))
  refine rLo 1 h8 ?_
  refine cS H [] h8 rfl Q68.spec Zm fun r1 w10 H h9=>?_
  refine Zf 2 ?_
  refine rS (Zk 2 h9) fun _ w11 h10=>?_
  refine rFi [6,7] ?_
  have h11:=sO h10 [0]
  replace h11:=nf h11
  cases H
  exact Sb (jR2 (Zt (Si Yk 0 h11 rfl rfl rfl rfl) (Zt (Sj rfl) Yl)) ⟨rfl,rfl⟩ h11 [])
 refine Sd (Sc (Sa (rLo 2 h7 ?_)))
 refine rLo 0 h7 ?_
 refine cS H [] h7 rfl Q68.spec Zm fun r2 w12 H h12=>?_
 refine Zf 2 ?_
 refine rS (Zk 1 h12) fun _ w13 h13=>?_
 refine rFi [6,7] ?_
 have h14:=sO h13 [0]
 replace h14:=nf h14
 cases H
 exact Sb (jR2 (Zt (Si Yk 0 h14 rfl rfl rfl rfl) (Zt (Sj rfl) Yl)) ⟨rfl,rfl⟩ h14 [])

def Q87.f (k:Nat) (a0:Int) (a1:Tq) (a2:TW) (a3:TF):Option (Bool×TF):=if (decide (0<a1.1))=true then ((Q60.f k a1.2.2.1 a2).bind fun r1=>((Q59.f a1.2.2.1 r1 a3).bind fun r2=>(some (true,r2.1)))) else (some (true,a3))
theorem Q87.spec {k a0 a1 a2 a3 A1 c_1 A2 c_2 A3 c_3 A4 c_4 b1 b2 r} (H:Q87.f k a0 a1 a2 a3=some r) :
  Spec prog 21 [.int .u32 a0,.agg #[.int .i64 a1.1,.slice A1 a1.2.1.length c_1,.slice A2 a1.2.2.1.length c_2,.slice A3 a1.2.2.2.1.length c_3,.slice A4 a1.2.2.2.2.length c_4],.pointer (some ⟨b1,0,none⟩),.pointer (some ⟨b2,0,none⟩)] [X9 b1 a2,X41 b2 a3.1 a3.2.1 a3.2.2] [R30 a1.2.1 A1 c_1,R9 a1.2.2.1 A2 c_2,R59 a1.2.2.2.1 A3 c_3,R57 a1.2.2.2.2 A4 c_4] (fun v l=>v=.bool r.1/\l=[X9 b1 a2,X41 b2 r.2.1 r.2.2.1 r.2.2.2]):=by
 refine Zg Tryz.func21 fun w0 F0 h0=>?_
 unfold Q87.f at H
 refine Sc (Sa (rB (Z8 h0) fun b3 w1 h1=>?_))
 refine rFi [2,3,5] ?_
 refine Sc (Sc (Sa (rRL 1 0 h1 ?_)))
 refine rFi [2,3,5,9] ?_
 refine jIf H (fun c1 H=>?_) fun c1 H=>?_
 ·obtain ⟨r1,q1,H⟩:=Yf H
  obtain ⟨r2,q2,H⟩:=Yf H
  refine T9 (fun env w=>env=[]/\St w0 F0 [X41 b2 r2.1.1 r2.1.2.1 r2.1.2.2,X50 b3 a1.1 a1.2.1 A1 c_1 a1.2.2.1 A2 c_2 a1.2.2.2.1 A3 c_3 a1.2.2.2.2 A4 c_4,X9 b1 a2] [R30 a1.2.1 A1 c_1,R9 a1.2.2.1 A2 c_2,R59 a1.2.2.2.1 A3 c_3,R57 a1.2.2.2.2 A4 c_4] w) ?_ ?_
  ·refine Zy (sO h1 [0,0]) ?_
   have h5:=h1.drew
   refine Zq [0,2] ?_
   refine Zb 1 rfl (Zh 0 wI) ?_
   refine Zb 3 rfl (Zh 0 wI) ?_
   refine Zb 4 rfl (Zh 1 wI) ?_
   refine T2 fun G E hE hG=>?_
   have j8:∀ w20,St w0 F0 [X50 b3 a1.1 a1.2.1 A1 c_1 a1.2.2.1 A2 c_2 a1.2.2.2.1 A3 c_3 a1.2.2.2.2 A4 c_4,X9 b1 a2,X41 b2 a3.1 a3.2.1 a3.2.2] [R30 a1.2.1 A1 c_1,R9 a1.2.2.1 A2 c_2,R59 a1.2.2.2.1 A3 c_3,R57 a1.2.2.2.2 A4 c_4] w20->G [6,5,4,3,1,2,0] ((17,.agg #[.string ⟨⟨a3.1⟩⟩,.string ⟨⟨a3.2.1⟩⟩,.bool a3.2.2]) :: (16,.int .i64 r1) :: E) w20:=by
    intro w20 h16
    subst hE
    refine (hG _ _ _).1 ?_
    refine Yb 7 rfl (Xx [] (Q59.spec q2) h16 rfl (gS [4])) ?_
    rintro _ w24 ⟨_,⟨rfl,rfl⟩,h18⟩
    replace h18:=nf h18
    refine ⟨⟨[_],(sO h18 [2,0,0])⟩,?_⟩
    refine Zq [8,9,10] ?_
    refine hS 11 rfl (Zk 2 h18) 1 fun _ w25 h19=>?_
    refine Y7 [] ?_
    exact Yt ⟨rfl,(sOR h19 [0,0,0] [0,1,2,3])⟩
   subst hE
   refine (hG _ _ _).1 ?_
   refine T3 [5,6] (i:=5) rfl rfl rfl rfl ?_
   refine (Z9 ?_ (Z9 ?_ Xs))
   ·refine Z2 5 rfl (Xx [] (Q60.spec q1) h5 rfl (gS [4])) ?_
    rintro _ w20 ⟨_,⟨rfl,rfl⟩,h16⟩
    replace h16:=nf h16
    refine ⟨⟨[_],(sO h16 [2,0,0])⟩,?_⟩
    refine Yb 6 rfl (Sf (Zh 2 h16.wht)) ?_
    rintro _ _ ⟨rfl,rfl⟩
    replace h16:=nf h16
    refine ⟨⟨[_],(sO h16 [2,0,0])⟩,?_⟩
    exact (hG _ _ _).2 (j8 _ h16)
   ·refine Z2 6 rfl (Sf (Zh 2 h5.wht)) ?_
    rintro _ _ ⟨rfl,rfl⟩
    replace h5:=nf h5
    refine ⟨⟨[_],(sO h5 [2,0,0])⟩,?_⟩
    refine Yb 5 rfl (Xx [] (Q60.spec q1) h5 rfl (gS [4])) ?_
    rintro _ w23 ⟨_,⟨rfl,rfl⟩,h17⟩
    replace h17:=nf h17
    refine ⟨⟨[_],(sO h17 [2,0,0])⟩,?_⟩
    exact ((hG _ _ _).2 (j8 _ h17)).re [1,0] 2
  rintro env w34 ⟨rfl,h26⟩
  refine Sc (Za [6] ?_)
  cases H
  exact Sb (jR0 h26 [2,0])
 refine Sd (Sc (Za [6] ?_))
 cases H
 exact Sb (jR0 h1 [1,1])

def Q91.l0:Nat->TW->TW->Ts->TG->TE->TL->TF->Tz->TQ->T0->(Int)->(Int)->(Int)->Option Tf
 | 0,_,_,_,_,_,_,_,_,_,_,_,_,_=>none
 | k+1,a2,a4,x1,x2,x3,x4,x5,x6,x7,x8,x9,x10,x11=>(Q93.f k (x1,(x2,x6,x7,x8,x3),x4,x9) x11).bind fun r1=>(if (!decide (r1.2.1=0))=true then (some (r1.2.1,r1.2.2,x5)) else (if (decide (0<=x10))=true then (if (!decide (r1.1.1=(w64 (x10 - 1))))=true then (some (12,r1.2.2,x5)) else ((Q87.f k x11 r1.1 a4 x5).bind fun r2=>(if (!r2.1)=true then (some (0,r1.2.2,r2.2)) else (if (decide (r1.1.1=0))=true then (some (0,r1.2.2,r2.2)) else ((Q60.f k r1.1.2.2.1 a2).bind fun r3=>(if 0<=r3/\r3<(r1.1.2.1.length:Int) then (Q91.l0 k a2 a4 r1.2.2.1 r1.2.2.2.1.1 r1.2.2.2.1.2.2.2.2 r1.2.2.2.2.1 r2.2 r1.2.2.2.1.2.1 r1.2.2.2.1.2.2.1 r1.2.2.2.1.2.2.2.1 r1.2.2.2.2.2 r1.1.1 (gt r1.1.2.1 r3)) else none)))))) else ((Q87.f k x11 r1.1 a4 x5).bind fun r4=>(if (!r4.1)=true then (some (0,r1.2.2,r4.2)) else (if (decide (r1.1.1=0))=true then (some (0,r1.2.2,r4.2)) else ((Q60.f k r1.1.2.2.1 a2).bind fun r5=>(if 0<=r5/\r5<(r1.1.2.1.length:Int) then (Q91.l0 k a2 a4 r1.2.2.1 r1.2.2.2.1.1 r1.2.2.2.1.2.2.2.2 r1.2.2.2.2.1 r4.2 r1.2.2.2.1.2.1 r1.2.2.2.1.2.2.1 r1.2.2.2.1.2.2.2.1 r1.2.2.2.2.2 r1.1.1 (gt r1.1.2.1 r5)) else none)))))))
def Q91.f (k:Nat) (a0:Th) (a1:Int) (a2:TW) (a4:TW) (a5:TF):Option Tf:=Q91.l0 k a2 a4 a0.1 a0.2.1.1 a0.2.1.2.2.2.2 a0.2.2.1 a5 a0.2.1.2.1 a0.2.1.2.2.1 a0.2.1.2.2.2.1 a0.2.2.2 (-1) a1
theorem Q91.spec {k a0 a1 a2 a4 a5 b1 b2 b3 b4 b5 b6 b7 b8 b9 A1 c_1 A2 c_2 A3 c_3 A4 c_4 A5 c_5 r} (H:Q91.f k a0 a1 a2 a4 a5=some r) :
  Spec prog 19 [.pointer (some ⟨b1,0,none⟩),.int .u32 a1,.string ⟨⟨a2⟩⟩,.func (.func 21) #[] #[.pointer (some ⟨b8,0,none⟩),.pointer (some ⟨b9,0,none⟩)]] (Wy a0 b1 b2 b3 b4 b5 b6 b7 A1 A2 A3 A4 A5 c_1 c_2 c_3 c_4 c_5 ++ [X9 b8 a4,X41 b9 a5.1 a5.2.1 a5.2.2]) [] (fun v l=>∃ A_0 c_0 A_1 c_1 A_2 c_2 A_3 c_3 A_4 c_4,v=.int .i64 r.1/\l=Wy r.2.1 b1 b2 b3 b4 b5 b6 b7 A_0 A_1 A_2 A_3 A_4 c_0 c_1 c_2 c_3 c_4 ++ [X9 b8 a4,X41 b9 r.2.2.1 r.2.2.2.1 r.2.2.2.2]):=by
 refine Zg Tryz.func19 fun w0 F0 h0=>?_
 replace h0:=nf h0
 unfold Q91.f at H
 refine Sc (Za [0,1,2,3] ?_)
 refine Sc (Za [0,1,2,3,9] ?_)
 refine Sc (Za [0,2,3,9,10] ?_)
 refine T4 ?_
 have h21:=(sOR h0 [0,1,0,2,3,4,4,5,5,0,0,0,0,0] [])
 refine T8 (fun kk env w=>∃ x1 x2 x3 x4 x5 A6 c_6 x6 A7 c_7 x7 x8 A8 c_8 A9 c_9 A10 c_10 x9 x10 x11,Q91.l0 kk a2 a4 x1 x2 x3 x4 x5 x6 x7 x8 x9 x10 x11=some r/\env=[(0,.pointer (some ⟨b1,0,none⟩)),(2,.string ⟨⟨a2⟩⟩),(3,.func (.func 21) #[] #[.pointer (some ⟨b8,0,none⟩),.pointer (some ⟨b9,0,none⟩)]),(9,.int .i64 x10),(10,.int .u32 x11)]/\St w0 F0 [X78 b1 x1.1 x1.2.1 x1.2.2.1 x1.2.2.2.1 x1.2.2.2.2.1 x1.2.2.2.2.2.1 x1.2.2.2.2.2.2.1 x1.2.2.2.2.2.2.2 (.pointer (some ⟨b3,0,none⟩)) (.pointer (some ⟨b2,0,none⟩)) (.pointer (some ⟨b6,0,none⟩)) x9,Xu b3 x2.1 x2.2.1 A6 c_6 x2.2.2.1 x2.2.2.2,X6 b2 (.pointer (some ⟨b3,0,none⟩)) x6 A7 c_7 (.map (some b4)) x8 A8 c_8 (.pointer (some ⟨b5,0,none⟩)),Xj .u32 (Value.int .i64) b4 x7,Y2 b5 x3.1 A9 c_9 x3.2,Us b6 (.pointer (some ⟨b7,0,none⟩)),Ws b7 x4.1 x4.2.1 x4.2.2 A10 c_10,X9 b8 a4,X41 b9 x5.1 x5.2.1 x5.2.2,O5 x2.2.1 A6 c_6,X7 x6 A7 c_7,O3 x8 A8 c_8,Y3 x3.1 A9 c_9,Wr x4.2.2 A10 c_10] [] w) (k:=k) ⟨_,_,_,_,_,_,_,_,_,_,_,_,_,_,_,_,_,_,_,_,_,H,rfl,h21⟩ ?_
 rintro k1 env w1 ⟨x1,x2,x3,x4,x5,A6,c_6,x6,A7,c_7,x7,x8,A8,c_8,A9,c_9,A10,c_10,x9,x10,x11,H,rfl,h1⟩
 rcases k1 with _ | k1
 ·exact z0 H
 rw [Q91.l0] at H
 refine T4 (Sc (Sa (Zf 2 ?_)))
 refine cE H [0,1,0,6,6,0,5,0,4,0,0,2] h1 rfl Q93.spec Zm ?_
 rintro r1 w2 _ _ H ⟨A11,c_11,A12,c_12,A13,c_13,A14,c_14,A15,c_15,A16,c_16,A17,c_17,A18,c_18,A19,c_19,rfl,rfl⟩ h2
 replace h2:=nf h2
 refine Zf 3 ?_
 refine rB (Yi h2) fun b10 w3 h3=>?_
 refine rS (Zk 0 h3) fun _ w4 h4=>?_
 refine rFi [0,2,3,9,10,11,12] ?_
 refine Sc (Sc (Za [0,2,3,9,10,11,12,21] ?_))
 refine jIf H (fun c1 H=>?_) fun c1 H=>?_
 ·refine Sc (Za [8] ?_)
  have h5:=sO h4 [5,5,5,5,5,5,5,5,5,5,5,5,5,5]
  replace h5:=nf h5
  cases H
  exact Sb (jR ⟨_,_,_,_,_,_,_,_,_,_,rfl,rfl⟩ h5 [0,0,0,0,0,0,0,0,0,0,0,0,0,0])
 refine Sd (Sc (Sc (Sa (Zf 3 ?_))))
 refine Z7 25 H (fun c2 H=>?_) fun c2 H=>?_
 ·refine rRL 1 0 h4 ?_
  refine rFi [0,2,3,10,11,31] ?_
  refine jIf H (fun c3 H=>?_) fun c3 H=>?_
  ·refine Sc (Za [8] ?_)
   have h6:=sO h4 [5,5,5,5,5,5,5,5,5,5,5,5,5,5]
   replace h6:=nf h6
   cases H
   exact Sb (jR ⟨_,_,_,_,_,_,_,_,_,_,rfl,rfl⟩ h6 [0,0,0,0,0,0,0,0,0,0,0,0,0,0])
  refine Sd (Sc (Sc (Sa (rRL 2 0 h4 ?_))))
  obtain ⟨r2,q2,H⟩:=Yf H
  refine Zp (Ud [.int .u32 x11,.agg #[.int .i64 r1.1.1,.slice A11 r1.1.2.1.length c_11,.slice A12 r1.1.2.2.1.length c_12,.slice A13 r1.1.2.2.2.1.length c_13,.slice A14 r1.1.2.2.2.2.length c_14]] [.pointer (some ⟨b8,0,none⟩),.pointer (some ⟨b9,0,none⟩)] [17,17] (Q87.spec q2) h4 rfl (Xm (gO 1) (Xm (gO 2) (Xm (gO 3) (Xm (gO 4) Zm))))) ?_
  rintro _ w5 ⟨_,⟨rfl,rfl⟩,h7⟩
  replace h7:=nf h7
  refine Zf 2 ?_
  refine Z7 37 H (fun c4 H=>?_) fun c4 H=>?_
  ·refine rFi [0,2,3,11,41] ?_
   refine Zn ?_
   refine Sc (Za [8] ?_)
   have h8:=sO h7 [0,0,5,5,5,5,5,5,5,5,5,5,5,5]
   replace h8:=nf h8
   cases H
   exact Sb (jR ⟨_,_,_,_,_,_,_,_,_,_,rfl,rfl⟩ h8 [2,2,2,2,2,2,2,2,2,2,2,2,0,0])
  refine rRL 1 2 h7 ?_
  refine rFi [0,2,3,11,41] ?_
  refine jIf H (fun c5 H=>?_) fun c5 H=>?_
  ·refine Sc (Za [8] ?_)
   have h9:=sO h7 [0,0,5,5,5,5,5,5,5,5,5,5,5,5]
   replace h9:=nf h9
   cases H
   exact Sb (jR ⟨_,_,_,_,_,_,_,_,_,_,rfl,rfl⟩ h9 [2,2,2,2,2,2,2,2,2,2,2,2,0,0])
  refine Sd (Sc (Sa (rRL 1 2 h7 ?_)))
  refine rFi [0,2,3,9,11] ?_
  refine jH h7 fun h10=>?_
  refine Zq [0,2,4] ?_
  refine Zb 1 rfl (Zh 2 wI) ?_
  refine Zb 3 rfl (Zh 2 wI) ?_
  refine cSJ 5 rfl H [] h10 rfl Q60.spec (Xm (gO 4) Zm) 0 fun r3 w6 H h11=>?_
  obtain ⟨⟨p1,p2⟩,H⟩:=Zi H
  have e1:=Zv h11.wh (gO 3) p1 p2
  refine Zb 6 rfl (Zd e1 p1 p2) ?_
  refine Zb 7 rfl (Ze 0 wI (gO 3) p1 p2) ?_
  refine hRF [8] [0,2,3,9,10] ?_
  have h12:=sO h11 [0,0,5,5,5,5,5,5,5,5,5,5,5,5]
  replace h12:=nf h12
  have h13:=(sOR h12 [2,3,2,4,5,6,6,0,0,0,0,0,0,0] [])
  exact ⟨k1,by omega,_,_,_,_,_,_,_,_,_,_,_,_,_,_,_,_,_,_,_,_,_,H,rfl,h13⟩
 refine rFi [0,2,3,10,11,31] ?_
 refine Z0 ?_
 refine Sd (Sc (Sc (Sa (rRL 2 0 h4 ?_))))
 obtain ⟨r4,q4,H⟩:=Yf H
 refine Zp (Ud [.int .u32 x11,.agg #[.int .i64 r1.1.1,.slice A11 r1.1.2.1.length c_11,.slice A12 r1.1.2.2.1.length c_12,.slice A13 r1.1.2.2.2.1.length c_13,.slice A14 r1.1.2.2.2.2.length c_14]] [.pointer (some ⟨b8,0,none⟩),.pointer (some ⟨b9,0,none⟩)] [17,17] (Q87.spec q4) h4 rfl (Xm (gO 1) (Xm (gO 2) (Xm (gO 3) (Xm (gO 4) Zm))))) ?_
 rintro _ w7 ⟨_,⟨rfl,rfl⟩,h14⟩
 replace h14:=nf h14
 refine Zf 2 ?_
 refine Z7 37 H (fun c6 H=>?_) fun c6 H=>?_
 ·refine rFi [0,2,3,11,41] ?_
  refine Zn ?_
  refine Sc (Za [8] ?_)
  have h15:=sO h14 [0,0,5,5,5,5,5,5,5,5,5,5,5,5]
  replace h15:=nf h15
  cases H
  exact Sb (jR ⟨_,_,_,_,_,_,_,_,_,_,rfl,rfl⟩ h15 [2,2,2,2,2,2,2,2,2,2,2,2,0,0])
 refine rRL 1 2 h14 ?_
 refine rFi [0,2,3,11,41] ?_
 refine jIf H (fun c7 H=>?_) fun c7 H=>?_
 ·refine Sc (Za [8] ?_)
  have h16:=sO h14 [0,0,5,5,5,5,5,5,5,5,5,5,5,5]
  replace h16:=nf h16
  cases H
  exact Sb (jR ⟨_,_,_,_,_,_,_,_,_,_,rfl,rfl⟩ h16 [2,2,2,2,2,2,2,2,2,2,2,2,0,0])
 refine Sd (Sc (Sa (rRL 1 2 h14 ?_)))
 refine rFi [0,2,3,9,11] ?_
 refine jH h14 fun h17=>?_
 refine Zq [0,2,4] ?_
 refine Zb 1 rfl (Zh 2 wI) ?_
 refine Zb 3 rfl (Zh 2 wI) ?_
 refine cSJ 5 rfl H [] h17 rfl Q60.spec (Xm (gO 4) Zm) 0 fun r5 w8 H h18=>?_
 obtain ⟨⟨p3,p4⟩,H⟩:=Zi H
 have e2:=Zv h18.wh (gO 3) p3 p4
 refine Zb 6 rfl (Zd e2 p3 p4) ?_
 refine Zb 7 rfl (Ze 0 wI (gO 3) p3 p4) ?_
 refine hRF [8] [0,2,3,9,10] ?_
 have h19:=sO h18 [0,0,5,5,5,5,5,5,5,5,5,5,5,5]
 replace h19:=nf h19
 have h20:=(sOR h19 [2,3,2,4,5,6,6,0,0,0,0,0,0,0] [])
 exact ⟨k1,by omega,_,_,_,_,_,_,_,_,_,_,_,_,_,_,_,_,_,_,_,_,_,H,rfl,h20⟩

def Q86.f (k:Nat) (a0:Th) (a1:Int) (a2:TW):Option Te:=(Q91.f k a0 a1 a2 a2 ([],[],true)).bind fun r1=>(if (!decide (r1.1=0))=true then (some (([],[],false),r1.1,r1.2.1)) else (some (r1.2.2,0,r1.2.1)))
theorem Q86.spec {k a0 a1 a2 b1 b2 b3 b4 b5 b6 b7 A1 c_1 A2 c_2 A3 c_3 A4 c_4 A5 c_5 r} (H:Q86.f k a0 a1 a2=some r) :
  Spec prog 7 [.pointer (some ⟨b1,0,none⟩),.int .u32 a1,.string ⟨⟨a2⟩⟩] (Wy a0 b1 b2 b3 b4 b5 b6 b7 A1 A2 A3 A4 A5 c_1 c_2 c_3 c_4 c_5) [] (fun v l=>∃ A_0 c_0 A_1 c_1 A_2 c_2 A_3 c_3 A_4 c_4,v=.tuple #[.agg #[.string ⟨⟨r.1.1⟩⟩,.string ⟨⟨r.1.2.1⟩⟩,.bool r.1.2.2],.int .i64 r.2.1]/\l=Wy r.2.2 b1 b2 b3 b4 b5 b6 b7 A_0 A_1 A_2 A_3 A_4 c_0 c_1 c_2 c_3 c_4):=by
 refine Zg Tryz.func7 fun w0 F0 h0=>?_
 replace h0:=nf h0
 unfold Q86.f at H
 refine Sc (Sa (rB (Z8 h0) fun b8 w1 h1=>?_))
 refine rB (Yi h1) fun b9 w2 h2=>?_
 refine rFi [0,1,5,6] ?_
 refine Sc (Sa (Zf 1 ?_))
 refine rB (Yi h2) fun b10 w3 h3=>?_
 refine rS (Zk 0 h3) fun _ w4 h4=>?_
 refine rFi [0,1,5,6,8] ?_
 refine Sc (Sa (rRL 2 2 h4 ?_))
 refine Zf 1 ?_
 refine cE H [3,3,3,3,3,3,3,3,3,3,3,3,2,0] h4 rfl Q91.spec Zm ?_
 rintro r1 w5 _ _ H ⟨A6,c_6,A7,c_7,A8,c_8,A9,c_9,A10,c_10,rfl,rfl⟩ h5
 replace h5:=nf h5
 refine rFi [6,8,9] ?_
 refine Sc (Sc (Za [6,8,9,17] ?_))
 refine jIf H (fun c1 H=>?_) fun c1 H=>?_
 ·refine Sc (Sa (Zf 2 ?_))
  refine rS (Zk 14 h5) fun _ w6 h6=>?_
  refine rFi [6,7] ?_
  have h7:=sO h6 [0,0,0,0,0,0,0,0,0,0,0,0,0]
  replace h7:=nf h7
  cases H
  exact Sb (jR2 (Zt (Si Yk 0 h7 rfl rfl rfl rfl) (Zt (Sj rfl) Yl)) ⟨_,_,_,_,_,_,_,_,_,_,rfl,rfl⟩ h7 [1,1,1,1,1,1,1,1,1,1,1,1])
 refine Sd (Sc (Sa (rLo 13 h5 ?_)))
 refine rS (Zk 14 h5) fun _ w7 h8=>?_
 refine rFi [6,7] ?_
 have h9:=sO h8 [0,0,0,0,0,0,0,0,0,0,0,0,0]
 replace h9:=nf h9
 cases H
 exact Sb (jR2 (Zt (Si Yk 0 h9 rfl rfl rfl rfl) (Zt (Sj rfl) Yl)) ⟨_,_,_,_,_,_,_,_,_,_,rfl,rfl⟩ h9 [1,1,1,1,1,1,1,1,1,1,1,1])

def Q137.f (k:Nat):Option (Bool):=(Q135.f k (9,200,8,8,16,16,2,1) ([],[],[],[])).bind fun r1=>(Vn r1.1 (if (!r1.2.2.2)=true then (some false) else (none)) (fun r2=>(if (!r1.2.2.2)=true then (some false) else ((Q84.f k r2 r1.2.1 [97]).bind fun r3=>((Q86.f k r3.2.2.2 r1.2.1 [97]).bind fun r4=>(if (!r3.2.1)=true then (if (decide (r3.2.2.1=0))=true then (if ((decide (r4.1.1=[])) && ((decide (r4.1.2.1=[])) && ((r4.1.2.2 == true) && true)))=true then (some (decide (r4.2.1=0))) else (some false)) else (some false)) else (some false)))))))
theorem Q137.spec {k r} (H:Q137.f k=some r) :
  Spec prog 5 [] [] [tabC 1] (fun v l=>v=.bool r/\l=[]):=by
 refine Zg Tryz.func5 fun w0 F0 h0=>?_
 unfold Q137.f at H
 refine Sc (Za [] ?_)
 refine Sc (Sa (Zf 1 ?_))
 refine rB (Yi h0) fun b1 w1 h1=>?_
 refine rS (Zk 0 h1) fun _ w2 h2=>?_
 refine rFi [1] ?_
 refine Sc (Sa (rLo 0 h2 ?_))
 refine Zf 1 ?_
 have h3:=h2.addNil 57 (.pair .str .str)
 have h4:=h3.freeze (k:=0) rfl Ye
 have h5:=h4.addNil 59 (.pair .str (.pair .bool .str))
 have h6:=h5.freeze (k:=0) rfl Ye
 have h7:=h6.addNil 5 (.int .u8)
 have h8:=h7.freeze (k:=0) rfl Ye
 obtain ⟨r1,q1,H⟩:=Yf H
 refine Zp (Z4 [] (Q135.spec q1) h8 rfl (gS [2,1,0,0,3])) ?_
 rintro _ w3 ⟨_,_,⟨v1,l1,ho1,A1,c_1,rfl,rfl,rfl⟩,h9⟩
 rcases ho2:r1.1 with _ | r2
 ·rw [ho2] at ho1
  obtain ⟨rfl,rfl⟩:=ho1
  replace H:=J9 ho2 H
  replace h9:=nf h9
  refine rFi [2,3,5] ?_
  refine Sc (Sc (Za [2,3,21] ?_))
  refine jIf H (fun c1 H=>?_) fun c1 H=>?_
  ·refine Sc (Za [0] ?_)
   cases H
   exact Sb (jR0 h9 [])
  refine Sd (Sc (Sa (Zf 2 ?_)))
  exact nomatch H
 rw [ho2] at ho1
 obtain ⟨b2,b3,b4,A2,c_2,A3,c_3,b5,A4,c_4,b6,A5,c_5,b7,b8,A6,c_6,rfl,rfl⟩:=ho1
 replace H:=J8 ho2 H
 replace h9:=nf h9
 refine rFi [2,3,5] ?_
 refine Sc (Sc (Za [2,3,21] ?_))
 refine jIf H (fun c2 H=>?_) fun c2 H=>?_
 ·refine Sc (Za [0] ?_)
  have h10:=sO h9 []
  replace h10:=nf h10
  cases H
  exact Sb (jR0 h10 [])
 refine Sd (Sc (Sa (Zf 2 ?_)))
 refine cE H [0,0,0,0,0,0,0,0,0,0,0,0] h9 rfl Q84.spec Zm ?_
 rintro r3 w4 _ _ H ⟨A7,c_7,A8,c_8,A9,c_9,A10,c_10,A11,c_11,rfl,rfl⟩ h11
 replace h11:=nf h11
 refine rFi [2,3,7,8] ?_
 refine Sc (Sa (Zf 2 ?_))
 refine cE H [0,0,0,0,0,0,0,0,0,0,0,0] h11 rfl Q86.spec Zm ?_
 rintro r4 w5 _ _ H ⟨A12,c_12,A13,c_13,A14,c_14,A15,c_15,A16,c_16,rfl,rfl⟩ h12
 replace h12:=nf h12
 refine Zf 3 ?_
 refine rB (Yi h12) fun b9 w6 h13=>?_
 refine rS (Zk 0 h13) fun _ w7 h14=>?_
 refine rFi [7,8,9,10] ?_
 have h15:=sO h14 [0]
 replace h15:=nf h15
 refine Sc (Sa (Zf 3 ?_))
 refine Z7 37 H (fun c3 H=>?_) fun c3 H=>?_
 ·refine Zf 4 ?_
  refine Z7 41 H (fun c4 H=>?_) fun c4 H=>?_
  ·refine rLo 0 h15 ?_
   refine Zf 4 ?_
   refine Z7 46 H (fun c5 H=>?_) fun c5 H=>?_
   ·refine rFi [0] ?_
    cases H
    exact Sb (jR0 h15 [])
   refine rFi [0] ?_
   cases H
   exact Sb (jR0 h15 [])
  refine rFi [0] ?_
  cases H
  exact Sb (jR0 h15 [])
 refine rFi [0] ?_
 cases H
 exact Sb (jR0 h15 [])

end Go.SK.T
