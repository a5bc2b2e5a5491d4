/- The functions, further. -/
import Derived.Test.YtgdmpkhmedbnpaaGreatDoorXScanNoneF0
set_option linter.unusedVariables false
set_option linter.unusedSimpArgs false
set_option maxRecDepth 20000
set_option maxHeartbeats 40000000
namespace Go.SK.T
open Go Go.SK Go.Proofs
def Q129.l0:Nat→Int→Int→TX→Int→Option TX
 | 0,_,_,_,_=>none
 | k+1,a2,a3,x1,x2=>if (decide (a2≤(w64 ((w64 (2*x2))+1))))=true then (some x1) else (if (decide ((w64 ((w64 ((w64 (2*x2))+1))+1))<a2))=true then (if 0≤(w64 (a3+(w64 ((w64 (2*x2))+1))))∧(w64 (a3+(w64 ((w64 (2*x2))+1))))<(x1.length:Int) then (if 0≤(w64 ((w64 (a3+(w64 ((w64 (2*x2))+1))))+1))∧(w64 ((w64 (a3+(w64 ((w64 (2*x2))+1))))+1))<(x1.length:Int) then ((Q36.f (gt x1 (w64 (a3+(w64 ((w64 (2*x2))+1))))) (gt x1 (w64 ((w64 (a3+(w64 ((w64 (2*x2))+1))))+1)))).bind fun r1=>(if r1=true then (if 0≤(w64 (a3+x2))∧(w64 (a3+x2))<(x1.length:Int) then (if 0≤(w64 (a3+(w64 ((w64 ((w64 (2*x2))+1))+1))))∧(w64 (a3+(w64 ((w64 ((w64 (2*x2))+1))+1))))<(x1.length:Int) then ((Q36.f (gt x1 (w64 (a3+x2))) (gt x1 (w64 (a3+(w64 ((w64 ((w64 (2*x2))+1))+1)))))).bind fun r2=>(if (!r2)=true then (some x1) else (Q129.l0 k a2 a3 ((x1.set (w64 (a3+x2)).toNat (gt x1 (w64 (a3+(w64 ((w64 ((w64 (2*x2))+1))+1)))))).set (w64 (a3+(w64 ((w64 ((w64 (2*x2))+1))+1)))).toNat (gt x1 (w64 (a3+x2)))) (w64 ((w64 ((w64 (2*x2))+1))+1))))) else none) else none) else (if 0≤(w64 (a3+x2))∧(w64 (a3+x2))<(x1.length:Int) then ((Q36.f (gt x1 (w64 (a3+x2))) (gt x1 (w64 (a3+(w64 ((w64 (2*x2))+1)))))).bind fun r3=>(if (!r3)=true then (some x1) else (Q129.l0 k a2 a3 ((x1.set (w64 (a3+x2)).toNat (gt x1 (w64 (a3+(w64 ((w64 (2*x2))+1)))))).set (w64 (a3+(w64 ((w64 (2*x2))+1)))).toNat (gt x1 (w64 (a3+x2)))) (w64 ((w64 (2*x2))+1))))) else none))) else none) else none) else (if 0≤(w64 (a3+x2))∧(w64 (a3+x2))<(x1.length:Int) then (if 0≤(w64 (a3+(w64 ((w64 (2*x2))+1))))∧(w64 (a3+(w64 ((w64 (2*x2))+1))))<(x1.length:Int) then ((Q36.f (gt x1 (w64 (a3+x2))) (gt x1 (w64 (a3+(w64 ((w64 (2*x2))+1)))))).bind fun r4=>(if (!r4)=true then (some x1) else (Q129.l0 k a2 a3 ((x1.set (w64 (a3+x2)).toNat (gt x1 (w64 (a3+(w64 ((w64 (2*x2))+1)))))).set (w64 (a3+(w64 ((w64 (2*x2))+1)))).toNat (gt x1 (w64 (a3+x2)))) (w64 ((w64 (2*x2))+1))))) else none) else none))
def Q129.f (k:Nat) (a0:TX) (a1:Int) (a2:Int) (a3:Int):Option TX:=Q129.l0 k a2 a3 a0 a1
theorem Q129.spec {k a0 a1 a2 a3 A1 c_1 r} (H:Q129.f k a0 a1 a2 a3=some r) :
  Spec Tryz.prog 247 [.slice A1 a0.length c_1,.int .i64 a1,.int .i64 a2,.int .i64 a3] [O33 a0 A1 c_1] [] (fun v l=>v=.tuple #[]∧l=[O33 r A1 c_1]∧r.length=a0.length):=by
 refine Zi Tryz.func247 fun w0 F0 h0=>?_
 unfold Q129.f at H
 refine T8 (Zb [0,2,3,8] ?_)
 refine T0 ?_
 have h37:=(sOR h0 [0] [])
 refine T4 (fun kk env w=>∃ x1 x2,Q129.l0 kk a2 a3 x1 x2=some r∧env=[(0,.slice A1 x1.length c_1),(2,.int .i64 a2),(3,.int .i64 a3),(8,.int .i64 x2)]∧St w0 F0 [O33 x1 A1 c_1] [] w∧x1.length=a0.length) (k:=k) ⟨_,_,H,rfl,h37,(rfl:a0.length=a0.length)⟩ ?_
 rintro k1 env w1 ⟨x1,x2,H,rfl,h1,e1⟩
 rcases k1 with _ | k1
 ·exact z0 H
 rw [Q129.l0] at H
 refine T0 (T8 (Zb [0,2,3,8,9] ?_))
 refine T8 (T8 (Zb [0,2,3,8,9,16] ?_))
 refine jIf H (fun c1 H=>?_) fun c1 H=>?_
 ·refine T3 ?_
  cases H
  exact ⟨_,_,_,Zl,⟨rfl,rfl,e1⟩,sO h1 [0]⟩
 refine T9 (T8 (T8 ?_))
 refine jH h1 fun h2=>?_
 refine Zo [0,1,2,3,4] ?_
 refine X8 21 H (fun c2 H=>?_) fun c2 H=>?_
 ·refine Zo [5,6,7,8,11,12,13,14,15] ?_
  obtain ⟨⟨p1,p2⟩,H⟩:=Zk H
  have e2:=Z0 h2.wh (gO 0) p1 p2
  refine Zf 9 rfl (Zg e2 p1 p2) ?_
  refine Zf 10 rfl (Zh 0 wI (gO 0) p1 p2) ?_
  obtain ⟨⟨p3,p4⟩,H⟩:=Zk H
  refine Zf 16 rfl (Zg e2 p3 p4) ?_
  refine Zf 17 rfl (Zh 0 wI (gO 0) p3 p4) ?_
  refine cSJ 18 rfl H [] h2 rfl Q36.spec Zp 0 fun r1 w2 H h3=>?_
  refine Zo [19] ?_
  refine Zw [0,2,3,8,9,36] ?_
  refine jIf H (fun c3 H=>?_) fun c3 H=>?_
  ·refine Zb [0,2,3,8,9] ?_
   refine T8 (T8 ?_)
   refine jH h3 fun h4=>?_
   refine Zo [0,1,2,3,6,7,8,9] ?_
   obtain ⟨⟨p5,p6⟩,H⟩:=Zk H
   refine Zf 4 rfl (Zg e2 p5 p6) ?_
   refine Zf 5 rfl (Zh 0 wI (gO 0) p5 p6) ?_
   obtain ⟨⟨p7,p8⟩,H⟩:=Zk H
   refine Zf 10 rfl (Zg e2 p7 p8) ?_
   refine Zf 11 rfl (Zh 0 wI (gO 0) p7 p8) ?_
   refine cSJ 12 rfl H [] h4 rfl Q36.spec Zp 0 fun r2 w3 H h5=>?_
   refine Zo [13] ?_
   refine Zw [0,2,3,8,9,52] ?_
   refine jIf H (fun c4 H=>?_) fun c4 H=>?_
   ·cases H
    exact T7 (jR ⟨rfl,rfl,e1⟩ h5 [0])
   refine T9 (T8 (T5 (fun env w=>env=[(0,.slice A1 ((x1.set (w64 (a3+x2)).toNat (gt x1 (w64 (a3+(w64 ((w64 ((w64 (2*x2))+1))+1)))))).set (w64 (a3+(w64 ((w64 ((w64 (2*x2))+1))+1)))).toNat (gt x1 (w64 (a3+x2)))).length c_1),(2,.int .i64 a2),(3,.int .i64 a3),(9,.int .i64 (w64 ((w64 ((w64 (2*x2))+1))+1)))]∧St w0 F0 [O33 ((x1.set (w64 (a3+x2)).toNat (gt x1 (w64 (a3+(w64 ((w64 ((w64 (2*x2))+1))+1)))))).set (w64 (a3+(w64 ((w64 ((w64 (2*x2))+1))+1)))).toNat (gt x1 (w64 (a3+x2)))) A1 c_1] [] w) ?_ ?_))
   ·refine Zz (sO h5 []) ?_
    have h8:=h5.drew
    refine Zo [0,1,2,3,4,5,6,7,8,9,10,11,14,15,16,17] ?_
    refine Zf 12 rfl (Zg e2 p7 p8) ?_
    refine Zf 18 rfl (Zg e2 p5 p6) ?_
    refine TY [13,19] (i:=13) rfl rfl rfl rfl ?_
    refine (Z5 ?_ (Z5 ?_ Y4))
    ·refine hQS 13 rfl (Zh 0 h8.wht (gO 0) p7 p8) h8 1 fun h8=>?_
     refine hQ 19 rfl (Zh 0 h8.wht (gO 0) p5 p6) h8 1 fun h8=>?_
     refine Zf 20 rfl (Zg e2 p5 p6) ?_
     refine hS 21 rfl (Zm 0 (.int .u32) (w64 (a3+x2)) (gt x1 (w64 (a3+(w64 ((w64 ((w64 (2*x2))+1))+1))))) 0 h8 rfl p5 p6) 1 fun _ w6 h9=>?_
     have e5:(x1.set (w64 (a3+x2)).toNat (gt x1 (w64 (a3+(w64 ((w64 ((w64 (2*x2))+1))+1)))))).length=a0.length:=List.length_set.trans e1
     refine Zf 22 rfl (Zg e2 p7 p8) ?_
     refine hS 23 rfl (Zm 0 (.int .u32) (w64 (a3+(w64 ((w64 ((w64 (2*x2))+1))+1)))) (gt x1 (w64 (a3+x2))) 0 h9 rfl p7 (by simpa only [List.length_set] using p8)) 1 fun _ w7 h10=>?_
     have e6:((x1.set (w64 (a3+x2)).toNat (gt x1 (w64 (a3+(w64 ((w64 ((w64 (2*x2))+1))+1)))))).set (w64 (a3+(w64 ((w64 ((w64 (2*x2))+1))+1)))).toNat (gt x1 (w64 (a3+x2)))).length=a0.length:=List.length_set.trans e5
     refine Zw [0,2,3,9] ?_
     exact Zu ⟨(by simp only [List.length_set,List.length_nil] <;> rfl),((h10.only [0] rfl).rds [] rfl)⟩
    ·refine hQS 19 rfl (Zh 0 h8.wht (gO 0) p5 p6) h8 1 fun h8=>?_
     refine hQ 13 rfl (Zh 0 h8.wht (gO 0) p7 p8) h8 1 fun h8=>?_
     refine Zf 20 rfl (Zg e2 p5 p6) ?_
     refine hS 21 rfl (Zm 0 (.int .u32) (w64 (a3+x2)) (gt x1 (w64 (a3+(w64 ((w64 ((w64 (2*x2))+1))+1))))) 0 h8 rfl p5 p6) 1 fun _ w8 h11=>?_
     have e7:(x1.set (w64 (a3+x2)).toNat (gt x1 (w64 (a3+(w64 ((w64 ((w64 (2*x2))+1))+1)))))).length=a0.length:=List.length_set.trans e1
     refine Zf 22 rfl (Zg e2 p7 p8) ?_
     refine hS 23 rfl (Zm 0 (.int .u32) (w64 (a3+(w64 ((w64 ((w64 (2*x2))+1))+1)))) (gt x1 (w64 (a3+x2))) 0 h11 rfl p7 (by simpa only [List.length_set] using p8)) 1 fun _ w9 h12=>?_
     have e8:((x1.set (w64 (a3+x2)).toNat (gt x1 (w64 (a3+(w64 ((w64 ((w64 (2*x2))+1))+1)))))).set (w64 (a3+(w64 ((w64 ((w64 (2*x2))+1))+1)))).toNat (gt x1 (w64 (a3+x2)))).length=a0.length:=List.length_set.trans e7
     refine Zw [0,2,3,9] ?_
     exact Zu ⟨(by simp only [List.length_set,List.length_nil] <;> rfl),((h12.only [0] rfl).rds [] rfl)⟩
   rintro env w10 ⟨rfl,h13⟩
   have e9:((x1.set (w64 (a3+x2)).toNat (gt x1 (w64 (a3+(w64 ((w64 ((w64 (2*x2))+1))+1)))))).set (w64 (a3+(w64 ((w64 ((w64 (2*x2))+1))+1)))).toNat (gt x1 (w64 (a3+x2)))).length=a0.length:=by first | (simp only [List.length_set]; done) | (simp only [List.length_set]; exact e1)
   refine Zb [0,2,3,8] ?_
   have h14:=(sOR h13 [0] [])
   exact ⟨k1,by omega,_,_,H,rfl,h14,e9⟩
  refine T9 (T8 (T8 ?_))
  refine jH h3 fun h15=>?_
  refine Zo [0,1,2,3,6,7,8,9] ?_
  obtain ⟨⟨p9,p10⟩,H⟩:=Zk H
  refine Zf 4 rfl (Zg e2 p9 p10) ?_
  refine Zf 5 rfl (Zh 0 wI (gO 0) p9 p10) ?_
  refine Zf 10 rfl (Zg e2 p1 p2) ?_
  refine Zf 11 rfl (Zh 0 wI (gO 0) p1 p2) ?_
  refine cSJ 12 rfl H [] h15 rfl Q36.spec Zp 0 fun r3 w11 H h16=>?_
  refine Zo [13] ?_
  refine Zw [0,2,3,8,9,52] ?_
  refine jIf H (fun c5 H=>?_) fun c5 H=>?_
  ·cases H
   exact T7 (jR ⟨rfl,rfl,e1⟩ h16 [0])
  refine T9 (T8 (T5 (fun env w=>env=[(0,.slice A1 ((x1.set (w64 (a3+x2)).toNat (gt x1 (w64 (a3+(w64 ((w64 (2*x2))+1)))))).set (w64 (a3+(w64 ((w64 (2*x2))+1)))).toNat (gt x1 (w64 (a3+x2)))).length c_1),(2,.int .i64 a2),(3,.int .i64 a3),(9,.int .i64 (w64 ((w64 (2*x2))+1)))]∧St w0 F0 [O33 ((x1.set (w64 (a3+x2)).toNat (gt x1 (w64 (a3+(w64 ((w64 (2*x2))+1)))))).set (w64 (a3+(w64 ((w64 (2*x2))+1)))).toNat (gt x1 (w64 (a3+x2)))) A1 c_1] [] w) ?_ ?_))
  ·refine Zz (sO h16 []) ?_
   have h19:=h16.drew
   refine Zo [0,1,2,3,4,5,6,7,8,9,10,11,14,15,16,17] ?_
   refine Zf 12 rfl (Zg e2 p1 p2) ?_
   refine Zf 18 rfl (Zg e2 p9 p10) ?_
   refine TY [13,19] (i:=13) rfl rfl rfl rfl ?_
   refine (Z5 ?_ (Z5 ?_ Y4))
   ·refine hQS 13 rfl (Zh 0 h19.wht (gO 0) p1 p2) h19 1 fun h19=>?_
    refine hQ 19 rfl (Zh 0 h19.wht (gO 0) p9 p10) h19 1 fun h19=>?_
    refine Zf 20 rfl (Zg e2 p9 p10) ?_
    refine hS 21 rfl (Zm 0 (.int .u32) (w64 (a3+x2)) (gt x1 (w64 (a3+(w64 ((w64 (2*x2))+1))))) 0 h19 rfl p9 p10) 1 fun _ w14 h20=>?_
    have e12:(x1.set (w64 (a3+x2)).toNat (gt x1 (w64 (a3+(w64 ((w64 (2*x2))+1)))))).length=a0.length:=List.length_set.trans e1
    refine Zf 22 rfl (Zg e2 p1 p2) ?_
    refine hS 23 rfl (Zm 0 (.int .u32) (w64 (a3+(w64 ((w64 (2*x2))+1)))) (gt x1 (w64 (a3+x2))) 0 h20 rfl p1 (by simpa only [List.length_set] using p2)) 1 fun _ w15 h21=>?_
    have e13:((x1.set (w64 (a3+x2)).toNat (gt x1 (w64 (a3+(w64 ((w64 (2*x2))+1)))))).set (w64 (a3+(w64 ((w64 (2*x2))+1)))).toNat (gt x1 (w64 (a3+x2)))).length=a0.length:=List.length_set.trans e12
    refine Zw [0,2,3,9] ?_
    exact Zu ⟨(by simp only [List.length_set,List.length_nil] <;> rfl),((h21.only [0] rfl).rds [] rfl)⟩
   ·refine hQS 19 rfl (Zh 0 h19.wht (gO 0) p9 p10) h19 1 fun h19=>?_
    refine hQ 13 rfl (Zh 0 h19.wht (gO 0) p1 p2) h19 1 fun h19=>?_
    refine Zf 20 rfl (Zg e2 p9 p10) ?_
    refine hS 21 rfl (Zm 0 (.int .u32) (w64 (a3+x2)) (gt x1 (w64 (a3+(w64 ((w64 (2*x2))+1))))) 0 h19 rfl p9 p10) 1 fun _ w16 h22=>?_
    have e14:(x1.set (w64 (a3+x2)).toNat (gt x1 (w64 (a3+(w64 ((w64 (2*x2))+1)))))).length=a0.length:=List.length_set.trans e1
    refine Zf 22 rfl (Zg e2 p1 p2) ?_
    refine hS 23 rfl (Zm 0 (.int .u32) (w64 (a3+(w64 ((w64 (2*x2))+1)))) (gt x1 (w64 (a3+x2))) 0 h22 rfl p1 (by simpa only [List.length_set] using p2)) 1 fun _ w17 h23=>?_
    have e15:((x1.set (w64 (a3+x2)).toNat (gt x1 (w64 (a3+(w64 ((w64 (2*x2))+1)))))).set (w64 (a3+(w64 ((w64 (2*x2))+1)))).toNat (gt x1 (w64 (a3+x2)))).length=a0.length:=List.length_set.trans e14
    refine Zw [0,2,3,9] ?_
    exact Zu ⟨(by simp only [List.length_set,List.length_nil] <;> rfl),((h23.only [0] rfl).rds [] rfl)⟩
  rintro env w18 ⟨rfl,h24⟩
  have e16:((x1.set (w64 (a3+x2)).toNat (gt x1 (w64 (a3+(w64 ((w64 (2*x2))+1)))))).set (w64 (a3+(w64 ((w64 (2*x2))+1)))).toNat (gt x1 (w64 (a3+x2)))).length=a0.length:=by first | (simp only [List.length_set]; done) | (simp only [List.length_set]; exact e1)
  refine Zb [0,2,3,8] ?_
  have h25:=(sOR h24 [0] [])
  exact ⟨k1,by omega,_,_,H,rfl,h25,e16⟩
 refine Zo [5,6,7,8,9,10,11,12,13,14,15,16,17,18,19] ?_
 refine Zw [0,2,3,8,9,36] ?_
 refine Z6 ?_
 refine T9 (T8 (T8 ?_))
 refine jH h2 fun h26=>?_
 refine Zo [0,1,2,3,6,7,8,9] ?_
 obtain ⟨⟨p11,p12⟩,H⟩:=Zk H
 have e17:=Z0 h26.wh (gO 0) p11 p12
 refine Zf 4 rfl (Zg e17 p11 p12) ?_
 refine Zf 5 rfl (Zh 0 wI (gO 0) p11 p12) ?_
 obtain ⟨⟨p13,p14⟩,H⟩:=Zk H
 refine Zf 10 rfl (Zg e17 p13 p14) ?_
 refine Zf 11 rfl (Zh 0 wI (gO 0) p13 p14) ?_
 refine cSJ 12 rfl H [] h26 rfl Q36.spec Zp 0 fun r4 w19 H h27=>?_
 refine Zo [13] ?_
 refine Zw [0,2,3,8,9,52] ?_
 refine jIf H (fun c6 H=>?_) fun c6 H=>?_
 ·cases H
  exact T7 (jR ⟨rfl,rfl,e1⟩ h27 [0])
 refine T9 (T8 (T5 (fun env w=>env=[(0,.slice A1 ((x1.set (w64 (a3+x2)).toNat (gt x1 (w64 (a3+(w64 ((w64 (2*x2))+1)))))).set (w64 (a3+(w64 ((w64 (2*x2))+1)))).toNat (gt x1 (w64 (a3+x2)))).length c_1),(2,.int .i64 a2),(3,.int .i64 a3),(9,.int .i64 (w64 ((w64 (2*x2))+1)))]∧St w0 F0 [O33 ((x1.set (w64 (a3+x2)).toNat (gt x1 (w64 (a3+(w64 ((w64 (2*x2))+1)))))).set (w64 (a3+(w64 ((w64 (2*x2))+1)))).toNat (gt x1 (w64 (a3+x2)))) A1 c_1] [] w) ?_ ?_))
 ·refine Zz (sO h27 []) ?_
  have h30:=h27.drew
  refine Zo [0,1,2,3,4,5,6,7,8,9,10,11,14,15,16,17] ?_
  refine Zf 12 rfl (Zg e17 p13 p14) ?_
  refine Zf 18 rfl (Zg e17 p11 p12) ?_
  refine TY [13,19] (i:=13) rfl rfl rfl rfl ?_
  refine (Z5 ?_ (Z5 ?_ Y4))
  ·refine hQS 13 rfl (Zh 0 h30.wht (gO 0) p13 p14) h30 1 fun h30=>?_
   refine hQ 19 rfl (Zh 0 h30.wht (gO 0) p11 p12) h30 1 fun h30=>?_
   refine Zf 20 rfl (Zg e17 p11 p12) ?_
   refine hS 21 rfl (Zm 0 (.int .u32) (w64 (a3+x2)) (gt x1 (w64 (a3+(w64 ((w64 (2*x2))+1))))) 0 h30 rfl p11 p12) 1 fun _ w22 h31=>?_
   have e20:(x1.set (w64 (a3+x2)).toNat (gt x1 (w64 (a3+(w64 ((w64 (2*x2))+1)))))).length=a0.length:=List.length_set.trans e1
   refine Zf 22 rfl (Zg e17 p13 p14) ?_
   refine hS 23 rfl (Zm 0 (.int .u32) (w64 (a3+(w64 ((w64 (2*x2))+1)))) (gt x1 (w64 (a3+x2))) 0 h31 rfl p13 (by simpa only [List.length_set] using p14)) 1 fun _ w23 h32=>?_
   have e21:((x1.set (w64 (a3+x2)).toNat (gt x1 (w64 (a3+(w64 ((w64 (2*x2))+1)))))).set (w64 (a3+(w64 ((w64 (2*x2))+1)))).toNat (gt x1 (w64 (a3+x2)))).length=a0.length:=List.length_set.trans e20
   refine Zw [0,2,3,9] ?_
   exact Zu ⟨(by simp only [List.length_set,List.length_nil] <;> rfl),((h32.only [0] rfl).rds [] rfl)⟩
  ·refine hQS 19 rfl (Zh 0 h30.wht (gO 0) p11 p12) h30 1 fun h30=>?_
   refine hQ 13 rfl (Zh 0 h30.wht (gO 0) p13 p14) h30 1 fun h30=>?_
   refine Zf 20 rfl (Zg e17 p11 p12) ?_
   refine hS 21 rfl (Zm 0 (.int .u32) (w64 (a3+x2)) (gt x1 (w64 (a3+(w64 ((w64 (2*x2))+1))))) 0 h30 rfl p11 p12) 1 fun _ w24 h33=>?_
   have e22:(x1.set (w64 (a3+x2)).toNat (gt x1 (w64 (a3+(w64 ((w64 (2*x2))+1)))))).length=a0.length:=List.length_set.trans e1
   refine Zf 22 rfl (Zg e17 p13 p14) ?_
   refine hS 23 rfl (Zm 0 (.int .u32) (w64 (a3+(w64 ((w64 (2*x2))+1)))) (gt x1 (w64 (a3+x2))) 0 h33 rfl p13 (by simpa only [List.length_set] using p14)) 1 fun _ w25 h34=>?_
   have e23:((x1.set (w64 (a3+x2)).toNat (gt x1 (w64 (a3+(w64 ((w64 (2*x2))+1)))))).set (w64 (a3+(w64 ((w64 (2*x2))+1)))).toNat (gt x1 (w64 (a3+x2)))).length=a0.length:=List.length_set.trans e22
   refine Zw [0,2,3,9] ?_
   exact Zu ⟨(by simp only [List.length_set,List.length_nil] <;> rfl),((h34.only [0] rfl).rds [] rfl)⟩
 rintro env w26 ⟨rfl,h35⟩
 have e24:((x1.set (w64 (a3+x2)).toNat (gt x1 (w64 (a3+(w64 ((w64 (2*x2))+1)))))).set (w64 (a3+(w64 ((w64 (2*x2))+1)))).toNat (gt x1 (w64 (a3+x2)))).length=a0.length:=by first | (simp only [List.length_set]; done) | (simp only [List.length_set]; exact e1)
 refine Zb [0,2,3,8] ?_
 have h36:=(sOR h35 [0] [])
 exact ⟨k1,by omega,_,_,H,rfl,h36,e24⟩

def Q118.l1:Nat→Int→TX→Int→Option TX
 | 0,_,_,_=>none
 | k+1,a1,x3,x4=>if (decide (0≤x4))=true then (if 0≤(w64 (a1+x4))∧(w64 (a1+x4))<(x3.length:Int) then (if 0≤a1∧a1<(x3.length:Int) then ((Q129.f k ((x3.set a1.toNat (gt x3 (w64 (a1+x4)))).set (w64 (a1+x4)).toNat (gt x3 a1)) 0 x4 a1).bind fun r2=>(Q118.l1 k a1 r2 (w64 (x4 - 1)))) else none) else none) else (some x3)
def Q118.l0:Nat→Int→Int→TX→Int→Option TX
 | 0,_,_,_,_=>none
 | k+1,a1,a2,x1,x2=>if (decide (0≤x2))=true then ((Q129.f k x1 x2 (w64 (a2 - a1)) a1).bind fun r1=>(Q118.l0 k a1 a2 r1 (w64 (x2 - 1)))) else (Q118.l1 k a1 x1 (w64 ((w64 (a2 - a1)) - 1)))
def Q118.f (k:Nat) (a0:TX) (a1:Int) (a2:Int):Option TX:=Q118.l0 k a1 a2 a0 (w64 (Int.tdiv (w64 ((w64 (a2 - a1)) - 1)) 2))
theorem Q118.spec {k a0 a1 a2 A1 c_1 r} (H:Q118.f k a0 a1 a2=some r) :
  Spec Tryz.prog 235 [.slice A1 a0.length c_1,.int .i64 a1,.int .i64 a2] [O33 a0 A1 c_1] [] (fun v l=>v=.tuple #[]∧l=[O33 r A1 c_1]∧r.length=a0.length):=by
 refine Zi Tryz.func235 fun w0 F0 h0=>?_
 unfold Q118.f at H
 refine T8 (Zb [0,1,2,6] ?_)
 refine T8 (Zb [0,1,2,6,7] ?_)
 refine T8 (Zb [0,6,7,8] ?_)
 refine T8 (T8 (Zb [0,6,7,8,9] ?_))
 refine T0 ?_
 have h16:=(sOR h0 [0] [])
 refine T4 (fun kk env w=>∃ x1 x2,Q118.l0 kk a1 a2 x1 x2=some r∧env=[(0,.slice A1 x1.length c_1),(6,.int .i64 a1),(7,.int .i64 0),(8,.int .i64 (w64 (a2 - a1))),(9,.int .i64 x2)]∧St w0 F0 [O33 x1 A1 c_1] [] w∧x1.length=a0.length) (k:=k) ⟨_,_,H,rfl,h16,(rfl:a0.length=a0.length)⟩ ?_
 rintro k1 env w1 ⟨x1,x2,H,rfl,h1,e1⟩
 rcases k1 with _ | k1
 ·exact z0 H
 rw [Q118.l0] at H
 refine T8 (T8 (Zb [0,6,7,8,9,19] ?_))
 refine jIf H (fun c1 H=>?_) fun c1 H=>?_
 ·refine T9 (T8 (T0 (T6 ?_)))
  refine Zd 4 ?_
  refine cE H [0] h1 rfl Q129.spec Zp ?_
  rintro r1 w2 _ _ H ⟨rfl,rfl,q2⟩ h2
  replace h2:=nf h2
  have e2:r1.length=a0.length:=q2.trans e1
  refine Ze [0,6,7,8,9] rfl ?_
  refine T2 (env':=[(0,.slice A1 r1.length c_1),(6,.int .i64 a1),(7,.int .i64 0),(8,.int .i64 (w64 (a2 - a1))),(9,.int .i64 x2)]) (by simp only [q2,List.length_nil] <;> rfl) ?_
  refine Zb [0,6,7,8,9] ?_
  have h3:=(sOR h2 [0] [])
  exact ⟨k1,by omega,_,_,H,rfl,h3,e2⟩
 refine T3 (T8 (Zb [0,6,7,10] ?_))
 refine T0 ?_
 have h15:=(sOR h1 [0] [])
 refine T4 (fun kk env w=>∃ x3 x4,Q118.l1 kk a1 x3 x4=some r∧env=[(0,.slice A1 x3.length c_1),(6,.int .i64 a1),(7,.int .i64 0),(10,.int .i64 x4)]∧St w0 F0 [O33 x3 A1 c_1] [] w∧x3.length=a0.length) (k:=k1) ⟨_,_,H,rfl,h15,e1⟩ ?_
 rintro k2 env w3 ⟨x3,x4,H,rfl,h4,e3⟩
 rcases k2 with _ | k2
 ·exact z0 H
 rw [Q118.l1] at H
 refine T8 (T8 (Zb [0,6,7,10,30] ?_))
 refine jIf H (fun c2 H=>?_) fun c2 H=>?_
 ·refine T9 (T8 (T0 (T8 ?_)))
  obtain ⟨⟨p1,p2⟩,H⟩:=Zk H
  obtain ⟨⟨p3,p4⟩,H⟩:=Zk H
  refine T5 (fun env w=>env=[(0,.slice A1 ((x3.set a1.toNat (gt x3 (w64 (a1+x4)))).set (w64 (a1+x4)).toNat (gt x3 a1)).length c_1),(6,.int .i64 a1),(7,.int .i64 0),(10,.int .i64 x4)]∧St w0 F0 [O33 ((x3.set a1.toNat (gt x3 (w64 (a1+x4)))).set (w64 (a1+x4)).toNat (gt x3 a1)) A1 c_1] [] w) ?_ ?_
  ·refine Zz (sO h4 []) ?_
   have h7:=h4.drew
   refine Zo [0,1,2,3,4,5,6,7,8,9,12,13] ?_
   have e7:=Z0 h7.wh (gO 0) p1 p2
   refine Zf 10 rfl (Zg e7 p1 p2) ?_
   refine Zf 14 rfl (Zg e7 p3 p4) ?_
   refine TY [11,15] (i:=11) rfl rfl rfl rfl ?_
   refine (Z5 ?_ (Z5 ?_ Y4))
   ·refine hQS 11 rfl (Zh 0 h7.wht (gO 0) p1 p2) h7 1 fun h7=>?_
    refine hQ 15 rfl (Zh 0 h7.wht (gO 0) p3 p4) h7 1 fun h7=>?_
    refine Zf 16 rfl (Zg e7 p3 p4) ?_
    refine hS 17 rfl (Zm 0 (.int .u32) a1 (gt x3 (w64 (a1+x4))) 0 h7 rfl p3 p4) 1 fun _ w6 h8=>?_
    have e8:(x3.set a1.toNat (gt x3 (w64 (a1+x4)))).length=a0.length:=List.length_set.trans e3
    refine Zf 18 rfl (Zg e7 p1 p2) ?_
    refine hS 19 rfl (Zm 0 (.int .u32) (w64 (a1+x4)) (gt x3 a1) 0 h8 rfl p1 (by simpa only [List.length_set] using p2)) 1 fun _ w7 h9=>?_
    have e9:((x3.set a1.toNat (gt x3 (w64 (a1+x4)))).set (w64 (a1+x4)).toNat (gt x3 a1)).length=a0.length:=List.length_set.trans e8
    refine Zw [0,6,7,10] ?_
    exact Zu ⟨(by simp only [List.length_set,List.length_nil] <;> rfl),((h9.only [0] rfl).rds [] rfl)⟩
   ·refine hQS 15 rfl (Zh 0 h7.wht (gO 0) p3 p4) h7 1 fun h7=>?_
    refine hQ 11 rfl (Zh 0 h7.wht (gO 0) p1 p2) h7 1 fun h7=>?_
    refine Zf 16 rfl (Zg e7 p3 p4) ?_
    refine hS 17 rfl (Zm 0 (.int .u32) a1 (gt x3 (w64 (a1+x4))) 0 h7 rfl p3 p4) 1 fun _ w8 h10=>?_
    have e10:(x3.set a1.toNat (gt x3 (w64 (a1+x4)))).length=a0.length:=List.length_set.trans e3
    refine Zf 18 rfl (Zg e7 p1 p2) ?_
    refine hS 19 rfl (Zm 0 (.int .u32) (w64 (a1+x4)) (gt x3 a1) 0 h10 rfl p1 (by simpa only [List.length_set] using p2)) 1 fun _ w9 h11=>?_
    have e11:((x3.set a1.toNat (gt x3 (w64 (a1+x4)))).set (w64 (a1+x4)).toNat (gt x3 a1)).length=a0.length:=List.length_set.trans e10
    refine Zw [0,6,7,10] ?_
    exact Zu ⟨(by simp only [List.length_set,List.length_nil] <;> rfl),((h11.only [0] rfl).rds [] rfl)⟩
  rintro env w10 ⟨rfl,h12⟩
  have e12:((x3.set a1.toNat (gt x3 (w64 (a1+x4)))).set (w64 (a1+x4)).toNat (gt x3 a1)).length=a0.length:=by first | (simp only [List.length_set]; done) | (simp only [List.length_set]; exact e3)
  refine T6 (Zd 4 ?_)
  refine cE H [0] h12 rfl Q129.spec Zp ?_
  rintro r2 w11 _ _ H ⟨rfl,rfl,q4⟩ h13
  replace h13:=nf h13
  have e13:r2.length=a0.length:=q4.trans e12
  refine Ze [0,6,7,10] rfl ?_
  refine T2 (env':=[(0,.slice A1 r2.length c_1),(6,.int .i64 a1),(7,.int .i64 0),(10,.int .i64 x4)]) (by simp only [q4,List.length_nil] <;> rfl) ?_
  refine Zb [0,6,7,10] ?_
  have h14:=(sOR h13 [0] [])
  exact ⟨k2,by omega,_,_,H,rfl,h14,e13⟩
 refine T3 ?_
 cases H
 exact ⟨_,_,_,Zl,⟨rfl,rfl,e3⟩,sO h4 [0]⟩

def Q123.f (a0:TX) (a1:Int) (a2:Int) (a3:Int):Option (Int×Int×Int):=if 0≤a2∧a2<(a0.length:Int) then (if 0≤a1∧a1<(a0.length:Int) then ((Q36.f (gt a0 a2) (gt a0 a1)).bind fun r1=>(if r1=true then (some (a2,a1,(w64 (a3+1)))) else (some (a1,a2,a3)))) else none) else none
theorem Q123.spec {a0 a1 a2 a3 A1 c_1 b1 r} (H:Q123.f a0 a1 a2 a3=some r) :
  Spec Tryz.prog 253 [.slice A1 a0.length c_1,.int .i64 a1,.int .i64 a2,.pointer (some ⟨b1,0,none⟩)] [X3 b1 a3] [R33 a0 A1 c_1] (fun v l=>v=.tuple #[.int .i64 r.1,.int .i64 r.2.1]∧l=[X3 b1 r.2.2]):=by
 refine Zi Tryz.func253 fun w0 F0 h0=>?_
 unfold Q123.f at H
 refine T8 (Zb [0,1,2,3] ?_)
 refine T8 (T8 ?_)
 refine jH h0 fun h1=>?_
 refine Zo [0,1,4,5] ?_
 obtain ⟨⟨p1,p2⟩,H⟩:=Zk H
 have e1:=Z0 h1.wh (Zj 1) p1 p2
 refine Zf 2 rfl (Zg e1 p1 p2) ?_
 refine Zf 3 rfl (Zh 0 wI (Zj 1) p1 p2) ?_
 obtain ⟨⟨p3,p4⟩,H⟩:=Zk H
 refine Zf 6 rfl (Zg e1 p3 p4) ?_
 refine Zf 7 rfl (Zh 0 wI (Zj 1) p3 p4) ?_
 refine cSJ 8 rfl H [] h1 rfl Q36.spec Zp 0 fun r1 w1 H h2=>?_
 refine Zw [1,2,3,18] ?_
 refine jIf H (fun c1 H=>?_) fun c1 H=>?_
 ·refine T8 (T6 ?_)
  refine Zd 2 ?_
  refine Zc (Za 0 h2.wht) ?_
  refine Zd 2 ?_
  refine rS (Zt 0 h2) fun _ w2 h3=>?_
  refine Ze [1,2] rfl ?_
  refine T8 (Zb [8,9] ?_)
  cases H
  exact T7 (jR0 h3 [0])
 refine T9 (T8 (Zb [8,9] ?_))
 cases H
 exact T7 (jR0 h2 [0])

def Q121.f (a0:TX) (a1:Int) (a2:Int) (a3:Int) (a4:Int):Option TW:=(Q123.f a0 a1 a2 a4).bind fun r1=>((Q123.f a0 r1.2.1 a3 r1.2.2).bind fun r2=>((Q123.f a0 r1.1 r2.1 r2.2.2).bind fun r3=>(some r3.2)))
theorem Q121.spec {a0 a1 a2 a3 a4 A1 c_1 b1 r} (H:Q121.f a0 a1 a2 a3 a4=some r) :
  Spec Tryz.prog 251 [.slice A1 a0.length c_1,.int .i64 a1,.int .i64 a2,.int .i64 a3,.pointer (some ⟨b1,0,none⟩)] [X3 b1 a4] [R33 a0 A1 c_1] (fun v l=>v=.int .i64 r.1∧l=[X3 b1 r.2]):=by
 refine Zi Tryz.func251 fun w0 F0 h0=>?_
 unfold Q121.f at H
 refine T8 (Zb [0,1,2,3,4] ?_)
 refine T8 (T6 ?_)
 refine Zd 4 ?_
 refine cS H [0] h0 rfl Q123.spec (gS [0]) fun r1 w1 H h1=>?_
 refine Ze [0,1,2,3,4] rfl ?_
 refine T8 (T6 ?_)
 refine Zd 4 ?_
 refine cS H [0] h1 rfl Q123.spec (gS [0]) fun r2 w2 H h2=>?_
 refine Ze [0,1,2,4] rfl ?_
 refine T8 (T6 ?_)
 refine Zd 4 ?_
 refine cS H [0] h2 rfl Q123.spec (gS [0]) fun r3 w3 H h3=>?_
 refine Ze [2] rfl ?_
 refine T8 (Zb [10] ?_)
 cases H
 exact T7 (jR0 h3 [0])

def Q120.f (a0:TX) (a1:Int) (a2:Int):Option TW:=(Q121.f a0 (w64 (a1 - 1)) a1 (w64 (a1+1)) a2).bind fun r1=>(some r1)
theorem Q120.spec {a0 a1 a2 A1 c_1 b1 r} (H:Q120.f a0 a1 a2=some r) :
  Spec Tryz.prog 250 [.slice A1 a0.length c_1,.int .i64 a1,.pointer (some ⟨b1,0,none⟩)] [X3 b1 a2] [R33 a0 A1 c_1] (fun v l=>v=.int .i64 r.1∧l=[X3 b1 r.2]):=by
 refine Zi Tryz.func250 fun w0 F0 h0=>?_
 unfold Q120.f at H
 refine T8 (Zb [0,1,2] ?_)
 refine T8 (T6 ?_)
 refine Zd 7 ?_
 refine cS H [0] h0 rfl Q121.spec (gS [0]) fun r1 w1 H h1=>?_
 refine Ze [6] rfl ?_
 cases H
 exact T7 (jR0 h1 [0])

def Q117.f (a0:TX) (a1:Int) (a2:Int):Option TW:=if (decide (8≤(w64 (a2 - a1))))=true then (if (decide (50≤(w64 (a2 - a1))))=true then ((Q120.f a0 (w64 (a1+(w64 ((w64 (Int.tdiv (w64 (a2 - a1)) 4))*1)))) 0).bind fun r1=>((Q120.f a0 (w64 (a1+(w64 ((w64 (Int.tdiv (w64 (a2 - a1)) 4))*2)))) r1.2).bind fun r2=>((Q120.f a0 (w64 (a1+(w64 ((w64 (Int.tdiv (w64 (a2 - a1)) 4))*3)))) r2.2).bind fun r3=>((Q121.f a0 r1.1 r2.1 r3.1 r3.2).bind fun r4=>(if (decide (r4.2=0))=true then (some (r4.1,1)) else (if (decide (r4.2=12))=true then (some (r4.1,2)) else (some (r4.1,0)))))))) else ((Q121.f a0 (w64 (a1+(w64 ((w64 (Int.tdiv (w64 (a2 - a1)) 4))*1)))) (w64 (a1+(w64 ((w64 (Int.tdiv (w64 (a2 - a1)) 4))*2)))) (w64 (a1+(w64 ((w64 (Int.tdiv (w64 (a2 - a1)) 4))*3)))) 0).bind fun r5=>(if (decide (r5.2=0))=true then (some (r5.1,1)) else (if (decide (r5.2=12))=true then (some (r5.1,2)) else (some (r5.1,0)))))) else (some ((w64 (a1+(w64 ((w64 (Int.tdiv (w64 (a2 - a1)) 4))*2)))),1))
theorem Q117.spec {a0 a1 a2 A1 c_1 r} (H:Q117.f a0 a1 a2=some r) :
  Spec Tryz.prog 237 [.slice A1 a0.length c_1,.int .i64 a1,.int .i64 a2] [] [R33 a0 A1 c_1] (fun v l=>v=.tuple #[.int .i64 r.1,.int .i64 r.2]∧l=[]):=by
 refine Zi Tryz.func237 fun w0 F0 h0=>?_
 unfold Q117.f at H
 refine T8 (Zb [0,1,2] ?_)
 refine T8 (Zb [0,1,8] ?_)
 refine T8 (T6 ?_)
 refine rB (Yt h0) fun b1 w1 h1=>?_
 refine Ze [0,1,8,9] rfl ?_
 refine T8 (Zb [0,1,8,9,10] ?_)
 refine T8 (Zb [0,1,8,9,10,11] ?_)
 refine T8 (Zb [0,8,9,10,11,12] ?_)
 refine T8 (T8 (Zb [0,8,9,10,11,12,32] ?_))
 refine jIf H (fun c1 H=>?_) fun c1 H=>?_
 ·refine T8 (T8 (Zb [0,9,10,11,12,34] ?_))
  refine jIf H (fun c2 H=>?_) fun c2 H=>?_
  ·refine T8 (T6 ?_)
   refine Zd 2 ?_
   refine cS H [0] h1 rfl Q120.spec (gS [0]) fun r1 w2 H h2=>?_
   refine Ze [0,9,10,11,12] rfl ?_
   refine T8 (T6 ?_)
   refine Zd 2 ?_
   refine cS H [0] h2 rfl Q120.spec (gS [0]) fun r2 w3 H h3=>?_
   refine Ze [0,9,10,11,12] rfl ?_
   refine T6 (Zd 2 ?_)
   refine cS H [0] h3 rfl Q120.spec (gS [0]) fun r3 w4 H h4=>?_
   refine Ze [0,9,10,11,12] rfl ?_
   refine T6 (Zd 4 ?_)
   refine cS H [0] h4 rfl Q121.spec (gS [0]) fun r4 w5 H h5=>?_
   refine Ze [9,11] rfl ?_
   refine T8 (T6 ?_)
   refine Zc (Za 0 h5.wht) ?_
   refine Ze [11,49] rfl ?_
   refine T0 (T8 (Zb [11,49,51] ?_))
   refine jIf H (fun c3 H=>?_) fun c3 H=>?_
   ·refine T8 (Zb [6,7] ?_)
    cases H
    exact T7 (jR0 h5 [])
   refine T8 (Zb [11,54] ?_)
   refine jIf H (fun c4 H=>?_) fun c4 H=>?_
   ·refine T8 (Zb [6,7] ?_)
    cases H
    exact T7 (jR0 h5 [])
   refine T8 (Zb [6,7] ?_)
   cases H
   exact T7 (jR0 h5 [])
  refine T9 (T6 (Zd 4 ?_))
  refine cS H [0] h1 rfl Q121.spec (gS [0]) fun r5 w6 H h6=>?_
  refine Ze [9,11] rfl ?_
  refine T8 (T6 ?_)
  refine Zc (Za 0 h6.wht) ?_
  refine Ze [11,49] rfl ?_
  refine T0 (T8 (Zb [11,49,51] ?_))
  refine jIf H (fun c5 H=>?_) fun c5 H=>?_
  ·refine T8 (Zb [6,7] ?_)
   cases H
   exact T7 (jR0 h6 [])
  refine T8 (Zb [11,54] ?_)
  refine jIf H (fun c6 H=>?_) fun c6 H=>?_
  ·refine T8 (Zb [6,7] ?_)
   cases H
   exact T7 (jR0 h6 [])
  refine T8 (Zb [6,7] ?_)
  cases H
  exact T7 (jR0 h6 [])
 refine T9 (T8 (T6 ?_))
 refine Zc (Za 0 h1.wht) ?_
 refine Ze [11,49] rfl ?_
 refine T0 (T8 (Zb [11,49,51] ?_))
 refine Zn ?_
 refine T8 (Zb [6,7] ?_)
 cases H
 exact T7 (jR0 h1 [])

def Q128.l0:Nat→TX→Int→Int→Option TX
 | 0,_,_,_=>none
 | k+1,x1,x2,x3=>if (decide (x2<x3))=true then (if 0≤x3∧x3<(x1.length:Int) then (if 0≤x2∧x2<(x1.length:Int) then (Q128.l0 k ((x1.set x2.toNat (gt x1 x3)).set x3.toNat (gt x1 x2)) (w64 (x2+1)) (w64 (x3 - 1))) else none) else none) else (some x1)
def Q128.f (k:Nat) (a0:TX) (a1:Int) (a2:Int):Option TX:=Q128.l0 k a0 a1 (w64 (a2 - 1))
theorem Q128.spec {k a0 a1 a2 A1 c_1 r} (H:Q128.f k a0 a1 a2=some r) :
  Spec Tryz.prog 238 [.slice A1 a0.length c_1,.int .i64 a1,.int .i64 a2] [O33 a0 A1 c_1] [] (fun v l=>v=.tuple #[]∧l=[O33 r A1 c_1]∧r.length=a0.length):=by
 refine Zi Tryz.func238 fun w0 F0 h0=>?_
 unfold Q128.f at H
 refine T8 (Zb [0,2,6] ?_)
 refine T8 (Zb [0,6,7] ?_)
 refine T0 ?_
 have h11:=(sOR h0 [0] [])
 refine T4 (fun kk env w=>∃ x1 x2 x3,Q128.l0 kk x1 x2 x3=some r∧env=[(0,.slice A1 x1.length c_1),(6,.int .i64 x2),(7,.int .i64 x3)]∧St w0 F0 [O33 x1 A1 c_1] [] w∧x1.length=a0.length) (k:=k) ⟨_,_,_,H,rfl,h11,(rfl:a0.length=a0.length)⟩ ?_
 rintro k1 env w1 ⟨x1,x2,x3,H,rfl,h1,e1⟩
 rcases k1 with _ | k1
 ·exact z0 H
 rw [Q128.l0] at H
 refine T8 (T8 (Zb [0,6,7,13] ?_))
 refine jIf H (fun c1 H=>?_) fun c1 H=>?_
 ·refine T9 (T0 (T8 ?_))
  obtain ⟨⟨p1,p2⟩,H⟩:=Zk H
  obtain ⟨⟨p3,p4⟩,H⟩:=Zk H
  refine T5 (fun env w=>env=[(0,.slice A1 ((x1.set x2.toNat (gt x1 x3)).set x3.toNat (gt x1 x2)).length c_1),(6,.int .i64 x2),(7,.int .i64 x3)]∧St w0 F0 [O33 ((x1.set x2.toNat (gt x1 x3)).set x3.toNat (gt x1 x2)) A1 c_1] [] w) ?_ ?_
  ·refine Zz (sO h1 []) ?_
   have h4:=h1.drew
   refine Zo [0,1,2,3,4,5,8,9] ?_
   have e5:=Z0 h4.wh (gO 0) p1 p2
   refine Zf 6 rfl (Zg e5 p1 p2) ?_
   refine Zf 10 rfl (Zg e5 p3 p4) ?_
   refine TY [7,11] (i:=7) rfl rfl rfl rfl ?_
   refine (Z5 ?_ (Z5 ?_ Y4))
   ·refine hQS 7 rfl (Zh 0 h4.wht (gO 0) p1 p2) h4 1 fun h4=>?_
    refine hQ 11 rfl (Zh 0 h4.wht (gO 0) p3 p4) h4 1 fun h4=>?_
    refine Zf 12 rfl (Zg e5 p3 p4) ?_
    refine hS 13 rfl (Zm 0 (.int .u32) x2 (gt x1 x3) 0 h4 rfl p3 p4) 1 fun _ w4 h5=>?_
    have e6:(x1.set x2.toNat (gt x1 x3)).length=a0.length:=List.length_set.trans e1
    refine Zf 14 rfl (Zg e5 p1 p2) ?_
    refine hS 15 rfl (Zm 0 (.int .u32) x3 (gt x1 x2) 0 h5 rfl p1 (by simpa only [List.length_set] using p2)) 1 fun _ w5 h6=>?_
    have e7:((x1.set x2.toNat (gt x1 x3)).set x3.toNat (gt x1 x2)).length=a0.length:=List.length_set.trans e6
    refine Zw [0,6,7] ?_
    exact Zu ⟨(by simp only [List.length_set,List.length_nil] <;> rfl),((h6.only [0] rfl).rds [] rfl)⟩
   ·refine hQS 11 rfl (Zh 0 h4.wht (gO 0) p3 p4) h4 1 fun h4=>?_
    refine hQ 7 rfl (Zh 0 h4.wht (gO 0) p1 p2) h4 1 fun h4=>?_
    refine Zf 12 rfl (Zg e5 p3 p4) ?_
    refine hS 13 rfl (Zm 0 (.int .u32) x2 (gt x1 x3) 0 h4 rfl p3 p4) 1 fun _ w6 h7=>?_
    have e8:(x1.set x2.toNat (gt x1 x3)).length=a0.length:=List.length_set.trans e1
    refine Zf 14 rfl (Zg e5 p1 p2) ?_
    refine hS 15 rfl (Zm 0 (.int .u32) x3 (gt x1 x2) 0 h7 rfl p1 (by simpa only [List.length_set] using p2)) 1 fun _ w7 h8=>?_
    have e9:((x1.set x2.toNat (gt x1 x3)).set x3.toNat (gt x1 x2)).length=a0.length:=List.length_set.trans e8
    refine Zw [0,6,7] ?_
    exact Zu ⟨(by simp only [List.length_set,List.length_nil] <;> rfl),((h8.only [0] rfl).rds [] rfl)⟩
  rintro env w8 ⟨rfl,h9⟩
  have e10:((x1.set x2.toNat (gt x1 x3)).set x3.toNat (gt x1 x2)).length=a0.length:=by first | (simp only [List.length_set]; done) | (simp only [List.length_set]; exact e1)
  refine T8 (Zb [0,6,7] ?_)
  refine Zb [0,6,7] ?_
  have h10:=(sOR h9 [0] [])
  exact ⟨k1,by omega,_,_,_,H,rfl,h10,e10⟩
 refine T3 ?_
 cases H
 exact ⟨_,_,_,Zl,⟨rfl,rfl,e1⟩,sO h1 [0]⟩

mutual
def Q124.l0:Nat→Int→Int→TX→Int→Int→Option TP
 | 0,_,_,_,_,_=>none
 | k+1,a1,a2,x1,x2,x3=>if (decide (x3<5))=true then (Q124.l3 k a1 a2 x1 x3 x2) else (some (false,x1))
def Q124.l1:Nat→Int→Int→Int→Int→TX→Int→Option TP
 | 0,_,_,_,_,_,_=>none
 | k+1,a1,a2,x3,x6,x9,x10=>if (decide (x10<a2))=true then (if 0≤x10∧x10<(x9.length:Int) then (if 0≤(w64 (x10 - 1))∧(w64 (x10 - 1))<(x9.length:Int) then ((Q36.f (gt x9 x10) (gt x9 (w64 (x10 - 1)))).bind fun r1=>(if (!r1)=true then (Q124.l0 k a1 a2 x9 x6 (w64 (x3+1))) else (Q124.l1 k a1 a2 x3 x6 ((x9.set x10.toNat (gt x9 (w64 (x10 - 1)))).set (w64 (x10 - 1)).toNat (gt x9 x10)) (w64 (x10+1))))) else none) else none) else (Q124.l0 k a1 a2 x9 x6 (w64 (x3+1)))
def Q124.l2:Nat→Int→Int→Int→Int→TX→Int→Option TP
 | 0,_,_,_,_,_,_=>none
 | k+1,a1,a2,x3,x6,x11,x12=>if (decide (1≤x12))=true then (if 0≤x12∧x12<(x11.length:Int) then (if 0≤(w64 (x12 - 1))∧(w64 (x12 - 1))<(x11.length:Int) then ((Q36.f (gt x11 x12) (gt x11 (w64 (x12 - 1)))).bind fun r2=>(if (!r2)=true then (if (decide (2≤(w64 (a2 - x6))))=true then (Q124.l1 k a1 a2 x3 x6 x11 (w64 (x6+1))) else (Q124.l0 k a1 a2 x11 x6 (w64 (x3+1)))) else (Q124.l2 k a1 a2 x3 x6 ((x11.set x12.toNat (gt x11 (w64 (x12 - 1)))).set (w64 (x12 - 1)).toNat (gt x11 x12)) (w64 (x12 - 1))))) else none) else none) else (if (decide (2≤(w64 (a2 - x6))))=true then (Q124.l1 k a1 a2 x3 x6 x11 (w64 (x6+1))) else (Q124.l0 k a1 a2 x11 x6 (w64 (x3+1))))
def Q124.l3:Nat→Int→Int→TX→Int→Int→Option TP
 | 0,_,_,_,_,_=>none
 | k+1,a1,a2,x1,x3,x13=>if (decide (x13<a2))=true then (if 0≤x13∧x13<(x1.length:Int) then (if 0≤(w64 (x13 - 1))∧(w64 (x13 - 1))<(x1.length:Int) then ((Q36.f (gt x1 x13) (gt x1 (w64 (x13 - 1)))).bind fun r3=>(if (!r3)=true then (Q124.l3 k a1 a2 x1 x3 (w64 (x13+1))) else (if (decide (x13=a2))=true then (some (true,x1)) else (if (decide ((w64 (a2 - a1))<50))=true then (some (false,x1)) else (if 0≤(w64 (x13 - 1))∧(w64 (x13 - 1))<(x1.length:Int) then (if 0≤x13∧x13<(x1.length:Int) then (if (decide (2≤(w64 (x13 - a1))))=true then (Q124.l2 k a1 a2 x3 x13 ((x1.set x13.toNat (gt x1 (w64 (x13 - 1)))).set (w64 (x13 - 1)).toNat (gt x1 x13)) (w64 (x13 - 1))) else (if (decide (2≤(w64 (a2 - x13))))=true then (Q124.l1 k a1 a2 x3 x13 ((x1.set x13.toNat (gt x1 (w64 (x13 - 1)))).set (w64 (x13 - 1)).toNat (gt x1 x13)) (w64 (x13+1))) else (Q124.l0 k a1 a2 ((x1.set x13.toNat (gt x1 (w64 (x13 - 1)))).set (w64 (x13 - 1)).toNat (gt x1 x13)) x13 (w64 (x3+1))))) else none) else none))))) else none) else none) else (if (decide (x13=a2))=true then (some (true,x1)) else (if (decide ((w64 (a2 - a1))<50))=true then (some (false,x1)) else (if 0≤(w64 (x13 - 1))∧(w64 (x13 - 1))<(x1.length:Int) then (if 0≤x13∧x13<(x1.length:Int) then (if (decide (2≤(w64 (x13 - a1))))=true then (Q124.l2 k a1 a2 x3 x13 ((x1.set x13.toNat (gt x1 (w64 (x13 - 1)))).set (w64 (x13 - 1)).toNat (gt x1 x13)) (w64 (x13 - 1))) else (if (decide (2≤(w64 (a2 - x13))))=true then (Q124.l1 k a1 a2 x3 x13 ((x1.set x13.toNat (gt x1 (w64 (x13 - 1)))).set (w64 (x13 - 1)).toNat (gt x1 x13)) (w64 (x13+1))) else (Q124.l0 k a1 a2 ((x1.set x13.toNat (gt x1 (w64 (x13 - 1)))).set (w64 (x13 - 1)).toNat (gt x1 x13)) x13 (w64 (x3+1))))) else none) else none)))
end
def Q124.f (k:Nat) (a0:TX) (a1:Int) (a2:Int):Option TP:=Q124.l0 k a1 a2 a0 (w64 (a1+1)) 0
theorem Q124.spec {k a0 a1 a2 A1 c_1 r} (H:Q124.f k a0 a1 a2=some r) :
  Spec Tryz.prog 239 [.slice A1 a0.length c_1,.int .i64 a1,.int .i64 a2] [O33 a0 A1 c_1] [] (fun v l=>v=.bool r.1∧l=[O33 r.2 A1 c_1]∧r.2.length=a0.length):=by
 refine Zi Tryz.func239 fun w0 F0 h0=>?_
 unfold Q124.f at H
 refine T8 (Zb [0,1,2] ?_)
 refine T8 (Zb [0,1,2,7] ?_)
 refine T8 (T8 (Zb [0,1,2,7,8] ?_))
 refine T0 ?_
 have h53:=(sOR h0 [0] [])
 refine T4 (fun kk env w=>∃ x1 x2 x3,Q124.l0 kk a1 a2 x1 x2 x3=some r∧env=[(0,.slice A1 x1.length c_1),(1,.int .i64 a1),(2,.int .i64 a2),(7,.int .i64 x2),(8,.int .i64 x3)]∧St w0 F0 [O33 x1 A1 c_1] [] w∧x1.length=a0.length) (k:=k) ⟨_,_,_,H,rfl,h53,(rfl:a0.length=a0.length)⟩ ?_
 rintro k1 env w1 ⟨x1,x2,x3,H,rfl,h1,e1⟩
 rcases k1 with _ | k1
 ·exact z0 H
 rw [Q124.l0] at H
 refine T8 (T8 (Zb [0,1,2,7,8,14] ?_))
 refine jIf H (fun c1 H=>?_) fun c1 H=>?_
 ·refine T9 (T8 (T5 (fun env w=>∃(k2:Nat) (x4:TX) (x5:Int),env=[(0,.slice A1 x4.length c_1),(1,.int .i64 a1),(2,.int .i64 a2),(7,.int .i64 x5),(8,.int .i64 x3)]∧St w0 F0 [O33 x4 A1 c_1] [] w∧(Q124.l0 k2 a1 a2 x4 x5 (w64 (x3+1)))=some r∧k2≤k1∧x4.length=a0.length) ?_ ?_))
  ·refine T0 (T8 ?_)
   refine T5 (fun env w=>∃(k3:Nat) (x6:Int) (x7:Bool),env=[(0,.slice A1 x1.length c_1),(1,.int .i64 a1),(2,.int .i64 a2),(7,.int .i64 x6),(8,.int .i64 x3),(32,.bool x7)]∧St w0 F0 [O33 x1 A1 c_1] [] w∧(if (decide (x6=a2))=true then (some (true,x1)) else (if (decide ((w64 (a2 - a1))<50))=true then (some (false,x1)) else (if 0≤(w64 (x6 - 1))∧(w64 (x6 - 1))<(x1.length:Int) then (if 0≤x6∧x6<(x1.length:Int) then (if (decide (2≤(w64 (x6 - a1))))=true then (Q124.l2 k3 a1 a2 x3 x6 ((x1.set x6.toNat (gt x1 (w64 (x6 - 1)))).set (w64 (x6 - 1)).toNat (gt x1 x6)) (w64 (x6 - 1))) else (if (decide (2≤(w64 (a2 - x6))))=true then (Q124.l1 k3 a1 a2 x3 x6 ((x1.set x6.toNat (gt x1 (w64 (x6 - 1)))).set (w64 (x6 - 1)).toNat (gt x1 x6)) (w64 (x6+1))) else (Q124.l0 k3 a1 a2 ((x1.set x6.toNat (gt x1 (w64 (x6 - 1)))).set (w64 (x6 - 1)).toNat (gt x1 x6)) x6 (w64 (x3+1))))) else none) else none)))=some r∧k3≤k1) ?_ ?_
   ·refine T0 (Wk [0,1,2,7,8] ?_)
    have h52:=(sOR h1 [0] [])
    refine T4 (fun kk env w=>∃ x13,Q124.l3 kk a1 a2 x1 x3 x13=some r∧env=[(0,.slice A1 x1.length c_1),(1,.int .i64 a1),(2,.int .i64 a2),(7,.int .i64 x13),(8,.int .i64 x3)]∧St w0 F0 [O33 x1 A1 c_1] [] w∧kk≤k1) (k:=k1) ⟨_,H,rfl,h52,Sa _⟩ ?_
    rintro k7 env w33 ⟨x13,H,rfl,h46,hk7⟩
    rcases k7 with _ | k7
    ·exact z0 H
    rw [Q124.l3] at H
    refine T8 (T8 ?_)
    refine jH h46 fun h47=>?_
    refine Zo [0,1,2,3] ?_
    refine X8 20 H (fun c10 H=>?_) fun c10 H=>?_
    ·refine Zo [4,5,8,9,10] ?_
     obtain ⟨⟨p13,p14⟩,H⟩:=Zk H
     have e31:=Z0 h47.wh (gO 0) p13 p14
     refine Zf 6 rfl (Zg e31 p13 p14) ?_
     refine Zf 7 rfl (Zh 0 wI (gO 0) p13 p14) ?_
     obtain ⟨⟨p15,p16⟩,H⟩:=Zk H
     refine Zf 11 rfl (Zg e31 p15 p16) ?_
     refine Zf 12 rfl (Zh 0 wI (gO 0) p15 p16) ?_
     refine cSJ 13 rfl H [] h47 rfl Q36.spec Zp 0 fun r3 w34 H h48=>?_
     refine Zo [14,15] ?_
     refine Zw [0,1,2,7,8,32] ?_
     refine jIf H (fun c11 H=>?_) fun c11 H=>?_
     ·refine T9 (T0 (Zb [0,1,2,7,8] ?_))
      have h49:=(sOR h48 [0] [])
      exact ⟨k7,by omega,_,H,rfl,h49,by omega⟩
     refine T3 ?_
     have h50:=(sOR h48 [0] [])
     exact ⟨k7,x13,(!r3),rfl,h50,H,by omega⟩
    refine Zo [4,5,6,7,8,9,10,11,12,13,14,15] ?_
    refine Zw [0,1,2,7,8,32] ?_
    refine Z6 ?_
    refine T3 ?_
    have h51:=(sOR h47 [0] [])
    exact ⟨k7,x13,false,rfl,h51,H,by omega⟩
   rintro env w5 ⟨k3,x6,x7,rfl,h4,H,hk3⟩
   refine T8 (T8 (Zb [0,1,2,7,8,37] ?_))
   refine jIf H (fun c2 H=>?_) fun c2 H=>?_
   ·refine T8 (Zb [6] ?_)
    cases H
    exact T7 (jR ⟨rfl,rfl,e1⟩ h4 [0])
   refine T9 (T8 (T8 (Zb [0,1,2,7,8,41] ?_)))
   refine jIf H (fun c3 H=>?_) fun c3 H=>?_
   ·refine T8 (Zb [6] ?_)
    cases H
    exact T7 (jR ⟨rfl,rfl,e1⟩ h4 [0])
   refine T9 (T8 ?_)
   obtain ⟨⟨p1,p2⟩,H⟩:=Zk H
   obtain ⟨⟨p3,p4⟩,H⟩:=Zk H
   refine T5 (fun env w=>env=[(0,.slice A1 ((x1.set x6.toNat (gt x1 (w64 (x6 - 1)))).set (w64 (x6 - 1)).toNat (gt x1 x6)).length c_1),(1,.int .i64 a1),(2,.int .i64 a2),(7,.int .i64 x6),(8,.int .i64 x3)]∧St w0 F0 [O33 ((x1.set x6.toNat (gt x1 (w64 (x6 - 1)))).set (w64 (x6 - 1)).toNat (gt x1 x6)) A1 c_1] [] w) ?_ ?_
   ·refine Zz (sO h4 []) ?_
    have h7:=h4.drew
    refine Zo [0,1,2,3,4,5,6,7,10,11] ?_
    have e6:=Z0 h7.wh (gO 0) p1 p2
    refine Zf 8 rfl (Zg e6 p1 p2) ?_
    refine Zf 12 rfl (Zg e6 p3 p4) ?_
    refine TY [9,13] (i:=9) rfl rfl rfl rfl ?_
    refine (Z5 ?_ (Z5 ?_ Y4))
    ·refine hQS 9 rfl (Zh 0 h7.wht (gO 0) p1 p2) h7 1 fun h7=>?_
     refine hQ 13 rfl (Zh 0 h7.wht (gO 0) p3 p4) h7 1 fun h7=>?_
     refine Zf 14 rfl (Zg e6 p3 p4) ?_
     refine hS 15 rfl (Zm 0 (.int .u32) x6 (gt x1 (w64 (x6 - 1))) 0 h7 rfl p3 p4) 1 fun _ w8 h8=>?_
     have e7:(x1.set x6.toNat (gt x1 (w64 (x6 - 1)))).length=a0.length:=List.length_set.trans e1
     refine Zf 16 rfl (Zg e6 p1 p2) ?_
     refine hS 17 rfl (Zm 0 (.int .u32) (w64 (x6 - 1)) (gt x1 x6) 0 h8 rfl p1 (by simpa only [List.length_set] using p2)) 1 fun _ w9 h9=>?_
     have e8:((x1.set x6.toNat (gt x1 (w64 (x6 - 1)))).set (w64 (x6 - 1)).toNat (gt x1 x6)).length=a0.length:=List.length_set.trans e7
     refine Zw [0,1,2,7,8] ?_
     exact Zu ⟨(by simp only [List.length_set,List.length_nil] <;> rfl),((h9.only [0] rfl).rds [] rfl)⟩
    ·refine hQS 13 rfl (Zh 0 h7.wht (gO 0) p3 p4) h7 1 fun h7=>?_
     refine hQ 9 rfl (Zh 0 h7.wht (gO 0) p1 p2) h7 1 fun h7=>?_
     refine Zf 14 rfl (Zg e6 p3 p4) ?_
     refine hS 15 rfl (Zm 0 (.int .u32) x6 (gt x1 (w64 (x6 - 1))) 0 h7 rfl p3 p4) 1 fun _ w10 h10=>?_
     have e9:(x1.set x6.toNat (gt x1 (w64 (x6 - 1)))).length=a0.length:=List.length_set.trans e1
     refine Zf 16 rfl (Zg e6 p1 p2) ?_
     refine hS 17 rfl (Zm 0 (.int .u32) (w64 (x6 - 1)) (gt x1 x6) 0 h10 rfl p1 (by simpa only [List.length_set] using p2)) 1 fun _ w11 h11=>?_
     have e10:((x1.set x6.toNat (gt x1 (w64 (x6 - 1)))).set (w64 (x6 - 1)).toNat (gt x1 x6)).length=a0.length:=List.length_set.trans e9
     refine Zw [0,1,2,7,8] ?_
     exact Zu ⟨(by simp only [List.length_set,List.length_nil] <;> rfl),((h11.only [0] rfl).rds [] rfl)⟩
   rintro env w12 ⟨rfl,h12⟩
   have e11:((x1.set x6.toNat (gt x1 (w64 (x6 - 1)))).set (w64 (x6 - 1)).toNat (gt x1 x6)).length=a0.length:=by first | (simp only [List.length_set]; done) | (simp only [List.length_set]; exact e1)
   refine T8 (T8 (Zb [0,1,2,7,8,61] ?_))
   refine T5 (fun env w=>∃(k4:Nat) (x8:TX),env=[(0,.slice A1 x8.length c_1),(1,.int .i64 a1),(2,.int .i64 a2),(7,.int .i64 x6),(8,.int .i64 x3)]∧St w0 F0 [O33 x8 A1 c_1] [] w∧(if (decide (2≤(w64 (a2 - x6))))=true then (Q124.l1 k4 a1 a2 x3 x6 x8 (w64 (x6+1))) else (Q124.l0 k4 a1 a2 x8 x6 (w64 (x3+1))))=some r∧k4≤k3∧x8.length=a0.length) ?_ ?_
   ·refine jIf H (fun c7 H=>?_) fun c7 H=>?_
    ·refine T8 (Zb [0,1,2,7,8,9] ?_)
     refine T0 ?_
     have h44:=(sOR h12 [0] [])
     refine T4 (fun kk env w=>∃ x11 x12,Q124.l2 kk a1 a2 x3 x6 x11 x12=some r∧env=[(0,.slice A1 x11.length c_1),(1,.int .i64 a1),(2,.int .i64 a2),(7,.int .i64 x6),(8,.int .i64 x3),(9,.int .i64 x12)]∧St w0 F0 [O33 x11 A1 c_1] [] w∧kk≤k3∧x11.length=a0.length) (k:=k3) ⟨_,_,H,rfl,h44,Sa _,e11⟩ ?_
     rintro k6 env w24 ⟨x11,x12,H,rfl,h30,hk6,e22⟩
     rcases k6 with _ | k6
     ·exact z0 H
     rw [Q124.l2] at H
     refine T8 (T8 (Zb [0,1,2,7,8,9,65] ?_))
     refine jIf H (fun c8 H=>?_) fun c8 H=>?_
     ·refine T9 (T8 (T0 (T8 (T8 ?_))))
      refine jH h30 fun h31=>?_
      refine Zo [0,1,4,5,6] ?_
      obtain ⟨⟨p9,p10⟩,H⟩:=Zk H
      have e23:=Z0 h31.wh (gO 0) p9 p10
      refine Zf 2 rfl (Zg e23 p9 p10) ?_
      refine Zf 3 rfl (Zh 0 wI (gO 0) p9 p10) ?_
      obtain ⟨⟨p11,p12⟩,H⟩:=Zk H
      refine Zf 7 rfl (Zg e23 p11 p12) ?_
      refine Zf 8 rfl (Zh 0 wI (gO 0) p11 p12) ?_
      refine cSJ 9 rfl H [] h31 rfl Q36.spec Zp 0 fun r2 w25 H h32=>?_
      refine Zo [10] ?_
      refine Zw [0,1,2,7,8,9,78] ?_
      refine jIf H (fun c9 H=>?_) fun c9 H=>?_
      ·refine Wk [0,1,2,7,8] ?_
       refine T3 ?_
       have h33:=(sOR h32 [0] [])
       exact ⟨k6,x11,rfl,h33,H,by omega,e22⟩
      refine T9 (J.mid (fun env w=>env=[(0,.slice A1 ((x11.set x12.toNat (gt x11 (w64 (x12 - 1)))).set (w64 (x12 - 1)).toNat (gt x11 x12)).length c_1),(1,.int .i64 a1),(2,.int .i64 a2),(7,.int .i64 x6),(8,.int .i64 x3),(9,.int .i64 x12)]∧St w0 F0 [O33 ((x11.set x12.toNat (gt x11 (w64 (x12 - 1)))).set (w64 (x12 - 1)).toNat (gt x11 x12)) A1 c_1] [] w) ?_ ?_)
      ·refine Zz (sO h32 []) ?_
       have h36:=h32.drew
       refine Zo [0,1,2,3,4,5,6,7,10,11] ?_
       refine Zf 8 rfl (Zg e23 p11 p12) ?_
       refine Zf 12 rfl (Zg e23 p9 p10) ?_
       refine TY [9,13] (i:=9) rfl rfl rfl rfl ?_
       refine (Z5 ?_ (Z5 ?_ Y4))
       ·refine hQS 9 rfl (Zh 0 h36.wht (gO 0) p11 p12) h36 1 fun h36=>?_
        refine hQ 13 rfl (Zh 0 h36.wht (gO 0) p9 p10) h36 1 fun h36=>?_
        refine Zf 14 rfl (Zg e23 p9 p10) ?_
        refine hS 15 rfl (Zm 0 (.int .u32) x12 (gt x11 (w64 (x12 - 1))) 0 h36 rfl p9 p10) 1 fun _ w28 h37=>?_
        have e26:(x11.set x12.toNat (gt x11 (w64 (x12 - 1)))).length=a0.length:=List.length_set.trans e22
        refine Zf 16 rfl (Zg e23 p11 p12) ?_
        refine hS 17 rfl (Zm 0 (.int .u32) (w64 (x12 - 1)) (gt x11 x12) 0 h37 rfl p11 (by simpa only [List.length_set] using p12)) 1 fun _ w29 h38=>?_
        have e27:((x11.set x12.toNat (gt x11 (w64 (x12 - 1)))).set (w64 (x12 - 1)).toNat (gt x11 x12)).length=a0.length:=List.length_set.trans e26
        refine Zw [0,1,2,7,8,9] ?_
        exact Zu ⟨(by simp only [List.length_set,List.length_nil] <;> rfl),((h38.only [0] rfl).rds [] rfl)⟩
       ·refine hQS 13 rfl (Zh 0 h36.wht (gO 0) p9 p10) h36 1 fun h36=>?_
        refine hQ 9 rfl (Zh 0 h36.wht (gO 0) p11 p12) h36 1 fun h36=>?_
        refine Zf 14 rfl (Zg e23 p9 p10) ?_
        refine hS 15 rfl (Zm 0 (.int .u32) x12 (gt x11 (w64 (x12 - 1))) 0 h36 rfl p9 p10) 1 fun _ w30 h39=>?_
        have e28:(x11.set x12.toNat (gt x11 (w64 (x12 - 1)))).length=a0.length:=List.length_set.trans e22
        refine Zf 16 rfl (Zg e23 p11 p12) ?_
        refine hS 17 rfl (Zm 0 (.int .u32) (w64 (x12 - 1)) (gt x11 x12) 0 h39 rfl p11 (by simpa only [List.length_set] using p12)) 1 fun _ w31 h40=>?_
        have e29:((x11.set x12.toNat (gt x11 (w64 (x12 - 1)))).set (w64 (x12 - 1)).toNat (gt x11 x12)).length=a0.length:=List.length_set.trans e28
        refine Zw [0,1,2,7,8,9] ?_
        exact Zu ⟨(by simp only [List.length_set,List.length_nil] <;> rfl),((h40.only [0] rfl).rds [] rfl)⟩
      rintro env w32 ⟨rfl,h41⟩
      have e30:((x11.set x12.toNat (gt x11 (w64 (x12 - 1)))).set (w64 (x12 - 1)).toNat (gt x11 x12)).length=a0.length:=by first | (simp only [List.length_set]; done) | (simp only [List.length_set]; exact e22)
      refine Zb [0,1,2,7,8,9] ?_
      have h42:=(sOR h41 [0] [])
      exact ⟨k6,by omega,_,_,H,rfl,h42,by omega,e30⟩
     refine Wk [0,1,2,7,8] ?_
     refine T3 ?_
     have h43:=(sOR h30 [0] [])
     exact ⟨k6,x11,rfl,h43,H,by omega,e22⟩
    refine Wk [0,1,2,7,8] ?_
    refine T9 ?_
    have h45:=(sOR h12 [0] [])
    exact ⟨k3,((x1.set x6.toNat (gt x1 (w64 (x6 - 1)))).set (w64 (x6 - 1)).toNat (gt x1 x6)),rfl,h45,H,Sa _,e11⟩
   rintro env w14 ⟨k4,x8,rfl,h13,H,hk4,e12⟩
   refine T8 (Zb [0,1,2,7,8,98] ?_)
   refine jIf H (fun c4 H=>?_) fun c4 H=>?_
   ·refine T8 (Zb [0,1,2,7,8,10] ?_)
    refine T0 ?_
    have h28:=(sOR h13 [0] [])
    refine T4 (fun kk env w=>∃ x9 x10,Q124.l1 kk a1 a2 x3 x6 x9 x10=some r∧env=[(0,.slice A1 x9.length c_1),(1,.int .i64 a1),(2,.int .i64 a2),(7,.int .i64 x6),(8,.int .i64 x3),(10,.int .i64 x10)]∧St w0 F0 [O33 x9 A1 c_1] [] w∧kk≤k4∧x9.length=a0.length) (k:=k4) ⟨_,_,H,rfl,h28,Sa _,e12⟩ ?_
    rintro k5 env w15 ⟨x9,x10,H,rfl,h14,hk5,e13⟩
    rcases k5 with _ | k5
    ·exact z0 H
    rw [Q124.l1] at H
    refine T8 (T8 (Zb [0,1,2,7,8,10,103] ?_))
    refine jIf H (fun c5 H=>?_) fun c5 H=>?_
    ·refine T9 (T8 (T0 (T8 (T8 ?_))))
     refine jH h14 fun h15=>?_
     refine Zo [0,1,4,5,6] ?_
     obtain ⟨⟨p5,p6⟩,H⟩:=Zk H
     have e14:=Z0 h15.wh (gO 0) p5 p6
     refine Zf 2 rfl (Zg e14 p5 p6) ?_
     refine Zf 3 rfl (Zh 0 wI (gO 0) p5 p6) ?_
     obtain ⟨⟨p7,p8⟩,H⟩:=Zk H
     refine Zf 7 rfl (Zg e14 p7 p8) ?_
     refine Zf 8 rfl (Zh 0 wI (gO 0) p7 p8) ?_
     refine cSJ 9 rfl H [] h15 rfl Q36.spec Zp 0 fun r1 w16 H h16=>?_
     refine Zo [10] ?_
     refine Zw [0,1,2,7,8,10,116] ?_
     refine jIf H (fun c6 H=>?_) fun c6 H=>?_
     ·refine Wk [0,1,2,7,8] ?_
      refine T3 ?_
      have h17:=(sOR h16 [0] [])
      exact ⟨k5,x9,x6,rfl,h17,H,by omega,e13⟩
     refine T9 (J.mid (fun env w=>env=[(0,.slice A1 ((x9.set x10.toNat (gt x9 (w64 (x10 - 1)))).set (w64 (x10 - 1)).toNat (gt x9 x10)).length c_1),(1,.int .i64 a1),(2,.int .i64 a2),(7,.int .i64 x6),(8,.int .i64 x3),(10,.int .i64 x10)]∧St w0 F0 [O33 ((x9.set x10.toNat (gt x9 (w64 (x10 - 1)))).set (w64 (x10 - 1)).toNat (gt x9 x10)) A1 c_1] [] w) ?_ ?_)
     ·refine Zz (sO h16 []) ?_
      have h20:=h16.drew
      refine Zo [0,1,2,3,4,5,6,7,10,11] ?_
      refine Zf 8 rfl (Zg e14 p7 p8) ?_
      refine Zf 12 rfl (Zg e14 p5 p6) ?_
      refine TY [9,13] (i:=9) rfl rfl rfl rfl ?_
      refine (Z5 ?_ (Z5 ?_ Y4))
      ·refine hQS 9 rfl (Zh 0 h20.wht (gO 0) p7 p8) h20 1 fun h20=>?_
       refine hQ 13 rfl (Zh 0 h20.wht (gO 0) p5 p6) h20 1 fun h20=>?_
       refine Zf 14 rfl (Zg e14 p5 p6) ?_
       refine hS 15 rfl (Zm 0 (.int .u32) x10 (gt x9 (w64 (x10 - 1))) 0 h20 rfl p5 p6) 1 fun _ w19 h21=>?_
       have e17:(x9.set x10.toNat (gt x9 (w64 (x10 - 1)))).length=a0.length:=List.length_set.trans e13
       refine Zf 16 rfl (Zg e14 p7 p8) ?_
       refine hS 17 rfl (Zm 0 (.int .u32) (w64 (x10 - 1)) (gt x9 x10) 0 h21 rfl p7 (by simpa only [List.length_set] using p8)) 1 fun _ w20 h22=>?_
       have e18:((x9.set x10.toNat (gt x9 (w64 (x10 - 1)))).set (w64 (x10 - 1)).toNat (gt x9 x10)).length=a0.length:=List.length_set.trans e17
       refine Zw [0,1,2,7,8,10] ?_
       exact Zu ⟨(by simp only [List.length_set,List.length_nil] <;> rfl),((h22.only [0] rfl).rds [] rfl)⟩
      ·refine hQS 13 rfl (Zh 0 h20.wht (gO 0) p5 p6) h20 1 fun h20=>?_
       refine hQ 9 rfl (Zh 0 h20.wht (gO 0) p7 p8) h20 1 fun h20=>?_
       refine Zf 14 rfl (Zg e14 p5 p6) ?_
       refine hS 15 rfl (Zm 0 (.int .u32) x10 (gt x9 (w64 (x10 - 1))) 0 h20 rfl p5 p6) 1 fun _ w21 h23=>?_
       have e19:(x9.set x10.toNat (gt x9 (w64 (x10 - 1)))).length=a0.length:=List.length_set.trans e13
       refine Zf 16 rfl (Zg e14 p7 p8) ?_
       refine hS 17 rfl (Zm 0 (.int .u32) (w64 (x10 - 1)) (gt x9 x10) 0 h23 rfl p7 (by simpa only [List.length_set] using p8)) 1 fun _ w22 h24=>?_
       have e20:((x9.set x10.toNat (gt x9 (w64 (x10 - 1)))).set (w64 (x10 - 1)).toNat (gt x9 x10)).length=a0.length:=List.length_set.trans e19
       refine Zw [0,1,2,7,8,10] ?_
       exact Zu ⟨(by simp only [List.length_set,List.length_nil] <;> rfl),((h24.only [0] rfl).rds [] rfl)⟩
     rintro env w23 ⟨rfl,h25⟩
     have e21:((x9.set x10.toNat (gt x9 (w64 (x10 - 1)))).set (w64 (x10 - 1)).toNat (gt x9 x10)).length=a0.length:=by first | (simp only [List.length_set]; done) | (simp only [List.length_set]; exact e13)
     refine Zb [0,1,2,7,8,10] ?_
     have h26:=(sOR h25 [0] [])
     exact ⟨k5,by omega,_,_,H,rfl,h26,by omega,e21⟩
    refine Wk [0,1,2,7,8] ?_
    refine T3 ?_
    have h27:=(sOR h14 [0] [])
    exact ⟨k5,x9,x6,rfl,h27,H,by omega,e13⟩
   refine Wk [0,1,2,7,8] ?_
   refine T9 ?_
   have h29:=(sOR h13 [0] [])
   exact ⟨k4,x8,x6,rfl,h29,H,by omega,e12⟩
  rintro env w3 ⟨k2,x4,x5,rfl,h2,H,hk2,e2⟩
  refine Zb [0,1,2,7,8] ?_
  have h3:=(sOR h2 [0] [])
  exact ⟨k2,by omega,_,_,_,H,rfl,h3,e2⟩
 refine T3 (T8 (Zb [6] ?_))
 cases H
 exact T7 (jR ⟨rfl,rfl,e1⟩ h1 [0])

mutual
def Q125.l0:Nat→Int→TX→Int→Int→Option TR
 | 0,_,_,_,_=>none
 | k+1,a1,x1,x2,x3=>Q125.l1 k a1 x1 x3 x2
def Q125.l1:Nat→Int→TX→Int→Int→Option TR
 | 0,_,_,_,_=>none
 | k+1,a1,x1,x3,x4=>if (decide (x4≤x3))=true then (if 0≤a1∧a1<(x1.length:Int) then (if 0≤x4∧x4<(x1.length:Int) then ((Q36.f (gt x1 a1) (gt x1 x4)).bind fun r1=>(if (!r1)=true then (Q125.l1 k a1 x1 x3 (w64 (x4+1))) else (Q125.l2 k a1 x1 x4 x3))) else none) else none) else (Q125.l3 k a1 x1 x3 x4)
def Q125.l2:Nat→Int→TX→Int→Int→Option TR
 | 0,_,_,_,_=>none
 | k+1,a1,x1,x4,x5=>if (decide (x4≤x5))=true then (if 0≤x5∧x5<(x1.length:Int) then ((Q36.f (gt x1 a1) (gt x1 x5)).bind fun r2=>(if r2=true then (Q125.l2 k a1 x1 x4 (w64 (x5 - 1))) else (if (decide (x5<x4))=true then (some (x4,x1)) else (Q125.l0 k a1 ((x1.set x4.toNat (gt x1 x5)).set x5.toNat (gt x1 x4)) (w64 (x4+1)) (w64 (x5 - 1)))))) else none) else (if (decide (x5<x4))=true then (some (x4,x1)) else (if 0≤x5∧x5<(x1.length:Int) then (Q125.l0 k a1 ((x1.set x4.toNat (gt x1 x5)).set x5.toNat (gt x1 x4)) (w64 (x4+1)) (w64 (x5 - 1))) else none))
def Q125.l3:Nat→Int→TX→Int→Int→Option TR
 | 0,_,_,_,_=>none
 | k+1,a1,x1,x3,x4=>if (decide (x3<x4))=true then (some (x4,x1)) else (if 0≤x3∧x3<(x1.length:Int) then (if 0≤x4∧x4<(x1.length:Int) then (Q125.l0 k a1 ((x1.set x4.toNat (gt x1 x3)).set x3.toNat (gt x1 x4)) (w64 (x4+1)) (w64 (x3 - 1))) else none) else none)
end
def Q125.f (k:Nat) (a0:TX) (a1:Int) (a2:Int) (a3:Int):Option TR:=if 0≤a3∧a3<(a0.length:Int) then (if 0≤a1∧a1<(a0.length:Int) then (Q125.l0 k a1 ((a0.set a1.toNat (gt a0 a3)).set a3.toNat (gt a0 a1)) (w64 (a1+1)) (w64 (a2 - 1))) else none) else none
theorem Q125.spec {k a0 a1 a2 a3 A1 c_1 r} (H:Q125.f k a0 a1 a2 a3=some r) :
  Spec Tryz.prog 241 [.slice A1 a0.length c_1,.int .i64 a1,.int .i64 a2,.int .i64 a3] [O33 a0 A1 c_1] [] (fun v l=>v=.int .i64 r.1∧l=[O33 r.2 A1 c_1]∧r.2.length=a0.length):=by
 refine Zi Tryz.func241 fun w0 F0 h0=>?_
 unfold Q125.f at H
 refine T8 (Zb [0,1,2,3] ?_)
 refine T8 ?_
 obtain ⟨⟨p1,p2⟩,H⟩:=Zk H
 obtain ⟨⟨p3,p4⟩,H⟩:=Zk H
 refine T5 (fun env w=>env=[(0,.slice A1 ((a0.set a1.toNat (gt a0 a3)).set a3.toNat (gt a0 a1)).length c_1),(1,.int .i64 a1),(2,.int .i64 a2)]∧St w0 F0 [O33 ((a0.set a1.toNat (gt a0 a3)).set a3.toNat (gt a0 a1)) A1 c_1] [] w) ?_ ?_
 ·refine Zz (sO h0 []) ?_
  have h3:=h0.drew
  refine Zo [0,1,2,3,4,5,8,9] ?_
  have e4:=Z0 h3.wh (gO 0) p1 p2
  refine Zf 6 rfl (Zg e4 p1 p2) ?_
  refine Zf 10 rfl (Zg e4 p3 p4) ?_
  refine TY [7,11] (i:=7) rfl rfl rfl rfl ?_
  refine (Z5 ?_ (Z5 ?_ Y4))
  ·refine hQS 7 rfl (Zh 0 h3.wht (gO 0) p1 p2) h3 1 fun h3=>?_
   refine hQ 11 rfl (Zh 0 h3.wht (gO 0) p3 p4) h3 1 fun h3=>?_
   refine Zf 12 rfl (Zg e4 p3 p4) ?_
   refine hS 13 rfl (Zm 0 (.int .u32) a1 (gt a0 a3) 0 h3 rfl p3 p4) 1 fun _ w3 h4=>?_
   have e5:(a0.set a1.toNat (gt a0 a3)).length=a0.length:=List.length_set.trans (rfl:a0.length=a0.length)
   refine Zf 14 rfl (Zg e4 p1 p2) ?_
   refine hS 15 rfl (Zm 0 (.int .u32) a3 (gt a0 a1) 0 h4 rfl p1 (by simpa only [List.length_set] using p2)) 1 fun _ w4 h5=>?_
   have e6:((a0.set a1.toNat (gt a0 a3)).set a3.toNat (gt a0 a1)).length=a0.length:=List.length_set.trans e5
   refine Zw [0,1,2] ?_
   exact Zu ⟨(by simp only [List.length_set,List.length_nil] <;> rfl),((h5.only [0] rfl).rds [] rfl)⟩
  ·refine hQS 11 rfl (Zh 0 h3.wht (gO 0) p3 p4) h3 1 fun h3=>?_
   refine hQ 7 rfl (Zh 0 h3.wht (gO 0) p1 p2) h3 1 fun h3=>?_
   refine Zf 12 rfl (Zg e4 p3 p4) ?_
   refine hS 13 rfl (Zm 0 (.int .u32) a1 (gt a0 a3) 0 h3 rfl p3 p4) 1 fun _ w5 h6=>?_
   have e7:(a0.set a1.toNat (gt a0 a3)).length=a0.length:=List.length_set.trans (rfl:a0.length=a0.length)
   refine Zf 14 rfl (Zg e4 p1 p2) ?_
   refine hS 15 rfl (Zm 0 (.int .u32) a3 (gt a0 a1) 0 h6 rfl p1 (by simpa only [List.length_set] using p2)) 1 fun _ w6 h7=>?_
   have e8:((a0.set a1.toNat (gt a0 a3)).set a3.toNat (gt a0 a1)).length=a0.length:=List.length_set.trans e7
   refine Zw [0,1,2] ?_
   exact Zu ⟨(by simp only [List.length_set,List.length_nil] <;> rfl),((h7.only [0] rfl).rds [] rfl)⟩
 rintro env w7 ⟨rfl,h8⟩
 have e9:((a0.set a1.toNat (gt a0 a3)).set a3.toNat (gt a0 a1)).length=a0.length:=by first | (simp only [List.length_set]; done) | (simp only [List.length_set]; exact (rfl:a0.length=a0.length))
 refine T8 (Zb [0,1,9,10] ?_)
 refine T8 (T0 ?_)
 have h50:=(sOR h8 [0] [])
 refine T4 (fun kk env w=>∃ x1 x2 x3,Q125.l0 kk a1 x1 x2 x3=some r∧env=[(0,.slice A1 x1.length c_1),(1,.int .i64 a1),(9,.int .i64 x2),(10,.int .i64 x3)]∧St w0 F0 [O33 x1 A1 c_1] [] w∧x1.length=a0.length) (k:=k) ⟨_,_,_,H,rfl,h50,e9⟩ ?_
 rintro k1 env w8 ⟨x1,x2,x3,H,rfl,h9,e10⟩
 rcases k1 with _ | k1
 ·exact z0 H
 rw [Q125.l0] at H
 refine T0 (T8 (T0 ?_))
 have h49:=(sOR h9 [0] [])
 refine T4 (fun kk env w=>∃ x4,Q125.l1 kk a1 x1 x3 x4=some r∧env=[(0,.slice A1 x1.length c_1),(1,.int .i64 a1),(9,.int .i64 x4),(10,.int .i64 x3)]∧St w0 F0 [O33 x1 A1 c_1] [] w∧kk≤k1) (k:=k1) ⟨_,H,rfl,h49,Sa _⟩ ?_
 rintro k2 env w9 ⟨x4,H,rfl,h10,hk2⟩
 rcases k2 with _ | k2
 ·exact z0 H
 rw [Q125.l1] at H
 refine T8 (T8 ?_)
 refine jH h10 fun h11=>?_
 refine Zo [0,1,2,3] ?_
 refine X8 32 H (fun c1 H=>?_) fun c1 H=>?_
 ·refine Zo [4,5,8,9] ?_
  obtain ⟨⟨p5,p6⟩,H⟩:=Zk H
  have e11:=Z0 h11.wh (gO 0) p5 p6
  refine Zf 6 rfl (Zg e11 p5 p6) ?_
  refine Zf 7 rfl (Zh 0 wI (gO 0) p5 p6) ?_
  obtain ⟨⟨p7,p8⟩,H⟩:=Zk H
  refine Zf 10 rfl (Zg e11 p7 p8) ?_
  refine Zf 11 rfl (Zh 0 wI (gO 0) p7 p8) ?_
  refine cSJ 12 rfl H [] h11 rfl Q36.spec Zp 0 fun r1 w10 H h12=>?_
  refine Zo [13,14] ?_
  refine Zw [0,1,9,10,43] ?_
  refine jIf H (fun c2 H=>?_) fun c2 H=>?_
  ·refine T9 (T0 (Zb [0,1,9,10] ?_))
   have h13:=(sOR h12 [0] [])
   exact ⟨k2,by omega,_,H,rfl,h13,by omega⟩
  refine T3 (T8 (T0 ?_))
  refine Wk [0,1,9,10] ?_
  have h36:=(sOR h12 [0] [])
  refine T4 (fun kk env w=>∃ x5,Q125.l2 kk a1 x1 x4 x5=some r∧env=[(0,.slice A1 x1.length c_1),(1,.int .i64 a1),(9,.int .i64 x4),(10,.int .i64 x5)]∧St w0 F0 [O33 x1 A1 c_1] [] w∧kk≤k2) (k:=k2) ⟨_,H,rfl,h36,Sa _⟩ ?_
  rintro k3 env w11 ⟨x5,H,rfl,h14,hk3⟩
  rcases k3 with _ | k3
  ·exact z0 H
  rw [Q125.l2] at H
  refine T8 (T8 ?_)
  refine jH h14 fun h15=>?_
  refine Zo [0,1,2,3] ?_
  refine X8 49 H (fun c3 H=>?_) fun c3 H=>?_
  ·refine Zo [4,5,8,9] ?_
   refine Zf 6 rfl (Zg e11 p5 p6) ?_
   refine Zf 7 rfl (Zh 0 wI (gO 0) p5 p6) ?_
   obtain ⟨⟨p9,p10⟩,H⟩:=Zk H
   refine Zf 10 rfl (Zg e11 p9 p10) ?_
   refine Zf 11 rfl (Zh 0 wI (gO 0) p9 p10) ?_
   refine cSJ 12 rfl H [] h15 rfl Q36.spec Zp 0 fun r2 w12 H h16=>?_
   refine Zo [13] ?_
   refine Zw [0,1,9,10,59] ?_
   refine jIf H (fun c4 H=>?_) fun c4 H=>?_
   ·refine T9 (T0 (Zb [0,1,9,10] ?_))
    have h17:=(sOR h16 [0] [])
    exact ⟨k3,by omega,_,H,rfl,h17,by omega⟩
   refine T3 (T8 (T8 (Zb [0,1,9,10,64] ?_)))
   refine jIf H (fun c5 H=>?_) fun c5 H=>?_
   ·refine T3 (T8 (Zb [8] ?_))
    cases H
    exact T7 (jR ⟨rfl,rfl,e10⟩ h16 [0])
   refine T9 (T8 (T5 (fun env w=>env=[(0,.slice A1 ((x1.set x4.toNat (gt x1 x5)).set x5.toNat (gt x1 x4)).length c_1),(1,.int .i64 a1),(9,.int .i64 x4),(10,.int .i64 x5)]∧St w0 F0 [O33 ((x1.set x4.toNat (gt x1 x5)).set x5.toNat (gt x1 x4)) A1 c_1] [] w) ?_ ?_))
   ·refine Zz (sO h16 []) ?_
    have h20:=h16.drew
    refine Zo [0,1,2,3,4,5,8,9] ?_
    refine Zf 6 rfl (Zg e11 p9 p10) ?_
    refine Zf 10 rfl (Zg e11 p7 p8) ?_
    refine TY [7,11] (i:=7) rfl rfl rfl rfl ?_
    refine (Z5 ?_ (Z5 ?_ Y4))
    ·refine hQS 7 rfl (Zh 0 h20.wht (gO 0) p9 p10) h20 1 fun h20=>?_
     refine hQ 11 rfl (Zh 0 h20.wht (gO 0) p7 p8) h20 1 fun h20=>?_
     refine Zf 12 rfl (Zg e11 p7 p8) ?_
     refine hS 13 rfl (Zm 0 (.int .u32) x4 (gt x1 x5) 0 h20 rfl p7 p8) 1 fun _ w15 h21=>?_
     have e14:(x1.set x4.toNat (gt x1 x5)).length=a0.length:=List.length_set.trans e10
     refine Zf 14 rfl (Zg e11 p9 p10) ?_
     refine hS 15 rfl (Zm 0 (.int .u32) x5 (gt x1 x4) 0 h21 rfl p9 (by simpa only [List.length_set] using p10)) 1 fun _ w16 h22=>?_
     have e15:((x1.set x4.toNat (gt x1 x5)).set x5.toNat (gt x1 x4)).length=a0.length:=List.length_set.trans e14
     refine Zw [0,1,9,10] ?_
     exact Zu ⟨(by simp only [List.length_set,List.length_nil] <;> rfl),((h22.only [0] rfl).rds [] rfl)⟩
    ·refine hQS 11 rfl (Zh 0 h20.wht (gO 0) p7 p8) h20 1 fun h20=>?_
     refine hQ 7 rfl (Zh 0 h20.wht (gO 0) p9 p10) h20 1 fun h20=>?_
     refine Zf 12 rfl (Zg e11 p7 p8) ?_
     refine hS 13 rfl (Zm 0 (.int .u32) x4 (gt x1 x5) 0 h20 rfl p7 p8) 1 fun _ w17 h23=>?_
     have e16:(x1.set x4.toNat (gt x1 x5)).length=a0.length:=List.length_set.trans e10
     refine Zf 14 rfl (Zg e11 p9 p10) ?_
     refine hS 15 rfl (Zm 0 (.int .u32) x5 (gt x1 x4) 0 h23 rfl p9 (by simpa only [List.length_set] using p10)) 1 fun _ w18 h24=>?_
     have e17:((x1.set x4.toNat (gt x1 x5)).set x5.toNat (gt x1 x4)).length=a0.length:=List.length_set.trans e16
     refine Zw [0,1,9,10] ?_
     exact Zu ⟨(by simp only [List.length_set,List.length_nil] <;> rfl),((h24.only [0] rfl).rds [] rfl)⟩
   rintro env w19 ⟨rfl,h25⟩
   have e18:((x1.set x4.toNat (gt x1 x5)).set x5.toNat (gt x1 x4)).length=a0.length:=by first | (simp only [List.length_set]; done) | (simp only [List.length_set]; exact e10)
   refine T8 (Zb [0,1,9,10] ?_)
   refine Zb [0,1,9,10] ?_
   have h26:=(sOR h25 [0] [])
   exact ⟨k3,by omega,_,_,_,H,rfl,h26,e18⟩
  refine Zo [4,5,6,7,8,9,10,11,12,13] ?_
  refine Zw [0,1,9,10,59] ?_
  refine Z6 ?_
  refine T3 (T8 (T8 (Zb [0,1,9,10,64] ?_)))
  refine jIf H (fun c6 H=>?_) fun c6 H=>?_
  ·refine T3 (T8 (Zb [8] ?_))
   cases H
   exact T7 (jR ⟨rfl,rfl,e10⟩ h15 [0])
  refine T9 (T8 ?_)
  obtain ⟨⟨p11,p12⟩,H⟩:=Zk H
  refine T5 (fun env w=>env=[(0,.slice A1 ((x1.set x4.toNat (gt x1 x5)).set x5.toNat (gt x1 x4)).length c_1),(1,.int .i64 a1),(9,.int .i64 x4),(10,.int .i64 x5)]∧St w0 F0 [O33 ((x1.set x4.toNat (gt x1 x5)).set x5.toNat (gt x1 x4)) A1 c_1] [] w) ?_ ?_
  ·refine Zz (sO h15 []) ?_
   have h29:=h15.drew
   refine Zo [0,1,2,3,4,5,8,9] ?_
   refine Zf 6 rfl (Zg e11 p11 p12) ?_
   refine Zf 10 rfl (Zg e11 p7 p8) ?_
   refine TY [7,11] (i:=7) rfl rfl rfl rfl ?_
   refine (Z5 ?_ (Z5 ?_ Y4))
   ·refine hQS 7 rfl (Zh 0 h29.wht (gO 0) p11 p12) h29 1 fun h29=>?_
    refine hQ 11 rfl (Zh 0 h29.wht (gO 0) p7 p8) h29 1 fun h29=>?_
    refine Zf 12 rfl (Zg e11 p7 p8) ?_
    refine hS 13 rfl (Zm 0 (.int .u32) x4 (gt x1 x5) 0 h29 rfl p7 p8) 1 fun _ w22 h30=>?_
    have e21:(x1.set x4.toNat (gt x1 x5)).length=a0.length:=List.length_set.trans e10
    refine Zf 14 rfl (Zg e11 p11 p12) ?_
    refine hS 15 rfl (Zm 0 (.int .u32) x5 (gt x1 x4) 0 h30 rfl p11 (by simpa only [List.length_set] using p12)) 1 fun _ w23 h31=>?_
    have e22:((x1.set x4.toNat (gt x1 x5)).set x5.toNat (gt x1 x4)).length=a0.length:=List.length_set.trans e21
    refine Zw [0,1,9,10] ?_
    exact Zu ⟨(by simp only [List.length_set,List.length_nil] <;> rfl),((h31.only [0] rfl).rds [] rfl)⟩
   ·refine hQS 11 rfl (Zh 0 h29.wht (gO 0) p7 p8) h29 1 fun h29=>?_
    refine hQ 7 rfl (Zh 0 h29.wht (gO 0) p11 p12) h29 1 fun h29=>?_
    refine Zf 12 rfl (Zg e11 p7 p8) ?_
    refine hS 13 rfl (Zm 0 (.int .u32) x4 (gt x1 x5) 0 h29 rfl p7 p8) 1 fun _ w24 h32=>?_
    have e23:(x1.set x4.toNat (gt x1 x5)).length=a0.length:=List.length_set.trans e10
    refine Zf 14 rfl (Zg e11 p11 p12) ?_
    refine hS 15 rfl (Zm 0 (.int .u32) x5 (gt x1 x4) 0 h32 rfl p11 (by simpa only [List.length_set] using p12)) 1 fun _ w25 h33=>?_
    have e24:((x1.set x4.toNat (gt x1 x5)).set x5.toNat (gt x1 x4)).length=a0.length:=List.length_set.trans e23
    refine Zw [0,1,9,10] ?_
    exact Zu ⟨(by simp only [List.length_set,List.length_nil] <;> rfl),((h33.only [0] rfl).rds [] rfl)⟩
  rintro env w26 ⟨rfl,h34⟩
  have e25:((x1.set x4.toNat (gt x1 x5)).set x5.toNat (gt x1 x4)).length=a0.length:=by first | (simp only [List.length_set]; done) | (simp only [List.length_set]; exact e10)
  refine T8 (Zb [0,1,9,10] ?_)
  refine Zb [0,1,9,10] ?_
  have h35:=(sOR h34 [0] [])
  exact ⟨k3,by omega,_,_,_,H,rfl,h35,e25⟩
 refine Zo [4,5,6,7,8,9,10,11,12,13,14] ?_
 refine Zw [0,1,9,10,43] ?_
 refine Z6 ?_
 refine T3 (T8 (T0 ?_))
 refine Wk [0,1,9,10] ?_
 have h48:=(sOR h11 [0] [])
 refine T4 (fun kk env w=>Q125.l3 kk a1 x1 x3 x4=some r∧env=[(0,.slice A1 x1.length c_1),(1,.int .i64 a1),(9,.int .i64 x4),(10,.int .i64 x3)]∧St w0 F0 [O33 x1 A1 c_1] [] w∧kk≤k2) (k:=k2) ⟨H,rfl,h48,Sa _⟩ ?_
 rintro k4 env w27 ⟨H,rfl,h37,hk4⟩
 rcases k4 with _ | k4
 ·exact z0 H
 rw [Q125.l3] at H
 refine T8 (T8 ?_)
 refine jH h37 fun h38=>?_
 refine Zo [0,1,2,3] ?_
 refine Zf0 49 (congrArg Value.bool c1) ?_
 refine Zo [4,5,6,7,8,9,10,11,12,13] ?_
 refine Zw [0,1,9,10,59] ?_
 refine Z6 ?_
 refine T3 (T8 (T8 (Zb [0,1,9,10,64] ?_)))
 refine jIf H (fun c7 H=>?_) fun c7 H=>?_
 ·refine T3 (T8 (Zb [8] ?_))
  cases H
  exact T7 (jR ⟨rfl,rfl,e10⟩ h38 [0])
 refine T9 (T8 ?_)
 obtain ⟨⟨p13,p14⟩,H⟩:=Zk H
 obtain ⟨⟨p15,p16⟩,H⟩:=Zk H
 refine T5 (fun env w=>env=[(0,.slice A1 ((x1.set x4.toNat (gt x1 x3)).set x3.toNat (gt x1 x4)).length c_1),(1,.int .i64 a1),(9,.int .i64 x4),(10,.int .i64 x3)]∧St w0 F0 [O33 ((x1.set x4.toNat (gt x1 x3)).set x3.toNat (gt x1 x4)) A1 c_1] [] w) ?_ ?_
 ·refine Zz (sO h38 []) ?_
  have h41:=h38.drew
  refine Zo [0,1,2,3,4,5,8,9] ?_
  have e29:=Z0 h41.wh (gO 0) p13 p14
  refine Zf 6 rfl (Zg e29 p13 p14) ?_
  refine Zf 10 rfl (Zg e29 p15 p16) ?_
  refine TY [7,11] (i:=7) rfl rfl rfl rfl ?_
  refine (Z5 ?_ (Z5 ?_ Y4))
  ·refine hQS 7 rfl (Zh 0 h41.wht (gO 0) p13 p14) h41 1 fun h41=>?_
   refine hQ 11 rfl (Zh 0 h41.wht (gO 0) p15 p16) h41 1 fun h41=>?_
   refine Zf 12 rfl (Zg e29 p15 p16) ?_
   refine hS 13 rfl (Zm 0 (.int .u32) x4 (gt x1 x3) 0 h41 rfl p15 p16) 1 fun _ w30 h42=>?_
   have e30:(x1.set x4.toNat (gt x1 x3)).length=a0.length:=List.length_set.trans e10
   refine Zf 14 rfl (Zg e29 p13 p14) ?_
   refine hS 15 rfl (Zm 0 (.int .u32) x3 (gt x1 x4) 0 h42 rfl p13 (by simpa only [List.length_set] using p14)) 1 fun _ w31 h43=>?_
   have e31:((x1.set x4.toNat (gt x1 x3)).set x3.toNat (gt x1 x4)).length=a0.length:=List.length_set.trans e30
   refine Zw [0,1,9,10] ?_
   exact Zu ⟨(by simp only [List.length_set,List.length_nil] <;> rfl),((h43.only [0] rfl).rds [] rfl)⟩
  ·refine hQS 11 rfl (Zh 0 h41.wht (gO 0) p15 p16) h41 1 fun h41=>?_
   refine hQ 7 rfl (Zh 0 h41.wht (gO 0) p13 p14) h41 1 fun h41=>?_
   refine Zf 12 rfl (Zg e29 p15 p16) ?_
   refine hS 13 rfl (Zm 0 (.int .u32) x4 (gt x1 x3) 0 h41 rfl p15 p16) 1 fun _ w32 h44=>?_
   have e32:(x1.set x4.toNat (gt x1 x3)).length=a0.length:=List.length_set.trans e10
   refine Zf 14 rfl (Zg e29 p13 p14) ?_
   refine hS 15 rfl (Zm 0 (.int .u32) x3 (gt x1 x4) 0 h44 rfl p13 (by simpa only [List.length_set] using p14)) 1 fun _ w33 h45=>?_
   have e33:((x1.set x4.toNat (gt x1 x3)).set x3.toNat (gt x1 x4)).length=a0.length:=List.length_set.trans e32
   refine Zw [0,1,9,10] ?_
   exact Zu ⟨(by simp only [List.length_set,List.length_nil] <;> rfl),((h45.only [0] rfl).rds [] rfl)⟩
 rintro env w34 ⟨rfl,h46⟩
 have e34:((x1.set x4.toNat (gt x1 x3)).set x3.toNat (gt x1 x4)).length=a0.length:=by first | (simp only [List.length_set]; done) | (simp only [List.length_set]; exact e10)
 refine T8 (Zb [0,1,9,10] ?_)
 refine Zb [0,1,9,10] ?_
 have h47:=(sOR h46 [0] [])
 exact ⟨k4,by omega,_,_,_,H,rfl,h47,e34⟩

mutual
def Q126.l0:Nat→Int→TX→Int→Int→Option TJ
 | 0,_,_,_,_=>none
 | k+1,a1,x9,x10,x11=>Q126.l2 k a1 x9 x11 x10
def Q126.l1:Nat→Int→TX→Int→Int→Option TJ
 | 0,_,_,_,_=>none
 | k+1,a1,x9,x12,x16=>if (decide (x12≤x16))=true then (if 0≤x16∧x16<(x9.length:Int) then (if 0≤a1∧a1<(x9.length:Int) then ((Q36.f (gt x9 x16) (gt x9 a1)).bind fun r1=>(if (!r1)=true then (Q126.l1 k a1 x9 x12 (w64 (x16 - 1))) else (if (decide (x16<x12))=true then (if 0≤a1∧a1<(x9.length:Int) then (if 0≤x16∧x16<(x9.length:Int) then (some (x16,false,((x9.set x16.toNat (gt x9 a1)).set a1.toNat (gt x9 x16)))) else none) else none) else (if 0≤x16∧x16<(x9.length:Int) then (if 0≤x12∧x12<(x9.length:Int) then (Q126.l0 k a1 ((x9.set x12.toNat (gt x9 x16)).set x16.toNat (gt x9 x12)) (w64 (x12+1)) (w64 (x16 - 1))) else none) else none)))) else none) else none) else (if (decide (x16<x12))=true then (if 0≤a1∧a1<(x9.length:Int) then (if 0≤x16∧x16<(x9.length:Int) then (some (x16,false,((x9.set x16.toNat (gt x9 a1)).set a1.toNat (gt x9 x16)))) else none) else none) else (if 0≤x16∧x16<(x9.length:Int) then (if 0≤x12∧x12<(x9.length:Int) then (Q126.l0 k a1 ((x9.set x12.toNat (gt x9 x16)).set x16.toNat (gt x9 x12)) (w64 (x12+1)) (w64 (x16 - 1))) else none) else none))
def Q126.l2:Nat→Int→TX→Int→Int→Option TJ
 | 0,_,_,_,_=>none
 | k+1,a1,x9,x11,x17=>if (decide (x17≤x11))=true then (if 0≤x17∧x17<(x9.length:Int) then (if 0≤a1∧a1<(x9.length:Int) then ((Q36.f (gt x9 x17) (gt x9 a1)).bind fun r2=>(if r2=true then (Q126.l2 k a1 x9 x11 (w64 (x17+1))) else (Q126.l1 k a1 x9 x17 x11))) else none) else none) else (Q126.l1 k a1 x9 x17 x11)
end
def Q126.l3:Nat→TX→Int→Int→Int→Int→Option TJ
 | 0,_,_,_,_,_=>none
 | k+1,a0,a1,a3,x1,x18=>if (decide (x1≤x18))=true then (if 0≤x18∧x18<(((a0.set a1.toNat (gt a0 a3)).set a3.toNat (gt a0 a1)).length:Int) then (if 0≤a1∧a1<(((a0.set a1.toNat (gt a0 a3)).set a3.toNat (gt a0 a1)).length:Int) then ((Q36.f (gt ((a0.set a1.toNat (gt a0 a3)).set a3.toNat (gt a0 a1)) x18) (gt ((a0.set a1.toNat (gt a0 a3)).set a3.toNat (gt a0 a1)) a1)).bind fun r3=>(if (!r3)=true then (Q126.l3 k a0 a1 a3 x1 (w64 (x18 - 1))) else (if (decide (x18<x1))=true then (if 0≤a1∧a1<(((a0.set a1.toNat (gt a0 a3)).set a3.toNat (gt a0 a1)).length:Int) then (if 0≤x18∧x18<(((a0.set a1.toNat (gt a0 a3)).set a3.toNat (gt a0 a1)).length:Int) then (some (x18,true,((((a0.set a1.toNat (gt a0 a3)).set a3.toNat (gt a0 a1)).set x18.toNat (gt ((a0.set a1.toNat (gt a0 a3)).set a3.toNat (gt a0 a1)) a1)).set a1.toNat (gt ((a0.set a1.toNat (gt a0 a3)).set a3.toNat (gt a0 a1)) x18)))) else none) else none) else (if 0≤x18∧x18<(((a0.set a1.toNat (gt a0 a3)).set a3.toNat (gt a0 a1)).length:Int) then (if 0≤x1∧x1<(((a0.set a1.toNat (gt a0 a3)).set a3.toNat (gt a0 a1)).length:Int) then (Q126.l0 k a1 ((((a0.set a1.toNat (gt a0 a3)).set a3.toNat (gt a0 a1)).set x1.toNat (gt ((a0.set a1.toNat (gt a0 a3)).set a3.toNat (gt a0 a1)) x18)).set x18.toNat (gt ((a0.set a1.toNat (gt a0 a3)).set a3.toNat (gt a0 a1)) x1)) (w64 (x1+1)) (w64 (x18 - 1))) else none) else none)))) else none) else none) else (if (decide (x18<x1))=true then (if 0≤a1∧a1<(((a0.set a1.toNat (gt a0 a3)).set a3.toNat (gt a0 a1)).length:Int) then (if 0≤x18∧x18<(((a0.set a1.toNat (gt a0 a3)).set a3.toNat (gt a0 a1)).length:Int) then (some (x18,true,((((a0.set a1.toNat (gt a0 a3)).set a3.toNat (gt a0 a1)).set x18.toNat (gt ((a0.set a1.toNat (gt a0 a3)).set a3.toNat (gt a0 a1)) a1)).set a1.toNat (gt ((a0.set a1.toNat (gt a0 a3)).set a3.toNat (gt a0 a1)) x18)))) else none) else none) else (if 0≤x18∧x18<(((a0.set a1.toNat (gt a0 a3)).set a3.toNat (gt a0 a1)).length:Int) then (if 0≤x1∧x1<(((a0.set a1.toNat (gt a0 a3)).set a3.toNat (gt a0 a1)).length:Int) then (Q126.l0 k a1 ((((a0.set a1.toNat (gt a0 a3)).set a3.toNat (gt a0 a1)).set x1.toNat (gt ((a0.set a1.toNat (gt a0 a3)).set a3.toNat (gt a0 a1)) x18)).set x18.toNat (gt ((a0.set a1.toNat (gt a0 a3)).set a3.toNat (gt a0 a1)) x1)) (w64 (x1+1)) (w64 (x18 - 1))) else none) else none))
def Q126.l4:Nat→TX→Int→Int→Int→Int→Option TJ
 | 0,_,_,_,_,_=>none
 | k+1,a0,a1,a2,a3,x19=>if (decide (x19≤(w64 (a2 - 1))))=true then (if 0≤x19∧x19<(((a0.set a1.toNat (gt a0 a3)).set a3.toNat (gt a0 a1)).length:Int) then (if 0≤a1∧a1<(((a0.set a1.toNat (gt a0 a3)).set a3.toNat (gt a0 a1)).length:Int) then ((Q36.f (gt ((a0.set a1.toNat (gt a0 a3)).set a3.toNat (gt a0 a1)) x19) (gt ((a0.set a1.toNat (gt a0 a3)).set a3.toNat (gt a0 a1)) a1)).bind fun r4=>(if r4=true then (Q126.l4 k a0 a1 a2 a3 (w64 (x19+1))) else (Q126.l3 k a0 a1 a3 x19 (w64 (a2 - 1))))) else none) else none) else (Q126.l3 k a0 a1 a3 x19 (w64 (a2 - 1)))
def Q126.f (k:Nat) (a0:TX) (a1:Int) (a2:Int) (a3:Int):Option TJ:=if 0≤a3∧a3<(a0.length:Int) then (if 0≤a1∧a1<(a0.length:Int) then (Q126.l4 k a0 a1 a2 a3 (w64 (a1+1))) else none) else none
theorem Q126.spec {k a0 a1 a2 a3 A1 c_1 r} (H:Q126.f k a0 a1 a2 a3=some r) :
  Spec Tryz.prog 242 [.slice A1 a0.length c_1,.int .i64 a1,.int .i64 a2,.int .i64 a3] [O33 a0 A1 c_1] [] (fun v l=>v=.tuple #[.int .i64 r.1,.bool r.2.1]∧l=[O33 r.2.2 A1 c_1]∧r.2.2.length=a0.length):=by
 refine Zi Tryz.func242 fun w0 F0 h0=>?_
 unfold Q126.f at H
 refine T8 (Zb [0,1,2,3] ?_)
 refine T8 ?_
 obtain ⟨⟨p1,p2⟩,H⟩:=Zk H
 obtain ⟨⟨p3,p4⟩,H⟩:=Zk H
 refine T5 (fun env w=>env=[(0,.slice A1 ((a0.set a1.toNat (gt a0 a3)).set a3.toNat (gt a0 a1)).length c_1),(1,.int .i64 a1),(2,.int .i64 a2)]∧St w0 F0 [O33 ((a0.set a1.toNat (gt a0 a3)).set a3.toNat (gt a0 a1)) A1 c_1] [] w) ?_ ?_
 ·refine Zz (sO h0 []) ?_
  have h3:=h0.drew
  refine Zo [0,1,2,3,4,5,8,9] ?_
  have e4:=Z0 h3.wh (gO 0) p1 p2
  refine Zf 6 rfl (Zg e4 p1 p2) ?_
  refine Zf 10 rfl (Zg e4 p3 p4) ?_
  refine TY [7,11] (i:=7) rfl rfl rfl rfl ?_
  refine (Z5 ?_ (Z5 ?_ Y4))
  ·refine hQS 7 rfl (Zh 0 h3.wht (gO 0) p1 p2) h3 1 fun h3=>?_
   refine hQ 11 rfl (Zh 0 h3.wht (gO 0) p3 p4) h3 1 fun h3=>?_
   refine Zf 12 rfl (Zg e4 p3 p4) ?_
   refine hS 13 rfl (Zm 0 (.int .u32) a1 (gt a0 a3) 0 h3 rfl p3 p4) 1 fun _ w3 h4=>?_
   have e5:(a0.set a1.toNat (gt a0 a3)).length=a0.length:=List.length_set.trans (rfl:a0.length=a0.length)
   refine Zf 14 rfl (Zg e4 p1 p2) ?_
   refine hS 15 rfl (Zm 0 (.int .u32) a3 (gt a0 a1) 0 h4 rfl p1 (by simpa only [List.length_set] using p2)) 1 fun _ w4 h5=>?_
   have e6:((a0.set a1.toNat (gt a0 a3)).set a3.toNat (gt a0 a1)).length=a0.length:=List.length_set.trans e5
   refine Zw [0,1,2] ?_
   exact Zu ⟨(by simp only [List.length_set,List.length_nil] <;> rfl),((h5.only [0] rfl).rds [] rfl)⟩
  ·refine hQS 11 rfl (Zh 0 h3.wht (gO 0) p3 p4) h3 1 fun h3=>?_
   refine hQ 7 rfl (Zh 0 h3.wht (gO 0) p1 p2) h3 1 fun h3=>?_
   refine Zf 12 rfl (Zg e4 p3 p4) ?_
   refine hS 13 rfl (Zm 0 (.int .u32) a1 (gt a0 a3) 0 h3 rfl p3 p4) 1 fun _ w5 h6=>?_
   have e7:(a0.set a1.toNat (gt a0 a3)).length=a0.length:=List.length_set.trans (rfl:a0.length=a0.length)
   refine Zf 14 rfl (Zg e4 p1 p2) ?_
   refine hS 15 rfl (Zm 0 (.int .u32) a3 (gt a0 a1) 0 h6 rfl p1 (by simpa only [List.length_set] using p2)) 1 fun _ w6 h7=>?_
   have e8:((a0.set a1.toNat (gt a0 a3)).set a3.toNat (gt a0 a1)).length=a0.length:=List.length_set.trans e7
   refine Zw [0,1,2] ?_
   exact Zu ⟨(by simp only [List.length_set,List.length_nil] <;> rfl),((h7.only [0] rfl).rds [] rfl)⟩
 rintro env w7 ⟨rfl,h8⟩
 have e9:((a0.set a1.toNat (gt a0 a3)).set a3.toNat (gt a0 a1)).length=a0.length:=by first | (simp only [List.length_set]; done) | (simp only [List.length_set]; exact (rfl:a0.length=a0.length))
 refine T8 (Zb [0,1,10,11] ?_)
 refine T8 (T5 (fun env w=>∃(k1:Nat) (x1:Int) (x2:Bool),env=[(0,.slice A1 ((a0.set a1.toNat (gt a0 a3)).set a3.toNat (gt a0 a1)).length c_1),(1,.int .i64 a1),(10,.int .i64 x1),(11,.int .i64 (w64 (a2 - 1))),(43,.bool x2)]∧St w0 F0 [O33 ((a0.set a1.toNat (gt a0 a3)).set a3.toNat (gt a0 a1)) A1 c_1] [] w∧(Q126.l3 k1 a0 a1 a3 x1 (w64 (a2 - 1)))=some r∧k1≤k) ?_ ?_)
 ·refine T0 ?_
  have h77:=(sOR h8 [0] [])
  refine T4 (fun kk env w=>∃ x19,Q126.l4 kk a0 a1 a2 a3 x19=some r∧env=[(0,.slice A1 ((a0.set a1.toNat (gt a0 a3)).set a3.toNat (gt a0 a1)).length c_1),(1,.int .i64 a1),(10,.int .i64 x19),(11,.int .i64 (w64 (a2 - 1)))]∧St w0 F0 [O33 ((a0.set a1.toNat (gt a0 a3)).set a3.toNat (gt a0 a1)) A1 c_1] [] w∧kk≤k) (k:=k) ⟨_,H,rfl,h77,Sa _⟩ ?_
  rintro k10 env w53 ⟨x19,H,rfl,h71,hk10⟩
  rcases k10 with _ | k10
  ·exact z0 H
  rw [Q126.l4] at H
  refine T8 (T8 ?_)
  refine jH h71 fun h72=>?_
  refine Zo [0,1,2,3] ?_
  refine X8 33 H (fun c9 H=>?_) fun c9 H=>?_
  ·refine Zo [4,5,8,9] ?_
   obtain ⟨⟨p33,p34⟩,H⟩:=Zk H
   have e51:=Z0 h72.wh (gO 0) p33 p34
   refine Zf 6 rfl (Zg e51 p33 p34) ?_
   refine Zf 7 rfl (Zh 0 wI (gO 0) p33 p34) ?_
   obtain ⟨⟨p35,p36⟩,H⟩:=Zk H
   refine Zf 10 rfl (Zg e51 p35 p36) ?_
   refine Zf 11 rfl (Zh 0 wI (gO 0) p35 p36) ?_
   refine cSJ 12 rfl H [] h72 rfl Q36.spec Zp 0 fun r4 w54 H h73=>?_
   refine Zo [13] ?_
   refine Zw [0,1,10,11,43] ?_
   refine jIf H (fun c10 H=>?_) fun c10 H=>?_
   ·refine T9 (T0 (Zb [0,1,10,11] ?_))
    have h74:=(sOR h73 [0] [])
    exact ⟨k10,by omega,_,H,rfl,h74,by omega⟩
   refine T3 ?_
   have h75:=(sOR h73 [0] [])
   exact ⟨k10,x19,r4,rfl,h75,H,by omega⟩
  refine Zo [4,5,6,7,8,9,10,11,12,13] ?_
  refine Zw [0,1,10,11,43] ?_
  refine Z6 ?_
  refine T3 ?_
  have h76:=(sOR h72 [0] [])
  exact ⟨k10,x19,false,rfl,h76,H,by omega⟩
 rintro env w9 ⟨k1,x1,x2,rfl,h9,H,hk1⟩
 refine T8 (T5 (fun env w=>∃(k2:Nat) (x3:Int) (x4:Bool),env=[(0,.slice A1 ((a0.set a1.toNat (gt a0 a3)).set a3.toNat (gt a0 a1)).length c_1),(1,.int .i64 a1),(10,.int .i64 x1),(11,.int .i64 x3),(60,.bool x4)]∧St w0 F0 [O33 ((a0.set a1.toNat (gt a0 a3)).set a3.toNat (gt a0 a1)) A1 c_1] [] w∧(if (decide (x3<x1))=true then (if 0≤a1∧a1<(((a0.set a1.toNat (gt a0 a3)).set a3.toNat (gt a0 a1)).length:Int) then (if 0≤x3∧x3<(((a0.set a1.toNat (gt a0 a3)).set a3.toNat (gt a0 a1)).length:Int) then (some (x3,true,((((a0.set a1.toNat (gt a0 a3)).set a3.toNat (gt a0 a1)).set x3.toNat (gt ((a0.set a1.toNat (gt a0 a3)).set a3.toNat (gt a0 a1)) a1)).set a1.toNat (gt ((a0.set a1.toNat (gt a0 a3)).set a3.toNat (gt a0 a1)) x3)))) else none) else none) else (if 0≤x3∧x3<(((a0.set a1.toNat (gt a0 a3)).set a3.toNat (gt a0 a1)).length:Int) then (if 0≤x1∧x1<(((a0.set a1.toNat (gt a0 a3)).set a3.toNat (gt a0 a1)).length:Int) then (Q126.l0 k2 a1 ((((a0.set a1.toNat (gt a0 a3)).set a3.toNat (gt a0 a1)).set x1.toNat (gt ((a0.set a1.toNat (gt a0 a3)).set a3.toNat (gt a0 a1)) x3)).set x3.toNat (gt ((a0.set a1.toNat (gt a0 a3)).set a3.toNat (gt a0 a1)) x1)) (w64 (x1+1)) (w64 (x3 - 1))) else none) else none))=some r∧k2≤k1) ?_ ?_)
 ·refine T0 (Wk [0,1,10,11] ?_)
  have h70:=(sOR h9 [0] [])
  refine T4 (fun kk env w=>∃ x18,Q126.l3 kk a0 a1 a3 x1 x18=some r∧env=[(0,.slice A1 ((a0.set a1.toNat (gt a0 a3)).set a3.toNat (gt a0 a1)).length c_1),(1,.int .i64 a1),(10,.int .i64 x1),(11,.int .i64 x18)]∧St w0 F0 [O33 ((a0.set a1.toNat (gt a0 a3)).set a3.toNat (gt a0 a1)) A1 c_1] [] w∧kk≤k1) (k:=k1) ⟨_,H,rfl,h70,Sa _⟩ ?_
  rintro k9 env w51 ⟨x18,H,rfl,h64,hk9⟩
  rcases k9 with _ | k9
  ·exact z0 H
  rw [Q126.l3] at H
  refine T8 (T8 ?_)
  refine jH h64 fun h65=>?_
  refine Zo [0,1,2,3] ?_
  refine X8 49 H (fun c7 H=>?_) fun c7 H=>?_
  ·refine Zo [4,5,8,9] ?_
   obtain ⟨⟨p29,p30⟩,H⟩:=Zk H
   have e50:=Z0 h65.wh (gO 0) p29 p30
   refine Zf 6 rfl (Zg e50 p29 p30) ?_
   refine Zf 7 rfl (Zh 0 wI (gO 0) p29 p30) ?_
   obtain ⟨⟨p31,p32⟩,H⟩:=Zk H
   refine Zf 10 rfl (Zg e50 p31 p32) ?_
   refine Zf 11 rfl (Zh 0 wI (gO 0) p31 p32) ?_
   refine cSJ 12 rfl H [] h65 rfl Q36.spec Zp 0 fun r3 w52 H h66=>?_
   refine Zo [13,14] ?_
   refine Zw [0,1,10,11,60] ?_
   refine jIf H (fun c8 H=>?_) fun c8 H=>?_
   ·refine T9 (T0 (Zb [0,1,10,11] ?_))
    have h67:=(sOR h66 [0] [])
    exact ⟨k9,by omega,_,H,rfl,h67,by omega⟩
   refine T3 ?_
   have h68:=(sOR h66 [0] [])
   exact ⟨k9,x18,(!r3),rfl,h68,H,by omega⟩
  refine Zo [4,5,6,7,8,9,10,11,12,13,14] ?_
  refine Zw [0,1,10,11,60] ?_
  refine Z6 ?_
  refine T3 ?_
  have h69:=(sOR h65 [0] [])
  exact ⟨k9,x18,false,rfl,h69,H,by omega⟩
 rintro env w11 ⟨k2,x3,x4,rfl,h10,H,hk2⟩
 refine T8 (T8 (Zb [0,1,10,11,65] ?_))
 refine jIf H (fun c1 H=>?_) fun c1 H=>?_
 ·refine T8 ?_
  obtain ⟨⟨p5,p6⟩,H⟩:=Zk H
  obtain ⟨⟨p7,p8⟩,H⟩:=Zk H
  refine T5 (fun env w=>env=[(11,.int .i64 x3)]∧St w0 F0 [O33 ((((a0.set a1.toNat (gt a0 a3)).set a3.toNat (gt a0 a1)).set x3.toNat (gt ((a0.set a1.toNat (gt a0 a3)).set a3.toNat (gt a0 a1)) a1)).set a1.toNat (gt ((a0.set a1.toNat (gt a0 a3)).set a3.toNat (gt a0 a1)) x3)) A1 c_1] [] w) ?_ ?_
  ·refine Zz (sO h10 []) ?_
   have h13:=h10.drew
   refine Zo [0,1,2,3,4,5,8,9] ?_
   have e13:=Z0 h13.wh (gO 0) p5 p6
   refine Zf 6 rfl (Zg e13 p5 p6) ?_
   refine Zf 10 rfl (Zg e13 p7 p8) ?_
   refine TY [7,11] (i:=7) rfl rfl rfl rfl ?_
   refine (Z5 ?_ (Z5 ?_ Y4))
   ·refine hQS 7 rfl (Zh 0 h13.wht (gO 0) p5 p6) h13 1 fun h13=>?_
    refine hQ 11 rfl (Zh 0 h13.wht (gO 0) p7 p8) h13 1 fun h13=>?_
    refine Zf 12 rfl (Zg e13 p7 p8) ?_
    refine hS 13 rfl (Zm 0 (.int .u32) x3 (gt ((a0.set a1.toNat (gt a0 a3)).set a3.toNat (gt a0 a1)) a1) 0 h13 rfl p7 p8) 1 fun _ w14 h14=>?_
    have e14:(((a0.set a1.toNat (gt a0 a3)).set a3.toNat (gt a0 a1)).set x3.toNat (gt ((a0.set a1.toNat (gt a0 a3)).set a3.toNat (gt a0 a1)) a1)).length=a0.length:=List.length_set.trans e9
    refine Zf 14 rfl (Zg e13 p5 p6) ?_
    refine hS 15 rfl (Zm 0 (.int .u32) a1 (gt ((a0.set a1.toNat (gt a0 a3)).set a3.toNat (gt a0 a1)) x3) 0 h14 rfl p5 (by simpa only [List.length_set] using p6)) 1 fun _ w15 h15=>?_
    have e15:((((a0.set a1.toNat (gt a0 a3)).set a3.toNat (gt a0 a1)).set x3.toNat (gt ((a0.set a1.toNat (gt a0 a3)).set a3.toNat (gt a0 a1)) a1)).set a1.toNat (gt ((a0.set a1.toNat (gt a0 a3)).set a3.toNat (gt a0 a1)) x3)).length=a0.length:=List.length_set.trans e14
    refine Zw [11] ?_
    exact Zu ⟨(by simp only [List.length_set,List.length_nil] <;> rfl),((h15.only [0] rfl).rds [] rfl)⟩
   ·refine hQS 11 rfl (Zh 0 h13.wht (gO 0) p7 p8) h13 1 fun h13=>?_
    refine hQ 7 rfl (Zh 0 h13.wht (gO 0) p5 p6) h13 1 fun h13=>?_
    refine Zf 12 rfl (Zg e13 p7 p8) ?_
    refine hS 13 rfl (Zm 0 (.int .u32) x3 (gt ((a0.set a1.toNat (gt a0 a3)).set a3.toNat (gt a0 a1)) a1) 0 h13 rfl p7 p8) 1 fun _ w16 h16=>?_
    have e16:(((a0.set a1.toNat (gt a0 a3)).set a3.toNat (gt a0 a1)).set x3.toNat (gt ((a0.set a1.toNat (gt a0 a3)).set a3.toNat (gt a0 a1)) a1)).length=a0.length:=List.length_set.trans e9
    refine Zf 14 rfl (Zg e13 p5 p6) ?_
    refine hS 15 rfl (Zm 0 (.int .u32) a1 (gt ((a0.set a1.toNat (gt a0 a3)).set a3.toNat (gt a0 a1)) x3) 0 h16 rfl p5 (by simpa only [List.length_set] using p6)) 1 fun _ w17 h17=>?_
    have e17:((((a0.set a1.toNat (gt a0 a3)).set a3.toNat (gt a0 a1)).set x3.toNat (gt ((a0.set a1.toNat (gt a0 a3)).set a3.toNat (gt a0 a1)) a1)).set a1.toNat (gt ((a0.set a1.toNat (gt a0 a3)).set a3.toNat (gt a0 a1)) x3)).length=a0.length:=List.length_set.trans e16
    refine Zw [11] ?_
    exact Zu ⟨(by simp only [List.length_set,List.length_nil] <;> rfl),((h17.only [0] rfl).rds [] rfl)⟩
  rintro env w18 ⟨rfl,h18⟩
  have e18:((((a0.set a1.toNat (gt a0 a3)).set a3.toNat (gt a0 a1)).set x3.toNat (gt ((a0.set a1.toNat (gt a0 a3)).set a3.toNat (gt a0 a1)) a1)).set a1.toNat (gt ((a0.set a1.toNat (gt a0 a3)).set a3.toNat (gt a0 a1)) x3)).length=a0.length:=by first | (simp only [List.length_set]; done) | (simp only [List.length_set]; exact e9)
  refine T8 (Zb [8,9] ?_)
  cases H
  exact T7 (jR ⟨rfl,rfl,e18⟩ h18 [0])
 refine T9 (T8 ?_)
 obtain ⟨⟨p9,p10⟩,H⟩:=Zk H
 obtain ⟨⟨p11,p12⟩,H⟩:=Zk H
 refine T5 (fun env w=>env=[(0,.slice A1 ((((a0.set a1.toNat (gt a0 a3)).set a3.toNat (gt a0 a1)).set x1.toNat (gt ((a0.set a1.toNat (gt a0 a3)).set a3.toNat (gt a0 a1)) x3)).set x3.toNat (gt ((a0.set a1.toNat (gt a0 a3)).set a3.toNat (gt a0 a1)) x1)).length c_1),(1,.int .i64 a1),(10,.int .i64 x1),(11,.int .i64 x3)]∧St w0 F0 [O33 ((((a0.set a1.toNat (gt a0 a3)).set a3.toNat (gt a0 a1)).set x1.toNat (gt ((a0.set a1.toNat (gt a0 a3)).set a3.toNat (gt a0 a1)) x3)).set x3.toNat (gt ((a0.set a1.toNat (gt a0 a3)).set a3.toNat (gt a0 a1)) x1)) A1 c_1] [] w) ?_ ?_
 ·refine Zz (sO h10 []) ?_
  have h21:=h10.drew
  refine Zo [0,1,2,3,4,5,8,9] ?_
  have e22:=Z0 h21.wh (gO 0) p9 p10
  refine Zf 6 rfl (Zg e22 p9 p10) ?_
  refine Zf 10 rfl (Zg e22 p11 p12) ?_
  refine TY [7,11] (i:=7) rfl rfl rfl rfl ?_
  refine (Z5 ?_ (Z5 ?_ Y4))
  ·refine hQS 7 rfl (Zh 0 h21.wht (gO 0) p9 p10) h21 1 fun h21=>?_
   refine hQ 11 rfl (Zh 0 h21.wht (gO 0) p11 p12) h21 1 fun h21=>?_
   refine Zf 12 rfl (Zg e22 p11 p12) ?_
   refine hS 13 rfl (Zm 0 (.int .u32) x1 (gt ((a0.set a1.toNat (gt a0 a3)).set a3.toNat (gt a0 a1)) x3) 0 h21 rfl p11 p12) 1 fun _ w21 h22=>?_
   have e23:(((a0.set a1.toNat (gt a0 a3)).set a3.toNat (gt a0 a1)).set x1.toNat (gt ((a0.set a1.toNat (gt a0 a3)).set a3.toNat (gt a0 a1)) x3)).length=a0.length:=List.length_set.trans e9
   refine Zf 14 rfl (Zg e22 p9 p10) ?_
   refine hS 15 rfl (Zm 0 (.int .u32) x3 (gt ((a0.set a1.toNat (gt a0 a3)).set a3.toNat (gt a0 a1)) x1) 0 h22 rfl p9 (by simpa only [List.length_set] using p10)) 1 fun _ w22 h23=>?_
   have e24:((((a0.set a1.toNat (gt a0 a3)).set a3.toNat (gt a0 a1)).set x1.toNat (gt ((a0.set a1.toNat (gt a0 a3)).set a3.toNat (gt a0 a1)) x3)).set x3.toNat (gt ((a0.set a1.toNat (gt a0 a3)).set a3.toNat (gt a0 a1)) x1)).length=a0.length:=List.length_set.trans e23
   refine Zw [0,1,10,11] ?_
   exact Zu ⟨(by simp only [List.length_set,List.length_nil] <;> rfl),((h23.only [0] rfl).rds [] rfl)⟩
  ·refine hQS 11 rfl (Zh 0 h21.wht (gO 0) p11 p12) h21 1 fun h21=>?_
   refine hQ 7 rfl (Zh 0 h21.wht (gO 0) p9 p10) h21 1 fun h21=>?_
   refine Zf 12 rfl (Zg e22 p11 p12) ?_
   refine hS 13 rfl (Zm 0 (.int .u32) x1 (gt ((a0.set a1.toNat (gt a0 a3)).set a3.toNat (gt a0 a1)) x3) 0 h21 rfl p11 p12) 1 fun _ w23 h24=>?_
   have e25:(((a0.set a1.toNat (gt a0 a3)).set a3.toNat (gt a0 a1)).set x1.toNat (gt ((a0.set a1.toNat (gt a0 a3)).set a3.toNat (gt a0 a1)) x3)).length=a0.length:=List.length_set.trans e9
   refine Zf 14 rfl (Zg e22 p9 p10) ?_
   refine hS 15 rfl (Zm 0 (.int .u32) x3 (gt ((a0.set a1.toNat (gt a0 a3)).set a3.toNat (gt a0 a1)) x1) 0 h24 rfl p9 (by simpa only [List.length_set] using p10)) 1 fun _ w24 h25=>?_
   have e26:((((a0.set a1.toNat (gt a0 a3)).set a3.toNat (gt a0 a1)).set x1.toNat (gt ((a0.set a1.toNat (gt a0 a3)).set a3.toNat (gt a0 a1)) x3)).set x3.toNat (gt ((a0.set a1.toNat (gt a0 a3)).set a3.toNat (gt a0 a1)) x1)).length=a0.length:=List.length_set.trans e25
   refine Zw [0,1,10,11] ?_
   exact Zu ⟨(by simp only [List.length_set,List.length_nil] <;> rfl),((h25.only [0] rfl).rds [] rfl)⟩
 rintro env w25 ⟨rfl,h26⟩
 have e27:((((a0.set a1.toNat (gt a0 a3)).set a3.toNat (gt a0 a1)).set x1.toNat (gt ((a0.set a1.toNat (gt a0 a3)).set a3.toNat (gt a0 a1)) x3)).set x3.toNat (gt ((a0.set a1.toNat (gt a0 a3)).set a3.toNat (gt a0 a1)) x1)).length=a0.length:=by first | (simp only [List.length_set]; done) | (simp only [List.length_set]; exact e9)
 refine T8 (Zb [0,1,10,11] ?_)
 refine T8 (Zb [0,1,10,11] ?_)
 refine T8 (T5 (fun env w=>∃(x5:TX) (x6:Int) (x7:Int) (x8:Bool),env=[(0,.slice A1 x5.length c_1),(1,.int .i64 a1),(10,.int .i64 x6),(11,.int .i64 x7),(134,.bool x8)]∧St w0 F0 [O33 x5 A1 c_1] [] w∧(if 0≤a1∧a1<(x5.length:Int) then (if 0≤x7∧x7<(x5.length:Int) then (some (x7,false,((x5.set x7.toNat (gt x5 a1)).set a1.toNat (gt x5 x7)))) else none) else none)=some r∧x5.length=a0.length) ?_ ?_)
 ·refine T0 ?_
  have h63:=(sOR h26 [0] [])
  refine T4 (fun kk env w=>∃ x9 x10 x11,Q126.l0 kk a1 x9 x10 x11=some r∧env=[(0,.slice A1 x9.length c_1),(1,.int .i64 a1),(10,.int .i64 x10),(11,.int .i64 x11)]∧St w0 F0 [O33 x9 A1 c_1] [] w∧kk≤k2∧x9.length=a0.length) (k:=k2) ⟨_,_,_,H,rfl,h63,Sa _,e27⟩ ?_
  rintro k4 env w35 ⟨x9,x10,x11,H,rfl,h36,hk4,e38⟩
  rcases k4 with _ | k4
  ·exact z0 H
  rw [Q126.l0] at H
  refine T0 (T8 ?_)
  refine T5 (fun env w=>∃(k5:Nat) (x12:Int) (x13:Bool),env=[(0,.slice A1 x9.length c_1),(1,.int .i64 a1),(10,.int .i64 x12),(11,.int .i64 x11),(112,.bool x13)]∧St w0 F0 [O33 x9 A1 c_1] [] w∧(Q126.l1 k5 a1 x9 x12 x11)=some r∧k5≤k4) ?_ ?_
  ·refine T0 ?_
   have h62:=(sOR h36 [0] [])
   refine T4 (fun kk env w=>∃ x17,Q126.l2 kk a1 x9 x11 x17=some r∧env=[(0,.slice A1 x9.length c_1),(1,.int .i64 a1),(10,.int .i64 x17),(11,.int .i64 x11)]∧St w0 F0 [O33 x9 A1 c_1] [] w∧kk≤k4) (k:=k4) ⟨_,H,rfl,h62,Sa _⟩ ?_
   rintro k8 env w49 ⟨x17,H,rfl,h56,hk8⟩
   rcases k8 with _ | k8
   ·exact z0 H
   rw [Q126.l2] at H
   refine T8 (T8 ?_)
   refine jH h56 fun h57=>?_
   refine Zo [0,1,2,3] ?_
   refine X8 102 H (fun c5 H=>?_) fun c5 H=>?_
   ·refine Zo [4,5,8,9] ?_
    obtain ⟨⟨p25,p26⟩,H⟩:=Zk H
    have e49:=Z0 h57.wh (gO 0) p25 p26
    refine Zf 6 rfl (Zg e49 p25 p26) ?_
    refine Zf 7 rfl (Zh 0 wI (gO 0) p25 p26) ?_
    obtain ⟨⟨p27,p28⟩,H⟩:=Zk H
    refine Zf 10 rfl (Zg e49 p27 p28) ?_
    refine Zf 11 rfl (Zh 0 wI (gO 0) p27 p28) ?_
    refine cSJ 12 rfl H [] h57 rfl Q36.spec Zp 0 fun r2 w50 H h58=>?_
    refine Zo [13] ?_
    refine Zw [0,1,10,11,112] ?_
    refine jIf H (fun c6 H=>?_) fun c6 H=>?_
    ·refine T9 (T0 (Zb [0,1,10,11] ?_))
     have h59:=(sOR h58 [0] [])
     exact ⟨k8,by omega,_,H,rfl,h59,by omega⟩
    refine T3 ?_
    have h60:=(sOR h58 [0] [])
    exact ⟨k8,x17,r2,rfl,h60,H,by omega⟩
   refine Zo [4,5,6,7,8,9,10,11,12,13] ?_
   refine Zw [0,1,10,11,112] ?_
   refine Z6 ?_
   refine T3 ?_
   have h61:=(sOR h57 [0] [])
   exact ⟨k8,x17,false,rfl,h61,H,by omega⟩
  rintro env w37 ⟨k5,x12,x13,rfl,h37,H,hk5⟩
  refine T8 (T5 (fun env w=>∃(k6:Nat) (x14:Int) (x15:Bool),env=[(0,.slice A1 x9.length c_1),(1,.int .i64 a1),(10,.int .i64 x12),(11,.int .i64 x14),(129,.bool x15)]∧St w0 F0 [O33 x9 A1 c_1] [] w∧(if (decide (x14<x12))=true then (if 0≤a1∧a1<(x9.length:Int) then (if 0≤x14∧x14<(x9.length:Int) then (some (x14,false,((x9.set x14.toNat (gt x9 a1)).set a1.toNat (gt x9 x14)))) else none) else none) else (if 0≤x14∧x14<(x9.length:Int) then (if 0≤x12∧x12<(x9.length:Int) then (Q126.l0 k6 a1 ((x9.set x12.toNat (gt x9 x14)).set x14.toNat (gt x9 x12)) (w64 (x12+1)) (w64 (x14 - 1))) else none) else none))=some r∧k6≤k5) ?_ ?_)
  ·refine T0 (Wk [0,1,10,11] ?_)
   have h55:=(sOR h37 [0] [])
   refine T4 (fun kk env w=>∃ x16,Q126.l1 kk a1 x9 x12 x16=some r∧env=[(0,.slice A1 x9.length c_1),(1,.int .i64 a1),(10,.int .i64 x12),(11,.int .i64 x16)]∧St w0 F0 [O33 x9 A1 c_1] [] w∧kk≤k5) (k:=k5) ⟨_,H,rfl,h55,Sa _⟩ ?_
   rintro k7 env w47 ⟨x16,H,rfl,h49,hk7⟩
   rcases k7 with _ | k7
   ·exact z0 H
   rw [Q126.l1] at H
   refine T8 (T8 ?_)
   refine jH h49 fun h50=>?_
   refine Zo [0,1,2,3] ?_
   refine X8 118 H (fun c3 H=>?_) fun c3 H=>?_
   ·refine Zo [4,5,8,9] ?_
    obtain ⟨⟨p21,p22⟩,H⟩:=Zk H
    have e48:=Z0 h50.wh (gO 0) p21 p22
    refine Zf 6 rfl (Zg e48 p21 p22) ?_
    refine Zf 7 rfl (Zh 0 wI (gO 0) p21 p22) ?_
    obtain ⟨⟨p23,p24⟩,H⟩:=Zk H
    refine Zf 10 rfl (Zg e48 p23 p24) ?_
    refine Zf 11 rfl (Zh 0 wI (gO 0) p23 p24) ?_
    refine cSJ 12 rfl H [] h50 rfl Q36.spec Zp 0 fun r1 w48 H h51=>?_
    refine Zo [13,14] ?_
    refine Zw [0,1,10,11,129] ?_
    refine jIf H (fun c4 H=>?_) fun c4 H=>?_
    ·refine T9 (T0 (Zb [0,1,10,11] ?_))
     have h52:=(sOR h51 [0] [])
     exact ⟨k7,by omega,_,H,rfl,h52,by omega⟩
    refine T3 ?_
    have h53:=(sOR h51 [0] [])
    exact ⟨k7,x16,(!r1),rfl,h53,H,by omega⟩
   refine Zo [4,5,6,7,8,9,10,11,12,13,14] ?_
   refine Zw [0,1,10,11,129] ?_
   refine Z6 ?_
   refine T3 ?_
   have h54:=(sOR h50 [0] [])
   exact ⟨k7,x16,false,rfl,h54,H,by omega⟩
  rintro env w39 ⟨k6,x14,x15,rfl,h38,H,hk6⟩
  refine T8 (T8 (Zb [0,1,10,11,134] ?_))
  refine jIf H (fun c2 H=>?_) fun c2 H=>?_
  ·refine T3 ?_
   have h39:=(sOR h38 [0] [])
   exact ⟨x9,x12,x14,(decide (x14<x12)),rfl,h39,H,e38⟩
  refine T9 (T8 ?_)
  obtain ⟨⟨p17,p18⟩,H⟩:=Zk H
  obtain ⟨⟨p19,p20⟩,H⟩:=Zk H
  refine T5 (fun env w=>env=[(0,.slice A1 ((x9.set x12.toNat (gt x9 x14)).set x14.toNat (gt x9 x12)).length c_1),(1,.int .i64 a1),(10,.int .i64 x12),(11,.int .i64 x14)]∧St w0 F0 [O33 ((x9.set x12.toNat (gt x9 x14)).set x14.toNat (gt x9 x12)) A1 c_1] [] w) ?_ ?_
  ·refine Zz (sO h38 []) ?_
   have h42:=h38.drew
   refine Zo [0,1,2,3,4,5,8,9] ?_
   have e42:=Z0 h42.wh (gO 0) p17 p18
   refine Zf 6 rfl (Zg e42 p17 p18) ?_
   refine Zf 10 rfl (Zg e42 p19 p20) ?_
   refine TY [7,11] (i:=7) rfl rfl rfl rfl ?_
   refine (Z5 ?_ (Z5 ?_ Y4))
   ·refine hQS 7 rfl (Zh 0 h42.wht (gO 0) p17 p18) h42 1 fun h42=>?_
    refine hQ 11 rfl (Zh 0 h42.wht (gO 0) p19 p20) h42 1 fun h42=>?_
    refine Zf 12 rfl (Zg e42 p19 p20) ?_
    refine hS 13 rfl (Zm 0 (.int .u32) x12 (gt x9 x14) 0 h42 rfl p19 p20) 1 fun _ w42 h43=>?_
    have e43:(x9.set x12.toNat (gt x9 x14)).length=a0.length:=List.length_set.trans e38
    refine Zf 14 rfl (Zg e42 p17 p18) ?_
    refine hS 15 rfl (Zm 0 (.int .u32) x14 (gt x9 x12) 0 h43 rfl p17 (by simpa only [List.length_set] using p18)) 1 fun _ w43 h44=>?_
    have e44:((x9.set x12.toNat (gt x9 x14)).set x14.toNat (gt x9 x12)).length=a0.length:=List.length_set.trans e43
    refine Zw [0,1,10,11] ?_
    exact Zu ⟨(by simp only [List.length_set,List.length_nil] <;> rfl),((h44.only [0] rfl).rds [] rfl)⟩
   ·refine hQS 11 rfl (Zh 0 h42.wht (gO 0) p19 p20) h42 1 fun h42=>?_
    refine hQ 7 rfl (Zh 0 h42.wht (gO 0) p17 p18) h42 1 fun h42=>?_
    refine Zf 12 rfl (Zg e42 p19 p20) ?_
    refine hS 13 rfl (Zm 0 (.int .u32) x12 (gt x9 x14) 0 h42 rfl p19 p20) 1 fun _ w44 h45=>?_
    have e45:(x9.set x12.toNat (gt x9 x14)).length=a0.length:=List.length_set.trans e38
    refine Zf 14 rfl (Zg e42 p17 p18) ?_
    refine hS 15 rfl (Zm 0 (.int .u32) x14 (gt x9 x12) 0 h45 rfl p17 (by simpa only [List.length_set] using p18)) 1 fun _ w45 h46=>?_
    have e46:((x9.set x12.toNat (gt x9 x14)).set x14.toNat (gt x9 x12)).length=a0.length:=List.length_set.trans e45
    refine Zw [0,1,10,11] ?_
    exact Zu ⟨(by simp only [List.length_set,List.length_nil] <;> rfl),((h46.only [0] rfl).rds [] rfl)⟩
  rintro env w46 ⟨rfl,h47⟩
  have e47:((x9.set x12.toNat (gt x9 x14)).set x14.toNat (gt x9 x12)).length=a0.length:=by first | (simp only [List.length_set]; done) | (simp only [List.length_set]; exact e38)
  refine T8 (Zb [0,1,10,11] ?_)
  refine Zb [0,1,10,11] ?_
  have h48:=(sOR h47 [0] [])
  exact ⟨k6,by omega,_,_,_,H,rfl,h48,by omega,e47⟩
 rintro env w27 ⟨x5,x6,x7,x8,rfl,h27,H,e28⟩
 refine T8 ?_
 obtain ⟨⟨p13,p14⟩,H⟩:=Zk H
 obtain ⟨⟨p15,p16⟩,H⟩:=Zk H
 refine T5 (fun env w=>env=[(11,.int .i64 x7)]∧St w0 F0 [O33 ((x5.set x7.toNat (gt x5 a1)).set a1.toNat (gt x5 x7)) A1 c_1] [] w) ?_ ?_
 ·refine Zz (sO h27 []) ?_
  have h30:=h27.drew
  refine Zo [0,1,2,3,4,5,8,9] ?_
  have e32:=Z0 h30.wh (gO 0) p13 p14
  refine Zf 6 rfl (Zg e32 p13 p14) ?_
  refine Zf 10 rfl (Zg e32 p15 p16) ?_
  refine TY [7,11] (i:=7) rfl rfl rfl rfl ?_
  refine (Z5 ?_ (Z5 ?_ Y4))
  ·refine hQS 7 rfl (Zh 0 h30.wht (gO 0) p13 p14) h30 1 fun h30=>?_
   refine hQ 11 rfl (Zh 0 h30.wht (gO 0) p15 p16) h30 1 fun h30=>?_
   refine Zf 12 rfl (Zg e32 p15 p16) ?_
   refine hS 13 rfl (Zm 0 (.int .u32) x7 (gt x5 a1) 0 h30 rfl p15 p16) 1 fun _ w30 h31=>?_
   have e33:(x5.set x7.toNat (gt x5 a1)).length=a0.length:=List.length_set.trans e28
   refine Zf 14 rfl (Zg e32 p13 p14) ?_
   refine hS 15 rfl (Zm 0 (.int .u32) a1 (gt x5 x7) 0 h31 rfl p13 (by simpa only [List.length_set] using p14)) 1 fun _ w31 h32=>?_
   have e34:((x5.set x7.toNat (gt x5 a1)).set a1.toNat (gt x5 x7)).length=a0.length:=List.length_set.trans e33
   refine Zw [11] ?_
   exact Zu ⟨(by simp only [List.length_set,List.length_nil] <;> rfl),((h32.only [0] rfl).rds [] rfl)⟩
  ·refine hQS 11 rfl (Zh 0 h30.wht (gO 0) p15 p16) h30 1 fun h30=>?_
   refine hQ 7 rfl (Zh 0 h30.wht (gO 0) p13 p14) h30 1 fun h30=>?_
   refine Zf 12 rfl (Zg e32 p15 p16) ?_
   refine hS 13 rfl (Zm 0 (.int .u32) x7 (gt x5 a1) 0 h30 rfl p15 p16) 1 fun _ w32 h33=>?_
   have e35:(x5.set x7.toNat (gt x5 a1)).length=a0.length:=List.length_set.trans e28
   refine Zf 14 rfl (Zg e32 p13 p14) ?_
   refine hS 15 rfl (Zm 0 (.int .u32) a1 (gt x5 x7) 0 h33 rfl p13 (by simpa only [List.length_set] using p14)) 1 fun _ w33 h34=>?_
   have e36:((x5.set x7.toNat (gt x5 a1)).set a1.toNat (gt x5 x7)).length=a0.length:=List.length_set.trans e35
   refine Zw [11] ?_
   exact Zu ⟨(by simp only [List.length_set,List.length_nil] <;> rfl),((h34.only [0] rfl).rds [] rfl)⟩
 rintro env w34 ⟨rfl,h35⟩
 have e37:((x5.set x7.toNat (gt x5 a1)).set a1.toNat (gt x5 x7)).length=a0.length:=by first | (simp only [List.length_set]; done) | (simp only [List.length_set]; exact e28)
 refine T8 (Zb [8,9] ?_)
 cases H
 exact T7 (jR ⟨rfl,rfl,e37⟩ h35 [0])

def Q122.f (a0:Int):Option (Int):=(Q0.f (IntKind.u64.wrap (a0))).bind fun r1=>(if 0≤r1 then (some (IntKind.u64.wrap ((1:Int)*2 ^ (min r1.toNat 64)))) else none)
theorem Q122.spec {a0 r} (H:Q122.f a0=some r) :
  Spec Tryz.prog 248 [.int .i64 a0] [] [] (fun v l=>v=.int .u64 r∧l=[]):=by
 refine Zi Tryz.func248 fun w0 F0 h0=>?_
 unfold Q122.f at H
 refine T8 (Zb [0] ?_)
 refine T8 (T6 ?_)
 refine Zd 2 ?_
 refine cS H [] h0 rfl Q0.spec Zp fun r1 w1 H h1=>?_
 obtain ⟨p1,H⟩:=Zk H
 refine Zc (Jz p1) ?_
 refine Ze [2] rfl ?_
 cases H
 exact T7 (jR0 h1 [])

def Q130.f (a0:Int):Option TW:=some ((IntKind.u64.wrap (((BitVec.ofInt IntKind.u64.bits (IntKind.u64.wrap (((BitVec.ofInt IntKind.u64.bits (IntKind.u64.wrap (((BitVec.ofInt IntKind.u64.bits a0 ^^^ (BitVec.ofInt IntKind.u64.bits (IntKind.u64.wrap (a0*2 ^ 13)))).toNat:Int))) ^^^ (BitVec.ofInt IntKind.u64.bits (Int.fdiv (IntKind.u64.wrap (((BitVec.ofInt IntKind.u64.bits a0 ^^^ (BitVec.ofInt IntKind.u64.bits (IntKind.u64.wrap (a0*2 ^ 13)))).toNat:Int))) (2 ^ 7)))).toNat:Int))) ^^^ (BitVec.ofInt IntKind.u64.bits (IntKind.u64.wrap ((IntKind.u64.wrap (((BitVec.ofInt IntKind.u64.bits (IntKind.u64.wrap (((BitVec.ofInt IntKind.u64.bits a0 ^^^ (BitVec.ofInt IntKind.u64.bits (IntKind.u64.wrap (a0*2 ^ 13)))).toNat:Int))) ^^^ (BitVec.ofInt IntKind.u64.bits (Int.fdiv (IntKind.u64.wrap (((BitVec.ofInt IntKind.u64.bits a0 ^^^ (BitVec.ofInt IntKind.u64.bits (IntKind.u64.wrap (a0*2 ^ 13)))).toNat:Int))) (2 ^ 7)))).toNat:Int)))*2 ^ 17)))).toNat:Int))),(IntKind.u64.wrap (((BitVec.ofInt IntKind.u64.bits (IntKind.u64.wrap (((BitVec.ofInt IntKind.u64.bits (IntKind.u64.wrap (((BitVec.ofInt IntKind.u64.bits a0 ^^^ (BitVec.ofInt IntKind.u64.bits (IntKind.u64.wrap (a0*2 ^ 13)))).toNat:Int))) ^^^ (BitVec.ofInt IntKind.u64.bits (Int.fdiv (IntKind.u64.wrap (((BitVec.ofInt IntKind.u64.bits a0 ^^^ (BitVec.ofInt IntKind.u64.bits (IntKind.u64.wrap (a0*2 ^ 13)))).toNat:Int))) (2 ^ 7)))).toNat:Int))) ^^^ (BitVec.ofInt IntKind.u64.bits (IntKind.u64.wrap ((IntKind.u64.wrap (((BitVec.ofInt IntKind.u64.bits (IntKind.u64.wrap (((BitVec.ofInt IntKind.u64.bits a0 ^^^ (BitVec.ofInt IntKind.u64.bits (IntKind.u64.wrap (a0*2 ^ 13)))).toNat:Int))) ^^^ (BitVec.ofInt IntKind.u64.bits (Int.fdiv (IntKind.u64.wrap (((BitVec.ofInt IntKind.u64.bits a0 ^^^ (BitVec.ofInt IntKind.u64.bits (IntKind.u64.wrap (a0*2 ^ 13)))).toNat:Int))) (2 ^ 7)))).toNat:Int)))*2 ^ 17)))).toNat:Int))))
theorem Q130.spec {a0 b1 r} (H:Q130.f a0=some r) :
  Spec Tryz.prog 249 [.pointer (some ⟨b1,0,none⟩)] [Bo b1 a0] [] (fun v l=>v=.int .u64 r.1∧l=[Bo b1 r.2]):=by
 refine Zi Tryz.func249 fun w0 F0 h0=>?_
 unfold Q130.f at H
 refine T8 (Zb [0] ?_)
 refine T8 (T5 (fun env w=>env=[(0,.pointer (some ⟨b1,0,none⟩))]∧St w0 F0 [Bo b1 (IntKind.u64.wrap (((BitVec.ofInt IntKind.u64.bits a0 ^^^ (BitVec.ofInt IntKind.u64.bits (IntKind.u64.wrap (a0*2 ^ 13)))).toNat:Int)))] [] w) ?_ ?_)
 ·refine Zz (sO h0 []) ?_
  have h2:=h0.drew
  refine Zo [0,1,3,4] ?_
  refine TY [2,5] (i:=2) rfl rfl rfl rfl ?_
  refine (Z5 ?_ (Z5 ?_ Y4))
  ·refine hQS 2 rfl (Za 0 h2.wht) h2 1 fun h2=>?_
   refine hQ 5 rfl (Za 0 h2.wht) h2 1 fun h2=>?_
   refine Zo [6,7,8] ?_
   refine hS 9 rfl (Zt 0 h2) 1 fun _ w6 h3=>?_
   refine Zw [0] ?_
   exact Zu ⟨rfl,(sOR h3 [0] [])⟩
  ·refine hQS 5 rfl (Za 0 h2.wht) h2 1 fun h2=>?_
   refine Zo [6] ?_
   refine hQ 2 rfl (Za 0 h2.wht) h2 1 fun h2=>?_
   refine Zo [7,8] ?_
   refine hS 9 rfl (Zt 0 h2) 1 fun _ w9 h4=>?_
   refine Zw [0] ?_
   exact Zu ⟨rfl,(sOR h4 [0] [])⟩
 rintro env w10 ⟨rfl,h5⟩
 refine T8 (T5 (fun env w=>env=[(0,.pointer (some ⟨b1,0,none⟩))]∧St w0 F0 [Bo b1 (IntKind.u64.wrap (((BitVec.ofInt IntKind.u64.bits (IntKind.u64.wrap (((BitVec.ofInt IntKind.u64.bits a0 ^^^ (BitVec.ofInt IntKind.u64.bits (IntKind.u64.wrap (a0*2 ^ 13)))).toNat:Int))) ^^^ (BitVec.ofInt IntKind.u64.bits (Int.fdiv (IntKind.u64.wrap (((BitVec.ofInt IntKind.u64.bits a0 ^^^ (BitVec.ofInt IntKind.u64.bits (IntKind.u64.wrap (a0*2 ^ 13)))).toNat:Int))) (2 ^ 7)))).toNat:Int)))] [] w) ?_ ?_)
 ·refine Zz (sO h5 []) ?_
  have h7:=h5.drew
  refine Zo [0,1,3,4] ?_
  refine TY [2,5] (i:=2) rfl rfl rfl rfl ?_
  refine (Z5 ?_ (Z5 ?_ Y4))
  ·refine hQS 2 rfl (Za 0 h7.wht) h7 1 fun h7=>?_
   refine hQ 5 rfl (Za 0 h7.wht) h7 1 fun h7=>?_
   refine Zo [6,7,8] ?_
   refine hS 9 rfl (Zt 0 h7) 1 fun _ w16 h8=>?_
   refine Zw [0] ?_
   exact Zu ⟨rfl,(sOR h8 [0] [])⟩
  ·refine hQS 5 rfl (Za 0 h7.wht) h7 1 fun h7=>?_
   refine Zo [6] ?_
   refine hQ 2 rfl (Za 0 h7.wht) h7 1 fun h7=>?_
   refine Zo [7,8] ?_
   refine hS 9 rfl (Zt 0 h7) 1 fun _ w19 h9=>?_
   refine Zw [0] ?_
   exact Zu ⟨rfl,(sOR h9 [0] [])⟩
 rintro env w20 ⟨rfl,h10⟩
 refine T8 (T5 (fun env w=>env=[(0,.pointer (some ⟨b1,0,none⟩))]∧St w0 F0 [Bo b1 (IntKind.u64.wrap (((BitVec.ofInt IntKind.u64.bits (IntKind.u64.wrap (((BitVec.ofInt IntKind.u64.bits (IntKind.u64.wrap (((BitVec.ofInt IntKind.u64.bits a0 ^^^ (BitVec.ofInt IntKind.u64.bits (IntKind.u64.wrap (a0*2 ^ 13)))).toNat:Int))) ^^^ (BitVec.ofInt IntKind.u64.bits (Int.fdiv (IntKind.u64.wrap (((BitVec.ofInt IntKind.u64.bits a0 ^^^ (BitVec.ofInt IntKind.u64.bits (IntKind.u64.wrap (a0*2 ^ 13)))).toNat:Int))) (2 ^ 7)))).toNat:Int))) ^^^ (BitVec.ofInt IntKind.u64.bits (IntKind.u64.wrap ((IntKind.u64.wrap (((BitVec.ofInt IntKind.u64.bits (IntKind.u64.wrap (((BitVec.ofInt IntKind.u64.bits a0 ^^^ (BitVec.ofInt IntKind.u64.bits (IntKind.u64.wrap (a0*2 ^ 13)))).toNat:Int))) ^^^ (BitVec.ofInt IntKind.u64.bits (Int.fdiv (IntKind.u64.wrap (((BitVec.ofInt IntKind.u64.bits a0 ^^^ (BitVec.ofInt IntKind.u64.bits (IntKind.u64.wrap (a0*2 ^ 13)))).toNat:Int))) (2 ^ 7)))).toNat:Int)))*2 ^ 17)))).toNat:Int)))] [] w) ?_ ?_)
 ·refine Zz (sO h10 []) ?_
  have h12:=h10.drew
  refine Zo [0,1,3,4] ?_
  refine TY [2,5] (i:=2) rfl rfl rfl rfl ?_
  refine (Z5 ?_ (Z5 ?_ Y4))
  ·refine hQS 2 rfl (Za 0 h12.wht) h12 1 fun h12=>?_
   refine hQ 5 rfl (Za 0 h12.wht) h12 1 fun h12=>?_
   refine Zo [6,7,8] ?_
   refine hS 9 rfl (Zt 0 h12) 1 fun _ w26 h13=>?_
   refine Zw [0] ?_
   exact Zu ⟨rfl,(sOR h13 [0] [])⟩
  ·refine hQS 5 rfl (Za 0 h12.wht) h12 1 fun h12=>?_
   refine Zo [6] ?_
   refine hQ 2 rfl (Za 0 h12.wht) h12 1 fun h12=>?_
   refine Zo [7,8] ?_
   refine hS 9 rfl (Zt 0 h12) 1 fun _ w29 h14=>?_
   refine Zw [0] ?_
   exact Zu ⟨rfl,(sOR h14 [0] [])⟩
 rintro env w30 ⟨rfl,h15⟩
 refine T8 (T6 ?_)
 refine Zd 2 ?_
 refine Zc (Za 0 h15.wht) ?_
 refine Ze [2] rfl ?_
 cases H
 exact T7 (jR0 h15 [0])

def Q116.l0:Nat→Int→Int→Int→TX→Int→Int→Option TX
 | 0,_,_,_,_,_,_=>none
 | k+1,a1,a2,r1,x1,x2,x3=>if (decide (x3≤(w64 ((w64 (a1+(w64 ((w64 (Int.tdiv (w64 (a2 - a1)) 4))*2))))+1))))=true then ((Q130.f x2).bind fun r2=>(if (decide ((w64 (a2 - a1))≤(w64 ((IntKind.u64.wrap (((BitVec.ofInt IntKind.u64.bits r2.1 &&& (BitVec.ofInt IntKind.u64.bits (IntKind.u64.wrap (r1 - 1)))).toNat:Int)))))))=true then (if 0≤(w64 (a1+(w64 ((w64 ((IntKind.u64.wrap (((BitVec.ofInt IntKind.u64.bits r2.1 &&& (BitVec.ofInt IntKind.u64.bits (IntKind.u64.wrap (r1 - 1)))).toNat:Int))))) - (w64 (a2 - a1))))))∧(w64 (a1+(w64 ((w64 ((IntKind.u64.wrap (((BitVec.ofInt IntKind.u64.bits r2.1 &&& (BitVec.ofInt IntKind.u64.bits (IntKind.u64.wrap (r1 - 1)))).toNat:Int))))) - (w64 (a2 - a1))))))<(x1.length:Int) then (if 0≤x3∧x3<(x1.length:Int) then (Q116.l0 k a1 a2 r1 ((x1.set x3.toNat (gt x1 (w64 (a1+(w64 ((w64 ((IntKind.u64.wrap (((BitVec.ofInt IntKind.u64.bits r2.1 &&& (BitVec.ofInt IntKind.u64.bits (IntKind.u64.wrap (r1 - 1)))).toNat:Int))))) - (w64 (a2 - a1)))))))).set (w64 (a1+(w64 ((w64 ((IntKind.u64.wrap (((BitVec.ofInt IntKind.u64.bits r2.1 &&& (BitVec.ofInt IntKind.u64.bits (IntKind.u64.wrap (r1 - 1)))).toNat:Int))))) - (w64 (a2 - a1)))))).toNat (gt x1 x3)) r2.2 (w64 (x3+1))) else none) else none) else (if 0≤(w64 (a1+(w64 ((IntKind.u64.wrap (((BitVec.ofInt IntKind.u64.bits r2.1 &&& (BitVec.ofInt IntKind.u64.bits (IntKind.u64.wrap (r1 - 1)))).toNat:Int)))))))∧(w64 (a1+(w64 ((IntKind.u64.wrap (((BitVec.ofInt IntKind.u64.bits r2.1 &&& (BitVec.ofInt IntKind.u64.bits (IntKind.u64.wrap (r1 - 1)))).toNat:Int)))))))<(x1.length:Int) then (if 0≤x3∧x3<(x1.length:Int) then (Q116.l0 k a1 a2 r1 ((x1.set x3.toNat (gt x1 (w64 (a1+(w64 ((IntKind.u64.wrap (((BitVec.ofInt IntKind.u64.bits r2.1 &&& (BitVec.ofInt IntKind.u64.bits (IntKind.u64.wrap (r1 - 1)))).toNat:Int))))))))).set (w64 (a1+(w64 ((IntKind.u64.wrap (((BitVec.ofInt IntKind.u64.bits r2.1 &&& (BitVec.ofInt IntKind.u64.bits (IntKind.u64.wrap (r1 - 1)))).toNat:Int))))))).toNat (gt x1 x3)) r2.2 (w64 (x3+1))) else none) else none))) else (some x1)
def Q116.f (k:Nat) (a0:TX) (a1:Int) (a2:Int):Option TX:=if (decide (8≤(w64 (a2 - a1))))=true then ((Q122.f (w64 (a2 - a1))).bind fun r1=>(Q116.l0 k a1 a2 r1 a0 (IntKind.u64.wrap ((w64 (a2 - a1)))) (w64 ((w64 (a1+(w64 ((w64 (Int.tdiv (w64 (a2 - a1)) 4))*2)))) - 1)))) else (some a0)
theorem Q116.spec {k a0 a1 a2 A1 c_1 r} (H:Q116.f k a0 a1 a2=some r) :
  Spec Tryz.prog 236 [.slice A1 a0.length c_1,.int .i64 a1,.int .i64 a2] [O33 a0 A1 c_1] [] (fun v l=>v=.tuple #[]∧l=[O33 r A1 c_1]∧r.length=a0.length):=by
 refine Zi Tryz.func236 fun w0 F0 h0=>?_
 unfold Q116.f at H
 refine T8 (Zb [0,1,6] ?_)
 refine T8 (Zb [0,1,6,15] ?_)
 refine jIf H (fun c1 H=>?_) fun c1 H=>?_
 ·refine T8 (T6 ?_)
  refine Zd 2 ?_
  refine rB (Yt h0) fun b1 w1 h1=>?_
  refine rS (Zt 0 h1) fun _ w2 h2=>?_
  refine Ze [0,1,6,7] rfl ?_
  refine T8 (T6 ?_)
  refine Zd 1 ?_
  refine cS H [] h2 rfl Q122.spec Zp fun r1 w3 H h3=>?_
  refine Ze [0,1,6,7,8] rfl ?_
  refine T8 (Zb [0,1,6,7,8,9] ?_)
  refine T0 ?_
  have h18:=(sOR h3 [0,0] [])
  refine T4 (fun kk env w=>∃ x1 x2 x3,Q116.l0 kk a1 a2 r1 x1 x2 x3=some r∧env=[(0,.slice A1 x1.length c_1),(1,.int .i64 a1),(6,.int .i64 (w64 (a2 - a1))),(7,.pointer (some ⟨b1,0,none⟩)),(8,.int .u64 r1),(9,.int .i64 x3)]∧St w0 F0 [Bo b1 x2,O33 x1 A1 c_1] [] w∧x1.length=a0.length) (k:=k) ⟨_,_,_,H,rfl,h18,(rfl:a0.length=a0.length)⟩ ?_
  rintro k1 env w4 ⟨x1,x2,x3,H,rfl,h4,e1⟩
  rcases k1 with _ | k1
  ·exact z0 H
  rw [Q116.l0] at H
  refine T8 (T8 (Zb [0,1,6,7,8,9,33] ?_))
  refine jIf H (fun c2 H=>?_) fun c2 H=>?_
  ·refine T9 (T8 (T0 (T8 (T6 ?_))))
   refine cS H [0] h4 rfl Q130.spec Zp fun r2 w5 H h5=>?_
   refine Ze [0,1,6,7,8,9,10] rfl ?_
   refine T8 (T8 (Zb [0,1,6,7,8,9,10,43] ?_))
   refine T5 (fun env w=>∃(k2:Nat) (x4:Int),env=[(0,.slice A1 x1.length c_1),(1,.int .i64 a1),(6,.int .i64 (w64 (a2 - a1))),(7,.pointer (some ⟨b1,0,none⟩)),(8,.int .u64 r1),(9,.int .i64 x3),(10,.int .i64 x4)]∧St w0 F0 [Bo b1 r2.2,O33 x1 A1 c_1] [] w∧(if 0≤(w64 (a1+x4))∧(w64 (a1+x4))<(x1.length:Int) then (if 0≤x3∧x3<(x1.length:Int) then (Q116.l0 k2 a1 a2 r1 ((x1.set x3.toNat (gt x1 (w64 (a1+x4)))).set (w64 (a1+x4)).toNat (gt x1 x3)) r2.2 (w64 (x3+1))) else none) else none)=some r∧k2≤k1) ?_ ?_
   ·refine jIf H (fun c3 H=>?_) fun c3 H=>?_
    ·refine Zb [0,1,6,7,8,9,10] ?_
     have h16:=(sOR h5 [0,0] [])
     exact ⟨k1,(w64 ((w64 ((IntKind.u64.wrap (((BitVec.ofInt IntKind.u64.bits r2.1 &&& (BitVec.ofInt IntKind.u64.bits (IntKind.u64.wrap (r1 - 1)))).toNat:Int))))) - (w64 (a2 - a1)))),rfl,h16,H,Sa _⟩
    refine Wk [0,1,6,7,8,9,10] ?_
    refine T9 ?_
    have h17:=(sOR h5 [0,0] [])
    exact ⟨k1,(w64 ((IntKind.u64.wrap (((BitVec.ofInt IntKind.u64.bits r2.1 &&& (BitVec.ofInt IntKind.u64.bits (IntKind.u64.wrap (r1 - 1)))).toNat:Int))))),rfl,h17,H,Sa _⟩
   rintro env w7 ⟨k2,x4,rfl,h6,H,hk2⟩
   obtain ⟨⟨p1,p2⟩,H⟩:=Zk H
   obtain ⟨⟨p3,p4⟩,H⟩:=Zk H
   refine J.mid (fun env w=>env=[(0,.slice A1 ((x1.set x3.toNat (gt x1 (w64 (a1+x4)))).set (w64 (a1+x4)).toNat (gt x1 x3)).length c_1),(1,.int .i64 a1),(6,.int .i64 (w64 (a2 - a1))),(7,.pointer (some ⟨b1,0,none⟩)),(8,.int .u64 r1),(9,.int .i64 x3)]∧St w0 F0 [O33 ((x1.set x3.toNat (gt x1 (w64 (a1+x4)))).set (w64 (a1+x4)).toNat (gt x1 x3)) A1 c_1,Bo b1 r2.2] [] w) ?_ ?_
   ·refine Zz (sO h6 [0]) ?_
    have h9:=h6.drew
    refine Zo [0,1,2,3,4,5,6,7,8,9,12,13] ?_
    have e5:=Z0 h9.wh (gO 1) p1 p2
    refine Zf 10 rfl (Zg e5 p1 p2) ?_
    refine Zf 14 rfl (Zg e5 p3 p4) ?_
    refine TY [11,15] (i:=11) rfl rfl rfl rfl ?_
    refine (Z5 ?_ (Z5 ?_ Y4))
    ·refine Yf 11 rfl (Sb (Zh 0 h9.wht (gO 1) p1 p2)) ?_
     rintro _ _ ⟨rfl,rfl⟩
     replace h9:=nf h9
     refine ⟨⟨[_],(sO h9 [1,0])⟩,?_⟩
     refine Zx 15 rfl (Sb (Zh 0 h9.wht (gO 1) p3 p4)) ?_
     rintro _ _ ⟨rfl,rfl⟩
     replace h9:=nf h9
     refine ⟨⟨[_],(sO h9 [1,0])⟩,?_⟩
     refine Zf 16 rfl (Zg e5 p3 p4) ?_
     refine hS 17 rfl (Zm 0 (.int .u32) x3 (gt x1 (w64 (a1+x4))) 1 h9 rfl p3 p4) 1 fun _ w10 h10=>?_
     have e6:(x1.set x3.toNat (gt x1 (w64 (a1+x4)))).length=a0.length:=List.length_set.trans e1
     refine Zf 18 rfl (Zg e5 p1 p2) ?_
     refine hS 19 rfl (Zm 0 (.int .u32) (w64 (a1+x4)) (gt x1 x3) 0 h10 rfl p1 (by simpa only [List.length_set] using p2)) 1 fun _ w11 h11=>?_
     have e7:((x1.set x3.toNat (gt x1 (w64 (a1+x4)))).set (w64 (a1+x4)).toNat (gt x1 x3)).length=a0.length:=List.length_set.trans e6
     refine Zw [0,1,6,7,8,9] ?_
     exact Zu ⟨(by simp only [List.length_set,List.length_nil] <;> rfl),((h11.only [0,0] rfl).rds [] rfl)⟩
    ·refine Yf 15 rfl (Sb (Zh 0 h9.wht (gO 1) p3 p4)) ?_
     rintro _ _ ⟨rfl,rfl⟩
     replace h9:=nf h9
     refine ⟨⟨[_],(sO h9 [1,0])⟩,?_⟩
     refine Zx 11 rfl (Sb (Zh 0 h9.wht (gO 1) p1 p2)) ?_
     rintro _ _ ⟨rfl,rfl⟩
     replace h9:=nf h9
     refine ⟨⟨[_],(sO h9 [1,0])⟩,?_⟩
     refine Zf 16 rfl (Zg e5 p3 p4) ?_
     refine hS 17 rfl (Zm 0 (.int .u32) x3 (gt x1 (w64 (a1+x4))) 1 h9 rfl p3 p4) 1 fun _ w12 h12=>?_
     have e8:(x1.set x3.toNat (gt x1 (w64 (a1+x4)))).length=a0.length:=List.length_set.trans e1
     refine Zf 18 rfl (Zg e5 p1 p2) ?_
     refine hS 19 rfl (Zm 0 (.int .u32) (w64 (a1+x4)) (gt x1 x3) 0 h12 rfl p1 (by simpa only [List.length_set] using p2)) 1 fun _ w13 h13=>?_
     have e9:((x1.set x3.toNat (gt x1 (w64 (a1+x4)))).set (w64 (a1+x4)).toNat (gt x1 x3)).length=a0.length:=List.length_set.trans e8
     refine Zw [0,1,6,7,8,9] ?_
     exact Zu ⟨(by simp only [List.length_set,List.length_nil] <;> rfl),((h13.only [0,0] rfl).rds [] rfl)⟩
   rintro env w14 ⟨rfl,h14⟩
   have e10:((x1.set x3.toNat (gt x1 (w64 (a1+x4)))).set (w64 (a1+x4)).toNat (gt x1 x3)).length=a0.length:=by first | (simp only [List.length_set]; done) | (simp only [List.length_set]; exact e1)
   refine Zb [0,1,6,7,8,9] ?_
   have h15:=(sOR h14 [1,0] [])
   exact ⟨k2,by omega,_,_,_,H,rfl,h15,e10⟩
  refine T3 ?_
  cases H
  exact ⟨_,_,_,Zl,⟨rfl,rfl,e1⟩,sO h4 [1]⟩
 refine T9 ?_
 cases H
 exact ⟨_,_,_,Zl,⟨rfl,rfl,(rfl:a0.length=a0.length)⟩,sO h0 [0]⟩

mutual
def Q127.l0:Nat→TX→Int→Int→Int→Bool→Bool→Option TX
 | 0,_,_,_,_,_,_=>none
 | k+1,x1,x2,x3,x4,x5,x6=>if (decide ((w64 (x3 - x2))≤12))=true then ((Q119.f k x1 x2 x3).bind fun r1=>(some r1)) else (if (decide (x4=0))=true then ((Q118.f k x1 x2 x3).bind fun r2=>(some r2)) else (if (!x5)=true then ((Q116.f k x1 x2 x3).bind fun r11=>(Q127.l1 k x2 x3 x5 x6 r11 (w64 (x4 - 1)))) else (Q127.l1 k x2 x3 x5 x6 x1 x4)))
def Q127.l1:Nat→Int→Int→Bool→Bool→TX→Int→Option TX
 | 0,_,_,_,_,_,_=>none
 | k+1,x2,x3,x5,x6,x7,x8=>(Q117.f x7 x2 x3).bind fun r3=>(if (decide (r3.2=2))=true then ((Q128.f k x7 x2 x3).bind fun r10=>(Q127.l2 k x2 x3 x5 x6 x8 r10 (w64 ((w64 (x3 - 1)) - (w64 (r3.1 - x2)))) 1)) else (Q127.l2 k x2 x3 x5 x6 x8 x7 r3.1 r3.2))
def Q127.l2:Nat→Int→Int→Bool→Bool→Int→TX→Int→Int→Option TX
 | 0,_,_,_,_,_,_,_,_=>none
 | k+1,x2,x3,x5,x6,x8,x9,x10,x11=>if x5=true then (if x6=true then (Q127.l3 k x2 x3 x5 x6 x8 x9 x10 (decide (x11=1))) else (Q127.l3 k x2 x3 x5 x6 x8 x9 x10 false)) else (Q127.l3 k x2 x3 x5 x6 x8 x9 x10 false)
def Q127.l3:Nat→Int→Int→Bool→Bool→Int→TX→Int→Bool→Option TX
 | 0,_,_,_,_,_,_,_,_=>none
 | k+1,x2,x3,x5,x6,x8,x9,x10,x12=>if x12=true then ((Q124.f k x9 x2 x3).bind fun r9=>(if r9.1=true then (some r9.2) else (Q127.l4 k x2 x3 x5 x6 x8 x10 r9.2))) else (Q127.l4 k x2 x3 x5 x6 x8 x10 x9)
def Q127.l4:Nat→Int→Int→Bool→Bool→Int→Int→TX→Option TX
 | 0,_,_,_,_,_,_,_=>none
 | k+1,x2,x3,x5,x6,x8,x10,x13=>if (decide (0<x2))=true then (if 0≤(w64 (x2 - 1))∧(w64 (x2 - 1))<(x13.length:Int) then (if 0≤x10∧x10<(x13.length:Int) then ((Q36.f (gt x13 (w64 (x2 - 1))) (gt x13 x10)).bind fun r8=>(Q127.l5 k x2 x3 x5 x6 x8 x10 x13 (!r8))) else none) else none) else (Q127.l5 k x2 x3 x5 x6 x8 x10 x13 false)
def Q127.l5:Nat→Int→Int→Bool→Bool→Int→Int→TX→Bool→Option TX
 | 0,_,_,_,_,_,_,_,_=>none
 | k+1,x2,x3,x5,x6,x8,x10,x13,x14=>if x14=true then ((Q125.f k x13 x2 x3 x10).bind fun r4=>(Q127.l0 k r4.2 r4.1 x3 x8 x5 x6)) else ((Q126.f k x13 x2 x3 x10).bind fun r5=>(if (decide ((w64 (r5.1 - x2))<(w64 (x3 - r5.1))))=true then ((Q127.f k r5.2.2 x2 r5.1 x8).bind fun r6=>(Q127.l0 k r6 (w64 (r5.1+1)) x3 x8 (decide ((w64 (Int.tdiv (w64 (x3 - x2)) 8))≤(w64 (r5.1 - x2)))) r5.2.1)) else ((Q127.f k r5.2.2 (w64 (r5.1+1)) x3 x8).bind fun r7=>(Q127.l0 k r7 x2 r5.1 x8 (decide ((w64 (Int.tdiv (w64 (x3 - x2)) 8))≤(w64 (x3 - r5.1)))) r5.2.1))))
def Q127.f:Nat→TX→Int→Int→Int→Option TX
 | 0,_,_,_,_=>none
 | k+1,a0,a1,a2,a3=>Q127.l0 k a0 a1 a2 a3 true true
end
theorem Q127.spec:∀ {k a0 a1 a2 a3 A1 c_1 r},Q127.f k a0 a1 a2 a3=some r→
  Spec Tryz.prog 224 [.slice A1 a0.length c_1,.int .i64 a1,.int .i64 a2,.int .i64 a3] [O33 a0 A1 c_1] [] (fun v l=>v=.tuple #[]∧l=[O33 r A1 c_1]∧r.length=a0.length):=by
 intro k
 induction k using Nat.strongRecOn with
 | _ k ih=>
 intro a0 a1 a2 a3 A1 c_1 r H
 cases k with
 | zero=>rw [Q127.f] at H; cases H
 | succ kr=>
 refine Zi Tryz.func224 fun w0 F0 h0=>?_
 rw [Q127.f] at H
 refine T8 (Zb [0,1,2,3,8] ?_)
 refine T8 (Zb [0,1,2,3,8,9] ?_)
 refine T0 ?_
 have h33:=(sOR h0 [0] [])
 refine T4 (fun kk env w=>∃ x1 x2 x3 x4 x5 x6,Q127.l0 kk x1 x2 x3 x4 x5 x6=some r∧env=[(0,.slice A1 x1.length c_1),(1,.int .i64 x2),(2,.int .i64 x3),(3,.int .i64 x4),(8,.bool x5),(9,.bool x6)]∧St w0 F0 [O33 x1 A1 c_1] [] w∧kk≤kr∧x1.length=a0.length) (k:=kr) ⟨_,_,_,_,_,_,H,rfl,h33,Sa _,(rfl:a0.length=a0.length)⟩ ?_
 rintro k1 env w1 ⟨x1,x2,x3,x4,x5,x6,H,rfl,h1,hk1,e1⟩
 rcases k1 with _ | k1
 ·exact z0 H
 rw [Q127.l0] at H
 refine T0 (T8 (Zb [0,1,2,3,8,9,10] ?_))
 refine T8 (T8 (Zb [0,1,2,3,8,9,10,23] ?_))
 refine jIf H (fun c1 H=>?_) fun c1 H=>?_
 ·refine T8 (T6 ?_)
  refine Zd 3 ?_
  refine cE H [0] h1 rfl Q119.spec Zp ?_
  rintro r1 w2 _ _ H ⟨rfl,rfl,q2⟩ h2
  replace h2:=nf h2
  have e2:r1.length=a0.length:=q2.trans e1
  refine Ze [] rfl ?_
  cases H
  exact T7 (jR ⟨rfl,rfl,e2⟩ h2 [0])
 refine T9 (T8 (T8 (Zb [0,1,2,3,8,9,10,29] ?_)))
 refine jIf H (fun c2 H=>?_) fun c2 H=>?_
 ·refine T8 (T6 ?_)
  refine Zd 3 ?_
  refine cE H [0] h1 rfl Q118.spec Zp ?_
  rintro r2 w3 _ _ H ⟨rfl,rfl,q4⟩ h3
  replace h3:=nf h3
  have e3:r2.length=a0.length:=q4.trans e1
  refine Ze [] rfl ?_
  cases H
  exact T7 (jR ⟨rfl,rfl,e3⟩ h3 [0])
 refine T9 (T8 (T8 (Zb [0,1,2,3,8,9,10,35] ?_)))
 refine T5 (fun env w=>∃ k2 x7 x8,Q127.l1 k2 x2 x3 x5 x6 x7 x8=some r∧env=[(0,.slice A1 x7.length c_1),(1,.int .i64 x2),(2,.int .i64 x3),(3,.int .i64 x8),(8,.bool x5),(9,.bool x6),(10,.int .i64 (w64 (x3 - x2)))]∧St w0 F0 [O33 x7 A1 c_1] [] w∧k2≤k1∧x7.length=a0.length) ?_ ?_
 ·refine jIf H (fun c11 H=>?_) fun c11 H=>?_
  ·refine T8 (T6 ?_)
   refine Zd 3 ?_
   refine cE H [0] h1 rfl Q116.spec Zp ?_
   rintro r11 w22 _ _ H ⟨rfl,rfl,q20⟩ h30
   replace h30:=nf h30
   have e14:r11.length=a0.length:=q20.trans e1
   refine Ze [0,1,2,3,8,9,10] rfl ?_
   refine T2 (env':=[(0,.slice A1 r11.length c_1),(1,.int .i64 x2),(2,.int .i64 x3),(3,.int .i64 x4),(8,.bool x5),(9,.bool x6),(10,.int .i64 (w64 (x3 - x2)))]) (by simp only [q20,List.length_nil] <;> rfl) ?_
   refine Zb [0,1,2,3,8,9,10] ?_
   have h31:=(sOR h30 [0] [])
   exact ⟨k1,_,_,H,rfl,h31,Sa _,e14⟩
  refine Wk [0,1,2,3,8,9,10] ?_
  refine T9 ?_
  have h32:=(sOR h1 [0] [])
  exact ⟨k1,_,_,H,rfl,h32,Sa _,e1⟩
 rintro env w5 ⟨k2,x7,x8,H,rfl,h4,hk2,e4⟩
 rcases k2 with _ | k2
 ·exact z0 H
 rw [Q127.l1] at H
 refine T8 (T6 ?_)
 refine Zd 3 ?_
 refine cS H [] h4 rfl Q117.spec (Y5 (gO 0) Zp) fun r3 w6 H h5=>?_
 refine Ze [0,1,2,3,8,9,10,11,12] rfl ?_
 refine T8 (T8 (Zb [0,1,2,3,8,9,10,11,12,50] ?_))
 refine T5 (fun env w=>∃ k3 x9 x10 x11,Q127.l2 k3 x2 x3 x5 x6 x8 x9 x10 x11=some r∧env=[(0,.slice A1 x9.length c_1),(1,.int .i64 x2),(2,.int .i64 x3),(3,.int .i64 x8),(8,.bool x5),(9,.bool x6),(10,.int .i64 (w64 (x3 - x2))),(11,.int .i64 x10),(12,.int .i64 x11)]∧St w0 F0 [O33 x9 A1 c_1] [] w∧k3≤k2∧x9.length=a0.length) ?_ ?_
 ·refine jIf H (fun c10 H=>?_) fun c10 H=>?_
  ·refine T8 (T6 ?_)
   refine Zd 3 ?_
   refine cE H [0] h5 rfl Q128.spec Zp ?_
   rintro r10 w21 _ _ H ⟨rfl,rfl,q18⟩ h27
   replace h27:=nf h27
   have e13:r10.length=a0.length:=q18.trans e4
   refine Ze [0,1,2,3,8,9,10,11] rfl ?_
   refine T2 (env':=[(0,.slice A1 r10.length c_1),(1,.int .i64 x2),(2,.int .i64 x3),(3,.int .i64 x8),(8,.bool x5),(9,.bool x6),(10,.int .i64 (w64 (x3 - x2))),(11,.int .i64 r3.1)]) (by simp only [q18,List.length_nil] <;> rfl) ?_
   refine T8 (Zb [0,1,2,3,8,9,10,11] ?_)
   refine Zb [0,1,2,3,8,9,10,11,12] ?_
   have h28:=(sOR h27 [0] [])
   exact ⟨k2,_,_,_,H,rfl,h28,Sa _,e13⟩
  refine Wk [0,1,2,3,8,9,10,11,12] ?_
  refine T9 ?_
  have h29:=(sOR h5 [0] [])
  exact ⟨k2,_,_,_,H,rfl,h29,Sa _,e4⟩
 rintro env w8 ⟨k3,x9,x10,x11,H,rfl,h6,hk3,e5⟩
 rcases k3 with _ | k3
 ·exact z0 H
 rw [Q127.l2] at H
 refine T8 (T8 ?_)
 refine T5 (fun env w=>∃ k4 x12,Q127.l3 k4 x2 x3 x5 x6 x8 x9 x10 x12=some r∧env=[(0,.slice A1 x9.length c_1),(1,.int .i64 x2),(2,.int .i64 x3),(3,.int .i64 x8),(8,.bool x5),(9,.bool x6),(10,.int .i64 (w64 (x3 - x2))),(11,.int .i64 x10),(68,.bool x12)]∧St w0 F0 [O33 x9 A1 c_1] [] w∧k4≤k3) ?_ ?_
 ·refine T6 (Zd 2 ?_)
  refine Yb 62 H (fun c8 H=>?_) fun c8 H=>?_
  ·refine Zd 3 ?_
   refine Yb 65 H (fun c9 H=>?_) fun c9 H=>?_
   ·refine Ze [0,1,2,3,8,9,10,11,68] rfl ?_
    have h24:=(sOR h6 [0] [])
    exact ⟨k3,_,H,rfl,h24,Sa _⟩
   refine Ze [0,1,2,3,8,9,10,11,68] rfl ?_
   have h25:=(sOR h6 [0] [])
   exact ⟨k3,_,H,rfl,h25,Sa _⟩
  refine Ze [0,1,2,3,8,9,10,11,68] rfl ?_
  have h26:=(sOR h6 [0] [])
  exact ⟨k3,_,H,rfl,h26,Sa _⟩
 rintro env w10 ⟨k4,x12,H,rfl,h7,hk4⟩
 rcases k4 with _ | k4
 ·exact z0 H
 rw [Q127.l3] at H
 refine T5 (fun env w=>∃ k5 x13,Q127.l4 k5 x2 x3 x5 x6 x8 x10 x13=some r∧env=[(0,.slice A1 x13.length c_1),(1,.int .i64 x2),(2,.int .i64 x3),(3,.int .i64 x8),(8,.bool x5),(9,.bool x6),(10,.int .i64 (w64 (x3 - x2))),(11,.int .i64 x10)]∧St w0 F0 [O33 x13 A1 c_1] [] w∧k5≤k4∧x13.length=a0.length) ?_ ?_
 ·refine jIf H (fun c6 H=>?_) fun c6 H=>?_
  ·refine T8 (T6 ?_)
   refine Zd 3 ?_
   refine cE H [0] h7 rfl Q124.spec Zp ?_
   rintro r9 w20 _ _ H ⟨rfl,rfl,q16⟩ h21
   replace h21:=nf h21
   have e12:r9.2.length=a0.length:=q16.trans e5
   refine Ze [0,1,2,3,8,9,10,11,72] rfl ?_
   refine T2 (env':=[(0,.slice A1 r9.2.length c_1),(1,.int .i64 x2),(2,.int .i64 x3),(3,.int .i64 x8),(8,.bool x5),(9,.bool x6),(10,.int .i64 (w64 (x3 - x2))),(11,.int .i64 x10),(72,.bool r9.1)]) (by simp only [q16,List.length_nil] <;> rfl) ?_
   refine jIf H (fun c7 H=>?_) fun c7 H=>?_
   ·cases H
    exact T7 (jR ⟨rfl,rfl,e12⟩ h21 [0])
   refine Wk [0,1,2,3,8,9,10,11] ?_
   refine T9 ?_
   have h22:=(sOR h21 [0] [])
   exact ⟨k4,_,H,rfl,h22,Sa _,e12⟩
  refine Wk [0,1,2,3,8,9,10,11] ?_
  refine T9 ?_
  have h23:=(sOR h7 [0] [])
  exact ⟨k4,_,H,rfl,h23,Sa _,e5⟩
 rintro env w12 ⟨k5,x13,H,rfl,h8,hk5,e6⟩
 rcases k5 with _ | k5
 ·exact z0 H
 rw [Q127.l4] at H
 refine T8 (T8 ?_)
 refine T5 (fun env w=>∃ k6 x14,Q127.l5 k6 x2 x3 x5 x6 x8 x10 x13 x14=some r∧env=[(0,.slice A1 x13.length c_1),(1,.int .i64 x2),(2,.int .i64 x3),(3,.int .i64 x8),(8,.bool x5),(9,.bool x6),(10,.int .i64 (w64 (x3 - x2))),(11,.int .i64 x10),(87,.bool x14)]∧St w0 F0 [O33 x13 A1 c_1] [] w∧k6≤k5) ?_ ?_
 ·refine jH h8 fun h17=>?_
  refine Zo [0,1,2] ?_
  refine X8 75 H (fun c5 H=>?_) fun c5 H=>?_
  ·refine Zo [3,4,5,8,9] ?_
   obtain ⟨⟨p1,p2⟩,H⟩:=Zk H
   have e11:=Z0 h17.wh (gO 0) p1 p2
   refine Zf 6 rfl (Zg e11 p1 p2) ?_
   refine Zf 7 rfl (Zh 0 wI (gO 0) p1 p2) ?_
   obtain ⟨⟨p3,p4⟩,H⟩:=Zk H
   refine Zf 10 rfl (Zg e11 p3 p4) ?_
   refine Zf 11 rfl (Zh 0 wI (gO 0) p3 p4) ?_
   refine cSJ 12 rfl H [] h17 rfl Q36.spec Zp 0 fun r8 w19 H h18=>?_
   refine Zo [13,14] ?_
   refine Zw [0,1,2,3,8,9,10,11,87] ?_
   have h19:=(sOR h18 [0] [])
   exact ⟨k5,_,H,rfl,h19,Sa _⟩
  refine Zo [3,4,5,6,7,8,9,10,11,12,13,14] ?_
  refine Zw [0,1,2,3,8,9,10,11,87] ?_
  have h20:=(sOR h17 [0] [])
  exact ⟨k5,_,H,rfl,h20,Sa _⟩
 rintro env w14 ⟨k6,x14,H,rfl,h9,hk6⟩
 rcases k6 with _ | k6
 ·exact z0 H
 rw [Q127.l5] at H
 refine jIf H (fun c3 H=>?_) fun c3 H=>?_
 ·refine T8 (T6 ?_)
  refine Zd 4 ?_
  refine cE H [0] h9 rfl Q125.spec Zp ?_
  rintro r4 w15 _ _ H ⟨rfl,rfl,q7⟩ h10
  replace h10:=nf h10
  have e7:r4.2.length=a0.length:=q7.trans e6
  refine Ze [0,2,3,8,9,13] rfl ?_
  refine T2 (env':=[(0,.slice A1 r4.2.length c_1),(2,.int .i64 x3),(3,.int .i64 x8),(8,.bool x5),(9,.bool x6),(13,.int .i64 r4.1)]) (by simp only [q7,List.length_nil] <;> rfl) ?_
  refine T8 (Zb [0,1,2,3,8,9] ?_)
  refine T3 ?_
  have h11:=(sOR h10 [0] [])
  exact ⟨k6,by omega,_,_,_,_,_,_,H,rfl,h11,by omega,e7⟩
 refine T9 (T8 (T6 ?_))
 refine Zd 4 ?_
 refine cE H [0] h9 rfl Q126.spec Zp ?_
 rintro r5 w16 _ _ H ⟨rfl,rfl,q9⟩ h12
 replace h12:=nf h12
 have e8:r5.2.2.length=a0.length:=q9.trans e6
 refine Ze [0,1,2,3,10,14,15] rfl ?_
 refine T2 (env':=[(0,.slice A1 r5.2.2.length c_1),(1,.int .i64 x2),(2,.int .i64 x3),(3,.int .i64 x8),(10,.int .i64 (w64 (x3 - x2))),(14,.int .i64 r5.1),(15,.bool r5.2.1)]) (by simp only [q9,List.length_nil] <;> rfl) ?_
 refine T8 (Zb [0,1,2,3,9,10,14] ?_)
 refine T8 (Zb [0,1,2,3,9,10,14,16,17] ?_)
 refine T8 (Zb [0,1,2,3,9,14,16,17,18] ?_)
 refine T8 (Zb [0,1,2,3,9,14,16,17,18,113] ?_)
 refine jIf H (fun c4 H=>?_) fun c4 H=>?_
 ·refine T8 (Zb [0,1,2,3,8,9,14] ?_)
  refine T8 (T6 ?_)
  refine Zd 4 ?_
  refine cE H [0] h12 rfl (ih k6 (by omega)) Zp ?_
  rintro r6 w17 _ _ H ⟨rfl,rfl,q11⟩ h13
  replace h13:=nf h13
  have e9:r6.length=a0.length:=q11.trans e8
  refine Ze [0,2,3,8,9,14] rfl ?_
  refine T2 (env':=[(0,.slice A1 r6.length c_1),(2,.int .i64 x3),(3,.int .i64 x8),(8,.bool (decide ((w64 (Int.tdiv (w64 (x3 - x2)) 8))≤(w64 (r5.1 - x2))))),(9,.bool r5.2.1),(14,.int .i64 r5.1)]) (by simp only [q11,List.length_nil] <;> rfl) ?_
  refine Zb [0,1,2,3,8,9] ?_
  have h14:=(sOR h13 [0] [])
  exact ⟨k6,by omega,_,_,_,_,_,_,H,rfl,h14,by omega,e9⟩
 refine T8 (Zb [0,1,2,3,8,9,14] ?_)
 refine T8 (T6 ?_)
 refine Zd 5 ?_
 refine cE H [0] h12 rfl (ih k6 (by omega)) Zp ?_
 rintro r7 w18 _ _ H ⟨rfl,rfl,q13⟩ h15
 replace h15:=nf h15
 have e10:r7.length=a0.length:=q13.trans e8
 refine Ze [0,1,3,8,9,14] rfl ?_
 refine T2 (env':=[(0,.slice A1 r7.length c_1),(1,.int .i64 x2),(3,.int .i64 x8),(8,.bool (decide ((w64 (Int.tdiv (w64 (x3 - x2)) 8))≤(w64 (x3 - r5.1))))),(9,.bool r5.2.1),(14,.int .i64 r5.1)]) (by simp only [q13,List.length_nil] <;> rfl) ?_
 refine Zb [0,1,2,3,8,9] ?_
 have h16:=(sOR h15 [0] [])
 exact ⟨k6,by omega,_,_,_,_,_,_,H,rfl,h16,by omega,e10⟩

def Q115.f (k:Nat) (a0:TX):Option TX:=(Q0.f (IntKind.u64.wrap ((a0.length:Int)))).bind fun r1=>((Q127.f k a0 0 (a0.length:Int) r1).bind fun r2=>(some r2))
theorem Q115.spec {k a0 A1 c_1 r} (H:Q115.f k a0=some r) :
  Spec Tryz.prog 196 [.slice A1 a0.length c_1] [O33 a0 A1 c_1] [] (fun v l=>v=.tuple #[]∧l=[O33 r A1 c_1]∧r.length=a0.length):=by
 refine Zi Tryz.func196 fun w0 F0 h0=>?_
 unfold Q115.f at H
 refine T8 (Zb [0,2] ?_)
 refine T6 (Zd 4 ?_)
 refine cS H [] h0 rfl Q0.spec Zp fun r1 w1 H h1=>?_
 refine cE H [0] h1 rfl Q127.spec Zp ?_
 rintro r2 w2 _ _ H ⟨rfl,rfl,q3⟩ h2
 replace h2:=nf h2
 have e1:r2.length=a0.length:=q3.trans (rfl:a0.length=a0.length)
 refine Ze [] rfl ?_
 cases H
 exact ⟨_,_,_,Zl,⟨rfl,rfl,e1⟩,sO h2 [0]⟩

def Q101.l1:Nat→Int→TX→Int→Int→Option TX
 | 0,_,_,_,_=>none
 | k+1,x1,x2,x3,x4=>if (decide (x4<((x2.drop x1.toNat).length:Int)))=true then (if 0≤x4∧x4<((x2.drop x1.toNat).length:Int) then (if 0≤(w64 (x4 - 1))∧(w64 (x4 - 1))<((x2.drop x1.toNat).length:Int) then (if (!decide ((gt (x2.drop x1.toNat) x4)=(gt (x2.drop x1.toNat) (w64 (x4 - 1)))))=true then (if 0≤x3∧x3<(x2.length:Int) then (Q101.l1 k x1 (x2.set x3.toNat (gt (x2.drop x1.toNat) x4)) (w64 (x3+1)) (w64 (x4+1))) else none) else (Q101.l1 k x1 x2 x3 (w64 (x4+1)))) else none) else none) else (if 0≤x3∧x3≤(x2.length:Int) then (if (0:Int)≤x3∧x3≤((patch x2 x3.toNat ((x2.drop x3.toNat).length) (List.replicate ((x2.drop x3.toNat).length) (0:Int))).length:Int) then (some ((patch x2 x3.toNat ((x2.drop x3.toNat).length) (List.replicate ((x2.drop x3.toNat).length) (0:Int))).take x3.toNat)) else none) else none)
def Q101.l0:Nat→TX→Int→Option TX
 | 0,_,_=>none
 | k+1,a0,x1=>if (decide (x1<(a0.length:Int)))=true then (if 0≤x1∧x1<(a0.length:Int) then (if 0≤(w64 (x1 - 1))∧(w64 (x1 - 1))<(a0.length:Int) then (if (decide ((gt a0 x1)=(gt a0 (w64 (x1 - 1)))))=true then (if 0≤x1∧x1≤(a0.length:Int) then (Q101.l1 k x1 a0 x1 1) else none) else (Q101.l0 k a0 (w64 (x1+1)))) else none) else none) else (some a0)
def Q101.f (k:Nat) (a0:TX):Option TX:=if (decide ((a0.length:Int)<2))=true then (some a0) else (Q101.l0 k a0 1)
theorem Q101.spec {k a0 A1 c_1 r} (H:Q101.f k a0=some r) :
  SpecA Tryz.prog 228 [.slice A1 a0.length c_1] [O33 a0 A1 c_1] [] (fun v l lr=>∃ A_0 c_0,v=.slice A_0 r.length c_0∧l=[]∧lr=[R33 r A_0 c_0]):=by
 refine Yp Tryz.func228 fun w0 F0 h0=>?_
 unfold Q101.f at H
 refine T8 (Zb [0] ?_)
 refine T8 (T8 (Zb [0,8] ?_))
 refine jIf H (fun c1 H=>?_) fun c1 H=>?_
 ·refine T8 (Zb [2] ?_)
  have h1:=h0.freeze (k:=0) rfl Yc
  cases H
  exact T7 (jRA ⟨_,_,rfl,rfl,rfl⟩ (sOR h1 [] [0]))
 refine T9 (T8 (T8 (Zb [0,3] ?_)))
 refine T0 ?_
 have h15:=(sOR h0 [0] [])
 refine T4 (fun kk env w=>∃ x1,Q101.l0 kk a0 x1=some r∧env=[(0,.slice A1 a0.length c_1),(3,.int .i64 x1)]∧St w0 F0 [O33 a0 A1 c_1] [] w) (k:=k) ⟨_,H,rfl,h15⟩ ?_
 rintro k1 env w1 ⟨x1,H,rfl,h2⟩
 rcases k1 with _ | k1
 ·exact z0 H
 rw [Q101.l0] at H
 refine T8 (T8 (Zb [0,3,13] ?_))
 refine jIf H (fun c2 H=>?_) fun c2 H=>?_
 ·refine T9 (T8 (T0 (T8 ?_)))
  refine jH h2 fun h3=>?_
  refine Zo [0,1,4,5,6] ?_
  obtain ⟨⟨p1,p2⟩,H⟩:=Zk H
  have e1:=Z0 h3.wh (gO 0) p1 p2
  refine Zf 2 rfl (Zg e1 p1 p2) ?_
  refine Zf 3 rfl (Zh 0 wI (gO 0) p1 p2) ?_
  obtain ⟨⟨p3,p4⟩,H⟩:=Zk H
  refine Zf 7 rfl (Zg e1 p3 p4) ?_
  refine Zf 8 rfl (Zh 0 wI (gO 0) p3 p4) ?_
  refine Zo [9] ?_
  refine Zw [0,3,25] ?_
  refine jIf H (fun c3 H=>?_) fun c3 H=>?_
  ·refine T8 (T6 ?_)
   refine Zd 2 ?_
   obtain ⟨⟨p5,p6⟩,H⟩:=Zk H
   have e2:=h3.cap (gO 0)
   refine Zc (W0 (a0.drop x1.toNat) x1 (a0.length:Int) e2 p5 p6 (Int.le_refl _) (Yn _ _)) ?_
   refine Ze [0,3,4] rfl ?_
   refine T8 (T8 (Zb [0,3,4,5] ?_))
   refine T0 ?_
   have h12:=(sOR h3 [0] [])
   refine T4 (fun kk env w=>∃ x2 x3 x4,Q101.l1 kk x1 x2 x3 x4=some r∧env=[(0,.slice A1 x2.length c_1),(3,.int .i64 x3),(4,.slice (Wf A1 c_1 x1.toNat 1) (x2.drop x1.toNat).length (c_1 - x1.toNat)),(5,.int .i64 x4)]∧St w0 F0 [O33 x2 A1 c_1] [] w∧kk≤k1∧x2.length=a0.length) (k:=k1) ⟨_,_,_,H,rfl,h12,Sa _,(rfl:a0.length=a0.length)⟩ ?_
   rintro k2 env w2 ⟨x2,x3,x4,H,rfl,h4,hk2,e3⟩
   rcases k2 with _ | k2
   ·exact z0 H
   rw [Q101.l1] at H
   refine T8 (T8 (Zb [0,3,4,5,32] ?_))
   refine jIf H (fun c4 H=>?_) fun c4 H=>?_
   ·refine T9 (T8 (T0 (T8 ?_)))
    refine jH h4 fun h5=>?_
    refine Zo [0,1,4,5,6] ?_
    obtain ⟨⟨p7,p8⟩,H⟩:=Zk H
    have e4:=Z0 h5.wh ((Gives.of 0 rfl Yc).trans (Wq (.int .u32) (x2.drop x1.toNat) x1 (x2.length:Int) (by omega) (by omega) (by omega) (Yn _ _))) p7 p8
    refine Zf 2 rfl (Zg e4 p7 p8) ?_
    refine Zf 3 rfl (Zh 0 wI ((Gives.of 0 rfl Yc).trans (Wq (.int .u32) (x2.drop x1.toNat) x1 (x2.length:Int) (by omega) (by omega) (by omega) (Yn _ _))) p7 p8) ?_
    obtain ⟨⟨p9,p10⟩,H⟩:=Zk H
    refine Zf 7 rfl (Zg e4 p9 p10) ?_
    refine Zf 8 rfl (Zh 0 wI ((Gives.of 0 rfl Yc).trans (Wq (.int .u32) (x2.drop x1.toNat) x1 (x2.length:Int) (by omega) (by omega) (by omega) (Yn _ _))) p9 p10) ?_
    refine Zo [9] ?_
    refine Zw [0,3,4,5,44] ?_
    refine jIf H (fun c5 H=>?_) fun c5 H=>?_
    ·refine T8 (T6 ?_)
     refine Zd 4 ?_
     refine Zc (Zg e4 p7 p8) ?_
     refine Zc (Zh 0 h5.wht ((Gives.of 0 rfl Yc).trans (Wq (.int .u32) (x2.drop x1.toNat) x1 (x2.length:Int) (by omega) (by omega) (by omega) (Yn _ _))) p7 p8) ?_
     obtain ⟨⟨p11,p12⟩,H⟩:=Zk H
     refine Zc (Zg e1 p11 p12) ?_
     refine rS (Zm 0 (.int .u32) x3 (gt (x2.drop x1.toNat) x4) 0 h5 rfl p11 p12) fun _ w3 h6=>?_
     have e5:(x2.set x3.toNat (gt (x2.drop x1.toNat) x4)).length=a0.length:=List.length_set.trans e3
     refine Ze [0,3,4,5] rfl ?_
     refine T2 (env':=[(0,.slice A1 (x2.set x3.toNat (gt (x2.drop x1.toNat) x4)).length c_1),(3,.int .i64 x3),(4,.slice (Wf A1 c_1 x1.toNat 1) ((x2.set x3.toNat (gt (x2.drop x1.toNat) x4)).drop x1.toNat).length (c_1 - x1.toNat)),(5,.int .i64 x4)]) (by first | (simp only [List.length_set]; done) | (simp only [List.length_set] <;> simp only [List.length_drop]; done) | (simp only [List.length_set,List.length_drop,List.length_nil] <;> rfl)) ?_
     refine Zb [0,3,4,5] ?_
     refine Zb [0,3,4,5] ?_
     have h7:=(sOR h6 [0] [])
     exact ⟨k2,by omega,_,_,_,H,rfl,h7,by omega,e5⟩
    refine T9 (Zb [0,3,4,5] ?_)
    have h8:=(sOR h5 [0] [])
    exact ⟨k2,by omega,_,_,_,H,rfl,h8,by omega,e3⟩
   refine T3 (T8 (T6 ?_))
   refine Zd 2 ?_
   obtain ⟨⟨p13,p14⟩,H⟩:=Zk H
   have e6:=h4.cap (gO 0)
   refine Zc (W0 (x2.drop x3.toNat) x3 (x2.length:Int) e6 p13 p14 (Int.le_refl _) (Yn _ _)) ?_
   have e7:x3.toNat+(x2.drop x3.toNat).length≤x2.length:=by simp only [List.length_drop]; omega
   refine Zs (Zfa Z4 (ty:=(.int .u32)) (xs:=x2) rfl (0:Int) 0 rfl h4 rfl rfl rfl rfl rfl rfl e7) ?_
   rintro _ w4 h9
   replace h9:=nf h9
   have e8:(patch x2 x3.toNat ((x2.drop x3.toNat).length) (List.replicate ((x2.drop x3.toNat).length) (0:Int))).length=a0.length:=(Xx e7).trans e3
   refine Ze [0,3] rfl ?_
   refine T2 (env':=[(0,.slice A1 (patch x2 x3.toNat ((x2.drop x3.toNat).length) (List.replicate ((x2.drop x3.toNat).length) (0:Int))).length c_1),(3,.int .i64 x3)]) (by first | (simp only [Xx e7]; done) | (simp only [Xx e7] <;> simp only [List.length_drop]; done) | (simp only [Xx e7,List.length_drop,List.length_nil] <;> rfl)) ?_
   refine T8 (T6 ?_)
   refine Zd 2 ?_
   obtain ⟨⟨p15,p16⟩,H⟩:=Zk H
   have e9:=h9.cap (gO 0)
   refine Zc (Yy ((patch x2 x3.toNat ((x2.drop x3.toNat).length) (List.replicate ((x2.drop x3.toNat).length) (0:Int))).take x3.toNat) x3 e9 p15 p16) ?_
   refine Ze [2] rfl ?_
   have h10:=h9.freeze (k:=0) rfl Yc
   have h11:=h10.read (k:=0) rfl (Y3 (.int .u32) ((patch x2 x3.toNat ((x2.drop x3.toNat).length) (List.replicate ((x2.drop x3.toNat).length) (0:Int))).take x3.toNat) x3 p15 p16)
   cases H
   exact T7 (jRA ⟨_,_,rfl,rfl,rfl⟩ (sOR h11 [] [0]))
  refine T9 (Zb [0,3] ?_)
  have h13:=(sOR h3 [0] [])
  exact ⟨k1,by omega,_,H,rfl,h13⟩
 refine T3 (T8 (Zb [2] ?_))
 have h14:=h2.freeze (k:=0) rfl Yc
 cases H
 exact T7 (jRA ⟨_,_,rfl,rfl,rfl⟩ (sOR h14 [] [0]))

def Q76.f (k:Nat) (a0:Tq) (a1:TX):Option (Bool):=(Q100.f a1).bind fun r1=>((Q115.f k r1).bind fun r2=>(if (decide ((a1.length:Int)<1))=true then (some false) else (if (decide (a0.2.2.2.1<(a1.length:Int)))=true then (some false) else (if 0<(r2.length:Int) then (if (decide ((gt r2 0)=0))=true then (some false) else (if 0≤(w64 ((a1.length:Int) - 1))∧(w64 ((a1.length:Int) - 1))<(r2.length:Int) then (if (decide (a0.1≤(w64 ((gt r2 (w64 ((a1.length:Int) - 1)))))))=true then (some false) else ((Q101.f k r2).bind fun r3=>(some (decide ((r3.length:Int)=(a1.length:Int)))))) else none)) else none))))
theorem Q76.spec {k a0 a1 A1 c_1 r} (H:Q76.f k a0 a1=some r) :
  Spec Tryz.prog 203 [.agg #[.int .i64 a0.1,.int .i64 a0.2.1,.int .i64 a0.2.2.1,.int .i64 a0.2.2.2.1,.int .i64 a0.2.2.2.2.1,.int .i64 a0.2.2.2.2.2.1,.int .i64 a0.2.2.2.2.2.2.1,.int .i64 a0.2.2.2.2.2.2.2],.slice A1 a1.length c_1] [] [R33 a1 A1 c_1] (fun v l=>v=.bool r∧l=[]):=by
 refine Zi Tryz.func203 fun w0 F0 h0=>?_
 unfold Q76.f at H
 refine T8 (T6 ?_)
 refine rB (Z9 h0) fun b1 w1 h1=>?_
 refine Ze [1,2] rfl ?_
 refine T8 (T6 ?_)
 refine Zd 1 ?_
 refine cE H [] h1 rfl Q100.spec (gS [1]) ?_
 rintro r1 w2 _ _ H ⟨A2,c_2,rfl,rfl⟩ h2
 replace h2:=nf h2
 refine Ze [1,2,5] rfl ?_
 refine T8 (T6 ?_)
 refine Zd 1 ?_
 refine cE H [0] h2 rfl Q115.spec Zp ?_
 rintro r2 w3 _ _ H ⟨rfl,rfl,q3⟩ h3
 replace h3:=nf h3
 refine Ze [1,2,5] rfl ?_
 refine T2 (env':=[(1,.slice A1 a1.length c_1),(2,.pointer (some ⟨b1,0,none⟩)),(5,.slice A2 r2.length c_2)]) (by simp only [q3,List.length_nil] <;> rfl) ?_
 refine T8 (T8 ?_)
 refine jH h3 fun h4=>?_
 refine Zo [0,1,2,3] ?_
 refine X8 13 H (fun c1 H=>?_) fun c1 H=>?_
 ·refine Zo [4,5,6,7,8,9,10,11,12,13,14,15,16,17,18,19,20,21,22,23,24,25,26,27] ?_
  refine Zw [1,5,37] ?_
  refine Zn ?_
  refine T8 (Zb [4] ?_)
  have h5:=sO h4 []
  replace h5:=nf h5
  cases H
  exact T7 (jR0 h5 [])
 refine Zo [4,5,6] ?_
 refine Zf 7 rfl (Za 1 wI) ?_
 refine Zo [8,9,10] ?_
 refine X8 20 H (fun c2 H=>?_) fun c2 H=>?_
 ·refine Zo [11,12,13,14,15,16,17,18,19,20,21,22,23,24,25,26,27] ?_
  refine Zw [1,5,37] ?_
  refine Zn ?_
  refine T8 (Zb [4] ?_)
  have h6:=sO h4 []
  replace h6:=nf h6
  cases H
  exact T7 (jR0 h6 [])
 refine Zo [11] ?_
 obtain ⟨p1,H⟩:=Zk H
 have e1:=Wl h4.wh (gO 0) p1
 refine Zf 12 rfl (Xr e1 p1) ?_
 refine Zf 13 rfl (Y7 0 wI (gO 0) p1) ?_
 refine Zo [14,15,16] ?_
 refine X8 26 H (fun c3 H=>?_) fun c3 H=>?_
 ·refine Zo [17,18,19,20,21,22,23,24,25,26,27] ?_
  refine Zw [1,5,37] ?_
  refine Zn ?_
  refine T8 (Zb [4] ?_)
  have h7:=sO h4 []
  replace h7:=nf h7
  cases H
  exact T7 (jR0 h7 [])
 refine Zo [17,18,19,20,24] ?_
 obtain ⟨⟨p2,p3⟩,H⟩:=Zk H
 refine Zf 21 rfl (Zg e1 p2 p3) ?_
 refine Zf 22 rfl (Zh 0 wI (gO 0) p2 p3) ?_
 refine Zo [23] ?_
 refine Zf 25 rfl (Za 1 wI) ?_
 refine Zo [26,27] ?_
 refine Zw [1,5,37] ?_
 refine jIf H (fun c4 H=>?_) fun c4 H=>?_
 ·refine T8 (Zb [4] ?_)
  have h8:=sO h4 []
  replace h8:=nf h8
  cases H
  exact T7 (jR0 h8 [])
 refine T9 (T8 (T6 ?_))
 refine Zd 1 ?_
 obtain ⟨r3,q4,H⟩:=Yj H
 refine Zs (Ya [0] (Q101.spec q4) h4 rfl Zp) ?_
 rintro _ w4 ⟨_,_,⟨A3,c_3,rfl,rfl,rfl⟩,h9⟩
 replace h9:=nf h9
 refine Ze [4] rfl ?_
 cases H
 exact T7 (jR0 h9 [])

def Q60.l0:Nat→TM→TC→Int→Option (Bool)
 | 0,_,_,_=>none
 | k+1,a0,a1,x1=>if (decide (x1<(a0.length:Int)))=true then (if 0≤x1∧x1<(a0.length:Int) then ((Q69.f a1 (gt a0 x1)).bind fun r1=>(if (!r1)=true then (some false) else (if (decide ((gt a0 x1)=a1.1))=true then (some false) else (if (decide (0<x1))=true then (if 0≤(w64 (x1 - 1))∧(w64 (x1 - 1))<(a0.length:Int) then ((Q67.f (gt a0 (w64 (x1 - 1))) (gt a0 x1)).bind fun r2=>(if (decide (0≤r2))=true then (some false) else (Q60.l0 k a0 a1 (w64 (x1+1))))) else none) else (Q60.l0 k a0 a1 (w64 (x1+1))))))) else none) else (some true)
def Q60.f (k:Nat) (a0:TM) (a1:TC):Option (Bool):=Q60.l0 k a0 a1 0
theorem Q60.spec {k a0 a1 A1 c_1 r} (H:Q60.f k a0 a1=some r) :
  Spec Tryz.prog 204 [.slice A1 a0.length c_1,.agg #[.string ⟨⟨a1.1⟩⟩,.string ⟨⟨a1.2.1⟩⟩,.bool a1.2.2]] [] [R9 a0 A1 c_1] (fun v l=>v=.bool r∧l=[]):=by
 refine Zi Tryz.func204 fun w0 F0 h0=>?_
 unfold Q60.f at H
 refine T8 (T6 ?_)
 refine rB (Z9 h0) fun b1 w1 h1=>?_
 refine Ze [0,3] rfl ?_
 refine T8 (T8 (Zb [0,3,7,8,9] ?_))
 refine T0 ?_
 have h7:=(sOR h1 [0] [0])
 refine T4 (fun kk env w=>∃ x1,Q60.l0 kk a0 a1 x1=some r∧env=[(0,.slice A1 a0.length c_1),(3,.pointer (some ⟨b1,0,none⟩)),(7,.slice A1 a0.length c_1),(8,.int .i64 (a0.length:Int)),(9,.int .i64 x1)]∧St w0 F0 [X92 b1 a1.1 a1.2.1 a1.2.2] [R9 a0 A1 c_1] w) (k:=k) ⟨_,H,rfl,h7⟩ ?_
 rintro k1 env w2 ⟨x1,H,rfl,h2⟩
 rcases k1 with _ | k1
 ·exact z0 H
 rw [Q60.l0] at H
 refine T8 (Zb [0,3,7,8,9,10] ?_)
 refine T8 (jIf H (fun c1 H=>?_) fun c1 H=>?_)
 ·refine T9 (T8 (T0 (T8 (T6 ?_))))
  refine Zd 1 ?_
  obtain ⟨⟨p1,p2⟩,H⟩:=Zk H
  have e1:=Z0 h2.wh (Zj 1) p1 p2
  refine Zc (Zg e1 p1 p2) ?_
  refine Zc (Zh 0 h2.wht (Zj 1) p1 p2) ?_
  refine Ze [0,3,5,6,7,8,9] rfl ?_
  refine T8 (T6 ?_)
  refine Zc (Za 0 h2.wht) ?_
  refine Zd 1 ?_
  refine cS H [] h2 rfl Q69.spec Zp fun r1 w3 H h3=>?_
  refine Zd 2 ?_
  refine Yb 18 H (fun c2 H=>?_) fun c2 H=>?_
  ·refine Ze [0,3,7,8,9,37] rfl ?_
   refine Zn ?_
   refine T8 (Zb [4] ?_)
   cases H
   exact T7 (jR0 h3 [])
  refine Zd 2 ?_
  refine Zc (Za 0 h3.wht) ?_
  refine Zd 3 ?_
  refine Yb 24 H (fun c3 H=>?_) fun c3 H=>?_
  ·refine Ze [0,3,7,8,9,37] rfl ?_
   refine Zn ?_
   refine T8 (Zb [4] ?_)
   cases H
   exact T7 (jR0 h3 [])
  refine Zd 3 ?_
  refine Yb 27 H (fun c4 H=>?_) fun c4 H=>?_
  ·refine Zd 3 ?_
   obtain ⟨⟨p3,p4⟩,H⟩:=Zk H
   refine Zc (Zg e1 p3 p4) ?_
   refine Zc (Zh 0 h3.wht (Zj 1) p3 p4) ?_
   refine Zd 1 ?_
   refine cS H [] h3 rfl Q67.spec Zp fun r2 w4 H h4=>?_
   refine Ze [0,3,7,8,9,37] rfl ?_
   refine jIf H (fun c5 H=>?_) fun c5 H=>?_
   ·refine T8 (Zb [4] ?_)
    cases H
    exact T7 (jR0 h4 [])
   refine T9 (Zb [0,3,7,8,9] ?_)
   have h5:=(sOR h4 [0] [0])
   exact ⟨k1,by omega,_,H,rfl,h5⟩
  refine Ze [0,3,7,8,9,37] rfl ?_
  refine Z6 ?_
  refine T9 (Zb [0,3,7,8,9] ?_)
  have h6:=(sOR h3 [0] [0])
  exact ⟨k1,by omega,_,H,rfl,h6⟩
 refine T3 (T8 (Zb [4] ?_))
 cases H
 exact T7 (jR0 h2 [])

def Q74.f (a0:TS) (a1:Tq):Option (Bool):=(Q71.f a1 a0).bind fun r1=>(some (!r1))
theorem Q74.spec {a0 a1 b1 r} (H:Q74.f a0 a1=some r) :
  Spec Tryz.prog 206 [.string ⟨⟨a0⟩⟩,.pointer (some ⟨b1,0,none⟩)] [X23 b1 a1.1 a1.2.1 a1.2.2.1 a1.2.2.2.1 a1.2.2.2.2.1 a1.2.2.2.2.2.1 a1.2.2.2.2.2.2.1 a1.2.2.2.2.2.2.2] [] (fun v l=>v=.bool r∧l=[X23 b1 a1.1 a1.2.1 a1.2.2.1 a1.2.2.2.1 a1.2.2.2.2.1 a1.2.2.2.2.2.1 a1.2.2.2.2.2.2.1 a1.2.2.2.2.2.2.2]):=by
 refine Zi Tryz.func206 fun w0 F0 h0=>?_
 unfold Q74.f at H
 refine T8 (Zb [0,1] ?_)
 refine T8 (T6 ?_)
 refine Zc (Za 0 h0.wht) ?_
 refine Zd 1 ?_
 refine cS H [] h0 rfl Q71.spec Zp fun r1 w1 H h1=>?_
 refine Ze [3] rfl ?_
 cases H
 exact T7 (jR0 h1 [0])

def Q113.l0:Nat→TM→Tq→Int→Option (Int)
 | 0,_,_,_=>none
 | k+1,a0,a2,x1=>if (decide (x1<(a0.length:Int)))=true then (if 0≤x1∧x1<(a0.length:Int) then ((Q74.f (gt a0 x1) a2).bind fun r1=>(if r1=true then (some x1) else (Q113.l0 k a0 a2 (w64 (x1+1))))) else none) else (some (-1))
def Q113.f (k:Nat) (a0:TM) (a2:Tq):Option (Int):=Q113.l0 k a0 a2 0
theorem Q113.spec {k a0 a2 A1 c_1 b1 r} (H:Q113.f k a0 a2=some r) :
  Spec Tryz.prog 229 [.slice A1 a0.length c_1,.func (.func 206) #[] #[.pointer (some ⟨b1,0,none⟩)]] [X23 b1 a2.1 a2.2.1 a2.2.2.1 a2.2.2.2.1 a2.2.2.2.2.1 a2.2.2.2.2.2.1 a2.2.2.2.2.2.2.1 a2.2.2.2.2.2.2.2] [R9 a0 A1 c_1] (fun v l=>v=.int .i64 r∧l=[X23 b1 a2.1 a2.2.1 a2.2.2.1 a2.2.2.2.1 a2.2.2.2.2.1 a2.2.2.2.2.2.1 a2.2.2.2.2.2.2.1 a2.2.2.2.2.2.2.2]):=by
 refine Zi Tryz.func229 fun w0 F0 h0=>?_
 unfold Q113.f at H
 refine T8 (Zb [0,1] ?_)
 refine T8 (T8 (Zb [0,1,7,8] ?_))
 refine T0 ?_
 have h4:=(sOR h0 [0] [0])
 refine T4 (fun kk env w=>∃ x1,Q113.l0 kk a0 a2 x1=some r∧env=[(0,.slice A1 a0.length c_1),(1,.func (.func 206) #[] #[.pointer (some ⟨b1,0,none⟩)]),(7,.int .i64 (a0.length:Int)),(8,.int .i64 x1)]∧St w0 F0 [X23 b1 a2.1 a2.2.1 a2.2.2.1 a2.2.2.2.1 a2.2.2.2.2.1 a2.2.2.2.2.2.1 a2.2.2.2.2.2.2.1 a2.2.2.2.2.2.2.2] [R9 a0 A1 c_1] w) (k:=k) ⟨_,H,rfl,h4⟩ ?_
 rintro k1 env w1 ⟨x1,H,rfl,h1⟩
 rcases k1 with _ | k1
 ·exact z0 H
 rw [Q113.l0] at H
 refine T8 (Zb [0,1,7,8,9] ?_)
 refine T8 (jIf H (fun c1 H=>?_) fun c1 H=>?_)
 ·refine T9 (T8 (T0 (T8 (Zb [0,1,5,7,8] ?_))))
  refine T8 (T6 ?_)
  refine Zd 3 ?_
  obtain ⟨⟨p1,p2⟩,H⟩:=Zk H
  have e1:=Z0 h1.wh (Zj 1) p1 p2
  refine Zc (Zg e1 p1 p2) ?_
  refine Zc (Zh 0 h1.wht (Zj 1) p1 p2) ?_
  obtain ⟨r1,q1,H⟩:=Yj H
  refine Zs (Jo [.string ⟨⟨(gt a0 x1)⟩⟩] [.pointer (some ⟨b1,0,none⟩)] [0] (Q74.spec q1) h1 rfl Zp) ?_
  rintro _ w2 ⟨_,⟨rfl,rfl⟩,h2⟩
  replace h2:=nf h2
  refine Ze [0,1,5,7,8,16] rfl ?_
  refine jIf H (fun c2 H=>?_) fun c2 H=>?_
  ·refine T8 (Zb [4] ?_)
   cases H
   exact T7 (jR0 h2 [0])
  refine T9 (Zb [0,1,7,8] ?_)
  have h3:=(sOR h2 [0] [0])
  exact ⟨k1,by omega,_,H,rfl,h3⟩
 refine T3 (T8 (Zb [4] ?_))
 cases H
 exact T7 (jR0 h1 [0])

def Q106.f (k:Nat) (a0:TM) (a2:Tq):Option (Bool):=(Q113.f k a0 a2).bind fun r1=>(some (decide (0≤r1)))
theorem Q106.spec {k a0 a2 A1 c_1 b1 r} (H:Q106.f k a0 a2=some r) :
  Spec Tryz.prog 205 [.slice A1 a0.length c_1,.func (.func 206) #[] #[.pointer (some ⟨b1,0,none⟩)]] [X23 b1 a2.1 a2.2.1 a2.2.2.1 a2.2.2.2.1 a2.2.2.2.2.1 a2.2.2.2.2.2.1 a2.2.2.2.2.2.2.1 a2.2.2.2.2.2.2.2] [R9 a0 A1 c_1] (fun v l=>v=.bool r∧l=[X23 b1 a2.1 a2.2.1 a2.2.2.1 a2.2.2.2.1 a2.2.2.2.2.1 a2.2.2.2.2.2.1 a2.2.2.2.2.2.2.1 a2.2.2.2.2.2.2.2]):=by
 refine Zi Tryz.func205 fun w0 F0 h0=>?_
 unfold Q106.f at H
 refine T8 (Zb [0,1] ?_)
 refine T8 (T6 ?_)
 refine Zd 2 ?_
 refine cS H [0] h0 rfl Q113.spec (gS [0]) fun r1 w1 H h1=>?_
 refine Ze [4] rfl ?_
 cases H
 exact T7 (jR0 h1 [0])

def Q14.l0:Nat→Tv→Int→Option (Bool)
 | 0,_,_=>none
 | k+1,a0,x1=>if (decide (x1<(w64 ((a0.length:Int) - 1))))=true then (if 0≤x1∧x1<(a0.length:Int) then (if 0≤(w64 (x1+1))∧(w64 (x1+1))<(a0.length:Int) then ((Q67.f ((gt a0 x1).1) ((gt a0 (w64 (x1+1))).1)).bind fun r1=>(if (decide (0≤r1))=true then (some false) else (Q14.l0 k a0 (w64 (x1+1))))) else none) else none) else (some true)
def Q14.f (k:Nat) (a0:Tv):Option (Bool):=Q14.l0 k a0 0
theorem Q14.spec {k a0 A1 c_1 r} (H:Q14.f k a0=some r) :
  Spec Tryz.prog 207 [.slice A1 a0.length c_1] [] [Yi a0 A1 c_1] (fun v l=>v=.bool r∧l=[]):=by
 refine Zi Tryz.func207 fun w0 F0 h0=>?_
 unfold Q14.f at H
 refine T8 (Zb [0] ?_)
 refine T8 (T8 (Zb [0,6,7] ?_))
 refine T0 ?_
 have h5:=(sOR h0 [] [0])
 refine T4 (fun kk env w=>∃ x1,Q14.l0 kk a0 x1=some r∧env=[(0,.slice A1 a0.length c_1),(6,.int .i64 (w64 ((a0.length:Int) - 1))),(7,.int .i64 x1)]∧St w0 F0 [] [Yi a0 A1 c_1] w) (k:=k) ⟨_,H,rfl,h5⟩ ?_
 rintro k1 env w1 ⟨x1,H,rfl,h1⟩
 rcases k1 with _ | k1
 ·exact z0 H
 rw [Q14.l0] at H
 refine T8 (Zb [0,6,7,8] ?_)
 refine T8 (jIf H (fun c1 H=>?_) fun c1 H=>?_)
 ·refine T9 (T8 (T0 (T8 (Zb [0,3,6,7] ?_))))
  refine T8 (jH h1 fun h2=>?_)
  refine Zo [0,1,5,6,7] ?_
  obtain ⟨⟨p1,p2⟩,H⟩:=Zk H
  have e1:=Z0 h2.wh (Zj 0) p1 p2
  refine Zf 2 rfl (Zg e1 p1 p2) ?_
  refine Zo [3] ?_
  refine Zf 4 rfl (Zh 0 wI (Zj 0) p1 p2) ?_
  obtain ⟨⟨p3,p4⟩,H⟩:=Zk H
  refine Zf 8 rfl (Zg e1 p3 p4) ?_
  refine Zo [9] ?_
  refine Zf 10 rfl (Zh 0 wI (Zj 0) p3 p4) ?_
  refine cSJ 11 rfl H [] h2 rfl Q67.spec Zp 0 fun r1 w2 H h3=>?_
  refine Zo [12] ?_
  refine Zw [0,6,7,22] ?_
  refine jIf H (fun c2 H=>?_) fun c2 H=>?_
  ·refine T8 (Zb [2] ?_)
   cases H
   exact T7 (jR0 h3 [])
  refine T9 (Zb [0,6,7] ?_)
  have h4:=(sOR h3 [] [0])
  exact ⟨k1,by omega,_,H,rfl,h4⟩
 refine T3 (T8 (Zb [2] ?_))
 cases H
 exact T7 (jR0 h1 [])

def Q75.f (a0:TB) (a1:Tq) (a2:TC):Option (Bool):=(Q71.f a1 a0.1).bind fun r1=>(if (!r1)=true then (some true) else ((Q69.f a2 a0.1).bind fun r2=>(if (!r2)=true then (some true) else (if (decide (a1.2.2.2.2.2.2.2<(a0.2.2.length:Int)))=true then (some true) else (if a0.2.1=true then (some (!decide (a0.2.2=([]:List UInt8)))) else (some false))))))
theorem Q75.spec {a0 a1 a2 b1 b2 r} (H:Q75.f a0 a1 a2=some r) :
  Spec Tryz.prog 209 [.agg #[.string ⟨⟨a0.1⟩⟩,.bool a0.2.1,.string ⟨⟨a0.2.2⟩⟩],.pointer (some ⟨b1,0,none⟩),.pointer (some ⟨b2,0,none⟩)] [X23 b1 a1.1 a1.2.1 a1.2.2.1 a1.2.2.2.1 a1.2.2.2.2.1 a1.2.2.2.2.2.1 a1.2.2.2.2.2.2.1 a1.2.2.2.2.2.2.2,X92 b2 a2.1 a2.2.1 a2.2.2] [] (fun v l=>v=.bool r∧l=[X23 b1 a1.1 a1.2.1 a1.2.2.1 a1.2.2.2.1 a1.2.2.2.2.1 a1.2.2.2.2.2.1 a1.2.2.2.2.2.2.1 a1.2.2.2.2.2.2.2,X92 b2 a2.1 a2.2.1 a2.2.2]):=by
 refine Zi Tryz.func209 fun w0 F0 h0=>?_
 unfold Q75.f at H
 refine T8 (T6 ?_)
 refine rB (Z9 h0) fun b3 w1 h1=>?_
 refine Ze [1,2,3] rfl ?_
 refine T8 (T6 ?_)
 refine Zc (Za 1 h1.wht) ?_
 refine Zd 1 ?_
 refine Zc (Za 0 h1.wht) ?_
 refine cS H [] h1 rfl Q71.spec Zp fun r1 w2 H h2=>?_
 refine Zd 2 ?_
 refine Yb 10 H (fun c1 H=>?_) fun c1 H=>?_
 ·refine Ze [4] rfl ?_
  cases H
  exact T7 (jR0 h2 [1,1])
 refine Zc (Za 2 h2.wht) ?_
 refine Zd 1 ?_
 refine Zc (Za 0 h2.wht) ?_
 refine cS H [] h2 rfl Q69.spec Zp fun r2 w3 H h3=>?_
 refine Zd 3 ?_
 refine Yb 17 H (fun c2 H=>?_) fun c2 H=>?_
 ·refine Ze [4] rfl ?_
  cases H
  exact T7 (jR0 h3 [1,1])
 refine Zd 1 ?_
 refine Zc (Za 0 h3.wht) ?_
 refine Zd 2 ?_
 refine Zc (Za 1 h3.wht) ?_
 refine Zd 3 ?_
 refine Yb 25 H (fun c3 H=>?_) fun c3 H=>?_
 ·refine Ze [4] rfl ?_
  cases H
  exact T7 (jR0 h3 [1,1])
 refine Zd 1 ?_
 refine Zc (Za 0 h3.wht) ?_
 refine Zd 1 ?_
 refine Yb 28 H (fun c4 H=>?_) fun c4 H=>?_
 ·refine Zd 1 ?_
  refine Zc (Za 0 h3.wht) ?_
  refine Ze [4] rfl ?_
  cases H
  exact T7 (jR0 h3 [1,1])
 refine Ze [4] rfl ?_
 cases H
 exact T7 (jR0 h3 [1,1])

def Q109.l0:Nat→Tv→Tq→TC→Int→Option (Int)
 | 0,_,_,_,_=>none
 | k+1,a0,a2,a3,x1=>if (decide (x1<(a0.length:Int)))=true then (if 0≤x1∧x1<(a0.length:Int) then ((Q75.f (gt a0 x1) a2 a3).bind fun r1=>(if r1=true then (some x1) else (Q109.l0 k a0 a2 a3 (w64 (x1+1))))) else none) else (some (-1))
def Q109.f (k:Nat) (a0:Tv) (a2:Tq) (a3:TC):Option (Int):=Q109.l0 k a0 a2 a3 0
theorem Q109.spec {k a0 a2 a3 A1 c_1 b1 b2 r} (H:Q109.f k a0 a2 a3=some r) :
  Spec Tryz.prog 230 [.slice A1 a0.length c_1,.func (.func 209) #[] #[.pointer (some ⟨b1,0,none⟩),.pointer (some ⟨b2,0,none⟩)]] [X23 b1 a2.1 a2.2.1 a2.2.2.1 a2.2.2.2.1 a2.2.2.2.2.1 a2.2.2.2.2.2.1 a2.2.2.2.2.2.2.1 a2.2.2.2.2.2.2.2,X92 b2 a3.1 a3.2.1 a3.2.2] [Yi a0 A1 c_1] (fun v l=>v=.int .i64 r∧l=[X23 b1 a2.1 a2.2.1 a2.2.2.1 a2.2.2.2.1 a2.2.2.2.2.1 a2.2.2.2.2.2.1 a2.2.2.2.2.2.2.1 a2.2.2.2.2.2.2.2,X92 b2 a3.1 a3.2.1 a3.2.2]):=by
 refine Zi Tryz.func230 fun w0 F0 h0=>?_
 unfold Q109.f at H
 refine T8 (Zb [0,1] ?_)
 refine T8 (T8 (Zb [0,1,7,8] ?_))
 refine T0 ?_
 have h4:=(sOR h0 [0,0] [0])
 refine T4 (fun kk env w=>∃ x1,Q109.l0 kk a0 a2 a3 x1=some r∧env=[(0,.slice A1 a0.length c_1),(1,.func (.func 209) #[] #[.pointer (some ⟨b1,0,none⟩),.pointer (some ⟨b2,0,none⟩)]),(7,.int .i64 (a0.length:Int)),(8,.int .i64 x1)]∧St w0 F0 [X23 b1 a2.1 a2.2.1 a2.2.2.1 a2.2.2.2.1 a2.2.2.2.2.1 a2.2.2.2.2.2.1 a2.2.2.2.2.2.2.1 a2.2.2.2.2.2.2.2,X92 b2 a3.1 a3.2.1 a3.2.2] [Yi a0 A1 c_1] w) (k:=k) ⟨_,H,rfl,h4⟩ ?_
 rintro k1 env w1 ⟨x1,H,rfl,h1⟩
 rcases k1 with _ | k1
 ·exact z0 H
 rw [Q109.l0] at H
 refine T8 (Zb [0,1,7,8,9] ?_)
 refine T8 (jIf H (fun c1 H=>?_) fun c1 H=>?_)
 ·refine T9 (T8 (T0 (T8 (Zb [0,1,5,7,8] ?_))))
  refine T8 (T6 ?_)
  refine Zd 3 ?_
  obtain ⟨⟨p1,p2⟩,H⟩:=Zk H
  have e1:=Z0 h1.wh (Zj 2) p1 p2
  refine Zc (Zg e1 p1 p2) ?_
  refine Zc (Zh 0 h1.wht (Zj 2) p1 p2) ?_
  obtain ⟨r1,q1,H⟩:=Yj H
  refine Zs (Jo [.agg #[.string ⟨⟨(gt a0 x1).1⟩⟩,.bool ((gt a0 x1).2.1),.string ⟨⟨(gt a0 x1).2.2⟩⟩]] [.pointer (some ⟨b1,0,none⟩),.pointer (some ⟨b2,0,none⟩)] [0,0] (Q75.spec q1) h1 rfl Zp) ?_
  rintro _ w2 ⟨_,⟨rfl,rfl⟩,h2⟩
  replace h2:=nf h2
  refine Ze [0,1,5,7,8,16] rfl ?_
  refine jIf H (fun c2 H=>?_) fun c2 H=>?_
  ·refine T8 (Zb [4] ?_)
   cases H
   exact T7 (jR0 h2 [0,0])
  refine T9 (Zb [0,1,7,8] ?_)
  have h3:=(sOR h2 [0,0] [0])
  exact ⟨k1,by omega,_,H,rfl,h3⟩
 refine T3 (T8 (Zb [4] ?_))
 cases H
 exact T7 (jR0 h1 [0,0])

def Q102.f (k:Nat) (a0:Tv) (a2:Tq) (a3:TC):Option (Bool):=(Q109.f k a0 a2 a3).bind fun r1=>(some (decide (0≤r1)))
theorem Q102.spec {k a0 a2 a3 A1 c_1 b1 b2 r} (H:Q102.f k a0 a2 a3=some r) :
  Spec Tryz.prog 208 [.slice A1 a0.length c_1,.func (.func 209) #[] #[.pointer (some ⟨b1,0,none⟩),.pointer (some ⟨b2,0,none⟩)]] [X23 b1 a2.1 a2.2.1 a2.2.2.1 a2.2.2.2.1 a2.2.2.2.2.1 a2.2.2.2.2.2.1 a2.2.2.2.2.2.2.1 a2.2.2.2.2.2.2.2,X92 b2 a3.1 a3.2.1 a3.2.2] [Yi a0 A1 c_1] (fun v l=>v=.bool r∧l=[X23 b1 a2.1 a2.2.1 a2.2.2.1 a2.2.2.2.1 a2.2.2.2.2.1 a2.2.2.2.2.2.1 a2.2.2.2.2.2.2.1 a2.2.2.2.2.2.2.2,X92 b2 a3.1 a3.2.1 a3.2.2]):=by
 refine Zi Tryz.func208 fun w0 F0 h0=>?_
 unfold Q102.f at H
 refine T8 (Zb [0,1] ?_)
 refine T8 (T6 ?_)
 refine Zd 2 ?_
 refine cS H [0,0] h0 rfl Q109.spec (gS [0]) fun r1 w1 H h1=>?_
 refine Ze [4] rfl ?_
 cases H
 exact T7 (jR0 h1 [0,0])

def Q73.f (k:Nat) (a0:Tq) (a1:TC) (a2:Tn):Option (Bool):=if (decide (40<a2.1))=true then (some false) else (if (decide (0<(a2.2.2.2.2.length:Int)))=true then (some false) else ((Q76.f k a0 a2.2.1).bind fun r1=>(if (!r1)=true then (some false) else (if (!decide ((a2.2.2.1.length:Int)=(w64 ((a2.2.1.length:Int) - 1))))=true then (some false) else ((Q60.f k a2.2.2.1 a1).bind fun r2=>(if (!r2)=true then (some false) else ((Q106.f k a2.2.2.1 a0).bind fun r3=>(if r3=true then (some false) else (if (decide (a0.2.2.2.2.1<(a2.2.2.2.1.length:Int)))=true then (some false) else ((Q14.f k a2.2.2.2.1).bind fun r4=>(if (!r4)=true then (some false) else ((Q102.f k a2.2.2.2.1 a0 a1).bind fun r5=>(some (!r5))))))))))))))
theorem Q73.spec {k a0 a1 a2 A1 c_1 A2 c_2 A3 c_3 A4 c_4 r} (H:Q73.f k a0 a1 a2=some r) :
  Spec Tryz.prog 166 [.agg #[.int .i64 a0.1,.int .i64 a0.2.1,.int .i64 a0.2.2.1,.int .i64 a0.2.2.2.1,.int .i64 a0.2.2.2.2.1,.int .i64 a0.2.2.2.2.2.1,.int .i64 a0.2.2.2.2.2.2.1,.int .i64 a0.2.2.2.2.2.2.2],.agg #[.string ⟨⟨a1.1⟩⟩,.string ⟨⟨a1.2.1⟩⟩,.bool a1.2.2],.agg #[.int .i64 a2.1,.slice A1 a2.2.1.length c_1,.slice A2 a2.2.2.1.length c_2,.slice A3 a2.2.2.2.1.length c_3,.slice A4 a2.2.2.2.2.length c_4]] [] [R33 a2.2.1 A1 c_1,R9 a2.2.2.1 A2 c_2,Yi a2.2.2.2.1 A3 c_3,Ym a2.2.2.2.2 A4 c_4] (fun v l=>v=.bool r∧l=[]):=by
 refine Zi Tryz.func166 fun w0 F0 h0=>?_
 unfold Q73.f at H
 refine T8 (T6 ?_)
 refine rB (Z9 h0) fun b1 w1 h1=>?_
 refine rB (Z9 h1) fun b2 w2 h2=>?_
 refine rB (Z9 h2) fun b3 w3 h3=>?_
 refine Ze [3,4,5] rfl ?_
 refine T8 (T8 (T6 ?_))
 refine Zd 1 ?_
 refine Zc (Za 0 h3.wht) ?_
 refine Zd 2 ?_
 refine Yb 10 H (fun c1 H=>?_) fun c1 H=>?_
 ·refine Ze [3,4,5,39] rfl ?_
  refine Zn ?_
  refine T8 (Zb [6] ?_)
  have h4:=sO h3 []
  replace h4:=nf h4
  cases H
  exact T7 (jR0 h4 [])
 refine Zd 1 ?_
 refine Zc (Za 0 h3.wht) ?_
 refine Zd 4 ?_
 refine Yb 16 H (fun c2 H=>?_) fun c2 H=>?_
 ·refine Ze [3,4,5,39] rfl ?_
  refine Zn ?_
  refine T8 (Zb [6] ?_)
  have h5:=sO h3 []
  replace h5:=nf h5
  cases H
  exact T7 (jR0 h5 [])
 refine Zc (Za 2 h3.wht) ?_
 refine Zd 1 ?_
 refine Zc (Za 0 h3.wht) ?_
 refine cS H [] h3 rfl Q76.spec (gS [3]) fun r1 w4 H h6=>?_
 refine Zd 3 ?_
 refine Yb 23 H (fun c3 H=>?_) fun c3 H=>?_
 ·refine Ze [3,4,5,39] rfl ?_
  refine Zn ?_
  refine T8 (Zb [6] ?_)
  have h7:=sO h6 []
  replace h7:=nf h7
  cases H
  exact T7 (jR0 h7 [])
 refine Zd 1 ?_
 refine Zc (Za 0 h6.wht) ?_
 refine Zd 2 ?_
 refine Zc (Za 0 h6.wht) ?_
 refine Zd 5 ?_
 refine Yb 33 H (fun c4 H=>?_) fun c4 H=>?_
 ·refine Ze [3,4,5,39] rfl ?_
  refine Zn ?_
  refine T8 (Zb [6] ?_)
  have h8:=sO h6 []
  replace h8:=nf h8
  cases H
  exact T7 (jR0 h8 [])
 refine Zd 1 ?_
 refine Zc (Za 0 h6.wht) ?_
 refine Zc (Za 1 h6.wht) ?_
 refine cS H [] h6 rfl Q60.spec (gS [4]) fun r2 w5 H h9=>?_
 refine Ze [3,4,5,39] rfl ?_
 refine jIf H (fun c5 H=>?_) fun c5 H=>?_
 ·refine T8 (Zb [6] ?_)
  have h10:=sO h9 []
  replace h10:=nf h10
  cases H
  exact T7 (jR0 h10 [])
 refine T9 (T8 (T8 (T6 ?_)))
 refine Zd 1 ?_
 refine Zc (Za 0 h9.wht) ?_
 refine Zd 1 ?_
 refine cS H [2] h9 rfl Q106.spec (gS [3]) fun r3 w6 H h11=>?_
 refine Zd 1 ?_
 refine Yb 44 H (fun c6 H=>?_) fun c6 H=>?_
 ·refine Ze [3,4,5,57] rfl ?_
  refine Zn ?_
  refine T8 (Zb [6] ?_)
  have h12:=sO h11 []
  replace h12:=nf h12
  cases H
  exact T7 (jR0 h12 [])
 refine Zd 1 ?_
 refine Zc (Za 1 h11.wht) ?_
 refine Zd 2 ?_
 refine Zc (Za 0 h11.wht) ?_
 refine Zd 3 ?_
 refine Yb 52 H (fun c7 H=>?_) fun c7 H=>?_
 ·refine Ze [3,4,5,57] rfl ?_
  refine Zn ?_
  refine T8 (Zb [6] ?_)
  have h13:=sO h11 []
  replace h13:=nf h13
  cases H
  exact T7 (jR0 h13 [])
 refine Zd 1 ?_
 refine Zc (Za 1 h11.wht) ?_
 refine cS H [] h11 rfl Q14.spec (gS [5]) fun r4 w7 H h14=>?_
 refine Ze [3,4,5,57] rfl ?_
 refine jIf H (fun c8 H=>?_) fun c8 H=>?_
 ·refine T8 (Zb [6] ?_)
  have h15:=sO h14 []
  replace h15:=nf h15
  cases H
  exact T7 (jR0 h15 [])
 refine T9 (T8 (T6 ?_))
 refine Zd 1 ?_
 refine Zc (Za 1 h14.wht) ?_
 refine Zd 1 ?_
 refine cS H [0,1] h14 rfl Q102.spec (gS [3]) fun r5 w8 H h16=>?_
 refine Ze [6] rfl ?_
 have h17:=sO h16 []
 replace h17:=nf h17
 cases H
 exact T7 (jR0 h17 [])

def Q72.f (k:Nat) (a0:Tq) (a1:TC) (a2:Tn):Option (Bool):=if (decide (a2.1<0))=true then (some false) else (if (decide (a2.1=0))=true then ((Q77.f k a0 a1 a2).bind fun r1=>(some r1)) else ((Q73.f k a0 a1 a2).bind fun r2=>(some r2)))
theorem Q72.spec {k a0 a1 a2 A1 c_1 A2 c_2 A3 c_3 A4 c_4 r} (H:Q72.f k a0 a1 a2=some r) :
  Spec Tryz.prog 120 [.agg #[.int .i64 a0.1,.int .i64 a0.2.1,.int .i64 a0.2.2.1,.int .i64 a0.2.2.2.1,.int .i64 a0.2.2.2.2.1,.int .i64 a0.2.2.2.2.2.1,.int .i64 a0.2.2.2.2.2.2.1,.int .i64 a0.2.2.2.2.2.2.2],.agg #[.string ⟨⟨a1.1⟩⟩,.string ⟨⟨a1.2.1⟩⟩,.bool a1.2.2],.agg #[.int .i64 a2.1,.slice A1 a2.2.1.length c_1,.slice A2 a2.2.2.1.length c_2,.slice A3 a2.2.2.2.1.length c_3,.slice A4 a2.2.2.2.2.length c_4]] [] [R33 a2.2.1 A1 c_1,R9 a2.2.2.1 A2 c_2,Yi a2.2.2.2.1 A3 c_3,Ym a2.2.2.2.2 A4 c_4] (fun v l=>v=.bool r∧l=[]):=by
 refine Zi Tryz.func120 fun w0 F0 h0=>?_
 unfold Q72.f at H
 refine T8 (T6 ?_)
 refine rB (Z9 h0) fun b1 w1 h1=>?_
 refine rB (Z9 h1) fun b2 w2 h2=>?_
 refine rB (Z9 h2) fun b3 w3 h3=>?_
 refine Ze [3,4,5] rfl ?_
 refine T8 (T0 (T8 (T6 ?_)))
 refine Zd 1 ?_
 refine Zc (Za 0 h3.wht) ?_
 refine Ze [3,4,5,7] rfl ?_
 refine jIf H (fun c1 H=>?_) fun c1 H=>?_
 ·refine T8 (Zb [6] ?_)
  have h4:=sO h3 []
  replace h4:=nf h4
  cases H
  exact T7 (jR0 h4 [])
 refine T8 (T6 ?_)
 refine Zd 1 ?_
 refine Zc (Za 0 h3.wht) ?_
 refine Ze [3,4,5,11] rfl ?_
 refine jIf H (fun c2 H=>?_) fun c2 H=>?_
 ·refine T8 (T6 ?_)
  refine Zc (Za 2 h3.wht) ?_
  refine Zc (Za 1 h3.wht) ?_
  refine Zc (Za 0 h3.wht) ?_
  refine cS H [] h3 rfl Q77.spec (gS [3,4,5,6]) fun r1 w4 H h5=>?_
  refine Ze [6] rfl ?_
  have h6:=sO h5 []
  replace h6:=nf h6
  cases H
  exact T7 (jR0 h6 [])
 refine T9 (T8 (T6 ?_))
 refine Zc (Za 2 h3.wht) ?_
 refine Zc (Za 1 h3.wht) ?_
 refine Zc (Za 0 h3.wht) ?_
 refine cS H [] h3 rfl Q73.spec (gS [3,4,5,6]) fun r2 w5 H h7=>?_
 refine Ze [6] rfl ?_
 have h8:=sO h7 []
 replace h8:=nf h8
 cases H
 exact T7 (jR0 h8 [])

def Q99.f (a0:TX):Option TX:=if (([]:List Int).length+a0.length)*1≤140737488355328 then (some (([]:List Int) ++ a0)) else none
theorem Q99.spec {a0 A1 c_1 r} (H:Q99.f a0=some r) :
  Spec Tryz.prog 63 [.slice A1 a0.length c_1] [] [R5 a0 A1 c_1] (fun v l=>∃ A_0 c_0,v=.slice A_0 r.length c_0∧l=[O5 r A_0 c_0]):=by
 refine Zi Tryz.func63 fun w0 F0 h0=>?_
 unfold Q99.f at H
 refine T8 (Zb [0] ?_)
 refine T8 (T8 (Zb [0,4] ?_))
 refine U2 (fun c1=>?_) (fun c1=>?_)
 ·have e1:=h0.nilrow (Zj 0) (by simpa using c1)
  replace H:(some ([]:List Int))=some r:=by rw [e1] at H; simpa using H
  refine T8 (Zb [2] ?_)
  have h1:=h0.addNil 5 (.int .u8)
  cases H
  exact T7 (jR ⟨_,_,rfl,rfl⟩ h1 [0])
 refine T9 (T8 (T6 ?_))
 refine rB (Z1 (.int .u8) ([]:List Int) h0) fun b1 w1 h2=>?_
 refine Zd 1 ?_
 obtain ⟨p1,H⟩:=Zk H
 refine Zs (Zr 0 h2 (Zj 0) p1) ?_
 rintro _ w2 ⟨A2,c_2,rfl,h3⟩
 replace h3:=nf h3
 refine Ze [2] rfl ?_
 cases H
 exact T7 (jR ⟨_,_,rfl,rfl⟩ h3 [0])

def Q166.f (a0:Int):Option (Bool):=if (decide (a0=1))=true then (some true) else (if (decide (a0=2))=true then (some true) else (if (decide (a0=4))=true then (some true) else (some (decide (a0=8)))))
theorem Q166.spec {a0 r} (H:Q166.f a0=some r) :
  Spec Tryz.prog 113 [.int .i64 a0] [] [] (fun v l=>v=.bool r∧l=[]):=by
 refine Zi Tryz.func113 fun w0 F0 h0=>?_
 unfold Q166.f at H
 refine T8 (Zb [0] ?_)
 refine T8 (T6 ?_)
 refine Zd 3 ?_
 refine Yb 5 H (fun c1 H=>?_) fun c1 H=>?_
 ·refine Ze [2] rfl ?_
  cases H
  exact T7 (jR0 h0 [])
 refine Zd 4 ?_
 refine Yb 9 H (fun c2 H=>?_) fun c2 H=>?_
 ·refine Ze [2] rfl ?_
  cases H
  exact T7 (jR0 h0 [])
 refine Zd 4 ?_
 refine Yb 13 H (fun c3 H=>?_) fun c3 H=>?_
 ·refine Ze [2] rfl ?_
  cases H
  exact T7 (jR0 h0 [])
 refine Ze [2] rfl ?_
 cases H
 exact T7 (jR0 h0 [])

def Q157.l0:Nat→Int→TX→Int→Option TX
 | 0,_,_,_=>none
 | k+1,a2,x1,x2=>if (decide (0≤x2))=true then (if 0≤(w64 (8*x2)) then (if (x1.length+([(IntKind.u8.wrap ((Int.fdiv a2 (2 ^ (min (w64 (8*x2)).toNat 64)))))]:List Int).length)*1≤140737488355328 then (Q157.l0 k a2 (x1 ++ ([(IntKind.u8.wrap ((Int.fdiv a2 (2 ^ (min (w64 (8*x2)).toNat 64)))))]:List Int)) (w64 (x2 - 1))) else none) else none) else (some x1)
def Q157.f (k:Nat) (a0:TX) (a1:Int) (a2:Int):Option TX:=(Q99.f a0).bind fun r1=>((Q166.f a1).bind fun r2=>(if (!r2)=true then (some r1) else (Q157.l0 k a2 r1 (w64 (a1 - 1)))))
theorem Q157.spec {k a0 a1 a2 A1 c_1 r} (H:Q157.f k a0 a1 a2=some r) :
  Spec Tryz.prog 210 [.slice A1 a0.length c_1,.int .i64 a1,.int .u64 a2] [] [R5 a0 A1 c_1] (fun v l=>∃ A_0 c_0,v=.slice A_0 r.length c_0∧l=[O5 r A_0 c_0]):=by
 refine Zi Tryz.func210 fun w0 F0 h0=>?_
 unfold Q157.f at H
 refine T8 (Zb [0,1,2] ?_)
 refine T8 (T6 ?_)
 refine Zd 1 ?_
 refine cE H [] h0 rfl Q99.spec (gS [0]) ?_
 rintro r1 w1 _ _ H ⟨A2,c_2,rfl,rfl⟩ h1
 replace h1:=nf h1
 refine Ze [1,2,7] rfl ?_
 refine T8 (T8 (T6 ?_))
 refine Zd 1 ?_
 refine cS H [] h1 rfl Q166.spec Zp fun r2 w2 H h2=>?_
 refine Ze [1,2,7,13] rfl ?_
 refine jIf H (fun c1 H=>?_) fun c1 H=>?_
 ·refine T8 (Zb [6] ?_)
  cases H
  exact T7 (jR ⟨_,_,rfl,rfl⟩ h2 [0])
 refine T9 (T8 (T8 (Zb [2,7,8] ?_)))
 refine T0 ?_
 have h7:=(sOR h2 [0] [])
 refine T4 (fun kk env w=>∃ x1 A3 c_3 x2,Q157.l0 kk a2 x1 x2=some r∧env=[(2,.int .u64 a2),(7,.slice A3 x1.length c_3),(8,.int .i64 x2)]∧St w0 F0 [O5 x1 A3 c_3] [] w) (k:=k) ⟨_,_,_,_,H,rfl,h7⟩ ?_
 rintro k1 env w3 ⟨x1,A3,c_3,x2,H,rfl,h3⟩
 rcases k1 with _ | k1
 ·exact z0 H
 rw [Q157.l0] at H
 refine T8 (T8 (Zb [2,7,8,18] ?_))
 refine jIf H (fun c2 H=>?_) fun c2 H=>?_
 ·refine T9 (T8 (T0 (T6 ?_)))
  refine Zd 4 ?_
  obtain ⟨p1,H⟩:=Zk H
  refine Zc (Zc3 p1) ?_
  refine Zd 1 ?_
  refine rB (Z1 (.int .u8) ([(IntKind.u8.wrap ((Int.fdiv a2 (2 ^ (min (w64 (8*x2)).toNat 64)))))]:List Int) h3) fun b1 w4 h4=>?_
  obtain ⟨p2,H⟩:=Zk H
  refine Zs (Zr 1 h4 (gO 0) p2) ?_
  rintro _ w5 ⟨A4,c_4,rfl,h5⟩
  replace h5:=nf h5
  refine Ze [2,7,8] rfl ?_
  refine Zb [2,7,8] ?_
  have h6:=(sOR h5 [0] [])
  exact ⟨k1,by omega,_,_,_,_,H,rfl,h6⟩
 refine T3 (T8 (Zb [6] ?_))
 cases H
 exact T7 (jR ⟨_,_,rfl,rfl⟩ h3 [0])

def Q41.f (k:Nat) (a0:TX) (a1:Int) (a2:Int):Option TX:=(Q157.f k ([]:List Int) a1 a2).bind fun r1=>(if (a0.length+r1.length)*1≤140737488355328 then (some (a0 ++ r1)) else none)
theorem Q41.spec {k a0 a1 a2 A1 c_1 r} (H:Q41.f k a0 a1 a2=some r) :
  Spec Tryz.prog 169 [.slice A1 a0.length c_1,.int .i64 a1,.int .u64 a2] [O5 a0 A1 c_1] [] (fun v l=>∃ A_0 c_0,v=.slice A_0 r.length c_0∧l=[O5 r A_0 c_0]):=by
 refine Zi Tryz.func169 fun w0 F0 h0=>?_
 unfold Q41.f at H
 refine T8 (Zb [0,1,2] ?_)
 refine T8 (T6 ?_)
 refine Zd 3 ?_
 have h1:=h0.addNil 5 (.int .u8)
 have h2:=h1.freeze (k:=0) rfl Yc
 refine cE H [] h2 rfl Q157.spec (gS [1]) ?_
 rintro r1 w1 _ _ H ⟨A2,c_2,rfl,rfl⟩ h3
 replace h3:=nf h3
 obtain ⟨p1,H⟩:=Zk H
 refine Zs (Zr 1 h3 (gO 0) p1) ?_
 rintro _ w2 ⟨A3,c_3,rfl,h4⟩
 replace h4:=nf h4
 refine Ze [6] rfl ?_
 cases H
 exact T7 (jR ⟨_,_,rfl,rfl⟩ h4 [0])

def Q40.f (k:Nat) (a0:Int) (a1:Int) (a2:Int) (a3:Int):Option TX:=(Q41.f k ([]:List Int) 1 (IntKind.u64.wrap (a0))).bind fun r1=>((Q41.f k r1 1 (IntKind.u64.wrap (a1))).bind fun r2=>((Q41.f k r2 2 (IntKind.u64.wrap (a2))).bind fun r3=>((Q41.f k r3 2 (IntKind.u64.wrap (a3))).bind fun r4=>((Q41.f k r4 2 0).bind fun r5=>(some r5)))))
theorem Q40.spec {k a0 a1 a2 a3 r} (H:Q40.f k a0 a1 a2 a3=some r) :
  Spec Tryz.prog 167 [.int .i64 a0,.int .i64 a1,.int .i64 a2,.int .i64 a3] [] [] (fun v l=>∃ A_0 c_0,v=.slice A_0 r.length c_0∧l=[O5 r A_0 c_0]):=by
 refine Zi Tryz.func167 fun w0 F0 h0=>?_
 unfold Q40.f at H
 refine T8 (Zb [0,1,2,3] ?_)
 refine T8 (T6 ?_)
 refine Zd 2 ?_
 have h1:=h0.addNil 5 (.int .u8)
 refine cE H [0] h1 rfl Q41.spec Zp ?_
 rintro r1 w1 _ _ H ⟨A1,c_1,rfl,rfl⟩ h2
 replace h2:=nf h2
 refine Ze [1,2,3,9] rfl ?_
 refine T8 (T6 ?_)
 refine Zd 3 ?_
 refine cE H [0] h2 rfl Q41.spec Zp ?_
 rintro r2 w2 _ _ H ⟨A2,c_2,rfl,rfl⟩ h3
 replace h3:=nf h3
 refine Ze [2,3,9] rfl ?_
 refine T8 (T6 ?_)
 refine Zd 3 ?_
 refine cE H [0] h3 rfl Q41.spec Zp ?_
 rintro r3 w3 _ _ H ⟨A3,c_3,rfl,rfl⟩ h4
 replace h4:=nf h4
 refine Ze [3,9] rfl ?_
 refine T8 (T6 ?_)
 refine Zd 3 ?_
 refine cE H [0] h4 rfl Q41.spec Zp ?_
 rintro r4 w4 _ _ H ⟨A4,c_4,rfl,rfl⟩ h5
 replace h5:=nf h5
 refine Ze [9] rfl ?_
 refine T8 (T6 ?_)
 refine Zd 1 ?_
 refine cE H [0] h5 rfl Q41.spec Zp ?_
 rintro r5 w5 _ _ H ⟨A5,c_5,rfl,rfl⟩ h6
 replace h6:=nf h6
 refine Ze [8] rfl ?_
 cases H
 exact T7 (jR ⟨_,_,rfl,rfl⟩ h6 [0])

def Q46.f (a0:TX) (a1:TS) (a2:Int):Option TX:=if a0.length+a1.length≤140737488355328 then (if 0≤(w64 (a2 - (a1.length:Int)))∧(((a0 ++ toB a1).length:Int)+(w64 (a2 - (a1.length:Int))))*1≤140737488355328 then (some ((a0 ++ toB a1) ++ List.replicate (w64 (a2 - (a1.length:Int))).toNat 0)) else none) else none
theorem Q46.spec {a0 a1 a2 A1 c_1 r} (H:Q46.f a0 a1 a2=some r) :
  Spec Tryz.prog 170 [.slice A1 a0.length c_1,.string ⟨⟨a1⟩⟩,.int .i64 a2] [O5 a0 A1 c_1] [] (fun v l=>∃ A_0 c_0,v=.slice A_0 r.length c_0∧l=[O5 r A_0 c_0]):=by
 refine Zi Tryz.func170 fun w0 F0 h0=>?_
 unfold Q46.f at H
 refine T8 (Zb [0,1,2] ?_)
 refine T8 (T6 ?_)
 refine Zd 2 ?_
 obtain ⟨p1,H⟩:=Zk H
 refine Zs (Zax 0 h0 p1) ?_
 rintro _ w1 ⟨A2,c_2,rfl,h1⟩
 replace h1:=nf h1
 refine Zd 4 ?_
 obtain ⟨⟨p2,p3⟩,H⟩:=Zk H
 refine Zs (V2 Z4 (ty:=(.int .u8)) rfl 0 0 rfl h1 rfl rfl rfl rfl rfl rfl rfl rfl (by decide) (by decide) p2 p3) ?_
 rintro _ w2 ⟨A3,c_3,rfl,h2⟩
 replace h2:=nf h2
 refine Ze [6] rfl ?_
 cases H
 exact T7 (jR ⟨_,_,rfl,rfl⟩ h2 [0])

def Q42.f (k:Nat) (a0:Tq) (a1:TX) (a2:TS) (a3:TS):Option TX:=(Q41.f k a1 1 (IntKind.u64.wrap ((a2.length:Int)))).bind fun r1=>((Q41.f k r1 2 (IntKind.u64.wrap ((a3.length:Int)))).bind fun r2=>((Q46.f r2 a2 a0.2.2.2.2.2.2.1).bind fun r3=>((Q46.f r3 a3 a0.2.2.2.2.2.2.2).bind fun r4=>(some r4))))
theorem Q42.spec {k a0 a1 a2 a3 A1 c_1 r} (H:Q42.f k a0 a1 a2 a3=some r) :
  Spec Tryz.prog 168 [.agg #[.int .i64 a0.1,.int .i64 a0.2.1,.int .i64 a0.2.2.1,.int .i64 a0.2.2.2.1,.int .i64 a0.2.2.2.2.1,.int .i64 a0.2.2.2.2.2.1,.int .i64 a0.2.2.2.2.2.2.1,.int .i64 a0.2.2.2.2.2.2.2],.slice A1 a1.length c_1,.string ⟨⟨a2⟩⟩,.string ⟨⟨a3⟩⟩] [O5 a1 A1 c_1] [] (fun v l=>∃ A_0 c_0,v=.slice A_0 r.length c_0∧l=[O5 r A_0 c_0]):=by
 refine Zi Tryz.func168 fun w0 F0 h0=>?_
 unfold Q42.f at H
 refine T8 (T6 ?_)
 refine rB (Z9 h0) fun b1 w1 h1=>?_
 refine Ze [1,2,3,4] rfl ?_
 refine T8 (T6 ?_)
 refine Zd 4 ?_
 refine cE H [1] h1 rfl Q41.spec Zp ?_
 rintro r1 w2 _ _ H ⟨A2,c_2,rfl,rfl⟩ h2
 replace h2:=nf h2
 refine Ze [1,2,3,4] rfl ?_
 refine T8 (T6 ?_)
 refine Zd 4 ?_
 refine cE H [0] h2 rfl Q41.spec Zp ?_
 rintro r2 w3 _ _ H ⟨A3,c_3,rfl,rfl⟩ h3
 replace h3:=nf h3
 refine Ze [1,2,3,4] rfl ?_
 refine T8 (Zz (sO h3 [1]) ?_)
 have h4:=h3.drew
 refine Zo [0,1,2,5,6] ?_
 refine Zf 3 rfl (Za 0 wI) ?_
 refine Zf 7 rfl (Za 0 wI) ?_
 refine cEJ 4 rfl H [0] h4 rfl Q46.spec Zp ?_
 rintro r3 w4 _ _ H ⟨A4,c_4,rfl,rfl⟩ h5
 replace h5:=nf h5
 refine ⟨⟨[_],h5⟩,?_⟩
 refine cEJ 8 rfl H [0] h5 rfl Q46.spec Zp ?_
 rintro r4 w5 _ _ H ⟨A5,c_5,rfl,rfl⟩ h6
 replace h6:=nf h6
 refine ⟨⟨[_],h6⟩,?_⟩
 refine Zo [9] ?_
 refine Zw [8] ?_
 cases H
 exact T7 (jR ⟨_,_,rfl,rfl⟩ h6 [0])

def Q47.l2:Nat→Tq→Tn→TX→Int→Option TX
 | 0,_,_,_,_=>none
 | k+1,a0,a1,x5,x6=>if (decide (x6<(a1.2.2.2.1.length:Int)))=true then (if 0≤x6∧x6<(a1.2.2.2.1.length:Int) then (if (gt a1.2.2.2.1 x6).2.1=true then ((Q41.f k x5 1 2).bind fun r8=>((Q42.f k a0 r8 ((gt a1.2.2.2.1 x6).1) ((gt a1.2.2.2.1 x6).2.2)).bind fun r9=>(Q47.l2 k a0 a1 r9 (w64 (x6+1))))) else ((Q41.f k x5 1 1).bind fun r10=>((Q42.f k a0 r10 ((gt a1.2.2.2.1 x6).1) ((gt a1.2.2.2.1 x6).2.2)).bind fun r11=>(Q47.l2 k a0 a1 r11 (w64 (x6+1)))))) else none) else (some x5)
def Q47.l1:Nat→Tq→Tn→TX→Int→Option TX
 | 0,_,_,_,_=>none
 | k+1,a0,a1,x3,x4=>if (decide (x4<(w64 (a0.2.2.2.1 - 1))))=true then (if (decide (x4<(a1.2.2.1.length:Int)))=true then (if 0≤x4∧x4<(a1.2.2.1.length:Int) then ((Q41.f k x3 1 (IntKind.u64.wrap (((gt a1.2.2.1 x4).length:Int)))).bind fun r4=>((Q46.f r4 (gt a1.2.2.1 x4) a0.2.2.2.2.2.2.1).bind fun r5=>(Q47.l1 k a0 a1 r5 (w64 (x4+1))))) else none) else ((Q41.f k x3 1 (IntKind.u64.wrap ((([]:List UInt8).length:Int)))).bind fun r6=>((Q46.f r6 ([]:List UInt8) a0.2.2.2.2.2.2.1).bind fun r7=>(Q47.l1 k a0 a1 r7 (w64 (x4+1)))))) else (Q47.l2 k a0 a1 x3 0)
def Q47.l0:Nat→Tq→Tn→TX→Int→Option TX
 | 0,_,_,_,_=>none
 | k+1,a0,a1,x1,x2=>if (decide (x2<a0.2.2.2.1))=true then (if (decide (x2<(a1.2.1.length:Int)))=true then (if 0≤x2∧x2<(a1.2.1.length:Int) then ((Q41.f k x1 4 (IntKind.u64.wrap ((gt a1.2.1 x2)))).bind fun r2=>(Q47.l0 k a0 a1 r2 (w64 (x2+1)))) else none) else ((Q41.f k x1 4 0).bind fun r3=>(Q47.l0 k a0 a1 r3 (w64 (x2+1))))) else (Q47.l1 k a0 a1 x1 0)
def Q47.f (k:Nat) (a0:Tq) (a1:Tn):Option TX:=(Q40.f k 2 a1.1 (a1.2.1.length:Int) (a1.2.2.2.1.length:Int)).bind fun r1=>(Q47.l0 k a0 a1 r1 0)
theorem Q47.spec {k a0 a1 A1 c_1 A2 c_2 A3 c_3 A4 c_4 r} (H:Q47.f k a0 a1=some r) :
  Spec Tryz.prog 123 [.agg #[.int .i64 a0.1,.int .i64 a0.2.1,.int .i64 a0.2.2.1,.int .i64 a0.2.2.2.1,.int .i64 a0.2.2.2.2.1,.int .i64 a0.2.2.2.2.2.1,.int .i64 a0.2.2.2.2.2.2.1,.int .i64 a0.2.2.2.2.2.2.2],.agg #[.int .i64 a1.1,.slice A1 a1.2.1.length c_1,.slice A2 a1.2.2.1.length c_2,.slice A3 a1.2.2.2.1.length c_3,.slice A4 a1.2.2.2.2.length c_4]] [] [R33 a1.2.1 A1 c_1,R9 a1.2.2.1 A2 c_2,Yi a1.2.2.2.1 A3 c_3,Ym a1.2.2.2.2 A4 c_4] (fun v l=>∃ A_0 c_0,v=.slice A_0 r.length c_0∧l=[O5 r A_0 c_0]):=by
 refine Zi Tryz.func123 fun w0 F0 h0=>?_
 unfold Q47.f at H
 refine T8 (T6 ?_)
 refine rB (Z9 h0) fun b1 w1 h1=>?_
 refine rB (Z9 h1) fun b2 w2 h2=>?_
 refine Ze [2,3] rfl ?_
 refine T8 (T6 ?_)
 refine Zd 1 ?_
 refine Zc (Za 0 h2.wht) ?_
 refine Zd 1 ?_
 refine Zc (Za 0 h2.wht) ?_
 refine Zd 2 ?_
 refine Zc (Za 0 h2.wht) ?_
 refine Zd 1 ?_
 refine cE H [] h2 rfl Q40.spec Zp ?_
 rintro r1 w3 _ _ H ⟨A5,c_5,rfl,rfl⟩ h3
 replace h3:=nf h3
 refine Ze [2,3,5] rfl ?_
 refine T8 (T8 (T6 ?_))
 refine Zd 1 ?_
 refine Zc (Za 2 h3.wht) ?_
 refine Ze [2,3,5,23,24] rfl ?_
 refine T0 ?_
 have h31:=(sOR h3 [2,1,0] [0,1,2,3])
 refine T4 (fun kk env w=>∃ x1 A6 c_6 x2,Q47.l0 kk a0 a1 x1 x2=some r∧env=[(2,.pointer (some ⟨b1,0,none⟩)),(3,.pointer (some ⟨b2,0,none⟩)),(5,.slice A6 x1.length c_6),(23,.int .i64 a0.2.2.2.1),(24,.int .i64 x2)]∧St w0 F0 [X23 b1 a0.1 a0.2.1 a0.2.2.1 a0.2.2.2.1 a0.2.2.2.2.1 a0.2.2.2.2.2.1 a0.2.2.2.2.2.2.1 a0.2.2.2.2.2.2.2,X43 b2 a1.1 a1.2.1 A1 c_1 a1.2.2.1 A2 c_2 a1.2.2.2.1 A3 c_3 a1.2.2.2.2 A4 c_4,O5 x1 A6 c_6] [R33 a1.2.1 A1 c_1,R9 a1.2.2.1 A2 c_2,Yi a1.2.2.2.1 A3 c_3,Ym a1.2.2.2.2 A4 c_4] w) (k:=k) ⟨_,_,_,_,H,rfl,h31⟩ ?_
 rintro k1 env w4 ⟨x1,A6,c_6,x2,H,rfl,h4⟩
 rcases k1 with _ | k1
 ·exact z0 H
 rw [Q47.l0] at H
 refine T8 (Zb [2,3,5,23,24,25] ?_)
 refine T8 (jIf H (fun c1 H=>?_) fun c1 H=>?_)
 ·refine T9 (T8 (T0 (T8 (Zb [2,3,5,6,23,24] ?_))))
  refine T8 (Zb [2,3,5,6,7,23,24] ?_)
  refine T8 (T8 (T6 ?_))
  refine Zd 2 ?_
  refine Zc (Za 1 h4.wht) ?_
  refine Ze [2,3,5,6,7,23,24,31] rfl ?_
  refine jIf H (fun c2 H=>?_) fun c2 H=>?_
  ·refine T6 (Zd 1 ?_)
   refine Zc (Za 1 h4.wht) ?_
   refine Zd 1 ?_
   obtain ⟨⟨p1,p2⟩,H⟩:=Zk H
   have e1:=Z0 h4.wh (Zj 3) p1 p2
   refine Zc (Zg e1 p1 p2) ?_
   refine Zc (Zh 0 h4.wht (Zj 3) p1 p2) ?_
   refine Ze [2,3,5,7,23,24] rfl ?_
   refine T6 (Zd 3 ?_)
   refine cE H [2] h4 rfl Q41.spec Zp ?_
   rintro r2 w5 _ _ H ⟨A7,c_7,rfl,rfl⟩ h5
   replace h5:=nf h5
   refine Ze [2,3,5,23,24] rfl ?_
   refine Zb [2,3,5,23,24] ?_
   have h6:=(sOR h5 [1,1,0] [0,1,2,3])
   exact ⟨k1,by omega,_,_,_,_,H,rfl,h6⟩
  refine T9 (T6 (Zd 3 ?_))
  refine cE H [2] h4 rfl Q41.spec Zp ?_
  rintro r3 w6 _ _ H ⟨A8,c_8,rfl,rfl⟩ h7
  replace h7:=nf h7
  refine Ze [2,3,5,23,24] rfl ?_
  refine Zb [2,3,5,23,24] ?_
  have h8:=(sOR h7 [1,1,0] [0,1,2,3])
  exact ⟨k1,by omega,_,_,_,_,H,rfl,h8⟩
 refine T3 (T8 (T8 (T6 ?_)))
 refine Zd 1 ?_
 refine Zc (Za 0 h4.wht) ?_
 refine Ze [2,3,5,44,45] rfl ?_
 refine T0 ?_
 have h30:=(sOR h4 [0,0,0] [0,1,2,3])
 refine T4 (fun kk env w=>∃ x3 A9 c_9 x4,Q47.l1 kk a0 a1 x3 x4=some r∧env=[(2,.pointer (some ⟨b1,0,none⟩)),(3,.pointer (some ⟨b2,0,none⟩)),(5,.slice A9 x3.length c_9),(44,.int .i64 (w64 (a0.2.2.2.1 - 1))),(45,.int .i64 x4)]∧St w0 F0 [X23 b1 a0.1 a0.2.1 a0.2.2.1 a0.2.2.2.1 a0.2.2.2.2.1 a0.2.2.2.2.2.1 a0.2.2.2.2.2.2.1 a0.2.2.2.2.2.2.2,X43 b2 a1.1 a1.2.1 A1 c_1 a1.2.2.1 A2 c_2 a1.2.2.2.1 A3 c_3 a1.2.2.2.2 A4 c_4,O5 x3 A9 c_9] [R33 a1.2.1 A1 c_1,R9 a1.2.2.1 A2 c_2,Yi a1.2.2.2.1 A3 c_3,Ym a1.2.2.2.2 A4 c_4] w) (k:=k1) ⟨_,_,_,_,H,rfl,h30⟩ ?_
 rintro k2 env w7 ⟨x3,A9,c_9,x4,H,rfl,h9⟩
 rcases k2 with _ | k2
 ·exact z0 H
 rw [Q47.l1] at H
 refine T8 (Zb [2,3,5,44,45,46] ?_)
 refine T8 (jIf H (fun c3 H=>?_) fun c3 H=>?_)
 ·refine T9 (T8 (T0 (T8 (Zb [2,3,5,8,44,45] ?_))))
  refine T8 (Zb [2,3,5,8,9,44,45] ?_)
  refine T8 (T8 (T6 ?_))
  refine Zd 2 ?_
  refine Zc (Za 1 h9.wht) ?_
  refine Ze [2,3,5,8,9,44,45,52] rfl ?_
  refine jIf H (fun c4 H=>?_) fun c4 H=>?_
  ·refine T6 (Zd 1 ?_)
   refine Zc (Za 1 h9.wht) ?_
   refine Zd 1 ?_
   obtain ⟨⟨p3,p4⟩,H⟩:=Zk H
   have e2:=Z0 h9.wh (Zj 4) p3 p4
   refine Zc (Zg e2 p3 p4) ?_
   refine Zc (Zh 0 h9.wht (Zj 4) p3 p4) ?_
   refine Ze [2,3,5,9,44,45] rfl ?_
   refine Zz (sO h9 [0,0]) ?_
   have h10:=h9.drew
   refine Zo [0,1,2,3,5,6] ?_
   refine Zf 7 rfl (Za 0 wI) ?_
   refine cEJ 4 rfl H [2] h10 rfl Q41.spec Zp ?_
   rintro r4 w8 _ _ H ⟨A10,c_10,rfl,rfl⟩ h11
   replace h11:=nf h11
   refine ⟨⟨[_],h11⟩,?_⟩
   refine cEJ 8 rfl H [0] h11 rfl Q46.spec Zp ?_
   rintro r5 w9 _ _ H ⟨A11,c_11,rfl,rfl⟩ h12
   replace h12:=nf h12
   refine ⟨⟨[_],h12⟩,?_⟩
   refine Zo [9] ?_
   refine Zw [2,3,5,44,45] ?_
   refine Zb [2,3,5,44,45] ?_
   have h13:=(sOR h12 [1,1,0] [0,1,2,3])
   exact ⟨k2,by omega,_,_,_,_,H,rfl,h13⟩
  refine T9 (Zz (sO h9 [0,0]) ?_)
  have h14:=h9.drew
  refine Zo [0,1,2,3,5,6] ?_
  refine Zf 7 rfl (Za 0 wI) ?_
  refine cEJ 4 rfl H [2] h14 rfl Q41.spec Zp ?_
  rintro r6 w10 _ _ H ⟨A12,c_12,rfl,rfl⟩ h15
  replace h15:=nf h15
  refine ⟨⟨[_],h15⟩,?_⟩
  refine cEJ 8 rfl H [0] h15 rfl Q46.spec Zp ?_
  rintro r7 w11 _ _ H ⟨A13,c_13,rfl,rfl⟩ h16
  replace h16:=nf h16
  refine ⟨⟨[_],h16⟩,?_⟩
  refine Zo [9] ?_
  refine Zw [2,3,5,44,45] ?_
  refine Zb [2,3,5,44,45] ?_
  have h17:=(sOR h16 [1,1,0] [0,1,2,3])
  exact ⟨k2,by omega,_,_,_,_,H,rfl,h17⟩
 refine T3 (T8 (T8 (T6 ?_)))
 refine Zd 1 ?_
 refine Zc (Za 1 h9.wht) ?_
 refine Ze [2,5,69,70,71] rfl ?_
 refine T0 ?_
 have h29:=(sOR h9 [0,1] [2])
 refine T4 (fun kk env w=>∃ x5 A14 c_14 x6,Q47.l2 kk a0 a1 x5 x6=some r∧env=[(2,.pointer (some ⟨b1,0,none⟩)),(5,.slice A14 x5.length c_14),(69,.slice A3 a1.2.2.2.1.length c_3),(70,.int .i64 (a1.2.2.2.1.length:Int)),(71,.int .i64 x6)]∧St w0 F0 [X23 b1 a0.1 a0.2.1 a0.2.2.1 a0.2.2.2.1 a0.2.2.2.2.1 a0.2.2.2.2.2.1 a0.2.2.2.2.2.2.1 a0.2.2.2.2.2.2.2,O5 x5 A14 c_14] [Yi a1.2.2.2.1 A3 c_3] w) (k:=k2) ⟨_,_,_,_,H,rfl,h29⟩ ?_
 rintro k3 env w12 ⟨x5,A14,c_14,x6,H,rfl,h18⟩
 rcases k3 with _ | k3
 ·exact z0 H
 rw [Q47.l2] at H
 refine T8 (Zb [2,5,69,70,71,72] ?_)
 refine T8 (jIf H (fun c5 H=>?_) fun c5 H=>?_)
 ·refine T9 (T8 (T0 (T8 (T6 ?_))))
  obtain ⟨⟨p5,p6⟩,H⟩:=Zk H
  have e3:=Z0 h18.wh (Zj 2) p5 p6
  refine Zc (Zg e3 p5 p6) ?_
  refine Zc (Zh 0 h18.wht (Zj 2) p5 p6) ?_
  refine rB (Yt h18) fun b3 w13 h19=>?_
  refine rS (Zt 0 h19) fun _ w14 h20=>?_
  refine Ze [2,5,11,69,70,71] rfl ?_
  refine T8 (Zb [2,5,11,12,69,70,71] ?_)
  refine T8 (T8 (T6 ?_))
  refine Zd 1 ?_
  refine Zc (Za 0 h20.wht) ?_
  refine Ze [2,5,11,12,69,70,71,76] rfl ?_
  refine jIf H (fun c6 H=>?_) fun c6 H=>?_
  ·refine Zb [2,5,11,12,69,70,71] ?_
   refine Zz (sO h20 [0,0]) ?_
   have h21:=h20.drew
   refine Zo [1,2,4,6] ?_
   refine Zf 0 rfl (Za 1 wI) ?_
   refine Zf 5 rfl (Za 0 wI) ?_
   refine Zf 7 rfl (Za 0 wI) ?_
   refine cEJ 3 rfl H [2] h21 rfl Q41.spec Zp ?_
   rintro r8 w15 _ _ H ⟨A15,c_15,rfl,rfl⟩ h22
   replace h22:=nf h22
   refine ⟨⟨[_],h22⟩,?_⟩
   refine cEJ 8 rfl H [0] h22 rfl Q42.spec Zp ?_
   rintro r9 w16 _ _ H ⟨A16,c_16,rfl,rfl⟩ h23
   replace h23:=nf h23
   refine ⟨⟨[_],h23⟩,?_⟩
   refine Zo [9] ?_
   refine Zw [2,5,69,70,71] ?_
   refine Zb [2,5,69,70,71] ?_
   have h24:=(sOR h23 [2,0] [0])
   exact ⟨k3,by omega,_,_,_,_,H,rfl,h24⟩
  refine T9 (Zz (sO h20 [0,0]) ?_)
  have h25:=h20.drew
  refine Zo [1,2,4,6] ?_
  refine Zf 0 rfl (Za 1 wI) ?_
  refine Zf 5 rfl (Za 0 wI) ?_
  refine Zf 7 rfl (Za 0 wI) ?_
  refine cEJ 3 rfl H [2] h25 rfl Q41.spec Zp ?_
  rintro r10 w17 _ _ H ⟨A17,c_17,rfl,rfl⟩ h26
  replace h26:=nf h26
  refine ⟨⟨[_],h26⟩,?_⟩
  refine cEJ 8 rfl H [0] h26 rfl Q42.spec Zp ?_
  rintro r11 w18 _ _ H ⟨A18,c_18,rfl,rfl⟩ h27
  replace h27:=nf h27
  refine ⟨⟨[_],h27⟩,?_⟩
  refine Zo [9] ?_
  refine Zw [2,5,69,70,71] ?_
  refine Zb [2,5,69,70,71] ?_
  have h28:=(sOR h27 [2,0] [0])
  exact ⟨k3,by omega,_,_,_,_,H,rfl,h28⟩
 refine T3 (T8 (Zb [4] ?_))
 cases H
 exact T7 (jR ⟨_,_,rfl,rfl⟩ h18 [1])

def Q48.l0:Nat→Tq→Tn→TX→Int→Option TX
 | 0,_,_,_,_=>none
 | k+1,a0,a1,x1,x2=>if (decide (x2<(a1.2.2.2.2.length:Int)))=true then (if 0≤x2∧x2<(a1.2.2.2.2.length:Int) then ((Q42.f k a0 x1 ((gt a1.2.2.2.2 x2).1) ((gt a1.2.2.2.2 x2).2)).bind fun r2=>(Q48.l0 k a0 a1 r2 (w64 (x2+1)))) else none) else (some x1)
def Q48.f (k:Nat) (a0:Tq) (a1:Tn):Option TX:=(Q40.f k 1 0 (a1.2.2.2.2.length:Int) 0).bind fun r1=>(Q48.l0 k a0 a1 r1 0)
theorem Q48.spec {k a0 a1 A1 c_1 A2 c_2 A3 c_3 A4 c_4 r} (H:Q48.f k a0 a1=some r) :
  Spec Tryz.prog 122 [.agg #[.int .i64 a0.1,.int .i64 a0.2.1,.int .i64 a0.2.2.1,.int .i64 a0.2.2.2.1,.int .i64 a0.2.2.2.2.1,.int .i64 a0.2.2.2.2.2.1,.int .i64 a0.2.2.2.2.2.2.1,.int .i64 a0.2.2.2.2.2.2.2],.agg #[.int .i64 a1.1,.slice A1 a1.2.1.length c_1,.slice A2 a1.2.2.1.length c_2,.slice A3 a1.2.2.2.1.length c_3,.slice A4 a1.2.2.2.2.length c_4]] [] [R33 a1.2.1 A1 c_1,R9 a1.2.2.1 A2 c_2,Yi a1.2.2.2.1 A3 c_3,Ym a1.2.2.2.2 A4 c_4] (fun v l=>∃ A_0 c_0,v=.slice A_0 r.length c_0∧l=[O5 r A_0 c_0]):=by
 refine Zi Tryz.func122 fun w0 F0 h0=>?_
 unfold Q48.f at H
 refine T8 (T6 ?_)
 refine rB (Z9 h0) fun b1 w1 h1=>?_
 refine rB (Z9 h1) fun b2 w2 h2=>?_
 refine Ze [2,3] rfl ?_
 refine T8 (T6 ?_)
 refine Zd 1 ?_
 refine Zc (Za 0 h2.wht) ?_
 refine Zd 1 ?_
 refine cE H [] h2 rfl Q40.spec Zp ?_
 rintro r1 w3 _ _ H ⟨A5,c_5,rfl,rfl⟩ h3
 replace h3:=nf h3
 refine Ze [2,3,5] rfl ?_
 refine T8 (T8 (T6 ?_))
 refine Zd 1 ?_
 refine Zc (Za 1 h3.wht) ?_
 refine Ze [2,5,13,14,15] rfl ?_
 refine T0 ?_
 have h9:=(sOR h3 [2,0] [3])
 refine T4 (fun kk env w=>∃ x1 A6 c_6 x2,Q48.l0 kk a0 a1 x1 x2=some r∧env=[(2,.pointer (some ⟨b1,0,none⟩)),(5,.slice A6 x1.length c_6),(13,.slice A4 a1.2.2.2.2.length c_4),(14,.int .i64 (a1.2.2.2.2.length:Int)),(15,.int .i64 x2)]∧St w0 F0 [X23 b1 a0.1 a0.2.1 a0.2.2.1 a0.2.2.2.1 a0.2.2.2.2.1 a0.2.2.2.2.2.1 a0.2.2.2.2.2.2.1 a0.2.2.2.2.2.2.2,O5 x1 A6 c_6] [Ym a1.2.2.2.2 A4 c_4] w) (k:=k) ⟨_,_,_,_,H,rfl,h9⟩ ?_
 rintro k1 env w4 ⟨x1,A6,c_6,x2,H,rfl,h4⟩
 rcases k1 with _ | k1
 ·exact z0 H
 rw [Q48.l0] at H
 refine T8 (Zb [2,5,13,14,15,16] ?_)
 refine T8 (jIf H (fun c1 H=>?_) fun c1 H=>?_)
 ·refine T9 (T8 (T0 (T8 (T6 ?_))))
  obtain ⟨⟨p1,p2⟩,H⟩:=Zk H
  have e1:=Z0 h4.wh (Zj 2) p1 p2
  refine Zc (Zg e1 p1 p2) ?_
  refine Zc (Zh 0 h4.wht (Zj 2) p1 p2) ?_
  refine rB (Yt h4) fun b3 w5 h5=>?_
  refine rS (Zt 0 h5) fun _ w6 h6=>?_
  refine Ze [2,5,7,13,14,15] rfl ?_
  refine T6 (Zc (Za 1 h6.wht) ?_)
  refine Zd 2 ?_
  refine Zc (Za 0 h6.wht) ?_
  refine Zd 1 ?_
  refine Zc (Za 0 h6.wht) ?_
  refine cE H [2] h6 rfl Q42.spec Zp ?_
  rintro r2 w7 _ _ H ⟨A7,c_7,rfl,rfl⟩ h7
  replace h7:=nf h7
  refine Ze [2,5,13,14,15] rfl ?_
  refine Zb [2,5,13,14,15] ?_
  have h8:=(sOR h7 [2,0] [0])
  exact ⟨k1,by omega,_,_,_,_,H,rfl,h8⟩
 refine T3 (T8 (Zb [4] ?_))
 cases H
 exact T7 (jR ⟨_,_,rfl,rfl⟩ h4 [1])

def Q39.f (k:Nat) (a0:Tq) (a1:Tn):Option TQ:=(Q49.f a0).bind fun r1=>(if (!decide (r1=0))=true then (some (([]:List Int),r1)) else ((Q66.f).bind fun r2=>((Q72.f k a0 r2 a1).bind fun r3=>(if (!r3)=true then (some (([]:List Int),3)) else (if (decide (0<a1.1))=true then ((Q47.f k a0 a1).bind fun r4=>(if 0≤(w64 (a0.2.1 - (r4.length:Int)))∧((r4.length:Int)+(w64 (a0.2.1 - (r4.length:Int))))*1≤140737488355328 then (some ((r4 ++ List.replicate (w64 (a0.2.1 - (r4.length:Int))).toNat 0),0)) else none)) else ((Q48.f k a0 a1).bind fun r5=>(if 0≤(w64 (a0.2.1 - (r5.length:Int)))∧((r5.length:Int)+(w64 (a0.2.1 - (r5.length:Int))))*1≤140737488355328 then (some ((r5 ++ List.replicate (w64 (a0.2.1 - (r5.length:Int))).toNat 0),0)) else none)))))))
theorem Q39.spec {k a0 a1 A1 c_1 A2 c_2 A3 c_3 A4 c_4 r} (H:Q39.f k a0 a1=some r) :
  Spec Tryz.prog 71 [.agg #[.int .i64 a0.1,.int .i64 a0.2.1,.int .i64 a0.2.2.1,.int .i64 a0.2.2.2.1,.int .i64 a0.2.2.2.2.1,.int .i64 a0.2.2.2.2.2.1,.int .i64 a0.2.2.2.2.2.2.1,.int .i64 a0.2.2.2.2.2.2.2],.agg #[.int .i64 a1.1,.slice A1 a1.2.1.length c_1,.slice A2 a1.2.2.1.length c_2,.slice A3 a1.2.2.2.1.length c_3,.slice A4 a1.2.2.2.2.length c_4]] [] [R33 a1.2.1 A1 c_1,R9 a1.2.2.1 A2 c_2,Yi a1.2.2.2.1 A3 c_3,Ym a1.2.2.2.2 A4 c_4] (fun v l=>∃ A_0 c_0,v=.tuple #[.slice A_0 r.1.length c_0,.int .i64 r.2]∧l=[O5 r.1 A_0 c_0]):=by
 refine Zi Tryz.func71 fun w0 F0 h0=>?_
 unfold Q39.f at H
 refine T8 (T6 ?_)
 refine rB (Z9 h0) fun b1 w1 h1=>?_
 refine rB (Z9 h1) fun b2 w2 h2=>?_
 refine Ze [2,3] rfl ?_
 refine T8 (T8 (T6 ?_))
 refine Zc (Za 1 h2.wht) ?_
 refine cS H [] h2 rfl Q49.spec Zp fun r1 w3 H h3=>?_
 refine Ze [2,3,6] rfl ?_
 refine T8 (Zb [2,3,6,12] ?_)
 refine jIf H (fun c1 H=>?_) fun c1 H=>?_
 ·refine T8 (Zb [4,5] ?_)
  have h4:=sO h3 []
  replace h4:=nf h4
  have h5:=h4.addNil 5 (.int .u8)
  cases H
  exact T7 (jR ⟨_,_,rfl,rfl⟩ h5 [0])
 refine T9 (T8 (T8 ?_))
 refine jH h3 fun h6=>?_
 refine Zf 0 rfl (Za 1 wI) ?_
 refine Zf 2 rfl (Za 0 wI) ?_
 refine cSJ 1 rfl H [] h6 rfl Q66.spec Zp 0 fun r2 w4 H h7=>?_
 refine cSJ 3 rfl H [] h7 rfl Q72.spec (gS [2,3,4,5]) 0 fun r3 w5 H h8=>?_
 refine Zo [4] ?_
 refine Zw [2,3,18] ?_
 refine jIf H (fun c2 H=>?_) fun c2 H=>?_
 ·refine T8 (Zb [4,5] ?_)
  have h9:=sO h8 []
  replace h9:=nf h9
  have h10:=h9.addNil 5 (.int .u8)
  cases H
  exact T7 (jR ⟨_,_,rfl,rfl⟩ h10 [0])
 refine T9 (T8 (Zb [2,3,7] ?_))
 refine T8 (T8 (T6 ?_))
 refine Zd 1 ?_
 refine Zc (Za 0 h8.wht) ?_
 refine Ze [2,3,7,21] rfl ?_
 refine jIf H (fun c3 H=>?_) fun c3 H=>?_
 ·refine Zb [2,3,7] ?_
  refine T8 (T6 ?_)
  refine Zd 1 ?_
  refine Zc (Za 1 h8.wht) ?_
  refine Zc (Za 0 h8.wht) ?_
  refine cE H [] h8 rfl Q47.spec (gS [2,3,4,5]) ?_
  rintro r4 w6 _ _ H ⟨A5,c_5,rfl,rfl⟩ h11
  replace h11:=nf h11
  refine Ze [2,8] rfl ?_
  refine T8 (T6 ?_)
  refine Zd 2 ?_
  refine Zc (Za 2 h11.wht) ?_
  refine Zd 3 ?_
  obtain ⟨⟨p1,p2⟩,H⟩:=Zk H
  refine Zs (V2 Z4 (ty:=(.int .u8)) rfl 0 0 rfl h11 rfl rfl rfl rfl rfl rfl rfl rfl (by decide) (by decide) p1 p2) ?_
  rintro _ w7 ⟨A6,c_6,rfl,h12⟩
  replace h12:=nf h12
  refine Ze [4,5] rfl ?_
  have h13:=sO h12 [0]
  replace h13:=nf h13
  cases H
  exact T7 (jR ⟨_,_,rfl,rfl⟩ h13 [0])
 refine T9 (T8 (T6 ?_))
 refine Zd 1 ?_
 refine Zc (Za 1 h8.wht) ?_
 refine Zc (Za 0 h8.wht) ?_
 refine cE H [] h8 rfl Q48.spec (gS [2,3,4,5]) ?_
 rintro r5 w8 _ _ H ⟨A7,c_7,rfl,rfl⟩ h14
 replace h14:=nf h14
 refine Ze [2,8] rfl ?_
 refine T8 (T6 ?_)
 refine Zd 2 ?_
 refine Zc (Za 2 h14.wht) ?_
 refine Zd 3 ?_
 obtain ⟨⟨p3,p4⟩,H⟩:=Zk H
 refine Zs (V2 Z4 (ty:=(.int .u8)) rfl 0 0 rfl h14 rfl rfl rfl rfl rfl rfl rfl rfl (by decide) (by decide) p3 p4) ?_
 rintro _ w9 ⟨A8,c_8,rfl,h15⟩
 replace h15:=nf h15
 refine Ze [4,5] rfl ?_
 have h16:=sO h15 [0]
 replace h16:=nf h16
 cases H
 exact T7 (jR ⟨_,_,rfl,rfl⟩ h16 [0])

def Q84.f (a0:TH):Option (Bool):=some false
theorem Q84.spec {a0 b1 b2 A1 c_1 r} (H:Q84.f a0=some r) :
  Spec Tryz.prog 130 [.pointer (some ⟨b1,0,none⟩)] (J5 a0 b1 b2 A1 c_1) [] (fun v l=>v=.bool r∧l=J5 a0 b1 b2 A1 c_1):=by
 refine Zi Tryz.func130 fun w0 F0 h0=>?_
 replace h0:=nf h0
 unfold Q84.f at H
 refine T8 (Zb [0] ?_)
 refine T8 (T6 ?_)
 refine Zd 6 ?_
 refine Zc (Za 0 h0.wht) ?_
 refine Ze [2] rfl ?_
 cases H
 exact T7 (jR0 h0 [0,0,0])

def Q4.f (a0:TL):Option (Int):=some a0.2.1
theorem Q4.spec {a0 b1 A1 c_1 r} (H:Q4.f a0=some r) :
  Spec Tryz.prog 132 [.pointer (some ⟨b1,0,none⟩)] (Wt a0 b1 A1 c_1) [] (fun v l=>v=.int .i64 r∧l=Wt a0 b1 A1 c_1):=by
 refine Zi Tryz.func132 fun w0 F0 h0=>?_
 replace h0:=nf h0
 unfold Q4.f at H
 refine T8 (Zb [0] ?_)
 refine T8 (T8 (Zb [0,4] ?_))
 refine Z6 ?_
 refine T9 (T8 (T6 ?_))
 refine Zd 3 ?_
 refine Zc (Za 0 h0.wht) ?_
 refine Ze [2] rfl ?_
 cases H
 exact T7 (jR0 h0 [0,0])

def Q80.f (a0:TH):Option (Int):=(Q84.f a0).bind fun r1=>(if r1=true then (some 0) else ((Q7.f a0).bind fun r2=>((Q4.f a0).bind fun r3=>(some (w64 (r2 - r3))))))
theorem Q80.spec {a0 b1 b2 A1 c_1 r} (H:Q80.f a0=some r) :
  Spec Tryz.prog 81 [.pointer (some ⟨b1,0,none⟩)] (J5 a0 b1 b2 A1 c_1) [] (fun v l=>v=.int .i64 r∧l=J5 a0 b1 b2 A1 c_1):=by
 refine Zi Tryz.func81 fun w0 F0 h0=>?_
 replace h0:=nf h0
 unfold Q80.f at H
 refine T8 (Zb [0] ?_)
 refine T8 (T8 (T6 ?_))
 refine Zd 1 ?_
 refine cS H [0,0,0] h0 rfl Q84.spec Zp fun r1 w1 H h1=>?_
 refine Ze [0,4] rfl ?_
 refine jIf H (fun c1 H=>?_) fun c1 H=>?_
 ·refine T8 (Zb [2] ?_)
  cases H
  exact T7 (jR0 h1 [0,0,0])
 refine T9 (T8 (jH h1 fun h2=>?_))
 refine Zo [0,1,2,5,6,7] ?_
 refine Zf 3 rfl (Za 0 wI) ?_
 refine Zf 8 rfl (Za 0 wI) ?_
 refine cEJ 4 rfl H [1,1] h2 rfl Q7.spec Zp ?_
 rintro r2 w2 _ _ H ⟨rfl,rfl⟩ h3
 replace h3:=nf h3
 refine ⟨⟨[],(sO h3 [2,0,0])⟩,?_⟩
 refine cEJ 9 rfl H [0,0] h3 rfl Q4.spec Zp ?_
 rintro r3 w3 _ _ H ⟨rfl,rfl⟩ h4
 replace h4:=nf h4
 refine ⟨⟨[],(sO h4 [2,0,0])⟩,?_⟩
 refine Zo [10,11] ?_
 refine Zw [2] ?_
 cases H
 exact T7 (jR0 h4 [2,0,0])

def Q9.l0:Nat→TL→Int→Int→Int→Option TV
 | 0,_,_,_,_=>none
 | k+1,a0,a1,a2,x1=>if (decide (x1<(a0.2.2.length:Int)))=true then (if 0≤x1∧x1<(a0.2.2.length:Int) then (if (decide (x1=(w64 (Int.tdiv (if a1>0 then a1 else 0) 64))))=true then (if 0≤(Int.tmod (if a1>0 then a1 else 0) 64) then (if (decide ((IntKind.u64.wrap (((BitVec.ofInt IntKind.u64.bits (IntKind.u64.wrap (((BitVec.ofInt IntKind.u64.bits (gt a0.2.2 x1) ^^^ (BitVec.ofInt IntKind.u64.bits a2)).toNat:Int))) &&& (BitVec.ofInt IntKind.u64.bits (IntKind.u64.wrap ((18446744073709551615:Int)*2 ^ (min (Int.tmod (if a1>0 then a1 else 0) 64).toNat 64))))).toNat:Int)))=0))=true then (Q9.l0 k a0 a1 a2 (w64 (x1+1))) else (if 0≤(IntKind.u64.wrap (((BitVec.ofInt IntKind.u64.bits (IntKind.u64.wrap (((BitVec.ofInt IntKind.u64.bits (gt a0.2.2 x1) ^^^ (BitVec.ofInt IntKind.u64.bits a2)).toNat:Int))) &&& (BitVec.ofInt IntKind.u64.bits (IntKind.u64.wrap ((18446744073709551615:Int)*2 ^ (min (Int.tmod (if a1>0 then a1 else 0) 64).toNat 64))))).toNat:Int)))∧(IntKind.u64.wrap (((BitVec.ofInt IntKind.u64.bits (IntKind.u64.wrap (((BitVec.ofInt IntKind.u64.bits (gt a0.2.2 x1) ^^^ (BitVec.ofInt IntKind.u64.bits a2)).toNat:Int))) &&& (BitVec.ofInt IntKind.u64.bits (IntKind.u64.wrap ((18446744073709551615:Int)*2 ^ (min (Int.tmod (if a1>0 then a1 else 0) 64).toNat 64))))).toNat:Int)))<18446744073709551616 then (some ((w64 ((w64 (x1*64))+(tzI (IntKind.u64.wrap (((BitVec.ofInt IntKind.u64.bits (IntKind.u64.wrap (((BitVec.ofInt IntKind.u64.bits (gt a0.2.2 x1) ^^^ (BitVec.ofInt IntKind.u64.bits a2)).toNat:Int))) &&& (BitVec.ofInt IntKind.u64.bits (IntKind.u64.wrap ((18446744073709551615:Int)*2 ^ (min (Int.tmod (if a1>0 then a1 else 0) 64).toNat 64))))).toNat:Int)))))),(decide ((w64 ((w64 (x1*64))+(tzI (IntKind.u64.wrap (((BitVec.ofInt IntKind.u64.bits (IntKind.u64.wrap (((BitVec.ofInt IntKind.u64.bits (gt a0.2.2 x1) ^^^ (BitVec.ofInt IntKind.u64.bits a2)).toNat:Int))) &&& (BitVec.ofInt IntKind.u64.bits (IntKind.u64.wrap ((18446744073709551615:Int)*2 ^ (min (Int.tmod (if a1>0 then a1 else 0) 64).toNat 64))))).toNat:Int))))))<a0.1)))) else none)) else none) else (if (decide ((IntKind.u64.wrap (((BitVec.ofInt IntKind.u64.bits (gt a0.2.2 x1) ^^^ (BitVec.ofInt IntKind.u64.bits a2)).toNat:Int)))=0))=true then (Q9.l0 k a0 a1 a2 (w64 (x1+1))) else (if 0≤(IntKind.u64.wrap (((BitVec.ofInt IntKind.u64.bits (gt a0.2.2 x1) ^^^ (BitVec.ofInt IntKind.u64.bits a2)).toNat:Int)))∧(IntKind.u64.wrap (((BitVec.ofInt IntKind.u64.bits (gt a0.2.2 x1) ^^^ (BitVec.ofInt IntKind.u64.bits a2)).toNat:Int)))<18446744073709551616 then (some ((w64 ((w64 (x1*64))+(tzI (IntKind.u64.wrap (((BitVec.ofInt IntKind.u64.bits (gt a0.2.2 x1) ^^^ (BitVec.ofInt IntKind.u64.bits a2)).toNat:Int)))))),(decide ((w64 ((w64 (x1*64))+(tzI (IntKind.u64.wrap (((BitVec.ofInt IntKind.u64.bits (gt a0.2.2 x1) ^^^ (BitVec.ofInt IntKind.u64.bits a2)).toNat:Int))))))<a0.1)))) else none))) else none) else (some (0,false))
def Q9.f (k:Nat) (a0:TL) (a1:Int) (a2:Int):Option TV:=Q9.l0 k a0 a1 a2 (w64 (Int.tdiv (if a1>0 then a1 else 0) 64))
theorem Q9.spec {k a0 a1 a2 b1 A1 c_1 r} (H:Q9.f k a0 a1 a2=some r) :
  Spec Tryz.prog 177 [.pointer (some ⟨b1,0,none⟩),.int .i64 a1,.int .u64 a2] (Wt a0 b1 A1 c_1) [tabC 0] (fun v l=>v=.tuple #[.int .i64 r.1,.bool r.2]∧l=Wt a0 b1 A1 c_1):=by
 refine Zi Tryz.func177 fun w0 F0 h0=>?_
 replace h0:=nf h0
 unfold Q9.f at H
 refine T8 (Zb [0,1,2] ?_)
 refine T8 (Zb [0,1,2] ?_)
 refine T8 (T8 (Zb [0,1,2,8] ?_))
 refine T0 ?_
 have h8:=(sOR h0 [0,0] [0])
 refine T4 (fun kk env w=>∃ x1,Q9.l0 kk a0 a1 a2 x1=some r∧env=[(0,.pointer (some ⟨b1,0,none⟩)),(1,.int .i64 (if a1>0 then a1 else 0)),(2,.int .u64 a2),(8,.int .i64 x1)]∧St w0 F0 [Xy b1 a0.1 a0.2.1 a0.2.2 A1 c_1,O61 a0.2.2 A1 c_1] [tabC 0] w) (k:=k) ⟨_,H,rfl,h8⟩ ?_
 rintro k1 env w1 ⟨x1,H,rfl,h1⟩
 rcases k1 with _ | k1
 ·exact z0 H
 rw [Q9.l0] at H
 refine T8 (T8 (T6 ?_))
 refine Zd 4 ?_
 refine Zc (Za 0 h1.wht) ?_
 refine Ze [0,1,2,8,21] rfl ?_
 refine jIf H (fun c1 H=>?_) fun c1 H=>?_
 ·refine T9 (T8 (T0 (T8 (T6 ?_))))
  refine Zd 3 ?_
  refine Zc (Za 0 h1.wht) ?_
  refine Zd 1 ?_
  obtain ⟨⟨p1,p2⟩,H⟩:=Zk H
  have e1:=Z0 h1.wh (gO 1) p1 p2
  refine Zc (Zg e1 p1 p2) ?_
  refine Zc (Zh 0 h1.wht (gO 1) p1 p2) ?_
  refine Ze [0,1,2,8,9] rfl ?_
  refine T8 (T8 (Zb [0,1,2,8,9,36] ?_))
  refine jIf H (fun c2 H=>?_) fun c2 H=>?_
  ·refine T6 (Zd 3 ?_)
   obtain ⟨p3,H⟩:=Zk H
   refine Zc (Jz p3) ?_
   refine Ze [0,1,2,8,9] rfl ?_
   refine T8 (T8 (Zb [0,1,2,8,9,43] ?_))
   refine jIf H (fun c3 H=>?_) fun c3 H=>?_
   ·refine T3 (Zb [0,1,2,8] ?_)
    have h2:=(sOR h1 [0,0] [0])
    exact ⟨k1,by omega,_,H,rfl,h2⟩
   refine T9 (T8 (T6 ?_))
   refine Zd 3 ?_
   obtain ⟨⟨p4,p5⟩,H⟩:=Zk H
   refine Zs (We [] (tz64.spec p4 p5) h1 rfl (gS [2])) ?_
   rintro _ w2 ⟨_,⟨rfl,rfl⟩,h3⟩
   replace h3:=nf h3
   refine Ze [0,10] rfl ?_
   refine T8 (jH h3 fun h4=>?_)
   refine Zo [0,1,2,3,4,7] ?_
   refine Zf 5 rfl (Za 0 wI) ?_
   refine Zo [6,8] ?_
   refine Zw [6,7] ?_
   cases H
   exact T7 (jR0 h4 [0,0])
  refine T9 (T8 (T8 (Zb [0,1,2,8,9,43] ?_)))
  refine jIf H (fun c4 H=>?_) fun c4 H=>?_
  ·refine T3 (Zb [0,1,2,8] ?_)
   have h5:=(sOR h1 [0,0] [0])
   exact ⟨k1,by omega,_,H,rfl,h5⟩
  refine T9 (T8 (T6 ?_))
  refine Zd 3 ?_
  obtain ⟨⟨p6,p7⟩,H⟩:=Zk H
  refine Zs (We [] (tz64.spec p6 p7) h1 rfl (gS [2])) ?_
  rintro _ w3 ⟨_,⟨rfl,rfl⟩,h6⟩
  replace h6:=nf h6
  refine Ze [0,10] rfl ?_
  refine T8 (jH h6 fun h7=>?_)
  refine Zo [0,1,2,3,4,7] ?_
  refine Zf 5 rfl (Za 0 wI) ?_
  refine Zo [6,8] ?_
  refine Zw [6,7] ?_
  cases H
  exact T7 (jR0 h7 [0,0])
 refine T3 (T8 (Zb [6,7] ?_))
 cases H
 exact T7 (jR0 h1 [0,0])

def Q11.f (a0:Int) (a1:Bool):Option TV:=if (!a1)=true then (some (0,false)) else (some (a0,true))
theorem Q11.spec {a0 a1 r} (H:Q11.f a0 a1=some r) :
  Spec Tryz.prog 176 [.int .i64 a0,.bool a1] [] [] (fun v l=>v=.tuple #[.int .i64 r.1,.bool r.2]∧l=[]):=by
 refine Zi Tryz.func176 fun w0 F0 h0=>?_
 unfold Q11.f at H
 refine T8 (Zb [0,1] ?_)
 refine T8 (T8 (Zb [0,7] ?_))
 refine jIf H (fun c1 H=>?_) fun c1 H=>?_
 ·refine T8 (Zb [4,5] ?_)
  cases H
  exact T7 (jR0 h0 [])
 refine T9 (T8 (Zb [4,5] ?_))
 cases H
 exact T7 (jR0 h0 [])

def Q5.f (k:Nat) (a0:TL) (a1:Int):Option TV:=(Q7.f a0).bind fun r1=>(if (decide (r1≤a1))=true then (some (0,false)) else ((Q9.f k a0 a1 18446744073709551615).bind fun r2=>((Q11.f r2.1 r2.2).bind fun r3=>(some r3))))
theorem Q5.spec {k a0 a1 b1 A1 c_1 r} (H:Q5.f k a0 a1=some r) :
  Spec Tryz.prog 179 [.pointer (some ⟨b1,0,none⟩),.int .i64 a1] (Wt a0 b1 A1 c_1) [tabC 0] (fun v l=>v=.tuple #[.int .i64 r.1,.bool r.2]∧l=Wt a0 b1 A1 c_1):=by
 refine Zi Tryz.func179 fun w0 F0 h0=>?_
 replace h0:=nf h0
 unfold Q5.f at H
 refine T8 (Zb [0,1] ?_)
 refine T8 (T8 (T6 ?_))
 refine Zd 2 ?_
 refine cS H [0,0] h0 rfl Q7.spec Zp fun r1 w1 H h1=>?_
 refine Ze [0,1,9] rfl ?_
 refine jIf H (fun c1 H=>?_) fun c1 H=>?_
 ·refine T8 (Zb [4,5] ?_)
  cases H
  exact T7 (jR0 h1 [0,0])
 refine T9 (T8 (T6 ?_))
 refine Zd 2 ?_
 refine cS H [0,0] h1 rfl Q9.spec (gS [0]) fun r2 w2 H h2=>?_
 refine Zd 2 ?_
 refine cS H [] h2 rfl Q11.spec Zp fun r3 w3 H h3=>?_
 refine Ze [4,5] rfl ?_
 cases H
 exact T7 (jR0 h3 [0,0])

def Q82.l0:Nat→Int→Int→Int→TX→TX→Int→Int→Option Tr
 | 0,_,_,_,_,_,_,_=>none
 | k+1,a1,x1,x2,x3,x4,x5,x6=>if (decide (x6<a1))=true then ((Q5.f k (x1,x2,x3) x5).bind fun r3=>((Q8.f (x1,x2,x3) r3.1).bind fun r4=>(if (x4.length+([(IntKind.u32.wrap (r3.1))]:List Int).length)*4≤140737488355328 then (Q82.l0 k a1 r4.2.1 r4.2.2.1 r4.2.2.2 (x4 ++ ([(IntKind.u32.wrap (r3.1))]:List Int)) (w64 (r3.1+1)) (w64 (x6+1))) else none))) else (some (x4,0,(x1,x2,x3)))
def Q82.f (k:Nat) (a0:TH) (a1:Int):Option Tr:=(Q84.f a0).bind fun r1=>(if r1=true then (some (([]:List Int),1,a0)) else (if (decide (a1<0))=true then (some (([]:List Int),2,a0)) else ((Q80.f a0).bind fun r2=>(if (decide (r2<a1))=true then (some (([]:List Int),11,a0)) else (Q82.l0 k a1 a0.1 a0.2.1 a0.2.2 ([]:List Int) 0 0)))))
theorem Q82.spec {k a0 a1 b1 b2 A1 c_1 r} (H:Q82.f k a0 a1=some r) :
  Spec Tryz.prog 138 [.pointer (some ⟨b1,0,none⟩),.int .i64 a1] (J5 a0 b1 b2 A1 c_1) [tabC 0] (fun v l=>∃ A_0 c_0 A_1 c_1,v=.tuple #[.slice A_0 r.1.length c_0,.int .i64 r.2.1]∧l=[O33 r.1 A_0 c_0] ++ J5 r.2.2 b1 b2 A_1 c_1):=by
 refine Zi Tryz.func138 fun w0 F0 h0=>?_
 replace h0:=nf h0
 unfold Q82.f at H
 refine T8 (Zb [0,1] ?_)
 refine T8 (T0 (T8 (T6 ?_)))
 refine Zd 1 ?_
 refine cS H [0,0,0] h0 rfl Q84.spec Zp fun r1 w1 H h1=>?_
 refine Ze [0,1,10] rfl ?_
 refine jIf H (fun c1 H=>?_) fun c1 H=>?_
 ·refine T8 (Zb [4,5] ?_)
  have h2:=h1.addNil 33 (.int .u32)
  cases H
  exact T7 (jR ⟨_,_,_,_,rfl,rfl⟩ h2 [0,0,0,0])
 refine T8 (Zb [0,1,13] ?_)
 refine jIf H (fun c2 H=>?_) fun c2 H=>?_
 ·refine T8 (Zb [4,5] ?_)
  have h3:=h1.addNil 33 (.int .u32)
  cases H
  exact T7 (jR ⟨_,_,_,_,rfl,rfl⟩ h3 [0,0,0,0])
 refine T8 (T6 ?_)
 refine Zd 2 ?_
 refine cS H [0,0,0] h1 rfl Q80.spec Zp fun r2 w2 H h4=>?_
 refine Ze [0,1,16] rfl ?_
 refine jIf H (fun c3 H=>?_) fun c3 H=>?_
 ·refine T8 (Zb [4,5] ?_)
  have h5:=h4.addNil 33 (.int .u32)
  cases H
  exact T7 (jR ⟨_,_,_,_,rfl,rfl⟩ h5 [0,0,0,0])
 refine T9 (T8 (Zb [0,1,6] ?_))
 refine T8 (Zb [0,1,6,7] ?_)
 refine T8 (T8 (Zb [0,6,7,21,22] ?_))
 refine T0 ?_
 have h12:=h4.addNil 33 (.int .u32)
 have h13:=(sOR h12 [1,1,1,0] [0])
 refine T4 (fun kk env w=>∃ x1 x2 x3 A2 c_2 x4 A3 c_3 x5 x6,Q82.l0 kk a1 x1 x2 x3 x4 x5 x6=some r∧env=[(0,.pointer (some ⟨b1,0,none⟩)),(6,.slice A3 x4.length c_3),(7,.int .i64 x5),(21,.int .i64 a1),(22,.int .i64 x6)]∧St w0 F0 [Vl b1 (.pointer (some ⟨b2,0,none⟩)),Xy b2 x1 x2 x3 A2 c_2,O61 x3 A2 c_2,O33 x4 A3 c_3] [tabC 0] w) (k:=k) ⟨_,_,_,_,_,_,_,_,_,_,H,rfl,h13⟩ ?_
 rintro k1 env w3 ⟨x1,x2,x3,A2,c_2,x4,A3,c_3,x5,x6,H,rfl,h6⟩
 rcases k1 with _ | k1
 ·exact z0 H
 rw [Q82.l0] at H
 refine T8 (Zb [0,6,7,21,22,23] ?_)
 refine T8 (jIf H (fun c4 H=>?_) fun c4 H=>?_)
 ·refine T9 (T8 (T0 (T8 (T6 ?_))))
  refine Zd 3 ?_
  refine Zc (Za 0 h6.wht) ?_
  refine Zd 1 ?_
  refine cS H [1,1] h6 rfl Q5.spec (gS [2]) fun r3 w4 H h7=>?_
  refine Ze [0,6,8,21,22] rfl ?_
  refine T8 (T6 ?_)
  refine Zd 3 ?_
  refine Zc (Za 2 h7.wht) ?_
  refine Zd 1 ?_
  refine cE H [0,0] h7 rfl Q8.spec Zp ?_
  rintro r4 w5 _ _ H ⟨A4,c_4,rfl,rfl⟩ h8
  replace h8:=nf h8
  refine Ze [0,6,8,21,22] rfl ?_
  refine T8 (T6 ?_)
  refine Zd 3 ?_
  refine rB (Z1 (.int .u32) ([(IntKind.u32.wrap (r3.1))]:List Int) h8) fun b3 w6 h9=>?_
  obtain ⟨p1,H⟩:=Zk H
  refine Zs (Zr 4 h9 (gO 0) p1) ?_
  rintro _ w7 ⟨A5,c_5,rfl,h10⟩
  replace h10:=nf h10
  refine Ze [0,6,8,21,22] rfl ?_
  refine Zb [0,6,7,21,22] ?_
  refine Zb [0,6,7,21,22] ?_
  have h11:=(sOR h10 [4,2,2,0] [0])
  exact ⟨k1,by omega,_,_,_,_,_,_,_,_,_,_,H,rfl,h11⟩
 refine T3 (T8 (Zb [4,5] ?_))
 cases H
 exact T7 (jR ⟨_,_,_,_,rfl,rfl⟩ h6 [3,0,0,0])

def Q83.f (k:Nat) (a0:TH):Option (Int×Int×TH):=(Q82.f k a0 1).bind fun r1=>(if (!decide (r1.2.1=0))=true then (some (0,r1.2.1,r1.2.2)) else (if 0<(r1.1.length:Int) then (some ((gt r1.1 0),0,r1.2.2)) else none))
theorem Q83.spec {k a0 b1 b2 A1 c_1 r} (H:Q83.f k a0=some r) :
  Spec Tryz.prog 91 [.pointer (some ⟨b1,0,none⟩)] (J5 a0 b1 b2 A1 c_1) [tabC 0] (fun v l=>∃ A_0 c_0,v=.tuple #[.int .u32 r.1,.int .i64 r.2.1]∧l=J5 r.2.2 b1 b2 A_0 c_0):=by
 refine Zi Tryz.func91 fun w0 F0 h0=>?_
 replace h0:=nf h0
 unfold Q83.f at H
 refine T8 (Zb [0] ?_)
 refine T8 (T6 ?_)
 refine Zd 1 ?_
 refine cE H [0,0,0] h0 rfl Q82.spec (gS [0]) ?_
 rintro r1 w1 _ _ H ⟨A2,c_2,A3,c_3,rfl,rfl⟩ h1
 replace h1:=nf h1
 refine Ze [4,5] rfl ?_
 refine T8 (T8 (Zb [4,5,12] ?_))
 refine jIf H (fun c1 H=>?_) fun c1 H=>?_
 ·refine T8 (Zb [2,3] ?_)
  cases H
  exact T7 (jR ⟨_,_,rfl,rfl⟩ h1 [1,1,1])
 refine T9 (T8 (T6 ?_))
 refine Zd 1 ?_
 obtain ⟨p1,H⟩:=Zk H
 have e1:=Wl h1.wh (gO 0) p1
 refine Zc (Xr e1 p1) ?_
 refine Zc (Y7 0 h1.wht (gO 0) p1) ?_
 refine Ze [2,3] rfl ?_
 cases H
 exact T7 (jR ⟨_,_,rfl,rfl⟩ h1 [1,1,1])

def Q24.f (a0:Ti):Option (Bool):=some false
theorem Q24.spec {a0 b1 b2 b3 b4 A1 c_1 A2 c_2 A3 c_3 A4 c_4 r} (H:Q24.f a0=some r) :
  Spec Tryz.prog 108 [.pointer (some ⟨b1,0,none⟩)] (W9 a0 b1 b2 b3 b4 A1 A2 A3 A4 c_1 c_2 c_3 c_4) [] (fun v l=>v=.bool r∧l=W9 a0 b1 b2 b3 b4 A1 A2 A3 A4 c_1 c_2 c_3 c_4):=by
 refine Zi Tryz.func108 fun w0 F0 h0=>?_
 replace h0:=nf h0
 unfold Q24.f at H
 refine T8 (Zb [0] ?_)
 refine T8 (T6 ?_)
 refine Zd 6 ?_
 refine Zc (Za 0 h0.wht) ?_
 refine Ze [2] rfl ?_
 cases H
 exact T7 (jR0 h0 [0,0,0,0,0,0,0,0])

def Q22.f (a0:Ti) (a1:Int) (a2:TX):Option Th:=(Q24.f a0).bind fun r1=>(if r1=true then (some (1,a0)) else (if (!(Y9 a0.2.2.1 a1))=true then (some (8,a0)) else (if 0≤(Zv (0:Int) a0.2.2.1 a1)∧(Zv (0:Int) a0.2.2.1 a1)<(a0.2.1.length:Int) then (if (decide (((gt a0.2.1 (Zv (0:Int) a0.2.2.1 a1)).2.2.2)=0))=true then (some (8,a0)) else ((Q55.f a0.1).bind fun r2=>(if (!decide ((a2.length:Int)=r2))=true then (some (3,a0)) else ((Q99.f a2).bind fun r3=>(some (0,(a0.1,((a0.2.1.set (Zv (0:Int) a0.2.2.1 a1).toNat ((gt a0.2.1 (Zv (0:Int) a0.2.2.1 a1)).1,r3,(gt a0.2.1 (Zv (0:Int) a0.2.2.1 a1)).2.2.1,(gt a0.2.1 (Zv (0:Int) a0.2.2.1 a1)).2.2.2)).set (Zv (0:Int) a0.2.2.1 a1).toNat ((gt (a0.2.1.set (Zv (0:Int) a0.2.2.1 a1).toNat ((gt a0.2.1 (Zv (0:Int) a0.2.2.1 a1)).1,r3,(gt a0.2.1 (Zv (0:Int) a0.2.2.1 a1)).2.2.1,(gt a0.2.1 (Zv (0:Int) a0.2.2.1 a1)).2.2.2)) (Zv (0:Int) a0.2.2.1 a1)).1,(gt (a0.2.1.set (Zv (0:Int) a0.2.2.1 a1).toNat ((gt a0.2.1 (Zv (0:Int) a0.2.2.1 a1)).1,r3,(gt a0.2.1 (Zv (0:Int) a0.2.2.1 a1)).2.2.1,(gt a0.2.1 (Zv (0:Int) a0.2.2.1 a1)).2.2.2)) (Zv (0:Int) a0.2.2.1 a1)).2.1,true,(gt (a0.2.1.set (Zv (0:Int) a0.2.2.1 a1).toNat ((gt a0.2.1 (Zv (0:Int) a0.2.2.1 a1)).1,r3,(gt a0.2.1 (Zv (0:Int) a0.2.2.1 a1)).2.2.1,(gt a0.2.1 (Zv (0:Int) a0.2.2.1 a1)).2.2.2)) (Zv (0:Int) a0.2.2.1 a1)).2.2.2)),a0.2.2.1,a0.2.2.2.1,a0.2.2.2.2))))))) else none)))
theorem Q22.spec {a0 a1 a2 A5 c_5 b1 b2 b3 b4 A1 c_1 A2 c_2 A3 c_3 A4 c_4 r} (H:Q22.f a0 a1 a2=some r) :
  Spec Tryz.prog 139 [.pointer (some ⟨b1,0,none⟩),.int .u32 a1,.slice A5 a2.length c_5] (W9 a0 b1 b2 b3 b4 A1 A2 A3 A4 c_1 c_2 c_3 c_4) [R5 a2 A5 c_5] (fun v l=>∃ A_0 c_0 A_1 c_1 A_2 c_2 A_3 c_3,v=.int .i64 r.1∧l=W9 r.2 b1 b2 b3 b4 A_0 A_1 A_2 A_3 c_0 c_1 c_2 c_3):=by
 refine Zi Tryz.func139 fun w0 F0 h0=>?_
 replace h0:=nf h0
 unfold Q22.f at H
 refine T8 (Zb [0,1,2] ?_)
 refine T8 (T6 ?_)
 refine Zd 2 ?_
 refine Ye Tryz.func128 ?_
 refine T8 (Zb [0,1] ?_)
 refine T8 (T8 (T6 ?_))
 refine Zd 1 ?_
 refine cS H [0,0,0,0,0,0,0,0] h0 rfl Q24.spec Zp fun r1 w1 H h1=>?_
 refine Ze [0,1,9] rfl ?_
 refine jIf H (fun c1 H=>?_) fun c1 H=>?_
 ·refine T8 (Zb [4,5] ?_)
  refine T7 (⟨_,Zl,?_⟩)
  refine Ze [0,2,7,8] rfl ?_
  refine T8 (T0 (T8 (Zb [0,2,7,8,15] ?_)))
  refine Zn ?_
  refine T8 (Zb [6] ?_)
  cases H
  exact T7 (jR ⟨_,_,_,_,_,_,_,_,rfl,rfl⟩ h1 [0,0,0,0,0,0,0,0])
 refine T9 (T8 (T6 ?_))
 refine Zd 3 ?_
 refine Zc (Za 0 h1.wht) ?_
 refine Zd 1 ?_
 refine Zc (Wp (0:Int) 4 h1.wht) ?_
 refine Ze [0,6,7] rfl ?_
 refine T8 (T8 (T6 ?_))
 refine Zd 3 ?_
 refine Yb 21 H (fun c2 H=>?_) fun c2 H=>?_
 ·refine Ze [0,6,31] rfl ?_
  refine Zn ?_
  refine T8 (Zb [4,5] ?_)
  refine T7 (⟨_,Zl,?_⟩)
  refine Ze [0,2,7,8] rfl ?_
  refine T8 (T0 (T8 (Zb [0,2,7,8,15] ?_)))
  refine Zn ?_
  refine T8 (Zb [6] ?_)
  cases H
  exact T7 (jR ⟨_,_,_,_,_,_,_,_,rfl,rfl⟩ h1 [0,0,0,0,0,0,0,0])
 refine Zd 3 ?_
 refine Zc (Za 0 h1.wht) ?_
 refine Zd 1 ?_
 obtain ⟨⟨p1,p2⟩,H⟩:=Zk H
 have e1:=Z0 h1.wh (gO 3) p1 p2
 refine Zc (Zg e1 p1 p2) ?_
 refine Zd 1 ?_
 refine Zc (Xb 3 h1.wht (gO 3) p1 p2) ?_
 refine Ze [0,6,31] rfl ?_
 refine jIf H (fun c3 H=>?_) fun c3 H=>?_
 ·refine T8 (Zb [4,5] ?_)
  refine T7 (⟨_,Zl,?_⟩)
  refine Ze [0,2,7,8] rfl ?_
  refine T8 (T0 (T8 (Zb [0,2,7,8,15] ?_)))
  refine Zn ?_
  refine T8 (Zb [6] ?_)
  cases H
  exact T7 (jR ⟨_,_,_,_,_,_,_,_,rfl,rfl⟩ h1 [0,0,0,0,0,0,0,0])
 refine T9 (T8 (T6 ?_))
 refine Zd 3 ?_
 refine Zc (Za 0 h1.wht) ?_
 refine Zd 1 ?_
 refine Zc (Zg e1 p1 p2) ?_
 refine Ze [4,5] rfl ?_
 refine T7 (⟨_,Zl,?_⟩)
 refine Ze [0,2,7,8] rfl ?_
 refine T8 (T0 (T8 (Zb [0,2,7,8,15] ?_)))
 refine Z6 ?_
 refine T8 (T6 ?_)
 refine Zd 5 ?_
 refine Zc (Za 0 h1.wht) ?_
 refine cS H [1,1] h1 rfl Q55.spec Zp fun r2 w2 H h2=>?_
 refine Ze [2,7,19] rfl ?_
 refine jIf H (fun c4 H=>?_) fun c4 H=>?_
 ·refine T8 (Zb [6] ?_)
  cases H
  exact T7 (jR ⟨_,_,_,_,_,_,_,_,rfl,rfl⟩ h2 [2,0,0,0,0,0,0,0])
 refine T9 (T8 (T6 ?_))
 refine Zd 3 ?_
 refine cE H [] h2 rfl Q99.spec (gS [8]) ?_
 rintro r3 w3 _ _ H ⟨A6,c_6,rfl,rfl⟩ h3
 replace h3:=nf h3
 refine Zd 2 ?_
 have h4:=(h3.only [4,0,0,0,0,0,0,0,0] rfl).both
 refine rS (W2 1 (.pair (.int .u32) (.pair (.slice 5 (.int .u8)) (.pair .bool (.int .i64)))) (Zv (0:Int) a0.2.2.1 a1) ((gt a0.2.1 (Zv (0:Int) a0.2.2.1 a1)).1,r3,(gt a0.2.1 (Zv (0:Int) a0.2.2.1 a1)).2.2.1,(gt a0.2.1 (Zv (0:Int) a0.2.2.1 a1)).2.2.2) h4 p1 p2 Zmf) fun _ w4 h5=>?_
 replace h5:St w0 F0 [Xq (a0.2.1.set (Zv (0:Int) a0.2.2.1 a1).toNat ((gt a0.2.1 (Zv (0:Int) a0.2.2.1 a1)).1,r3,(gt a0.2.1 (Zv (0:Int) a0.2.2.1 a1)).2.2.1,(gt a0.2.1 (Zv (0:Int) a0.2.2.1 a1)).2.2.2)) A2 c_2,Xi b2 a0.1.1 a0.1.2.1 A1 c_1 a0.1.2.2.1 a0.1.2.2.2,O5 a0.1.2.1 A1 c_1,Xp b1 (.pointer (some ⟨b2,0,none⟩)) (a0.2.1.set (Zv (0:Int) a0.2.2.1 a1).toNat ((gt a0.2.1 (Zv (0:Int) a0.2.2.1 a1)).1,r3,(gt a0.2.1 (Zv (0:Int) a0.2.2.1 a1)).2.2.1,(gt a0.2.1 (Zv (0:Int) a0.2.2.1 a1)).2.2.2)) A2 c_2 (.map (some b3)) a0.2.2.2.1 A3 c_3 (.pointer (some ⟨b4,0,none⟩)),Xa .u32 (Value.int .i64) b3 a0.2.2.1,O3 a0.2.2.2.1 A3 c_3,Y0 b4 a0.2.2.2.2.1 A4 c_4 a0.2.2.2.2.2,Y2 a0.2.2.2.2.1 A4 c_4] _ _:=h5.retell (by simp only [List.length_set,List.length_nil,Xq,Y2,O3,O5,Xi,Xp,Y0] <;> rfl)
 refine Zd 2 ?_
 refine rS (Ww 2 (.pair (.int .u32) (.pair (.slice 5 (.int .u8)) (.pair .bool (.int .i64)))) (Zv (0:Int) a0.2.2.1 a1) ((gt (a0.2.1.set (Zv (0:Int) a0.2.2.1 a1).toNat ((gt a0.2.1 (Zv (0:Int) a0.2.2.1 a1)).1,r3,(gt a0.2.1 (Zv (0:Int) a0.2.2.1 a1)).2.2.1,(gt a0.2.1 (Zv (0:Int) a0.2.2.1 a1)).2.2.2)) (Zv (0:Int) a0.2.2.1 a1)).1,(gt (a0.2.1.set (Zv (0:Int) a0.2.2.1 a1).toNat ((gt a0.2.1 (Zv (0:Int) a0.2.2.1 a1)).1,r3,(gt a0.2.1 (Zv (0:Int) a0.2.2.1 a1)).2.2.1,(gt a0.2.1 (Zv (0:Int) a0.2.2.1 a1)).2.2.2)) (Zv (0:Int) a0.2.2.1 a1)).2.1,true,(gt (a0.2.1.set (Zv (0:Int) a0.2.2.1 a1).toNat ((gt a0.2.1 (Zv (0:Int) a0.2.2.1 a1)).1,r3,(gt a0.2.1 (Zv (0:Int) a0.2.2.1 a1)).2.2.1,(gt a0.2.1 (Zv (0:Int) a0.2.2.1 a1)).2.2.2)) (Zv (0:Int) a0.2.2.1 a1)).2.2.2) 0 h5 rfl p1 (by simpa only [List.length_set] using p2) (G0 rfl rfl)) fun _ w5 h6=>?_
 replace h6:St w0 F0 [Xq ((a0.2.1.set (Zv (0:Int) a0.2.2.1 a1).toNat ((gt a0.2.1 (Zv (0:Int) a0.2.2.1 a1)).1,r3,(gt a0.2.1 (Zv (0:Int) a0.2.2.1 a1)).2.2.1,(gt a0.2.1 (Zv (0:Int) a0.2.2.1 a1)).2.2.2)).set (Zv (0:Int) a0.2.2.1 a1).toNat ((gt (a0.2.1.set (Zv (0:Int) a0.2.2.1 a1).toNat ((gt a0.2.1 (Zv (0:Int) a0.2.2.1 a1)).1,r3,(gt a0.2.1 (Zv (0:Int) a0.2.2.1 a1)).2.2.1,(gt a0.2.1 (Zv (0:Int) a0.2.2.1 a1)).2.2.2)) (Zv (0:Int) a0.2.2.1 a1)).1,(gt (a0.2.1.set (Zv (0:Int) a0.2.2.1 a1).toNat ((gt a0.2.1 (Zv (0:Int) a0.2.2.1 a1)).1,r3,(gt a0.2.1 (Zv (0:Int) a0.2.2.1 a1)).2.2.1,(gt a0.2.1 (Zv (0:Int) a0.2.2.1 a1)).2.2.2)) (Zv (0:Int) a0.2.2.1 a1)).2.1,true,(gt (a0.2.1.set (Zv (0:Int) a0.2.2.1 a1).toNat ((gt a0.2.1 (Zv (0:Int) a0.2.2.1 a1)).1,r3,(gt a0.2.1 (Zv (0:Int) a0.2.2.1 a1)).2.2.1,(gt a0.2.1 (Zv (0:Int) a0.2.2.1 a1)).2.2.2)) (Zv (0:Int) a0.2.2.1 a1)).2.2.2)) A2 c_2,Xi b2 a0.1.1 a0.1.2.1 A1 c_1 a0.1.2.2.1 a0.1.2.2.2,O5 a0.1.2.1 A1 c_1,Xp b1 (.pointer (some ⟨b2,0,none⟩)) ((a0.2.1.set (Zv (0:Int) a0.2.2.1 a1).toNat ((gt a0.2.1 (Zv (0:Int) a0.2.2.1 a1)).1,r3,(gt a0.2.1 (Zv (0:Int) a0.2.2.1 a1)).2.2.1,(gt a0.2.1 (Zv (0:Int) a0.2.2.1 a1)).2.2.2)).set (Zv (0:Int) a0.2.2.1 a1).toNat ((gt (a0.2.1.set (Zv (0:Int) a0.2.2.1 a1).toNat ((gt a0.2.1 (Zv (0:Int) a0.2.2.1 a1)).1,r3,(gt a0.2.1 (Zv (0:Int) a0.2.2.1 a1)).2.2.1,(gt a0.2.1 (Zv (0:Int) a0.2.2.1 a1)).2.2.2)) (Zv (0:Int) a0.2.2.1 a1)).1,(gt (a0.2.1.set (Zv (0:Int) a0.2.2.1 a1).toNat ((gt a0.2.1 (Zv (0:Int) a0.2.2.1 a1)).1,r3,(gt a0.2.1 (Zv (0:Int) a0.2.2.1 a1)).2.2.1,(gt a0.2.1 (Zv (0:Int) a0.2.2.1 a1)).2.2.2)) (Zv (0:Int) a0.2.2.1 a1)).2.1,true,(gt (a0.2.1.set (Zv (0:Int) a0.2.2.1 a1).toNat ((gt a0.2.1 (Zv (0:Int) a0.2.2.1 a1)).1,r3,(gt a0.2.1 (Zv (0:Int) a0.2.2.1 a1)).2.2.1,(gt a0.2.1 (Zv (0:Int) a0.2.2.1 a1)).2.2.2)) (Zv (0:Int) a0.2.2.1 a1)).2.2.2)) A2 c_2 (.map (some b3)) a0.2.2.2.1 A3 c_3 (.pointer (some ⟨b4,0,none⟩)),Xa .u32 (Value.int .i64) b3 a0.2.2.1,O3 a0.2.2.2.1 A3 c_3,Y0 b4 a0.2.2.2.2.1 A4 c_4 a0.2.2.2.2.2,Y2 a0.2.2.2.2.1 A4 c_4] _ _:=h6.retell (by simp only [List.length_set,List.length_nil,Xq,Y2,O3,O5,Xi,Xp,Y0] <;> rfl)
 refine Ze [] rfl ?_
 refine T8 (Zb [6] ?_)
 cases H
 exact T7 (jR ⟨_,_,_,_,_,_,_,_,rfl,rfl⟩ h6 [3,1,1,0,0,0,0,0])

def Q26.f (a0:Ti) (a1:Int):Option (Int):=(Q24.f a0).bind fun r1=>(if r1=true then (some 1) else ((Q54.f a0.1).bind fun r2=>(if (decide (r2≤(w64 (a1))))=true then (some 4) else (some 0))))
theorem Q26.spec {a0 a1 b1 b2 b3 b4 A1 c_1 A2 c_2 A3 c_3 A4 c_4 r} (H:Q26.f a0 a1=some r) :
  Spec Tryz.prog 124 [.pointer (some ⟨b1,0,none⟩),.int .u32 a1] (W9 a0 b1 b2 b3 b4 A1 A2 A3 A4 c_1 c_2 c_3 c_4) [] (fun v l=>v=.int .i64 r∧l=W9 a0 b1 b2 b3 b4 A1 A2 A3 A4 c_1 c_2 c_3 c_4):=by
 refine Zi Tryz.func124 fun w0 F0 h0=>?_
 replace h0:=nf h0
 unfold Q26.f at H
 refine T8 (Zb [0,1] ?_)
 refine T8 (T0 (T8 (T6 ?_)))
 refine Zd 1 ?_
 refine cS H [0,0,0,0,0,0,0,0] h0 rfl Q24.spec Zp fun r1 w1 H h1=>?_
 refine Ze [0,1,5] rfl ?_
 refine jIf H (fun c1 H=>?_) fun c1 H=>?_
 ·refine T8 (Zb [4] ?_)
  cases H
  exact T7 (jR0 h1 [0,0,0,0,0,0,0,0])
 refine T8 (T6 ?_)
 refine Zd 5 ?_
 refine Zc (Za 0 h1.wht) ?_
 refine cS H [1,1] h1 rfl Q54.spec Zp fun r2 w2 H h2=>?_
 refine Ze [8] rfl ?_
 refine jIf H (fun c2 H=>?_) fun c2 H=>?_
 ·refine T8 (Zb [4] ?_)
  cases H
  exact T7 (jR0 h2 [2,0,0,0,0,0,0,0])
 refine T9 (T8 (Zb [4] ?_))
 cases H
 exact T7 (jR0 h2 [2,0,0,0,0,0,0,0])

def Q30.f (a0:TD):Option (Int):=some a0.2
theorem Q30.spec {a0 b1 A1 c_1 r} (H:Q30.f a0=some r) :
  Spec Tryz.prog 211 [.pointer (some ⟨b1,0,none⟩)] (Wv a0 b1 A1 c_1) [] (fun v l=>v=.int .i64 r∧l=Wv a0 b1 A1 c_1):=by
 refine Zi Tryz.func211 fun w0 F0 h0=>?_
 replace h0:=nf h0
 unfold Q30.f at H
 refine T8 (Zb [0] ?_)
 refine T8 (T8 (Zb [0,4] ?_))
 refine Z6 ?_
 refine T9 (T8 (T6 ?_))
 refine Zd 3 ?_
 refine Zc (Za 0 h0.wht) ?_
 refine Ze [2] rfl ?_
 cases H
 exact T7 (jR0 h0 [0,0])

def Q33.f (a0:TD):Option (Int):=some (w64 ((a0.1.length:Int) - 1))
theorem Q33.spec {a0 b1 A1 c_1 r} (H:Q33.f a0=some r) :
  Spec Tryz.prog 175 [.pointer (some ⟨b1,0,none⟩)] (Wv a0 b1 A1 c_1) [] (fun v l=>v=.int .i64 r∧l=Wv a0 b1 A1 c_1):=by
 refine Zi Tryz.func175 fun w0 F0 h0=>?_
 replace h0:=nf h0
 unfold Q33.f at H
 refine T8 (Zb [0] ?_)
 refine T8 (T6 ?_)
 refine Zd 3 ?_
 refine Zc (Za 0 h0.wht) ?_
 refine Ze [2] rfl ?_
 cases H
 exact T7 (jR0 h0 [0,0])

end Go.SK.T
