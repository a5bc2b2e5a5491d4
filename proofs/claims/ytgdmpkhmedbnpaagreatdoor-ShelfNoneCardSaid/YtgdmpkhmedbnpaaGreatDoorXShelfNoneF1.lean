/- The functions, further. -/
import Derived.Test.YtgdmpkhmedbnpaaGreatDoorXShelfNoneF0
set_option linter.unusedVariables false
set_option linter.unusedSimpArgs false
set_option maxRecDepth 20000
set_option maxHeartbeats 40000000
namespace Go.SK.T
open Go Go.SK Go.Proofs
mutual
def Q127.l0:Nat→(Int)→(List (Int))→(Int)→(Int)→Option (Int×Bool×List (Int))
 | 0,_,_,_,_=>none
 | k+1,a1,x9,x10,x11=>Q127.l2 k a1 x9 x11 x10
def Q127.l1:Nat→(Int)→(List (Int))→(Int)→(Int)→Option (Int×Bool×List (Int))
 | 0,_,_,_,_=>none
 | k+1,a1,x9,x12,x16=>if (decide (x12≤x16))=true then (if 0≤x16∧x16<(x9.length:Int) then (if 0≤a1∧a1<(x9.length:Int) then ((Q32.f (gt x9 x16) (gt x9 a1)).bind fun r1=>(if (!r1)=true then (Q127.l1 k a1 x9 x12 (w64 (x16 - 1))) else (if (decide (x16<x12))=true then (if 0≤a1∧a1<(x9.length:Int) then (if 0≤x16∧x16<(x9.length:Int) then (some (x16,false,((x9.set x16.toNat (gt x9 a1)).set a1.toNat (gt x9 x16)))) else none) else none) else (if 0≤x16∧x16<(x9.length:Int) then (if 0≤x12∧x12<(x9.length:Int) then (Q127.l0 k a1 ((x9.set x12.toNat (gt x9 x16)).set x16.toNat (gt x9 x12)) (w64 (x12+1)) (w64 (x16 - 1))) else none) else none)))) else none) else none) else (if (decide (x16<x12))=true then (if 0≤a1∧a1<(x9.length:Int) then (if 0≤x16∧x16<(x9.length:Int) then (some (x16,false,((x9.set x16.toNat (gt x9 a1)).set a1.toNat (gt x9 x16)))) else none) else none) else (if 0≤x16∧x16<(x9.length:Int) then (if 0≤x12∧x12<(x9.length:Int) then (Q127.l0 k a1 ((x9.set x12.toNat (gt x9 x16)).set x16.toNat (gt x9 x12)) (w64 (x12+1)) (w64 (x16 - 1))) else none) else none))
def Q127.l2:Nat→(Int)→(List (Int))→(Int)→(Int)→Option (Int×Bool×List (Int))
 | 0,_,_,_,_=>none
 | k+1,a1,x9,x11,x17=>if (decide (x17≤x11))=true then (if 0≤x17∧x17<(x9.length:Int) then (if 0≤a1∧a1<(x9.length:Int) then ((Q32.f (gt x9 x17) (gt x9 a1)).bind fun r2=>(if r2=true then (Q127.l2 k a1 x9 x11 (w64 (x17+1))) else (Q127.l1 k a1 x9 x17 x11))) else none) else none) else (Q127.l1 k a1 x9 x17 x11)
end
def Q127.l3:Nat→(List (Int))→(Int)→(Int)→(Int)→(Int)→Option (Int×Bool×List (Int))
 | 0,_,_,_,_,_=>none
 | k+1,a0,a1,a3,x1,x18=>if (decide (x1≤x18))=true then (if 0≤x18∧x18<(((a0.set a1.toNat (gt a0 a3)).set a3.toNat (gt a0 a1)).length:Int) then (if 0≤a1∧a1<(((a0.set a1.toNat (gt a0 a3)).set a3.toNat (gt a0 a1)).length:Int) then ((Q32.f (gt ((a0.set a1.toNat (gt a0 a3)).set a3.toNat (gt a0 a1)) x18) (gt ((a0.set a1.toNat (gt a0 a3)).set a3.toNat (gt a0 a1)) a1)).bind fun r3=>(if (!r3)=true then (Q127.l3 k a0 a1 a3 x1 (w64 (x18 - 1))) else (if (decide (x18<x1))=true then (if 0≤a1∧a1<(((a0.set a1.toNat (gt a0 a3)).set a3.toNat (gt a0 a1)).length:Int) then (if 0≤x18∧x18<(((a0.set a1.toNat (gt a0 a3)).set a3.toNat (gt a0 a1)).length:Int) then (some (x18,true,((((a0.set a1.toNat (gt a0 a3)).set a3.toNat (gt a0 a1)).set x18.toNat (gt ((a0.set a1.toNat (gt a0 a3)).set a3.toNat (gt a0 a1)) a1)).set a1.toNat (gt ((a0.set a1.toNat (gt a0 a3)).set a3.toNat (gt a0 a1)) x18)))) else none) else none) else (if 0≤x18∧x18<(((a0.set a1.toNat (gt a0 a3)).set a3.toNat (gt a0 a1)).length:Int) then (if 0≤x1∧x1<(((a0.set a1.toNat (gt a0 a3)).set a3.toNat (gt a0 a1)).length:Int) then (Q127.l0 k a1 ((((a0.set a1.toNat (gt a0 a3)).set a3.toNat (gt a0 a1)).set x1.toNat (gt ((a0.set a1.toNat (gt a0 a3)).set a3.toNat (gt a0 a1)) x18)).set x18.toNat (gt ((a0.set a1.toNat (gt a0 a3)).set a3.toNat (gt a0 a1)) x1)) (w64 (x1+1)) (w64 (x18 - 1))) else none) else none)))) else none) else none) else (if (decide (x18<x1))=true then (if 0≤a1∧a1<(((a0.set a1.toNat (gt a0 a3)).set a3.toNat (gt a0 a1)).length:Int) then (if 0≤x18∧x18<(((a0.set a1.toNat (gt a0 a3)).set a3.toNat (gt a0 a1)).length:Int) then (some (x18,true,((((a0.set a1.toNat (gt a0 a3)).set a3.toNat (gt a0 a1)).set x18.toNat (gt ((a0.set a1.toNat (gt a0 a3)).set a3.toNat (gt a0 a1)) a1)).set a1.toNat (gt ((a0.set a1.toNat (gt a0 a3)).set a3.toNat (gt a0 a1)) x18)))) else none) else none) else (if 0≤x18∧x18<(((a0.set a1.toNat (gt a0 a3)).set a3.toNat (gt a0 a1)).length:Int) then (if 0≤x1∧x1<(((a0.set a1.toNat (gt a0 a3)).set a3.toNat (gt a0 a1)).length:Int) then (Q127.l0 k a1 ((((a0.set a1.toNat (gt a0 a3)).set a3.toNat (gt a0 a1)).set x1.toNat (gt ((a0.set a1.toNat (gt a0 a3)).set a3.toNat (gt a0 a1)) x18)).set x18.toNat (gt ((a0.set a1.toNat (gt a0 a3)).set a3.toNat (gt a0 a1)) x1)) (w64 (x1+1)) (w64 (x18 - 1))) else none) else none))
def Q127.l4:Nat→(List (Int))→(Int)→(Int)→(Int)→(Int)→Option (Int×Bool×List (Int))
 | 0,_,_,_,_,_=>none
 | k+1,a0,a1,a2,a3,x19=>if (decide (x19≤(w64 (a2 - 1))))=true then (if 0≤x19∧x19<(((a0.set a1.toNat (gt a0 a3)).set a3.toNat (gt a0 a1)).length:Int) then (if 0≤a1∧a1<(((a0.set a1.toNat (gt a0 a3)).set a3.toNat (gt a0 a1)).length:Int) then ((Q32.f (gt ((a0.set a1.toNat (gt a0 a3)).set a3.toNat (gt a0 a1)) x19) (gt ((a0.set a1.toNat (gt a0 a3)).set a3.toNat (gt a0 a1)) a1)).bind fun r4=>(if r4=true then (Q127.l4 k a0 a1 a2 a3 (w64 (x19+1))) else (Q127.l3 k a0 a1 a3 x19 (w64 (a2 - 1))))) else none) else none) else (Q127.l3 k a0 a1 a3 x19 (w64 (a2 - 1)))
def Q127.f (k:Nat) (a0:List (Int)) (a1:Int) (a2:Int) (a3:Int):Option (Int×Bool×List (Int)):=if 0≤a3∧a3<(a0.length:Int) then (if 0≤a1∧a1<(a0.length:Int) then (Q127.l4 k a0 a1 a2 a3 (w64 (a1+1))) else none) else none
theorem Q127.spec {k:Nat} {a0:List (Int)} {a1:Int} {a2:Int} {a3:Int} {A1:Option Addr} {c_1:Nat} {r:Int×Bool×List (Int)} (H:Q127.f k a0 a1 a2 a3=some r) :
  Spec Tryz.prog 242 [.slice A1 a0.length c_1,.int .i64 a1,.int .i64 a2,.int .i64 a3] [O33 a0 A1 c_1] [] (fun v l=>v=.tuple #[.int .i64 r.1,.bool r.2.1]∧l=[O33 r.2.2 A1 c_1]∧r.2.2.length=a0.length):=by
 refine Zp Tryz.func242 fun w0 F0 h0=>?_
 unfold Q127.f at H
 refine J.seq (Zc [0,1,2,3] ?_)
 refine J.seq ?_
 obtain ⟨⟨p1,p2⟩,H⟩:=Zt H
 obtain ⟨⟨p3,p4⟩,H⟩:=Zt H
 refine J.midS (fun env w=>env=[(0,.slice A1 ((a0.set a1.toNat (gt a0 a3)).set a3.toNat (gt a0 a1)).length c_1),(1,.int .i64 a1),(2,.int .i64 a2)]∧St w0 F0 [O33 ((a0.set a1.toNat (gt a0 a3)).set a3.toNat (gt a0 a1)) A1 c_1] [] w) ?_ ?_
 ·refine Zv (Zb h0 []) ?_
  have h3:=h0.drew
  refine Zu [0,1,2,3,4,5,8,9] ?_
  have e4:=Z6 h3.wh (gO 0) p1 p2
  refine Zj 6 rfl (Zk e4 p1 p2) ?_
  refine Zj 10 rfl (Zk e4 p3 p4) ?_
  refine HJ.pick [7,11] (i:=7) rfl rfl rfl rfl ?_
  refine (Yc ?_ (Yc ?_ Xa))
  ·refine Z5 7 rfl (OpT.ofq (Zl 0 h3.wht (gO 0) p1 p2)) ?_
   rintro _ _ ⟨rfl,rfl⟩
   replace h3:=nf h3
   refine ⟨⟨[_],h3⟩,?_⟩
   refine Zq 11 rfl (OpT.ofq (Zl 0 h3.wht (gO 0) p3 p4)) ?_
   rintro _ _ ⟨rfl,rfl⟩
   replace h3:=nf h3
   refine ⟨⟨[_],h3⟩,?_⟩
   refine Zj 12 rfl (Zk e4 p3 p4) ?_
   refine Zq 13 rfl (Zr 0 (.int .u32) a1 (gt a0 a3) 0 h3 rfl p3 p4) ?_
   intro _ w3 h4
   replace h4:=nf h4
   refine ⟨⟨[_],h4⟩,?_⟩
   have e5:(a0.set a1.toNat (gt a0 a3)).length=a0.length:=List.length_set.trans (rfl:a0.length=a0.length)
   refine Zj 14 rfl (Zk e4 p1 p2) ?_
   refine Zq 15 rfl (Zr 0 (.int .u32) a3 (gt a0 a1) 0 h4 rfl p1 (by simpa only [List.length_set] using p2)) ?_
   intro _ w4 h5
   replace h5:=nf h5
   refine ⟨⟨[_],h5⟩,?_⟩
   have e6:((a0.set a1.toNat (gt a0 a3)).set a3.toNat (gt a0 a1)).length=a0.length:=List.length_set.trans e5
   refine Zw [0,1,2] ?_
   exact Z2 ⟨(by simp only [List.length_set,List.length_nil] <;> rfl),((h5.only [0] rfl).rds [] rfl)⟩
  ·refine Z5 11 rfl (OpT.ofq (Zl 0 h3.wht (gO 0) p3 p4)) ?_
   rintro _ _ ⟨rfl,rfl⟩
   replace h3:=nf h3
   refine ⟨⟨[_],h3⟩,?_⟩
   refine Zq 7 rfl (OpT.ofq (Zl 0 h3.wht (gO 0) p1 p2)) ?_
   rintro _ _ ⟨rfl,rfl⟩
   replace h3:=nf h3
   refine ⟨⟨[_],h3⟩,?_⟩
   refine Zj 12 rfl (Zk e4 p3 p4) ?_
   refine Zq 13 rfl (Zr 0 (.int .u32) a1 (gt a0 a3) 0 h3 rfl p3 p4) ?_
   intro _ w5 h6
   replace h6:=nf h6
   refine ⟨⟨[_],h6⟩,?_⟩
   have e7:(a0.set a1.toNat (gt a0 a3)).length=a0.length:=List.length_set.trans (rfl:a0.length=a0.length)
   refine Zj 14 rfl (Zk e4 p1 p2) ?_
   refine Zq 15 rfl (Zr 0 (.int .u32) a3 (gt a0 a1) 0 h6 rfl p1 (by simpa only [List.length_set] using p2)) ?_
   intro _ w6 h7
   replace h7:=nf h7
   refine ⟨⟨[_],h7⟩,?_⟩
   have e8:((a0.set a1.toNat (gt a0 a3)).set a3.toNat (gt a0 a1)).length=a0.length:=List.length_set.trans e7
   refine Zw [0,1,2] ?_
   exact Z2 ⟨(by simp only [List.length_set,List.length_nil] <;> rfl),((h7.only [0] rfl).rds [] rfl)⟩
 rintro env w7 ⟨rfl,h8⟩
 have e9:((a0.set a1.toNat (gt a0 a3)).set a3.toNat (gt a0 a1)).length=a0.length:=by first | (simp only [List.length_set]; done) | (simp only [List.length_set]; exact (rfl:a0.length=a0.length))
 refine J.seq (Zc [0,1,10,11] ?_)
 refine J.seq (J.midS (fun env w=>∃(k1:Nat) (x1:Int) (x2:Bool),env=[(0,.slice A1 ((a0.set a1.toNat (gt a0 a3)).set a3.toNat (gt a0 a1)).length c_1),(1,.int .i64 a1),(10,.int .i64 x1),(11,.int .i64 (w64 (a2 - 1))),(43,.bool x2)]∧St w0 F0 [O33 ((a0.set a1.toNat (gt a0 a3)).set a3.toNat (gt a0 a1)) A1 c_1] [] w∧(Q127.l3 k1 a0 a1 a3 x1 (w64 (a2 - 1)))=some r∧k1≤k) ?_ ?_)
 ·refine J.block ?_
  have h77:=(sOR h8 [0] [])
  refine J.loop (fun kk env w=>∃(x19:Int),env=[(0,.slice A1 ((a0.set a1.toNat (gt a0 a3)).set a3.toNat (gt a0 a1)).length c_1),(1,.int .i64 a1),(10,.int .i64 x19),(11,.int .i64 (w64 (a2 - 1)))]∧St w0 F0 [O33 ((a0.set a1.toNat (gt a0 a3)).set a3.toNat (gt a0 a1)) A1 c_1] [] w∧Q127.l4 kk a0 a1 a2 a3 x19=some r∧kk≤k) (k:=k) ⟨(w64 (a1+1)),rfl,h77,H,Nat.le_refl _⟩ ?_
  rintro k10 env w53 ⟨x19,rfl,h71,H,hk10⟩
  rcases k10 with _ | k10
  ·exact z0 H
  rw [Q127.l4] at H
  refine J.seq (J.seq ?_)
  refine Zv h71 ?_
  have h72:=h71.drew
  refine Zu [0,1,2,3] ?_
  refine Yh 33 H (fun c9 H=>?_) fun c9 H=>?_
  ·refine Zu [4,5,8,9] ?_
   obtain ⟨⟨p33,p34⟩,H⟩:=Zt H
   have e51:=Z6 h72.wh (gO 0) p33 p34
   refine Zj 6 rfl (Zk e51 p33 p34) ?_
   refine Zj 7 rfl (Zl 0 wI (gO 0) p33 p34) ?_
   obtain ⟨⟨p35,p36⟩,H⟩:=Zt H
   refine Zj 10 rfl (Zk e51 p35 p36) ?_
   refine Zj 11 rfl (Zl 0 wI (gO 0) p35 p36) ?_
   obtain ⟨r4,q4,H⟩:=Zn H
   refine Zq 12 rfl (Zf [] (Q32.spec q4) h72 rfl Zs) ?_
   rintro _ w54 ⟨_,⟨rfl,rfl⟩,h73⟩
   replace h73:=nf h73
   refine ⟨⟨[],h73⟩,?_⟩
   refine Zu [13] ?_
   refine Zw [0,1,10,11,43] ?_
   refine jIf H (fun c10 H=>?_) fun c10 H=>?_
   ·refine J.skip (J.block (Zc [0,1,10,11] ?_))
    have h74:=(sOR h73 [0] [])
    exact ⟨k10,by omega,(w64 (x19+1)),rfl,h74,H,by omega⟩
   refine J.exit ?_
   have h75:=(sOR h73 [0] [])
   exact ⟨k10,x19,r4,rfl,h75,H,by omega⟩
  refine Zu [4,5,6,7,8,9,10,11,12,13] ?_
  refine Zw [0,1,10,11,43] ?_
  refine Zz ?_
  refine J.exit ?_
  have h76:=(sOR h72 [0] [])
  exact ⟨k10,x19,false,rfl,h76,H,by omega⟩
 rintro env w9 ⟨k1,x1,x2,rfl,h9,H,hk1⟩
 refine J.seq (J.midS (fun env w=>∃(k2:Nat) (x3:Int) (x4:Bool),env=[(0,.slice A1 ((a0.set a1.toNat (gt a0 a3)).set a3.toNat (gt a0 a1)).length c_1),(1,.int .i64 a1),(10,.int .i64 x1),(11,.int .i64 x3),(60,.bool x4)]∧St w0 F0 [O33 ((a0.set a1.toNat (gt a0 a3)).set a3.toNat (gt a0 a1)) A1 c_1] [] w∧(if (decide (x3<x1))=true then (if 0≤a1∧a1<(((a0.set a1.toNat (gt a0 a3)).set a3.toNat (gt a0 a1)).length:Int) then (if 0≤x3∧x3<(((a0.set a1.toNat (gt a0 a3)).set a3.toNat (gt a0 a1)).length:Int) then (some (x3,true,((((a0.set a1.toNat (gt a0 a3)).set a3.toNat (gt a0 a1)).set x3.toNat (gt ((a0.set a1.toNat (gt a0 a3)).set a3.toNat (gt a0 a1)) a1)).set a1.toNat (gt ((a0.set a1.toNat (gt a0 a3)).set a3.toNat (gt a0 a1)) x3)))) else none) else none) else (if 0≤x3∧x3<(((a0.set a1.toNat (gt a0 a3)).set a3.toNat (gt a0 a1)).length:Int) then (if 0≤x1∧x1<(((a0.set a1.toNat (gt a0 a3)).set a3.toNat (gt a0 a1)).length:Int) then (Q127.l0 k2 a1 ((((a0.set a1.toNat (gt a0 a3)).set a3.toNat (gt a0 a1)).set x1.toNat (gt ((a0.set a1.toNat (gt a0 a3)).set a3.toNat (gt a0 a1)) x3)).set x3.toNat (gt ((a0.set a1.toNat (gt a0 a3)).set a3.toNat (gt a0 a1)) x1)) (w64 (x1+1)) (w64 (x3 - 1))) else none) else none))=some r∧k2≤k1) ?_ ?_)
 ·refine J.block (Y7 [0,1,10,11] ?_)
  have h70:=(sOR h9 [0] [])
  refine J.loop (fun kk env w=>∃(x18:Int),env=[(0,.slice A1 ((a0.set a1.toNat (gt a0 a3)).set a3.toNat (gt a0 a1)).length c_1),(1,.int .i64 a1),(10,.int .i64 x1),(11,.int .i64 x18)]∧St w0 F0 [O33 ((a0.set a1.toNat (gt a0 a3)).set a3.toNat (gt a0 a1)) A1 c_1] [] w∧Q127.l3 kk a0 a1 a3 x1 x18=some r∧kk≤k1) (k:=k1) ⟨(w64 (a2 - 1)),rfl,h70,H,Nat.le_refl _⟩ ?_
  rintro k9 env w51 ⟨x18,rfl,h64,H,hk9⟩
  rcases k9 with _ | k9
  ·exact z0 H
  rw [Q127.l3] at H
  refine J.seq (J.seq ?_)
  refine Zv h64 ?_
  have h65:=h64.drew
  refine Zu [0,1,2,3] ?_
  refine Yh 49 H (fun c7 H=>?_) fun c7 H=>?_
  ·refine Zu [4,5,8,9] ?_
   obtain ⟨⟨p29,p30⟩,H⟩:=Zt H
   have e50:=Z6 h65.wh (gO 0) p29 p30
   refine Zj 6 rfl (Zk e50 p29 p30) ?_
   refine Zj 7 rfl (Zl 0 wI (gO 0) p29 p30) ?_
   obtain ⟨⟨p31,p32⟩,H⟩:=Zt H
   refine Zj 10 rfl (Zk e50 p31 p32) ?_
   refine Zj 11 rfl (Zl 0 wI (gO 0) p31 p32) ?_
   obtain ⟨r3,q3,H⟩:=Zn H
   refine Zq 12 rfl (Zf [] (Q32.spec q3) h65 rfl Zs) ?_
   rintro _ w52 ⟨_,⟨rfl,rfl⟩,h66⟩
   replace h66:=nf h66
   refine ⟨⟨[],h66⟩,?_⟩
   refine Zu [13,14] ?_
   refine Zw [0,1,10,11,60] ?_
   refine jIf H (fun c8 H=>?_) fun c8 H=>?_
   ·refine J.skip (J.block (Zc [0,1,10,11] ?_))
    have h67:=(sOR h66 [0] [])
    exact ⟨k9,by omega,(w64 (x18 - 1)),rfl,h67,H,by omega⟩
   refine J.exit ?_
   have h68:=(sOR h66 [0] [])
   exact ⟨k9,x18,(!r3),rfl,h68,H,by omega⟩
  refine Zu [4,5,6,7,8,9,10,11,12,13,14] ?_
  refine Zw [0,1,10,11,60] ?_
  refine Zz ?_
  refine J.exit ?_
  have h69:=(sOR h65 [0] [])
  exact ⟨k9,x18,false,rfl,h69,H,by omega⟩
 rintro env w11 ⟨k2,x3,x4,rfl,h10,H,hk2⟩
 refine J.seq (J.seq (Zc [0,1,10,11,65] ?_))
 refine jIf H (fun c1 H=>?_) fun c1 H=>?_
 ·refine J.seq ?_
  obtain ⟨⟨p5,p6⟩,H⟩:=Zt H
  obtain ⟨⟨p7,p8⟩,H⟩:=Zt H
  refine J.midS (fun env w=>env=[(11,.int .i64 x3)]∧St w0 F0 [O33 ((((a0.set a1.toNat (gt a0 a3)).set a3.toNat (gt a0 a1)).set x3.toNat (gt ((a0.set a1.toNat (gt a0 a3)).set a3.toNat (gt a0 a1)) a1)).set a1.toNat (gt ((a0.set a1.toNat (gt a0 a3)).set a3.toNat (gt a0 a1)) x3)) A1 c_1] [] w) ?_ ?_
  ·refine Zv (Zb h10 []) ?_
   have h13:=h10.drew
   refine Zu [0,1,2,3,4,5,8,9] ?_
   have e13:=Z6 h13.wh (gO 0) p5 p6
   refine Zj 6 rfl (Zk e13 p5 p6) ?_
   refine Zj 10 rfl (Zk e13 p7 p8) ?_
   refine HJ.pick [7,11] (i:=7) rfl rfl rfl rfl ?_
   refine (Yc ?_ (Yc ?_ Xa))
   ·refine Z5 7 rfl (OpT.ofq (Zl 0 h13.wht (gO 0) p5 p6)) ?_
    rintro _ _ ⟨rfl,rfl⟩
    replace h13:=nf h13
    refine ⟨⟨[_],h13⟩,?_⟩
    refine Zq 11 rfl (OpT.ofq (Zl 0 h13.wht (gO 0) p7 p8)) ?_
    rintro _ _ ⟨rfl,rfl⟩
    replace h13:=nf h13
    refine ⟨⟨[_],h13⟩,?_⟩
    refine Zj 12 rfl (Zk e13 p7 p8) ?_
    refine Zq 13 rfl (Zr 0 (.int .u32) x3 (gt ((a0.set a1.toNat (gt a0 a3)).set a3.toNat (gt a0 a1)) a1) 0 h13 rfl p7 p8) ?_
    intro _ w14 h14
    replace h14:=nf h14
    refine ⟨⟨[_],h14⟩,?_⟩
    have e14:(((a0.set a1.toNat (gt a0 a3)).set a3.toNat (gt a0 a1)).set x3.toNat (gt ((a0.set a1.toNat (gt a0 a3)).set a3.toNat (gt a0 a1)) a1)).length=a0.length:=List.length_set.trans e9
    refine Zj 14 rfl (Zk e13 p5 p6) ?_
    refine Zq 15 rfl (Zr 0 (.int .u32) a1 (gt ((a0.set a1.toNat (gt a0 a3)).set a3.toNat (gt a0 a1)) x3) 0 h14 rfl p5 (by simpa only [List.length_set] using p6)) ?_
    intro _ w15 h15
    replace h15:=nf h15
    refine ⟨⟨[_],h15⟩,?_⟩
    have e15:((((a0.set a1.toNat (gt a0 a3)).set a3.toNat (gt a0 a1)).set x3.toNat (gt ((a0.set a1.toNat (gt a0 a3)).set a3.toNat (gt a0 a1)) a1)).set a1.toNat (gt ((a0.set a1.toNat (gt a0 a3)).set a3.toNat (gt a0 a1)) x3)).length=a0.length:=List.length_set.trans e14
    refine Zw [11] ?_
    exact Z2 ⟨(by simp only [List.length_set,List.length_nil] <;> rfl),((h15.only [0] rfl).rds [] rfl)⟩
   ·refine Z5 11 rfl (OpT.ofq (Zl 0 h13.wht (gO 0) p7 p8)) ?_
    rintro _ _ ⟨rfl,rfl⟩
    replace h13:=nf h13
    refine ⟨⟨[_],h13⟩,?_⟩
    refine Zq 7 rfl (OpT.ofq (Zl 0 h13.wht (gO 0) p5 p6)) ?_
    rintro _ _ ⟨rfl,rfl⟩
    replace h13:=nf h13
    refine ⟨⟨[_],h13⟩,?_⟩
    refine Zj 12 rfl (Zk e13 p7 p8) ?_
    refine Zq 13 rfl (Zr 0 (.int .u32) x3 (gt ((a0.set a1.toNat (gt a0 a3)).set a3.toNat (gt a0 a1)) a1) 0 h13 rfl p7 p8) ?_
    intro _ w16 h16
    replace h16:=nf h16
    refine ⟨⟨[_],h16⟩,?_⟩
    have e16:(((a0.set a1.toNat (gt a0 a3)).set a3.toNat (gt a0 a1)).set x3.toNat (gt ((a0.set a1.toNat (gt a0 a3)).set a3.toNat (gt a0 a1)) a1)).length=a0.length:=List.length_set.trans e9
    refine Zj 14 rfl (Zk e13 p5 p6) ?_
    refine Zq 15 rfl (Zr 0 (.int .u32) a1 (gt ((a0.set a1.toNat (gt a0 a3)).set a3.toNat (gt a0 a1)) x3) 0 h16 rfl p5 (by simpa only [List.length_set] using p6)) ?_
    intro _ w17 h17
    replace h17:=nf h17
    refine ⟨⟨[_],h17⟩,?_⟩
    have e17:((((a0.set a1.toNat (gt a0 a3)).set a3.toNat (gt a0 a1)).set x3.toNat (gt ((a0.set a1.toNat (gt a0 a3)).set a3.toNat (gt a0 a1)) a1)).set a1.toNat (gt ((a0.set a1.toNat (gt a0 a3)).set a3.toNat (gt a0 a1)) x3)).length=a0.length:=List.length_set.trans e16
    refine Zw [11] ?_
    exact Z2 ⟨(by simp only [List.length_set,List.length_nil] <;> rfl),((h17.only [0] rfl).rds [] rfl)⟩
  rintro env w18 ⟨rfl,h18⟩
  have e18:((((a0.set a1.toNat (gt a0 a3)).set a3.toNat (gt a0 a1)).set x3.toNat (gt ((a0.set a1.toNat (gt a0 a3)).set a3.toNat (gt a0 a1)) a1)).set a1.toNat (gt ((a0.set a1.toNat (gt a0 a3)).set a3.toNat (gt a0 a1)) x3)).length=a0.length:=by first | (simp only [List.length_set]; done) | (simp only [List.length_set]; exact e9)
  refine J.seq (Zc [8,9] ?_)
  refine J.ret ?_
  cases H
  exact ⟨_,_,_,Za,⟨rfl,rfl,e18⟩,Zb h18 [0]⟩
 refine J.skip (J.seq ?_)
 obtain ⟨⟨p9,p10⟩,H⟩:=Zt H
 obtain ⟨⟨p11,p12⟩,H⟩:=Zt H
 refine J.midS (fun env w=>env=[(0,.slice A1 ((((a0.set a1.toNat (gt a0 a3)).set a3.toNat (gt a0 a1)).set x1.toNat (gt ((a0.set a1.toNat (gt a0 a3)).set a3.toNat (gt a0 a1)) x3)).set x3.toNat (gt ((a0.set a1.toNat (gt a0 a3)).set a3.toNat (gt a0 a1)) x1)).length c_1),(1,.int .i64 a1),(10,.int .i64 x1),(11,.int .i64 x3)]∧St w0 F0 [O33 ((((a0.set a1.toNat (gt a0 a3)).set a3.toNat (gt a0 a1)).set x1.toNat (gt ((a0.set a1.toNat (gt a0 a3)).set a3.toNat (gt a0 a1)) x3)).set x3.toNat (gt ((a0.set a1.toNat (gt a0 a3)).set a3.toNat (gt a0 a1)) x1)) A1 c_1] [] w) ?_ ?_
 ·refine Zv (Zb h10 []) ?_
  have h21:=h10.drew
  refine Zu [0,1,2,3,4,5,8,9] ?_
  have e22:=Z6 h21.wh (gO 0) p9 p10
  refine Zj 6 rfl (Zk e22 p9 p10) ?_
  refine Zj 10 rfl (Zk e22 p11 p12) ?_
  refine HJ.pick [7,11] (i:=7) rfl rfl rfl rfl ?_
  refine (Yc ?_ (Yc ?_ Xa))
  ·refine Z5 7 rfl (OpT.ofq (Zl 0 h21.wht (gO 0) p9 p10)) ?_
   rintro _ _ ⟨rfl,rfl⟩
   replace h21:=nf h21
   refine ⟨⟨[_],h21⟩,?_⟩
   refine Zq 11 rfl (OpT.ofq (Zl 0 h21.wht (gO 0) p11 p12)) ?_
   rintro _ _ ⟨rfl,rfl⟩
   replace h21:=nf h21
   refine ⟨⟨[_],h21⟩,?_⟩
   refine Zj 12 rfl (Zk e22 p11 p12) ?_
   refine Zq 13 rfl (Zr 0 (.int .u32) x1 (gt ((a0.set a1.toNat (gt a0 a3)).set a3.toNat (gt a0 a1)) x3) 0 h21 rfl p11 p12) ?_
   intro _ w21 h22
   replace h22:=nf h22
   refine ⟨⟨[_],h22⟩,?_⟩
   have e23:(((a0.set a1.toNat (gt a0 a3)).set a3.toNat (gt a0 a1)).set x1.toNat (gt ((a0.set a1.toNat (gt a0 a3)).set a3.toNat (gt a0 a1)) x3)).length=a0.length:=List.length_set.trans e9
   refine Zj 14 rfl (Zk e22 p9 p10) ?_
   refine Zq 15 rfl (Zr 0 (.int .u32) x3 (gt ((a0.set a1.toNat (gt a0 a3)).set a3.toNat (gt a0 a1)) x1) 0 h22 rfl p9 (by simpa only [List.length_set] using p10)) ?_
   intro _ w22 h23
   replace h23:=nf h23
   refine ⟨⟨[_],h23⟩,?_⟩
   have e24:((((a0.set a1.toNat (gt a0 a3)).set a3.toNat (gt a0 a1)).set x1.toNat (gt ((a0.set a1.toNat (gt a0 a3)).set a3.toNat (gt a0 a1)) x3)).set x3.toNat (gt ((a0.set a1.toNat (gt a0 a3)).set a3.toNat (gt a0 a1)) x1)).length=a0.length:=List.length_set.trans e23
   refine Zw [0,1,10,11] ?_
   exact Z2 ⟨(by simp only [List.length_set,List.length_nil] <;> rfl),((h23.only [0] rfl).rds [] rfl)⟩
  ·refine Z5 11 rfl (OpT.ofq (Zl 0 h21.wht (gO 0) p11 p12)) ?_
   rintro _ _ ⟨rfl,rfl⟩
   replace h21:=nf h21
   refine ⟨⟨[_],h21⟩,?_⟩
   refine Zq 7 rfl (OpT.ofq (Zl 0 h21.wht (gO 0) p9 p10)) ?_
   rintro _ _ ⟨rfl,rfl⟩
   replace h21:=nf h21
   refine ⟨⟨[_],h21⟩,?_⟩
   refine Zj 12 rfl (Zk e22 p11 p12) ?_
   refine Zq 13 rfl (Zr 0 (.int .u32) x1 (gt ((a0.set a1.toNat (gt a0 a3)).set a3.toNat (gt a0 a1)) x3) 0 h21 rfl p11 p12) ?_
   intro _ w23 h24
   replace h24:=nf h24
   refine ⟨⟨[_],h24⟩,?_⟩
   have e25:(((a0.set a1.toNat (gt a0 a3)).set a3.toNat (gt a0 a1)).set x1.toNat (gt ((a0.set a1.toNat (gt a0 a3)).set a3.toNat (gt a0 a1)) x3)).length=a0.length:=List.length_set.trans e9
   refine Zj 14 rfl (Zk e22 p9 p10) ?_
   refine Zq 15 rfl (Zr 0 (.int .u32) x3 (gt ((a0.set a1.toNat (gt a0 a3)).set a3.toNat (gt a0 a1)) x1) 0 h24 rfl p9 (by simpa only [List.length_set] using p10)) ?_
   intro _ w24 h25
   replace h25:=nf h25
   refine ⟨⟨[_],h25⟩,?_⟩
   have e26:((((a0.set a1.toNat (gt a0 a3)).set a3.toNat (gt a0 a1)).set x1.toNat (gt ((a0.set a1.toNat (gt a0 a3)).set a3.toNat (gt a0 a1)) x3)).set x3.toNat (gt ((a0.set a1.toNat (gt a0 a3)).set a3.toNat (gt a0 a1)) x1)).length=a0.length:=List.length_set.trans e25
   refine Zw [0,1,10,11] ?_
   exact Z2 ⟨(by simp only [List.length_set,List.length_nil] <;> rfl),((h25.only [0] rfl).rds [] rfl)⟩
 rintro env w25 ⟨rfl,h26⟩
 have e27:((((a0.set a1.toNat (gt a0 a3)).set a3.toNat (gt a0 a1)).set x1.toNat (gt ((a0.set a1.toNat (gt a0 a3)).set a3.toNat (gt a0 a1)) x3)).set x3.toNat (gt ((a0.set a1.toNat (gt a0 a3)).set a3.toNat (gt a0 a1)) x1)).length=a0.length:=by first | (simp only [List.length_set]; done) | (simp only [List.length_set]; exact e9)
 refine J.seq (Zc [0,1,10,11] ?_)
 refine J.seq (Zc [0,1,10,11] ?_)
 refine J.seq (J.midS (fun env w=>∃(x5:List (Int)) (x6:Int) (x7:Int) (x8:Bool),env=[(0,.slice A1 x5.length c_1),(1,.int .i64 a1),(10,.int .i64 x6),(11,.int .i64 x7),(134,.bool x8)]∧St w0 F0 [O33 x5 A1 c_1] [] w∧(if 0≤a1∧a1<(x5.length:Int) then (if 0≤x7∧x7<(x5.length:Int) then (some (x7,false,((x5.set x7.toNat (gt x5 a1)).set a1.toNat (gt x5 x7)))) else none) else none)=some r∧x5.length=a0.length) ?_ ?_)
 ·refine J.block ?_
  have h63:=(sOR h26 [0] [])
  refine J.loop (fun kk env w=>∃(x9:List (Int)) (x10:Int) (x11:Int),env=[(0,.slice A1 x9.length c_1),(1,.int .i64 a1),(10,.int .i64 x10),(11,.int .i64 x11)]∧St w0 F0 [O33 x9 A1 c_1] [] w∧Q127.l0 kk a1 x9 x10 x11=some r∧kk≤k2∧x9.length=a0.length) (k:=k2) ⟨((((a0.set a1.toNat (gt a0 a3)).set a3.toNat (gt a0 a1)).set x1.toNat (gt ((a0.set a1.toNat (gt a0 a3)).set a3.toNat (gt a0 a1)) x3)).set x3.toNat (gt ((a0.set a1.toNat (gt a0 a3)).set a3.toNat (gt a0 a1)) x1)),(w64 (x1+1)),(w64 (x3 - 1)),rfl,h63,H,Nat.le_refl _,e27⟩ ?_
  rintro k4 env w35 ⟨x9,x10,x11,rfl,h36,H,hk4,e38⟩
  rcases k4 with _ | k4
  ·exact z0 H
  rw [Q127.l0] at H
  refine J.block (J.seq ?_)
  refine J.midS (fun env w=>∃(k5:Nat) (x12:Int) (x13:Bool),env=[(0,.slice A1 x9.length c_1),(1,.int .i64 a1),(10,.int .i64 x12),(11,.int .i64 x11),(112,.bool x13)]∧St w0 F0 [O33 x9 A1 c_1] [] w∧(Q127.l1 k5 a1 x9 x12 x11)=some r∧k5≤k4) ?_ ?_
  ·refine J.block ?_
   have h62:=(sOR h36 [0] [])
   refine J.loop (fun kk env w=>∃(x17:Int),env=[(0,.slice A1 x9.length c_1),(1,.int .i64 a1),(10,.int .i64 x17),(11,.int .i64 x11)]∧St w0 F0 [O33 x9 A1 c_1] [] w∧Q127.l2 kk a1 x9 x11 x17=some r∧kk≤k4) (k:=k4) ⟨x10,rfl,h62,H,Nat.le_refl _⟩ ?_
   rintro k8 env w49 ⟨x17,rfl,h56,H,hk8⟩
   rcases k8 with _ | k8
   ·exact z0 H
   rw [Q127.l2] at H
   refine J.seq (J.seq ?_)
   refine Zv h56 ?_
   have h57:=h56.drew
   refine Zu [0,1,2,3] ?_
   refine Yh 102 H (fun c5 H=>?_) fun c5 H=>?_
   ·refine Zu [4,5,8,9] ?_
    obtain ⟨⟨p25,p26⟩,H⟩:=Zt H
    have e49:=Z6 h57.wh (gO 0) p25 p26
    refine Zj 6 rfl (Zk e49 p25 p26) ?_
    refine Zj 7 rfl (Zl 0 wI (gO 0) p25 p26) ?_
    obtain ⟨⟨p27,p28⟩,H⟩:=Zt H
    refine Zj 10 rfl (Zk e49 p27 p28) ?_
    refine Zj 11 rfl (Zl 0 wI (gO 0) p27 p28) ?_
    obtain ⟨r2,q2,H⟩:=Zn H
    refine Zq 12 rfl (Zf [] (Q32.spec q2) h57 rfl Zs) ?_
    rintro _ w50 ⟨_,⟨rfl,rfl⟩,h58⟩
    replace h58:=nf h58
    refine ⟨⟨[],h58⟩,?_⟩
    refine Zu [13] ?_
    refine Zw [0,1,10,11,112] ?_
    refine jIf H (fun c6 H=>?_) fun c6 H=>?_
    ·refine J.skip (J.block (Zc [0,1,10,11] ?_))
     have h59:=(sOR h58 [0] [])
     exact ⟨k8,by omega,(w64 (x17+1)),rfl,h59,H,by omega⟩
    refine J.exit ?_
    have h60:=(sOR h58 [0] [])
    exact ⟨k8,x17,r2,rfl,h60,H,by omega⟩
   refine Zu [4,5,6,7,8,9,10,11,12,13] ?_
   refine Zw [0,1,10,11,112] ?_
   refine Zz ?_
   refine J.exit ?_
   have h61:=(sOR h57 [0] [])
   exact ⟨k8,x17,false,rfl,h61,H,by omega⟩
  rintro env w37 ⟨k5,x12,x13,rfl,h37,H,hk5⟩
  refine J.seq (J.midS (fun env w=>∃(k6:Nat) (x14:Int) (x15:Bool),env=[(0,.slice A1 x9.length c_1),(1,.int .i64 a1),(10,.int .i64 x12),(11,.int .i64 x14),(129,.bool x15)]∧St w0 F0 [O33 x9 A1 c_1] [] w∧(if (decide (x14<x12))=true then (if 0≤a1∧a1<(x9.length:Int) then (if 0≤x14∧x14<(x9.length:Int) then (some (x14,false,((x9.set x14.toNat (gt x9 a1)).set a1.toNat (gt x9 x14)))) else none) else none) else (if 0≤x14∧x14<(x9.length:Int) then (if 0≤x12∧x12<(x9.length:Int) then (Q127.l0 k6 a1 ((x9.set x12.toNat (gt x9 x14)).set x14.toNat (gt x9 x12)) (w64 (x12+1)) (w64 (x14 - 1))) else none) else none))=some r∧k6≤k5) ?_ ?_)
  ·refine J.block (Y7 [0,1,10,11] ?_)
   have h55:=(sOR h37 [0] [])
   refine J.loop (fun kk env w=>∃(x16:Int),env=[(0,.slice A1 x9.length c_1),(1,.int .i64 a1),(10,.int .i64 x12),(11,.int .i64 x16)]∧St w0 F0 [O33 x9 A1 c_1] [] w∧Q127.l1 kk a1 x9 x12 x16=some r∧kk≤k5) (k:=k5) ⟨x11,rfl,h55,H,Nat.le_refl _⟩ ?_
   rintro k7 env w47 ⟨x16,rfl,h49,H,hk7⟩
   rcases k7 with _ | k7
   ·exact z0 H
   rw [Q127.l1] at H
   refine J.seq (J.seq ?_)
   refine Zv h49 ?_
   have h50:=h49.drew
   refine Zu [0,1,2,3] ?_
   refine Yh 118 H (fun c3 H=>?_) fun c3 H=>?_
   ·refine Zu [4,5,8,9] ?_
    obtain ⟨⟨p21,p22⟩,H⟩:=Zt H
    have e48:=Z6 h50.wh (gO 0) p21 p22
    refine Zj 6 rfl (Zk e48 p21 p22) ?_
    refine Zj 7 rfl (Zl 0 wI (gO 0) p21 p22) ?_
    obtain ⟨⟨p23,p24⟩,H⟩:=Zt H
    refine Zj 10 rfl (Zk e48 p23 p24) ?_
    refine Zj 11 rfl (Zl 0 wI (gO 0) p23 p24) ?_
    obtain ⟨r1,q1,H⟩:=Zn H
    refine Zq 12 rfl (Zf [] (Q32.spec q1) h50 rfl Zs) ?_
    rintro _ w48 ⟨_,⟨rfl,rfl⟩,h51⟩
    replace h51:=nf h51
    refine ⟨⟨[],h51⟩,?_⟩
    refine Zu [13,14] ?_
    refine Zw [0,1,10,11,129] ?_
    refine jIf H (fun c4 H=>?_) fun c4 H=>?_
    ·refine J.skip (J.block (Zc [0,1,10,11] ?_))
     have h52:=(sOR h51 [0] [])
     exact ⟨k7,by omega,(w64 (x16 - 1)),rfl,h52,H,by omega⟩
    refine J.exit ?_
    have h53:=(sOR h51 [0] [])
    exact ⟨k7,x16,(!r1),rfl,h53,H,by omega⟩
   refine Zu [4,5,6,7,8,9,10,11,12,13,14] ?_
   refine Zw [0,1,10,11,129] ?_
   refine Zz ?_
   refine J.exit ?_
   have h54:=(sOR h50 [0] [])
   exact ⟨k7,x16,false,rfl,h54,H,by omega⟩
  rintro env w39 ⟨k6,x14,x15,rfl,h38,H,hk6⟩
  refine J.seq (J.seq (Zc [0,1,10,11,134] ?_))
  refine jIf H (fun c2 H=>?_) fun c2 H=>?_
  ·refine J.exit ?_
   have h39:=(sOR h38 [0] [])
   exact ⟨x9,x12,x14,(decide (x14<x12)),rfl,h39,H,e38⟩
  refine J.skip (J.seq ?_)
  obtain ⟨⟨p17,p18⟩,H⟩:=Zt H
  obtain ⟨⟨p19,p20⟩,H⟩:=Zt H
  refine J.midS (fun env w=>env=[(0,.slice A1 ((x9.set x12.toNat (gt x9 x14)).set x14.toNat (gt x9 x12)).length c_1),(1,.int .i64 a1),(10,.int .i64 x12),(11,.int .i64 x14)]∧St w0 F0 [O33 ((x9.set x12.toNat (gt x9 x14)).set x14.toNat (gt x9 x12)) A1 c_1] [] w) ?_ ?_
  ·refine Zv (Zb h38 []) ?_
   have h42:=h38.drew
   refine Zu [0,1,2,3,4,5,8,9] ?_
   have e42:=Z6 h42.wh (gO 0) p17 p18
   refine Zj 6 rfl (Zk e42 p17 p18) ?_
   refine Zj 10 rfl (Zk e42 p19 p20) ?_
   refine HJ.pick [7,11] (i:=7) rfl rfl rfl rfl ?_
   refine (Yc ?_ (Yc ?_ Xa))
   ·refine Z5 7 rfl (OpT.ofq (Zl 0 h42.wht (gO 0) p17 p18)) ?_
    rintro _ _ ⟨rfl,rfl⟩
    replace h42:=nf h42
    refine ⟨⟨[_],h42⟩,?_⟩
    refine Zq 11 rfl (OpT.ofq (Zl 0 h42.wht (gO 0) p19 p20)) ?_
    rintro _ _ ⟨rfl,rfl⟩
    replace h42:=nf h42
    refine ⟨⟨[_],h42⟩,?_⟩
    refine Zj 12 rfl (Zk e42 p19 p20) ?_
    refine Zq 13 rfl (Zr 0 (.int .u32) x12 (gt x9 x14) 0 h42 rfl p19 p20) ?_
    intro _ w42 h43
    replace h43:=nf h43
    refine ⟨⟨[_],h43⟩,?_⟩
    have e43:(x9.set x12.toNat (gt x9 x14)).length=a0.length:=List.length_set.trans e38
    refine Zj 14 rfl (Zk e42 p17 p18) ?_
    refine Zq 15 rfl (Zr 0 (.int .u32) x14 (gt x9 x12) 0 h43 rfl p17 (by simpa only [List.length_set] using p18)) ?_
    intro _ w43 h44
    replace h44:=nf h44
    refine ⟨⟨[_],h44⟩,?_⟩
    have e44:((x9.set x12.toNat (gt x9 x14)).set x14.toNat (gt x9 x12)).length=a0.length:=List.length_set.trans e43
    refine Zw [0,1,10,11] ?_
    exact Z2 ⟨(by simp only [List.length_set,List.length_nil] <;> rfl),((h44.only [0] rfl).rds [] rfl)⟩
   ·refine Z5 11 rfl (OpT.ofq (Zl 0 h42.wht (gO 0) p19 p20)) ?_
    rintro _ _ ⟨rfl,rfl⟩
    replace h42:=nf h42
    refine ⟨⟨[_],h42⟩,?_⟩
    refine Zq 7 rfl (OpT.ofq (Zl 0 h42.wht (gO 0) p17 p18)) ?_
    rintro _ _ ⟨rfl,rfl⟩
    replace h42:=nf h42
    refine ⟨⟨[_],h42⟩,?_⟩
    refine Zj 12 rfl (Zk e42 p19 p20) ?_
    refine Zq 13 rfl (Zr 0 (.int .u32) x12 (gt x9 x14) 0 h42 rfl p19 p20) ?_
    intro _ w44 h45
    replace h45:=nf h45
    refine ⟨⟨[_],h45⟩,?_⟩
    have e45:(x9.set x12.toNat (gt x9 x14)).length=a0.length:=List.length_set.trans e38
    refine Zj 14 rfl (Zk e42 p17 p18) ?_
    refine Zq 15 rfl (Zr 0 (.int .u32) x14 (gt x9 x12) 0 h45 rfl p17 (by simpa only [List.length_set] using p18)) ?_
    intro _ w45 h46
    replace h46:=nf h46
    refine ⟨⟨[_],h46⟩,?_⟩
    have e46:((x9.set x12.toNat (gt x9 x14)).set x14.toNat (gt x9 x12)).length=a0.length:=List.length_set.trans e45
    refine Zw [0,1,10,11] ?_
    exact Z2 ⟨(by simp only [List.length_set,List.length_nil] <;> rfl),((h46.only [0] rfl).rds [] rfl)⟩
  rintro env w46 ⟨rfl,h47⟩
  have e47:((x9.set x12.toNat (gt x9 x14)).set x14.toNat (gt x9 x12)).length=a0.length:=by first | (simp only [List.length_set]; done) | (simp only [List.length_set]; exact e38)
  refine J.seq (Zc [0,1,10,11] ?_)
  refine Zc [0,1,10,11] ?_
  have h48:=(sOR h47 [0] [])
  exact ⟨k6,by omega,((x9.set x12.toNat (gt x9 x14)).set x14.toNat (gt x9 x12)),(w64 (x12+1)),(w64 (x14 - 1)),rfl,h48,H,by omega,e47⟩
 rintro env w27 ⟨x5,x6,x7,x8,rfl,h27,H,e28⟩
 refine J.seq ?_
 obtain ⟨⟨p13,p14⟩,H⟩:=Zt H
 obtain ⟨⟨p15,p16⟩,H⟩:=Zt H
 refine J.midS (fun env w=>env=[(11,.int .i64 x7)]∧St w0 F0 [O33 ((x5.set x7.toNat (gt x5 a1)).set a1.toNat (gt x5 x7)) A1 c_1] [] w) ?_ ?_
 ·refine Zv (Zb h27 []) ?_
  have h30:=h27.drew
  refine Zu [0,1,2,3,4,5,8,9] ?_
  have e32:=Z6 h30.wh (gO 0) p13 p14
  refine Zj 6 rfl (Zk e32 p13 p14) ?_
  refine Zj 10 rfl (Zk e32 p15 p16) ?_
  refine HJ.pick [7,11] (i:=7) rfl rfl rfl rfl ?_
  refine (Yc ?_ (Yc ?_ Xa))
  ·refine Z5 7 rfl (OpT.ofq (Zl 0 h30.wht (gO 0) p13 p14)) ?_
   rintro _ _ ⟨rfl,rfl⟩
   replace h30:=nf h30
   refine ⟨⟨[_],h30⟩,?_⟩
   refine Zq 11 rfl (OpT.ofq (Zl 0 h30.wht (gO 0) p15 p16)) ?_
   rintro _ _ ⟨rfl,rfl⟩
   replace h30:=nf h30
   refine ⟨⟨[_],h30⟩,?_⟩
   refine Zj 12 rfl (Zk e32 p15 p16) ?_
   refine Zq 13 rfl (Zr 0 (.int .u32) x7 (gt x5 a1) 0 h30 rfl p15 p16) ?_
   intro _ w30 h31
   replace h31:=nf h31
   refine ⟨⟨[_],h31⟩,?_⟩
   have e33:(x5.set x7.toNat (gt x5 a1)).length=a0.length:=List.length_set.trans e28
   refine Zj 14 rfl (Zk e32 p13 p14) ?_
   refine Zq 15 rfl (Zr 0 (.int .u32) a1 (gt x5 x7) 0 h31 rfl p13 (by simpa only [List.length_set] using p14)) ?_
   intro _ w31 h32
   replace h32:=nf h32
   refine ⟨⟨[_],h32⟩,?_⟩
   have e34:((x5.set x7.toNat (gt x5 a1)).set a1.toNat (gt x5 x7)).length=a0.length:=List.length_set.trans e33
   refine Zw [11] ?_
   exact Z2 ⟨(by simp only [List.length_set,List.length_nil] <;> rfl),((h32.only [0] rfl).rds [] rfl)⟩
  ·refine Z5 11 rfl (OpT.ofq (Zl 0 h30.wht (gO 0) p15 p16)) ?_
   rintro _ _ ⟨rfl,rfl⟩
   replace h30:=nf h30
   refine ⟨⟨[_],h30⟩,?_⟩
   refine Zq 7 rfl (OpT.ofq (Zl 0 h30.wht (gO 0) p13 p14)) ?_
   rintro _ _ ⟨rfl,rfl⟩
   replace h30:=nf h30
   refine ⟨⟨[_],h30⟩,?_⟩
   refine Zj 12 rfl (Zk e32 p15 p16) ?_
   refine Zq 13 rfl (Zr 0 (.int .u32) x7 (gt x5 a1) 0 h30 rfl p15 p16) ?_
   intro _ w32 h33
   replace h33:=nf h33
   refine ⟨⟨[_],h33⟩,?_⟩
   have e35:(x5.set x7.toNat (gt x5 a1)).length=a0.length:=List.length_set.trans e28
   refine Zj 14 rfl (Zk e32 p13 p14) ?_
   refine Zq 15 rfl (Zr 0 (.int .u32) a1 (gt x5 x7) 0 h33 rfl p13 (by simpa only [List.length_set] using p14)) ?_
   intro _ w33 h34
   replace h34:=nf h34
   refine ⟨⟨[_],h34⟩,?_⟩
   have e36:((x5.set x7.toNat (gt x5 a1)).set a1.toNat (gt x5 x7)).length=a0.length:=List.length_set.trans e35
   refine Zw [11] ?_
   exact Z2 ⟨(by simp only [List.length_set,List.length_nil] <;> rfl),((h34.only [0] rfl).rds [] rfl)⟩
 rintro env w34 ⟨rfl,h35⟩
 have e37:((x5.set x7.toNat (gt x5 a1)).set a1.toNat (gt x5 x7)).length=a0.length:=by first | (simp only [List.length_set]; done) | (simp only [List.length_set]; exact e28)
 refine J.seq (Zc [8,9] ?_)
 refine J.ret ?_
 cases H
 exact ⟨_,_,_,Za,⟨rfl,rfl,e37⟩,Zb h35 [0]⟩

def Q123.f (a0:Int):Option (Int):=(Q0.f (IntKind.u64.wrap (a0))).bind fun r1=>(if 0≤r1 then (some (IntKind.u64.wrap ((1:Int)*2 ^ (min r1.toNat 64)))) else none)
theorem Q123.spec {a0:Int}  {r:Int} (H:Q123.f a0=some r) :
  Spec Tryz.prog 248 [.int .i64 a0] [] [] (fun v l=>v=.int .u64 r∧l=[]):=by
 refine Zp Tryz.func248 fun w0 F0 h0=>?_
 unfold Q123.f at H
 refine J.seq (Zc [0] ?_)
 refine J.seq (J.region ?_)
 refine Zh 2 ?_
 obtain ⟨r1,q1,H⟩:=Zn H
 refine Ze (Zf [] (Q0.spec q1) h0 rfl Zs) ?_
 rintro _ w1 ⟨_,⟨rfl,rfl⟩,h1⟩
 replace h1:=nf h1
 obtain ⟨p1,H⟩:=Zt H
 refine Zg (Vb p1) ?_
 refine Zi [2] rfl ?_
 refine J.ret ?_
 cases H
 exact ⟨_,_,_,Za,⟨rfl,rfl⟩,Zb h1 []⟩

def Q131.f (a0:Int):Option (Int×Int):=some ((IntKind.u64.wrap (((BitVec.ofInt IntKind.u64.bits (IntKind.u64.wrap (((BitVec.ofInt IntKind.u64.bits (IntKind.u64.wrap (((BitVec.ofInt IntKind.u64.bits a0 ^^^ (BitVec.ofInt IntKind.u64.bits (IntKind.u64.wrap (a0*2 ^ 13)))).toNat:Int))) ^^^ (BitVec.ofInt IntKind.u64.bits (Int.fdiv (IntKind.u64.wrap (((BitVec.ofInt IntKind.u64.bits a0 ^^^ (BitVec.ofInt IntKind.u64.bits (IntKind.u64.wrap (a0*2 ^ 13)))).toNat:Int))) (2 ^ 7)))).toNat:Int))) ^^^ (BitVec.ofInt IntKind.u64.bits (IntKind.u64.wrap ((IntKind.u64.wrap (((BitVec.ofInt IntKind.u64.bits (IntKind.u64.wrap (((BitVec.ofInt IntKind.u64.bits a0 ^^^ (BitVec.ofInt IntKind.u64.bits (IntKind.u64.wrap (a0*2 ^ 13)))).toNat:Int))) ^^^ (BitVec.ofInt IntKind.u64.bits (Int.fdiv (IntKind.u64.wrap (((BitVec.ofInt IntKind.u64.bits a0 ^^^ (BitVec.ofInt IntKind.u64.bits (IntKind.u64.wrap (a0*2 ^ 13)))).toNat:Int))) (2 ^ 7)))).toNat:Int)))*2 ^ 17)))).toNat:Int))),(IntKind.u64.wrap (((BitVec.ofInt IntKind.u64.bits (IntKind.u64.wrap (((BitVec.ofInt IntKind.u64.bits (IntKind.u64.wrap (((BitVec.ofInt IntKind.u64.bits a0 ^^^ (BitVec.ofInt IntKind.u64.bits (IntKind.u64.wrap (a0*2 ^ 13)))).toNat:Int))) ^^^ (BitVec.ofInt IntKind.u64.bits (Int.fdiv (IntKind.u64.wrap (((BitVec.ofInt IntKind.u64.bits a0 ^^^ (BitVec.ofInt IntKind.u64.bits (IntKind.u64.wrap (a0*2 ^ 13)))).toNat:Int))) (2 ^ 7)))).toNat:Int))) ^^^ (BitVec.ofInt IntKind.u64.bits (IntKind.u64.wrap ((IntKind.u64.wrap (((BitVec.ofInt IntKind.u64.bits (IntKind.u64.wrap (((BitVec.ofInt IntKind.u64.bits a0 ^^^ (BitVec.ofInt IntKind.u64.bits (IntKind.u64.wrap (a0*2 ^ 13)))).toNat:Int))) ^^^ (BitVec.ofInt IntKind.u64.bits (Int.fdiv (IntKind.u64.wrap (((BitVec.ofInt IntKind.u64.bits a0 ^^^ (BitVec.ofInt IntKind.u64.bits (IntKind.u64.wrap (a0*2 ^ 13)))).toNat:Int))) (2 ^ 7)))).toNat:Int)))*2 ^ 17)))).toNat:Int))))
theorem Q131.spec {a0:Int} {b1:Nat} {r:Int×Int} (H:Q131.f a0=some r) :
  Spec Tryz.prog 249 [.pointer (some ⟨b1,0,none⟩)] [Ua b1 a0] [] (fun v l=>v=.int .u64 r.1∧l=[Ua b1 r.2]):=by
 refine Zp Tryz.func249 fun w0 F0 h0=>?_
 unfold Q131.f at H
 refine J.seq (Zc [0] ?_)
 refine J.seq (J.midS (fun env w=>env=[(0,.pointer (some ⟨b1,0,none⟩))]∧St w0 F0 [Ua b1 (IntKind.u64.wrap (((BitVec.ofInt IntKind.u64.bits a0 ^^^ (BitVec.ofInt IntKind.u64.bits (IntKind.u64.wrap (a0*2 ^ 13)))).toNat:Int)))] [] w) ?_ ?_)
 ·refine Zv (Zb h0 []) ?_
  have h2:=h0.drew
  refine Zu [0,1,3,4] ?_
  refine HJ.pick [2,5] (i:=2) rfl rfl rfl rfl ?_
  refine (Yc ?_ (Yc ?_ Xa))
  ·refine Z5 2 rfl (OpT.ofq (Zd 0 h2.wht)) ?_
   rintro _ _ ⟨rfl,rfl⟩
   replace h2:=nf h2
   refine ⟨⟨[_],h2⟩,?_⟩
   refine Zq 5 rfl (OpT.ofq (Zd 0 h2.wht)) ?_
   rintro _ _ ⟨rfl,rfl⟩
   replace h2:=nf h2
   refine ⟨⟨[_],h2⟩,?_⟩
   refine Zu [6,7,8] ?_
   refine Zq 9 rfl (Z3 0 h2) ?_
   intro _ w6 h3
   replace h3:=nf h3
   refine ⟨⟨[_],h3⟩,?_⟩
   refine Zw [0] ?_
   exact Z2 ⟨rfl,(sOR h3 [0] [])⟩
  ·refine Z5 5 rfl (OpT.ofq (Zd 0 h2.wht)) ?_
   rintro _ _ ⟨rfl,rfl⟩
   replace h2:=nf h2
   refine ⟨⟨[_],h2⟩,?_⟩
   refine Zu [6] ?_
   refine Zq 2 rfl (OpT.ofq (Zd 0 h2.wht)) ?_
   rintro _ _ ⟨rfl,rfl⟩
   replace h2:=nf h2
   refine ⟨⟨[_],h2⟩,?_⟩
   refine Zu [7,8] ?_
   refine Zq 9 rfl (Z3 0 h2) ?_
   intro _ w9 h4
   replace h4:=nf h4
   refine ⟨⟨[_],h4⟩,?_⟩
   refine Zw [0] ?_
   exact Z2 ⟨rfl,(sOR h4 [0] [])⟩
 rintro env w10 ⟨rfl,h5⟩
 refine J.seq (J.midS (fun env w=>env=[(0,.pointer (some ⟨b1,0,none⟩))]∧St w0 F0 [Ua b1 (IntKind.u64.wrap (((BitVec.ofInt IntKind.u64.bits (IntKind.u64.wrap (((BitVec.ofInt IntKind.u64.bits a0 ^^^ (BitVec.ofInt IntKind.u64.bits (IntKind.u64.wrap (a0*2 ^ 13)))).toNat:Int))) ^^^ (BitVec.ofInt IntKind.u64.bits (Int.fdiv (IntKind.u64.wrap (((BitVec.ofInt IntKind.u64.bits a0 ^^^ (BitVec.ofInt IntKind.u64.bits (IntKind.u64.wrap (a0*2 ^ 13)))).toNat:Int))) (2 ^ 7)))).toNat:Int)))] [] w) ?_ ?_)
 ·refine Zv (Zb h5 []) ?_
  have h7:=h5.drew
  refine Zu [0,1,3,4] ?_
  refine HJ.pick [2,5] (i:=2) rfl rfl rfl rfl ?_
  refine (Yc ?_ (Yc ?_ Xa))
  ·refine Z5 2 rfl (OpT.ofq (Zd 0 h7.wht)) ?_
   rintro _ _ ⟨rfl,rfl⟩
   replace h7:=nf h7
   refine ⟨⟨[_],h7⟩,?_⟩
   refine Zq 5 rfl (OpT.ofq (Zd 0 h7.wht)) ?_
   rintro _ _ ⟨rfl,rfl⟩
   replace h7:=nf h7
   refine ⟨⟨[_],h7⟩,?_⟩
   refine Zu [6,7,8] ?_
   refine Zq 9 rfl (Z3 0 h7) ?_
   intro _ w16 h8
   replace h8:=nf h8
   refine ⟨⟨[_],h8⟩,?_⟩
   refine Zw [0] ?_
   exact Z2 ⟨rfl,(sOR h8 [0] [])⟩
  ·refine Z5 5 rfl (OpT.ofq (Zd 0 h7.wht)) ?_
   rintro _ _ ⟨rfl,rfl⟩
   replace h7:=nf h7
   refine ⟨⟨[_],h7⟩,?_⟩
   refine Zu [6] ?_
   refine Zq 2 rfl (OpT.ofq (Zd 0 h7.wht)) ?_
   rintro _ _ ⟨rfl,rfl⟩
   replace h7:=nf h7
   refine ⟨⟨[_],h7⟩,?_⟩
   refine Zu [7,8] ?_
   refine Zq 9 rfl (Z3 0 h7) ?_
   intro _ w19 h9
   replace h9:=nf h9
   refine ⟨⟨[_],h9⟩,?_⟩
   refine Zw [0] ?_
   exact Z2 ⟨rfl,(sOR h9 [0] [])⟩
 rintro env w20 ⟨rfl,h10⟩
 refine J.seq (J.midS (fun env w=>env=[(0,.pointer (some ⟨b1,0,none⟩))]∧St w0 F0 [Ua b1 (IntKind.u64.wrap (((BitVec.ofInt IntKind.u64.bits (IntKind.u64.wrap (((BitVec.ofInt IntKind.u64.bits (IntKind.u64.wrap (((BitVec.ofInt IntKind.u64.bits a0 ^^^ (BitVec.ofInt IntKind.u64.bits (IntKind.u64.wrap (a0*2 ^ 13)))).toNat:Int))) ^^^ (BitVec.ofInt IntKind.u64.bits (Int.fdiv (IntKind.u64.wrap (((BitVec.ofInt IntKind.u64.bits a0 ^^^ (BitVec.ofInt IntKind.u64.bits (IntKind.u64.wrap (a0*2 ^ 13)))).toNat:Int))) (2 ^ 7)))).toNat:Int))) ^^^ (BitVec.ofInt IntKind.u64.bits (IntKind.u64.wrap ((IntKind.u64.wrap (((BitVec.ofInt IntKind.u64.bits (IntKind.u64.wrap (((BitVec.ofInt IntKind.u64.bits a0 ^^^ (BitVec.ofInt IntKind.u64.bits (IntKind.u64.wrap (a0*2 ^ 13)))).toNat:Int))) ^^^ (BitVec.ofInt IntKind.u64.bits (Int.fdiv (IntKind.u64.wrap (((BitVec.ofInt IntKind.u64.bits a0 ^^^ (BitVec.ofInt IntKind.u64.bits (IntKind.u64.wrap (a0*2 ^ 13)))).toNat:Int))) (2 ^ 7)))).toNat:Int)))*2 ^ 17)))).toNat:Int)))] [] w) ?_ ?_)
 ·refine Zv (Zb h10 []) ?_
  have h12:=h10.drew
  refine Zu [0,1,3,4] ?_
  refine HJ.pick [2,5] (i:=2) rfl rfl rfl rfl ?_
  refine (Yc ?_ (Yc ?_ Xa))
  ·refine Z5 2 rfl (OpT.ofq (Zd 0 h12.wht)) ?_
   rintro _ _ ⟨rfl,rfl⟩
   replace h12:=nf h12
   refine ⟨⟨[_],h12⟩,?_⟩
   refine Zq 5 rfl (OpT.ofq (Zd 0 h12.wht)) ?_
   rintro _ _ ⟨rfl,rfl⟩
   replace h12:=nf h12
   refine ⟨⟨[_],h12⟩,?_⟩
   refine Zu [6,7,8] ?_
   refine Zq 9 rfl (Z3 0 h12) ?_
   intro _ w26 h13
   replace h13:=nf h13
   refine ⟨⟨[_],h13⟩,?_⟩
   refine Zw [0] ?_
   exact Z2 ⟨rfl,(sOR h13 [0] [])⟩
  ·refine Z5 5 rfl (OpT.ofq (Zd 0 h12.wht)) ?_
   rintro _ _ ⟨rfl,rfl⟩
   replace h12:=nf h12
   refine ⟨⟨[_],h12⟩,?_⟩
   refine Zu [6] ?_
   refine Zq 2 rfl (OpT.ofq (Zd 0 h12.wht)) ?_
   rintro _ _ ⟨rfl,rfl⟩
   replace h12:=nf h12
   refine ⟨⟨[_],h12⟩,?_⟩
   refine Zu [7,8] ?_
   refine Zq 9 rfl (Z3 0 h12) ?_
   intro _ w29 h14
   replace h14:=nf h14
   refine ⟨⟨[_],h14⟩,?_⟩
   refine Zw [0] ?_
   exact Z2 ⟨rfl,(sOR h14 [0] [])⟩
 rintro env w30 ⟨rfl,h15⟩
 refine J.seq (J.region ?_)
 refine Zh 2 ?_
 refine Zg (Zd 0 h15.wht) ?_
 refine Zi [2] rfl ?_
 refine J.ret ?_
 cases H
 exact ⟨_,_,_,Za,⟨rfl,rfl⟩,Zb h15 [0]⟩

def Q117.l0:Nat→(Int)→(Int)→(Int)→(List (Int))→(Int)→(Int)→Option (List (Int))
 | 0,_,_,_,_,_,_=>none
 | k+1,a1,a2,r1,x1,x2,x3=>if (decide (x3≤(w64 ((w64 (a1+(w64 ((w64 (Int.tdiv (w64 (a2 - a1)) 4))*2))))+1))))=true then ((Q131.f x2).bind fun r2=>(if (decide ((w64 (a2 - a1))≤(w64 ((IntKind.u64.wrap (((BitVec.ofInt IntKind.u64.bits r2.1 &&& (BitVec.ofInt IntKind.u64.bits (IntKind.u64.wrap (r1 - 1)))).toNat:Int)))))))=true then (if 0≤(w64 (a1+(w64 ((w64 ((IntKind.u64.wrap (((BitVec.ofInt IntKind.u64.bits r2.1 &&& (BitVec.ofInt IntKind.u64.bits (IntKind.u64.wrap (r1 - 1)))).toNat:Int))))) - (w64 (a2 - a1))))))∧(w64 (a1+(w64 ((w64 ((IntKind.u64.wrap (((BitVec.ofInt IntKind.u64.bits r2.1 &&& (BitVec.ofInt IntKind.u64.bits (IntKind.u64.wrap (r1 - 1)))).toNat:Int))))) - (w64 (a2 - a1))))))<(x1.length:Int) then (if 0≤x3∧x3<(x1.length:Int) then (Q117.l0 k a1 a2 r1 ((x1.set x3.toNat (gt x1 (w64 (a1+(w64 ((w64 ((IntKind.u64.wrap (((BitVec.ofInt IntKind.u64.bits r2.1 &&& (BitVec.ofInt IntKind.u64.bits (IntKind.u64.wrap (r1 - 1)))).toNat:Int))))) - (w64 (a2 - a1)))))))).set (w64 (a1+(w64 ((w64 ((IntKind.u64.wrap (((BitVec.ofInt IntKind.u64.bits r2.1 &&& (BitVec.ofInt IntKind.u64.bits (IntKind.u64.wrap (r1 - 1)))).toNat:Int))))) - (w64 (a2 - a1)))))).toNat (gt x1 x3)) r2.2 (w64 (x3+1))) else none) else none) else (if 0≤(w64 (a1+(w64 ((IntKind.u64.wrap (((BitVec.ofInt IntKind.u64.bits r2.1 &&& (BitVec.ofInt IntKind.u64.bits (IntKind.u64.wrap (r1 - 1)))).toNat:Int)))))))∧(w64 (a1+(w64 ((IntKind.u64.wrap (((BitVec.ofInt IntKind.u64.bits r2.1 &&& (BitVec.ofInt IntKind.u64.bits (IntKind.u64.wrap (r1 - 1)))).toNat:Int)))))))<(x1.length:Int) then (if 0≤x3∧x3<(x1.length:Int) then (Q117.l0 k a1 a2 r1 ((x1.set x3.toNat (gt x1 (w64 (a1+(w64 ((IntKind.u64.wrap (((BitVec.ofInt IntKind.u64.bits r2.1 &&& (BitVec.ofInt IntKind.u64.bits (IntKind.u64.wrap (r1 - 1)))).toNat:Int))))))))).set (w64 (a1+(w64 ((IntKind.u64.wrap (((BitVec.ofInt IntKind.u64.bits r2.1 &&& (BitVec.ofInt IntKind.u64.bits (IntKind.u64.wrap (r1 - 1)))).toNat:Int))))))).toNat (gt x1 x3)) r2.2 (w64 (x3+1))) else none) else none))) else (some x1)
def Q117.f (k:Nat) (a0:List (Int)) (a1:Int) (a2:Int):Option (List (Int)):=if (decide (8≤(w64 (a2 - a1))))=true then ((Q123.f (w64 (a2 - a1))).bind fun r1=>(Q117.l0 k a1 a2 r1 a0 (IntKind.u64.wrap ((w64 (a2 - a1)))) (w64 ((w64 (a1+(w64 ((w64 (Int.tdiv (w64 (a2 - a1)) 4))*2)))) - 1)))) else (some a0)
theorem Q117.spec {k:Nat} {a0:List (Int)} {a1:Int} {a2:Int} {A1:Option Addr} {c_1:Nat} {r:List (Int)} (H:Q117.f k a0 a1 a2=some r) :
  Spec Tryz.prog 236 [.slice A1 a0.length c_1,.int .i64 a1,.int .i64 a2] [O33 a0 A1 c_1] [] (fun v l=>v=.tuple #[]∧l=[O33 r A1 c_1]∧r.length=a0.length):=by
 refine Zp Tryz.func236 fun w0 F0 h0=>?_
 unfold Q117.f at H
 refine J.seq (Zc [0,1,6] ?_)
 refine J.seq (Zc [0,1,6,15] ?_)
 refine jIf H (fun c1 H=>?_) fun c1 H=>?_
 ·refine J.seq (J.region ?_)
  refine Zh 2 ?_
  refine Ze (Yq h0) ?_
  rintro _ w1 ⟨b1,rfl,h1⟩
  replace h1:=nf h1
  refine Ze (Z3 0 h1) ?_
  intro _ w2 h2
  replace h2:=nf h2
  refine Zi [0,1,6,7] rfl ?_
  refine J.seq (J.region ?_)
  refine Zh 1 ?_
  obtain ⟨r1,q1,H⟩:=Zn H
  refine Ze (Zf [] (Q123.spec q1) h2 rfl Zs) ?_
  rintro _ w3 ⟨_,⟨rfl,rfl⟩,h3⟩
  replace h3:=nf h3
  refine Zi [0,1,6,7,8] rfl ?_
  refine J.seq (Zc [0,1,6,7,8,9] ?_)
  refine J.block ?_
  have h18:=(sOR h3 [0,0] [])
  refine J.loop (fun kk env w=>∃(x1:List (Int)) (x2:Int) (x3:Int),env=[(0,.slice A1 x1.length c_1),(1,.int .i64 a1),(6,.int .i64 (w64 (a2 - a1))),(7,.pointer (some ⟨b1,0,none⟩)),(8,.int .u64 r1),(9,.int .i64 x3)]∧St w0 F0 [Ua b1 x2,O33 x1 A1 c_1] [] w∧Q117.l0 kk a1 a2 r1 x1 x2 x3=some r∧x1.length=a0.length) (k:=k) ⟨a0,(IntKind.u64.wrap ((w64 (a2 - a1)))),(w64 ((w64 (a1+(w64 ((w64 (Int.tdiv (w64 (a2 - a1)) 4))*2)))) - 1)),rfl,h18,H,(rfl:a0.length=a0.length)⟩ ?_
  rintro k1 env w4 ⟨x1,x2,x3,rfl,h4,H,e1⟩
  rcases k1 with _ | k1
  ·exact z0 H
  rw [Q117.l0] at H
  refine J.seq (J.seq (Zc [0,1,6,7,8,9,33] ?_))
  refine jIf H (fun c2 H=>?_) fun c2 H=>?_
  ·refine J.skip (J.seq (J.block (J.seq (J.region ?_))))
   obtain ⟨r2,q2,H⟩:=Zn H
   refine Ze (Zf [0] (Q131.spec q2) h4 rfl Zs) ?_
   rintro _ w5 ⟨_,⟨rfl,rfl⟩,h5⟩
   replace h5:=nf h5
   refine Zi [0,1,6,7,8,9,10] rfl ?_
   refine J.seq (J.seq (Zc [0,1,6,7,8,9,10,43] ?_))
   refine J.midS (fun env w=>∃(k2:Nat) (x4:Int),env=[(0,.slice A1 x1.length c_1),(1,.int .i64 a1),(6,.int .i64 (w64 (a2 - a1))),(7,.pointer (some ⟨b1,0,none⟩)),(8,.int .u64 r1),(9,.int .i64 x3),(10,.int .i64 x4)]∧St w0 F0 [Ua b1 r2.2,O33 x1 A1 c_1] [] w∧(if 0≤(w64 (a1+x4))∧(w64 (a1+x4))<(x1.length:Int) then (if 0≤x3∧x3<(x1.length:Int) then (Q117.l0 k2 a1 a2 r1 ((x1.set x3.toNat (gt x1 (w64 (a1+x4)))).set (w64 (a1+x4)).toNat (gt x1 x3)) r2.2 (w64 (x3+1))) else none) else none)=some r∧k2≤k1) ?_ ?_
   ·refine jIf H (fun c3 H=>?_) fun c3 H=>?_
    ·refine Zc [0,1,6,7,8,9,10] ?_
     have h16:=(sOR h5 [0,0] [])
     exact ⟨k1,(w64 ((w64 ((IntKind.u64.wrap (((BitVec.ofInt IntKind.u64.bits r2.1 &&& (BitVec.ofInt IntKind.u64.bits (IntKind.u64.wrap (r1 - 1)))).toNat:Int))))) - (w64 (a2 - a1)))),rfl,h16,H,Nat.le_refl _⟩
    refine Y7 [0,1,6,7,8,9,10] ?_
    refine J.skip ?_
    have h17:=(sOR h5 [0,0] [])
    exact ⟨k1,(w64 ((IntKind.u64.wrap (((BitVec.ofInt IntKind.u64.bits r2.1 &&& (BitVec.ofInt IntKind.u64.bits (IntKind.u64.wrap (r1 - 1)))).toNat:Int))))),rfl,h17,H,Nat.le_refl _⟩
   rintro env w7 ⟨k2,x4,rfl,h6,H,hk2⟩
   obtain ⟨⟨p1,p2⟩,H⟩:=Zt H
   obtain ⟨⟨p3,p4⟩,H⟩:=Zt H
   refine J.mid (fun env w=>env=[(0,.slice A1 ((x1.set x3.toNat (gt x1 (w64 (a1+x4)))).set (w64 (a1+x4)).toNat (gt x1 x3)).length c_1),(1,.int .i64 a1),(6,.int .i64 (w64 (a2 - a1))),(7,.pointer (some ⟨b1,0,none⟩)),(8,.int .u64 r1),(9,.int .i64 x3)]∧St w0 F0 [O33 ((x1.set x3.toNat (gt x1 (w64 (a1+x4)))).set (w64 (a1+x4)).toNat (gt x1 x3)) A1 c_1,Ua b1 r2.2] [] w) ?_ ?_
   ·refine Zv (Zb h6 [0]) ?_
    have h9:=h6.drew
    refine Zu [0,1,2,3,4,5,6,7,8,9,12,13] ?_
    have e5:=Z6 h9.wh (gO 1) p1 p2
    refine Zj 10 rfl (Zk e5 p1 p2) ?_
    refine Zj 14 rfl (Zk e5 p3 p4) ?_
    refine HJ.pick [11,15] (i:=11) rfl rfl rfl rfl ?_
    refine (Yc ?_ (Yc ?_ Xa))
    ·refine Z5 11 rfl (OpT.ofq (Zl 0 h9.wht (gO 1) p1 p2)) ?_
     rintro _ _ ⟨rfl,rfl⟩
     replace h9:=nf h9
     refine ⟨⟨[_],(Zb h9 [1,0])⟩,?_⟩
     refine Zq 15 rfl (OpT.ofq (Zl 0 h9.wht (gO 1) p3 p4)) ?_
     rintro _ _ ⟨rfl,rfl⟩
     replace h9:=nf h9
     refine ⟨⟨[_],(Zb h9 [1,0])⟩,?_⟩
     refine Zj 16 rfl (Zk e5 p3 p4) ?_
     refine Zq 17 rfl (Zr 0 (.int .u32) x3 (gt x1 (w64 (a1+x4))) 1 h9 rfl p3 p4) ?_
     intro _ w10 h10
     replace h10:=nf h10
     refine ⟨⟨[_],h10⟩,?_⟩
     have e6:(x1.set x3.toNat (gt x1 (w64 (a1+x4)))).length=a0.length:=List.length_set.trans e1
     refine Zj 18 rfl (Zk e5 p1 p2) ?_
     refine Zq 19 rfl (Zr 0 (.int .u32) (w64 (a1+x4)) (gt x1 x3) 0 h10 rfl p1 (by simpa only [List.length_set] using p2)) ?_
     intro _ w11 h11
     replace h11:=nf h11
     refine ⟨⟨[_],h11⟩,?_⟩
     have e7:((x1.set x3.toNat (gt x1 (w64 (a1+x4)))).set (w64 (a1+x4)).toNat (gt x1 x3)).length=a0.length:=List.length_set.trans e6
     refine Zw [0,1,6,7,8,9] ?_
     exact Z2 ⟨(by simp only [List.length_set,List.length_nil] <;> rfl),((h11.only [0,0] rfl).rds [] rfl)⟩
    ·refine Z5 15 rfl (OpT.ofq (Zl 0 h9.wht (gO 1) p3 p4)) ?_
     rintro _ _ ⟨rfl,rfl⟩
     replace h9:=nf h9
     refine ⟨⟨[_],(Zb h9 [1,0])⟩,?_⟩
     refine Zq 11 rfl (OpT.ofq (Zl 0 h9.wht (gO 1) p1 p2)) ?_
     rintro _ _ ⟨rfl,rfl⟩
     replace h9:=nf h9
     refine ⟨⟨[_],(Zb h9 [1,0])⟩,?_⟩
     refine Zj 16 rfl (Zk e5 p3 p4) ?_
     refine Zq 17 rfl (Zr 0 (.int .u32) x3 (gt x1 (w64 (a1+x4))) 1 h9 rfl p3 p4) ?_
     intro _ w12 h12
     replace h12:=nf h12
     refine ⟨⟨[_],h12⟩,?_⟩
     have e8:(x1.set x3.toNat (gt x1 (w64 (a1+x4)))).length=a0.length:=List.length_set.trans e1
     refine Zj 18 rfl (Zk e5 p1 p2) ?_
     refine Zq 19 rfl (Zr 0 (.int .u32) (w64 (a1+x4)) (gt x1 x3) 0 h12 rfl p1 (by simpa only [List.length_set] using p2)) ?_
     intro _ w13 h13
     replace h13:=nf h13
     refine ⟨⟨[_],h13⟩,?_⟩
     have e9:((x1.set x3.toNat (gt x1 (w64 (a1+x4)))).set (w64 (a1+x4)).toNat (gt x1 x3)).length=a0.length:=List.length_set.trans e8
     refine Zw [0,1,6,7,8,9] ?_
     exact Z2 ⟨(by simp only [List.length_set,List.length_nil] <;> rfl),((h13.only [0,0] rfl).rds [] rfl)⟩
   rintro env w14 ⟨rfl,h14⟩
   have e10:((x1.set x3.toNat (gt x1 (w64 (a1+x4)))).set (w64 (a1+x4)).toNat (gt x1 x3)).length=a0.length:=by first | (simp only [List.length_set]; done) | (simp only [List.length_set]; exact e1)
   refine Zc [0,1,6,7,8,9] ?_
   have h15:=(sOR h14 [1,0] [])
   exact ⟨k2,by omega,((x1.set x3.toNat (gt x1 (w64 (a1+x4)))).set (w64 (a1+x4)).toNat (gt x1 x3)),r2.2,(w64 (x3+1)),rfl,h15,H,e10⟩
  refine J.exit ?_
  cases H
  exact ⟨_,_,_,Za,⟨rfl,rfl,e1⟩,Zb h4 [1]⟩
 refine J.skip ?_
 cases H
 exact ⟨_,_,_,Za,⟨rfl,rfl,(rfl:a0.length=a0.length)⟩,Zb h0 [0]⟩

mutual
def Q128.l0:Nat→(List (Int))→(Int)→(Int)→(Int)→(Bool)→(Bool)→Option (List (Int))
 | 0,_,_,_,_,_,_=>none
 | k+1,x1,x2,x3,x4,x5,x6=>if (decide ((w64 (x3 - x2))≤12))=true then ((Q120.f k x1 x2 x3).bind fun r1=>(some r1)) else (if (decide (x4=0))=true then ((Q119.f k x1 x2 x3).bind fun r2=>(some r2)) else (if (!x5)=true then ((Q117.f k x1 x2 x3).bind fun r30=>((Q118.f r30 x2 x3).bind fun r3=>(if (decide (r3.2=2))=true then ((Q129.f k r30 x2 x3).bind fun r29=>(if x5=true then (if x6=true then (if (decide (1=1))=true then ((Q125.f k r29 x2 x3).bind fun r12=>(if r12.1=true then (some r12.2) else (if (decide (0<x2))=true then (if 0≤(w64 (x2 - 1))∧(w64 (x2 - 1))<(r12.2.length:Int) then (if 0≤(w64 ((w64 (x3 - 1)) - (w64 (r3.1 - x2))))∧(w64 ((w64 (x3 - 1)) - (w64 (r3.1 - x2))))<(r12.2.length:Int) then ((Q32.f (gt r12.2 (w64 (x2 - 1))) (gt r12.2 (w64 ((w64 (x3 - 1)) - (w64 (r3.1 - x2)))))).bind fun r4=>(if (!r4)=true then ((Q126.f k r12.2 x2 x3 (w64 ((w64 (x3 - 1)) - (w64 (r3.1 - x2))))).bind fun r5=>(Q128.l0 k r5.2 r5.1 x3 (w64 (x4 - 1)) x5 x6)) else ((Q127.f k r12.2 x2 x3 (w64 ((w64 (x3 - 1)) - (w64 (r3.1 - x2))))).bind fun r6=>(if (decide ((w64 (r6.1 - x2))<(w64 (x3 - r6.1))))=true then ((Q128.f k r6.2.2 x2 r6.1 (w64 (x4 - 1))).bind fun r7=>(Q128.l0 k r7 (w64 (r6.1+1)) x3 (w64 (x4 - 1)) (decide ((w64 (Int.tdiv (w64 (x3 - x2)) 8))≤(w64 (r6.1 - x2)))) r6.2.1)) else ((Q128.f k r6.2.2 (w64 (r6.1+1)) x3 (w64 (x4 - 1))).bind fun r8=>(Q128.l0 k r8 x2 r6.1 (w64 (x4 - 1)) (decide ((w64 (Int.tdiv (w64 (x3 - x2)) 8))≤(w64 (x3 - r6.1)))) r6.2.1)))))) else none) else none) else ((Q127.f k r12.2 x2 x3 (w64 ((w64 (x3 - 1)) - (w64 (r3.1 - x2))))).bind fun r9=>(if (decide ((w64 (r9.1 - x2))<(w64 (x3 - r9.1))))=true then ((Q128.f k r9.2.2 x2 r9.1 (w64 (x4 - 1))).bind fun r10=>(Q128.l0 k r10 (w64 (r9.1+1)) x3 (w64 (x4 - 1)) (decide ((w64 (Int.tdiv (w64 (x3 - x2)) 8))≤(w64 (r9.1 - x2)))) r9.2.1)) else ((Q128.f k r9.2.2 (w64 (r9.1+1)) x3 (w64 (x4 - 1))).bind fun r11=>(Q128.l0 k r11 x2 r9.1 (w64 (x4 - 1)) (decide ((w64 (Int.tdiv (w64 (x3 - x2)) 8))≤(w64 (x3 - r9.1)))) r9.2.1))))))) else (if (decide (0<x2))=true then (if 0≤(w64 (x2 - 1))∧(w64 (x2 - 1))<(r29.length:Int) then (if 0≤(w64 ((w64 (x3 - 1)) - (w64 (r3.1 - x2))))∧(w64 ((w64 (x3 - 1)) - (w64 (r3.1 - x2))))<(r29.length:Int) then ((Q32.f (gt r29 (w64 (x2 - 1))) (gt r29 (w64 ((w64 (x3 - 1)) - (w64 (r3.1 - x2)))))).bind fun r4=>(if (!r4)=true then ((Q126.f k r29 x2 x3 (w64 ((w64 (x3 - 1)) - (w64 (r3.1 - x2))))).bind fun r5=>(Q128.l0 k r5.2 r5.1 x3 (w64 (x4 - 1)) x5 x6)) else ((Q127.f k r29 x2 x3 (w64 ((w64 (x3 - 1)) - (w64 (r3.1 - x2))))).bind fun r6=>(if (decide ((w64 (r6.1 - x2))<(w64 (x3 - r6.1))))=true then ((Q128.f k r6.2.2 x2 r6.1 (w64 (x4 - 1))).bind fun r7=>(Q128.l0 k r7 (w64 (r6.1+1)) x3 (w64 (x4 - 1)) (decide ((w64 (Int.tdiv (w64 (x3 - x2)) 8))≤(w64 (r6.1 - x2)))) r6.2.1)) else ((Q128.f k r6.2.2 (w64 (r6.1+1)) x3 (w64 (x4 - 1))).bind fun r8=>(Q128.l0 k r8 x2 r6.1 (w64 (x4 - 1)) (decide ((w64 (Int.tdiv (w64 (x3 - x2)) 8))≤(w64 (x3 - r6.1)))) r6.2.1)))))) else none) else none) else ((Q127.f k r29 x2 x3 (w64 ((w64 (x3 - 1)) - (w64 (r3.1 - x2))))).bind fun r9=>(if (decide ((w64 (r9.1 - x2))<(w64 (x3 - r9.1))))=true then ((Q128.f k r9.2.2 x2 r9.1 (w64 (x4 - 1))).bind fun r10=>(Q128.l0 k r10 (w64 (r9.1+1)) x3 (w64 (x4 - 1)) (decide ((w64 (Int.tdiv (w64 (x3 - x2)) 8))≤(w64 (r9.1 - x2)))) r9.2.1)) else ((Q128.f k r9.2.2 (w64 (r9.1+1)) x3 (w64 (x4 - 1))).bind fun r11=>(Q128.l0 k r11 x2 r9.1 (w64 (x4 - 1)) (decide ((w64 (Int.tdiv (w64 (x3 - x2)) 8))≤(w64 (x3 - r9.1)))) r9.2.1)))))) else (if (decide (0<x2))=true then (if 0≤(w64 (x2 - 1))∧(w64 (x2 - 1))<(r29.length:Int) then (if 0≤(w64 ((w64 (x3 - 1)) - (w64 (r3.1 - x2))))∧(w64 ((w64 (x3 - 1)) - (w64 (r3.1 - x2))))<(r29.length:Int) then ((Q32.f (gt r29 (w64 (x2 - 1))) (gt r29 (w64 ((w64 (x3 - 1)) - (w64 (r3.1 - x2)))))).bind fun r13=>(if (!r13)=true then ((Q126.f k r29 x2 x3 (w64 ((w64 (x3 - 1)) - (w64 (r3.1 - x2))))).bind fun r14=>(Q128.l0 k r14.2 r14.1 x3 (w64 (x4 - 1)) x5 x6)) else ((Q127.f k r29 x2 x3 (w64 ((w64 (x3 - 1)) - (w64 (r3.1 - x2))))).bind fun r15=>(if (decide ((w64 (r15.1 - x2))<(w64 (x3 - r15.1))))=true then ((Q128.f k r15.2.2 x2 r15.1 (w64 (x4 - 1))).bind fun r16=>(Q128.l0 k r16 (w64 (r15.1+1)) x3 (w64 (x4 - 1)) (decide ((w64 (Int.tdiv (w64 (x3 - x2)) 8))≤(w64 (r15.1 - x2)))) r15.2.1)) else ((Q128.f k r15.2.2 (w64 (r15.1+1)) x3 (w64 (x4 - 1))).bind fun r17=>(Q128.l0 k r17 x2 r15.1 (w64 (x4 - 1)) (decide ((w64 (Int.tdiv (w64 (x3 - x2)) 8))≤(w64 (x3 - r15.1)))) r15.2.1)))))) else none) else none) else ((Q127.f k r29 x2 x3 (w64 ((w64 (x3 - 1)) - (w64 (r3.1 - x2))))).bind fun r18=>(if (decide ((w64 (r18.1 - x2))<(w64 (x3 - r18.1))))=true then ((Q128.f k r18.2.2 x2 r18.1 (w64 (x4 - 1))).bind fun r19=>(Q128.l0 k r19 (w64 (r18.1+1)) x3 (w64 (x4 - 1)) (decide ((w64 (Int.tdiv (w64 (x3 - x2)) 8))≤(w64 (r18.1 - x2)))) r18.2.1)) else ((Q128.f k r18.2.2 (w64 (r18.1+1)) x3 (w64 (x4 - 1))).bind fun r20=>(Q128.l0 k r20 x2 r18.1 (w64 (x4 - 1)) (decide ((w64 (Int.tdiv (w64 (x3 - x2)) 8))≤(w64 (x3 - r18.1)))) r18.2.1)))))) else (if (decide (0<x2))=true then (if 0≤(w64 (x2 - 1))∧(w64 (x2 - 1))<(r29.length:Int) then (if 0≤(w64 ((w64 (x3 - 1)) - (w64 (r3.1 - x2))))∧(w64 ((w64 (x3 - 1)) - (w64 (r3.1 - x2))))<(r29.length:Int) then ((Q32.f (gt r29 (w64 (x2 - 1))) (gt r29 (w64 ((w64 (x3 - 1)) - (w64 (r3.1 - x2)))))).bind fun r21=>(if (!r21)=true then ((Q126.f k r29 x2 x3 (w64 ((w64 (x3 - 1)) - (w64 (r3.1 - x2))))).bind fun r22=>(Q128.l0 k r22.2 r22.1 x3 (w64 (x4 - 1)) x5 x6)) else ((Q127.f k r29 x2 x3 (w64 ((w64 (x3 - 1)) - (w64 (r3.1 - x2))))).bind fun r23=>(if (decide ((w64 (r23.1 - x2))<(w64 (x3 - r23.1))))=true then ((Q128.f k r23.2.2 x2 r23.1 (w64 (x4 - 1))).bind fun r24=>(Q128.l0 k r24 (w64 (r23.1+1)) x3 (w64 (x4 - 1)) (decide ((w64 (Int.tdiv (w64 (x3 - x2)) 8))≤(w64 (r23.1 - x2)))) r23.2.1)) else ((Q128.f k r23.2.2 (w64 (r23.1+1)) x3 (w64 (x4 - 1))).bind fun r25=>(Q128.l0 k r25 x2 r23.1 (w64 (x4 - 1)) (decide ((w64 (Int.tdiv (w64 (x3 - x2)) 8))≤(w64 (x3 - r23.1)))) r23.2.1)))))) else none) else none) else ((Q127.f k r29 x2 x3 (w64 ((w64 (x3 - 1)) - (w64 (r3.1 - x2))))).bind fun r26=>(if (decide ((w64 (r26.1 - x2))<(w64 (x3 - r26.1))))=true then ((Q128.f k r26.2.2 x2 r26.1 (w64 (x4 - 1))).bind fun r27=>(Q128.l0 k r27 (w64 (r26.1+1)) x3 (w64 (x4 - 1)) (decide ((w64 (Int.tdiv (w64 (x3 - x2)) 8))≤(w64 (r26.1 - x2)))) r26.2.1)) else ((Q128.f k r26.2.2 (w64 (r26.1+1)) x3 (w64 (x4 - 1))).bind fun r28=>(Q128.l0 k r28 x2 r26.1 (w64 (x4 - 1)) (decide ((w64 (Int.tdiv (w64 (x3 - x2)) 8))≤(w64 (x3 - r26.1)))) r26.2.1))))))) else (if x5=true then (if x6=true then (if (decide (r3.2=1))=true then ((Q125.f k r30 x2 x3).bind fun r12=>(if r12.1=true then (some r12.2) else (if (decide (0<x2))=true then (if 0≤(w64 (x2 - 1))∧(w64 (x2 - 1))<(r12.2.length:Int) then (if 0≤r3.1∧r3.1<(r12.2.length:Int) then ((Q32.f (gt r12.2 (w64 (x2 - 1))) (gt r12.2 r3.1)).bind fun r4=>(if (!r4)=true then ((Q126.f k r12.2 x2 x3 r3.1).bind fun r5=>(Q128.l0 k r5.2 r5.1 x3 (w64 (x4 - 1)) x5 x6)) else ((Q127.f k r12.2 x2 x3 r3.1).bind fun r6=>(if (decide ((w64 (r6.1 - x2))<(w64 (x3 - r6.1))))=true then ((Q128.f k r6.2.2 x2 r6.1 (w64 (x4 - 1))).bind fun r7=>(Q128.l0 k r7 (w64 (r6.1+1)) x3 (w64 (x4 - 1)) (decide ((w64 (Int.tdiv (w64 (x3 - x2)) 8))≤(w64 (r6.1 - x2)))) r6.2.1)) else ((Q128.f k r6.2.2 (w64 (r6.1+1)) x3 (w64 (x4 - 1))).bind fun r8=>(Q128.l0 k r8 x2 r6.1 (w64 (x4 - 1)) (decide ((w64 (Int.tdiv (w64 (x3 - x2)) 8))≤(w64 (x3 - r6.1)))) r6.2.1)))))) else none) else none) else ((Q127.f k r12.2 x2 x3 r3.1).bind fun r9=>(if (decide ((w64 (r9.1 - x2))<(w64 (x3 - r9.1))))=true then ((Q128.f k r9.2.2 x2 r9.1 (w64 (x4 - 1))).bind fun r10=>(Q128.l0 k r10 (w64 (r9.1+1)) x3 (w64 (x4 - 1)) (decide ((w64 (Int.tdiv (w64 (x3 - x2)) 8))≤(w64 (r9.1 - x2)))) r9.2.1)) else ((Q128.f k r9.2.2 (w64 (r9.1+1)) x3 (w64 (x4 - 1))).bind fun r11=>(Q128.l0 k r11 x2 r9.1 (w64 (x4 - 1)) (decide ((w64 (Int.tdiv (w64 (x3 - x2)) 8))≤(w64 (x3 - r9.1)))) r9.2.1))))))) else (if (decide (0<x2))=true then (if 0≤(w64 (x2 - 1))∧(w64 (x2 - 1))<(r30.length:Int) then (if 0≤r3.1∧r3.1<(r30.length:Int) then ((Q32.f (gt r30 (w64 (x2 - 1))) (gt r30 r3.1)).bind fun r4=>(if (!r4)=true then ((Q126.f k r30 x2 x3 r3.1).bind fun r5=>(Q128.l0 k r5.2 r5.1 x3 (w64 (x4 - 1)) x5 x6)) else ((Q127.f k r30 x2 x3 r3.1).bind fun r6=>(if (decide ((w64 (r6.1 - x2))<(w64 (x3 - r6.1))))=true then ((Q128.f k r6.2.2 x2 r6.1 (w64 (x4 - 1))).bind fun r7=>(Q128.l0 k r7 (w64 (r6.1+1)) x3 (w64 (x4 - 1)) (decide ((w64 (Int.tdiv (w64 (x3 - x2)) 8))≤(w64 (r6.1 - x2)))) r6.2.1)) else ((Q128.f k r6.2.2 (w64 (r6.1+1)) x3 (w64 (x4 - 1))).bind fun r8=>(Q128.l0 k r8 x2 r6.1 (w64 (x4 - 1)) (decide ((w64 (Int.tdiv (w64 (x3 - x2)) 8))≤(w64 (x3 - r6.1)))) r6.2.1)))))) else none) else none) else ((Q127.f k r30 x2 x3 r3.1).bind fun r9=>(if (decide ((w64 (r9.1 - x2))<(w64 (x3 - r9.1))))=true then ((Q128.f k r9.2.2 x2 r9.1 (w64 (x4 - 1))).bind fun r10=>(Q128.l0 k r10 (w64 (r9.1+1)) x3 (w64 (x4 - 1)) (decide ((w64 (Int.tdiv (w64 (x3 - x2)) 8))≤(w64 (r9.1 - x2)))) r9.2.1)) else ((Q128.f k r9.2.2 (w64 (r9.1+1)) x3 (w64 (x4 - 1))).bind fun r11=>(Q128.l0 k r11 x2 r9.1 (w64 (x4 - 1)) (decide ((w64 (Int.tdiv (w64 (x3 - x2)) 8))≤(w64 (x3 - r9.1)))) r9.2.1)))))) else (if (decide (0<x2))=true then (if 0≤(w64 (x2 - 1))∧(w64 (x2 - 1))<(r30.length:Int) then (if 0≤r3.1∧r3.1<(r30.length:Int) then ((Q32.f (gt r30 (w64 (x2 - 1))) (gt r30 r3.1)).bind fun r13=>(if (!r13)=true then ((Q126.f k r30 x2 x3 r3.1).bind fun r14=>(Q128.l0 k r14.2 r14.1 x3 (w64 (x4 - 1)) x5 x6)) else ((Q127.f k r30 x2 x3 r3.1).bind fun r15=>(if (decide ((w64 (r15.1 - x2))<(w64 (x3 - r15.1))))=true then ((Q128.f k r15.2.2 x2 r15.1 (w64 (x4 - 1))).bind fun r16=>(Q128.l0 k r16 (w64 (r15.1+1)) x3 (w64 (x4 - 1)) (decide ((w64 (Int.tdiv (w64 (x3 - x2)) 8))≤(w64 (r15.1 - x2)))) r15.2.1)) else ((Q128.f k r15.2.2 (w64 (r15.1+1)) x3 (w64 (x4 - 1))).bind fun r17=>(Q128.l0 k r17 x2 r15.1 (w64 (x4 - 1)) (decide ((w64 (Int.tdiv (w64 (x3 - x2)) 8))≤(w64 (x3 - r15.1)))) r15.2.1)))))) else none) else none) else ((Q127.f k r30 x2 x3 r3.1).bind fun r18=>(if (decide ((w64 (r18.1 - x2))<(w64 (x3 - r18.1))))=true then ((Q128.f k r18.2.2 x2 r18.1 (w64 (x4 - 1))).bind fun r19=>(Q128.l0 k r19 (w64 (r18.1+1)) x3 (w64 (x4 - 1)) (decide ((w64 (Int.tdiv (w64 (x3 - x2)) 8))≤(w64 (r18.1 - x2)))) r18.2.1)) else ((Q128.f k r18.2.2 (w64 (r18.1+1)) x3 (w64 (x4 - 1))).bind fun r20=>(Q128.l0 k r20 x2 r18.1 (w64 (x4 - 1)) (decide ((w64 (Int.tdiv (w64 (x3 - x2)) 8))≤(w64 (x3 - r18.1)))) r18.2.1)))))) else (if (decide (0<x2))=true then (if 0≤(w64 (x2 - 1))∧(w64 (x2 - 1))<(r30.length:Int) then (if 0≤r3.1∧r3.1<(r30.length:Int) then ((Q32.f (gt r30 (w64 (x2 - 1))) (gt r30 r3.1)).bind fun r21=>(if (!r21)=true then ((Q126.f k r30 x2 x3 r3.1).bind fun r22=>(Q128.l0 k r22.2 r22.1 x3 (w64 (x4 - 1)) x5 x6)) else ((Q127.f k r30 x2 x3 r3.1).bind fun r23=>(if (decide ((w64 (r23.1 - x2))<(w64 (x3 - r23.1))))=true then ((Q128.f k r23.2.2 x2 r23.1 (w64 (x4 - 1))).bind fun r24=>(Q128.l0 k r24 (w64 (r23.1+1)) x3 (w64 (x4 - 1)) (decide ((w64 (Int.tdiv (w64 (x3 - x2)) 8))≤(w64 (r23.1 - x2)))) r23.2.1)) else ((Q128.f k r23.2.2 (w64 (r23.1+1)) x3 (w64 (x4 - 1))).bind fun r25=>(Q128.l0 k r25 x2 r23.1 (w64 (x4 - 1)) (decide ((w64 (Int.tdiv (w64 (x3 - x2)) 8))≤(w64 (x3 - r23.1)))) r23.2.1)))))) else none) else none) else ((Q127.f k r30 x2 x3 r3.1).bind fun r26=>(if (decide ((w64 (r26.1 - x2))<(w64 (x3 - r26.1))))=true then ((Q128.f k r26.2.2 x2 r26.1 (w64 (x4 - 1))).bind fun r27=>(Q128.l0 k r27 (w64 (r26.1+1)) x3 (w64 (x4 - 1)) (decide ((w64 (Int.tdiv (w64 (x3 - x2)) 8))≤(w64 (r26.1 - x2)))) r26.2.1)) else ((Q128.f k r26.2.2 (w64 (r26.1+1)) x3 (w64 (x4 - 1))).bind fun r28=>(Q128.l0 k r28 x2 r26.1 (w64 (x4 - 1)) (decide ((w64 (Int.tdiv (w64 (x3 - x2)) 8))≤(w64 (x3 - r26.1)))) r26.2.1))))))))) else ((Q118.f x1 x2 x3).bind fun r3=>(if (decide (r3.2=2))=true then ((Q129.f k x1 x2 x3).bind fun r29=>(if x5=true then (if x6=true then (if (decide (1=1))=true then ((Q125.f k r29 x2 x3).bind fun r12=>(if r12.1=true then (some r12.2) else (if (decide (0<x2))=true then (if 0≤(w64 (x2 - 1))∧(w64 (x2 - 1))<(r12.2.length:Int) then (if 0≤(w64 ((w64 (x3 - 1)) - (w64 (r3.1 - x2))))∧(w64 ((w64 (x3 - 1)) - (w64 (r3.1 - x2))))<(r12.2.length:Int) then ((Q32.f (gt r12.2 (w64 (x2 - 1))) (gt r12.2 (w64 ((w64 (x3 - 1)) - (w64 (r3.1 - x2)))))).bind fun r4=>(if (!r4)=true then ((Q126.f k r12.2 x2 x3 (w64 ((w64 (x3 - 1)) - (w64 (r3.1 - x2))))).bind fun r5=>(Q128.l0 k r5.2 r5.1 x3 x4 x5 x6)) else ((Q127.f k r12.2 x2 x3 (w64 ((w64 (x3 - 1)) - (w64 (r3.1 - x2))))).bind fun r6=>(if (decide ((w64 (r6.1 - x2))<(w64 (x3 - r6.1))))=true then ((Q128.f k r6.2.2 x2 r6.1 x4).bind fun r7=>(Q128.l0 k r7 (w64 (r6.1+1)) x3 x4 (decide ((w64 (Int.tdiv (w64 (x3 - x2)) 8))≤(w64 (r6.1 - x2)))) r6.2.1)) else ((Q128.f k r6.2.2 (w64 (r6.1+1)) x3 x4).bind fun r8=>(Q128.l0 k r8 x2 r6.1 x4 (decide ((w64 (Int.tdiv (w64 (x3 - x2)) 8))≤(w64 (x3 - r6.1)))) r6.2.1)))))) else none) else none) else ((Q127.f k r12.2 x2 x3 (w64 ((w64 (x3 - 1)) - (w64 (r3.1 - x2))))).bind fun r9=>(if (decide ((w64 (r9.1 - x2))<(w64 (x3 - r9.1))))=true then ((Q128.f k r9.2.2 x2 r9.1 x4).bind fun r10=>(Q128.l0 k r10 (w64 (r9.1+1)) x3 x4 (decide ((w64 (Int.tdiv (w64 (x3 - x2)) 8))≤(w64 (r9.1 - x2)))) r9.2.1)) else ((Q128.f k r9.2.2 (w64 (r9.1+1)) x3 x4).bind fun r11=>(Q128.l0 k r11 x2 r9.1 x4 (decide ((w64 (Int.tdiv (w64 (x3 - x2)) 8))≤(w64 (x3 - r9.1)))) r9.2.1))))))) else (if (decide (0<x2))=true then (if 0≤(w64 (x2 - 1))∧(w64 (x2 - 1))<(r29.length:Int) then (if 0≤(w64 ((w64 (x3 - 1)) - (w64 (r3.1 - x2))))∧(w64 ((w64 (x3 - 1)) - (w64 (r3.1 - x2))))<(r29.length:Int) then ((Q32.f (gt r29 (w64 (x2 - 1))) (gt r29 (w64 ((w64 (x3 - 1)) - (w64 (r3.1 - x2)))))).bind fun r4=>(if (!r4)=true then ((Q126.f k r29 x2 x3 (w64 ((w64 (x3 - 1)) - (w64 (r3.1 - x2))))).bind fun r5=>(Q128.l0 k r5.2 r5.1 x3 x4 x5 x6)) else ((Q127.f k r29 x2 x3 (w64 ((w64 (x3 - 1)) - (w64 (r3.1 - x2))))).bind fun r6=>(if (decide ((w64 (r6.1 - x2))<(w64 (x3 - r6.1))))=true then ((Q128.f k r6.2.2 x2 r6.1 x4).bind fun r7=>(Q128.l0 k r7 (w64 (r6.1+1)) x3 x4 (decide ((w64 (Int.tdiv (w64 (x3 - x2)) 8))≤(w64 (r6.1 - x2)))) r6.2.1)) else ((Q128.f k r6.2.2 (w64 (r6.1+1)) x3 x4).bind fun r8=>(Q128.l0 k r8 x2 r6.1 x4 (decide ((w64 (Int.tdiv (w64 (x3 - x2)) 8))≤(w64 (x3 - r6.1)))) r6.2.1)))))) else none) else none) else ((Q127.f k r29 x2 x3 (w64 ((w64 (x3 - 1)) - (w64 (r3.1 - x2))))).bind fun r9=>(if (decide ((w64 (r9.1 - x2))<(w64 (x3 - r9.1))))=true then ((Q128.f k r9.2.2 x2 r9.1 x4).bind fun r10=>(Q128.l0 k r10 (w64 (r9.1+1)) x3 x4 (decide ((w64 (Int.tdiv (w64 (x3 - x2)) 8))≤(w64 (r9.1 - x2)))) r9.2.1)) else ((Q128.f k r9.2.2 (w64 (r9.1+1)) x3 x4).bind fun r11=>(Q128.l0 k r11 x2 r9.1 x4 (decide ((w64 (Int.tdiv (w64 (x3 - x2)) 8))≤(w64 (x3 - r9.1)))) r9.2.1)))))) else (if (decide (0<x2))=true then (if 0≤(w64 (x2 - 1))∧(w64 (x2 - 1))<(r29.length:Int) then (if 0≤(w64 ((w64 (x3 - 1)) - (w64 (r3.1 - x2))))∧(w64 ((w64 (x3 - 1)) - (w64 (r3.1 - x2))))<(r29.length:Int) then ((Q32.f (gt r29 (w64 (x2 - 1))) (gt r29 (w64 ((w64 (x3 - 1)) - (w64 (r3.1 - x2)))))).bind fun r13=>(if (!r13)=true then ((Q126.f k r29 x2 x3 (w64 ((w64 (x3 - 1)) - (w64 (r3.1 - x2))))).bind fun r14=>(Q128.l0 k r14.2 r14.1 x3 x4 x5 x6)) else ((Q127.f k r29 x2 x3 (w64 ((w64 (x3 - 1)) - (w64 (r3.1 - x2))))).bind fun r15=>(if (decide ((w64 (r15.1 - x2))<(w64 (x3 - r15.1))))=true then ((Q128.f k r15.2.2 x2 r15.1 x4).bind fun r16=>(Q128.l0 k r16 (w64 (r15.1+1)) x3 x4 (decide ((w64 (Int.tdiv (w64 (x3 - x2)) 8))≤(w64 (r15.1 - x2)))) r15.2.1)) else ((Q128.f k r15.2.2 (w64 (r15.1+1)) x3 x4).bind fun r17=>(Q128.l0 k r17 x2 r15.1 x4 (decide ((w64 (Int.tdiv (w64 (x3 - x2)) 8))≤(w64 (x3 - r15.1)))) r15.2.1)))))) else none) else none) else ((Q127.f k r29 x2 x3 (w64 ((w64 (x3 - 1)) - (w64 (r3.1 - x2))))).bind fun r18=>(if (decide ((w64 (r18.1 - x2))<(w64 (x3 - r18.1))))=true then ((Q128.f k r18.2.2 x2 r18.1 x4).bind fun r19=>(Q128.l0 k r19 (w64 (r18.1+1)) x3 x4 (decide ((w64 (Int.tdiv (w64 (x3 - x2)) 8))≤(w64 (r18.1 - x2)))) r18.2.1)) else ((Q128.f k r18.2.2 (w64 (r18.1+1)) x3 x4).bind fun r20=>(Q128.l0 k r20 x2 r18.1 x4 (decide ((w64 (Int.tdiv (w64 (x3 - x2)) 8))≤(w64 (x3 - r18.1)))) r18.2.1)))))) else (if (decide (0<x2))=true then (if 0≤(w64 (x2 - 1))∧(w64 (x2 - 1))<(r29.length:Int) then (if 0≤(w64 ((w64 (x3 - 1)) - (w64 (r3.1 - x2))))∧(w64 ((w64 (x3 - 1)) - (w64 (r3.1 - x2))))<(r29.length:Int) then ((Q32.f (gt r29 (w64 (x2 - 1))) (gt r29 (w64 ((w64 (x3 - 1)) - (w64 (r3.1 - x2)))))).bind fun r21=>(if (!r21)=true then ((Q126.f k r29 x2 x3 (w64 ((w64 (x3 - 1)) - (w64 (r3.1 - x2))))).bind fun r22=>(Q128.l0 k r22.2 r22.1 x3 x4 x5 x6)) else ((Q127.f k r29 x2 x3 (w64 ((w64 (x3 - 1)) - (w64 (r3.1 - x2))))).bind fun r23=>(if (decide ((w64 (r23.1 - x2))<(w64 (x3 - r23.1))))=true then ((Q128.f k r23.2.2 x2 r23.1 x4).bind fun r24=>(Q128.l0 k r24 (w64 (r23.1+1)) x3 x4 (decide ((w64 (Int.tdiv (w64 (x3 - x2)) 8))≤(w64 (r23.1 - x2)))) r23.2.1)) else ((Q128.f k r23.2.2 (w64 (r23.1+1)) x3 x4).bind fun r25=>(Q128.l0 k r25 x2 r23.1 x4 (decide ((w64 (Int.tdiv (w64 (x3 - x2)) 8))≤(w64 (x3 - r23.1)))) r23.2.1)))))) else none) else none) else ((Q127.f k r29 x2 x3 (w64 ((w64 (x3 - 1)) - (w64 (r3.1 - x2))))).bind fun r26=>(if (decide ((w64 (r26.1 - x2))<(w64 (x3 - r26.1))))=true then ((Q128.f k r26.2.2 x2 r26.1 x4).bind fun r27=>(Q128.l0 k r27 (w64 (r26.1+1)) x3 x4 (decide ((w64 (Int.tdiv (w64 (x3 - x2)) 8))≤(w64 (r26.1 - x2)))) r26.2.1)) else ((Q128.f k r26.2.2 (w64 (r26.1+1)) x3 x4).bind fun r28=>(Q128.l0 k r28 x2 r26.1 x4 (decide ((w64 (Int.tdiv (w64 (x3 - x2)) 8))≤(w64 (x3 - r26.1)))) r26.2.1))))))) else (if x5=true then (if x6=true then (if (decide (r3.2=1))=true then ((Q125.f k x1 x2 x3).bind fun r12=>(if r12.1=true then (some r12.2) else (if (decide (0<x2))=true then (if 0≤(w64 (x2 - 1))∧(w64 (x2 - 1))<(r12.2.length:Int) then (if 0≤r3.1∧r3.1<(r12.2.length:Int) then ((Q32.f (gt r12.2 (w64 (x2 - 1))) (gt r12.2 r3.1)).bind fun r4=>(if (!r4)=true then ((Q126.f k r12.2 x2 x3 r3.1).bind fun r5=>(Q128.l0 k r5.2 r5.1 x3 x4 x5 x6)) else ((Q127.f k r12.2 x2 x3 r3.1).bind fun r6=>(if (decide ((w64 (r6.1 - x2))<(w64 (x3 - r6.1))))=true then ((Q128.f k r6.2.2 x2 r6.1 x4).bind fun r7=>(Q128.l0 k r7 (w64 (r6.1+1)) x3 x4 (decide ((w64 (Int.tdiv (w64 (x3 - x2)) 8))≤(w64 (r6.1 - x2)))) r6.2.1)) else ((Q128.f k r6.2.2 (w64 (r6.1+1)) x3 x4).bind fun r8=>(Q128.l0 k r8 x2 r6.1 x4 (decide ((w64 (Int.tdiv (w64 (x3 - x2)) 8))≤(w64 (x3 - r6.1)))) r6.2.1)))))) else none) else none) else ((Q127.f k r12.2 x2 x3 r3.1).bind fun r9=>(if (decide ((w64 (r9.1 - x2))<(w64 (x3 - r9.1))))=true then ((Q128.f k r9.2.2 x2 r9.1 x4).bind fun r10=>(Q128.l0 k r10 (w64 (r9.1+1)) x3 x4 (decide ((w64 (Int.tdiv (w64 (x3 - x2)) 8))≤(w64 (r9.1 - x2)))) r9.2.1)) else ((Q128.f k r9.2.2 (w64 (r9.1+1)) x3 x4).bind fun r11=>(Q128.l0 k r11 x2 r9.1 x4 (decide ((w64 (Int.tdiv (w64 (x3 - x2)) 8))≤(w64 (x3 - r9.1)))) r9.2.1))))))) else (if (decide (0<x2))=true then (if 0≤(w64 (x2 - 1))∧(w64 (x2 - 1))<(x1.length:Int) then (if 0≤r3.1∧r3.1<(x1.length:Int) then ((Q32.f (gt x1 (w64 (x2 - 1))) (gt x1 r3.1)).bind fun r4=>(if (!r4)=true then ((Q126.f k x1 x2 x3 r3.1).bind fun r5=>(Q128.l0 k r5.2 r5.1 x3 x4 x5 x6)) else ((Q127.f k x1 x2 x3 r3.1).bind fun r6=>(if (decide ((w64 (r6.1 - x2))<(w64 (x3 - r6.1))))=true then ((Q128.f k r6.2.2 x2 r6.1 x4).bind fun r7=>(Q128.l0 k r7 (w64 (r6.1+1)) x3 x4 (decide ((w64 (Int.tdiv (w64 (x3 - x2)) 8))≤(w64 (r6.1 - x2)))) r6.2.1)) else ((Q128.f k r6.2.2 (w64 (r6.1+1)) x3 x4).bind fun r8=>(Q128.l0 k r8 x2 r6.1 x4 (decide ((w64 (Int.tdiv (w64 (x3 - x2)) 8))≤(w64 (x3 - r6.1)))) r6.2.1)))))) else none) else none) else ((Q127.f k x1 x2 x3 r3.1).bind fun r9=>(if (decide ((w64 (r9.1 - x2))<(w64 (x3 - r9.1))))=true then ((Q128.f k r9.2.2 x2 r9.1 x4).bind fun r10=>(Q128.l0 k r10 (w64 (r9.1+1)) x3 x4 (decide ((w64 (Int.tdiv (w64 (x3 - x2)) 8))≤(w64 (r9.1 - x2)))) r9.2.1)) else ((Q128.f k r9.2.2 (w64 (r9.1+1)) x3 x4).bind fun r11=>(Q128.l0 k r11 x2 r9.1 x4 (decide ((w64 (Int.tdiv (w64 (x3 - x2)) 8))≤(w64 (x3 - r9.1)))) r9.2.1)))))) else (if (decide (0<x2))=true then (if 0≤(w64 (x2 - 1))∧(w64 (x2 - 1))<(x1.length:Int) then (if 0≤r3.1∧r3.1<(x1.length:Int) then ((Q32.f (gt x1 (w64 (x2 - 1))) (gt x1 r3.1)).bind fun r13=>(if (!r13)=true then ((Q126.f k x1 x2 x3 r3.1).bind fun r14=>(Q128.l0 k r14.2 r14.1 x3 x4 x5 x6)) else ((Q127.f k x1 x2 x3 r3.1).bind fun r15=>(if (decide ((w64 (r15.1 - x2))<(w64 (x3 - r15.1))))=true then ((Q128.f k r15.2.2 x2 r15.1 x4).bind fun r16=>(Q128.l0 k r16 (w64 (r15.1+1)) x3 x4 (decide ((w64 (Int.tdiv (w64 (x3 - x2)) 8))≤(w64 (r15.1 - x2)))) r15.2.1)) else ((Q128.f k r15.2.2 (w64 (r15.1+1)) x3 x4).bind fun r17=>(Q128.l0 k r17 x2 r15.1 x4 (decide ((w64 (Int.tdiv (w64 (x3 - x2)) 8))≤(w64 (x3 - r15.1)))) r15.2.1)))))) else none) else none) else ((Q127.f k x1 x2 x3 r3.1).bind fun r18=>(if (decide ((w64 (r18.1 - x2))<(w64 (x3 - r18.1))))=true then ((Q128.f k r18.2.2 x2 r18.1 x4).bind fun r19=>(Q128.l0 k r19 (w64 (r18.1+1)) x3 x4 (decide ((w64 (Int.tdiv (w64 (x3 - x2)) 8))≤(w64 (r18.1 - x2)))) r18.2.1)) else ((Q128.f k r18.2.2 (w64 (r18.1+1)) x3 x4).bind fun r20=>(Q128.l0 k r20 x2 r18.1 x4 (decide ((w64 (Int.tdiv (w64 (x3 - x2)) 8))≤(w64 (x3 - r18.1)))) r18.2.1)))))) else (if (decide (0<x2))=true then (if 0≤(w64 (x2 - 1))∧(w64 (x2 - 1))<(x1.length:Int) then (if 0≤r3.1∧r3.1<(x1.length:Int) then ((Q32.f (gt x1 (w64 (x2 - 1))) (gt x1 r3.1)).bind fun r21=>(if (!r21)=true then ((Q126.f k x1 x2 x3 r3.1).bind fun r22=>(Q128.l0 k r22.2 r22.1 x3 x4 x5 x6)) else ((Q127.f k x1 x2 x3 r3.1).bind fun r23=>(if (decide ((w64 (r23.1 - x2))<(w64 (x3 - r23.1))))=true then ((Q128.f k r23.2.2 x2 r23.1 x4).bind fun r24=>(Q128.l0 k r24 (w64 (r23.1+1)) x3 x4 (decide ((w64 (Int.tdiv (w64 (x3 - x2)) 8))≤(w64 (r23.1 - x2)))) r23.2.1)) else ((Q128.f k r23.2.2 (w64 (r23.1+1)) x3 x4).bind fun r25=>(Q128.l0 k r25 x2 r23.1 x4 (decide ((w64 (Int.tdiv (w64 (x3 - x2)) 8))≤(w64 (x3 - r23.1)))) r23.2.1)))))) else none) else none) else ((Q127.f k x1 x2 x3 r3.1).bind fun r26=>(if (decide ((w64 (r26.1 - x2))<(w64 (x3 - r26.1))))=true then ((Q128.f k r26.2.2 x2 r26.1 x4).bind fun r27=>(Q128.l0 k r27 (w64 (r26.1+1)) x3 x4 (decide ((w64 (Int.tdiv (w64 (x3 - x2)) 8))≤(w64 (r26.1 - x2)))) r26.2.1)) else ((Q128.f k r26.2.2 (w64 (r26.1+1)) x3 x4).bind fun r28=>(Q128.l0 k r28 x2 r26.1 x4 (decide ((w64 (Int.tdiv (w64 (x3 - x2)) 8))≤(w64 (x3 - r26.1)))) r26.2.1))))))))))
def Q128.f:Nat→(List (Int))→(Int)→(Int)→(Int)→Option (List (Int))
 | 0,_,_,_,_=>none
 | k+1,a0,a1,a2,a3=>Q128.l0 k a0 a1 a2 a3 true true
end
theorem Q128.spec:∀ {k:Nat} {a0:List (Int)} {a1:Int} {a2:Int} {a3:Int} {A1:Option Addr} {c_1:Nat} {r:List (Int)},Q128.f k a0 a1 a2 a3=some r→
  Spec Tryz.prog 224 [.slice A1 a0.length c_1,.int .i64 a1,.int .i64 a2,.int .i64 a3] [O33 a0 A1 c_1] [] (fun v l=>v=.tuple #[]∧l=[O33 r A1 c_1]∧r.length=a0.length):=by
 intro k
 induction k using Nat.strongRecOn with
 | _ k ih=>
 intro a0 a1 a2 a3 A1 c_1 r H
 cases k with
 | zero=>rw [Q128.f] at H; cases H
 | succ kr=>
 refine Zp Tryz.func224 fun w0 F0 h0=>?_
 rw [Q128.f] at H
 refine J.seq (Zc [0,1,2,3,8] ?_)
 refine J.seq (Zc [0,1,2,3,8,9] ?_)
 refine J.block ?_
 have h59:=(sOR h0 [0] [])
 refine J.loop (fun kk env w=>∃(x1:List (Int)) (x2:Int) (x3:Int) (x4:Int) (x5:Bool) (x6:Bool),env=[(0,.slice A1 x1.length c_1),(1,.int .i64 x2),(2,.int .i64 x3),(3,.int .i64 x4),(8,.bool x5),(9,.bool x6)]∧St w0 F0 [O33 x1 A1 c_1] [] w∧Q128.l0 kk x1 x2 x3 x4 x5 x6=some r∧kk≤kr∧x1.length=a0.length) (k:=kr) ⟨a0,a1,a2,a3,true,true,rfl,h59,H,Nat.le_refl _,(rfl:a0.length=a0.length)⟩ ?_
 rintro k1 env w1 ⟨x1,x2,x3,x4,x5,x6,rfl,h1,H,hk1,e1⟩
 rcases k1 with _ | k1
 ·exact z0 H
 rw [Q128.l0] at H
 refine J.block (J.seq (Zc [0,1,2,3,8,9,10] ?_))
 refine J.seq (J.seq (Zc [0,1,2,3,8,9,10,23] ?_))
 refine jIf H (fun c1 H=>?_) fun c1 H=>?_
 ·refine J.seq (J.region ?_)
  refine Zh 3 ?_
  obtain ⟨r1,q1,H⟩:=Zn H
  refine Ze (Zf [0] (Q120.spec q1) h1 rfl Zs) ?_
  rintro _ w2 ⟨_,⟨rfl,rfl,q2⟩,h2⟩
  replace h2:=nf h2
  have e2:r1.length=a0.length:=q2.trans e1
  refine Zi [] rfl ?_
  refine J.ret ?_
  cases H
  exact ⟨_,_,_,Za,⟨rfl,rfl,e2⟩,Zb h2 [0]⟩
 refine J.skip (J.seq (J.seq (Zc [0,1,2,3,8,9,10,29] ?_)))
 refine jIf H (fun c2 H=>?_) fun c2 H=>?_
 ·refine J.seq (J.region ?_)
  refine Zh 3 ?_
  obtain ⟨r2,q3,H⟩:=Zn H
  refine Ze (Zf [0] (Q119.spec q3) h1 rfl Zs) ?_
  rintro _ w3 ⟨_,⟨rfl,rfl,q4⟩,h3⟩
  replace h3:=nf h3
  have e3:r2.length=a0.length:=q4.trans e1
  refine Zi [] rfl ?_
  refine J.ret ?_
  cases H
  exact ⟨_,_,_,Za,⟨rfl,rfl,e3⟩,Zb h3 [0]⟩
 refine J.skip (J.seq (J.seq (Zc [0,1,2,3,8,9,10,35] ?_)))
 refine J.midS (fun env w=>∃(k2:Nat) (x7:List (Int)) (x8:Int),env=[(0,.slice A1 x7.length c_1),(1,.int .i64 x2),(2,.int .i64 x3),(3,.int .i64 x8),(8,.bool x5),(9,.bool x6),(10,.int .i64 (w64 (x3 - x2)))]∧St w0 F0 [O33 x7 A1 c_1] [] w∧((Q118.f x7 x2 x3).bind fun r3=>(if (decide (r3.2=2))=true then ((Q129.f k2 x7 x2 x3).bind fun r29=>(if x5=true then (if x6=true then (if (decide (1=1))=true then ((Q125.f k2 r29 x2 x3).bind fun r12=>(if r12.1=true then (some r12.2) else (if (decide (0<x2))=true then (if 0≤(w64 (x2 - 1))∧(w64 (x2 - 1))<(r12.2.length:Int) then (if 0≤(w64 ((w64 (x3 - 1)) - (w64 (r3.1 - x2))))∧(w64 ((w64 (x3 - 1)) - (w64 (r3.1 - x2))))<(r12.2.length:Int) then ((Q32.f (gt r12.2 (w64 (x2 - 1))) (gt r12.2 (w64 ((w64 (x3 - 1)) - (w64 (r3.1 - x2)))))).bind fun r4=>(if (!r4)=true then ((Q126.f k2 r12.2 x2 x3 (w64 ((w64 (x3 - 1)) - (w64 (r3.1 - x2))))).bind fun r5=>(Q128.l0 k2 r5.2 r5.1 x3 x8 x5 x6)) else ((Q127.f k2 r12.2 x2 x3 (w64 ((w64 (x3 - 1)) - (w64 (r3.1 - x2))))).bind fun r6=>(if (decide ((w64 (r6.1 - x2))<(w64 (x3 - r6.1))))=true then ((Q128.f k2 r6.2.2 x2 r6.1 x8).bind fun r7=>(Q128.l0 k2 r7 (w64 (r6.1+1)) x3 x8 (decide ((w64 (Int.tdiv (w64 (x3 - x2)) 8))≤(w64 (r6.1 - x2)))) r6.2.1)) else ((Q128.f k2 r6.2.2 (w64 (r6.1+1)) x3 x8).bind fun r8=>(Q128.l0 k2 r8 x2 r6.1 x8 (decide ((w64 (Int.tdiv (w64 (x3 - x2)) 8))≤(w64 (x3 - r6.1)))) r6.2.1)))))) else none) else none) else ((Q127.f k2 r12.2 x2 x3 (w64 ((w64 (x3 - 1)) - (w64 (r3.1 - x2))))).bind fun r9=>(if (decide ((w64 (r9.1 - x2))<(w64 (x3 - r9.1))))=true then ((Q128.f k2 r9.2.2 x2 r9.1 x8).bind fun r10=>(Q128.l0 k2 r10 (w64 (r9.1+1)) x3 x8 (decide ((w64 (Int.tdiv (w64 (x3 - x2)) 8))≤(w64 (r9.1 - x2)))) r9.2.1)) else ((Q128.f k2 r9.2.2 (w64 (r9.1+1)) x3 x8).bind fun r11=>(Q128.l0 k2 r11 x2 r9.1 x8 (decide ((w64 (Int.tdiv (w64 (x3 - x2)) 8))≤(w64 (x3 - r9.1)))) r9.2.1))))))) else (if (decide (0<x2))=true then (if 0≤(w64 (x2 - 1))∧(w64 (x2 - 1))<(r29.length:Int) then (if 0≤(w64 ((w64 (x3 - 1)) - (w64 (r3.1 - x2))))∧(w64 ((w64 (x3 - 1)) - (w64 (r3.1 - x2))))<(r29.length:Int) then ((Q32.f (gt r29 (w64 (x2 - 1))) (gt r29 (w64 ((w64 (x3 - 1)) - (w64 (r3.1 - x2)))))).bind fun r4=>(if (!r4)=true then ((Q126.f k2 r29 x2 x3 (w64 ((w64 (x3 - 1)) - (w64 (r3.1 - x2))))).bind fun r5=>(Q128.l0 k2 r5.2 r5.1 x3 x8 x5 x6)) else ((Q127.f k2 r29 x2 x3 (w64 ((w64 (x3 - 1)) - (w64 (r3.1 - x2))))).bind fun r6=>(if (decide ((w64 (r6.1 - x2))<(w64 (x3 - r6.1))))=true then ((Q128.f k2 r6.2.2 x2 r6.1 x8).bind fun r7=>(Q128.l0 k2 r7 (w64 (r6.1+1)) x3 x8 (decide ((w64 (Int.tdiv (w64 (x3 - x2)) 8))≤(w64 (r6.1 - x2)))) r6.2.1)) else ((Q128.f k2 r6.2.2 (w64 (r6.1+1)) x3 x8).bind fun r8=>(Q128.l0 k2 r8 x2 r6.1 x8 (decide ((w64 (Int.tdiv (w64 (x3 - x2)) 8))≤(w64 (x3 - r6.1)))) r6.2.1)))))) else none) else none) else ((Q127.f k2 r29 x2 x3 (w64 ((w64 (x3 - 1)) - (w64 (r3.1 - x2))))).bind fun r9=>(if (decide ((w64 (r9.1 - x2))<(w64 (x3 - r9.1))))=true then ((Q128.f k2 r9.2.2 x2 r9.1 x8).bind fun r10=>(Q128.l0 k2 r10 (w64 (r9.1+1)) x3 x8 (decide ((w64 (Int.tdiv (w64 (x3 - x2)) 8))≤(w64 (r9.1 - x2)))) r9.2.1)) else ((Q128.f k2 r9.2.2 (w64 (r9.1+1)) x3 x8).bind fun r11=>(Q128.l0 k2 r11 x2 r9.1 x8 (decide ((w64 (Int.tdiv (w64 (x3 - x2)) 8))≤(w64 (x3 - r9.1)))) r9.2.1)))))) else (if (decide (0<x2))=true then (if 0≤(w64 (x2 - 1))∧(w64 (x2 - 1))<(r29.length:Int) then (if 0≤(w64 ((w64 (x3 - 1)) - (w64 (r3.1 - x2))))∧(w64 ((w64 (x3 - 1)) - (w64 (r3.1 - x2))))<(r29.length:Int) then ((Q32.f (gt r29 (w64 (x2 - 1))) (gt r29 (w64 ((w64 (x3 - 1)) - (w64 (r3.1 - x2)))))).bind fun r13=>(if (!r13)=true then ((Q126.f k2 r29 x2 x3 (w64 ((w64 (x3 - 1)) - (w64 (r3.1 - x2))))).bind fun r14=>(Q128.l0 k2 r14.2 r14.1 x3 x8 x5 x6)) else ((Q127.f k2 r29 x2 x3 (w64 ((w64 (x3 - 1)) - (w64 (r3.1 - x2))))).bind fun r15=>(if (decide ((w64 (r15.1 - x2))<(w64 (x3 - r15.1))))=true then ((Q128.f k2 r15.2.2 x2 r15.1 x8).bind fun r16=>(Q128.l0 k2 r16 (w64 (r15.1+1)) x3 x8 (decide ((w64 (Int.tdiv (w64 (x3 - x2)) 8))≤(w64 (r15.1 - x2)))) r15.2.1)) else ((Q128.f k2 r15.2.2 (w64 (r15.1+1)) x3 x8).bind fun r17=>(Q128.l0 k2 r17 x2 r15.1 x8 (decide ((w64 (Int.tdiv (w64 (x3 - x2)) 8))≤(w64 (x3 - r15.1)))) r15.2.1)))))) else none) else none) else ((Q127.f k2 r29 x2 x3 (w64 ((w64 (x3 - 1)) - (w64 (r3.1 - x2))))).bind fun r18=>(if (decide ((w64 (r18.1 - x2))<(w64 (x3 - r18.1))))=true then ((Q128.f k2 r18.2.2 x2 r18.1 x8).bind fun r19=>(Q128.l0 k2 r19 (w64 (r18.1+1)) x3 x8 (decide ((w64 (Int.tdiv (w64 (x3 - x2)) 8))≤(w64 (r18.1 - x2)))) r18.2.1)) else ((Q128.f k2 r18.2.2 (w64 (r18.1+1)) x3 x8).bind fun r20=>(Q128.l0 k2 r20 x2 r18.1 x8 (decide ((w64 (Int.tdiv (w64 (x3 - x2)) 8))≤(w64 (x3 - r18.1)))) r18.2.1)))))) else (if (decide (0<x2))=true then (if 0≤(w64 (x2 - 1))∧(w64 (x2 - 1))<(r29.length:Int) then (if 0≤(w64 ((w64 (x3 - 1)) - (w64 (r3.1 - x2))))∧(w64 ((w64 (x3 - 1)) - (w64 (r3.1 - x2))))<(r29.length:Int) then ((Q32.f (gt r29 (w64 (x2 - 1))) (gt r29 (w64 ((w64 (x3 - 1)) - (w64 (r3.1 - x2)))))).bind fun r21=>(if (!r21)=true then ((Q126.f k2 r29 x2 x3 (w64 ((w64 (x3 - 1)) - (w64 (r3.1 - x2))))).bind fun r22=>(Q128.l0 k2 r22.2 r22.1 x3 x8 x5 x6)) else ((Q127.f k2 r29 x2 x3 (w64 ((w64 (x3 - 1)) - (w64 (r3.1 - x2))))).bind fun r23=>(if (decide ((w64 (r23.1 - x2))<(w64 (x3 - r23.1))))=true then ((Q128.f k2 r23.2.2 x2 r23.1 x8).bind fun r24=>(Q128.l0 k2 r24 (w64 (r23.1+1)) x3 x8 (decide ((w64 (Int.tdiv (w64 (x3 - x2)) 8))≤(w64 (r23.1 - x2)))) r23.2.1)) else ((Q128.f k2 r23.2.2 (w64 (r23.1+1)) x3 x8).bind fun r25=>(Q128.l0 k2 r25 x2 r23.1 x8 (decide ((w64 (Int.tdiv (w64 (x3 - x2)) 8))≤(w64 (x3 - r23.1)))) r23.2.1)))))) else none) else none) else ((Q127.f k2 r29 x2 x3 (w64 ((w64 (x3 - 1)) - (w64 (r3.1 - x2))))).bind fun r26=>(if (decide ((w64 (r26.1 - x2))<(w64 (x3 - r26.1))))=true then ((Q128.f k2 r26.2.2 x2 r26.1 x8).bind fun r27=>(Q128.l0 k2 r27 (w64 (r26.1+1)) x3 x8 (decide ((w64 (Int.tdiv (w64 (x3 - x2)) 8))≤(w64 (r26.1 - x2)))) r26.2.1)) else ((Q128.f k2 r26.2.2 (w64 (r26.1+1)) x3 x8).bind fun r28=>(Q128.l0 k2 r28 x2 r26.1 x8 (decide ((w64 (Int.tdiv (w64 (x3 - x2)) 8))≤(w64 (x3 - r26.1)))) r26.2.1))))))) else (if x5=true then (if x6=true then (if (decide (r3.2=1))=true then ((Q125.f k2 x7 x2 x3).bind fun r12=>(if r12.1=true then (some r12.2) else (if (decide (0<x2))=true then (if 0≤(w64 (x2 - 1))∧(w64 (x2 - 1))<(r12.2.length:Int) then (if 0≤r3.1∧r3.1<(r12.2.length:Int) then ((Q32.f (gt r12.2 (w64 (x2 - 1))) (gt r12.2 r3.1)).bind fun r4=>(if (!r4)=true then ((Q126.f k2 r12.2 x2 x3 r3.1).bind fun r5=>(Q128.l0 k2 r5.2 r5.1 x3 x8 x5 x6)) else ((Q127.f k2 r12.2 x2 x3 r3.1).bind fun r6=>(if (decide ((w64 (r6.1 - x2))<(w64 (x3 - r6.1))))=true then ((Q128.f k2 r6.2.2 x2 r6.1 x8).bind fun r7=>(Q128.l0 k2 r7 (w64 (r6.1+1)) x3 x8 (decide ((w64 (Int.tdiv (w64 (x3 - x2)) 8))≤(w64 (r6.1 - x2)))) r6.2.1)) else ((Q128.f k2 r6.2.2 (w64 (r6.1+1)) x3 x8).bind fun r8=>(Q128.l0 k2 r8 x2 r6.1 x8 (decide ((w64 (Int.tdiv (w64 (x3 - x2)) 8))≤(w64 (x3 - r6.1)))) r6.2.1)))))) else none) else none) else ((Q127.f k2 r12.2 x2 x3 r3.1).bind fun r9=>(if (decide ((w64 (r9.1 - x2))<(w64 (x3 - r9.1))))=true then ((Q128.f k2 r9.2.2 x2 r9.1 x8).bind fun r10=>(Q128.l0 k2 r10 (w64 (r9.1+1)) x3 x8 (decide ((w64 (Int.tdiv (w64 (x3 - x2)) 8))≤(w64 (r9.1 - x2)))) r9.2.1)) else ((Q128.f k2 r9.2.2 (w64 (r9.1+1)) x3 x8).bind fun r11=>(Q128.l0 k2 r11 x2 r9.1 x8 (decide ((w64 (Int.tdiv (w64 (x3 - x2)) 8))≤(w64 (x3 - r9.1)))) r9.2.1))))))) else (if (decide (0<x2))=true then (if 0≤(w64 (x2 - 1))∧(w64 (x2 - 1))<(x7.length:Int) then (if 0≤r3.1∧r3.1<(x7.length:Int) then ((Q32.f (gt x7 (w64 (x2 - 1))) (gt x7 r3.1)).bind fun r4=>(if (!r4)=true then ((Q126.f k2 x7 x2 x3 r3.1).bind fun r5=>(Q128.l0 k2 r5.2 r5.1 x3 x8 x5 x6)) else ((Q127.f k2 x7 x2 x3 r3.1).bind fun r6=>(if (decide ((w64 (r6.1 - x2))<(w64 (x3 - r6.1))))=true then ((Q128.f k2 r6.2.2 x2 r6.1 x8).bind fun r7=>(Q128.l0 k2 r7 (w64 (r6.1+1)) x3 x8 (decide ((w64 (Int.tdiv (w64 (x3 - x2)) 8))≤(w64 (r6.1 - x2)))) r6.2.1)) else ((Q128.f k2 r6.2.2 (w64 (r6.1+1)) x3 x8).bind fun r8=>(Q128.l0 k2 r8 x2 r6.1 x8 (decide ((w64 (Int.tdiv (w64 (x3 - x2)) 8))≤(w64 (x3 - r6.1)))) r6.2.1)))))) else none) else none) else ((Q127.f k2 x7 x2 x3 r3.1).bind fun r9=>(if (decide ((w64 (r9.1 - x2))<(w64 (x3 - r9.1))))=true then ((Q128.f k2 r9.2.2 x2 r9.1 x8).bind fun r10=>(Q128.l0 k2 r10 (w64 (r9.1+1)) x3 x8 (decide ((w64 (Int.tdiv (w64 (x3 - x2)) 8))≤(w64 (r9.1 - x2)))) r9.2.1)) else ((Q128.f k2 r9.2.2 (w64 (r9.1+1)) x3 x8).bind fun r11=>(Q128.l0 k2 r11 x2 r9.1 x8 (decide ((w64 (Int.tdiv (w64 (x3 - x2)) 8))≤(w64 (x3 - r9.1)))) r9.2.1)))))) else (if (decide (0<x2))=true then (if 0≤(w64 (x2 - 1))∧(w64 (x2 - 1))<(x7.length:Int) then (if 0≤r3.1∧r3.1<(x7.length:Int) then ((Q32.f (gt x7 (w64 (x2 - 1))) (gt x7 r3.1)).bind fun r13=>(if (!r13)=true then ((Q126.f k2 x7 x2 x3 r3.1).bind fun r14=>(Q128.l0 k2 r14.2 r14.1 x3 x8 x5 x6)) else ((Q127.f k2 x7 x2 x3 r3.1).bind fun r15=>(if (decide ((w64 (r15.1 - x2))<(w64 (x3 - r15.1))))=true then ((Q128.f k2 r15.2.2 x2 r15.1 x8).bind fun r16=>(Q128.l0 k2 r16 (w64 (r15.1+1)) x3 x8 (decide ((w64 (Int.tdiv (w64 (x3 - x2)) 8))≤(w64 (r15.1 - x2)))) r15.2.1)) else ((Q128.f k2 r15.2.2 (w64 (r15.1+1)) x3 x8).bind fun r17=>(Q128.l0 k2 r17 x2 r15.1 x8 (decide ((w64 (Int.tdiv (w64 (x3 - x2)) 8))≤(w64 (x3 - r15.1)))) r15.2.1)))))) else none) else none) else ((Q127.f k2 x7 x2 x3 r3.1).bind fun r18=>(if (decide ((w64 (r18.1 - x2))<(w64 (x3 - r18.1))))=true then ((Q128.f k2 r18.2.2 x2 r18.1 x8).bind fun r19=>(Q128.l0 k2 r19 (w64 (r18.1+1)) x3 x8 (decide ((w64 (Int.tdiv (w64 (x3 - x2)) 8))≤(w64 (r18.1 - x2)))) r18.2.1)) else ((Q128.f k2 r18.2.2 (w64 (r18.1+1)) x3 x8).bind fun r20=>(Q128.l0 k2 r20 x2 r18.1 x8 (decide ((w64 (Int.tdiv (w64 (x3 - x2)) 8))≤(w64 (x3 - r18.1)))) r18.2.1)))))) else (if (decide (0<x2))=true then (if 0≤(w64 (x2 - 1))∧(w64 (x2 - 1))<(x7.length:Int) then (if 0≤r3.1∧r3.1<(x7.length:Int) then ((Q32.f (gt x7 (w64 (x2 - 1))) (gt x7 r3.1)).bind fun r21=>(if (!r21)=true then ((Q126.f k2 x7 x2 x3 r3.1).bind fun r22=>(Q128.l0 k2 r22.2 r22.1 x3 x8 x5 x6)) else ((Q127.f k2 x7 x2 x3 r3.1).bind fun r23=>(if (decide ((w64 (r23.1 - x2))<(w64 (x3 - r23.1))))=true then ((Q128.f k2 r23.2.2 x2 r23.1 x8).bind fun r24=>(Q128.l0 k2 r24 (w64 (r23.1+1)) x3 x8 (decide ((w64 (Int.tdiv (w64 (x3 - x2)) 8))≤(w64 (r23.1 - x2)))) r23.2.1)) else ((Q128.f k2 r23.2.2 (w64 (r23.1+1)) x3 x8).bind fun r25=>(Q128.l0 k2 r25 x2 r23.1 x8 (decide ((w64 (Int.tdiv (w64 (x3 - x2)) 8))≤(w64 (x3 - r23.1)))) r23.2.1)))))) else none) else none) else ((Q127.f k2 x7 x2 x3 r3.1).bind fun r26=>(if (decide ((w64 (r26.1 - x2))<(w64 (x3 - r26.1))))=true then ((Q128.f k2 r26.2.2 x2 r26.1 x8).bind fun r27=>(Q128.l0 k2 r27 (w64 (r26.1+1)) x3 x8 (decide ((w64 (Int.tdiv (w64 (x3 - x2)) 8))≤(w64 (r26.1 - x2)))) r26.2.1)) else ((Q128.f k2 r26.2.2 (w64 (r26.1+1)) x3 x8).bind fun r28=>(Q128.l0 k2 r28 x2 r26.1 x8 (decide ((w64 (Int.tdiv (w64 (x3 - x2)) 8))≤(w64 (x3 - r26.1)))) r26.2.1))))))))=some r∧k2≤k1∧x7.length=a0.length) ?_ ?_
 ·refine jIf H (fun c20 H=>?_) fun c20 H=>?_
  ·refine J.seq (J.region ?_)
   refine Zh 3 ?_
   obtain ⟨r30,q55,H⟩:=Zn H
   refine Ze (Zf [0] (Q117.spec q55) h1 rfl Zs) ?_
   rintro _ w37 ⟨_,⟨rfl,rfl,q56⟩,h56⟩
   replace h56:=nf h56
   have e33:r30.length=a0.length:=q56.trans e1
   refine Zi [0,1,2,3,8,9,10] rfl ?_
   refine J.envEq (env':=[(0,.slice A1 r30.length c_1),(1,.int .i64 x2),(2,.int .i64 x3),(3,.int .i64 x4),(8,.bool x5),(9,.bool x6),(10,.int .i64 (w64 (x3 - x2)))]) (by simp only [q56,List.length_nil] <;> rfl) ?_
   refine Zc [0,1,2,3,8,9,10] ?_
   have h57:=(sOR h56 [0] [])
   exact ⟨k1,r30,(w64 (x4 - 1)),rfl,h57,H,Nat.le_refl _,e33⟩
  refine Y7 [0,1,2,3,8,9,10] ?_
  refine J.skip ?_
  have h58:=(sOR h1 [0] [])
  exact ⟨k1,x1,x4,rfl,h58,H,Nat.le_refl _,e1⟩
 rintro env w5 ⟨k2,x7,x8,rfl,h4,H,hk2,e4⟩
 refine J.seq (J.region ?_)
 refine Zh 3 ?_
 obtain ⟨r3,q5,H⟩:=Zn H
 refine Ze (Zf [] (Q118.spec q5) h4 rfl (Z0 (gO 0) Zs)) ?_
 rintro _ w6 ⟨_,⟨rfl,rfl⟩,h5⟩
 replace h5:=nf h5
 refine Zi [0,1,2,3,8,9,10,11,12] rfl ?_
 refine J.seq (J.seq (Zc [0,1,2,3,8,9,10,11,12,50] ?_))
 refine J.midS (fun env w=>∃(k3:Nat) (x9:List (Int)) (x10:Int) (x11:Int),env=[(0,.slice A1 x9.length c_1),(1,.int .i64 x2),(2,.int .i64 x3),(3,.int .i64 x8),(8,.bool x5),(9,.bool x6),(10,.int .i64 (w64 (x3 - x2))),(11,.int .i64 x10),(12,.int .i64 x11)]∧St w0 F0 [O33 x9 A1 c_1] [] w∧(if x5=true then (if x6=true then (if (decide (x11=1))=true then ((Q125.f k3 x9 x2 x3).bind fun r12=>(if r12.1=true then (some r12.2) else (if (decide (0<x2))=true then (if 0≤(w64 (x2 - 1))∧(w64 (x2 - 1))<(r12.2.length:Int) then (if 0≤x10∧x10<(r12.2.length:Int) then ((Q32.f (gt r12.2 (w64 (x2 - 1))) (gt r12.2 x10)).bind fun r4=>(if (!r4)=true then ((Q126.f k3 r12.2 x2 x3 x10).bind fun r5=>(Q128.l0 k3 r5.2 r5.1 x3 x8 x5 x6)) else ((Q127.f k3 r12.2 x2 x3 x10).bind fun r6=>(if (decide ((w64 (r6.1 - x2))<(w64 (x3 - r6.1))))=true then ((Q128.f k3 r6.2.2 x2 r6.1 x8).bind fun r7=>(Q128.l0 k3 r7 (w64 (r6.1+1)) x3 x8 (decide ((w64 (Int.tdiv (w64 (x3 - x2)) 8))≤(w64 (r6.1 - x2)))) r6.2.1)) else ((Q128.f k3 r6.2.2 (w64 (r6.1+1)) x3 x8).bind fun r8=>(Q128.l0 k3 r8 x2 r6.1 x8 (decide ((w64 (Int.tdiv (w64 (x3 - x2)) 8))≤(w64 (x3 - r6.1)))) r6.2.1)))))) else none) else none) else ((Q127.f k3 r12.2 x2 x3 x10).bind fun r9=>(if (decide ((w64 (r9.1 - x2))<(w64 (x3 - r9.1))))=true then ((Q128.f k3 r9.2.2 x2 r9.1 x8).bind fun r10=>(Q128.l0 k3 r10 (w64 (r9.1+1)) x3 x8 (decide ((w64 (Int.tdiv (w64 (x3 - x2)) 8))≤(w64 (r9.1 - x2)))) r9.2.1)) else ((Q128.f k3 r9.2.2 (w64 (r9.1+1)) x3 x8).bind fun r11=>(Q128.l0 k3 r11 x2 r9.1 x8 (decide ((w64 (Int.tdiv (w64 (x3 - x2)) 8))≤(w64 (x3 - r9.1)))) r9.2.1))))))) else (if (decide (0<x2))=true then (if 0≤(w64 (x2 - 1))∧(w64 (x2 - 1))<(x9.length:Int) then (if 0≤x10∧x10<(x9.length:Int) then ((Q32.f (gt x9 (w64 (x2 - 1))) (gt x9 x10)).bind fun r4=>(if (!r4)=true then ((Q126.f k3 x9 x2 x3 x10).bind fun r5=>(Q128.l0 k3 r5.2 r5.1 x3 x8 x5 x6)) else ((Q127.f k3 x9 x2 x3 x10).bind fun r6=>(if (decide ((w64 (r6.1 - x2))<(w64 (x3 - r6.1))))=true then ((Q128.f k3 r6.2.2 x2 r6.1 x8).bind fun r7=>(Q128.l0 k3 r7 (w64 (r6.1+1)) x3 x8 (decide ((w64 (Int.tdiv (w64 (x3 - x2)) 8))≤(w64 (r6.1 - x2)))) r6.2.1)) else ((Q128.f k3 r6.2.2 (w64 (r6.1+1)) x3 x8).bind fun r8=>(Q128.l0 k3 r8 x2 r6.1 x8 (decide ((w64 (Int.tdiv (w64 (x3 - x2)) 8))≤(w64 (x3 - r6.1)))) r6.2.1)))))) else none) else none) else ((Q127.f k3 x9 x2 x3 x10).bind fun r9=>(if (decide ((w64 (r9.1 - x2))<(w64 (x3 - r9.1))))=true then ((Q128.f k3 r9.2.2 x2 r9.1 x8).bind fun r10=>(Q128.l0 k3 r10 (w64 (r9.1+1)) x3 x8 (decide ((w64 (Int.tdiv (w64 (x3 - x2)) 8))≤(w64 (r9.1 - x2)))) r9.2.1)) else ((Q128.f k3 r9.2.2 (w64 (r9.1+1)) x3 x8).bind fun r11=>(Q128.l0 k3 r11 x2 r9.1 x8 (decide ((w64 (Int.tdiv (w64 (x3 - x2)) 8))≤(w64 (x3 - r9.1)))) r9.2.1)))))) else (if (decide (0<x2))=true then (if 0≤(w64 (x2 - 1))∧(w64 (x2 - 1))<(x9.length:Int) then (if 0≤x10∧x10<(x9.length:Int) then ((Q32.f (gt x9 (w64 (x2 - 1))) (gt x9 x10)).bind fun r13=>(if (!r13)=true then ((Q126.f k3 x9 x2 x3 x10).bind fun r14=>(Q128.l0 k3 r14.2 r14.1 x3 x8 x5 x6)) else ((Q127.f k3 x9 x2 x3 x10).bind fun r15=>(if (decide ((w64 (r15.1 - x2))<(w64 (x3 - r15.1))))=true then ((Q128.f k3 r15.2.2 x2 r15.1 x8).bind fun r16=>(Q128.l0 k3 r16 (w64 (r15.1+1)) x3 x8 (decide ((w64 (Int.tdiv (w64 (x3 - x2)) 8))≤(w64 (r15.1 - x2)))) r15.2.1)) else ((Q128.f k3 r15.2.2 (w64 (r15.1+1)) x3 x8).bind fun r17=>(Q128.l0 k3 r17 x2 r15.1 x8 (decide ((w64 (Int.tdiv (w64 (x3 - x2)) 8))≤(w64 (x3 - r15.1)))) r15.2.1)))))) else none) else none) else ((Q127.f k3 x9 x2 x3 x10).bind fun r18=>(if (decide ((w64 (r18.1 - x2))<(w64 (x3 - r18.1))))=true then ((Q128.f k3 r18.2.2 x2 r18.1 x8).bind fun r19=>(Q128.l0 k3 r19 (w64 (r18.1+1)) x3 x8 (decide ((w64 (Int.tdiv (w64 (x3 - x2)) 8))≤(w64 (r18.1 - x2)))) r18.2.1)) else ((Q128.f k3 r18.2.2 (w64 (r18.1+1)) x3 x8).bind fun r20=>(Q128.l0 k3 r20 x2 r18.1 x8 (decide ((w64 (Int.tdiv (w64 (x3 - x2)) 8))≤(w64 (x3 - r18.1)))) r18.2.1)))))) else (if (decide (0<x2))=true then (if 0≤(w64 (x2 - 1))∧(w64 (x2 - 1))<(x9.length:Int) then (if 0≤x10∧x10<(x9.length:Int) then ((Q32.f (gt x9 (w64 (x2 - 1))) (gt x9 x10)).bind fun r21=>(if (!r21)=true then ((Q126.f k3 x9 x2 x3 x10).bind fun r22=>(Q128.l0 k3 r22.2 r22.1 x3 x8 x5 x6)) else ((Q127.f k3 x9 x2 x3 x10).bind fun r23=>(if (decide ((w64 (r23.1 - x2))<(w64 (x3 - r23.1))))=true then ((Q128.f k3 r23.2.2 x2 r23.1 x8).bind fun r24=>(Q128.l0 k3 r24 (w64 (r23.1+1)) x3 x8 (decide ((w64 (Int.tdiv (w64 (x3 - x2)) 8))≤(w64 (r23.1 - x2)))) r23.2.1)) else ((Q128.f k3 r23.2.2 (w64 (r23.1+1)) x3 x8).bind fun r25=>(Q128.l0 k3 r25 x2 r23.1 x8 (decide ((w64 (Int.tdiv (w64 (x3 - x2)) 8))≤(w64 (x3 - r23.1)))) r23.2.1)))))) else none) else none) else ((Q127.f k3 x9 x2 x3 x10).bind fun r26=>(if (decide ((w64 (r26.1 - x2))<(w64 (x3 - r26.1))))=true then ((Q128.f k3 r26.2.2 x2 r26.1 x8).bind fun r27=>(Q128.l0 k3 r27 (w64 (r26.1+1)) x3 x8 (decide ((w64 (Int.tdiv (w64 (x3 - x2)) 8))≤(w64 (r26.1 - x2)))) r26.2.1)) else ((Q128.f k3 r26.2.2 (w64 (r26.1+1)) x3 x8).bind fun r28=>(Q128.l0 k3 r28 x2 r26.1 x8 (decide ((w64 (Int.tdiv (w64 (x3 - x2)) 8))≤(w64 (x3 - r26.1)))) r26.2.1))))))=some r∧k3≤k2∧x9.length=a0.length) ?_ ?_
 ·refine jIf H (fun c19 H=>?_) fun c19 H=>?_
  ·refine J.seq (J.region ?_)
   refine Zh 3 ?_
   obtain ⟨r29,q53,H⟩:=Zn H
   refine Ze (Zf [0] (Q129.spec q53) h5 rfl Zs) ?_
   rintro _ w36 ⟨_,⟨rfl,rfl,q54⟩,h53⟩
   replace h53:=nf h53
   have e32:r29.length=a0.length:=q54.trans e4
   refine Zi [0,1,2,3,8,9,10,11] rfl ?_
   refine J.envEq (env':=[(0,.slice A1 r29.length c_1),(1,.int .i64 x2),(2,.int .i64 x3),(3,.int .i64 x8),(8,.bool x5),(9,.bool x6),(10,.int .i64 (w64 (x3 - x2))),(11,.int .i64 r3.1)]) (by simp only [q54,List.length_nil] <;> rfl) ?_
   refine J.seq (Zc [0,1,2,3,8,9,10,11] ?_)
   refine Zc [0,1,2,3,8,9,10,11,12] ?_
   have h54:=(sOR h53 [0] [])
   exact ⟨k2,r29,(w64 ((w64 (x3 - 1)) - (w64 (r3.1 - x2)))),1,rfl,h54,H,Nat.le_refl _,e32⟩
  refine Y7 [0,1,2,3,8,9,10,11,12] ?_
  refine J.skip ?_
  have h55:=(sOR h5 [0] [])
  exact ⟨k2,x7,r3.1,r3.2,rfl,h55,H,Nat.le_refl _,e4⟩
 rintro env w8 ⟨k3,x9,x10,x11,rfl,h6,H,hk3,e5⟩
 refine J.seq (J.seq (J.region ?_))
 refine Zh 2 ?_
 refine Z7 62 H (fun c3 H=>?_) fun c3 H=>?_
 ·refine Zh 3 ?_
  refine Z7 65 H (fun c4 H=>?_) fun c4 H=>?_
  ·refine Zi [0,1,2,3,8,9,10,11,68] rfl ?_
   refine J.midS (fun env w=>∃(k4:Nat) (x12:List (Int)),env=[(0,.slice A1 x12.length c_1),(1,.int .i64 x2),(2,.int .i64 x3),(3,.int .i64 x8),(8,.bool x5),(9,.bool x6),(10,.int .i64 (w64 (x3 - x2))),(11,.int .i64 x10)]∧St w0 F0 [O33 x12 A1 c_1] [] w∧(if (decide (0<x2))=true then (if 0≤(w64 (x2 - 1))∧(w64 (x2 - 1))<(x12.length:Int) then (if 0≤x10∧x10<(x12.length:Int) then ((Q32.f (gt x12 (w64 (x2 - 1))) (gt x12 x10)).bind fun r4=>(if (!r4)=true then ((Q126.f k4 x12 x2 x3 x10).bind fun r5=>(Q128.l0 k4 r5.2 r5.1 x3 x8 x5 x6)) else ((Q127.f k4 x12 x2 x3 x10).bind fun r6=>(if (decide ((w64 (r6.1 - x2))<(w64 (x3 - r6.1))))=true then ((Q128.f k4 r6.2.2 x2 r6.1 x8).bind fun r7=>(Q128.l0 k4 r7 (w64 (r6.1+1)) x3 x8 (decide ((w64 (Int.tdiv (w64 (x3 - x2)) 8))≤(w64 (r6.1 - x2)))) r6.2.1)) else ((Q128.f k4 r6.2.2 (w64 (r6.1+1)) x3 x8).bind fun r8=>(Q128.l0 k4 r8 x2 r6.1 x8 (decide ((w64 (Int.tdiv (w64 (x3 - x2)) 8))≤(w64 (x3 - r6.1)))) r6.2.1)))))) else none) else none) else ((Q127.f k4 x12 x2 x3 x10).bind fun r9=>(if (decide ((w64 (r9.1 - x2))<(w64 (x3 - r9.1))))=true then ((Q128.f k4 r9.2.2 x2 r9.1 x8).bind fun r10=>(Q128.l0 k4 r10 (w64 (r9.1+1)) x3 x8 (decide ((w64 (Int.tdiv (w64 (x3 - x2)) 8))≤(w64 (r9.1 - x2)))) r9.2.1)) else ((Q128.f k4 r9.2.2 (w64 (r9.1+1)) x3 x8).bind fun r11=>(Q128.l0 k4 r11 x2 r9.1 x8 (decide ((w64 (Int.tdiv (w64 (x3 - x2)) 8))≤(w64 (x3 - r9.1)))) r9.2.1)))))=some r∧k4≤k3∧x12.length=a0.length) ?_ ?_
   ·refine jIf H (fun c9 H=>?_) fun c9 H=>?_
    ·refine J.seq (J.region ?_)
     refine Zh 3 ?_
     obtain ⟨r12,q21,H⟩:=Zn H
     refine Ze (Zf [0] (Q125.spec q21) h6 rfl Zs) ?_
     rintro _ w19 ⟨_,⟨rfl,rfl,q22⟩,h22⟩
     replace h22:=nf h22
     have e15:r12.2.length=a0.length:=q22.trans e5
     refine Zi [0,1,2,3,8,9,10,11,72] rfl ?_
     refine J.envEq (env':=[(0,.slice A1 r12.2.length c_1),(1,.int .i64 x2),(2,.int .i64 x3),(3,.int .i64 x8),(8,.bool x5),(9,.bool x6),(10,.int .i64 (w64 (x3 - x2))),(11,.int .i64 x10),(72,.bool r12.1)]) (by simp only [q22,List.length_nil] <;> rfl) ?_
     refine jIf H (fun c10 H=>?_) fun c10 H=>?_
     ·refine J.ret ?_
      cases H
      exact ⟨_,_,_,Za,⟨rfl,rfl,e15⟩,Zb h22 [0]⟩
     refine Y7 [0,1,2,3,8,9,10,11] ?_
     refine J.skip ?_
     have h23:=(sOR h22 [0] [])
     exact ⟨k3,r12.2,rfl,h23,H,Nat.le_refl _,e15⟩
    refine Y7 [0,1,2,3,8,9,10,11] ?_
    refine J.skip ?_
    have h24:=(sOR h6 [0] [])
    exact ⟨k3,x9,rfl,h24,H,Nat.le_refl _,e5⟩
   rintro env w10 ⟨k4,x12,rfl,h7,H,hk4,e6⟩
   refine J.seq (J.seq ?_)
   refine Zv h7 ?_
   have h8:=h7.drew
   refine Zu [0,1,2] ?_
   refine Yh 75 H (fun c5 H=>?_) fun c5 H=>?_
   ·refine Zu [3,4,5,8,9] ?_
    obtain ⟨⟨p1,p2⟩,H⟩:=Zt H
    have e7:=Z6 h8.wh (gO 0) p1 p2
    refine Zj 6 rfl (Zk e7 p1 p2) ?_
    refine Zj 7 rfl (Zl 0 wI (gO 0) p1 p2) ?_
    obtain ⟨⟨p3,p4⟩,H⟩:=Zt H
    refine Zj 10 rfl (Zk e7 p3 p4) ?_
    refine Zj 11 rfl (Zl 0 wI (gO 0) p3 p4) ?_
    obtain ⟨r4,q6,H⟩:=Zn H
    refine Zq 12 rfl (Zf [] (Q32.spec q6) h8 rfl Zs) ?_
    rintro _ w11 ⟨_,⟨rfl,rfl⟩,h9⟩
    replace h9:=nf h9
    refine ⟨⟨[],h9⟩,?_⟩
    refine Zu [13,14] ?_
    refine Zw [0,1,2,3,8,9,10,11,87] ?_
    refine jIf H (fun c6 H=>?_) fun c6 H=>?_
    ·refine J.seq (J.region ?_)
     refine Zh 4 ?_
     obtain ⟨r5,q7,H⟩:=Zn H
     refine Ze (Zf [0] (Q126.spec q7) h9 rfl Zs) ?_
     rintro _ w12 ⟨_,⟨rfl,rfl,q8⟩,h10⟩
     replace h10:=nf h10
     have e8:r5.2.length=a0.length:=q8.trans e6
     refine Zi [0,2,3,8,9,13] rfl ?_
     refine J.envEq (env':=[(0,.slice A1 r5.2.length c_1),(2,.int .i64 x3),(3,.int .i64 x8),(8,.bool x5),(9,.bool x6),(13,.int .i64 r5.1)]) (by simp only [q8,List.length_nil] <;> rfl) ?_
     refine J.seq (Zc [0,1,2,3,8,9] ?_)
     refine J.exit ?_
     have h11:=(sOR h10 [0] [])
     exact ⟨k4,by omega,r5.2,r5.1,x3,x8,x5,x6,rfl,h11,H,by omega,e8⟩
    refine J.skip (J.seq (J.region ?_))
    refine Zh 4 ?_
    obtain ⟨r6,q9,H⟩:=Zn H
    refine Ze (Zf [0] (Q127.spec q9) h9 rfl Zs) ?_
    rintro _ w13 ⟨_,⟨rfl,rfl,q10⟩,h12⟩
    replace h12:=nf h12
    have e9:r6.2.2.length=a0.length:=q10.trans e6
    refine Zi [0,1,2,3,10,14,15] rfl ?_
    refine J.envEq (env':=[(0,.slice A1 r6.2.2.length c_1),(1,.int .i64 x2),(2,.int .i64 x3),(3,.int .i64 x8),(10,.int .i64 (w64 (x3 - x2))),(14,.int .i64 r6.1),(15,.bool r6.2.1)]) (by simp only [q10,List.length_nil] <;> rfl) ?_
    refine J.seq (Zc [0,1,2,3,9,10,14] ?_)
    refine J.seq (Zc [0,1,2,3,9,10,14,16,17] ?_)
    refine J.seq (Zc [0,1,2,3,9,14,16,17,18] ?_)
    refine J.seq (Zc [0,1,2,3,9,14,16,17,18,113] ?_)
    refine jIf H (fun c7 H=>?_) fun c7 H=>?_
    ·refine J.seq (Zc [0,1,2,3,8,9,14] ?_)
     refine J.seq (J.region ?_)
     refine Zh 4 ?_
     obtain ⟨r7,q11,H⟩:=Zn H
     refine Ze (Zf [0] (ih k4 (by omega) q11) h12 rfl Zs) ?_
     rintro _ w14 ⟨_,⟨rfl,rfl,q12⟩,h13⟩
     replace h13:=nf h13
     have e10:r7.length=a0.length:=q12.trans e9
     refine Zi [0,2,3,8,9,14] rfl ?_
     refine J.envEq (env':=[(0,.slice A1 r7.length c_1),(2,.int .i64 x3),(3,.int .i64 x8),(8,.bool (decide ((w64 (Int.tdiv (w64 (x3 - x2)) 8))≤(w64 (r6.1 - x2))))),(9,.bool r6.2.1),(14,.int .i64 r6.1)]) (by simp only [q12,List.length_nil] <;> rfl) ?_
     refine Zc [0,1,2,3,8,9] ?_
     have h14:=(sOR h13 [0] [])
     exact ⟨k4,by omega,r7,(w64 (r6.1+1)),x3,x8,(decide ((w64 (Int.tdiv (w64 (x3 - x2)) 8))≤(w64 (r6.1 - x2)))),r6.2.1,rfl,h14,H,by omega,e10⟩
    refine J.seq (Zc [0,1,2,3,8,9,14] ?_)
    refine J.seq (J.region ?_)
    refine Zh 5 ?_
    obtain ⟨r8,q13,H⟩:=Zn H
    refine Ze (Zf [0] (ih k4 (by omega) q13) h12 rfl Zs) ?_
    rintro _ w15 ⟨_,⟨rfl,rfl,q14⟩,h15⟩
    replace h15:=nf h15
    have e11:r8.length=a0.length:=q14.trans e9
    refine Zi [0,1,3,8,9,14] rfl ?_
    refine J.envEq (env':=[(0,.slice A1 r8.length c_1),(1,.int .i64 x2),(3,.int .i64 x8),(8,.bool (decide ((w64 (Int.tdiv (w64 (x3 - x2)) 8))≤(w64 (x3 - r6.1))))),(9,.bool r6.2.1),(14,.int .i64 r6.1)]) (by simp only [q14,List.length_nil] <;> rfl) ?_
    refine Zc [0,1,2,3,8,9] ?_
    have h16:=(sOR h15 [0] [])
    exact ⟨k4,by omega,r8,x2,r6.1,x8,(decide ((w64 (Int.tdiv (w64 (x3 - x2)) 8))≤(w64 (x3 - r6.1)))),r6.2.1,rfl,h16,H,by omega,e11⟩
   refine Zu [3,4,5,6,7,8,9,10,11,12,13,14] ?_
   refine Zw [0,1,2,3,8,9,10,11,87] ?_
   refine Zz ?_
   refine J.skip (J.seq (J.region ?_))
   refine Zh 4 ?_
   obtain ⟨r9,q15,H⟩:=Zn H
   refine Ze (Zf [0] (Q127.spec q15) h8 rfl Zs) ?_
   rintro _ w16 ⟨_,⟨rfl,rfl,q16⟩,h17⟩
   replace h17:=nf h17
   have e12:r9.2.2.length=a0.length:=q16.trans e6
   refine Zi [0,1,2,3,10,14,15] rfl ?_
   refine J.envEq (env':=[(0,.slice A1 r9.2.2.length c_1),(1,.int .i64 x2),(2,.int .i64 x3),(3,.int .i64 x8),(10,.int .i64 (w64 (x3 - x2))),(14,.int .i64 r9.1),(15,.bool r9.2.1)]) (by simp only [q16,List.length_nil] <;> rfl) ?_
   refine J.seq (Zc [0,1,2,3,9,10,14] ?_)
   refine J.seq (Zc [0,1,2,3,9,10,14,16,17] ?_)
   refine J.seq (Zc [0,1,2,3,9,14,16,17,18] ?_)
   refine J.seq (Zc [0,1,2,3,9,14,16,17,18,113] ?_)
   refine jIf H (fun c8 H=>?_) fun c8 H=>?_
   ·refine J.seq (Zc [0,1,2,3,8,9,14] ?_)
    refine J.seq (J.region ?_)
    refine Zh 4 ?_
    obtain ⟨r10,q17,H⟩:=Zn H
    refine Ze (Zf [0] (ih k4 (by omega) q17) h17 rfl Zs) ?_
    rintro _ w17 ⟨_,⟨rfl,rfl,q18⟩,h18⟩
    replace h18:=nf h18
    have e13:r10.length=a0.length:=q18.trans e12
    refine Zi [0,2,3,8,9,14] rfl ?_
    refine J.envEq (env':=[(0,.slice A1 r10.length c_1),(2,.int .i64 x3),(3,.int .i64 x8),(8,.bool (decide ((w64 (Int.tdiv (w64 (x3 - x2)) 8))≤(w64 (r9.1 - x2))))),(9,.bool r9.2.1),(14,.int .i64 r9.1)]) (by simp only [q18,List.length_nil] <;> rfl) ?_
    refine Zc [0,1,2,3,8,9] ?_
    have h19:=(sOR h18 [0] [])
    exact ⟨k4,by omega,r10,(w64 (r9.1+1)),x3,x8,(decide ((w64 (Int.tdiv (w64 (x3 - x2)) 8))≤(w64 (r9.1 - x2)))),r9.2.1,rfl,h19,H,by omega,e13⟩
   refine J.seq (Zc [0,1,2,3,8,9,14] ?_)
   refine J.seq (J.region ?_)
   refine Zh 5 ?_
   obtain ⟨r11,q19,H⟩:=Zn H
   refine Ze (Zf [0] (ih k4 (by omega) q19) h17 rfl Zs) ?_
   rintro _ w18 ⟨_,⟨rfl,rfl,q20⟩,h20⟩
   replace h20:=nf h20
   have e14:r11.length=a0.length:=q20.trans e12
   refine Zi [0,1,3,8,9,14] rfl ?_
   refine J.envEq (env':=[(0,.slice A1 r11.length c_1),(1,.int .i64 x2),(3,.int .i64 x8),(8,.bool (decide ((w64 (Int.tdiv (w64 (x3 - x2)) 8))≤(w64 (x3 - r9.1))))),(9,.bool r9.2.1),(14,.int .i64 r9.1)]) (by simp only [q20,List.length_nil] <;> rfl) ?_
   refine Zc [0,1,2,3,8,9] ?_
   have h21:=(sOR h20 [0] [])
   exact ⟨k4,by omega,r11,x2,r9.1,x8,(decide ((w64 (Int.tdiv (w64 (x3 - x2)) 8))≤(w64 (x3 - r9.1)))),r9.2.1,rfl,h21,H,by omega,e14⟩
  refine Zi [0,1,2,3,8,9,10,11,68] rfl ?_
  refine Zz ?_
  refine J.skip (J.seq (J.seq ?_))
  refine Zv h6 ?_
  have h25:=h6.drew
  refine Zu [0,1,2] ?_
  refine Yh 75 H (fun c11 H=>?_) fun c11 H=>?_
  ·refine Zu [3,4,5,8,9] ?_
   obtain ⟨⟨p5,p6⟩,H⟩:=Zt H
   have e16:=Z6 h25.wh (gO 0) p5 p6
   refine Zj 6 rfl (Zk e16 p5 p6) ?_
   refine Zj 7 rfl (Zl 0 wI (gO 0) p5 p6) ?_
   obtain ⟨⟨p7,p8⟩,H⟩:=Zt H
   refine Zj 10 rfl (Zk e16 p7 p8) ?_
   refine Zj 11 rfl (Zl 0 wI (gO 0) p7 p8) ?_
   obtain ⟨r13,q23,H⟩:=Zn H
   refine Zq 12 rfl (Zf [] (Q32.spec q23) h25 rfl Zs) ?_
   rintro _ w20 ⟨_,⟨rfl,rfl⟩,h26⟩
   replace h26:=nf h26
   refine ⟨⟨[],h26⟩,?_⟩
   refine Zu [13,14] ?_
   refine Zw [0,1,2,3,8,9,10,11,87] ?_
   refine jIf H (fun c12 H=>?_) fun c12 H=>?_
   ·refine J.seq (J.region ?_)
    refine Zh 4 ?_
    obtain ⟨r14,q24,H⟩:=Zn H
    refine Ze (Zf [0] (Q126.spec q24) h26 rfl Zs) ?_
    rintro _ w21 ⟨_,⟨rfl,rfl,q25⟩,h27⟩
    replace h27:=nf h27
    have e17:r14.2.length=a0.length:=q25.trans e5
    refine Zi [0,2,3,8,9,13] rfl ?_
    refine J.envEq (env':=[(0,.slice A1 r14.2.length c_1),(2,.int .i64 x3),(3,.int .i64 x8),(8,.bool x5),(9,.bool x6),(13,.int .i64 r14.1)]) (by simp only [q25,List.length_nil] <;> rfl) ?_
    refine J.seq (Zc [0,1,2,3,8,9] ?_)
    refine J.exit ?_
    have h28:=(sOR h27 [0] [])
    exact ⟨k3,by omega,r14.2,r14.1,x3,x8,x5,x6,rfl,h28,H,by omega,e17⟩
   refine J.skip (J.seq (J.region ?_))
   refine Zh 4 ?_
   obtain ⟨r15,q26,H⟩:=Zn H
   refine Ze (Zf [0] (Q127.spec q26) h26 rfl Zs) ?_
   rintro _ w22 ⟨_,⟨rfl,rfl,q27⟩,h29⟩
   replace h29:=nf h29
   have e18:r15.2.2.length=a0.length:=q27.trans e5
   refine Zi [0,1,2,3,10,14,15] rfl ?_
   refine J.envEq (env':=[(0,.slice A1 r15.2.2.length c_1),(1,.int .i64 x2),(2,.int .i64 x3),(3,.int .i64 x8),(10,.int .i64 (w64 (x3 - x2))),(14,.int .i64 r15.1),(15,.bool r15.2.1)]) (by simp only [q27,List.length_nil] <;> rfl) ?_
   refine J.seq (Zc [0,1,2,3,9,10,14] ?_)
   refine J.seq (Zc [0,1,2,3,9,10,14,16,17] ?_)
   refine J.seq (Zc [0,1,2,3,9,14,16,17,18] ?_)
   refine J.seq (Zc [0,1,2,3,9,14,16,17,18,113] ?_)
   refine jIf H (fun c13 H=>?_) fun c13 H=>?_
   ·refine J.seq (Zc [0,1,2,3,8,9,14] ?_)
    refine J.seq (J.region ?_)
    refine Zh 4 ?_
    obtain ⟨r16,q28,H⟩:=Zn H
    refine Ze (Zf [0] (ih k3 (by omega) q28) h29 rfl Zs) ?_
    rintro _ w23 ⟨_,⟨rfl,rfl,q29⟩,h30⟩
    replace h30:=nf h30
    have e19:r16.length=a0.length:=q29.trans e18
    refine Zi [0,2,3,8,9,14] rfl ?_
    refine J.envEq (env':=[(0,.slice A1 r16.length c_1),(2,.int .i64 x3),(3,.int .i64 x8),(8,.bool (decide ((w64 (Int.tdiv (w64 (x3 - x2)) 8))≤(w64 (r15.1 - x2))))),(9,.bool r15.2.1),(14,.int .i64 r15.1)]) (by simp only [q29,List.length_nil] <;> rfl) ?_
    refine Zc [0,1,2,3,8,9] ?_
    have h31:=(sOR h30 [0] [])
    exact ⟨k3,by omega,r16,(w64 (r15.1+1)),x3,x8,(decide ((w64 (Int.tdiv (w64 (x3 - x2)) 8))≤(w64 (r15.1 - x2)))),r15.2.1,rfl,h31,H,by omega,e19⟩
   refine J.seq (Zc [0,1,2,3,8,9,14] ?_)
   refine J.seq (J.region ?_)
   refine Zh 5 ?_
   obtain ⟨r17,q30,H⟩:=Zn H
   refine Ze (Zf [0] (ih k3 (by omega) q30) h29 rfl Zs) ?_
   rintro _ w24 ⟨_,⟨rfl,rfl,q31⟩,h32⟩
   replace h32:=nf h32
   have e20:r17.length=a0.length:=q31.trans e18
   refine Zi [0,1,3,8,9,14] rfl ?_
   refine J.envEq (env':=[(0,.slice A1 r17.length c_1),(1,.int .i64 x2),(3,.int .i64 x8),(8,.bool (decide ((w64 (Int.tdiv (w64 (x3 - x2)) 8))≤(w64 (x3 - r15.1))))),(9,.bool r15.2.1),(14,.int .i64 r15.1)]) (by simp only [q31,List.length_nil] <;> rfl) ?_
   refine Zc [0,1,2,3,8,9] ?_
   have h33:=(sOR h32 [0] [])
   exact ⟨k3,by omega,r17,x2,r15.1,x8,(decide ((w64 (Int.tdiv (w64 (x3 - x2)) 8))≤(w64 (x3 - r15.1)))),r15.2.1,rfl,h33,H,by omega,e20⟩
  refine Zu [3,4,5,6,7,8,9,10,11,12,13,14] ?_
  refine Zw [0,1,2,3,8,9,10,11,87] ?_
  refine Zz ?_
  refine J.skip (J.seq (J.region ?_))
  refine Zh 4 ?_
  obtain ⟨r18,q32,H⟩:=Zn H
  refine Ze (Zf [0] (Q127.spec q32) h25 rfl Zs) ?_
  rintro _ w25 ⟨_,⟨rfl,rfl,q33⟩,h34⟩
  replace h34:=nf h34
  have e21:r18.2.2.length=a0.length:=q33.trans e5
  refine Zi [0,1,2,3,10,14,15] rfl ?_
  refine J.envEq (env':=[(0,.slice A1 r18.2.2.length c_1),(1,.int .i64 x2),(2,.int .i64 x3),(3,.int .i64 x8),(10,.int .i64 (w64 (x3 - x2))),(14,.int .i64 r18.1),(15,.bool r18.2.1)]) (by simp only [q33,List.length_nil] <;> rfl) ?_
  refine J.seq (Zc [0,1,2,3,9,10,14] ?_)
  refine J.seq (Zc [0,1,2,3,9,10,14,16,17] ?_)
  refine J.seq (Zc [0,1,2,3,9,14,16,17,18] ?_)
  refine J.seq (Zc [0,1,2,3,9,14,16,17,18,113] ?_)
  refine jIf H (fun c14 H=>?_) fun c14 H=>?_
  ·refine J.seq (Zc [0,1,2,3,8,9,14] ?_)
   refine J.seq (J.region ?_)
   refine Zh 4 ?_
   obtain ⟨r19,q34,H⟩:=Zn H
   refine Ze (Zf [0] (ih k3 (by omega) q34) h34 rfl Zs) ?_
   rintro _ w26 ⟨_,⟨rfl,rfl,q35⟩,h35⟩
   replace h35:=nf h35
   have e22:r19.length=a0.length:=q35.trans e21
   refine Zi [0,2,3,8,9,14] rfl ?_
   refine J.envEq (env':=[(0,.slice A1 r19.length c_1),(2,.int .i64 x3),(3,.int .i64 x8),(8,.bool (decide ((w64 (Int.tdiv (w64 (x3 - x2)) 8))≤(w64 (r18.1 - x2))))),(9,.bool r18.2.1),(14,.int .i64 r18.1)]) (by simp only [q35,List.length_nil] <;> rfl) ?_
   refine Zc [0,1,2,3,8,9] ?_
   have h36:=(sOR h35 [0] [])
   exact ⟨k3,by omega,r19,(w64 (r18.1+1)),x3,x8,(decide ((w64 (Int.tdiv (w64 (x3 - x2)) 8))≤(w64 (r18.1 - x2)))),r18.2.1,rfl,h36,H,by omega,e22⟩
  refine J.seq (Zc [0,1,2,3,8,9,14] ?_)
  refine J.seq (J.region ?_)
  refine Zh 5 ?_
  obtain ⟨r20,q36,H⟩:=Zn H
  refine Ze (Zf [0] (ih k3 (by omega) q36) h34 rfl Zs) ?_
  rintro _ w27 ⟨_,⟨rfl,rfl,q37⟩,h37⟩
  replace h37:=nf h37
  have e23:r20.length=a0.length:=q37.trans e21
  refine Zi [0,1,3,8,9,14] rfl ?_
  refine J.envEq (env':=[(0,.slice A1 r20.length c_1),(1,.int .i64 x2),(3,.int .i64 x8),(8,.bool (decide ((w64 (Int.tdiv (w64 (x3 - x2)) 8))≤(w64 (x3 - r18.1))))),(9,.bool r18.2.1),(14,.int .i64 r18.1)]) (by simp only [q37,List.length_nil] <;> rfl) ?_
  refine Zc [0,1,2,3,8,9] ?_
  have h38:=(sOR h37 [0] [])
  exact ⟨k3,by omega,r20,x2,r18.1,x8,(decide ((w64 (Int.tdiv (w64 (x3 - x2)) 8))≤(w64 (x3 - r18.1)))),r18.2.1,rfl,h38,H,by omega,e23⟩
 refine Zi [0,1,2,3,8,9,10,11,68] rfl ?_
 refine Zz ?_
 refine J.skip (J.seq (J.seq ?_))
 refine Zv h6 ?_
 have h39:=h6.drew
 refine Zu [0,1,2] ?_
 refine Yh 75 H (fun c15 H=>?_) fun c15 H=>?_
 ·refine Zu [3,4,5,8,9] ?_
  obtain ⟨⟨p9,p10⟩,H⟩:=Zt H
  have e24:=Z6 h39.wh (gO 0) p9 p10
  refine Zj 6 rfl (Zk e24 p9 p10) ?_
  refine Zj 7 rfl (Zl 0 wI (gO 0) p9 p10) ?_
  obtain ⟨⟨p11,p12⟩,H⟩:=Zt H
  refine Zj 10 rfl (Zk e24 p11 p12) ?_
  refine Zj 11 rfl (Zl 0 wI (gO 0) p11 p12) ?_
  obtain ⟨r21,q38,H⟩:=Zn H
  refine Zq 12 rfl (Zf [] (Q32.spec q38) h39 rfl Zs) ?_
  rintro _ w28 ⟨_,⟨rfl,rfl⟩,h40⟩
  replace h40:=nf h40
  refine ⟨⟨[],h40⟩,?_⟩
  refine Zu [13,14] ?_
  refine Zw [0,1,2,3,8,9,10,11,87] ?_
  refine jIf H (fun c16 H=>?_) fun c16 H=>?_
  ·refine J.seq (J.region ?_)
   refine Zh 4 ?_
   obtain ⟨r22,q39,H⟩:=Zn H
   refine Ze (Zf [0] (Q126.spec q39) h40 rfl Zs) ?_
   rintro _ w29 ⟨_,⟨rfl,rfl,q40⟩,h41⟩
   replace h41:=nf h41
   have e25:r22.2.length=a0.length:=q40.trans e5
   refine Zi [0,2,3,8,9,13] rfl ?_
   refine J.envEq (env':=[(0,.slice A1 r22.2.length c_1),(2,.int .i64 x3),(3,.int .i64 x8),(8,.bool x5),(9,.bool x6),(13,.int .i64 r22.1)]) (by simp only [q40,List.length_nil] <;> rfl) ?_
   refine J.seq (Zc [0,1,2,3,8,9] ?_)
   refine J.exit ?_
   have h42:=(sOR h41 [0] [])
   exact ⟨k3,by omega,r22.2,r22.1,x3,x8,x5,x6,rfl,h42,H,by omega,e25⟩
  refine J.skip (J.seq (J.region ?_))
  refine Zh 4 ?_
  obtain ⟨r23,q41,H⟩:=Zn H
  refine Ze (Zf [0] (Q127.spec q41) h40 rfl Zs) ?_
  rintro _ w30 ⟨_,⟨rfl,rfl,q42⟩,h43⟩
  replace h43:=nf h43
  have e26:r23.2.2.length=a0.length:=q42.trans e5
  refine Zi [0,1,2,3,10,14,15] rfl ?_
  refine J.envEq (env':=[(0,.slice A1 r23.2.2.length c_1),(1,.int .i64 x2),(2,.int .i64 x3),(3,.int .i64 x8),(10,.int .i64 (w64 (x3 - x2))),(14,.int .i64 r23.1),(15,.bool r23.2.1)]) (by simp only [q42,List.length_nil] <;> rfl) ?_
  refine J.seq (Zc [0,1,2,3,9,10,14] ?_)
  refine J.seq (Zc [0,1,2,3,9,10,14,16,17] ?_)
  refine J.seq (Zc [0,1,2,3,9,14,16,17,18] ?_)
  refine J.seq (Zc [0,1,2,3,9,14,16,17,18,113] ?_)
  refine jIf H (fun c17 H=>?_) fun c17 H=>?_
  ·refine J.seq (Zc [0,1,2,3,8,9,14] ?_)
   refine J.seq (J.region ?_)
   refine Zh 4 ?_
   obtain ⟨r24,q43,H⟩:=Zn H
   refine Ze (Zf [0] (ih k3 (by omega) q43) h43 rfl Zs) ?_
   rintro _ w31 ⟨_,⟨rfl,rfl,q44⟩,h44⟩
   replace h44:=nf h44
   have e27:r24.length=a0.length:=q44.trans e26
   refine Zi [0,2,3,8,9,14] rfl ?_
   refine J.envEq (env':=[(0,.slice A1 r24.length c_1),(2,.int .i64 x3),(3,.int .i64 x8),(8,.bool (decide ((w64 (Int.tdiv (w64 (x3 - x2)) 8))≤(w64 (r23.1 - x2))))),(9,.bool r23.2.1),(14,.int .i64 r23.1)]) (by simp only [q44,List.length_nil] <;> rfl) ?_
   refine Zc [0,1,2,3,8,9] ?_
   have h45:=(sOR h44 [0] [])
   exact ⟨k3,by omega,r24,(w64 (r23.1+1)),x3,x8,(decide ((w64 (Int.tdiv (w64 (x3 - x2)) 8))≤(w64 (r23.1 - x2)))),r23.2.1,rfl,h45,H,by omega,e27⟩
  refine J.seq (Zc [0,1,2,3,8,9,14] ?_)
  refine J.seq (J.region ?_)
  refine Zh 5 ?_
  obtain ⟨r25,q45,H⟩:=Zn H
  refine Ze (Zf [0] (ih k3 (by omega) q45) h43 rfl Zs) ?_
  rintro _ w32 ⟨_,⟨rfl,rfl,q46⟩,h46⟩
  replace h46:=nf h46
  have e28:r25.length=a0.length:=q46.trans e26
  refine Zi [0,1,3,8,9,14] rfl ?_
  refine J.envEq (env':=[(0,.slice A1 r25.length c_1),(1,.int .i64 x2),(3,.int .i64 x8),(8,.bool (decide ((w64 (Int.tdiv (w64 (x3 - x2)) 8))≤(w64 (x3 - r23.1))))),(9,.bool r23.2.1),(14,.int .i64 r23.1)]) (by simp only [q46,List.length_nil] <;> rfl) ?_
  refine Zc [0,1,2,3,8,9] ?_
  have h47:=(sOR h46 [0] [])
  exact ⟨k3,by omega,r25,x2,r23.1,x8,(decide ((w64 (Int.tdiv (w64 (x3 - x2)) 8))≤(w64 (x3 - r23.1)))),r23.2.1,rfl,h47,H,by omega,e28⟩
 refine Zu [3,4,5,6,7,8,9,10,11,12,13,14] ?_
 refine Zw [0,1,2,3,8,9,10,11,87] ?_
 refine Zz ?_
 refine J.skip (J.seq (J.region ?_))
 refine Zh 4 ?_
 obtain ⟨r26,q47,H⟩:=Zn H
 refine Ze (Zf [0] (Q127.spec q47) h39 rfl Zs) ?_
 rintro _ w33 ⟨_,⟨rfl,rfl,q48⟩,h48⟩
 replace h48:=nf h48
 have e29:r26.2.2.length=a0.length:=q48.trans e5
 refine Zi [0,1,2,3,10,14,15] rfl ?_
 refine J.envEq (env':=[(0,.slice A1 r26.2.2.length c_1),(1,.int .i64 x2),(2,.int .i64 x3),(3,.int .i64 x8),(10,.int .i64 (w64 (x3 - x2))),(14,.int .i64 r26.1),(15,.bool r26.2.1)]) (by simp only [q48,List.length_nil] <;> rfl) ?_
 refine J.seq (Zc [0,1,2,3,9,10,14] ?_)
 refine J.seq (Zc [0,1,2,3,9,10,14,16,17] ?_)
 refine J.seq (Zc [0,1,2,3,9,14,16,17,18] ?_)
 refine J.seq (Zc [0,1,2,3,9,14,16,17,18,113] ?_)
 refine jIf H (fun c18 H=>?_) fun c18 H=>?_
 ·refine J.seq (Zc [0,1,2,3,8,9,14] ?_)
  refine J.seq (J.region ?_)
  refine Zh 4 ?_
  obtain ⟨r27,q49,H⟩:=Zn H
  refine Ze (Zf [0] (ih k3 (by omega) q49) h48 rfl Zs) ?_
  rintro _ w34 ⟨_,⟨rfl,rfl,q50⟩,h49⟩
  replace h49:=nf h49
  have e30:r27.length=a0.length:=q50.trans e29
  refine Zi [0,2,3,8,9,14] rfl ?_
  refine J.envEq (env':=[(0,.slice A1 r27.length c_1),(2,.int .i64 x3),(3,.int .i64 x8),(8,.bool (decide ((w64 (Int.tdiv (w64 (x3 - x2)) 8))≤(w64 (r26.1 - x2))))),(9,.bool r26.2.1),(14,.int .i64 r26.1)]) (by simp only [q50,List.length_nil] <;> rfl) ?_
  refine Zc [0,1,2,3,8,9] ?_
  have h50:=(sOR h49 [0] [])
  exact ⟨k3,by omega,r27,(w64 (r26.1+1)),x3,x8,(decide ((w64 (Int.tdiv (w64 (x3 - x2)) 8))≤(w64 (r26.1 - x2)))),r26.2.1,rfl,h50,H,by omega,e30⟩
 refine J.seq (Zc [0,1,2,3,8,9,14] ?_)
 refine J.seq (J.region ?_)
 refine Zh 5 ?_
 obtain ⟨r28,q51,H⟩:=Zn H
 refine Ze (Zf [0] (ih k3 (by omega) q51) h48 rfl Zs) ?_
 rintro _ w35 ⟨_,⟨rfl,rfl,q52⟩,h51⟩
 replace h51:=nf h51
 have e31:r28.length=a0.length:=q52.trans e29
 refine Zi [0,1,3,8,9,14] rfl ?_
 refine J.envEq (env':=[(0,.slice A1 r28.length c_1),(1,.int .i64 x2),(3,.int .i64 x8),(8,.bool (decide ((w64 (Int.tdiv (w64 (x3 - x2)) 8))≤(w64 (x3 - r26.1))))),(9,.bool r26.2.1),(14,.int .i64 r26.1)]) (by simp only [q52,List.length_nil] <;> rfl) ?_
 refine Zc [0,1,2,3,8,9] ?_
 have h52:=(sOR h51 [0] [])
 exact ⟨k3,by omega,r28,x2,r26.1,x8,(decide ((w64 (Int.tdiv (w64 (x3 - x2)) 8))≤(w64 (x3 - r26.1)))),r26.2.1,rfl,h52,H,by omega,e31⟩

def Q116.f (k:Nat) (a0:List (Int)):Option (List (Int)):=(Q0.f (IntKind.u64.wrap ((a0.length:Int)))).bind fun r1=>((Q128.f k a0 0 (a0.length:Int) r1).bind fun r2=>(some r2))
theorem Q116.spec {k:Nat} {a0:List (Int)} {A1:Option Addr} {c_1:Nat} {r:List (Int)} (H:Q116.f k a0=some r) :
  Spec Tryz.prog 196 [.slice A1 a0.length c_1] [O33 a0 A1 c_1] [] (fun v l=>v=.tuple #[]∧l=[O33 r A1 c_1]∧r.length=a0.length):=by
 refine Zp Tryz.func196 fun w0 F0 h0=>?_
 unfold Q116.f at H
 refine J.seq (Zc [0,2] ?_)
 refine J.region (Zh 4 ?_)
 obtain ⟨r1,q1,H⟩:=Zn H
 refine Ze (Zf [] (Q0.spec q1) h0 rfl Zs) ?_
 rintro _ w1 ⟨_,⟨rfl,rfl⟩,h1⟩
 replace h1:=nf h1
 obtain ⟨r2,q2,H⟩:=Zn H
 refine Ze (Zf [0] (Q128.spec q2) h1 rfl Zs) ?_
 rintro _ w2 ⟨_,⟨rfl,rfl,q3⟩,h2⟩
 replace h2:=nf h2
 have e1:r2.length=a0.length:=q3.trans (rfl:a0.length=a0.length)
 refine Zi [] rfl ?_
 cases H
 exact ⟨_,_,_,Za,⟨rfl,rfl,e1⟩,Zb h2 [0]⟩

def Q104.l1:Nat→(Int)→(List (Int))→(Int)→(Int)→Option (List (Int))
 | 0,_,_,_,_=>none
 | k+1,x1,x2,x3,x4=>if (decide (x4<((x2.drop x1.toNat).length:Int)))=true then (if 0≤x4∧x4<((x2.drop x1.toNat).length:Int) then (if 0≤(w64 (x4 - 1))∧(w64 (x4 - 1))<((x2.drop x1.toNat).length:Int) then (if (!decide ((gt (x2.drop x1.toNat) x4)=(gt (x2.drop x1.toNat) (w64 (x4 - 1)))))=true then (if 0≤x3∧x3<(x2.length:Int) then (Q104.l1 k x1 (x2.set x3.toNat (gt (x2.drop x1.toNat) x4)) (w64 (x3+1)) (w64 (x4+1))) else none) else (Q104.l1 k x1 x2 x3 (w64 (x4+1)))) else none) else none) else (if 0≤x3∧x3≤(x2.length:Int) then (if (0:Int)≤x3∧x3≤((Yz x2 x3.toNat ((x2.drop x3.toNat).length) (List.replicate ((x2.drop x3.toNat).length) (0:Int))).length:Int) then (some ((Yz x2 x3.toNat ((x2.drop x3.toNat).length) (List.replicate ((x2.drop x3.toNat).length) (0:Int))).take x3.toNat)) else none) else none)
def Q104.l0:Nat→(List (Int))→(Int)→Option (List (Int))
 | 0,_,_=>none
 | k+1,a0,x1=>if (decide (x1<(a0.length:Int)))=true then (if 0≤x1∧x1<(a0.length:Int) then (if 0≤(w64 (x1 - 1))∧(w64 (x1 - 1))<(a0.length:Int) then (if (decide ((gt a0 x1)=(gt a0 (w64 (x1 - 1)))))=true then (if 0≤x1∧x1≤(a0.length:Int) then (Q104.l1 k x1 a0 x1 1) else none) else (Q104.l0 k a0 (w64 (x1+1)))) else none) else none) else (some a0)
def Q104.f (k:Nat) (a0:List (Int)):Option (List (Int)):=if (decide ((a0.length:Int)<2))=true then (some a0) else (Q104.l0 k a0 1)
theorem Q104.spec {k:Nat} {a0:List (Int)} {A1:Option Addr} {c_1:Nat} {r:List (Int)} (H:Q104.f k a0=some r) :
  SpecA Tryz.prog 228 [.slice A1 a0.length c_1] [O33 a0 A1 c_1] [] (fun v l lr=>∃(A_0:Option Addr) (c_0:Nat),v=.slice A_0 r.length c_0∧l=[]∧lr=[R33 r A_0 c_0]):=by
 refine Yy Tryz.func228 fun w0 F0 h0=>?_
 unfold Q104.f at H
 refine J.seq (Zc [0] ?_)
 refine J.seq (J.seq (Zc [0,8] ?_))
 refine jIf H (fun c1 H=>?_) fun c1 H=>?_
 ·refine J.seq (Zc [2] ?_)
  refine J.ret ?_
  have h1:=h0.freeze (k:=0) rfl Y9
  cases H
  exact ⟨_,_,_,Za,⟨_,_,rfl,rfl,rfl⟩,sOR h1 [] [0]⟩
 refine J.skip (J.seq (J.seq (Zc [0,3] ?_)))
 refine J.block ?_
 have h15:=(sOR h0 [0] [])
 refine J.loop (fun kk env w=>∃(x1:Int),env=[(0,.slice A1 a0.length c_1),(3,.int .i64 x1)]∧St w0 F0 [O33 a0 A1 c_1] [] w∧Q104.l0 kk a0 x1=some r) (k:=k) ⟨1,rfl,h15,H⟩ ?_
 rintro k1 env w1 ⟨x1,rfl,h2,H⟩
 rcases k1 with _ | k1
 ·exact z0 H
 rw [Q104.l0] at H
 refine J.seq (J.seq (Zc [0,3,13] ?_))
 refine jIf H (fun c2 H=>?_) fun c2 H=>?_
 ·refine J.skip (J.seq (J.block (J.seq ?_)))
  refine Zv h2 ?_
  have h3:=h2.drew
  refine Zu [0,1,4,5,6] ?_
  obtain ⟨⟨p1,p2⟩,H⟩:=Zt H
  have e1:=Z6 h3.wh (gO 0) p1 p2
  refine Zj 2 rfl (Zk e1 p1 p2) ?_
  refine Zj 3 rfl (Zl 0 wI (gO 0) p1 p2) ?_
  obtain ⟨⟨p3,p4⟩,H⟩:=Zt H
  refine Zj 7 rfl (Zk e1 p3 p4) ?_
  refine Zj 8 rfl (Zl 0 wI (gO 0) p3 p4) ?_
  refine Zu [9] ?_
  refine Zw [0,3,25] ?_
  refine jIf H (fun c3 H=>?_) fun c3 H=>?_
  ·refine J.seq (J.region ?_)
   refine Zh 2 ?_
   obtain ⟨⟨p5,p6⟩,H⟩:=Zt H
   have e2:=h3.cap (gO 0)
   refine Zg (W4 (a0.drop x1.toNat) x1 (a0.length:Int) e2 p5 p6 (Int.le_refl _) (Xt _ _)) ?_
   refine Zi [0,3,4] rfl ?_
   refine J.seq (J.seq (Zc [0,3,4,5] ?_))
   refine J.block ?_
   have h12:=(sOR h3 [0] [])
   refine J.loop (fun kk env w=>∃(x2:List (Int)) (x3:Int) (x4:Int),env=[(0,.slice A1 x2.length c_1),(3,.int .i64 x3),(4,.slice (Xx A1 c_1 x1.toNat 1) (x2.drop x1.toNat).length (c_1 - x1.toNat)),(5,.int .i64 x4)]∧St w0 F0 [O33 x2 A1 c_1] [] w∧Q104.l1 kk x1 x2 x3 x4=some r∧kk≤k1∧x2.length=a0.length) (k:=k1) ⟨a0,x1,1,rfl,h12,H,Nat.le_refl _,(rfl:a0.length=a0.length)⟩ ?_
   rintro k2 env w2 ⟨x2,x3,x4,rfl,h4,H,hk2,e3⟩
   rcases k2 with _ | k2
   ·exact z0 H
   rw [Q104.l1] at H
   refine J.seq (J.seq (Zc [0,3,4,5,32] ?_))
   refine jIf H (fun c4 H=>?_) fun c4 H=>?_
   ·refine J.skip (J.seq (J.block (J.seq ?_)))
    refine Zv h4 ?_
    have h5:=h4.drew
    refine Zu [0,1,4,5,6] ?_
    obtain ⟨⟨p7,p8⟩,H⟩:=Zt H
    have e4:=Z6 h5.wh ((Gives.of 0 rfl Y9).trans (X8 (.int .u32) (x2.drop x1.toNat) x1 (x2.length:Int) (by omega) (by omega) (by omega) (Xt _ _))) p7 p8
    refine Zj 2 rfl (Zk e4 p7 p8) ?_
    refine Zj 3 rfl (Zl 0 wI ((Gives.of 0 rfl Y9).trans (X8 (.int .u32) (x2.drop x1.toNat) x1 (x2.length:Int) (by omega) (by omega) (by omega) (Xt _ _))) p7 p8) ?_
    obtain ⟨⟨p9,p10⟩,H⟩:=Zt H
    refine Zj 7 rfl (Zk e4 p9 p10) ?_
    refine Zj 8 rfl (Zl 0 wI ((Gives.of 0 rfl Y9).trans (X8 (.int .u32) (x2.drop x1.toNat) x1 (x2.length:Int) (by omega) (by omega) (by omega) (Xt _ _))) p9 p10) ?_
    refine Zu [9] ?_
    refine Zw [0,3,4,5,44] ?_
    refine jIf H (fun c5 H=>?_) fun c5 H=>?_
    ·refine J.seq (J.region ?_)
     refine Zh 4 ?_
     refine Zg (Zk e4 p7 p8) ?_
     refine Zg (Zl 0 h5.wht ((Gives.of 0 rfl Y9).trans (X8 (.int .u32) (x2.drop x1.toNat) x1 (x2.length:Int) (by omega) (by omega) (by omega) (Xt _ _))) p7 p8) ?_
     obtain ⟨⟨p11,p12⟩,H⟩:=Zt H
     refine Zg (Zk e1 p11 p12) ?_
     refine Ze (Zr 0 (.int .u32) x3 (gt (x2.drop x1.toNat) x4) 0 h5 rfl p11 p12) ?_
     intro _ w3 h6
     replace h6:=nf h6
     have e5:(x2.set x3.toNat (gt (x2.drop x1.toNat) x4)).length=a0.length:=List.length_set.trans e3
     refine Zi [0,3,4,5] rfl ?_
     refine J.envEq (env':=[(0,.slice A1 (x2.set x3.toNat (gt (x2.drop x1.toNat) x4)).length c_1),(3,.int .i64 x3),(4,.slice (Xx A1 c_1 x1.toNat 1) ((x2.set x3.toNat (gt (x2.drop x1.toNat) x4)).drop x1.toNat).length (c_1 - x1.toNat)),(5,.int .i64 x4)]) (by first | (simp only [List.length_set]; done) | (simp only [List.length_set] <;> simp only [List.length_drop]; done) | (simp only [List.length_set,List.length_drop,List.length_nil] <;> rfl)) ?_
     refine Zc [0,3,4,5] ?_
     refine Zc [0,3,4,5] ?_
     have h7:=(sOR h6 [0] [])
     exact ⟨k2,by omega,(x2.set x3.toNat (gt (x2.drop x1.toNat) x4)),(w64 (x3+1)),(w64 (x4+1)),rfl,h7,H,by omega,e5⟩
    refine J.skip (Zc [0,3,4,5] ?_)
    have h8:=(sOR h5 [0] [])
    exact ⟨k2,by omega,x2,x3,(w64 (x4+1)),rfl,h8,H,by omega,e3⟩
   refine J.exit (J.seq (J.region ?_))
   refine Zh 2 ?_
   obtain ⟨⟨p13,p14⟩,H⟩:=Zt H
   have e6:=h4.cap (gO 0)
   refine Zg (W4 (x2.drop x3.toNat) x3 (x2.length:Int) e6 p13 p14 (Int.le_refl _) (Xt _ _)) ?_
   have e7:x3.toNat+(x2.drop x3.toNat).length≤x2.length:=by simp only [List.length_drop]; omega
   refine Ze (Gp Yu (ty:=(.int .u32)) (xs:=x2) rfl (0:Int) 0 rfl h4 rfl rfl rfl rfl rfl rfl e7) ?_
   rintro _ w4 h9
   replace h9:=nf h9
   have e8:(Yz x2 x3.toNat ((x2.drop x3.toNat).length) (List.replicate ((x2.drop x3.toNat).length) (0:Int))).length=a0.length:=(Xj e7).trans e3
   refine Zi [0,3] rfl ?_
   refine J.envEq (env':=[(0,.slice A1 (Yz x2 x3.toNat ((x2.drop x3.toNat).length) (List.replicate ((x2.drop x3.toNat).length) (0:Int))).length c_1),(3,.int .i64 x3)]) (by first | (simp only [Xj e7]; done) | (simp only [Xj e7] <;> simp only [List.length_drop]; done) | (simp only [Xj e7,List.length_drop,List.length_nil] <;> rfl)) ?_
   refine J.seq (J.region ?_)
   refine Zh 2 ?_
   obtain ⟨⟨p15,p16⟩,H⟩:=Zt H
   have e9:=h9.cap (gO 0)
   refine Zg (Wf ((Yz x2 x3.toNat ((x2.drop x3.toNat).length) (List.replicate ((x2.drop x3.toNat).length) (0:Int))).take x3.toNat) x3 e9 p15 p16) ?_
   refine Zi [2] rfl ?_
   refine J.ret ?_
   have h10:=h9.freeze (k:=0) rfl Y9
   have h11:=h10.read (k:=0) rfl (Ur (.int .u32) ((Yz x2 x3.toNat ((x2.drop x3.toNat).length) (List.replicate ((x2.drop x3.toNat).length) (0:Int))).take x3.toNat) x3 p15 p16)
   cases H
   exact ⟨_,_,_,Za,⟨_,_,rfl,rfl,rfl⟩,sOR h11 [] [0]⟩
  refine J.skip (Zc [0,3] ?_)
  have h13:=(sOR h3 [0] [])
  exact ⟨k1,by omega,(w64 (x1+1)),rfl,h13,H⟩
 refine J.exit (J.seq (Zc [2] ?_))
 refine J.ret ?_
 have h14:=h2.freeze (k:=0) rfl Y9
 cases H
 exact ⟨_,_,_,Za,⟨_,_,rfl,rfl,rfl⟩,sOR h14 [] [0]⟩

def Q66.f (k:Nat) (a0:Int×Int×Int×Int×Int×Int×Int×Int) (a1:List (Int)):Option (Bool):=(Q103.f a1).bind fun r1=>((Q116.f k r1).bind fun r2=>(if (decide ((a1.length:Int)<1))=true then (some false) else (if (decide (a0.2.2.2.1<(a1.length:Int)))=true then (some false) else (if 0<(r2.length:Int) then (if (decide ((gt r2 0)=0))=true then (some false) else (if 0≤(w64 ((a1.length:Int) - 1))∧(w64 ((a1.length:Int) - 1))<(r2.length:Int) then (if (decide (a0.1≤(w64 ((gt r2 (w64 ((a1.length:Int) - 1)))))))=true then (some false) else ((Q104.f k r2).bind fun r3=>(some (decide ((r3.length:Int)=(a1.length:Int)))))) else none)) else none))))
theorem Q66.spec {k:Nat} {a0:Int×Int×Int×Int×Int×Int×Int×Int} {a1:List (Int)} {A1:Option Addr} {c_1:Nat} {r:Bool} (H:Q66.f k a0 a1=some r) :
  Spec Tryz.prog 203 [.agg #[.int .i64 a0.1,.int .i64 a0.2.1,.int .i64 a0.2.2.1,.int .i64 a0.2.2.2.1,.int .i64 a0.2.2.2.2.1,.int .i64 a0.2.2.2.2.2.1,.int .i64 a0.2.2.2.2.2.2.1,.int .i64 a0.2.2.2.2.2.2.2],.slice A1 a1.length c_1] [] [R33 a1 A1 c_1] (fun v l=>v=.bool r∧l=[]):=by
 refine Zp Tryz.func203 fun w0 F0 h0=>?_
 unfold Q66.f at H
 refine J.seq (J.region ?_)
 refine Ze (Ye h0) ?_
 rintro _ w1 ⟨b1,rfl,h1⟩
 replace h1:=nf h1
 refine Zi [1,2] rfl ?_
 refine J.seq (J.region ?_)
 refine Zh 1 ?_
 obtain ⟨r1,q1,H⟩:=Zn H
 refine Ze (Zf [] (Q103.spec q1) h1 rfl (Z0 (Zm 1) Zs)) ?_
 rintro _ w2 ⟨_,⟨A2,c_2,rfl,rfl⟩,h2⟩
 replace h2:=nf h2
 refine Zi [1,2,5] rfl ?_
 refine J.seq (J.region ?_)
 refine Zh 1 ?_
 obtain ⟨r2,q2,H⟩:=Zn H
 refine Ze (Zf [0] (Q116.spec q2) h2 rfl Zs) ?_
 rintro _ w3 ⟨_,⟨rfl,rfl,q3⟩,h3⟩
 replace h3:=nf h3
 refine Zi [1,2,5] rfl ?_
 refine J.envEq (env':=[(1,.slice A1 a1.length c_1),(2,.pointer (some ⟨b1,0,none⟩)),(5,.slice A2 r2.length c_2)]) (by simp only [q3,List.length_nil] <;> rfl) ?_
 refine J.seq (J.seq ?_)
 refine Zv h3 ?_
 have h4:=h3.drew
 refine Zu [0,1,2,3] ?_
 refine Yh 13 H (fun c1 H=>?_) fun c1 H=>?_
 ·refine Zu [4,5,6,7,8,9,10,11,12,13,14,15,16,17,18,19,20,21,22,23,24,25,26,27] ?_
  refine Zw [1,5,37] ?_
  refine Zo ?_
  refine J.seq (Zc [4] ?_)
  have h5:=Zb h4 []
  replace h5:=nf h5
  refine J.ret ?_
  cases H
  exact ⟨_,_,_,Za,⟨rfl,rfl⟩,Zb h5 []⟩
 refine Zu [4,5,6] ?_
 refine Zj 7 rfl (Zd 1 wI) ?_
 refine Zu [8,9,10] ?_
 refine Yh 20 H (fun c2 H=>?_) fun c2 H=>?_
 ·refine Zu [11,12,13,14,15,16,17,18,19,20,21,22,23,24,25,26,27] ?_
  refine Zw [1,5,37] ?_
  refine Zo ?_
  refine J.seq (Zc [4] ?_)
  have h6:=Zb h4 []
  replace h6:=nf h6
  refine J.ret ?_
  cases H
  exact ⟨_,_,_,Za,⟨rfl,rfl⟩,Zb h6 []⟩
 refine Zu [11] ?_
 obtain ⟨p1,H⟩:=Zt H
 have e1:=Jj h4.wh (gO 0) p1
 refine Zj 12 rfl (Uy e1 p1) ?_
 refine Zj 13 rfl (W3 0 wI (gO 0) p1) ?_
 refine Zu [14,15,16] ?_
 refine Yh 26 H (fun c3 H=>?_) fun c3 H=>?_
 ·refine Zu [17,18,19,20,21,22,23,24,25,26,27] ?_
  refine Zw [1,5,37] ?_
  refine Zo ?_
  refine J.seq (Zc [4] ?_)
  have h7:=Zb h4 []
  replace h7:=nf h7
  refine J.ret ?_
  cases H
  exact ⟨_,_,_,Za,⟨rfl,rfl⟩,Zb h7 []⟩
 refine Zu [17,18,19,20,24] ?_
 obtain ⟨⟨p2,p3⟩,H⟩:=Zt H
 refine Zj 21 rfl (Zk e1 p2 p3) ?_
 refine Zj 22 rfl (Zl 0 wI (gO 0) p2 p3) ?_
 refine Zu [23] ?_
 refine Zj 25 rfl (Zd 1 wI) ?_
 refine Zu [26,27] ?_
 refine Zw [1,5,37] ?_
 refine jIf H (fun c4 H=>?_) fun c4 H=>?_
 ·refine J.seq (Zc [4] ?_)
  have h8:=Zb h4 []
  replace h8:=nf h8
  refine J.ret ?_
  cases H
  exact ⟨_,_,_,Za,⟨rfl,rfl⟩,Zb h8 []⟩
 refine J.skip (J.seq (J.region ?_))
 refine Zh 1 ?_
 obtain ⟨r3,q4,H⟩:=Zn H
 refine Ze (Z9 [0] (Q104.spec q4) h4 rfl Zs) ?_
 rintro _ w4 ⟨_,_,⟨A3,c_3,rfl,rfl,rfl⟩,h9⟩
 replace h9:=nf h9
 refine Zi [4] rfl ?_
 refine J.ret ?_
 cases H
 exact ⟨_,_,_,Za,⟨rfl,rfl⟩,Zb h9 []⟩

def Q56.l0:Nat→(List (List UInt8))→(List UInt8×List UInt8×Bool)→(Int)→Option (Bool)
 | 0,_,_,_=>none
 | k+1,a0,a1,x1=>if (decide (x1<(a0.length:Int)))=true then (if 0≤x1∧x1<(a0.length:Int) then ((Q60.f a1 (gt a0 x1)).bind fun r1=>(if (!r1)=true then (some false) else (if (decide ((gt a0 x1)=a1.1))=true then (some false) else (if (decide (0<x1))=true then (if 0≤(w64 (x1 - 1))∧(w64 (x1 - 1))<(a0.length:Int) then ((Q59.f (gt a0 (w64 (x1 - 1))) (gt a0 x1)).bind fun r2=>(if (decide (0≤r2))=true then (some false) else (Q56.l0 k a0 a1 (w64 (x1+1))))) else none) else (Q56.l0 k a0 a1 (w64 (x1+1))))))) else none) else (some true)
def Q56.f (k:Nat) (a0:List (List UInt8)) (a1:List UInt8×List UInt8×Bool):Option (Bool):=Q56.l0 k a0 a1 0
theorem Q56.spec {k:Nat} {a0:List (List UInt8)} {a1:List UInt8×List UInt8×Bool} {A1:Option Addr} {c_1:Nat} {r:Bool} (H:Q56.f k a0 a1=some r) :
  Spec Tryz.prog 204 [.slice A1 a0.length c_1,.agg #[.string ⟨⟨a1.1⟩⟩,.string ⟨⟨a1.2.1⟩⟩,.bool a1.2.2]] [] [R9 a0 A1 c_1] (fun v l=>v=.bool r∧l=[]):=by
 refine Zp Tryz.func204 fun w0 F0 h0=>?_
 unfold Q56.f at H
 refine J.seq (J.region ?_)
 refine Ze (Ye h0) ?_
 rintro _ w1 ⟨b1,rfl,h1⟩
 replace h1:=nf h1
 refine Zi [0,3] rfl ?_
 refine J.seq (J.seq (Zc [0,3,7,8,9] ?_))
 refine J.block ?_
 have h7:=(sOR h1 [0] [0])
 refine J.loop (fun kk env w=>∃(x1:Int),env=[(0,.slice A1 a0.length c_1),(3,.pointer (some ⟨b1,0,none⟩)),(7,.slice A1 a0.length c_1),(8,.int .i64 (a0.length:Int)),(9,.int .i64 x1)]∧St w0 F0 [X92 b1 a1.1 a1.2.1 a1.2.2] [R9 a0 A1 c_1] w∧Q56.l0 kk a0 a1 x1=some r) (k:=k) ⟨0,rfl,h7,H⟩ ?_
 rintro k1 env w2 ⟨x1,rfl,h2,H⟩
 rcases k1 with _ | k1
 ·exact z0 H
 rw [Q56.l0] at H
 refine J.seq (Zc [0,3,7,8,9,10] ?_)
 refine J.seq (jIf H (fun c1 H=>?_) fun c1 H=>?_)
 ·refine J.skip (J.seq (J.block (J.seq (J.region ?_))))
  refine Zh 1 ?_
  obtain ⟨⟨p1,p2⟩,H⟩:=Zt H
  have e1:=Z6 h2.wh (Zm 1) p1 p2
  refine Zg (Zk e1 p1 p2) ?_
  refine Zg (Zl 0 h2.wht (Zm 1) p1 p2) ?_
  refine Zi [0,3,5,6,7,8,9] rfl ?_
  refine J.seq (J.region ?_)
  refine Zg (Zd 0 h2.wht) ?_
  refine Zh 1 ?_
  obtain ⟨r1,q1,H⟩:=Zn H
  refine Ze (Zf [] (Q60.spec q1) h2 rfl Zs) ?_
  rintro _ w3 ⟨_,⟨rfl,rfl⟩,h3⟩
  replace h3:=nf h3
  refine Zh 2 ?_
  refine Z7 18 H (fun c2 H=>?_) fun c2 H=>?_
  ·refine Zi [0,3,7,8,9,37] rfl ?_
   refine Zo ?_
   refine J.seq (Zc [4] ?_)
   refine J.ret ?_
   cases H
   exact ⟨_,_,_,Za,⟨rfl,rfl⟩,Zb h3 []⟩
  refine Zh 2 ?_
  refine Zg (Zd 0 h3.wht) ?_
  refine Zh 3 ?_
  refine Z7 24 H (fun c3 H=>?_) fun c3 H=>?_
  ·refine Zi [0,3,7,8,9,37] rfl ?_
   refine Zo ?_
   refine J.seq (Zc [4] ?_)
   refine J.ret ?_
   cases H
   exact ⟨_,_,_,Za,⟨rfl,rfl⟩,Zb h3 []⟩
  refine Zh 3 ?_
  refine Z7 27 H (fun c4 H=>?_) fun c4 H=>?_
  ·refine Zh 3 ?_
   obtain ⟨⟨p3,p4⟩,H⟩:=Zt H
   refine Zg (Zk e1 p3 p4) ?_
   refine Zg (Zl 0 h3.wht (Zm 1) p3 p4) ?_
   refine Zh 1 ?_
   obtain ⟨r2,q2,H⟩:=Zn H
   refine Ze (Zf [] (Q59.spec q2) h3 rfl Zs) ?_
   rintro _ w4 ⟨_,⟨rfl,rfl⟩,h4⟩
   replace h4:=nf h4
   refine Zi [0,3,7,8,9,37] rfl ?_
   refine jIf H (fun c5 H=>?_) fun c5 H=>?_
   ·refine J.seq (Zc [4] ?_)
    refine J.ret ?_
    cases H
    exact ⟨_,_,_,Za,⟨rfl,rfl⟩,Zb h4 []⟩
   refine J.skip (Zc [0,3,7,8,9] ?_)
   have h5:=(sOR h4 [0] [0])
   exact ⟨k1,by omega,(w64 (x1+1)),rfl,h5,H⟩
  refine Zi [0,3,7,8,9,37] rfl ?_
  refine Zz ?_
  refine J.skip (Zc [0,3,7,8,9] ?_)
  have h6:=(sOR h3 [0] [0])
  exact ⟨k1,by omega,(w64 (x1+1)),rfl,h6,H⟩
 refine J.exit (J.seq (Zc [4] ?_))
 refine J.ret ?_
 cases H
 exact ⟨_,_,_,Za,⟨rfl,rfl⟩,Zb h2 []⟩

def Q64.f (a0:List UInt8) (a1:Int×Int×Int×Int×Int×Int×Int×Int):Option (Bool):=(Q61.f a1 a0).bind fun r1=>(some (!r1))
theorem Q64.spec {a0:List UInt8} {a1:Int×Int×Int×Int×Int×Int×Int×Int} {b1:Nat} {r:Bool} (H:Q64.f a0 a1=some r) :
  Spec Tryz.prog 206 [.string ⟨⟨a0⟩⟩,.pointer (some ⟨b1,0,none⟩)] [X23 b1 a1.1 a1.2.1 a1.2.2.1 a1.2.2.2.1 a1.2.2.2.2.1 a1.2.2.2.2.2.1 a1.2.2.2.2.2.2.1 a1.2.2.2.2.2.2.2] [] (fun v l=>v=.bool r∧l=[X23 b1 a1.1 a1.2.1 a1.2.2.1 a1.2.2.2.1 a1.2.2.2.2.1 a1.2.2.2.2.2.1 a1.2.2.2.2.2.2.1 a1.2.2.2.2.2.2.2]):=by
 refine Zp Tryz.func206 fun w0 F0 h0=>?_
 unfold Q64.f at H
 refine J.seq (Zc [0,1] ?_)
 refine J.seq (J.region ?_)
 refine Zg (Zd 0 h0.wht) ?_
 refine Zh 1 ?_
 obtain ⟨r1,q1,H⟩:=Zn H
 refine Ze (Zf [] (Q61.spec q1) h0 rfl Zs) ?_
 rintro _ w1 ⟨_,⟨rfl,rfl⟩,h1⟩
 replace h1:=nf h1
 refine Zi [3] rfl ?_
 refine J.ret ?_
 cases H
 exact ⟨_,_,_,Za,⟨rfl,rfl⟩,Zb h1 [0]⟩

def Q115.l0:Nat→(List (List UInt8))→(Int×Int×Int×Int×Int×Int×Int×Int)→(Int)→Option (Int)
 | 0,_,_,_=>none
 | k+1,a0,a2,x1=>if (decide (x1<(a0.length:Int)))=true then (if 0≤x1∧x1<(a0.length:Int) then ((Q64.f (gt a0 x1) a2).bind fun r1=>(if r1=true then (some x1) else (Q115.l0 k a0 a2 (w64 (x1+1))))) else none) else (some (-1))
def Q115.f (k:Nat) (a0:List (List UInt8)) (a2:Int×Int×Int×Int×Int×Int×Int×Int):Option (Int):=Q115.l0 k a0 a2 0
theorem Q115.spec {k:Nat} {a0:List (List UInt8)} {a2:Int×Int×Int×Int×Int×Int×Int×Int} {A1:Option Addr} {c_1:Nat} {b1:Nat} {r:Int} (H:Q115.f k a0 a2=some r) :
  Spec Tryz.prog 229 [.slice A1 a0.length c_1,.func (.func 206) #[] #[.pointer (some ⟨b1,0,none⟩)]] [X23 b1 a2.1 a2.2.1 a2.2.2.1 a2.2.2.2.1 a2.2.2.2.2.1 a2.2.2.2.2.2.1 a2.2.2.2.2.2.2.1 a2.2.2.2.2.2.2.2] [R9 a0 A1 c_1] (fun v l=>v=.int .i64 r∧l=[X23 b1 a2.1 a2.2.1 a2.2.2.1 a2.2.2.2.1 a2.2.2.2.2.1 a2.2.2.2.2.2.1 a2.2.2.2.2.2.2.1 a2.2.2.2.2.2.2.2]):=by
 refine Zp Tryz.func229 fun w0 F0 h0=>?_
 unfold Q115.f at H
 refine J.seq (Zc [0,1] ?_)
 refine J.seq (J.seq (Zc [0,1,7,8] ?_))
 refine J.block ?_
 have h4:=(sOR h0 [0] [0])
 refine J.loop (fun kk env w=>∃(x1:Int),env=[(0,.slice A1 a0.length c_1),(1,.func (.func 206) #[] #[.pointer (some ⟨b1,0,none⟩)]),(7,.int .i64 (a0.length:Int)),(8,.int .i64 x1)]∧St w0 F0 [X23 b1 a2.1 a2.2.1 a2.2.2.1 a2.2.2.2.1 a2.2.2.2.2.1 a2.2.2.2.2.2.1 a2.2.2.2.2.2.2.1 a2.2.2.2.2.2.2.2] [R9 a0 A1 c_1] w∧Q115.l0 kk a0 a2 x1=some r) (k:=k) ⟨0,rfl,h4,H⟩ ?_
 rintro k1 env w1 ⟨x1,rfl,h1,H⟩
 rcases k1 with _ | k1
 ·exact z0 H
 rw [Q115.l0] at H
 refine J.seq (Zc [0,1,7,8,9] ?_)
 refine J.seq (jIf H (fun c1 H=>?_) fun c1 H=>?_)
 ·refine J.skip (J.seq (J.block (J.seq (Zc [0,1,5,7,8] ?_))))
  refine J.seq (J.region ?_)
  refine Zh 3 ?_
  obtain ⟨⟨p1,p2⟩,H⟩:=Zt H
  have e1:=Z6 h1.wh (Zm 1) p1 p2
  refine Zg (Zk e1 p1 p2) ?_
  refine Zg (Zl 0 h1.wht (Zm 1) p1 p2) ?_
  obtain ⟨r1,q1,H⟩:=Zn H
  refine Ze (W0 [.string ⟨⟨(gt a0 x1)⟩⟩] [.pointer (some ⟨b1,0,none⟩)] [0] (Q64.spec q1) h1 rfl Zs) ?_
  rintro _ w2 ⟨_,⟨rfl,rfl⟩,h2⟩
  replace h2:=nf h2
  refine Zi [0,1,5,7,8,16] rfl ?_
  refine jIf H (fun c2 H=>?_) fun c2 H=>?_
  ·refine J.seq (Zc [4] ?_)
   refine J.ret ?_
   cases H
   exact ⟨_,_,_,Za,⟨rfl,rfl⟩,Zb h2 [0]⟩
  refine J.skip (Zc [0,1,7,8] ?_)
  have h3:=(sOR h2 [0] [0])
  exact ⟨k1,by omega,(w64 (x1+1)),rfl,h3,H⟩
 refine J.exit (J.seq (Zc [4] ?_))
 refine J.ret ?_
 cases H
 exact ⟨_,_,_,Za,⟨rfl,rfl⟩,Zb h1 [0]⟩

def Q109.f (k:Nat) (a0:List (List UInt8)) (a2:Int×Int×Int×Int×Int×Int×Int×Int):Option (Bool):=(Q115.f k a0 a2).bind fun r1=>(some (decide (0≤r1)))
theorem Q109.spec {k:Nat} {a0:List (List UInt8)} {a2:Int×Int×Int×Int×Int×Int×Int×Int} {A1:Option Addr} {c_1:Nat} {b1:Nat} {r:Bool} (H:Q109.f k a0 a2=some r) :
  Spec Tryz.prog 205 [.slice A1 a0.length c_1,.func (.func 206) #[] #[.pointer (some ⟨b1,0,none⟩)]] [X23 b1 a2.1 a2.2.1 a2.2.2.1 a2.2.2.2.1 a2.2.2.2.2.1 a2.2.2.2.2.2.1 a2.2.2.2.2.2.2.1 a2.2.2.2.2.2.2.2] [R9 a0 A1 c_1] (fun v l=>v=.bool r∧l=[X23 b1 a2.1 a2.2.1 a2.2.2.1 a2.2.2.2.1 a2.2.2.2.2.1 a2.2.2.2.2.2.1 a2.2.2.2.2.2.2.1 a2.2.2.2.2.2.2.2]):=by
 refine Zp Tryz.func205 fun w0 F0 h0=>?_
 unfold Q109.f at H
 refine J.seq (Zc [0,1] ?_)
 refine J.seq (J.region ?_)
 refine Zh 2 ?_
 obtain ⟨r1,q1,H⟩:=Zn H
 refine Ze (Zf [0] (Q115.spec q1) h0 rfl (Z0 (Zm 0) Zs)) ?_
 rintro _ w1 ⟨_,⟨rfl,rfl⟩,h1⟩
 replace h1:=nf h1
 refine Zi [4] rfl ?_
 refine J.ret ?_
 cases H
 exact ⟨_,_,_,Za,⟨rfl,rfl⟩,Zb h1 [0]⟩

def Q12.l0:Nat→(List (List UInt8×Bool×List UInt8))→(Int)→Option (Bool)
 | 0,_,_=>none
 | k+1,a0,x1=>if (decide (x1<(w64 ((a0.length:Int) - 1))))=true then (if 0≤x1∧x1<(a0.length:Int) then (if 0≤(w64 (x1+1))∧(w64 (x1+1))<(a0.length:Int) then ((Q59.f ((gt a0 x1).1) ((gt a0 (w64 (x1+1))).1)).bind fun r1=>(if (decide (0≤r1))=true then (some false) else (Q12.l0 k a0 (w64 (x1+1))))) else none) else none) else (some true)
def Q12.f (k:Nat) (a0:List (List UInt8×Bool×List UInt8)):Option (Bool):=Q12.l0 k a0 0
theorem Q12.spec {k:Nat} {a0:List (List UInt8×Bool×List UInt8)} {A1:Option Addr} {c_1:Nat} {r:Bool} (H:Q12.f k a0=some r) :
  Spec Tryz.prog 207 [.slice A1 a0.length c_1] [] [Xk a0 A1 c_1] (fun v l=>v=.bool r∧l=[]):=by
 refine Zp Tryz.func207 fun w0 F0 h0=>?_
 unfold Q12.f at H
 refine J.seq (Zc [0] ?_)
 refine J.seq (J.seq (Zc [0,6,7] ?_))
 refine J.block ?_
 have h5:=(sOR h0 [] [0])
 refine J.loop (fun kk env w=>∃(x1:Int),env=[(0,.slice A1 a0.length c_1),(6,.int .i64 (w64 ((a0.length:Int) - 1))),(7,.int .i64 x1)]∧St w0 F0 [] [Xk a0 A1 c_1] w∧Q12.l0 kk a0 x1=some r) (k:=k) ⟨0,rfl,h5,H⟩ ?_
 rintro k1 env w1 ⟨x1,rfl,h1,H⟩
 rcases k1 with _ | k1
 ·exact z0 H
 rw [Q12.l0] at H
 refine J.seq (Zc [0,6,7,8] ?_)
 refine J.seq (jIf H (fun c1 H=>?_) fun c1 H=>?_)
 ·refine J.skip (J.seq (J.block (J.seq (Zc [0,3,6,7] ?_))))
  refine J.seq (Zv h1 ?_)
  have h2:=h1.drew
  refine Zu [0,1,5,6,7] ?_
  obtain ⟨⟨p1,p2⟩,H⟩:=Zt H
  have e1:=Z6 h2.wh (Zm 0) p1 p2
  refine Zj 2 rfl (Zk e1 p1 p2) ?_
  refine Zu [3] ?_
  refine Zj 4 rfl (Zl 0 wI (Zm 0) p1 p2) ?_
  obtain ⟨⟨p3,p4⟩,H⟩:=Zt H
  refine Zj 8 rfl (Zk e1 p3 p4) ?_
  refine Zu [9] ?_
  refine Zj 10 rfl (Zl 0 wI (Zm 0) p3 p4) ?_
  obtain ⟨r1,q1,H⟩:=Zn H
  refine Zq 11 rfl (Zf [] (Q59.spec q1) h2 rfl Zs) ?_
  rintro _ w2 ⟨_,⟨rfl,rfl⟩,h3⟩
  replace h3:=nf h3
  refine ⟨⟨[],h3⟩,?_⟩
  refine Zu [12] ?_
  refine Zw [0,6,7,22] ?_
  refine jIf H (fun c2 H=>?_) fun c2 H=>?_
  ·refine J.seq (Zc [2] ?_)
   refine J.ret ?_
   cases H
   exact ⟨_,_,_,Za,⟨rfl,rfl⟩,Zb h3 []⟩
  refine J.skip (Zc [0,6,7] ?_)
  have h4:=(sOR h3 [] [0])
  exact ⟨k1,by omega,(w64 (x1+1)),rfl,h4,H⟩
 refine J.exit (J.seq (Zc [2] ?_))
 refine J.ret ?_
 cases H
 exact ⟨_,_,_,Za,⟨rfl,rfl⟩,Zb h1 []⟩

def Q65.f (a0:List UInt8×Bool×List UInt8) (a1:Int×Int×Int×Int×Int×Int×Int×Int) (a2:List UInt8×List UInt8×Bool):Option (Bool):=(Q61.f a1 a0.1).bind fun r1=>(if (!r1)=true then (some true) else ((Q60.f a2 a0.1).bind fun r2=>(if (!r2)=true then (some true) else (if (decide (a1.2.2.2.2.2.2.2<(a0.2.2.length:Int)))=true then (some true) else (if a0.2.1=true then (some (!decide (a0.2.2=([]:List UInt8)))) else (some false))))))
theorem Q65.spec {a0:List UInt8×Bool×List UInt8} {a1:Int×Int×Int×Int×Int×Int×Int×Int} {a2:List UInt8×List UInt8×Bool} {b1:Nat} {b2:Nat} {r:Bool} (H:Q65.f a0 a1 a2=some r) :
  Spec Tryz.prog 209 [.agg #[.string ⟨⟨a0.1⟩⟩,.bool a0.2.1,.string ⟨⟨a0.2.2⟩⟩],.pointer (some ⟨b1,0,none⟩),.pointer (some ⟨b2,0,none⟩)] [X23 b1 a1.1 a1.2.1 a1.2.2.1 a1.2.2.2.1 a1.2.2.2.2.1 a1.2.2.2.2.2.1 a1.2.2.2.2.2.2.1 a1.2.2.2.2.2.2.2,X92 b2 a2.1 a2.2.1 a2.2.2] [] (fun v l=>v=.bool r∧l=[X23 b1 a1.1 a1.2.1 a1.2.2.1 a1.2.2.2.1 a1.2.2.2.2.1 a1.2.2.2.2.2.1 a1.2.2.2.2.2.2.1 a1.2.2.2.2.2.2.2,X92 b2 a2.1 a2.2.1 a2.2.2]):=by
 refine Zp Tryz.func209 fun w0 F0 h0=>?_
 unfold Q65.f at H
 refine J.seq (J.region ?_)
 refine Ze (Ye h0) ?_
 rintro _ w1 ⟨b3,rfl,h1⟩
 replace h1:=nf h1
 refine Zi [1,2,3] rfl ?_
 refine J.seq (J.region ?_)
 refine Zg (Zd 1 h1.wht) ?_
 refine Zh 1 ?_
 refine Zg (Zd 0 h1.wht) ?_
 obtain ⟨r1,q1,H⟩:=Zn H
 refine Ze (Zf [] (Q61.spec q1) h1 rfl Zs) ?_
 rintro _ w2 ⟨_,⟨rfl,rfl⟩,h2⟩
 replace h2:=nf h2
 refine Zh 2 ?_
 refine Z7 10 H (fun c1 H=>?_) fun c1 H=>?_
 ·refine Zi [4] rfl ?_
  refine J.ret ?_
  cases H
  exact ⟨_,_,_,Za,⟨rfl,rfl⟩,Zb h2 [1,1]⟩
 refine Zg (Zd 2 h2.wht) ?_
 refine Zh 1 ?_
 refine Zg (Zd 0 h2.wht) ?_
 obtain ⟨r2,q2,H⟩:=Zn H
 refine Ze (Zf [] (Q60.spec q2) h2 rfl Zs) ?_
 rintro _ w3 ⟨_,⟨rfl,rfl⟩,h3⟩
 replace h3:=nf h3
 refine Zh 3 ?_
 refine Z7 17 H (fun c2 H=>?_) fun c2 H=>?_
 ·refine Zi [4] rfl ?_
  refine J.ret ?_
  cases H
  exact ⟨_,_,_,Za,⟨rfl,rfl⟩,Zb h3 [1,1]⟩
 refine Zh 1 ?_
 refine Zg (Zd 0 h3.wht) ?_
 refine Zh 2 ?_
 refine Zg (Zd 1 h3.wht) ?_
 refine Zh 3 ?_
 refine Z7 25 H (fun c3 H=>?_) fun c3 H=>?_
 ·refine Zi [4] rfl ?_
  refine J.ret ?_
  cases H
  exact ⟨_,_,_,Za,⟨rfl,rfl⟩,Zb h3 [1,1]⟩
 refine Zh 1 ?_
 refine Zg (Zd 0 h3.wht) ?_
 refine Zh 1 ?_
 refine Z7 28 H (fun c4 H=>?_) fun c4 H=>?_
 ·refine Zh 1 ?_
  refine Zg (Zd 0 h3.wht) ?_
  refine Zi [4] rfl ?_
  refine J.ret ?_
  cases H
  exact ⟨_,_,_,Za,⟨rfl,rfl⟩,Zb h3 [1,1]⟩
 refine Zi [4] rfl ?_
 refine J.ret ?_
 cases H
 exact ⟨_,_,_,Za,⟨rfl,rfl⟩,Zb h3 [1,1]⟩

def Q111.l0:Nat→(List (List UInt8×Bool×List UInt8))→(Int×Int×Int×Int×Int×Int×Int×Int)→(List UInt8×List UInt8×Bool)→(Int)→Option (Int)
 | 0,_,_,_,_=>none
 | k+1,a0,a2,a3,x1=>if (decide (x1<(a0.length:Int)))=true then (if 0≤x1∧x1<(a0.length:Int) then ((Q65.f (gt a0 x1) a2 a3).bind fun r1=>(if r1=true then (some x1) else (Q111.l0 k a0 a2 a3 (w64 (x1+1))))) else none) else (some (-1))
def Q111.f (k:Nat) (a0:List (List UInt8×Bool×List UInt8)) (a2:Int×Int×Int×Int×Int×Int×Int×Int) (a3:List UInt8×List UInt8×Bool):Option (Int):=Q111.l0 k a0 a2 a3 0
theorem Q111.spec {k:Nat} {a0:List (List UInt8×Bool×List UInt8)} {a2:Int×Int×Int×Int×Int×Int×Int×Int} {a3:List UInt8×List UInt8×Bool} {A1:Option Addr} {c_1:Nat} {b1:Nat} {b2:Nat} {r:Int} (H:Q111.f k a0 a2 a3=some r) :
  Spec Tryz.prog 230 [.slice A1 a0.length c_1,.func (.func 209) #[] #[.pointer (some ⟨b1,0,none⟩),.pointer (some ⟨b2,0,none⟩)]] [X23 b1 a2.1 a2.2.1 a2.2.2.1 a2.2.2.2.1 a2.2.2.2.2.1 a2.2.2.2.2.2.1 a2.2.2.2.2.2.2.1 a2.2.2.2.2.2.2.2,X92 b2 a3.1 a3.2.1 a3.2.2] [Xk a0 A1 c_1] (fun v l=>v=.int .i64 r∧l=[X23 b1 a2.1 a2.2.1 a2.2.2.1 a2.2.2.2.1 a2.2.2.2.2.1 a2.2.2.2.2.2.1 a2.2.2.2.2.2.2.1 a2.2.2.2.2.2.2.2,X92 b2 a3.1 a3.2.1 a3.2.2]):=by
 refine Zp Tryz.func230 fun w0 F0 h0=>?_
 unfold Q111.f at H
 refine J.seq (Zc [0,1] ?_)
 refine J.seq (J.seq (Zc [0,1,7,8] ?_))
 refine J.block ?_
 have h4:=(sOR h0 [0,0] [0])
 refine J.loop (fun kk env w=>∃(x1:Int),env=[(0,.slice A1 a0.length c_1),(1,.func (.func 209) #[] #[.pointer (some ⟨b1,0,none⟩),.pointer (some ⟨b2,0,none⟩)]),(7,.int .i64 (a0.length:Int)),(8,.int .i64 x1)]∧St w0 F0 [X23 b1 a2.1 a2.2.1 a2.2.2.1 a2.2.2.2.1 a2.2.2.2.2.1 a2.2.2.2.2.2.1 a2.2.2.2.2.2.2.1 a2.2.2.2.2.2.2.2,X92 b2 a3.1 a3.2.1 a3.2.2] [Xk a0 A1 c_1] w∧Q111.l0 kk a0 a2 a3 x1=some r) (k:=k) ⟨0,rfl,h4,H⟩ ?_
 rintro k1 env w1 ⟨x1,rfl,h1,H⟩
 rcases k1 with _ | k1
 ·exact z0 H
 rw [Q111.l0] at H
 refine J.seq (Zc [0,1,7,8,9] ?_)
 refine J.seq (jIf H (fun c1 H=>?_) fun c1 H=>?_)
 ·refine J.skip (J.seq (J.block (J.seq (Zc [0,1,5,7,8] ?_))))
  refine J.seq (J.region ?_)
  refine Zh 3 ?_
  obtain ⟨⟨p1,p2⟩,H⟩:=Zt H
  have e1:=Z6 h1.wh (Zm 2) p1 p2
  refine Zg (Zk e1 p1 p2) ?_
  refine Zg (Zl 0 h1.wht (Zm 2) p1 p2) ?_
  obtain ⟨r1,q1,H⟩:=Zn H
  refine Ze (W0 [.agg #[.string ⟨⟨(gt a0 x1).1⟩⟩,.bool ((gt a0 x1).2.1),.string ⟨⟨(gt a0 x1).2.2⟩⟩]] [.pointer (some ⟨b1,0,none⟩),.pointer (some ⟨b2,0,none⟩)] [0,0] (Q65.spec q1) h1 rfl Zs) ?_
  rintro _ w2 ⟨_,⟨rfl,rfl⟩,h2⟩
  replace h2:=nf h2
  refine Zi [0,1,5,7,8,16] rfl ?_
  refine jIf H (fun c2 H=>?_) fun c2 H=>?_
  ·refine J.seq (Zc [4] ?_)
   refine J.ret ?_
   cases H
   exact ⟨_,_,_,Za,⟨rfl,rfl⟩,Zb h2 [0,0]⟩
  refine J.skip (Zc [0,1,7,8] ?_)
  have h3:=(sOR h2 [0,0] [0])
  exact ⟨k1,by omega,(w64 (x1+1)),rfl,h3,H⟩
 refine J.exit (J.seq (Zc [4] ?_))
 refine J.ret ?_
 cases H
 exact ⟨_,_,_,Za,⟨rfl,rfl⟩,Zb h1 [0,0]⟩

def Q105.f (k:Nat) (a0:List (List UInt8×Bool×List UInt8)) (a2:Int×Int×Int×Int×Int×Int×Int×Int) (a3:List UInt8×List UInt8×Bool):Option (Bool):=(Q111.f k a0 a2 a3).bind fun r1=>(some (decide (0≤r1)))
theorem Q105.spec {k:Nat} {a0:List (List UInt8×Bool×List UInt8)} {a2:Int×Int×Int×Int×Int×Int×Int×Int} {a3:List UInt8×List UInt8×Bool} {A1:Option Addr} {c_1:Nat} {b1:Nat} {b2:Nat} {r:Bool} (H:Q105.f k a0 a2 a3=some r) :
  Spec Tryz.prog 208 [.slice A1 a0.length c_1,.func (.func 209) #[] #[.pointer (some ⟨b1,0,none⟩),.pointer (some ⟨b2,0,none⟩)]] [X23 b1 a2.1 a2.2.1 a2.2.2.1 a2.2.2.2.1 a2.2.2.2.2.1 a2.2.2.2.2.2.1 a2.2.2.2.2.2.2.1 a2.2.2.2.2.2.2.2,X92 b2 a3.1 a3.2.1 a3.2.2] [Xk a0 A1 c_1] (fun v l=>v=.bool r∧l=[X23 b1 a2.1 a2.2.1 a2.2.2.1 a2.2.2.2.1 a2.2.2.2.2.1 a2.2.2.2.2.2.1 a2.2.2.2.2.2.2.1 a2.2.2.2.2.2.2.2,X92 b2 a3.1 a3.2.1 a3.2.2]):=by
 refine Zp Tryz.func208 fun w0 F0 h0=>?_
 unfold Q105.f at H
 refine J.seq (Zc [0,1] ?_)
 refine J.seq (J.region ?_)
 refine Zh 2 ?_
 obtain ⟨r1,q1,H⟩:=Zn H
 refine Ze (Zf [0,0] (Q111.spec q1) h0 rfl (Z0 (Zm 0) Zs)) ?_
 rintro _ w1 ⟨_,⟨rfl,rfl⟩,h1⟩
 replace h1:=nf h1
 refine Zi [4] rfl ?_
 refine J.ret ?_
 cases H
 exact ⟨_,_,_,Za,⟨rfl,rfl⟩,Zb h1 [0,0]⟩

def Q63.f (k:Nat) (a0:Int×Int×Int×Int×Int×Int×Int×Int) (a1:List UInt8×List UInt8×Bool) (a2:Int×List (Int)×List (List UInt8)×(List (List UInt8×Bool×List UInt8))×(List (List UInt8×List UInt8))):Option (Bool):=if (decide (40<a2.1))=true then (some false) else (if (decide (0<(a2.2.2.2.2.length:Int)))=true then (some false) else ((Q66.f k a0 a2.2.1).bind fun r1=>(if (!r1)=true then (some false) else (if (!decide ((a2.2.2.1.length:Int)=(w64 ((a2.2.1.length:Int) - 1))))=true then (some false) else ((Q56.f k a2.2.2.1 a1).bind fun r2=>(if (!r2)=true then (some false) else ((Q109.f k a2.2.2.1 a0).bind fun r3=>(if r3=true then (some false) else (if (decide (a0.2.2.2.2.1<(a2.2.2.2.1.length:Int)))=true then (some false) else ((Q12.f k a2.2.2.2.1).bind fun r4=>(if (!r4)=true then (some false) else ((Q105.f k a2.2.2.2.1 a0 a1).bind fun r5=>(some (!r5))))))))))))))
theorem Q63.spec {k:Nat} {a0:Int×Int×Int×Int×Int×Int×Int×Int} {a1:List UInt8×List UInt8×Bool} {a2:Int×List (Int)×List (List UInt8)×(List (List UInt8×Bool×List UInt8))×(List (List UInt8×List UInt8))} {A1:Option Addr} {c_1:Nat} {A2:Option Addr} {c_2:Nat} {A3:Option Addr} {c_3:Nat} {A4:Option Addr} {c_4:Nat} {r:Bool} (H:Q63.f k a0 a1 a2=some r) :
  Spec Tryz.prog 166 [.agg #[.int .i64 a0.1,.int .i64 a0.2.1,.int .i64 a0.2.2.1,.int .i64 a0.2.2.2.1,.int .i64 a0.2.2.2.2.1,.int .i64 a0.2.2.2.2.2.1,.int .i64 a0.2.2.2.2.2.2.1,.int .i64 a0.2.2.2.2.2.2.2],.agg #[.string ⟨⟨a1.1⟩⟩,.string ⟨⟨a1.2.1⟩⟩,.bool a1.2.2],.agg #[.int .i64 a2.1,.slice A1 a2.2.1.length c_1,.slice A2 a2.2.2.1.length c_2,.slice A3 a2.2.2.2.1.length c_3,.slice A4 a2.2.2.2.2.length c_4]] [] [R33 a2.2.1 A1 c_1,R9 a2.2.2.1 A2 c_2,Xk a2.2.2.2.1 A3 c_3,Xl a2.2.2.2.2 A4 c_4] (fun v l=>v=.bool r∧l=[]):=by
 refine Zp Tryz.func166 fun w0 F0 h0=>?_
 unfold Q63.f at H
 refine J.seq (J.region ?_)
 refine Ze (Ye h0) ?_
 rintro _ w1 ⟨b1,rfl,h1⟩
 replace h1:=nf h1
 refine Ze (Ye h1) ?_
 rintro _ w2 ⟨b2,rfl,h2⟩
 replace h2:=nf h2
 refine Ze (Ye h2) ?_
 rintro _ w3 ⟨b3,rfl,h3⟩
 replace h3:=nf h3
 refine Zi [3,4,5] rfl ?_
 refine J.seq (J.seq (J.region ?_))
 refine Zh 1 ?_
 refine Zg (Zd 0 h3.wht) ?_
 refine Zh 2 ?_
 refine Z7 10 H (fun c1 H=>?_) fun c1 H=>?_
 ·refine Zi [3,4,5,39] rfl ?_
  refine Zo ?_
  refine J.seq (Zc [6] ?_)
  have h4:=Zb h3 []
  replace h4:=nf h4
  refine J.ret ?_
  cases H
  exact ⟨_,_,_,Za,⟨rfl,rfl⟩,Zb h4 []⟩
 refine Zh 1 ?_
 refine Zg (Zd 0 h3.wht) ?_
 refine Zh 4 ?_
 refine Z7 16 H (fun c2 H=>?_) fun c2 H=>?_
 ·refine Zi [3,4,5,39] rfl ?_
  refine Zo ?_
  refine J.seq (Zc [6] ?_)
  have h5:=Zb h3 []
  replace h5:=nf h5
  refine J.ret ?_
  cases H
  exact ⟨_,_,_,Za,⟨rfl,rfl⟩,Zb h5 []⟩
 refine Zg (Zd 2 h3.wht) ?_
 refine Zh 1 ?_
 refine Zg (Zd 0 h3.wht) ?_
 obtain ⟨r1,q1,H⟩:=Zn H
 refine Ze (Zf [] (Q66.spec q1) h3 rfl (Z0 (Zm 3) Zs)) ?_
 rintro _ w4 ⟨_,⟨rfl,rfl⟩,h6⟩
 replace h6:=nf h6
 refine Zh 3 ?_
 refine Z7 23 H (fun c3 H=>?_) fun c3 H=>?_
 ·refine Zi [3,4,5,39] rfl ?_
  refine Zo ?_
  refine J.seq (Zc [6] ?_)
  have h7:=Zb h6 []
  replace h7:=nf h7
  refine J.ret ?_
  cases H
  exact ⟨_,_,_,Za,⟨rfl,rfl⟩,Zb h7 []⟩
 refine Zh 1 ?_
 refine Zg (Zd 0 h6.wht) ?_
 refine Zh 2 ?_
 refine Zg (Zd 0 h6.wht) ?_
 refine Zh 5 ?_
 refine Z7 33 H (fun c4 H=>?_) fun c4 H=>?_
 ·refine Zi [3,4,5,39] rfl ?_
  refine Zo ?_
  refine J.seq (Zc [6] ?_)
  have h8:=Zb h6 []
  replace h8:=nf h8
  refine J.ret ?_
  cases H
  exact ⟨_,_,_,Za,⟨rfl,rfl⟩,Zb h8 []⟩
 refine Zh 1 ?_
 refine Zg (Zd 0 h6.wht) ?_
 refine Zg (Zd 1 h6.wht) ?_
 obtain ⟨r2,q2,H⟩:=Zn H
 refine Ze (Zf [] (Q56.spec q2) h6 rfl (Z0 (Zm 4) Zs)) ?_
 rintro _ w5 ⟨_,⟨rfl,rfl⟩,h9⟩
 replace h9:=nf h9
 refine Zi [3,4,5,39] rfl ?_
 refine jIf H (fun c5 H=>?_) fun c5 H=>?_
 ·refine J.seq (Zc [6] ?_)
  have h10:=Zb h9 []
  replace h10:=nf h10
  refine J.ret ?_
  cases H
  exact ⟨_,_,_,Za,⟨rfl,rfl⟩,Zb h10 []⟩
 refine J.skip (J.seq (J.seq (J.region ?_)))
 refine Zh 1 ?_
 refine Zg (Zd 0 h9.wht) ?_
 refine Zh 1 ?_
 obtain ⟨r3,q3,H⟩:=Zn H
 refine Ze (Zf [2] (Q109.spec q3) h9 rfl (Z0 (Zm 3) Zs)) ?_
 rintro _ w6 ⟨_,⟨rfl,rfl⟩,h11⟩
 replace h11:=nf h11
 refine Zh 1 ?_
 refine Z7 44 H (fun c6 H=>?_) fun c6 H=>?_
 ·refine Zi [3,4,5,57] rfl ?_
  refine Zo ?_
  refine J.seq (Zc [6] ?_)
  have h12:=Zb h11 []
  replace h12:=nf h12
  refine J.ret ?_
  cases H
  exact ⟨_,_,_,Za,⟨rfl,rfl⟩,Zb h12 []⟩
 refine Zh 1 ?_
 refine Zg (Zd 1 h11.wht) ?_
 refine Zh 2 ?_
 refine Zg (Zd 0 h11.wht) ?_
 refine Zh 3 ?_
 refine Z7 52 H (fun c7 H=>?_) fun c7 H=>?_
 ·refine Zi [3,4,5,57] rfl ?_
  refine Zo ?_
  refine J.seq (Zc [6] ?_)
  have h13:=Zb h11 []
  replace h13:=nf h13
  refine J.ret ?_
  cases H
  exact ⟨_,_,_,Za,⟨rfl,rfl⟩,Zb h13 []⟩
 refine Zh 1 ?_
 refine Zg (Zd 1 h11.wht) ?_
 obtain ⟨r4,q4,H⟩:=Zn H
 refine Ze (Zf [] (Q12.spec q4) h11 rfl (Z0 (Zm 5) Zs)) ?_
 rintro _ w7 ⟨_,⟨rfl,rfl⟩,h14⟩
 replace h14:=nf h14
 refine Zi [3,4,5,57] rfl ?_
 refine jIf H (fun c8 H=>?_) fun c8 H=>?_
 ·refine J.seq (Zc [6] ?_)
  have h15:=Zb h14 []
  replace h15:=nf h15
  refine J.ret ?_
  cases H
  exact ⟨_,_,_,Za,⟨rfl,rfl⟩,Zb h15 []⟩
 refine J.skip (J.seq (J.region ?_))
 refine Zh 1 ?_
 refine Zg (Zd 1 h14.wht) ?_
 refine Zh 1 ?_
 obtain ⟨r5,q5,H⟩:=Zn H
 refine Ze (Zf [0,1] (Q105.spec q5) h14 rfl (Z0 (Zm 3) Zs)) ?_
 rintro _ w8 ⟨_,⟨rfl,rfl⟩,h16⟩
 replace h16:=nf h16
 refine Zi [6] rfl ?_
 have h17:=Zb h16 []
 replace h17:=nf h17
 refine J.ret ?_
 cases H
 exact ⟨_,_,_,Za,⟨rfl,rfl⟩,Zb h17 []⟩

def Q62.f (k:Nat) (a0:Int×Int×Int×Int×Int×Int×Int×Int) (a1:List UInt8×List UInt8×Bool) (a2:Int×List (Int)×List (List UInt8)×(List (List UInt8×Bool×List UInt8))×(List (List UInt8×List UInt8))):Option (Bool):=if (decide (a2.1<0))=true then (some false) else (if (decide (a2.1=0))=true then ((Q67.f k a0 a1 a2).bind fun r1=>(some r1)) else ((Q63.f k a0 a1 a2).bind fun r2=>(some r2)))
theorem Q62.spec {k:Nat} {a0:Int×Int×Int×Int×Int×Int×Int×Int} {a1:List UInt8×List UInt8×Bool} {a2:Int×List (Int)×List (List UInt8)×(List (List UInt8×Bool×List UInt8))×(List (List UInt8×List UInt8))} {A1:Option Addr} {c_1:Nat} {A2:Option Addr} {c_2:Nat} {A3:Option Addr} {c_3:Nat} {A4:Option Addr} {c_4:Nat} {r:Bool} (H:Q62.f k a0 a1 a2=some r) :
  Spec Tryz.prog 120 [.agg #[.int .i64 a0.1,.int .i64 a0.2.1,.int .i64 a0.2.2.1,.int .i64 a0.2.2.2.1,.int .i64 a0.2.2.2.2.1,.int .i64 a0.2.2.2.2.2.1,.int .i64 a0.2.2.2.2.2.2.1,.int .i64 a0.2.2.2.2.2.2.2],.agg #[.string ⟨⟨a1.1⟩⟩,.string ⟨⟨a1.2.1⟩⟩,.bool a1.2.2],.agg #[.int .i64 a2.1,.slice A1 a2.2.1.length c_1,.slice A2 a2.2.2.1.length c_2,.slice A3 a2.2.2.2.1.length c_3,.slice A4 a2.2.2.2.2.length c_4]] [] [R33 a2.2.1 A1 c_1,R9 a2.2.2.1 A2 c_2,Xk a2.2.2.2.1 A3 c_3,Xl a2.2.2.2.2 A4 c_4] (fun v l=>v=.bool r∧l=[]):=by
 refine Zp Tryz.func120 fun w0 F0 h0=>?_
 unfold Q62.f at H
 refine J.seq (J.region ?_)
 refine Ze (Ye h0) ?_
 rintro _ w1 ⟨b1,rfl,h1⟩
 replace h1:=nf h1
 refine Ze (Ye h1) ?_
 rintro _ w2 ⟨b2,rfl,h2⟩
 replace h2:=nf h2
 refine Ze (Ye h2) ?_
 rintro _ w3 ⟨b3,rfl,h3⟩
 replace h3:=nf h3
 refine Zi [3,4,5] rfl ?_
 refine J.seq (J.block (J.seq (J.region ?_)))
 refine Zh 1 ?_
 refine Zg (Zd 0 h3.wht) ?_
 refine Zi [3,4,5,7] rfl ?_
 refine jIf H (fun c1 H=>?_) fun c1 H=>?_
 ·refine J.seq (Zc [6] ?_)
  have h4:=Zb h3 []
  replace h4:=nf h4
  refine J.ret ?_
  cases H
  exact ⟨_,_,_,Za,⟨rfl,rfl⟩,Zb h4 []⟩
 refine J.seq (J.region ?_)
 refine Zh 1 ?_
 refine Zg (Zd 0 h3.wht) ?_
 refine Zi [3,4,5,11] rfl ?_
 refine jIf H (fun c2 H=>?_) fun c2 H=>?_
 ·refine J.seq (J.region ?_)
  refine Zg (Zd 2 h3.wht) ?_
  refine Zg (Zd 1 h3.wht) ?_
  refine Zg (Zd 0 h3.wht) ?_
  obtain ⟨r1,q1,H⟩:=Zn H
  refine Ze (Zf [] (Q67.spec q1) h3 rfl (Z0 (Zm 3) (Z0 (Zm 4) (Z0 (Zm 5) (Z0 (Zm 6) Zs))))) ?_
  rintro _ w4 ⟨_,⟨rfl,rfl⟩,h5⟩
  replace h5:=nf h5
  refine Zi [6] rfl ?_
  have h6:=Zb h5 []
  replace h6:=nf h6
  refine J.ret ?_
  cases H
  exact ⟨_,_,_,Za,⟨rfl,rfl⟩,Zb h6 []⟩
 refine J.skip (J.seq (J.region ?_))
 refine Zg (Zd 2 h3.wht) ?_
 refine Zg (Zd 1 h3.wht) ?_
 refine Zg (Zd 0 h3.wht) ?_
 obtain ⟨r2,q2,H⟩:=Zn H
 refine Ze (Zf [] (Q63.spec q2) h3 rfl (Z0 (Zm 3) (Z0 (Zm 4) (Z0 (Zm 5) (Z0 (Zm 6) Zs))))) ?_
 rintro _ w5 ⟨_,⟨rfl,rfl⟩,h7⟩
 replace h7:=nf h7
 refine Zi [6] rfl ?_
 have h8:=Zb h7 []
 replace h8:=nf h8
 refine J.ret ?_
 cases H
 exact ⟨_,_,_,Za,⟨rfl,rfl⟩,Zb h8 []⟩

def Q102.f (a0:List (Int)):Option (List (Int)):=if (([]:List (Int)).length+a0.length)*1≤140737488355328 then (some (([]:List (Int)) ++ a0)) else none
theorem Q102.spec {a0:List (Int)} {A1:Option Addr} {c_1:Nat} {r:List (Int)} (H:Q102.f a0=some r) :
  Spec Tryz.prog 63 [.slice A1 a0.length c_1] [] [R5 a0 A1 c_1] (fun v l=>∃(A_0:Option Addr) (c_0:Nat),v=.slice A_0 r.length c_0∧l=[O5 r A_0 c_0]):=by
 refine Zp Tryz.func63 fun w0 F0 h0=>?_
 unfold Q102.f at H
 refine J.seq (Zc [0] ?_)
 refine J.seq (J.seq (Zc [0,4] ?_))
 refine Jb (fun c1=>?_) (fun c1=>?_)
 ·have e1:=h0.nilrow (Zm 0) (by simpa using c1)
  replace H:(some ([]:List (Int)))=some r:=by rw [e1] at H; simpa using H
  refine J.seq (Zc [2] ?_)
  refine J.ret ?_
  have h1:=h0.addNil 5 (.int .u8)
  cases H
  exact ⟨_,_,_,Za,⟨_,_,rfl,rfl⟩,Zb h1 [0]⟩
 refine J.skip (J.seq (J.region ?_))
 refine Ze (Xc (.int .u8) ([]:List (Int)) h0) ?_
 rintro _ w1 ⟨b1,rfl,h2⟩
 replace h2:=nf h2
 refine Zh 1 ?_
 obtain ⟨p1,H⟩:=Zt H
 refine Ze (Yr 0 h2 (Zm 0) p1) ?_
 rintro _ w2 ⟨A2,c_2,rfl,h3⟩
 replace h3:=nf h3
 refine Zi [2] rfl ?_
 refine J.ret ?_
 cases H
 exact ⟨_,_,_,Za,⟨_,_,rfl,rfl⟩,Zb h3 [0]⟩

def Q152.f (a0:Int):Option (Bool):=if (decide (a0=1))=true then (some true) else (if (decide (a0=2))=true then (some true) else (if (decide (a0=4))=true then (some true) else (some (decide (a0=8)))))
theorem Q152.spec {a0:Int}  {r:Bool} (H:Q152.f a0=some r) :
  Spec Tryz.prog 113 [.int .i64 a0] [] [] (fun v l=>v=.bool r∧l=[]):=by
 refine Zp Tryz.func113 fun w0 F0 h0=>?_
 unfold Q152.f at H
 refine J.seq (Zc [0] ?_)
 refine J.seq (J.region ?_)
 refine Zh 3 ?_
 refine Z7 5 H (fun c1 H=>?_) fun c1 H=>?_
 ·refine Zi [2] rfl ?_
  refine J.ret ?_
  cases H
  exact ⟨_,_,_,Za,⟨rfl,rfl⟩,Zb h0 []⟩
 refine Zh 4 ?_
 refine Z7 9 H (fun c2 H=>?_) fun c2 H=>?_
 ·refine Zi [2] rfl ?_
  refine J.ret ?_
  cases H
  exact ⟨_,_,_,Za,⟨rfl,rfl⟩,Zb h0 []⟩
 refine Zh 4 ?_
 refine Z7 13 H (fun c3 H=>?_) fun c3 H=>?_
 ·refine Zi [2] rfl ?_
  refine J.ret ?_
  cases H
  exact ⟨_,_,_,Za,⟨rfl,rfl⟩,Zb h0 []⟩
 refine Zi [2] rfl ?_
 refine J.ret ?_
 cases H
 exact ⟨_,_,_,Za,⟨rfl,rfl⟩,Zb h0 []⟩

def Q143.l0:Nat→(Int)→(List (Int))→(Int)→Option (List (Int))
 | 0,_,_,_=>none
 | k+1,a2,x1,x2=>if (decide (0≤x2))=true then (if 0≤(w64 (8*x2)) then (if (x1.length+([(IntKind.u8.wrap ((Int.fdiv a2 (2 ^ (min (w64 (8*x2)).toNat 64)))))]:List (Int)).length)*1≤140737488355328 then (Q143.l0 k a2 (x1 ++ ([(IntKind.u8.wrap ((Int.fdiv a2 (2 ^ (min (w64 (8*x2)).toNat 64)))))]:List (Int))) (w64 (x2 - 1))) else none) else none) else (some x1)
def Q143.f (k:Nat) (a0:List (Int)) (a1:Int) (a2:Int):Option (List (Int)):=(Q102.f a0).bind fun r1=>((Q152.f a1).bind fun r2=>(if (!r2)=true then (some r1) else (Q143.l0 k a2 r1 (w64 (a1 - 1)))))
theorem Q143.spec {k:Nat} {a0:List (Int)} {a1:Int} {a2:Int} {A1:Option Addr} {c_1:Nat} {r:List (Int)} (H:Q143.f k a0 a1 a2=some r) :
  Spec Tryz.prog 210 [.slice A1 a0.length c_1,.int .i64 a1,.int .u64 a2] [] [R5 a0 A1 c_1] (fun v l=>∃(A_0:Option Addr) (c_0:Nat),v=.slice A_0 r.length c_0∧l=[O5 r A_0 c_0]):=by
 refine Zp Tryz.func210 fun w0 F0 h0=>?_
 unfold Q143.f at H
 refine J.seq (Zc [0,1,2] ?_)
 refine J.seq (J.region ?_)
 refine Zh 1 ?_
 obtain ⟨r1,q1,H⟩:=Zn H
 refine Ze (Zf [] (Q102.spec q1) h0 rfl (Z0 (Zm 0) Zs)) ?_
 rintro _ w1 ⟨_,⟨A2,c_2,rfl,rfl⟩,h1⟩
 replace h1:=nf h1
 refine Zi [1,2,7] rfl ?_
 refine J.seq (J.seq (J.region ?_))
 refine Zh 1 ?_
 obtain ⟨r2,q2,H⟩:=Zn H
 refine Ze (Zf [] (Q152.spec q2) h1 rfl Zs) ?_
 rintro _ w2 ⟨_,⟨rfl,rfl⟩,h2⟩
 replace h2:=nf h2
 refine Zi [1,2,7,13] rfl ?_
 refine jIf H (fun c1 H=>?_) fun c1 H=>?_
 ·refine J.seq (Zc [6] ?_)
  refine J.ret ?_
  cases H
  exact ⟨_,_,_,Za,⟨_,_,rfl,rfl⟩,Zb h2 [0]⟩
 refine J.skip (J.seq (J.seq (Zc [2,7,8] ?_)))
 refine J.block ?_
 have h7:=(sOR h2 [0] [])
 refine J.loop (fun kk env w=>∃(x1:List (Int)) (A3:Option Addr) (c_3:Nat) (x2:Int),env=[(2,.int .u64 a2),(7,.slice A3 x1.length c_3),(8,.int .i64 x2)]∧St w0 F0 [O5 x1 A3 c_3] [] w∧Q143.l0 kk a2 x1 x2=some r) (k:=k) ⟨r1,A2,c_2,(w64 (a1 - 1)),rfl,h7,H⟩ ?_
 rintro k1 env w3 ⟨x1,A3,c_3,x2,rfl,h3,H⟩
 rcases k1 with _ | k1
 ·exact z0 H
 rw [Q143.l0] at H
 refine J.seq (J.seq (Zc [2,7,8,18] ?_))
 refine jIf H (fun c2 H=>?_) fun c2 H=>?_
 ·refine J.skip (J.seq (J.block (J.region ?_)))
  refine Zh 4 ?_
  obtain ⟨p1,H⟩:=Zt H
  refine Zg (Ju p1) ?_
  refine Zh 1 ?_
  refine Ze (Xc (.int .u8) ([(IntKind.u8.wrap ((Int.fdiv a2 (2 ^ (min (w64 (8*x2)).toNat 64)))))]:List (Int)) h3) ?_
  rintro _ w4 ⟨b1,rfl,h4⟩
  replace h4:=nf h4
  obtain ⟨p2,H⟩:=Zt H
  refine Ze (Yr 1 h4 (gO 0) p2) ?_
  rintro _ w5 ⟨A4,c_4,rfl,h5⟩
  replace h5:=nf h5
  refine Zi [2,7,8] rfl ?_
  refine Zc [2,7,8] ?_
  have h6:=(sOR h5 [0] [])
  exact ⟨k1,by omega,(x1 ++ ([(IntKind.u8.wrap ((Int.fdiv a2 (2 ^ (min (w64 (8*x2)).toNat 64)))))]:List (Int))),A4,c_4,(w64 (x2 - 1)),rfl,h6,H⟩
 refine J.exit (J.seq (Zc [6] ?_))
 refine J.ret ?_
 cases H
 exact ⟨_,_,_,Za,⟨_,_,rfl,rfl⟩,Zb h3 [0]⟩

def Q37.f (k:Nat) (a0:List (Int)) (a1:Int) (a2:Int):Option (List (Int)):=(Q143.f k ([]:List (Int)) a1 a2).bind fun r1=>(if (a0.length+r1.length)*1≤140737488355328 then (some (a0 ++ r1)) else none)
theorem Q37.spec {k:Nat} {a0:List (Int)} {a1:Int} {a2:Int} {A1:Option Addr} {c_1:Nat} {r:List (Int)} (H:Q37.f k a0 a1 a2=some r) :
  Spec Tryz.prog 169 [.slice A1 a0.length c_1,.int .i64 a1,.int .u64 a2] [O5 a0 A1 c_1] [] (fun v l=>∃(A_0:Option Addr) (c_0:Nat),v=.slice A_0 r.length c_0∧l=[O5 r A_0 c_0]):=by
 refine Zp Tryz.func169 fun w0 F0 h0=>?_
 unfold Q37.f at H
 refine J.seq (Zc [0,1,2] ?_)
 refine J.seq (J.region ?_)
 refine Zh 3 ?_
 have h1:=h0.addNil 5 (.int .u8)
 have h2:=h1.freeze (k:=0) rfl Y9
 obtain ⟨r1,q1,H⟩:=Zn H
 refine Ze (Zf [] (Q143.spec q1) h2 rfl (Z0 (Zm 1) Zs)) ?_
 rintro _ w1 ⟨_,⟨A2,c_2,rfl,rfl⟩,h3⟩
 replace h3:=nf h3
 obtain ⟨p1,H⟩:=Zt H
 refine Ze (Yr 1 h3 (gO 0) p1) ?_
 rintro _ w2 ⟨A3,c_3,rfl,h4⟩
 replace h4:=nf h4
 refine Zi [6] rfl ?_
 refine J.ret ?_
 cases H
 exact ⟨_,_,_,Za,⟨_,_,rfl,rfl⟩,Zb h4 [0]⟩

def Q36.f (k:Nat) (a0:Int) (a1:Int) (a2:Int) (a3:Int):Option (List (Int)):=(Q37.f k ([]:List (Int)) 1 (IntKind.u64.wrap (a0))).bind fun r1=>((Q37.f k r1 1 (IntKind.u64.wrap (a1))).bind fun r2=>((Q37.f k r2 2 (IntKind.u64.wrap (a2))).bind fun r3=>((Q37.f k r3 2 (IntKind.u64.wrap (a3))).bind fun r4=>((Q37.f k r4 2 0).bind fun r5=>(some r5)))))
theorem Q36.spec {k:Nat} {a0:Int} {a1:Int} {a2:Int} {a3:Int}  {r:List (Int)} (H:Q36.f k a0 a1 a2 a3=some r) :
  Spec Tryz.prog 167 [.int .i64 a0,.int .i64 a1,.int .i64 a2,.int .i64 a3] [] [] (fun v l=>∃(A_0:Option Addr) (c_0:Nat),v=.slice A_0 r.length c_0∧l=[O5 r A_0 c_0]):=by
 refine Zp Tryz.func167 fun w0 F0 h0=>?_
 unfold Q36.f at H
 refine J.seq (Zc [0,1,2,3] ?_)
 refine J.seq (J.region ?_)
 refine Zh 2 ?_
 have h1:=h0.addNil 5 (.int .u8)
 obtain ⟨r1,q1,H⟩:=Zn H
 refine Ze (Zf [0] (Q37.spec q1) h1 rfl Zs) ?_
 rintro _ w1 ⟨_,⟨A1,c_1,rfl,rfl⟩,h2⟩
 replace h2:=nf h2
 refine Zi [1,2,3,9] rfl ?_
 refine J.seq (J.region ?_)
 refine Zh 3 ?_
 obtain ⟨r2,q2,H⟩:=Zn H
 refine Ze (Zf [0] (Q37.spec q2) h2 rfl Zs) ?_
 rintro _ w2 ⟨_,⟨A2,c_2,rfl,rfl⟩,h3⟩
 replace h3:=nf h3
 refine Zi [2,3,9] rfl ?_
 refine J.seq (J.region ?_)
 refine Zh 3 ?_
 obtain ⟨r3,q3,H⟩:=Zn H
 refine Ze (Zf [0] (Q37.spec q3) h3 rfl Zs) ?_
 rintro _ w3 ⟨_,⟨A3,c_3,rfl,rfl⟩,h4⟩
 replace h4:=nf h4
 refine Zi [3,9] rfl ?_
 refine J.seq (J.region ?_)
 refine Zh 3 ?_
 obtain ⟨r4,q4,H⟩:=Zn H
 refine Ze (Zf [0] (Q37.spec q4) h4 rfl Zs) ?_
 rintro _ w4 ⟨_,⟨A4,c_4,rfl,rfl⟩,h5⟩
 replace h5:=nf h5
 refine Zi [9] rfl ?_
 refine J.seq (J.region ?_)
 refine Zh 1 ?_
 obtain ⟨r5,q5,H⟩:=Zn H
 refine Ze (Zf [0] (Q37.spec q5) h5 rfl Zs) ?_
 rintro _ w5 ⟨_,⟨A5,c_5,rfl,rfl⟩,h6⟩
 replace h6:=nf h6
 refine Zi [8] rfl ?_
 refine J.ret ?_
 cases H
 exact ⟨_,_,_,Za,⟨_,_,rfl,rfl⟩,Zb h6 [0]⟩

def Q42.f (a0:List (Int)) (a1:List UInt8) (a2:Int):Option (List (Int)):=if a0.length+a1.length≤140737488355328 then (if 0≤(w64 (a2 - (a1.length:Int)))∧(((a0 ++ toB a1).length:Int)+(w64 (a2 - (a1.length:Int))))*1≤140737488355328 then (some ((a0 ++ toB a1) ++ List.replicate (w64 (a2 - (a1.length:Int))).toNat 0)) else none) else none
theorem Q42.spec {a0:List (Int)} {a1:List UInt8} {a2:Int} {A1:Option Addr} {c_1:Nat} {r:List (Int)} (H:Q42.f a0 a1 a2=some r) :
  Spec Tryz.prog 170 [.slice A1 a0.length c_1,.string ⟨⟨a1⟩⟩,.int .i64 a2] [O5 a0 A1 c_1] [] (fun v l=>∃(A_0:Option Addr) (c_0:Nat),v=.slice A_0 r.length c_0∧l=[O5 r A_0 c_0]):=by
 refine Zp Tryz.func170 fun w0 F0 h0=>?_
 unfold Q42.f at H
 refine J.seq (Zc [0,1,2] ?_)
 refine J.seq (J.region ?_)
 refine Zh 2 ?_
 obtain ⟨p1,H⟩:=Zt H
 refine Ze (Uq 0 h0 p1) ?_
 rintro _ w1 ⟨A2,c_2,rfl,h1⟩
 replace h1:=nf h1
 refine Zh 4 ?_
 obtain ⟨⟨p2,p3⟩,H⟩:=Zt H
 refine Ze (Wj Yu (ty:=(.int .u8)) rfl 0 0 rfl h1 rfl rfl rfl rfl rfl rfl rfl rfl (by decide) (by decide) p2 p3) ?_
 rintro _ w2 ⟨A3,c_3,rfl,h2⟩
 replace h2:=nf h2
 refine Zi [6] rfl ?_
 refine J.ret ?_
 cases H
 exact ⟨_,_,_,Za,⟨_,_,rfl,rfl⟩,Zb h2 [0]⟩

def Q38.f (k:Nat) (a0:Int×Int×Int×Int×Int×Int×Int×Int) (a1:List (Int)) (a2:List UInt8) (a3:List UInt8):Option (List (Int)):=(Q37.f k a1 1 (IntKind.u64.wrap ((a2.length:Int)))).bind fun r1=>((Q37.f k r1 2 (IntKind.u64.wrap ((a3.length:Int)))).bind fun r2=>((Q42.f r2 a2 a0.2.2.2.2.2.2.1).bind fun r3=>((Q42.f r3 a3 a0.2.2.2.2.2.2.2).bind fun r4=>(some r4))))
theorem Q38.spec {k:Nat} {a0:Int×Int×Int×Int×Int×Int×Int×Int} {a1:List (Int)} {a2:List UInt8} {a3:List UInt8} {A1:Option Addr} {c_1:Nat} {r:List (Int)} (H:Q38.f k a0 a1 a2 a3=some r) :
  Spec Tryz.prog 168 [.agg #[.int .i64 a0.1,.int .i64 a0.2.1,.int .i64 a0.2.2.1,.int .i64 a0.2.2.2.1,.int .i64 a0.2.2.2.2.1,.int .i64 a0.2.2.2.2.2.1,.int .i64 a0.2.2.2.2.2.2.1,.int .i64 a0.2.2.2.2.2.2.2],.slice A1 a1.length c_1,.string ⟨⟨a2⟩⟩,.string ⟨⟨a3⟩⟩] [O5 a1 A1 c_1] [] (fun v l=>∃(A_0:Option Addr) (c_0:Nat),v=.slice A_0 r.length c_0∧l=[O5 r A_0 c_0]):=by
 refine Zp Tryz.func168 fun w0 F0 h0=>?_
 unfold Q38.f at H
 refine J.seq (J.region ?_)
 refine Ze (Ye h0) ?_
 rintro _ w1 ⟨b1,rfl,h1⟩
 replace h1:=nf h1
 refine Zi [1,2,3,4] rfl ?_
 refine J.seq (J.region ?_)
 refine Zh 4 ?_
 obtain ⟨r1,q1,H⟩:=Zn H
 refine Ze (Zf [1] (Q37.spec q1) h1 rfl Zs) ?_
 rintro _ w2 ⟨_,⟨A2,c_2,rfl,rfl⟩,h2⟩
 replace h2:=nf h2
 refine Zi [1,2,3,4] rfl ?_
 refine J.seq (J.region ?_)
 refine Zh 4 ?_
 obtain ⟨r2,q2,H⟩:=Zn H
 refine Ze (Zf [0] (Q37.spec q2) h2 rfl Zs) ?_
 rintro _ w3 ⟨_,⟨A3,c_3,rfl,rfl⟩,h3⟩
 replace h3:=nf h3
 refine Zi [1,2,3,4] rfl ?_
 refine J.seq (Zv (Zb h3 [1]) ?_)
 have h4:=h3.drew
 refine Zu [0,1,2,5,6] ?_
 refine Zj 3 rfl (Zd 0 wI) ?_
 refine Zj 7 rfl (Zd 0 wI) ?_
 obtain ⟨r3,q3,H⟩:=Zn H
 refine Zq 4 rfl (Zf [0] (Q42.spec q3) h4 rfl Zs) ?_
 rintro _ w4 ⟨_,⟨A4,c_4,rfl,rfl⟩,h5⟩
 replace h5:=nf h5
 refine ⟨⟨[_],h5⟩,?_⟩
 obtain ⟨r4,q4,H⟩:=Zn H
 refine Zq 8 rfl (Zf [0] (Q42.spec q4) h5 rfl Zs) ?_
 rintro _ w5 ⟨_,⟨A5,c_5,rfl,rfl⟩,h6⟩
 replace h6:=nf h6
 refine ⟨⟨[_],h6⟩,?_⟩
 refine Zu [9] ?_
 refine Zw [8] ?_
 refine J.ret ?_
 cases H
 exact ⟨_,_,_,Za,⟨_,_,rfl,rfl⟩,Zb h6 [0]⟩

def Q43.l2:Nat→(Int×Int×Int×Int×Int×Int×Int×Int)→(Int×List (Int)×List (List UInt8)×(List (List UInt8×Bool×List UInt8))×(List (List UInt8×List UInt8)))→(List (Int))→(Int)→Option (List (Int))
 | 0,_,_,_,_=>none
 | k+1,a0,a1,x5,x6=>if (decide (x6<(a1.2.2.2.1.length:Int)))=true then (if 0≤x6∧x6<(a1.2.2.2.1.length:Int) then (if (gt a1.2.2.2.1 x6).2.1=true then ((Q37.f k x5 1 2).bind fun r8=>((Q38.f k a0 r8 ((gt a1.2.2.2.1 x6).1) ((gt a1.2.2.2.1 x6).2.2)).bind fun r9=>(Q43.l2 k a0 a1 r9 (w64 (x6+1))))) else ((Q37.f k x5 1 1).bind fun r10=>((Q38.f k a0 r10 ((gt a1.2.2.2.1 x6).1) ((gt a1.2.2.2.1 x6).2.2)).bind fun r11=>(Q43.l2 k a0 a1 r11 (w64 (x6+1)))))) else none) else (some x5)
def Q43.l1:Nat→(Int×Int×Int×Int×Int×Int×Int×Int)→(Int×List (Int)×List (List UInt8)×(List (List UInt8×Bool×List UInt8))×(List (List UInt8×List UInt8)))→(List (Int))→(Int)→Option (List (Int))
 | 0,_,_,_,_=>none
 | k+1,a0,a1,x3,x4=>if (decide (x4<(w64 (a0.2.2.2.1 - 1))))=true then (if (decide (x4<(a1.2.2.1.length:Int)))=true then (if 0≤x4∧x4<(a1.2.2.1.length:Int) then ((Q37.f k x3 1 (IntKind.u64.wrap (((gt a1.2.2.1 x4).length:Int)))).bind fun r4=>((Q42.f r4 (gt a1.2.2.1 x4) a0.2.2.2.2.2.2.1).bind fun r5=>(Q43.l1 k a0 a1 r5 (w64 (x4+1))))) else none) else ((Q37.f k x3 1 (IntKind.u64.wrap ((([]:List UInt8).length:Int)))).bind fun r6=>((Q42.f r6 ([]:List UInt8) a0.2.2.2.2.2.2.1).bind fun r7=>(Q43.l1 k a0 a1 r7 (w64 (x4+1)))))) else (Q43.l2 k a0 a1 x3 0)
def Q43.l0:Nat→(Int×Int×Int×Int×Int×Int×Int×Int)→(Int×List (Int)×List (List UInt8)×(List (List UInt8×Bool×List UInt8))×(List (List UInt8×List UInt8)))→(List (Int))→(Int)→Option (List (Int))
 | 0,_,_,_,_=>none
 | k+1,a0,a1,x1,x2=>if (decide (x2<a0.2.2.2.1))=true then (if (decide (x2<(a1.2.1.length:Int)))=true then (if 0≤x2∧x2<(a1.2.1.length:Int) then ((Q37.f k x1 4 (IntKind.u64.wrap ((gt a1.2.1 x2)))).bind fun r2=>(Q43.l0 k a0 a1 r2 (w64 (x2+1)))) else none) else ((Q37.f k x1 4 0).bind fun r3=>(Q43.l0 k a0 a1 r3 (w64 (x2+1))))) else (Q43.l1 k a0 a1 x1 0)
def Q43.f (k:Nat) (a0:Int×Int×Int×Int×Int×Int×Int×Int) (a1:Int×List (Int)×List (List UInt8)×(List (List UInt8×Bool×List UInt8))×(List (List UInt8×List UInt8))):Option (List (Int)):=(Q36.f k 2 a1.1 (a1.2.1.length:Int) (a1.2.2.2.1.length:Int)).bind fun r1=>(Q43.l0 k a0 a1 r1 0)
theorem Q43.spec {k:Nat} {a0:Int×Int×Int×Int×Int×Int×Int×Int} {a1:Int×List (Int)×List (List UInt8)×(List (List UInt8×Bool×List UInt8))×(List (List UInt8×List UInt8))} {A1:Option Addr} {c_1:Nat} {A2:Option Addr} {c_2:Nat} {A3:Option Addr} {c_3:Nat} {A4:Option Addr} {c_4:Nat} {r:List (Int)} (H:Q43.f k a0 a1=some r) :
  Spec Tryz.prog 123 [.agg #[.int .i64 a0.1,.int .i64 a0.2.1,.int .i64 a0.2.2.1,.int .i64 a0.2.2.2.1,.int .i64 a0.2.2.2.2.1,.int .i64 a0.2.2.2.2.2.1,.int .i64 a0.2.2.2.2.2.2.1,.int .i64 a0.2.2.2.2.2.2.2],.agg #[.int .i64 a1.1,.slice A1 a1.2.1.length c_1,.slice A2 a1.2.2.1.length c_2,.slice A3 a1.2.2.2.1.length c_3,.slice A4 a1.2.2.2.2.length c_4]] [] [R33 a1.2.1 A1 c_1,R9 a1.2.2.1 A2 c_2,Xk a1.2.2.2.1 A3 c_3,Xl a1.2.2.2.2 A4 c_4] (fun v l=>∃(A_0:Option Addr) (c_0:Nat),v=.slice A_0 r.length c_0∧l=[O5 r A_0 c_0]):=by
 refine Zp Tryz.func123 fun w0 F0 h0=>?_
 unfold Q43.f at H
 refine J.seq (J.region ?_)
 refine Ze (Ye h0) ?_
 rintro _ w1 ⟨b1,rfl,h1⟩
 replace h1:=nf h1
 refine Ze (Ye h1) ?_
 rintro _ w2 ⟨b2,rfl,h2⟩
 replace h2:=nf h2
 refine Zi [2,3] rfl ?_
 refine J.seq (J.region ?_)
 refine Zh 1 ?_
 refine Zg (Zd 0 h2.wht) ?_
 refine Zh 1 ?_
 refine Zg (Zd 0 h2.wht) ?_
 refine Zh 2 ?_
 refine Zg (Zd 0 h2.wht) ?_
 refine Zh 1 ?_
 obtain ⟨r1,q1,H⟩:=Zn H
 refine Ze (Zf [] (Q36.spec q1) h2 rfl Zs) ?_
 rintro _ w3 ⟨_,⟨A5,c_5,rfl,rfl⟩,h3⟩
 replace h3:=nf h3
 refine Zi [2,3,5] rfl ?_
 refine J.seq (J.seq (J.region ?_))
 refine Zh 1 ?_
 refine Zg (Zd 2 h3.wht) ?_
 refine Zi [2,3,5,23,24] rfl ?_
 refine J.block ?_
 have h31:=(sOR h3 [2,1,0] [0,1,2,3])
 refine J.loop (fun kk env w=>∃(x1:List (Int)) (A6:Option Addr) (c_6:Nat) (x2:Int),env=[(2,.pointer (some ⟨b1,0,none⟩)),(3,.pointer (some ⟨b2,0,none⟩)),(5,.slice A6 x1.length c_6),(23,.int .i64 a0.2.2.2.1),(24,.int .i64 x2)]∧St w0 F0 [X23 b1 a0.1 a0.2.1 a0.2.2.1 a0.2.2.2.1 a0.2.2.2.2.1 a0.2.2.2.2.2.1 a0.2.2.2.2.2.2.1 a0.2.2.2.2.2.2.2,X43 b2 a1.1 a1.2.1 A1 c_1 a1.2.2.1 A2 c_2 a1.2.2.2.1 A3 c_3 a1.2.2.2.2 A4 c_4,O5 x1 A6 c_6] [R33 a1.2.1 A1 c_1,R9 a1.2.2.1 A2 c_2,Xk a1.2.2.2.1 A3 c_3,Xl a1.2.2.2.2 A4 c_4] w∧Q43.l0 kk a0 a1 x1 x2=some r) (k:=k) ⟨r1,A5,c_5,0,rfl,h31,H⟩ ?_
 rintro k1 env w4 ⟨x1,A6,c_6,x2,rfl,h4,H⟩
 rcases k1 with _ | k1
 ·exact z0 H
 rw [Q43.l0] at H
 refine J.seq (Zc [2,3,5,23,24,25] ?_)
 refine J.seq (jIf H (fun c1 H=>?_) fun c1 H=>?_)
 ·refine J.skip (J.seq (J.block (J.seq (Zc [2,3,5,6,23,24] ?_))))
  refine J.seq (Zc [2,3,5,6,7,23,24] ?_)
  refine J.seq (J.seq (J.region ?_))
  refine Zh 2 ?_
  refine Zg (Zd 1 h4.wht) ?_
  refine Zi [2,3,5,6,7,23,24,31] rfl ?_
  refine jIf H (fun c2 H=>?_) fun c2 H=>?_
  ·refine J.region (Zh 1 ?_)
   refine Zg (Zd 1 h4.wht) ?_
   refine Zh 1 ?_
   obtain ⟨⟨p1,p2⟩,H⟩:=Zt H
   have e1:=Z6 h4.wh (Zm 3) p1 p2
   refine Zg (Zk e1 p1 p2) ?_
   refine Zg (Zl 0 h4.wht (Zm 3) p1 p2) ?_
   refine Zi [2,3,5,7,23,24] rfl ?_
   refine J.region (Zh 3 ?_)
   obtain ⟨r2,q2,H⟩:=Zn H
   refine Ze (Zf [2] (Q37.spec q2) h4 rfl Zs) ?_
   rintro _ w5 ⟨_,⟨A7,c_7,rfl,rfl⟩,h5⟩
   replace h5:=nf h5
   refine Zi [2,3,5,23,24] rfl ?_
   refine Zc [2,3,5,23,24] ?_
   have h6:=(sOR h5 [1,1,0] [0,1,2,3])
   exact ⟨k1,by omega,r2,A7,c_7,(w64 (x2+1)),rfl,h6,H⟩
  refine J.skip (J.region (Zh 3 ?_))
  obtain ⟨r3,q3,H⟩:=Zn H
  refine Ze (Zf [2] (Q37.spec q3) h4 rfl Zs) ?_
  rintro _ w6 ⟨_,⟨A8,c_8,rfl,rfl⟩,h7⟩
  replace h7:=nf h7
  refine Zi [2,3,5,23,24] rfl ?_
  refine Zc [2,3,5,23,24] ?_
  have h8:=(sOR h7 [1,1,0] [0,1,2,3])
  exact ⟨k1,by omega,r3,A8,c_8,(w64 (x2+1)),rfl,h8,H⟩
 refine J.exit (J.seq (J.seq (J.region ?_)))
 refine Zh 1 ?_
 refine Zg (Zd 0 h4.wht) ?_
 refine Zi [2,3,5,44,45] rfl ?_
 refine J.block ?_
 have h30:=(sOR h4 [0,0,0] [0,1,2,3])
 refine J.loop (fun kk env w=>∃(x3:List (Int)) (A9:Option Addr) (c_9:Nat) (x4:Int),env=[(2,.pointer (some ⟨b1,0,none⟩)),(3,.pointer (some ⟨b2,0,none⟩)),(5,.slice A9 x3.length c_9),(44,.int .i64 (w64 (a0.2.2.2.1 - 1))),(45,.int .i64 x4)]∧St w0 F0 [X23 b1 a0.1 a0.2.1 a0.2.2.1 a0.2.2.2.1 a0.2.2.2.2.1 a0.2.2.2.2.2.1 a0.2.2.2.2.2.2.1 a0.2.2.2.2.2.2.2,X43 b2 a1.1 a1.2.1 A1 c_1 a1.2.2.1 A2 c_2 a1.2.2.2.1 A3 c_3 a1.2.2.2.2 A4 c_4,O5 x3 A9 c_9] [R33 a1.2.1 A1 c_1,R9 a1.2.2.1 A2 c_2,Xk a1.2.2.2.1 A3 c_3,Xl a1.2.2.2.2 A4 c_4] w∧Q43.l1 kk a0 a1 x3 x4=some r) (k:=k1) ⟨x1,A6,c_6,0,rfl,h30,H⟩ ?_
 rintro k2 env w7 ⟨x3,A9,c_9,x4,rfl,h9,H⟩
 rcases k2 with _ | k2
 ·exact z0 H
 rw [Q43.l1] at H
 refine J.seq (Zc [2,3,5,44,45,46] ?_)
 refine J.seq (jIf H (fun c3 H=>?_) fun c3 H=>?_)
 ·refine J.skip (J.seq (J.block (J.seq (Zc [2,3,5,8,44,45] ?_))))
  refine J.seq (Zc [2,3,5,8,9,44,45] ?_)
  refine J.seq (J.seq (J.region ?_))
  refine Zh 2 ?_
  refine Zg (Zd 1 h9.wht) ?_
  refine Zi [2,3,5,8,9,44,45,52] rfl ?_
  refine jIf H (fun c4 H=>?_) fun c4 H=>?_
  ·refine J.region (Zh 1 ?_)
   refine Zg (Zd 1 h9.wht) ?_
   refine Zh 1 ?_
   obtain ⟨⟨p3,p4⟩,H⟩:=Zt H
   have e2:=Z6 h9.wh (Zm 4) p3 p4
   refine Zg (Zk e2 p3 p4) ?_
   refine Zg (Zl 0 h9.wht (Zm 4) p3 p4) ?_
   refine Zi [2,3,5,9,44,45] rfl ?_
   refine Zv (Zb h9 [0,0]) ?_
   have h10:=h9.drew
   refine Zu [0,1,2,3,5,6] ?_
   refine Zj 7 rfl (Zd 0 wI) ?_
   obtain ⟨r4,q4,H⟩:=Zn H
   refine Zq 4 rfl (Zf [2] (Q37.spec q4) h10 rfl Zs) ?_
   rintro _ w8 ⟨_,⟨A10,c_10,rfl,rfl⟩,h11⟩
   replace h11:=nf h11
   refine ⟨⟨[_],h11⟩,?_⟩
   obtain ⟨r5,q5,H⟩:=Zn H
   refine Zq 8 rfl (Zf [0] (Q42.spec q5) h11 rfl Zs) ?_
   rintro _ w9 ⟨_,⟨A11,c_11,rfl,rfl⟩,h12⟩
   replace h12:=nf h12
   refine ⟨⟨[_],h12⟩,?_⟩
   refine Zu [9] ?_
   refine Zw [2,3,5,44,45] ?_
   refine Zc [2,3,5,44,45] ?_
   have h13:=(sOR h12 [1,1,0] [0,1,2,3])
   exact ⟨k2,by omega,r5,A11,c_11,(w64 (x4+1)),rfl,h13,H⟩
  refine J.skip (Zv (Zb h9 [0,0]) ?_)
  have h14:=h9.drew
  refine Zu [0,1,2,3,5,6] ?_
  refine Zj 7 rfl (Zd 0 wI) ?_
  obtain ⟨r6,q6,H⟩:=Zn H
  refine Zq 4 rfl (Zf [2] (Q37.spec q6) h14 rfl Zs) ?_
  rintro _ w10 ⟨_,⟨A12,c_12,rfl,rfl⟩,h15⟩
  replace h15:=nf h15
  refine ⟨⟨[_],h15⟩,?_⟩
  obtain ⟨r7,q7,H⟩:=Zn H
  refine Zq 8 rfl (Zf [0] (Q42.spec q7) h15 rfl Zs) ?_
  rintro _ w11 ⟨_,⟨A13,c_13,rfl,rfl⟩,h16⟩
  replace h16:=nf h16
  refine ⟨⟨[_],h16⟩,?_⟩
  refine Zu [9] ?_
  refine Zw [2,3,5,44,45] ?_
  refine Zc [2,3,5,44,45] ?_
  have h17:=(sOR h16 [1,1,0] [0,1,2,3])
  exact ⟨k2,by omega,r7,A13,c_13,(w64 (x4+1)),rfl,h17,H⟩
 refine J.exit (J.seq (J.seq (J.region ?_)))
 refine Zh 1 ?_
 refine Zg (Zd 1 h9.wht) ?_
 refine Zi [2,5,69,70,71] rfl ?_
 refine J.block ?_
 have h29:=(sOR h9 [0,1] [2])
 refine J.loop (fun kk env w=>∃(x5:List (Int)) (A14:Option Addr) (c_14:Nat) (x6:Int),env=[(2,.pointer (some ⟨b1,0,none⟩)),(5,.slice A14 x5.length c_14),(69,.slice A3 a1.2.2.2.1.length c_3),(70,.int .i64 (a1.2.2.2.1.length:Int)),(71,.int .i64 x6)]∧St w0 F0 [X23 b1 a0.1 a0.2.1 a0.2.2.1 a0.2.2.2.1 a0.2.2.2.2.1 a0.2.2.2.2.2.1 a0.2.2.2.2.2.2.1 a0.2.2.2.2.2.2.2,O5 x5 A14 c_14] [Xk a1.2.2.2.1 A3 c_3] w∧Q43.l2 kk a0 a1 x5 x6=some r) (k:=k2) ⟨x3,A9,c_9,0,rfl,h29,H⟩ ?_
 rintro k3 env w12 ⟨x5,A14,c_14,x6,rfl,h18,H⟩
 rcases k3 with _ | k3
 ·exact z0 H
 rw [Q43.l2] at H
 refine J.seq (Zc [2,5,69,70,71,72] ?_)
 refine J.seq (jIf H (fun c5 H=>?_) fun c5 H=>?_)
 ·refine J.skip (J.seq (J.block (J.seq (J.region ?_))))
  obtain ⟨⟨p5,p6⟩,H⟩:=Zt H
  have e3:=Z6 h18.wh (Zm 2) p5 p6
  refine Zg (Zk e3 p5 p6) ?_
  refine Zg (Zl 0 h18.wht (Zm 2) p5 p6) ?_
  refine Ze (Yq h18) ?_
  rintro _ w13 ⟨b3,rfl,h19⟩
  replace h19:=nf h19
  refine Ze (Z3 0 h19) ?_
  intro _ w14 h20
  replace h20:=nf h20
  refine Zi [2,5,11,69,70,71] rfl ?_
  refine J.seq (Zc [2,5,11,12,69,70,71] ?_)
  refine J.seq (J.seq (J.region ?_))
  refine Zh 1 ?_
  refine Zg (Zd 0 h20.wht) ?_
  refine Zi [2,5,11,12,69,70,71,76] rfl ?_
  refine jIf H (fun c6 H=>?_) fun c6 H=>?_
  ·refine Zc [2,5,11,12,69,70,71] ?_
   refine Zv (Zb h20 [0,0]) ?_
   have h21:=h20.drew
   refine Zu [1,2,4,6] ?_
   refine Zj 0 rfl (Zd 1 wI) ?_
   refine Zj 5 rfl (Zd 0 wI) ?_
   refine Zj 7 rfl (Zd 0 wI) ?_
   obtain ⟨r8,q8,H⟩:=Zn H
   refine Zq 3 rfl (Zf [2] (Q37.spec q8) h21 rfl Zs) ?_
   rintro _ w15 ⟨_,⟨A15,c_15,rfl,rfl⟩,h22⟩
   replace h22:=nf h22
   refine ⟨⟨[_],h22⟩,?_⟩
   obtain ⟨r9,q9,H⟩:=Zn H
   refine Zq 8 rfl (Zf [0] (Q38.spec q9) h22 rfl Zs) ?_
   rintro _ w16 ⟨_,⟨A16,c_16,rfl,rfl⟩,h23⟩
   replace h23:=nf h23
   refine ⟨⟨[_],h23⟩,?_⟩
   refine Zu [9] ?_
   refine Zw [2,5,69,70,71] ?_
   refine Zc [2,5,69,70,71] ?_
   have h24:=(sOR h23 [2,0] [0])
   exact ⟨k3,by omega,r9,A16,c_16,(w64 (x6+1)),rfl,h24,H⟩
  refine J.skip (Zv (Zb h20 [0,0]) ?_)
  have h25:=h20.drew
  refine Zu [1,2,4,6] ?_
  refine Zj 0 rfl (Zd 1 wI) ?_
  refine Zj 5 rfl (Zd 0 wI) ?_
  refine Zj 7 rfl (Zd 0 wI) ?_
  obtain ⟨r10,q10,H⟩:=Zn H
  refine Zq 3 rfl (Zf [2] (Q37.spec q10) h25 rfl Zs) ?_
  rintro _ w17 ⟨_,⟨A17,c_17,rfl,rfl⟩,h26⟩
  replace h26:=nf h26
  refine ⟨⟨[_],h26⟩,?_⟩
  obtain ⟨r11,q11,H⟩:=Zn H
  refine Zq 8 rfl (Zf [0] (Q38.spec q11) h26 rfl Zs) ?_
  rintro _ w18 ⟨_,⟨A18,c_18,rfl,rfl⟩,h27⟩
  replace h27:=nf h27
  refine ⟨⟨[_],h27⟩,?_⟩
  refine Zu [9] ?_
  refine Zw [2,5,69,70,71] ?_
  refine Zc [2,5,69,70,71] ?_
  have h28:=(sOR h27 [2,0] [0])
  exact ⟨k3,by omega,r11,A18,c_18,(w64 (x6+1)),rfl,h28,H⟩
 refine J.exit (J.seq (Zc [4] ?_))
 refine J.ret ?_
 cases H
 exact ⟨_,_,_,Za,⟨_,_,rfl,rfl⟩,Zb h18 [1]⟩

def Q44.l0:Nat→(Int×Int×Int×Int×Int×Int×Int×Int)→(Int×List (Int)×List (List UInt8)×(List (List UInt8×Bool×List UInt8))×(List (List UInt8×List UInt8)))→(List (Int))→(Int)→Option (List (Int))
 | 0,_,_,_,_=>none
 | k+1,a0,a1,x1,x2=>if (decide (x2<(a1.2.2.2.2.length:Int)))=true then (if 0≤x2∧x2<(a1.2.2.2.2.length:Int) then ((Q38.f k a0 x1 ((gt a1.2.2.2.2 x2).1) ((gt a1.2.2.2.2 x2).2)).bind fun r2=>(Q44.l0 k a0 a1 r2 (w64 (x2+1)))) else none) else (some x1)
def Q44.f (k:Nat) (a0:Int×Int×Int×Int×Int×Int×Int×Int) (a1:Int×List (Int)×List (List UInt8)×(List (List UInt8×Bool×List UInt8))×(List (List UInt8×List UInt8))):Option (List (Int)):=(Q36.f k 1 0 (a1.2.2.2.2.length:Int) 0).bind fun r1=>(Q44.l0 k a0 a1 r1 0)
theorem Q44.spec {k:Nat} {a0:Int×Int×Int×Int×Int×Int×Int×Int} {a1:Int×List (Int)×List (List UInt8)×(List (List UInt8×Bool×List UInt8))×(List (List UInt8×List UInt8))} {A1:Option Addr} {c_1:Nat} {A2:Option Addr} {c_2:Nat} {A3:Option Addr} {c_3:Nat} {A4:Option Addr} {c_4:Nat} {r:List (Int)} (H:Q44.f k a0 a1=some r) :
  Spec Tryz.prog 122 [.agg #[.int .i64 a0.1,.int .i64 a0.2.1,.int .i64 a0.2.2.1,.int .i64 a0.2.2.2.1,.int .i64 a0.2.2.2.2.1,.int .i64 a0.2.2.2.2.2.1,.int .i64 a0.2.2.2.2.2.2.1,.int .i64 a0.2.2.2.2.2.2.2],.agg #[.int .i64 a1.1,.slice A1 a1.2.1.length c_1,.slice A2 a1.2.2.1.length c_2,.slice A3 a1.2.2.2.1.length c_3,.slice A4 a1.2.2.2.2.length c_4]] [] [R33 a1.2.1 A1 c_1,R9 a1.2.2.1 A2 c_2,Xk a1.2.2.2.1 A3 c_3,Xl a1.2.2.2.2 A4 c_4] (fun v l=>∃(A_0:Option Addr) (c_0:Nat),v=.slice A_0 r.length c_0∧l=[O5 r A_0 c_0]):=by
 refine Zp Tryz.func122 fun w0 F0 h0=>?_
 unfold Q44.f at H
 refine J.seq (J.region ?_)
 refine Ze (Ye h0) ?_
 rintro _ w1 ⟨b1,rfl,h1⟩
 replace h1:=nf h1
 refine Ze (Ye h1) ?_
 rintro _ w2 ⟨b2,rfl,h2⟩
 replace h2:=nf h2
 refine Zi [2,3] rfl ?_
 refine J.seq (J.region ?_)
 refine Zh 1 ?_
 refine Zg (Zd 0 h2.wht) ?_
 refine Zh 1 ?_
 obtain ⟨r1,q1,H⟩:=Zn H
 refine Ze (Zf [] (Q36.spec q1) h2 rfl Zs) ?_
 rintro _ w3 ⟨_,⟨A5,c_5,rfl,rfl⟩,h3⟩
 replace h3:=nf h3
 refine Zi [2,3,5] rfl ?_
 refine J.seq (J.seq (J.region ?_))
 refine Zh 1 ?_
 refine Zg (Zd 1 h3.wht) ?_
 refine Zi [2,5,13,14,15] rfl ?_
 refine J.block ?_
 have h9:=(sOR h3 [2,0] [3])
 refine J.loop (fun kk env w=>∃(x1:List (Int)) (A6:Option Addr) (c_6:Nat) (x2:Int),env=[(2,.pointer (some ⟨b1,0,none⟩)),(5,.slice A6 x1.length c_6),(13,.slice A4 a1.2.2.2.2.length c_4),(14,.int .i64 (a1.2.2.2.2.length:Int)),(15,.int .i64 x2)]∧St w0 F0 [X23 b1 a0.1 a0.2.1 a0.2.2.1 a0.2.2.2.1 a0.2.2.2.2.1 a0.2.2.2.2.2.1 a0.2.2.2.2.2.2.1 a0.2.2.2.2.2.2.2,O5 x1 A6 c_6] [Xl a1.2.2.2.2 A4 c_4] w∧Q44.l0 kk a0 a1 x1 x2=some r) (k:=k) ⟨r1,A5,c_5,0,rfl,h9,H⟩ ?_
 rintro k1 env w4 ⟨x1,A6,c_6,x2,rfl,h4,H⟩
 rcases k1 with _ | k1
 ·exact z0 H
 rw [Q44.l0] at H
 refine J.seq (Zc [2,5,13,14,15,16] ?_)
 refine J.seq (jIf H (fun c1 H=>?_) fun c1 H=>?_)
 ·refine J.skip (J.seq (J.block (J.seq (J.region ?_))))
  obtain ⟨⟨p1,p2⟩,H⟩:=Zt H
  have e1:=Z6 h4.wh (Zm 2) p1 p2
  refine Zg (Zk e1 p1 p2) ?_
  refine Zg (Zl 0 h4.wht (Zm 2) p1 p2) ?_
  refine Ze (Yq h4) ?_
  rintro _ w5 ⟨b3,rfl,h5⟩
  replace h5:=nf h5
  refine Ze (Z3 0 h5) ?_
  intro _ w6 h6
  replace h6:=nf h6
  refine Zi [2,5,7,13,14,15] rfl ?_
  refine J.region (Zg (Zd 1 h6.wht) ?_)
  refine Zh 2 ?_
  refine Zg (Zd 0 h6.wht) ?_
  refine Zh 1 ?_
  refine Zg (Zd 0 h6.wht) ?_
  obtain ⟨r2,q2,H⟩:=Zn H
  refine Ze (Zf [2] (Q38.spec q2) h6 rfl Zs) ?_
  rintro _ w7 ⟨_,⟨A7,c_7,rfl,rfl⟩,h7⟩
  replace h7:=nf h7
  refine Zi [2,5,13,14,15] rfl ?_
  refine Zc [2,5,13,14,15] ?_
  have h8:=(sOR h7 [2,0] [0])
  exact ⟨k1,by omega,r2,A7,c_7,(w64 (x2+1)),rfl,h8,H⟩
 refine J.exit (J.seq (Zc [4] ?_))
 refine J.ret ?_
 cases H
 exact ⟨_,_,_,Za,⟨_,_,rfl,rfl⟩,Zb h4 [1]⟩

def Q35.f (k:Nat) (a0:Int×Int×Int×Int×Int×Int×Int×Int) (a1:Int×List (Int)×List (List UInt8)×(List (List UInt8×Bool×List UInt8))×(List (List UInt8×List UInt8))):Option (List (Int)×Int):=(Q45.f a0).bind fun r1=>(if (!decide (r1=0))=true then (some (([]:List (Int)),r1)) else ((Q58.f).bind fun r2=>((Q62.f k a0 r2 a1).bind fun r3=>(if (!r3)=true then (some (([]:List (Int)),3)) else (if (decide (0<a1.1))=true then ((Q43.f k a0 a1).bind fun r4=>(if 0≤(w64 (a0.2.1 - (r4.length:Int)))∧((r4.length:Int)+(w64 (a0.2.1 - (r4.length:Int))))*1≤140737488355328 then (some ((r4 ++ List.replicate (w64 (a0.2.1 - (r4.length:Int))).toNat 0),0)) else none)) else ((Q44.f k a0 a1).bind fun r5=>(if 0≤(w64 (a0.2.1 - (r5.length:Int)))∧((r5.length:Int)+(w64 (a0.2.1 - (r5.length:Int))))*1≤140737488355328 then (some ((r5 ++ List.replicate (w64 (a0.2.1 - (r5.length:Int))).toNat 0),0)) else none)))))))
theorem Q35.spec {k:Nat} {a0:Int×Int×Int×Int×Int×Int×Int×Int} {a1:Int×List (Int)×List (List UInt8)×(List (List UInt8×Bool×List UInt8))×(List (List UInt8×List UInt8))} {A1:Option Addr} {c_1:Nat} {A2:Option Addr} {c_2:Nat} {A3:Option Addr} {c_3:Nat} {A4:Option Addr} {c_4:Nat} {r:List (Int)×Int} (H:Q35.f k a0 a1=some r) :
  Spec Tryz.prog 71 [.agg #[.int .i64 a0.1,.int .i64 a0.2.1,.int .i64 a0.2.2.1,.int .i64 a0.2.2.2.1,.int .i64 a0.2.2.2.2.1,.int .i64 a0.2.2.2.2.2.1,.int .i64 a0.2.2.2.2.2.2.1,.int .i64 a0.2.2.2.2.2.2.2],.agg #[.int .i64 a1.1,.slice A1 a1.2.1.length c_1,.slice A2 a1.2.2.1.length c_2,.slice A3 a1.2.2.2.1.length c_3,.slice A4 a1.2.2.2.2.length c_4]] [] [R33 a1.2.1 A1 c_1,R9 a1.2.2.1 A2 c_2,Xk a1.2.2.2.1 A3 c_3,Xl a1.2.2.2.2 A4 c_4] (fun v l=>∃(A_0:Option Addr) (c_0:Nat),v=.tuple #[.slice A_0 r.1.length c_0,.int .i64 r.2]∧l=[O5 r.1 A_0 c_0]):=by
 refine Zp Tryz.func71 fun w0 F0 h0=>?_
 unfold Q35.f at H
 refine J.seq (J.region ?_)
 refine Ze (Ye h0) ?_
 rintro _ w1 ⟨b1,rfl,h1⟩
 replace h1:=nf h1
 refine Ze (Ye h1) ?_
 rintro _ w2 ⟨b2,rfl,h2⟩
 replace h2:=nf h2
 refine Zi [2,3] rfl ?_
 refine J.seq (J.seq (J.region ?_))
 refine Zg (Zd 1 h2.wht) ?_
 obtain ⟨r1,q1,H⟩:=Zn H
 refine Ze (Zf [] (Q45.spec q1) h2 rfl Zs) ?_
 rintro _ w3 ⟨_,⟨rfl,rfl⟩,h3⟩
 replace h3:=nf h3
 refine Zi [2,3,6] rfl ?_
 refine J.seq (Zc [2,3,6,12] ?_)
 refine jIf H (fun c1 H=>?_) fun c1 H=>?_
 ·refine J.seq (Zc [4,5] ?_)
  have h4:=Zb h3 []
  replace h4:=nf h4
  refine J.ret ?_
  have h5:=h4.addNil 5 (.int .u8)
  cases H
  exact ⟨_,_,_,Za,⟨_,_,rfl,rfl⟩,Zb h5 [0]⟩
 refine J.skip (J.seq (J.seq ?_))
 refine Zv h3 ?_
 have h6:=h3.drew
 refine Zj 0 rfl (Zd 1 wI) ?_
 refine Zj 2 rfl (Zd 0 wI) ?_
 obtain ⟨r2,q2,H⟩:=Zn H
 refine Zq 1 rfl (Zf [] (Q58.spec q2) h6 rfl Zs) ?_
 rintro _ w4 ⟨_,⟨rfl,rfl⟩,h7⟩
 replace h7:=nf h7
 refine ⟨⟨[],h7⟩,?_⟩
 obtain ⟨r3,q3,H⟩:=Zn H
 refine Zq 3 rfl (Zf [] (Q62.spec q3) h7 rfl (Z0 (Zm 2) (Z0 (Zm 3) (Z0 (Zm 4) (Z0 (Zm 5) Zs))))) ?_
 rintro _ w5 ⟨_,⟨rfl,rfl⟩,h8⟩
 replace h8:=nf h8
 refine ⟨⟨[],h8⟩,?_⟩
 refine Zu [4] ?_
 refine Zw [2,3,18] ?_
 refine jIf H (fun c2 H=>?_) fun c2 H=>?_
 ·refine J.seq (Zc [4,5] ?_)
  have h9:=Zb h8 []
  replace h9:=nf h9
  refine J.ret ?_
  have h10:=h9.addNil 5 (.int .u8)
  cases H
  exact ⟨_,_,_,Za,⟨_,_,rfl,rfl⟩,Zb h10 [0]⟩
 refine J.skip (J.seq (Zc [2,3,7] ?_))
 refine J.seq (J.seq (J.region ?_))
 refine Zh 1 ?_
 refine Zg (Zd 0 h8.wht) ?_
 refine Zi [2,3,7,21] rfl ?_
 refine jIf H (fun c3 H=>?_) fun c3 H=>?_
 ·refine Zc [2,3,7] ?_
  refine J.seq (J.region ?_)
  refine Zh 1 ?_
  refine Zg (Zd 1 h8.wht) ?_
  refine Zg (Zd 0 h8.wht) ?_
  obtain ⟨r4,q4,H⟩:=Zn H
  refine Ze (Zf [] (Q43.spec q4) h8 rfl (Z0 (Zm 2) (Z0 (Zm 3) (Z0 (Zm 4) (Z0 (Zm 5) Zs))))) ?_
  rintro _ w6 ⟨_,⟨A5,c_5,rfl,rfl⟩,h11⟩
  replace h11:=nf h11
  refine Zi [2,8] rfl ?_
  refine J.seq (J.region ?_)
  refine Zh 2 ?_
  refine Zg (Zd 2 h11.wht) ?_
  refine Zh 3 ?_
  obtain ⟨⟨p1,p2⟩,H⟩:=Zt H
  refine Ze (Wj Yu (ty:=(.int .u8)) rfl 0 0 rfl h11 rfl rfl rfl rfl rfl rfl rfl rfl (by decide) (by decide) p1 p2) ?_
  rintro _ w7 ⟨A6,c_6,rfl,h12⟩
  replace h12:=nf h12
  refine Zi [4,5] rfl ?_
  have h13:=Zb h12 [0]
  replace h13:=nf h13
  refine J.ret ?_
  cases H
  exact ⟨_,_,_,Za,⟨_,_,rfl,rfl⟩,Zb h13 [0]⟩
 refine J.skip (J.seq (J.region ?_))
 refine Zh 1 ?_
 refine Zg (Zd 1 h8.wht) ?_
 refine Zg (Zd 0 h8.wht) ?_
 obtain ⟨r5,q5,H⟩:=Zn H
 refine Ze (Zf [] (Q44.spec q5) h8 rfl (Z0 (Zm 2) (Z0 (Zm 3) (Z0 (Zm 4) (Z0 (Zm 5) Zs))))) ?_
 rintro _ w8 ⟨_,⟨A7,c_7,rfl,rfl⟩,h14⟩
 replace h14:=nf h14
 refine Zi [2,8] rfl ?_
 refine J.seq (J.region ?_)
 refine Zh 2 ?_
 refine Zg (Zd 2 h14.wht) ?_
 refine Zh 3 ?_
 obtain ⟨⟨p3,p4⟩,H⟩:=Zt H
 refine Ze (Wj Yu (ty:=(.int .u8)) rfl 0 0 rfl h14 rfl rfl rfl rfl rfl rfl rfl rfl (by decide) (by decide) p3 p4) ?_
 rintro _ w9 ⟨A8,c_8,rfl,h15⟩
 replace h15:=nf h15
 refine Zi [4,5] rfl ?_
 have h16:=Zb h15 [0]
 replace h16:=nf h16
 refine J.ret ?_
 cases H
 exact ⟨_,_,_,Za,⟨_,_,rfl,rfl⟩,Zb h16 [0]⟩

def Q78.f (a0:(Int×Int×List (Int))):Option (Bool):=some false
theorem Q78.spec {a0:(Int×Int×List (Int))} {b1:Nat} {b2:Nat} {A1:Option Addr} {c_1:Nat} {r:Bool} (H:Q78.f a0=some r) :
  Spec Tryz.prog 130 [.pointer (some ⟨b1,0,none⟩)] [Xd b1 (.pointer (some ⟨b2,0,none⟩)),Yl b2 a0.1 a0.2.1 a0.2.2 A1 c_1,O61 a0.2.2 A1 c_1] [] (fun v l=>v=.bool r∧l=[Xd b1 (.pointer (some ⟨b2,0,none⟩)),Yl b2 a0.1 a0.2.1 a0.2.2 A1 c_1,O61 a0.2.2 A1 c_1]):=by
 refine Zp Tryz.func130 fun w0 F0 h0=>?_
 unfold Q78.f at H
 refine J.seq (Zc [0] ?_)
 refine J.seq (J.region ?_)
 refine Zh 6 ?_
 refine Zg (Zd 0 h0.wht) ?_
 refine Zi [2] rfl ?_
 refine J.ret ?_
 cases H
 exact ⟨_,_,_,Za,⟨rfl,rfl⟩,Zb h0 [0,0,0]⟩

def Q4.f (a0:Int×Int×List (Int)):Option (Int):=some a0.2.1
theorem Q4.spec {a0:Int×Int×List (Int)} {b1:Nat} {A1:Option Addr} {c_1:Nat} {r:Int} (H:Q4.f a0=some r) :
  Spec Tryz.prog 132 [.pointer (some ⟨b1,0,none⟩)] [Yl b1 a0.1 a0.2.1 a0.2.2 A1 c_1,O61 a0.2.2 A1 c_1] [] (fun v l=>v=.int .i64 r∧l=[Yl b1 a0.1 a0.2.1 a0.2.2 A1 c_1,O61 a0.2.2 A1 c_1]):=by
 refine Zp Tryz.func132 fun w0 F0 h0=>?_
 unfold Q4.f at H
 refine J.seq (Zc [0] ?_)
 refine J.seq (J.seq (Zc [0,4] ?_))
 refine Zz ?_
 refine J.skip (J.seq (J.region ?_))
 refine Zh 3 ?_
 refine Zg (Zd 0 h0.wht) ?_
 refine Zi [2] rfl ?_
 refine J.ret ?_
 cases H
 exact ⟨_,_,_,Za,⟨rfl,rfl⟩,Zb h0 [0,0]⟩

def Q70.f (a0:(Int×Int×List (Int))):Option (Int):=(Q78.f a0).bind fun r1=>(if r1=true then (some 0) else ((Q7.f a0).bind fun r2=>((Q4.f a0).bind fun r3=>(some (w64 (r2 - r3))))))
theorem Q70.spec {a0:(Int×Int×List (Int))} {b1:Nat} {b2:Nat} {A1:Option Addr} {c_1:Nat} {r:Int} (H:Q70.f a0=some r) :
  Spec Tryz.prog 81 [.pointer (some ⟨b1,0,none⟩)] [Xd b1 (.pointer (some ⟨b2,0,none⟩)),Yl b2 a0.1 a0.2.1 a0.2.2 A1 c_1,O61 a0.2.2 A1 c_1] [] (fun v l=>v=.int .i64 r∧l=[Xd b1 (.pointer (some ⟨b2,0,none⟩)),Yl b2 a0.1 a0.2.1 a0.2.2 A1 c_1,O61 a0.2.2 A1 c_1]):=by
 refine Zp Tryz.func81 fun w0 F0 h0=>?_
 unfold Q70.f at H
 refine J.seq (Zc [0] ?_)
 refine J.seq (J.seq (J.region ?_))
 refine Zh 1 ?_
 obtain ⟨r1,q1,H⟩:=Zn H
 refine Ze (Zf [0,0,0] (Q78.spec q1) h0 rfl Zs) ?_
 rintro _ w1 ⟨_,⟨rfl,rfl⟩,h1⟩
 replace h1:=nf h1
 refine Zi [0,4] rfl ?_
 refine jIf H (fun c1 H=>?_) fun c1 H=>?_
 ·refine J.seq (Zc [2] ?_)
  refine J.ret ?_
  cases H
  exact ⟨_,_,_,Za,⟨rfl,rfl⟩,Zb h1 [0,0,0]⟩
 refine J.skip (J.seq (Zv h1 ?_))
 have h2:=h1.drew
 refine Zu [0,1,2,5,6,7] ?_
 refine Zj 3 rfl (Zd 0 wI) ?_
 refine Zj 8 rfl (Zd 0 wI) ?_
 obtain ⟨r2,q2,H⟩:=Zn H
 refine Zq 4 rfl (Zf [1,1] (Q7.spec q2) h2 rfl Zs) ?_
 rintro _ w2 ⟨_,⟨rfl,rfl⟩,h3⟩
 replace h3:=nf h3
 refine ⟨⟨[],(Zb h3 [2,0,0])⟩,?_⟩
 obtain ⟨r3,q3,H⟩:=Zn H
 refine Zq 9 rfl (Zf [0,0] (Q4.spec q3) h3 rfl Zs) ?_
 rintro _ w3 ⟨_,⟨rfl,rfl⟩,h4⟩
 replace h4:=nf h4
 refine ⟨⟨[],(Zb h4 [2,0,0])⟩,?_⟩
 refine Zu [10,11] ?_
 refine Zw [2] ?_
 refine J.ret ?_
 cases H
 exact ⟨_,_,_,Za,⟨rfl,rfl⟩,Zb h4 [2,0,0]⟩

def Q9.l0:Nat→(Int×Int×List (Int))→(Int)→(Int)→(Int)→Option (Int×Bool)
 | 0,_,_,_,_=>none
 | k+1,a0,a1,a2,x1=>if (decide (x1<(a0.2.2.length:Int)))=true then (if 0≤x1∧x1<(a0.2.2.length:Int) then (if (decide (x1=(w64 (Int.tdiv (if a1>0 then a1 else 0) 64))))=true then (if 0≤(Int.tmod (if a1>0 then a1 else 0) 64) then (if (decide ((IntKind.u64.wrap (((BitVec.ofInt IntKind.u64.bits (IntKind.u64.wrap (((BitVec.ofInt IntKind.u64.bits (gt a0.2.2 x1) ^^^ (BitVec.ofInt IntKind.u64.bits a2)).toNat:Int))) &&& (BitVec.ofInt IntKind.u64.bits (IntKind.u64.wrap ((18446744073709551615:Int)*2 ^ (min (Int.tmod (if a1>0 then a1 else 0) 64).toNat 64))))).toNat:Int)))=0))=true then (Q9.l0 k a0 a1 a2 (w64 (x1+1))) else (if 0≤(IntKind.u64.wrap (((BitVec.ofInt IntKind.u64.bits (IntKind.u64.wrap (((BitVec.ofInt IntKind.u64.bits (gt a0.2.2 x1) ^^^ (BitVec.ofInt IntKind.u64.bits a2)).toNat:Int))) &&& (BitVec.ofInt IntKind.u64.bits (IntKind.u64.wrap ((18446744073709551615:Int)*2 ^ (min (Int.tmod (if a1>0 then a1 else 0) 64).toNat 64))))).toNat:Int)))∧(IntKind.u64.wrap (((BitVec.ofInt IntKind.u64.bits (IntKind.u64.wrap (((BitVec.ofInt IntKind.u64.bits (gt a0.2.2 x1) ^^^ (BitVec.ofInt IntKind.u64.bits a2)).toNat:Int))) &&& (BitVec.ofInt IntKind.u64.bits (IntKind.u64.wrap ((18446744073709551615:Int)*2 ^ (min (Int.tmod (if a1>0 then a1 else 0) 64).toNat 64))))).toNat:Int)))<18446744073709551616 then (some ((w64 ((w64 (x1*64))+(tzI (IntKind.u64.wrap (((BitVec.ofInt IntKind.u64.bits (IntKind.u64.wrap (((BitVec.ofInt IntKind.u64.bits (gt a0.2.2 x1) ^^^ (BitVec.ofInt IntKind.u64.bits a2)).toNat:Int))) &&& (BitVec.ofInt IntKind.u64.bits (IntKind.u64.wrap ((18446744073709551615:Int)*2 ^ (min (Int.tmod (if a1>0 then a1 else 0) 64).toNat 64))))).toNat:Int)))))),(decide ((w64 ((w64 (x1*64))+(tzI (IntKind.u64.wrap (((BitVec.ofInt IntKind.u64.bits (IntKind.u64.wrap (((BitVec.ofInt IntKind.u64.bits (gt a0.2.2 x1) ^^^ (BitVec.ofInt IntKind.u64.bits a2)).toNat:Int))) &&& (BitVec.ofInt IntKind.u64.bits (IntKind.u64.wrap ((18446744073709551615:Int)*2 ^ (min (Int.tmod (if a1>0 then a1 else 0) 64).toNat 64))))).toNat:Int))))))<a0.1)))) else none)) else none) else (if (decide ((IntKind.u64.wrap (((BitVec.ofInt IntKind.u64.bits (gt a0.2.2 x1) ^^^ (BitVec.ofInt IntKind.u64.bits a2)).toNat:Int)))=0))=true then (Q9.l0 k a0 a1 a2 (w64 (x1+1))) else (if 0≤(IntKind.u64.wrap (((BitVec.ofInt IntKind.u64.bits (gt a0.2.2 x1) ^^^ (BitVec.ofInt IntKind.u64.bits a2)).toNat:Int)))∧(IntKind.u64.wrap (((BitVec.ofInt IntKind.u64.bits (gt a0.2.2 x1) ^^^ (BitVec.ofInt IntKind.u64.bits a2)).toNat:Int)))<18446744073709551616 then (some ((w64 ((w64 (x1*64))+(tzI (IntKind.u64.wrap (((BitVec.ofInt IntKind.u64.bits (gt a0.2.2 x1) ^^^ (BitVec.ofInt IntKind.u64.bits a2)).toNat:Int)))))),(decide ((w64 ((w64 (x1*64))+(tzI (IntKind.u64.wrap (((BitVec.ofInt IntKind.u64.bits (gt a0.2.2 x1) ^^^ (BitVec.ofInt IntKind.u64.bits a2)).toNat:Int))))))<a0.1)))) else none))) else none) else (some (0,false))
def Q9.f (k:Nat) (a0:Int×Int×List (Int)) (a1:Int) (a2:Int):Option (Int×Bool):=Q9.l0 k a0 a1 a2 (w64 (Int.tdiv (if a1>0 then a1 else 0) 64))
theorem Q9.spec {k:Nat} {a0:Int×Int×List (Int)} {a1:Int} {a2:Int} {b1:Nat} {A1:Option Addr} {c_1:Nat} {r:Int×Bool} (H:Q9.f k a0 a1 a2=some r) :
  Spec Tryz.prog 177 [.pointer (some ⟨b1,0,none⟩),.int .i64 a1,.int .u64 a2] [Yl b1 a0.1 a0.2.1 a0.2.2 A1 c_1,O61 a0.2.2 A1 c_1] [tabC 0] (fun v l=>v=.tuple #[.int .i64 r.1,.bool r.2]∧l=[Yl b1 a0.1 a0.2.1 a0.2.2 A1 c_1,O61 a0.2.2 A1 c_1]):=by
 refine Zp Tryz.func177 fun w0 F0 h0=>?_
 unfold Q9.f at H
 refine J.seq (Zc [0,1,2] ?_)
 refine J.seq (Zc [0,1,2] ?_)
 refine J.seq (J.seq (Zc [0,1,2,8] ?_))
 refine J.block ?_
 have h8:=(sOR h0 [0,0] [0])
 refine J.loop (fun kk env w=>∃(x1:Int),env=[(0,.pointer (some ⟨b1,0,none⟩)),(1,.int .i64 (if a1>0 then a1 else 0)),(2,.int .u64 a2),(8,.int .i64 x1)]∧St w0 F0 [Yl b1 a0.1 a0.2.1 a0.2.2 A1 c_1,O61 a0.2.2 A1 c_1] [tabC 0] w∧Q9.l0 kk a0 a1 a2 x1=some r) (k:=k) ⟨(w64 (Int.tdiv (if a1>0 then a1 else 0) 64)),rfl,h8,H⟩ ?_
 rintro k1 env w1 ⟨x1,rfl,h1,H⟩
 rcases k1 with _ | k1
 ·exact z0 H
 rw [Q9.l0] at H
 refine J.seq (J.seq (J.region ?_))
 refine Zh 4 ?_
 refine Zg (Zd 0 h1.wht) ?_
 refine Zi [0,1,2,8,21] rfl ?_
 refine jIf H (fun c1 H=>?_) fun c1 H=>?_
 ·refine J.skip (J.seq (J.block (J.seq (J.region ?_))))
  refine Zh 3 ?_
  refine Zg (Zd 0 h1.wht) ?_
  refine Zh 1 ?_
  obtain ⟨⟨p1,p2⟩,H⟩:=Zt H
  have e1:=Z6 h1.wh (gO 1) p1 p2
  refine Zg (Zk e1 p1 p2) ?_
  refine Zg (Zl 0 h1.wht (gO 1) p1 p2) ?_
  refine Zi [0,1,2,8,9] rfl ?_
  refine J.seq (J.seq (Zc [0,1,2,8,9,36] ?_))
  refine jIf H (fun c2 H=>?_) fun c2 H=>?_
  ·refine J.region (Zh 3 ?_)
   obtain ⟨p3,H⟩:=Zt H
   refine Zg (Vb p3) ?_
   refine Zi [0,1,2,8,9] rfl ?_
   refine J.seq (J.seq (Zc [0,1,2,8,9,43] ?_))
   refine jIf H (fun c3 H=>?_) fun c3 H=>?_
   ·refine J.exit (Zc [0,1,2,8] ?_)
    have h2:=(sOR h1 [0,0] [0])
    exact ⟨k1,by omega,(w64 (x1+1)),rfl,h2,H⟩
   refine J.skip (J.seq (J.region ?_))
   refine Zh 3 ?_
   obtain ⟨⟨p4,p5⟩,H⟩:=Zt H
   refine Ze (Zf [] (tz64.spec p4 p5) h1 rfl (Z0 (Zm 2) Zs)) ?_
   rintro _ w2 ⟨_,⟨rfl,rfl⟩,h3⟩
   replace h3:=nf h3
   refine Zi [0,10] rfl ?_
   refine J.seq (Zv h3 ?_)
   have h4:=h3.drew
   refine Zu [0,1,2,3,4,7] ?_
   refine Zj 5 rfl (Zd 0 wI) ?_
   refine Zu [6,8] ?_
   refine Zw [6,7] ?_
   refine J.ret ?_
   cases H
   exact ⟨_,_,_,Za,⟨rfl,rfl⟩,Zb h4 [0,0]⟩
  refine J.skip (J.seq (J.seq (Zc [0,1,2,8,9,43] ?_)))
  refine jIf H (fun c4 H=>?_) fun c4 H=>?_
  ·refine J.exit (Zc [0,1,2,8] ?_)
   have h5:=(sOR h1 [0,0] [0])
   exact ⟨k1,by omega,(w64 (x1+1)),rfl,h5,H⟩
  refine J.skip (J.seq (J.region ?_))
  refine Zh 3 ?_
  obtain ⟨⟨p6,p7⟩,H⟩:=Zt H
  refine Ze (Zf [] (tz64.spec p6 p7) h1 rfl (Z0 (Zm 2) Zs)) ?_
  rintro _ w3 ⟨_,⟨rfl,rfl⟩,h6⟩
  replace h6:=nf h6
  refine Zi [0,10] rfl ?_
  refine J.seq (Zv h6 ?_)
  have h7:=h6.drew
  refine Zu [0,1,2,3,4,7] ?_
  refine Zj 5 rfl (Zd 0 wI) ?_
  refine Zu [6,8] ?_
  refine Zw [6,7] ?_
  refine J.ret ?_
  cases H
  exact ⟨_,_,_,Za,⟨rfl,rfl⟩,Zb h7 [0,0]⟩
 refine J.exit (J.seq (Zc [6,7] ?_))
 refine J.ret ?_
 cases H
 exact ⟨_,_,_,Za,⟨rfl,rfl⟩,Zb h1 [0,0]⟩

def Q11.f (a0:Int) (a1:Bool):Option (Int×Bool):=if (!a1)=true then (some (0,false)) else (some (a0,true))
theorem Q11.spec {a0:Int} {a1:Bool}  {r:Int×Bool} (H:Q11.f a0 a1=some r) :
  Spec Tryz.prog 176 [.int .i64 a0,.bool a1] [] [] (fun v l=>v=.tuple #[.int .i64 r.1,.bool r.2]∧l=[]):=by
 refine Zp Tryz.func176 fun w0 F0 h0=>?_
 unfold Q11.f at H
 refine J.seq (Zc [0,1] ?_)
 refine J.seq (J.seq (Zc [0,7] ?_))
 refine jIf H (fun c1 H=>?_) fun c1 H=>?_
 ·refine J.seq (Zc [4,5] ?_)
  refine J.ret ?_
  cases H
  exact ⟨_,_,_,Za,⟨rfl,rfl⟩,Zb h0 []⟩
 refine J.skip (J.seq (Zc [4,5] ?_))
 refine J.ret ?_
 cases H
 exact ⟨_,_,_,Za,⟨rfl,rfl⟩,Zb h0 []⟩

def Q5.f (k:Nat) (a0:Int×Int×List (Int)) (a1:Int):Option (Int×Bool):=(Q7.f a0).bind fun r1=>(if (decide (r1≤a1))=true then (some (0,false)) else ((Q9.f k a0 a1 18446744073709551615).bind fun r2=>((Q11.f r2.1 r2.2).bind fun r3=>(some r3))))
theorem Q5.spec {k:Nat} {a0:Int×Int×List (Int)} {a1:Int} {b1:Nat} {A1:Option Addr} {c_1:Nat} {r:Int×Bool} (H:Q5.f k a0 a1=some r) :
  Spec Tryz.prog 179 [.pointer (some ⟨b1,0,none⟩),.int .i64 a1] [Yl b1 a0.1 a0.2.1 a0.2.2 A1 c_1,O61 a0.2.2 A1 c_1] [tabC 0] (fun v l=>v=.tuple #[.int .i64 r.1,.bool r.2]∧l=[Yl b1 a0.1 a0.2.1 a0.2.2 A1 c_1,O61 a0.2.2 A1 c_1]):=by
 refine Zp Tryz.func179 fun w0 F0 h0=>?_
 unfold Q5.f at H
 refine J.seq (Zc [0,1] ?_)
 refine J.seq (J.seq (J.region ?_))
 refine Zh 2 ?_
 obtain ⟨r1,q1,H⟩:=Zn H
 refine Ze (Zf [0,0] (Q7.spec q1) h0 rfl Zs) ?_
 rintro _ w1 ⟨_,⟨rfl,rfl⟩,h1⟩
 replace h1:=nf h1
 refine Zi [0,1,9] rfl ?_
 refine jIf H (fun c1 H=>?_) fun c1 H=>?_
 ·refine J.seq (Zc [4,5] ?_)
  refine J.ret ?_
  cases H
  exact ⟨_,_,_,Za,⟨rfl,rfl⟩,Zb h1 [0,0]⟩
 refine J.skip (J.seq (J.region ?_))
 refine Zh 2 ?_
 obtain ⟨r2,q2,H⟩:=Zn H
 refine Ze (Zf [0,0] (Q9.spec q2) h1 rfl (Z0 (Zm 0) Zs)) ?_
 rintro _ w2 ⟨_,⟨rfl,rfl⟩,h2⟩
 replace h2:=nf h2
 refine Zh 2 ?_
 obtain ⟨r3,q3,H⟩:=Zn H
 refine Ze (Zf [] (Q11.spec q3) h2 rfl Zs) ?_
 rintro _ w3 ⟨_,⟨rfl,rfl⟩,h3⟩
 replace h3:=nf h3
 refine Zi [4,5] rfl ?_
 refine J.ret ?_
 cases H
 exact ⟨_,_,_,Za,⟨rfl,rfl⟩,Zb h3 [0,0]⟩

def Q73.l0:Nat→(Int)→(Int)→(Int)→(List (Int))→(List (Int))→(Int)→(Int)→Option (List (Int)×Int×((Int×Int×List (Int))))
 | 0,_,_,_,_,_,_,_=>none
 | k+1,a1,x1,x2,x3,x4,x5,x6=>if (decide (x6<a1))=true then ((Q5.f k (x1,x2,x3) x5).bind fun r3=>((Q8.f (x1,x2,x3) r3.1).bind fun r4=>(if (x4.length+([(IntKind.u32.wrap (r3.1))]:List (Int)).length)*4≤140737488355328 then (Q73.l0 k a1 r4.2.1 r4.2.2.1 r4.2.2.2 (x4 ++ ([(IntKind.u32.wrap (r3.1))]:List (Int))) (w64 (r3.1+1)) (w64 (x6+1))) else none))) else (some (x4,0,(x1,x2,x3)))
def Q73.f (k:Nat) (a0:(Int×Int×List (Int))) (a1:Int):Option (List (Int)×Int×((Int×Int×List (Int)))):=(Q78.f a0).bind fun r1=>(if r1=true then (some (([]:List (Int)),1,a0)) else (if (decide (a1<0))=true then (some (([]:List (Int)),2,a0)) else ((Q70.f a0).bind fun r2=>(if (decide (r2<a1))=true then (some (([]:List (Int)),11,a0)) else (Q73.l0 k a1 a0.1 a0.2.1 a0.2.2 ([]:List (Int)) 0 0)))))
theorem Q73.spec {k:Nat} {a0:(Int×Int×List (Int))} {a1:Int} {b1:Nat} {b2:Nat} {A1:Option Addr} {c_1:Nat} {r:List (Int)×Int×((Int×Int×List (Int)))} (H:Q73.f k a0 a1=some r) :
  Spec Tryz.prog 138 [.pointer (some ⟨b1,0,none⟩),.int .i64 a1] [Xd b1 (.pointer (some ⟨b2,0,none⟩)),Yl b2 a0.1 a0.2.1 a0.2.2 A1 c_1,O61 a0.2.2 A1 c_1] [tabC 0] (fun v l=>∃(A_0:Option Addr) (c_0:Nat) (A_1:Option Addr) (c_1:Nat),v=.tuple #[.slice A_0 r.1.length c_0,.int .i64 r.2.1]∧l=[O33 r.1 A_0 c_0,Xd b1 (.pointer (some ⟨b2,0,none⟩)),Yl b2 r.2.2.1 r.2.2.2.1 r.2.2.2.2 A_1 c_1,O61 r.2.2.2.2 A_1 c_1]):=by
 refine Zp Tryz.func138 fun w0 F0 h0=>?_
 unfold Q73.f at H
 refine J.seq (Zc [0,1] ?_)
 refine J.seq (J.block (J.seq (J.region ?_)))
 refine Zh 1 ?_
 obtain ⟨r1,q1,H⟩:=Zn H
 refine Ze (Zf [0,0,0] (Q78.spec q1) h0 rfl Zs) ?_
 rintro _ w1 ⟨_,⟨rfl,rfl⟩,h1⟩
 replace h1:=nf h1
 refine Zi [0,1,10] rfl ?_
 refine jIf H (fun c1 H=>?_) fun c1 H=>?_
 ·refine J.seq (Zc [4,5] ?_)
  refine J.ret ?_
  have h2:=h1.addNil 33 (.int .u32)
  cases H
  exact ⟨_,_,_,Za,⟨_,_,_,_,rfl,rfl⟩,Zb h2 [0,0,0,0]⟩
 refine J.seq (Zc [0,1,13] ?_)
 refine jIf H (fun c2 H=>?_) fun c2 H=>?_
 ·refine J.seq (Zc [4,5] ?_)
  refine J.ret ?_
  have h3:=h1.addNil 33 (.int .u32)
  cases H
  exact ⟨_,_,_,Za,⟨_,_,_,_,rfl,rfl⟩,Zb h3 [0,0,0,0]⟩
 refine J.seq (J.region ?_)
 refine Zh 2 ?_
 obtain ⟨r2,q2,H⟩:=Zn H
 refine Ze (Zf [0,0,0] (Q70.spec q2) h1 rfl Zs) ?_
 rintro _ w2 ⟨_,⟨rfl,rfl⟩,h4⟩
 replace h4:=nf h4
 refine Zi [0,1,16] rfl ?_
 refine jIf H (fun c3 H=>?_) fun c3 H=>?_
 ·refine J.seq (Zc [4,5] ?_)
  refine J.ret ?_
  have h5:=h4.addNil 33 (.int .u32)
  cases H
  exact ⟨_,_,_,Za,⟨_,_,_,_,rfl,rfl⟩,Zb h5 [0,0,0,0]⟩
 refine J.skip (J.seq (Zc [0,1,6] ?_))
 refine J.seq (Zc [0,1,6,7] ?_)
 refine J.seq (J.seq (Zc [0,6,7,21,22] ?_))
 refine J.block ?_
 have h12:=h4.addNil 33 (.int .u32)
 have h13:=(sOR h12 [1,1,1,0] [0])
 refine J.loop (fun kk env w=>∃(x1:Int) (x2:Int) (x3:List (Int)) (A2:Option Addr) (c_2:Nat) (x4:List (Int)) (A3:Option Addr) (c_3:Nat) (x5:Int) (x6:Int),env=[(0,.pointer (some ⟨b1,0,none⟩)),(6,.slice A3 x4.length c_3),(7,.int .i64 x5),(21,.int .i64 a1),(22,.int .i64 x6)]∧St w0 F0 [Xd b1 (.pointer (some ⟨b2,0,none⟩)),Yl b2 x1 x2 x3 A2 c_2,O61 x3 A2 c_2,O33 x4 A3 c_3] [tabC 0] w∧Q73.l0 kk a1 x1 x2 x3 x4 x5 x6=some r) (k:=k) ⟨a0.1,a0.2.1,a0.2.2,A1,c_1,([]:List (Int)),none,0,0,0,rfl,h13,H⟩ ?_
 rintro k1 env w3 ⟨x1,x2,x3,A2,c_2,x4,A3,c_3,x5,x6,rfl,h6,H⟩
 rcases k1 with _ | k1
 ·exact z0 H
 rw [Q73.l0] at H
 refine J.seq (Zc [0,6,7,21,22,23] ?_)
 refine J.seq (jIf H (fun c4 H=>?_) fun c4 H=>?_)
 ·refine J.skip (J.seq (J.block (J.seq (J.region ?_))))
  refine Zh 3 ?_
  refine Zg (Zd 0 h6.wht) ?_
  refine Zh 1 ?_
  obtain ⟨r3,q3,H⟩:=Zn H
  refine Ze (Zf [1,1] (Q5.spec q3) h6 rfl (Z0 (Zm 2) Zs)) ?_
  rintro _ w4 ⟨_,⟨rfl,rfl⟩,h7⟩
  replace h7:=nf h7
  refine Zi [0,6,8,21,22] rfl ?_
  refine J.seq (J.region ?_)
  refine Zh 3 ?_
  refine Zg (Zd 2 h7.wht) ?_
  refine Zh 1 ?_
  obtain ⟨r4,q4,H⟩:=Zn H
  refine Ze (Zf [0,0] (Q8.spec q4) h7 rfl Zs) ?_
  rintro _ w5 ⟨_,⟨A4,c_4,rfl,rfl⟩,h8⟩
  replace h8:=nf h8
  refine Zi [0,6,8,21,22] rfl ?_
  refine J.seq (J.region ?_)
  refine Zh 3 ?_
  refine Ze (Xc (.int .u32) ([(IntKind.u32.wrap (r3.1))]:List (Int)) h8) ?_
  rintro _ w6 ⟨b3,rfl,h9⟩
  replace h9:=nf h9
  obtain ⟨p1,H⟩:=Zt H
  refine Ze (Yr 4 h9 (gO 0) p1) ?_
  rintro _ w7 ⟨A5,c_5,rfl,h10⟩
  replace h10:=nf h10
  refine Zi [0,6,8,21,22] rfl ?_
  refine Zc [0,6,7,21,22] ?_
  refine Zc [0,6,7,21,22] ?_
  have h11:=(sOR h10 [4,2,2,0] [0])
  exact ⟨k1,by omega,r4.2.1,r4.2.2.1,r4.2.2.2,A4,c_4,(x4 ++ ([(IntKind.u32.wrap (r3.1))]:List (Int))),A5,c_5,(w64 (r3.1+1)),(w64 (x6+1)),rfl,h11,H⟩
 refine J.exit (J.seq (Zc [4,5] ?_))
 refine J.ret ?_
 cases H
 exact ⟨_,_,_,Za,⟨_,_,_,_,rfl,rfl⟩,Zb h6 [3,0,0,0]⟩

def Q77.f (k:Nat) (a0:(Int×Int×List (Int))):Option (Int×Int×((Int×Int×List (Int)))):=(Q73.f k a0 1).bind fun r1=>(if (!decide (r1.2.1=0))=true then (some (0,r1.2.1,r1.2.2)) else (if 0<(r1.1.length:Int) then (some ((gt r1.1 0),0,r1.2.2)) else none))
theorem Q77.spec {k:Nat} {a0:(Int×Int×List (Int))} {b1:Nat} {b2:Nat} {A1:Option Addr} {c_1:Nat} {r:Int×Int×((Int×Int×List (Int)))} (H:Q77.f k a0=some r) :
  Spec Tryz.prog 91 [.pointer (some ⟨b1,0,none⟩)] [Xd b1 (.pointer (some ⟨b2,0,none⟩)),Yl b2 a0.1 a0.2.1 a0.2.2 A1 c_1,O61 a0.2.2 A1 c_1] [tabC 0] (fun v l=>∃(A_0:Option Addr) (c_0:Nat),v=.tuple #[.int .u32 r.1,.int .i64 r.2.1]∧l=[Xd b1 (.pointer (some ⟨b2,0,none⟩)),Yl b2 r.2.2.1 r.2.2.2.1 r.2.2.2.2 A_0 c_0,O61 r.2.2.2.2 A_0 c_0]):=by
 refine Zp Tryz.func91 fun w0 F0 h0=>?_
 unfold Q77.f at H
 refine J.seq (Zc [0] ?_)
 refine J.seq (J.region ?_)
 refine Zh 1 ?_
 obtain ⟨r1,q1,H⟩:=Zn H
 refine Ze (Zf [0,0,0] (Q73.spec q1) h0 rfl (Z0 (Zm 0) Zs)) ?_
 rintro _ w1 ⟨_,⟨A2,c_2,A3,c_3,rfl,rfl⟩,h1⟩
 replace h1:=nf h1
 refine Zi [4,5] rfl ?_
 refine J.seq (J.seq (Zc [4,5,12] ?_))
 refine jIf H (fun c1 H=>?_) fun c1 H=>?_
 ·refine J.seq (Zc [2,3] ?_)
  refine J.ret ?_
  cases H
  exact ⟨_,_,_,Za,⟨_,_,rfl,rfl⟩,Zb h1 [1,1,1]⟩
 refine J.skip (J.seq (J.region ?_))
 refine Zh 1 ?_
 obtain ⟨p1,H⟩:=Zt H
 have e1:=Jj h1.wh (gO 0) p1
 refine Zg (Uy e1 p1) ?_
 refine Zg (W3 0 h1.wht (gO 0) p1) ?_
 refine Zi [2,3] rfl ?_
 refine J.ret ?_
 cases H
 exact ⟨_,_,_,Za,⟨_,_,rfl,rfl⟩,Zb h1 [1,1,1]⟩

def Q20.f (a0:(Int×List (Int)×(Int×Int))×(List (Int×List (Int)×Bool×Int))×(List (Int×Int))×List (Int)×((List (Int×Int×Bool))×Int)):Option (Bool):=some false
theorem Q20.spec {a0:(Int×List (Int)×(Int×Int))×(List (Int×List (Int)×Bool×Int))×(List (Int×Int))×List (Int)×((List (Int×Int×Bool))×Int)} {b1:Nat} {b2:Nat} {b3:Nat} {b4:Nat} {A1:Option Addr} {c_1:Nat} {A2:Option Addr} {c_2:Nat} {A3:Option Addr} {c_3:Nat} {A4:Option Addr} {c_4:Nat} {r:Bool} (H:Q20.f a0=some r) :
  Spec Tryz.prog 108 [.pointer (some ⟨b1,0,none⟩)] [Yp b1 (.pointer (some ⟨b2,0,none⟩)) a0.2.1 A2 c_2 (.map (some b3)) a0.2.2.2.1 A3 c_3 (.pointer (some ⟨b4,0,none⟩)),Yi b2 a0.1.1 a0.1.2.1 A1 c_1 a0.1.2.2.1 a0.1.2.2.2,O5 a0.1.2.1 A1 c_1,Yo a0.2.1 A2 c_2,Yj .u32 (Value.int .i64) b3 a0.2.2.1,O3 a0.2.2.2.1 A3 c_3,Ya b4 a0.2.2.2.2.1 A4 c_4 a0.2.2.2.2.2,Yb a0.2.2.2.2.1 A4 c_4] [] (fun v l=>v=.bool r∧l=[Yp b1 (.pointer (some ⟨b2,0,none⟩)) a0.2.1 A2 c_2 (.map (some b3)) a0.2.2.2.1 A3 c_3 (.pointer (some ⟨b4,0,none⟩)),Yi b2 a0.1.1 a0.1.2.1 A1 c_1 a0.1.2.2.1 a0.1.2.2.2,O5 a0.1.2.1 A1 c_1,Yo a0.2.1 A2 c_2,Yj .u32 (Value.int .i64) b3 a0.2.2.1,O3 a0.2.2.2.1 A3 c_3,Ya b4 a0.2.2.2.2.1 A4 c_4 a0.2.2.2.2.2,Yb a0.2.2.2.2.1 A4 c_4]):=by
 refine Zp Tryz.func108 fun w0 F0 h0=>?_
 unfold Q20.f at H
 refine J.seq (Zc [0] ?_)
 refine J.seq (J.region ?_)
 refine Zh 6 ?_
 refine Zg (Zd 0 h0.wht) ?_
 refine Zi [2] rfl ?_
 refine J.ret ?_
 cases H
 exact ⟨_,_,_,Za,⟨rfl,rfl⟩,Zb h0 [0,0,0,0,0,0,0,0]⟩

end Go.SK.T
