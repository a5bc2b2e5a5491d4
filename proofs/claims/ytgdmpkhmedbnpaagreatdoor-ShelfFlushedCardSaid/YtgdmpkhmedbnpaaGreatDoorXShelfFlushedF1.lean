/- The functions, further. -/
import Derived.Test.YtgdmpkhmedbnpaaGreatDoorXShelfFlushedF0
set_option linter.unusedVariables false
set_option linter.unusedSimpArgs false
set_option maxRecDepth 20000
set_option maxHeartbeats 40000000
namespace Go.SK.T
open Go Go.SK Go.Proofs
def Q108.l0:Nat→Int→Int→Int→TU→Int→Int→Option TU
 | 0,_,_,_,_,_,_=>none
 | k+1,a1,a2,r1,x1,x2,x3=>if (decide (x3≤(w64 ((w64 (a1+(w64 ((w64 (Int.tdiv (w64 (a2 - a1)) 4))*2))))+1))))=true then ((Q122.f x2).bind fun r2=>(if (decide ((w64 (a2 - a1))≤(w64 ((IntKind.u64.wrap (((BitVec.ofInt IntKind.u64.bits r2.1 &&& (BitVec.ofInt IntKind.u64.bits (IntKind.u64.wrap (r1 - 1)))).toNat:Int)))))))=true then (if 0≤(w64 (a1+(w64 ((w64 ((IntKind.u64.wrap (((BitVec.ofInt IntKind.u64.bits r2.1 &&& (BitVec.ofInt IntKind.u64.bits (IntKind.u64.wrap (r1 - 1)))).toNat:Int))))) - (w64 (a2 - a1))))))∧(w64 (a1+(w64 ((w64 ((IntKind.u64.wrap (((BitVec.ofInt IntKind.u64.bits r2.1 &&& (BitVec.ofInt IntKind.u64.bits (IntKind.u64.wrap (r1 - 1)))).toNat:Int))))) - (w64 (a2 - a1))))))<(x1.length:Int) then (if 0≤x3∧x3<(x1.length:Int) then (Q108.l0 k a1 a2 r1 ((x1.set x3.toNat (gt x1 (w64 (a1+(w64 ((w64 ((IntKind.u64.wrap (((BitVec.ofInt IntKind.u64.bits r2.1 &&& (BitVec.ofInt IntKind.u64.bits (IntKind.u64.wrap (r1 - 1)))).toNat:Int))))) - (w64 (a2 - a1)))))))).set (w64 (a1+(w64 ((w64 ((IntKind.u64.wrap (((BitVec.ofInt IntKind.u64.bits r2.1 &&& (BitVec.ofInt IntKind.u64.bits (IntKind.u64.wrap (r1 - 1)))).toNat:Int))))) - (w64 (a2 - a1)))))).toNat (gt x1 x3)) r2.2 (w64 (x3+1))) else none) else none) else (if 0≤(w64 (a1+(w64 ((IntKind.u64.wrap (((BitVec.ofInt IntKind.u64.bits r2.1 &&& (BitVec.ofInt IntKind.u64.bits (IntKind.u64.wrap (r1 - 1)))).toNat:Int)))))))∧(w64 (a1+(w64 ((IntKind.u64.wrap (((BitVec.ofInt IntKind.u64.bits r2.1 &&& (BitVec.ofInt IntKind.u64.bits (IntKind.u64.wrap (r1 - 1)))).toNat:Int)))))))<(x1.length:Int) then (if 0≤x3∧x3<(x1.length:Int) then (Q108.l0 k a1 a2 r1 ((x1.set x3.toNat (gt x1 (w64 (a1+(w64 ((IntKind.u64.wrap (((BitVec.ofInt IntKind.u64.bits r2.1 &&& (BitVec.ofInt IntKind.u64.bits (IntKind.u64.wrap (r1 - 1)))).toNat:Int))))))))).set (w64 (a1+(w64 ((IntKind.u64.wrap (((BitVec.ofInt IntKind.u64.bits r2.1 &&& (BitVec.ofInt IntKind.u64.bits (IntKind.u64.wrap (r1 - 1)))).toNat:Int))))))).toNat (gt x1 x3)) r2.2 (w64 (x3+1))) else none) else none))) else (some x1)
def Q108.f (k:Nat) (a0:TU) (a1:Int) (a2:Int):Option TU:=if (decide (8≤(w64 (a2 - a1))))=true then ((Q114.f (w64 (a2 - a1))).bind fun r1=>(Q108.l0 k a1 a2 r1 a0 (IntKind.u64.wrap ((w64 (a2 - a1)))) (w64 ((w64 (a1+(w64 ((w64 (Int.tdiv (w64 (a2 - a1)) 4))*2)))) - 1)))) else (some a0)
theorem Q108.spec {k a0 a1 a2 A1 c_1 r} (H:Q108.f k a0 a1 a2=some r) :
  Spec Tryz.prog 236 [.slice A1 a0.length c_1,.int .i64 a1,.int .i64 a2] [O33 a0 A1 c_1] [] (fun v l=>v=.tuple #[]∧l=[O33 r A1 c_1]∧r.length=a0.length):=by
 refine Zi Tryz.func236 fun w0 F0 h0=>?_
 unfold Q108.f at H
 refine T4 (Za [0,1,6] ?_)
 refine T4 (Za [0,1,6,15] ?_)
 refine jIf H (fun c1 H=>?_) fun c1 H=>?_
 ·refine T4 (T2 ?_)
  refine Zd 2 ?_
  refine rB (Yp h0) fun b1 w1 h1=>?_
  refine rS (Zs 0 h1) fun _ w2 h2=>?_
  refine Ze [0,1,6,7] rfl ?_
  refine T4 (T2 ?_)
  refine Zd 1 ?_
  refine cS H [] h2 rfl Q114.spec Zp fun r1 w3 H h3=>?_
  refine Ze [0,1,6,7,8] rfl ?_
  refine T4 (Za [0,1,6,7,8,9] ?_)
  refine TW ?_
  have h18:=(sOR h3 [0,0] [])
  refine T0 (fun kk env w=>∃ x1 x2 x3,Q108.l0 kk a1 a2 r1 x1 x2 x3=some r∧env=[(0,.slice A1 x1.length c_1),(1,.int .i64 a1),(6,.int .i64 (w64 (a2 - a1))),(7,.pointer (some ⟨b1,0,none⟩)),(8,.int .u64 r1),(9,.int .i64 x3)]∧St w0 F0 [Zat b1 x2,O33 x1 A1 c_1] [] w∧x1.length=a0.length) (k:=k) ⟨_,_,_,H,rfl,h18,(rfl:a0.length=a0.length)⟩ ?_
  rintro k1 env w4 ⟨x1,x2,x3,H,rfl,h4,e1⟩
  rcases k1 with _ | k1
  ·exact z0 H
  rw [Q108.l0] at H
  refine T4 (T4 (Za [0,1,6,7,8,9,33] ?_))
  refine jIf H (fun c2 H=>?_) fun c2 H=>?_
  ·refine T5 (T4 (TW (T4 (T2 ?_))))
   refine cS H [0] h4 rfl Q122.spec Zp fun r2 w5 H h5=>?_
   refine Ze [0,1,6,7,8,9,10] rfl ?_
   refine T4 (T4 (Za [0,1,6,7,8,9,10,43] ?_))
   refine T1 (fun env w=>∃(k2:Nat) (x4:Int),env=[(0,.slice A1 x1.length c_1),(1,.int .i64 a1),(6,.int .i64 (w64 (a2 - a1))),(7,.pointer (some ⟨b1,0,none⟩)),(8,.int .u64 r1),(9,.int .i64 x3),(10,.int .i64 x4)]∧St w0 F0 [Zat b1 r2.2,O33 x1 A1 c_1] [] w∧(if 0≤(w64 (a1+x4))∧(w64 (a1+x4))<(x1.length:Int) then (if 0≤x3∧x3<(x1.length:Int) then (Q108.l0 k2 a1 a2 r1 ((x1.set x3.toNat (gt x1 (w64 (a1+x4)))).set (w64 (a1+x4)).toNat (gt x1 x3)) r2.2 (w64 (x3+1))) else none) else none)=some r∧k2≤k1) ?_ ?_
   ·refine jIf H (fun c3 H=>?_) fun c3 H=>?_
    ·refine Za [0,1,6,7,8,9,10] ?_
     have h16:=(sOR h5 [0,0] [])
     exact ⟨k1,(w64 ((w64 ((IntKind.u64.wrap (((BitVec.ofInt IntKind.u64.bits r2.1 &&& (BitVec.ofInt IntKind.u64.bits (IntKind.u64.wrap (r1 - 1)))).toNat:Int))))) - (w64 (a2 - a1)))),rfl,h16,H,T6 _⟩
    refine Ws [0,1,6,7,8,9,10] ?_
    refine T5 ?_
    have h17:=(sOR h5 [0,0] [])
    exact ⟨k1,(w64 ((IntKind.u64.wrap (((BitVec.ofInt IntKind.u64.bits r2.1 &&& (BitVec.ofInt IntKind.u64.bits (IntKind.u64.wrap (r1 - 1)))).toNat:Int))))),rfl,h17,H,T6 _⟩
   rintro env w7 ⟨k2,x4,rfl,h6,H,hk2⟩
   obtain ⟨⟨p1,p2⟩,H⟩:=Zl H
   obtain ⟨⟨p3,p4⟩,H⟩:=Zl H
   refine J.mid (fun env w=>env=[(0,.slice A1 ((x1.set x3.toNat (gt x1 (w64 (a1+x4)))).set (w64 (a1+x4)).toNat (gt x1 x3)).length c_1),(1,.int .i64 a1),(6,.int .i64 (w64 (a2 - a1))),(7,.pointer (some ⟨b1,0,none⟩)),(8,.int .u64 r1),(9,.int .i64 x3)]∧St w0 F0 [O33 ((x1.set x3.toNat (gt x1 (w64 (a1+x4)))).set (w64 (a1+x4)).toNat (gt x1 x3)) A1 c_1,Zat b1 r2.2] [] w) ?_ ?_
   ·refine Zw (sO h6 [0]) ?_
    have h9:=h6.drew
    refine Zo [0,1,2,3,4,5,6,7,8,9,12,13] ?_
    have e5:=Zx h9.wh (gO 1) p1 p2
    refine Zf 10 rfl (Zg e5 p1 p2) ?_
    refine Zf 14 rfl (Zg e5 p3 p4) ?_
    refine TV [11,15] (i:=11) rfl rfl rfl rfl ?_
    refine (Yb ?_ (Yb ?_ Xg))
    ·refine Xv 11 rfl (T7 (Zh 0 h9.wht (gO 1) p1 p2)) ?_
     rintro _ _ ⟨rfl,rfl⟩
     replace h9:=nf h9
     refine ⟨⟨[_],(sO h9 [1,0])⟩,?_⟩
     refine Yl 15 rfl (T7 (Zh 0 h9.wht (gO 1) p3 p4)) ?_
     rintro _ _ ⟨rfl,rfl⟩
     replace h9:=nf h9
     refine ⟨⟨[_],(sO h9 [1,0])⟩,?_⟩
     refine Zf 16 rfl (Zg e5 p3 p4) ?_
     refine hS 17 rfl (Zm 0 (.int .u32) x3 (gt x1 (w64 (a1+x4))) 1 h9 rfl p3 p4) 1 fun _ w10 h10=>?_
     have e6:(x1.set x3.toNat (gt x1 (w64 (a1+x4)))).length=a0.length:=List.length_set.trans e1
     refine Zf 18 rfl (Zg e5 p1 p2) ?_
     refine hS 19 rfl (Zm 0 (.int .u32) (w64 (a1+x4)) (gt x1 x3) 0 h10 rfl p1 (by simpa only [List.length_set] using p2)) 1 fun _ w11 h11=>?_
     have e7:((x1.set x3.toNat (gt x1 (w64 (a1+x4)))).set (w64 (a1+x4)).toNat (gt x1 x3)).length=a0.length:=List.length_set.trans e6
     refine Zt [0,1,6,7,8,9] ?_
     exact Zu ⟨(by simp only [List.length_set,List.length_nil] <;> rfl),((h11.only [0,0] rfl).rds [] rfl)⟩
    ·refine Xv 15 rfl (T7 (Zh 0 h9.wht (gO 1) p3 p4)) ?_
     rintro _ _ ⟨rfl,rfl⟩
     replace h9:=nf h9
     refine ⟨⟨[_],(sO h9 [1,0])⟩,?_⟩
     refine Yl 11 rfl (T7 (Zh 0 h9.wht (gO 1) p1 p2)) ?_
     rintro _ _ ⟨rfl,rfl⟩
     replace h9:=nf h9
     refine ⟨⟨[_],(sO h9 [1,0])⟩,?_⟩
     refine Zf 16 rfl (Zg e5 p3 p4) ?_
     refine hS 17 rfl (Zm 0 (.int .u32) x3 (gt x1 (w64 (a1+x4))) 1 h9 rfl p3 p4) 1 fun _ w12 h12=>?_
     have e8:(x1.set x3.toNat (gt x1 (w64 (a1+x4)))).length=a0.length:=List.length_set.trans e1
     refine Zf 18 rfl (Zg e5 p1 p2) ?_
     refine hS 19 rfl (Zm 0 (.int .u32) (w64 (a1+x4)) (gt x1 x3) 0 h12 rfl p1 (by simpa only [List.length_set] using p2)) 1 fun _ w13 h13=>?_
     have e9:((x1.set x3.toNat (gt x1 (w64 (a1+x4)))).set (w64 (a1+x4)).toNat (gt x1 x3)).length=a0.length:=List.length_set.trans e8
     refine Zt [0,1,6,7,8,9] ?_
     exact Zu ⟨(by simp only [List.length_set,List.length_nil] <;> rfl),((h13.only [0,0] rfl).rds [] rfl)⟩
   rintro env w14 ⟨rfl,h14⟩
   have e10:((x1.set x3.toNat (gt x1 (w64 (a1+x4)))).set (w64 (a1+x4)).toNat (gt x1 x3)).length=a0.length:=by first | (simp only [List.length_set]; done) | (simp only [List.length_set]; exact e1)
   refine Za [0,1,6,7,8,9] ?_
   have h15:=(sOR h14 [1,0] [])
   exact ⟨k2,by omega,_,_,_,H,rfl,h15,e10⟩
  refine TZ ?_
  cases H
  exact ⟨_,_,_,Zj,⟨rfl,rfl,e1⟩,sO h4 [1]⟩
 refine T5 ?_
 cases H
 exact ⟨_,_,_,Zj,⟨rfl,rfl,(rfl:a0.length=a0.length)⟩,sO h0 [0]⟩

mutual
def Q119.l0:Nat→TU→Int→Int→Int→Bool→Bool→Option TU
 | 0,_,_,_,_,_,_=>none
 | k+1,x1,x2,x3,x4,x5,x6=>if (decide ((w64 (x3 - x2))≤12))=true then ((Q111.f k x1 x2 x3).bind fun r1=>(some r1)) else (if (decide (x4=0))=true then ((Q110.f k x1 x2 x3).bind fun r2=>(some r2)) else (if (!x5)=true then ((Q108.f k x1 x2 x3).bind fun r11=>(Q119.l1 k x2 x3 x5 x6 r11 (w64 (x4 - 1)))) else (Q119.l1 k x2 x3 x5 x6 x1 x4)))
def Q119.l1:Nat→Int→Int→Bool→Bool→TU→Int→Option TU
 | 0,_,_,_,_,_,_=>none
 | k+1,x2,x3,x5,x6,x7,x8=>(Q109.f x7 x2 x3).bind fun r3=>(if (decide (r3.2=2))=true then ((Q120.f k x7 x2 x3).bind fun r10=>(Q119.l2 k x2 x3 x5 x6 x8 r10 (w64 ((w64 (x3 - 1)) - (w64 (r3.1 - x2)))) 1)) else (Q119.l2 k x2 x3 x5 x6 x8 x7 r3.1 r3.2))
def Q119.l2:Nat→Int→Int→Bool→Bool→Int→TU→Int→Int→Option TU
 | 0,_,_,_,_,_,_,_,_=>none
 | k+1,x2,x3,x5,x6,x8,x9,x10,x11=>if x5=true then (if x6=true then (Q119.l3 k x2 x3 x5 x6 x8 x9 x10 (decide (x11=1))) else (Q119.l3 k x2 x3 x5 x6 x8 x9 x10 false)) else (Q119.l3 k x2 x3 x5 x6 x8 x9 x10 false)
def Q119.l3:Nat→Int→Int→Bool→Bool→Int→TU→Int→Bool→Option TU
 | 0,_,_,_,_,_,_,_,_=>none
 | k+1,x2,x3,x5,x6,x8,x9,x10,x12=>if x12=true then ((Q116.f k x9 x2 x3).bind fun r9=>(if r9.1=true then (some r9.2) else (Q119.l4 k x2 x3 x5 x6 x8 x10 r9.2))) else (Q119.l4 k x2 x3 x5 x6 x8 x10 x9)
def Q119.l4:Nat→Int→Int→Bool→Bool→Int→Int→TU→Option TU
 | 0,_,_,_,_,_,_,_=>none
 | k+1,x2,x3,x5,x6,x8,x10,x13=>if (decide (0<x2))=true then (if 0≤(w64 (x2 - 1))∧(w64 (x2 - 1))<(x13.length:Int) then (if 0≤x10∧x10<(x13.length:Int) then ((Q35.f (gt x13 (w64 (x2 - 1))) (gt x13 x10)).bind fun r8=>(Q119.l5 k x2 x3 x5 x6 x8 x10 x13 (!r8))) else none) else none) else (Q119.l5 k x2 x3 x5 x6 x8 x10 x13 false)
def Q119.l5:Nat→Int→Int→Bool→Bool→Int→Int→TU→Bool→Option TU
 | 0,_,_,_,_,_,_,_,_=>none
 | k+1,x2,x3,x5,x6,x8,x10,x13,x14=>if x14=true then ((Q117.f k x13 x2 x3 x10).bind fun r4=>(Q119.l0 k r4.2 r4.1 x3 x8 x5 x6)) else ((Q118.f k x13 x2 x3 x10).bind fun r5=>(if (decide ((w64 (r5.1 - x2))<(w64 (x3 - r5.1))))=true then ((Q119.f k r5.2.2 x2 r5.1 x8).bind fun r6=>(Q119.l0 k r6 (w64 (r5.1+1)) x3 x8 (decide ((w64 (Int.tdiv (w64 (x3 - x2)) 8))≤(w64 (r5.1 - x2)))) r5.2.1)) else ((Q119.f k r5.2.2 (w64 (r5.1+1)) x3 x8).bind fun r7=>(Q119.l0 k r7 x2 r5.1 x8 (decide ((w64 (Int.tdiv (w64 (x3 - x2)) 8))≤(w64 (x3 - r5.1)))) r5.2.1))))
def Q119.f:Nat→TU→Int→Int→Int→Option TU
 | 0,_,_,_,_=>none
 | k+1,a0,a1,a2,a3=>Q119.l0 k a0 a1 a2 a3 true true
end
theorem Q119.spec:∀ {k a0 a1 a2 a3 A1 c_1 r},Q119.f k a0 a1 a2 a3=some r→
  Spec Tryz.prog 224 [.slice A1 a0.length c_1,.int .i64 a1,.int .i64 a2,.int .i64 a3] [O33 a0 A1 c_1] [] (fun v l=>v=.tuple #[]∧l=[O33 r A1 c_1]∧r.length=a0.length):=by
 intro k
 induction k using Nat.strongRecOn with
 | _ k ih=>
 intro a0 a1 a2 a3 A1 c_1 r H
 cases k with
 | zero=>rw [Q119.f] at H; cases H
 | succ kr=>
 refine Zi Tryz.func224 fun w0 F0 h0=>?_
 rw [Q119.f] at H
 refine T4 (Za [0,1,2,3,8] ?_)
 refine T4 (Za [0,1,2,3,8,9] ?_)
 refine TW ?_
 have h33:=(sOR h0 [0] [])
 refine T0 (fun kk env w=>∃ x1 x2 x3 x4 x5 x6,Q119.l0 kk x1 x2 x3 x4 x5 x6=some r∧env=[(0,.slice A1 x1.length c_1),(1,.int .i64 x2),(2,.int .i64 x3),(3,.int .i64 x4),(8,.bool x5),(9,.bool x6)]∧St w0 F0 [O33 x1 A1 c_1] [] w∧kk≤kr∧x1.length=a0.length) (k:=kr) ⟨_,_,_,_,_,_,H,rfl,h33,T6 _,(rfl:a0.length=a0.length)⟩ ?_
 rintro k1 env w1 ⟨x1,x2,x3,x4,x5,x6,H,rfl,h1,hk1,e1⟩
 rcases k1 with _ | k1
 ·exact z0 H
 rw [Q119.l0] at H
 refine TW (T4 (Za [0,1,2,3,8,9,10] ?_))
 refine T4 (T4 (Za [0,1,2,3,8,9,10,23] ?_))
 refine jIf H (fun c1 H=>?_) fun c1 H=>?_
 ·refine T4 (T2 ?_)
  refine Zd 3 ?_
  refine cE H [0] h1 rfl Q111.spec Zp ?_
  rintro r1 w2 _ _ H ⟨rfl,rfl,q2⟩ h2
  replace h2:=nf h2
  have e2:r1.length=a0.length:=q2.trans e1
  refine Ze [] rfl ?_
  cases H
  exact T3 (jR ⟨rfl,rfl,e2⟩ h2 [0])
 refine T5 (T4 (T4 (Za [0,1,2,3,8,9,10,29] ?_)))
 refine jIf H (fun c2 H=>?_) fun c2 H=>?_
 ·refine T4 (T2 ?_)
  refine Zd 3 ?_
  refine cE H [0] h1 rfl Q110.spec Zp ?_
  rintro r2 w3 _ _ H ⟨rfl,rfl,q4⟩ h3
  replace h3:=nf h3
  have e3:r2.length=a0.length:=q4.trans e1
  refine Ze [] rfl ?_
  cases H
  exact T3 (jR ⟨rfl,rfl,e3⟩ h3 [0])
 refine T5 (T4 (T4 (Za [0,1,2,3,8,9,10,35] ?_)))
 refine T1 (fun env w=>∃ k2 x7 x8,Q119.l1 k2 x2 x3 x5 x6 x7 x8=some r∧env=[(0,.slice A1 x7.length c_1),(1,.int .i64 x2),(2,.int .i64 x3),(3,.int .i64 x8),(8,.bool x5),(9,.bool x6),(10,.int .i64 (w64 (x3 - x2)))]∧St w0 F0 [O33 x7 A1 c_1] [] w∧k2≤k1∧x7.length=a0.length) ?_ ?_
 ·refine jIf H (fun c11 H=>?_) fun c11 H=>?_
  ·refine T4 (T2 ?_)
   refine Zd 3 ?_
   refine cE H [0] h1 rfl Q108.spec Zp ?_
   rintro r11 w22 _ _ H ⟨rfl,rfl,q20⟩ h30
   replace h30:=nf h30
   have e14:r11.length=a0.length:=q20.trans e1
   refine Ze [0,1,2,3,8,9,10] rfl ?_
   refine TY (env':=[(0,.slice A1 r11.length c_1),(1,.int .i64 x2),(2,.int .i64 x3),(3,.int .i64 x4),(8,.bool x5),(9,.bool x6),(10,.int .i64 (w64 (x3 - x2)))]) (by simp only [q20,List.length_nil] <;> rfl) ?_
   refine Za [0,1,2,3,8,9,10] ?_
   have h31:=(sOR h30 [0] [])
   exact ⟨k1,_,_,H,rfl,h31,T6 _,e14⟩
  refine Ws [0,1,2,3,8,9,10] ?_
  refine T5 ?_
  have h32:=(sOR h1 [0] [])
  exact ⟨k1,_,_,H,rfl,h32,T6 _,e1⟩
 rintro env w5 ⟨k2,x7,x8,H,rfl,h4,hk2,e4⟩
 rcases k2 with _ | k2
 ·exact z0 H
 rw [Q119.l1] at H
 refine T4 (T2 ?_)
 refine Zd 3 ?_
 refine cS H [] h4 rfl Q109.spec (X4 (gO 0) Zp) fun r3 w6 H h5=>?_
 refine Ze [0,1,2,3,8,9,10,11,12] rfl ?_
 refine T4 (T4 (Za [0,1,2,3,8,9,10,11,12,50] ?_))
 refine T1 (fun env w=>∃ k3 x9 x10 x11,Q119.l2 k3 x2 x3 x5 x6 x8 x9 x10 x11=some r∧env=[(0,.slice A1 x9.length c_1),(1,.int .i64 x2),(2,.int .i64 x3),(3,.int .i64 x8),(8,.bool x5),(9,.bool x6),(10,.int .i64 (w64 (x3 - x2))),(11,.int .i64 x10),(12,.int .i64 x11)]∧St w0 F0 [O33 x9 A1 c_1] [] w∧k3≤k2∧x9.length=a0.length) ?_ ?_
 ·refine jIf H (fun c10 H=>?_) fun c10 H=>?_
  ·refine T4 (T2 ?_)
   refine Zd 3 ?_
   refine cE H [0] h5 rfl Q120.spec Zp ?_
   rintro r10 w21 _ _ H ⟨rfl,rfl,q18⟩ h27
   replace h27:=nf h27
   have e13:r10.length=a0.length:=q18.trans e4
   refine Ze [0,1,2,3,8,9,10,11] rfl ?_
   refine TY (env':=[(0,.slice A1 r10.length c_1),(1,.int .i64 x2),(2,.int .i64 x3),(3,.int .i64 x8),(8,.bool x5),(9,.bool x6),(10,.int .i64 (w64 (x3 - x2))),(11,.int .i64 r3.1)]) (by simp only [q18,List.length_nil] <;> rfl) ?_
   refine T4 (Za [0,1,2,3,8,9,10,11] ?_)
   refine Za [0,1,2,3,8,9,10,11,12] ?_
   have h28:=(sOR h27 [0] [])
   exact ⟨k2,_,_,_,H,rfl,h28,T6 _,e13⟩
  refine Ws [0,1,2,3,8,9,10,11,12] ?_
  refine T5 ?_
  have h29:=(sOR h5 [0] [])
  exact ⟨k2,_,_,_,H,rfl,h29,T6 _,e4⟩
 rintro env w8 ⟨k3,x9,x10,x11,H,rfl,h6,hk3,e5⟩
 rcases k3 with _ | k3
 ·exact z0 H
 rw [Q119.l2] at H
 refine T4 (T4 ?_)
 refine T1 (fun env w=>∃ k4 x12,Q119.l3 k4 x2 x3 x5 x6 x8 x9 x10 x12=some r∧env=[(0,.slice A1 x9.length c_1),(1,.int .i64 x2),(2,.int .i64 x3),(3,.int .i64 x8),(8,.bool x5),(9,.bool x6),(10,.int .i64 (w64 (x3 - x2))),(11,.int .i64 x10),(68,.bool x12)]∧St w0 F0 [O33 x9 A1 c_1] [] w∧k4≤k3) ?_ ?_
 ·refine T2 (Zd 2 ?_)
  refine Z7 62 H (fun c8 H=>?_) fun c8 H=>?_
  ·refine Zd 3 ?_
   refine Z7 65 H (fun c9 H=>?_) fun c9 H=>?_
   ·refine Ze [0,1,2,3,8,9,10,11,68] rfl ?_
    have h24:=(sOR h6 [0] [])
    exact ⟨k3,_,H,rfl,h24,T6 _⟩
   refine Ze [0,1,2,3,8,9,10,11,68] rfl ?_
   have h25:=(sOR h6 [0] [])
   exact ⟨k3,_,H,rfl,h25,T6 _⟩
  refine Ze [0,1,2,3,8,9,10,11,68] rfl ?_
  have h26:=(sOR h6 [0] [])
  exact ⟨k3,_,H,rfl,h26,T6 _⟩
 rintro env w10 ⟨k4,x12,H,rfl,h7,hk4⟩
 rcases k4 with _ | k4
 ·exact z0 H
 rw [Q119.l3] at H
 refine T1 (fun env w=>∃ k5 x13,Q119.l4 k5 x2 x3 x5 x6 x8 x10 x13=some r∧env=[(0,.slice A1 x13.length c_1),(1,.int .i64 x2),(2,.int .i64 x3),(3,.int .i64 x8),(8,.bool x5),(9,.bool x6),(10,.int .i64 (w64 (x3 - x2))),(11,.int .i64 x10)]∧St w0 F0 [O33 x13 A1 c_1] [] w∧k5≤k4∧x13.length=a0.length) ?_ ?_
 ·refine jIf H (fun c6 H=>?_) fun c6 H=>?_
  ·refine T4 (T2 ?_)
   refine Zd 3 ?_
   refine cE H [0] h7 rfl Q116.spec Zp ?_
   rintro r9 w20 _ _ H ⟨rfl,rfl,q16⟩ h21
   replace h21:=nf h21
   have e12:r9.2.length=a0.length:=q16.trans e5
   refine Ze [0,1,2,3,8,9,10,11,72] rfl ?_
   refine TY (env':=[(0,.slice A1 r9.2.length c_1),(1,.int .i64 x2),(2,.int .i64 x3),(3,.int .i64 x8),(8,.bool x5),(9,.bool x6),(10,.int .i64 (w64 (x3 - x2))),(11,.int .i64 x10),(72,.bool r9.1)]) (by simp only [q16,List.length_nil] <;> rfl) ?_
   refine jIf H (fun c7 H=>?_) fun c7 H=>?_
   ·cases H
    exact T3 (jR ⟨rfl,rfl,e12⟩ h21 [0])
   refine Ws [0,1,2,3,8,9,10,11] ?_
   refine T5 ?_
   have h22:=(sOR h21 [0] [])
   exact ⟨k4,_,H,rfl,h22,T6 _,e12⟩
  refine Ws [0,1,2,3,8,9,10,11] ?_
  refine T5 ?_
  have h23:=(sOR h7 [0] [])
  exact ⟨k4,_,H,rfl,h23,T6 _,e5⟩
 rintro env w12 ⟨k5,x13,H,rfl,h8,hk5,e6⟩
 rcases k5 with _ | k5
 ·exact z0 H
 rw [Q119.l4] at H
 refine T4 (T4 ?_)
 refine T1 (fun env w=>∃ k6 x14,Q119.l5 k6 x2 x3 x5 x6 x8 x10 x13 x14=some r∧env=[(0,.slice A1 x13.length c_1),(1,.int .i64 x2),(2,.int .i64 x3),(3,.int .i64 x8),(8,.bool x5),(9,.bool x6),(10,.int .i64 (w64 (x3 - x2))),(11,.int .i64 x10),(87,.bool x14)]∧St w0 F0 [O33 x13 A1 c_1] [] w∧k6≤k5) ?_ ?_
 ·refine jH h8 fun h17=>?_
  refine Zo [0,1,2] ?_
  refine X1 75 H (fun c5 H=>?_) fun c5 H=>?_
  ·refine Zo [3,4,5,8,9] ?_
   obtain ⟨⟨p1,p2⟩,H⟩:=Zl H
   have e11:=Zx h17.wh (gO 0) p1 p2
   refine Zf 6 rfl (Zg e11 p1 p2) ?_
   refine Zf 7 rfl (Zh 0 wI (gO 0) p1 p2) ?_
   obtain ⟨⟨p3,p4⟩,H⟩:=Zl H
   refine Zf 10 rfl (Zg e11 p3 p4) ?_
   refine Zf 11 rfl (Zh 0 wI (gO 0) p3 p4) ?_
   refine cSJ 12 rfl H [] h17 rfl Q35.spec Zp 0 fun r8 w19 H h18=>?_
   refine Zo [13,14] ?_
   refine Zt [0,1,2,3,8,9,10,11,87] ?_
   have h19:=(sOR h18 [0] [])
   exact ⟨k5,_,H,rfl,h19,T6 _⟩
  refine Zo [3,4,5,6,7,8,9,10,11,12,13,14] ?_
  refine Zt [0,1,2,3,8,9,10,11,87] ?_
  have h20:=(sOR h17 [0] [])
  exact ⟨k5,_,H,rfl,h20,T6 _⟩
 rintro env w14 ⟨k6,x14,H,rfl,h9,hk6⟩
 rcases k6 with _ | k6
 ·exact z0 H
 rw [Q119.l5] at H
 refine jIf H (fun c3 H=>?_) fun c3 H=>?_
 ·refine T4 (T2 ?_)
  refine Zd 4 ?_
  refine cE H [0] h9 rfl Q117.spec Zp ?_
  rintro r4 w15 _ _ H ⟨rfl,rfl,q7⟩ h10
  replace h10:=nf h10
  have e7:r4.2.length=a0.length:=q7.trans e6
  refine Ze [0,2,3,8,9,13] rfl ?_
  refine TY (env':=[(0,.slice A1 r4.2.length c_1),(2,.int .i64 x3),(3,.int .i64 x8),(8,.bool x5),(9,.bool x6),(13,.int .i64 r4.1)]) (by simp only [q7,List.length_nil] <;> rfl) ?_
  refine T4 (Za [0,1,2,3,8,9] ?_)
  refine TZ ?_
  have h11:=(sOR h10 [0] [])
  exact ⟨k6,by omega,_,_,_,_,_,_,H,rfl,h11,by omega,e7⟩
 refine T5 (T4 (T2 ?_))
 refine Zd 4 ?_
 refine cE H [0] h9 rfl Q118.spec Zp ?_
 rintro r5 w16 _ _ H ⟨rfl,rfl,q9⟩ h12
 replace h12:=nf h12
 have e8:r5.2.2.length=a0.length:=q9.trans e6
 refine Ze [0,1,2,3,10,14,15] rfl ?_
 refine TY (env':=[(0,.slice A1 r5.2.2.length c_1),(1,.int .i64 x2),(2,.int .i64 x3),(3,.int .i64 x8),(10,.int .i64 (w64 (x3 - x2))),(14,.int .i64 r5.1),(15,.bool r5.2.1)]) (by simp only [q9,List.length_nil] <;> rfl) ?_
 refine T4 (Za [0,1,2,3,9,10,14] ?_)
 refine T4 (Za [0,1,2,3,9,10,14,16,17] ?_)
 refine T4 (Za [0,1,2,3,9,14,16,17,18] ?_)
 refine T4 (Za [0,1,2,3,9,14,16,17,18,113] ?_)
 refine jIf H (fun c4 H=>?_) fun c4 H=>?_
 ·refine T4 (Za [0,1,2,3,8,9,14] ?_)
  refine T4 (T2 ?_)
  refine Zd 4 ?_
  refine cE H [0] h12 rfl (ih k6 (by omega)) Zp ?_
  rintro r6 w17 _ _ H ⟨rfl,rfl,q11⟩ h13
  replace h13:=nf h13
  have e9:r6.length=a0.length:=q11.trans e8
  refine Ze [0,2,3,8,9,14] rfl ?_
  refine TY (env':=[(0,.slice A1 r6.length c_1),(2,.int .i64 x3),(3,.int .i64 x8),(8,.bool (decide ((w64 (Int.tdiv (w64 (x3 - x2)) 8))≤(w64 (r5.1 - x2))))),(9,.bool r5.2.1),(14,.int .i64 r5.1)]) (by simp only [q11,List.length_nil] <;> rfl) ?_
  refine Za [0,1,2,3,8,9] ?_
  have h14:=(sOR h13 [0] [])
  exact ⟨k6,by omega,_,_,_,_,_,_,H,rfl,h14,by omega,e9⟩
 refine T4 (Za [0,1,2,3,8,9,14] ?_)
 refine T4 (T2 ?_)
 refine Zd 5 ?_
 refine cE H [0] h12 rfl (ih k6 (by omega)) Zp ?_
 rintro r7 w18 _ _ H ⟨rfl,rfl,q13⟩ h15
 replace h15:=nf h15
 have e10:r7.length=a0.length:=q13.trans e8
 refine Ze [0,1,3,8,9,14] rfl ?_
 refine TY (env':=[(0,.slice A1 r7.length c_1),(1,.int .i64 x2),(3,.int .i64 x8),(8,.bool (decide ((w64 (Int.tdiv (w64 (x3 - x2)) 8))≤(w64 (x3 - r5.1))))),(9,.bool r5.2.1),(14,.int .i64 r5.1)]) (by simp only [q13,List.length_nil] <;> rfl) ?_
 refine Za [0,1,2,3,8,9] ?_
 have h16:=(sOR h15 [0] [])
 exact ⟨k6,by omega,_,_,_,_,_,_,H,rfl,h16,by omega,e10⟩

def Q107.f (k:Nat) (a0:TU):Option TU:=(Q0.f (IntKind.u64.wrap ((a0.length:Int)))).bind fun r1=>((Q119.f k a0 0 (a0.length:Int) r1).bind fun r2=>(some r2))
theorem Q107.spec {k a0 A1 c_1 r} (H:Q107.f k a0=some r) :
  Spec Tryz.prog 196 [.slice A1 a0.length c_1] [O33 a0 A1 c_1] [] (fun v l=>v=.tuple #[]∧l=[O33 r A1 c_1]∧r.length=a0.length):=by
 refine Zi Tryz.func196 fun w0 F0 h0=>?_
 unfold Q107.f at H
 refine T4 (Za [0,2] ?_)
 refine T2 (Zd 4 ?_)
 refine cS H [] h0 rfl Q0.spec Zp fun r1 w1 H h1=>?_
 refine cE H [0] h1 rfl Q119.spec Zp ?_
 rintro r2 w2 _ _ H ⟨rfl,rfl,q3⟩ h2
 replace h2:=nf h2
 have e1:r2.length=a0.length:=q3.trans (rfl:a0.length=a0.length)
 refine Ze [] rfl ?_
 cases H
 exact ⟨_,_,_,Zj,⟨rfl,rfl,e1⟩,sO h2 [0]⟩

def Q95.l1:Nat→Int→TU→Int→Int→Option TU
 | 0,_,_,_,_=>none
 | k+1,x1,x2,x3,x4=>if (decide (x4<((x2.drop x1.toNat).length:Int)))=true then (if 0≤x4∧x4<((x2.drop x1.toNat).length:Int) then (if 0≤(w64 (x4 - 1))∧(w64 (x4 - 1))<((x2.drop x1.toNat).length:Int) then (if (!decide ((gt (x2.drop x1.toNat) x4)=(gt (x2.drop x1.toNat) (w64 (x4 - 1)))))=true then (if 0≤x3∧x3<(x2.length:Int) then (Q95.l1 k x1 (x2.set x3.toNat (gt (x2.drop x1.toNat) x4)) (w64 (x3+1)) (w64 (x4+1))) else none) else (Q95.l1 k x1 x2 x3 (w64 (x4+1)))) else none) else none) else (if 0≤x3∧x3≤(x2.length:Int) then (if (0:Int)≤x3∧x3≤((patch x2 x3.toNat ((x2.drop x3.toNat).length) (List.replicate ((x2.drop x3.toNat).length) (0:Int))).length:Int) then (some ((patch x2 x3.toNat ((x2.drop x3.toNat).length) (List.replicate ((x2.drop x3.toNat).length) (0:Int))).take x3.toNat)) else none) else none)
def Q95.l0:Nat→TU→Int→Option TU
 | 0,_,_=>none
 | k+1,a0,x1=>if (decide (x1<(a0.length:Int)))=true then (if 0≤x1∧x1<(a0.length:Int) then (if 0≤(w64 (x1 - 1))∧(w64 (x1 - 1))<(a0.length:Int) then (if (decide ((gt a0 x1)=(gt a0 (w64 (x1 - 1)))))=true then (if 0≤x1∧x1≤(a0.length:Int) then (Q95.l1 k x1 a0 x1 1) else none) else (Q95.l0 k a0 (w64 (x1+1)))) else none) else none) else (some a0)
def Q95.f (k:Nat) (a0:TU):Option TU:=if (decide ((a0.length:Int)<2))=true then (some a0) else (Q95.l0 k a0 1)
theorem Q95.spec {k a0 A1 c_1 r} (H:Q95.f k a0=some r) :
  SpecA Tryz.prog 228 [.slice A1 a0.length c_1] [O33 a0 A1 c_1] [] (fun v l lr=>∃ A_0 c_0,v=.slice A_0 r.length c_0∧l=[]∧lr=[R33 r A_0 c_0]):=by
 refine Yd Tryz.func228 fun w0 F0 h0=>?_
 unfold Q95.f at H
 refine T4 (Za [0] ?_)
 refine T4 (T4 (Za [0,8] ?_))
 refine jIf H (fun c1 H=>?_) fun c1 H=>?_
 ·refine T4 (Za [2] ?_)
  have h1:=h0.freeze (k:=0) rfl Yz
  cases H
  exact T3 (jRA ⟨_,_,rfl,rfl,rfl⟩ (sOR h1 [] [0]))
 refine T5 (T4 (T4 (Za [0,3] ?_)))
 refine TW ?_
 have h15:=(sOR h0 [0] [])
 refine T0 (fun kk env w=>∃ x1,Q95.l0 kk a0 x1=some r∧env=[(0,.slice A1 a0.length c_1),(3,.int .i64 x1)]∧St w0 F0 [O33 a0 A1 c_1] [] w) (k:=k) ⟨_,H,rfl,h15⟩ ?_
 rintro k1 env w1 ⟨x1,H,rfl,h2⟩
 rcases k1 with _ | k1
 ·exact z0 H
 rw [Q95.l0] at H
 refine T4 (T4 (Za [0,3,13] ?_))
 refine jIf H (fun c2 H=>?_) fun c2 H=>?_
 ·refine T5 (T4 (TW (T4 ?_)))
  refine jH h2 fun h3=>?_
  refine Zo [0,1,4,5,6] ?_
  obtain ⟨⟨p1,p2⟩,H⟩:=Zl H
  have e1:=Zx h3.wh (gO 0) p1 p2
  refine Zf 2 rfl (Zg e1 p1 p2) ?_
  refine Zf 3 rfl (Zh 0 wI (gO 0) p1 p2) ?_
  obtain ⟨⟨p3,p4⟩,H⟩:=Zl H
  refine Zf 7 rfl (Zg e1 p3 p4) ?_
  refine Zf 8 rfl (Zh 0 wI (gO 0) p3 p4) ?_
  refine Zo [9] ?_
  refine Zt [0,3,25] ?_
  refine jIf H (fun c3 H=>?_) fun c3 H=>?_
  ·refine T4 (T2 ?_)
   refine Zd 2 ?_
   obtain ⟨⟨p5,p6⟩,H⟩:=Zl H
   have e2:=h3.cap (gO 0)
   refine Zc (J9 (a0.drop x1.toNat) x1 (a0.length:Int) e2 p5 p6 (Int.le_refl _) (W7 _ _)) ?_
   refine Ze [0,3,4] rfl ?_
   refine T4 (T4 (Za [0,3,4,5] ?_))
   refine TW ?_
   have h12:=(sOR h3 [0] [])
   refine T0 (fun kk env w=>∃ x2 x3 x4,Q95.l1 kk x1 x2 x3 x4=some r∧env=[(0,.slice A1 x2.length c_1),(3,.int .i64 x3),(4,.slice (Ve A1 c_1 x1.toNat 1) (x2.drop x1.toNat).length (c_1 - x1.toNat)),(5,.int .i64 x4)]∧St w0 F0 [O33 x2 A1 c_1] [] w∧kk≤k1∧x2.length=a0.length) (k:=k1) ⟨_,_,_,H,rfl,h12,T6 _,(rfl:a0.length=a0.length)⟩ ?_
   rintro k2 env w2 ⟨x2,x3,x4,H,rfl,h4,hk2,e3⟩
   rcases k2 with _ | k2
   ·exact z0 H
   rw [Q95.l1] at H
   refine T4 (T4 (Za [0,3,4,5,32] ?_))
   refine jIf H (fun c4 H=>?_) fun c4 H=>?_
   ·refine T5 (T4 (TW (T4 ?_)))
    refine jH h4 fun h5=>?_
    refine Zo [0,1,4,5,6] ?_
    obtain ⟨⟨p7,p8⟩,H⟩:=Zl H
    have e4:=Zx h5.wh ((Gives.of 0 rfl Yz).trans (Vw (.int .u32) (x2.drop x1.toNat) x1 (x2.length:Int) (by omega) (by omega) (by omega) (W7 _ _))) p7 p8
    refine Zf 2 rfl (Zg e4 p7 p8) ?_
    refine Zf 3 rfl (Zh 0 wI ((Gives.of 0 rfl Yz).trans (Vw (.int .u32) (x2.drop x1.toNat) x1 (x2.length:Int) (by omega) (by omega) (by omega) (W7 _ _))) p7 p8) ?_
    obtain ⟨⟨p9,p10⟩,H⟩:=Zl H
    refine Zf 7 rfl (Zg e4 p9 p10) ?_
    refine Zf 8 rfl (Zh 0 wI ((Gives.of 0 rfl Yz).trans (Vw (.int .u32) (x2.drop x1.toNat) x1 (x2.length:Int) (by omega) (by omega) (by omega) (W7 _ _))) p9 p10) ?_
    refine Zo [9] ?_
    refine Zt [0,3,4,5,44] ?_
    refine jIf H (fun c5 H=>?_) fun c5 H=>?_
    ·refine T4 (T2 ?_)
     refine Zd 4 ?_
     refine Zc (Zg e4 p7 p8) ?_
     refine Zc (Zh 0 h5.wht ((Gives.of 0 rfl Yz).trans (Vw (.int .u32) (x2.drop x1.toNat) x1 (x2.length:Int) (by omega) (by omega) (by omega) (W7 _ _))) p7 p8) ?_
     obtain ⟨⟨p11,p12⟩,H⟩:=Zl H
     refine Zc (Zg e1 p11 p12) ?_
     refine rS (Zm 0 (.int .u32) x3 (gt (x2.drop x1.toNat) x4) 0 h5 rfl p11 p12) fun _ w3 h6=>?_
     have e5:(x2.set x3.toNat (gt (x2.drop x1.toNat) x4)).length=a0.length:=List.length_set.trans e3
     refine Ze [0,3,4,5] rfl ?_
     refine TY (env':=[(0,.slice A1 (x2.set x3.toNat (gt (x2.drop x1.toNat) x4)).length c_1),(3,.int .i64 x3),(4,.slice (Ve A1 c_1 x1.toNat 1) ((x2.set x3.toNat (gt (x2.drop x1.toNat) x4)).drop x1.toNat).length (c_1 - x1.toNat)),(5,.int .i64 x4)]) (by first | (simp only [List.length_set]; done) | (simp only [List.length_set] <;> simp only [List.length_drop]; done) | (simp only [List.length_set,List.length_drop,List.length_nil] <;> rfl)) ?_
     refine Za [0,3,4,5] ?_
     refine Za [0,3,4,5] ?_
     have h7:=(sOR h6 [0] [])
     exact ⟨k2,by omega,_,_,_,H,rfl,h7,by omega,e5⟩
    refine T5 (Za [0,3,4,5] ?_)
    have h8:=(sOR h5 [0] [])
    exact ⟨k2,by omega,_,_,_,H,rfl,h8,by omega,e3⟩
   refine TZ (T4 (T2 ?_))
   refine Zd 2 ?_
   obtain ⟨⟨p13,p14⟩,H⟩:=Zl H
   have e6:=h4.cap (gO 0)
   refine Zc (J9 (x2.drop x3.toNat) x3 (x2.length:Int) e6 p13 p14 (Int.le_refl _) (W7 _ _)) ?_
   have e7:x3.toNat+(x2.drop x3.toNat).length≤x2.length:=by simp only [List.length_drop]; omega
   refine Zv (Zgn Yj (ty:=(.int .u32)) (xs:=x2) rfl (0:Int) 0 rfl h4 rfl rfl rfl rfl rfl rfl e7) ?_
   rintro _ w4 h9
   replace h9:=nf h9
   have e8:(patch x2 x3.toNat ((x2.drop x3.toNat).length) (List.replicate ((x2.drop x3.toNat).length) (0:Int))).length=a0.length:=(Xr e7).trans e3
   refine Ze [0,3] rfl ?_
   refine TY (env':=[(0,.slice A1 (patch x2 x3.toNat ((x2.drop x3.toNat).length) (List.replicate ((x2.drop x3.toNat).length) (0:Int))).length c_1),(3,.int .i64 x3)]) (by first | (simp only [Xr e7]; done) | (simp only [Xr e7] <;> simp only [List.length_drop]; done) | (simp only [Xr e7,List.length_drop,List.length_nil] <;> rfl)) ?_
   refine T4 (T2 ?_)
   refine Zd 2 ?_
   obtain ⟨⟨p15,p16⟩,H⟩:=Zl H
   have e9:=h9.cap (gO 0)
   refine Zc (Uj ((patch x2 x3.toNat ((x2.drop x3.toNat).length) (List.replicate ((x2.drop x3.toNat).length) (0:Int))).take x3.toNat) x3 e9 p15 p16) ?_
   refine Ze [2] rfl ?_
   have h10:=h9.freeze (k:=0) rfl Yz
   have h11:=h10.read (k:=0) rfl (Zbt (.int .u32) ((patch x2 x3.toNat ((x2.drop x3.toNat).length) (List.replicate ((x2.drop x3.toNat).length) (0:Int))).take x3.toNat) x3 p15 p16)
   cases H
   exact T3 (jRA ⟨_,_,rfl,rfl,rfl⟩ (sOR h11 [] [0]))
  refine T5 (Za [0,3] ?_)
  have h13:=(sOR h3 [0] [])
  exact ⟨k1,by omega,_,H,rfl,h13⟩
 refine TZ (T4 (Za [2] ?_))
 have h14:=h2.freeze (k:=0) rfl Yz
 cases H
 exact T3 (jRA ⟨_,_,rfl,rfl,rfl⟩ (sOR h14 [] [0]))

def Q69.f (k:Nat) (a0:Tr) (a1:TU):Option (Bool):=(Q94.f a1).bind fun r1=>((Q107.f k r1).bind fun r2=>(if (decide ((a1.length:Int)<1))=true then (some false) else (if (decide (a0.2.2.2.1<(a1.length:Int)))=true then (some false) else (if 0<(r2.length:Int) then (if (decide ((gt r2 0)=0))=true then (some false) else (if 0≤(w64 ((a1.length:Int) - 1))∧(w64 ((a1.length:Int) - 1))<(r2.length:Int) then (if (decide (a0.1≤(w64 ((gt r2 (w64 ((a1.length:Int) - 1)))))))=true then (some false) else ((Q95.f k r2).bind fun r3=>(some (decide ((r3.length:Int)=(a1.length:Int)))))) else none)) else none))))
theorem Q69.spec {k a0 a1 A1 c_1 r} (H:Q69.f k a0 a1=some r) :
  Spec Tryz.prog 203 [.agg #[.int .i64 a0.1,.int .i64 a0.2.1,.int .i64 a0.2.2.1,.int .i64 a0.2.2.2.1,.int .i64 a0.2.2.2.2.1,.int .i64 a0.2.2.2.2.2.1,.int .i64 a0.2.2.2.2.2.2.1,.int .i64 a0.2.2.2.2.2.2.2],.slice A1 a1.length c_1] [] [R33 a1 A1 c_1] (fun v l=>v=.bool r∧l=[]):=by
 refine Zi Tryz.func203 fun w0 F0 h0=>?_
 unfold Q69.f at H
 refine T4 (T2 ?_)
 refine rB (Z4 h0) fun b1 w1 h1=>?_
 refine Ze [1,2] rfl ?_
 refine T4 (T2 ?_)
 refine Zd 1 ?_
 refine cE H [] h1 rfl Q94.spec (gS [1]) ?_
 rintro r1 w2 _ _ H ⟨A2,c_2,rfl,rfl⟩ h2
 replace h2:=nf h2
 refine Ze [1,2,5] rfl ?_
 refine T4 (T2 ?_)
 refine Zd 1 ?_
 refine cE H [0] h2 rfl Q107.spec Zp ?_
 rintro r2 w3 _ _ H ⟨rfl,rfl,q3⟩ h3
 replace h3:=nf h3
 refine Ze [1,2,5] rfl ?_
 refine TY (env':=[(1,.slice A1 a1.length c_1),(2,.pointer (some ⟨b1,0,none⟩)),(5,.slice A2 r2.length c_2)]) (by simp only [q3,List.length_nil] <;> rfl) ?_
 refine T4 (T4 ?_)
 refine jH h3 fun h4=>?_
 refine Zo [0,1,2,3] ?_
 refine X1 13 H (fun c1 H=>?_) fun c1 H=>?_
 ·refine Zo [4,5,6,7,8,9,10,11,12,13,14,15,16,17,18,19,20,21,22,23,24,25,26,27] ?_
  refine Zt [1,5,37] ?_
  refine Zn ?_
  refine T4 (Za [4] ?_)
  have h5:=sO h4 []
  replace h5:=nf h5
  cases H
  exact T3 (jR0 h5 [])
 refine Zo [4,5,6] ?_
 refine Zf 7 rfl (Zb 1 wI) ?_
 refine Zo [8,9,10] ?_
 refine X1 20 H (fun c2 H=>?_) fun c2 H=>?_
 ·refine Zo [11,12,13,14,15,16,17,18,19,20,21,22,23,24,25,26,27] ?_
  refine Zt [1,5,37] ?_
  refine Zn ?_
  refine T4 (Za [4] ?_)
  have h6:=sO h4 []
  replace h6:=nf h6
  cases H
  exact T3 (jR0 h6 [])
 refine Zo [11] ?_
 obtain ⟨p1,H⟩:=Zl H
 have e1:=Jo h4.wh (gO 0) p1
 refine Zf 12 rfl (V4 e1 p1) ?_
 refine Zf 13 rfl (Vp 0 wI (gO 0) p1) ?_
 refine Zo [14,15,16] ?_
 refine X1 26 H (fun c3 H=>?_) fun c3 H=>?_
 ·refine Zo [17,18,19,20,21,22,23,24,25,26,27] ?_
  refine Zt [1,5,37] ?_
  refine Zn ?_
  refine T4 (Za [4] ?_)
  have h7:=sO h4 []
  replace h7:=nf h7
  cases H
  exact T3 (jR0 h7 [])
 refine Zo [17,18,19,20,24] ?_
 obtain ⟨⟨p2,p3⟩,H⟩:=Zl H
 refine Zf 21 rfl (Zg e1 p2 p3) ?_
 refine Zf 22 rfl (Zh 0 wI (gO 0) p2 p3) ?_
 refine Zo [23] ?_
 refine Zf 25 rfl (Zb 1 wI) ?_
 refine Zo [26,27] ?_
 refine Zt [1,5,37] ?_
 refine jIf H (fun c4 H=>?_) fun c4 H=>?_
 ·refine T4 (Za [4] ?_)
  have h8:=sO h4 []
  replace h8:=nf h8
  cases H
  exact T3 (jR0 h8 [])
 refine T5 (T4 (T2 ?_))
 refine Zd 1 ?_
 obtain ⟨r3,q4,H⟩:=Ye H
 refine Zv (Zz [0] (Q95.spec q4) h4 rfl Zp) ?_
 rintro _ w4 ⟨_,_,⟨A3,c_3,rfl,rfl,rfl⟩,h9⟩
 replace h9:=nf h9
 refine Ze [4] rfl ?_
 cases H
 exact T3 (jR0 h9 [])

def Q59.l0:Nat→TH→Tx→Int→Option (Bool)
 | 0,_,_,_=>none
 | k+1,a0,a1,x1=>if (decide (x1<(a0.length:Int)))=true then (if 0≤x1∧x1<(a0.length:Int) then ((Q63.f a1 (gt a0 x1)).bind fun r1=>(if (!r1)=true then (some false) else (if (decide ((gt a0 x1)=a1.1))=true then (some false) else (if (decide (0<x1))=true then (if 0≤(w64 (x1 - 1))∧(w64 (x1 - 1))<(a0.length:Int) then ((Q62.f (gt a0 (w64 (x1 - 1))) (gt a0 x1)).bind fun r2=>(if (decide (0≤r2))=true then (some false) else (Q59.l0 k a0 a1 (w64 (x1+1))))) else none) else (Q59.l0 k a0 a1 (w64 (x1+1))))))) else none) else (some true)
def Q59.f (k:Nat) (a0:TH) (a1:Tx):Option (Bool):=Q59.l0 k a0 a1 0
theorem Q59.spec {k a0 a1 A1 c_1 r} (H:Q59.f k a0 a1=some r) :
  Spec Tryz.prog 204 [.slice A1 a0.length c_1,.agg #[.string ⟨⟨a1.1⟩⟩,.string ⟨⟨a1.2.1⟩⟩,.bool a1.2.2]] [] [R9 a0 A1 c_1] (fun v l=>v=.bool r∧l=[]):=by
 refine Zi Tryz.func204 fun w0 F0 h0=>?_
 unfold Q59.f at H
 refine T4 (T2 ?_)
 refine rB (Z4 h0) fun b1 w1 h1=>?_
 refine Ze [0,3] rfl ?_
 refine T4 (T4 (Za [0,3,7,8,9] ?_))
 refine TW ?_
 have h7:=(sOR h1 [0] [0])
 refine T0 (fun kk env w=>∃ x1,Q59.l0 kk a0 a1 x1=some r∧env=[(0,.slice A1 a0.length c_1),(3,.pointer (some ⟨b1,0,none⟩)),(7,.slice A1 a0.length c_1),(8,.int .i64 (a0.length:Int)),(9,.int .i64 x1)]∧St w0 F0 [X92 b1 a1.1 a1.2.1 a1.2.2] [R9 a0 A1 c_1] w) (k:=k) ⟨_,H,rfl,h7⟩ ?_
 rintro k1 env w2 ⟨x1,H,rfl,h2⟩
 rcases k1 with _ | k1
 ·exact z0 H
 rw [Q59.l0] at H
 refine T4 (Za [0,3,7,8,9,10] ?_)
 refine T4 (jIf H (fun c1 H=>?_) fun c1 H=>?_)
 ·refine T5 (T4 (TW (T4 (T2 ?_))))
  refine Zd 1 ?_
  obtain ⟨⟨p1,p2⟩,H⟩:=Zl H
  have e1:=Zx h2.wh (Zk 1) p1 p2
  refine Zc (Zg e1 p1 p2) ?_
  refine Zc (Zh 0 h2.wht (Zk 1) p1 p2) ?_
  refine Ze [0,3,5,6,7,8,9] rfl ?_
  refine T4 (T2 ?_)
  refine Zc (Zb 0 h2.wht) ?_
  refine Zd 1 ?_
  refine cS H [] h2 rfl Q63.spec Zp fun r1 w3 H h3=>?_
  refine Zd 2 ?_
  refine Z7 18 H (fun c2 H=>?_) fun c2 H=>?_
  ·refine Ze [0,3,7,8,9,37] rfl ?_
   refine Zn ?_
   refine T4 (Za [4] ?_)
   cases H
   exact T3 (jR0 h3 [])
  refine Zd 2 ?_
  refine Zc (Zb 0 h3.wht) ?_
  refine Zd 3 ?_
  refine Z7 24 H (fun c3 H=>?_) fun c3 H=>?_
  ·refine Ze [0,3,7,8,9,37] rfl ?_
   refine Zn ?_
   refine T4 (Za [4] ?_)
   cases H
   exact T3 (jR0 h3 [])
  refine Zd 3 ?_
  refine Z7 27 H (fun c4 H=>?_) fun c4 H=>?_
  ·refine Zd 3 ?_
   obtain ⟨⟨p3,p4⟩,H⟩:=Zl H
   refine Zc (Zg e1 p3 p4) ?_
   refine Zc (Zh 0 h3.wht (Zk 1) p3 p4) ?_
   refine Zd 1 ?_
   refine cS H [] h3 rfl Q62.spec Zp fun r2 w4 H h4=>?_
   refine Ze [0,3,7,8,9,37] rfl ?_
   refine jIf H (fun c5 H=>?_) fun c5 H=>?_
   ·refine T4 (Za [4] ?_)
    cases H
    exact T3 (jR0 h4 [])
   refine T5 (Za [0,3,7,8,9] ?_)
   have h5:=(sOR h4 [0] [0])
   exact ⟨k1,by omega,_,H,rfl,h5⟩
  refine Ze [0,3,7,8,9,37] rfl ?_
  refine Z5 ?_
  refine T5 (Za [0,3,7,8,9] ?_)
  have h6:=(sOR h3 [0] [0])
  exact ⟨k1,by omega,_,H,rfl,h6⟩
 refine TZ (T4 (Za [4] ?_))
 cases H
 exact T3 (jR0 h2 [])

def Q67.f (a0:TP) (a1:Tr):Option (Bool):=(Q64.f a1 a0).bind fun r1=>(some (!r1))
theorem Q67.spec {a0 a1 b1 r} (H:Q67.f a0 a1=some r) :
  Spec Tryz.prog 206 [.string ⟨⟨a0⟩⟩,.pointer (some ⟨b1,0,none⟩)] [X23 b1 a1.1 a1.2.1 a1.2.2.1 a1.2.2.2.1 a1.2.2.2.2.1 a1.2.2.2.2.2.1 a1.2.2.2.2.2.2.1 a1.2.2.2.2.2.2.2] [] (fun v l=>v=.bool r∧l=[X23 b1 a1.1 a1.2.1 a1.2.2.1 a1.2.2.2.1 a1.2.2.2.2.1 a1.2.2.2.2.2.1 a1.2.2.2.2.2.2.1 a1.2.2.2.2.2.2.2]):=by
 refine Zi Tryz.func206 fun w0 F0 h0=>?_
 unfold Q67.f at H
 refine T4 (Za [0,1] ?_)
 refine T4 (T2 ?_)
 refine Zc (Zb 0 h0.wht) ?_
 refine Zd 1 ?_
 refine cS H [] h0 rfl Q64.spec Zp fun r1 w1 H h1=>?_
 refine Ze [3] rfl ?_
 cases H
 exact T3 (jR0 h1 [0])

def Q106.l0:Nat→TH→Tr→Int→Option (Int)
 | 0,_,_,_=>none
 | k+1,a0,a2,x1=>if (decide (x1<(a0.length:Int)))=true then (if 0≤x1∧x1<(a0.length:Int) then ((Q67.f (gt a0 x1) a2).bind fun r1=>(if r1=true then (some x1) else (Q106.l0 k a0 a2 (w64 (x1+1))))) else none) else (some (-1))
def Q106.f (k:Nat) (a0:TH) (a2:Tr):Option (Int):=Q106.l0 k a0 a2 0
theorem Q106.spec {k a0 a2 A1 c_1 b1 r} (H:Q106.f k a0 a2=some r) :
  Spec Tryz.prog 229 [.slice A1 a0.length c_1,.func (.func 206) #[] #[.pointer (some ⟨b1,0,none⟩)]] [X23 b1 a2.1 a2.2.1 a2.2.2.1 a2.2.2.2.1 a2.2.2.2.2.1 a2.2.2.2.2.2.1 a2.2.2.2.2.2.2.1 a2.2.2.2.2.2.2.2] [R9 a0 A1 c_1] (fun v l=>v=.int .i64 r∧l=[X23 b1 a2.1 a2.2.1 a2.2.2.1 a2.2.2.2.1 a2.2.2.2.2.1 a2.2.2.2.2.2.1 a2.2.2.2.2.2.2.1 a2.2.2.2.2.2.2.2]):=by
 refine Zi Tryz.func229 fun w0 F0 h0=>?_
 unfold Q106.f at H
 refine T4 (Za [0,1] ?_)
 refine T4 (T4 (Za [0,1,7,8] ?_))
 refine TW ?_
 have h4:=(sOR h0 [0] [0])
 refine T0 (fun kk env w=>∃ x1,Q106.l0 kk a0 a2 x1=some r∧env=[(0,.slice A1 a0.length c_1),(1,.func (.func 206) #[] #[.pointer (some ⟨b1,0,none⟩)]),(7,.int .i64 (a0.length:Int)),(8,.int .i64 x1)]∧St w0 F0 [X23 b1 a2.1 a2.2.1 a2.2.2.1 a2.2.2.2.1 a2.2.2.2.2.1 a2.2.2.2.2.2.1 a2.2.2.2.2.2.2.1 a2.2.2.2.2.2.2.2] [R9 a0 A1 c_1] w) (k:=k) ⟨_,H,rfl,h4⟩ ?_
 rintro k1 env w1 ⟨x1,H,rfl,h1⟩
 rcases k1 with _ | k1
 ·exact z0 H
 rw [Q106.l0] at H
 refine T4 (Za [0,1,7,8,9] ?_)
 refine T4 (jIf H (fun c1 H=>?_) fun c1 H=>?_)
 ·refine T5 (T4 (TW (T4 (Za [0,1,5,7,8] ?_))))
  refine T4 (T2 ?_)
  refine Zd 3 ?_
  obtain ⟨⟨p1,p2⟩,H⟩:=Zl H
  have e1:=Zx h1.wh (Zk 1) p1 p2
  refine Zc (Zg e1 p1 p2) ?_
  refine Zc (Zh 0 h1.wht (Zk 1) p1 p2) ?_
  obtain ⟨r1,q1,H⟩:=Ye H
  refine Zv (J5 [.string ⟨⟨(gt a0 x1)⟩⟩] [.pointer (some ⟨b1,0,none⟩)] [0] (Q67.spec q1) h1 rfl Zp) ?_
  rintro _ w2 ⟨_,⟨rfl,rfl⟩,h2⟩
  replace h2:=nf h2
  refine Ze [0,1,5,7,8,16] rfl ?_
  refine jIf H (fun c2 H=>?_) fun c2 H=>?_
  ·refine T4 (Za [4] ?_)
   cases H
   exact T3 (jR0 h2 [0])
  refine T5 (Za [0,1,7,8] ?_)
  have h3:=(sOR h2 [0] [0])
  exact ⟨k1,by omega,_,H,rfl,h3⟩
 refine TZ (T4 (Za [4] ?_))
 cases H
 exact T3 (jR0 h1 [0])

def Q100.f (k:Nat) (a0:TH) (a2:Tr):Option (Bool):=(Q106.f k a0 a2).bind fun r1=>(some (decide (0≤r1)))
theorem Q100.spec {k a0 a2 A1 c_1 b1 r} (H:Q100.f k a0 a2=some r) :
  Spec Tryz.prog 205 [.slice A1 a0.length c_1,.func (.func 206) #[] #[.pointer (some ⟨b1,0,none⟩)]] [X23 b1 a2.1 a2.2.1 a2.2.2.1 a2.2.2.2.1 a2.2.2.2.2.1 a2.2.2.2.2.2.1 a2.2.2.2.2.2.2.1 a2.2.2.2.2.2.2.2] [R9 a0 A1 c_1] (fun v l=>v=.bool r∧l=[X23 b1 a2.1 a2.2.1 a2.2.2.1 a2.2.2.2.1 a2.2.2.2.2.1 a2.2.2.2.2.2.1 a2.2.2.2.2.2.2.1 a2.2.2.2.2.2.2.2]):=by
 refine Zi Tryz.func205 fun w0 F0 h0=>?_
 unfold Q100.f at H
 refine T4 (Za [0,1] ?_)
 refine T4 (T2 ?_)
 refine Zd 2 ?_
 refine cS H [0] h0 rfl Q106.spec (gS [0]) fun r1 w1 H h1=>?_
 refine Ze [4] rfl ?_
 cases H
 exact T3 (jR0 h1 [0])

def Q12.l0:Nat→Tt→Int→Option (Bool)
 | 0,_,_=>none
 | k+1,a0,x1=>if (decide (x1<(w64 ((a0.length:Int) - 1))))=true then (if 0≤x1∧x1<(a0.length:Int) then (if 0≤(w64 (x1+1))∧(w64 (x1+1))<(a0.length:Int) then ((Q62.f ((gt a0 x1).1) ((gt a0 (w64 (x1+1))).1)).bind fun r1=>(if (decide (0≤r1))=true then (some false) else (Q12.l0 k a0 (w64 (x1+1))))) else none) else none) else (some true)
def Q12.f (k:Nat) (a0:Tt):Option (Bool):=Q12.l0 k a0 0
theorem Q12.spec {k a0 A1 c_1 r} (H:Q12.f k a0=some r) :
  Spec Tryz.prog 207 [.slice A1 a0.length c_1] [] [Y5 a0 A1 c_1] (fun v l=>v=.bool r∧l=[]):=by
 refine Zi Tryz.func207 fun w0 F0 h0=>?_
 unfold Q12.f at H
 refine T4 (Za [0] ?_)
 refine T4 (T4 (Za [0,6,7] ?_))
 refine TW ?_
 have h5:=(sOR h0 [] [0])
 refine T0 (fun kk env w=>∃ x1,Q12.l0 kk a0 x1=some r∧env=[(0,.slice A1 a0.length c_1),(6,.int .i64 (w64 ((a0.length:Int) - 1))),(7,.int .i64 x1)]∧St w0 F0 [] [Y5 a0 A1 c_1] w) (k:=k) ⟨_,H,rfl,h5⟩ ?_
 rintro k1 env w1 ⟨x1,H,rfl,h1⟩
 rcases k1 with _ | k1
 ·exact z0 H
 rw [Q12.l0] at H
 refine T4 (Za [0,6,7,8] ?_)
 refine T4 (jIf H (fun c1 H=>?_) fun c1 H=>?_)
 ·refine T5 (T4 (TW (T4 (Za [0,3,6,7] ?_))))
  refine T4 (jH h1 fun h2=>?_)
  refine Zo [0,1,5,6,7] ?_
  obtain ⟨⟨p1,p2⟩,H⟩:=Zl H
  have e1:=Zx h2.wh (Zk 0) p1 p2
  refine Zf 2 rfl (Zg e1 p1 p2) ?_
  refine Zo [3] ?_
  refine Zf 4 rfl (Zh 0 wI (Zk 0) p1 p2) ?_
  obtain ⟨⟨p3,p4⟩,H⟩:=Zl H
  refine Zf 8 rfl (Zg e1 p3 p4) ?_
  refine Zo [9] ?_
  refine Zf 10 rfl (Zh 0 wI (Zk 0) p3 p4) ?_
  refine cSJ 11 rfl H [] h2 rfl Q62.spec Zp 0 fun r1 w2 H h3=>?_
  refine Zo [12] ?_
  refine Zt [0,6,7,22] ?_
  refine jIf H (fun c2 H=>?_) fun c2 H=>?_
  ·refine T4 (Za [2] ?_)
   cases H
   exact T3 (jR0 h3 [])
  refine T5 (Za [0,6,7] ?_)
  have h4:=(sOR h3 [] [0])
  exact ⟨k1,by omega,_,H,rfl,h4⟩
 refine TZ (T4 (Za [2] ?_))
 cases H
 exact T3 (jR0 h1 [])

def Q68.f (a0:Tz) (a1:Tr) (a2:Tx):Option (Bool):=(Q64.f a1 a0.1).bind fun r1=>(if (!r1)=true then (some true) else ((Q63.f a2 a0.1).bind fun r2=>(if (!r2)=true then (some true) else (if (decide (a1.2.2.2.2.2.2.2<(a0.2.2.length:Int)))=true then (some true) else (if a0.2.1=true then (some (!decide (a0.2.2=([]:List UInt8)))) else (some false))))))
theorem Q68.spec {a0 a1 a2 b1 b2 r} (H:Q68.f a0 a1 a2=some r) :
  Spec Tryz.prog 209 [.agg #[.string ⟨⟨a0.1⟩⟩,.bool a0.2.1,.string ⟨⟨a0.2.2⟩⟩],.pointer (some ⟨b1,0,none⟩),.pointer (some ⟨b2,0,none⟩)] [X23 b1 a1.1 a1.2.1 a1.2.2.1 a1.2.2.2.1 a1.2.2.2.2.1 a1.2.2.2.2.2.1 a1.2.2.2.2.2.2.1 a1.2.2.2.2.2.2.2,X92 b2 a2.1 a2.2.1 a2.2.2] [] (fun v l=>v=.bool r∧l=[X23 b1 a1.1 a1.2.1 a1.2.2.1 a1.2.2.2.1 a1.2.2.2.2.1 a1.2.2.2.2.2.1 a1.2.2.2.2.2.2.1 a1.2.2.2.2.2.2.2,X92 b2 a2.1 a2.2.1 a2.2.2]):=by
 refine Zi Tryz.func209 fun w0 F0 h0=>?_
 unfold Q68.f at H
 refine T4 (T2 ?_)
 refine rB (Z4 h0) fun b3 w1 h1=>?_
 refine Ze [1,2,3] rfl ?_
 refine T4 (T2 ?_)
 refine Zc (Zb 1 h1.wht) ?_
 refine Zd 1 ?_
 refine Zc (Zb 0 h1.wht) ?_
 refine cS H [] h1 rfl Q64.spec Zp fun r1 w2 H h2=>?_
 refine Zd 2 ?_
 refine Z7 10 H (fun c1 H=>?_) fun c1 H=>?_
 ·refine Ze [4] rfl ?_
  cases H
  exact T3 (jR0 h2 [1,1])
 refine Zc (Zb 2 h2.wht) ?_
 refine Zd 1 ?_
 refine Zc (Zb 0 h2.wht) ?_
 refine cS H [] h2 rfl Q63.spec Zp fun r2 w3 H h3=>?_
 refine Zd 3 ?_
 refine Z7 17 H (fun c2 H=>?_) fun c2 H=>?_
 ·refine Ze [4] rfl ?_
  cases H
  exact T3 (jR0 h3 [1,1])
 refine Zd 1 ?_
 refine Zc (Zb 0 h3.wht) ?_
 refine Zd 2 ?_
 refine Zc (Zb 1 h3.wht) ?_
 refine Zd 3 ?_
 refine Z7 25 H (fun c3 H=>?_) fun c3 H=>?_
 ·refine Ze [4] rfl ?_
  cases H
  exact T3 (jR0 h3 [1,1])
 refine Zd 1 ?_
 refine Zc (Zb 0 h3.wht) ?_
 refine Zd 1 ?_
 refine Z7 28 H (fun c4 H=>?_) fun c4 H=>?_
 ·refine Zd 1 ?_
  refine Zc (Zb 0 h3.wht) ?_
  refine Ze [4] rfl ?_
  cases H
  exact T3 (jR0 h3 [1,1])
 refine Ze [4] rfl ?_
 cases H
 exact T3 (jR0 h3 [1,1])

def Q102.l0:Nat→Tt→Tr→Tx→Int→Option (Int)
 | 0,_,_,_,_=>none
 | k+1,a0,a2,a3,x1=>if (decide (x1<(a0.length:Int)))=true then (if 0≤x1∧x1<(a0.length:Int) then ((Q68.f (gt a0 x1) a2 a3).bind fun r1=>(if r1=true then (some x1) else (Q102.l0 k a0 a2 a3 (w64 (x1+1))))) else none) else (some (-1))
def Q102.f (k:Nat) (a0:Tt) (a2:Tr) (a3:Tx):Option (Int):=Q102.l0 k a0 a2 a3 0
theorem Q102.spec {k a0 a2 a3 A1 c_1 b1 b2 r} (H:Q102.f k a0 a2 a3=some r) :
  Spec Tryz.prog 230 [.slice A1 a0.length c_1,.func (.func 209) #[] #[.pointer (some ⟨b1,0,none⟩),.pointer (some ⟨b2,0,none⟩)]] [X23 b1 a2.1 a2.2.1 a2.2.2.1 a2.2.2.2.1 a2.2.2.2.2.1 a2.2.2.2.2.2.1 a2.2.2.2.2.2.2.1 a2.2.2.2.2.2.2.2,X92 b2 a3.1 a3.2.1 a3.2.2] [Y5 a0 A1 c_1] (fun v l=>v=.int .i64 r∧l=[X23 b1 a2.1 a2.2.1 a2.2.2.1 a2.2.2.2.1 a2.2.2.2.2.1 a2.2.2.2.2.2.1 a2.2.2.2.2.2.2.1 a2.2.2.2.2.2.2.2,X92 b2 a3.1 a3.2.1 a3.2.2]):=by
 refine Zi Tryz.func230 fun w0 F0 h0=>?_
 unfold Q102.f at H
 refine T4 (Za [0,1] ?_)
 refine T4 (T4 (Za [0,1,7,8] ?_))
 refine TW ?_
 have h4:=(sOR h0 [0,0] [0])
 refine T0 (fun kk env w=>∃ x1,Q102.l0 kk a0 a2 a3 x1=some r∧env=[(0,.slice A1 a0.length c_1),(1,.func (.func 209) #[] #[.pointer (some ⟨b1,0,none⟩),.pointer (some ⟨b2,0,none⟩)]),(7,.int .i64 (a0.length:Int)),(8,.int .i64 x1)]∧St w0 F0 [X23 b1 a2.1 a2.2.1 a2.2.2.1 a2.2.2.2.1 a2.2.2.2.2.1 a2.2.2.2.2.2.1 a2.2.2.2.2.2.2.1 a2.2.2.2.2.2.2.2,X92 b2 a3.1 a3.2.1 a3.2.2] [Y5 a0 A1 c_1] w) (k:=k) ⟨_,H,rfl,h4⟩ ?_
 rintro k1 env w1 ⟨x1,H,rfl,h1⟩
 rcases k1 with _ | k1
 ·exact z0 H
 rw [Q102.l0] at H
 refine T4 (Za [0,1,7,8,9] ?_)
 refine T4 (jIf H (fun c1 H=>?_) fun c1 H=>?_)
 ·refine T5 (T4 (TW (T4 (Za [0,1,5,7,8] ?_))))
  refine T4 (T2 ?_)
  refine Zd 3 ?_
  obtain ⟨⟨p1,p2⟩,H⟩:=Zl H
  have e1:=Zx h1.wh (Zk 2) p1 p2
  refine Zc (Zg e1 p1 p2) ?_
  refine Zc (Zh 0 h1.wht (Zk 2) p1 p2) ?_
  obtain ⟨r1,q1,H⟩:=Ye H
  refine Zv (J5 [.agg #[.string ⟨⟨(gt a0 x1).1⟩⟩,.bool ((gt a0 x1).2.1),.string ⟨⟨(gt a0 x1).2.2⟩⟩]] [.pointer (some ⟨b1,0,none⟩),.pointer (some ⟨b2,0,none⟩)] [0,0] (Q68.spec q1) h1 rfl Zp) ?_
  rintro _ w2 ⟨_,⟨rfl,rfl⟩,h2⟩
  replace h2:=nf h2
  refine Ze [0,1,5,7,8,16] rfl ?_
  refine jIf H (fun c2 H=>?_) fun c2 H=>?_
  ·refine T4 (Za [4] ?_)
   cases H
   exact T3 (jR0 h2 [0,0])
  refine T5 (Za [0,1,7,8] ?_)
  have h3:=(sOR h2 [0,0] [0])
  exact ⟨k1,by omega,_,H,rfl,h3⟩
 refine TZ (T4 (Za [4] ?_))
 cases H
 exact T3 (jR0 h1 [0,0])

def Q96.f (k:Nat) (a0:Tt) (a2:Tr) (a3:Tx):Option (Bool):=(Q102.f k a0 a2 a3).bind fun r1=>(some (decide (0≤r1)))
theorem Q96.spec {k a0 a2 a3 A1 c_1 b1 b2 r} (H:Q96.f k a0 a2 a3=some r) :
  Spec Tryz.prog 208 [.slice A1 a0.length c_1,.func (.func 209) #[] #[.pointer (some ⟨b1,0,none⟩),.pointer (some ⟨b2,0,none⟩)]] [X23 b1 a2.1 a2.2.1 a2.2.2.1 a2.2.2.2.1 a2.2.2.2.2.1 a2.2.2.2.2.2.1 a2.2.2.2.2.2.2.1 a2.2.2.2.2.2.2.2,X92 b2 a3.1 a3.2.1 a3.2.2] [Y5 a0 A1 c_1] (fun v l=>v=.bool r∧l=[X23 b1 a2.1 a2.2.1 a2.2.2.1 a2.2.2.2.1 a2.2.2.2.2.1 a2.2.2.2.2.2.1 a2.2.2.2.2.2.2.1 a2.2.2.2.2.2.2.2,X92 b2 a3.1 a3.2.1 a3.2.2]):=by
 refine Zi Tryz.func208 fun w0 F0 h0=>?_
 unfold Q96.f at H
 refine T4 (Za [0,1] ?_)
 refine T4 (T2 ?_)
 refine Zd 2 ?_
 refine cS H [0,0] h0 rfl Q102.spec (gS [0]) fun r1 w1 H h1=>?_
 refine Ze [4] rfl ?_
 cases H
 exact T3 (jR0 h1 [0,0])

def Q66.f (k:Nat) (a0:Tr) (a1:Tx) (a2:Tp):Option (Bool):=if (decide (40<a2.1))=true then (some false) else (if (decide (0<(a2.2.2.2.2.length:Int)))=true then (some false) else ((Q69.f k a0 a2.2.1).bind fun r1=>(if (!r1)=true then (some false) else (if (!decide ((a2.2.2.1.length:Int)=(w64 ((a2.2.1.length:Int) - 1))))=true then (some false) else ((Q59.f k a2.2.2.1 a1).bind fun r2=>(if (!r2)=true then (some false) else ((Q100.f k a2.2.2.1 a0).bind fun r3=>(if r3=true then (some false) else (if (decide (a0.2.2.2.2.1<(a2.2.2.2.1.length:Int)))=true then (some false) else ((Q12.f k a2.2.2.2.1).bind fun r4=>(if (!r4)=true then (some false) else ((Q96.f k a2.2.2.2.1 a0 a1).bind fun r5=>(some (!r5))))))))))))))
theorem Q66.spec {k a0 a1 a2 A1 c_1 A2 c_2 A3 c_3 A4 c_4 r} (H:Q66.f k a0 a1 a2=some r) :
  Spec Tryz.prog 166 [.agg #[.int .i64 a0.1,.int .i64 a0.2.1,.int .i64 a0.2.2.1,.int .i64 a0.2.2.2.1,.int .i64 a0.2.2.2.2.1,.int .i64 a0.2.2.2.2.2.1,.int .i64 a0.2.2.2.2.2.2.1,.int .i64 a0.2.2.2.2.2.2.2],.agg #[.string ⟨⟨a1.1⟩⟩,.string ⟨⟨a1.2.1⟩⟩,.bool a1.2.2],.agg #[.int .i64 a2.1,.slice A1 a2.2.1.length c_1,.slice A2 a2.2.2.1.length c_2,.slice A3 a2.2.2.2.1.length c_3,.slice A4 a2.2.2.2.2.length c_4]] [] [R33 a2.2.1 A1 c_1,R9 a2.2.2.1 A2 c_2,Y5 a2.2.2.2.1 A3 c_3,Y3 a2.2.2.2.2 A4 c_4] (fun v l=>v=.bool r∧l=[]):=by
 refine Zi Tryz.func166 fun w0 F0 h0=>?_
 unfold Q66.f at H
 refine T4 (T2 ?_)
 refine rB (Z4 h0) fun b1 w1 h1=>?_
 refine rB (Z4 h1) fun b2 w2 h2=>?_
 refine rB (Z4 h2) fun b3 w3 h3=>?_
 refine Ze [3,4,5] rfl ?_
 refine T4 (T4 (T2 ?_))
 refine Zd 1 ?_
 refine Zc (Zb 0 h3.wht) ?_
 refine Zd 2 ?_
 refine Z7 10 H (fun c1 H=>?_) fun c1 H=>?_
 ·refine Ze [3,4,5,39] rfl ?_
  refine Zn ?_
  refine T4 (Za [6] ?_)
  have h4:=sO h3 []
  replace h4:=nf h4
  cases H
  exact T3 (jR0 h4 [])
 refine Zd 1 ?_
 refine Zc (Zb 0 h3.wht) ?_
 refine Zd 4 ?_
 refine Z7 16 H (fun c2 H=>?_) fun c2 H=>?_
 ·refine Ze [3,4,5,39] rfl ?_
  refine Zn ?_
  refine T4 (Za [6] ?_)
  have h5:=sO h3 []
  replace h5:=nf h5
  cases H
  exact T3 (jR0 h5 [])
 refine Zc (Zb 2 h3.wht) ?_
 refine Zd 1 ?_
 refine Zc (Zb 0 h3.wht) ?_
 refine cS H [] h3 rfl Q69.spec (gS [3]) fun r1 w4 H h6=>?_
 refine Zd 3 ?_
 refine Z7 23 H (fun c3 H=>?_) fun c3 H=>?_
 ·refine Ze [3,4,5,39] rfl ?_
  refine Zn ?_
  refine T4 (Za [6] ?_)
  have h7:=sO h6 []
  replace h7:=nf h7
  cases H
  exact T3 (jR0 h7 [])
 refine Zd 1 ?_
 refine Zc (Zb 0 h6.wht) ?_
 refine Zd 2 ?_
 refine Zc (Zb 0 h6.wht) ?_
 refine Zd 5 ?_
 refine Z7 33 H (fun c4 H=>?_) fun c4 H=>?_
 ·refine Ze [3,4,5,39] rfl ?_
  refine Zn ?_
  refine T4 (Za [6] ?_)
  have h8:=sO h6 []
  replace h8:=nf h8
  cases H
  exact T3 (jR0 h8 [])
 refine Zd 1 ?_
 refine Zc (Zb 0 h6.wht) ?_
 refine Zc (Zb 1 h6.wht) ?_
 refine cS H [] h6 rfl Q59.spec (gS [4]) fun r2 w5 H h9=>?_
 refine Ze [3,4,5,39] rfl ?_
 refine jIf H (fun c5 H=>?_) fun c5 H=>?_
 ·refine T4 (Za [6] ?_)
  have h10:=sO h9 []
  replace h10:=nf h10
  cases H
  exact T3 (jR0 h10 [])
 refine T5 (T4 (T4 (T2 ?_)))
 refine Zd 1 ?_
 refine Zc (Zb 0 h9.wht) ?_
 refine Zd 1 ?_
 refine cS H [2] h9 rfl Q100.spec (gS [3]) fun r3 w6 H h11=>?_
 refine Zd 1 ?_
 refine Z7 44 H (fun c6 H=>?_) fun c6 H=>?_
 ·refine Ze [3,4,5,57] rfl ?_
  refine Zn ?_
  refine T4 (Za [6] ?_)
  have h12:=sO h11 []
  replace h12:=nf h12
  cases H
  exact T3 (jR0 h12 [])
 refine Zd 1 ?_
 refine Zc (Zb 1 h11.wht) ?_
 refine Zd 2 ?_
 refine Zc (Zb 0 h11.wht) ?_
 refine Zd 3 ?_
 refine Z7 52 H (fun c7 H=>?_) fun c7 H=>?_
 ·refine Ze [3,4,5,57] rfl ?_
  refine Zn ?_
  refine T4 (Za [6] ?_)
  have h13:=sO h11 []
  replace h13:=nf h13
  cases H
  exact T3 (jR0 h13 [])
 refine Zd 1 ?_
 refine Zc (Zb 1 h11.wht) ?_
 refine cS H [] h11 rfl Q12.spec (gS [5]) fun r4 w7 H h14=>?_
 refine Ze [3,4,5,57] rfl ?_
 refine jIf H (fun c8 H=>?_) fun c8 H=>?_
 ·refine T4 (Za [6] ?_)
  have h15:=sO h14 []
  replace h15:=nf h15
  cases H
  exact T3 (jR0 h15 [])
 refine T5 (T4 (T2 ?_))
 refine Zd 1 ?_
 refine Zc (Zb 1 h14.wht) ?_
 refine Zd 1 ?_
 refine cS H [0,1] h14 rfl Q96.spec (gS [3]) fun r5 w8 H h16=>?_
 refine Ze [6] rfl ?_
 have h17:=sO h16 []
 replace h17:=nf h17
 cases H
 exact T3 (jR0 h17 [])

def Q65.f (k:Nat) (a0:Tr) (a1:Tx) (a2:Tp):Option (Bool):=if (decide (a2.1<0))=true then (some false) else (if (decide (a2.1=0))=true then ((Q70.f k a0 a1 a2).bind fun r1=>(some r1)) else ((Q66.f k a0 a1 a2).bind fun r2=>(some r2)))
theorem Q65.spec {k a0 a1 a2 A1 c_1 A2 c_2 A3 c_3 A4 c_4 r} (H:Q65.f k a0 a1 a2=some r) :
  Spec Tryz.prog 120 [.agg #[.int .i64 a0.1,.int .i64 a0.2.1,.int .i64 a0.2.2.1,.int .i64 a0.2.2.2.1,.int .i64 a0.2.2.2.2.1,.int .i64 a0.2.2.2.2.2.1,.int .i64 a0.2.2.2.2.2.2.1,.int .i64 a0.2.2.2.2.2.2.2],.agg #[.string ⟨⟨a1.1⟩⟩,.string ⟨⟨a1.2.1⟩⟩,.bool a1.2.2],.agg #[.int .i64 a2.1,.slice A1 a2.2.1.length c_1,.slice A2 a2.2.2.1.length c_2,.slice A3 a2.2.2.2.1.length c_3,.slice A4 a2.2.2.2.2.length c_4]] [] [R33 a2.2.1 A1 c_1,R9 a2.2.2.1 A2 c_2,Y5 a2.2.2.2.1 A3 c_3,Y3 a2.2.2.2.2 A4 c_4] (fun v l=>v=.bool r∧l=[]):=by
 refine Zi Tryz.func120 fun w0 F0 h0=>?_
 unfold Q65.f at H
 refine T4 (T2 ?_)
 refine rB (Z4 h0) fun b1 w1 h1=>?_
 refine rB (Z4 h1) fun b2 w2 h2=>?_
 refine rB (Z4 h2) fun b3 w3 h3=>?_
 refine Ze [3,4,5] rfl ?_
 refine T4 (TW (T4 (T2 ?_)))
 refine Zd 1 ?_
 refine Zc (Zb 0 h3.wht) ?_
 refine Ze [3,4,5,7] rfl ?_
 refine jIf H (fun c1 H=>?_) fun c1 H=>?_
 ·refine T4 (Za [6] ?_)
  have h4:=sO h3 []
  replace h4:=nf h4
  cases H
  exact T3 (jR0 h4 [])
 refine T4 (T2 ?_)
 refine Zd 1 ?_
 refine Zc (Zb 0 h3.wht) ?_
 refine Ze [3,4,5,11] rfl ?_
 refine jIf H (fun c2 H=>?_) fun c2 H=>?_
 ·refine T4 (T2 ?_)
  refine Zc (Zb 2 h3.wht) ?_
  refine Zc (Zb 1 h3.wht) ?_
  refine Zc (Zb 0 h3.wht) ?_
  refine cS H [] h3 rfl Q70.spec (gS [3,4,5,6]) fun r1 w4 H h5=>?_
  refine Ze [6] rfl ?_
  have h6:=sO h5 []
  replace h6:=nf h6
  cases H
  exact T3 (jR0 h6 [])
 refine T5 (T4 (T2 ?_))
 refine Zc (Zb 2 h3.wht) ?_
 refine Zc (Zb 1 h3.wht) ?_
 refine Zc (Zb 0 h3.wht) ?_
 refine cS H [] h3 rfl Q66.spec (gS [3,4,5,6]) fun r2 w5 H h7=>?_
 refine Ze [6] rfl ?_
 have h8:=sO h7 []
 replace h8:=nf h8
 cases H
 exact T3 (jR0 h8 [])

def Q93.f (a0:TU):Option TU:=if (([]:List Int).length+a0.length)*1≤140737488355328 then (some (([]:List Int) ++ a0)) else none
theorem Q93.spec {a0 A1 c_1 r} (H:Q93.f a0=some r) :
  Spec Tryz.prog 63 [.slice A1 a0.length c_1] [] [R5 a0 A1 c_1] (fun v l=>∃ A_0 c_0,v=.slice A_0 r.length c_0∧l=[O5 r A_0 c_0]):=by
 refine Zi Tryz.func63 fun w0 F0 h0=>?_
 unfold Q93.f at H
 refine T4 (Za [0] ?_)
 refine T4 (T4 (Za [0,4] ?_))
 refine Zc1 (fun c1=>?_) (fun c1=>?_)
 ·have e1:=h0.nilrow (Zk 0) (by simpa using c1)
  replace H:(some ([]:List Int))=some r:=by rw [e1] at H; simpa using H
  refine T4 (Za [2] ?_)
  have h1:=h0.addNil 5 (.int .u8)
  cases H
  exact T3 (jR ⟨_,_,rfl,rfl⟩ h1 [0])
 refine T5 (T4 (T2 ?_))
 refine rB (Y6 (.int .u8) ([]:List Int) h0) fun b1 w1 h2=>?_
 refine Zd 1 ?_
 obtain ⟨p1,H⟩:=Zl H
 refine Zv (Yq 0 h2 (Zk 0) p1) ?_
 rintro _ w2 ⟨A2,c_2,rfl,h3⟩
 replace h3:=nf h3
 refine Ze [2] rfl ?_
 cases H
 exact T3 (jR ⟨_,_,rfl,rfl⟩ h3 [0])

def Q178.f (a0:Int):Option (Bool):=if (decide (a0=1))=true then (some true) else (if (decide (a0=2))=true then (some true) else (if (decide (a0=4))=true then (some true) else (some (decide (a0=8)))))
theorem Q178.spec {a0 r} (H:Q178.f a0=some r) :
  Spec Tryz.prog 113 [.int .i64 a0] [] [] (fun v l=>v=.bool r∧l=[]):=by
 refine Zi Tryz.func113 fun w0 F0 h0=>?_
 unfold Q178.f at H
 refine T4 (Za [0] ?_)
 refine T4 (T2 ?_)
 refine Zd 3 ?_
 refine Z7 5 H (fun c1 H=>?_) fun c1 H=>?_
 ·refine Ze [2] rfl ?_
  cases H
  exact T3 (jR0 h0 [])
 refine Zd 4 ?_
 refine Z7 9 H (fun c2 H=>?_) fun c2 H=>?_
 ·refine Ze [2] rfl ?_
  cases H
  exact T3 (jR0 h0 [])
 refine Zd 4 ?_
 refine Z7 13 H (fun c3 H=>?_) fun c3 H=>?_
 ·refine Ze [2] rfl ?_
  cases H
  exact T3 (jR0 h0 [])
 refine Ze [2] rfl ?_
 cases H
 exact T3 (jR0 h0 [])

def Q169.l0:Nat→Int→TU→Int→Option TU
 | 0,_,_,_=>none
 | k+1,a2,x1,x2=>if (decide (0≤x2))=true then (if 0≤(w64 (8*x2)) then (if (x1.length+([(IntKind.u8.wrap ((Int.fdiv a2 (2 ^ (min (w64 (8*x2)).toNat 64)))))]:List Int).length)*1≤140737488355328 then (Q169.l0 k a2 (x1 ++ ([(IntKind.u8.wrap ((Int.fdiv a2 (2 ^ (min (w64 (8*x2)).toNat 64)))))]:List Int)) (w64 (x2 - 1))) else none) else none) else (some x1)
def Q169.f (k:Nat) (a0:TU) (a1:Int) (a2:Int):Option TU:=(Q93.f a0).bind fun r1=>((Q178.f a1).bind fun r2=>(if (!r2)=true then (some r1) else (Q169.l0 k a2 r1 (w64 (a1 - 1)))))
theorem Q169.spec {k a0 a1 a2 A1 c_1 r} (H:Q169.f k a0 a1 a2=some r) :
  Spec Tryz.prog 210 [.slice A1 a0.length c_1,.int .i64 a1,.int .u64 a2] [] [R5 a0 A1 c_1] (fun v l=>∃ A_0 c_0,v=.slice A_0 r.length c_0∧l=[O5 r A_0 c_0]):=by
 refine Zi Tryz.func210 fun w0 F0 h0=>?_
 unfold Q169.f at H
 refine T4 (Za [0,1,2] ?_)
 refine T4 (T2 ?_)
 refine Zd 1 ?_
 refine cE H [] h0 rfl Q93.spec (gS [0]) ?_
 rintro r1 w1 _ _ H ⟨A2,c_2,rfl,rfl⟩ h1
 replace h1:=nf h1
 refine Ze [1,2,7] rfl ?_
 refine T4 (T4 (T2 ?_))
 refine Zd 1 ?_
 refine cS H [] h1 rfl Q178.spec Zp fun r2 w2 H h2=>?_
 refine Ze [1,2,7,13] rfl ?_
 refine jIf H (fun c1 H=>?_) fun c1 H=>?_
 ·refine T4 (Za [6] ?_)
  cases H
  exact T3 (jR ⟨_,_,rfl,rfl⟩ h2 [0])
 refine T5 (T4 (T4 (Za [2,7,8] ?_)))
 refine TW ?_
 have h7:=(sOR h2 [0] [])
 refine T0 (fun kk env w=>∃ x1 A3 c_3 x2,Q169.l0 kk a2 x1 x2=some r∧env=[(2,.int .u64 a2),(7,.slice A3 x1.length c_3),(8,.int .i64 x2)]∧St w0 F0 [O5 x1 A3 c_3] [] w) (k:=k) ⟨_,_,_,_,H,rfl,h7⟩ ?_
 rintro k1 env w3 ⟨x1,A3,c_3,x2,H,rfl,h3⟩
 rcases k1 with _ | k1
 ·exact z0 H
 rw [Q169.l0] at H
 refine T4 (T4 (Za [2,7,8,18] ?_))
 refine jIf H (fun c2 H=>?_) fun c2 H=>?_
 ·refine T5 (T4 (TW (T2 ?_)))
  refine Zd 4 ?_
  obtain ⟨p1,H⟩:=Zl H
  refine Zc (Zd6 p1) ?_
  refine Zd 1 ?_
  refine rB (Y6 (.int .u8) ([(IntKind.u8.wrap ((Int.fdiv a2 (2 ^ (min (w64 (8*x2)).toNat 64)))))]:List Int) h3) fun b1 w4 h4=>?_
  obtain ⟨p2,H⟩:=Zl H
  refine Zv (Yq 1 h4 (gO 0) p2) ?_
  rintro _ w5 ⟨A4,c_4,rfl,h5⟩
  replace h5:=nf h5
  refine Ze [2,7,8] rfl ?_
  refine Za [2,7,8] ?_
  have h6:=(sOR h5 [0] [])
  exact ⟨k1,by omega,_,_,_,_,H,rfl,h6⟩
 refine TZ (T4 (Za [6] ?_))
 cases H
 exact T3 (jR ⟨_,_,rfl,rfl⟩ h3 [0])

def Q40.f (k:Nat) (a0:TU) (a1:Int) (a2:Int):Option TU:=(Q169.f k ([]:List Int) a1 a2).bind fun r1=>(if (a0.length+r1.length)*1≤140737488355328 then (some (a0 ++ r1)) else none)
theorem Q40.spec {k a0 a1 a2 A1 c_1 r} (H:Q40.f k a0 a1 a2=some r) :
  Spec Tryz.prog 169 [.slice A1 a0.length c_1,.int .i64 a1,.int .u64 a2] [O5 a0 A1 c_1] [] (fun v l=>∃ A_0 c_0,v=.slice A_0 r.length c_0∧l=[O5 r A_0 c_0]):=by
 refine Zi Tryz.func169 fun w0 F0 h0=>?_
 unfold Q40.f at H
 refine T4 (Za [0,1,2] ?_)
 refine T4 (T2 ?_)
 refine Zd 3 ?_
 have h1:=h0.addNil 5 (.int .u8)
 have h2:=h1.freeze (k:=0) rfl Yz
 refine cE H [] h2 rfl Q169.spec (gS [1]) ?_
 rintro r1 w1 _ _ H ⟨A2,c_2,rfl,rfl⟩ h3
 replace h3:=nf h3
 obtain ⟨p1,H⟩:=Zl H
 refine Zv (Yq 1 h3 (gO 0) p1) ?_
 rintro _ w2 ⟨A3,c_3,rfl,h4⟩
 replace h4:=nf h4
 refine Ze [6] rfl ?_
 cases H
 exact T3 (jR ⟨_,_,rfl,rfl⟩ h4 [0])

def Q39.f (k:Nat) (a0:Int) (a1:Int) (a2:Int) (a3:Int):Option TU:=(Q40.f k ([]:List Int) 1 (IntKind.u64.wrap (a0))).bind fun r1=>((Q40.f k r1 1 (IntKind.u64.wrap (a1))).bind fun r2=>((Q40.f k r2 2 (IntKind.u64.wrap (a2))).bind fun r3=>((Q40.f k r3 2 (IntKind.u64.wrap (a3))).bind fun r4=>((Q40.f k r4 2 0).bind fun r5=>(some r5)))))
theorem Q39.spec {k a0 a1 a2 a3 r} (H:Q39.f k a0 a1 a2 a3=some r) :
  Spec Tryz.prog 167 [.int .i64 a0,.int .i64 a1,.int .i64 a2,.int .i64 a3] [] [] (fun v l=>∃ A_0 c_0,v=.slice A_0 r.length c_0∧l=[O5 r A_0 c_0]):=by
 refine Zi Tryz.func167 fun w0 F0 h0=>?_
 unfold Q39.f at H
 refine T4 (Za [0,1,2,3] ?_)
 refine T4 (T2 ?_)
 refine Zd 2 ?_
 have h1:=h0.addNil 5 (.int .u8)
 refine cE H [0] h1 rfl Q40.spec Zp ?_
 rintro r1 w1 _ _ H ⟨A1,c_1,rfl,rfl⟩ h2
 replace h2:=nf h2
 refine Ze [1,2,3,9] rfl ?_
 refine T4 (T2 ?_)
 refine Zd 3 ?_
 refine cE H [0] h2 rfl Q40.spec Zp ?_
 rintro r2 w2 _ _ H ⟨A2,c_2,rfl,rfl⟩ h3
 replace h3:=nf h3
 refine Ze [2,3,9] rfl ?_
 refine T4 (T2 ?_)
 refine Zd 3 ?_
 refine cE H [0] h3 rfl Q40.spec Zp ?_
 rintro r3 w3 _ _ H ⟨A3,c_3,rfl,rfl⟩ h4
 replace h4:=nf h4
 refine Ze [3,9] rfl ?_
 refine T4 (T2 ?_)
 refine Zd 3 ?_
 refine cE H [0] h4 rfl Q40.spec Zp ?_
 rintro r4 w4 _ _ H ⟨A4,c_4,rfl,rfl⟩ h5
 replace h5:=nf h5
 refine Ze [9] rfl ?_
 refine T4 (T2 ?_)
 refine Zd 1 ?_
 refine cE H [0] h5 rfl Q40.spec Zp ?_
 rintro r5 w5 _ _ H ⟨A5,c_5,rfl,rfl⟩ h6
 replace h6:=nf h6
 refine Ze [8] rfl ?_
 cases H
 exact T3 (jR ⟨_,_,rfl,rfl⟩ h6 [0])

def Q45.f (a0:TU) (a1:TP) (a2:Int):Option TU:=if a0.length+a1.length≤140737488355328 then (if 0≤(w64 (a2 - (a1.length:Int)))∧(((a0 ++ toB a1).length:Int)+(w64 (a2 - (a1.length:Int))))*1≤140737488355328 then (some ((a0 ++ toB a1) ++ List.replicate (w64 (a2 - (a1.length:Int))).toNat 0)) else none) else none
theorem Q45.spec {a0 a1 a2 A1 c_1 r} (H:Q45.f a0 a1 a2=some r) :
  Spec Tryz.prog 170 [.slice A1 a0.length c_1,.string ⟨⟨a1⟩⟩,.int .i64 a2] [O5 a0 A1 c_1] [] (fun v l=>∃ A_0 c_0,v=.slice A_0 r.length c_0∧l=[O5 r A_0 c_0]):=by
 refine Zi Tryz.func170 fun w0 F0 h0=>?_
 unfold Q45.f at H
 refine T4 (Za [0,1,2] ?_)
 refine T4 (T2 ?_)
 refine Zd 2 ?_
 obtain ⟨p1,H⟩:=Zl H
 refine Zv (Zbo 0 h0 p1) ?_
 rintro _ w1 ⟨A2,c_2,rfl,h1⟩
 replace h1:=nf h1
 refine Zd 4 ?_
 obtain ⟨⟨p2,p3⟩,H⟩:=Zl H
 refine Zv (Ul Yj (ty:=(.int .u8)) rfl 0 0 rfl h1 rfl rfl rfl rfl rfl rfl rfl rfl (by decide) (by decide) p2 p3) ?_
 rintro _ w2 ⟨A3,c_3,rfl,h2⟩
 replace h2:=nf h2
 refine Ze [6] rfl ?_
 cases H
 exact T3 (jR ⟨_,_,rfl,rfl⟩ h2 [0])

def Q41.f (k:Nat) (a0:Tr) (a1:TU) (a2:TP) (a3:TP):Option TU:=(Q40.f k a1 1 (IntKind.u64.wrap ((a2.length:Int)))).bind fun r1=>((Q40.f k r1 2 (IntKind.u64.wrap ((a3.length:Int)))).bind fun r2=>((Q45.f r2 a2 a0.2.2.2.2.2.2.1).bind fun r3=>((Q45.f r3 a3 a0.2.2.2.2.2.2.2).bind fun r4=>(some r4))))
theorem Q41.spec {k a0 a1 a2 a3 A1 c_1 r} (H:Q41.f k a0 a1 a2 a3=some r) :
  Spec Tryz.prog 168 [.agg #[.int .i64 a0.1,.int .i64 a0.2.1,.int .i64 a0.2.2.1,.int .i64 a0.2.2.2.1,.int .i64 a0.2.2.2.2.1,.int .i64 a0.2.2.2.2.2.1,.int .i64 a0.2.2.2.2.2.2.1,.int .i64 a0.2.2.2.2.2.2.2],.slice A1 a1.length c_1,.string ⟨⟨a2⟩⟩,.string ⟨⟨a3⟩⟩] [O5 a1 A1 c_1] [] (fun v l=>∃ A_0 c_0,v=.slice A_0 r.length c_0∧l=[O5 r A_0 c_0]):=by
 refine Zi Tryz.func168 fun w0 F0 h0=>?_
 unfold Q41.f at H
 refine T4 (T2 ?_)
 refine rB (Z4 h0) fun b1 w1 h1=>?_
 refine Ze [1,2,3,4] rfl ?_
 refine T4 (T2 ?_)
 refine Zd 4 ?_
 refine cE H [1] h1 rfl Q40.spec Zp ?_
 rintro r1 w2 _ _ H ⟨A2,c_2,rfl,rfl⟩ h2
 replace h2:=nf h2
 refine Ze [1,2,3,4] rfl ?_
 refine T4 (T2 ?_)
 refine Zd 4 ?_
 refine cE H [0] h2 rfl Q40.spec Zp ?_
 rintro r2 w3 _ _ H ⟨A3,c_3,rfl,rfl⟩ h3
 replace h3:=nf h3
 refine Ze [1,2,3,4] rfl ?_
 refine T4 (Zw (sO h3 [1]) ?_)
 have h4:=h3.drew
 refine Zo [0,1,2,5,6] ?_
 refine Zf 3 rfl (Zb 0 wI) ?_
 refine Zf 7 rfl (Zb 0 wI) ?_
 refine cEJ 4 rfl H [0] h4 rfl Q45.spec Zp ?_
 rintro r3 w4 _ _ H ⟨A4,c_4,rfl,rfl⟩ h5
 replace h5:=nf h5
 refine ⟨⟨[_],h5⟩,?_⟩
 refine cEJ 8 rfl H [0] h5 rfl Q45.spec Zp ?_
 rintro r4 w5 _ _ H ⟨A5,c_5,rfl,rfl⟩ h6
 replace h6:=nf h6
 refine ⟨⟨[_],h6⟩,?_⟩
 refine Zo [9] ?_
 refine Zt [8] ?_
 cases H
 exact T3 (jR ⟨_,_,rfl,rfl⟩ h6 [0])

def Q46.l2:Nat→Tr→Tp→TU→Int→Option TU
 | 0,_,_,_,_=>none
 | k+1,a0,a1,x5,x6=>if (decide (x6<(a1.2.2.2.1.length:Int)))=true then (if 0≤x6∧x6<(a1.2.2.2.1.length:Int) then (if (gt a1.2.2.2.1 x6).2.1=true then ((Q40.f k x5 1 2).bind fun r8=>((Q41.f k a0 r8 ((gt a1.2.2.2.1 x6).1) ((gt a1.2.2.2.1 x6).2.2)).bind fun r9=>(Q46.l2 k a0 a1 r9 (w64 (x6+1))))) else ((Q40.f k x5 1 1).bind fun r10=>((Q41.f k a0 r10 ((gt a1.2.2.2.1 x6).1) ((gt a1.2.2.2.1 x6).2.2)).bind fun r11=>(Q46.l2 k a0 a1 r11 (w64 (x6+1)))))) else none) else (some x5)
def Q46.l1:Nat→Tr→Tp→TU→Int→Option TU
 | 0,_,_,_,_=>none
 | k+1,a0,a1,x3,x4=>if (decide (x4<(w64 (a0.2.2.2.1 - 1))))=true then (if (decide (x4<(a1.2.2.1.length:Int)))=true then (if 0≤x4∧x4<(a1.2.2.1.length:Int) then ((Q40.f k x3 1 (IntKind.u64.wrap (((gt a1.2.2.1 x4).length:Int)))).bind fun r4=>((Q45.f r4 (gt a1.2.2.1 x4) a0.2.2.2.2.2.2.1).bind fun r5=>(Q46.l1 k a0 a1 r5 (w64 (x4+1))))) else none) else ((Q40.f k x3 1 (IntKind.u64.wrap ((([]:List UInt8).length:Int)))).bind fun r6=>((Q45.f r6 ([]:List UInt8) a0.2.2.2.2.2.2.1).bind fun r7=>(Q46.l1 k a0 a1 r7 (w64 (x4+1)))))) else (Q46.l2 k a0 a1 x3 0)
def Q46.l0:Nat→Tr→Tp→TU→Int→Option TU
 | 0,_,_,_,_=>none
 | k+1,a0,a1,x1,x2=>if (decide (x2<a0.2.2.2.1))=true then (if (decide (x2<(a1.2.1.length:Int)))=true then (if 0≤x2∧x2<(a1.2.1.length:Int) then ((Q40.f k x1 4 (IntKind.u64.wrap ((gt a1.2.1 x2)))).bind fun r2=>(Q46.l0 k a0 a1 r2 (w64 (x2+1)))) else none) else ((Q40.f k x1 4 0).bind fun r3=>(Q46.l0 k a0 a1 r3 (w64 (x2+1))))) else (Q46.l1 k a0 a1 x1 0)
def Q46.f (k:Nat) (a0:Tr) (a1:Tp):Option TU:=(Q39.f k 2 a1.1 (a1.2.1.length:Int) (a1.2.2.2.1.length:Int)).bind fun r1=>(Q46.l0 k a0 a1 r1 0)
theorem Q46.spec {k a0 a1 A1 c_1 A2 c_2 A3 c_3 A4 c_4 r} (H:Q46.f k a0 a1=some r) :
  Spec Tryz.prog 123 [.agg #[.int .i64 a0.1,.int .i64 a0.2.1,.int .i64 a0.2.2.1,.int .i64 a0.2.2.2.1,.int .i64 a0.2.2.2.2.1,.int .i64 a0.2.2.2.2.2.1,.int .i64 a0.2.2.2.2.2.2.1,.int .i64 a0.2.2.2.2.2.2.2],.agg #[.int .i64 a1.1,.slice A1 a1.2.1.length c_1,.slice A2 a1.2.2.1.length c_2,.slice A3 a1.2.2.2.1.length c_3,.slice A4 a1.2.2.2.2.length c_4]] [] [R33 a1.2.1 A1 c_1,R9 a1.2.2.1 A2 c_2,Y5 a1.2.2.2.1 A3 c_3,Y3 a1.2.2.2.2 A4 c_4] (fun v l=>∃ A_0 c_0,v=.slice A_0 r.length c_0∧l=[O5 r A_0 c_0]):=by
 refine Zi Tryz.func123 fun w0 F0 h0=>?_
 unfold Q46.f at H
 refine T4 (T2 ?_)
 refine rB (Z4 h0) fun b1 w1 h1=>?_
 refine rB (Z4 h1) fun b2 w2 h2=>?_
 refine Ze [2,3] rfl ?_
 refine T4 (T2 ?_)
 refine Zd 1 ?_
 refine Zc (Zb 0 h2.wht) ?_
 refine Zd 1 ?_
 refine Zc (Zb 0 h2.wht) ?_
 refine Zd 2 ?_
 refine Zc (Zb 0 h2.wht) ?_
 refine Zd 1 ?_
 refine cE H [] h2 rfl Q39.spec Zp ?_
 rintro r1 w3 _ _ H ⟨A5,c_5,rfl,rfl⟩ h3
 replace h3:=nf h3
 refine Ze [2,3,5] rfl ?_
 refine T4 (T4 (T2 ?_))
 refine Zd 1 ?_
 refine Zc (Zb 2 h3.wht) ?_
 refine Ze [2,3,5,23,24] rfl ?_
 refine TW ?_
 have h31:=(sOR h3 [2,1,0] [0,1,2,3])
 refine T0 (fun kk env w=>∃ x1 A6 c_6 x2,Q46.l0 kk a0 a1 x1 x2=some r∧env=[(2,.pointer (some ⟨b1,0,none⟩)),(3,.pointer (some ⟨b2,0,none⟩)),(5,.slice A6 x1.length c_6),(23,.int .i64 a0.2.2.2.1),(24,.int .i64 x2)]∧St w0 F0 [X23 b1 a0.1 a0.2.1 a0.2.2.1 a0.2.2.2.1 a0.2.2.2.2.1 a0.2.2.2.2.2.1 a0.2.2.2.2.2.2.1 a0.2.2.2.2.2.2.2,X43 b2 a1.1 a1.2.1 A1 c_1 a1.2.2.1 A2 c_2 a1.2.2.2.1 A3 c_3 a1.2.2.2.2 A4 c_4,O5 x1 A6 c_6] [R33 a1.2.1 A1 c_1,R9 a1.2.2.1 A2 c_2,Y5 a1.2.2.2.1 A3 c_3,Y3 a1.2.2.2.2 A4 c_4] w) (k:=k) ⟨_,_,_,_,H,rfl,h31⟩ ?_
 rintro k1 env w4 ⟨x1,A6,c_6,x2,H,rfl,h4⟩
 rcases k1 with _ | k1
 ·exact z0 H
 rw [Q46.l0] at H
 refine T4 (Za [2,3,5,23,24,25] ?_)
 refine T4 (jIf H (fun c1 H=>?_) fun c1 H=>?_)
 ·refine T5 (T4 (TW (T4 (Za [2,3,5,6,23,24] ?_))))
  refine T4 (Za [2,3,5,6,7,23,24] ?_)
  refine T4 (T4 (T2 ?_))
  refine Zd 2 ?_
  refine Zc (Zb 1 h4.wht) ?_
  refine Ze [2,3,5,6,7,23,24,31] rfl ?_
  refine jIf H (fun c2 H=>?_) fun c2 H=>?_
  ·refine T2 (Zd 1 ?_)
   refine Zc (Zb 1 h4.wht) ?_
   refine Zd 1 ?_
   obtain ⟨⟨p1,p2⟩,H⟩:=Zl H
   have e1:=Zx h4.wh (Zk 3) p1 p2
   refine Zc (Zg e1 p1 p2) ?_
   refine Zc (Zh 0 h4.wht (Zk 3) p1 p2) ?_
   refine Ze [2,3,5,7,23,24] rfl ?_
   refine T2 (Zd 3 ?_)
   refine cE H [2] h4 rfl Q40.spec Zp ?_
   rintro r2 w5 _ _ H ⟨A7,c_7,rfl,rfl⟩ h5
   replace h5:=nf h5
   refine Ze [2,3,5,23,24] rfl ?_
   refine Za [2,3,5,23,24] ?_
   have h6:=(sOR h5 [1,1,0] [0,1,2,3])
   exact ⟨k1,by omega,_,_,_,_,H,rfl,h6⟩
  refine T5 (T2 (Zd 3 ?_))
  refine cE H [2] h4 rfl Q40.spec Zp ?_
  rintro r3 w6 _ _ H ⟨A8,c_8,rfl,rfl⟩ h7
  replace h7:=nf h7
  refine Ze [2,3,5,23,24] rfl ?_
  refine Za [2,3,5,23,24] ?_
  have h8:=(sOR h7 [1,1,0] [0,1,2,3])
  exact ⟨k1,by omega,_,_,_,_,H,rfl,h8⟩
 refine TZ (T4 (T4 (T2 ?_)))
 refine Zd 1 ?_
 refine Zc (Zb 0 h4.wht) ?_
 refine Ze [2,3,5,44,45] rfl ?_
 refine TW ?_
 have h30:=(sOR h4 [0,0,0] [0,1,2,3])
 refine T0 (fun kk env w=>∃ x3 A9 c_9 x4,Q46.l1 kk a0 a1 x3 x4=some r∧env=[(2,.pointer (some ⟨b1,0,none⟩)),(3,.pointer (some ⟨b2,0,none⟩)),(5,.slice A9 x3.length c_9),(44,.int .i64 (w64 (a0.2.2.2.1 - 1))),(45,.int .i64 x4)]∧St w0 F0 [X23 b1 a0.1 a0.2.1 a0.2.2.1 a0.2.2.2.1 a0.2.2.2.2.1 a0.2.2.2.2.2.1 a0.2.2.2.2.2.2.1 a0.2.2.2.2.2.2.2,X43 b2 a1.1 a1.2.1 A1 c_1 a1.2.2.1 A2 c_2 a1.2.2.2.1 A3 c_3 a1.2.2.2.2 A4 c_4,O5 x3 A9 c_9] [R33 a1.2.1 A1 c_1,R9 a1.2.2.1 A2 c_2,Y5 a1.2.2.2.1 A3 c_3,Y3 a1.2.2.2.2 A4 c_4] w) (k:=k1) ⟨_,_,_,_,H,rfl,h30⟩ ?_
 rintro k2 env w7 ⟨x3,A9,c_9,x4,H,rfl,h9⟩
 rcases k2 with _ | k2
 ·exact z0 H
 rw [Q46.l1] at H
 refine T4 (Za [2,3,5,44,45,46] ?_)
 refine T4 (jIf H (fun c3 H=>?_) fun c3 H=>?_)
 ·refine T5 (T4 (TW (T4 (Za [2,3,5,8,44,45] ?_))))
  refine T4 (Za [2,3,5,8,9,44,45] ?_)
  refine T4 (T4 (T2 ?_))
  refine Zd 2 ?_
  refine Zc (Zb 1 h9.wht) ?_
  refine Ze [2,3,5,8,9,44,45,52] rfl ?_
  refine jIf H (fun c4 H=>?_) fun c4 H=>?_
  ·refine T2 (Zd 1 ?_)
   refine Zc (Zb 1 h9.wht) ?_
   refine Zd 1 ?_
   obtain ⟨⟨p3,p4⟩,H⟩:=Zl H
   have e2:=Zx h9.wh (Zk 4) p3 p4
   refine Zc (Zg e2 p3 p4) ?_
   refine Zc (Zh 0 h9.wht (Zk 4) p3 p4) ?_
   refine Ze [2,3,5,9,44,45] rfl ?_
   refine Zw (sO h9 [0,0]) ?_
   have h10:=h9.drew
   refine Zo [0,1,2,3,5,6] ?_
   refine Zf 7 rfl (Zb 0 wI) ?_
   refine cEJ 4 rfl H [2] h10 rfl Q40.spec Zp ?_
   rintro r4 w8 _ _ H ⟨A10,c_10,rfl,rfl⟩ h11
   replace h11:=nf h11
   refine ⟨⟨[_],h11⟩,?_⟩
   refine cEJ 8 rfl H [0] h11 rfl Q45.spec Zp ?_
   rintro r5 w9 _ _ H ⟨A11,c_11,rfl,rfl⟩ h12
   replace h12:=nf h12
   refine ⟨⟨[_],h12⟩,?_⟩
   refine Zo [9] ?_
   refine Zt [2,3,5,44,45] ?_
   refine Za [2,3,5,44,45] ?_
   have h13:=(sOR h12 [1,1,0] [0,1,2,3])
   exact ⟨k2,by omega,_,_,_,_,H,rfl,h13⟩
  refine T5 (Zw (sO h9 [0,0]) ?_)
  have h14:=h9.drew
  refine Zo [0,1,2,3,5,6] ?_
  refine Zf 7 rfl (Zb 0 wI) ?_
  refine cEJ 4 rfl H [2] h14 rfl Q40.spec Zp ?_
  rintro r6 w10 _ _ H ⟨A12,c_12,rfl,rfl⟩ h15
  replace h15:=nf h15
  refine ⟨⟨[_],h15⟩,?_⟩
  refine cEJ 8 rfl H [0] h15 rfl Q45.spec Zp ?_
  rintro r7 w11 _ _ H ⟨A13,c_13,rfl,rfl⟩ h16
  replace h16:=nf h16
  refine ⟨⟨[_],h16⟩,?_⟩
  refine Zo [9] ?_
  refine Zt [2,3,5,44,45] ?_
  refine Za [2,3,5,44,45] ?_
  have h17:=(sOR h16 [1,1,0] [0,1,2,3])
  exact ⟨k2,by omega,_,_,_,_,H,rfl,h17⟩
 refine TZ (T4 (T4 (T2 ?_)))
 refine Zd 1 ?_
 refine Zc (Zb 1 h9.wht) ?_
 refine Ze [2,5,69,70,71] rfl ?_
 refine TW ?_
 have h29:=(sOR h9 [0,1] [2])
 refine T0 (fun kk env w=>∃ x5 A14 c_14 x6,Q46.l2 kk a0 a1 x5 x6=some r∧env=[(2,.pointer (some ⟨b1,0,none⟩)),(5,.slice A14 x5.length c_14),(69,.slice A3 a1.2.2.2.1.length c_3),(70,.int .i64 (a1.2.2.2.1.length:Int)),(71,.int .i64 x6)]∧St w0 F0 [X23 b1 a0.1 a0.2.1 a0.2.2.1 a0.2.2.2.1 a0.2.2.2.2.1 a0.2.2.2.2.2.1 a0.2.2.2.2.2.2.1 a0.2.2.2.2.2.2.2,O5 x5 A14 c_14] [Y5 a1.2.2.2.1 A3 c_3] w) (k:=k2) ⟨_,_,_,_,H,rfl,h29⟩ ?_
 rintro k3 env w12 ⟨x5,A14,c_14,x6,H,rfl,h18⟩
 rcases k3 with _ | k3
 ·exact z0 H
 rw [Q46.l2] at H
 refine T4 (Za [2,5,69,70,71,72] ?_)
 refine T4 (jIf H (fun c5 H=>?_) fun c5 H=>?_)
 ·refine T5 (T4 (TW (T4 (T2 ?_))))
  obtain ⟨⟨p5,p6⟩,H⟩:=Zl H
  have e3:=Zx h18.wh (Zk 2) p5 p6
  refine Zc (Zg e3 p5 p6) ?_
  refine Zc (Zh 0 h18.wht (Zk 2) p5 p6) ?_
  refine rB (Yp h18) fun b3 w13 h19=>?_
  refine rS (Zs 0 h19) fun _ w14 h20=>?_
  refine Ze [2,5,11,69,70,71] rfl ?_
  refine T4 (Za [2,5,11,12,69,70,71] ?_)
  refine T4 (T4 (T2 ?_))
  refine Zd 1 ?_
  refine Zc (Zb 0 h20.wht) ?_
  refine Ze [2,5,11,12,69,70,71,76] rfl ?_
  refine jIf H (fun c6 H=>?_) fun c6 H=>?_
  ·refine Za [2,5,11,12,69,70,71] ?_
   refine Zw (sO h20 [0,0]) ?_
   have h21:=h20.drew
   refine Zo [1,2,4,6] ?_
   refine Zf 0 rfl (Zb 1 wI) ?_
   refine Zf 5 rfl (Zb 0 wI) ?_
   refine Zf 7 rfl (Zb 0 wI) ?_
   refine cEJ 3 rfl H [2] h21 rfl Q40.spec Zp ?_
   rintro r8 w15 _ _ H ⟨A15,c_15,rfl,rfl⟩ h22
   replace h22:=nf h22
   refine ⟨⟨[_],h22⟩,?_⟩
   refine cEJ 8 rfl H [0] h22 rfl Q41.spec Zp ?_
   rintro r9 w16 _ _ H ⟨A16,c_16,rfl,rfl⟩ h23
   replace h23:=nf h23
   refine ⟨⟨[_],h23⟩,?_⟩
   refine Zo [9] ?_
   refine Zt [2,5,69,70,71] ?_
   refine Za [2,5,69,70,71] ?_
   have h24:=(sOR h23 [2,0] [0])
   exact ⟨k3,by omega,_,_,_,_,H,rfl,h24⟩
  refine T5 (Zw (sO h20 [0,0]) ?_)
  have h25:=h20.drew
  refine Zo [1,2,4,6] ?_
  refine Zf 0 rfl (Zb 1 wI) ?_
  refine Zf 5 rfl (Zb 0 wI) ?_
  refine Zf 7 rfl (Zb 0 wI) ?_
  refine cEJ 3 rfl H [2] h25 rfl Q40.spec Zp ?_
  rintro r10 w17 _ _ H ⟨A17,c_17,rfl,rfl⟩ h26
  replace h26:=nf h26
  refine ⟨⟨[_],h26⟩,?_⟩
  refine cEJ 8 rfl H [0] h26 rfl Q41.spec Zp ?_
  rintro r11 w18 _ _ H ⟨A18,c_18,rfl,rfl⟩ h27
  replace h27:=nf h27
  refine ⟨⟨[_],h27⟩,?_⟩
  refine Zo [9] ?_
  refine Zt [2,5,69,70,71] ?_
  refine Za [2,5,69,70,71] ?_
  have h28:=(sOR h27 [2,0] [0])
  exact ⟨k3,by omega,_,_,_,_,H,rfl,h28⟩
 refine TZ (T4 (Za [4] ?_))
 cases H
 exact T3 (jR ⟨_,_,rfl,rfl⟩ h18 [1])

def Q47.l0:Nat→Tr→Tp→TU→Int→Option TU
 | 0,_,_,_,_=>none
 | k+1,a0,a1,x1,x2=>if (decide (x2<(a1.2.2.2.2.length:Int)))=true then (if 0≤x2∧x2<(a1.2.2.2.2.length:Int) then ((Q41.f k a0 x1 ((gt a1.2.2.2.2 x2).1) ((gt a1.2.2.2.2 x2).2)).bind fun r2=>(Q47.l0 k a0 a1 r2 (w64 (x2+1)))) else none) else (some x1)
def Q47.f (k:Nat) (a0:Tr) (a1:Tp):Option TU:=(Q39.f k 1 0 (a1.2.2.2.2.length:Int) 0).bind fun r1=>(Q47.l0 k a0 a1 r1 0)
theorem Q47.spec {k a0 a1 A1 c_1 A2 c_2 A3 c_3 A4 c_4 r} (H:Q47.f k a0 a1=some r) :
  Spec Tryz.prog 122 [.agg #[.int .i64 a0.1,.int .i64 a0.2.1,.int .i64 a0.2.2.1,.int .i64 a0.2.2.2.1,.int .i64 a0.2.2.2.2.1,.int .i64 a0.2.2.2.2.2.1,.int .i64 a0.2.2.2.2.2.2.1,.int .i64 a0.2.2.2.2.2.2.2],.agg #[.int .i64 a1.1,.slice A1 a1.2.1.length c_1,.slice A2 a1.2.2.1.length c_2,.slice A3 a1.2.2.2.1.length c_3,.slice A4 a1.2.2.2.2.length c_4]] [] [R33 a1.2.1 A1 c_1,R9 a1.2.2.1 A2 c_2,Y5 a1.2.2.2.1 A3 c_3,Y3 a1.2.2.2.2 A4 c_4] (fun v l=>∃ A_0 c_0,v=.slice A_0 r.length c_0∧l=[O5 r A_0 c_0]):=by
 refine Zi Tryz.func122 fun w0 F0 h0=>?_
 unfold Q47.f at H
 refine T4 (T2 ?_)
 refine rB (Z4 h0) fun b1 w1 h1=>?_
 refine rB (Z4 h1) fun b2 w2 h2=>?_
 refine Ze [2,3] rfl ?_
 refine T4 (T2 ?_)
 refine Zd 1 ?_
 refine Zc (Zb 0 h2.wht) ?_
 refine Zd 1 ?_
 refine cE H [] h2 rfl Q39.spec Zp ?_
 rintro r1 w3 _ _ H ⟨A5,c_5,rfl,rfl⟩ h3
 replace h3:=nf h3
 refine Ze [2,3,5] rfl ?_
 refine T4 (T4 (T2 ?_))
 refine Zd 1 ?_
 refine Zc (Zb 1 h3.wht) ?_
 refine Ze [2,5,13,14,15] rfl ?_
 refine TW ?_
 have h9:=(sOR h3 [2,0] [3])
 refine T0 (fun kk env w=>∃ x1 A6 c_6 x2,Q47.l0 kk a0 a1 x1 x2=some r∧env=[(2,.pointer (some ⟨b1,0,none⟩)),(5,.slice A6 x1.length c_6),(13,.slice A4 a1.2.2.2.2.length c_4),(14,.int .i64 (a1.2.2.2.2.length:Int)),(15,.int .i64 x2)]∧St w0 F0 [X23 b1 a0.1 a0.2.1 a0.2.2.1 a0.2.2.2.1 a0.2.2.2.2.1 a0.2.2.2.2.2.1 a0.2.2.2.2.2.2.1 a0.2.2.2.2.2.2.2,O5 x1 A6 c_6] [Y3 a1.2.2.2.2 A4 c_4] w) (k:=k) ⟨_,_,_,_,H,rfl,h9⟩ ?_
 rintro k1 env w4 ⟨x1,A6,c_6,x2,H,rfl,h4⟩
 rcases k1 with _ | k1
 ·exact z0 H
 rw [Q47.l0] at H
 refine T4 (Za [2,5,13,14,15,16] ?_)
 refine T4 (jIf H (fun c1 H=>?_) fun c1 H=>?_)
 ·refine T5 (T4 (TW (T4 (T2 ?_))))
  obtain ⟨⟨p1,p2⟩,H⟩:=Zl H
  have e1:=Zx h4.wh (Zk 2) p1 p2
  refine Zc (Zg e1 p1 p2) ?_
  refine Zc (Zh 0 h4.wht (Zk 2) p1 p2) ?_
  refine rB (Yp h4) fun b3 w5 h5=>?_
  refine rS (Zs 0 h5) fun _ w6 h6=>?_
  refine Ze [2,5,7,13,14,15] rfl ?_
  refine T2 (Zc (Zb 1 h6.wht) ?_)
  refine Zd 2 ?_
  refine Zc (Zb 0 h6.wht) ?_
  refine Zd 1 ?_
  refine Zc (Zb 0 h6.wht) ?_
  refine cE H [2] h6 rfl Q41.spec Zp ?_
  rintro r2 w7 _ _ H ⟨A7,c_7,rfl,rfl⟩ h7
  replace h7:=nf h7
  refine Ze [2,5,13,14,15] rfl ?_
  refine Za [2,5,13,14,15] ?_
  have h8:=(sOR h7 [2,0] [0])
  exact ⟨k1,by omega,_,_,_,_,H,rfl,h8⟩
 refine TZ (T4 (Za [4] ?_))
 cases H
 exact T3 (jR ⟨_,_,rfl,rfl⟩ h4 [1])

def Q38.f (k:Nat) (a0:Tr) (a1:Tp):Option TN:=(Q48.f a0).bind fun r1=>(if (!decide (r1=0))=true then (some (([]:List Int),r1)) else ((Q61.f).bind fun r2=>((Q65.f k a0 r2 a1).bind fun r3=>(if (!r3)=true then (some (([]:List Int),3)) else (if (decide (0<a1.1))=true then ((Q46.f k a0 a1).bind fun r4=>(if 0≤(w64 (a0.2.1 - (r4.length:Int)))∧((r4.length:Int)+(w64 (a0.2.1 - (r4.length:Int))))*1≤140737488355328 then (some ((r4 ++ List.replicate (w64 (a0.2.1 - (r4.length:Int))).toNat 0),0)) else none)) else ((Q47.f k a0 a1).bind fun r5=>(if 0≤(w64 (a0.2.1 - (r5.length:Int)))∧((r5.length:Int)+(w64 (a0.2.1 - (r5.length:Int))))*1≤140737488355328 then (some ((r5 ++ List.replicate (w64 (a0.2.1 - (r5.length:Int))).toNat 0),0)) else none)))))))
theorem Q38.spec {k a0 a1 A1 c_1 A2 c_2 A3 c_3 A4 c_4 r} (H:Q38.f k a0 a1=some r) :
  Spec Tryz.prog 71 [.agg #[.int .i64 a0.1,.int .i64 a0.2.1,.int .i64 a0.2.2.1,.int .i64 a0.2.2.2.1,.int .i64 a0.2.2.2.2.1,.int .i64 a0.2.2.2.2.2.1,.int .i64 a0.2.2.2.2.2.2.1,.int .i64 a0.2.2.2.2.2.2.2],.agg #[.int .i64 a1.1,.slice A1 a1.2.1.length c_1,.slice A2 a1.2.2.1.length c_2,.slice A3 a1.2.2.2.1.length c_3,.slice A4 a1.2.2.2.2.length c_4]] [] [R33 a1.2.1 A1 c_1,R9 a1.2.2.1 A2 c_2,Y5 a1.2.2.2.1 A3 c_3,Y3 a1.2.2.2.2 A4 c_4] (fun v l=>∃ A_0 c_0,v=.tuple #[.slice A_0 r.1.length c_0,.int .i64 r.2]∧l=[O5 r.1 A_0 c_0]):=by
 refine Zi Tryz.func71 fun w0 F0 h0=>?_
 unfold Q38.f at H
 refine T4 (T2 ?_)
 refine rB (Z4 h0) fun b1 w1 h1=>?_
 refine rB (Z4 h1) fun b2 w2 h2=>?_
 refine Ze [2,3] rfl ?_
 refine T4 (T4 (T2 ?_))
 refine Zc (Zb 1 h2.wht) ?_
 refine cS H [] h2 rfl Q48.spec Zp fun r1 w3 H h3=>?_
 refine Ze [2,3,6] rfl ?_
 refine T4 (Za [2,3,6,12] ?_)
 refine jIf H (fun c1 H=>?_) fun c1 H=>?_
 ·refine T4 (Za [4,5] ?_)
  have h4:=sO h3 []
  replace h4:=nf h4
  have h5:=h4.addNil 5 (.int .u8)
  cases H
  exact T3 (jR ⟨_,_,rfl,rfl⟩ h5 [0])
 refine T5 (T4 (T4 ?_))
 refine jH h3 fun h6=>?_
 refine Zf 0 rfl (Zb 1 wI) ?_
 refine Zf 2 rfl (Zb 0 wI) ?_
 refine cSJ 1 rfl H [] h6 rfl Q61.spec Zp 0 fun r2 w4 H h7=>?_
 refine cSJ 3 rfl H [] h7 rfl Q65.spec (gS [2,3,4,5]) 0 fun r3 w5 H h8=>?_
 refine Zo [4] ?_
 refine Zt [2,3,18] ?_
 refine jIf H (fun c2 H=>?_) fun c2 H=>?_
 ·refine T4 (Za [4,5] ?_)
  have h9:=sO h8 []
  replace h9:=nf h9
  have h10:=h9.addNil 5 (.int .u8)
  cases H
  exact T3 (jR ⟨_,_,rfl,rfl⟩ h10 [0])
 refine T5 (T4 (Za [2,3,7] ?_))
 refine T4 (T4 (T2 ?_))
 refine Zd 1 ?_
 refine Zc (Zb 0 h8.wht) ?_
 refine Ze [2,3,7,21] rfl ?_
 refine jIf H (fun c3 H=>?_) fun c3 H=>?_
 ·refine Za [2,3,7] ?_
  refine T4 (T2 ?_)
  refine Zd 1 ?_
  refine Zc (Zb 1 h8.wht) ?_
  refine Zc (Zb 0 h8.wht) ?_
  refine cE H [] h8 rfl Q46.spec (gS [2,3,4,5]) ?_
  rintro r4 w6 _ _ H ⟨A5,c_5,rfl,rfl⟩ h11
  replace h11:=nf h11
  refine Ze [2,8] rfl ?_
  refine T4 (T2 ?_)
  refine Zd 2 ?_
  refine Zc (Zb 2 h11.wht) ?_
  refine Zd 3 ?_
  obtain ⟨⟨p1,p2⟩,H⟩:=Zl H
  refine Zv (Ul Yj (ty:=(.int .u8)) rfl 0 0 rfl h11 rfl rfl rfl rfl rfl rfl rfl rfl (by decide) (by decide) p1 p2) ?_
  rintro _ w7 ⟨A6,c_6,rfl,h12⟩
  replace h12:=nf h12
  refine Ze [4,5] rfl ?_
  have h13:=sO h12 [0]
  replace h13:=nf h13
  cases H
  exact T3 (jR ⟨_,_,rfl,rfl⟩ h13 [0])
 refine T5 (T4 (T2 ?_))
 refine Zd 1 ?_
 refine Zc (Zb 1 h8.wht) ?_
 refine Zc (Zb 0 h8.wht) ?_
 refine cE H [] h8 rfl Q47.spec (gS [2,3,4,5]) ?_
 rintro r5 w8 _ _ H ⟨A7,c_7,rfl,rfl⟩ h14
 replace h14:=nf h14
 refine Ze [2,8] rfl ?_
 refine T4 (T2 ?_)
 refine Zd 2 ?_
 refine Zc (Zb 2 h14.wht) ?_
 refine Zd 3 ?_
 obtain ⟨⟨p3,p4⟩,H⟩:=Zl H
 refine Zv (Ul Yj (ty:=(.int .u8)) rfl 0 0 rfl h14 rfl rfl rfl rfl rfl rfl rfl rfl (by decide) (by decide) p3 p4) ?_
 rintro _ w9 ⟨A8,c_8,rfl,h15⟩
 replace h15:=nf h15
 refine Ze [4,5] rfl ?_
 have h16:=sO h15 [0]
 replace h16:=nf h16
 cases H
 exact T3 (jR ⟨_,_,rfl,rfl⟩ h16 [0])

def Q79.f (a0:TE):Option (Bool):=some false
theorem Q79.spec {a0 b1 b2 A1 c_1 r} (H:Q79.f a0=some r) :
  Spec Tryz.prog 130 [.pointer (some ⟨b1,0,none⟩)] (Ui a0 b1 b2 A1 c_1) [] (fun v l=>v=.bool r∧l=Ui a0 b1 b2 A1 c_1):=by
 refine Zi Tryz.func130 fun w0 F0 h0=>?_
 replace h0:=nf h0
 unfold Q79.f at H
 refine T4 (Za [0] ?_)
 refine T4 (T2 ?_)
 refine Zd 6 ?_
 refine Zc (Zb 0 h0.wht) ?_
 refine Ze [2] rfl ?_
 cases H
 exact T3 (jR0 h0 [0,0,0])

def Q4.f (a0:TG):Option (Int):=some a0.2.1
theorem Q4.spec {a0 b1 A1 c_1 r} (H:Q4.f a0=some r) :
  Spec Tryz.prog 132 [.pointer (some ⟨b1,0,none⟩)] (W8 a0 b1 A1 c_1) [] (fun v l=>v=.int .i64 r∧l=W8 a0 b1 A1 c_1):=by
 refine Zi Tryz.func132 fun w0 F0 h0=>?_
 replace h0:=nf h0
 unfold Q4.f at H
 refine T4 (Za [0] ?_)
 refine T4 (T4 (Za [0,4] ?_))
 refine Z5 ?_
 refine T5 (T4 (T2 ?_))
 refine Zd 3 ?_
 refine Zc (Zb 0 h0.wht) ?_
 refine Ze [2] rfl ?_
 cases H
 exact T3 (jR0 h0 [0,0])

def Q73.f (a0:TE):Option (Int):=(Q79.f a0).bind fun r1=>(if r1=true then (some 0) else ((Q7.f a0).bind fun r2=>((Q4.f a0).bind fun r3=>(some (w64 (r2 - r3))))))
theorem Q73.spec {a0 b1 b2 A1 c_1 r} (H:Q73.f a0=some r) :
  Spec Tryz.prog 81 [.pointer (some ⟨b1,0,none⟩)] (Ui a0 b1 b2 A1 c_1) [] (fun v l=>v=.int .i64 r∧l=Ui a0 b1 b2 A1 c_1):=by
 refine Zi Tryz.func81 fun w0 F0 h0=>?_
 replace h0:=nf h0
 unfold Q73.f at H
 refine T4 (Za [0] ?_)
 refine T4 (T4 (T2 ?_))
 refine Zd 1 ?_
 refine cS H [0,0,0] h0 rfl Q79.spec Zp fun r1 w1 H h1=>?_
 refine Ze [0,4] rfl ?_
 refine jIf H (fun c1 H=>?_) fun c1 H=>?_
 ·refine T4 (Za [2] ?_)
  cases H
  exact T3 (jR0 h1 [0,0,0])
 refine T5 (T4 (jH h1 fun h2=>?_))
 refine Zo [0,1,2,5,6,7] ?_
 refine Zf 3 rfl (Zb 0 wI) ?_
 refine Zf 8 rfl (Zb 0 wI) ?_
 refine cEJ 4 rfl H [1,1] h2 rfl Q7.spec Zp ?_
 rintro r2 w2 _ _ H ⟨rfl,rfl⟩ h3
 replace h3:=nf h3
 refine ⟨⟨[],(sO h3 [2,0,0])⟩,?_⟩
 refine cEJ 9 rfl H [0,0] h3 rfl Q4.spec Zp ?_
 rintro r3 w3 _ _ H ⟨rfl,rfl⟩ h4
 replace h4:=nf h4
 refine ⟨⟨[],(sO h4 [2,0,0])⟩,?_⟩
 refine Zo [10,11] ?_
 refine Zt [2] ?_
 cases H
 exact T3 (jR0 h4 [2,0,0])

def Q9.l0:Nat→TG→Int→Int→Int→Option TQ
 | 0,_,_,_,_=>none
 | k+1,a0,a1,a2,x1=>if (decide (x1<(a0.2.2.length:Int)))=true then (if 0≤x1∧x1<(a0.2.2.length:Int) then (if (decide (x1=(w64 (Int.tdiv (if a1>0 then a1 else 0) 64))))=true then (if 0≤(Int.tmod (if a1>0 then a1 else 0) 64) then (if (decide ((IntKind.u64.wrap (((BitVec.ofInt IntKind.u64.bits (IntKind.u64.wrap (((BitVec.ofInt IntKind.u64.bits (gt a0.2.2 x1) ^^^ (BitVec.ofInt IntKind.u64.bits a2)).toNat:Int))) &&& (BitVec.ofInt IntKind.u64.bits (IntKind.u64.wrap ((18446744073709551615:Int)*2 ^ (min (Int.tmod (if a1>0 then a1 else 0) 64).toNat 64))))).toNat:Int)))=0))=true then (Q9.l0 k a0 a1 a2 (w64 (x1+1))) else (if 0≤(IntKind.u64.wrap (((BitVec.ofInt IntKind.u64.bits (IntKind.u64.wrap (((BitVec.ofInt IntKind.u64.bits (gt a0.2.2 x1) ^^^ (BitVec.ofInt IntKind.u64.bits a2)).toNat:Int))) &&& (BitVec.ofInt IntKind.u64.bits (IntKind.u64.wrap ((18446744073709551615:Int)*2 ^ (min (Int.tmod (if a1>0 then a1 else 0) 64).toNat 64))))).toNat:Int)))∧(IntKind.u64.wrap (((BitVec.ofInt IntKind.u64.bits (IntKind.u64.wrap (((BitVec.ofInt IntKind.u64.bits (gt a0.2.2 x1) ^^^ (BitVec.ofInt IntKind.u64.bits a2)).toNat:Int))) &&& (BitVec.ofInt IntKind.u64.bits (IntKind.u64.wrap ((18446744073709551615:Int)*2 ^ (min (Int.tmod (if a1>0 then a1 else 0) 64).toNat 64))))).toNat:Int)))<18446744073709551616 then (some ((w64 ((w64 (x1*64))+(tzI (IntKind.u64.wrap (((BitVec.ofInt IntKind.u64.bits (IntKind.u64.wrap (((BitVec.ofInt IntKind.u64.bits (gt a0.2.2 x1) ^^^ (BitVec.ofInt IntKind.u64.bits a2)).toNat:Int))) &&& (BitVec.ofInt IntKind.u64.bits (IntKind.u64.wrap ((18446744073709551615:Int)*2 ^ (min (Int.tmod (if a1>0 then a1 else 0) 64).toNat 64))))).toNat:Int)))))),(decide ((w64 ((w64 (x1*64))+(tzI (IntKind.u64.wrap (((BitVec.ofInt IntKind.u64.bits (IntKind.u64.wrap (((BitVec.ofInt IntKind.u64.bits (gt a0.2.2 x1) ^^^ (BitVec.ofInt IntKind.u64.bits a2)).toNat:Int))) &&& (BitVec.ofInt IntKind.u64.bits (IntKind.u64.wrap ((18446744073709551615:Int)*2 ^ (min (Int.tmod (if a1>0 then a1 else 0) 64).toNat 64))))).toNat:Int))))))<a0.1)))) else none)) else none) else (if (decide ((IntKind.u64.wrap (((BitVec.ofInt IntKind.u64.bits (gt a0.2.2 x1) ^^^ (BitVec.ofInt IntKind.u64.bits a2)).toNat:Int)))=0))=true then (Q9.l0 k a0 a1 a2 (w64 (x1+1))) else (if 0≤(IntKind.u64.wrap (((BitVec.ofInt IntKind.u64.bits (gt a0.2.2 x1) ^^^ (BitVec.ofInt IntKind.u64.bits a2)).toNat:Int)))∧(IntKind.u64.wrap (((BitVec.ofInt IntKind.u64.bits (gt a0.2.2 x1) ^^^ (BitVec.ofInt IntKind.u64.bits a2)).toNat:Int)))<18446744073709551616 then (some ((w64 ((w64 (x1*64))+(tzI (IntKind.u64.wrap (((BitVec.ofInt IntKind.u64.bits (gt a0.2.2 x1) ^^^ (BitVec.ofInt IntKind.u64.bits a2)).toNat:Int)))))),(decide ((w64 ((w64 (x1*64))+(tzI (IntKind.u64.wrap (((BitVec.ofInt IntKind.u64.bits (gt a0.2.2 x1) ^^^ (BitVec.ofInt IntKind.u64.bits a2)).toNat:Int))))))<a0.1)))) else none))) else none) else (some (0,false))
def Q9.f (k:Nat) (a0:TG) (a1:Int) (a2:Int):Option TQ:=Q9.l0 k a0 a1 a2 (w64 (Int.tdiv (if a1>0 then a1 else 0) 64))
theorem Q9.spec {k a0 a1 a2 b1 A1 c_1 r} (H:Q9.f k a0 a1 a2=some r) :
  Spec Tryz.prog 177 [.pointer (some ⟨b1,0,none⟩),.int .i64 a1,.int .u64 a2] (W8 a0 b1 A1 c_1) [tabC 0] (fun v l=>v=.tuple #[.int .i64 r.1,.bool r.2]∧l=W8 a0 b1 A1 c_1):=by
 refine Zi Tryz.func177 fun w0 F0 h0=>?_
 replace h0:=nf h0
 unfold Q9.f at H
 refine T4 (Za [0,1,2] ?_)
 refine T4 (Za [0,1,2] ?_)
 refine T4 (T4 (Za [0,1,2,8] ?_))
 refine TW ?_
 have h8:=(sOR h0 [0,0] [0])
 refine T0 (fun kk env w=>∃ x1,Q9.l0 kk a0 a1 a2 x1=some r∧env=[(0,.pointer (some ⟨b1,0,none⟩)),(1,.int .i64 (if a1>0 then a1 else 0)),(2,.int .u64 a2),(8,.int .i64 x1)]∧St w0 F0 [W6 b1 a0.1 a0.2.1 a0.2.2 A1 c_1,O61 a0.2.2 A1 c_1] [tabC 0] w) (k:=k) ⟨_,H,rfl,h8⟩ ?_
 rintro k1 env w1 ⟨x1,H,rfl,h1⟩
 rcases k1 with _ | k1
 ·exact z0 H
 rw [Q9.l0] at H
 refine T4 (T4 (T2 ?_))
 refine Zd 4 ?_
 refine Zc (Zb 0 h1.wht) ?_
 refine Ze [0,1,2,8,21] rfl ?_
 refine jIf H (fun c1 H=>?_) fun c1 H=>?_
 ·refine T5 (T4 (TW (T4 (T2 ?_))))
  refine Zd 3 ?_
  refine Zc (Zb 0 h1.wht) ?_
  refine Zd 1 ?_
  obtain ⟨⟨p1,p2⟩,H⟩:=Zl H
  have e1:=Zx h1.wh (gO 1) p1 p2
  refine Zc (Zg e1 p1 p2) ?_
  refine Zc (Zh 0 h1.wht (gO 1) p1 p2) ?_
  refine Ze [0,1,2,8,9] rfl ?_
  refine T4 (T4 (Za [0,1,2,8,9,36] ?_))
  refine jIf H (fun c2 H=>?_) fun c2 H=>?_
  ·refine T2 (Zd 3 ?_)
   obtain ⟨p3,H⟩:=Zl H
   refine Zc (Gc p3) ?_
   refine Ze [0,1,2,8,9] rfl ?_
   refine T4 (T4 (Za [0,1,2,8,9,43] ?_))
   refine jIf H (fun c3 H=>?_) fun c3 H=>?_
   ·refine TZ (Za [0,1,2,8] ?_)
    have h2:=(sOR h1 [0,0] [0])
    exact ⟨k1,by omega,_,H,rfl,h2⟩
   refine T5 (T4 (T2 ?_))
   refine Zd 3 ?_
   obtain ⟨⟨p4,p5⟩,H⟩:=Zl H
   refine Zv (Xk [] (tz64.spec p4 p5) h1 rfl (gS [2])) ?_
   rintro _ w2 ⟨_,⟨rfl,rfl⟩,h3⟩
   replace h3:=nf h3
   refine Ze [0,10] rfl ?_
   refine T4 (jH h3 fun h4=>?_)
   refine Zo [0,1,2,3,4,7] ?_
   refine Zf 5 rfl (Zb 0 wI) ?_
   refine Zo [6,8] ?_
   refine Zt [6,7] ?_
   cases H
   exact T3 (jR0 h4 [0,0])
  refine T5 (T4 (T4 (Za [0,1,2,8,9,43] ?_)))
  refine jIf H (fun c4 H=>?_) fun c4 H=>?_
  ·refine TZ (Za [0,1,2,8] ?_)
   have h5:=(sOR h1 [0,0] [0])
   exact ⟨k1,by omega,_,H,rfl,h5⟩
  refine T5 (T4 (T2 ?_))
  refine Zd 3 ?_
  obtain ⟨⟨p6,p7⟩,H⟩:=Zl H
  refine Zv (Xk [] (tz64.spec p6 p7) h1 rfl (gS [2])) ?_
  rintro _ w3 ⟨_,⟨rfl,rfl⟩,h6⟩
  replace h6:=nf h6
  refine Ze [0,10] rfl ?_
  refine T4 (jH h6 fun h7=>?_)
  refine Zo [0,1,2,3,4,7] ?_
  refine Zf 5 rfl (Zb 0 wI) ?_
  refine Zo [6,8] ?_
  refine Zt [6,7] ?_
  cases H
  exact T3 (jR0 h7 [0,0])
 refine TZ (T4 (Za [6,7] ?_))
 cases H
 exact T3 (jR0 h1 [0,0])

def Q11.f (a0:Int) (a1:Bool):Option TQ:=if (!a1)=true then (some (0,false)) else (some (a0,true))
theorem Q11.spec {a0 a1 r} (H:Q11.f a0 a1=some r) :
  Spec Tryz.prog 176 [.int .i64 a0,.bool a1] [] [] (fun v l=>v=.tuple #[.int .i64 r.1,.bool r.2]∧l=[]):=by
 refine Zi Tryz.func176 fun w0 F0 h0=>?_
 unfold Q11.f at H
 refine T4 (Za [0,1] ?_)
 refine T4 (T4 (Za [0,7] ?_))
 refine jIf H (fun c1 H=>?_) fun c1 H=>?_
 ·refine T4 (Za [4,5] ?_)
  cases H
  exact T3 (jR0 h0 [])
 refine T5 (T4 (Za [4,5] ?_))
 cases H
 exact T3 (jR0 h0 [])

def Q5.f (k:Nat) (a0:TG) (a1:Int):Option TQ:=(Q7.f a0).bind fun r1=>(if (decide (r1≤a1))=true then (some (0,false)) else ((Q9.f k a0 a1 18446744073709551615).bind fun r2=>((Q11.f r2.1 r2.2).bind fun r3=>(some r3))))
theorem Q5.spec {k a0 a1 b1 A1 c_1 r} (H:Q5.f k a0 a1=some r) :
  Spec Tryz.prog 179 [.pointer (some ⟨b1,0,none⟩),.int .i64 a1] (W8 a0 b1 A1 c_1) [tabC 0] (fun v l=>v=.tuple #[.int .i64 r.1,.bool r.2]∧l=W8 a0 b1 A1 c_1):=by
 refine Zi Tryz.func179 fun w0 F0 h0=>?_
 replace h0:=nf h0
 unfold Q5.f at H
 refine T4 (Za [0,1] ?_)
 refine T4 (T4 (T2 ?_))
 refine Zd 2 ?_
 refine cS H [0,0] h0 rfl Q7.spec Zp fun r1 w1 H h1=>?_
 refine Ze [0,1,9] rfl ?_
 refine jIf H (fun c1 H=>?_) fun c1 H=>?_
 ·refine T4 (Za [4,5] ?_)
  cases H
  exact T3 (jR0 h1 [0,0])
 refine T5 (T4 (T2 ?_))
 refine Zd 2 ?_
 refine cS H [0,0] h1 rfl Q9.spec (gS [0]) fun r2 w2 H h2=>?_
 refine Zd 2 ?_
 refine cS H [] h2 rfl Q11.spec Zp fun r3 w3 H h3=>?_
 refine Ze [4,5] rfl ?_
 cases H
 exact T3 (jR0 h3 [0,0])

def Q75.l0:Nat→Int→Int→Int→TU→TU→Int→Int→Option Ts
 | 0,_,_,_,_,_,_,_=>none
 | k+1,a1,x1,x2,x3,x4,x5,x6=>if (decide (x6<a1))=true then ((Q5.f k (x1,x2,x3) x5).bind fun r3=>((Q8.f (x1,x2,x3) r3.1).bind fun r4=>(if (x4.length+([(IntKind.u32.wrap (r3.1))]:List Int).length)*4≤140737488355328 then (Q75.l0 k a1 r4.2.1 r4.2.2.1 r4.2.2.2 (x4 ++ ([(IntKind.u32.wrap (r3.1))]:List Int)) (w64 (r3.1+1)) (w64 (x6+1))) else none))) else (some (x4,0,(x1,x2,x3)))
def Q75.f (k:Nat) (a0:TE) (a1:Int):Option Ts:=(Q79.f a0).bind fun r1=>(if r1=true then (some (([]:List Int),1,a0)) else (if (decide (a1<0))=true then (some (([]:List Int),2,a0)) else ((Q73.f a0).bind fun r2=>(if (decide (r2<a1))=true then (some (([]:List Int),11,a0)) else (Q75.l0 k a1 a0.1 a0.2.1 a0.2.2 ([]:List Int) 0 0)))))
theorem Q75.spec {k a0 a1 b1 b2 A1 c_1 r} (H:Q75.f k a0 a1=some r) :
  Spec Tryz.prog 138 [.pointer (some ⟨b1,0,none⟩),.int .i64 a1] (Ui a0 b1 b2 A1 c_1) [tabC 0] (fun v l=>∃ A_0 c_0 A_1 c_1,v=.tuple #[.slice A_0 r.1.length c_0,.int .i64 r.2.1]∧l=[O33 r.1 A_0 c_0] ++ Ui r.2.2 b1 b2 A_1 c_1):=by
 refine Zi Tryz.func138 fun w0 F0 h0=>?_
 replace h0:=nf h0
 unfold Q75.f at H
 refine T4 (Za [0,1] ?_)
 refine T4 (TW (T4 (T2 ?_)))
 refine Zd 1 ?_
 refine cS H [0,0,0] h0 rfl Q79.spec Zp fun r1 w1 H h1=>?_
 refine Ze [0,1,10] rfl ?_
 refine jIf H (fun c1 H=>?_) fun c1 H=>?_
 ·refine T4 (Za [4,5] ?_)
  have h2:=h1.addNil 33 (.int .u32)
  cases H
  exact T3 (jR ⟨_,_,_,_,rfl,rfl⟩ h2 [0,0,0,0])
 refine T4 (Za [0,1,13] ?_)
 refine jIf H (fun c2 H=>?_) fun c2 H=>?_
 ·refine T4 (Za [4,5] ?_)
  have h3:=h1.addNil 33 (.int .u32)
  cases H
  exact T3 (jR ⟨_,_,_,_,rfl,rfl⟩ h3 [0,0,0,0])
 refine T4 (T2 ?_)
 refine Zd 2 ?_
 refine cS H [0,0,0] h1 rfl Q73.spec Zp fun r2 w2 H h4=>?_
 refine Ze [0,1,16] rfl ?_
 refine jIf H (fun c3 H=>?_) fun c3 H=>?_
 ·refine T4 (Za [4,5] ?_)
  have h5:=h4.addNil 33 (.int .u32)
  cases H
  exact T3 (jR ⟨_,_,_,_,rfl,rfl⟩ h5 [0,0,0,0])
 refine T5 (T4 (Za [0,1,6] ?_))
 refine T4 (Za [0,1,6,7] ?_)
 refine T4 (T4 (Za [0,6,7,21,22] ?_))
 refine TW ?_
 have h12:=h4.addNil 33 (.int .u32)
 have h13:=(sOR h12 [1,1,1,0] [0])
 refine T0 (fun kk env w=>∃ x1 x2 x3 A2 c_2 x4 A3 c_3 x5 x6,Q75.l0 kk a1 x1 x2 x3 x4 x5 x6=some r∧env=[(0,.pointer (some ⟨b1,0,none⟩)),(6,.slice A3 x4.length c_3),(7,.int .i64 x5),(21,.int .i64 a1),(22,.int .i64 x6)]∧St w0 F0 [Zaw b1 (.pointer (some ⟨b2,0,none⟩)),W6 b2 x1 x2 x3 A2 c_2,O61 x3 A2 c_2,O33 x4 A3 c_3] [tabC 0] w) (k:=k) ⟨_,_,_,_,_,_,_,_,_,_,H,rfl,h13⟩ ?_
 rintro k1 env w3 ⟨x1,x2,x3,A2,c_2,x4,A3,c_3,x5,x6,H,rfl,h6⟩
 rcases k1 with _ | k1
 ·exact z0 H
 rw [Q75.l0] at H
 refine T4 (Za [0,6,7,21,22,23] ?_)
 refine T4 (jIf H (fun c4 H=>?_) fun c4 H=>?_)
 ·refine T5 (T4 (TW (T4 (T2 ?_))))
  refine Zd 3 ?_
  refine Zc (Zb 0 h6.wht) ?_
  refine Zd 1 ?_
  refine cS H [1,1] h6 rfl Q5.spec (gS [2]) fun r3 w4 H h7=>?_
  refine Ze [0,6,8,21,22] rfl ?_
  refine T4 (T2 ?_)
  refine Zd 3 ?_
  refine Zc (Zb 2 h7.wht) ?_
  refine Zd 1 ?_
  refine cE H [0,0] h7 rfl Q8.spec Zp ?_
  rintro r4 w5 _ _ H ⟨A4,c_4,rfl,rfl⟩ h8
  replace h8:=nf h8
  refine Ze [0,6,8,21,22] rfl ?_
  refine T4 (T2 ?_)
  refine Zd 3 ?_
  refine rB (Y6 (.int .u32) ([(IntKind.u32.wrap (r3.1))]:List Int) h8) fun b3 w6 h9=>?_
  obtain ⟨p1,H⟩:=Zl H
  refine Zv (Yq 4 h9 (gO 0) p1) ?_
  rintro _ w7 ⟨A5,c_5,rfl,h10⟩
  replace h10:=nf h10
  refine Ze [0,6,8,21,22] rfl ?_
  refine Za [0,6,7,21,22] ?_
  refine Za [0,6,7,21,22] ?_
  have h11:=(sOR h10 [4,2,2,0] [0])
  exact ⟨k1,by omega,_,_,_,_,_,_,_,_,_,_,H,rfl,h11⟩
 refine TZ (T4 (Za [4,5] ?_))
 cases H
 exact T3 (jR ⟨_,_,_,_,rfl,rfl⟩ h6 [3,0,0,0])

def Q78.f (k:Nat) (a0:TE):Option (Int×Int×TE):=(Q75.f k a0 1).bind fun r1=>(if (!decide (r1.2.1=0))=true then (some (0,r1.2.1,r1.2.2)) else (if 0<(r1.1.length:Int) then (some ((gt r1.1 0),0,r1.2.2)) else none))
theorem Q78.spec {k a0 b1 b2 A1 c_1 r} (H:Q78.f k a0=some r) :
  Spec Tryz.prog 91 [.pointer (some ⟨b1,0,none⟩)] (Ui a0 b1 b2 A1 c_1) [tabC 0] (fun v l=>∃ A_0 c_0,v=.tuple #[.int .u32 r.1,.int .i64 r.2.1]∧l=Ui r.2.2 b1 b2 A_0 c_0):=by
 refine Zi Tryz.func91 fun w0 F0 h0=>?_
 replace h0:=nf h0
 unfold Q78.f at H
 refine T4 (Za [0] ?_)
 refine T4 (T2 ?_)
 refine Zd 1 ?_
 refine cE H [0,0,0] h0 rfl Q75.spec (gS [0]) ?_
 rintro r1 w1 _ _ H ⟨A2,c_2,A3,c_3,rfl,rfl⟩ h1
 replace h1:=nf h1
 refine Ze [4,5] rfl ?_
 refine T4 (T4 (Za [4,5,12] ?_))
 refine jIf H (fun c1 H=>?_) fun c1 H=>?_
 ·refine T4 (Za [2,3] ?_)
  cases H
  exact T3 (jR ⟨_,_,rfl,rfl⟩ h1 [1,1,1])
 refine T5 (T4 (T2 ?_))
 refine Zd 1 ?_
 obtain ⟨p1,H⟩:=Zl H
 have e1:=Jo h1.wh (gO 0) p1
 refine Zc (V4 e1 p1) ?_
 refine Zc (Vp 0 h1.wht (gO 0) p1) ?_
 refine Ze [2,3] rfl ?_
 cases H
 exact T3 (jR ⟨_,_,rfl,rfl⟩ h1 [1,1,1])

def Q23.f (a0:Ti):Option (Bool):=some false
theorem Q23.spec {a0 b1 b2 b3 b4 A1 c_1 A2 c_2 A3 c_3 A4 c_4 r} (H:Q23.f a0=some r) :
  Spec Tryz.prog 108 [.pointer (some ⟨b1,0,none⟩)] (Wf a0 b1 b2 b3 b4 A1 A2 A3 A4 c_1 c_2 c_3 c_4) [] (fun v l=>v=.bool r∧l=Wf a0 b1 b2 b3 b4 A1 A2 A3 A4 c_1 c_2 c_3 c_4):=by
 refine Zi Tryz.func108 fun w0 F0 h0=>?_
 replace h0:=nf h0
 unfold Q23.f at H
 refine T4 (Za [0] ?_)
 refine T4 (T2 ?_)
 refine Zd 6 ?_
 refine Zc (Zb 0 h0.wht) ?_
 refine Ze [2] rfl ?_
 cases H
 exact T3 (jR0 h0 [0,0,0,0,0,0,0,0])

def Q21.f (a0:Ti) (a1:Int) (a2:TU):Option Th:=(Q23.f a0).bind fun r1=>(if r1=true then (some (1,a0)) else (if (!(Y1 a0.2.2.1 a1))=true then (some (8,a0)) else (if 0≤(Zq (0:Int) a0.2.2.1 a1)∧(Zq (0:Int) a0.2.2.1 a1)<(a0.2.1.length:Int) then (if (decide (((gt a0.2.1 (Zq (0:Int) a0.2.2.1 a1)).2.2.2)=0))=true then (some (8,a0)) else ((Q54.f a0.1).bind fun r2=>(if (!decide ((a2.length:Int)=r2))=true then (some (3,a0)) else ((Q93.f a2).bind fun r3=>(some (0,(a0.1,((a0.2.1.set (Zq (0:Int) a0.2.2.1 a1).toNat ((gt a0.2.1 (Zq (0:Int) a0.2.2.1 a1)).1,r3,(gt a0.2.1 (Zq (0:Int) a0.2.2.1 a1)).2.2.1,(gt a0.2.1 (Zq (0:Int) a0.2.2.1 a1)).2.2.2)).set (Zq (0:Int) a0.2.2.1 a1).toNat ((gt (a0.2.1.set (Zq (0:Int) a0.2.2.1 a1).toNat ((gt a0.2.1 (Zq (0:Int) a0.2.2.1 a1)).1,r3,(gt a0.2.1 (Zq (0:Int) a0.2.2.1 a1)).2.2.1,(gt a0.2.1 (Zq (0:Int) a0.2.2.1 a1)).2.2.2)) (Zq (0:Int) a0.2.2.1 a1)).1,(gt (a0.2.1.set (Zq (0:Int) a0.2.2.1 a1).toNat ((gt a0.2.1 (Zq (0:Int) a0.2.2.1 a1)).1,r3,(gt a0.2.1 (Zq (0:Int) a0.2.2.1 a1)).2.2.1,(gt a0.2.1 (Zq (0:Int) a0.2.2.1 a1)).2.2.2)) (Zq (0:Int) a0.2.2.1 a1)).2.1,true,(gt (a0.2.1.set (Zq (0:Int) a0.2.2.1 a1).toNat ((gt a0.2.1 (Zq (0:Int) a0.2.2.1 a1)).1,r3,(gt a0.2.1 (Zq (0:Int) a0.2.2.1 a1)).2.2.1,(gt a0.2.1 (Zq (0:Int) a0.2.2.1 a1)).2.2.2)) (Zq (0:Int) a0.2.2.1 a1)).2.2.2)),a0.2.2.1,a0.2.2.2.1,a0.2.2.2.2))))))) else none)))
theorem Q21.spec {a0 a1 a2 A5 c_5 b1 b2 b3 b4 A1 c_1 A2 c_2 A3 c_3 A4 c_4 r} (H:Q21.f a0 a1 a2=some r) :
  Spec Tryz.prog 139 [.pointer (some ⟨b1,0,none⟩),.int .u32 a1,.slice A5 a2.length c_5] (Wf a0 b1 b2 b3 b4 A1 A2 A3 A4 c_1 c_2 c_3 c_4) [R5 a2 A5 c_5] (fun v l=>∃ A_0 c_0 A_1 c_1 A_2 c_2 A_3 c_3,v=.int .i64 r.1∧l=Wf r.2 b1 b2 b3 b4 A_0 A_1 A_2 A_3 c_0 c_1 c_2 c_3):=by
 refine Zi Tryz.func139 fun w0 F0 h0=>?_
 replace h0:=nf h0
 unfold Q21.f at H
 refine T4 (Za [0,1,2] ?_)
 refine T4 (T2 ?_)
 refine Zd 2 ?_
 refine Yg Tryz.func128 ?_
 refine T4 (Za [0,1] ?_)
 refine T4 (T4 (T2 ?_))
 refine Zd 1 ?_
 refine cS H [0,0,0,0,0,0,0,0] h0 rfl Q23.spec Zp fun r1 w1 H h1=>?_
 refine Ze [0,1,9] rfl ?_
 refine jIf H (fun c1 H=>?_) fun c1 H=>?_
 ·refine T4 (Za [4,5] ?_)
  refine T3 (⟨_,Zj,?_⟩)
  refine Ze [0,2,7,8] rfl ?_
  refine T4 (TW (T4 (Za [0,2,7,8,15] ?_)))
  refine Zn ?_
  refine T4 (Za [6] ?_)
  cases H
  exact T3 (jR ⟨_,_,_,_,_,_,_,_,rfl,rfl⟩ h1 [0,0,0,0,0,0,0,0])
 refine T5 (T4 (T2 ?_))
 refine Zd 3 ?_
 refine Zc (Zb 0 h1.wht) ?_
 refine Zd 1 ?_
 refine Zc (Wa (0:Int) 4 h1.wht) ?_
 refine Ze [0,6,7] rfl ?_
 refine T4 (T4 (T2 ?_))
 refine Zd 3 ?_
 refine Z7 21 H (fun c2 H=>?_) fun c2 H=>?_
 ·refine Ze [0,6,31] rfl ?_
  refine Zn ?_
  refine T4 (Za [4,5] ?_)
  refine T3 (⟨_,Zj,?_⟩)
  refine Ze [0,2,7,8] rfl ?_
  refine T4 (TW (T4 (Za [0,2,7,8,15] ?_)))
  refine Zn ?_
  refine T4 (Za [6] ?_)
  cases H
  exact T3 (jR ⟨_,_,_,_,_,_,_,_,rfl,rfl⟩ h1 [0,0,0,0,0,0,0,0])
 refine Zd 3 ?_
 refine Zc (Zb 0 h1.wht) ?_
 refine Zd 1 ?_
 obtain ⟨⟨p1,p2⟩,H⟩:=Zl H
 have e1:=Zx h1.wh (gO 3) p1 p2
 refine Zc (Zg e1 p1 p2) ?_
 refine Zd 1 ?_
 refine Zc (Yn 3 h1.wht (gO 3) p1 p2) ?_
 refine Ze [0,6,31] rfl ?_
 refine jIf H (fun c3 H=>?_) fun c3 H=>?_
 ·refine T4 (Za [4,5] ?_)
  refine T3 (⟨_,Zj,?_⟩)
  refine Ze [0,2,7,8] rfl ?_
  refine T4 (TW (T4 (Za [0,2,7,8,15] ?_)))
  refine Zn ?_
  refine T4 (Za [6] ?_)
  cases H
  exact T3 (jR ⟨_,_,_,_,_,_,_,_,rfl,rfl⟩ h1 [0,0,0,0,0,0,0,0])
 refine T5 (T4 (T2 ?_))
 refine Zd 3 ?_
 refine Zc (Zb 0 h1.wht) ?_
 refine Zd 1 ?_
 refine Zc (Zg e1 p1 p2) ?_
 refine Ze [4,5] rfl ?_
 refine T3 (⟨_,Zj,?_⟩)
 refine Ze [0,2,7,8] rfl ?_
 refine T4 (TW (T4 (Za [0,2,7,8,15] ?_)))
 refine Z5 ?_
 refine T4 (T2 ?_)
 refine Zd 5 ?_
 refine Zc (Zb 0 h1.wht) ?_
 refine cS H [1,1] h1 rfl Q54.spec Zp fun r2 w2 H h2=>?_
 refine Ze [2,7,19] rfl ?_
 refine jIf H (fun c4 H=>?_) fun c4 H=>?_
 ·refine T4 (Za [6] ?_)
  cases H
  exact T3 (jR ⟨_,_,_,_,_,_,_,_,rfl,rfl⟩ h2 [2,0,0,0,0,0,0,0])
 refine T5 (T4 (T2 ?_))
 refine Zd 3 ?_
 refine cE H [] h2 rfl Q93.spec (gS [8]) ?_
 rintro r3 w3 _ _ H ⟨A6,c_6,rfl,rfl⟩ h3
 replace h3:=nf h3
 refine Zd 2 ?_
 have h4:=(h3.only [4,0,0,0,0,0,0,0,0] rfl).both
 refine rS (Vg 1 (.pair (.int .u32) (.pair (.slice 5 (.int .u8)) (.pair .bool (.int .i64)))) (Zq (0:Int) a0.2.2.1 a1) ((gt a0.2.1 (Zq (0:Int) a0.2.2.1 a1)).1,r3,(gt a0.2.1 (Zq (0:Int) a0.2.2.1 a1)).2.2.1,(gt a0.2.1 (Zq (0:Int) a0.2.2.1 a1)).2.2.2) h4 p1 p2 Zoj) fun _ w4 h5=>?_
 replace h5:St w0 F0 [Xm (a0.2.1.set (Zq (0:Int) a0.2.2.1 a1).toNat ((gt a0.2.1 (Zq (0:Int) a0.2.2.1 a1)).1,r3,(gt a0.2.1 (Zq (0:Int) a0.2.2.1 a1)).2.2.1,(gt a0.2.1 (Zq (0:Int) a0.2.2.1 a1)).2.2.2)) A2 c_2,Xf b2 a0.1.1 a0.1.2.1 A1 c_1 a0.1.2.2.1 a0.1.2.2.2,O5 a0.1.2.1 A1 c_1,Xp b1 (.pointer (some ⟨b2,0,none⟩)) (a0.2.1.set (Zq (0:Int) a0.2.2.1 a1).toNat ((gt a0.2.1 (Zq (0:Int) a0.2.2.1 a1)).1,r3,(gt a0.2.1 (Zq (0:Int) a0.2.2.1 a1)).2.2.1,(gt a0.2.1 (Zq (0:Int) a0.2.2.1 a1)).2.2.2)) A2 c_2 (.map (some b3)) a0.2.2.2.1 A3 c_3 (.pointer (some ⟨b4,0,none⟩)),Y2 .u32 (Value.int .i64) b3 a0.2.2.1,O3 a0.2.2.2.1 A3 c_3,Yx b4 a0.2.2.2.2.1 A4 c_4 a0.2.2.2.2.2,Yy a0.2.2.2.2.1 A4 c_4] _ _:=h5.retell (by simp only [List.length_set,List.length_nil,Xm,Yy,O3,O5,Xf,Xp,Yx] <;> rfl)
 refine Zd 2 ?_
 refine rS (Wd 2 (.pair (.int .u32) (.pair (.slice 5 (.int .u8)) (.pair .bool (.int .i64)))) (Zq (0:Int) a0.2.2.1 a1) ((gt (a0.2.1.set (Zq (0:Int) a0.2.2.1 a1).toNat ((gt a0.2.1 (Zq (0:Int) a0.2.2.1 a1)).1,r3,(gt a0.2.1 (Zq (0:Int) a0.2.2.1 a1)).2.2.1,(gt a0.2.1 (Zq (0:Int) a0.2.2.1 a1)).2.2.2)) (Zq (0:Int) a0.2.2.1 a1)).1,(gt (a0.2.1.set (Zq (0:Int) a0.2.2.1 a1).toNat ((gt a0.2.1 (Zq (0:Int) a0.2.2.1 a1)).1,r3,(gt a0.2.1 (Zq (0:Int) a0.2.2.1 a1)).2.2.1,(gt a0.2.1 (Zq (0:Int) a0.2.2.1 a1)).2.2.2)) (Zq (0:Int) a0.2.2.1 a1)).2.1,true,(gt (a0.2.1.set (Zq (0:Int) a0.2.2.1 a1).toNat ((gt a0.2.1 (Zq (0:Int) a0.2.2.1 a1)).1,r3,(gt a0.2.1 (Zq (0:Int) a0.2.2.1 a1)).2.2.1,(gt a0.2.1 (Zq (0:Int) a0.2.2.1 a1)).2.2.2)) (Zq (0:Int) a0.2.2.1 a1)).2.2.2) 0 h5 rfl p1 (by simpa only [List.length_set] using p2) (Ju rfl rfl)) fun _ w5 h6=>?_
 replace h6:St w0 F0 [Xm ((a0.2.1.set (Zq (0:Int) a0.2.2.1 a1).toNat ((gt a0.2.1 (Zq (0:Int) a0.2.2.1 a1)).1,r3,(gt a0.2.1 (Zq (0:Int) a0.2.2.1 a1)).2.2.1,(gt a0.2.1 (Zq (0:Int) a0.2.2.1 a1)).2.2.2)).set (Zq (0:Int) a0.2.2.1 a1).toNat ((gt (a0.2.1.set (Zq (0:Int) a0.2.2.1 a1).toNat ((gt a0.2.1 (Zq (0:Int) a0.2.2.1 a1)).1,r3,(gt a0.2.1 (Zq (0:Int) a0.2.2.1 a1)).2.2.1,(gt a0.2.1 (Zq (0:Int) a0.2.2.1 a1)).2.2.2)) (Zq (0:Int) a0.2.2.1 a1)).1,(gt (a0.2.1.set (Zq (0:Int) a0.2.2.1 a1).toNat ((gt a0.2.1 (Zq (0:Int) a0.2.2.1 a1)).1,r3,(gt a0.2.1 (Zq (0:Int) a0.2.2.1 a1)).2.2.1,(gt a0.2.1 (Zq (0:Int) a0.2.2.1 a1)).2.2.2)) (Zq (0:Int) a0.2.2.1 a1)).2.1,true,(gt (a0.2.1.set (Zq (0:Int) a0.2.2.1 a1).toNat ((gt a0.2.1 (Zq (0:Int) a0.2.2.1 a1)).1,r3,(gt a0.2.1 (Zq (0:Int) a0.2.2.1 a1)).2.2.1,(gt a0.2.1 (Zq (0:Int) a0.2.2.1 a1)).2.2.2)) (Zq (0:Int) a0.2.2.1 a1)).2.2.2)) A2 c_2,Xf b2 a0.1.1 a0.1.2.1 A1 c_1 a0.1.2.2.1 a0.1.2.2.2,O5 a0.1.2.1 A1 c_1,Xp b1 (.pointer (some ⟨b2,0,none⟩)) ((a0.2.1.set (Zq (0:Int) a0.2.2.1 a1).toNat ((gt a0.2.1 (Zq (0:Int) a0.2.2.1 a1)).1,r3,(gt a0.2.1 (Zq (0:Int) a0.2.2.1 a1)).2.2.1,(gt a0.2.1 (Zq (0:Int) a0.2.2.1 a1)).2.2.2)).set (Zq (0:Int) a0.2.2.1 a1).toNat ((gt (a0.2.1.set (Zq (0:Int) a0.2.2.1 a1).toNat ((gt a0.2.1 (Zq (0:Int) a0.2.2.1 a1)).1,r3,(gt a0.2.1 (Zq (0:Int) a0.2.2.1 a1)).2.2.1,(gt a0.2.1 (Zq (0:Int) a0.2.2.1 a1)).2.2.2)) (Zq (0:Int) a0.2.2.1 a1)).1,(gt (a0.2.1.set (Zq (0:Int) a0.2.2.1 a1).toNat ((gt a0.2.1 (Zq (0:Int) a0.2.2.1 a1)).1,r3,(gt a0.2.1 (Zq (0:Int) a0.2.2.1 a1)).2.2.1,(gt a0.2.1 (Zq (0:Int) a0.2.2.1 a1)).2.2.2)) (Zq (0:Int) a0.2.2.1 a1)).2.1,true,(gt (a0.2.1.set (Zq (0:Int) a0.2.2.1 a1).toNat ((gt a0.2.1 (Zq (0:Int) a0.2.2.1 a1)).1,r3,(gt a0.2.1 (Zq (0:Int) a0.2.2.1 a1)).2.2.1,(gt a0.2.1 (Zq (0:Int) a0.2.2.1 a1)).2.2.2)) (Zq (0:Int) a0.2.2.1 a1)).2.2.2)) A2 c_2 (.map (some b3)) a0.2.2.2.1 A3 c_3 (.pointer (some ⟨b4,0,none⟩)),Y2 .u32 (Value.int .i64) b3 a0.2.2.1,O3 a0.2.2.2.1 A3 c_3,Yx b4 a0.2.2.2.2.1 A4 c_4 a0.2.2.2.2.2,Yy a0.2.2.2.2.1 A4 c_4] _ _:=h6.retell (by simp only [List.length_set,List.length_nil,Xm,Yy,O3,O5,Xf,Xp,Yx] <;> rfl)
 refine Ze [] rfl ?_
 refine T4 (Za [6] ?_)
 cases H
 exact T3 (jR ⟨_,_,_,_,_,_,_,_,rfl,rfl⟩ h6 [3,1,1,0,0,0,0,0])

def Q25.f (a0:Ti) (a1:Int):Option (Int):=(Q23.f a0).bind fun r1=>(if r1=true then (some 1) else ((Q53.f a0.1).bind fun r2=>(if (decide (r2≤(w64 (a1))))=true then (some 4) else (some 0))))
theorem Q25.spec {a0 a1 b1 b2 b3 b4 A1 c_1 A2 c_2 A3 c_3 A4 c_4 r} (H:Q25.f a0 a1=some r) :
  Spec Tryz.prog 124 [.pointer (some ⟨b1,0,none⟩),.int .u32 a1] (Wf a0 b1 b2 b3 b4 A1 A2 A3 A4 c_1 c_2 c_3 c_4) [] (fun v l=>v=.int .i64 r∧l=Wf a0 b1 b2 b3 b4 A1 A2 A3 A4 c_1 c_2 c_3 c_4):=by
 refine Zi Tryz.func124 fun w0 F0 h0=>?_
 replace h0:=nf h0
 unfold Q25.f at H
 refine T4 (Za [0,1] ?_)
 refine T4 (TW (T4 (T2 ?_)))
 refine Zd 1 ?_
 refine cS H [0,0,0,0,0,0,0,0] h0 rfl Q23.spec Zp fun r1 w1 H h1=>?_
 refine Ze [0,1,5] rfl ?_
 refine jIf H (fun c1 H=>?_) fun c1 H=>?_
 ·refine T4 (Za [4] ?_)
  cases H
  exact T3 (jR0 h1 [0,0,0,0,0,0,0,0])
 refine T4 (T2 ?_)
 refine Zd 5 ?_
 refine Zc (Zb 0 h1.wht) ?_
 refine cS H [1,1] h1 rfl Q53.spec Zp fun r2 w2 H h2=>?_
 refine Ze [8] rfl ?_
 refine jIf H (fun c2 H=>?_) fun c2 H=>?_
 ·refine T4 (Za [4] ?_)
  cases H
  exact T3 (jR0 h2 [2,0,0,0,0,0,0,0])
 refine T5 (T4 (Za [4] ?_))
 cases H
 exact T3 (jR0 h2 [2,0,0,0,0,0,0,0])

def Q29.f (a0:TA):Option (Int):=some a0.2
theorem Q29.spec {a0 b1 A1 c_1 r} (H:Q29.f a0=some r) :
  Spec Tryz.prog 211 [.pointer (some ⟨b1,0,none⟩)] (W9 a0 b1 A1 c_1) [] (fun v l=>v=.int .i64 r∧l=W9 a0 b1 A1 c_1):=by
 refine Zi Tryz.func211 fun w0 F0 h0=>?_
 replace h0:=nf h0
 unfold Q29.f at H
 refine T4 (Za [0] ?_)
 refine T4 (T4 (Za [0,4] ?_))
 refine Z5 ?_
 refine T5 (T4 (T2 ?_))
 refine Zd 3 ?_
 refine Zc (Zb 0 h0.wht) ?_
 refine Ze [2] rfl ?_
 cases H
 exact T3 (jR0 h0 [0,0])

def Q32.f (a0:TA):Option (Int):=some (w64 ((a0.1.length:Int) - 1))
theorem Q32.spec {a0 b1 A1 c_1 r} (H:Q32.f a0=some r) :
  Spec Tryz.prog 175 [.pointer (some ⟨b1,0,none⟩)] (W9 a0 b1 A1 c_1) [] (fun v l=>v=.int .i64 r∧l=W9 a0 b1 A1 c_1):=by
 refine Zi Tryz.func175 fun w0 F0 h0=>?_
 replace h0:=nf h0
 unfold Q32.f at H
 refine T4 (Za [0] ?_)
 refine T4 (T2 ?_)
 refine Zd 3 ?_
 refine Zc (Zb 0 h0.wht) ?_
 refine Ze [2] rfl ?_
 cases H
 exact T3 (jR0 h0 [0,0])

def Q28.f (a0:TA):Option TQ:=(Q29.f a0).bind fun r1=>(if (decide (r1=0))=true then (some (0,false)) else ((Q32.f a0).bind fun r2=>(if 0≤r2∧r2<(a0.1.length:Int) then (some ((gt a0.1 r2).1,true)) else none)))
theorem Q28.spec {a0 b1 A1 c_1 r} (H:Q28.f a0=some r) :
  Spec Tryz.prog 173 [.pointer (some ⟨b1,0,none⟩)] (W9 a0 b1 A1 c_1) [] (fun v l=>v=.tuple #[.int .i64 r.1,.bool r.2]∧l=W9 a0 b1 A1 c_1):=by
 refine Zi Tryz.func173 fun w0 F0 h0=>?_
 replace h0:=nf h0
 unfold Q28.f at H
 refine T4 (Za [0] ?_)
 refine T4 (T4 (T2 ?_))
 refine Zd 1 ?_
 refine cS H [0,0] h0 rfl Q29.spec Zp fun r1 w1 H h1=>?_
 refine Ze [0,6] rfl ?_
 refine jIf H (fun c1 H=>?_) fun c1 H=>?_
 ·refine T4 (Za [2,3] ?_)
  cases H
  exact T3 (jR0 h1 [0,0])
 refine T5 (T4 (jH h1 fun h2=>?_))
 refine Zo [0,1,2,4] ?_
 refine Zf 3 rfl (Zb 0 wI) ?_
 refine cSJ 5 rfl H [0,0] h2 rfl Q32.spec Zp 0 fun r2 w2 H h3=>?_
 obtain ⟨⟨p1,p2⟩,H⟩:=Zl H
 have e1:=Zx h3.wh (gO 1) p1 p2
 refine Zf 6 rfl (Zg e1 p1 p2) ?_
 refine Zo [7] ?_
 refine Zf 8 rfl (Zh 0 wI (gO 1) p1 p2) ?_
 refine Zo [9,10] ?_
 refine Zt [2,3] ?_
 cases H
 exact T3 (jR0 h3 [0,0])

def Q56.f (a0:TB) (a1:Int) (a2:TU):Option (Int×TB):=(Q53.f a0).bind fun r1=>(if (decide (r1=0))=true then (some (1,a0)) else ((Q53.f a0).bind fun r2=>(if (decide (r2≤(w64 (a1))))=true then (some (4,a0)) else (if 0≤(w64 ((w64 (a1))*a0.1))∧(w64 ((w64 (a1))*a0.1))≤(w64 ((w64 ((w64 (a1))*a0.1))+a0.1))∧(w64 ((w64 ((w64 (a1))*a0.1))+a0.1))≤(a0.2.1.length:Int) then (if (!decide ((a2.length:Int)=a0.1))=true then (some (3,a0)) else (some (0,(a0.1,(patch a0.2.1 (((w64 ((w64 (a1))*a0.1))).toNat) (((a0.2.1.drop ((w64 ((w64 (a1))*a0.1))).toNat).take (((w64 ((w64 ((w64 (a1))*a0.1))+a0.1))).toNat - ((w64 ((w64 (a1))*a0.1))).toNat)).length) a2),(a0.2.2.1,(IntKind.u64.wrap (a0.2.2.2+1))))))) else none))))
theorem Q56.spec {a0 a1 a2 A2 c_2 b1 A1 c_1 r} (H:Q56.f a0 a1 a2=some r) :
  Spec Tryz.prog 160 [.pointer (some ⟨b1,0,none⟩),.int .u32 a1,.slice A2 a2.length c_2] (B7 a0 b1 A1 c_1) [R5 a2 A2 c_2] (fun v l=>∃ A_0 c_0,v=.int .i64 r.1∧l=B7 r.2 b1 A_0 c_0):=by
 refine Zi Tryz.func160 fun w0 F0 h0=>?_
 replace h0:=nf h0
 unfold Q56.f at H
 refine T4 (Za [0,1,2] ?_)
 refine T4 (T2 ?_)
 refine Zd 2 ?_
 refine Yg Tryz.func62 ?_
 refine T4 (Za [0,1] ?_)
 refine T4 (TW (T4 (T2 ?_)))
 refine Zd 1 ?_
 refine cS H [0,0] h0 rfl Q53.spec Zp fun r1 w1 H h1=>?_
 refine Ze [0,1,7] rfl ?_
 refine jIf H (fun c1 H=>?_) fun c1 H=>?_
 ·refine T4 (Za [4,5] ?_)
  refine T3 (⟨_,Zj,?_⟩)
  refine Ze [0,2,7,8] rfl ?_
  refine T4 (TW (T4 (Za [0,2,7,8,15] ?_)))
  refine Zn ?_
  refine T4 (Za [6] ?_)
  cases H
  exact T3 (jR ⟨_,_,rfl,rfl⟩ h1 [0,0])
 refine T4 (T2 ?_)
 refine Zd 3 ?_
 refine cS H [0,0] h1 rfl Q53.spec Zp fun r2 w2 H h2=>?_
 refine Ze [0,1,11] rfl ?_
 refine jIf H (fun c2 H=>?_) fun c2 H=>?_
 ·refine T4 (Za [4,5] ?_)
  refine T3 (⟨_,Zj,?_⟩)
  refine Ze [0,2,7,8] rfl ?_
  refine T4 (TW (T4 (Za [0,2,7,8,15] ?_)))
  refine Zn ?_
  refine T4 (Za [6] ?_)
  cases H
  exact T3 (jR ⟨_,_,rfl,rfl⟩ h2 [0,0])
 refine T5 (T4 (T2 ?_))
 refine Zd 5 ?_
 refine Zc (Zb 0 h2.wht) ?_
 refine Ze [0,6] rfl ?_
 refine T4 (jH h2 fun h3=>?_)
 refine Zo [0,1,2,4,5,6,7,8] ?_
 refine Zf 3 rfl (Zb 0 wI) ?_
 refine Zf 9 rfl (Zb 0 wI) ?_
 refine Zo [10] ?_
 obtain ⟨⟨p1,p2,p3⟩,H⟩:=Zl H
 have e1:=h3.cap (gO 1)
 refine Zf 11 rfl (Ze8 ((a0.2.1.drop ((w64 ((w64 (a1))*a0.1))).toNat).take (((w64 ((w64 ((w64 (a1))*a0.1))+a0.1))).toNat - ((w64 ((w64 (a1))*a0.1))).toNat)) (w64 ((w64 (a1))*a0.1)) (w64 ((w64 ((w64 (a1))*a0.1))+a0.1)) e1 p1 p2 p3) ?_
 refine Zo [12,13] ?_
 refine Zt [4,5] ?_
 refine T3 (⟨_,Zj,?_⟩)
 refine Ze [0,2,7,8] rfl ?_
 refine T4 (TW (T4 (Za [0,2,7,8,15] ?_)))
 refine Z5 ?_
 refine T4 (T2 ?_)
 refine Zd 5 ?_
 refine Zc (Zb 0 h3.wht) ?_
 refine Ze [0,2,7,19] rfl ?_
 refine jIf H (fun c3 H=>?_) fun c3 H=>?_
 ·refine T4 (Za [6] ?_)
  cases H
  exact T3 (jR ⟨_,_,rfl,rfl⟩ h3 [0,0])
 refine T5 (T4 (T2 ?_))
 refine Zd 2 ?_
 have e2:(((w64 ((w64 (a1))*a0.1))).toNat)+((a0.2.1.drop ((w64 ((w64 (a1))*a0.1))).toNat).take (((w64 ((w64 ((w64 (a1))*a0.1))+a0.1))).toNat - ((w64 ((w64 (a1))*a0.1))).toNat)).length≤a0.2.1.length:=by first | omega | (simp only [List.length_take,List.length_drop]; omega)
 refine Zv (Zbv Yj (ty:=(.int .u8)) (xs:=a0.2.1) (ys:=a2) rfl 1 rfl h3 rfl (Zk 1) rfl rfl rfl rfl rfl rfl e2) ?_
 rintro _ w3 ⟨rfl,h4⟩
 replace h4:=nf h4
 replace h4:St w0 F0 [O5 (patch a0.2.1 (((w64 ((w64 (a1))*a0.1))).toNat) (((a0.2.1.drop ((w64 ((w64 (a1))*a0.1))).toNat).take (((w64 ((w64 ((w64 (a1))*a0.1))+a0.1))).toNat - ((w64 ((w64 (a1))*a0.1))).toNat)).length) a2) A1 c_1,Xf b1 a0.1 (patch a0.2.1 (((w64 ((w64 (a1))*a0.1))).toNat) (((a0.2.1.drop ((w64 ((w64 (a1))*a0.1))).toNat).take (((w64 ((w64 ((w64 (a1))*a0.1))+a0.1))).toNat - ((w64 ((w64 (a1))*a0.1))).toNat)).length) a2) A1 c_1 a0.2.2.1 a0.2.2.2] _ _:=h4.retell (by simp only [Xr e2,List.length_nil,O5,Xf] <;> rfl)
 refine Ze [0] rfl ?_
 refine T4 (T2 ?_)
 refine Zd 4 ?_
 refine Zc (Zb 1 h4.wht) ?_
 refine Zd 4 ?_
 refine rS (Zs 1 h4) fun _ w4 h5=>?_
 refine Ze [] rfl ?_
 refine T4 (Za [6] ?_)
 cases H
 exact T3 (jR ⟨_,_,rfl,rfl⟩ h5 [0,0])

def Q33.f (a0:TA) (a1:Int):Option (Int):=if (decide ((a0.1.length:Int)=0))=true then (some 1) else (if (decide (a1<0))=true then (some 4) else ((Q32.f a0).bind fun r1=>(if (decide (r1≤a1))=true then (some 4) else (some 0))))
theorem Q33.spec {a0 a1 b1 A1 c_1 r} (H:Q33.f a0 a1=some r) :
  Spec Tryz.prog 171 [.pointer (some ⟨b1,0,none⟩),.int .i64 a1] (W9 a0 b1 A1 c_1) [] (fun v l=>v=.int .i64 r∧l=W9 a0 b1 A1 c_1):=by
 refine Zi Tryz.func171 fun w0 F0 h0=>?_
 replace h0:=nf h0
 unfold Q33.f at H
 refine T4 (Za [0,1] ?_)
 refine T4 (TW (T4 (T2 ?_)))
 refine Zd 6 ?_
 refine Zc (Zb 0 h0.wht) ?_
 refine Ze [0,1,5] rfl ?_
 refine jIf H (fun c1 H=>?_) fun c1 H=>?_
 ·refine T4 (Za [4] ?_)
  cases H
  exact T3 (jR0 h0 [0,0])
 refine T4 (T2 ?_)
 refine Zd 3 ?_
 refine Z7 19 H (fun c2 H=>?_) fun c2 H=>?_
 ·refine Ze [16] rfl ?_
  refine Zn ?_
  refine T4 (Za [4] ?_)
  cases H
  exact T3 (jR0 h0 [0,0])
 refine Zd 2 ?_
 refine cS H [0,0] h0 rfl Q32.spec Zp fun r1 w1 H h1=>?_
 refine Ze [16] rfl ?_
 refine jIf H (fun c3 H=>?_) fun c3 H=>?_
 ·refine T4 (Za [4] ?_)
  cases H
  exact T3 (jR0 h1 [0,0])
 refine T5 (T4 (Za [4] ?_))
 cases H
 exact T3 (jR0 h1 [0,0])

def Q30.f (a0:TA) (a1:Int):Option (TA):=if 0≤a1∧a1<(a0.1.length:Int) then (if (!((gt a0.1 a1).2.2))=true then (some a0) else (if 0≤((gt a0.1 a1).1)∧((gt a0.1 a1).1)<(a0.1.length:Int) then (if 0≤((gt a0.1 a1).2.1)∧((gt a0.1 a1).2.1)<((a0.1.set ((gt a0.1 a1).1).toNat ((gt a0.1 ((gt a0.1 a1).1)).1,(gt a0.1 a1).2.1,(gt a0.1 ((gt a0.1 a1).1)).2.2)).length:Int) then (if 0≤a1∧a1<(((a0.1.set ((gt a0.1 a1).1).toNat ((gt a0.1 ((gt a0.1 a1).1)).1,(gt a0.1 a1).2.1,(gt a0.1 ((gt a0.1 a1).1)).2.2)).set ((gt a0.1 a1).2.1).toNat ((gt a0.1 a1).1,(gt (a0.1.set ((gt a0.1 a1).1).toNat ((gt a0.1 ((gt a0.1 a1).1)).1,(gt a0.1 a1).2.1,(gt a0.1 ((gt a0.1 a1).1)).2.2)) ((gt a0.1 a1).2.1)).2.1,(gt (a0.1.set ((gt a0.1 a1).1).toNat ((gt a0.1 ((gt a0.1 a1).1)).1,(gt a0.1 a1).2.1,(gt a0.1 ((gt a0.1 a1).1)).2.2)) ((gt a0.1 a1).2.1)).2.2)).length:Int) then (some ((((a0.1.set ((gt a0.1 a1).1).toNat ((gt a0.1 ((gt a0.1 a1).1)).1,(gt a0.1 a1).2.1,(gt a0.1 ((gt a0.1 a1).1)).2.2)).set ((gt a0.1 a1).2.1).toNat ((gt a0.1 a1).1,(gt (a0.1.set ((gt a0.1 a1).1).toNat ((gt a0.1 ((gt a0.1 a1).1)).1,(gt a0.1 a1).2.1,(gt a0.1 ((gt a0.1 a1).1)).2.2)) ((gt a0.1 a1).2.1)).2.1,(gt (a0.1.set ((gt a0.1 a1).1).toNat ((gt a0.1 ((gt a0.1 a1).1)).1,(gt a0.1 a1).2.1,(gt a0.1 ((gt a0.1 a1).1)).2.2)) ((gt a0.1 a1).2.1)).2.2)).set a1.toNat (0,0,false)),(w64 (a0.2 - 1)))) else none) else none) else none)) else none
theorem Q30.spec {a0 a1 b1 A1 c_1 r} (H:Q30.f a0 a1=some r) :
  Spec Tryz.prog 172 [.pointer (some ⟨b1,0,none⟩),.int .i64 a1] (W9 a0 b1 A1 c_1) [] (fun v l=>∃ A_0 c_0,v=.tuple #[]∧l=W9 r b1 A_0 c_0):=by
 refine Zi Tryz.func172 fun w0 F0 h0=>?_
 replace h0:=nf h0
 unfold Q30.f at H
 refine T4 (T2 ?_)
 refine Zd 3 ?_
 refine Zc (Zb 0 h0.wht) ?_
 refine Zd 1 ?_
 obtain ⟨⟨p1,p2⟩,H⟩:=Zl H
 have e1:=Zx h0.wh (gO 1) p1 p2
 refine Zc (Zg e1 p1 p2) ?_
 refine Zc (Zh 0 h0.wht (gO 1) p1 p2) ?_
 refine rB (Yp h0) fun b2 w1 h1=>?_
 refine rS (Zs 0 h1) fun _ w2 h2=>?_
 refine Ze [0,1,4] rfl ?_
 refine T4 (T4 (T2 ?_))
 refine Zd 1 ?_
 refine Zc (Zb 0 h2.wht) ?_
 refine Ze [0,1,4,14] rfl ?_
 refine jIf H (fun c1 H=>?_) fun c1 H=>?_
 ·cases H
  exact T3 (jR ⟨_,_,rfl,rfl⟩ h2 [1,1])
 refine T5 (T4 (Zw (sO h2 [0,0]) ?_))
 have h3:=h2.drew
 refine Zo [0,1,2,4,6] ?_
 refine Zf 3 rfl (Zb 1 wI) ?_
 refine Zf 5 rfl (Zb 0 wI) ?_
 refine Zf 7 rfl (Zb 0 wI) ?_
 obtain ⟨⟨p3,p4⟩,H⟩:=Zl H
 refine Zf 8 rfl (Zg e1 p3 p4) ?_
 refine Zo [9] ?_
 refine hS 10 rfl (Zm 1 (.pair (.int .i64) (.pair (.int .i64) .bool)) ((gt a0.1 a1).1) ((gt a0.1 ((gt a0.1 a1).1)).1,(gt a0.1 a1).2.1,(gt a0.1 ((gt a0.1 a1).1)).2.2) 2 h3 rfl p3 p4) 1 fun _ w3 h4=>?_
 replace h4:St w0 F0 [Yy (a0.1.set ((gt a0.1 a1).1).toNat ((gt a0.1 ((gt a0.1 a1).1)).1,(gt a0.1 a1).2.1,(gt a0.1 ((gt a0.1 a1).1)).2.2)) A1 c_1,Zd1 b2 ((gt a0.1 a1).1) ((gt a0.1 a1).2.1) ((gt a0.1 a1).2.2),Yx b1 (a0.1.set ((gt a0.1 a1).1).toNat ((gt a0.1 ((gt a0.1 a1).1)).1,(gt a0.1 a1).2.1,(gt a0.1 ((gt a0.1 a1).1)).2.2)) A1 c_1 a0.2] _ _:=h4.retell (by simp only [List.length_set,List.length_nil,Yy,Zd1,Yx] <;> rfl)
 refine Zt [0,1,4] ?_
 refine T4 (Zw (sO h4 [1,1]) ?_)
 have h5:=h4.drew
 refine Zo [0,1,2,4,6] ?_
 refine Zf 3 rfl (Zb 1 wI) ?_
 refine Zf 5 rfl (Zb 0 wI) ?_
 refine Zf 7 rfl (Zb 0 wI) ?_
 obtain ⟨⟨p5,p6⟩,H⟩:=Zl H
 refine Zf 8 rfl (Zg e1 p5 p6) ?_
 refine Zo [9] ?_
 refine hS 10 rfl (Zm 0 (.pair (.int .i64) (.pair (.int .i64) .bool)) ((gt a0.1 a1).2.1) ((gt a0.1 a1).1,(gt (a0.1.set ((gt a0.1 a1).1).toNat ((gt a0.1 ((gt a0.1 a1).1)).1,(gt a0.1 a1).2.1,(gt a0.1 ((gt a0.1 a1).1)).2.2)) ((gt a0.1 a1).2.1)).2.1,(gt (a0.1.set ((gt a0.1 a1).1).toNat ((gt a0.1 ((gt a0.1 a1).1)).1,(gt a0.1 a1).2.1,(gt a0.1 ((gt a0.1 a1).1)).2.2)) ((gt a0.1 a1).2.1)).2.2) 0 h5 rfl p5 p6) 1 fun _ w4 h6=>?_
 replace h6:St w0 F0 [Yy ((a0.1.set ((gt a0.1 a1).1).toNat ((gt a0.1 ((gt a0.1 a1).1)).1,(gt a0.1 a1).2.1,(gt a0.1 ((gt a0.1 a1).1)).2.2)).set ((gt a0.1 a1).2.1).toNat ((gt a0.1 a1).1,(gt (a0.1.set ((gt a0.1 a1).1).toNat ((gt a0.1 ((gt a0.1 a1).1)).1,(gt a0.1 a1).2.1,(gt a0.1 ((gt a0.1 a1).1)).2.2)) ((gt a0.1 a1).2.1)).2.1,(gt (a0.1.set ((gt a0.1 a1).1).toNat ((gt a0.1 ((gt a0.1 a1).1)).1,(gt a0.1 a1).2.1,(gt a0.1 ((gt a0.1 a1).1)).2.2)) ((gt a0.1 a1).2.1)).2.2)) A1 c_1,Zd1 b2 ((gt a0.1 a1).1) ((gt a0.1 a1).2.1) ((gt a0.1 a1).2.2),Yx b1 ((a0.1.set ((gt a0.1 a1).1).toNat ((gt a0.1 ((gt a0.1 a1).1)).1,(gt a0.1 a1).2.1,(gt a0.1 ((gt a0.1 a1).1)).2.2)).set ((gt a0.1 a1).2.1).toNat ((gt a0.1 a1).1,(gt (a0.1.set ((gt a0.1 a1).1).toNat ((gt a0.1 ((gt a0.1 a1).1)).1,(gt a0.1 a1).2.1,(gt a0.1 ((gt a0.1 a1).1)).2.2)) ((gt a0.1 a1).2.1)).2.1,(gt (a0.1.set ((gt a0.1 a1).1).toNat ((gt a0.1 ((gt a0.1 a1).1)).1,(gt a0.1 a1).2.1,(gt a0.1 ((gt a0.1 a1).1)).2.2)) ((gt a0.1 a1).2.1)).2.2)) A1 c_1 a0.2] _ _:=h6.retell (by simp only [List.length_set,List.length_nil,Yy,Zd1,Yx] <;> rfl)
 refine Zt [0,1] ?_
 refine T4 (T2 ?_)
 refine Zd 3 ?_
 refine Zc (Zb 2 h6.wht) ?_
 refine Zd 2 ?_
 obtain ⟨⟨p7,p8⟩,H⟩:=Zl H
 refine Zc (Zg e1 p7 p8) ?_
 refine rS (Zm 0 (.pair (.int .i64) (.pair (.int .i64) .bool)) a1 (0,0,false) 0 h6 rfl p7 p8) fun _ w5 h7=>?_
 replace h7:St w0 F0 [Yy (((a0.1.set ((gt a0.1 a1).1).toNat ((gt a0.1 ((gt a0.1 a1).1)).1,(gt a0.1 a1).2.1,(gt a0.1 ((gt a0.1 a1).1)).2.2)).set ((gt a0.1 a1).2.1).toNat ((gt a0.1 a1).1,(gt (a0.1.set ((gt a0.1 a1).1).toNat ((gt a0.1 ((gt a0.1 a1).1)).1,(gt a0.1 a1).2.1,(gt a0.1 ((gt a0.1 a1).1)).2.2)) ((gt a0.1 a1).2.1)).2.1,(gt (a0.1.set ((gt a0.1 a1).1).toNat ((gt a0.1 ((gt a0.1 a1).1)).1,(gt a0.1 a1).2.1,(gt a0.1 ((gt a0.1 a1).1)).2.2)) ((gt a0.1 a1).2.1)).2.2)).set a1.toNat (0,0,false)) A1 c_1,Zd1 b2 ((gt a0.1 a1).1) ((gt a0.1 a1).2.1) ((gt a0.1 a1).2.2),Yx b1 (((a0.1.set ((gt a0.1 a1).1).toNat ((gt a0.1 ((gt a0.1 a1).1)).1,(gt a0.1 a1).2.1,(gt a0.1 ((gt a0.1 a1).1)).2.2)).set ((gt a0.1 a1).2.1).toNat ((gt a0.1 a1).1,(gt (a0.1.set ((gt a0.1 a1).1).toNat ((gt a0.1 ((gt a0.1 a1).1)).1,(gt a0.1 a1).2.1,(gt a0.1 ((gt a0.1 a1).1)).2.2)) ((gt a0.1 a1).2.1)).2.1,(gt (a0.1.set ((gt a0.1 a1).1).toNat ((gt a0.1 ((gt a0.1 a1).1)).1,(gt a0.1 a1).2.1,(gt a0.1 ((gt a0.1 a1).1)).2.2)) ((gt a0.1 a1).2.1)).2.2)).set a1.toNat (0,0,false)) A1 c_1 a0.2] _ _:=h7.retell (by simp only [List.length_set,List.length_nil,Yy,Zd1,Yx] <;> rfl)
 refine Ze [0] rfl ?_
 refine T2 (Zd 3 ?_)
 refine Zc (Zb 2 h7.wht) ?_
 refine Zd 3 ?_
 refine rS (Zs 2 h7) fun _ w6 h8=>?_
 refine Ze [] rfl ?_
 cases H
 exact ⟨_,_,_,Zj,⟨_,_,rfl,rfl⟩,sO h8 [0,0]⟩

def Q26.f (a0:TA) (a1:Int):Option Tu:=(Q33.f a0 a1).bind fun r1=>(if (!decide (r1=0))=true then (some (r1,a0)) else (if 0≤a1∧a1<(a0.1.length:Int) then (if (!((gt a0.1 a1).2.2))=true then (some (9,a0)) else ((Q30.f a0 a1).bind fun r2=>(some (0,r2)))) else none))
theorem Q26.spec {a0 a1 b1 A1 c_1 r} (H:Q26.f a0 a1=some r) :
  Spec Tryz.prog 125 [.pointer (some ⟨b1,0,none⟩),.int .i64 a1] (W9 a0 b1 A1 c_1) [] (fun v l=>∃ A_0 c_0,v=.int .i64 r.1∧l=W9 r.2 b1 A_0 c_0):=by
 refine Zi Tryz.func125 fun w0 F0 h0=>?_
 replace h0:=nf h0
 unfold Q26.f at H
 refine T4 (Za [0,1] ?_)
 refine T4 (T4 (T2 ?_))
 refine Zd 2 ?_
 refine cS H [0,0] h0 rfl Q33.spec Zp fun r1 w1 H h1=>?_
 refine Ze [0,1,5] rfl ?_
 refine T4 (Za [0,1,5,10] ?_)
 refine jIf H (fun c1 H=>?_) fun c1 H=>?_
 ·refine T4 (Za [4] ?_)
  cases H
  exact T3 (jR ⟨_,_,rfl,rfl⟩ h1 [0,0])
 refine T5 (T4 (T4 (T2 ?_)))
 refine Zd 3 ?_
 refine Zc (Zb 0 h1.wht) ?_
 refine Zd 1 ?_
 obtain ⟨⟨p1,p2⟩,H⟩:=Zl H
 have e1:=Zx h1.wh (gO 1) p1 p2
 refine Zc (Zg e1 p1 p2) ?_
 refine Zd 1 ?_
 refine Zc (Zh 2 h1.wht (gO 1) p1 p2) ?_
 refine Ze [0,1,20] rfl ?_
 refine jIf H (fun c2 H=>?_) fun c2 H=>?_
 ·refine T4 (Za [4] ?_)
  cases H
  exact T3 (jR ⟨_,_,rfl,rfl⟩ h1 [0,0])
 refine T5 (T4 (T2 ?_))
 refine Zd 2 ?_
 refine cE H [0,0] h1 rfl Q30.spec Zp ?_
 rintro r2 w2 _ _ H ⟨A2,c_2,rfl,rfl⟩ h2
 replace h2:=nf h2
 refine Ze [] rfl ?_
 refine T4 (Za [4] ?_)
 cases H
 exact T3 (jR ⟨_,_,rfl,rfl⟩ h2 [0,0])

def Q22.f (a0:Ti) (a1:Int):Option (Ti):=if 0≤a1∧a1<(a0.2.1.length:Int) then ((Q26.f a0.2.2.2.2 a1).bind fun r1=>(if (a0.2.2.2.1.length+([a1]:List Int).length)*8≤140737488355328 then (some (a0.1,(a0.2.1.set a1.toNat (0,([]:List Int),false,0)),(X8 ((gt a0.2.1 a1).1) a0.2.2.1),(a0.2.2.2.1 ++ ([a1]:List Int)),r1.2)) else none)) else none
theorem Q22.spec {a0 a1 b1 b2 b3 b4 A1 c_1 A2 c_2 A3 c_3 A4 c_4 r} (H:Q22.f a0 a1=some r) :
  Spec Tryz.prog 142 [.pointer (some ⟨b1,0,none⟩),.int .i64 a1] (Wf a0 b1 b2 b3 b4 A1 A2 A3 A4 c_1 c_2 c_3 c_4) [] (fun v l=>∃ A_0 c_0 A_1 c_1 A_2 c_2 A_3 c_3,v=.tuple #[]∧l=Wf r b1 b2 b3 b4 A_0 A_1 A_2 A_3 c_0 c_1 c_2 c_3):=by
 refine Zi Tryz.func142 fun w0 F0 h0=>?_
 replace h0:=nf h0
 unfold Q22.f at H
 refine T4 (Zw (sO h0 [0,0,0,0,1,1,1]) ?_)
 have h1:=h0.drew
 refine Zo [0,1,2,4,5,6,8] ?_
 refine Zf 3 rfl (Zb 0 wI) ?_
 refine Zf 7 rfl (Zb 0 wI) ?_
 obtain ⟨⟨p1,p2⟩,H⟩:=Zl H
 have e1:=Zx h1.wh (gO 3) p1 p2
 refine Zf 9 rfl (Zg e1 p1 p2) ?_
 refine Zo [10] ?_
 refine Zf 11 rfl (Yn 0 wI (gO 3) p1 p2) ?_
 refine hS 12 rfl (Zj3 Yj (ix:=((gt a0.2.1 a1).1)) 4 rfl h1 rfl rfl rfl rfl rfl rfl rfl) 1 fun _ w1 h2=>?_
 refine Zt [0,1] ?_
 refine T4 (T2 ?_)
 refine Zd 3 ?_
 refine Zc (Zb 1 h2.wht) ?_
 refine Zd 1 ?_
 refine cE H [6,6] h2 rfl Q26.spec Zp ?_
 rintro r1 w2 _ _ H ⟨A5,c_5,rfl,rfl⟩ h3
 replace h3:=nf h3
 refine Ze [0,1] rfl ?_
 refine T4 (T2 ?_)
 refine Zd 3 ?_
 refine Zc (Zb 3 h3.wht) ?_
 refine Zd 2 ?_
 refine Zc (Zg e1 p1 p2) ?_
 have h4:=h3.addNil 5 (.int .u8)
 have h5:=(h4.only [7,0,0,0,0,0,0,0,0] rfl).both
 refine rS (Vg 0 (.pair (.int .u32) (.pair (.slice 5 (.int .u8)) (.pair .bool (.int .i64)))) a1 (0,([]:List Int),false,0) h5 p1 p2 Zdq) fun _ w3 h6=>?_
 replace h6:St w0 F0 [Xm (a0.2.1.set a1.toNat (0,([]:List Int),false,0)) A2 c_2,Yx b4 r1.2.1 A5 c_5 r1.2.2,Yy r1.2.1 A5 c_5,Y2 .u32 (Value.int .i64) b3 (X8 ((gt a0.2.1 a1).1) a0.2.2.1),Xp b1 (.pointer (some ⟨b2,0,none⟩)) (a0.2.1.set a1.toNat (0,([]:List Int),false,0)) A2 c_2 (.map (some b3)) a0.2.2.2.1 A3 c_3 (.pointer (some ⟨b4,0,none⟩)),Xf b2 a0.1.1 a0.1.2.1 A1 c_1 a0.1.2.2.1 a0.1.2.2.2,O5 a0.1.2.1 A1 c_1,O3 a0.2.2.2.1 A3 c_3] _ _:=h6.retell (by simp only [List.length_set,List.length_nil,Xm,Yy,O3,O5,Xf,Xp,Yx] <;> rfl)
 refine Ze [0,1] rfl ?_
 refine T2 (Zd 4 ?_)
 refine Zc (Zb 4 h6.wht) ?_
 refine Zd 1 ?_
 refine rB (Y6 (.int .i64) ([a1]:List Int) h6) fun b5 w4 h7=>?_
 obtain ⟨p3,H⟩:=Zl H
 refine Zv (Yq 8 h7 (gO 0) p3) ?_
 rintro _ w5 ⟨A6,c_6,rfl,h8⟩
 replace h8:=nf h8
 refine Zd 2 ?_
 refine rS (Zs 6 h8) fun _ w6 h9=>?_
 refine Ze [] rfl ?_
 cases H
 exact ⟨_,_,_,Zj,⟨_,_,_,_,_,_,_,_,rfl,rfl⟩,sO h9 [0,6,6,2,4,0,1,1]⟩

def Q24.f (a0:Ti):Option (Int×Bool×Ti):=if (decide ((a0.2.2.2.1.length:Int)=0))=true then ((Q28.f a0.2.2.2.2).bind fun r1=>(if (!r1.2)=true then (some (0,false,a0)) else (if 0≤r1.1∧r1.1<(a0.2.1.length:Int) then (if (gt a0.2.1 r1.1).2.2.1=true then ((Q56.f a0.1 ((gt a0.2.1 r1.1).1) ((gt a0.2.1 r1.1).2.1)).bind fun r2=>((Q22.f (r2.2,(a0.2.1.set r1.1.toNat ((gt a0.2.1 r1.1).1,(gt a0.2.1 r1.1).2.1,false,(gt a0.2.1 r1.1).2.2.2)),a0.2.2.1,a0.2.2.2.1,a0.2.2.2.2) r1.1).bind fun r3=>(if 0≤(w64 ((r3.2.2.2.1.length:Int) - 1))∧(w64 ((r3.2.2.2.1.length:Int) - 1))<(r3.2.2.2.1.length:Int) then (if (0:Int)≤(w64 ((r3.2.2.2.1.length:Int) - 1))∧(w64 ((r3.2.2.2.1.length:Int) - 1))≤(r3.2.2.2.1.length:Int) then (some ((gt r3.2.2.2.1 (w64 ((r3.2.2.2.1.length:Int) - 1))),true,(r3.1,r3.2.1,r3.2.2.1,(r3.2.2.2.1.take ((w64 ((r3.2.2.2.1.length:Int) - 1))).toNat),r3.2.2.2.2))) else none) else none))) else ((Q22.f a0 r1.1).bind fun r4=>(if 0≤(w64 ((r4.2.2.2.1.length:Int) - 1))∧(w64 ((r4.2.2.2.1.length:Int) - 1))<(r4.2.2.2.1.length:Int) then (if (0:Int)≤(w64 ((r4.2.2.2.1.length:Int) - 1))∧(w64 ((r4.2.2.2.1.length:Int) - 1))≤(r4.2.2.2.1.length:Int) then (some ((gt r4.2.2.2.1 (w64 ((r4.2.2.2.1.length:Int) - 1))),true,(r4.1,r4.2.1,r4.2.2.1,(r4.2.2.2.1.take ((w64 ((r4.2.2.2.1.length:Int) - 1))).toNat),r4.2.2.2.2))) else none) else none))) else none))) else (if 0≤(w64 ((a0.2.2.2.1.length:Int) - 1))∧(w64 ((a0.2.2.2.1.length:Int) - 1))<(a0.2.2.2.1.length:Int) then (if (0:Int)≤(w64 ((a0.2.2.2.1.length:Int) - 1))∧(w64 ((a0.2.2.2.1.length:Int) - 1))≤(a0.2.2.2.1.length:Int) then (some ((gt a0.2.2.2.1 (w64 ((a0.2.2.2.1.length:Int) - 1))),true,(a0.1,a0.2.1,a0.2.2.1,(a0.2.2.2.1.take ((w64 ((a0.2.2.2.1.length:Int) - 1))).toNat),a0.2.2.2.2))) else none) else none)
theorem Q24.spec {a0 b1 b2 b3 b4 A1 c_1 A2 c_2 A3 c_3 A4 c_4 r} (H:Q24.f a0=some r) :
  Spec Tryz.prog 126 [.pointer (some ⟨b1,0,none⟩)] (Wf a0 b1 b2 b3 b4 A1 A2 A3 A4 c_1 c_2 c_3 c_4) [] (fun v l=>∃ A_0 c_0 A_1 c_1 A_2 c_2 A_3 c_3,v=.tuple #[.int .i64 r.1,.bool r.2.1]∧l=Wf r.2.2 b1 b2 b3 b4 A_0 A_1 A_2 A_3 c_0 c_1 c_2 c_3):=by
 refine Zi Tryz.func126 fun w0 F0 h0=>?_
 replace h0:=nf h0
 unfold Q24.f at H
 refine T4 (Za [0] ?_)
 refine T4 (T4 (T2 ?_))
 refine Zd 3 ?_
 refine Zc (Zb 0 h0.wht) ?_
 refine Ze [0,13] rfl ?_
 refine jIf H (fun c1 H=>?_) fun c1 H=>?_
 ·refine T4 (T2 ?_)
  refine Zd 3 ?_
  refine Zc (Zb 0 h0.wht) ?_
  refine cS H [6,6] h0 rfl Q28.spec Zp fun r1 w1 H h1=>?_
  refine Ze [0,4,5] rfl ?_
  refine T4 (T4 (Za [0,4,23] ?_))
  refine jIf H (fun c2 H=>?_) fun c2 H=>?_
  ·refine T4 (Za [2,3] ?_)
   cases H
   exact T3 (jR ⟨_,_,_,_,_,_,_,_,rfl,rfl⟩ h1 [2,2,2,2,2,2,0,0])
  refine T5 (T4 (T2 ?_))
  refine Zd 4 ?_
  refine Zc (Zb 2 h1.wht) ?_
  refine Zd 1 ?_
  obtain ⟨⟨p1,p2⟩,H⟩:=Zl H
  have e1:=Zx h1.wh (gO 5) p1 p2
  refine Zc (Zg e1 p1 p2) ?_
  refine Yg Tryz.func110 ?_
  refine T4 (T2 ?_)
  refine Zd 3 ?_
  refine Zc (Yn 2 h1.wht (gO 5) p1 p2) ?_
  refine Ze [0,1,7] rfl ?_
  refine jIf H (fun c3 H=>?_) fun c3 H=>?_
  ·refine T4 ?_
   obtain ⟨A5,c_5,h2⟩:=h1.openI 5 rfl p1 p2
   refine Zw (sO h2 [0,0,0,0,2,2]) ?_
   have h3:=h2.drew
   refine Zo [0,1,2,4,5,6,8,9,10] ?_
   refine Zf 3 rfl (Zb 3 wI) ?_
   refine Zf 7 rfl (Yn 0 wI (Vr 0 Zh5) p1 p2) ?_
   refine Zf 11 rfl (J1 wI (Zk 0)) ?_
   refine cEJ 12 rfl H [4,4] h3 rfl Q56.spec (X4 (Vr 0 Zdf) Zp) ?_
   rintro r2 w2 _ _ H ⟨A6,c_6,rfl,rfl⟩ h4
   replace h4:=nf h4
   refine ⟨⟨[_,_],h4⟩,?_⟩
   refine Zt [1] ?_
   have h5:=h4.closeI 2 rfl
   refine T2 (Zd 3 ?_)
   refine rS (Wd 2 (.pair (.int .u32) (.pair (.slice 5 (.int .u8)) (.pair .bool (.int .i64)))) r1.1 ((gt a0.2.1 r1.1).1,(gt a0.2.1 r1.1).2.1,false,(gt a0.2.1 r1.1).2.2.2) 0 h5 rfl p1 p2 (Ju rfl rfl)) fun _ w3 h6=>?_
   replace h6:St w0 F0 [Xm (a0.2.1.set r1.1.toNat ((gt a0.2.1 r1.1).1,(gt a0.2.1 r1.1).2.1,false,(gt a0.2.1 r1.1).2.2.2)) A2 c_2,Xf b2 r2.2.1 r2.2.2.1 A6 c_6 r2.2.2.2.1 r2.2.2.2.2,O5 r2.2.2.1 A6 c_6,Yx b4 a0.2.2.2.2.1 A4 c_4 a0.2.2.2.2.2,Yy a0.2.2.2.2.1 A4 c_4,Xp b1 (.pointer (some ⟨b2,0,none⟩)) (a0.2.1.set r1.1.toNat ((gt a0.2.1 r1.1).1,(gt a0.2.1 r1.1).2.1,false,(gt a0.2.1 r1.1).2.2.2)) A2 c_2 (.map (some b3)) a0.2.2.2.1 A3 c_3 (.pointer (some ⟨b4,0,none⟩)),Y2 .u32 (Value.int .i64) b3 a0.2.2.1,O3 a0.2.2.2.1 A3 c_3] _ _:=h6.retell (by simp only [List.length_set,List.length_nil,Xm,Yy,O3,O5,Xf,Xp,Yx] <;> rfl)
   refine Ze [] rfl ?_
   refine ⟨_,Zj,?_⟩
   refine Ze [0,4] rfl ?_
   refine T2 (Zd 2 ?_)
   refine cE H [5,1,1,0,2,2,0,0] h6 rfl Q22.spec Zp ?_
   rintro r3 w4 _ _ H ⟨A7,c_7,A8,c_8,A9,c_9,A10,c_10,rfl,rfl⟩ h7
   replace h7:=nf h7
   refine Ze [0] rfl ?_
   refine T4 (T2 ?_)
   refine Zd 3 ?_
   refine Zc (Zb 0 h7.wht) ?_
   refine Ze [0,6] rfl ?_
   refine T4 (T2 ?_)
   refine Zd 3 ?_
   refine Zc (Zb 0 h7.wht) ?_
   refine Zd 1 ?_
   obtain ⟨⟨p3,p4⟩,H⟩:=Zl H
   have e2:=Zx h7.wh (gO 5) p3 p4
   refine Zc (Zg e2 p3 p4) ?_
   refine Zc (Zh 0 h7.wht (gO 5) p3 p4) ?_
   refine Ze [0,6,7] rfl ?_
   refine T4 (T2 ?_)
   refine Zd 4 ?_
   refine Zc (Zb 0 h7.wht) ?_
   refine Zd 1 ?_
   obtain ⟨⟨p5,p6⟩,H⟩:=Zl H
   have e3:=h7.cap (gO 5)
   refine Zc (Uj (r3.2.2.2.1.take ((w64 ((r3.2.2.2.1.length:Int) - 1))).toNat) (w64 ((r3.2.2.2.1.length:Int) - 1)) e3 p5 p6) ?_
   refine Zd 2 ?_
   refine rS (Zs 0 h7) fun _ w5 h8=>?_
   refine Ze [7] rfl ?_
   refine T4 (Za [2,3] ?_)
   have h9:=h8.front (ty:=(.int .i64)) rfl 5 (w64 ((r3.2.2.2.1.length:Int) - 1)).toNat rfl (by omega)
   cases H
   exact T3 (jR ⟨_,_,_,_,_,_,_,_,rfl,rfl⟩ h9 [1,1,1,1,1,0,0,0])
  refine T5 (⟨_,Zj,?_⟩)
  refine Ze [0,4] rfl ?_
  refine T2 (Zd 2 ?_)
  refine cE H [2,2,2,2,2,2,0,0] h1 rfl Q22.spec Zp ?_
  rintro r4 w6 _ _ H ⟨A11,c_11,A12,c_12,A13,c_13,A14,c_14,rfl,rfl⟩ h10
  replace h10:=nf h10
  refine Ze [0] rfl ?_
  refine T4 (T2 ?_)
  refine Zd 3 ?_
  refine Zc (Zb 0 h10.wht) ?_
  refine Ze [0,6] rfl ?_
  refine T4 (T2 ?_)
  refine Zd 3 ?_
  refine Zc (Zb 0 h10.wht) ?_
  refine Zd 1 ?_
  obtain ⟨⟨p7,p8⟩,H⟩:=Zl H
  have e4:=Zx h10.wh (gO 5) p7 p8
  refine Zc (Zg e4 p7 p8) ?_
  refine Zc (Zh 0 h10.wht (gO 5) p7 p8) ?_
  refine Ze [0,6,7] rfl ?_
  refine T4 (T2 ?_)
  refine Zd 4 ?_
  refine Zc (Zb 0 h10.wht) ?_
  refine Zd 1 ?_
  obtain ⟨⟨p9,p10⟩,H⟩:=Zl H
  have e5:=h10.cap (gO 5)
  refine Zc (Uj (r4.2.2.2.1.take ((w64 ((r4.2.2.2.1.length:Int) - 1))).toNat) (w64 ((r4.2.2.2.1.length:Int) - 1)) e5 p9 p10) ?_
  refine Zd 2 ?_
  refine rS (Zs 0 h10) fun _ w7 h11=>?_
  refine Ze [7] rfl ?_
  refine T4 (Za [2,3] ?_)
  have h12:=h11.front (ty:=(.int .i64)) rfl 5 (w64 ((r4.2.2.2.1.length:Int) - 1)).toNat rfl (by omega)
  cases H
  exact T3 (jR ⟨_,_,_,_,_,_,_,_,rfl,rfl⟩ h12 [1,1,1,1,1,0,0,0])
 refine T5 (T4 (T2 ?_))
 refine Zd 3 ?_
 refine Zc (Zb 0 h0.wht) ?_
 refine Ze [0,6] rfl ?_
 refine T4 (T2 ?_)
 refine Zd 3 ?_
 refine Zc (Zb 0 h0.wht) ?_
 refine Zd 1 ?_
 obtain ⟨⟨p11,p12⟩,H⟩:=Zl H
 have e6:=Zx h0.wh (gO 5) p11 p12
 refine Zc (Zg e6 p11 p12) ?_
 refine Zc (Zh 0 h0.wht (gO 5) p11 p12) ?_
 refine Ze [0,6,7] rfl ?_
 refine T4 (T2 ?_)
 refine Zd 4 ?_
 refine Zc (Zb 0 h0.wht) ?_
 refine Zd 1 ?_
 obtain ⟨⟨p13,p14⟩,H⟩:=Zl H
 have e7:=h0.cap (gO 5)
 refine Zc (Uj (a0.2.2.2.1.take ((w64 ((a0.2.2.2.1.length:Int) - 1))).toNat) (w64 ((a0.2.2.2.1.length:Int) - 1)) e7 p13 p14) ?_
 refine Zd 2 ?_
 refine rS (Zs 0 h0) fun _ w8 h13=>?_
 refine Ze [7] rfl ?_
 refine T4 (Za [2,3] ?_)
 have h14:=h13.front (ty:=(.int .i64)) rfl 5 (w64 ((a0.2.2.2.1.length:Int) - 1)).toNat rfl (by omega)
 cases H
 exact T3 (jR ⟨_,_,_,_,_,_,_,_,rfl,rfl⟩ h14 [1,1,1,1,1,0,0,0])

def Q17.f (a0:Ti) (a1:Int):Option Th:=(Q25.f a0 a1).bind fun r1=>(if (!decide (r1=0))=true then (some (r1,a0)) else (if (Y1 a0.2.2.1 a1)=true then (if 0≤(Zq (0:Int) a0.2.2.1 a1)∧(Zq (0:Int) a0.2.2.1 a1)<(a0.2.1.length:Int) then (if (decide (0<((gt a0.2.1 (Zq (0:Int) a0.2.2.1 a1)).2.2.2)))=true then (some (8,a0)) else (if (!(Y1 a0.2.2.1 a1))=true then ((Q24.f a0).bind fun r4=>(if (!r4.2.1)=true then (some (7,r4.2.2)) else ((Q54.f (r4.2.2.1.1,r4.2.2.1.2.1,(r4.2.2.1.2.2.1,r4.2.2.1.2.2.2))).bind fun r2=>(if 0≤r2∧r2*1≤281474976710656 then (if 0≤r4.1∧r4.1<(r4.2.2.2.1.length:Int) then ((Q26.f (r4.2.2.2.2.2.2.1,r4.2.2.2.2.2.2.2) r4.1).bind fun r3=>(some (0,((r4.2.2.1.1,r4.2.2.1.2.1,(r4.2.2.1.2.2.1,r4.2.2.1.2.2.2)),(r4.2.2.2.1.set r4.1.toNat (a1,(List.replicate r2.toNat (0:Int)),true,1)),(Vt a1 r4.1 r4.2.2.2.2.1),r4.2.2.2.2.2.1,r3.2)))) else none) else none)))) else ((Q54.f (a0.1.1,a0.1.2.1,(a0.1.2.2.1,a0.1.2.2.2))).bind fun r2=>(if 0≤r2∧r2*1≤281474976710656 then (if 0≤(Zq (0:Int) a0.2.2.1 a1)∧(Zq (0:Int) a0.2.2.1 a1)<(a0.2.1.length:Int) then ((Q26.f (a0.2.2.2.2.1,a0.2.2.2.2.2) (Zq (0:Int) a0.2.2.1 a1)).bind fun r3=>(some (0,((a0.1.1,a0.1.2.1,(a0.1.2.2.1,a0.1.2.2.2)),(a0.2.1.set (Zq (0:Int) a0.2.2.1 a1).toNat (a1,(List.replicate r2.toNat (0:Int)),true,1)),(Vt a1 (Zq (0:Int) a0.2.2.1 a1) a0.2.2.1),a0.2.2.2.1,r3.2)))) else none) else none)))) else none) else (if (!(Y1 a0.2.2.1 a1))=true then ((Q24.f a0).bind fun r5=>(if (!r5.2.1)=true then (some (7,r5.2.2)) else ((Q54.f (r5.2.2.1.1,r5.2.2.1.2.1,(r5.2.2.1.2.2.1,r5.2.2.1.2.2.2))).bind fun r2=>(if 0≤r2∧r2*1≤281474976710656 then (if 0≤r5.1∧r5.1<(r5.2.2.2.1.length:Int) then ((Q26.f (r5.2.2.2.2.2.2.1,r5.2.2.2.2.2.2.2) r5.1).bind fun r3=>(some (0,((r5.2.2.1.1,r5.2.2.1.2.1,(r5.2.2.1.2.2.1,r5.2.2.1.2.2.2)),(r5.2.2.2.1.set r5.1.toNat (a1,(List.replicate r2.toNat (0:Int)),true,1)),(Vt a1 r5.1 r5.2.2.2.2.1),r5.2.2.2.2.2.1,r3.2)))) else none) else none)))) else ((Q54.f (a0.1.1,a0.1.2.1,(a0.1.2.2.1,a0.1.2.2.2))).bind fun r2=>(if 0≤r2∧r2*1≤281474976710656 then (if 0≤(Zq (0:Int) a0.2.2.1 a1)∧(Zq (0:Int) a0.2.2.1 a1)<(a0.2.1.length:Int) then ((Q26.f (a0.2.2.2.2.1,a0.2.2.2.2.2) (Zq (0:Int) a0.2.2.1 a1)).bind fun r3=>(some (0,((a0.1.1,a0.1.2.1,(a0.1.2.2.1,a0.1.2.2.2)),(a0.2.1.set (Zq (0:Int) a0.2.2.1 a1).toNat (a1,(List.replicate r2.toNat (0:Int)),true,1)),(Vt a1 (Zq (0:Int) a0.2.2.1 a1) a0.2.2.1),a0.2.2.2.1,r3.2)))) else none) else none)))))
theorem Q17.spec {a0 a1 b1 b2 b3 b4 A1 c_1 A2 c_2 A3 c_3 A4 c_4 r} (H:Q17.f a0 a1=some r) :
  Spec Tryz.prog 140 [.pointer (some ⟨b1,0,none⟩),.int .u32 a1] (Wf a0 b1 b2 b3 b4 A1 A2 A3 A4 c_1 c_2 c_3 c_4) [] (fun v l=>∃ A_0 c_0 A_1 c_1 A_2 c_2 A_3 c_3,v=.int .i64 r.1∧l=Wf r.2 b1 b2 b3 b4 A_0 A_1 A_2 A_3 c_0 c_1 c_2 c_3):=by
 refine Zi Tryz.func140 fun w0 F0 h0=>?_
 replace h0:=nf h0
 unfold Q17.f at H
 refine T4 (Za [0,1] ?_)
 refine T4 (T4 (T2 ?_))
 refine Zd 2 ?_
 refine cS H [0,0,0,0,0,0,0,0] h0 rfl Q25.spec Zp fun r1 w1 H h1=>?_
 refine Ze [0,1,5] rfl ?_
 refine T4 (Za [0,1,5,12] ?_)
 refine jIf H (fun c1 H=>?_) fun c1 H=>?_
 ·refine T4 (Za [4] ?_)
  cases H
  exact T3 (jR ⟨_,_,_,_,_,_,_,_,rfl,rfl⟩ h1 [0,0,0,0,0,0,0,0])
 refine T5 (T4 (T2 ?_))
 refine Zd 3 ?_
 refine Zc (Zb 0 h1.wht) ?_
 refine Zd 1 ?_
 refine Zc (Wa (0:Int) 4 h1.wht) ?_
 refine Ze [0,1,6,7] rfl ?_
 refine T4 (T1 (fun env w=>∃(x1:Int) (x2:TU) (A5:Option Addr) (c_5:Nat) (x3:Int) (x4:Int) (x5:Tv) (A6:Option Addr) (c_6:Nat) (x6:TJ) (x7:TU) (A7:Option Addr) (c_7:Nat) (x8:TD) (A8:Option Addr) (c_8:Nat) (x9:Int) (x10:Int),env=[(0,.pointer (some ⟨b1,0,none⟩)),(1,.int .u32 a1),(6,.int .i64 x10)]∧St w0 F0 [Xp b1 (.pointer (some ⟨b2,0,none⟩)) x5 A6 c_6 (.map (some b3)) x7 A7 c_7 (.pointer (some ⟨b4,0,none⟩)),Xf b2 x1 x2 A5 c_5 x3 x4,Y2 .u32 (Value.int .i64) b3 x6,Yx b4 x8 A8 c_8 x9,O5 x2 A5 c_5,Xm x5 A6 c_6,O3 x7 A7 c_7,Yy x8 A8 c_8] [] w∧((Q54.f (x1,x2,(x3,x4))).bind fun r2=>(if 0≤r2∧r2*1≤281474976710656 then (if 0≤x10∧x10<(x5.length:Int) then ((Q26.f (x8,x9) x10).bind fun r3=>(some (0,((x1,x2,(x3,x4)),(x5.set x10.toNat (a1,(List.replicate r2.toNat (0:Int)),true,1)),(Vt a1 x10 x6),x7,r3.2)))) else none) else none))=some r) ?_ ?_)
 ·refine TW (T4 (T2 ?_))
  refine Zd 2 ?_
  refine Z7 25 H (fun c2 H=>?_) fun c2 H=>?_
  ·refine Zd 3 ?_
   refine Zc (Zb 0 h1.wht) ?_
   refine Zd 1 ?_
   obtain ⟨⟨p5,p6⟩,H⟩:=Zl H
   have e2:=Zx h1.wh (gO 3) p5 p6
   refine Zc (Zg e2 p5 p6) ?_
   refine Zd 1 ?_
   refine Zc (Yn 3 h1.wht (gO 3) p5 p6) ?_
   refine Ze [0,1,6,7,23] rfl ?_
   refine jIf H (fun c3 H=>?_) fun c3 H=>?_
   ·refine T4 (Za [4] ?_)
    cases H
    exact T3 (jR ⟨_,_,_,_,_,_,_,_,rfl,rfl⟩ h1 [0,0,0,0,0,0,0,0])
   refine T4 (Za [0,1,6,36] ?_)
   refine jIf H (fun c4 H=>?_) fun c4 H=>?_
   ·refine T4 (T2 ?_)
    refine Zd 1 ?_
    refine cE H [0,0,0,0,0,0,0,0] h1 rfl Q24.spec Zp ?_
    rintro r4 w11 _ _ H ⟨A10,c_10,A11,c_11,A12,c_12,A13,c_13,rfl,rfl⟩ h13
    replace h13:=nf h13
    refine Ze [0,1,6,7] rfl ?_
    refine T4 (Za [0,1,6,45] ?_)
    refine jIf H (fun c5 H=>?_) fun c5 H=>?_
    ·refine T4 (Za [4] ?_)
     cases H
     exact T3 (jR ⟨_,_,_,_,_,_,_,_,rfl,rfl⟩ h13 [0,0,0,0,0,0,0,0])
    refine Ws [0,1,6] ?_
    refine T5 ?_
    have h14:=(sOR h13 [0,0,2,3,0,0,0,0] [])
    exact ⟨r4.2.2.1.1,r4.2.2.1.2.1,A10,c_10,r4.2.2.1.2.2.1,r4.2.2.1.2.2.2,r4.2.2.2.1,A11,c_11,r4.2.2.2.2.1,r4.2.2.2.2.2.1,A12,c_12,r4.2.2.2.2.2.2.1,A13,c_13,r4.2.2.2.2.2.2.2,r4.1,rfl,h14,H⟩
   refine Ws [0,1,6] ?_
   refine T5 ?_
   have h15:=(sOR h1 [0,0,2,3,0,0,0,0] [])
   exact ⟨a0.1.1,a0.1.2.1,A1,c_1,a0.1.2.2.1,a0.1.2.2.2,a0.2.1,A2,c_2,a0.2.2.1,a0.2.2.2.1,A3,c_3,a0.2.2.2.2.1,A4,c_4,a0.2.2.2.2.2,(Zq (0:Int) a0.2.2.1 a1),rfl,h15,H⟩
  refine Ze [0,1,6,7,23] rfl ?_
  refine Z5 ?_
  refine T4 (Za [0,1,6,36] ?_)
  refine jIf H (fun c6 H=>?_) fun c6 H=>?_
  ·refine T4 (T2 ?_)
   refine Zd 1 ?_
   refine cE H [0,0,0,0,0,0,0,0] h1 rfl Q24.spec Zp ?_
   rintro r5 w12 _ _ H ⟨A14,c_14,A15,c_15,A16,c_16,A17,c_17,rfl,rfl⟩ h16
   replace h16:=nf h16
   refine Ze [0,1,6,7] rfl ?_
   refine T4 (Za [0,1,6,45] ?_)
   refine jIf H (fun c7 H=>?_) fun c7 H=>?_
   ·refine T4 (Za [4] ?_)
    cases H
    exact T3 (jR ⟨_,_,_,_,_,_,_,_,rfl,rfl⟩ h16 [0,0,0,0,0,0,0,0])
   refine Ws [0,1,6] ?_
   refine T5 ?_
   have h17:=(sOR h16 [0,0,2,3,0,0,0,0] [])
   exact ⟨r5.2.2.1.1,r5.2.2.1.2.1,A14,c_14,r5.2.2.1.2.2.1,r5.2.2.1.2.2.2,r5.2.2.2.1,A15,c_15,r5.2.2.2.2.1,r5.2.2.2.2.2.1,A16,c_16,r5.2.2.2.2.2.2.1,A17,c_17,r5.2.2.2.2.2.2.2,r5.1,rfl,h17,H⟩
  refine Ws [0,1,6] ?_
  refine T5 ?_
  have h18:=(sOR h1 [0,0,2,3,0,0,0,0] [])
  exact ⟨a0.1.1,a0.1.2.1,A1,c_1,a0.1.2.2.1,a0.1.2.2.2,a0.2.1,A2,c_2,a0.2.2.1,a0.2.2.2.1,A3,c_3,a0.2.2.2.2.1,A4,c_4,a0.2.2.2.2.2,(Zq (0:Int) a0.2.2.1 a1),rfl,h18,H⟩
 rintro env w3 ⟨x1,x2,A5,c_5,x3,x4,x5,A6,c_6,x6,x7,A7,c_7,x8,A8,c_8,x9,x10,rfl,h2,H⟩
 refine T4 (T2 ?_)
 refine Zd 6 ?_
 refine Zc (Zb 0 h2.wht) ?_
 refine cS H [1,3] h2 rfl Q54.spec Zp fun r2 w4 H h3=>?_
 obtain ⟨⟨p1,p2⟩,H⟩:=Zl H
 refine rB (Jq Yj (ty:=(.int .u8)) rfl (0:Int) rfl rfl rfl rfl rfl rfl rfl (by decide) h3 p1 p2) fun b5 w5 h4=>?_
 refine Zd 1 ?_
 refine Yg Tryz.func127 ?_
 refine T4 (T2 ?_)
 refine rB (Z4 h4) fun b6 w6 h5=>?_
 refine Ze [0,1,5] rfl ?_
 refine T4 (T2 ?_)
 refine Zd 1 ?_
 refine rS (Zs 0 h5) fun _ w7 h6=>?_
 refine Ze [0,1,5] rfl ?_
 refine T4 (Zw (sO h6 [0,1,1,1,1,1,2,2]) ?_)
 have h7:=h6.drew
 refine Zo [0,1,2,4] ?_
 refine Zf 3 rfl (Zb 3 wI) ?_
 refine Zf 5 rfl (Zb 0 wI) ?_
 obtain ⟨⟨p3,p4⟩,H⟩:=Zl H
 have e1:=Zx h7.wh (gO 7) p3 p4
 refine Zf 6 rfl (Zg e1 p3 p4) ?_
 have h8:=(h7.only [7,1,0,0,0,0,0,0,0,0] rfl).both
 refine hS 7 rfl (Vg 0 (.pair (.int .u32) (.pair (.slice 5 (.int .u8)) (.pair .bool (.int .i64)))) x10 (a1,(List.replicate r2.toNat (0:Int)),true,1) h8 p3 p4 Zdq) 1 fun _ w8 h9=>?_
 replace h9:St w0 F0 [Xm (x5.set x10.toNat (a1,(List.replicate r2.toNat (0:Int)),true,1)) A6 c_6,Ziy b6 a1 (List.replicate r2.toNat (0:Int)) (some ⟨b5,0,none⟩) (r2.toNat) true 1,Xf b2 x1 x2 A5 c_5 x3 x4,O5 x2 A5 c_5,Xp b1 (.pointer (some ⟨b2,0,none⟩)) (x5.set x10.toNat (a1,(List.replicate r2.toNat (0:Int)),true,1)) A6 c_6 (.map (some b3)) x7 A7 c_7 (.pointer (some ⟨b4,0,none⟩)),Y2 .u32 (Value.int .i64) b3 x6,Yx b4 x8 A8 c_8 x9,O3 x7 A7 c_7,Yy x8 A8 c_8] _ _:=h9.retell (by simp only [List.length_set,List.length_nil,Xm,Yy,O3,O5,Xf,Ziy,Xp,Yx] <;> rfl)
 refine Zt [0,1,5] ?_
 refine T4 (Zw (sO h9 [0,0,0,0,0,1,1,1]) ?_)
 have h10:=h9.drew
 refine Zo [0,1,2,4,6] ?_
 refine Zf 3 rfl (Zb 4 wI) ?_
 refine Zf 5 rfl (Zb 1 wI) ?_
 refine hS 7 rfl (Zef Yj (v:=x10) (ix:=a1) 5 rfl h10 rfl rfl rfl rfl rfl rfl rfl rfl rfl) 1 fun _ w9 h11=>?_
 refine Zt [0,1] ?_
 refine T2 (Zd 3 ?_)
 refine Zc (Zb 5 h11.wht) ?_
 refine Zd 1 ?_
 refine cE H [6,7] h11 rfl Q26.spec Zp ?_
 rintro r3 w10 _ _ H ⟨A9,c_9,rfl,rfl⟩ h12
 replace h12:=nf h12
 refine Ze [] rfl ?_
 refine ⟨_,Zj,?_⟩
 refine Ze [] rfl ?_
 refine T4 (Za [4] ?_)
 cases H
 exact T3 (jR ⟨_,_,_,_,_,_,_,_,rfl,rfl⟩ h12 [7,5,5,3,2,3,0,0])

def Q31.f (a0:TA) (a1:Int) (a2:Int):Option (TA):=if 0≤a2∧a2<(a0.1.length:Int) then (if 0≤a1∧a1<(a0.1.length:Int) then (if 0≤a2∧a2<((a0.1.set a1.toNat (a2,(gt a0.1 a2).2.1,true)).length:Int) then (if 0≤((gt a0.1 a2).2.1)∧((gt a0.1 a2).2.1)<(((a0.1.set a1.toNat (a2,(gt a0.1 a2).2.1,true)).set a2.toNat ((gt (a0.1.set a1.toNat (a2,(gt a0.1 a2).2.1,true)) a2).1,a1,(gt (a0.1.set a1.toNat (a2,(gt a0.1 a2).2.1,true)) a2).2.2)).length:Int) then (some ((((a0.1.set a1.toNat (a2,(gt a0.1 a2).2.1,true)).set a2.toNat ((gt (a0.1.set a1.toNat (a2,(gt a0.1 a2).2.1,true)) a2).1,a1,(gt (a0.1.set a1.toNat (a2,(gt a0.1 a2).2.1,true)) a2).2.2)).set ((gt a0.1 a2).2.1).toNat (a1,(gt ((a0.1.set a1.toNat (a2,(gt a0.1 a2).2.1,true)).set a2.toNat ((gt (a0.1.set a1.toNat (a2,(gt a0.1 a2).2.1,true)) a2).1,a1,(gt (a0.1.set a1.toNat (a2,(gt a0.1 a2).2.1,true)) a2).2.2)) ((gt a0.1 a2).2.1)).2.1,(gt ((a0.1.set a1.toNat (a2,(gt a0.1 a2).2.1,true)).set a2.toNat ((gt (a0.1.set a1.toNat (a2,(gt a0.1 a2).2.1,true)) a2).1,a1,(gt (a0.1.set a1.toNat (a2,(gt a0.1 a2).2.1,true)) a2).2.2)) ((gt a0.1 a2).2.1)).2.2)),(w64 (a0.2+1)))) else none) else none) else none) else none
theorem Q31.spec {a0 a1 a2 b1 A1 c_1 r} (H:Q31.f a0 a1 a2=some r) :
  Spec Tryz.prog 174 [.pointer (some ⟨b1,0,none⟩),.int .i64 a1,.int .i64 a2] (W9 a0 b1 A1 c_1) [] (fun v l=>∃ A_0 c_0,v=.tuple #[]∧l=W9 r b1 A_0 c_0):=by
 refine Zi Tryz.func174 fun w0 F0 h0=>?_
 replace h0:=nf h0
 unfold Q31.f at H
 refine T4 (T2 ?_)
 refine Zd 3 ?_
 refine Zc (Zb 0 h0.wht) ?_
 refine Zd 1 ?_
 obtain ⟨⟨p1,p2⟩,H⟩:=Zl H
 have e1:=Zx h0.wh (gO 1) p1 p2
 refine Zc (Zg e1 p1 p2) ?_
 refine Zd 1 ?_
 refine Zc (Zh 1 h0.wht (gO 1) p1 p2) ?_
 refine Ze [0,1,2,6] rfl ?_
 refine T4 (T2 ?_)
 refine Zd 3 ?_
 refine Zc (Zb 0 h0.wht) ?_
 refine Zd 4 ?_
 obtain ⟨⟨p3,p4⟩,H⟩:=Zl H
 refine Zc (Zg e1 p3 p4) ?_
 refine rS (Zm 0 (.pair (.int .i64) (.pair (.int .i64) .bool)) a1 (a2,(gt a0.1 a2).2.1,true) 1 h0 rfl p3 p4) fun _ w1 h1=>?_
 replace h1:St w0 F0 [Yy (a0.1.set a1.toNat (a2,(gt a0.1 a2).2.1,true)) A1 c_1,Yx b1 (a0.1.set a1.toNat (a2,(gt a0.1 a2).2.1,true)) A1 c_1 a0.2] _ _:=h1.retell (by simp only [List.length_set,List.length_nil,Yy,Yx] <;> rfl)
 refine Ze [0,1,2,6] rfl ?_
 refine T4 (T2 ?_)
 refine Zd 3 ?_
 refine Zc (Zb 1 h1.wht) ?_
 refine Zd 2 ?_
 obtain ⟨⟨p5,p6⟩,H⟩:=Zl H
 refine Zc (Zg e1 p5 p6) ?_
 refine Zd 1 ?_
 refine rS (Zm 1 (.pair (.int .i64) (.pair (.int .i64) .bool)) a2 ((gt (a0.1.set a1.toNat (a2,(gt a0.1 a2).2.1,true)) a2).1,a1,(gt (a0.1.set a1.toNat (a2,(gt a0.1 a2).2.1,true)) a2).2.2) 0 h1 rfl p5 p6) fun _ w2 h2=>?_
 replace h2:St w0 F0 [Yy ((a0.1.set a1.toNat (a2,(gt a0.1 a2).2.1,true)).set a2.toNat ((gt (a0.1.set a1.toNat (a2,(gt a0.1 a2).2.1,true)) a2).1,a1,(gt (a0.1.set a1.toNat (a2,(gt a0.1 a2).2.1,true)) a2).2.2)) A1 c_1,Yx b1 ((a0.1.set a1.toNat (a2,(gt a0.1 a2).2.1,true)).set a2.toNat ((gt (a0.1.set a1.toNat (a2,(gt a0.1 a2).2.1,true)) a2).1,a1,(gt (a0.1.set a1.toNat (a2,(gt a0.1 a2).2.1,true)) a2).2.2)) A1 c_1 a0.2] _ _:=h2.retell (by simp only [List.length_set,List.length_nil,Yy,Yx] <;> rfl)
 refine Ze [0,1,6] rfl ?_
 refine T4 (T2 ?_)
 refine Zd 3 ?_
 refine Zc (Zb 1 h2.wht) ?_
 refine Zd 2 ?_
 obtain ⟨⟨p7,p8⟩,H⟩:=Zl H
 refine Zc (Zg e1 p7 p8) ?_
 refine Zd 1 ?_
 refine rS (Zm 0 (.pair (.int .i64) (.pair (.int .i64) .bool)) ((gt a0.1 a2).2.1) (a1,(gt ((a0.1.set a1.toNat (a2,(gt a0.1 a2).2.1,true)).set a2.toNat ((gt (a0.1.set a1.toNat (a2,(gt a0.1 a2).2.1,true)) a2).1,a1,(gt (a0.1.set a1.toNat (a2,(gt a0.1 a2).2.1,true)) a2).2.2)) ((gt a0.1 a2).2.1)).2.1,(gt ((a0.1.set a1.toNat (a2,(gt a0.1 a2).2.1,true)).set a2.toNat ((gt (a0.1.set a1.toNat (a2,(gt a0.1 a2).2.1,true)) a2).1,a1,(gt (a0.1.set a1.toNat (a2,(gt a0.1 a2).2.1,true)) a2).2.2)) ((gt a0.1 a2).2.1)).2.2) 0 h2 rfl p7 p8) fun _ w3 h3=>?_
 replace h3:St w0 F0 [Yy (((a0.1.set a1.toNat (a2,(gt a0.1 a2).2.1,true)).set a2.toNat ((gt (a0.1.set a1.toNat (a2,(gt a0.1 a2).2.1,true)) a2).1,a1,(gt (a0.1.set a1.toNat (a2,(gt a0.1 a2).2.1,true)) a2).2.2)).set ((gt a0.1 a2).2.1).toNat (a1,(gt ((a0.1.set a1.toNat (a2,(gt a0.1 a2).2.1,true)).set a2.toNat ((gt (a0.1.set a1.toNat (a2,(gt a0.1 a2).2.1,true)) a2).1,a1,(gt (a0.1.set a1.toNat (a2,(gt a0.1 a2).2.1,true)) a2).2.2)) ((gt a0.1 a2).2.1)).2.1,(gt ((a0.1.set a1.toNat (a2,(gt a0.1 a2).2.1,true)).set a2.toNat ((gt (a0.1.set a1.toNat (a2,(gt a0.1 a2).2.1,true)) a2).1,a1,(gt (a0.1.set a1.toNat (a2,(gt a0.1 a2).2.1,true)) a2).2.2)) ((gt a0.1 a2).2.1)).2.2)) A1 c_1,Yx b1 (((a0.1.set a1.toNat (a2,(gt a0.1 a2).2.1,true)).set a2.toNat ((gt (a0.1.set a1.toNat (a2,(gt a0.1 a2).2.1,true)) a2).1,a1,(gt (a0.1.set a1.toNat (a2,(gt a0.1 a2).2.1,true)) a2).2.2)).set ((gt a0.1 a2).2.1).toNat (a1,(gt ((a0.1.set a1.toNat (a2,(gt a0.1 a2).2.1,true)).set a2.toNat ((gt (a0.1.set a1.toNat (a2,(gt a0.1 a2).2.1,true)) a2).1,a1,(gt (a0.1.set a1.toNat (a2,(gt a0.1 a2).2.1,true)) a2).2.2)) ((gt a0.1 a2).2.1)).2.1,(gt ((a0.1.set a1.toNat (a2,(gt a0.1 a2).2.1,true)).set a2.toNat ((gt (a0.1.set a1.toNat (a2,(gt a0.1 a2).2.1,true)) a2).1,a1,(gt (a0.1.set a1.toNat (a2,(gt a0.1 a2).2.1,true)) a2).2.2)) ((gt a0.1 a2).2.1)).2.2)) A1 c_1 a0.2] _ _:=h3.retell (by simp only [List.length_set,List.length_nil,Yy,Yx] <;> rfl)
 refine Ze [0] rfl ?_
 refine T2 (Zd 3 ?_)
 refine Zc (Zb 1 h3.wht) ?_
 refine Zd 3 ?_
 refine rS (Zs 1 h3) fun _ w4 h4=>?_
 refine Ze [] rfl ?_
 cases H
 exact ⟨_,_,_,Zj,⟨_,_,rfl,rfl⟩,sO h4 [0,0]⟩

def Q27.f (a0:TA) (a1:Int):Option Tu:=(Q33.f a0 a1).bind fun r1=>(if (decide (r1=0))=true then ((Q30.f a0 a1).bind fun r2=>((Q32.f r2).bind fun r3=>((Q31.f r2 a1 r3).bind fun r4=>(some (r1,r4))))) else (some (r1,a0)))
theorem Q27.spec {a0 a1 b1 A1 c_1 r} (H:Q27.f a0 a1=some r) :
  Spec Tryz.prog 129 [.pointer (some ⟨b1,0,none⟩),.int .i64 a1] (W9 a0 b1 A1 c_1) [] (fun v l=>∃ A_0 c_0,v=.int .i64 r.1∧l=W9 r.2 b1 A_0 c_0):=by
 refine Zi Tryz.func129 fun w0 F0 h0=>?_
 replace h0:=nf h0
 unfold Q27.f at H
 refine T4 (Za [0,1] ?_)
 refine T4 (T2 ?_)
 refine Zd 2 ?_
 refine cS H [0,0] h0 rfl Q33.spec Zp fun r1 w1 H h1=>?_
 refine Ze [0,1,5] rfl ?_
 refine T4 (T4 (Za [0,1,5,10] ?_))
 refine jIf H (fun c1 H=>?_) fun c1 H=>?_
 ·refine T4 (T2 ?_)
  refine Zd 2 ?_
  refine cE H [0,0] h1 rfl Q30.spec Zp ?_
  rintro r2 w2 _ _ H ⟨A2,c_2,rfl,rfl⟩ h2
  replace h2:=nf h2
  refine Ze [0,1,5] rfl ?_
  refine T2 (Zd 3 ?_)
  refine cS H [0,0] h2 rfl Q32.spec Zp fun r3 w3 H h3=>?_
  refine cE H [0,0] h3 rfl Q31.spec Zp ?_
  rintro r4 w4 _ _ H ⟨A3,c_3,rfl,rfl⟩ h4
  replace h4:=nf h4
  refine Ze [5] rfl ?_
  refine T4 (Za [4] ?_)
  cases H
  exact T3 (jR ⟨_,_,rfl,rfl⟩ h4 [0,0])
 refine T5 (T4 (Za [4] ?_))
 cases H
 exact T3 (jR ⟨_,_,rfl,rfl⟩ h1 [0,0])

def Q20.f (a0:Ti) (a1:Int):Option Th:=(Q23.f a0).bind fun r1=>(if r1=true then (some (1,a0)) else (if (!(Y1 a0.2.2.1 a1))=true then (some (8,a0)) else (if 0≤(Zq (0:Int) a0.2.2.1 a1)∧(Zq (0:Int) a0.2.2.1 a1)<(a0.2.1.length:Int) then (if (decide (((gt a0.2.1 (Zq (0:Int) a0.2.2.1 a1)).2.2.2)=0))=true then (some (8,a0)) else (if (decide (((gt (a0.2.1.set (Zq (0:Int) a0.2.2.1 a1).toNat ((gt a0.2.1 (Zq (0:Int) a0.2.2.1 a1)).1,(gt a0.2.1 (Zq (0:Int) a0.2.2.1 a1)).2.1,(gt a0.2.1 (Zq (0:Int) a0.2.2.1 a1)).2.2.1,(w64 (((gt a0.2.1 (Zq (0:Int) a0.2.2.1 a1)).2.2.2) - 1)))) (Zq (0:Int) a0.2.2.1 a1)).2.2.2)=0))=true then ((Q27.f a0.2.2.2.2 (Zq (0:Int) a0.2.2.1 a1)).bind fun r2=>(some (0,(a0.1,(a0.2.1.set (Zq (0:Int) a0.2.2.1 a1).toNat ((gt a0.2.1 (Zq (0:Int) a0.2.2.1 a1)).1,(gt a0.2.1 (Zq (0:Int) a0.2.2.1 a1)).2.1,(gt a0.2.1 (Zq (0:Int) a0.2.2.1 a1)).2.2.1,(w64 (((gt a0.2.1 (Zq (0:Int) a0.2.2.1 a1)).2.2.2) - 1)))),a0.2.2.1,a0.2.2.2.1,r2.2)))) else (some (0,(a0.1,(a0.2.1.set (Zq (0:Int) a0.2.2.1 a1).toNat ((gt a0.2.1 (Zq (0:Int) a0.2.2.1 a1)).1,(gt a0.2.1 (Zq (0:Int) a0.2.2.1 a1)).2.1,(gt a0.2.1 (Zq (0:Int) a0.2.2.1 a1)).2.2.1,(w64 (((gt a0.2.1 (Zq (0:Int) a0.2.2.1 a1)).2.2.2) - 1)))),a0.2.2.1,a0.2.2.2.1,a0.2.2.2.2))))) else none)))
theorem Q20.spec {a0 a1 b1 b2 b3 b4 A1 c_1 A2 c_2 A3 c_3 A4 c_4 r} (H:Q20.f a0 a1=some r) :
  Spec Tryz.prog 79 [.pointer (some ⟨b1,0,none⟩),.int .u32 a1] (Wf a0 b1 b2 b3 b4 A1 A2 A3 A4 c_1 c_2 c_3 c_4) [] (fun v l=>∃ A_0 c_0 A_1 c_1 A_2 c_2 A_3 c_3,v=.int .i64 r.1∧l=Wf r.2 b1 b2 b3 b4 A_0 A_1 A_2 A_3 c_0 c_1 c_2 c_3):=by
 refine Zi Tryz.func79 fun w0 F0 h0=>?_
 replace h0:=nf h0
 unfold Q20.f at H
 refine T4 (Za [0,1] ?_)
 refine T4 (T2 ?_)
 refine Zd 2 ?_
 refine Yg Tryz.func128 ?_
 refine T4 (Za [0,1] ?_)
 refine T4 (T4 (T2 ?_))
 refine Zd 1 ?_
 refine cS H [0,0,0,0,0,0,0,0] h0 rfl Q23.spec Zp fun r1 w1 H h1=>?_
 refine Ze [0,1,9] rfl ?_
 refine jIf H (fun c1 H=>?_) fun c1 H=>?_
 ·refine T4 (Za [4,5] ?_)
  refine T3 (⟨_,Zj,?_⟩)
  refine Ze [0,1,5,6] rfl ?_
  refine T4 (T4 (Za [0,1,5,6,14] ?_))
  refine Zn ?_
  refine T4 (Za [4] ?_)
  cases H
  exact T3 (jR ⟨_,_,_,_,_,_,_,_,rfl,rfl⟩ h1 [0,0,0,0,0,0,0,0])
 refine T5 (T4 (T2 ?_))
 refine Zd 3 ?_
 refine Zc (Zb 0 h1.wht) ?_
 refine Zd 1 ?_
 refine Zc (Wa (0:Int) 4 h1.wht) ?_
 refine Ze [0,6,7] rfl ?_
 refine T4 (T4 (T2 ?_))
 refine Zd 3 ?_
 refine Z7 21 H (fun c2 H=>?_) fun c2 H=>?_
 ·refine Ze [0,6,31] rfl ?_
  refine Zn ?_
  refine T4 (Za [4,5] ?_)
  refine T3 (⟨_,Zj,?_⟩)
  refine Ze [0,1,5,6] rfl ?_
  refine T4 (T4 (Za [0,1,5,6,14] ?_))
  refine Zn ?_
  refine T4 (Za [4] ?_)
  cases H
  exact T3 (jR ⟨_,_,_,_,_,_,_,_,rfl,rfl⟩ h1 [0,0,0,0,0,0,0,0])
 refine Zd 3 ?_
 refine Zc (Zb 0 h1.wht) ?_
 refine Zd 1 ?_
 obtain ⟨⟨p1,p2⟩,H⟩:=Zl H
 have e1:=Zx h1.wh (gO 3) p1 p2
 refine Zc (Zg e1 p1 p2) ?_
 refine Zd 1 ?_
 refine Zc (Yn 3 h1.wht (gO 3) p1 p2) ?_
 refine Ze [0,6,31] rfl ?_
 refine jIf H (fun c3 H=>?_) fun c3 H=>?_
 ·refine T4 (Za [4,5] ?_)
  refine T3 (⟨_,Zj,?_⟩)
  refine Ze [0,1,5,6] rfl ?_
  refine T4 (T4 (Za [0,1,5,6,14] ?_))
  refine Zn ?_
  refine T4 (Za [4] ?_)
  cases H
  exact T3 (jR ⟨_,_,_,_,_,_,_,_,rfl,rfl⟩ h1 [0,0,0,0,0,0,0,0])
 refine T5 (T4 (T2 ?_))
 refine Zd 3 ?_
 refine Zc (Zb 0 h1.wht) ?_
 refine Zd 1 ?_
 refine Zc (Zg e1 p1 p2) ?_
 refine Ze [4,5] rfl ?_
 refine T3 (⟨_,Zj,?_⟩)
 refine Ze [0,1,5,6] rfl ?_
 refine T4 (T4 (Za [0,1,5,6,14] ?_))
 refine Z5 ?_
 refine T5 (T4 (T2 ?_))
 refine Zd 3 ?_
 refine Zc (Yn 3 h1.wht (gO 3) p1 p2) ?_
 refine Zd 3 ?_
 refine rS (Wd 3 (.pair (.int .u32) (.pair (.slice 5 (.int .u8)) (.pair .bool (.int .i64)))) (Zq (0:Int) a0.2.2.1 a1) ((gt a0.2.1 (Zq (0:Int) a0.2.2.1 a1)).1,(gt a0.2.1 (Zq (0:Int) a0.2.2.1 a1)).2.1,(gt a0.2.1 (Zq (0:Int) a0.2.2.1 a1)).2.2.1,(w64 (((gt a0.2.1 (Zq (0:Int) a0.2.2.1 a1)).2.2.2) - 1))) 3 h1 rfl p1 p2 (Ju rfl rfl)) fun _ w2 h2=>?_
 replace h2:St w0 F0 [Xm (a0.2.1.set (Zq (0:Int) a0.2.2.1 a1).toNat ((gt a0.2.1 (Zq (0:Int) a0.2.2.1 a1)).1,(gt a0.2.1 (Zq (0:Int) a0.2.2.1 a1)).2.1,(gt a0.2.1 (Zq (0:Int) a0.2.2.1 a1)).2.2.1,(w64 (((gt a0.2.1 (Zq (0:Int) a0.2.2.1 a1)).2.2.2) - 1)))) A2 c_2,Xp b1 (.pointer (some ⟨b2,0,none⟩)) (a0.2.1.set (Zq (0:Int) a0.2.2.1 a1).toNat ((gt a0.2.1 (Zq (0:Int) a0.2.2.1 a1)).1,(gt a0.2.1 (Zq (0:Int) a0.2.2.1 a1)).2.1,(gt a0.2.1 (Zq (0:Int) a0.2.2.1 a1)).2.2.1,(w64 (((gt a0.2.1 (Zq (0:Int) a0.2.2.1 a1)).2.2.2) - 1)))) A2 c_2 (.map (some b3)) a0.2.2.2.1 A3 c_3 (.pointer (some ⟨b4,0,none⟩)),Xf b2 a0.1.1 a0.1.2.1 A1 c_1 a0.1.2.2.1 a0.1.2.2.2,O5 a0.1.2.1 A1 c_1,Y2 .u32 (Value.int .i64) b3 a0.2.2.1,O3 a0.2.2.2.1 A3 c_3,Yx b4 a0.2.2.2.2.1 A4 c_4 a0.2.2.2.2.2,Yy a0.2.2.2.2.1 A4 c_4] _ _:=h2.retell (by simp only [List.length_set,List.length_nil,Xm,Yy,O3,O5,Xf,Xp,Yx] <;> rfl)
 refine Ze [0,1,5] rfl ?_
 refine T4 (T4 (T2 ?_))
 refine Zd 3 ?_
 refine Zc (Yn 3 h2.wht (gO 0) p1 (by simpa only [List.length_set] using p2)) ?_
 refine Ze [0,1,27] rfl ?_
 refine jIf H (fun c4 H=>?_) fun c4 H=>?_
 ·refine Zw (sO h2 [0,0,0,0,0,0]) ?_
  have h3:=h2.drew
  refine Zo [0,1,2,4,5,6,8] ?_
  refine Zf 3 rfl (Zb 1 wI) ?_
  refine Zf 7 rfl (Zb 1 wI) ?_
  refine Zf 9 rfl (J0 (0:Int) 4 wI) ?_
  refine cEJ 10 rfl H [6,6] h3 rfl Q27.spec Zp ?_
  rintro r2 w3 _ _ H ⟨A5,c_5,rfl,rfl⟩ h4
  replace h4:=nf h4
  refine ⟨⟨[_,_],h4⟩,?_⟩
  refine Zt [] ?_
  refine T4 (Za [4] ?_)
  cases H
  exact T3 (jR ⟨_,_,_,_,_,_,_,_,rfl,rfl⟩ h4 [3,3,3,2,2,2,0,0])
 refine T5 (T4 (Za [4] ?_))
 cases H
 exact T3 (jR ⟨_,_,_,_,_,_,_,_,rfl,rfl⟩ h2 [1,1,1,0,0,0,0,0])

def Q90.f (a0:Tc) (a1:Int) (a2:TU):Option Tb:=if (decide (a1=a0.2.2.2))=true then ((Q21.f a0.2.1 a1 a2).bind fun r1=>(some (r1.1,(a0.1,r1.2,a0.2.2.1,a0.2.2.2)))) else ((Q17.f a0.2.1 a1).bind fun r2=>(if (!decide (r2.1=0))=true then (some (r2.1,(a0.1,r2.2,a0.2.2.1,a0.2.2.2))) else ((Q21.f r2.2 a1 a2).bind fun r3=>((Q20.f r3.2 a1).bind fun r4=>(some (r3.1,(a0.1,r4.2,a0.2.2.1,a0.2.2.2)))))))
theorem Q90.spec {a0 a1 a2 A6 c_6 b1 b2 b3 b4 b5 b6 b7 A1 c_1 A2 c_2 A3 c_3 A4 c_4 A5 c_5 r} (H:Q90.f a0 a1 a2=some r) :
  Spec Tryz.prog 92 [.pointer (some ⟨b1,0,none⟩),.int .u32 a1,.slice A6 a2.length c_6] (X9 a0 b1 b2 b3 b4 b5 b6 b7 A1 A2 A3 A4 A5 c_1 c_2 c_3 c_4 c_5) [R5 a2 A6 c_6] (fun v l=>∃ A_0 c_0 A_1 c_1 A_2 c_2 A_3 c_3 A_4 c_4,v=.int .i64 r.1∧l=X9 r.2 b1 b2 b3 b4 b5 b6 b7 A_0 A_1 A_2 A_3 A_4 c_0 c_1 c_2 c_3 c_4):=by
 refine Zi Tryz.func92 fun w0 F0 h0=>?_
 replace h0:=nf h0
 unfold Q90.f at H
 refine T4 (Za [0,1,2] ?_)
 refine T4 (T4 (T2 ?_))
 refine Zd 4 ?_
 refine Zc (Zb 0 h0.wht) ?_
 refine Ze [0,1,2,14] rfl ?_
 refine jIf H (fun c1 H=>?_) fun c1 H=>?_
 ·refine T4 (T2 ?_)
  refine Zd 3 ?_
  refine Zc (Zb 0 h0.wht) ?_
  refine Zd 2 ?_
  refine cE H [1,1,1,1,1,1,1,1] h0 rfl Q21.spec (gS [4]) ?_
  rintro r1 w1 _ _ H ⟨A7,c_7,A8,c_8,A9,c_9,A10,c_10,rfl,rfl⟩ h1
  replace h1:=nf h1
  refine Ze [6] rfl ?_
  cases H
  exact T3 (jR ⟨_,_,_,_,_,_,_,_,_,_,rfl,rfl⟩ h1 [8,0,0,0,0,0,0,0,0,0,0,0])
 refine T5 (T4 (T4 (T2 ?_)))
 refine Zd 3 ?_
 refine Zc (Zb 0 h0.wht) ?_
 refine Zd 1 ?_
 refine cE H [1,1,1,1,1,1,1,1] h0 rfl Q17.spec Zp ?_
 rintro r2 w2 _ _ H ⟨A11,c_11,A12,c_12,A13,c_13,A14,c_14,rfl,rfl⟩ h2
 replace h2:=nf h2
 refine Ze [0,1,2,7] rfl ?_
 refine T4 (Za [0,1,2,7,29] ?_)
 refine jIf H (fun c2 H=>?_) fun c2 H=>?_
 ·refine T4 (Za [6] ?_)
  cases H
  exact T3 (jR ⟨_,_,_,_,_,_,_,_,_,_,rfl,rfl⟩ h2 [8,0,0,0,0,0,0,0,0,0,0,0])
 refine T5 (T4 (T2 ?_))
 refine Zd 3 ?_
 refine Zc (Zb 8 h2.wht) ?_
 refine Zd 2 ?_
 refine cE H [0,0,0,0,0,0,0,0] h2 rfl Q21.spec (gS [4]) ?_
 rintro r3 w3 _ _ H ⟨A15,c_15,A16,c_16,A17,c_17,A18,c_18,rfl,rfl⟩ h3
 replace h3:=nf h3
 refine Ze [0,1,8] rfl ?_
 refine T4 (T2 ?_)
 refine Zd 3 ?_
 refine Zc (Zb 8 h3.wht) ?_
 refine Zd 1 ?_
 refine cE H [0,0,0,0,0,0,0,0] h3 rfl Q20.spec Zp ?_
 rintro r4 w4 _ _ H ⟨A19,c_19,A20,c_20,A21,c_21,A22,c_22,rfl,rfl⟩ h4
 replace h4:=nf h4
 refine Ze [8] rfl ?_
 refine T4 (Za [6] ?_)
 cases H
 exact T3 (jR ⟨_,_,_,_,_,_,_,_,_,_,rfl,rfl⟩ h4 [8,0,0,0,0,0,0,0,0,0,0,0])

def Q3.f (a0:TG) (a1:Int):Option (Int×TG):=(Q10.f a0 a1).bind fun r1=>(if (!decide (r1=0))=true then (some (r1,a0)) else ((Q6.f a0 a1).bind fun r2=>(if (!r2)=true then (some (9,a0)) else (if 0≤(w64 (Int.tdiv a1 64))∧(w64 (Int.tdiv a1 64))<(a0.2.2.length:Int) then (if 0≤(Int.tmod a1 64) then (some (0,(a0.1,(w64 (a0.2.1 - 1)),(a0.2.2.set (w64 (Int.tdiv a1 64)).toNat (IntKind.u64.wrap (((BitVec.ofInt IntKind.u64.bits (gt a0.2.2 (w64 (Int.tdiv a1 64))) &&& ~~~(BitVec.ofInt IntKind.u64.bits (IntKind.u64.wrap ((1:Int)*2 ^ (min (Int.tmod a1 64).toNat 64))))).toNat:Int))))))) else none) else none))))
theorem Q3.spec {a0 a1 b1 A1 c_1 r} (H:Q3.f a0 a1=some r) :
  Spec Tryz.prog 141 [.pointer (some ⟨b1,0,none⟩),.int .i64 a1] (W8 a0 b1 A1 c_1) [] (fun v l=>∃ A_0 c_0,v=.int .i64 r.1∧l=W8 r.2 b1 A_0 c_0):=by
 refine Zi Tryz.func141 fun w0 F0 h0=>?_
 replace h0:=nf h0
 unfold Q3.f at H
 refine T4 (Za [0,1] ?_)
 refine T4 (T4 (T2 ?_))
 refine Zd 2 ?_
 refine cS H [0,0] h0 rfl Q10.spec Zp fun r1 w1 H h1=>?_
 refine Ze [0,1,5] rfl ?_
 refine T4 (Za [0,1,5,10] ?_)
 refine jIf H (fun c1 H=>?_) fun c1 H=>?_
 ·refine T4 (Za [4] ?_)
  cases H
  exact T3 (jR ⟨_,_,rfl,rfl⟩ h1 [0,0])
 refine T5 (T4 (T4 (T2 ?_)))
 refine Zd 2 ?_
 refine cS H [0,0] h1 rfl Q6.spec Zp fun r2 w2 H h2=>?_
 refine Ze [0,1,15] rfl ?_
 refine jIf H (fun c2 H=>?_) fun c2 H=>?_
 ·refine T4 (Za [4] ?_)
  cases H
  exact T3 (jR ⟨_,_,rfl,rfl⟩ h2 [0,0])
 refine T5 (T4 ?_)
 obtain ⟨⟨p1,p2⟩,H⟩:=Zl H
 obtain ⟨p3,H⟩:=Zl H
 refine T1 (fun env w=>env=[(0,.pointer (some ⟨b1,0,none⟩))]∧St w0 F0 [W6 b1 a0.1 a0.2.1 (a0.2.2.set (w64 (Int.tdiv a1 64)).toNat (IntKind.u64.wrap (((BitVec.ofInt IntKind.u64.bits (gt a0.2.2 (w64 (Int.tdiv a1 64))) &&& ~~~(BitVec.ofInt IntKind.u64.bits (IntKind.u64.wrap ((1:Int)*2 ^ (min (Int.tmod a1 64).toNat 64))))).toNat:Int)))) A1 c_1,O61 (a0.2.2.set (w64 (Int.tdiv a1 64)).toNat (IntKind.u64.wrap (((BitVec.ofInt IntKind.u64.bits (gt a0.2.2 (w64 (Int.tdiv a1 64))) &&& ~~~(BitVec.ofInt IntKind.u64.bits (IntKind.u64.wrap ((1:Int)*2 ^ (min (Int.tmod a1 64).toNat 64))))).toNat:Int)))) A1 c_1] [] w) ?_ ?_
 ·refine Zw (sO h2 [0]) ?_
  have h4:=h2.drew
  refine Zo [0,1,2,4,5,8,9] ?_
  refine Zf 3 rfl (Zb 0 wI) ?_
  have e2:=Zx h4.wh (gO 1) p1 p2
  refine Zf 6 rfl (Zg e2 p1 p2) ?_
  refine TV [7,10] (i:=7) rfl rfl rfl rfl ?_
  refine (Yb ?_ (Yb ?_ Xg))
  ·refine Xv 7 rfl (T7 (Zh 0 h4.wht (gO 1) p1 p2)) ?_
   rintro _ _ ⟨rfl,rfl⟩
   replace h4:=nf h4
   refine ⟨⟨[_],(sO h4 [1,0])⟩,?_⟩
   refine Zf 10 rfl (Gc p3) ?_
   refine Zo [11] ?_
   refine Zf 12 rfl (Zg e2 p1 p2) ?_
   refine hS 13 rfl (Zm 0 (.int .u64) (w64 (Int.tdiv a1 64)) (IntKind.u64.wrap (((BitVec.ofInt IntKind.u64.bits (gt a0.2.2 (w64 (Int.tdiv a1 64))) &&& ~~~(BitVec.ofInt IntKind.u64.bits (IntKind.u64.wrap ((1:Int)*2 ^ (min (Int.tmod a1 64).toNat 64))))).toNat:Int))) 1 h4 rfl p1 p2) 1 fun _ w4 h5=>?_
   replace h5:St w0 F0 [O61 (a0.2.2.set (w64 (Int.tdiv a1 64)).toNat (IntKind.u64.wrap (((BitVec.ofInt IntKind.u64.bits (gt a0.2.2 (w64 (Int.tdiv a1 64))) &&& ~~~(BitVec.ofInt IntKind.u64.bits (IntKind.u64.wrap ((1:Int)*2 ^ (min (Int.tmod a1 64).toNat 64))))).toNat:Int)))) A1 c_1,W6 b1 a0.1 a0.2.1 (a0.2.2.set (w64 (Int.tdiv a1 64)).toNat (IntKind.u64.wrap (((BitVec.ofInt IntKind.u64.bits (gt a0.2.2 (w64 (Int.tdiv a1 64))) &&& ~~~(BitVec.ofInt IntKind.u64.bits (IntKind.u64.wrap ((1:Int)*2 ^ (min (Int.tmod a1 64).toNat 64))))).toNat:Int)))) A1 c_1] _ _:=h5.retell (by simp only [List.length_set,List.length_nil,O61,W6] <;> rfl)
   refine Zt [0] ?_
   exact Zu ⟨(by simp only [List.length_set,List.length_nil] <;> rfl),((h5.only [1,0] rfl).rds [] rfl)⟩
  ·refine HS.op (i:=10) rfl rfl rfl (T7 (Zjq rfl rfl rfl p3)) ?_; rintro _ _ ⟨rfl,rfl⟩; replace h4:St w0 F0 [_,_] _ _:=h4; refine ⟨⟨[_],(h4.only [1,0] rfl)⟩,?_⟩
   refine Yl 7 rfl (T7 (Zh 0 h4.wht (gO 1) p1 p2)) ?_
   rintro _ _ ⟨rfl,rfl⟩
   replace h4:=nf h4
   refine ⟨⟨[_],(sO h4 [1,0])⟩,?_⟩
   refine Zo [11] ?_
   refine Zf 12 rfl (Zg e2 p1 p2) ?_
   refine hS 13 rfl (Zm 0 (.int .u64) (w64 (Int.tdiv a1 64)) (IntKind.u64.wrap (((BitVec.ofInt IntKind.u64.bits (gt a0.2.2 (w64 (Int.tdiv a1 64))) &&& ~~~(BitVec.ofInt IntKind.u64.bits (IntKind.u64.wrap ((1:Int)*2 ^ (min (Int.tmod a1 64).toNat 64))))).toNat:Int))) 1 h4 rfl p1 p2) 1 fun _ w5 h6=>?_
   replace h6:St w0 F0 [O61 (a0.2.2.set (w64 (Int.tdiv a1 64)).toNat (IntKind.u64.wrap (((BitVec.ofInt IntKind.u64.bits (gt a0.2.2 (w64 (Int.tdiv a1 64))) &&& ~~~(BitVec.ofInt IntKind.u64.bits (IntKind.u64.wrap ((1:Int)*2 ^ (min (Int.tmod a1 64).toNat 64))))).toNat:Int)))) A1 c_1,W6 b1 a0.1 a0.2.1 (a0.2.2.set (w64 (Int.tdiv a1 64)).toNat (IntKind.u64.wrap (((BitVec.ofInt IntKind.u64.bits (gt a0.2.2 (w64 (Int.tdiv a1 64))) &&& ~~~(BitVec.ofInt IntKind.u64.bits (IntKind.u64.wrap ((1:Int)*2 ^ (min (Int.tmod a1 64).toNat 64))))).toNat:Int)))) A1 c_1] _ _:=h6.retell (by simp only [List.length_set,List.length_nil,O61,W6] <;> rfl)
   refine Zt [0] ?_
   exact Zu ⟨(by simp only [List.length_set,List.length_nil] <;> rfl),((h6.only [1,0] rfl).rds [] rfl)⟩
 rintro env w6 ⟨rfl,h7⟩
 refine T4 (T2 ?_)
 refine Zd 3 ?_
 refine Zc (Zb 0 h7.wht) ?_
 refine Zd 3 ?_
 refine rS (Zs 0 h7) fun _ w7 h8=>?_
 refine Ze [] rfl ?_
 refine T4 (Za [4] ?_)
 cases H
 exact T3 (jR ⟨_,_,rfl,rfl⟩ h8 [0,0])

def Q74.f (a0:TE) (a1:Int):Option (Int×TE):=(Q79.f a0).bind fun r1=>(if r1=true then (some (1,a0)) else (if (decide (a1=0))=true then (some (2,a0)) else ((Q3.f a0 (w64 (a1))).bind fun r2=>(some r2))))
theorem Q74.spec {a0 a1 b1 b2 A1 c_1 r} (H:Q74.f a0 a1=some r) :
  Spec Tryz.prog 93 [.pointer (some ⟨b1,0,none⟩),.int .u32 a1] (Ui a0 b1 b2 A1 c_1) [] (fun v l=>∃ A_0 c_0,v=.int .i64 r.1∧l=Ui r.2 b1 b2 A_0 c_0):=by
 refine Zi Tryz.func93 fun w0 F0 h0=>?_
 replace h0:=nf h0
 unfold Q74.f at H
 refine T4 (Za [0,1] ?_)
 refine T4 (TW (T4 (T2 ?_)))
 refine Zd 1 ?_
 refine cS H [0,0,0] h0 rfl Q79.spec Zp fun r1 w1 H h1=>?_
 refine Ze [0,1,5] rfl ?_
 refine jIf H (fun c1 H=>?_) fun c1 H=>?_
 ·refine T4 (Za [4] ?_)
  cases H
  exact T3 (jR ⟨_,_,rfl,rfl⟩ h1 [0,0,0])
 refine T4 (Za [0,1,8] ?_)
 refine jIf H (fun c2 H=>?_) fun c2 H=>?_
 ·refine T4 (Za [4] ?_)
  cases H
  exact T3 (jR ⟨_,_,rfl,rfl⟩ h1 [0,0,0])
 refine T5 (T4 (T2 ?_))
 refine Zd 3 ?_
 refine Zc (Zb 0 h1.wht) ?_
 refine Zd 2 ?_
 refine cE H [1,1] h1 rfl Q3.spec Zp ?_
 rintro r2 w2 _ _ H ⟨A2,c_2,rfl,rfl⟩ h2
 replace h2:=nf h2
 refine Ze [4] rfl ?_
 cases H
 exact T3 (jR ⟨_,_,rfl,rfl⟩ h2 [2,0,0])

def Q87.f (k:Nat) (a0:Tc) (a1:Tp):Option Ta:=(Q91.f a0).bind fun r1=>(if (!decide (r1=0))=true then (some (0,r1,a0)) else ((Q38.f k a0.1 a1).bind fun r2=>(if (!decide (r2.2=0))=true then (some (0,r2.2,a0)) else ((Q78.f k a0.2.2.1).bind fun r3=>(if (!decide (r3.2.1=0))=true then (some (0,r3.2.1,(a0.1,a0.2.1,r3.2.2,a0.2.2.2))) else ((Q90.f (a0.1,a0.2.1,r3.2.2,a0.2.2.2) r3.1 r2.1).bind fun r4=>(if (!decide (r4.1=0))=true then ((Q74.f r4.2.2.2.1 r3.1).bind fun r5=>(some (0,r4.1,(r4.2.1,r4.2.2.1,r5.2,r4.2.2.2.2)))) else (some (r3.1,0,r4.2)))))))))
theorem Q87.spec {k a0 a1 A6 c_6 A7 c_7 A8 c_8 A9 c_9 b1 b2 b3 b4 b5 b6 b7 A1 c_1 A2 c_2 A3 c_3 A4 c_4 A5 c_5 r} (H:Q87.f k a0 a1=some r) :
  Spec Tryz.prog 39 [.pointer (some ⟨b1,0,none⟩),.agg #[.int .i64 a1.1,.slice A6 a1.2.1.length c_6,.slice A7 a1.2.2.1.length c_7,.slice A8 a1.2.2.2.1.length c_8,.slice A9 a1.2.2.2.2.length c_9]] (X9 a0 b1 b2 b3 b4 b5 b6 b7 A1 A2 A3 A4 A5 c_1 c_2 c_3 c_4 c_5) [R33 a1.2.1 A6 c_6,R9 a1.2.2.1 A7 c_7,Y5 a1.2.2.2.1 A8 c_8,Y3 a1.2.2.2.2 A9 c_9,tabC 0] (fun v l=>∃ A_0 c_0 A_1 c_1 A_2 c_2 A_3 c_3 A_4 c_4,v=.tuple #[.int .u32 r.1,.int .i64 r.2.1]∧l=X9 r.2.2 b1 b2 b3 b4 b5 b6 b7 A_0 A_1 A_2 A_3 A_4 c_0 c_1 c_2 c_3 c_4):=by
 refine Zi Tryz.func39 fun w0 F0 h0=>?_
 replace h0:=nf h0
 unfold Q87.f at H
 refine T4 (T2 ?_)
 refine rB (Z4 h0) fun b8 w1 h1=>?_
 refine Ze [0,3] rfl ?_
 refine T4 (T4 (T2 ?_))
 refine Zd 1 ?_
 refine cS H [1,1,1,1,1,1,1,1,1,1,1,1] h1 rfl Q91.spec Zp fun r1 w2 H h2=>?_
 refine Ze [0,3,6] rfl ?_
 refine T4 (Za [0,3,6,14] ?_)
 refine jIf H (fun c1 H=>?_) fun c1 H=>?_
 ·refine T4 (Za [4,5] ?_)
  cases H
  exact T3 (jR ⟨_,_,_,_,_,_,_,_,_,_,rfl,rfl⟩ h2 [0,0,0,0,0,0,0,0,0,0,0,0])
 refine T5 (T4 (jH h2 fun h3=>?_))
 refine Zo [0,1,2] ?_
 refine Zf 3 rfl (Zb 0 wI) ?_
 refine Zf 4 rfl (Zb 12 wI) ?_
 refine cEJ 5 rfl H [] h3 rfl Q38.spec (gS [13,14,15,16]) ?_
 rintro r2 w3 _ _ H ⟨A10,c_10,rfl,rfl⟩ h4
 replace h4:=nf h4
 refine ⟨⟨[_],h4⟩,?_⟩
 refine Zo [6,7,8,9,10] ?_
 refine Zt [0,7,8] ?_
 refine T4 (T4 (Za [0,7,8,26] ?_))
 refine jIf H (fun c2 H=>?_) fun c2 H=>?_
 ·refine T4 (Za [4,5] ?_)
  have h5:=sO h4 [1,1,1,1,1,1,1,1,1,1,1,1]
  replace h5:=nf h5
  cases H
  exact T3 (jR ⟨_,_,_,_,_,_,_,_,_,_,rfl,rfl⟩ h5 [0,0,0,0,0,0,0,0,0,0,0,0])
 refine T5 (T4 (T2 ?_))
 refine Zd 3 ?_
 refine Zc (Zb 1 h4.wht) ?_
 refine cE H [10,10,10] h4 rfl Q78.spec (gS [15]) ?_
 rintro r3 w4 _ _ H ⟨A11,c_11,rfl,rfl⟩ h6
 replace h6:=nf h6
 refine Ze [0,7,8,9] rfl ?_
 refine T4 (T4 (Za [0,7,8,9,37] ?_))
 refine jIf H (fun c3 H=>?_) fun c3 H=>?_
 ·refine T4 (Za [4,5] ?_)
  have h7:=sO h6 [0,0,0,1,1,1,1,1,1,1,1,1]
  replace h7:=nf h7
  cases H
  exact T3 (jR ⟨_,_,_,_,_,_,_,_,_,_,rfl,rfl⟩ h7 [3,3,3,3,3,3,3,3,3,0,0,0])
 refine T5 (T4 (T4 (T2 ?_)))
 refine Zd 3 ?_
 refine cE H [4,4,4,4,4,4,4,4,4,0,0,0] h6 rfl Q90.spec (X4 (gO 0) Zp) ?_
 rintro r4 w5 _ _ H ⟨A12,c_12,A13,c_13,A14,c_14,A15,c_15,A16,c_16,rfl,rfl⟩ h8
 replace h8:=nf h8
 refine Ze [0,9,10] rfl ?_
 have h9:=sO h8 [0,0,0,0,0,0,0,0,0,0,0,0]
 replace h9:=nf h9
 refine T4 (Za [0,9,10,44] ?_)
 refine jIf H (fun c4 H=>?_) fun c4 H=>?_
 ·refine T4 (T2 ?_)
  refine Zd 3 ?_
  refine Zc (Zb 0 h9.wht) ?_
  refine Zd 1 ?_
  refine cE H [9,9,9] h9 rfl Q74.spec Zp ?_
  rintro r5 w6 _ _ H ⟨A17,c_17,rfl,rfl⟩ h10
  replace h10:=nf h10
  refine Ze [10] rfl ?_
  refine T4 (Za [4,5] ?_)
  cases H
  exact T3 (jR ⟨_,_,_,_,_,_,_,_,_,_,rfl,rfl⟩ h10 [3,3,3,3,3,3,3,3,3,0,0,0])
 refine T5 (T4 (Za [4,5] ?_))
 cases H
 exact T3 (jR ⟨_,_,_,_,_,_,_,_,_,_,rfl,rfl⟩ h9 [0,0,0,0,0,0,0,0,0,0,0,0])

def Q92.f (a0:Tc) (a1:Int):Option (Int):=if (decide (a1=0))=true then (some 4) else (if (decide (a0.1.1≤(w64 (a1))))=true then (some 4) else (some 0))
theorem Q92.spec {a0 a1 b1 b2 b3 b4 b5 b6 b7 A1 c_1 A2 c_2 A3 c_3 A4 c_4 A5 c_5 r} (H:Q92.f a0 a1=some r) :
  Spec Tryz.prog 76 [.pointer (some ⟨b1,0,none⟩),.int .u32 a1] (X9 a0 b1 b2 b3 b4 b5 b6 b7 A1 A2 A3 A4 A5 c_1 c_2 c_3 c_4 c_5) [] (fun v l=>v=.int .i64 r∧l=X9 a0 b1 b2 b3 b4 b5 b6 b7 A1 A2 A3 A4 A5 c_1 c_2 c_3 c_4 c_5):=by
 refine Zi Tryz.func76 fun w0 F0 h0=>?_
 replace h0:=nf h0
 unfold Q92.f at H
 refine T4 (Za [0,1] ?_)
 refine T4 (TW (T4 (T2 ?_)))
 refine Zd 6 ?_
 refine Zc (Zb 0 h0.wht) ?_
 refine Ze [0,1,5] rfl ?_
 refine Z5 ?_
 refine T4 (T2 ?_)
 refine Zd 3 ?_
 refine Z7 18 H (fun c1 H=>?_) fun c1 H=>?_
 ·refine Ze [15] rfl ?_
  refine Zn ?_
  refine T4 (Za [4] ?_)
  cases H
  exact T3 (jR0 h0 [0,0,0,0,0,0,0,0,0,0,0,0])
 refine Zd 6 ?_
 refine Zc (Zb 0 h0.wht) ?_
 refine Ze [15] rfl ?_
 refine jIf H (fun c2 H=>?_) fun c2 H=>?_
 ·refine T4 (Za [4] ?_)
  cases H
  exact T3 (jR0 h0 [0,0,0,0,0,0,0,0,0,0,0,0])
 refine T5 (T4 (Za [4] ?_))
 cases H
 exact T3 (jR0 h0 [0,0,0,0,0,0,0,0,0,0,0,0])

def Q55.f (a0:TB) (a1:Int):Option (List Int×Int×TB):=(Q53.f a0).bind fun r1=>(if (decide (r1=0))=true then (some (([]:List Int),1,a0)) else ((Q53.f a0).bind fun r2=>(if (decide (r2≤(w64 (a1))))=true then (some (([]:List Int),4,a0)) else (if 0≤(w64 ((w64 (a1))*a0.1))∧(w64 ((w64 (a1))*a0.1))≤(w64 ((w64 ((w64 (a1))*a0.1))+a0.1))∧(w64 ((w64 ((w64 (a1))*a0.1))+a0.1))≤(a0.2.1.length:Int) then ((Q93.f ((a0.2.1.drop ((w64 ((w64 (a1))*a0.1))).toNat).take (((w64 ((w64 ((w64 (a1))*a0.1))+a0.1))).toNat - ((w64 ((w64 (a1))*a0.1))).toNat))).bind fun r3=>(some (r3,0,(a0.1,a0.2.1,((IntKind.u64.wrap (a0.2.2.1+1)),a0.2.2.2))))) else none))))
theorem Q55.spec {a0 a1 b1 A1 c_1 r} (H:Q55.f a0 a1=some r) :
  Spec Tryz.prog 20 [.pointer (some ⟨b1,0,none⟩),.int .u32 a1] (B7 a0 b1 A1 c_1) [] (fun v l=>∃ A_0 c_0 A_1 c_1,v=.tuple #[.slice A_0 r.1.length c_0,.int .i64 r.2.1]∧l=[O5 r.1 A_0 c_0] ++ B7 r.2.2 b1 A_1 c_1):=by
 refine Zi Tryz.func20 fun w0 F0 h0=>?_
 replace h0:=nf h0
 unfold Q55.f at H
 refine T4 (Za [0,1] ?_)
 refine T4 (T2 ?_)
 refine Zd 2 ?_
 refine Yg Tryz.func62 ?_
 refine T4 (Za [0,1] ?_)
 refine T4 (TW (T4 (T2 ?_)))
 refine Zd 1 ?_
 refine cS H [0,0] h0 rfl Q53.spec Zp fun r1 w1 H h1=>?_
 refine Ze [0,1,7] rfl ?_
 refine jIf H (fun c1 H=>?_) fun c1 H=>?_
 ·refine T4 (Za [4,5] ?_)
  refine T3 (⟨_,Zj,?_⟩)
  refine Ze [0,6,7] rfl ?_
  refine T4 (T4 (Za [0,6,7,15] ?_))
  refine Zn ?_
  refine T4 (Za [4,5] ?_)
  have h2:=h1.addNil 5 (.int .u8)
  cases H
  exact T3 (jR ⟨_,_,_,_,rfl,rfl⟩ h2 [0,0,0])
 refine T4 (T2 ?_)
 refine Zd 3 ?_
 refine cS H [0,0] h1 rfl Q53.spec Zp fun r2 w2 H h3=>?_
 refine Ze [0,1,11] rfl ?_
 refine jIf H (fun c2 H=>?_) fun c2 H=>?_
 ·refine T4 (Za [4,5] ?_)
  refine T3 (⟨_,Zj,?_⟩)
  refine Ze [0,6,7] rfl ?_
  refine T4 (T4 (Za [0,6,7,15] ?_))
  refine Zn ?_
  refine T4 (Za [4,5] ?_)
  have h4:=h3.addNil 5 (.int .u8)
  cases H
  exact T3 (jR ⟨_,_,_,_,rfl,rfl⟩ h4 [0,0,0])
 refine T5 (T4 (T2 ?_))
 refine Zd 5 ?_
 refine Zc (Zb 0 h3.wht) ?_
 refine Ze [0,6] rfl ?_
 refine T4 (jH h3 fun h5=>?_)
 refine Zo [0,1,2,4,5,6,7,8] ?_
 refine Zf 3 rfl (Zb 0 wI) ?_
 refine Zf 9 rfl (Zb 0 wI) ?_
 refine Zo [10] ?_
 obtain ⟨⟨p1,p2,p3⟩,H⟩:=Zl H
 have e1:=h5.cap (gO 1)
 refine Zf 11 rfl (Ze8 ((a0.2.1.drop ((w64 ((w64 (a1))*a0.1))).toNat).take (((w64 ((w64 ((w64 (a1))*a0.1))+a0.1))).toNat - ((w64 ((w64 (a1))*a0.1))).toNat)) (w64 ((w64 (a1))*a0.1)) (w64 ((w64 ((w64 (a1))*a0.1))+a0.1)) e1 p1 p2 p3) ?_
 refine Zo [12,13] ?_
 refine Zt [4,5] ?_
 refine T3 (⟨_,Zj,?_⟩)
 refine Ze [0,6,7] rfl ?_
 refine T4 (T4 (Za [0,6,7,15] ?_))
 refine Z5 ?_
 refine T5 (T4 (T2 ?_))
 refine Zd 4 ?_
 refine Zc (Zb 0 h5.wht) ?_
 refine Zd 4 ?_
 refine rS (Zs 0 h5) fun _ w3 h6=>?_
 refine Ze [6] rfl ?_
 refine T4 (T2 ?_)
 refine Zd 1 ?_
 refine cE H [] h6 rfl Q93.spec (X4 ((Gives.of 1 rfl Yz).trans (Zjk (.int .u8) ((a0.2.1.drop ((w64 ((w64 (a1))*a0.1))).toNat).take (((w64 ((w64 ((w64 (a1))*a0.1))+a0.1))).toNat - ((w64 ((w64 (a1))*a0.1))).toNat)) (w64 ((w64 (a1))*a0.1)) (w64 ((w64 ((w64 (a1))*a0.1))+a0.1)) p1 p2 p3)) Zp) ?_
 rintro r3 w4 _ _ H ⟨A2,c_2,rfl,rfl⟩ h7
 replace h7:=nf h7
 refine Ze [4,5] rfl ?_
 cases H
 exact T3 (jR ⟨_,_,_,_,rfl,rfl⟩ h7 [0,0,0])

def Q18.f (a0:Ti) (a1:Int):Option Th:=(Q25.f a0 a1).bind fun r1=>(if (!decide (r1=0))=true then (some (r1,a0)) else (if (Y1 a0.2.2.1 a1)=true then (if 0≤(Zq (0:Int) a0.2.2.1 a1)∧(Zq (0:Int) a0.2.2.1 a1)<(a0.2.1.length:Int) then ((Q26.f a0.2.2.2.2 (Zq (0:Int) a0.2.2.1 a1)).bind fun r2=>(some (0,(a0.1,(a0.2.1.set (Zq (0:Int) a0.2.2.1 a1).toNat ((gt a0.2.1 (Zq (0:Int) a0.2.2.1 a1)).1,(gt a0.2.1 (Zq (0:Int) a0.2.2.1 a1)).2.1,(gt a0.2.1 (Zq (0:Int) a0.2.2.1 a1)).2.2.1,(w64 (((gt a0.2.1 (Zq (0:Int) a0.2.2.1 a1)).2.2.2)+1)))),a0.2.2.1,a0.2.2.2.1,r2.2)))) else none) else ((Q24.f a0).bind fun r3=>(if (!r3.2.1)=true then (some (7,r3.2.2)) else ((Q55.f r3.2.2.1 a1).bind fun r4=>(if (!decide (r4.2.1=0))=true then (if (r3.2.2.2.2.2.1.length+([r3.1]:List Int).length)*8≤140737488355328 then (some (r4.2.1,(r4.2.2,r3.2.2.2.1,r3.2.2.2.2.1,(r3.2.2.2.2.2.1 ++ ([r3.1]:List Int)),r3.2.2.2.2.2.2))) else none) else (if 0≤r3.1∧r3.1<(r3.2.2.2.1.length:Int) then ((Q26.f r3.2.2.2.2.2.2 r3.1).bind fun r5=>(some (0,(r4.2.2,(r3.2.2.2.1.set r3.1.toNat (a1,r4.1,false,1)),(Vt a1 r3.1 r3.2.2.2.2.1),r3.2.2.2.2.2.1,r5.2)))) else none)))))))
theorem Q18.spec {a0 a1 b1 b2 b3 b4 A1 c_1 A2 c_2 A3 c_3 A4 c_4 r} (H:Q18.f a0 a1=some r) :
  Spec Tryz.prog 77 [.pointer (some ⟨b1,0,none⟩),.int .u32 a1] (Wf a0 b1 b2 b3 b4 A1 A2 A3 A4 c_1 c_2 c_3 c_4) [] (fun v l=>∃ A_0 c_0 A_1 c_1 A_2 c_2 A_3 c_3,v=.int .i64 r.1∧l=Wf r.2 b1 b2 b3 b4 A_0 A_1 A_2 A_3 c_0 c_1 c_2 c_3):=by
 refine Zi Tryz.func77 fun w0 F0 h0=>?_
 replace h0:=nf h0
 unfold Q18.f at H
 refine T4 (Za [0,1] ?_)
 refine T4 (T4 (T2 ?_))
 refine Zd 2 ?_
 refine cS H [0,0,0,0,0,0,0,0] h0 rfl Q25.spec Zp fun r1 w1 H h1=>?_
 refine Ze [0,1,5] rfl ?_
 refine T4 (Za [0,1,5,16] ?_)
 refine jIf H (fun c1 H=>?_) fun c1 H=>?_
 ·refine T4 (Za [4] ?_)
  cases H
  exact T3 (jR ⟨_,_,_,_,_,_,_,_,rfl,rfl⟩ h1 [0,0,0,0,0,0,0,0])
 refine T5 (T4 (T4 (T2 ?_)))
 refine Zd 3 ?_
 refine Zc (Zb 0 h1.wht) ?_
 refine Zd 1 ?_
 refine Zc (Wa (0:Int) 4 h1.wht) ?_
 refine Ze [0,1,6,7] rfl ?_
 refine T4 (Za [0,1,6,27] ?_)
 refine jIf H (fun c2 H=>?_) fun c2 H=>?_
 ·refine T4 (T2 ?_)
  refine Zd 3 ?_
  refine Zc (Zb 0 h1.wht) ?_
  refine Zd 1 ?_
  obtain ⟨⟨p1,p2⟩,H⟩:=Zl H
  have e1:=Zx h1.wh (gO 3) p1 p2
  refine Zc (Zg e1 p1 p2) ?_
  refine Zd 1 ?_
  refine Zc (Yn 3 h1.wht (gO 3) p1 p2) ?_
  refine Zd 1 ?_
  refine Zc (Zg e1 p1 p2) ?_
  refine Zd 1 ?_
  refine rS (Wd 3 (.pair (.int .u32) (.pair (.slice 5 (.int .u8)) (.pair .bool (.int .i64)))) (Zq (0:Int) a0.2.2.1 a1) ((gt a0.2.1 (Zq (0:Int) a0.2.2.1 a1)).1,(gt a0.2.1 (Zq (0:Int) a0.2.2.1 a1)).2.1,(gt a0.2.1 (Zq (0:Int) a0.2.2.1 a1)).2.2.1,(w64 (((gt a0.2.1 (Zq (0:Int) a0.2.2.1 a1)).2.2.2)+1))) 3 h1 rfl p1 p2 (Ju rfl rfl)) fun _ w2 h2=>?_
  replace h2:St w0 F0 [Xm (a0.2.1.set (Zq (0:Int) a0.2.2.1 a1).toNat ((gt a0.2.1 (Zq (0:Int) a0.2.2.1 a1)).1,(gt a0.2.1 (Zq (0:Int) a0.2.2.1 a1)).2.1,(gt a0.2.1 (Zq (0:Int) a0.2.2.1 a1)).2.2.1,(w64 (((gt a0.2.1 (Zq (0:Int) a0.2.2.1 a1)).2.2.2)+1)))) A2 c_2,Xp b1 (.pointer (some ⟨b2,0,none⟩)) (a0.2.1.set (Zq (0:Int) a0.2.2.1 a1).toNat ((gt a0.2.1 (Zq (0:Int) a0.2.2.1 a1)).1,(gt a0.2.1 (Zq (0:Int) a0.2.2.1 a1)).2.1,(gt a0.2.1 (Zq (0:Int) a0.2.2.1 a1)).2.2.1,(w64 (((gt a0.2.1 (Zq (0:Int) a0.2.2.1 a1)).2.2.2)+1)))) A2 c_2 (.map (some b3)) a0.2.2.2.1 A3 c_3 (.pointer (some ⟨b4,0,none⟩)),Xf b2 a0.1.1 a0.1.2.1 A1 c_1 a0.1.2.2.1 a0.1.2.2.2,O5 a0.1.2.1 A1 c_1,Y2 .u32 (Value.int .i64) b3 a0.2.2.1,O3 a0.2.2.2.1 A3 c_3,Yx b4 a0.2.2.2.2.1 A4 c_4 a0.2.2.2.2.2,Yy a0.2.2.2.2.1 A4 c_4] _ _:=h2.retell (by simp only [List.length_set,List.length_nil,Xm,Yy,O3,O5,Xf,Xp,Yx] <;> rfl)
  refine Ze [0,6] rfl ?_
  refine T4 (T2 ?_)
  refine Zd 3 ?_
  refine Zc (Zb 1 h2.wht) ?_
  refine Zd 1 ?_
  refine cE H [6,6] h2 rfl Q26.spec Zp ?_
  rintro r2 w3 _ _ H ⟨A5,c_5,rfl,rfl⟩ h3
  replace h3:=nf h3
  refine Ze [] rfl ?_
  refine T4 (Za [4] ?_)
  cases H
  exact T3 (jR ⟨_,_,_,_,_,_,_,_,rfl,rfl⟩ h3 [3,3,3,2,2,2,0,0])
 refine T5 (T4 (T2 ?_))
 refine Zd 1 ?_
 refine cE H [0,0,0,0,0,0,0,0] h1 rfl Q24.spec Zp ?_
 rintro r3 w4 _ _ H ⟨A6,c_6,A7,c_7,A8,c_8,A9,c_9,rfl,rfl⟩ h4
 replace h4:=nf h4
 refine Ze [0,1,8,9] rfl ?_
 refine T4 (T4 (Za [0,1,8,51] ?_))
 refine jIf H (fun c3 H=>?_) fun c3 H=>?_
 ·refine T4 (Za [4] ?_)
  cases H
  exact T3 (jR ⟨_,_,_,_,_,_,_,_,rfl,rfl⟩ h4 [0,0,0,0,0,0,0,0])
 refine T5 (T4 (T2 ?_))
 refine Zd 3 ?_
 refine Zc (Zb 0 h4.wht) ?_
 refine Zd 1 ?_
 refine cE H [1,1] h4 rfl Q55.spec Zp ?_
 rintro r4 w5 _ _ H ⟨A10,c_10,A11,c_11,rfl,rfl⟩ h5
 replace h5:=nf h5
 refine Ze [0,1,8,10,11] rfl ?_
 refine T4 (T4 (Za [0,1,8,10,11,62] ?_))
 refine jIf H (fun c4 H=>?_) fun c4 H=>?_
 ·refine T4 (T2 ?_)
  refine Zd 4 ?_
  refine Zc (Zb 3 h5.wht) ?_
  refine Zd 1 ?_
  refine rB (Y6 (.int .i64) ([r3.1]:List Int) h5) fun b5 w6 h6=>?_
  obtain ⟨p3,H⟩:=Zl H
  refine Zv (Yq 7 h6 (gO 0) p3) ?_
  rintro _ w7 ⟨A12,c_12,rfl,h7⟩
  replace h7:=nf h7
  refine Zd 2 ?_
  refine rS (Zs 5 h7) fun _ w8 h8=>?_
  refine Ze [11] rfl ?_
  have h9:=sO h8 [0,0,2,2,2,2,2,2]
  replace h9:=nf h9
  refine T4 (Za [4] ?_)
  cases H
  exact T3 (jR ⟨_,_,_,_,_,_,_,_,rfl,rfl⟩ h9 [0,1,1,1,1,0,0,0])
 refine T5 (T4 (T2 ?_))
 refine Zd 5 ?_
 refine Yg Tryz.func127 ?_
 refine T4 (T2 ?_)
 refine rB (Z4 h5) fun b6 w9 h10=>?_
 refine Ze [0,1,5] rfl ?_
 refine T4 (T2 ?_)
 refine Zd 1 ?_
 refine rS (Zs 0 h10) fun _ w10 h11=>?_
 refine Ze [0,1,5] rfl ?_
 refine T4 (Zw (sO h11 [0,1,1,1,2,2,2,2]) ?_)
 have h12:=h11.drew
 refine Zo [0,1,2,4] ?_
 refine Zf 3 rfl (Zb 3 wI) ?_
 refine Zf 5 rfl (Zb 0 wI) ?_
 obtain ⟨⟨p4,p5⟩,H⟩:=Zl H
 have e2:=Zx h12.wh (gO 5) p4 p5
 refine Zf 6 rfl (Zg e2 p4 p5) ?_
 have h13:=(h12.only [5,1,0,0,0,0,0,0,0,0] rfl).both
 refine hS 7 rfl (Vg 0 (.pair (.int .u32) (.pair (.slice 5 (.int .u8)) (.pair .bool (.int .i64)))) r3.1 (a1,r4.1,false,1) h13 p4 p5 Zdq) 1 fun _ w11 h14=>?_
 replace h14:St w0 F0 [Xm (r3.2.2.2.1.set r3.1.toNat (a1,r4.1,false,1)) A7 c_7,Ziy b6 a1 r4.1 A10 c_10 false 1,Xf b2 r4.2.2.1 r4.2.2.2.1 A11 c_11 r4.2.2.2.2.1 r4.2.2.2.2.2,O5 r4.2.2.2.1 A11 c_11,Xp b1 (.pointer (some ⟨b2,0,none⟩)) (r3.2.2.2.1.set r3.1.toNat (a1,r4.1,false,1)) A7 c_7 (.map (some b3)) r3.2.2.2.2.2.1 A8 c_8 (.pointer (some ⟨b4,0,none⟩)),Y2 .u32 (Value.int .i64) b3 r3.2.2.2.2.1,O3 r3.2.2.2.2.2.1 A8 c_8,Yx b4 r3.2.2.2.2.2.2.1 A9 c_9 r3.2.2.2.2.2.2.2,Yy r3.2.2.2.2.2.2.1 A9 c_9] _ _:=h14.retell (by simp only [List.length_set,List.length_nil,Xm,Yy,O3,O5,Xf,Ziy,Xp,Yx] <;> rfl)
 refine Zt [0,1,5] ?_
 refine T4 (Zw (sO h14 [0,0,0,0,0,1,1,1]) ?_)
 have h15:=h14.drew
 refine Zo [0,1,2,4,6] ?_
 refine Zf 3 rfl (Zb 4 wI) ?_
 refine Zf 5 rfl (Zb 1 wI) ?_
 refine hS 7 rfl (Zef Yj (v:=r3.1) (ix:=a1) 5 rfl h15 rfl rfl rfl rfl rfl rfl rfl rfl rfl) 1 fun _ w12 h16=>?_
 refine Zt [0,1] ?_
 refine T2 (Zd 3 ?_)
 refine Zc (Zb 5 h16.wht) ?_
 refine Zd 1 ?_
 refine cE H [7,7] h16 rfl Q26.spec Zp ?_
 rintro r5 w13 _ _ H ⟨A13,c_13,rfl,rfl⟩ h17
 replace h17:=nf h17
 refine Ze [] rfl ?_
 refine ⟨_,Zj,?_⟩
 refine Ze [] rfl ?_
 refine T4 (Za [4] ?_)
 cases H
 exact T3 (jR ⟨_,_,_,_,_,_,_,_,rfl,rfl⟩ h17 [7,5,5,3,2,3,0,0])

def Q19.f (a0:Ti) (a1:Int):Option TN:=(Q23.f a0).bind fun r1=>(if r1=true then (some (([]:List Int),1)) else (if (!(Y1 a0.2.2.1 a1))=true then (some (([]:List Int),8)) else (if 0≤(Zq (0:Int) a0.2.2.1 a1)∧(Zq (0:Int) a0.2.2.1 a1)<(a0.2.1.length:Int) then (if (decide (((gt a0.2.1 (Zq (0:Int) a0.2.2.1 a1)).2.2.2)=0))=true then (some (([]:List Int),8)) else ((Q93.f ((gt a0.2.1 (Zq (0:Int) a0.2.2.1 a1)).2.1)).bind fun r2=>(some (r2,0)))) else none)))
theorem Q19.spec {a0 a1 b1 b2 b3 b4 A1 c_1 A2 c_2 A3 c_3 A4 c_4 r} (H:Q19.f a0 a1=some r) :
  Spec Tryz.prog 78 [.pointer (some ⟨b1,0,none⟩),.int .u32 a1] (Wf a0 b1 b2 b3 b4 A1 A2 A3 A4 c_1 c_2 c_3 c_4) [] (fun v l=>∃ A_0 c_0,v=.tuple #[.slice A_0 r.1.length c_0,.int .i64 r.2]∧l=[O5 r.1 A_0 c_0] ++ Wf a0 b1 b2 b3 b4 A1 A2 A3 A4 c_1 c_2 c_3 c_4):=by
 refine Zi Tryz.func78 fun w0 F0 h0=>?_
 replace h0:=nf h0
 unfold Q19.f at H
 refine T4 (Za [0,1] ?_)
 refine T4 (T2 ?_)
 refine Zd 2 ?_
 refine Yg Tryz.func128 ?_
 refine T4 (Za [0,1] ?_)
 refine T4 (T4 (T2 ?_))
 refine Zd 1 ?_
 refine cS H [0,0,0,0,0,0,0,0] h0 rfl Q23.spec Zp fun r1 w1 H h1=>?_
 refine Ze [0,1,9] rfl ?_
 refine jIf H (fun c1 H=>?_) fun c1 H=>?_
 ·refine T4 (Za [4,5] ?_)
  refine T3 (⟨_,Zj,?_⟩)
  refine Ze [6,7] rfl ?_
  refine T4 (T4 (Za [6,7,15] ?_))
  refine Zn ?_
  refine T4 (Za [4,5] ?_)
  have h2:=h1.addNil 5 (.int .u8)
  cases H
  exact T3 (jR ⟨_,_,rfl,rfl⟩ h2 [0,0,0,0,0,0,0,0,0])
 refine T5 (T4 (T2 ?_))
 refine Zd 3 ?_
 refine Zc (Zb 0 h1.wht) ?_
 refine Zd 1 ?_
 refine Zc (Wa (0:Int) 4 h1.wht) ?_
 refine Ze [0,6,7] rfl ?_
 refine T4 (T4 (T2 ?_))
 refine Zd 3 ?_
 refine Z7 21 H (fun c2 H=>?_) fun c2 H=>?_
 ·refine Ze [0,6,31] rfl ?_
  refine Zn ?_
  refine T4 (Za [4,5] ?_)
  refine T3 (⟨_,Zj,?_⟩)
  refine Ze [6,7] rfl ?_
  refine T4 (T4 (Za [6,7,15] ?_))
  refine Zn ?_
  refine T4 (Za [4,5] ?_)
  have h3:=h1.addNil 5 (.int .u8)
  cases H
  exact T3 (jR ⟨_,_,rfl,rfl⟩ h3 [0,0,0,0,0,0,0,0,0])
 refine Zd 3 ?_
 refine Zc (Zb 0 h1.wht) ?_
 refine Zd 1 ?_
 obtain ⟨⟨p1,p2⟩,H⟩:=Zl H
 have e1:=Zx h1.wh (gO 3) p1 p2
 refine Zc (Zg e1 p1 p2) ?_
 refine Zd 1 ?_
 refine Zc (Yn 3 h1.wht (gO 3) p1 p2) ?_
 refine Ze [0,6,31] rfl ?_
 refine jIf H (fun c3 H=>?_) fun c3 H=>?_
 ·refine T4 (Za [4,5] ?_)
  refine T3 (⟨_,Zj,?_⟩)
  refine Ze [6,7] rfl ?_
  refine T4 (T4 (Za [6,7,15] ?_))
  refine Zn ?_
  refine T4 (Za [4,5] ?_)
  have h4:=h1.addNil 5 (.int .u8)
  cases H
  exact T3 (jR ⟨_,_,rfl,rfl⟩ h4 [0,0,0,0,0,0,0,0,0])
 refine T5 (T4 (T2 ?_))
 refine Zd 3 ?_
 refine Zc (Zb 0 h1.wht) ?_
 refine Zd 1 ?_
 refine Zc (Zg e1 p1 p2) ?_
 refine Ze [4,5] rfl ?_
 refine T3 (⟨_,Zj,?_⟩)
 refine Ze [6,7] rfl ?_
 refine T4 (T4 (Za [6,7,15] ?_))
 refine Z5 ?_
 refine T5 (T4 ?_)
 obtain ⟨A5,c_5,h5⟩:=h1.openI 3 rfl p1 p2
 refine T2 (Zd 3 ?_)
 refine Zc (J1 h5.wht (Zk 0)) ?_
 refine cE H [] h5 rfl Q93.spec (X4 (Vr 0 Zdf) Zp) ?_
 rintro r2 w2 _ _ H ⟨A6,c_6,rfl,rfl⟩ h6
 replace h6:=nf h6
 refine Ze [4,5] rfl ?_
 have h7:=h6.closeI 1 rfl
 cases H
 exact T3 (jR ⟨_,_,rfl,rfl⟩ h7 [1,1,1,1,0,0,0,0,0])

def Q168.f (a0:TU):Option (TN):=(Q93.f a0).bind fun r1=>(some (r1,0))
theorem Q168.spec {a0 A1 c_1 r} (H:Q168.f a0=some r) :
  SpecA Tryz.prog 65 [.slice A1 a0.length c_1] [] [R5 a0 A1 c_1] (fun v l lr=>∃ b_0 A_1 c_1,v=.pointer (some ⟨b_0,0,none⟩)∧l=[X6 b_0 r.1 A_1 c_1 r.2]∧lr=[R5 r.1 A_1 c_1]):=by
 refine Yd Tryz.func65 fun w0 F0 h0=>?_
 unfold Q168.f at H
 refine T4 (Za [0] ?_)
 refine T4 (T2 ?_)
 refine Zd 1 ?_
 refine cE H [] h0 rfl Q93.spec (gS [0]) ?_
 rintro r1 w1 _ _ H ⟨A2,c_2,rfl,rfl⟩ h1
 replace h1:=nf h1
 refine Zd 1 ?_
 refine rB (Z4 h1) fun b1 w2 h2=>?_
 refine Ze [2] rfl ?_
 have h3:=h2.freeze (k:=1) rfl Yz
 cases H
 exact T3 (jRA ⟨_,_,_,rfl,rfl,rfl⟩ (sOR h3 [0] [0]))

def Q177.f (a0:TN) (a1:Int):Option (TN):=if (decide (a0.2=0))=true then (some (([]:List Int),a1)) else (some (([]:List Int),a0.2))
theorem Q177.spec {a0 a1 A1 c_1 b1 r} (H:Q177.f a0 a1=some r) :
  SpecA Tryz.prog 117 [.pointer (some ⟨b1,0,none⟩),.int .i64 a1] [X6 b1 a0.1 A1 c_1 a0.2] [R5 a0.1 A1 c_1] (fun v l lr=>∃ A_0 c_0,v=.tuple #[]∧l=[X6 b1 r.1 A_0 c_0 r.2]∧lr=[R5 r.1 A_0 c_0]):=by
 refine Yd Tryz.func117 fun w0 F0 h0=>?_
 unfold Q177.f at H
 refine T4 (T4 (T2 ?_))
 refine Zd 3 ?_
 refine Zc (Zb 0 h0.wht) ?_
 refine Ze [0,1,8] rfl ?_
 refine jIf H (fun c1 H=>?_) fun c1 H=>?_
 ·refine T2 (Zd 4 ?_)
  refine rS (Zs 0 h0) fun _ w1 h1=>?_
  refine Ze [0] rfl ?_
  refine T2 (Zd 3 ?_)
  refine rS (Zs 0 h1) fun _ w2 h2=>?_
  refine Ze [] rfl ?_
  have h3:=h2.addNil 5 (.int .u8)
  have h4:=h3.freeze (k:=0) rfl Yz
  cases H
  exact ⟨_,_,_,Zj,⟨_,_,rfl,rfl,rfl⟩,sOR h4 [0] [0]⟩
 refine T5 (T2 (Zd 3 ?_))
 refine rS (Zs 0 h0) fun _ w3 h5=>?_
 refine Ze [] rfl ?_
 have h6:=h5.addNil 5 (.int .u8)
 have h7:=h6.freeze (k:=0) rfl Yz
 cases H
 exact ⟨_,_,_,Zj,⟨_,_,rfl,rfl,rfl⟩,sOR h7 [0] [0]⟩

def Q172.f (a0:TN) (a1:Int):Option (List Int×TN):=if (!decide (a0.2=0))=true then (some (([]:List Int),a0)) else (if (decide (a1<0))=true then ((Q177.f a0 2).bind fun r1=>(some (([]:List Int),r1))) else (if (decide ((a0.1.length:Int)<a1))=true then ((Q177.f a0 5).bind fun r2=>(some (([]:List Int),r2))) else (if 0≤a1∧a1*1≤281474976710656 then (if 0≤a1∧a1≤(a0.1.length:Int) then (some ((patch (List.replicate a1.toNat (0:Int)) 0 ((List.replicate a1.toNat (0:Int)).length) a0.1),((a0.1.drop a1.toNat),a0.2))) else none) else none)))
theorem Q172.spec {a0 a1 A1 c_1 b1 r} (H:Q172.f a0 a1=some r) :
  SpecA Tryz.prog 114 [.pointer (some ⟨b1,0,none⟩),.int .i64 a1] [X6 b1 a0.1 A1 c_1 a0.2] [R5 a0.1 A1 c_1] (fun v l lr=>∃ A_0 c_0 A_1 c_1,v=.slice A_0 r.1.length c_0∧l=[O5 r.1 A_0 c_0,X6 b1 r.2.1 A_1 c_1 r.2.2]∧lr=[R5 r.2.1 A_1 c_1]):=by
 refine Yd Tryz.func114 fun w0 F0 h0=>?_
 unfold Q172.f at H
 refine T4 (Za [0,1] ?_)
 refine T4 (TW (T4 (T2 ?_)))
 refine Zd 6 ?_
 refine Zc (Zb 0 h0.wht) ?_
 refine Ze [0,1,6] rfl ?_
 refine jIf H (fun c1 H=>?_) fun c1 H=>?_
 ·refine T4 (Za [4] ?_)
  have h1:=h0.addNil 5 (.int .u8)
  cases H
  exact T3 (jRA ⟨_,_,_,_,rfl,rfl,rfl⟩ (sOR h1 [0,0] [0]))
 refine T4 (Za [0,1,16] ?_)
 refine jIf H (fun c2 H=>?_) fun c2 H=>?_
 ·refine T4 (T2 ?_)
  refine Zd 1 ?_
  obtain ⟨r1,q1,H⟩:=Ye H
  refine Zv (Zz [0] (Q177.spec q1) h0 rfl (gS [0])) ?_
  rintro _ w1 ⟨_,_,⟨A2,c_2,rfl,rfl,rfl⟩,h2⟩
  replace h2:=nf h2
  refine Ze [] rfl ?_
  refine T4 (Za [4] ?_)
  have h3:=h2.addNil 5 (.int .u8)
  cases H
  exact T3 (jRA ⟨_,_,_,_,rfl,rfl,rfl⟩ (sOR h3 [0,0] [0]))
 refine T4 (T2 ?_)
 refine Zd 4 ?_
 refine Zc (Zb 0 h0.wht) ?_
 refine Ze [0,1,21] rfl ?_
 refine jIf H (fun c3 H=>?_) fun c3 H=>?_
 ·refine T4 (T2 ?_)
  refine Zd 1 ?_
  obtain ⟨r2,q2,H⟩:=Ye H
  refine Zv (Zz [0] (Q177.spec q2) h0 rfl (gS [0])) ?_
  rintro _ w2 ⟨_,_,⟨A3,c_3,rfl,rfl,rfl⟩,h4⟩
  replace h4:=nf h4
  refine Ze [] rfl ?_
  refine T4 (Za [4] ?_)
  have h5:=h4.addNil 5 (.int .u8)
  cases H
  exact T3 (jRA ⟨_,_,_,_,rfl,rfl,rfl⟩ (sOR h5 [0,0] [0]))
 refine T5 (T4 (T2 ?_))
 refine Zd 1 ?_
 obtain ⟨⟨p1,p2⟩,H⟩:=Zl H
 refine rB (Jq Yj (ty:=(.int .u8)) rfl (0:Int) rfl rfl rfl rfl rfl rfl rfl (by decide) h0 p1 p2) fun b2 w3 h6=>?_
 refine Ze [0,1,5] rfl ?_
 refine T4 (T2 ?_)
 refine Zd 4 ?_
 refine Zc (Zb 1 h6.wht) ?_
 have e1:0+(List.replicate a1.toNat (0:Int)).length≤(List.replicate a1.toNat (0:Int)).length:=by first | omega | (simp only [List.length_take,List.length_drop]; omega)
 refine Zv (Zf0 Yj (ty:=(.int .u8)) (xs:=(List.replicate a1.toNat (0:Int))) (ys:=a0.1) rfl 0 rfl h6 rfl (Zk 1) rfl rfl rfl rfl rfl rfl e1) ?_
 rintro _ w4 ⟨rfl,h7⟩
 replace h7:=nf h7
 refine Ze [0,1,5] rfl ?_
 refine TY (env':=[(0,.pointer (some ⟨b1,0,none⟩)),(1,.int .i64 a1),(5,.slice (some ⟨b2,0,none⟩) (patch (List.replicate a1.toNat (0:Int)) 0 ((List.replicate a1.toNat (0:Int)).length) a0.1).length (a1.toNat))]) (by simp only [Xr e1,List.length_nil] <;> rfl) ?_
 refine T4 (T2 ?_)
 refine Zd 4 ?_
 refine Zc (Zb 1 h7.wht) ?_
 refine Zd 1 ?_
 obtain ⟨⟨p3,p4⟩,H⟩:=Zl H
 have e2:=h7.cap (Zk 2)
 refine Zc (J9 (a0.1.drop a1.toNat) a1 (a0.1.length:Int) e2 p3 p4 (Int.le_refl _) (W7 _ _)) ?_
 refine Zd 2 ?_
 refine rS (Zs 1 h7) fun _ w5 h8=>?_
 refine Ze [5] rfl ?_
 refine T4 (Za [4] ?_)
 have h9:=h8.read (k:=0) rfl (Vw (.int .u8) (a0.1.drop a1.toNat) a1 (a0.1.length:Int) p3 p4 (Int.le_refl _) (W7 _ _))
 cases H
 exact T3 (jRA ⟨_,_,_,_,rfl,rfl,rfl⟩ (sOR h9 [1,0] [0]))

def Q171.l0:Nat→(List Int×TN)→Int→Int→Option (Int×TN)
 | 0,_,_,_=>none
 | k+1,r2,x2,x3=>if (decide (x3<(r2.1.length:Int)))=true then (if 0≤x3∧x3<(r2.1.length:Int) then (Q171.l0 k r2 (IntKind.u64.wrap (((BitVec.ofInt IntKind.u64.bits (IntKind.u64.wrap (x2*2 ^ 8)) ||| (BitVec.ofInt IntKind.u64.bits (IntKind.u64.wrap ((gt r2.1 x3))))).toNat:Int))) (w64 (x3+1))) else none) else (some (x2,r2.2))
def Q171.f (k:Nat) (a0:TN) (a1:Int):Option (Int×TN):=(Q178.f a1).bind fun r1=>(if (!r1)=true then ((Q172.f a0 (-1)).bind fun r2=>(Q171.l0 k r2 0 0)) else ((Q172.f a0 a1).bind fun r2=>(Q171.l0 k r2 0 0)))
theorem Q171.spec {k a0 a1 A1 c_1 b1 r} (H:Q171.f k a0 a1=some r) :
  SpecA Tryz.prog 66 [.pointer (some ⟨b1,0,none⟩),.int .i64 a1] [X6 b1 a0.1 A1 c_1 a0.2] [R5 a0.1 A1 c_1] (fun v l lr=>∃ A_0 c_0,v=.int .u64 r.1∧l=[X6 b1 r.2.1 A_0 c_0 r.2.2]∧lr=[R5 r.2.1 A_0 c_0]):=by
 refine Yd Tryz.func66 fun w0 F0 h0=>?_
 unfold Q171.f at H
 refine T4 (Za [0,1] ?_)
 refine T4 (T4 (T2 ?_))
 refine Zd 1 ?_
 refine cS H [] h0 rfl Q178.spec Zp fun r1 w1 H h1=>?_
 refine Ze [0,1,10] rfl ?_
 refine T1 (fun env w=>∃(k1:Nat) (x1:Int),env=[(0,.pointer (some ⟨b1,0,none⟩)),(1,.int .i64 x1)]∧St w0 F0 [X6 b1 a0.1 A1 c_1 a0.2] [R5 a0.1 A1 c_1] w∧((Q172.f a0 x1).bind fun r2=>(Q171.l0 k1 r2 0 0))=some r∧k1≤k) ?_ ?_
 ·refine jIf H (fun c2 H=>?_) fun c2 H=>?_
  ·refine Za [0,1] ?_
   have h7:=(sOR h1 [0] [0])
   exact ⟨k,(-1),rfl,h7,H,T6 _⟩
  refine Ws [0,1] ?_
  refine T5 ?_
  have h8:=(sOR h1 [0] [0])
  exact ⟨k,a1,rfl,h8,H,T6 _⟩
 rintro env w3 ⟨k1,x1,rfl,h2,H,hk1⟩
 refine T4 (Za [0,1,5] ?_)
 refine T4 (T4 (T2 ?_))
 refine Zd 2 ?_
 obtain ⟨r2,q2,H⟩:=Ye H
 refine Zv (Zz [0] (Q172.spec q2) h2 rfl (gS [0])) ?_
 rintro _ w4 ⟨_,_,⟨A2,c_2,A3,c_3,rfl,rfl,rfl⟩,h3⟩
 replace h3:=nf h3
 refine Ze [5,13,14,15] rfl ?_
 refine TW ?_
 have h6:=(sOR h3 [1,0] [0])
 refine T0 (fun kk env w=>∃ x2 x3,Q171.l0 kk r2 x2 x3=some r∧env=[(5,.int .u64 x2),(13,.slice A2 r2.1.length c_2),(14,.int .i64 (r2.1.length:Int)),(15,.int .i64 x3)]∧St w0 F0 [X6 b1 r2.2.1 A3 c_3 r2.2.2,O5 r2.1 A2 c_2] [R5 r2.2.1 A3 c_3] w) (k:=k1) ⟨_,_,H,rfl,h6⟩ ?_
 rintro k2 env w5 ⟨x2,x3,H,rfl,h4⟩
 rcases k2 with _ | k2
 ·exact z0 H
 rw [Q171.l0] at H
 refine T4 (Za [5,13,14,15,16] ?_)
 refine T4 (jIf H (fun c1 H=>?_) fun c1 H=>?_)
 ·refine T5 (T4 (TW (T4 (T2 ?_))))
  obtain ⟨⟨p1,p2⟩,H⟩:=Zl H
  have e1:=Zx h4.wh (gO 1) p1 p2
  refine Zc (Zg e1 p1 p2) ?_
  refine Zc (Zh 0 h4.wht (gO 1) p1 p2) ?_
  refine Ze [5,7,13,14,15] rfl ?_
  refine Za [5,13,14,15] ?_
  refine Za [5,13,14,15] ?_
  have h5:=(sOR h4 [0,0] [0])
  exact ⟨k2,by omega,_,_,H,rfl,h5⟩
 refine TZ (T4 (Za [4] ?_))
 cases H
 exact T3 (jRA ⟨_,_,rfl,rfl,rfl⟩ (sOR h4 [0] [0]))

def Q176.f (a0:Int):Option (Bool):=some (!decide (a0=0))
theorem Q176.spec {a0 r} (H:Q176.f a0=some r) :
  Spec Tryz.prog 116 [.int .u8 a0] [] [] (fun v l=>v=.bool r∧l=[]):=by
 refine Zi Tryz.func116 fun w0 F0 h0=>?_
 unfold Q176.f at H
 refine T4 (Za [0] ?_)
 refine T4 (Za [2] ?_)
 cases H
 exact T3 (jR0 h0 [])

def Q105.l0:Nat→TU→Int→Option (Int)
 | 0,_,_=>none
 | k+1,a0,x1=>if (decide (x1<(a0.length:Int)))=true then (if 0≤x1∧x1<(a0.length:Int) then ((Q176.f (gt a0 x1)).bind fun r1=>(if r1=true then (some x1) else (Q105.l0 k a0 (w64 (x1+1))))) else none) else (some (-1))
def Q105.f (k:Nat) (a0:TU):Option (Int):=Q105.l0 k a0 0
theorem Q105.spec {k a0 A1 c_1 r} (H:Q105.f k a0=some r) :
  Spec Tryz.prog 163 [.slice A1 a0.length c_1,.func (.func 116) #[] #[]] [] [R5 a0 A1 c_1] (fun v l=>v=.int .i64 r∧l=[]):=by
 refine Zi Tryz.func163 fun w0 F0 h0=>?_
 unfold Q105.f at H
 refine T4 (Za [0,1] ?_)
 refine T4 (T4 (Za [0,1,7,8] ?_))
 refine TW ?_
 have h4:=(sOR h0 [] [0])
 refine T0 (fun kk env w=>∃ x1,Q105.l0 kk a0 x1=some r∧env=[(0,.slice A1 a0.length c_1),(1,.func (.func 116) #[] #[]),(7,.int .i64 (a0.length:Int)),(8,.int .i64 x1)]∧St w0 F0 [] [R5 a0 A1 c_1] w) (k:=k) ⟨_,H,rfl,h4⟩ ?_
 rintro k1 env w1 ⟨x1,H,rfl,h1⟩
 rcases k1 with _ | k1
 ·exact z0 H
 rw [Q105.l0] at H
 refine T4 (Za [0,1,7,8,9] ?_)
 refine T4 (jIf H (fun c1 H=>?_) fun c1 H=>?_)
 ·refine T5 (T4 (TW (T4 (Za [0,1,5,7,8] ?_))))
  refine T4 (T2 ?_)
  refine Zd 3 ?_
  obtain ⟨⟨p1,p2⟩,H⟩:=Zl H
  have e1:=Zx h1.wh (Zk 0) p1 p2
  refine Zc (Zg e1 p1 p2) ?_
  refine Zc (Zh 0 h1.wht (Zk 0) p1 p2) ?_
  refine cS H [] h1 rfl Q176.spec Zp fun r1 w2 H h2=>?_
  refine Ze [0,1,5,7,8,16] rfl ?_
  refine jIf H (fun c2 H=>?_) fun c2 H=>?_
  ·refine T4 (Za [4] ?_)
   cases H
   exact T3 (jR0 h2 [])
  refine T5 (Za [0,1,7,8] ?_)
  have h3:=(sOR h2 [] [0])
  exact ⟨k1,by omega,_,H,rfl,h3⟩
 refine TZ (T4 (Za [4] ?_))
 cases H
 exact T3 (jR0 h1 [])

def Q99.f (k:Nat) (a0:TU):Option (Bool):=(Q105.f k a0).bind fun r1=>(some (decide (0≤r1)))
theorem Q99.spec {k a0 A1 c_1 r} (H:Q99.f k a0=some r) :
  Spec Tryz.prog 115 [.slice A1 a0.length c_1,.func (.func 116) #[] #[]] [] [R5 a0 A1 c_1] (fun v l=>v=.bool r∧l=[]):=by
 refine Zi Tryz.func115 fun w0 F0 h0=>?_
 unfold Q99.f at H
 refine T4 (Za [0,1] ?_)
 refine T4 (T2 ?_)
 refine Zd 2 ?_
 refine cS H [] h0 rfl Q105.spec (gS [0]) fun r1 w1 H h1=>?_
 refine Ze [4] rfl ?_
 cases H
 exact T3 (jR0 h1 [])

def Q175.f (k:Nat) (a0:TN) (a1:Int):Option (TN):=(Q172.f a0 a1).bind fun r1=>((Q99.f k r1.1).bind fun r2=>(if r2=true then ((Q177.f r1.2 3).bind fun r3=>(some r3)) else (some r1.2)))
theorem Q175.spec {k a0 a1 A1 c_1 b1 r} (H:Q175.f k a0 a1=some r) :
  SpecA Tryz.prog 67 [.pointer (some ⟨b1,0,none⟩),.int .i64 a1] [X6 b1 a0.1 A1 c_1 a0.2] [R5 a0.1 A1 c_1] (fun v l lr=>∃ A_0 c_0,v=.tuple #[]∧l=[X6 b1 r.1 A_0 c_0 r.2]∧lr=[R5 r.1 A_0 c_0]):=by
 refine Yd Tryz.func67 fun w0 F0 h0=>?_
 unfold Q175.f at H
 refine T4 (T2 ?_)
 refine Zd 2 ?_
 obtain ⟨r1,q1,H⟩:=Ye H
 refine Zv (Zz [0] (Q172.spec q1) h0 rfl (gS [0])) ?_
 rintro _ w1 ⟨_,_,⟨A2,c_2,A3,c_3,rfl,rfl,rfl⟩,h1⟩
 replace h1:=nf h1
 refine cS H [] h1 rfl Q99.spec (X4 (gO 0) Zp) fun r2 w2 H h2=>?_
 refine Ze [0,7] rfl ?_
 refine jIf H (fun c1 H=>?_) fun c1 H=>?_
 ·refine T2 (Zd 1 ?_)
  obtain ⟨r3,q3,H⟩:=Ye H
  refine Zv (Zz [1] (Q177.spec q3) h2 rfl (gS [0])) ?_
  rintro _ w3 ⟨_,_,⟨A4,c_4,rfl,rfl,rfl⟩,h3⟩
  replace h3:=nf h3
  refine Ze [] rfl ?_
  cases H
  exact ⟨_,_,_,Zj,⟨_,_,rfl,rfl,rfl⟩,sOR h3 [0] [0]⟩
 refine T5 ?_
 cases H
 exact ⟨_,_,_,Zj,⟨_,_,rfl,rfl,rfl⟩,sOR h2 [1] [0]⟩

def Q174.f (a0:Int):Option (Bool):=some (!decide (a0=0))
theorem Q174.spec {a0 r} (H:Q174.f a0=some r) :
  Spec Tryz.prog 164 [.int .u8 a0] [] [] (fun v l=>v=.bool r∧l=[]):=by
 refine Zi Tryz.func164 fun w0 F0 h0=>?_
 unfold Q174.f at H
 refine T4 (Za [0] ?_)
 refine T4 (Za [2] ?_)
 cases H
 exact T3 (jR0 h0 [])

def Q104.l0:Nat→TU→Int→Option (Int)
 | 0,_,_=>none
 | k+1,a0,x1=>if (decide (x1<(a0.length:Int)))=true then (if 0≤x1∧x1<(a0.length:Int) then ((Q174.f (gt a0 x1)).bind fun r1=>(if r1=true then (some x1) else (Q104.l0 k a0 (w64 (x1+1))))) else none) else (some (-1))
def Q104.f (k:Nat) (a0:TU):Option (Int):=Q104.l0 k a0 0
theorem Q104.spec {k a0 A1 c_1 r} (H:Q104.f k a0=some r) :
  Spec Tryz.prog 163 [.slice A1 a0.length c_1,.func (.func 164) #[] #[]] [] [R5 a0 A1 c_1] (fun v l=>v=.int .i64 r∧l=[]):=by
 refine Zi Tryz.func163 fun w0 F0 h0=>?_
 unfold Q104.f at H
 refine T4 (Za [0,1] ?_)
 refine T4 (T4 (Za [0,1,7,8] ?_))
 refine TW ?_
 have h4:=(sOR h0 [] [0])
 refine T0 (fun kk env w=>∃ x1,Q104.l0 kk a0 x1=some r∧env=[(0,.slice A1 a0.length c_1),(1,.func (.func 164) #[] #[]),(7,.int .i64 (a0.length:Int)),(8,.int .i64 x1)]∧St w0 F0 [] [R5 a0 A1 c_1] w) (k:=k) ⟨_,H,rfl,h4⟩ ?_
 rintro k1 env w1 ⟨x1,H,rfl,h1⟩
 rcases k1 with _ | k1
 ·exact z0 H
 rw [Q104.l0] at H
 refine T4 (Za [0,1,7,8,9] ?_)
 refine T4 (jIf H (fun c1 H=>?_) fun c1 H=>?_)
 ·refine T5 (T4 (TW (T4 (Za [0,1,5,7,8] ?_))))
  refine T4 (T2 ?_)
  refine Zd 3 ?_
  obtain ⟨⟨p1,p2⟩,H⟩:=Zl H
  have e1:=Zx h1.wh (Zk 0) p1 p2
  refine Zc (Zg e1 p1 p2) ?_
  refine Zc (Zh 0 h1.wht (Zk 0) p1 p2) ?_
  refine cS H [] h1 rfl Q174.spec Zp fun r1 w2 H h2=>?_
  refine Ze [0,1,5,7,8,16] rfl ?_
  refine jIf H (fun c2 H=>?_) fun c2 H=>?_
  ·refine T4 (Za [4] ?_)
   cases H
   exact T3 (jR0 h2 [])
  refine T5 (Za [0,1,7,8] ?_)
  have h3:=(sOR h2 [] [0])
  exact ⟨k1,by omega,_,H,rfl,h3⟩
 refine TZ (T4 (Za [4] ?_))
 cases H
 exact T3 (jR0 h1 [])

def Q98.f (k:Nat) (a0:TU):Option (Bool):=(Q104.f k a0).bind fun r1=>(some (decide (0≤r1)))
theorem Q98.spec {k a0 A1 c_1 r} (H:Q98.f k a0=some r) :
  Spec Tryz.prog 115 [.slice A1 a0.length c_1,.func (.func 164) #[] #[]] [] [R5 a0 A1 c_1] (fun v l=>v=.bool r∧l=[]):=by
 refine Zi Tryz.func115 fun w0 F0 h0=>?_
 unfold Q98.f at H
 refine T4 (Za [0,1] ?_)
 refine T4 (T2 ?_)
 refine Zd 2 ?_
 refine cS H [] h0 rfl Q104.spec (gS [0]) fun r1 w1 H h1=>?_
 refine Ze [4] rfl ?_
 cases H
 exact T3 (jR0 h1 [])

def Q173.f (k:Nat) (a0:TN) (a1:Int) (a2:Int):Option (List UInt8×TN):=if (decide (a1<0))=true then ((Q177.f a0 2).bind fun r1=>(some (([]:List UInt8),r1))) else (if (decide (a2<a1))=true then ((Q177.f a0 2).bind fun r2=>(some (([]:List UInt8),r2))) else ((Q172.f a0 a2).bind fun r3=>(if (decide ((r3.1.length:Int)<a2))=true then (some (([]:List UInt8),r3.2)) else (if 0≤a1∧a1≤(r3.1.length:Int) then ((Q98.f k (r3.1.drop a1.toNat)).bind fun r4=>(if r4=true then ((Q177.f r3.2 3).bind fun r5=>(some (([]:List UInt8),r5))) else (if (0:Int)≤a1∧a1≤(r3.1.length:Int) then (some ((toS (r3.1.take a1.toNat)),r3.2)) else none))) else none))))
theorem Q173.spec {k a0 a1 a2 A1 c_1 b1 r} (H:Q173.f k a0 a1 a2=some r) :
  SpecA Tryz.prog 119 [.pointer (some ⟨b1,0,none⟩),.int .i64 a1,.int .i64 a2] [X6 b1 a0.1 A1 c_1 a0.2] [R5 a0.1 A1 c_1] (fun v l lr=>∃ A_0 c_0,v=.string ⟨⟨r.1⟩⟩∧l=[X6 b1 r.2.1 A_0 c_0 r.2.2]∧lr=[R5 r.2.1 A_0 c_0]):=by
 refine Yd Tryz.func119 fun w0 F0 h0=>?_
 unfold Q173.f at H
 refine T4 (Za [0,1,2] ?_)
 refine T4 (T4 (Za [0,1,2,9] ?_))
 refine Z5 ?_
 refine T5 (T4 (T4 (T2 ?_)))
 refine Zd 3 ?_
 refine Z7 12 H (fun c1 H=>?_) fun c1 H=>?_
 ·refine Ze [0,1,2,16] rfl ?_
  refine Zn ?_
  refine T4 (T2 ?_)
  refine Zd 1 ?_
  obtain ⟨r1,q1,H⟩:=Ye H
  refine Zv (Zz [0] (Q177.spec q1) h0 rfl (gS [0])) ?_
  rintro _ w1 ⟨_,_,⟨A2,c_2,rfl,rfl,rfl⟩,h1⟩
  replace h1:=nf h1
  refine Ze [] rfl ?_
  refine T4 (Za [6] ?_)
  cases H
  exact T3 (jRA ⟨_,_,rfl,rfl,rfl⟩ (sOR h1 [0] [0]))
 refine Ze [0,1,2,16] rfl ?_
 refine jIf H (fun c2 H=>?_) fun c2 H=>?_
 ·refine T4 (T2 ?_)
  refine Zd 1 ?_
  obtain ⟨r2,q2,H⟩:=Ye H
  refine Zv (Zz [0] (Q177.spec q2) h0 rfl (gS [0])) ?_
  rintro _ w2 ⟨_,_,⟨A3,c_3,rfl,rfl,rfl⟩,h2⟩
  replace h2:=nf h2
  refine Ze [] rfl ?_
  refine T4 (Za [6] ?_)
  cases H
  exact T3 (jRA ⟨_,_,rfl,rfl,rfl⟩ (sOR h2 [0] [0]))
 refine T5 (T4 (T2 ?_))
 refine Zd 2 ?_
 obtain ⟨r3,q3,H⟩:=Ye H
 refine Zv (Zz [0] (Q172.spec q3) h0 rfl (gS [0])) ?_
 rintro _ w3 ⟨_,_,⟨A4,c_4,A5,c_5,rfl,rfl,rfl⟩,h3⟩
 replace h3:=nf h3
 refine Ze [0,1,2,7] rfl ?_
 refine T4 (T4 (Za [0,1,7,25] ?_))
 refine jIf H (fun c3 H=>?_) fun c3 H=>?_
 ·refine T4 (Za [6] ?_)
  cases H
  exact T3 (jRA ⟨_,_,rfl,rfl,rfl⟩ (sOR h3 [1] [0]))
 refine T5 (T4 (T4 (T2 ?_)))
 refine Zd 2 ?_
 obtain ⟨⟨p1,p2⟩,H⟩:=Zl H
 have e1:=h3.cap (gO 0)
 refine Zc (J9 (r3.1.drop a1.toNat) a1 (r3.1.length:Int) e1 p1 p2 (Int.le_refl _) (W7 _ _)) ?_
 refine cS H [] h3 rfl Q98.spec (X4 ((Gives.of 0 rfl Yz).trans (Vw (.int .u8) (r3.1.drop a1.toNat) a1 (r3.1.length:Int) p1 p2 (Int.le_refl _) (W7 _ _))) Zp) fun r4 w4 H h4=>?_
 refine Ze [0,1,7,29] rfl ?_
 refine jIf H (fun c4 H=>?_) fun c4 H=>?_
 ·refine T4 (T2 ?_)
  refine Zd 1 ?_
  obtain ⟨r5,q5,H⟩:=Ye H
  refine Zv (Zz [1] (Q177.spec q5) h4 rfl (gS [0])) ?_
  rintro _ w5 ⟨_,_,⟨A6,c_6,rfl,rfl,rfl⟩,h5⟩
  replace h5:=nf h5
  refine Ze [] rfl ?_
  refine T4 (Za [6] ?_)
  cases H
  exact T3 (jRA ⟨_,_,rfl,rfl,rfl⟩ (sOR h5 [0] [0]))
 refine T5 (T4 (T2 ?_))
 refine Zd 2 ?_
 obtain ⟨⟨p3,p4⟩,H⟩:=Zl H
 have e2:=h4.cap (gO 0)
 refine Zc (Uj (r3.1.take a1.toNat) a1 e2 p3 p4) ?_
 refine Zc (Zhj h4.wht ((Gives.of 0 rfl Yz).trans (Zbt (.int .u8) (r3.1.take a1.toNat) a1 p3 p4))) ?_
 refine Ze [6] rfl ?_
 cases H
 exact T3 (jRA ⟨_,_,rfl,rfl,rfl⟩ (sOR h4 [1] [0]))

def Q44.f (k:Nat) (a0:Tr) (a1:TN):Option (List UInt8×List UInt8×TN):=(Q171.f k a1 1).bind fun r1=>((Q171.f k r1.2 2).bind fun r2=>((Q173.f k r2.2 (w64 (r1.1)) a0.2.2.2.2.2.2.1).bind fun r3=>((Q173.f k r3.2 (w64 (r2.1)) a0.2.2.2.2.2.2.2).bind fun r4=>(some (r3.1,r4.1,r4.2)))))
theorem Q44.spec {k a0 a1 A1 c_1 b1 r} (H:Q44.f k a0 a1=some r) :
  SpecA Tryz.prog 118 [.agg #[.int .i64 a0.1,.int .i64 a0.2.1,.int .i64 a0.2.2.1,.int .i64 a0.2.2.2.1,.int .i64 a0.2.2.2.2.1,.int .i64 a0.2.2.2.2.2.1,.int .i64 a0.2.2.2.2.2.2.1,.int .i64 a0.2.2.2.2.2.2.2],.pointer (some ⟨b1,0,none⟩)] [X6 b1 a1.1 A1 c_1 a1.2] [R5 a1.1 A1 c_1] (fun v l lr=>∃ A_0 c_0,v=.tuple #[.string ⟨⟨r.1⟩⟩,.string ⟨⟨r.2.1⟩⟩]∧l=[X6 b1 r.2.2.1 A_0 c_0 r.2.2.2]∧lr=[R5 r.2.2.1 A_0 c_0]):=by
 refine Yd Tryz.func118 fun w0 F0 h0=>?_
 unfold Q44.f at H
 refine T4 (T2 ?_)
 refine rB (Z4 h0) fun b2 w1 h1=>?_
 refine Ze [1,2] rfl ?_
 refine T4 (T2 ?_)
 refine Zd 1 ?_
 obtain ⟨r1,q1,H⟩:=Ye H
 refine Zv (Zz [1] (Q171.spec q1) h1 rfl (gS [0])) ?_
 rintro _ w2 ⟨_,_,⟨A2,c_2,rfl,rfl,rfl⟩,h2⟩
 replace h2:=nf h2
 refine Zd 2 ?_
 obtain ⟨r2,q2,H⟩:=Ye H
 refine Zv (Zz [0] (Q171.spec q2) h2 rfl (gS [0])) ?_
 rintro _ w3 ⟨_,_,⟨A3,c_3,rfl,rfl,rfl⟩,h3⟩
 replace h3:=nf h3
 refine Ze [1,2,6,7] rfl ?_
 refine T4 (Zw (sO h3 [1]) ?_)
 have h4:=h3.drew
 refine Zo [0,1,2,5,6,7] ?_
 refine Zf 3 rfl (Zb 0 wI) ?_
 refine Zf 8 rfl (Zb 0 wI) ?_
 obtain ⟨r3,q3,H⟩:=Ye H
 refine Yl 4 rfl (Zz [0] (Q173.spec q3) h4 rfl (gS [0])) ?_
 rintro _ w4 ⟨_,_,⟨A4,c_4,rfl,rfl,rfl⟩,h5⟩
 replace h5:=nf h5
 refine ⟨⟨[_],(Y9 h5 [1,2,3])⟩,?_⟩
 obtain ⟨r4,q4,H⟩:=Ye H
 refine Yl 9 rfl (Zz [0] (Q173.spec q4) h5 rfl (gS [0])) ?_
 rintro _ w5 ⟨_,_,⟨A5,c_5,rfl,rfl,rfl⟩,h6⟩
 replace h6:=nf h6
 refine ⟨⟨[_],(Y9 h6 [2,3,4])⟩,?_⟩
 refine Zo [10,11] ?_
 refine Zt [4,5] ?_
 cases H
 exact T3 (jRA ⟨_,_,rfl,rfl,rfl⟩ (sOR h6 [0] [0]))

end Go.SK.T
