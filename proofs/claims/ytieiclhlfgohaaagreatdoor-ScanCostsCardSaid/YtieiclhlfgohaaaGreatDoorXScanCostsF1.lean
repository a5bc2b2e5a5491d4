/- The functions, further. -/
import Derived.Test.YtieiclhlfgohaaaGreatDoorXScanCostsF0
set_option linter.unusedVariables false
set_option linter.unusedSimpArgs false
set_option maxRecDepth 20000
set_option maxHeartbeats 40000000
namespace Go.SK.T
open Go Go.SK Go.Proofs
open BitVec (ofInt)
open List (length_set length_nil append_assoc length_cons drop_eq_nil_of_le length_take length_drop length_map length_range length_replicate)
open Tryz (prog)
def Q118.f (a0:TW) (a1:Int) (a2:Int):Option TV:=if (decide (8<=(w64 (a2 - a1))))=true then (if (decide (50<=(w64 (a2 - a1))))=true then ((Q121.f a0 (w64 (a1+(w64 ((w64 (Int.tdiv (w64 (a2 - a1)) 4))*1)))) 0).bind fun r1=>((Q121.f a0 (w64 (a1+(w64 ((w64 (Int.tdiv (w64 (a2 - a1)) 4))*2)))) r1.2).bind fun r2=>((Q121.f a0 (w64 (a1+(w64 ((w64 (Int.tdiv (w64 (a2 - a1)) 4))*3)))) r2.2).bind fun r3=>((Q122.f a0 r1.1 r2.1 r3.1 r3.2).bind fun r4=>(if (decide (r4.2=0))=true then (some (r4.1,1)) else (if (decide (r4.2=12))=true then (some (r4.1,2)) else (some (r4.1,0)))))))) else ((Q122.f a0 (w64 (a1+(w64 ((w64 (Int.tdiv (w64 (a2 - a1)) 4))*1)))) (w64 (a1+(w64 ((w64 (Int.tdiv (w64 (a2 - a1)) 4))*2)))) (w64 (a1+(w64 ((w64 (Int.tdiv (w64 (a2 - a1)) 4))*3)))) 0).bind fun r5=>(if (decide (r5.2=0))=true then (some (r5.1,1)) else (if (decide (r5.2=12))=true then (some (r5.1,2)) else (some (r5.1,0)))))) else (some ((w64 (a1+(w64 ((w64 (Int.tdiv (w64 (a2 - a1)) 4))*2)))),1))
theorem Q118.spec {a0 a1 a2 A1 c_1 r} (H:Q118.f a0 a1 a2=some r) :
  Spec prog 181 [.slice A1 a0.length c_1,.int .i64 a1,.int .i64 a2] [] [R32 a0 A1 c_1] (fun v l=>v=.tuple #[.int .i64 r.1,.int .i64 r.2]/\l=[]):=by
 refine Zf Tryz.func181 fun w0 F0 h0=>?_
 unfold Q118.f at H
 refine T8 (Za [0,1,2] ?_)
 refine T8 (Za [0,1,8] ?_)
 refine T8 (T6 (rB (Yp h0) fun b1 w1 h1=>?_))
 refine rFi [0,1,8,9] ?_
 refine T8 (Za [0,1,8,9,10] ?_)
 refine T8 (Za [0,1,8,9,10,11] ?_)
 refine T8 (Za [0,8,9,10,11,12] ?_)
 refine T8 (T8 (Za [0,8,9,10,11,12,32] ?_))
 refine jIf H (fun c1 H=>?_) fun c1 H=>?_
 ·refine T8 (T8 (Za [0,9,10,11,12,34] ?_))
  refine jIf H (fun c2 H=>?_) fun c2 H=>?_
  ·refine T8 (T6 (Ze 2 ?_))
   refine cS H [0] h1 rfl Q121.spec (gS [0]) fun r1 w2 H h2=>?_
   refine rFi [0,9,10,11,12] ?_
   refine T8 (T6 (Ze 2 ?_))
   refine cS H [0] h2 rfl Q121.spec (gS [0]) fun r2 w3 H h3=>?_
   refine rFi [0,9,10,11,12] ?_
   refine T6 (Ze 2 ?_)
   refine cS H [0] h3 rfl Q121.spec (gS [0]) fun r3 w4 H h4=>?_
   refine rFi [0,9,10,11,12] ?_
   refine T6 (Ze 4 ?_)
   refine cS H [0] h4 rfl Q122.spec (gS [0]) fun r4 w5 H h5=>?_
   refine rFi [9,11] ?_
   refine T8 (T6 (rLo 0 h5 ?_))
   refine rFi [11,49] ?_
   refine T0 (T8 (Za [11,49,51] ?_))
   refine jIf H (fun c3 H=>?_) fun c3 H=>?_
   ·refine T8 (Za [6,7] ?_)
    cases H
    exact T7 (jR0 h5 [])
   refine T8 (Za [11,54] ?_)
   refine jIf H (fun c4 H=>?_) fun c4 H=>?_
   ·refine T8 (Za [6,7] ?_)
    cases H
    exact T7 (jR0 h5 [])
   refine T8 (Za [6,7] ?_)
   cases H
   exact T7 (jR0 h5 [])
  refine T9 (T6 (Ze 4 ?_))
  refine cS H [0] h1 rfl Q122.spec (gS [0]) fun r5 w6 H h6=>?_
  refine rFi [9,11] ?_
  refine T8 (T6 (rLo 0 h6 ?_))
  refine rFi [11,49] ?_
  refine T0 (T8 (Za [11,49,51] ?_))
  refine jIf H (fun c5 H=>?_) fun c5 H=>?_
  ·refine T8 (Za [6,7] ?_)
   cases H
   exact T7 (jR0 h6 [])
  refine T8 (Za [11,54] ?_)
  refine jIf H (fun c6 H=>?_) fun c6 H=>?_
  ·refine T8 (Za [6,7] ?_)
   cases H
   exact T7 (jR0 h6 [])
  refine T8 (Za [6,7] ?_)
  cases H
  exact T7 (jR0 h6 [])
 refine T9 (T8 (T6 (rLo 0 h1 ?_)))
 refine rFi [11,49] ?_
 refine T0 (T8 (Za [11,49,51] ?_))
 refine Zo ?_
 refine T8 (Za [6,7] ?_)
 cases H
 exact T7 (jR0 h1 [])

def Q129.l0:Nat->TW->(Int)->(Int)->Option TW
 | 0,_,_,_=>none
 | k+1,x1,x2,x3=>if (decide (x2<x3))=true then (if 0<=x3/\x3<(x1.length:Int) then (if 0<=x2/\x2<(x1.length:Int) then (Q129.l0 k ((x1.set x2.toNat (gt x1 x3)).set x3.toNat (gt x1 x2)) (w64 (x2+1)) (w64 (x3 - 1))) else none) else none) else (some x1)
def Q129.f (k:Nat) (a0:TW) (a1:Int) (a2:Int):Option TW:=Q129.l0 k a0 a1 (w64 (a2 - 1))
theorem Q129.spec {k a0 a1 a2 A1 c_1 r} (H:Q129.f k a0 a1 a2=some r) :
  Spec prog 182 [.slice A1 a0.length c_1,.int .i64 a1,.int .i64 a2] [O32 a0 A1 c_1] [] (fun v l=>v=.tuple #[]/\l=[O32 r A1 c_1]/\r.length=a0.length):=by
 refine Zf Tryz.func182 fun w0 F0 h0=>?_
 unfold Q129.f at H
 refine T8 (Za [0,2,6] ?_)
 refine T8 (Za [0,6,7] ?_)
 refine T0 ?_
 have h6:=(sOR h0 [0] [])
 refine T4 (fun kk env w=>∃ x1 x2 x3,Q129.l0 kk x1 x2 x3=some r/\env=[(0,.slice A1 x1.length c_1),(6,.int .i64 x2),(7,.int .i64 x3)]/\St w0 F0 [O32 x1 A1 c_1] [] w/\x1.length=a0.length) (k:=k) ⟨_,_,_,H,rfl,h6,(rfl:a0.length=a0.length)⟩ ?_
 rintro k1 env w1 ⟨x1,x2,x3,H,rfl,h1,e1⟩
 rcases k1 with _ | k1
 ·exact z0 H
 rw [Q129.l0] at H
 refine T8 (T8 (Za [0,6,7,13] ?_))
 refine jIf H (fun c1 H=>?_) fun c1 H=>?_
 ·refine T9 (T0 (T8 (Zv (sO h1 []) ?_)))
  have h2:=h1.drew
  refine Zr [0,1,2,3,4,5,8,9] ?_
  obtain ⟨⟨p1,p2⟩,H⟩:=Zh H
  have e2:=Zy h2.wh (gO 0) p1 p2
  refine Zb 6 rfl (Zc e2 p1 p2) ?_
  obtain ⟨⟨p3,p4⟩,H⟩:=Zh H
  refine Zb 10 rfl (Zc e2 p3 p4) ?_
  refine TX (Y0 7 rfl (Zd 0 h2.wht (gO 0) p1 p2) (Y0 11 rfl (Zd 0 h2.wht (gO 0) p3 p4) V0)) ?_
  refine Zb 12 rfl (Zc e2 p3 p4) ?_
  refine hS 13 rfl (Zn 0 (.int .u32) x2 (gt x1 x3) 0 h2 rfl p3 p4) 1 fun _ w2 h3=>?_
  have e3:(x1.set x2.toNat (gt x1 x3)).length=a0.length:=length_set.trans e1
  refine Zb 14 rfl (Zc e2 p1 p2) ?_
  refine hS 15 rfl (Zn 0 (.int .u32) x3 (gt x1 x2) 0 h3 rfl p1 (by simpa only [length_set] using p2)) 1 fun _ w3 h4=>?_
  have e4:((x1.set x2.toNat (gt x1 x3)).set x3.toNat (gt x1 x2)).length=a0.length:=length_set.trans e3
  refine Y6 [0,6,7] ?_
  refine T2 (env':=[(0,.slice A1 ((x1.set x2.toNat (gt x1 x3)).set x3.toNat (gt x1 x2)).length c_1),(6,.int .i64 x2),(7,.int .i64 x3)]) (by simp only [length_set,length_nil] <;> rfl) ?_
  refine T8 (Za [0,6,7] ?_)
  refine Za [0,6,7] ?_
  have h5:=(sOR h4 [0] [])
  exact ⟨k1,by omega,_,_,_,H,rfl,h5,e4⟩
 refine T3 ?_
 cases H
 exact ⟨_,_,_,Zk,⟨rfl,rfl,e1⟩,sO h1 [0]⟩

mutual
def Q125.l0:Nat->(Int)->(Int)->TW->(Int)->(Int)->Option TO
 | 0,_,_,_,_,_=>none
 | k+1,a1,a2,x1,x2,x3=>if (decide (x3<5))=true then (Q125.l3 k a1 a2 x1 x3 x2) else (some (false,x1))
def Q125.l1:Nat->(Int)->(Int)->(Int)->(Int)->TW->(Int)->Option TO
 | 0,_,_,_,_,_,_=>none
 | k+1,a1,a2,x3,x6,x9,x10=>if (decide (x10<a2))=true then (if 0<=x10/\x10<(x9.length:Int) then (if 0<=(w64 (x10 - 1))/\(w64 (x10 - 1))<(x9.length:Int) then ((Q36.f (gt x9 x10) (gt x9 (w64 (x10 - 1)))).bind fun r1=>(if (!r1)=true then (Q125.l0 k a1 a2 x9 x6 (w64 (x3+1))) else (Q125.l1 k a1 a2 x3 x6 ((x9.set x10.toNat (gt x9 (w64 (x10 - 1)))).set (w64 (x10 - 1)).toNat (gt x9 x10)) (w64 (x10+1))))) else none) else none) else (Q125.l0 k a1 a2 x9 x6 (w64 (x3+1)))
def Q125.l2:Nat->(Int)->(Int)->(Int)->(Int)->TW->(Int)->Option TO
 | 0,_,_,_,_,_,_=>none
 | k+1,a1,a2,x3,x6,x11,x12=>if (decide (1<=x12))=true then (if 0<=x12/\x12<(x11.length:Int) then (if 0<=(w64 (x12 - 1))/\(w64 (x12 - 1))<(x11.length:Int) then ((Q36.f (gt x11 x12) (gt x11 (w64 (x12 - 1)))).bind fun r2=>(if (!r2)=true then (if (decide (2<=(w64 (a2 - x6))))=true then (Q125.l1 k a1 a2 x3 x6 x11 (w64 (x6+1))) else (Q125.l0 k a1 a2 x11 x6 (w64 (x3+1)))) else (Q125.l2 k a1 a2 x3 x6 ((x11.set x12.toNat (gt x11 (w64 (x12 - 1)))).set (w64 (x12 - 1)).toNat (gt x11 x12)) (w64 (x12 - 1))))) else none) else none) else (if (decide (2<=(w64 (a2 - x6))))=true then (Q125.l1 k a1 a2 x3 x6 x11 (w64 (x6+1))) else (Q125.l0 k a1 a2 x11 x6 (w64 (x3+1))))
def Q125.l3:Nat->(Int)->(Int)->TW->(Int)->(Int)->Option TO
 | 0,_,_,_,_,_=>none
 | k+1,a1,a2,x1,x3,x13=>if (decide (x13<a2))=true then (if 0<=x13/\x13<(x1.length:Int) then (if 0<=(w64 (x13 - 1))/\(w64 (x13 - 1))<(x1.length:Int) then ((Q36.f (gt x1 x13) (gt x1 (w64 (x13 - 1)))).bind fun r3=>(if (!r3)=true then (Q125.l3 k a1 a2 x1 x3 (w64 (x13+1))) else (if (decide (x13=a2))=true then (some (true,x1)) else (if (decide ((w64 (a2 - a1))<50))=true then (some (false,x1)) else (if 0<=(w64 (x13 - 1))/\(w64 (x13 - 1))<(x1.length:Int) then (if 0<=x13/\x13<(x1.length:Int) then (if (decide (2<=(w64 (x13 - a1))))=true then (Q125.l2 k a1 a2 x3 x13 ((x1.set x13.toNat (gt x1 (w64 (x13 - 1)))).set (w64 (x13 - 1)).toNat (gt x1 x13)) (w64 (x13 - 1))) else (if (decide (2<=(w64 (a2 - x13))))=true then (Q125.l1 k a1 a2 x3 x13 ((x1.set x13.toNat (gt x1 (w64 (x13 - 1)))).set (w64 (x13 - 1)).toNat (gt x1 x13)) (w64 (x13+1))) else (Q125.l0 k a1 a2 ((x1.set x13.toNat (gt x1 (w64 (x13 - 1)))).set (w64 (x13 - 1)).toNat (gt x1 x13)) x13 (w64 (x3+1))))) else none) else none))))) else none) else none) else (if (decide (x13=a2))=true then (some (true,x1)) else (if (decide ((w64 (a2 - a1))<50))=true then (some (false,x1)) else (if 0<=(w64 (x13 - 1))/\(w64 (x13 - 1))<(x1.length:Int) then (if 0<=x13/\x13<(x1.length:Int) then (if (decide (2<=(w64 (x13 - a1))))=true then (Q125.l2 k a1 a2 x3 x13 ((x1.set x13.toNat (gt x1 (w64 (x13 - 1)))).set (w64 (x13 - 1)).toNat (gt x1 x13)) (w64 (x13 - 1))) else (if (decide (2<=(w64 (a2 - x13))))=true then (Q125.l1 k a1 a2 x3 x13 ((x1.set x13.toNat (gt x1 (w64 (x13 - 1)))).set (w64 (x13 - 1)).toNat (gt x1 x13)) (w64 (x13+1))) else (Q125.l0 k a1 a2 ((x1.set x13.toNat (gt x1 (w64 (x13 - 1)))).set (w64 (x13 - 1)).toNat (gt x1 x13)) x13 (w64 (x3+1))))) else none) else none)))
end
def Q125.f (k:Nat) (a0:TW) (a1:Int) (a2:Int):Option TO:=Q125.l0 k a1 a2 a0 (w64 (a1+1)) 0
theorem Q125.spec {k a0 a1 a2 A1 c_1 r} (H:Q125.f k a0 a1 a2=some r) :
  Spec prog 183 [.slice A1 a0.length c_1,.int .i64 a1,.int .i64 a2] [O32 a0 A1 c_1] [] (fun v l=>v=.bool r.1/\l=[O32 r.2 A1 c_1]/\r.2.length=a0.length):=by
 refine Zf Tryz.func183 fun w0 F0 h0=>?_
 unfold Q125.f at H
 refine T8 (Za [0,1,2] ?_)
 refine T8 (Za [0,1,2,7] ?_)
 refine T8 (T8 (Za [0,1,2,7,8] ?_))
 refine T0 ?_
 have h38:=(sOR h0 [0] [])
 refine T4 (fun kk env w=>∃ x1 x2 x3,Q125.l0 kk a1 a2 x1 x2 x3=some r/\env=[(0,.slice A1 x1.length c_1),(1,.int .i64 a1),(2,.int .i64 a2),(7,.int .i64 x2),(8,.int .i64 x3)]/\St w0 F0 [O32 x1 A1 c_1] [] w/\x1.length=a0.length) (k:=k) ⟨_,_,_,H,rfl,h38,(rfl:a0.length=a0.length)⟩ ?_
 rintro k1 env w1 ⟨x1,x2,x3,H,rfl,h1,e1⟩
 rcases k1 with _ | k1
 ·exact z0 H
 rw [Q125.l0] at H
 refine T8 (T8 (Za [0,1,2,7,8,14] ?_))
 refine jIf H (fun c1 H=>?_) fun c1 H=>?_
 ·refine T9 (T8 (T5 (fun env w=>∃(k2:Nat) (x4:TW) (x5:Int),env=[(0,.slice A1 x4.length c_1),(1,.int .i64 a1),(2,.int .i64 a2),(7,.int .i64 x5),(8,.int .i64 x3)]/\St w0 F0 [O32 x4 A1 c_1] [] w/\(Q125.l0 k2 a1 a2 x4 x5 (w64 (x3+1)))=some r/\k2<=k1/\x4.length=a0.length) ?_ ?_))
  ·refine T0 (T8 (T5 (fun env w=>∃(k3:Nat) (x6:Int) (x7:Bool),env=[(0,.slice A1 x1.length c_1),(1,.int .i64 a1),(2,.int .i64 a2),(7,.int .i64 x6),(8,.int .i64 x3),(32,.bool x7)]/\St w0 F0 [O32 x1 A1 c_1] [] w/\(if (decide (x6=a2))=true then (some (true,x1)) else (if (decide ((w64 (a2 - a1))<50))=true then (some (false,x1)) else (if 0<=(w64 (x6 - 1))/\(w64 (x6 - 1))<(x1.length:Int) then (if 0<=x6/\x6<(x1.length:Int) then (if (decide (2<=(w64 (x6 - a1))))=true then (Q125.l2 k3 a1 a2 x3 x6 ((x1.set x6.toNat (gt x1 (w64 (x6 - 1)))).set (w64 (x6 - 1)).toNat (gt x1 x6)) (w64 (x6 - 1))) else (if (decide (2<=(w64 (a2 - x6))))=true then (Q125.l1 k3 a1 a2 x3 x6 ((x1.set x6.toNat (gt x1 (w64 (x6 - 1)))).set (w64 (x6 - 1)).toNat (gt x1 x6)) (w64 (x6+1))) else (Q125.l0 k3 a1 a2 ((x1.set x6.toNat (gt x1 (w64 (x6 - 1)))).set (w64 (x6 - 1)).toNat (gt x1 x6)) x6 (w64 (x3+1))))) else none) else none)))=some r/\k3<=k1) ?_ ?_))
   ·refine T0 (Wf [0,1,2,7,8] ?_)
    have h37:=(sOR h1 [0] [])
    refine T4 (fun kk env w=>∃ x13,Q125.l3 kk a1 a2 x1 x3 x13=some r/\env=[(0,.slice A1 x1.length c_1),(1,.int .i64 a1),(2,.int .i64 a2),(7,.int .i64 x13),(8,.int .i64 x3)]/\St w0 F0 [O32 x1 A1 c_1] [] w/\kk<=k1) (k:=k1) ⟨_,H,rfl,h37,Sa _⟩ ?_
    rintro k7 env w18 ⟨x13,H,rfl,h31,hk7⟩
    rcases k7 with _ | k7
    ·exact z0 H
    rw [Q125.l3] at H
    refine T8 (T8 (jH h31 fun h32=>?_))
    refine Zr [0,1,2,3] ?_
    refine W0 20 H (fun c10 H=>?_) fun c10 H=>?_
    ·refine Zr [4,5,8,9,10] ?_
     obtain ⟨⟨p13,p14⟩,H⟩:=Zh H
     have e13:=Zy h32.wh (gO 0) p13 p14
     refine Zb 6 rfl (Zc e13 p13 p14) ?_
     refine Zb 7 rfl (Zd 0 wI (gO 0) p13 p14) ?_
     obtain ⟨⟨p15,p16⟩,H⟩:=Zh H
     refine Zb 11 rfl (Zc e13 p15 p16) ?_
     refine Zb 12 rfl (Zd 0 wI (gO 0) p15 p16) ?_
     refine cSJ 13 rfl H [] h32 rfl Q36.spec Zm 0 fun r3 w19 H h33=>?_
     refine hRF [14,15] [0,1,2,7,8,32] ?_
     refine jIf H (fun c11 H=>?_) fun c11 H=>?_
     ·refine T9 (T0 (Za [0,1,2,7,8] ?_))
      have h34:=(sOR h33 [0] [])
      exact ⟨k7,by omega,_,H,rfl,h34,by omega⟩
     refine T3 ?_
     have h35:=(sOR h33 [0] [])
     exact ⟨k7,x13,(!r3),rfl,h35,H,by omega⟩
    refine hRF [4,5,6,7,8,9,10,11,12,13,14,15] [0,1,2,7,8,32] ?_
    refine Z1 ?_
    refine T3 ?_
    have h36:=(sOR h32 [0] [])
    exact ⟨k7,x13,false,rfl,h36,H,by omega⟩
   rintro env w5 ⟨k3,x6,x7,rfl,h4,H,hk3⟩
   refine T8 (T8 (Za [0,1,2,7,8,37] ?_))
   refine jIf H (fun c2 H=>?_) fun c2 H=>?_
   ·refine T8 (Za [6] ?_)
    cases H
    exact T7 (jR ⟨rfl,rfl,e1⟩ h4 [0])
   refine T9 (T8 (T8 (Za [0,1,2,7,8,41] ?_)))
   refine jIf H (fun c3 H=>?_) fun c3 H=>?_
   ·refine T8 (Za [6] ?_)
    cases H
    exact T7 (jR ⟨rfl,rfl,e1⟩ h4 [0])
   refine T9 (T8 (Zv (sO h4 []) ?_))
   have h5:=h4.drew
   refine Zr [0,1,2,3,4,5,6,7,10,11] ?_
   obtain ⟨⟨p1,p2⟩,H⟩:=Zh H
   have e3:=Zy h5.wh (gO 0) p1 p2
   refine Zb 8 rfl (Zc e3 p1 p2) ?_
   obtain ⟨⟨p3,p4⟩,H⟩:=Zh H
   refine Zb 12 rfl (Zc e3 p3 p4) ?_
   refine TX (Y0 9 rfl (Zd 0 h5.wht (gO 0) p1 p2) (Y0 13 rfl (Zd 0 h5.wht (gO 0) p3 p4) V0)) ?_
   refine Zb 14 rfl (Zc e3 p3 p4) ?_
   refine hS 15 rfl (Zn 0 (.int .u32) x6 (gt x1 (w64 (x6 - 1))) 0 h5 rfl p3 p4) 1 fun _ w6 h6=>?_
   have e4:(x1.set x6.toNat (gt x1 (w64 (x6 - 1)))).length=a0.length:=length_set.trans e1
   refine Zb 16 rfl (Zc e3 p1 p2) ?_
   refine hS 17 rfl (Zn 0 (.int .u32) (w64 (x6 - 1)) (gt x1 x6) 0 h6 rfl p1 (by simpa only [length_set] using p2)) 1 fun _ w7 h7=>?_
   have e5:((x1.set x6.toNat (gt x1 (w64 (x6 - 1)))).set (w64 (x6 - 1)).toNat (gt x1 x6)).length=a0.length:=length_set.trans e4
   refine Y6 [0,1,2,7,8] ?_
   refine T2 (env':=[(0,.slice A1 ((x1.set x6.toNat (gt x1 (w64 (x6 - 1)))).set (w64 (x6 - 1)).toNat (gt x1 x6)).length c_1),(1,.int .i64 a1),(2,.int .i64 a2),(7,.int .i64 x6),(8,.int .i64 x3)]) (by simp only [length_set,length_nil] <;> rfl) ?_
   refine T8 (T8 (Za [0,1,2,7,8,61] ?_))
   refine T5 (fun env w=>∃(k4:Nat) (x8:TW),env=[(0,.slice A1 x8.length c_1),(1,.int .i64 a1),(2,.int .i64 a2),(7,.int .i64 x6),(8,.int .i64 x3)]/\St w0 F0 [O32 x8 A1 c_1] [] w/\(if (decide (2<=(w64 (a2 - x6))))=true then (Q125.l1 k4 a1 a2 x3 x6 x8 (w64 (x6+1))) else (Q125.l0 k4 a1 a2 x8 x6 (w64 (x3+1))))=some r/\k4<=k3/\x8.length=a0.length) ?_ ?_
   ·refine jIf H (fun c7 H=>?_) fun c7 H=>?_
    ·refine T8 (Za [0,1,2,7,8,9] ?_)
     refine T0 ?_
     have h29:=(sOR h7 [0] [])
     refine T4 (fun kk env w=>∃ x11 x12,Q125.l2 kk a1 a2 x3 x6 x11 x12=some r/\env=[(0,.slice A1 x11.length c_1),(1,.int .i64 a1),(2,.int .i64 a2),(7,.int .i64 x6),(8,.int .i64 x3),(9,.int .i64 x12)]/\St w0 F0 [O32 x11 A1 c_1] [] w/\kk<=k3/\x11.length=a0.length) (k:=k3) ⟨_,_,H,rfl,h29,Sa _,e5⟩ ?_
     rintro k6 env w14 ⟨x11,x12,H,rfl,h20,hk6,e10⟩
     rcases k6 with _ | k6
     ·exact z0 H
     rw [Q125.l2] at H
     refine T8 (T8 (Za [0,1,2,7,8,9,65] ?_))
     refine jIf H (fun c8 H=>?_) fun c8 H=>?_
     ·refine T9 (T8 (T0 (T8 (T8 (jH h20 fun h21=>?_)))))
      refine Zr [0,1,4,5,6] ?_
      obtain ⟨⟨p9,p10⟩,H⟩:=Zh H
      refine Zb 2 rfl (Zc e3 p9 p10) ?_
      refine Zb 3 rfl (Zd 0 wI (gO 0) p9 p10) ?_
      obtain ⟨⟨p11,p12⟩,H⟩:=Zh H
      refine Zb 7 rfl (Zc e3 p11 p12) ?_
      refine Zb 8 rfl (Zd 0 wI (gO 0) p11 p12) ?_
      refine cSJ 9 rfl H [] h21 rfl Q36.spec Zm 0 fun r2 w15 H h22=>?_
      refine hRF [10] [0,1,2,7,8,9,78] ?_
      refine jIf H (fun c9 H=>?_) fun c9 H=>?_
      ·refine Wf [0,1,2,7,8] ?_
       refine T3 ?_
       have h23:=(sOR h22 [0] [])
       exact ⟨k6,x11,rfl,h23,H,by omega,e10⟩
      refine T9 (Zv (sO h22 []) ?_)
      have h24:=h22.drew
      refine Zr [0,1,2,3,4,5,6,7,10,11] ?_
      refine Zb 8 rfl (Zc e3 p11 p12) ?_
      refine Zb 12 rfl (Zc e3 p9 p10) ?_
      refine TX (Y0 9 rfl (Zd 0 h24.wht (gO 0) p11 p12) (Y0 13 rfl (Zd 0 h24.wht (gO 0) p9 p10) V0)) ?_
      refine Zb 14 rfl (Zc e3 p9 p10) ?_
      refine hS 15 rfl (Zn 0 (.int .u32) x12 (gt x11 (w64 (x12 - 1))) 0 h24 rfl p9 p10) 1 fun _ w16 h25=>?_
      have e11:(x11.set x12.toNat (gt x11 (w64 (x12 - 1)))).length=a0.length:=length_set.trans e10
      refine Zb 16 rfl (Zc e3 p11 p12) ?_
      refine hS 17 rfl (Zn 0 (.int .u32) (w64 (x12 - 1)) (gt x11 x12) 0 h25 rfl p11 (by simpa only [length_set] using p12)) 1 fun _ w17 h26=>?_
      have e12:((x11.set x12.toNat (gt x11 (w64 (x12 - 1)))).set (w64 (x12 - 1)).toNat (gt x11 x12)).length=a0.length:=length_set.trans e11
      refine Y6 [0,1,2,7,8,9] ?_
      refine T2 (env':=[(0,.slice A1 ((x11.set x12.toNat (gt x11 (w64 (x12 - 1)))).set (w64 (x12 - 1)).toNat (gt x11 x12)).length c_1),(1,.int .i64 a1),(2,.int .i64 a2),(7,.int .i64 x6),(8,.int .i64 x3),(9,.int .i64 x12)]) (by simp only [length_set,length_nil] <;> rfl) ?_
      refine Za [0,1,2,7,8,9] ?_
      have h27:=(sOR h26 [0] [])
      exact ⟨k6,by omega,_,_,H,rfl,h27,by omega,e12⟩
     refine Wf [0,1,2,7,8] ?_
     refine T3 ?_
     have h28:=(sOR h20 [0] [])
     exact ⟨k6,x11,rfl,h28,H,by omega,e10⟩
    refine Wf [0,1,2,7,8] ?_
    refine T9 ?_
    have h30:=(sOR h7 [0] [])
    exact ⟨k3,((x1.set x6.toNat (gt x1 (w64 (x6 - 1)))).set (w64 (x6 - 1)).toNat (gt x1 x6)),rfl,h30,H,Sa _,e5⟩
   rintro env w9 ⟨k4,x8,rfl,h8,H,hk4,e6⟩
   refine T8 (Za [0,1,2,7,8,98] ?_)
   refine jIf H (fun c4 H=>?_) fun c4 H=>?_
   ·refine T8 (Za [0,1,2,7,8,10] ?_)
    refine T0 ?_
    have h18:=(sOR h8 [0] [])
    refine T4 (fun kk env w=>∃ x9 x10,Q125.l1 kk a1 a2 x3 x6 x9 x10=some r/\env=[(0,.slice A1 x9.length c_1),(1,.int .i64 a1),(2,.int .i64 a2),(7,.int .i64 x6),(8,.int .i64 x3),(10,.int .i64 x10)]/\St w0 F0 [O32 x9 A1 c_1] [] w/\kk<=k4/\x9.length=a0.length) (k:=k4) ⟨_,_,H,rfl,h18,Sa _,e6⟩ ?_
    rintro k5 env w10 ⟨x9,x10,H,rfl,h9,hk5,e7⟩
    rcases k5 with _ | k5
    ·exact z0 H
    rw [Q125.l1] at H
    refine T8 (T8 (Za [0,1,2,7,8,10,103] ?_))
    refine jIf H (fun c5 H=>?_) fun c5 H=>?_
    ·refine T9 (T8 (T0 (T8 (T8 (jH h9 fun h10=>?_)))))
     refine Zr [0,1,4,5,6] ?_
     obtain ⟨⟨p5,p6⟩,H⟩:=Zh H
     refine Zb 2 rfl (Zc e3 p5 p6) ?_
     refine Zb 3 rfl (Zd 0 wI (gO 0) p5 p6) ?_
     obtain ⟨⟨p7,p8⟩,H⟩:=Zh H
     refine Zb 7 rfl (Zc e3 p7 p8) ?_
     refine Zb 8 rfl (Zd 0 wI (gO 0) p7 p8) ?_
     refine cSJ 9 rfl H [] h10 rfl Q36.spec Zm 0 fun r1 w11 H h11=>?_
     refine hRF [10] [0,1,2,7,8,10,116] ?_
     refine jIf H (fun c6 H=>?_) fun c6 H=>?_
     ·refine Wf [0,1,2,7,8] ?_
      refine T3 ?_
      have h12:=(sOR h11 [0] [])
      exact ⟨k5,x9,x6,rfl,h12,H,by omega,e7⟩
     refine T9 (Zv (sO h11 []) ?_)
     have h13:=h11.drew
     refine Zr [0,1,2,3,4,5,6,7,10,11] ?_
     refine Zb 8 rfl (Zc e3 p7 p8) ?_
     refine Zb 12 rfl (Zc e3 p5 p6) ?_
     refine TX (Y0 9 rfl (Zd 0 h13.wht (gO 0) p7 p8) (Y0 13 rfl (Zd 0 h13.wht (gO 0) p5 p6) V0)) ?_
     refine Zb 14 rfl (Zc e3 p5 p6) ?_
     refine hS 15 rfl (Zn 0 (.int .u32) x10 (gt x9 (w64 (x10 - 1))) 0 h13 rfl p5 p6) 1 fun _ w12 h14=>?_
     have e8:(x9.set x10.toNat (gt x9 (w64 (x10 - 1)))).length=a0.length:=length_set.trans e7
     refine Zb 16 rfl (Zc e3 p7 p8) ?_
     refine hS 17 rfl (Zn 0 (.int .u32) (w64 (x10 - 1)) (gt x9 x10) 0 h14 rfl p7 (by simpa only [length_set] using p8)) 1 fun _ w13 h15=>?_
     have e9:((x9.set x10.toNat (gt x9 (w64 (x10 - 1)))).set (w64 (x10 - 1)).toNat (gt x9 x10)).length=a0.length:=length_set.trans e8
     refine Y6 [0,1,2,7,8,10] ?_
     refine T2 (env':=[(0,.slice A1 ((x9.set x10.toNat (gt x9 (w64 (x10 - 1)))).set (w64 (x10 - 1)).toNat (gt x9 x10)).length c_1),(1,.int .i64 a1),(2,.int .i64 a2),(7,.int .i64 x6),(8,.int .i64 x3),(10,.int .i64 x10)]) (by simp only [length_set,length_nil] <;> rfl) ?_
     refine Za [0,1,2,7,8,10] ?_
     have h16:=(sOR h15 [0] [])
     exact ⟨k5,by omega,_,_,H,rfl,h16,by omega,e9⟩
    refine Wf [0,1,2,7,8] ?_
    refine T3 ?_
    have h17:=(sOR h9 [0] [])
    exact ⟨k5,x9,x6,rfl,h17,H,by omega,e7⟩
   refine Wf [0,1,2,7,8] ?_
   refine T9 ?_
   have h19:=(sOR h8 [0] [])
   exact ⟨k4,x8,x6,rfl,h19,H,by omega,e6⟩
  rintro env w3 ⟨k2,x4,x5,rfl,h2,H,hk2,e2⟩
  refine Za [0,1,2,7,8] ?_
  have h3:=(sOR h2 [0] [])
  exact ⟨k2,by omega,_,_,_,H,rfl,h3,e2⟩
 refine T3 (T8 (Za [6] ?_))
 cases H
 exact T7 (jR ⟨rfl,rfl,e1⟩ h1 [0])

mutual
def Q126.l0:Nat->(Int)->TW->(Int)->(Int)->Option TP
 | 0,_,_,_,_=>none
 | k+1,a1,x1,x2,x3=>Q126.l1 k a1 x1 x3 x2
def Q126.l1:Nat->(Int)->TW->(Int)->(Int)->Option TP
 | 0,_,_,_,_=>none
 | k+1,a1,x1,x3,x4=>if (decide (x4<=x3))=true then (if 0<=a1/\a1<(x1.length:Int) then (if 0<=x4/\x4<(x1.length:Int) then ((Q36.f (gt x1 a1) (gt x1 x4)).bind fun r1=>(if (!r1)=true then (Q126.l1 k a1 x1 x3 (w64 (x4+1))) else (Q126.l2 k a1 x1 x4 x3))) else none) else none) else (Q126.l3 k a1 x1 x3 x4)
def Q126.l2:Nat->(Int)->TW->(Int)->(Int)->Option TP
 | 0,_,_,_,_=>none
 | k+1,a1,x1,x4,x5=>if (decide (x4<=x5))=true then (if 0<=x5/\x5<(x1.length:Int) then ((Q36.f (gt x1 a1) (gt x1 x5)).bind fun r2=>(if r2=true then (Q126.l2 k a1 x1 x4 (w64 (x5 - 1))) else (if (decide (x5<x4))=true then (some (x4,x1)) else (Q126.l0 k a1 ((x1.set x4.toNat (gt x1 x5)).set x5.toNat (gt x1 x4)) (w64 (x4+1)) (w64 (x5 - 1)))))) else none) else (if (decide (x5<x4))=true then (some (x4,x1)) else (if 0<=x5/\x5<(x1.length:Int) then (Q126.l0 k a1 ((x1.set x4.toNat (gt x1 x5)).set x5.toNat (gt x1 x4)) (w64 (x4+1)) (w64 (x5 - 1))) else none))
def Q126.l3:Nat->(Int)->TW->(Int)->(Int)->Option TP
 | 0,_,_,_,_=>none
 | k+1,a1,x1,x3,x4=>if (decide (x3<x4))=true then (some (x4,x1)) else (if 0<=x3/\x3<(x1.length:Int) then (if 0<=x4/\x4<(x1.length:Int) then (Q126.l0 k a1 ((x1.set x4.toNat (gt x1 x3)).set x3.toNat (gt x1 x4)) (w64 (x4+1)) (w64 (x3 - 1))) else none) else none)
end
def Q126.f (k:Nat) (a0:TW) (a1:Int) (a2:Int) (a3:Int):Option TP:=if 0<=a3/\a3<(a0.length:Int) then (if 0<=a1/\a1<(a0.length:Int) then (Q126.l0 k a1 ((a0.set a1.toNat (gt a0 a3)).set a3.toNat (gt a0 a1)) (w64 (a1+1)) (w64 (a2 - 1))) else none) else none
theorem Q126.spec {k a0 a1 a2 a3 A1 c_1 r} (H:Q126.f k a0 a1 a2 a3=some r) :
  Spec prog 185 [.slice A1 a0.length c_1,.int .i64 a1,.int .i64 a2,.int .i64 a3] [O32 a0 A1 c_1] [] (fun v l=>v=.int .i64 r.1/\l=[O32 r.2 A1 c_1]/\r.2.length=a0.length):=by
 refine Zf Tryz.func185 fun w0 F0 h0=>?_
 unfold Q126.f at H
 refine T8 (Za [0,1,2,3] ?_)
 refine T8 (Zv (sO h0 []) ?_)
 have h1:=h0.drew
 refine Zr [0,1,2,3,4,5,8,9] ?_
 obtain ⟨⟨p1,p2⟩,H⟩:=Zh H
 have e1:=Zy h1.wh (gO 0) p1 p2
 refine Zb 6 rfl (Zc e1 p1 p2) ?_
 obtain ⟨⟨p3,p4⟩,H⟩:=Zh H
 refine Zb 10 rfl (Zc e1 p3 p4) ?_
 refine TX (Y0 7 rfl (Zd 0 h1.wht (gO 0) p1 p2) (Y0 11 rfl (Zd 0 h1.wht (gO 0) p3 p4) V0)) ?_
 refine Zb 12 rfl (Zc e1 p3 p4) ?_
 refine hS 13 rfl (Zn 0 (.int .u32) a1 (gt a0 a3) 0 h1 rfl p3 p4) 1 fun _ w1 h2=>?_
 have e2:(a0.set a1.toNat (gt a0 a3)).length=a0.length:=length_set.trans (rfl:a0.length=a0.length)
 refine Zb 14 rfl (Zc e1 p1 p2) ?_
 refine hS 15 rfl (Zn 0 (.int .u32) a3 (gt a0 a1) 0 h2 rfl p1 (by simpa only [length_set] using p2)) 1 fun _ w2 h3=>?_
 have e3:((a0.set a1.toNat (gt a0 a3)).set a3.toNat (gt a0 a1)).length=a0.length:=length_set.trans e2
 refine Y6 [0,1,2] ?_
 refine T2 (env':=[(0,.slice A1 ((a0.set a1.toNat (gt a0 a3)).set a3.toNat (gt a0 a1)).length c_1),(1,.int .i64 a1),(2,.int .i64 a2)]) (by simp only [length_set,length_nil] <;> rfl) ?_
 refine T8 (Za [0,1,9,10] ?_)
 refine T8 (T0 ?_)
 have h30:=(sOR h3 [0] [])
 refine T4 (fun kk env w=>∃ x1 x2 x3,Q126.l0 kk a1 x1 x2 x3=some r/\env=[(0,.slice A1 x1.length c_1),(1,.int .i64 a1),(9,.int .i64 x2),(10,.int .i64 x3)]/\St w0 F0 [O32 x1 A1 c_1] [] w/\x1.length=a0.length) (k:=k) ⟨_,_,_,H,rfl,h30,e3⟩ ?_
 rintro k1 env w3 ⟨x1,x2,x3,H,rfl,h4,e4⟩
 rcases k1 with _ | k1
 ·exact z0 H
 rw [Q126.l0] at H
 refine T0 (T8 (T0 ?_))
 have h29:=(sOR h4 [0] [])
 refine T4 (fun kk env w=>∃ x4,Q126.l1 kk a1 x1 x3 x4=some r/\env=[(0,.slice A1 x1.length c_1),(1,.int .i64 a1),(9,.int .i64 x4),(10,.int .i64 x3)]/\St w0 F0 [O32 x1 A1 c_1] [] w/\kk<=k1) (k:=k1) ⟨_,H,rfl,h29,Sa _⟩ ?_
 rintro k2 env w4 ⟨x4,H,rfl,h5,hk2⟩
 rcases k2 with _ | k2
 ·exact z0 H
 rw [Q126.l1] at H
 refine T8 (T8 (jH h5 fun h6=>?_))
 refine Zr [0,1,2,3] ?_
 refine W0 32 H (fun c1 H=>?_) fun c1 H=>?_
 ·refine Zr [4,5,8,9] ?_
  obtain ⟨⟨p5,p6⟩,H⟩:=Zh H
  refine Zb 6 rfl (Zc e1 p5 p6) ?_
  refine Zb 7 rfl (Zd 0 wI (gO 0) p5 p6) ?_
  obtain ⟨⟨p7,p8⟩,H⟩:=Zh H
  refine Zb 10 rfl (Zc e1 p7 p8) ?_
  refine Zb 11 rfl (Zd 0 wI (gO 0) p7 p8) ?_
  refine cSJ 12 rfl H [] h6 rfl Q36.spec Zm 0 fun r1 w5 H h7=>?_
  refine hRF [13,14] [0,1,9,10,43] ?_
  refine jIf H (fun c2 H=>?_) fun c2 H=>?_
  ·refine T9 (T0 (Za [0,1,9,10] ?_))
   have h8:=(sOR h7 [0] [])
   exact ⟨k2,by omega,_,H,rfl,h8,by omega⟩
  refine T3 (T8 (T0 (Wf [0,1,9,10] ?_)))
  have h21:=(sOR h7 [0] [])
  refine T4 (fun kk env w=>∃ x5,Q126.l2 kk a1 x1 x4 x5=some r/\env=[(0,.slice A1 x1.length c_1),(1,.int .i64 a1),(9,.int .i64 x4),(10,.int .i64 x5)]/\St w0 F0 [O32 x1 A1 c_1] [] w/\kk<=k2) (k:=k2) ⟨_,H,rfl,h21,Sa _⟩ ?_
  rintro k3 env w6 ⟨x5,H,rfl,h9,hk3⟩
  rcases k3 with _ | k3
  ·exact z0 H
  rw [Q126.l2] at H
  refine T8 (T8 (jH h9 fun h10=>?_))
  refine Zr [0,1,2,3] ?_
  refine W0 49 H (fun c3 H=>?_) fun c3 H=>?_
  ·refine Zr [4,5,8,9] ?_
   refine Zb 6 rfl (Zc e1 p5 p6) ?_
   refine Zb 7 rfl (Zd 0 wI (gO 0) p5 p6) ?_
   obtain ⟨⟨p9,p10⟩,H⟩:=Zh H
   refine Zb 10 rfl (Zc e1 p9 p10) ?_
   refine Zb 11 rfl (Zd 0 wI (gO 0) p9 p10) ?_
   refine cSJ 12 rfl H [] h10 rfl Q36.spec Zm 0 fun r2 w7 H h11=>?_
   refine hRF [13] [0,1,9,10,59] ?_
   refine jIf H (fun c4 H=>?_) fun c4 H=>?_
   ·refine T9 (T0 (Za [0,1,9,10] ?_))
    have h12:=(sOR h11 [0] [])
    exact ⟨k3,by omega,_,H,rfl,h12,by omega⟩
   refine T3 (T8 (T8 (Za [0,1,9,10,64] ?_)))
   refine jIf H (fun c5 H=>?_) fun c5 H=>?_
   ·refine T3 (T8 (Za [8] ?_))
    cases H
    exact T7 (jR ⟨rfl,rfl,e4⟩ h11 [0])
   refine T9 (T8 (Zv (sO h11 []) ?_))
   have h13:=h11.drew
   refine Zr [0,1,2,3,4,5,8,9] ?_
   refine Zb 6 rfl (Zc e1 p9 p10) ?_
   refine Zb 10 rfl (Zc e1 p7 p8) ?_
   refine TX (Y0 7 rfl (Zd 0 h13.wht (gO 0) p9 p10) (Y0 11 rfl (Zd 0 h13.wht (gO 0) p7 p8) V0)) ?_
   refine Zb 12 rfl (Zc e1 p7 p8) ?_
   refine hS 13 rfl (Zn 0 (.int .u32) x4 (gt x1 x5) 0 h13 rfl p7 p8) 1 fun _ w8 h14=>?_
   have e5:(x1.set x4.toNat (gt x1 x5)).length=a0.length:=length_set.trans e4
   refine Zb 14 rfl (Zc e1 p9 p10) ?_
   refine hS 15 rfl (Zn 0 (.int .u32) x5 (gt x1 x4) 0 h14 rfl p9 (by simpa only [length_set] using p10)) 1 fun _ w9 h15=>?_
   have e6:((x1.set x4.toNat (gt x1 x5)).set x5.toNat (gt x1 x4)).length=a0.length:=length_set.trans e5
   refine Y6 [0,1,9,10] ?_
   refine T2 (env':=[(0,.slice A1 ((x1.set x4.toNat (gt x1 x5)).set x5.toNat (gt x1 x4)).length c_1),(1,.int .i64 a1),(9,.int .i64 x4),(10,.int .i64 x5)]) (by simp only [length_set,length_nil] <;> rfl) ?_
   refine T8 (Za [0,1,9,10] ?_)
   refine Za [0,1,9,10] ?_
   have h16:=(sOR h15 [0] [])
   exact ⟨k3,by omega,_,_,_,H,rfl,h16,e6⟩
  refine hRF [4,5,6,7,8,9,10,11,12,13] [0,1,9,10,59] ?_
  refine Z1 ?_
  refine T3 (T8 (T8 (Za [0,1,9,10,64] ?_)))
  refine jIf H (fun c6 H=>?_) fun c6 H=>?_
  ·refine T3 (T8 (Za [8] ?_))
   cases H
   exact T7 (jR ⟨rfl,rfl,e4⟩ h10 [0])
  refine T9 (T8 (Zv (sO h10 []) ?_))
  have h17:=h10.drew
  refine Zr [0,1,2,3,4,5,8,9] ?_
  obtain ⟨⟨p11,p12⟩,H⟩:=Zh H
  refine Zb 6 rfl (Zc e1 p11 p12) ?_
  refine Zb 10 rfl (Zc e1 p7 p8) ?_
  refine TX (Y0 7 rfl (Zd 0 h17.wht (gO 0) p11 p12) (Y0 11 rfl (Zd 0 h17.wht (gO 0) p7 p8) V0)) ?_
  refine Zb 12 rfl (Zc e1 p7 p8) ?_
  refine hS 13 rfl (Zn 0 (.int .u32) x4 (gt x1 x5) 0 h17 rfl p7 p8) 1 fun _ w10 h18=>?_
  have e7:(x1.set x4.toNat (gt x1 x5)).length=a0.length:=length_set.trans e4
  refine Zb 14 rfl (Zc e1 p11 p12) ?_
  refine hS 15 rfl (Zn 0 (.int .u32) x5 (gt x1 x4) 0 h18 rfl p11 (by simpa only [length_set] using p12)) 1 fun _ w11 h19=>?_
  have e8:((x1.set x4.toNat (gt x1 x5)).set x5.toNat (gt x1 x4)).length=a0.length:=length_set.trans e7
  refine Y6 [0,1,9,10] ?_
  refine T2 (env':=[(0,.slice A1 ((x1.set x4.toNat (gt x1 x5)).set x5.toNat (gt x1 x4)).length c_1),(1,.int .i64 a1),(9,.int .i64 x4),(10,.int .i64 x5)]) (by simp only [length_set,length_nil] <;> rfl) ?_
  refine T8 (Za [0,1,9,10] ?_)
  refine Za [0,1,9,10] ?_
  have h20:=(sOR h19 [0] [])
  exact ⟨k3,by omega,_,_,_,H,rfl,h20,e8⟩
 refine hRF [4,5,6,7,8,9,10,11,12,13,14] [0,1,9,10,43] ?_
 refine Z1 ?_
 refine T3 (T8 (T0 (Wf [0,1,9,10] ?_)))
 have h28:=(sOR h6 [0] [])
 refine T4 (fun kk env w=>Q126.l3 kk a1 x1 x3 x4=some r/\env=[(0,.slice A1 x1.length c_1),(1,.int .i64 a1),(9,.int .i64 x4),(10,.int .i64 x3)]/\St w0 F0 [O32 x1 A1 c_1] [] w/\kk<=k2) (k:=k2) ⟨H,rfl,h28,Sa _⟩ ?_
 rintro k4 env w12 ⟨H,rfl,h22,hk4⟩
 rcases k4 with _ | k4
 ·exact z0 H
 rw [Q126.l3] at H
 refine T8 (T8 (jH h22 fun h23=>?_))
 refine Zr [0,1,2,3] ?_
 refine Zjz 49 (congrArg Value.bool c1) ?_
 refine hRF [4,5,6,7,8,9,10,11,12,13] [0,1,9,10,59] ?_
 refine Z1 ?_
 refine T3 (T8 (T8 (Za [0,1,9,10,64] ?_)))
 refine jIf H (fun c7 H=>?_) fun c7 H=>?_
 ·refine T3 (T8 (Za [8] ?_))
  cases H
  exact T7 (jR ⟨rfl,rfl,e4⟩ h23 [0])
 refine T9 (T8 (Zv (sO h23 []) ?_))
 have h24:=h23.drew
 refine Zr [0,1,2,3,4,5,8,9] ?_
 obtain ⟨⟨p13,p14⟩,H⟩:=Zh H
 refine Zb 6 rfl (Zc e1 p13 p14) ?_
 obtain ⟨⟨p15,p16⟩,H⟩:=Zh H
 refine Zb 10 rfl (Zc e1 p15 p16) ?_
 refine TX (Y0 7 rfl (Zd 0 h24.wht (gO 0) p13 p14) (Y0 11 rfl (Zd 0 h24.wht (gO 0) p15 p16) V0)) ?_
 refine Zb 12 rfl (Zc e1 p15 p16) ?_
 refine hS 13 rfl (Zn 0 (.int .u32) x4 (gt x1 x3) 0 h24 rfl p15 p16) 1 fun _ w13 h25=>?_
 have e9:(x1.set x4.toNat (gt x1 x3)).length=a0.length:=length_set.trans e4
 refine Zb 14 rfl (Zc e1 p13 p14) ?_
 refine hS 15 rfl (Zn 0 (.int .u32) x3 (gt x1 x4) 0 h25 rfl p13 (by simpa only [length_set] using p14)) 1 fun _ w14 h26=>?_
 have e10:((x1.set x4.toNat (gt x1 x3)).set x3.toNat (gt x1 x4)).length=a0.length:=length_set.trans e9
 refine Y6 [0,1,9,10] ?_
 refine T2 (env':=[(0,.slice A1 ((x1.set x4.toNat (gt x1 x3)).set x3.toNat (gt x1 x4)).length c_1),(1,.int .i64 a1),(9,.int .i64 x4),(10,.int .i64 x3)]) (by simp only [length_set,length_nil] <;> rfl) ?_
 refine T8 (Za [0,1,9,10] ?_)
 refine Za [0,1,9,10] ?_
 have h27:=(sOR h26 [0] [])
 exact ⟨k4,by omega,_,_,_,H,rfl,h27,e10⟩

mutual
def Q127.l0:Nat->(Int)->TW->(Int)->(Int)->Option TH
 | 0,_,_,_,_=>none
 | k+1,a1,x9,x10,x11=>Q127.l2 k a1 x9 x11 x10
def Q127.l1:Nat->(Int)->TW->(Int)->(Int)->Option TH
 | 0,_,_,_,_=>none
 | k+1,a1,x9,x12,x16=>if (decide (x12<=x16))=true then (if 0<=x16/\x16<(x9.length:Int) then (if 0<=a1/\a1<(x9.length:Int) then ((Q36.f (gt x9 x16) (gt x9 a1)).bind fun r1=>(if (!r1)=true then (Q127.l1 k a1 x9 x12 (w64 (x16 - 1))) else (if (decide (x16<x12))=true then (if 0<=a1/\a1<(x9.length:Int) then (if 0<=x16/\x16<(x9.length:Int) then (some (x16,false,((x9.set x16.toNat (gt x9 a1)).set a1.toNat (gt x9 x16)))) else none) else none) else (if 0<=x16/\x16<(x9.length:Int) then (if 0<=x12/\x12<(x9.length:Int) then (Q127.l0 k a1 ((x9.set x12.toNat (gt x9 x16)).set x16.toNat (gt x9 x12)) (w64 (x12+1)) (w64 (x16 - 1))) else none) else none)))) else none) else none) else (if (decide (x16<x12))=true then (if 0<=a1/\a1<(x9.length:Int) then (if 0<=x16/\x16<(x9.length:Int) then (some (x16,false,((x9.set x16.toNat (gt x9 a1)).set a1.toNat (gt x9 x16)))) else none) else none) else (if 0<=x16/\x16<(x9.length:Int) then (if 0<=x12/\x12<(x9.length:Int) then (Q127.l0 k a1 ((x9.set x12.toNat (gt x9 x16)).set x16.toNat (gt x9 x12)) (w64 (x12+1)) (w64 (x16 - 1))) else none) else none))
def Q127.l2:Nat->(Int)->TW->(Int)->(Int)->Option TH
 | 0,_,_,_,_=>none
 | k+1,a1,x9,x11,x17=>if (decide (x17<=x11))=true then (if 0<=x17/\x17<(x9.length:Int) then (if 0<=a1/\a1<(x9.length:Int) then ((Q36.f (gt x9 x17) (gt x9 a1)).bind fun r2=>(if r2=true then (Q127.l2 k a1 x9 x11 (w64 (x17+1))) else (Q127.l1 k a1 x9 x17 x11))) else none) else none) else (Q127.l1 k a1 x9 x17 x11)
end
def Q127.l3:Nat->TW->(Int)->(Int)->(Int)->(Int)->Option TH
 | 0,_,_,_,_,_=>none
 | k+1,a0,a1,a3,x1,x18=>if (decide (x1<=x18))=true then (if 0<=x18/\x18<(((a0.set a1.toNat (gt a0 a3)).set a3.toNat (gt a0 a1)).length:Int) then (if 0<=a1/\a1<(((a0.set a1.toNat (gt a0 a3)).set a3.toNat (gt a0 a1)).length:Int) then ((Q36.f (gt ((a0.set a1.toNat (gt a0 a3)).set a3.toNat (gt a0 a1)) x18) (gt ((a0.set a1.toNat (gt a0 a3)).set a3.toNat (gt a0 a1)) a1)).bind fun r3=>(if (!r3)=true then (Q127.l3 k a0 a1 a3 x1 (w64 (x18 - 1))) else (if (decide (x18<x1))=true then (if 0<=a1/\a1<(((a0.set a1.toNat (gt a0 a3)).set a3.toNat (gt a0 a1)).length:Int) then (if 0<=x18/\x18<(((a0.set a1.toNat (gt a0 a3)).set a3.toNat (gt a0 a1)).length:Int) then (some (x18,true,((((a0.set a1.toNat (gt a0 a3)).set a3.toNat (gt a0 a1)).set x18.toNat (gt ((a0.set a1.toNat (gt a0 a3)).set a3.toNat (gt a0 a1)) a1)).set a1.toNat (gt ((a0.set a1.toNat (gt a0 a3)).set a3.toNat (gt a0 a1)) x18)))) else none) else none) else (if 0<=x18/\x18<(((a0.set a1.toNat (gt a0 a3)).set a3.toNat (gt a0 a1)).length:Int) then (if 0<=x1/\x1<(((a0.set a1.toNat (gt a0 a3)).set a3.toNat (gt a0 a1)).length:Int) then (Q127.l0 k a1 ((((a0.set a1.toNat (gt a0 a3)).set a3.toNat (gt a0 a1)).set x1.toNat (gt ((a0.set a1.toNat (gt a0 a3)).set a3.toNat (gt a0 a1)) x18)).set x18.toNat (gt ((a0.set a1.toNat (gt a0 a3)).set a3.toNat (gt a0 a1)) x1)) (w64 (x1+1)) (w64 (x18 - 1))) else none) else none)))) else none) else none) else (if (decide (x18<x1))=true then (if 0<=a1/\a1<(((a0.set a1.toNat (gt a0 a3)).set a3.toNat (gt a0 a1)).length:Int) then (if 0<=x18/\x18<(((a0.set a1.toNat (gt a0 a3)).set a3.toNat (gt a0 a1)).length:Int) then (some (x18,true,((((a0.set a1.toNat (gt a0 a3)).set a3.toNat (gt a0 a1)).set x18.toNat (gt ((a0.set a1.toNat (gt a0 a3)).set a3.toNat (gt a0 a1)) a1)).set a1.toNat (gt ((a0.set a1.toNat (gt a0 a3)).set a3.toNat (gt a0 a1)) x18)))) else none) else none) else (if 0<=x18/\x18<(((a0.set a1.toNat (gt a0 a3)).set a3.toNat (gt a0 a1)).length:Int) then (if 0<=x1/\x1<(((a0.set a1.toNat (gt a0 a3)).set a3.toNat (gt a0 a1)).length:Int) then (Q127.l0 k a1 ((((a0.set a1.toNat (gt a0 a3)).set a3.toNat (gt a0 a1)).set x1.toNat (gt ((a0.set a1.toNat (gt a0 a3)).set a3.toNat (gt a0 a1)) x18)).set x18.toNat (gt ((a0.set a1.toNat (gt a0 a3)).set a3.toNat (gt a0 a1)) x1)) (w64 (x1+1)) (w64 (x18 - 1))) else none) else none))
def Q127.l4:Nat->TW->(Int)->(Int)->(Int)->(Int)->Option TH
 | 0,_,_,_,_,_=>none
 | k+1,a0,a1,a2,a3,x19=>if (decide (x19<=(w64 (a2 - 1))))=true then (if 0<=x19/\x19<(((a0.set a1.toNat (gt a0 a3)).set a3.toNat (gt a0 a1)).length:Int) then (if 0<=a1/\a1<(((a0.set a1.toNat (gt a0 a3)).set a3.toNat (gt a0 a1)).length:Int) then ((Q36.f (gt ((a0.set a1.toNat (gt a0 a3)).set a3.toNat (gt a0 a1)) x19) (gt ((a0.set a1.toNat (gt a0 a3)).set a3.toNat (gt a0 a1)) a1)).bind fun r4=>(if r4=true then (Q127.l4 k a0 a1 a2 a3 (w64 (x19+1))) else (Q127.l3 k a0 a1 a3 x19 (w64 (a2 - 1))))) else none) else none) else (Q127.l3 k a0 a1 a3 x19 (w64 (a2 - 1)))
def Q127.f (k:Nat) (a0:TW) (a1:Int) (a2:Int) (a3:Int):Option TH:=if 0<=a3/\a3<(a0.length:Int) then (if 0<=a1/\a1<(a0.length:Int) then (Q127.l4 k a0 a1 a2 a3 (w64 (a1+1))) else none) else none
theorem Q127.spec {k a0 a1 a2 a3 A1 c_1 r} (H:Q127.f k a0 a1 a2 a3=some r) :
  Spec prog 186 [.slice A1 a0.length c_1,.int .i64 a1,.int .i64 a2,.int .i64 a3] [O32 a0 A1 c_1] [] (fun v l=>v=.tuple #[.int .i64 r.1,.bool r.2.1]/\l=[O32 r.2.2 A1 c_1]/\r.2.2.length=a0.length):=by
 refine Zf Tryz.func186 fun w0 F0 h0=>?_
 unfold Q127.f at H
 refine T8 (Za [0,1,2,3] ?_)
 refine T8 (Zv (sO h0 []) ?_)
 have h1:=h0.drew
 refine Zr [0,1,2,3,4,5,8,9] ?_
 obtain ⟨⟨p1,p2⟩,H⟩:=Zh H
 have e1:=Zy h1.wh (gO 0) p1 p2
 refine Zb 6 rfl (Zc e1 p1 p2) ?_
 obtain ⟨⟨p3,p4⟩,H⟩:=Zh H
 refine Zb 10 rfl (Zc e1 p3 p4) ?_
 refine TX (Y0 7 rfl (Zd 0 h1.wht (gO 0) p1 p2) (Y0 11 rfl (Zd 0 h1.wht (gO 0) p3 p4) V0)) ?_
 refine Zb 12 rfl (Zc e1 p3 p4) ?_
 refine hS 13 rfl (Zn 0 (.int .u32) a1 (gt a0 a3) 0 h1 rfl p3 p4) 1 fun _ w1 h2=>?_
 have e2:(a0.set a1.toNat (gt a0 a3)).length=a0.length:=length_set.trans (rfl:a0.length=a0.length)
 refine Zb 14 rfl (Zc e1 p1 p2) ?_
 refine hS 15 rfl (Zn 0 (.int .u32) a3 (gt a0 a1) 0 h2 rfl p1 (by simpa only [length_set] using p2)) 1 fun _ w2 h3=>?_
 have e3:((a0.set a1.toNat (gt a0 a3)).set a3.toNat (gt a0 a1)).length=a0.length:=length_set.trans e2
 refine Y6 [0,1,2] ?_
 refine T2 (env':=[(0,.slice A1 ((a0.set a1.toNat (gt a0 a3)).set a3.toNat (gt a0 a1)).length c_1),(1,.int .i64 a1),(2,.int .i64 a2)]) (by simp only [length_set,length_nil] <;> rfl) ?_
 refine T8 (Za [0,1,10,11] ?_)
 refine T8 (T5 (fun env w=>∃(k1:Nat) (x1:Int) (x2:Bool),env=[(0,.slice A1 ((a0.set a1.toNat (gt a0 a3)).set a3.toNat (gt a0 a1)).length c_1),(1,.int .i64 a1),(10,.int .i64 x1),(11,.int .i64 (w64 (a2 - 1))),(43,.bool x2)]/\St w0 F0 [O32 ((a0.set a1.toNat (gt a0 a3)).set a3.toNat (gt a0 a1)) A1 c_1] [] w/\(Q127.l3 k1 a0 a1 a3 x1 (w64 (a2 - 1)))=some r/\k1<=k) ?_ ?_)
 ·refine T0 ?_
  have h52:=(sOR h3 [0] [])
  refine T4 (fun kk env w=>∃ x19,Q127.l4 kk a0 a1 a2 a3 x19=some r/\env=[(0,.slice A1 ((a0.set a1.toNat (gt a0 a3)).set a3.toNat (gt a0 a1)).length c_1),(1,.int .i64 a1),(10,.int .i64 x19),(11,.int .i64 (w64 (a2 - 1)))]/\St w0 F0 [O32 ((a0.set a1.toNat (gt a0 a3)).set a3.toNat (gt a0 a1)) A1 c_1] [] w/\kk<=k) (k:=k) ⟨_,H,rfl,h52,Sa _⟩ ?_
  rintro k10 env w28 ⟨x19,H,rfl,h46,hk10⟩
  rcases k10 with _ | k10
  ·exact z0 H
  rw [Q127.l4] at H
  refine T8 (T8 (jH h46 fun h47=>?_))
  refine Zr [0,1,2,3] ?_
  refine W0 33 H (fun c9 H=>?_) fun c9 H=>?_
  ·refine Zr [4,5,8,9] ?_
   obtain ⟨⟨p33,p34⟩,H⟩:=Zh H
   refine Zb 6 rfl (Zc e1 p33 p34) ?_
   refine Zb 7 rfl (Zd 0 wI (gO 0) p33 p34) ?_
   obtain ⟨⟨p35,p36⟩,H⟩:=Zh H
   refine Zb 10 rfl (Zc e1 p35 p36) ?_
   refine Zb 11 rfl (Zd 0 wI (gO 0) p35 p36) ?_
   refine cSJ 12 rfl H [] h47 rfl Q36.spec Zm 0 fun r4 w29 H h48=>?_
   refine hRF [13] [0,1,10,11,43] ?_
   refine jIf H (fun c10 H=>?_) fun c10 H=>?_
   ·refine T9 (T0 (Za [0,1,10,11] ?_))
    have h49:=(sOR h48 [0] [])
    exact ⟨k10,by omega,_,H,rfl,h49,by omega⟩
   refine T3 ?_
   have h50:=(sOR h48 [0] [])
   exact ⟨k10,x19,r4,rfl,h50,H,by omega⟩
  refine hRF [4,5,6,7,8,9,10,11,12,13] [0,1,10,11,43] ?_
  refine Z1 ?_
  refine T3 ?_
  have h51:=(sOR h47 [0] [])
  exact ⟨k10,x19,false,rfl,h51,H,by omega⟩
 rintro env w4 ⟨k1,x1,x2,rfl,h4,H,hk1⟩
 refine T8 (T5 (fun env w=>∃(k2:Nat) (x3:Int) (x4:Bool),env=[(0,.slice A1 ((a0.set a1.toNat (gt a0 a3)).set a3.toNat (gt a0 a1)).length c_1),(1,.int .i64 a1),(10,.int .i64 x1),(11,.int .i64 x3),(60,.bool x4)]/\St w0 F0 [O32 ((a0.set a1.toNat (gt a0 a3)).set a3.toNat (gt a0 a1)) A1 c_1] [] w/\(if (decide (x3<x1))=true then (if 0<=a1/\a1<(((a0.set a1.toNat (gt a0 a3)).set a3.toNat (gt a0 a1)).length:Int) then (if 0<=x3/\x3<(((a0.set a1.toNat (gt a0 a3)).set a3.toNat (gt a0 a1)).length:Int) then (some (x3,true,((((a0.set a1.toNat (gt a0 a3)).set a3.toNat (gt a0 a1)).set x3.toNat (gt ((a0.set a1.toNat (gt a0 a3)).set a3.toNat (gt a0 a1)) a1)).set a1.toNat (gt ((a0.set a1.toNat (gt a0 a3)).set a3.toNat (gt a0 a1)) x3)))) else none) else none) else (if 0<=x3/\x3<(((a0.set a1.toNat (gt a0 a3)).set a3.toNat (gt a0 a1)).length:Int) then (if 0<=x1/\x1<(((a0.set a1.toNat (gt a0 a3)).set a3.toNat (gt a0 a1)).length:Int) then (Q127.l0 k2 a1 ((((a0.set a1.toNat (gt a0 a3)).set a3.toNat (gt a0 a1)).set x1.toNat (gt ((a0.set a1.toNat (gt a0 a3)).set a3.toNat (gt a0 a1)) x3)).set x3.toNat (gt ((a0.set a1.toNat (gt a0 a3)).set a3.toNat (gt a0 a1)) x1)) (w64 (x1+1)) (w64 (x3 - 1))) else none) else none))=some r/\k2<=k1) ?_ ?_)
 ·refine T0 (Wf [0,1,10,11] ?_)
  have h45:=(sOR h4 [0] [])
  refine T4 (fun kk env w=>∃ x18,Q127.l3 kk a0 a1 a3 x1 x18=some r/\env=[(0,.slice A1 ((a0.set a1.toNat (gt a0 a3)).set a3.toNat (gt a0 a1)).length c_1),(1,.int .i64 a1),(10,.int .i64 x1),(11,.int .i64 x18)]/\St w0 F0 [O32 ((a0.set a1.toNat (gt a0 a3)).set a3.toNat (gt a0 a1)) A1 c_1] [] w/\kk<=k1) (k:=k1) ⟨_,H,rfl,h45,Sa _⟩ ?_
  rintro k9 env w26 ⟨x18,H,rfl,h39,hk9⟩
  rcases k9 with _ | k9
  ·exact z0 H
  rw [Q127.l3] at H
  refine T8 (T8 (jH h39 fun h40=>?_))
  refine Zr [0,1,2,3] ?_
  refine W0 49 H (fun c7 H=>?_) fun c7 H=>?_
  ·refine Zr [4,5,8,9] ?_
   obtain ⟨⟨p29,p30⟩,H⟩:=Zh H
   refine Zb 6 rfl (Zc e1 p29 p30) ?_
   refine Zb 7 rfl (Zd 0 wI (gO 0) p29 p30) ?_
   obtain ⟨⟨p31,p32⟩,H⟩:=Zh H
   refine Zb 10 rfl (Zc e1 p31 p32) ?_
   refine Zb 11 rfl (Zd 0 wI (gO 0) p31 p32) ?_
   refine cSJ 12 rfl H [] h40 rfl Q36.spec Zm 0 fun r3 w27 H h41=>?_
   refine hRF [13,14] [0,1,10,11,60] ?_
   refine jIf H (fun c8 H=>?_) fun c8 H=>?_
   ·refine T9 (T0 (Za [0,1,10,11] ?_))
    have h42:=(sOR h41 [0] [])
    exact ⟨k9,by omega,_,H,rfl,h42,by omega⟩
   refine T3 ?_
   have h43:=(sOR h41 [0] [])
   exact ⟨k9,x18,(!r3),rfl,h43,H,by omega⟩
  refine hRF [4,5,6,7,8,9,10,11,12,13,14] [0,1,10,11,60] ?_
  refine Z1 ?_
  refine T3 ?_
  have h44:=(sOR h40 [0] [])
  exact ⟨k9,x18,false,rfl,h44,H,by omega⟩
 rintro env w6 ⟨k2,x3,x4,rfl,h5,H,hk2⟩
 refine T8 (T8 (Za [0,1,10,11,65] ?_))
 refine jIf H (fun c1 H=>?_) fun c1 H=>?_
 ·refine T8 (Zv (sO h5 []) ?_)
  have h6:=h5.drew
  refine Zr [0,1,2,3,4,5,8,9] ?_
  obtain ⟨⟨p5,p6⟩,H⟩:=Zh H
  refine Zb 6 rfl (Zc e1 p5 p6) ?_
  obtain ⟨⟨p7,p8⟩,H⟩:=Zh H
  refine Zb 10 rfl (Zc e1 p7 p8) ?_
  refine TX (Y0 7 rfl (Zd 0 h6.wht (gO 0) p5 p6) (Y0 11 rfl (Zd 0 h6.wht (gO 0) p7 p8) V0)) ?_
  refine Zb 12 rfl (Zc e1 p7 p8) ?_
  refine hS 13 rfl (Zn 0 (.int .u32) x3 (gt ((a0.set a1.toNat (gt a0 a3)).set a3.toNat (gt a0 a1)) a1) 0 h6 rfl p7 p8) 1 fun _ w7 h7=>?_
  have e4:(((a0.set a1.toNat (gt a0 a3)).set a3.toNat (gt a0 a1)).set x3.toNat (gt ((a0.set a1.toNat (gt a0 a3)).set a3.toNat (gt a0 a1)) a1)).length=a0.length:=length_set.trans e3
  refine Zb 14 rfl (Zc e1 p5 p6) ?_
  refine hS 15 rfl (Zn 0 (.int .u32) a1 (gt ((a0.set a1.toNat (gt a0 a3)).set a3.toNat (gt a0 a1)) x3) 0 h7 rfl p5 (by simpa only [length_set] using p6)) 1 fun _ w8 h8=>?_
  have e5:((((a0.set a1.toNat (gt a0 a3)).set a3.toNat (gt a0 a1)).set x3.toNat (gt ((a0.set a1.toNat (gt a0 a3)).set a3.toNat (gt a0 a1)) a1)).set a1.toNat (gt ((a0.set a1.toNat (gt a0 a3)).set a3.toNat (gt a0 a1)) x3)).length=a0.length:=length_set.trans e4
  refine Y6 [11] ?_
  refine T8 (Za [8,9] ?_)
  cases H
  exact T7 (jR ⟨rfl,rfl,e5⟩ h8 [0])
 refine T9 (T8 (Zv (sO h5 []) ?_))
 have h9:=h5.drew
 refine Zr [0,1,2,3,4,5,8,9] ?_
 obtain ⟨⟨p9,p10⟩,H⟩:=Zh H
 refine Zb 6 rfl (Zc e1 p9 p10) ?_
 obtain ⟨⟨p11,p12⟩,H⟩:=Zh H
 refine Zb 10 rfl (Zc e1 p11 p12) ?_
 refine TX (Y0 7 rfl (Zd 0 h9.wht (gO 0) p9 p10) (Y0 11 rfl (Zd 0 h9.wht (gO 0) p11 p12) V0)) ?_
 refine Zb 12 rfl (Zc e1 p11 p12) ?_
 refine hS 13 rfl (Zn 0 (.int .u32) x1 (gt ((a0.set a1.toNat (gt a0 a3)).set a3.toNat (gt a0 a1)) x3) 0 h9 rfl p11 p12) 1 fun _ w9 h10=>?_
 have e6:(((a0.set a1.toNat (gt a0 a3)).set a3.toNat (gt a0 a1)).set x1.toNat (gt ((a0.set a1.toNat (gt a0 a3)).set a3.toNat (gt a0 a1)) x3)).length=a0.length:=length_set.trans e3
 refine Zb 14 rfl (Zc e1 p9 p10) ?_
 refine hS 15 rfl (Zn 0 (.int .u32) x3 (gt ((a0.set a1.toNat (gt a0 a3)).set a3.toNat (gt a0 a1)) x1) 0 h10 rfl p9 (by simpa only [length_set] using p10)) 1 fun _ w10 h11=>?_
 have e7:((((a0.set a1.toNat (gt a0 a3)).set a3.toNat (gt a0 a1)).set x1.toNat (gt ((a0.set a1.toNat (gt a0 a3)).set a3.toNat (gt a0 a1)) x3)).set x3.toNat (gt ((a0.set a1.toNat (gt a0 a3)).set a3.toNat (gt a0 a1)) x1)).length=a0.length:=length_set.trans e6
 refine Y6 [0,1,10,11] ?_
 refine T2 (env':=[(0,.slice A1 ((((a0.set a1.toNat (gt a0 a3)).set a3.toNat (gt a0 a1)).set x1.toNat (gt ((a0.set a1.toNat (gt a0 a3)).set a3.toNat (gt a0 a1)) x3)).set x3.toNat (gt ((a0.set a1.toNat (gt a0 a3)).set a3.toNat (gt a0 a1)) x1)).length c_1),(1,.int .i64 a1),(10,.int .i64 x1),(11,.int .i64 x3)]) (by simp only [length_set,length_nil] <;> rfl) ?_
 refine T8 (Za [0,1,10,11] ?_)
 refine T8 (Za [0,1,10,11] ?_)
 refine T8 (T5 (fun env w=>∃(x5:TW) (x6:Int) (x7:Int) (x8:Bool),env=[(0,.slice A1 x5.length c_1),(1,.int .i64 a1),(10,.int .i64 x6),(11,.int .i64 x7),(134,.bool x8)]/\St w0 F0 [O32 x5 A1 c_1] [] w/\(if 0<=a1/\a1<(x5.length:Int) then (if 0<=x7/\x7<(x5.length:Int) then (some (x7,false,((x5.set x7.toNat (gt x5 a1)).set a1.toNat (gt x5 x7)))) else none) else none)=some r/\x5.length=a0.length) ?_ ?_)
 ·refine T0 ?_
  have h38:=(sOR h11 [0] [])
  refine T4 (fun kk env w=>∃ x9 x10 x11,Q127.l0 kk a1 x9 x10 x11=some r/\env=[(0,.slice A1 x9.length c_1),(1,.int .i64 a1),(10,.int .i64 x10),(11,.int .i64 x11)]/\St w0 F0 [O32 x9 A1 c_1] [] w/\kk<=k2/\x9.length=a0.length) (k:=k2) ⟨_,_,_,H,rfl,h38,Sa _,e7⟩ ?_
  rintro k4 env w15 ⟨x9,x10,x11,H,rfl,h16,hk4,e11⟩
  rcases k4 with _ | k4
  ·exact z0 H
  rw [Q127.l0] at H
  refine T0 (T8 (T5 (fun env w=>∃(k5:Nat) (x12:Int) (x13:Bool),env=[(0,.slice A1 x9.length c_1),(1,.int .i64 a1),(10,.int .i64 x12),(11,.int .i64 x11),(112,.bool x13)]/\St w0 F0 [O32 x9 A1 c_1] [] w/\(Q127.l1 k5 a1 x9 x12 x11)=some r/\k5<=k4) ?_ ?_))
  ·refine T0 ?_
   have h37:=(sOR h16 [0] [])
   refine T4 (fun kk env w=>∃ x17,Q127.l2 kk a1 x9 x11 x17=some r/\env=[(0,.slice A1 x9.length c_1),(1,.int .i64 a1),(10,.int .i64 x17),(11,.int .i64 x11)]/\St w0 F0 [O32 x9 A1 c_1] [] w/\kk<=k4) (k:=k4) ⟨_,H,rfl,h37,Sa _⟩ ?_
   rintro k8 env w24 ⟨x17,H,rfl,h31,hk8⟩
   rcases k8 with _ | k8
   ·exact z0 H
   rw [Q127.l2] at H
   refine T8 (T8 (jH h31 fun h32=>?_))
   refine Zr [0,1,2,3] ?_
   refine W0 102 H (fun c5 H=>?_) fun c5 H=>?_
   ·refine Zr [4,5,8,9] ?_
    obtain ⟨⟨p25,p26⟩,H⟩:=Zh H
    refine Zb 6 rfl (Zc e1 p25 p26) ?_
    refine Zb 7 rfl (Zd 0 wI (gO 0) p25 p26) ?_
    obtain ⟨⟨p27,p28⟩,H⟩:=Zh H
    refine Zb 10 rfl (Zc e1 p27 p28) ?_
    refine Zb 11 rfl (Zd 0 wI (gO 0) p27 p28) ?_
    refine cSJ 12 rfl H [] h32 rfl Q36.spec Zm 0 fun r2 w25 H h33=>?_
    refine hRF [13] [0,1,10,11,112] ?_
    refine jIf H (fun c6 H=>?_) fun c6 H=>?_
    ·refine T9 (T0 (Za [0,1,10,11] ?_))
     have h34:=(sOR h33 [0] [])
     exact ⟨k8,by omega,_,H,rfl,h34,by omega⟩
    refine T3 ?_
    have h35:=(sOR h33 [0] [])
    exact ⟨k8,x17,r2,rfl,h35,H,by omega⟩
   refine hRF [4,5,6,7,8,9,10,11,12,13] [0,1,10,11,112] ?_
   refine Z1 ?_
   refine T3 ?_
   have h36:=(sOR h32 [0] [])
   exact ⟨k8,x17,false,rfl,h36,H,by omega⟩
  rintro env w17 ⟨k5,x12,x13,rfl,h17,H,hk5⟩
  refine T8 (T5 (fun env w=>∃(k6:Nat) (x14:Int) (x15:Bool),env=[(0,.slice A1 x9.length c_1),(1,.int .i64 a1),(10,.int .i64 x12),(11,.int .i64 x14),(129,.bool x15)]/\St w0 F0 [O32 x9 A1 c_1] [] w/\(if (decide (x14<x12))=true then (if 0<=a1/\a1<(x9.length:Int) then (if 0<=x14/\x14<(x9.length:Int) then (some (x14,false,((x9.set x14.toNat (gt x9 a1)).set a1.toNat (gt x9 x14)))) else none) else none) else (if 0<=x14/\x14<(x9.length:Int) then (if 0<=x12/\x12<(x9.length:Int) then (Q127.l0 k6 a1 ((x9.set x12.toNat (gt x9 x14)).set x14.toNat (gt x9 x12)) (w64 (x12+1)) (w64 (x14 - 1))) else none) else none))=some r/\k6<=k5) ?_ ?_)
  ·refine T0 (Wf [0,1,10,11] ?_)
   have h30:=(sOR h17 [0] [])
   refine T4 (fun kk env w=>∃ x16,Q127.l1 kk a1 x9 x12 x16=some r/\env=[(0,.slice A1 x9.length c_1),(1,.int .i64 a1),(10,.int .i64 x12),(11,.int .i64 x16)]/\St w0 F0 [O32 x9 A1 c_1] [] w/\kk<=k5) (k:=k5) ⟨_,H,rfl,h30,Sa _⟩ ?_
   rintro k7 env w22 ⟨x16,H,rfl,h24,hk7⟩
   rcases k7 with _ | k7
   ·exact z0 H
   rw [Q127.l1] at H
   refine T8 (T8 (jH h24 fun h25=>?_))
   refine Zr [0,1,2,3] ?_
   refine W0 118 H (fun c3 H=>?_) fun c3 H=>?_
   ·refine Zr [4,5,8,9] ?_
    obtain ⟨⟨p21,p22⟩,H⟩:=Zh H
    refine Zb 6 rfl (Zc e1 p21 p22) ?_
    refine Zb 7 rfl (Zd 0 wI (gO 0) p21 p22) ?_
    obtain ⟨⟨p23,p24⟩,H⟩:=Zh H
    refine Zb 10 rfl (Zc e1 p23 p24) ?_
    refine Zb 11 rfl (Zd 0 wI (gO 0) p23 p24) ?_
    refine cSJ 12 rfl H [] h25 rfl Q36.spec Zm 0 fun r1 w23 H h26=>?_
    refine hRF [13,14] [0,1,10,11,129] ?_
    refine jIf H (fun c4 H=>?_) fun c4 H=>?_
    ·refine T9 (T0 (Za [0,1,10,11] ?_))
     have h27:=(sOR h26 [0] [])
     exact ⟨k7,by omega,_,H,rfl,h27,by omega⟩
    refine T3 ?_
    have h28:=(sOR h26 [0] [])
    exact ⟨k7,x16,(!r1),rfl,h28,H,by omega⟩
   refine hRF [4,5,6,7,8,9,10,11,12,13,14] [0,1,10,11,129] ?_
   refine Z1 ?_
   refine T3 ?_
   have h29:=(sOR h25 [0] [])
   exact ⟨k7,x16,false,rfl,h29,H,by omega⟩
  rintro env w19 ⟨k6,x14,x15,rfl,h18,H,hk6⟩
  refine T8 (T8 (Za [0,1,10,11,134] ?_))
  refine jIf H (fun c2 H=>?_) fun c2 H=>?_
  ·refine T3 ?_
   have h19:=(sOR h18 [0] [])
   exact ⟨x9,x12,x14,(decide (x14<x12)),rfl,h19,H,e11⟩
  refine T9 (T8 (Zv (sO h18 []) ?_))
  have h20:=h18.drew
  refine Zr [0,1,2,3,4,5,8,9] ?_
  obtain ⟨⟨p17,p18⟩,H⟩:=Zh H
  refine Zb 6 rfl (Zc e1 p17 p18) ?_
  obtain ⟨⟨p19,p20⟩,H⟩:=Zh H
  refine Zb 10 rfl (Zc e1 p19 p20) ?_
  refine TX (Y0 7 rfl (Zd 0 h20.wht (gO 0) p17 p18) (Y0 11 rfl (Zd 0 h20.wht (gO 0) p19 p20) V0)) ?_
  refine Zb 12 rfl (Zc e1 p19 p20) ?_
  refine hS 13 rfl (Zn 0 (.int .u32) x12 (gt x9 x14) 0 h20 rfl p19 p20) 1 fun _ w20 h21=>?_
  have e12:(x9.set x12.toNat (gt x9 x14)).length=a0.length:=length_set.trans e11
  refine Zb 14 rfl (Zc e1 p17 p18) ?_
  refine hS 15 rfl (Zn 0 (.int .u32) x14 (gt x9 x12) 0 h21 rfl p17 (by simpa only [length_set] using p18)) 1 fun _ w21 h22=>?_
  have e13:((x9.set x12.toNat (gt x9 x14)).set x14.toNat (gt x9 x12)).length=a0.length:=length_set.trans e12
  refine Y6 [0,1,10,11] ?_
  refine T2 (env':=[(0,.slice A1 ((x9.set x12.toNat (gt x9 x14)).set x14.toNat (gt x9 x12)).length c_1),(1,.int .i64 a1),(10,.int .i64 x12),(11,.int .i64 x14)]) (by simp only [length_set,length_nil] <;> rfl) ?_
  refine T8 (Za [0,1,10,11] ?_)
  refine Za [0,1,10,11] ?_
  have h23:=(sOR h22 [0] [])
  exact ⟨k6,by omega,_,_,_,H,rfl,h23,by omega,e13⟩
 rintro env w12 ⟨x5,x6,x7,x8,rfl,h12,H,e8⟩
 refine T8 (Zv (sO h12 []) ?_)
 have h13:=h12.drew
 refine Zr [0,1,2,3,4,5,8,9] ?_
 obtain ⟨⟨p13,p14⟩,H⟩:=Zh H
 refine Zb 6 rfl (Zc e1 p13 p14) ?_
 obtain ⟨⟨p15,p16⟩,H⟩:=Zh H
 refine Zb 10 rfl (Zc e1 p15 p16) ?_
 refine TX (Y0 7 rfl (Zd 0 h13.wht (gO 0) p13 p14) (Y0 11 rfl (Zd 0 h13.wht (gO 0) p15 p16) V0)) ?_
 refine Zb 12 rfl (Zc e1 p15 p16) ?_
 refine hS 13 rfl (Zn 0 (.int .u32) x7 (gt x5 a1) 0 h13 rfl p15 p16) 1 fun _ w13 h14=>?_
 have e9:(x5.set x7.toNat (gt x5 a1)).length=a0.length:=length_set.trans e8
 refine Zb 14 rfl (Zc e1 p13 p14) ?_
 refine hS 15 rfl (Zn 0 (.int .u32) a1 (gt x5 x7) 0 h14 rfl p13 (by simpa only [length_set] using p14)) 1 fun _ w14 h15=>?_
 have e10:((x5.set x7.toNat (gt x5 a1)).set a1.toNat (gt x5 x7)).length=a0.length:=length_set.trans e9
 refine Y6 [11] ?_
 refine T8 (Za [8,9] ?_)
 cases H
 exact T7 (jR ⟨rfl,rfl,e10⟩ h15 [0])

def Q123.f (a0:Int):Option (Int):=(Q0.f (uH.wrap (a0))).bind fun r1=>(if 0<=r1 then (some (uH.wrap ((1:Int)*2 ^ (min r1.toNat 64)))) else none)
theorem Q123.spec {a0 r} (H:Q123.f a0=some r) :
  Spec prog 190 [.int .i64 a0] [] [] (fun v l=>v=.int .u64 r/\l=[]):=by
 refine Zf Tryz.func190 fun w0 F0 h0=>?_
 unfold Q123.f at H
 refine T8 (Za [0] ?_)
 refine T8 (T6 (Ze 2 ?_))
 refine cS H [] h0 rfl Q0.spec Zm fun r1 w1 H h1=>?_
 obtain ⟨p1,H⟩:=Zh H
 refine Zj (Bo p1) ?_
 refine rFi [2] ?_
 cases H
 exact T7 (jR0 h1 [])

def Q131.f (a0:Int):Option TV:=some ((uH.wrap (((ofInt uH.bits (uH.wrap (((ofInt uH.bits (uH.wrap (((ofInt uH.bits a0 ^^^ (ofInt uH.bits (uH.wrap (a0*2 ^ 13)))).toNat:Int))) ^^^ (ofInt uH.bits (Int.fdiv (uH.wrap (((ofInt uH.bits a0 ^^^ (ofInt uH.bits (uH.wrap (a0*2 ^ 13)))).toNat:Int))) (2 ^ 7)))).toNat:Int))) ^^^ (ofInt uH.bits (uH.wrap ((uH.wrap (((ofInt uH.bits (uH.wrap (((ofInt uH.bits a0 ^^^ (ofInt uH.bits (uH.wrap (a0*2 ^ 13)))).toNat:Int))) ^^^ (ofInt uH.bits (Int.fdiv (uH.wrap (((ofInt uH.bits a0 ^^^ (ofInt uH.bits (uH.wrap (a0*2 ^ 13)))).toNat:Int))) (2 ^ 7)))).toNat:Int)))*2 ^ 17)))).toNat:Int))),(uH.wrap (((ofInt uH.bits (uH.wrap (((ofInt uH.bits (uH.wrap (((ofInt uH.bits a0 ^^^ (ofInt uH.bits (uH.wrap (a0*2 ^ 13)))).toNat:Int))) ^^^ (ofInt uH.bits (Int.fdiv (uH.wrap (((ofInt uH.bits a0 ^^^ (ofInt uH.bits (uH.wrap (a0*2 ^ 13)))).toNat:Int))) (2 ^ 7)))).toNat:Int))) ^^^ (ofInt uH.bits (uH.wrap ((uH.wrap (((ofInt uH.bits (uH.wrap (((ofInt uH.bits a0 ^^^ (ofInt uH.bits (uH.wrap (a0*2 ^ 13)))).toNat:Int))) ^^^ (ofInt uH.bits (Int.fdiv (uH.wrap (((ofInt uH.bits a0 ^^^ (ofInt uH.bits (uH.wrap (a0*2 ^ 13)))).toNat:Int))) (2 ^ 7)))).toNat:Int)))*2 ^ 17)))).toNat:Int))))
theorem Q131.spec {a0 b1 r} (H:Q131.f a0=some r) :
  Spec prog 191 [.pointer (some ⟨b1,0,none⟩)] [Zd2 b1 a0] [] (fun v l=>v=.int .u64 r.1/\l=[Zd2 b1 r.2]):=by
 refine Zf Tryz.func191 fun w0 F0 h0=>?_
 unfold Q131.f at H
 refine T8 (Za [0] ?_)
 refine T8 (T5 (fun env w=>env=[(0,.pointer (some ⟨b1,0,none⟩))]/\St w0 F0 [Zd2 b1 (uH.wrap (((ofInt uH.bits a0 ^^^ (ofInt uH.bits (uH.wrap (a0*2 ^ 13)))).toNat:Int)))] [] w) ?_ ?_)
 ·refine Zv (sO h0 []) ?_
  have h2:=h0.drew
  refine Zr [0,1,3,4] ?_
  refine TY [2,5] (i:=2) rfl rfl rfl rfl ?_
  refine (Y1 ?_ (Y1 ?_ Vr))
  ·refine hQS 2 rfl (Zi 0 h2.wht) h2 1 fun h2=>?_
   refine hQ 5 rfl (Zi 0 h2.wht) h2 1 fun h2=>?_
   refine Zr [6,7,8] ?_
   refine hS 9 rfl (Zt 0 h2) 1 fun _ w22 h7=>?_
   refine Y6 [0] ?_
   exact Y4 ⟨rfl,(sOR h7 [0] [])⟩
  ·refine hQS 5 rfl (Zi 0 h2.wht) h2 1 fun h2=>?_
   refine Zr [6] ?_
   refine hQ 2 rfl (Zi 0 h2.wht) h2 1 fun h2=>?_
   refine Zr [7,8] ?_
   refine hS 9 rfl (Zt 0 h2) 1 fun _ w25 h8=>?_
   refine Y6 [0] ?_
   exact Y4 ⟨rfl,(sOR h8 [0] [])⟩
 rintro env w26 ⟨rfl,h9⟩
 refine T8 (T5 (fun env w=>env=[(0,.pointer (some ⟨b1,0,none⟩))]/\St w0 F0 [Zd2 b1 (uH.wrap (((ofInt uH.bits (uH.wrap (((ofInt uH.bits a0 ^^^ (ofInt uH.bits (uH.wrap (a0*2 ^ 13)))).toNat:Int))) ^^^ (ofInt uH.bits (Int.fdiv (uH.wrap (((ofInt uH.bits a0 ^^^ (ofInt uH.bits (uH.wrap (a0*2 ^ 13)))).toNat:Int))) (2 ^ 7)))).toNat:Int)))] [] w) ?_ ?_)
 ·refine Zv (sO h9 []) ?_
  have h11:=h9.drew
  refine Zr [0,1,3,4] ?_
  refine TY [2,5] (i:=2) rfl rfl rfl rfl ?_
  refine (Y1 ?_ (Y1 ?_ Vr))
  ·refine hQS 2 rfl (Zi 0 h11.wht) h11 1 fun h11=>?_
   refine hQ 5 rfl (Zi 0 h11.wht) h11 1 fun h11=>?_
   refine Zr [6,7,8] ?_
   refine hS 9 rfl (Zt 0 h11) 1 fun _ w48 h16=>?_
   refine Y6 [0] ?_
   exact Y4 ⟨rfl,(sOR h16 [0] [])⟩
  ·refine hQS 5 rfl (Zi 0 h11.wht) h11 1 fun h11=>?_
   refine Zr [6] ?_
   refine hQ 2 rfl (Zi 0 h11.wht) h11 1 fun h11=>?_
   refine Zr [7,8] ?_
   refine hS 9 rfl (Zt 0 h11) 1 fun _ w51 h17=>?_
   refine Y6 [0] ?_
   exact Y4 ⟨rfl,(sOR h17 [0] [])⟩
 rintro env w52 ⟨rfl,h18⟩
 refine T8 (T5 (fun env w=>env=[(0,.pointer (some ⟨b1,0,none⟩))]/\St w0 F0 [Zd2 b1 (uH.wrap (((ofInt uH.bits (uH.wrap (((ofInt uH.bits (uH.wrap (((ofInt uH.bits a0 ^^^ (ofInt uH.bits (uH.wrap (a0*2 ^ 13)))).toNat:Int))) ^^^ (ofInt uH.bits (Int.fdiv (uH.wrap (((ofInt uH.bits a0 ^^^ (ofInt uH.bits (uH.wrap (a0*2 ^ 13)))).toNat:Int))) (2 ^ 7)))).toNat:Int))) ^^^ (ofInt uH.bits (uH.wrap ((uH.wrap (((ofInt uH.bits (uH.wrap (((ofInt uH.bits a0 ^^^ (ofInt uH.bits (uH.wrap (a0*2 ^ 13)))).toNat:Int))) ^^^ (ofInt uH.bits (Int.fdiv (uH.wrap (((ofInt uH.bits a0 ^^^ (ofInt uH.bits (uH.wrap (a0*2 ^ 13)))).toNat:Int))) (2 ^ 7)))).toNat:Int)))*2 ^ 17)))).toNat:Int)))] [] w) ?_ ?_)
 ·refine Zv (sO h18 []) ?_
  have h20:=h18.drew
  refine Zr [0,1,3,4] ?_
  refine TY [2,5] (i:=2) rfl rfl rfl rfl ?_
  refine (Y1 ?_ (Y1 ?_ Vr))
  ·refine hQS 2 rfl (Zi 0 h20.wht) h20 1 fun h20=>?_
   refine hQ 5 rfl (Zi 0 h20.wht) h20 1 fun h20=>?_
   refine Zr [6,7,8] ?_
   refine hS 9 rfl (Zt 0 h20) 1 fun _ w75 h25=>?_
   refine Y6 [0] ?_
   exact Y4 ⟨rfl,(sOR h25 [0] [])⟩
  ·refine hQS 5 rfl (Zi 0 h20.wht) h20 1 fun h20=>?_
   refine Zr [6] ?_
   refine hQ 2 rfl (Zi 0 h20.wht) h20 1 fun h20=>?_
   refine Zr [7,8] ?_
   refine hS 9 rfl (Zt 0 h20) 1 fun _ w78 h26=>?_
   refine Y6 [0] ?_
   exact Y4 ⟨rfl,(sOR h26 [0] [])⟩
 rintro env w79 ⟨rfl,h27⟩
 refine T8 (T6 (rRL 2 0 h27 ?_))
 refine rFi [2] ?_
 cases H
 exact T7 (jR0 h27 [0])

def Q117.l0:Nat->(Int)->(Int)->(Int)->TW->(Int)->(Int)->Option TW
 | 0,_,_,_,_,_,_=>none
 | k+1,a1,a2,r1,x1,x2,x3=>if (decide (x3<=(w64 ((w64 (a1+(w64 ((w64 (Int.tdiv (w64 (a2 - a1)) 4))*2))))+1))))=true then ((Q131.f x2).bind fun r2=>(if (decide ((w64 (a2 - a1))<=(w64 ((uH.wrap (((ofInt uH.bits r2.1 &&& (ofInt uH.bits (uH.wrap (r1 - 1)))).toNat:Int)))))))=true then (if 0<=(w64 (a1+(w64 ((w64 ((uH.wrap (((ofInt uH.bits r2.1 &&& (ofInt uH.bits (uH.wrap (r1 - 1)))).toNat:Int))))) - (w64 (a2 - a1))))))/\(w64 (a1+(w64 ((w64 ((uH.wrap (((ofInt uH.bits r2.1 &&& (ofInt uH.bits (uH.wrap (r1 - 1)))).toNat:Int))))) - (w64 (a2 - a1))))))<(x1.length:Int) then (if 0<=x3/\x3<(x1.length:Int) then (Q117.l0 k a1 a2 r1 ((x1.set x3.toNat (gt x1 (w64 (a1+(w64 ((w64 ((uH.wrap (((ofInt uH.bits r2.1 &&& (ofInt uH.bits (uH.wrap (r1 - 1)))).toNat:Int))))) - (w64 (a2 - a1)))))))).set (w64 (a1+(w64 ((w64 ((uH.wrap (((ofInt uH.bits r2.1 &&& (ofInt uH.bits (uH.wrap (r1 - 1)))).toNat:Int))))) - (w64 (a2 - a1)))))).toNat (gt x1 x3)) r2.2 (w64 (x3+1))) else none) else none) else (if 0<=(w64 (a1+(w64 ((uH.wrap (((ofInt uH.bits r2.1 &&& (ofInt uH.bits (uH.wrap (r1 - 1)))).toNat:Int)))))))/\(w64 (a1+(w64 ((uH.wrap (((ofInt uH.bits r2.1 &&& (ofInt uH.bits (uH.wrap (r1 - 1)))).toNat:Int)))))))<(x1.length:Int) then (if 0<=x3/\x3<(x1.length:Int) then (Q117.l0 k a1 a2 r1 ((x1.set x3.toNat (gt x1 (w64 (a1+(w64 ((uH.wrap (((ofInt uH.bits r2.1 &&& (ofInt uH.bits (uH.wrap (r1 - 1)))).toNat:Int))))))))).set (w64 (a1+(w64 ((uH.wrap (((ofInt uH.bits r2.1 &&& (ofInt uH.bits (uH.wrap (r1 - 1)))).toNat:Int))))))).toNat (gt x1 x3)) r2.2 (w64 (x3+1))) else none) else none))) else (some x1)
def Q117.f (k:Nat) (a0:TW) (a1:Int) (a2:Int):Option TW:=if (decide (8<=(w64 (a2 - a1))))=true then ((Q123.f (w64 (a2 - a1))).bind fun r1=>(Q117.l0 k a1 a2 r1 a0 (uH.wrap ((w64 (a2 - a1)))) (w64 ((w64 (a1+(w64 ((w64 (Int.tdiv (w64 (a2 - a1)) 4))*2)))) - 1)))) else (some a0)
theorem Q117.spec {k a0 a1 a2 A1 c_1 r} (H:Q117.f k a0 a1 a2=some r) :
  Spec prog 180 [.slice A1 a0.length c_1,.int .i64 a1,.int .i64 a2] [O32 a0 A1 c_1] [] (fun v l=>v=.tuple #[]/\l=[O32 r A1 c_1]/\r.length=a0.length):=by
 refine Zf Tryz.func180 fun w0 F0 h0=>?_
 unfold Q117.f at H
 refine T8 (Za [0,1,6] ?_)
 refine T8 (Za [0,1,6,15] ?_)
 refine jIf H (fun c1 H=>?_) fun c1 H=>?_
 ·refine T8 (T6 (Ze 2 ?_))
  refine rB (Yp h0) fun b1 w1 h1=>?_
  refine rS (Zt 0 h1) fun _ w2 h2=>?_
  refine rFi [0,1,6,7] ?_
  refine T8 (T6 (Ze 1 ?_))
  refine cS H [] h2 rfl Q123.spec Zm fun r1 w3 H h3=>?_
  refine rFi [0,1,6,7,8] ?_
  refine T8 (Za [0,1,6,7,8,9] ?_)
  refine T0 ?_
  have h13:=(sOR h3 [0,0] [])
  refine T4 (fun kk env w=>∃ x1 x2 x3,Q117.l0 kk a1 a2 r1 x1 x2 x3=some r/\env=[(0,.slice A1 x1.length c_1),(1,.int .i64 a1),(6,.int .i64 (w64 (a2 - a1))),(7,.pointer (some ⟨b1,0,none⟩)),(8,.int .u64 r1),(9,.int .i64 x3)]/\St w0 F0 [Zd2 b1 x2,O32 x1 A1 c_1] [] w/\x1.length=a0.length) (k:=k) ⟨_,_,_,H,rfl,h13,(rfl:a0.length=a0.length)⟩ ?_
  rintro k1 env w4 ⟨x1,x2,x3,H,rfl,h4,e1⟩
  rcases k1 with _ | k1
  ·exact z0 H
  rw [Q117.l0] at H
  refine T8 (T8 (Za [0,1,6,7,8,9,33] ?_))
  refine jIf H (fun c2 H=>?_) fun c2 H=>?_
  ·refine T9 (T8 (T0 (T8 (T6 (cS H [0] h4 rfl Q131.spec Zm fun r2 w5 H h5=>?_)))))
   refine rFi [0,1,6,7,8,9,10] ?_
   refine T8 (T8 (Za [0,1,6,7,8,9,10,43] ?_))
   refine T5 (fun env w=>∃(k2:Nat) (x4:Int),env=[(0,.slice A1 x1.length c_1),(1,.int .i64 a1),(6,.int .i64 (w64 (a2 - a1))),(7,.pointer (some ⟨b1,0,none⟩)),(8,.int .u64 r1),(9,.int .i64 x3),(10,.int .i64 x4)]/\St w0 F0 [Zd2 b1 r2.2,O32 x1 A1 c_1] [] w/\(if 0<=(w64 (a1+x4))/\(w64 (a1+x4))<(x1.length:Int) then (if 0<=x3/\x3<(x1.length:Int) then (Q117.l0 k2 a1 a2 r1 ((x1.set x3.toNat (gt x1 (w64 (a1+x4)))).set (w64 (a1+x4)).toNat (gt x1 x3)) r2.2 (w64 (x3+1))) else none) else none)=some r/\k2<=k1) ?_ ?_
   ·refine jIf H (fun c3 H=>?_) fun c3 H=>?_
    ·refine Za [0,1,6,7,8,9,10] ?_
     have h11:=(sOR h5 [0,0] [])
     exact ⟨k1,(w64 ((w64 ((uH.wrap (((ofInt uH.bits r2.1 &&& (ofInt uH.bits (uH.wrap (r1 - 1)))).toNat:Int))))) - (w64 (a2 - a1)))),rfl,h11,H,Sa _⟩
    refine Wf [0,1,6,7,8,9,10] ?_
    refine T9 ?_
    have h12:=(sOR h5 [0,0] [])
    exact ⟨k1,(w64 ((uH.wrap (((ofInt uH.bits r2.1 &&& (ofInt uH.bits (uH.wrap (r1 - 1)))).toNat:Int))))),rfl,h12,H,Sa _⟩
   rintro env w7 ⟨k2,x4,rfl,h6,H,hk2⟩
   refine Zv (sO h6 [0]) ?_
   have h7:=h6.drew
   refine Zr [0,1,2,3,4,5,6,7,8,9,12,13] ?_
   obtain ⟨⟨p1,p2⟩,H⟩:=Zh H
   have e2:=Zy h7.wh (gO 1) p1 p2
   refine Zb 10 rfl (Zc e2 p1 p2) ?_
   obtain ⟨⟨p3,p4⟩,H⟩:=Zh H
   refine Zb 14 rfl (Zc e2 p3 p4) ?_
   refine TX (Y0 11 rfl (Zd 0 h7.wht (gO 1) p1 p2) (Y0 15 rfl (Zd 0 h7.wht (gO 1) p3 p4) V0)) ?_
   refine Zb 16 rfl (Zc e2 p3 p4) ?_
   refine hS 17 rfl (Zn 0 (.int .u32) x3 (gt x1 (w64 (a1+x4))) 1 h7 rfl p3 p4) 1 fun _ w8 h8=>?_
   have e3:(x1.set x3.toNat (gt x1 (w64 (a1+x4)))).length=a0.length:=length_set.trans e1
   refine Zb 18 rfl (Zc e2 p1 p2) ?_
   refine hS 19 rfl (Zn 0 (.int .u32) (w64 (a1+x4)) (gt x1 x3) 0 h8 rfl p1 (by simpa only [length_set] using p2)) 1 fun _ w9 h9=>?_
   have e4:((x1.set x3.toNat (gt x1 (w64 (a1+x4)))).set (w64 (a1+x4)).toNat (gt x1 x3)).length=a0.length:=length_set.trans e3
   refine Y6 [0,1,6,7,8,9] ?_
   refine T2 (env':=[(0,.slice A1 ((x1.set x3.toNat (gt x1 (w64 (a1+x4)))).set (w64 (a1+x4)).toNat (gt x1 x3)).length c_1),(1,.int .i64 a1),(6,.int .i64 (w64 (a2 - a1))),(7,.pointer (some ⟨b1,0,none⟩)),(8,.int .u64 r1),(9,.int .i64 x3)]) (by simp only [length_set,length_nil] <;> rfl) ?_
   refine Za [0,1,6,7,8,9] ?_
   have h10:=(sOR h9 [1,0] [])
   exact ⟨k2,by omega,_,_,_,H,rfl,h10,e4⟩
  refine T3 ?_
  cases H
  exact ⟨_,_,_,Zk,⟨rfl,rfl,e1⟩,sO h4 [1]⟩
 refine T9 ?_
 cases H
 exact ⟨_,_,_,Zk,⟨rfl,rfl,(rfl:a0.length=a0.length)⟩,sO h0 [0]⟩

mutual
def Q128.l0:Nat->TW->(Int)->(Int)->(Int)->(Bool)->(Bool)->Option TW
 | 0,_,_,_,_,_,_=>none
 | k+1,x1,x2,x3,x4,x5,x6=>if (decide ((w64 (x3 - x2))<=12))=true then ((Q120.f k x1 x2 x3).bind fun r1=>(some r1)) else (if (decide (x4=0))=true then ((Q119.f k x1 x2 x3).bind fun r2=>(some r2)) else (if (!x5)=true then ((Q117.f k x1 x2 x3).bind fun r11=>(Q128.l1 k x2 x3 x5 x6 r11 (w64 (x4 - 1)))) else (Q128.l1 k x2 x3 x5 x6 x1 x4)))
def Q128.l1:Nat->(Int)->(Int)->(Bool)->(Bool)->TW->(Int)->Option TW
 | 0,_,_,_,_,_,_=>none
 | k+1,x2,x3,x5,x6,x7,x8=>(Q118.f x7 x2 x3).bind fun r3=>(if (decide (r3.2=2))=true then ((Q129.f k x7 x2 x3).bind fun r10=>(Q128.l2 k x2 x3 x5 x6 x8 r10 (w64 ((w64 (x3 - 1)) - (w64 (r3.1 - x2)))) 1)) else (Q128.l2 k x2 x3 x5 x6 x8 x7 r3.1 r3.2))
def Q128.l2:Nat->(Int)->(Int)->(Bool)->(Bool)->(Int)->TW->(Int)->(Int)->Option TW
 | 0,_,_,_,_,_,_,_,_=>none
 | k+1,x2,x3,x5,x6,x8,x9,x10,x11=>if x5=true then (if x6=true then (Q128.l3 k x2 x3 x5 x6 x8 x9 x10 (decide (x11=1))) else (Q128.l3 k x2 x3 x5 x6 x8 x9 x10 false)) else (Q128.l3 k x2 x3 x5 x6 x8 x9 x10 false)
def Q128.l3:Nat->(Int)->(Int)->(Bool)->(Bool)->(Int)->TW->(Int)->(Bool)->Option TW
 | 0,_,_,_,_,_,_,_,_=>none
 | k+1,x2,x3,x5,x6,x8,x9,x10,x12=>if x12=true then ((Q125.f k x9 x2 x3).bind fun r9=>(if r9.1=true then (some r9.2) else (Q128.l4 k x2 x3 x5 x6 x8 x10 r9.2))) else (Q128.l4 k x2 x3 x5 x6 x8 x10 x9)
def Q128.l4:Nat->(Int)->(Int)->(Bool)->(Bool)->(Int)->(Int)->TW->Option TW
 | 0,_,_,_,_,_,_,_=>none
 | k+1,x2,x3,x5,x6,x8,x10,x13=>if (decide (0<x2))=true then (if 0<=(w64 (x2 - 1))/\(w64 (x2 - 1))<(x13.length:Int) then (if 0<=x10/\x10<(x13.length:Int) then ((Q36.f (gt x13 (w64 (x2 - 1))) (gt x13 x10)).bind fun r8=>(Q128.l5 k x2 x3 x5 x6 x8 x10 x13 (!r8))) else none) else none) else (Q128.l5 k x2 x3 x5 x6 x8 x10 x13 false)
def Q128.l5:Nat->(Int)->(Int)->(Bool)->(Bool)->(Int)->(Int)->TW->(Bool)->Option TW
 | 0,_,_,_,_,_,_,_,_=>none
 | k+1,x2,x3,x5,x6,x8,x10,x13,x14=>if x14=true then ((Q126.f k x13 x2 x3 x10).bind fun r4=>(Q128.l0 k r4.2 r4.1 x3 x8 x5 x6)) else ((Q127.f k x13 x2 x3 x10).bind fun r5=>(if (decide ((w64 (r5.1 - x2))<(w64 (x3 - r5.1))))=true then ((Q128.f k r5.2.2 x2 r5.1 x8).bind fun r6=>(Q128.l0 k r6 (w64 (r5.1+1)) x3 x8 (decide ((w64 (Int.tdiv (w64 (x3 - x2)) 8))<=(w64 (r5.1 - x2)))) r5.2.1)) else ((Q128.f k r5.2.2 (w64 (r5.1+1)) x3 x8).bind fun r7=>(Q128.l0 k r7 x2 r5.1 x8 (decide ((w64 (Int.tdiv (w64 (x3 - x2)) 8))<=(w64 (x3 - r5.1)))) r5.2.1))))
def Q128.f:Nat->TW->(Int)->(Int)->(Int)->Option TW
 | 0,_,_,_,_=>none
 | k+1,a0,a1,a2,a3=>Q128.l0 k a0 a1 a2 a3 true true
end
theorem Q128.spec:∀ {k a0 a1 a2 a3 A1 c_1 r},Q128.f k a0 a1 a2 a3=some r->
  Spec prog 175 [.slice A1 a0.length c_1,.int .i64 a1,.int .i64 a2,.int .i64 a3] [O32 a0 A1 c_1] [] (fun v l=>v=.tuple #[]/\l=[O32 r A1 c_1]/\r.length=a0.length):=by
 intro k
 induction k using Nat.strongRecOn with
 | _ k ih=>
 intro a0 a1 a2 a3 A1 c_1 r H
 cases k with
 | zero=>rw [Q128.f] at H; cases H
 | succ kr=>
 refine Zf Tryz.func175 fun w0 F0 h0=>?_
 rw [Q128.f] at H
 refine T8 (Za [0,1,2,3,8] ?_)
 refine T8 (Za [0,1,2,3,8,9] ?_)
 refine T0 ?_
 have h33:=(sOR h0 [0] [])
 refine T4 (fun kk env w=>∃ x1 x2 x3 x4 x5 x6,Q128.l0 kk x1 x2 x3 x4 x5 x6=some r/\env=[(0,.slice A1 x1.length c_1),(1,.int .i64 x2),(2,.int .i64 x3),(3,.int .i64 x4),(8,.bool x5),(9,.bool x6)]/\St w0 F0 [O32 x1 A1 c_1] [] w/\kk<=kr/\x1.length=a0.length) (k:=kr) ⟨_,_,_,_,_,_,H,rfl,h33,Sa _,(rfl:a0.length=a0.length)⟩ ?_
 rintro k1 env w1 ⟨x1,x2,x3,x4,x5,x6,H,rfl,h1,hk1,e1⟩
 rcases k1 with _ | k1
 ·exact z0 H
 rw [Q128.l0] at H
 refine T0 (T8 (Za [0,1,2,3,8,9,10] ?_))
 refine T8 (T8 (Za [0,1,2,3,8,9,10,23] ?_))
 refine jIf H (fun c1 H=>?_) fun c1 H=>?_
 ·refine T8 (T6 (Ze 3 ?_))
  refine cE H [0] h1 rfl Q120.spec Zm ?_
  rintro r1 w2 _ _ H ⟨rfl,rfl,q2⟩ h2
  replace h2:=nf h2
  have e2:r1.length=a0.length:=q2.trans e1
  refine rFi [] ?_
  cases H
  exact T7 (jR ⟨rfl,rfl,e2⟩ h2 [0])
 refine T9 (T8 (T8 (Za [0,1,2,3,8,9,10,29] ?_)))
 refine jIf H (fun c2 H=>?_) fun c2 H=>?_
 ·refine T8 (T6 (Ze 3 ?_))
  refine cE H [0] h1 rfl Q119.spec Zm ?_
  rintro r2 w3 _ _ H ⟨rfl,rfl,q4⟩ h3
  replace h3:=nf h3
  have e3:r2.length=a0.length:=q4.trans e1
  refine rFi [] ?_
  cases H
  exact T7 (jR ⟨rfl,rfl,e3⟩ h3 [0])
 refine T9 (T8 (T8 (Za [0,1,2,3,8,9,10,35] ?_)))
 refine T5 (fun env w=>∃ k2 x7 x8,Q128.l1 k2 x2 x3 x5 x6 x7 x8=some r/\env=[(0,.slice A1 x7.length c_1),(1,.int .i64 x2),(2,.int .i64 x3),(3,.int .i64 x8),(8,.bool x5),(9,.bool x6),(10,.int .i64 (w64 (x3 - x2)))]/\St w0 F0 [O32 x7 A1 c_1] [] w/\k2<=k1/\x7.length=a0.length) ?_ ?_
 ·refine jIf H (fun c11 H=>?_) fun c11 H=>?_
  ·refine T8 (T6 (Ze 3 ?_))
   refine cE H [0] h1 rfl Q117.spec Zm ?_
   rintro r11 w22 _ _ H ⟨rfl,rfl,q20⟩ h30
   replace h30:=nf h30
   have e14:r11.length=a0.length:=q20.trans e1
   refine rFi [0,1,2,3,8,9,10] ?_
   refine T2 (env':=[(0,.slice A1 r11.length c_1),(1,.int .i64 x2),(2,.int .i64 x3),(3,.int .i64 x4),(8,.bool x5),(9,.bool x6),(10,.int .i64 (w64 (x3 - x2)))]) (by simp only [q20,length_nil] <;> rfl) ?_
   refine Za [0,1,2,3,8,9,10] ?_
   have h31:=(sOR h30 [0] [])
   exact ⟨k1,_,_,H,rfl,h31,Sa _,e14⟩
  refine Wf [0,1,2,3,8,9,10] ?_
  refine T9 ?_
  have h32:=(sOR h1 [0] [])
  exact ⟨k1,_,_,H,rfl,h32,Sa _,e1⟩
 rintro env w5 ⟨k2,x7,x8,H,rfl,h4,hk2,e4⟩
 rcases k2 with _ | k2
 ·exact z0 H
 rw [Q128.l1] at H
 refine T8 (T6 (Ze 3 ?_))
 refine cS H [] h4 rfl Q118.spec (Xl (gO 0) Zm) fun r3 w6 H h5=>?_
 refine rFi [0,1,2,3,8,9,10,11,12] ?_
 refine T8 (T8 (Za [0,1,2,3,8,9,10,11,12,50] ?_))
 refine T5 (fun env w=>∃ k3 x9 x10 x11,Q128.l2 k3 x2 x3 x5 x6 x8 x9 x10 x11=some r/\env=[(0,.slice A1 x9.length c_1),(1,.int .i64 x2),(2,.int .i64 x3),(3,.int .i64 x8),(8,.bool x5),(9,.bool x6),(10,.int .i64 (w64 (x3 - x2))),(11,.int .i64 x10),(12,.int .i64 x11)]/\St w0 F0 [O32 x9 A1 c_1] [] w/\k3<=k2/\x9.length=a0.length) ?_ ?_
 ·refine jIf H (fun c10 H=>?_) fun c10 H=>?_
  ·refine T8 (T6 (Ze 3 ?_))
   refine cE H [0] h5 rfl Q129.spec Zm ?_
   rintro r10 w21 _ _ H ⟨rfl,rfl,q18⟩ h27
   replace h27:=nf h27
   have e13:r10.length=a0.length:=q18.trans e4
   refine rFi [0,1,2,3,8,9,10,11] ?_
   refine T2 (env':=[(0,.slice A1 r10.length c_1),(1,.int .i64 x2),(2,.int .i64 x3),(3,.int .i64 x8),(8,.bool x5),(9,.bool x6),(10,.int .i64 (w64 (x3 - x2))),(11,.int .i64 r3.1)]) (by simp only [q18,length_nil] <;> rfl) ?_
   refine T8 (Za [0,1,2,3,8,9,10,11] ?_)
   refine Za [0,1,2,3,8,9,10,11,12] ?_
   have h28:=(sOR h27 [0] [])
   exact ⟨k2,_,_,_,H,rfl,h28,Sa _,e13⟩
  refine Wf [0,1,2,3,8,9,10,11,12] ?_
  refine T9 ?_
  have h29:=(sOR h5 [0] [])
  exact ⟨k2,_,_,_,H,rfl,h29,Sa _,e4⟩
 rintro env w8 ⟨k3,x9,x10,x11,H,rfl,h6,hk3,e5⟩
 rcases k3 with _ | k3
 ·exact z0 H
 rw [Q128.l2] at H
 refine T8 (T8 (T5 (fun env w=>∃ k4 x12,Q128.l3 k4 x2 x3 x5 x6 x8 x9 x10 x12=some r/\env=[(0,.slice A1 x9.length c_1),(1,.int .i64 x2),(2,.int .i64 x3),(3,.int .i64 x8),(8,.bool x5),(9,.bool x6),(10,.int .i64 (w64 (x3 - x2))),(11,.int .i64 x10),(68,.bool x12)]/\St w0 F0 [O32 x9 A1 c_1] [] w/\k4<=k3) ?_ ?_))
 ·refine T6 (Ze 2 ?_)
  refine Z7 62 H (fun c8 H=>?_) fun c8 H=>?_
  ·refine Ze 3 ?_
   refine Z7 65 H (fun c9 H=>?_) fun c9 H=>?_
   ·refine rFi [0,1,2,3,8,9,10,11,68] ?_
    have h24:=(sOR h6 [0] [])
    exact ⟨k3,_,H,rfl,h24,Sa _⟩
   refine rFi [0,1,2,3,8,9,10,11,68] ?_
   have h25:=(sOR h6 [0] [])
   exact ⟨k3,_,H,rfl,h25,Sa _⟩
  refine rFi [0,1,2,3,8,9,10,11,68] ?_
  have h26:=(sOR h6 [0] [])
  exact ⟨k3,_,H,rfl,h26,Sa _⟩
 rintro env w10 ⟨k4,x12,H,rfl,h7,hk4⟩
 rcases k4 with _ | k4
 ·exact z0 H
 rw [Q128.l3] at H
 refine T5 (fun env w=>∃ k5 x13,Q128.l4 k5 x2 x3 x5 x6 x8 x10 x13=some r/\env=[(0,.slice A1 x13.length c_1),(1,.int .i64 x2),(2,.int .i64 x3),(3,.int .i64 x8),(8,.bool x5),(9,.bool x6),(10,.int .i64 (w64 (x3 - x2))),(11,.int .i64 x10)]/\St w0 F0 [O32 x13 A1 c_1] [] w/\k5<=k4/\x13.length=a0.length) ?_ ?_
 ·refine jIf H (fun c6 H=>?_) fun c6 H=>?_
  ·refine T8 (T6 (Ze 3 ?_))
   refine cE H [0] h7 rfl Q125.spec Zm ?_
   rintro r9 w20 _ _ H ⟨rfl,rfl,q16⟩ h21
   replace h21:=nf h21
   have e12:r9.2.length=a0.length:=q16.trans e5
   refine rFi [0,1,2,3,8,9,10,11,72] ?_
   refine T2 (env':=[(0,.slice A1 r9.2.length c_1),(1,.int .i64 x2),(2,.int .i64 x3),(3,.int .i64 x8),(8,.bool x5),(9,.bool x6),(10,.int .i64 (w64 (x3 - x2))),(11,.int .i64 x10),(72,.bool r9.1)]) (by simp only [q16,length_nil] <;> rfl) ?_
   refine jIf H (fun c7 H=>?_) fun c7 H=>?_
   ·cases H
    exact T7 (jR ⟨rfl,rfl,e12⟩ h21 [0])
   refine Wf [0,1,2,3,8,9,10,11] ?_
   refine T9 ?_
   have h22:=(sOR h21 [0] [])
   exact ⟨k4,_,H,rfl,h22,Sa _,e12⟩
  refine Wf [0,1,2,3,8,9,10,11] ?_
  refine T9 ?_
  have h23:=(sOR h7 [0] [])
  exact ⟨k4,_,H,rfl,h23,Sa _,e5⟩
 rintro env w12 ⟨k5,x13,H,rfl,h8,hk5,e6⟩
 rcases k5 with _ | k5
 ·exact z0 H
 rw [Q128.l4] at H
 refine T8 (T8 (T5 (fun env w=>∃ k6 x14,Q128.l5 k6 x2 x3 x5 x6 x8 x10 x13 x14=some r/\env=[(0,.slice A1 x13.length c_1),(1,.int .i64 x2),(2,.int .i64 x3),(3,.int .i64 x8),(8,.bool x5),(9,.bool x6),(10,.int .i64 (w64 (x3 - x2))),(11,.int .i64 x10),(87,.bool x14)]/\St w0 F0 [O32 x13 A1 c_1] [] w/\k6<=k5) ?_ ?_))
 ·refine jH h8 fun h17=>?_
  refine Zr [0,1,2] ?_
  refine W0 75 H (fun c5 H=>?_) fun c5 H=>?_
  ·refine Zr [3,4,5,8,9] ?_
   obtain ⟨⟨p1,p2⟩,H⟩:=Zh H
   have e11:=Zy h17.wh (gO 0) p1 p2
   refine Zb 6 rfl (Zc e11 p1 p2) ?_
   refine Zb 7 rfl (Zd 0 wI (gO 0) p1 p2) ?_
   obtain ⟨⟨p3,p4⟩,H⟩:=Zh H
   refine Zb 10 rfl (Zc e11 p3 p4) ?_
   refine Zb 11 rfl (Zd 0 wI (gO 0) p3 p4) ?_
   refine cSJ 12 rfl H [] h17 rfl Q36.spec Zm 0 fun r8 w19 H h18=>?_
   refine hRF [13,14] [0,1,2,3,8,9,10,11,87] ?_
   have h19:=(sOR h18 [0] [])
   exact ⟨k5,_,H,rfl,h19,Sa _⟩
  refine hRF [3,4,5,6,7,8,9,10,11,12,13,14] [0,1,2,3,8,9,10,11,87] ?_
  have h20:=(sOR h17 [0] [])
  exact ⟨k5,_,H,rfl,h20,Sa _⟩
 rintro env w14 ⟨k6,x14,H,rfl,h9,hk6⟩
 rcases k6 with _ | k6
 ·exact z0 H
 rw [Q128.l5] at H
 refine jIf H (fun c3 H=>?_) fun c3 H=>?_
 ·refine T8 (T6 (Ze 4 ?_))
  refine cE H [0] h9 rfl Q126.spec Zm ?_
  rintro r4 w15 _ _ H ⟨rfl,rfl,q7⟩ h10
  replace h10:=nf h10
  have e7:r4.2.length=a0.length:=q7.trans e6
  refine rFi [0,2,3,8,9,13] ?_
  refine T2 (env':=[(0,.slice A1 r4.2.length c_1),(2,.int .i64 x3),(3,.int .i64 x8),(8,.bool x5),(9,.bool x6),(13,.int .i64 r4.1)]) (by simp only [q7,length_nil] <;> rfl) ?_
  refine T8 (Za [0,1,2,3,8,9] ?_)
  refine T3 ?_
  have h11:=(sOR h10 [0] [])
  exact ⟨k6,by omega,_,_,_,_,_,_,H,rfl,h11,by omega,e7⟩
 refine T9 (T8 (T6 (Ze 4 ?_)))
 refine cE H [0] h9 rfl Q127.spec Zm ?_
 rintro r5 w16 _ _ H ⟨rfl,rfl,q9⟩ h12
 replace h12:=nf h12
 have e8:r5.2.2.length=a0.length:=q9.trans e6
 refine rFi [0,1,2,3,10,14,15] ?_
 refine T2 (env':=[(0,.slice A1 r5.2.2.length c_1),(1,.int .i64 x2),(2,.int .i64 x3),(3,.int .i64 x8),(10,.int .i64 (w64 (x3 - x2))),(14,.int .i64 r5.1),(15,.bool r5.2.1)]) (by simp only [q9,length_nil] <;> rfl) ?_
 refine T8 (Za [0,1,2,3,9,10,14] ?_)
 refine T8 (Za [0,1,2,3,9,10,14,16,17] ?_)
 refine T8 (Za [0,1,2,3,9,14,16,17,18] ?_)
 refine T8 (Za [0,1,2,3,9,14,16,17,18,113] ?_)
 refine jIf H (fun c4 H=>?_) fun c4 H=>?_
 ·refine T8 (Za [0,1,2,3,8,9,14] ?_)
  refine T8 (T6 (Ze 4 ?_))
  refine cE H [0] h12 rfl (ih k6 (by omega)) Zm ?_
  rintro r6 w17 _ _ H ⟨rfl,rfl,q11⟩ h13
  replace h13:=nf h13
  have e9:r6.length=a0.length:=q11.trans e8
  refine rFi [0,2,3,8,9,14] ?_
  refine T2 (env':=[(0,.slice A1 r6.length c_1),(2,.int .i64 x3),(3,.int .i64 x8),(8,.bool (decide ((w64 (Int.tdiv (w64 (x3 - x2)) 8))<=(w64 (r5.1 - x2))))),(9,.bool r5.2.1),(14,.int .i64 r5.1)]) (by simp only [q11,length_nil] <;> rfl) ?_
  refine Za [0,1,2,3,8,9] ?_
  have h14:=(sOR h13 [0] [])
  exact ⟨k6,by omega,_,_,_,_,_,_,H,rfl,h14,by omega,e9⟩
 refine T8 (Za [0,1,2,3,8,9,14] ?_)
 refine T8 (T6 (Ze 5 ?_))
 refine cE H [0] h12 rfl (ih k6 (by omega)) Zm ?_
 rintro r7 w18 _ _ H ⟨rfl,rfl,q13⟩ h15
 replace h15:=nf h15
 have e10:r7.length=a0.length:=q13.trans e8
 refine rFi [0,1,3,8,9,14] ?_
 refine T2 (env':=[(0,.slice A1 r7.length c_1),(1,.int .i64 x2),(3,.int .i64 x8),(8,.bool (decide ((w64 (Int.tdiv (w64 (x3 - x2)) 8))<=(w64 (x3 - r5.1))))),(9,.bool r5.2.1),(14,.int .i64 r5.1)]) (by simp only [q13,length_nil] <;> rfl) ?_
 refine Za [0,1,2,3,8,9] ?_
 have h16:=(sOR h15 [0] [])
 exact ⟨k6,by omega,_,_,_,_,_,_,H,rfl,h16,by omega,e10⟩

def Q116.f (k:Nat) (a0:TW):Option TW:=(Q0.f (uH.wrap ((a0.length:Int)))).bind fun r1=>((Q128.f k a0 0 (a0.length:Int) r1).bind fun r2=>(some r2))
theorem Q116.spec {k a0 A1 c_1 r} (H:Q116.f k a0=some r) :
  Spec prog 165 [.slice A1 a0.length c_1] [O32 a0 A1 c_1] [] (fun v l=>v=.tuple #[]/\l=[O32 r A1 c_1]/\r.length=a0.length):=by
 refine Zf Tryz.func165 fun w0 F0 h0=>?_
 unfold Q116.f at H
 refine T8 (Za [0,2] ?_)
 refine T6 (Ze 4 ?_)
 refine cS H [] h0 rfl Q0.spec Zm fun r1 w1 H h1=>?_
 refine cE H [0] h1 rfl Q128.spec Zm ?_
 rintro r2 w2 _ _ H ⟨rfl,rfl,q3⟩ h2
 replace h2:=nf h2
 have e1:r2.length=a0.length:=q3.trans (rfl:a0.length=a0.length)
 refine rFi [] ?_
 cases H
 exact ⟨_,_,_,Zk,⟨rfl,rfl,e1⟩,sO h2 [0]⟩

def Q102.l1:Nat->(Int)->TW->(Int)->(Int)->Option TW
 | 0,_,_,_,_=>none
 | k+1,x1,x2,x3,x4=>if (decide (x4<((x2.drop x1.toNat).length:Int)))=true then (if 0<=x4/\x4<((x2.drop x1.toNat).length:Int) then (if 0<=(w64 (x4 - 1))/\(w64 (x4 - 1))<((x2.drop x1.toNat).length:Int) then (if (!decide ((gt (x2.drop x1.toNat) x4)=(gt (x2.drop x1.toNat) (w64 (x4 - 1)))))=true then (if 0<=x3/\x3<(x2.length:Int) then (Q102.l1 k x1 (x2.set x3.toNat (gt (x2.drop x1.toNat) x4)) (w64 (x3+1)) (w64 (x4+1))) else none) else (Q102.l1 k x1 x2 x3 (w64 (x4+1)))) else none) else none) else (if 0<=x3/\x3<=(x2.length:Int) then (if (0:Int)<=x3/\x3<=((patch x2 x3.toNat ((x2.drop x3.toNat).length) (List.replicate ((x2.drop x3.toNat).length) (0:Int))).length:Int) then (some ((patch x2 x3.toNat ((x2.drop x3.toNat).length) (List.replicate ((x2.drop x3.toNat).length) (0:Int))).take x3.toNat)) else none) else none)
def Q102.l0:Nat->TW->(Int)->Option TW
 | 0,_,_=>none
 | k+1,a0,x1=>if (decide (x1<(a0.length:Int)))=true then (if 0<=x1/\x1<(a0.length:Int) then (if 0<=(w64 (x1 - 1))/\(w64 (x1 - 1))<(a0.length:Int) then (if (decide ((gt a0 x1)=(gt a0 (w64 (x1 - 1)))))=true then (if 0<=x1/\x1<=(a0.length:Int) then (Q102.l1 k x1 a0 x1 1) else none) else (Q102.l0 k a0 (w64 (x1+1)))) else none) else none) else (some a0)
def Q102.f (k:Nat) (a0:TW):Option TW:=if (decide ((a0.length:Int)<2))=true then (some a0) else (Q102.l0 k a0 1)
theorem Q102.spec {k a0 A1 c_1 r} (H:Q102.f k a0=some r) :
  SpecA prog 166 [.slice A1 a0.length c_1] [O32 a0 A1 c_1] [] (fun v l lr=>∃ A_0 c_0,v=.slice A_0 r.length c_0/\l=[]/\lr=[R32 r A_0 c_0]):=by
 refine Yq Tryz.func166 fun w0 F0 h0=>?_
 unfold Q102.f at H
 refine T8 (Za [0] ?_)
 refine T8 (T8 (Za [0,8] ?_))
 refine jIf H (fun c1 H=>?_) fun c1 H=>?_
 ·refine T8 (Za [2] ?_)
  have h1:=h0.freeze (k:=0) rfl Ye
  cases H
  exact T7 (jRA ⟨_,_,rfl,rfl,rfl⟩ (sOR h1 [] [0]))
 refine T9 (T8 (T8 (Za [0,3] ?_)))
 refine T0 ?_
 have h15:=(sOR h0 [0] [])
 refine T4 (fun kk env w=>∃ x1,Q102.l0 kk a0 x1=some r/\env=[(0,.slice A1 a0.length c_1),(3,.int .i64 x1)]/\St w0 F0 [O32 a0 A1 c_1] [] w) (k:=k) ⟨_,H,rfl,h15⟩ ?_
 rintro k1 env w1 ⟨x1,H,rfl,h2⟩
 rcases k1 with _ | k1
 ·exact z0 H
 rw [Q102.l0] at H
 refine T8 (T8 (Za [0,3,13] ?_))
 refine jIf H (fun c2 H=>?_) fun c2 H=>?_
 ·refine T9 (T8 (T0 (T8 (jH h2 fun h3=>?_))))
  refine Zr [0,1,4,5,6] ?_
  obtain ⟨⟨p1,p2⟩,H⟩:=Zh H
  have e1:=Zy h3.wh (gO 0) p1 p2
  refine Zb 2 rfl (Zc e1 p1 p2) ?_
  refine Zb 3 rfl (Zd 0 wI (gO 0) p1 p2) ?_
  obtain ⟨⟨p3,p4⟩,H⟩:=Zh H
  refine Zb 7 rfl (Zc e1 p3 p4) ?_
  refine Zb 8 rfl (Zd 0 wI (gO 0) p3 p4) ?_
  refine hRF [9] [0,3,25] ?_
  refine jIf H (fun c3 H=>?_) fun c3 H=>?_
  ·refine T8 (T6 (Ze 2 ?_))
   obtain ⟨⟨p5,p6⟩,H⟩:=Zh H
   have e2:=h3.cap (gO 0)
   refine Zj (Uj (a0.drop x1.toNat) x1 (a0.length:Int) e2 p5 p6 (Int.le_refl _) (Yv _ _)) ?_
   refine rFi [0,3,4] ?_
   refine T8 (T8 (Za [0,3,4,5] ?_))
   refine T0 ?_
   have h12:=(sOR h3 [0] [])
   refine T4 (fun kk env w=>∃ x2 x3 x4,Q102.l1 kk x1 x2 x3 x4=some r/\env=[(0,.slice A1 x2.length c_1),(3,.int .i64 x3),(4,.slice (W1 A1 c_1 x1.toNat 1) (x2.drop x1.toNat).length (c_1 - x1.toNat)),(5,.int .i64 x4)]/\St w0 F0 [O32 x2 A1 c_1] [] w/\kk<=k1/\x2.length=a0.length) (k:=k1) ⟨_,_,_,H,rfl,h12,Sa _,(rfl:a0.length=a0.length)⟩ ?_
   rintro k2 env w2 ⟨x2,x3,x4,H,rfl,h4,hk2,e3⟩
   rcases k2 with _ | k2
   ·exact z0 H
   rw [Q102.l1] at H
   refine T8 (T8 (Za [0,3,4,5,32] ?_))
   refine jIf H (fun c4 H=>?_) fun c4 H=>?_
   ·refine T9 (T8 (T0 (T8 (jH h4 fun h5=>?_))))
    refine Zr [0,1,4,5,6] ?_
    obtain ⟨⟨p7,p8⟩,H⟩:=Zh H
    have e4:=Zy h5.wh ((Gives.of 0 rfl Ye).trans (Vs (.int .u32) (x2.drop x1.toNat) x1 (x2.length:Int) (by omega) (by omega) (by omega) (Yv _ _))) p7 p8
    refine Zb 2 rfl (Zc e4 p7 p8) ?_
    refine Zb 3 rfl (Zd 0 wI ((Gives.of 0 rfl Ye).trans (Vs (.int .u32) (x2.drop x1.toNat) x1 (x2.length:Int) (by omega) (by omega) (by omega) (Yv _ _))) p7 p8) ?_
    obtain ⟨⟨p9,p10⟩,H⟩:=Zh H
    refine Zb 7 rfl (Zc e4 p9 p10) ?_
    refine Zb 8 rfl (Zd 0 wI ((Gives.of 0 rfl Ye).trans (Vs (.int .u32) (x2.drop x1.toNat) x1 (x2.length:Int) (by omega) (by omega) (by omega) (Yv _ _))) p9 p10) ?_
    refine hRF [9] [0,3,4,5,44] ?_
    refine jIf H (fun c5 H=>?_) fun c5 H=>?_
    ·refine T8 (T6 (Ze 4 ?_))
     refine Zj (Zc e4 p7 p8) ?_
     refine Zj (Zd 0 h5.wht ((Gives.of 0 rfl Ye).trans (Vs (.int .u32) (x2.drop x1.toNat) x1 (x2.length:Int) (by omega) (by omega) (by omega) (Yv _ _))) p7 p8) ?_
     obtain ⟨⟨p11,p12⟩,H⟩:=Zh H
     refine Zj (Zc e1 p11 p12) ?_
     refine rS (Zn 0 (.int .u32) x3 (gt (x2.drop x1.toNat) x4) 0 h5 rfl p11 p12) fun _ w3 h6=>?_
     have e5:(x2.set x3.toNat (gt (x2.drop x1.toNat) x4)).length=a0.length:=length_set.trans e3
     refine rFi [0,3,4,5] ?_
     refine T2 (env':=[(0,.slice A1 (x2.set x3.toNat (gt (x2.drop x1.toNat) x4)).length c_1),(3,.int .i64 x3),(4,.slice (W1 A1 c_1 x1.toNat 1) ((x2.set x3.toNat (gt (x2.drop x1.toNat) x4)).drop x1.toNat).length (c_1 - x1.toNat)),(5,.int .i64 x4)]) (by first | (simp only [length_set]; done) | (simp only [length_set] <;> simp only [length_drop]; done) | (simp only [length_set,length_drop,length_nil] <;> rfl)) ?_
     refine Za [0,3,4,5] ?_
     refine Za [0,3,4,5] ?_
     have h7:=(sOR h6 [0] [])
     exact ⟨k2,by omega,_,_,_,H,rfl,h7,by omega,e5⟩
    refine T9 (Za [0,3,4,5] ?_)
    have h8:=(sOR h5 [0] [])
    exact ⟨k2,by omega,_,_,_,H,rfl,h8,by omega,e3⟩
   refine T3 (T8 (T6 (Ze 2 ?_)))
   obtain ⟨⟨p13,p14⟩,H⟩:=Zh H
   have e6:=h4.cap (gO 0)
   refine Zj (Uj (x2.drop x3.toNat) x3 (x2.length:Int) e6 p13 p14 (Int.le_refl _) (Yv _ _)) ?_
   have e7:x3.toNat+(x2.drop x3.toNat).length<=x2.length:=by simp only [length_drop]; omega
   refine Zp (Zht Z3 (ty:=(.int .u32)) (xs:=x2) rfl (0:Int) 0 rfl h4 rfl rfl rfl rfl rfl rfl e7) ?_
   rintro _ w4 h9
   replace h9:=nf h9
   have e8:(patch x2 x3.toNat ((x2.drop x3.toNat).length) (List.replicate ((x2.drop x3.toNat).length) (0:Int))).length=a0.length:=(X7 e7).trans e3
   refine rFi [0,3] ?_
   refine T2 (env':=[(0,.slice A1 (patch x2 x3.toNat ((x2.drop x3.toNat).length) (List.replicate ((x2.drop x3.toNat).length) (0:Int))).length c_1),(3,.int .i64 x3)]) (by first | (simp only [X7 e7]; done) | (simp only [X7 e7] <;> simp only [length_drop]; done) | (simp only [X7 e7,length_drop,length_nil] <;> rfl)) ?_
   refine T8 (T6 (Ze 2 ?_))
   obtain ⟨⟨p15,p16⟩,H⟩:=Zh H
   have e9:=h9.cap (gO 0)
   refine Zj (X6 ((patch x2 x3.toNat ((x2.drop x3.toNat).length) (List.replicate ((x2.drop x3.toNat).length) (0:Int))).take x3.toNat) x3 e9 p15 p16) ?_
   refine rFi [2] ?_
   have h10:=h9.freeze (k:=0) rfl Ye
   have h11:=h10.read (k:=0) rfl (Uu (.int .u32) ((patch x2 x3.toNat ((x2.drop x3.toNat).length) (List.replicate ((x2.drop x3.toNat).length) (0:Int))).take x3.toNat) x3 p15 p16)
   cases H
   exact T7 (jRA ⟨_,_,rfl,rfl,rfl⟩ (sOR h11 [] [0]))
  refine T9 (Za [0,3] ?_)
  have h13:=(sOR h3 [0] [])
  exact ⟨k1,by omega,_,H,rfl,h13⟩
 refine T3 (T8 (Za [2] ?_))
 have h14:=h2.freeze (k:=0) rfl Ye
 cases H
 exact T7 (jRA ⟨_,_,rfl,rfl,rfl⟩ (sOR h14 [] [0]))

def Q77.f (k:Nat) (a0:Tq) (a1:TW):Option (Bool):=(Q101.f a1).bind fun r1=>((Q116.f k r1).bind fun r2=>(if (decide ((a1.length:Int)<1))=true then (some false) else (if (decide (a0.2.2.2.1<(a1.length:Int)))=true then (some false) else (if 0<(r2.length:Int) then (if (decide ((gt r2 0)=0))=true then (some false) else (if 0<=(w64 ((a1.length:Int) - 1))/\(w64 ((a1.length:Int) - 1))<(r2.length:Int) then (if (decide (a0.1<=(w64 ((gt r2 (w64 ((a1.length:Int) - 1)))))))=true then (some false) else ((Q102.f k r2).bind fun r3=>(some (decide ((r3.length:Int)=(a1.length:Int)))))) else none)) else none))))
theorem Q77.spec {k a0 a1 A1 c_1 r} (H:Q77.f k a0 a1=some r) :
  Spec prog 149 [.agg #[.int .i64 a0.1,.int .i64 a0.2.1,.int .i64 a0.2.2.1,.int .i64 a0.2.2.2.1,.int .i64 a0.2.2.2.2.1,.int .i64 a0.2.2.2.2.2.1,.int .i64 a0.2.2.2.2.2.2.1,.int .i64 a0.2.2.2.2.2.2.2],.slice A1 a1.length c_1] [] [R32 a1 A1 c_1] (fun v l=>v=.bool r/\l=[]):=by
 refine Zf Tryz.func149 fun w0 F0 h0=>?_
 unfold Q77.f at H
 refine T8 (T6 (rB (Z5 h0) fun b1 w1 h1=>?_))
 refine rFi [1,2] ?_
 refine T8 (T6 (Ze 1 ?_))
 refine cE H [] h1 rfl Q101.spec (gS [1]) ?_
 rintro r1 w2 _ _ H ⟨A2,c_2,rfl,rfl⟩ h2
 replace h2:=nf h2
 refine rFi [1,2,5] ?_
 refine T8 (T6 (Ze 1 ?_))
 refine cE H [0] h2 rfl Q116.spec Zm ?_
 rintro r2 w3 _ _ H ⟨rfl,rfl,q3⟩ h3
 replace h3:=nf h3
 refine rFi [1,2,5] ?_
 refine T2 (env':=[(1,.slice A1 a1.length c_1),(2,.pointer (some ⟨b1,0,none⟩)),(5,.slice A2 r2.length c_2)]) (by simp only [q3,length_nil] <;> rfl) ?_
 refine T8 (T8 (jH h3 fun h4=>?_))
 refine Zr [0,1,2,3] ?_
 refine W0 13 H (fun c1 H=>?_) fun c1 H=>?_
 ·refine hRF [4,5,6,7,8,9,10,11,12,13,14,15,16,17,18,19,20,21,22,23,24,25,26,27] [1,5,37] ?_
  refine Zo ?_
  refine T8 (Za [4] ?_)
  have h5:=sO h4 []
  replace h5:=nf h5
  cases H
  exact T7 (jR0 h5 [])
 refine Zr [4,5,6] ?_
 refine Zb 7 rfl (Zi 1 wI) ?_
 refine Zr [8,9,10] ?_
 refine W0 20 H (fun c2 H=>?_) fun c2 H=>?_
 ·refine hRF [11,12,13,14,15,16,17,18,19,20,21,22,23,24,25,26,27] [1,5,37] ?_
  refine Zo ?_
  refine T8 (Za [4] ?_)
  have h6:=sO h4 []
  replace h6:=nf h6
  cases H
  exact T7 (jR0 h6 [])
 refine Zr [11] ?_
 obtain ⟨p1,H⟩:=Zh H
 have e1:=Vu h4.wh (gO 0) p1
 refine Zb 12 rfl (X4 e1 p1) ?_
 refine Zb 13 rfl (Xb 0 wI (gO 0) p1) ?_
 refine Zr [14,15,16] ?_
 refine W0 26 H (fun c3 H=>?_) fun c3 H=>?_
 ·refine hRF [17,18,19,20,21,22,23,24,25,26,27] [1,5,37] ?_
  refine Zo ?_
  refine T8 (Za [4] ?_)
  have h7:=sO h4 []
  replace h7:=nf h7
  cases H
  exact T7 (jR0 h7 [])
 refine Zr [17,18,19,20,24] ?_
 obtain ⟨⟨p2,p3⟩,H⟩:=Zh H
 refine Zb 21 rfl (Zc e1 p2 p3) ?_
 refine Zb 22 rfl (Zd 0 wI (gO 0) p2 p3) ?_
 refine Zr [23] ?_
 refine Zb 25 rfl (Zi 1 wI) ?_
 refine hRF [26,27] [1,5,37] ?_
 refine jIf H (fun c4 H=>?_) fun c4 H=>?_
 ·refine T8 (Za [4] ?_)
  have h8:=sO h4 []
  replace h8:=nf h8
  cases H
  exact T7 (jR0 h8 [])
 refine T9 (T8 (T6 (Ze 1 ?_)))
 obtain ⟨r3,q4,H⟩:=Yf H
 refine Zp (Z2 [0] (Q102.spec q4) h4 rfl Zm) ?_
 rintro _ w4 ⟨_,_,⟨A3,c_3,rfl,rfl,rfl⟩,h9⟩
 replace h9:=nf h9
 refine rFi [4] ?_
 cases H
 exact T7 (jR0 h9 [])

def Q61.l0:Nat->TL->TA->(Int)->Option (Bool)
 | 0,_,_,_=>none
 | k+1,a0,a1,x1=>if (decide (x1<(a0.length:Int)))=true then (if 0<=x1/\x1<(a0.length:Int) then ((Q70.f a1 (gt a0 x1)).bind fun r1=>(if (!r1)=true then (some false) else (if (decide ((gt a0 x1)=a1.1))=true then (some false) else (if (decide (0<x1))=true then (if 0<=(w64 (x1 - 1))/\(w64 (x1 - 1))<(a0.length:Int) then ((Q68.f (gt a0 (w64 (x1 - 1))) (gt a0 x1)).bind fun r2=>(if (decide (0<=r2))=true then (some false) else (Q61.l0 k a0 a1 (w64 (x1+1))))) else none) else (Q61.l0 k a0 a1 (w64 (x1+1))))))) else none) else (some true)
def Q61.f (k:Nat) (a0:TL) (a1:TA):Option (Bool):=Q61.l0 k a0 a1 0
theorem Q61.spec {k a0 a1 A1 c_1 r} (H:Q61.f k a0 a1=some r) :
  Spec prog 150 [.slice A1 a0.length c_1,.agg #[.string ⟨⟨a1.1⟩⟩,.string ⟨⟨a1.2.1⟩⟩,.bool a1.2.2]] [] [R9 a0 A1 c_1] (fun v l=>v=.bool r/\l=[]):=by
 refine Zf Tryz.func150 fun w0 F0 h0=>?_
 unfold Q61.f at H
 refine T8 (T6 (rB (Z5 h0) fun b1 w1 h1=>?_))
 refine rFi [0,3] ?_
 refine T8 (T8 (Za [0,3,7,8,9] ?_))
 refine T0 ?_
 have h7:=(sOR h1 [0] [0])
 refine T4 (fun kk env w=>∃ x1,Q61.l0 kk a0 a1 x1=some r/\env=[(0,.slice A1 a0.length c_1),(3,.pointer (some ⟨b1,0,none⟩)),(7,.slice A1 a0.length c_1),(8,.int .i64 (a0.length:Int)),(9,.int .i64 x1)]/\St w0 F0 [X30 b1 a1.1 a1.2.1 a1.2.2] [R9 a0 A1 c_1] w) (k:=k) ⟨_,H,rfl,h7⟩ ?_
 rintro k1 env w2 ⟨x1,H,rfl,h2⟩
 rcases k1 with _ | k1
 ·exact z0 H
 rw [Q61.l0] at H
 refine T8 (Za [0,3,7,8,9,10] ?_)
 refine T8 (jIf H (fun c1 H=>?_) fun c1 H=>?_)
 ·refine T9 (T8 (T0 (T8 (T6 (Ze 1 ?_)))))
  obtain ⟨⟨p1,p2⟩,H⟩:=Zh H
  have e1:=Zy h2.wh (Zg 1) p1 p2
  refine Zj (Zc e1 p1 p2) ?_
  refine Zj (Zd 0 h2.wht (Zg 1) p1 p2) ?_
  refine rFi [0,3,5,6,7,8,9] ?_
  refine T8 (T6 (rLo 0 h2 ?_))
  refine Ze 1 ?_
  refine cS H [] h2 rfl Q70.spec Zm fun r1 w3 H h3=>?_
  refine Ze 2 ?_
  refine Z7 18 H (fun c2 H=>?_) fun c2 H=>?_
  ·refine rFi [0,3,7,8,9,37] ?_
   refine Zo ?_
   refine T8 (Za [4] ?_)
   cases H
   exact T7 (jR0 h3 [])
  refine rRL 2 0 h3 ?_
  refine Ze 3 ?_
  refine Z7 24 H (fun c3 H=>?_) fun c3 H=>?_
  ·refine rFi [0,3,7,8,9,37] ?_
   refine Zo ?_
   refine T8 (Za [4] ?_)
   cases H
   exact T7 (jR0 h3 [])
  refine Ze 3 ?_
  refine Z7 27 H (fun c4 H=>?_) fun c4 H=>?_
  ·refine Ze 3 ?_
   obtain ⟨⟨p3,p4⟩,H⟩:=Zh H
   refine Zj (Zc e1 p3 p4) ?_
   refine Zj (Zd 0 h3.wht (Zg 1) p3 p4) ?_
   refine Ze 1 ?_
   refine cS H [] h3 rfl Q68.spec Zm fun r2 w4 H h4=>?_
   refine rFi [0,3,7,8,9,37] ?_
   refine jIf H (fun c5 H=>?_) fun c5 H=>?_
   ·refine T8 (Za [4] ?_)
    cases H
    exact T7 (jR0 h4 [])
   refine T9 (Za [0,3,7,8,9] ?_)
   have h5:=(sOR h4 [0] [0])
   exact ⟨k1,by omega,_,H,rfl,h5⟩
  refine rFi [0,3,7,8,9,37] ?_
  refine Z1 ?_
  refine T9 (Za [0,3,7,8,9] ?_)
  have h6:=(sOR h3 [0] [0])
  exact ⟨k1,by omega,_,H,rfl,h6⟩
 refine T3 (T8 (Za [4] ?_))
 cases H
 exact T7 (jR0 h2 [])

def Q75.f (a0:TR) (a1:Tq):Option (Bool):=(Q72.f a1 a0).bind fun r1=>(some (!r1))
theorem Q75.spec {a0 a1 b1 r} (H:Q75.f a0 a1=some r) :
  Spec prog 152 [.string ⟨⟨a0⟩⟩,.pointer (some ⟨b1,0,none⟩)] [X23 b1 a1.1 a1.2.1 a1.2.2.1 a1.2.2.2.1 a1.2.2.2.2.1 a1.2.2.2.2.2.1 a1.2.2.2.2.2.2.1 a1.2.2.2.2.2.2.2] [] (fun v l=>v=.bool r/\l=[X23 b1 a1.1 a1.2.1 a1.2.2.1 a1.2.2.2.1 a1.2.2.2.2.1 a1.2.2.2.2.2.1 a1.2.2.2.2.2.2.1 a1.2.2.2.2.2.2.2]):=by
 refine Zf Tryz.func152 fun w0 F0 h0=>?_
 unfold Q75.f at H
 refine T8 (Za [0,1] ?_)
 refine T8 (T6 (rLo 0 h0 ?_))
 refine Ze 1 ?_
 refine cS H [] h0 rfl Q72.spec Zm fun r1 w1 H h1=>?_
 refine rFi [3] ?_
 cases H
 exact T7 (jR0 h1 [0])

def Q114.l0:Nat->TL->Tq->(Int)->Option (Int)
 | 0,_,_,_=>none
 | k+1,a0,a2,x1=>if (decide (x1<(a0.length:Int)))=true then (if 0<=x1/\x1<(a0.length:Int) then ((Q75.f (gt a0 x1) a2).bind fun r1=>(if r1=true then (some x1) else (Q114.l0 k a0 a2 (w64 (x1+1))))) else none) else (some (-1))
def Q114.f (k:Nat) (a0:TL) (a2:Tq):Option (Int):=Q114.l0 k a0 a2 0
theorem Q114.spec {k a0 a2 A1 c_1 b1 r} (H:Q114.f k a0 a2=some r) :
  Spec prog 167 [.slice A1 a0.length c_1,.func (.func 152) #[] #[.pointer (some ⟨b1,0,none⟩)]] [X23 b1 a2.1 a2.2.1 a2.2.2.1 a2.2.2.2.1 a2.2.2.2.2.1 a2.2.2.2.2.2.1 a2.2.2.2.2.2.2.1 a2.2.2.2.2.2.2.2] [R9 a0 A1 c_1] (fun v l=>v=.int .i64 r/\l=[X23 b1 a2.1 a2.2.1 a2.2.2.1 a2.2.2.2.1 a2.2.2.2.2.1 a2.2.2.2.2.2.1 a2.2.2.2.2.2.2.1 a2.2.2.2.2.2.2.2]):=by
 refine Zf Tryz.func167 fun w0 F0 h0=>?_
 unfold Q114.f at H
 refine T8 (Za [0,1] ?_)
 refine T8 (T8 (Za [0,1,7,8] ?_))
 refine T0 ?_
 have h4:=(sOR h0 [0] [0])
 refine T4 (fun kk env w=>∃ x1,Q114.l0 kk a0 a2 x1=some r/\env=[(0,.slice A1 a0.length c_1),(1,.func (.func 152) #[] #[.pointer (some ⟨b1,0,none⟩)]),(7,.int .i64 (a0.length:Int)),(8,.int .i64 x1)]/\St w0 F0 [X23 b1 a2.1 a2.2.1 a2.2.2.1 a2.2.2.2.1 a2.2.2.2.2.1 a2.2.2.2.2.2.1 a2.2.2.2.2.2.2.1 a2.2.2.2.2.2.2.2] [R9 a0 A1 c_1] w) (k:=k) ⟨_,H,rfl,h4⟩ ?_
 rintro k1 env w1 ⟨x1,H,rfl,h1⟩
 rcases k1 with _ | k1
 ·exact z0 H
 rw [Q114.l0] at H
 refine T8 (Za [0,1,7,8,9] ?_)
 refine T8 (jIf H (fun c1 H=>?_) fun c1 H=>?_)
 ·refine T9 (T8 (T0 (T8 (Za [0,1,5,7,8] ?_))))
  refine T8 (T6 (Ze 3 ?_))
  obtain ⟨⟨p1,p2⟩,H⟩:=Zh H
  have e1:=Zy h1.wh (Zg 1) p1 p2
  refine Zj (Zc e1 p1 p2) ?_
  refine Zj (Zd 0 h1.wht (Zg 1) p1 p2) ?_
  obtain ⟨r1,q1,H⟩:=Yf H
  refine Zp (Gu [.string ⟨⟨(gt a0 x1)⟩⟩] [.pointer (some ⟨b1,0,none⟩)] [0] (Q75.spec q1) h1 rfl Zm) ?_
  rintro _ w2 ⟨_,⟨rfl,rfl⟩,h2⟩
  replace h2:=nf h2
  refine rFi [0,1,5,7,8,16] ?_
  refine jIf H (fun c2 H=>?_) fun c2 H=>?_
  ·refine T8 (Za [4] ?_)
   cases H
   exact T7 (jR0 h2 [0])
  refine T9 (Za [0,1,7,8] ?_)
  have h3:=(sOR h2 [0] [0])
  exact ⟨k1,by omega,_,H,rfl,h3⟩
 refine T3 (T8 (Za [4] ?_))
 cases H
 exact T7 (jR0 h1 [0])

def Q107.f (k:Nat) (a0:TL) (a2:Tq):Option (Bool):=(Q114.f k a0 a2).bind fun r1=>(some (decide (0<=r1)))
theorem Q107.spec {k a0 a2 A1 c_1 b1 r} (H:Q107.f k a0 a2=some r) :
  Spec prog 151 [.slice A1 a0.length c_1,.func (.func 152) #[] #[.pointer (some ⟨b1,0,none⟩)]] [X23 b1 a2.1 a2.2.1 a2.2.2.1 a2.2.2.2.1 a2.2.2.2.2.1 a2.2.2.2.2.2.1 a2.2.2.2.2.2.2.1 a2.2.2.2.2.2.2.2] [R9 a0 A1 c_1] (fun v l=>v=.bool r/\l=[X23 b1 a2.1 a2.2.1 a2.2.2.1 a2.2.2.2.1 a2.2.2.2.2.1 a2.2.2.2.2.2.1 a2.2.2.2.2.2.2.1 a2.2.2.2.2.2.2.2]):=by
 refine Zf Tryz.func151 fun w0 F0 h0=>?_
 unfold Q107.f at H
 refine T8 (Za [0,1] ?_)
 refine T8 (T6 (Ze 2 ?_))
 refine cS H [0] h0 rfl Q114.spec (gS [0]) fun r1 w1 H h1=>?_
 refine rFi [4] ?_
 cases H
 exact T7 (jR0 h1 [0])

def Q14.l0:Nat->Tu->(Int)->Option (Bool)
 | 0,_,_=>none
 | k+1,a0,x1=>if (decide (x1<(w64 ((a0.length:Int) - 1))))=true then (if 0<=x1/\x1<(a0.length:Int) then (if 0<=(w64 (x1+1))/\(w64 (x1+1))<(a0.length:Int) then ((Q68.f ((gt a0 x1).1) ((gt a0 (w64 (x1+1))).1)).bind fun r1=>(if (decide (0<=r1))=true then (some false) else (Q14.l0 k a0 (w64 (x1+1))))) else none) else none) else (some true)
def Q14.f (k:Nat) (a0:Tu):Option (Bool):=Q14.l0 k a0 0
theorem Q14.spec {k a0 A1 c_1 r} (H:Q14.f k a0=some r) :
  Spec prog 153 [.slice A1 a0.length c_1] [] [R69 a0 A1 c_1] (fun v l=>v=.bool r/\l=[]):=by
 refine Zf Tryz.func153 fun w0 F0 h0=>?_
 unfold Q14.f at H
 refine T8 (Za [0] ?_)
 refine T8 (T8 (Za [0,6,7] ?_))
 refine T0 ?_
 have h5:=(sOR h0 [] [0])
 refine T4 (fun kk env w=>∃ x1,Q14.l0 kk a0 x1=some r/\env=[(0,.slice A1 a0.length c_1),(6,.int .i64 (w64 ((a0.length:Int) - 1))),(7,.int .i64 x1)]/\St w0 F0 [] [R69 a0 A1 c_1] w) (k:=k) ⟨_,H,rfl,h5⟩ ?_
 rintro k1 env w1 ⟨x1,H,rfl,h1⟩
 rcases k1 with _ | k1
 ·exact z0 H
 rw [Q14.l0] at H
 refine T8 (Za [0,6,7,8] ?_)
 refine T8 (jIf H (fun c1 H=>?_) fun c1 H=>?_)
 ·refine T9 (T8 (T0 (T8 (Za [0,3,6,7] ?_))))
  refine T8 (jH h1 fun h2=>?_)
  refine Zr [0,1,5,6,7] ?_
  obtain ⟨⟨p1,p2⟩,H⟩:=Zh H
  have e1:=Zy h2.wh (Zg 0) p1 p2
  refine Zb 2 rfl (Zc e1 p1 p2) ?_
  refine Zr [3] ?_
  refine Zb 4 rfl (Zd 0 wI (Zg 0) p1 p2) ?_
  obtain ⟨⟨p3,p4⟩,H⟩:=Zh H
  refine Zb 8 rfl (Zc e1 p3 p4) ?_
  refine Zr [9] ?_
  refine Zb 10 rfl (Zd 0 wI (Zg 0) p3 p4) ?_
  refine cSJ 11 rfl H [] h2 rfl Q68.spec Zm 0 fun r1 w2 H h3=>?_
  refine hRF [12] [0,6,7,22] ?_
  refine jIf H (fun c2 H=>?_) fun c2 H=>?_
  ·refine T8 (Za [2] ?_)
   cases H
   exact T7 (jR0 h3 [])
  refine T9 (Za [0,6,7] ?_)
  have h4:=(sOR h3 [] [0])
  exact ⟨k1,by omega,_,H,rfl,h4⟩
 refine T3 (T8 (Za [2] ?_))
 cases H
 exact T7 (jR0 h1 [])

def Q76.f (a0:TB) (a1:Tq) (a2:TA):Option (Bool):=(Q72.f a1 a0.1).bind fun r1=>(if (!r1)=true then (some true) else ((Q70.f a2 a0.1).bind fun r2=>(if (!r2)=true then (some true) else (if (decide (a1.2.2.2.2.2.2.2<(a0.2.2.length:Int)))=true then (some true) else (if a0.2.1=true then (some (!decide (a0.2.2=[]))) else (some false))))))
theorem Q76.spec {a0 a1 a2 b1 b2 r} (H:Q76.f a0 a1 a2=some r) :
  Spec prog 155 [.agg #[.string ⟨⟨a0.1⟩⟩,.bool a0.2.1,.string ⟨⟨a0.2.2⟩⟩],.pointer (some ⟨b1,0,none⟩),.pointer (some ⟨b2,0,none⟩)] [X23 b1 a1.1 a1.2.1 a1.2.2.1 a1.2.2.2.1 a1.2.2.2.2.1 a1.2.2.2.2.2.1 a1.2.2.2.2.2.2.1 a1.2.2.2.2.2.2.2,X30 b2 a2.1 a2.2.1 a2.2.2] [] (fun v l=>v=.bool r/\l=[X23 b1 a1.1 a1.2.1 a1.2.2.1 a1.2.2.2.1 a1.2.2.2.2.1 a1.2.2.2.2.2.1 a1.2.2.2.2.2.2.1 a1.2.2.2.2.2.2.2,X30 b2 a2.1 a2.2.1 a2.2.2]):=by
 refine Zf Tryz.func155 fun w0 F0 h0=>?_
 unfold Q76.f at H
 refine T8 (T6 (rB (Z5 h0) fun b3 w1 h1=>?_))
 refine rFi [1,2,3] ?_
 refine T8 (T6 (rLo 1 h1 ?_))
 refine rRL 1 0 h1 ?_
 refine cS H [] h1 rfl Q72.spec Zm fun r1 w2 H h2=>?_
 refine Ze 2 ?_
 refine Z7 10 H (fun c1 H=>?_) fun c1 H=>?_
 ·refine rFi [4] ?_
  cases H
  exact T7 (jR0 h2 [1,1])
 refine rLo 2 h2 ?_
 refine rRL 1 0 h2 ?_
 refine cS H [] h2 rfl Q70.spec Zm fun r2 w3 H h3=>?_
 refine Ze 3 ?_
 refine Z7 17 H (fun c2 H=>?_) fun c2 H=>?_
 ·refine rFi [4] ?_
  cases H
  exact T7 (jR0 h3 [1,1])
 refine rRL 1 0 h3 ?_
 refine rRL 2 1 h3 ?_
 refine Ze 3 ?_
 refine Z7 25 H (fun c3 H=>?_) fun c3 H=>?_
 ·refine rFi [4] ?_
  cases H
  exact T7 (jR0 h3 [1,1])
 refine rRL 1 0 h3 ?_
 refine Ze 1 ?_
 refine Z7 28 H (fun c4 H=>?_) fun c4 H=>?_
 ·refine rRL 1 0 h3 ?_
  refine rFi [4] ?_
  cases H
  exact T7 (jR0 h3 [1,1])
 refine rFi [4] ?_
 cases H
 exact T7 (jR0 h3 [1,1])

def Q110.l0:Nat->Tu->Tq->TA->(Int)->Option (Int)
 | 0,_,_,_,_=>none
 | k+1,a0,a2,a3,x1=>if (decide (x1<(a0.length:Int)))=true then (if 0<=x1/\x1<(a0.length:Int) then ((Q76.f (gt a0 x1) a2 a3).bind fun r1=>(if r1=true then (some x1) else (Q110.l0 k a0 a2 a3 (w64 (x1+1))))) else none) else (some (-1))
def Q110.f (k:Nat) (a0:Tu) (a2:Tq) (a3:TA):Option (Int):=Q110.l0 k a0 a2 a3 0
theorem Q110.spec {k a0 a2 a3 A1 c_1 b1 b2 r} (H:Q110.f k a0 a2 a3=some r) :
  Spec prog 168 [.slice A1 a0.length c_1,.func (.func 155) #[] #[.pointer (some ⟨b1,0,none⟩),.pointer (some ⟨b2,0,none⟩)]] [X23 b1 a2.1 a2.2.1 a2.2.2.1 a2.2.2.2.1 a2.2.2.2.2.1 a2.2.2.2.2.2.1 a2.2.2.2.2.2.2.1 a2.2.2.2.2.2.2.2,X30 b2 a3.1 a3.2.1 a3.2.2] [R69 a0 A1 c_1] (fun v l=>v=.int .i64 r/\l=[X23 b1 a2.1 a2.2.1 a2.2.2.1 a2.2.2.2.1 a2.2.2.2.2.1 a2.2.2.2.2.2.1 a2.2.2.2.2.2.2.1 a2.2.2.2.2.2.2.2,X30 b2 a3.1 a3.2.1 a3.2.2]):=by
 refine Zf Tryz.func168 fun w0 F0 h0=>?_
 unfold Q110.f at H
 refine T8 (Za [0,1] ?_)
 refine T8 (T8 (Za [0,1,7,8] ?_))
 refine T0 ?_
 have h4:=(sOR h0 [0,0] [0])
 refine T4 (fun kk env w=>∃ x1,Q110.l0 kk a0 a2 a3 x1=some r/\env=[(0,.slice A1 a0.length c_1),(1,.func (.func 155) #[] #[.pointer (some ⟨b1,0,none⟩),.pointer (some ⟨b2,0,none⟩)]),(7,.int .i64 (a0.length:Int)),(8,.int .i64 x1)]/\St w0 F0 [X23 b1 a2.1 a2.2.1 a2.2.2.1 a2.2.2.2.1 a2.2.2.2.2.1 a2.2.2.2.2.2.1 a2.2.2.2.2.2.2.1 a2.2.2.2.2.2.2.2,X30 b2 a3.1 a3.2.1 a3.2.2] [R69 a0 A1 c_1] w) (k:=k) ⟨_,H,rfl,h4⟩ ?_
 rintro k1 env w1 ⟨x1,H,rfl,h1⟩
 rcases k1 with _ | k1
 ·exact z0 H
 rw [Q110.l0] at H
 refine T8 (Za [0,1,7,8,9] ?_)
 refine T8 (jIf H (fun c1 H=>?_) fun c1 H=>?_)
 ·refine T9 (T8 (T0 (T8 (Za [0,1,5,7,8] ?_))))
  refine T8 (T6 (Ze 3 ?_))
  obtain ⟨⟨p1,p2⟩,H⟩:=Zh H
  have e1:=Zy h1.wh (Zg 2) p1 p2
  refine Zj (Zc e1 p1 p2) ?_
  refine Zj (Zd 0 h1.wht (Zg 2) p1 p2) ?_
  obtain ⟨r1,q1,H⟩:=Yf H
  refine Zp (Gu [.agg #[.string ⟨⟨(gt a0 x1).1⟩⟩,.bool ((gt a0 x1).2.1),.string ⟨⟨(gt a0 x1).2.2⟩⟩]] [.pointer (some ⟨b1,0,none⟩),.pointer (some ⟨b2,0,none⟩)] [0,0] (Q76.spec q1) h1 rfl Zm) ?_
  rintro _ w2 ⟨_,⟨rfl,rfl⟩,h2⟩
  replace h2:=nf h2
  refine rFi [0,1,5,7,8,16] ?_
  refine jIf H (fun c2 H=>?_) fun c2 H=>?_
  ·refine T8 (Za [4] ?_)
   cases H
   exact T7 (jR0 h2 [0,0])
  refine T9 (Za [0,1,7,8] ?_)
  have h3:=(sOR h2 [0,0] [0])
  exact ⟨k1,by omega,_,H,rfl,h3⟩
 refine T3 (T8 (Za [4] ?_))
 cases H
 exact T7 (jR0 h1 [0,0])

def Q103.f (k:Nat) (a0:Tu) (a2:Tq) (a3:TA):Option (Bool):=(Q110.f k a0 a2 a3).bind fun r1=>(some (decide (0<=r1)))
theorem Q103.spec {k a0 a2 a3 A1 c_1 b1 b2 r} (H:Q103.f k a0 a2 a3=some r) :
  Spec prog 154 [.slice A1 a0.length c_1,.func (.func 155) #[] #[.pointer (some ⟨b1,0,none⟩),.pointer (some ⟨b2,0,none⟩)]] [X23 b1 a2.1 a2.2.1 a2.2.2.1 a2.2.2.2.1 a2.2.2.2.2.1 a2.2.2.2.2.2.1 a2.2.2.2.2.2.2.1 a2.2.2.2.2.2.2.2,X30 b2 a3.1 a3.2.1 a3.2.2] [R69 a0 A1 c_1] (fun v l=>v=.bool r/\l=[X23 b1 a2.1 a2.2.1 a2.2.2.1 a2.2.2.2.1 a2.2.2.2.2.1 a2.2.2.2.2.2.1 a2.2.2.2.2.2.2.1 a2.2.2.2.2.2.2.2,X30 b2 a3.1 a3.2.1 a3.2.2]):=by
 refine Zf Tryz.func154 fun w0 F0 h0=>?_
 unfold Q103.f at H
 refine T8 (Za [0,1] ?_)
 refine T8 (T6 (Ze 2 ?_))
 refine cS H [0,0] h0 rfl Q110.spec (gS [0]) fun r1 w1 H h1=>?_
 refine rFi [4] ?_
 cases H
 exact T7 (jR0 h1 [0,0])

def Q74.f (k:Nat) (a0:Tq) (a1:TA) (a2:Tn):Option (Bool):=if (decide (40<a2.1))=true then (some false) else (if (decide (0<(a2.2.2.2.2.length:Int)))=true then (some false) else ((Q77.f k a0 a2.2.1).bind fun r1=>(if (!r1)=true then (some false) else (if (!decide ((a2.2.2.1.length:Int)=(w64 ((a2.2.1.length:Int) - 1))))=true then (some false) else ((Q61.f k a2.2.2.1 a1).bind fun r2=>(if (!r2)=true then (some false) else ((Q107.f k a2.2.2.1 a0).bind fun r3=>(if r3=true then (some false) else (if (decide (a0.2.2.2.2.1<(a2.2.2.2.1.length:Int)))=true then (some false) else ((Q14.f k a2.2.2.2.1).bind fun r4=>(if (!r4)=true then (some false) else ((Q103.f k a2.2.2.2.1 a0 a1).bind fun r5=>(some (!r5))))))))))))))
theorem Q74.spec {k a0 a1 a2 A1 c_1 A2 c_2 A3 c_3 A4 c_4 r} (H:Q74.f k a0 a1 a2=some r) :
  Spec prog 120 [.agg #[.int .i64 a0.1,.int .i64 a0.2.1,.int .i64 a0.2.2.1,.int .i64 a0.2.2.2.1,.int .i64 a0.2.2.2.2.1,.int .i64 a0.2.2.2.2.2.1,.int .i64 a0.2.2.2.2.2.2.1,.int .i64 a0.2.2.2.2.2.2.2],.agg #[.string ⟨⟨a1.1⟩⟩,.string ⟨⟨a1.2.1⟩⟩,.bool a1.2.2],.agg #[.int .i64 a2.1,.slice A1 a2.2.1.length c_1,.slice A2 a2.2.2.1.length c_2,.slice A3 a2.2.2.2.1.length c_3,.slice A4 a2.2.2.2.2.length c_4]] [] [R32 a2.2.1 A1 c_1,R9 a2.2.2.1 A2 c_2,R69 a2.2.2.2.1 A3 c_3,R47 a2.2.2.2.2 A4 c_4] (fun v l=>v=.bool r/\l=[]):=by
 refine Zf Tryz.func120 fun w0 F0 h0=>?_
 unfold Q74.f at H
 refine T8 (T6 (rB (Z5 h0) fun b1 w1 h1=>?_))
 refine rB (Z5 h1) fun b2 w2 h2=>?_
 refine rB (Z5 h2) fun b3 w3 h3=>?_
 refine rFi [3,4,5] ?_
 refine T8 (T8 (T6 (rRL 1 0 h3 ?_)))
 refine Ze 2 ?_
 refine Z7 10 H (fun c1 H=>?_) fun c1 H=>?_
 ·refine rFi [3,4,5,39] ?_
  refine Zo ?_
  refine T8 (Za [6] ?_)
  have h4:=sO h3 []
  replace h4:=nf h4
  cases H
  exact T7 (jR0 h4 [])
 refine rRL 1 0 h3 ?_
 refine Ze 4 ?_
 refine Z7 16 H (fun c2 H=>?_) fun c2 H=>?_
 ·refine rFi [3,4,5,39] ?_
  refine Zo ?_
  refine T8 (Za [6] ?_)
  have h5:=sO h3 []
  replace h5:=nf h5
  cases H
  exact T7 (jR0 h5 [])
 refine rLo 2 h3 ?_
 refine rRL 1 0 h3 ?_
 refine cS H [] h3 rfl Q77.spec (gS [3]) fun r1 w4 H h6=>?_
 refine Ze 3 ?_
 refine Z7 23 H (fun c3 H=>?_) fun c3 H=>?_
 ·refine rFi [3,4,5,39] ?_
  refine Zo ?_
  refine T8 (Za [6] ?_)
  have h7:=sO h6 []
  replace h7:=nf h7
  cases H
  exact T7 (jR0 h7 [])
 refine rRL 1 0 h6 ?_
 refine rRL 2 0 h6 ?_
 refine Ze 5 ?_
 refine Z7 33 H (fun c4 H=>?_) fun c4 H=>?_
 ·refine rFi [3,4,5,39] ?_
  refine Zo ?_
  refine T8 (Za [6] ?_)
  have h8:=sO h6 []
  replace h8:=nf h8
  cases H
  exact T7 (jR0 h8 [])
 refine rRL 1 0 h6 ?_
 refine rLo 1 h6 ?_
 refine cS H [] h6 rfl Q61.spec (gS [4]) fun r2 w5 H h9=>?_
 refine rFi [3,4,5,39] ?_
 refine jIf H (fun c5 H=>?_) fun c5 H=>?_
 ·refine T8 (Za [6] ?_)
  have h10:=sO h9 []
  replace h10:=nf h10
  cases H
  exact T7 (jR0 h10 [])
 refine T9 (T8 (T8 (T6 (rRL 1 0 h9 ?_))))
 refine Ze 1 ?_
 refine cS H [2] h9 rfl Q107.spec (gS [3]) fun r3 w6 H h11=>?_
 refine Ze 1 ?_
 refine Z7 44 H (fun c6 H=>?_) fun c6 H=>?_
 ·refine rFi [3,4,5,57] ?_
  refine Zo ?_
  refine T8 (Za [6] ?_)
  have h12:=sO h11 []
  replace h12:=nf h12
  cases H
  exact T7 (jR0 h12 [])
 refine rRL 1 1 h11 ?_
 refine rRL 2 0 h11 ?_
 refine Ze 3 ?_
 refine Z7 52 H (fun c7 H=>?_) fun c7 H=>?_
 ·refine rFi [3,4,5,57] ?_
  refine Zo ?_
  refine T8 (Za [6] ?_)
  have h13:=sO h11 []
  replace h13:=nf h13
  cases H
  exact T7 (jR0 h13 [])
 refine rRL 1 1 h11 ?_
 refine cS H [] h11 rfl Q14.spec (gS [5]) fun r4 w7 H h14=>?_
 refine rFi [3,4,5,57] ?_
 refine jIf H (fun c8 H=>?_) fun c8 H=>?_
 ·refine T8 (Za [6] ?_)
  have h15:=sO h14 []
  replace h15:=nf h15
  cases H
  exact T7 (jR0 h15 [])
 refine T9 (T8 (T6 (rRL 1 1 h14 ?_)))
 refine Ze 1 ?_
 refine cS H [0,1] h14 rfl Q103.spec (gS [3]) fun r5 w8 H h16=>?_
 refine rFi [6] ?_
 have h17:=sO h16 []
 replace h17:=nf h17
 cases H
 exact T7 (jR0 h17 [])

def Q73.f (k:Nat) (a0:Tq) (a1:TA) (a2:Tn):Option (Bool):=if (decide (a2.1<0))=true then (some false) else (if (decide (a2.1=0))=true then ((Q78.f k a0 a1 a2).bind fun r1=>(some r1)) else ((Q74.f k a0 a1 a2).bind fun r2=>(some r2)))
theorem Q73.spec {k a0 a1 a2 A1 c_1 A2 c_2 A3 c_3 A4 c_4 r} (H:Q73.f k a0 a1 a2=some r) :
  Spec prog 71 [.agg #[.int .i64 a0.1,.int .i64 a0.2.1,.int .i64 a0.2.2.1,.int .i64 a0.2.2.2.1,.int .i64 a0.2.2.2.2.1,.int .i64 a0.2.2.2.2.2.1,.int .i64 a0.2.2.2.2.2.2.1,.int .i64 a0.2.2.2.2.2.2.2],.agg #[.string ⟨⟨a1.1⟩⟩,.string ⟨⟨a1.2.1⟩⟩,.bool a1.2.2],.agg #[.int .i64 a2.1,.slice A1 a2.2.1.length c_1,.slice A2 a2.2.2.1.length c_2,.slice A3 a2.2.2.2.1.length c_3,.slice A4 a2.2.2.2.2.length c_4]] [] [R32 a2.2.1 A1 c_1,R9 a2.2.2.1 A2 c_2,R69 a2.2.2.2.1 A3 c_3,R47 a2.2.2.2.2 A4 c_4] (fun v l=>v=.bool r/\l=[]):=by
 refine Zf Tryz.func71 fun w0 F0 h0=>?_
 unfold Q73.f at H
 refine T8 (T6 (rB (Z5 h0) fun b1 w1 h1=>?_))
 refine rB (Z5 h1) fun b2 w2 h2=>?_
 refine rB (Z5 h2) fun b3 w3 h3=>?_
 refine rFi [3,4,5] ?_
 refine T8 (T0 (T8 (T6 (rRL 1 0 h3 ?_))))
 refine rFi [3,4,5,7] ?_
 refine jIf H (fun c1 H=>?_) fun c1 H=>?_
 ·refine T8 (Za [6] ?_)
  have h4:=sO h3 []
  replace h4:=nf h4
  cases H
  exact T7 (jR0 h4 [])
 refine T8 (T6 (rRL 1 0 h3 ?_))
 refine rFi [3,4,5,11] ?_
 refine jIf H (fun c2 H=>?_) fun c2 H=>?_
 ·refine T8 (T6 (rLo 2 h3 ?_))
  refine rLo 1 h3 ?_
  refine rLo 0 h3 ?_
  refine cS H [] h3 rfl Q78.spec (gS [3,4,5,6]) fun r1 w4 H h5=>?_
  refine rFi [6] ?_
  have h6:=sO h5 []
  replace h6:=nf h6
  cases H
  exact T7 (jR0 h6 [])
 refine T9 (T8 (T6 (rLo 2 h3 ?_)))
 refine rLo 1 h3 ?_
 refine rLo 0 h3 ?_
 refine cS H [] h3 rfl Q74.spec (gS [3,4,5,6]) fun r2 w5 H h7=>?_
 refine rFi [6] ?_
 have h8:=sO h7 []
 replace h8:=nf h8
 cases H
 exact T7 (jR0 h8 [])

def Q100.f (a0:TW):Option TW:=if (([]:List Int).length+a0.length)*1<=140737488355328 then (some ([] ++ a0)) else none
theorem Q100.spec {a0 A1 c_1 r} (H:Q100.f a0=some r) :
  Spec prog 61 [.slice A1 a0.length c_1] [] [R5 a0 A1 c_1] (fun v l=>∃ A_0 c_0,v=.slice A_0 r.length c_0/\l=[O5 r A_0 c_0]):=by
 refine Zf Tryz.func61 fun w0 F0 h0=>?_
 unfold Q100.f at H
 refine T8 (Za [0] ?_)
 refine T8 (T8 (Za [0,4] ?_))
 refine Ge (fun c1=>?_) (fun c1=>?_)
 ·have e1:=h0.nilrow (Zg 0) (by simpa using c1)
  replace H:(some [])=some r:=by rw [e1] at H; simpa using H
  refine T8 (Za [2] ?_)
  have h1:=h0.addNil 5 (.int .u8)
  cases H
  exact T7 (jR ⟨_,_,rfl,rfl⟩ h1 [0])
 refine T9 (T8 (T6 (rB (Zx (.int .u8) [] h0) fun b1 w1 h2=>?_)))
 refine Ze 1 ?_
 obtain ⟨p1,H⟩:=Zh H
 refine Zp (Zs 0 h2 (Zg 0) p1) ?_
 rintro _ w2 ⟨A2,c_2,rfl,h3⟩
 replace h3:=nf h3
 refine rFi [2] ?_
 cases H
 exact T7 (jR ⟨_,_,rfl,rfl⟩ h3 [0])

def Q166.f (a0:Int):Option (Bool):=if (decide (a0=1))=true then (some true) else (if (decide (a0=2))=true then (some true) else (if (decide (a0=4))=true then (some true) else (some (decide (a0=8)))))
theorem Q166.spec {a0 r} (H:Q166.f a0=some r) :
  Spec prog 112 [.int .i64 a0] [] [] (fun v l=>v=.bool r/\l=[]):=by
 refine Zf Tryz.func112 fun w0 F0 h0=>?_
 unfold Q166.f at H
 refine T8 (Za [0] ?_)
 refine T8 (T6 (Ze 3 ?_))
 refine Z7 5 H (fun c1 H=>?_) fun c1 H=>?_
 ·refine rFi [2] ?_
  cases H
  exact T7 (jR0 h0 [])
 refine Ze 4 ?_
 refine Z7 9 H (fun c2 H=>?_) fun c2 H=>?_
 ·refine rFi [2] ?_
  cases H
  exact T7 (jR0 h0 [])
 refine Ze 4 ?_
 refine Z7 13 H (fun c3 H=>?_) fun c3 H=>?_
 ·refine rFi [2] ?_
  cases H
  exact T7 (jR0 h0 [])
 refine rFi [2] ?_
 cases H
 exact T7 (jR0 h0 [])

def Q157.l0:Nat->(Int)->TW->(Int)->Option TW
 | 0,_,_,_=>none
 | k+1,a2,x1,x2=>if (decide (0<=x2))=true then (if 0<=(w64 (8*x2)) then (if (x1.length+([(uA.wrap ((Int.fdiv a2 (2 ^ (min (w64 (8*x2)).toNat 64)))))]:List Int).length)*1<=140737488355328 then (Q157.l0 k a2 (x1 ++ [(uA.wrap ((Int.fdiv a2 (2 ^ (min (w64 (8*x2)).toNat 64)))))]) (w64 (x2 - 1))) else none) else none) else (some x1)
def Q157.f (k:Nat) (a0:TW) (a1:Int) (a2:Int):Option TW:=(Q100.f a0).bind fun r1=>((Q166.f a1).bind fun r2=>(if (!r2)=true then (some r1) else (Q157.l0 k a2 r1 (w64 (a1 - 1)))))
theorem Q157.spec {k a0 a1 a2 A1 c_1 r} (H:Q157.f k a0 a1 a2=some r) :
  Spec prog 156 [.slice A1 a0.length c_1,.int .i64 a1,.int .u64 a2] [] [R5 a0 A1 c_1] (fun v l=>∃ A_0 c_0,v=.slice A_0 r.length c_0/\l=[O5 r A_0 c_0]):=by
 refine Zf Tryz.func156 fun w0 F0 h0=>?_
 unfold Q157.f at H
 refine T8 (Za [0,1,2] ?_)
 refine T8 (T6 (Ze 1 ?_))
 refine cE H [] h0 rfl Q100.spec (gS [0]) ?_
 rintro r1 w1 _ _ H ⟨A2,c_2,rfl,rfl⟩ h1
 replace h1:=nf h1
 refine rFi [1,2,7] ?_
 refine T8 (T8 (T6 (Ze 1 ?_)))
 refine cS H [] h1 rfl Q166.spec Zm fun r2 w2 H h2=>?_
 refine rFi [1,2,7,13] ?_
 refine jIf H (fun c1 H=>?_) fun c1 H=>?_
 ·refine T8 (Za [6] ?_)
  cases H
  exact T7 (jR ⟨_,_,rfl,rfl⟩ h2 [0])
 refine T9 (T8 (T8 (Za [2,7,8] ?_)))
 refine T0 ?_
 have h7:=(sOR h2 [0] [])
 refine T4 (fun kk env w=>∃ x1 A3 c_3 x2,Q157.l0 kk a2 x1 x2=some r/\env=[(2,.int .u64 a2),(7,.slice A3 x1.length c_3),(8,.int .i64 x2)]/\St w0 F0 [O5 x1 A3 c_3] [] w) (k:=k) ⟨_,_,_,_,H,rfl,h7⟩ ?_
 rintro k1 env w3 ⟨x1,A3,c_3,x2,H,rfl,h3⟩
 rcases k1 with _ | k1
 ·exact z0 H
 rw [Q157.l0] at H
 refine T8 (T8 (Za [2,7,8,18] ?_))
 refine jIf H (fun c2 H=>?_) fun c2 H=>?_
 ·refine T9 (T8 (T0 (T6 (Ze 4 ?_))))
  obtain ⟨p1,H⟩:=Zh H
  refine Zj (Zgx p1) ?_
  refine Ze 1 ?_
  refine rB (Zx (.int .u8) [(uA.wrap ((Int.fdiv a2 (2 ^ (min (w64 (8*x2)).toNat 64)))))] h3) fun b1 w4 h4=>?_
  obtain ⟨p2,H⟩:=Zh H
  refine Zp (Zs 1 h4 (gO 0) p2) ?_
  rintro _ w5 ⟨A4,c_4,rfl,h5⟩
  replace h5:=nf h5
  refine rFi [2,7,8] ?_
  refine Za [2,7,8] ?_
  have h6:=(sOR h5 [0] [])
  exact ⟨k1,by omega,_,_,_,_,H,rfl,h6⟩
 refine T3 (T8 (Za [6] ?_))
 cases H
 exact T7 (jR ⟨_,_,rfl,rfl⟩ h3 [0])

def Q41.f (k:Nat) (a0:TW) (a1:Int) (a2:Int):Option TW:=(Q157.f k [] a1 a2).bind fun r1=>(if (a0.length+r1.length)*1<=140737488355328 then (some (a0 ++ r1)) else none)
theorem Q41.spec {k a0 a1 a2 A1 c_1 r} (H:Q41.f k a0 a1 a2=some r) :
  Spec prog 123 [.slice A1 a0.length c_1,.int .i64 a1,.int .u64 a2] [O5 a0 A1 c_1] [] (fun v l=>∃ A_0 c_0,v=.slice A_0 r.length c_0/\l=[O5 r A_0 c_0]):=by
 refine Zf Tryz.func123 fun w0 F0 h0=>?_
 unfold Q41.f at H
 refine T8 (Za [0,1,2] ?_)
 refine T8 (T6 (Ze 3 ?_))
 have h1:=h0.addNil 5 (.int .u8)
 have h2:=h1.freeze (k:=0) rfl Ye
 refine cE H [] h2 rfl Q157.spec (gS [1]) ?_
 rintro r1 w1 _ _ H ⟨A2,c_2,rfl,rfl⟩ h3
 replace h3:=nf h3
 obtain ⟨p1,H⟩:=Zh H
 refine Zp (Zs 1 h3 (gO 0) p1) ?_
 rintro _ w2 ⟨A3,c_3,rfl,h4⟩
 replace h4:=nf h4
 refine rFi [6] ?_
 cases H
 exact T7 (jR ⟨_,_,rfl,rfl⟩ h4 [0])

def Q40.f (k:Nat) (a0:Int) (a1:Int) (a2:Int) (a3:Int):Option TW:=(Q41.f k [] 1 (uH.wrap (a0))).bind fun r1=>((Q41.f k r1 1 (uH.wrap (a1))).bind fun r2=>((Q41.f k r2 2 (uH.wrap (a2))).bind fun r3=>((Q41.f k r3 2 (uH.wrap (a3))).bind fun r4=>((Q41.f k r4 2 0).bind fun r5=>(some r5)))))
theorem Q40.spec {k a0 a1 a2 a3 r} (H:Q40.f k a0 a1 a2 a3=some r) :
  Spec prog 121 [.int .i64 a0,.int .i64 a1,.int .i64 a2,.int .i64 a3] [] [] (fun v l=>∃ A_0 c_0,v=.slice A_0 r.length c_0/\l=[O5 r A_0 c_0]):=by
 refine Zf Tryz.func121 fun w0 F0 h0=>?_
 unfold Q40.f at H
 refine T8 (Za [0,1,2,3] ?_)
 refine T8 (T6 (Ze 2 ?_))
 have h1:=h0.addNil 5 (.int .u8)
 refine cE H [0] h1 rfl Q41.spec Zm ?_
 rintro r1 w1 _ _ H ⟨A1,c_1,rfl,rfl⟩ h2
 replace h2:=nf h2
 refine rFi [1,2,3,9] ?_
 refine T8 (T6 (Ze 3 ?_))
 refine cE H [0] h2 rfl Q41.spec Zm ?_
 rintro r2 w2 _ _ H ⟨A2,c_2,rfl,rfl⟩ h3
 replace h3:=nf h3
 refine rFi [2,3,9] ?_
 refine T8 (T6 (Ze 3 ?_))
 refine cE H [0] h3 rfl Q41.spec Zm ?_
 rintro r3 w3 _ _ H ⟨A3,c_3,rfl,rfl⟩ h4
 replace h4:=nf h4
 refine rFi [3,9] ?_
 refine T8 (T6 (Ze 3 ?_))
 refine cE H [0] h4 rfl Q41.spec Zm ?_
 rintro r4 w4 _ _ H ⟨A4,c_4,rfl,rfl⟩ h5
 replace h5:=nf h5
 refine rFi [9] ?_
 refine T8 (T6 (Ze 1 ?_))
 refine cE H [0] h5 rfl Q41.spec Zm ?_
 rintro r5 w5 _ _ H ⟨A5,c_5,rfl,rfl⟩ h6
 replace h6:=nf h6
 refine rFi [8] ?_
 cases H
 exact T7 (jR ⟨_,_,rfl,rfl⟩ h6 [0])

def Q46.f (a0:TW) (a1:TR) (a2:Int):Option TW:=if a0.length+a1.length<=140737488355328 then (if 0<=(w64 (a2 - (a1.length:Int)))/\(((a0 ++ toB a1).length:Int)+(w64 (a2 - (a1.length:Int))))*1<=140737488355328 then (some ((a0 ++ toB a1) ++ List.replicate (w64 (a2 - (a1.length:Int))).toNat 0)) else none) else none
theorem Q46.spec {a0 a1 a2 A1 c_1 r} (H:Q46.f a0 a1 a2=some r) :
  Spec prog 124 [.slice A1 a0.length c_1,.string ⟨⟨a1⟩⟩,.int .i64 a2] [O5 a0 A1 c_1] [] (fun v l=>∃ A_0 c_0,v=.slice A_0 r.length c_0/\l=[O5 r A_0 c_0]):=by
 refine Zf Tryz.func124 fun w0 F0 h0=>?_
 unfold Q46.f at H
 refine T8 (Za [0,1,2] ?_)
 refine T8 (T6 (Ze 2 ?_))
 obtain ⟨p1,H⟩:=Zh H
 refine Zp (Zc1 0 h0 p1) ?_
 rintro _ w1 ⟨A2,c_2,rfl,h1⟩
 replace h1:=nf h1
 refine Ze 4 ?_
 obtain ⟨⟨p2,p3⟩,H⟩:=Zh H
 refine Zp (Je Z3 (ty:=(.int .u8)) rfl 0 0 rfl h1 rfl rfl rfl rfl rfl rfl rfl rfl (by decide) (by decide) p2 p3) ?_
 rintro _ w2 ⟨A3,c_3,rfl,h2⟩
 replace h2:=nf h2
 refine rFi [6] ?_
 cases H
 exact T7 (jR ⟨_,_,rfl,rfl⟩ h2 [0])

def Q42.f (k:Nat) (a0:Tq) (a1:TW) (a2:TR) (a3:TR):Option TW:=(Q41.f k a1 1 (uH.wrap ((a2.length:Int)))).bind fun r1=>((Q41.f k r1 2 (uH.wrap ((a3.length:Int)))).bind fun r2=>((Q46.f r2 a2 a0.2.2.2.2.2.2.1).bind fun r3=>((Q46.f r3 a3 a0.2.2.2.2.2.2.2).bind fun r4=>(some r4))))
theorem Q42.spec {k a0 a1 a2 a3 A1 c_1 r} (H:Q42.f k a0 a1 a2 a3=some r) :
  Spec prog 122 [.agg #[.int .i64 a0.1,.int .i64 a0.2.1,.int .i64 a0.2.2.1,.int .i64 a0.2.2.2.1,.int .i64 a0.2.2.2.2.1,.int .i64 a0.2.2.2.2.2.1,.int .i64 a0.2.2.2.2.2.2.1,.int .i64 a0.2.2.2.2.2.2.2],.slice A1 a1.length c_1,.string ⟨⟨a2⟩⟩,.string ⟨⟨a3⟩⟩] [O5 a1 A1 c_1] [] (fun v l=>∃ A_0 c_0,v=.slice A_0 r.length c_0/\l=[O5 r A_0 c_0]):=by
 refine Zf Tryz.func122 fun w0 F0 h0=>?_
 unfold Q42.f at H
 refine T8 (T6 (rB (Z5 h0) fun b1 w1 h1=>?_))
 refine rFi [1,2,3,4] ?_
 refine T8 (T6 (Ze 4 ?_))
 refine cE H [1] h1 rfl Q41.spec Zm ?_
 rintro r1 w2 _ _ H ⟨A2,c_2,rfl,rfl⟩ h2
 replace h2:=nf h2
 refine rFi [1,2,3,4] ?_
 refine T8 (T6 (Ze 4 ?_))
 refine cE H [0] h2 rfl Q41.spec Zm ?_
 rintro r2 w3 _ _ H ⟨A3,c_3,rfl,rfl⟩ h3
 replace h3:=nf h3
 refine rFi [1,2,3,4] ?_
 refine T8 (Zv (sO h3 [1]) ?_)
 have h4:=h3.drew
 refine Zr [0,1,2,5,6] ?_
 refine Zb 3 rfl (Zi 0 wI) ?_
 refine Zb 7 rfl (Zi 0 wI) ?_
 refine cEJ 4 rfl H [0] h4 rfl Q46.spec Zm ?_
 rintro r3 w4 _ _ H ⟨A4,c_4,rfl,rfl⟩ h5
 replace h5:=nf h5
 refine ⟨⟨[_],h5⟩,?_⟩
 refine cEJ 8 rfl H [0] h5 rfl Q46.spec Zm ?_
 rintro r4 w5 _ _ H ⟨A5,c_5,rfl,rfl⟩ h6
 replace h6:=nf h6
 refine ⟨⟨[_],h6⟩,?_⟩
 refine hRF [9] [8] ?_
 cases H
 exact T7 (jR ⟨_,_,rfl,rfl⟩ h6 [0])

def Q47.l2:Nat->Tq->Tn->TW->(Int)->Option TW
 | 0,_,_,_,_=>none
 | k+1,a0,a1,x5,x6=>if (decide (x6<(a1.2.2.2.1.length:Int)))=true then (if 0<=x6/\x6<(a1.2.2.2.1.length:Int) then (if (gt a1.2.2.2.1 x6).2.1=true then ((Q41.f k x5 1 2).bind fun r8=>((Q42.f k a0 r8 ((gt a1.2.2.2.1 x6).1) ((gt a1.2.2.2.1 x6).2.2)).bind fun r9=>(Q47.l2 k a0 a1 r9 (w64 (x6+1))))) else ((Q41.f k x5 1 1).bind fun r10=>((Q42.f k a0 r10 ((gt a1.2.2.2.1 x6).1) ((gt a1.2.2.2.1 x6).2.2)).bind fun r11=>(Q47.l2 k a0 a1 r11 (w64 (x6+1)))))) else none) else (some x5)
def Q47.l1:Nat->Tq->Tn->TW->(Int)->Option TW
 | 0,_,_,_,_=>none
 | k+1,a0,a1,x3,x4=>if (decide (x4<(w64 (a0.2.2.2.1 - 1))))=true then (if (decide (x4<(a1.2.2.1.length:Int)))=true then (if 0<=x4/\x4<(a1.2.2.1.length:Int) then ((Q41.f k x3 1 (uH.wrap (((gt a1.2.2.1 x4).length:Int)))).bind fun r4=>((Q46.f r4 (gt a1.2.2.1 x4) a0.2.2.2.2.2.2.1).bind fun r5=>(Q47.l1 k a0 a1 r5 (w64 (x4+1))))) else none) else ((Q41.f k x3 1 (uH.wrap ((([]:List UInt8).length:Int)))).bind fun r6=>((Q46.f r6 [] a0.2.2.2.2.2.2.1).bind fun r7=>(Q47.l1 k a0 a1 r7 (w64 (x4+1)))))) else (Q47.l2 k a0 a1 x3 0)
def Q47.l0:Nat->Tq->Tn->TW->(Int)->Option TW
 | 0,_,_,_,_=>none
 | k+1,a0,a1,x1,x2=>if (decide (x2<a0.2.2.2.1))=true then (if (decide (x2<(a1.2.1.length:Int)))=true then (if 0<=x2/\x2<(a1.2.1.length:Int) then ((Q41.f k x1 4 (uH.wrap ((gt a1.2.1 x2)))).bind fun r2=>(Q47.l0 k a0 a1 r2 (w64 (x2+1)))) else none) else ((Q41.f k x1 4 0).bind fun r3=>(Q47.l0 k a0 a1 r3 (w64 (x2+1))))) else (Q47.l1 k a0 a1 x1 0)
def Q47.f (k:Nat) (a0:Tq) (a1:Tn):Option TW:=(Q40.f k 2 a1.1 (a1.2.1.length:Int) (a1.2.2.2.1.length:Int)).bind fun r1=>(Q47.l0 k a0 a1 r1 0)
theorem Q47.spec {k a0 a1 A1 c_1 A2 c_2 A3 c_3 A4 c_4 r} (H:Q47.f k a0 a1=some r) :
  Spec prog 74 [.agg #[.int .i64 a0.1,.int .i64 a0.2.1,.int .i64 a0.2.2.1,.int .i64 a0.2.2.2.1,.int .i64 a0.2.2.2.2.1,.int .i64 a0.2.2.2.2.2.1,.int .i64 a0.2.2.2.2.2.2.1,.int .i64 a0.2.2.2.2.2.2.2],.agg #[.int .i64 a1.1,.slice A1 a1.2.1.length c_1,.slice A2 a1.2.2.1.length c_2,.slice A3 a1.2.2.2.1.length c_3,.slice A4 a1.2.2.2.2.length c_4]] [] [R32 a1.2.1 A1 c_1,R9 a1.2.2.1 A2 c_2,R69 a1.2.2.2.1 A3 c_3,R47 a1.2.2.2.2 A4 c_4] (fun v l=>∃ A_0 c_0,v=.slice A_0 r.length c_0/\l=[O5 r A_0 c_0]):=by
 refine Zf Tryz.func74 fun w0 F0 h0=>?_
 unfold Q47.f at H
 refine T8 (T6 (rB (Z5 h0) fun b1 w1 h1=>?_))
 refine rB (Z5 h1) fun b2 w2 h2=>?_
 refine rFi [2,3] ?_
 refine T8 (T6 (rRL 1 0 h2 ?_))
 refine rRL 1 0 h2 ?_
 refine rRL 2 0 h2 ?_
 refine Ze 1 ?_
 refine cE H [] h2 rfl Q40.spec Zm ?_
 rintro r1 w3 _ _ H ⟨A5,c_5,rfl,rfl⟩ h3
 replace h3:=nf h3
 refine rFi [2,3,5] ?_
 refine T8 (T8 (T6 (rRL 1 2 h3 ?_)))
 refine rFi [2,3,5,23,24] ?_
 refine T0 ?_
 have h31:=(sOR h3 [2,1,0] [0,1,2,3])
 refine T4 (fun kk env w=>∃ x1 A6 c_6 x2,Q47.l0 kk a0 a1 x1 x2=some r/\env=[(2,.pointer (some ⟨b1,0,none⟩)),(3,.pointer (some ⟨b2,0,none⟩)),(5,.slice A6 x1.length c_6),(23,.int .i64 a0.2.2.2.1),(24,.int .i64 x2)]/\St w0 F0 [X23 b1 a0.1 a0.2.1 a0.2.2.1 a0.2.2.2.1 a0.2.2.2.2.1 a0.2.2.2.2.2.1 a0.2.2.2.2.2.2.1 a0.2.2.2.2.2.2.2,X55 b2 a1.1 a1.2.1 A1 c_1 a1.2.2.1 A2 c_2 a1.2.2.2.1 A3 c_3 a1.2.2.2.2 A4 c_4,O5 x1 A6 c_6] [R32 a1.2.1 A1 c_1,R9 a1.2.2.1 A2 c_2,R69 a1.2.2.2.1 A3 c_3,R47 a1.2.2.2.2 A4 c_4] w) (k:=k) ⟨_,_,_,_,H,rfl,h31⟩ ?_
 rintro k1 env w4 ⟨x1,A6,c_6,x2,H,rfl,h4⟩
 rcases k1 with _ | k1
 ·exact z0 H
 rw [Q47.l0] at H
 refine T8 (Za [2,3,5,23,24,25] ?_)
 refine T8 (jIf H (fun c1 H=>?_) fun c1 H=>?_)
 ·refine T9 (T8 (T0 (T8 (Za [2,3,5,6,23,24] ?_))))
  refine T8 (Za [2,3,5,6,7,23,24] ?_)
  refine T8 (T8 (T6 (rRL 2 1 h4 ?_)))
  refine rFi [2,3,5,6,7,23,24,31] ?_
  refine jIf H (fun c2 H=>?_) fun c2 H=>?_
  ·refine T6 (rRL 1 1 h4 ?_)
   refine Ze 1 ?_
   obtain ⟨⟨p1,p2⟩,H⟩:=Zh H
   have e1:=Zy h4.wh (Zg 3) p1 p2
   refine Zj (Zc e1 p1 p2) ?_
   refine Zj (Zd 0 h4.wht (Zg 3) p1 p2) ?_
   refine rFi [2,3,5,7,23,24] ?_
   refine T6 (Ze 3 ?_)
   refine cE H [2] h4 rfl Q41.spec Zm ?_
   rintro r2 w5 _ _ H ⟨A7,c_7,rfl,rfl⟩ h5
   replace h5:=nf h5
   refine rFi [2,3,5,23,24] ?_
   refine Za [2,3,5,23,24] ?_
   have h6:=(sOR h5 [1,1,0] [0,1,2,3])
   exact ⟨k1,by omega,_,_,_,_,H,rfl,h6⟩
  refine T9 (T6 (Ze 3 ?_))
  refine cE H [2] h4 rfl Q41.spec Zm ?_
  rintro r3 w6 _ _ H ⟨A8,c_8,rfl,rfl⟩ h7
  replace h7:=nf h7
  refine rFi [2,3,5,23,24] ?_
  refine Za [2,3,5,23,24] ?_
  have h8:=(sOR h7 [1,1,0] [0,1,2,3])
  exact ⟨k1,by omega,_,_,_,_,H,rfl,h8⟩
 refine T3 (T8 (T8 (T6 (rRL 1 0 h4 ?_))))
 refine rFi [2,3,5,44,45] ?_
 refine T0 ?_
 have h30:=(sOR h4 [0,0,0] [0,1,2,3])
 refine T4 (fun kk env w=>∃ x3 A9 c_9 x4,Q47.l1 kk a0 a1 x3 x4=some r/\env=[(2,.pointer (some ⟨b1,0,none⟩)),(3,.pointer (some ⟨b2,0,none⟩)),(5,.slice A9 x3.length c_9),(44,.int .i64 (w64 (a0.2.2.2.1 - 1))),(45,.int .i64 x4)]/\St w0 F0 [X23 b1 a0.1 a0.2.1 a0.2.2.1 a0.2.2.2.1 a0.2.2.2.2.1 a0.2.2.2.2.2.1 a0.2.2.2.2.2.2.1 a0.2.2.2.2.2.2.2,X55 b2 a1.1 a1.2.1 A1 c_1 a1.2.2.1 A2 c_2 a1.2.2.2.1 A3 c_3 a1.2.2.2.2 A4 c_4,O5 x3 A9 c_9] [R32 a1.2.1 A1 c_1,R9 a1.2.2.1 A2 c_2,R69 a1.2.2.2.1 A3 c_3,R47 a1.2.2.2.2 A4 c_4] w) (k:=k1) ⟨_,_,_,_,H,rfl,h30⟩ ?_
 rintro k2 env w7 ⟨x3,A9,c_9,x4,H,rfl,h9⟩
 rcases k2 with _ | k2
 ·exact z0 H
 rw [Q47.l1] at H
 refine T8 (Za [2,3,5,44,45,46] ?_)
 refine T8 (jIf H (fun c3 H=>?_) fun c3 H=>?_)
 ·refine T9 (T8 (T0 (T8 (Za [2,3,5,8,44,45] ?_))))
  refine T8 (Za [2,3,5,8,9,44,45] ?_)
  refine T8 (T8 (T6 (rRL 2 1 h9 ?_)))
  refine rFi [2,3,5,8,9,44,45,52] ?_
  refine jIf H (fun c4 H=>?_) fun c4 H=>?_
  ·refine T6 (rRL 1 1 h9 ?_)
   refine Ze 1 ?_
   obtain ⟨⟨p3,p4⟩,H⟩:=Zh H
   have e2:=Zy h9.wh (Zg 4) p3 p4
   refine Zj (Zc e2 p3 p4) ?_
   refine Zj (Zd 0 h9.wht (Zg 4) p3 p4) ?_
   refine rFi [2,3,5,9,44,45] ?_
   refine Zv (sO h9 [0,0]) ?_
   have h10:=h9.drew
   refine Zr [0,1,2,3,5,6] ?_
   refine Zb 7 rfl (Zi 0 wI) ?_
   refine cEJ 4 rfl H [2] h10 rfl Q41.spec Zm ?_
   rintro r4 w8 _ _ H ⟨A10,c_10,rfl,rfl⟩ h11
   replace h11:=nf h11
   refine ⟨⟨[_],h11⟩,?_⟩
   refine cEJ 8 rfl H [0] h11 rfl Q46.spec Zm ?_
   rintro r5 w9 _ _ H ⟨A11,c_11,rfl,rfl⟩ h12
   replace h12:=nf h12
   refine ⟨⟨[_],h12⟩,?_⟩
   refine hRF [9] [2,3,5,44,45] ?_
   refine Za [2,3,5,44,45] ?_
   have h13:=(sOR h12 [1,1,0] [0,1,2,3])
   exact ⟨k2,by omega,_,_,_,_,H,rfl,h13⟩
  refine T9 (Zv (sO h9 [0,0]) ?_)
  have h14:=h9.drew
  refine Zr [0,1,2,3,5,6] ?_
  refine Zb 7 rfl (Zi 0 wI) ?_
  refine cEJ 4 rfl H [2] h14 rfl Q41.spec Zm ?_
  rintro r6 w10 _ _ H ⟨A12,c_12,rfl,rfl⟩ h15
  replace h15:=nf h15
  refine ⟨⟨[_],h15⟩,?_⟩
  refine cEJ 8 rfl H [0] h15 rfl Q46.spec Zm ?_
  rintro r7 w11 _ _ H ⟨A13,c_13,rfl,rfl⟩ h16
  replace h16:=nf h16
  refine ⟨⟨[_],h16⟩,?_⟩
  refine hRF [9] [2,3,5,44,45] ?_
  refine Za [2,3,5,44,45] ?_
  have h17:=(sOR h16 [1,1,0] [0,1,2,3])
  exact ⟨k2,by omega,_,_,_,_,H,rfl,h17⟩
 refine T3 (T8 (T8 (T6 (rRL 1 1 h9 ?_))))
 refine rFi [2,5,69,70,71] ?_
 refine T0 ?_
 have h29:=(sOR h9 [0,1] [2])
 refine T4 (fun kk env w=>∃ x5 A14 c_14 x6,Q47.l2 kk a0 a1 x5 x6=some r/\env=[(2,.pointer (some ⟨b1,0,none⟩)),(5,.slice A14 x5.length c_14),(69,.slice A3 a1.2.2.2.1.length c_3),(70,.int .i64 (a1.2.2.2.1.length:Int)),(71,.int .i64 x6)]/\St w0 F0 [X23 b1 a0.1 a0.2.1 a0.2.2.1 a0.2.2.2.1 a0.2.2.2.2.1 a0.2.2.2.2.2.1 a0.2.2.2.2.2.2.1 a0.2.2.2.2.2.2.2,O5 x5 A14 c_14] [R69 a1.2.2.2.1 A3 c_3] w) (k:=k2) ⟨_,_,_,_,H,rfl,h29⟩ ?_
 rintro k3 env w12 ⟨x5,A14,c_14,x6,H,rfl,h18⟩
 rcases k3 with _ | k3
 ·exact z0 H
 rw [Q47.l2] at H
 refine T8 (Za [2,5,69,70,71,72] ?_)
 refine T8 (jIf H (fun c5 H=>?_) fun c5 H=>?_)
 ·refine T9 (T8 (T0 (T8 (T6 ?_))))
  obtain ⟨⟨p5,p6⟩,H⟩:=Zh H
  have e3:=Zy h18.wh (Zg 2) p5 p6
  refine Zj (Zc e3 p5 p6) ?_
  refine Zj (Zd 0 h18.wht (Zg 2) p5 p6) ?_
  refine rB (Yp h18) fun b3 w13 h19=>?_
  refine rS (Zt 0 h19) fun _ w14 h20=>?_
  refine rFi [2,5,11,69,70,71] ?_
  refine T8 (Za [2,5,11,12,69,70,71] ?_)
  refine T8 (T8 (T6 (rRL 1 0 h20 ?_)))
  refine rFi [2,5,11,12,69,70,71,76] ?_
  refine jIf H (fun c6 H=>?_) fun c6 H=>?_
  ·refine Za [2,5,11,12,69,70,71] ?_
   refine Zv (sO h20 [0,0]) ?_
   have h21:=h20.drew
   refine Zr [1,2,4,6] ?_
   refine Zb 0 rfl (Zi 1 wI) ?_
   refine Zb 5 rfl (Zi 0 wI) ?_
   refine Zb 7 rfl (Zi 0 wI) ?_
   refine cEJ 3 rfl H [2] h21 rfl Q41.spec Zm ?_
   rintro r8 w15 _ _ H ⟨A15,c_15,rfl,rfl⟩ h22
   replace h22:=nf h22
   refine ⟨⟨[_],h22⟩,?_⟩
   refine cEJ 8 rfl H [0] h22 rfl Q42.spec Zm ?_
   rintro r9 w16 _ _ H ⟨A16,c_16,rfl,rfl⟩ h23
   replace h23:=nf h23
   refine ⟨⟨[_],h23⟩,?_⟩
   refine hRF [9] [2,5,69,70,71] ?_
   refine Za [2,5,69,70,71] ?_
   have h24:=(sOR h23 [2,0] [0])
   exact ⟨k3,by omega,_,_,_,_,H,rfl,h24⟩
  refine T9 (Zv (sO h20 [0,0]) ?_)
  have h25:=h20.drew
  refine Zr [1,2,4,6] ?_
  refine Zb 0 rfl (Zi 1 wI) ?_
  refine Zb 5 rfl (Zi 0 wI) ?_
  refine Zb 7 rfl (Zi 0 wI) ?_
  refine cEJ 3 rfl H [2] h25 rfl Q41.spec Zm ?_
  rintro r10 w17 _ _ H ⟨A17,c_17,rfl,rfl⟩ h26
  replace h26:=nf h26
  refine ⟨⟨[_],h26⟩,?_⟩
  refine cEJ 8 rfl H [0] h26 rfl Q42.spec Zm ?_
  rintro r11 w18 _ _ H ⟨A18,c_18,rfl,rfl⟩ h27
  replace h27:=nf h27
  refine ⟨⟨[_],h27⟩,?_⟩
  refine hRF [9] [2,5,69,70,71] ?_
  refine Za [2,5,69,70,71] ?_
  have h28:=(sOR h27 [2,0] [0])
  exact ⟨k3,by omega,_,_,_,_,H,rfl,h28⟩
 refine T3 (T8 (Za [4] ?_))
 cases H
 exact T7 (jR ⟨_,_,rfl,rfl⟩ h18 [1])

def Q48.l0:Nat->Tq->Tn->TW->(Int)->Option TW
 | 0,_,_,_,_=>none
 | k+1,a0,a1,x1,x2=>if (decide (x2<(a1.2.2.2.2.length:Int)))=true then (if 0<=x2/\x2<(a1.2.2.2.2.length:Int) then ((Q42.f k a0 x1 ((gt a1.2.2.2.2 x2).1) ((gt a1.2.2.2.2 x2).2)).bind fun r2=>(Q48.l0 k a0 a1 r2 (w64 (x2+1)))) else none) else (some x1)
def Q48.f (k:Nat) (a0:Tq) (a1:Tn):Option TW:=(Q40.f k 1 0 (a1.2.2.2.2.length:Int) 0).bind fun r1=>(Q48.l0 k a0 a1 r1 0)
theorem Q48.spec {k a0 a1 A1 c_1 A2 c_2 A3 c_3 A4 c_4 r} (H:Q48.f k a0 a1=some r) :
  Spec prog 73 [.agg #[.int .i64 a0.1,.int .i64 a0.2.1,.int .i64 a0.2.2.1,.int .i64 a0.2.2.2.1,.int .i64 a0.2.2.2.2.1,.int .i64 a0.2.2.2.2.2.1,.int .i64 a0.2.2.2.2.2.2.1,.int .i64 a0.2.2.2.2.2.2.2],.agg #[.int .i64 a1.1,.slice A1 a1.2.1.length c_1,.slice A2 a1.2.2.1.length c_2,.slice A3 a1.2.2.2.1.length c_3,.slice A4 a1.2.2.2.2.length c_4]] [] [R32 a1.2.1 A1 c_1,R9 a1.2.2.1 A2 c_2,R69 a1.2.2.2.1 A3 c_3,R47 a1.2.2.2.2 A4 c_4] (fun v l=>∃ A_0 c_0,v=.slice A_0 r.length c_0/\l=[O5 r A_0 c_0]):=by
 refine Zf Tryz.func73 fun w0 F0 h0=>?_
 unfold Q48.f at H
 refine T8 (T6 (rB (Z5 h0) fun b1 w1 h1=>?_))
 refine rB (Z5 h1) fun b2 w2 h2=>?_
 refine rFi [2,3] ?_
 refine T8 (T6 (rRL 1 0 h2 ?_))
 refine Ze 1 ?_
 refine cE H [] h2 rfl Q40.spec Zm ?_
 rintro r1 w3 _ _ H ⟨A5,c_5,rfl,rfl⟩ h3
 replace h3:=nf h3
 refine rFi [2,3,5] ?_
 refine T8 (T8 (T6 (rRL 1 1 h3 ?_)))
 refine rFi [2,5,13,14,15] ?_
 refine T0 ?_
 have h9:=(sOR h3 [2,0] [3])
 refine T4 (fun kk env w=>∃ x1 A6 c_6 x2,Q48.l0 kk a0 a1 x1 x2=some r/\env=[(2,.pointer (some ⟨b1,0,none⟩)),(5,.slice A6 x1.length c_6),(13,.slice A4 a1.2.2.2.2.length c_4),(14,.int .i64 (a1.2.2.2.2.length:Int)),(15,.int .i64 x2)]/\St w0 F0 [X23 b1 a0.1 a0.2.1 a0.2.2.1 a0.2.2.2.1 a0.2.2.2.2.1 a0.2.2.2.2.2.1 a0.2.2.2.2.2.2.1 a0.2.2.2.2.2.2.2,O5 x1 A6 c_6] [R47 a1.2.2.2.2 A4 c_4] w) (k:=k) ⟨_,_,_,_,H,rfl,h9⟩ ?_
 rintro k1 env w4 ⟨x1,A6,c_6,x2,H,rfl,h4⟩
 rcases k1 with _ | k1
 ·exact z0 H
 rw [Q48.l0] at H
 refine T8 (Za [2,5,13,14,15,16] ?_)
 refine T8 (jIf H (fun c1 H=>?_) fun c1 H=>?_)
 ·refine T9 (T8 (T0 (T8 (T6 ?_))))
  obtain ⟨⟨p1,p2⟩,H⟩:=Zh H
  have e1:=Zy h4.wh (Zg 2) p1 p2
  refine Zj (Zc e1 p1 p2) ?_
  refine Zj (Zd 0 h4.wht (Zg 2) p1 p2) ?_
  refine rB (Yp h4) fun b3 w5 h5=>?_
  refine rS (Zt 0 h5) fun _ w6 h6=>?_
  refine rFi [2,5,7,13,14,15] ?_
  refine T6 (rLo 1 h6 ?_)
  refine rRL 2 0 h6 ?_
  refine rRL 1 0 h6 ?_
  refine cE H [2] h6 rfl Q42.spec Zm ?_
  rintro r2 w7 _ _ H ⟨A7,c_7,rfl,rfl⟩ h7
  replace h7:=nf h7
  refine rFi [2,5,13,14,15] ?_
  refine Za [2,5,13,14,15] ?_
  have h8:=(sOR h7 [2,0] [0])
  exact ⟨k1,by omega,_,_,_,_,H,rfl,h8⟩
 refine T3 (T8 (Za [4] ?_))
 cases H
 exact T7 (jR ⟨_,_,rfl,rfl⟩ h4 [1])

def Q39.f (k:Nat) (a0:Tq) (a1:Tn):Option TQ:=(Q49.f a0).bind fun r1=>(if (!decide (r1=0))=true then (some ([],r1)) else ((Q67.f).bind fun r2=>((Q73.f k a0 r2 a1).bind fun r3=>(if (!r3)=true then (some ([],3)) else (if (decide (0<a1.1))=true then ((Q47.f k a0 a1).bind fun r4=>(if 0<=(w64 (a0.2.1 - (r4.length:Int)))/\((r4.length:Int)+(w64 (a0.2.1 - (r4.length:Int))))*1<=140737488355328 then (some ((r4 ++ List.replicate (w64 (a0.2.1 - (r4.length:Int))).toNat 0),0)) else none)) else ((Q48.f k a0 a1).bind fun r5=>(if 0<=(w64 (a0.2.1 - (r5.length:Int)))/\((r5.length:Int)+(w64 (a0.2.1 - (r5.length:Int))))*1<=140737488355328 then (some ((r5 ++ List.replicate (w64 (a0.2.1 - (r5.length:Int))).toNat 0),0)) else none)))))))
theorem Q39.spec {k a0 a1 A1 c_1 A2 c_2 A3 c_3 A4 c_4 r} (H:Q39.f k a0 a1=some r) :
  Spec prog 35 [.agg #[.int .i64 a0.1,.int .i64 a0.2.1,.int .i64 a0.2.2.1,.int .i64 a0.2.2.2.1,.int .i64 a0.2.2.2.2.1,.int .i64 a0.2.2.2.2.2.1,.int .i64 a0.2.2.2.2.2.2.1,.int .i64 a0.2.2.2.2.2.2.2],.agg #[.int .i64 a1.1,.slice A1 a1.2.1.length c_1,.slice A2 a1.2.2.1.length c_2,.slice A3 a1.2.2.2.1.length c_3,.slice A4 a1.2.2.2.2.length c_4]] [] [R32 a1.2.1 A1 c_1,R9 a1.2.2.1 A2 c_2,R69 a1.2.2.2.1 A3 c_3,R47 a1.2.2.2.2 A4 c_4] (fun v l=>∃ A_0 c_0,v=.tuple #[.slice A_0 r.1.length c_0,.int .i64 r.2]/\l=[O5 r.1 A_0 c_0]):=by
 refine Zf Tryz.func35 fun w0 F0 h0=>?_
 unfold Q39.f at H
 refine T8 (T6 (rB (Z5 h0) fun b1 w1 h1=>?_))
 refine rB (Z5 h1) fun b2 w2 h2=>?_
 refine rFi [2,3] ?_
 refine T8 (T8 (T6 (rLo 1 h2 ?_)))
 refine cS H [] h2 rfl Q49.spec Zm fun r1 w3 H h3=>?_
 refine rFi [2,3,6] ?_
 refine T8 (Za [2,3,6,12] ?_)
 refine jIf H (fun c1 H=>?_) fun c1 H=>?_
 ·refine T8 (Za [4,5] ?_)
  have h4:=sO h3 []
  replace h4:=nf h4
  have h5:=h4.addNil 5 (.int .u8)
  cases H
  exact T7 (jR ⟨_,_,rfl,rfl⟩ h5 [0])
 refine T9 (T8 (T8 (jH h3 fun h6=>?_)))
 refine Zb 0 rfl (Zi 1 wI) ?_
 refine Zb 2 rfl (Zi 0 wI) ?_
 refine cSJ 1 rfl H [] h6 rfl Q67.spec Zm 0 fun r2 w4 H h7=>?_
 refine cSJ 3 rfl H [] h7 rfl Q73.spec (gS [2,3,4,5]) 0 fun r3 w5 H h8=>?_
 refine hRF [4] [2,3,18] ?_
 refine jIf H (fun c2 H=>?_) fun c2 H=>?_
 ·refine T8 (Za [4,5] ?_)
  have h9:=sO h8 []
  replace h9:=nf h9
  have h10:=h9.addNil 5 (.int .u8)
  cases H
  exact T7 (jR ⟨_,_,rfl,rfl⟩ h10 [0])
 refine T9 (T8 (Za [2,3,7] ?_))
 refine T8 (T8 (T6 (rRL 1 0 h8 ?_)))
 refine rFi [2,3,7,21] ?_
 refine jIf H (fun c3 H=>?_) fun c3 H=>?_
 ·refine Za [2,3,7] ?_
  refine T8 (T6 (rRL 1 1 h8 ?_))
  refine rLo 0 h8 ?_
  refine cE H [] h8 rfl Q47.spec (gS [2,3,4,5]) ?_
  rintro r4 w6 _ _ H ⟨A5,c_5,rfl,rfl⟩ h11
  replace h11:=nf h11
  refine rFi [2,8] ?_
  refine T8 (T6 (rRL 2 2 h11 ?_))
  refine Ze 3 ?_
  obtain ⟨⟨p1,p2⟩,H⟩:=Zh H
  refine Zp (Je Z3 (ty:=(.int .u8)) rfl 0 0 rfl h11 rfl rfl rfl rfl rfl rfl rfl rfl (by decide) (by decide) p1 p2) ?_
  rintro _ w7 ⟨A6,c_6,rfl,h12⟩
  replace h12:=nf h12
  refine rFi [4,5] ?_
  have h13:=sO h12 [0]
  replace h13:=nf h13
  cases H
  exact T7 (jR ⟨_,_,rfl,rfl⟩ h13 [0])
 refine T9 (T8 (T6 (rRL 1 1 h8 ?_)))
 refine rLo 0 h8 ?_
 refine cE H [] h8 rfl Q48.spec (gS [2,3,4,5]) ?_
 rintro r5 w8 _ _ H ⟨A7,c_7,rfl,rfl⟩ h14
 replace h14:=nf h14
 refine rFi [2,8] ?_
 refine T8 (T6 (rRL 2 2 h14 ?_))
 refine Ze 3 ?_
 obtain ⟨⟨p3,p4⟩,H⟩:=Zh H
 refine Zp (Je Z3 (ty:=(.int .u8)) rfl 0 0 rfl h14 rfl rfl rfl rfl rfl rfl rfl rfl (by decide) (by decide) p3 p4) ?_
 rintro _ w9 ⟨A8,c_8,rfl,h15⟩
 replace h15:=nf h15
 refine rFi [4,5] ?_
 have h16:=sO h15 [0]
 replace h16:=nf h16
 cases H
 exact T7 (jR ⟨_,_,rfl,rfl⟩ h16 [0])

def Q85.f (a0:TG):Option (Bool):=some false
theorem Q85.spec {a0 b1 b2 A1 c_1 r} (H:Q85.f a0=some r) :
  Spec prog 131 [.pointer (some ⟨b1,0,none⟩)] (B7 a0 b1 b2 A1 c_1) [] (fun v l=>v=.bool r/\l=B7 a0 b1 b2 A1 c_1):=by
 refine Zf Tryz.func131 fun w0 F0 h0=>?_
 replace h0:=nf h0
 unfold Q85.f at H
 refine T8 (Za [0] ?_)
 refine T8 (T6 (rRL 6 0 h0 ?_))
 refine rFi [2] ?_
 cases H
 exact T7 (jR0 h0 [0,0,0])

def Q4.f (a0:TJ):Option (Int):=some a0.2.1
theorem Q4.spec {a0 b1 A1 c_1 r} (H:Q4.f a0=some r) :
  Spec prog 170 [.pointer (some ⟨b1,0,none⟩)] (Vh a0 b1 A1 c_1) [] (fun v l=>v=.int .i64 r/\l=Vh a0 b1 A1 c_1):=by
 refine Zf Tryz.func170 fun w0 F0 h0=>?_
 replace h0:=nf h0
 unfold Q4.f at H
 refine T8 (Za [0] ?_)
 refine T8 (T8 (Za [0,4] ?_))
 refine Z1 ?_
 refine T9 (T8 (T6 (rRL 3 0 h0 ?_)))
 refine rFi [2] ?_
 cases H
 exact T7 (jR0 h0 [0,0])

def Q81.f (a0:TG):Option (Int):=(Q85.f a0).bind fun r1=>(if r1=true then (some 0) else ((Q7.f a0).bind fun r2=>((Q4.f a0).bind fun r3=>(some (w64 (r2 - r3))))))
theorem Q81.spec {a0 b1 b2 A1 c_1 r} (H:Q81.f a0=some r) :
  Spec prog 159 [.pointer (some ⟨b1,0,none⟩)] (B7 a0 b1 b2 A1 c_1) [] (fun v l=>v=.int .i64 r/\l=B7 a0 b1 b2 A1 c_1):=by
 refine Zf Tryz.func159 fun w0 F0 h0=>?_
 replace h0:=nf h0
 unfold Q81.f at H
 refine T8 (Za [0] ?_)
 refine T8 (T8 (T6 (Ze 1 ?_)))
 refine cS H [0,0,0] h0 rfl Q85.spec Zm fun r1 w1 H h1=>?_
 refine rFi [0,4] ?_
 refine jIf H (fun c1 H=>?_) fun c1 H=>?_
 ·refine T8 (Za [2] ?_)
  cases H
  exact T7 (jR0 h1 [0,0,0])
 refine T9 (T8 (jH h1 fun h2=>?_))
 refine Zr [0,1,2,5,6,7] ?_
 refine Zb 3 rfl (Zi 0 wI) ?_
 refine Zb 8 rfl (Zi 0 wI) ?_
 refine cEJ 4 rfl H [1,1] h2 rfl Q7.spec Zm ?_
 rintro r2 w2 _ _ H ⟨rfl,rfl⟩ h3
 replace h3:=nf h3
 refine ⟨⟨[],(sO h3 [2,0,0])⟩,?_⟩
 refine cEJ 9 rfl H [0,0] h3 rfl Q4.spec Zm ?_
 rintro r3 w3 _ _ H ⟨rfl,rfl⟩ h4
 replace h4:=nf h4
 refine ⟨⟨[],(sO h4 [2,0,0])⟩,?_⟩
 refine hRF [10,11] [2] ?_
 cases H
 exact T7 (jR0 h4 [2,0,0])

def Q9.l0:Nat->TJ->(Int)->(Int)->(Int)->Option TU
 | 0,_,_,_,_=>none
 | k+1,a0,a1,a2,x1=>if (decide (x1<(a0.2.2.length:Int)))=true then (if 0<=x1/\x1<(a0.2.2.length:Int) then (if (decide (x1=(w64 (Int.tdiv (if a1>0 then a1 else 0) 64))))=true then (if 0<=(Int.tmod (if a1>0 then a1 else 0) 64) then (if (decide ((uH.wrap (((ofInt uH.bits (uH.wrap (((ofInt uH.bits (gt a0.2.2 x1) ^^^ (ofInt uH.bits a2)).toNat:Int))) &&& (ofInt uH.bits (uH.wrap ((18446744073709551615:Int)*2 ^ (min (Int.tmod (if a1>0 then a1 else 0) 64).toNat 64))))).toNat:Int)))=0))=true then (Q9.l0 k a0 a1 a2 (w64 (x1+1))) else (if 0<=(uH.wrap (((ofInt uH.bits (uH.wrap (((ofInt uH.bits (gt a0.2.2 x1) ^^^ (ofInt uH.bits a2)).toNat:Int))) &&& (ofInt uH.bits (uH.wrap ((18446744073709551615:Int)*2 ^ (min (Int.tmod (if a1>0 then a1 else 0) 64).toNat 64))))).toNat:Int)))/\(uH.wrap (((ofInt uH.bits (uH.wrap (((ofInt uH.bits (gt a0.2.2 x1) ^^^ (ofInt uH.bits a2)).toNat:Int))) &&& (ofInt uH.bits (uH.wrap ((18446744073709551615:Int)*2 ^ (min (Int.tmod (if a1>0 then a1 else 0) 64).toNat 64))))).toNat:Int)))<18446744073709551616 then (some ((w64 ((w64 (x1*64))+(tzI (uH.wrap (((ofInt uH.bits (uH.wrap (((ofInt uH.bits (gt a0.2.2 x1) ^^^ (ofInt uH.bits a2)).toNat:Int))) &&& (ofInt uH.bits (uH.wrap ((18446744073709551615:Int)*2 ^ (min (Int.tmod (if a1>0 then a1 else 0) 64).toNat 64))))).toNat:Int)))))),(decide ((w64 ((w64 (x1*64))+(tzI (uH.wrap (((ofInt uH.bits (uH.wrap (((ofInt uH.bits (gt a0.2.2 x1) ^^^ (ofInt uH.bits a2)).toNat:Int))) &&& (ofInt uH.bits (uH.wrap ((18446744073709551615:Int)*2 ^ (min (Int.tmod (if a1>0 then a1 else 0) 64).toNat 64))))).toNat:Int))))))<a0.1)))) else none)) else none) else (if (decide ((uH.wrap (((ofInt uH.bits (gt a0.2.2 x1) ^^^ (ofInt uH.bits a2)).toNat:Int)))=0))=true then (Q9.l0 k a0 a1 a2 (w64 (x1+1))) else (if 0<=(uH.wrap (((ofInt uH.bits (gt a0.2.2 x1) ^^^ (ofInt uH.bits a2)).toNat:Int)))/\(uH.wrap (((ofInt uH.bits (gt a0.2.2 x1) ^^^ (ofInt uH.bits a2)).toNat:Int)))<18446744073709551616 then (some ((w64 ((w64 (x1*64))+(tzI (uH.wrap (((ofInt uH.bits (gt a0.2.2 x1) ^^^ (ofInt uH.bits a2)).toNat:Int)))))),(decide ((w64 ((w64 (x1*64))+(tzI (uH.wrap (((ofInt uH.bits (gt a0.2.2 x1) ^^^ (ofInt uH.bits a2)).toNat:Int))))))<a0.1)))) else none))) else none) else (some (0,false))
def Q9.f (k:Nat) (a0:TJ) (a1:Int) (a2:Int):Option TU:=Q9.l0 k a0 a1 a2 (w64 (Int.tdiv (if a1>0 then a1 else 0) 64))
theorem Q9.spec {k a0 a1 a2 b1 A1 c_1 r} (H:Q9.f k a0 a1 a2=some r) :
  Spec prog 172 [.pointer (some ⟨b1,0,none⟩),.int .i64 a1,.int .u64 a2] (Vh a0 b1 A1 c_1) [tabC 1] (fun v l=>v=.tuple #[.int .i64 r.1,.bool r.2]/\l=Vh a0 b1 A1 c_1):=by
 refine Zf Tryz.func172 fun w0 F0 h0=>?_
 replace h0:=nf h0
 unfold Q9.f at H
 refine T8 (Za [0,1,2] ?_)
 refine T8 (Za [0,1,2] ?_)
 refine T8 (T8 (Za [0,1,2,8] ?_))
 refine T0 ?_
 have h8:=(sOR h0 [0,0] [0])
 refine T4 (fun kk env w=>∃ x1,Q9.l0 kk a0 a1 a2 x1=some r/\env=[(0,.pointer (some ⟨b1,0,none⟩)),(1,.int .i64 (if a1>0 then a1 else 0)),(2,.int .u64 a2),(8,.int .i64 x1)]/\St w0 F0 [X1 b1 a0.1 a0.2.1 a0.2.2 A1 c_1,O63 a0.2.2 A1 c_1] [tabC 1] w) (k:=k) ⟨_,H,rfl,h8⟩ ?_
 rintro k1 env w1 ⟨x1,H,rfl,h1⟩
 rcases k1 with _ | k1
 ·exact z0 H
 rw [Q9.l0] at H
 refine T8 (T8 (T6 (rRL 4 0 h1 ?_)))
 refine rFi [0,1,2,8,21] ?_
 refine jIf H (fun c1 H=>?_) fun c1 H=>?_
 ·refine T9 (T8 (T0 (T8 (T6 (rRL 3 0 h1 ?_)))))
  refine Ze 1 ?_
  obtain ⟨⟨p1,p2⟩,H⟩:=Zh H
  have e1:=Zy h1.wh (gO 1) p1 p2
  refine Zj (Zc e1 p1 p2) ?_
  refine Zj (Zd 0 h1.wht (gO 1) p1 p2) ?_
  refine rFi [0,1,2,8,9] ?_
  refine T8 (T8 (Za [0,1,2,8,9,36] ?_))
  refine jIf H (fun c2 H=>?_) fun c2 H=>?_
  ·refine T6 (Ze 3 ?_)
   obtain ⟨p3,H⟩:=Zh H
   refine Zj (Bo p3) ?_
   refine rFi [0,1,2,8,9] ?_
   refine T8 (T8 (Za [0,1,2,8,9,43] ?_))
   refine jIf H (fun c3 H=>?_) fun c3 H=>?_
   ·refine T3 (Za [0,1,2,8] ?_)
    have h2:=(sOR h1 [0,0] [0])
    exact ⟨k1,by omega,_,H,rfl,h2⟩
   refine T9 (T8 (T6 (Ze 3 ?_)))
   obtain ⟨⟨p4,p5⟩,H⟩:=Zh H
   refine Zp (Uv [] (tz64.spec p4 p5) h1 rfl (gS [2])) ?_
   rintro _ w2 ⟨_,⟨rfl,rfl⟩,h3⟩
   replace h3:=nf h3
   refine rFi [0,10] ?_
   refine T8 (jH h3 fun h4=>?_)
   refine Zr [0,1,2,3,4,7] ?_
   refine Zb 5 rfl (Zi 0 wI) ?_
   refine hRF [6,8] [6,7] ?_
   cases H
   exact T7 (jR0 h4 [0,0])
  refine T9 (T8 (T8 (Za [0,1,2,8,9,43] ?_)))
  refine jIf H (fun c4 H=>?_) fun c4 H=>?_
  ·refine T3 (Za [0,1,2,8] ?_)
   have h5:=(sOR h1 [0,0] [0])
   exact ⟨k1,by omega,_,H,rfl,h5⟩
  refine T9 (T8 (T6 (Ze 3 ?_)))
  obtain ⟨⟨p6,p7⟩,H⟩:=Zh H
  refine Zp (Uv [] (tz64.spec p6 p7) h1 rfl (gS [2])) ?_
  rintro _ w3 ⟨_,⟨rfl,rfl⟩,h6⟩
  replace h6:=nf h6
  refine rFi [0,10] ?_
  refine T8 (jH h6 fun h7=>?_)
  refine Zr [0,1,2,3,4,7] ?_
  refine Zb 5 rfl (Zi 0 wI) ?_
  refine hRF [6,8] [6,7] ?_
  cases H
  exact T7 (jR0 h7 [0,0])
 refine T3 (T8 (Za [6,7] ?_))
 cases H
 exact T7 (jR0 h1 [0,0])

def Q11.f (a0:Int) (a1:Bool):Option TU:=if (!a1)=true then (some (0,false)) else (some (a0,true))
theorem Q11.spec {a0 a1 r} (H:Q11.f a0 a1=some r) :
  Spec prog 171 [.int .i64 a0,.bool a1] [] [] (fun v l=>v=.tuple #[.int .i64 r.1,.bool r.2]/\l=[]):=by
 refine Zf Tryz.func171 fun w0 F0 h0=>?_
 unfold Q11.f at H
 refine T8 (Za [0,1] ?_)
 refine T8 (T8 (Za [0,7] ?_))
 refine jIf H (fun c1 H=>?_) fun c1 H=>?_
 ·refine T8 (Za [4,5] ?_)
  cases H
  exact T7 (jR0 h0 [])
 refine T9 (T8 (Za [4,5] ?_))
 cases H
 exact T7 (jR0 h0 [])

def Q5.f (k:Nat) (a0:TJ) (a1:Int):Option TU:=(Q7.f a0).bind fun r1=>(if (decide (r1<=a1))=true then (some (0,false)) else ((Q9.f k a0 a1 18446744073709551615).bind fun r2=>((Q11.f r2.1 r2.2).bind fun r3=>(some r3))))
theorem Q5.spec {k a0 a1 b1 A1 c_1 r} (H:Q5.f k a0 a1=some r) :
  Spec prog 160 [.pointer (some ⟨b1,0,none⟩),.int .i64 a1] (Vh a0 b1 A1 c_1) [tabC 1] (fun v l=>v=.tuple #[.int .i64 r.1,.bool r.2]/\l=Vh a0 b1 A1 c_1):=by
 refine Zf Tryz.func160 fun w0 F0 h0=>?_
 replace h0:=nf h0
 unfold Q5.f at H
 refine T8 (Za [0,1] ?_)
 refine T8 (T8 (T6 (Ze 2 ?_)))
 refine cS H [0,0] h0 rfl Q7.spec Zm fun r1 w1 H h1=>?_
 refine rFi [0,1,9] ?_
 refine jIf H (fun c1 H=>?_) fun c1 H=>?_
 ·refine T8 (Za [4,5] ?_)
  cases H
  exact T7 (jR0 h1 [0,0])
 refine T9 (T8 (T6 (Ze 2 ?_)))
 refine cS H [0,0] h1 rfl Q9.spec (gS [0]) fun r2 w2 H h2=>?_
 refine Ze 2 ?_
 refine cS H [] h2 rfl Q11.spec Zm fun r3 w3 H h3=>?_
 refine rFi [4,5] ?_
 cases H
 exact T7 (jR0 h3 [0,0])

def Q83.l0:Nat->(Int)->(Int)->(Int)->TW->TW->(Int)->(Int)->Option Tr
 | 0,_,_,_,_,_,_,_=>none
 | k+1,a1,x1,x2,x3,x4,x5,x6=>if (decide (x6<a1))=true then ((Q5.f k (x1,x2,x3) x5).bind fun r3=>((Q8.f (x1,x2,x3) r3.1).bind fun r4=>(if (x4.length+([(uD.wrap (r3.1))]:List Int).length)*4<=140737488355328 then (Q83.l0 k a1 r4.2.1 r4.2.2.1 r4.2.2.2 (x4 ++ [(uD.wrap (r3.1))]) (w64 (r3.1+1)) (w64 (x6+1))) else none))) else (some (x4,0,(x1,x2,x3)))
def Q83.f (k:Nat) (a0:TG) (a1:Int):Option Tr:=(Q85.f a0).bind fun r1=>(if r1=true then (some ([],1,a0)) else (if (decide (a1<0))=true then (some ([],2,a0)) else ((Q81.f a0).bind fun r2=>(if (decide (r2<a1))=true then (some ([],11,a0)) else (Q83.l0 k a1 a0.1 a0.2.1 a0.2.2 [] 0 0)))))
theorem Q83.spec {k a0 a1 b1 b2 A1 c_1 r} (H:Q83.f k a0 a1=some r) :
  Spec prog 130 [.pointer (some ⟨b1,0,none⟩),.int .i64 a1] (B7 a0 b1 b2 A1 c_1) [tabC 1] (fun v l=>∃ A_0 c_0 A_1 c_1,v=.tuple #[.slice A_0 r.1.length c_0,.int .i64 r.2.1]/\l=[O32 r.1 A_0 c_0] ++ B7 r.2.2 b1 b2 A_1 c_1):=by
 refine Zf Tryz.func130 fun w0 F0 h0=>?_
 replace h0:=nf h0
 unfold Q83.f at H
 refine T8 (Za [0,1] ?_)
 refine T8 (T0 (T8 (T6 (Ze 1 ?_))))
 refine cS H [0,0,0] h0 rfl Q85.spec Zm fun r1 w1 H h1=>?_
 refine rFi [0,1,10] ?_
 refine jIf H (fun c1 H=>?_) fun c1 H=>?_
 ·refine T8 (Za [4,5] ?_)
  have h2:=h1.addNil 32 (.int .u32)
  cases H
  exact T7 (jR ⟨_,_,_,_,rfl,rfl⟩ h2 [0,0,0,0])
 refine T8 (Za [0,1,13] ?_)
 refine jIf H (fun c2 H=>?_) fun c2 H=>?_
 ·refine T8 (Za [4,5] ?_)
  have h3:=h1.addNil 32 (.int .u32)
  cases H
  exact T7 (jR ⟨_,_,_,_,rfl,rfl⟩ h3 [0,0,0,0])
 refine T8 (T6 (Ze 2 ?_))
 refine cS H [0,0,0] h1 rfl Q81.spec Zm fun r2 w2 H h4=>?_
 refine rFi [0,1,16] ?_
 refine jIf H (fun c3 H=>?_) fun c3 H=>?_
 ·refine T8 (Za [4,5] ?_)
  have h5:=h4.addNil 32 (.int .u32)
  cases H
  exact T7 (jR ⟨_,_,_,_,rfl,rfl⟩ h5 [0,0,0,0])
 refine T9 (T8 (Za [0,1,6] ?_))
 refine T8 (Za [0,1,6,7] ?_)
 refine T8 (T8 (Za [0,6,7,21,22] ?_))
 refine T0 ?_
 have h12:=h4.addNil 32 (.int .u32)
 have h13:=(sOR h12 [1,1,1,0] [0])
 refine T4 (fun kk env w=>∃ x1 x2 x3 A2 c_2 x4 A3 c_3 x5 x6,Q83.l0 kk a1 x1 x2 x3 x4 x5 x6=some r/\env=[(0,.pointer (some ⟨b1,0,none⟩)),(6,.slice A3 x4.length c_3),(7,.int .i64 x5),(21,.int .i64 a1),(22,.int .i64 x6)]/\St w0 F0 [Vl b1 (.pointer (some ⟨b2,0,none⟩)),X1 b2 x1 x2 x3 A2 c_2,O63 x3 A2 c_2,O32 x4 A3 c_3] [tabC 1] w) (k:=k) ⟨_,_,_,_,_,_,_,_,_,_,H,rfl,h13⟩ ?_
 rintro k1 env w3 ⟨x1,x2,x3,A2,c_2,x4,A3,c_3,x5,x6,H,rfl,h6⟩
 rcases k1 with _ | k1
 ·exact z0 H
 rw [Q83.l0] at H
 refine T8 (Za [0,6,7,21,22,23] ?_)
 refine T8 (jIf H (fun c4 H=>?_) fun c4 H=>?_)
 ·refine T9 (T8 (T0 (T8 (T6 (rRL 3 0 h6 ?_)))))
  refine Ze 1 ?_
  refine cS H [1,1] h6 rfl Q5.spec (gS [2]) fun r3 w4 H h7=>?_
  refine rFi [0,6,8,21,22] ?_
  refine T8 (T6 (rRL 3 2 h7 ?_))
  refine Ze 1 ?_
  refine cE H [0,0] h7 rfl Q8.spec Zm ?_
  rintro r4 w5 _ _ H ⟨A4,c_4,rfl,rfl⟩ h8
  replace h8:=nf h8
  refine rFi [0,6,8,21,22] ?_
  refine T8 (T6 (Ze 3 ?_))
  refine rB (Zx (.int .u32) [(uD.wrap (r3.1))] h8) fun b3 w6 h9=>?_
  obtain ⟨p1,H⟩:=Zh H
  refine Zp (Zs 4 h9 (gO 0) p1) ?_
  rintro _ w7 ⟨A5,c_5,rfl,h10⟩
  replace h10:=nf h10
  refine rFi [0,6,8,21,22] ?_
  refine Za [0,6,7,21,22] ?_
  refine Za [0,6,7,21,22] ?_
  have h11:=(sOR h10 [4,2,2,0] [0])
  exact ⟨k1,by omega,_,_,_,_,_,_,_,_,_,_,H,rfl,h11⟩
 refine T3 (T8 (Za [4,5] ?_))
 cases H
 exact T7 (jR ⟨_,_,_,_,rfl,rfl⟩ h6 [3,0,0,0])

def Q84.f (k:Nat) (a0:TG):Option (Int×Int×TG):=(Q83.f k a0 1).bind fun r1=>(if (!decide (r1.2.1=0))=true then (some (0,r1.2.1,r1.2.2)) else (if 0<(r1.1.length:Int) then (some ((gt r1.1 0),0,r1.2.2)) else none))
theorem Q84.spec {k a0 b1 b2 A1 c_1 r} (H:Q84.f k a0=some r) :
  Spec prog 89 [.pointer (some ⟨b1,0,none⟩)] (B7 a0 b1 b2 A1 c_1) [tabC 1] (fun v l=>∃ A_0 c_0,v=.tuple #[.int .u32 r.1,.int .i64 r.2.1]/\l=B7 r.2.2 b1 b2 A_0 c_0):=by
 refine Zf Tryz.func89 fun w0 F0 h0=>?_
 replace h0:=nf h0
 unfold Q84.f at H
 refine T8 (Za [0] ?_)
 refine T8 (T6 (Ze 1 ?_))
 refine cE H [0,0,0] h0 rfl Q83.spec (gS [0]) ?_
 rintro r1 w1 _ _ H ⟨A2,c_2,A3,c_3,rfl,rfl⟩ h1
 replace h1:=nf h1
 refine rFi [4,5] ?_
 refine T8 (T8 (Za [4,5,12] ?_))
 refine jIf H (fun c1 H=>?_) fun c1 H=>?_
 ·refine T8 (Za [2,3] ?_)
  cases H
  exact T7 (jR ⟨_,_,rfl,rfl⟩ h1 [1,1,1])
 refine T9 (T8 (T6 (Ze 1 ?_)))
 obtain ⟨p1,H⟩:=Zh H
 have e1:=Vu h1.wh (gO 0) p1
 refine Zj (X4 e1 p1) ?_
 refine Zj (Xb 0 h1.wht (gO 0) p1) ?_
 refine rFi [2,3] ?_
 cases H
 exact T7 (jR ⟨_,_,rfl,rfl⟩ h1 [1,1,1])

def Q24.f (a0:Ti):Option (Bool):=some false
theorem Q24.spec {a0 b1 b2 b3 b4 A1 c_1 A2 c_2 A3 c_3 A4 c_4 r} (H:Q24.f a0=some r) :
  Spec prog 101 [.pointer (some ⟨b1,0,none⟩)] (Ua a0 b1 b2 b3 b4 A1 A2 A3 A4 c_1 c_2 c_3 c_4) [] (fun v l=>v=.bool r/\l=Ua a0 b1 b2 b3 b4 A1 A2 A3 A4 c_1 c_2 c_3 c_4):=by
 refine Zf Tryz.func101 fun w0 F0 h0=>?_
 replace h0:=nf h0
 unfold Q24.f at H
 refine T8 (Za [0] ?_)
 refine T8 (T6 (rRL 6 0 h0 ?_))
 refine rFi [2] ?_
 cases H
 exact T7 (jR0 h0 [0,0,0,0,0,0,0,0])

def Q22.f (a0:Ti) (a1:Int) (a2:TW):Option Th:=(Q24.f a0).bind fun r1=>(if r1=true then (some (1,a0)) else (if (!(Y7 a0.2.2.1 a1))=true then (some (8,a0)) else (if 0<=(Zq (0:Int) a0.2.2.1 a1)/\(Zq (0:Int) a0.2.2.1 a1)<(a0.2.1.length:Int) then (if (decide (((gt a0.2.1 (Zq (0:Int) a0.2.2.1 a1)).2.2.2)=0))=true then (some (8,a0)) else ((Q55.f a0.1).bind fun r2=>(if (!decide ((a2.length:Int)=r2))=true then (some (3,a0)) else ((Q100.f a2).bind fun r3=>(some (0,(a0.1,((a0.2.1.set (Zq (0:Int) a0.2.2.1 a1).toNat ((gt a0.2.1 (Zq (0:Int) a0.2.2.1 a1)).1,r3,(gt a0.2.1 (Zq (0:Int) a0.2.2.1 a1)).2.2.1,(gt a0.2.1 (Zq (0:Int) a0.2.2.1 a1)).2.2.2)).set (Zq (0:Int) a0.2.2.1 a1).toNat ((gt (a0.2.1.set (Zq (0:Int) a0.2.2.1 a1).toNat ((gt a0.2.1 (Zq (0:Int) a0.2.2.1 a1)).1,r3,(gt a0.2.1 (Zq (0:Int) a0.2.2.1 a1)).2.2.1,(gt a0.2.1 (Zq (0:Int) a0.2.2.1 a1)).2.2.2)) (Zq (0:Int) a0.2.2.1 a1)).1,(gt (a0.2.1.set (Zq (0:Int) a0.2.2.1 a1).toNat ((gt a0.2.1 (Zq (0:Int) a0.2.2.1 a1)).1,r3,(gt a0.2.1 (Zq (0:Int) a0.2.2.1 a1)).2.2.1,(gt a0.2.1 (Zq (0:Int) a0.2.2.1 a1)).2.2.2)) (Zq (0:Int) a0.2.2.1 a1)).2.1,true,(gt (a0.2.1.set (Zq (0:Int) a0.2.2.1 a1).toNat ((gt a0.2.1 (Zq (0:Int) a0.2.2.1 a1)).1,r3,(gt a0.2.1 (Zq (0:Int) a0.2.2.1 a1)).2.2.1,(gt a0.2.1 (Zq (0:Int) a0.2.2.1 a1)).2.2.2)) (Zq (0:Int) a0.2.2.1 a1)).2.2.2)),a0.2.2.1,a0.2.2.2.1,a0.2.2.2.2))))))) else none)))
theorem Q22.spec {a0 a1 a2 A5 c_5 b1 b2 b3 b4 A1 c_1 A2 c_2 A3 c_3 A4 c_4 r} (H:Q22.f a0 a1 a2=some r) :
  Spec prog 75 [.pointer (some ⟨b1,0,none⟩),.int .u32 a1,.slice A5 a2.length c_5] (Ua a0 b1 b2 b3 b4 A1 A2 A3 A4 c_1 c_2 c_3 c_4) [R5 a2 A5 c_5] (fun v l=>∃ A_0 c_0 A_1 c_1 A_2 c_2 A_3 c_3,v=.int .i64 r.1/\l=Ua r.2 b1 b2 b3 b4 A_0 A_1 A_2 A_3 c_0 c_1 c_2 c_3):=by
 refine Zf Tryz.func75 fun w0 F0 h0=>?_
 replace h0:=nf h0
 unfold Q22.f at H
 refine T8 (Za [0,1,2] ?_)
 refine T8 (T6 (Ze 2 ?_))
 refine Xf Tryz.func60 ?_
 refine T8 (Za [0,1] ?_)
 refine T8 (T8 (T6 (Ze 1 ?_)))
 refine cS H [0,0,0,0,0,0,0,0] h0 rfl Q24.spec Zm fun r1 w1 H h1=>?_
 refine rFi [0,1,9] ?_
 refine jIf H (fun c1 H=>?_) fun c1 H=>?_
 ·refine T8 (Za [4,5] ?_)
  refine T7 (⟨_,Zk,?_⟩)
  refine rFi [0,2,7,8] ?_
  refine T8 (T0 (T8 (Za [0,2,7,8,15] ?_)))
  refine Zo ?_
  refine T8 (Za [6] ?_)
  cases H
  exact T7 (jR ⟨_,_,_,_,_,_,_,_,rfl,rfl⟩ h1 [0,0,0,0,0,0,0,0])
 refine T9 (T8 (T6 (rRL 3 0 h1 ?_)))
 refine Ze 1 ?_
 refine Zj (W9 (0:Int) 4 h1.wht) ?_
 refine rFi [0,6,7] ?_
 refine T8 (T8 (T6 (Ze 3 ?_)))
 refine Z7 21 H (fun c2 H=>?_) fun c2 H=>?_
 ·refine rFi [0,6,31] ?_
  refine Zo ?_
  refine T8 (Za [4,5] ?_)
  refine T7 (⟨_,Zk,?_⟩)
  refine rFi [0,2,7,8] ?_
  refine T8 (T0 (T8 (Za [0,2,7,8,15] ?_)))
  refine Zo ?_
  refine T8 (Za [6] ?_)
  cases H
  exact T7 (jR ⟨_,_,_,_,_,_,_,_,rfl,rfl⟩ h1 [0,0,0,0,0,0,0,0])
 refine rRL 3 0 h1 ?_
 refine Ze 1 ?_
 obtain ⟨⟨p1,p2⟩,H⟩:=Zh H
 have e1:=Zy h1.wh (gO 3) p1 p2
 refine Zj (Zc e1 p1 p2) ?_
 refine Ze 1 ?_
 refine Zj (Xa 3 h1.wht (gO 3) p1 p2) ?_
 refine rFi [0,6,31] ?_
 refine jIf H (fun c3 H=>?_) fun c3 H=>?_
 ·refine T8 (Za [4,5] ?_)
  refine T7 (⟨_,Zk,?_⟩)
  refine rFi [0,2,7,8] ?_
  refine T8 (T0 (T8 (Za [0,2,7,8,15] ?_)))
  refine Zo ?_
  refine T8 (Za [6] ?_)
  cases H
  exact T7 (jR ⟨_,_,_,_,_,_,_,_,rfl,rfl⟩ h1 [0,0,0,0,0,0,0,0])
 refine T9 (T8 (T6 (rRL 3 0 h1 ?_)))
 refine Ze 1 ?_
 refine Zj (Zc e1 p1 p2) ?_
 refine rFi [4,5] ?_
 refine T7 (⟨_,Zk,?_⟩)
 refine rFi [0,2,7,8] ?_
 refine T8 (T0 (T8 (Za [0,2,7,8,15] ?_)))
 refine Z1 ?_
 refine T8 (T6 (rRL 5 0 h1 ?_))
 refine cS H [1,1] h1 rfl Q55.spec Zm fun r2 w2 H h2=>?_
 refine rFi [2,7,19] ?_
 refine jIf H (fun c4 H=>?_) fun c4 H=>?_
 ·refine T8 (Za [6] ?_)
  cases H
  exact T7 (jR ⟨_,_,_,_,_,_,_,_,rfl,rfl⟩ h2 [2,0,0,0,0,0,0,0])
 refine T9 (T8 (T6 (Ze 3 ?_)))
 refine cE H [] h2 rfl Q100.spec (gS [8]) ?_
 rintro r3 w3 _ _ H ⟨A6,c_6,rfl,rfl⟩ h3
 replace h3:=nf h3
 refine Ze 2 ?_
 have h4:=(h3.only [4,0,0,0,0,0,0,0,0] rfl).both
 refine rS (V2 1 (.pair (.int .u32) (.pair (.slice 5 (.int .u8)) (.pair .bool (.int .i64)))) (Zq (0:Int) a0.2.2.1 a1) ((gt a0.2.1 (Zq (0:Int) a0.2.2.1 a1)).1,r3,(gt a0.2.1 (Zq (0:Int) a0.2.2.1 a1)).2.2.1,(gt a0.2.1 (Zq (0:Int) a0.2.2.1 a1)).2.2.2) h4 p1 p2 Zsf) fun _ w4 h5=>?_
 replace h5:St w0 F0 [Xo (a0.2.1.set (Zq (0:Int) a0.2.2.1 a1).toNat ((gt a0.2.1 (Zq (0:Int) a0.2.2.1 a1)).1,r3,(gt a0.2.1 (Zq (0:Int) a0.2.2.1 a1)).2.2.1,(gt a0.2.1 (Zq (0:Int) a0.2.2.1 a1)).2.2.2)) A2 c_2,Xc b2 a0.1.1 a0.1.2.1 A1 c_1 a0.1.2.2.1 a0.1.2.2.2,O5 a0.1.2.1 A1 c_1,Xp b1 (.pointer (some ⟨b2,0,none⟩)) (a0.2.1.set (Zq (0:Int) a0.2.2.1 a1).toNat ((gt a0.2.1 (Zq (0:Int) a0.2.2.1 a1)).1,r3,(gt a0.2.1 (Zq (0:Int) a0.2.2.1 a1)).2.2.1,(gt a0.2.1 (Zq (0:Int) a0.2.2.1 a1)).2.2.2)) A2 c_2 (.map (some b3)) a0.2.2.2.1 A3 c_3 (.pointer (some ⟨b4,0,none⟩)),Y5 .u32 (Value.int .i64) b3 a0.2.2.1,O3 a0.2.2.2.1 A3 c_3,Yw b4 a0.2.2.2.2.1 A4 c_4 a0.2.2.2.2.2,Yx a0.2.2.2.2.1 A4 c_4] _ _:=h5.retell (by simp only [length_set,length_nil,Xo,Yx,O3,O5,Xp,Xc,Yw] <;> rfl)
 refine Ze 2 ?_
 refine rS (Vg 2 (.pair (.int .u32) (.pair (.slice 5 (.int .u8)) (.pair .bool (.int .i64)))) (Zq (0:Int) a0.2.2.1 a1) ((gt (a0.2.1.set (Zq (0:Int) a0.2.2.1 a1).toNat ((gt a0.2.1 (Zq (0:Int) a0.2.2.1 a1)).1,r3,(gt a0.2.1 (Zq (0:Int) a0.2.2.1 a1)).2.2.1,(gt a0.2.1 (Zq (0:Int) a0.2.2.1 a1)).2.2.2)) (Zq (0:Int) a0.2.2.1 a1)).1,(gt (a0.2.1.set (Zq (0:Int) a0.2.2.1 a1).toNat ((gt a0.2.1 (Zq (0:Int) a0.2.2.1 a1)).1,r3,(gt a0.2.1 (Zq (0:Int) a0.2.2.1 a1)).2.2.1,(gt a0.2.1 (Zq (0:Int) a0.2.2.1 a1)).2.2.2)) (Zq (0:Int) a0.2.2.1 a1)).2.1,true,(gt (a0.2.1.set (Zq (0:Int) a0.2.2.1 a1).toNat ((gt a0.2.1 (Zq (0:Int) a0.2.2.1 a1)).1,r3,(gt a0.2.1 (Zq (0:Int) a0.2.2.1 a1)).2.2.1,(gt a0.2.1 (Zq (0:Int) a0.2.2.1 a1)).2.2.2)) (Zq (0:Int) a0.2.2.1 a1)).2.2.2) 0 h5 rfl p1 (by simpa only [length_set] using p2) (Zaz rfl rfl)) fun _ w5 h6=>?_
 replace h6:St w0 F0 [Xo ((a0.2.1.set (Zq (0:Int) a0.2.2.1 a1).toNat ((gt a0.2.1 (Zq (0:Int) a0.2.2.1 a1)).1,r3,(gt a0.2.1 (Zq (0:Int) a0.2.2.1 a1)).2.2.1,(gt a0.2.1 (Zq (0:Int) a0.2.2.1 a1)).2.2.2)).set (Zq (0:Int) a0.2.2.1 a1).toNat ((gt (a0.2.1.set (Zq (0:Int) a0.2.2.1 a1).toNat ((gt a0.2.1 (Zq (0:Int) a0.2.2.1 a1)).1,r3,(gt a0.2.1 (Zq (0:Int) a0.2.2.1 a1)).2.2.1,(gt a0.2.1 (Zq (0:Int) a0.2.2.1 a1)).2.2.2)) (Zq (0:Int) a0.2.2.1 a1)).1,(gt (a0.2.1.set (Zq (0:Int) a0.2.2.1 a1).toNat ((gt a0.2.1 (Zq (0:Int) a0.2.2.1 a1)).1,r3,(gt a0.2.1 (Zq (0:Int) a0.2.2.1 a1)).2.2.1,(gt a0.2.1 (Zq (0:Int) a0.2.2.1 a1)).2.2.2)) (Zq (0:Int) a0.2.2.1 a1)).2.1,true,(gt (a0.2.1.set (Zq (0:Int) a0.2.2.1 a1).toNat ((gt a0.2.1 (Zq (0:Int) a0.2.2.1 a1)).1,r3,(gt a0.2.1 (Zq (0:Int) a0.2.2.1 a1)).2.2.1,(gt a0.2.1 (Zq (0:Int) a0.2.2.1 a1)).2.2.2)) (Zq (0:Int) a0.2.2.1 a1)).2.2.2)) A2 c_2,Xc b2 a0.1.1 a0.1.2.1 A1 c_1 a0.1.2.2.1 a0.1.2.2.2,O5 a0.1.2.1 A1 c_1,Xp b1 (.pointer (some ⟨b2,0,none⟩)) ((a0.2.1.set (Zq (0:Int) a0.2.2.1 a1).toNat ((gt a0.2.1 (Zq (0:Int) a0.2.2.1 a1)).1,r3,(gt a0.2.1 (Zq (0:Int) a0.2.2.1 a1)).2.2.1,(gt a0.2.1 (Zq (0:Int) a0.2.2.1 a1)).2.2.2)).set (Zq (0:Int) a0.2.2.1 a1).toNat ((gt (a0.2.1.set (Zq (0:Int) a0.2.2.1 a1).toNat ((gt a0.2.1 (Zq (0:Int) a0.2.2.1 a1)).1,r3,(gt a0.2.1 (Zq (0:Int) a0.2.2.1 a1)).2.2.1,(gt a0.2.1 (Zq (0:Int) a0.2.2.1 a1)).2.2.2)) (Zq (0:Int) a0.2.2.1 a1)).1,(gt (a0.2.1.set (Zq (0:Int) a0.2.2.1 a1).toNat ((gt a0.2.1 (Zq (0:Int) a0.2.2.1 a1)).1,r3,(gt a0.2.1 (Zq (0:Int) a0.2.2.1 a1)).2.2.1,(gt a0.2.1 (Zq (0:Int) a0.2.2.1 a1)).2.2.2)) (Zq (0:Int) a0.2.2.1 a1)).2.1,true,(gt (a0.2.1.set (Zq (0:Int) a0.2.2.1 a1).toNat ((gt a0.2.1 (Zq (0:Int) a0.2.2.1 a1)).1,r3,(gt a0.2.1 (Zq (0:Int) a0.2.2.1 a1)).2.2.1,(gt a0.2.1 (Zq (0:Int) a0.2.2.1 a1)).2.2.2)) (Zq (0:Int) a0.2.2.1 a1)).2.2.2)) A2 c_2 (.map (some b3)) a0.2.2.2.1 A3 c_3 (.pointer (some ⟨b4,0,none⟩)),Y5 .u32 (Value.int .i64) b3 a0.2.2.1,O3 a0.2.2.2.1 A3 c_3,Yw b4 a0.2.2.2.2.1 A4 c_4 a0.2.2.2.2.2,Yx a0.2.2.2.2.1 A4 c_4] _ _:=h6.retell (by simp only [length_set,length_nil,Xo,Yx,O3,O5,Xp,Xc,Yw] <;> rfl)
 refine rFi [] ?_
 refine T8 (Za [6] ?_)
 cases H
 exact T7 (jR ⟨_,_,_,_,_,_,_,_,rfl,rfl⟩ h6 [3,1,1,0,0,0,0,0])

def Q26.f (a0:Ti) (a1:Int):Option (Int):=(Q24.f a0).bind fun r1=>(if r1=true then (some 1) else ((Q54.f a0.1).bind fun r2=>(if (decide (r2<=(w64 (a1))))=true then (some 4) else (some 0))))
theorem Q26.spec {a0 a1 b1 b2 b3 b4 A1 c_1 A2 c_2 A3 c_3 A4 c_4 r} (H:Q26.f a0 a1=some r) :
  Spec prog 55 [.pointer (some ⟨b1,0,none⟩),.int .u32 a1] (Ua a0 b1 b2 b3 b4 A1 A2 A3 A4 c_1 c_2 c_3 c_4) [] (fun v l=>v=.int .i64 r/\l=Ua a0 b1 b2 b3 b4 A1 A2 A3 A4 c_1 c_2 c_3 c_4):=by
 refine Zf Tryz.func55 fun w0 F0 h0=>?_
 replace h0:=nf h0
 unfold Q26.f at H
 refine T8 (Za [0,1] ?_)
 refine T8 (T0 (T8 (T6 (Ze 1 ?_))))
 refine cS H [0,0,0,0,0,0,0,0] h0 rfl Q24.spec Zm fun r1 w1 H h1=>?_
 refine rFi [0,1,5] ?_
 refine jIf H (fun c1 H=>?_) fun c1 H=>?_
 ·refine T8 (Za [4] ?_)
  cases H
  exact T7 (jR0 h1 [0,0,0,0,0,0,0,0])
 refine T8 (T6 (rRL 5 0 h1 ?_))
 refine cS H [1,1] h1 rfl Q54.spec Zm fun r2 w2 H h2=>?_
 refine rFi [8] ?_
 refine jIf H (fun c2 H=>?_) fun c2 H=>?_
 ·refine T8 (Za [4] ?_)
  cases H
  exact T7 (jR0 h2 [2,0,0,0,0,0,0,0])
 refine T9 (T8 (Za [4] ?_))
 cases H
 exact T7 (jR0 h2 [2,0,0,0,0,0,0,0])

def Q30.f (a0:TC):Option (Int):=some a0.2
theorem Q30.spec {a0 b1 A1 c_1 r} (H:Q30.f a0=some r) :
  Spec prog 138 [.pointer (some ⟨b1,0,none⟩)] (Vi a0 b1 A1 c_1) [] (fun v l=>v=.int .i64 r/\l=Vi a0 b1 A1 c_1):=by
 refine Zf Tryz.func138 fun w0 F0 h0=>?_
 replace h0:=nf h0
 unfold Q30.f at H
 refine T8 (Za [0] ?_)
 refine T8 (T8 (Za [0,4] ?_))
 refine Z1 ?_
 refine T9 (T8 (T6 (rRL 3 0 h0 ?_)))
 refine rFi [2] ?_
 cases H
 exact T7 (jR0 h0 [0,0])

def Q33.f (a0:TC):Option (Int):=some (w64 ((a0.1.length:Int) - 1))
theorem Q33.spec {a0 b1 A1 c_1 r} (H:Q33.f a0=some r) :
  Spec prog 109 [.pointer (some ⟨b1,0,none⟩)] (Vi a0 b1 A1 c_1) [] (fun v l=>v=.int .i64 r/\l=Vi a0 b1 A1 c_1):=by
 refine Zf Tryz.func109 fun w0 F0 h0=>?_
 replace h0:=nf h0
 unfold Q33.f at H
 refine T8 (Za [0] ?_)
 refine T8 (T6 (rRL 3 0 h0 ?_))
 refine rFi [2] ?_
 cases H
 exact T7 (jR0 h0 [0,0])

def Q29.f (a0:TC):Option TU:=(Q30.f a0).bind fun r1=>(if (decide (r1=0))=true then (some (0,false)) else ((Q33.f a0).bind fun r2=>(if 0<=r2/\r2<(a0.1.length:Int) then (some ((gt a0.1 r2).1,true)) else none)))
theorem Q29.spec {a0 b1 A1 c_1 r} (H:Q29.f a0=some r) :
  Spec prog 104 [.pointer (some ⟨b1,0,none⟩)] (Vi a0 b1 A1 c_1) [] (fun v l=>v=.tuple #[.int .i64 r.1,.bool r.2]/\l=Vi a0 b1 A1 c_1):=by
 refine Zf Tryz.func104 fun w0 F0 h0=>?_
 replace h0:=nf h0
 unfold Q29.f at H
 refine T8 (Za [0] ?_)
 refine T8 (T8 (T6 (Ze 1 ?_)))
 refine cS H [0,0] h0 rfl Q30.spec Zm fun r1 w1 H h1=>?_
 refine rFi [0,6] ?_
 refine jIf H (fun c1 H=>?_) fun c1 H=>?_
 ·refine T8 (Za [2,3] ?_)
  cases H
  exact T7 (jR0 h1 [0,0])
 refine T9 (T8 (jH h1 fun h2=>?_))
 refine Zr [0,1,2,4] ?_
 refine Zb 3 rfl (Zi 0 wI) ?_
 refine cSJ 5 rfl H [0,0] h2 rfl Q33.spec Zm 0 fun r2 w2 H h3=>?_
 obtain ⟨⟨p1,p2⟩,H⟩:=Zh H
 have e1:=Zy h3.wh (gO 1) p1 p2
 refine Zb 6 rfl (Zc e1 p1 p2) ?_
 refine Zr [7] ?_
 refine Zb 8 rfl (Zd 0 wI (gO 1) p1 p2) ?_
 refine hRF [9,10] [2,3] ?_
 cases H
 exact T7 (jR0 h3 [0,0])

def Q58.f (a0:TD) (a1:Int) (a2:TW):Option (Int×TD):=(Q54.f a0).bind fun r1=>(if (decide (r1=0))=true then (some (1,a0)) else ((Q54.f a0).bind fun r2=>(if (decide (r2<=(w64 (a1))))=true then (some (4,a0)) else (if 0<=(w64 ((w64 (a1))*a0.1))/\(w64 ((w64 (a1))*a0.1))<=(w64 ((w64 ((w64 (a1))*a0.1))+a0.1))/\(w64 ((w64 ((w64 (a1))*a0.1))+a0.1))<=(a0.2.1.length:Int) then (if (!decide ((a2.length:Int)=a0.1))=true then (some (3,a0)) else (some (0,(a0.1,(patch a0.2.1 (((w64 ((w64 (a1))*a0.1))).toNat) (((a0.2.1.drop ((w64 ((w64 (a1))*a0.1))).toNat).take (((w64 ((w64 ((w64 (a1))*a0.1))+a0.1))).toNat - ((w64 ((w64 (a1))*a0.1))).toNat)).length) a2),(a0.2.2.1,(uH.wrap (a0.2.2.2+1))))))) else none))))
theorem Q58.spec {a0 a1 a2 A2 c_2 b1 A1 c_1 r} (H:Q58.f a0 a1 a2=some r) :
  Spec prog 139 [.pointer (some ⟨b1,0,none⟩),.int .u32 a1,.slice A2 a2.length c_2] (B9 a0 b1 A1 c_1) [R5 a2 A2 c_2] (fun v l=>∃ A_0 c_0,v=.int .i64 r.1/\l=B9 r.2 b1 A_0 c_0):=by
 refine Zf Tryz.func139 fun w0 F0 h0=>?_
 replace h0:=nf h0
 unfold Q58.f at H
 refine T8 (Za [0,1,2] ?_)
 refine T8 (T6 (Ze 2 ?_))
 refine Xf Tryz.func107 ?_
 refine T8 (Za [0,1] ?_)
 refine T8 (T0 (T8 (T6 (Ze 1 ?_))))
 refine cS H [0,0] h0 rfl Q54.spec Zm fun r1 w1 H h1=>?_
 refine rFi [0,1,7] ?_
 refine jIf H (fun c1 H=>?_) fun c1 H=>?_
 ·refine T8 (Za [4,5] ?_)
  refine T7 (⟨_,Zk,?_⟩)
  refine rFi [0,2,7,8] ?_
  refine T8 (T0 (T8 (Za [0,2,7,8,15] ?_)))
  refine Zo ?_
  refine T8 (Za [6] ?_)
  cases H
  exact T7 (jR ⟨_,_,rfl,rfl⟩ h1 [0,0])
 refine T8 (T6 (Ze 3 ?_))
 refine cS H [0,0] h1 rfl Q54.spec Zm fun r2 w2 H h2=>?_
 refine rFi [0,1,11] ?_
 refine jIf H (fun c2 H=>?_) fun c2 H=>?_
 ·refine T8 (Za [4,5] ?_)
  refine T7 (⟨_,Zk,?_⟩)
  refine rFi [0,2,7,8] ?_
  refine T8 (T0 (T8 (Za [0,2,7,8,15] ?_)))
  refine Zo ?_
  refine T8 (Za [6] ?_)
  cases H
  exact T7 (jR ⟨_,_,rfl,rfl⟩ h2 [0,0])
 refine T9 (T8 (T6 (rRL 5 0 h2 ?_)))
 refine rFi [0,6] ?_
 refine T8 (jH h2 fun h3=>?_)
 refine Zr [0,1,2,4,5,6,7,8] ?_
 refine Zb 3 rfl (Zi 0 wI) ?_
 refine Zb 9 rfl (Zi 0 wI) ?_
 refine Zr [10] ?_
 obtain ⟨⟨p1,p2,p3⟩,H⟩:=Zh H
 have e1:=h3.cap (gO 1)
 refine Zb 11 rfl (J4 ((a0.2.1.drop ((w64 ((w64 (a1))*a0.1))).toNat).take (((w64 ((w64 ((w64 (a1))*a0.1))+a0.1))).toNat - ((w64 ((w64 (a1))*a0.1))).toNat)) (w64 ((w64 (a1))*a0.1)) (w64 ((w64 ((w64 (a1))*a0.1))+a0.1)) e1 p1 p2 p3) ?_
 refine hRF [12,13] [4,5] ?_
 refine T7 (⟨_,Zk,?_⟩)
 refine rFi [0,2,7,8] ?_
 refine T8 (T0 (T8 (Za [0,2,7,8,15] ?_)))
 refine Z1 ?_
 refine T8 (T6 (rRL 5 0 h3 ?_))
 refine rFi [0,2,7,19] ?_
 refine jIf H (fun c3 H=>?_) fun c3 H=>?_
 ·refine T8 (Za [6] ?_)
  cases H
  exact T7 (jR ⟨_,_,rfl,rfl⟩ h3 [0,0])
 refine T9 (T8 (T6 (Ze 2 ?_)))
 have e2:(((w64 ((w64 (a1))*a0.1))).toNat)+((a0.2.1.drop ((w64 ((w64 (a1))*a0.1))).toNat).take (((w64 ((w64 ((w64 (a1))*a0.1))+a0.1))).toNat - ((w64 ((w64 (a1))*a0.1))).toNat)).length<=a0.2.1.length:=by first | omega | (simp only [length_take,length_drop]; omega)
 refine Zp (Zc6 Z3 (ty:=(.int .u8)) (xs:=a0.2.1) (ys:=a2) rfl 1 rfl h3 rfl (Zg 1) rfl rfl rfl rfl rfl rfl e2) ?_
 rintro _ w3 ⟨rfl,h4⟩
 replace h4:=nf h4
 replace h4:St w0 F0 [O5 (patch a0.2.1 (((w64 ((w64 (a1))*a0.1))).toNat) (((a0.2.1.drop ((w64 ((w64 (a1))*a0.1))).toNat).take (((w64 ((w64 ((w64 (a1))*a0.1))+a0.1))).toNat - ((w64 ((w64 (a1))*a0.1))).toNat)).length) a2) A1 c_1,Xc b1 a0.1 (patch a0.2.1 (((w64 ((w64 (a1))*a0.1))).toNat) (((a0.2.1.drop ((w64 ((w64 (a1))*a0.1))).toNat).take (((w64 ((w64 ((w64 (a1))*a0.1))+a0.1))).toNat - ((w64 ((w64 (a1))*a0.1))).toNat)).length) a2) A1 c_1 a0.2.2.1 a0.2.2.2] _ _:=h4.retell (by simp only [X7 e2,length_nil,O5,Xc] <;> rfl)
 refine rFi [0] ?_
 refine T8 (T6 (rRL 4 1 h4 ?_))
 refine Ze 4 ?_
 refine rS (Zt 1 h4) fun _ w4 h5=>?_
 refine rFi [] ?_
 refine T8 (Za [6] ?_)
 cases H
 exact T7 (jR ⟨_,_,rfl,rfl⟩ h5 [0,0])

def Q34.f (a0:TC) (a1:Int):Option (Int):=if (decide ((a0.1.length:Int)=0))=true then (some 1) else (if (decide (a1<0))=true then (some 4) else ((Q33.f a0).bind fun r1=>(if (decide (r1<=a1))=true then (some 4) else (some 0))))
theorem Q34.spec {a0 a1 b1 A1 c_1 r} (H:Q34.f a0 a1=some r) :
  Spec prog 102 [.pointer (some ⟨b1,0,none⟩),.int .i64 a1] (Vi a0 b1 A1 c_1) [] (fun v l=>v=.int .i64 r/\l=Vi a0 b1 A1 c_1):=by
 refine Zf Tryz.func102 fun w0 F0 h0=>?_
 replace h0:=nf h0
 unfold Q34.f at H
 refine T8 (Za [0,1] ?_)
 refine T8 (T0 (T8 (T6 (rRL 6 0 h0 ?_))))
 refine rFi [0,1,5] ?_
 refine jIf H (fun c1 H=>?_) fun c1 H=>?_
 ·refine T8 (Za [4] ?_)
  cases H
  exact T7 (jR0 h0 [0,0])
 refine T8 (T6 (Ze 3 ?_))
 refine Z7 19 H (fun c2 H=>?_) fun c2 H=>?_
 ·refine rFi [16] ?_
  refine Zo ?_
  refine T8 (Za [4] ?_)
  cases H
  exact T7 (jR0 h0 [0,0])
 refine Ze 2 ?_
 refine cS H [0,0] h0 rfl Q33.spec Zm fun r1 w1 H h1=>?_
 refine rFi [16] ?_
 refine jIf H (fun c3 H=>?_) fun c3 H=>?_
 ·refine T8 (Za [4] ?_)
  cases H
  exact T7 (jR0 h1 [0,0])
 refine T9 (T8 (Za [4] ?_))
 cases H
 exact T7 (jR0 h1 [0,0])

def Q31.f (a0:TC) (a1:Int):Option (TC):=if 0<=a1/\a1<(a0.1.length:Int) then (if (!((gt a0.1 a1).2.2))=true then (some a0) else (if 0<=((gt a0.1 a1).1)/\((gt a0.1 a1).1)<(a0.1.length:Int) then (if 0<=((gt a0.1 a1).2.1)/\((gt a0.1 a1).2.1)<((a0.1.set ((gt a0.1 a1).1).toNat ((gt a0.1 ((gt a0.1 a1).1)).1,(gt a0.1 a1).2.1,(gt a0.1 ((gt a0.1 a1).1)).2.2)).length:Int) then (if 0<=a1/\a1<(((a0.1.set ((gt a0.1 a1).1).toNat ((gt a0.1 ((gt a0.1 a1).1)).1,(gt a0.1 a1).2.1,(gt a0.1 ((gt a0.1 a1).1)).2.2)).set ((gt a0.1 a1).2.1).toNat ((gt a0.1 a1).1,(gt (a0.1.set ((gt a0.1 a1).1).toNat ((gt a0.1 ((gt a0.1 a1).1)).1,(gt a0.1 a1).2.1,(gt a0.1 ((gt a0.1 a1).1)).2.2)) ((gt a0.1 a1).2.1)).2.1,(gt (a0.1.set ((gt a0.1 a1).1).toNat ((gt a0.1 ((gt a0.1 a1).1)).1,(gt a0.1 a1).2.1,(gt a0.1 ((gt a0.1 a1).1)).2.2)) ((gt a0.1 a1).2.1)).2.2)).length:Int) then (some ((((a0.1.set ((gt a0.1 a1).1).toNat ((gt a0.1 ((gt a0.1 a1).1)).1,(gt a0.1 a1).2.1,(gt a0.1 ((gt a0.1 a1).1)).2.2)).set ((gt a0.1 a1).2.1).toNat ((gt a0.1 a1).1,(gt (a0.1.set ((gt a0.1 a1).1).toNat ((gt a0.1 ((gt a0.1 a1).1)).1,(gt a0.1 a1).2.1,(gt a0.1 ((gt a0.1 a1).1)).2.2)) ((gt a0.1 a1).2.1)).2.1,(gt (a0.1.set ((gt a0.1 a1).1).toNat ((gt a0.1 ((gt a0.1 a1).1)).1,(gt a0.1 a1).2.1,(gt a0.1 ((gt a0.1 a1).1)).2.2)) ((gt a0.1 a1).2.1)).2.2)).set a1.toNat (0,0,false)),(w64 (a0.2 - 1)))) else none) else none) else none)) else none
theorem Q31.spec {a0 a1 b1 A1 c_1 r} (H:Q31.f a0 a1=some r) :
  Spec prog 103 [.pointer (some ⟨b1,0,none⟩),.int .i64 a1] (Vi a0 b1 A1 c_1) [] (fun v l=>∃ A_0 c_0,v=.tuple #[]/\l=Vi r b1 A_0 c_0):=by
 refine Zf Tryz.func103 fun w0 F0 h0=>?_
 replace h0:=nf h0
 unfold Q31.f at H
 refine T8 (T6 (rRL 3 0 h0 ?_))
 refine Ze 1 ?_
 obtain ⟨⟨p1,p2⟩,H⟩:=Zh H
 have e1:=Zy h0.wh (gO 1) p1 p2
 refine Zj (Zc e1 p1 p2) ?_
 refine Zj (Zd 0 h0.wht (gO 1) p1 p2) ?_
 refine rB (Yp h0) fun b2 w1 h1=>?_
 refine rS (Zt 0 h1) fun _ w2 h2=>?_
 refine rFi [0,1,4] ?_
 refine T8 (T8 (T6 (rRL 1 0 h2 ?_)))
 refine rFi [0,1,4,14] ?_
 refine jIf H (fun c1 H=>?_) fun c1 H=>?_
 ·cases H
  exact T7 (jR ⟨_,_,rfl,rfl⟩ h2 [1,1])
 refine T9 (T8 (Zv (sO h2 [0,0]) ?_))
 have h3:=h2.drew
 refine Zr [0,1,2,4,6] ?_
 refine Zb 3 rfl (Zi 1 wI) ?_
 refine Zb 5 rfl (Zi 0 wI) ?_
 refine Zb 7 rfl (Zi 0 wI) ?_
 obtain ⟨⟨p3,p4⟩,H⟩:=Zh H
 refine Zb 8 rfl (Zc e1 p3 p4) ?_
 refine Zr [9] ?_
 refine hS 10 rfl (Zn 1 (.pair (.int .i64) (.pair (.int .i64) .bool)) ((gt a0.1 a1).1) ((gt a0.1 ((gt a0.1 a1).1)).1,(gt a0.1 a1).2.1,(gt a0.1 ((gt a0.1 a1).1)).2.2) 2 h3 rfl p3 p4) 1 fun _ w3 h4=>?_
 replace h4:St w0 F0 [Yx (a0.1.set ((gt a0.1 a1).1).toNat ((gt a0.1 ((gt a0.1 a1).1)).1,(gt a0.1 a1).2.1,(gt a0.1 ((gt a0.1 a1).1)).2.2)) A1 c_1,Zfs b2 ((gt a0.1 a1).1) ((gt a0.1 a1).2.1) ((gt a0.1 a1).2.2),Yw b1 (a0.1.set ((gt a0.1 a1).1).toNat ((gt a0.1 ((gt a0.1 a1).1)).1,(gt a0.1 a1).2.1,(gt a0.1 ((gt a0.1 a1).1)).2.2)) A1 c_1 a0.2] _ _:=h4.retell (by simp only [length_set,length_nil,Yx,Zfs,Yw] <;> rfl)
 refine Y6 [0,1,4] ?_
 refine T8 (Zv (sO h4 [1,1]) ?_)
 have h5:=h4.drew
 refine Zr [0,1,2,4,6] ?_
 refine Zb 3 rfl (Zi 1 wI) ?_
 refine Zb 5 rfl (Zi 0 wI) ?_
 refine Zb 7 rfl (Zi 0 wI) ?_
 obtain ⟨⟨p5,p6⟩,H⟩:=Zh H
 refine Zb 8 rfl (Zc e1 p5 p6) ?_
 refine Zr [9] ?_
 refine hS 10 rfl (Zn 0 (.pair (.int .i64) (.pair (.int .i64) .bool)) ((gt a0.1 a1).2.1) ((gt a0.1 a1).1,(gt (a0.1.set ((gt a0.1 a1).1).toNat ((gt a0.1 ((gt a0.1 a1).1)).1,(gt a0.1 a1).2.1,(gt a0.1 ((gt a0.1 a1).1)).2.2)) ((gt a0.1 a1).2.1)).2.1,(gt (a0.1.set ((gt a0.1 a1).1).toNat ((gt a0.1 ((gt a0.1 a1).1)).1,(gt a0.1 a1).2.1,(gt a0.1 ((gt a0.1 a1).1)).2.2)) ((gt a0.1 a1).2.1)).2.2) 0 h5 rfl p5 p6) 1 fun _ w4 h6=>?_
 replace h6:St w0 F0 [Yx ((a0.1.set ((gt a0.1 a1).1).toNat ((gt a0.1 ((gt a0.1 a1).1)).1,(gt a0.1 a1).2.1,(gt a0.1 ((gt a0.1 a1).1)).2.2)).set ((gt a0.1 a1).2.1).toNat ((gt a0.1 a1).1,(gt (a0.1.set ((gt a0.1 a1).1).toNat ((gt a0.1 ((gt a0.1 a1).1)).1,(gt a0.1 a1).2.1,(gt a0.1 ((gt a0.1 a1).1)).2.2)) ((gt a0.1 a1).2.1)).2.1,(gt (a0.1.set ((gt a0.1 a1).1).toNat ((gt a0.1 ((gt a0.1 a1).1)).1,(gt a0.1 a1).2.1,(gt a0.1 ((gt a0.1 a1).1)).2.2)) ((gt a0.1 a1).2.1)).2.2)) A1 c_1,Zfs b2 ((gt a0.1 a1).1) ((gt a0.1 a1).2.1) ((gt a0.1 a1).2.2),Yw b1 ((a0.1.set ((gt a0.1 a1).1).toNat ((gt a0.1 ((gt a0.1 a1).1)).1,(gt a0.1 a1).2.1,(gt a0.1 ((gt a0.1 a1).1)).2.2)).set ((gt a0.1 a1).2.1).toNat ((gt a0.1 a1).1,(gt (a0.1.set ((gt a0.1 a1).1).toNat ((gt a0.1 ((gt a0.1 a1).1)).1,(gt a0.1 a1).2.1,(gt a0.1 ((gt a0.1 a1).1)).2.2)) ((gt a0.1 a1).2.1)).2.1,(gt (a0.1.set ((gt a0.1 a1).1).toNat ((gt a0.1 ((gt a0.1 a1).1)).1,(gt a0.1 a1).2.1,(gt a0.1 ((gt a0.1 a1).1)).2.2)) ((gt a0.1 a1).2.1)).2.2)) A1 c_1 a0.2] _ _:=h6.retell (by simp only [length_set,length_nil,Yx,Zfs,Yw] <;> rfl)
 refine Y6 [0,1] ?_
 refine T8 (T6 (rRL 3 2 h6 ?_))
 refine Ze 2 ?_
 obtain ⟨⟨p7,p8⟩,H⟩:=Zh H
 refine Zj (Zc e1 p7 p8) ?_
 refine rS (Zn 0 (.pair (.int .i64) (.pair (.int .i64) .bool)) a1 (0,0,false) 0 h6 rfl p7 p8) fun _ w5 h7=>?_
 replace h7:St w0 F0 [Yx (((a0.1.set ((gt a0.1 a1).1).toNat ((gt a0.1 ((gt a0.1 a1).1)).1,(gt a0.1 a1).2.1,(gt a0.1 ((gt a0.1 a1).1)).2.2)).set ((gt a0.1 a1).2.1).toNat ((gt a0.1 a1).1,(gt (a0.1.set ((gt a0.1 a1).1).toNat ((gt a0.1 ((gt a0.1 a1).1)).1,(gt a0.1 a1).2.1,(gt a0.1 ((gt a0.1 a1).1)).2.2)) ((gt a0.1 a1).2.1)).2.1,(gt (a0.1.set ((gt a0.1 a1).1).toNat ((gt a0.1 ((gt a0.1 a1).1)).1,(gt a0.1 a1).2.1,(gt a0.1 ((gt a0.1 a1).1)).2.2)) ((gt a0.1 a1).2.1)).2.2)).set a1.toNat (0,0,false)) A1 c_1,Zfs b2 ((gt a0.1 a1).1) ((gt a0.1 a1).2.1) ((gt a0.1 a1).2.2),Yw b1 (((a0.1.set ((gt a0.1 a1).1).toNat ((gt a0.1 ((gt a0.1 a1).1)).1,(gt a0.1 a1).2.1,(gt a0.1 ((gt a0.1 a1).1)).2.2)).set ((gt a0.1 a1).2.1).toNat ((gt a0.1 a1).1,(gt (a0.1.set ((gt a0.1 a1).1).toNat ((gt a0.1 ((gt a0.1 a1).1)).1,(gt a0.1 a1).2.1,(gt a0.1 ((gt a0.1 a1).1)).2.2)) ((gt a0.1 a1).2.1)).2.1,(gt (a0.1.set ((gt a0.1 a1).1).toNat ((gt a0.1 ((gt a0.1 a1).1)).1,(gt a0.1 a1).2.1,(gt a0.1 ((gt a0.1 a1).1)).2.2)) ((gt a0.1 a1).2.1)).2.2)).set a1.toNat (0,0,false)) A1 c_1 a0.2] _ _:=h7.retell (by simp only [length_set,length_nil,Yx,Zfs,Yw] <;> rfl)
 refine rFi [0] ?_
 refine T6 (rRL 3 2 h7 ?_)
 refine Ze 3 ?_
 refine rS (Zt 2 h7) fun _ w6 h8=>?_
 refine rFi [] ?_
 cases H
 exact ⟨_,_,_,Zk,⟨_,_,rfl,rfl⟩,sO h8 [0,0]⟩

def Q27.f (a0:TC) (a1:Int):Option Tv:=(Q34.f a0 a1).bind fun r1=>(if (!decide (r1=0))=true then (some (r1,a0)) else (if 0<=a1/\a1<(a0.1.length:Int) then (if (!((gt a0.1 a1).2.2))=true then (some (9,a0)) else ((Q31.f a0 a1).bind fun r2=>(some (0,r2)))) else none))
theorem Q27.spec {a0 a1 b1 A1 c_1 r} (H:Q27.f a0 a1=some r) :
  Spec prog 56 [.pointer (some ⟨b1,0,none⟩),.int .i64 a1] (Vi a0 b1 A1 c_1) [] (fun v l=>∃ A_0 c_0,v=.int .i64 r.1/\l=Vi r.2 b1 A_0 c_0):=by
 refine Zf Tryz.func56 fun w0 F0 h0=>?_
 replace h0:=nf h0
 unfold Q27.f at H
 refine T8 (Za [0,1] ?_)
 refine T8 (T8 (T6 (Ze 2 ?_)))
 refine cS H [0,0] h0 rfl Q34.spec Zm fun r1 w1 H h1=>?_
 refine rFi [0,1,5] ?_
 refine T8 (Za [0,1,5,10] ?_)
 refine jIf H (fun c1 H=>?_) fun c1 H=>?_
 ·refine T8 (Za [4] ?_)
  cases H
  exact T7 (jR ⟨_,_,rfl,rfl⟩ h1 [0,0])
 refine T9 (T8 (T8 (T6 (rRL 3 0 h1 ?_))))
 refine Ze 1 ?_
 obtain ⟨⟨p1,p2⟩,H⟩:=Zh H
 have e1:=Zy h1.wh (gO 1) p1 p2
 refine Zj (Zc e1 p1 p2) ?_
 refine Ze 1 ?_
 refine Zj (Zd 2 h1.wht (gO 1) p1 p2) ?_
 refine rFi [0,1,20] ?_
 refine jIf H (fun c2 H=>?_) fun c2 H=>?_
 ·refine T8 (Za [4] ?_)
  cases H
  exact T7 (jR ⟨_,_,rfl,rfl⟩ h1 [0,0])
 refine T9 (T8 (T6 (Ze 2 ?_)))
 refine cE H [0,0] h1 rfl Q31.spec Zm ?_
 rintro r2 w2 _ _ H ⟨A2,c_2,rfl,rfl⟩ h2
 replace h2:=nf h2
 refine rFi [] ?_
 refine T8 (Za [4] ?_)
 cases H
 exact T7 (jR ⟨_,_,rfl,rfl⟩ h2 [0,0])

def Q23.f (a0:Ti) (a1:Int):Option (Ti):=if 0<=a1/\a1<(a0.2.1.length:Int) then ((Q27.f a0.2.2.2.2 a1).bind fun r1=>(if (a0.2.2.2.1.length+([a1]:List Int).length)*8<=140737488355328 then (some (a0.1,(a0.2.1.set a1.toNat (0,[],false,0)),(Wo ((gt a0.2.1 a1).1) a0.2.2.1),(a0.2.2.2.1 ++ [a1]),r1.2)) else none)) else none
theorem Q23.spec {a0 a1 b1 b2 b3 b4 A1 c_1 A2 c_2 A3 c_3 A4 c_4 r} (H:Q23.f a0 a1=some r) :
  Spec prog 106 [.pointer (some ⟨b1,0,none⟩),.int .i64 a1] (Ua a0 b1 b2 b3 b4 A1 A2 A3 A4 c_1 c_2 c_3 c_4) [] (fun v l=>∃ A_0 c_0 A_1 c_1 A_2 c_2 A_3 c_3,v=.tuple #[]/\l=Ua r b1 b2 b3 b4 A_0 A_1 A_2 A_3 c_0 c_1 c_2 c_3):=by
 refine Zf Tryz.func106 fun w0 F0 h0=>?_
 replace h0:=nf h0
 unfold Q23.f at H
 refine T8 (Zv (sO h0 [0,0,0,0,1,1,1]) ?_)
 have h1:=h0.drew
 refine Zr [0,1,2,4,5,6,8] ?_
 refine Zb 3 rfl (Zi 0 wI) ?_
 refine Zb 7 rfl (Zi 0 wI) ?_
 obtain ⟨⟨p1,p2⟩,H⟩:=Zh H
 have e1:=Zy h1.wh (gO 3) p1 p2
 refine Zb 9 rfl (Zc e1 p1 p2) ?_
 refine Zr [10] ?_
 refine Zb 11 rfl (Xa 0 wI (gO 3) p1 p2) ?_
 refine hS 12 rfl (Zmn Z3 (ix:=((gt a0.2.1 a1).1)) 4 rfl h1 rfl rfl rfl rfl rfl rfl rfl) 1 fun _ w1 h2=>?_
 refine Y6 [0,1] ?_
 refine T8 (T6 (rRL 3 1 h2 ?_))
 refine Ze 1 ?_
 refine cE H [6,6] h2 rfl Q27.spec Zm ?_
 rintro r1 w2 _ _ H ⟨A5,c_5,rfl,rfl⟩ h3
 replace h3:=nf h3
 refine rFi [0,1] ?_
 refine T8 (T6 (rRL 3 3 h3 ?_))
 refine Ze 2 ?_
 refine Zj (Zc e1 p1 p2) ?_
 have h4:=h3.addNil 5 (.int .u8)
 have h5:=(h4.only [7,0,0,0,0,0,0,0,0] rfl).both
 refine rS (V2 0 (.pair (.int .u32) (.pair (.slice 5 (.int .u8)) (.pair .bool (.int .i64)))) a1 (0,[],false,0) h5 p1 p2 Zfi) fun _ w3 h6=>?_
 replace h6:St w0 F0 [Xo (a0.2.1.set a1.toNat (0,[],false,0)) A2 c_2,Yw b4 r1.2.1 A5 c_5 r1.2.2,Yx r1.2.1 A5 c_5,Y5 .u32 (Value.int .i64) b3 (Wo ((gt a0.2.1 a1).1) a0.2.2.1),Xp b1 (.pointer (some ⟨b2,0,none⟩)) (a0.2.1.set a1.toNat (0,[],false,0)) A2 c_2 (.map (some b3)) a0.2.2.2.1 A3 c_3 (.pointer (some ⟨b4,0,none⟩)),Xc b2 a0.1.1 a0.1.2.1 A1 c_1 a0.1.2.2.1 a0.1.2.2.2,O5 a0.1.2.1 A1 c_1,O3 a0.2.2.2.1 A3 c_3] _ _:=h6.retell (by simp only [length_set,length_nil,Xo,Yx,O3,O5,Xp,Xc,Yw] <;> rfl)
 refine rFi [0,1] ?_
 refine T6 (rRL 4 4 h6 ?_)
 refine Ze 1 ?_
 refine rB (Zx (.int .i64) [a1] h6) fun b5 w4 h7=>?_
 obtain ⟨p3,H⟩:=Zh H
 refine Zp (Zs 8 h7 (gO 0) p3) ?_
 rintro _ w5 ⟨A6,c_6,rfl,h8⟩
 replace h8:=nf h8
 refine Ze 2 ?_
 refine rS (Zt 6 h8) fun _ w6 h9=>?_
 refine rFi [] ?_
 cases H
 exact ⟨_,_,_,Zk,⟨_,_,_,_,_,_,_,_,rfl,rfl⟩,sO h9 [0,6,6,2,4,0,1,1]⟩

def Q25.f (a0:Ti):Option (Int×Bool×Ti):=if (decide ((a0.2.2.2.1.length:Int)=0))=true then ((Q29.f a0.2.2.2.2).bind fun r1=>(if (!r1.2)=true then (some (0,false,a0)) else (if 0<=r1.1/\r1.1<(a0.2.1.length:Int) then (if (gt a0.2.1 r1.1).2.2.1=true then ((Q58.f a0.1 ((gt a0.2.1 r1.1).1) ((gt a0.2.1 r1.1).2.1)).bind fun r2=>((Q23.f (r2.2,(a0.2.1.set r1.1.toNat ((gt a0.2.1 r1.1).1,(gt a0.2.1 r1.1).2.1,false,(gt a0.2.1 r1.1).2.2.2)),a0.2.2.1,a0.2.2.2.1,a0.2.2.2.2) r1.1).bind fun r3=>(if 0<=(w64 ((r3.2.2.2.1.length:Int) - 1))/\(w64 ((r3.2.2.2.1.length:Int) - 1))<(r3.2.2.2.1.length:Int) then (if (0:Int)<=(w64 ((r3.2.2.2.1.length:Int) - 1))/\(w64 ((r3.2.2.2.1.length:Int) - 1))<=(r3.2.2.2.1.length:Int) then (some ((gt r3.2.2.2.1 (w64 ((r3.2.2.2.1.length:Int) - 1))),true,(r3.1,r3.2.1,r3.2.2.1,(r3.2.2.2.1.take ((w64 ((r3.2.2.2.1.length:Int) - 1))).toNat),r3.2.2.2.2))) else none) else none))) else ((Q23.f a0 r1.1).bind fun r4=>(if 0<=(w64 ((r4.2.2.2.1.length:Int) - 1))/\(w64 ((r4.2.2.2.1.length:Int) - 1))<(r4.2.2.2.1.length:Int) then (if (0:Int)<=(w64 ((r4.2.2.2.1.length:Int) - 1))/\(w64 ((r4.2.2.2.1.length:Int) - 1))<=(r4.2.2.2.1.length:Int) then (some ((gt r4.2.2.2.1 (w64 ((r4.2.2.2.1.length:Int) - 1))),true,(r4.1,r4.2.1,r4.2.2.1,(r4.2.2.2.1.take ((w64 ((r4.2.2.2.1.length:Int) - 1))).toNat),r4.2.2.2.2))) else none) else none))) else none))) else (if 0<=(w64 ((a0.2.2.2.1.length:Int) - 1))/\(w64 ((a0.2.2.2.1.length:Int) - 1))<(a0.2.2.2.1.length:Int) then (if (0:Int)<=(w64 ((a0.2.2.2.1.length:Int) - 1))/\(w64 ((a0.2.2.2.1.length:Int) - 1))<=(a0.2.2.2.1.length:Int) then (some ((gt a0.2.2.2.1 (w64 ((a0.2.2.2.1.length:Int) - 1))),true,(a0.1,a0.2.1,a0.2.2.1,(a0.2.2.2.1.take ((w64 ((a0.2.2.2.1.length:Int) - 1))).toNat),a0.2.2.2.2))) else none) else none)
theorem Q25.spec {a0 b1 b2 b3 b4 A1 c_1 A2 c_2 A3 c_3 A4 c_4 r} (H:Q25.f a0=some r) :
  Spec prog 57 [.pointer (some ⟨b1,0,none⟩)] (Ua a0 b1 b2 b3 b4 A1 A2 A3 A4 c_1 c_2 c_3 c_4) [] (fun v l=>∃ A_0 c_0 A_1 c_1 A_2 c_2 A_3 c_3,v=.tuple #[.int .i64 r.1,.bool r.2.1]/\l=Ua r.2.2 b1 b2 b3 b4 A_0 A_1 A_2 A_3 c_0 c_1 c_2 c_3):=by
 refine Zf Tryz.func57 fun w0 F0 h0=>?_
 replace h0:=nf h0
 unfold Q25.f at H
 refine T8 (Za [0] ?_)
 refine T8 (T8 (T6 (rRL 3 0 h0 ?_)))
 refine rFi [0,13] ?_
 refine jIf H (fun c1 H=>?_) fun c1 H=>?_
 ·refine T8 (T6 (rRL 3 0 h0 ?_))
  refine cS H [6,6] h0 rfl Q29.spec Zm fun r1 w1 H h1=>?_
  refine rFi [0,4,5] ?_
  refine T8 (T8 (Za [0,4,23] ?_))
  refine jIf H (fun c2 H=>?_) fun c2 H=>?_
  ·refine T8 (Za [2,3] ?_)
   cases H
   exact T7 (jR ⟨_,_,_,_,_,_,_,_,rfl,rfl⟩ h1 [2,2,2,2,2,2,0,0])
  refine T9 (T8 (T6 (rRL 4 2 h1 ?_)))
  refine Ze 1 ?_
  obtain ⟨⟨p1,p2⟩,H⟩:=Zh H
  have e1:=Zy h1.wh (gO 5) p1 p2
  refine Zj (Zc e1 p1 p2) ?_
  refine Xf Tryz.func105 ?_
  refine T8 (T6 (Ze 3 ?_))
  refine Zj (Xa 2 h1.wht (gO 5) p1 p2) ?_
  refine rFi [0,1,7] ?_
  refine jIf H (fun c3 H=>?_) fun c3 H=>?_
  ·refine T8 ?_
   obtain ⟨A5,c_5,h2⟩:=h1.openI 5 rfl p1 p2
   refine Zv (sO h2 [0,0,0,0,2,2]) ?_
   have h3:=h2.drew
   refine Zr [0,1,2,4,5,6,8,9,10] ?_
   refine Zb 3 rfl (Zi 3 wI) ?_
   refine Zb 7 rfl (Xa 0 wI (G5 0 Zqh) p1 p2) ?_
   refine Zb 11 rfl (Zb1 wI (Zg 0)) ?_
   refine cEJ 12 rfl H [4,4] h3 rfl Q58.spec (Xl (G5 0 Zj4) Zm) ?_
   rintro r2 w2 _ _ H ⟨A6,c_6,rfl,rfl⟩ h4
   replace h4:=nf h4
   refine ⟨⟨[_,_],h4⟩,?_⟩
   refine Y6 [1] ?_
   have h5:=h4.closeI 2 rfl
   refine T6 (Ze 3 ?_)
   refine rS (Vg 2 (.pair (.int .u32) (.pair (.slice 5 (.int .u8)) (.pair .bool (.int .i64)))) r1.1 ((gt a0.2.1 r1.1).1,(gt a0.2.1 r1.1).2.1,false,(gt a0.2.1 r1.1).2.2.2) 0 h5 rfl p1 p2 (Zaz rfl rfl)) fun _ w3 h6=>?_
   replace h6:St w0 F0 [Xo (a0.2.1.set r1.1.toNat ((gt a0.2.1 r1.1).1,(gt a0.2.1 r1.1).2.1,false,(gt a0.2.1 r1.1).2.2.2)) A2 c_2,Xc b2 r2.2.1 r2.2.2.1 A6 c_6 r2.2.2.2.1 r2.2.2.2.2,O5 r2.2.2.1 A6 c_6,Yw b4 a0.2.2.2.2.1 A4 c_4 a0.2.2.2.2.2,Yx a0.2.2.2.2.1 A4 c_4,Xp b1 (.pointer (some ⟨b2,0,none⟩)) (a0.2.1.set r1.1.toNat ((gt a0.2.1 r1.1).1,(gt a0.2.1 r1.1).2.1,false,(gt a0.2.1 r1.1).2.2.2)) A2 c_2 (.map (some b3)) a0.2.2.2.1 A3 c_3 (.pointer (some ⟨b4,0,none⟩)),Y5 .u32 (Value.int .i64) b3 a0.2.2.1,O3 a0.2.2.2.1 A3 c_3] _ _:=h6.retell (by simp only [length_set,length_nil,Xo,Yx,O3,O5,Xp,Xc,Yw] <;> rfl)
   refine rFi [] ?_
   refine ⟨_,Zk,?_⟩
   refine rFi [0,4] ?_
   refine T6 (Ze 2 ?_)
   refine cE H [5,1,1,0,2,2,0,0] h6 rfl Q23.spec Zm ?_
   rintro r3 w4 _ _ H ⟨A7,c_7,A8,c_8,A9,c_9,A10,c_10,rfl,rfl⟩ h7
   replace h7:=nf h7
   refine rFi [0] ?_
   refine T8 (T6 (rRL 3 0 h7 ?_))
   refine rFi [0,6] ?_
   refine T8 (T6 (rRL 3 0 h7 ?_))
   refine Ze 1 ?_
   obtain ⟨⟨p3,p4⟩,H⟩:=Zh H
   have e2:=Zy h7.wh (gO 5) p3 p4
   refine Zj (Zc e2 p3 p4) ?_
   refine Zj (Zd 0 h7.wht (gO 5) p3 p4) ?_
   refine rFi [0,6,7] ?_
   refine T8 (T6 (rRL 4 0 h7 ?_))
   refine Ze 1 ?_
   obtain ⟨⟨p5,p6⟩,H⟩:=Zh H
   have e3:=h7.cap (gO 5)
   refine Zj (X6 (r3.2.2.2.1.take ((w64 ((r3.2.2.2.1.length:Int) - 1))).toNat) (w64 ((r3.2.2.2.1.length:Int) - 1)) e3 p5 p6) ?_
   refine Ze 2 ?_
   refine rS (Zt 0 h7) fun _ w5 h8=>?_
   refine rFi [7] ?_
   refine T8 (Za [2,3] ?_)
   have h9:=h8.front (ty:=(.int .i64)) rfl 5 (w64 ((r3.2.2.2.1.length:Int) - 1)).toNat rfl (by omega)
   cases H
   exact T7 (jR ⟨_,_,_,_,_,_,_,_,rfl,rfl⟩ h9 [1,1,1,1,1,0,0,0])
  refine T9 (⟨_,Zk,?_⟩)
  refine rFi [0,4] ?_
  refine T6 (Ze 2 ?_)
  refine cE H [2,2,2,2,2,2,0,0] h1 rfl Q23.spec Zm ?_
  rintro r4 w6 _ _ H ⟨A11,c_11,A12,c_12,A13,c_13,A14,c_14,rfl,rfl⟩ h10
  replace h10:=nf h10
  refine rFi [0] ?_
  refine T8 (T6 (rRL 3 0 h10 ?_))
  refine rFi [0,6] ?_
  refine T8 (T6 (rRL 3 0 h10 ?_))
  refine Ze 1 ?_
  obtain ⟨⟨p7,p8⟩,H⟩:=Zh H
  have e4:=Zy h10.wh (gO 5) p7 p8
  refine Zj (Zc e4 p7 p8) ?_
  refine Zj (Zd 0 h10.wht (gO 5) p7 p8) ?_
  refine rFi [0,6,7] ?_
  refine T8 (T6 (rRL 4 0 h10 ?_))
  refine Ze 1 ?_
  obtain ⟨⟨p9,p10⟩,H⟩:=Zh H
  have e5:=h10.cap (gO 5)
  refine Zj (X6 (r4.2.2.2.1.take ((w64 ((r4.2.2.2.1.length:Int) - 1))).toNat) (w64 ((r4.2.2.2.1.length:Int) - 1)) e5 p9 p10) ?_
  refine Ze 2 ?_
  refine rS (Zt 0 h10) fun _ w7 h11=>?_
  refine rFi [7] ?_
  refine T8 (Za [2,3] ?_)
  have h12:=h11.front (ty:=(.int .i64)) rfl 5 (w64 ((r4.2.2.2.1.length:Int) - 1)).toNat rfl (by omega)
  cases H
  exact T7 (jR ⟨_,_,_,_,_,_,_,_,rfl,rfl⟩ h12 [1,1,1,1,1,0,0,0])
 refine T9 (T8 (T6 (rRL 3 0 h0 ?_)))
 refine rFi [0,6] ?_
 refine T8 (T6 (rRL 3 0 h0 ?_))
 refine Ze 1 ?_
 obtain ⟨⟨p11,p12⟩,H⟩:=Zh H
 have e6:=Zy h0.wh (gO 5) p11 p12
 refine Zj (Zc e6 p11 p12) ?_
 refine Zj (Zd 0 h0.wht (gO 5) p11 p12) ?_
 refine rFi [0,6,7] ?_
 refine T8 (T6 (rRL 4 0 h0 ?_))
 refine Ze 1 ?_
 obtain ⟨⟨p13,p14⟩,H⟩:=Zh H
 have e7:=h0.cap (gO 5)
 refine Zj (X6 (a0.2.2.2.1.take ((w64 ((a0.2.2.2.1.length:Int) - 1))).toNat) (w64 ((a0.2.2.2.1.length:Int) - 1)) e7 p13 p14) ?_
 refine Ze 2 ?_
 refine rS (Zt 0 h0) fun _ w8 h13=>?_
 refine rFi [7] ?_
 refine T8 (Za [2,3] ?_)
 have h14:=h13.front (ty:=(.int .i64)) rfl 5 (w64 ((a0.2.2.2.1.length:Int) - 1)).toNat rfl (by omega)
 cases H
 exact T7 (jR ⟨_,_,_,_,_,_,_,_,rfl,rfl⟩ h14 [1,1,1,1,1,0,0,0])

def Q18.f (a0:Ti) (a1:Int):Option Th:=(Q26.f a0 a1).bind fun r1=>(if (!decide (r1=0))=true then (some (r1,a0)) else (if (Y7 a0.2.2.1 a1)=true then (if 0<=(Zq (0:Int) a0.2.2.1 a1)/\(Zq (0:Int) a0.2.2.1 a1)<(a0.2.1.length:Int) then (if (decide (0<((gt a0.2.1 (Zq (0:Int) a0.2.2.1 a1)).2.2.2)))=true then (some (8,a0)) else (if (!(Y7 a0.2.2.1 a1))=true then ((Q25.f a0).bind fun r4=>(if (!r4.2.1)=true then (some (7,r4.2.2)) else ((Q55.f (r4.2.2.1.1,r4.2.2.1.2.1,(r4.2.2.1.2.2.1,r4.2.2.1.2.2.2))).bind fun r2=>(if 0<=r2/\r2*1<=281474976710656 then (if 0<=r4.1/\r4.1<(r4.2.2.2.1.length:Int) then ((Q27.f (r4.2.2.2.2.2.2.1,r4.2.2.2.2.2.2.2) r4.1).bind fun r3=>(some (0,((r4.2.2.1.1,r4.2.2.1.2.1,(r4.2.2.1.2.2.1,r4.2.2.1.2.2.2)),(r4.2.2.2.1.set r4.1.toNat (a1,(List.replicate r2.toNat (0:Int)),true,1)),(Ul a1 r4.1 r4.2.2.2.2.1),r4.2.2.2.2.2.1,r3.2)))) else none) else none)))) else ((Q55.f (a0.1.1,a0.1.2.1,(a0.1.2.2.1,a0.1.2.2.2))).bind fun r2=>(if 0<=r2/\r2*1<=281474976710656 then (if 0<=(Zq (0:Int) a0.2.2.1 a1)/\(Zq (0:Int) a0.2.2.1 a1)<(a0.2.1.length:Int) then ((Q27.f (a0.2.2.2.2.1,a0.2.2.2.2.2) (Zq (0:Int) a0.2.2.1 a1)).bind fun r3=>(some (0,((a0.1.1,a0.1.2.1,(a0.1.2.2.1,a0.1.2.2.2)),(a0.2.1.set (Zq (0:Int) a0.2.2.1 a1).toNat (a1,(List.replicate r2.toNat (0:Int)),true,1)),(Ul a1 (Zq (0:Int) a0.2.2.1 a1) a0.2.2.1),a0.2.2.2.1,r3.2)))) else none) else none)))) else none) else (if (!(Y7 a0.2.2.1 a1))=true then ((Q25.f a0).bind fun r5=>(if (!r5.2.1)=true then (some (7,r5.2.2)) else ((Q55.f (r5.2.2.1.1,r5.2.2.1.2.1,(r5.2.2.1.2.2.1,r5.2.2.1.2.2.2))).bind fun r2=>(if 0<=r2/\r2*1<=281474976710656 then (if 0<=r5.1/\r5.1<(r5.2.2.2.1.length:Int) then ((Q27.f (r5.2.2.2.2.2.2.1,r5.2.2.2.2.2.2.2) r5.1).bind fun r3=>(some (0,((r5.2.2.1.1,r5.2.2.1.2.1,(r5.2.2.1.2.2.1,r5.2.2.1.2.2.2)),(r5.2.2.2.1.set r5.1.toNat (a1,(List.replicate r2.toNat (0:Int)),true,1)),(Ul a1 r5.1 r5.2.2.2.2.1),r5.2.2.2.2.2.1,r3.2)))) else none) else none)))) else ((Q55.f (a0.1.1,a0.1.2.1,(a0.1.2.2.1,a0.1.2.2.2))).bind fun r2=>(if 0<=r2/\r2*1<=281474976710656 then (if 0<=(Zq (0:Int) a0.2.2.1 a1)/\(Zq (0:Int) a0.2.2.1 a1)<(a0.2.1.length:Int) then ((Q27.f (a0.2.2.2.2.1,a0.2.2.2.2.2) (Zq (0:Int) a0.2.2.1 a1)).bind fun r3=>(some (0,((a0.1.1,a0.1.2.1,(a0.1.2.2.1,a0.1.2.2.2)),(a0.2.1.set (Zq (0:Int) a0.2.2.1 a1).toNat (a1,(List.replicate r2.toNat (0:Int)),true,1)),(Ul a1 (Zq (0:Int) a0.2.2.1 a1) a0.2.2.1),a0.2.2.2.1,r3.2)))) else none) else none)))))
theorem Q18.spec {a0 a1 b1 b2 b3 b4 A1 c_1 A2 c_2 A3 c_3 A4 c_4 r} (H:Q18.f a0 a1=some r) :
  Spec prog 76 [.pointer (some ⟨b1,0,none⟩),.int .u32 a1] (Ua a0 b1 b2 b3 b4 A1 A2 A3 A4 c_1 c_2 c_3 c_4) [] (fun v l=>∃ A_0 c_0 A_1 c_1 A_2 c_2 A_3 c_3,v=.int .i64 r.1/\l=Ua r.2 b1 b2 b3 b4 A_0 A_1 A_2 A_3 c_0 c_1 c_2 c_3):=by
 refine Zf Tryz.func76 fun w0 F0 h0=>?_
 replace h0:=nf h0
 unfold Q18.f at H
 refine T8 (Za [0,1] ?_)
 refine T8 (T8 (T6 (Ze 2 ?_)))
 refine cS H [0,0,0,0,0,0,0,0] h0 rfl Q26.spec Zm fun r1 w1 H h1=>?_
 refine rFi [0,1,5] ?_
 refine T8 (Za [0,1,5,12] ?_)
 refine jIf H (fun c1 H=>?_) fun c1 H=>?_
 ·refine T8 (Za [4] ?_)
  cases H
  exact T7 (jR ⟨_,_,_,_,_,_,_,_,rfl,rfl⟩ h1 [0,0,0,0,0,0,0,0])
 refine T9 (T8 (T6 (rRL 3 0 h1 ?_)))
 refine Ze 1 ?_
 refine Zj (W9 (0:Int) 4 h1.wht) ?_
 refine rFi [0,1,6,7] ?_
 refine T8 (T5 (fun env w=>∃(x1:Int) (x2:TW) (A5:_) (c_5:_) (x3:Int) (x4:Int) (x5:Tw) (A6:_) (c_6:_) (x6:TM) (x7:TW) (A7:_) (c_7:_) (x8:TF) (A8:_) (c_8:_) (x9:Int) (x10:Int),env=[(0,.pointer (some ⟨b1,0,none⟩)),(1,.int .u32 a1),(6,.int .i64 x10)]/\St w0 F0 [Xp b1 (.pointer (some ⟨b2,0,none⟩)) x5 A6 c_6 (.map (some b3)) x7 A7 c_7 (.pointer (some ⟨b4,0,none⟩)),Xc b2 x1 x2 A5 c_5 x3 x4,Y5 .u32 (Value.int .i64) b3 x6,Yw b4 x8 A8 c_8 x9,O5 x2 A5 c_5,Xo x5 A6 c_6,O3 x7 A7 c_7,Yx x8 A8 c_8] [] w/\((Q55.f (x1,x2,(x3,x4))).bind fun r2=>(if 0<=r2/\r2*1<=281474976710656 then (if 0<=x10/\x10<(x5.length:Int) then ((Q27.f (x8,x9) x10).bind fun r3=>(some (0,((x1,x2,(x3,x4)),(x5.set x10.toNat (a1,(List.replicate r2.toNat (0:Int)),true,1)),(Ul a1 x10 x6),x7,r3.2)))) else none) else none))=some r) ?_ ?_)
 ·refine T0 (T8 (T6 (Ze 2 ?_)))
  refine Z7 25 H (fun c2 H=>?_) fun c2 H=>?_
  ·refine rRL 3 0 h1 ?_
   refine Ze 1 ?_
   obtain ⟨⟨p5,p6⟩,H⟩:=Zh H
   have e2:=Zy h1.wh (gO 3) p5 p6
   refine Zj (Zc e2 p5 p6) ?_
   refine Ze 1 ?_
   refine Zj (Xa 3 h1.wht (gO 3) p5 p6) ?_
   refine rFi [0,1,6,7,23] ?_
   refine jIf H (fun c3 H=>?_) fun c3 H=>?_
   ·refine T8 (Za [4] ?_)
    cases H
    exact T7 (jR ⟨_,_,_,_,_,_,_,_,rfl,rfl⟩ h1 [0,0,0,0,0,0,0,0])
   refine T8 (Za [0,1,6,36] ?_)
   refine jIf H (fun c4 H=>?_) fun c4 H=>?_
   ·refine T8 (T6 (Ze 1 ?_))
    refine cE H [0,0,0,0,0,0,0,0] h1 rfl Q25.spec Zm ?_
    rintro r4 w11 _ _ H ⟨A10,c_10,A11,c_11,A12,c_12,A13,c_13,rfl,rfl⟩ h13
    replace h13:=nf h13
    refine rFi [0,1,6,7] ?_
    refine T8 (Za [0,1,6,45] ?_)
    refine jIf H (fun c5 H=>?_) fun c5 H=>?_
    ·refine T8 (Za [4] ?_)
     cases H
     exact T7 (jR ⟨_,_,_,_,_,_,_,_,rfl,rfl⟩ h13 [0,0,0,0,0,0,0,0])
    refine Wf [0,1,6] ?_
    refine T9 ?_
    have h14:=(sOR h13 [0,0,2,3,0,0,0,0] [])
    exact ⟨r4.2.2.1.1,r4.2.2.1.2.1,A10,c_10,r4.2.2.1.2.2.1,r4.2.2.1.2.2.2,r4.2.2.2.1,A11,c_11,r4.2.2.2.2.1,r4.2.2.2.2.2.1,A12,c_12,r4.2.2.2.2.2.2.1,A13,c_13,r4.2.2.2.2.2.2.2,r4.1,rfl,h14,H⟩
   refine Wf [0,1,6] ?_
   refine T9 ?_
   have h15:=(sOR h1 [0,0,2,3,0,0,0,0] [])
   exact ⟨a0.1.1,a0.1.2.1,A1,c_1,a0.1.2.2.1,a0.1.2.2.2,a0.2.1,A2,c_2,a0.2.2.1,a0.2.2.2.1,A3,c_3,a0.2.2.2.2.1,A4,c_4,a0.2.2.2.2.2,(Zq (0:Int) a0.2.2.1 a1),rfl,h15,H⟩
  refine rFi [0,1,6,7,23] ?_
  refine Z1 ?_
  refine T8 (Za [0,1,6,36] ?_)
  refine jIf H (fun c6 H=>?_) fun c6 H=>?_
  ·refine T8 (T6 (Ze 1 ?_))
   refine cE H [0,0,0,0,0,0,0,0] h1 rfl Q25.spec Zm ?_
   rintro r5 w12 _ _ H ⟨A14,c_14,A15,c_15,A16,c_16,A17,c_17,rfl,rfl⟩ h16
   replace h16:=nf h16
   refine rFi [0,1,6,7] ?_
   refine T8 (Za [0,1,6,45] ?_)
   refine jIf H (fun c7 H=>?_) fun c7 H=>?_
   ·refine T8 (Za [4] ?_)
    cases H
    exact T7 (jR ⟨_,_,_,_,_,_,_,_,rfl,rfl⟩ h16 [0,0,0,0,0,0,0,0])
   refine Wf [0,1,6] ?_
   refine T9 ?_
   have h17:=(sOR h16 [0,0,2,3,0,0,0,0] [])
   exact ⟨r5.2.2.1.1,r5.2.2.1.2.1,A14,c_14,r5.2.2.1.2.2.1,r5.2.2.1.2.2.2,r5.2.2.2.1,A15,c_15,r5.2.2.2.2.1,r5.2.2.2.2.2.1,A16,c_16,r5.2.2.2.2.2.2.1,A17,c_17,r5.2.2.2.2.2.2.2,r5.1,rfl,h17,H⟩
  refine Wf [0,1,6] ?_
  refine T9 ?_
  have h18:=(sOR h1 [0,0,2,3,0,0,0,0] [])
  exact ⟨a0.1.1,a0.1.2.1,A1,c_1,a0.1.2.2.1,a0.1.2.2.2,a0.2.1,A2,c_2,a0.2.2.1,a0.2.2.2.1,A3,c_3,a0.2.2.2.2.1,A4,c_4,a0.2.2.2.2.2,(Zq (0:Int) a0.2.2.1 a1),rfl,h18,H⟩
 rintro env w3 ⟨x1,x2,A5,c_5,x3,x4,x5,A6,c_6,x6,x7,A7,c_7,x8,A8,c_8,x9,x10,rfl,h2,H⟩
 refine T8 (T6 (rRL 6 0 h2 ?_))
 refine cS H [1,3] h2 rfl Q55.spec Zm fun r2 w4 H h3=>?_
 obtain ⟨⟨p1,p2⟩,H⟩:=Zh H
 refine rB (Zaj Z3 (ty:=(.int .u8)) rfl (0:Int) rfl rfl rfl rfl rfl rfl rfl (by decide) h3 p1 p2) fun b5 w5 h4=>?_
 refine Ze 1 ?_
 refine Xf Tryz.func59 ?_
 refine T8 (T6 (rB (Z5 h4) fun b6 w6 h5=>?_))
 refine rFi [0,1,5] ?_
 refine T8 (T6 (Ze 1 ?_))
 refine rS (Zt 0 h5) fun _ w7 h6=>?_
 refine rFi [0,1,5] ?_
 refine T8 (Zv (sO h6 [0,1,1,1,1,1,2,2]) ?_)
 have h7:=h6.drew
 refine Zr [0,1,2,4] ?_
 refine Zb 3 rfl (Zi 3 wI) ?_
 refine Zb 5 rfl (Zi 0 wI) ?_
 obtain ⟨⟨p3,p4⟩,H⟩:=Zh H
 have e1:=Zy h7.wh (gO 7) p3 p4
 refine Zb 6 rfl (Zc e1 p3 p4) ?_
 have h8:=(h7.only [7,1,0,0,0,0,0,0,0,0] rfl).both
 refine hS 7 rfl (V2 0 (.pair (.int .u32) (.pair (.slice 5 (.int .u8)) (.pair .bool (.int .i64)))) x10 (a1,(List.replicate r2.toNat (0:Int)),true,1) h8 p3 p4 Zfi) 1 fun _ w8 h9=>?_
 replace h9:St w0 F0 [Xo (x5.set x10.toNat (a1,(List.replicate r2.toNat (0:Int)),true,1)) A6 c_6,Zmb b6 a1 (List.replicate r2.toNat (0:Int)) (some ⟨b5,0,none⟩) (r2.toNat) true 1,Xc b2 x1 x2 A5 c_5 x3 x4,O5 x2 A5 c_5,Xp b1 (.pointer (some ⟨b2,0,none⟩)) (x5.set x10.toNat (a1,(List.replicate r2.toNat (0:Int)),true,1)) A6 c_6 (.map (some b3)) x7 A7 c_7 (.pointer (some ⟨b4,0,none⟩)),Y5 .u32 (Value.int .i64) b3 x6,Yw b4 x8 A8 c_8 x9,O3 x7 A7 c_7,Yx x8 A8 c_8] _ _:=h9.retell (by simp only [length_set,length_nil,Xo,Yx,O3,O5,Xp,Zmb,Xc,Yw] <;> rfl)
 refine Y6 [0,1,5] ?_
 refine T8 (Zv (sO h9 [0,0,0,0,0,1,1,1]) ?_)
 have h10:=h9.drew
 refine Zr [0,1,2,4,6] ?_
 refine Zb 3 rfl (Zi 4 wI) ?_
 refine Zb 5 rfl (Zi 1 wI) ?_
 refine hS 7 rfl (Zgo Z3 (v:=x10) (ix:=a1) 5 rfl h10 rfl rfl rfl rfl rfl rfl rfl rfl rfl) 1 fun _ w9 h11=>?_
 refine Y6 [0,1] ?_
 refine T6 (rRL 3 5 h11 ?_)
 refine Ze 1 ?_
 refine cE H [6,7] h11 rfl Q27.spec Zm ?_
 rintro r3 w10 _ _ H ⟨A9,c_9,rfl,rfl⟩ h12
 replace h12:=nf h12
 refine rFi [] ?_
 refine ⟨_,Zk,?_⟩
 refine rFi [] ?_
 refine T8 (Za [4] ?_)
 cases H
 exact T7 (jR ⟨_,_,_,_,_,_,_,_,rfl,rfl⟩ h12 [7,5,5,3,2,3,0,0])

def Q32.f (a0:TC) (a1:Int) (a2:Int):Option (TC):=if 0<=a2/\a2<(a0.1.length:Int) then (if 0<=a1/\a1<(a0.1.length:Int) then (if 0<=a2/\a2<((a0.1.set a1.toNat (a2,(gt a0.1 a2).2.1,true)).length:Int) then (if 0<=((gt a0.1 a2).2.1)/\((gt a0.1 a2).2.1)<(((a0.1.set a1.toNat (a2,(gt a0.1 a2).2.1,true)).set a2.toNat ((gt (a0.1.set a1.toNat (a2,(gt a0.1 a2).2.1,true)) a2).1,a1,(gt (a0.1.set a1.toNat (a2,(gt a0.1 a2).2.1,true)) a2).2.2)).length:Int) then (some ((((a0.1.set a1.toNat (a2,(gt a0.1 a2).2.1,true)).set a2.toNat ((gt (a0.1.set a1.toNat (a2,(gt a0.1 a2).2.1,true)) a2).1,a1,(gt (a0.1.set a1.toNat (a2,(gt a0.1 a2).2.1,true)) a2).2.2)).set ((gt a0.1 a2).2.1).toNat (a1,(gt ((a0.1.set a1.toNat (a2,(gt a0.1 a2).2.1,true)).set a2.toNat ((gt (a0.1.set a1.toNat (a2,(gt a0.1 a2).2.1,true)) a2).1,a1,(gt (a0.1.set a1.toNat (a2,(gt a0.1 a2).2.1,true)) a2).2.2)) ((gt a0.1 a2).2.1)).2.1,(gt ((a0.1.set a1.toNat (a2,(gt a0.1 a2).2.1,true)).set a2.toNat ((gt (a0.1.set a1.toNat (a2,(gt a0.1 a2).2.1,true)) a2).1,a1,(gt (a0.1.set a1.toNat (a2,(gt a0.1 a2).2.1,true)) a2).2.2)) ((gt a0.1 a2).2.1)).2.2)),(w64 (a0.2+1)))) else none) else none) else none) else none
theorem Q32.spec {a0 a1 a2 b1 A1 c_1 r} (H:Q32.f a0 a1 a2=some r) :
  Spec prog 108 [.pointer (some ⟨b1,0,none⟩),.int .i64 a1,.int .i64 a2] (Vi a0 b1 A1 c_1) [] (fun v l=>∃ A_0 c_0,v=.tuple #[]/\l=Vi r b1 A_0 c_0):=by
 refine Zf Tryz.func108 fun w0 F0 h0=>?_
 replace h0:=nf h0
 unfold Q32.f at H
 refine T8 (T6 (rRL 3 0 h0 ?_))
 refine Ze 1 ?_
 obtain ⟨⟨p1,p2⟩,H⟩:=Zh H
 have e1:=Zy h0.wh (gO 1) p1 p2
 refine Zj (Zc e1 p1 p2) ?_
 refine Ze 1 ?_
 refine Zj (Zd 1 h0.wht (gO 1) p1 p2) ?_
 refine rFi [0,1,2,6] ?_
 refine T8 (T6 (rRL 3 0 h0 ?_))
 refine Ze 4 ?_
 obtain ⟨⟨p3,p4⟩,H⟩:=Zh H
 refine Zj (Zc e1 p3 p4) ?_
 refine rS (Zn 0 (.pair (.int .i64) (.pair (.int .i64) .bool)) a1 (a2,(gt a0.1 a2).2.1,true) 1 h0 rfl p3 p4) fun _ w1 h1=>?_
 replace h1:St w0 F0 [Yx (a0.1.set a1.toNat (a2,(gt a0.1 a2).2.1,true)) A1 c_1,Yw b1 (a0.1.set a1.toNat (a2,(gt a0.1 a2).2.1,true)) A1 c_1 a0.2] _ _:=h1.retell (by simp only [length_set,length_nil,Yx,Yw] <;> rfl)
 refine rFi [0,1,2,6] ?_
 refine T8 (T6 (rRL 3 1 h1 ?_))
 refine Ze 2 ?_
 obtain ⟨⟨p5,p6⟩,H⟩:=Zh H
 refine Zj (Zc e1 p5 p6) ?_
 refine Ze 1 ?_
 refine rS (Zn 1 (.pair (.int .i64) (.pair (.int .i64) .bool)) a2 ((gt (a0.1.set a1.toNat (a2,(gt a0.1 a2).2.1,true)) a2).1,a1,(gt (a0.1.set a1.toNat (a2,(gt a0.1 a2).2.1,true)) a2).2.2) 0 h1 rfl p5 p6) fun _ w2 h2=>?_
 replace h2:St w0 F0 [Yx ((a0.1.set a1.toNat (a2,(gt a0.1 a2).2.1,true)).set a2.toNat ((gt (a0.1.set a1.toNat (a2,(gt a0.1 a2).2.1,true)) a2).1,a1,(gt (a0.1.set a1.toNat (a2,(gt a0.1 a2).2.1,true)) a2).2.2)) A1 c_1,Yw b1 ((a0.1.set a1.toNat (a2,(gt a0.1 a2).2.1,true)).set a2.toNat ((gt (a0.1.set a1.toNat (a2,(gt a0.1 a2).2.1,true)) a2).1,a1,(gt (a0.1.set a1.toNat (a2,(gt a0.1 a2).2.1,true)) a2).2.2)) A1 c_1 a0.2] _ _:=h2.retell (by simp only [length_set,length_nil,Yx,Yw] <;> rfl)
 refine rFi [0,1,6] ?_
 refine T8 (T6 (rRL 3 1 h2 ?_))
 refine Ze 2 ?_
 obtain ⟨⟨p7,p8⟩,H⟩:=Zh H
 refine Zj (Zc e1 p7 p8) ?_
 refine Ze 1 ?_
 refine rS (Zn 0 (.pair (.int .i64) (.pair (.int .i64) .bool)) ((gt a0.1 a2).2.1) (a1,(gt ((a0.1.set a1.toNat (a2,(gt a0.1 a2).2.1,true)).set a2.toNat ((gt (a0.1.set a1.toNat (a2,(gt a0.1 a2).2.1,true)) a2).1,a1,(gt (a0.1.set a1.toNat (a2,(gt a0.1 a2).2.1,true)) a2).2.2)) ((gt a0.1 a2).2.1)).2.1,(gt ((a0.1.set a1.toNat (a2,(gt a0.1 a2).2.1,true)).set a2.toNat ((gt (a0.1.set a1.toNat (a2,(gt a0.1 a2).2.1,true)) a2).1,a1,(gt (a0.1.set a1.toNat (a2,(gt a0.1 a2).2.1,true)) a2).2.2)) ((gt a0.1 a2).2.1)).2.2) 0 h2 rfl p7 p8) fun _ w3 h3=>?_
 replace h3:St w0 F0 [Yx (((a0.1.set a1.toNat (a2,(gt a0.1 a2).2.1,true)).set a2.toNat ((gt (a0.1.set a1.toNat (a2,(gt a0.1 a2).2.1,true)) a2).1,a1,(gt (a0.1.set a1.toNat (a2,(gt a0.1 a2).2.1,true)) a2).2.2)).set ((gt a0.1 a2).2.1).toNat (a1,(gt ((a0.1.set a1.toNat (a2,(gt a0.1 a2).2.1,true)).set a2.toNat ((gt (a0.1.set a1.toNat (a2,(gt a0.1 a2).2.1,true)) a2).1,a1,(gt (a0.1.set a1.toNat (a2,(gt a0.1 a2).2.1,true)) a2).2.2)) ((gt a0.1 a2).2.1)).2.1,(gt ((a0.1.set a1.toNat (a2,(gt a0.1 a2).2.1,true)).set a2.toNat ((gt (a0.1.set a1.toNat (a2,(gt a0.1 a2).2.1,true)) a2).1,a1,(gt (a0.1.set a1.toNat (a2,(gt a0.1 a2).2.1,true)) a2).2.2)) ((gt a0.1 a2).2.1)).2.2)) A1 c_1,Yw b1 (((a0.1.set a1.toNat (a2,(gt a0.1 a2).2.1,true)).set a2.toNat ((gt (a0.1.set a1.toNat (a2,(gt a0.1 a2).2.1,true)) a2).1,a1,(gt (a0.1.set a1.toNat (a2,(gt a0.1 a2).2.1,true)) a2).2.2)).set ((gt a0.1 a2).2.1).toNat (a1,(gt ((a0.1.set a1.toNat (a2,(gt a0.1 a2).2.1,true)).set a2.toNat ((gt (a0.1.set a1.toNat (a2,(gt a0.1 a2).2.1,true)) a2).1,a1,(gt (a0.1.set a1.toNat (a2,(gt a0.1 a2).2.1,true)) a2).2.2)) ((gt a0.1 a2).2.1)).2.1,(gt ((a0.1.set a1.toNat (a2,(gt a0.1 a2).2.1,true)).set a2.toNat ((gt (a0.1.set a1.toNat (a2,(gt a0.1 a2).2.1,true)) a2).1,a1,(gt (a0.1.set a1.toNat (a2,(gt a0.1 a2).2.1,true)) a2).2.2)) ((gt a0.1 a2).2.1)).2.2)) A1 c_1 a0.2] _ _:=h3.retell (by simp only [length_set,length_nil,Yx,Yw] <;> rfl)
 refine rFi [0] ?_
 refine T6 (rRL 3 1 h3 ?_)
 refine Ze 3 ?_
 refine rS (Zt 1 h3) fun _ w4 h4=>?_
 refine rFi [] ?_
 cases H
 exact ⟨_,_,_,Zk,⟨_,_,rfl,rfl⟩,sO h4 [0,0]⟩

def Q28.f (a0:TC) (a1:Int):Option Tv:=(Q34.f a0 a1).bind fun r1=>(if (decide (r1=0))=true then ((Q31.f a0 a1).bind fun r2=>((Q33.f r2).bind fun r3=>((Q32.f r2 a1 r3).bind fun r4=>(some (r1,r4))))) else (some (r1,a0)))
theorem Q28.spec {a0 a1 b1 A1 c_1 r} (H:Q28.f a0 a1=some r) :
  Spec prog 62 [.pointer (some ⟨b1,0,none⟩),.int .i64 a1] (Vi a0 b1 A1 c_1) [] (fun v l=>∃ A_0 c_0,v=.int .i64 r.1/\l=Vi r.2 b1 A_0 c_0):=by
 refine Zf Tryz.func62 fun w0 F0 h0=>?_
 replace h0:=nf h0
 unfold Q28.f at H
 refine T8 (Za [0,1] ?_)
 refine T8 (T6 (Ze 2 ?_))
 refine cS H [0,0] h0 rfl Q34.spec Zm fun r1 w1 H h1=>?_
 refine rFi [0,1,5] ?_
 refine T8 (T8 (Za [0,1,5,10] ?_))
 refine jIf H (fun c1 H=>?_) fun c1 H=>?_
 ·refine T8 (T6 (Ze 2 ?_))
  refine cE H [0,0] h1 rfl Q31.spec Zm ?_
  rintro r2 w2 _ _ H ⟨A2,c_2,rfl,rfl⟩ h2
  replace h2:=nf h2
  refine rFi [0,1,5] ?_
  refine T6 (Ze 3 ?_)
  refine cS H [0,0] h2 rfl Q33.spec Zm fun r3 w3 H h3=>?_
  refine cE H [0,0] h3 rfl Q32.spec Zm ?_
  rintro r4 w4 _ _ H ⟨A3,c_3,rfl,rfl⟩ h4
  replace h4:=nf h4
  refine rFi [5] ?_
  refine T8 (Za [4] ?_)
  cases H
  exact T7 (jR ⟨_,_,rfl,rfl⟩ h4 [0,0])
 refine T9 (T8 (Za [4] ?_))
 cases H
 exact T7 (jR ⟨_,_,rfl,rfl⟩ h1 [0,0])

end Go.SK.T
