/- The functions, further. -/
import Derived.Test.YtjlfmhnfcljdeaaGreatDoorXSeekWaysF2
set_option linter.unusedVariables false
set_option linter.unusedSimpArgs false
set_option maxRecDepth 20000
set_option maxHeartbeats 40000000
namespace Go.SK.T
open Go Go.SK Go.Proofs
open Tryz (prog)
def Q89.f (a0:Int) (a1:Tq) (a2:Tp) (a3:T0):Option (Bool×Tp×List Int):=if (a2.length+([a1]:List Tq).length)*104<=140737488355328 then (if (a3.length+([a0]:List Int).length)*4<=140737488355328 then (some (true,(a2 ++ [a1]),(a3 ++ [a0]))) else none) else none
theorem Q89.spec {a0 a1 a2 a3 A1 c_1 A2 c_2 A3 c_3 A4 c_4 cs1 b1 b2 A5 c_5 A6 c_6 r} (H:Q89.f a0 a1 a2 a3=some r) :
  SpecA prog 20 [.int .u32 a0,.agg #[.int .i64 a1.1,.slice A1 a1.2.1.length c_1,.slice A2 a1.2.2.1.length c_2,.slice A3 a1.2.2.2.1.length c_3,.slice A4 a1.2.2.2.2.length c_4],.pointer (some ⟨b1,0,none⟩),.pointer (some ⟨b2,0,none⟩)] ([X35 b1 a2 A5 c_5,M50 a2 A5 c_5 cs1] ++ Zgz a3 b2 A6 c_6) [R30 a1.2.1 A1 c_1,R9 a1.2.2.1 A2 c_2,R59 a1.2.2.2.1 A3 c_3,R57 a1.2.2.2.2 A4 c_4,E50 a2 cs1] (fun v l lr=>∃ A_0 c_0 cs_0 A_1 c_1,v=.bool r.1/\l=[X35 b1 r.2.1 A_0 c_0,M50 r.2.1 A_0 c_0 cs_0] ++ Zgz r.2.2 b2 A_1 c_1/\lr=[E50 r.2.1 cs_0]):=by
 refine Yj Tryz.func20 fun w0 F0 h0=>?_
 replace h0:=nf h0
 unfold Q89.f at H
 refine Sc (Sa (rB (Z8 h0) fun b3 w1 h1=>?_))
 refine rFi [0,2,3,5] ?_
 refine Sc ?_
 obtain ⟨p1,H⟩:=Zi H
 obtain ⟨p2,H⟩:=Zi H
 refine T9 (fun env w=>∃(A7:_) (c_7:_) (cs2:_) (A8:_) (c_8:_),env=[]/\St w0 F0 [X35 b1 (a2 ++ [a1]) A7 c_7,M50 (a2 ++ [a1]) A7 c_7 cs2,X36 b2 (a3 ++ [a0]) A8 c_8,O30 (a3 ++ [a0]) A8 c_8,X50 b3 a1.1 a1.2.1 A1 c_1 a1.2.2.1 A2 c_2 a1.2.2.2.1 A3 c_3 a1.2.2.2.2 A4 c_4] [E50 (a2 ++ [a1]) cs2,R30 a1.2.1 A1 c_1,R9 a1.2.2.1 A2 c_2,R59 a1.2.2.2.1 A3 c_3,R57 a1.2.2.2.2 A4 c_4,E50 a2 cs1] w) ?_ ?_
 ·refine Zy (sO h1 [0]) ?_
  have h8:=h1.drew
  refine Zq [5] ?_
  refine Zb 1 rfl (Zh 0 wI) ?_
  refine T2 fun G E hE hG=>?_
  have j66:∀ b75 A36 c_36 b60 cs19 w199,St w0 F0 [O30 [a0] (some ⟨b75,0,none⟩) 1,M50 (a2 ++ [a1]) A36 c_36 cs19,X50 b3 a1.1 a1.2.1 A1 c_1 a1.2.2.1 A2 c_2 a1.2.2.2.1 A3 c_3 a1.2.2.2.2 A4 c_4,X35 b1 a2 A5 c_5,X36 b2 a3 A6 c_6,O30 a3 A6 c_6] [E50 (a2 ++ [a1]) cs19,R50 [a1] (some ⟨b60,0,none⟩) 1,R30 a1.2.1 A1 c_1,R9 a1.2.2.1 A2 c_2,R59 a1.2.2.2.1 A3 c_3,R57 a1.2.2.2.2 A4 c_4,E50 a2 cs1] w199->G [6,4,3,2,0,1,5] ((13,.slice (some ⟨b75,0,none⟩) ([a0]:List Int).length 1) :: (11,.slice A6 a3.length c_6) :: (10,.slice A36 (a2 ++ [a1]).length c_36) :: (9,.slice (some ⟨b60,0,none⟩) ([a1]:List Tq).length 1) :: (7,.slice A5 a2.length c_5) :: E) w199:=by
   intro b75 A36 c_36 b60 cs19 w199 h128
   subst hE
   refine (hG _ _ _).1 ?_
   refine Yb 7 rfl (Zz 5 h128 (gO 0) p2) ?_
   rintro _ w207 ⟨A39,c_39,rfl,h133⟩
   replace h133:=nf h133
   refine ⟨⟨[_,_,_,_,_],(sOR h133 [0,0,0,1,1,0] [2,3,4,5,6])⟩,?_⟩
   refine Yb 8 rfl (Zk 4 h133) ?_
   intro _ w208 h134
   replace h134:=nf h134
   refine ⟨⟨[_,_,_,_,_],(sOR h134 [0,0,0,0,1,0] [2,3,4,5,6])⟩,?_⟩
   refine Yb 9 rfl (Zk 5 h134) ?_
   intro _ w209 h135
   replace h135:=nf h135
   refine ⟨⟨[_,_,_,_,_],(Wo h135 [2,3,4,5,6])⟩,?_⟩
   refine Y7 [] ?_
   exact Yt ⟨A36,c_36,cs19,A39,c_39,rfl,(sOR h135 [1,3,0,0,1] [0,2,3,4,5,6])⟩
  have j60:∀ A36 c_36 b60 cs19 w184,St w0 F0 [M50 (a2 ++ [a1]) A36 c_36 cs19,X50 b3 a1.1 a1.2.1 A1 c_1 a1.2.2.1 A2 c_2 a1.2.2.2.1 A3 c_3 a1.2.2.2.2 A4 c_4,X35 b1 a2 A5 c_5,X36 b2 a3 A6 c_6,O30 a3 A6 c_6] [E50 (a2 ++ [a1]) cs19,R50 [a1] (some ⟨b60,0,none⟩) 1,R30 a1.2.1 A1 c_1,R9 a1.2.2.1 A2 c_2,R59 a1.2.2.2.1 A3 c_3,R57 a1.2.2.2.2 A4 c_4,E50 a2 cs1] w184->G [4,3,2,0,1,5] ((11,.slice A6 a3.length c_6) :: (10,.slice A36 (a2 ++ [a1]).length c_36) :: (9,.slice (some ⟨b60,0,none⟩) ([a1]:List Tq).length 1) :: (7,.slice A5 a2.length c_5) :: E) w184:=by
   intro A36 c_36 b60 cs19 w184 h120
   subst hE
   refine (hG _ _ _).1 ?_
   refine Yb 6 rfl (Zx (.int .u32) [a0] h120) ?_
   rintro _ w199 ⟨b75,rfl,h128⟩
   replace h128:=nf h128
   refine ⟨⟨[_,_,_,_,_],(sOR h128 [0,0,1,1,1,0] [2,3,4,5,6])⟩,?_⟩
   exact (hG _ _ _).2 (j66 b75 A36 c_36 b60 cs19 _ h128)
  have j61:∀ b68 A36 c_36 b60 cs19 w186,St w0 F0 [O30 [a0] (some ⟨b68,0,none⟩) 1,M50 (a2 ++ [a1]) A36 c_36 cs19,X50 b3 a1.1 a1.2.1 A1 c_1 a1.2.2.1 A2 c_2 a1.2.2.2.1 A3 c_3 a1.2.2.2.2 A4 c_4,X35 b1 a2 A5 c_5,X36 b2 a3 A6 c_6,O30 a3 A6 c_6] [E50 (a2 ++ [a1]) cs19,R50 [a1] (some ⟨b60,0,none⟩) 1,R30 a1.2.1 A1 c_1,R9 a1.2.2.1 A2 c_2,R59 a1.2.2.2.1 A3 c_3,R57 a1.2.2.2.2 A4 c_4,E50 a2 cs1] w186->G [6,3,2,0,1,5] ((13,.slice (some ⟨b68,0,none⟩) ([a0]:List Int).length 1) :: (10,.slice A36 (a2 ++ [a1]).length c_36) :: (9,.slice (some ⟨b60,0,none⟩) ([a1]:List Tq).length 1) :: (7,.slice A5 a2.length c_5) :: E) w186:=by
   intro b68 A36 c_36 b60 cs19 w186 h121
   subst hE
   refine (hG _ _ _).1 ?_
   refine Yb 4 rfl (Sf (Zh 4 h121.wht)) ?_
   rintro _ _ ⟨rfl,rfl⟩
   replace h121:=nf h121
   refine ⟨⟨[_,_,_,_,_],(sOR h121 [0,0,1,1,1,0] [2,3,4,5,6])⟩,?_⟩
   exact ((hG _ _ _).2 (j66 b68 A36 c_36 b60 cs19 _ h121)).re [1,0,2,3,4] 5
  have j67:∀ b76 b60 w202,St w0 F0 [O30 [a0] (some ⟨b76,0,none⟩) 1,X50 b3 a1.1 a1.2.1 A1 c_1 a1.2.2.1 A2 c_2 a1.2.2.2.1 A3 c_3 a1.2.2.2.2 A4 c_4,X35 b1 a2 A5 c_5,M50 a2 A5 c_5 cs1,X36 b2 a3 A6 c_6,O30 a3 A6 c_6] [R50 [a1] (some ⟨b60,0,none⟩) 1,R30 a1.2.1 A1 c_1,R9 a1.2.2.1 A2 c_2,R59 a1.2.2.2.1 A3 c_3,R57 a1.2.2.2.2 A4 c_4,E50 a2 cs1] w202->G [6,4,2,0,1,5] ((13,.slice (some ⟨b76,0,none⟩) ([a0]:List Int).length 1) :: (11,.slice A6 a3.length c_6) :: (9,.slice (some ⟨b60,0,none⟩) ([a1]:List Tq).length 1) :: (7,.slice A5 a2.length c_5) :: E) w202:=by
   intro b76 b60 w202 h130
   subst hE
   refine (hG _ _ _).1 ?_
   refine Yb 3 rfl (Ut 3 5 0 h130 p1) ?_
   rintro _ w210 ⟨A40,c_40,cs22,rfl,h136⟩
   replace h136:=nf h136
   refine ⟨⟨[_,_,_,_,_],(sOR h136 [0,0,1,1,1,0] [2,3,4,5,6])⟩,?_⟩
   exact ((hG _ _ _).2 (j66 b76 A40 c_40 b60 cs22 _ (sOR h136 [1,0,0,0,0,0] [0,1,2,3,4,5,6]))).re [1,2,0,3,4] 5
  have j62:∀ b60 w169,St w0 F0 [X50 b3 a1.1 a1.2.1 A1 c_1 a1.2.2.1 A2 c_2 a1.2.2.2.1 A3 c_3 a1.2.2.2.2 A4 c_4,X35 b1 a2 A5 c_5,M50 a2 A5 c_5 cs1,X36 b2 a3 A6 c_6,O30 a3 A6 c_6] [R50 [a1] (some ⟨b60,0,none⟩) 1,R30 a1.2.1 A1 c_1,R9 a1.2.2.1 A2 c_2,R59 a1.2.2.2.1 A3 c_3,R57 a1.2.2.2.2 A4 c_4,E50 a2 cs1] w169->G [4,2,0,1,5] ((11,.slice A6 a3.length c_6) :: (9,.slice (some ⟨b60,0,none⟩) ([a1]:List Tq).length 1) :: (7,.slice A5 a2.length c_5) :: E) w169:=by
   intro b60 w169 h112
   subst hE
   refine (hG _ _ _).1 ?_
   refine T3 [3,6] (i:=3) rfl rfl rfl rfl ?_
   refine (Z9 ?_ (Z9 ?_ Xs))
   ·refine Z2 3 rfl (Ut 2 5 0 h112 p1) ?_
    rintro _ w201 ⟨A37,c_37,cs20,rfl,h129⟩
    replace h129:=nf h129
    refine ⟨⟨[_,_,_,_],(sOR h129 [0,1,1,1,0] [2,3,4,5,6])⟩,?_⟩
    exact ((hG _ _ _).2 (j60 A37 c_37 b60 cs20 _ h129)).re [1,0,2,3] 4
   ·refine Z2 6 rfl (Zx (.int .u32) [a0] h112) ?_
    rintro _ w202 ⟨b76,rfl,h130⟩
    replace h130:=nf h130
    refine ⟨⟨[_,_,_,_,_],(sOR h130 [0,1,1,1,1,0] [1,2,3,4,5])⟩,?_⟩
    exact (hG _ _ _).2 (j67 b76 b60 _ h130)
  have j63:∀ b69 b60 w188,St w0 F0 [O30 [a0] (some ⟨b69,0,none⟩) 1,X50 b3 a1.1 a1.2.1 A1 c_1 a1.2.2.1 A2 c_2 a1.2.2.2.1 A3 c_3 a1.2.2.2.2 A4 c_4,X35 b1 a2 A5 c_5,M50 a2 A5 c_5 cs1,X36 b2 a3 A6 c_6,O30 a3 A6 c_6] [R50 [a1] (some ⟨b60,0,none⟩) 1,R30 a1.2.1 A1 c_1,R9 a1.2.2.1 A2 c_2,R59 a1.2.2.2.1 A3 c_3,R57 a1.2.2.2.2 A4 c_4,E50 a2 cs1] w188->G [6,2,0,1,5] ((13,.slice (some ⟨b69,0,none⟩) ([a0]:List Int).length 1) :: (9,.slice (some ⟨b60,0,none⟩) ([a1]:List Tq).length 1) :: (7,.slice A5 a2.length c_5) :: E) w188:=by
   intro b69 b60 w188 h122
   subst hE
   refine (hG _ _ _).1 ?_
   refine T3 [3,4] (i:=3) rfl rfl rfl rfl ?_
   refine (Z9 ?_ (Z9 ?_ Xs))
   ·refine Z2 3 rfl (Ut 3 5 0 h122 p1) ?_
    rintro _ w203 ⟨A38,c_38,cs21,rfl,h131⟩
    replace h131:=nf h131
    refine ⟨⟨[_,_,_,_,_],(sOR h131 [0,0,1,1,1,0] [2,3,4,5,6])⟩,?_⟩
    exact ((hG _ _ _).2 (j61 b69 A38 c_38 b60 cs21 _ (sOR h131 [1,0,0,0,0,0] [0,1,2,3,4,5,6]))).re [1,0,2,3] 4
   ·refine Z2 4 rfl (Sf (Zh 4 h122.wht)) ?_
    rintro _ _ ⟨rfl,rfl⟩
    replace h122:=nf h122
    refine ⟨⟨[_,_,_,_,_],(sOR h122 [0,1,1,1,1,0] [1,2,3,4,5])⟩,?_⟩
    exact ((hG _ _ _).2 (j67 b69 b60 _ h122)).re [1,0,2,3] 4
  have j64:∀ b71 w190,St w0 F0 [O30 [a0] (some ⟨b71,0,none⟩) 1,X50 b3 a1.1 a1.2.1 A1 c_1 a1.2.2.1 A2 c_2 a1.2.2.2.1 A3 c_3 a1.2.2.2.2 A4 c_4,X35 b1 a2 A5 c_5,M50 a2 A5 c_5 cs1,X36 b2 a3 A6 c_6,O30 a3 A6 c_6] [R30 a1.2.1 A1 c_1,R9 a1.2.2.1 A2 c_2,R59 a1.2.2.2.1 A3 c_3,R57 a1.2.2.2.2 A4 c_4,E50 a2 cs1] w190->G [6,4,0,1,5] ((13,.slice (some ⟨b71,0,none⟩) ([a0]:List Int).length 1) :: (11,.slice A6 a3.length c_6) :: (7,.slice A5 a2.length c_5) :: E) w190:=by
   intro b71 w190 h124
   subst hE
   refine (hG _ _ _).1 ?_
   refine Yb 2 rfl (W2 (.pair (.int .i64) (.pair (.slice 30 (.int .u32)) (.pair (.slice 9 .str) (.pair (.slice 59 (.pair .str (.pair .bool .str))) (.slice 57 (.pair .str .str)))))) [a1] h124 (W7 ⟨_,_,rfl,(Xf rfl _),⟨_,_,rfl,(.inl (Zc 0)),⟨_,_,rfl,(.inl (Zc 1)),⟨_,_,rfl,(.inl (Zc 2)),(.inl (Zc 3))⟩⟩⟩⟩ V3)) ?_
   rintro _ w205 ⟨b77,rfl,h132⟩
   replace h132:=nf h132
   refine ⟨⟨[_,_,_,_,_],(sOR h132 [0,1,1,1,1,0] [1,2,3,4,5])⟩,?_⟩
   exact ((hG _ _ _).2 (j67 b71 b77 _ h132)).re [1,2,0,3] 4
  have j65:∀ b73 b62 w194,St w0 F0 [O30 [a0] (some ⟨b73,0,none⟩) 1,X50 b3 a1.1 a1.2.1 A1 c_1 a1.2.2.1 A2 c_2 a1.2.2.2.1 A3 c_3 a1.2.2.2.2 A4 c_4,X35 b1 a2 A5 c_5,M50 a2 A5 c_5 cs1,X36 b2 a3 A6 c_6,O30 a3 A6 c_6] [R50 [a1] (some ⟨b62,0,none⟩) 1,R30 a1.2.1 A1 c_1,R9 a1.2.2.1 A2 c_2,R59 a1.2.2.2.1 A3 c_3,R57 a1.2.2.2.2 A4 c_4,E50 a2 cs1] w194->G [6,4,2,1,5] ((13,.slice (some ⟨b73,0,none⟩) ([a0]:List Int).length 1) :: (11,.slice A6 a3.length c_6) :: (9,.slice (some ⟨b62,0,none⟩) ([a1]:List Tq).length 1) :: E) w194:=by
   intro b73 b62 w194 h126
   subst hE
   refine (hG _ _ _).1 ?_
   refine Yb 0 rfl (Sf (Zh 2 h126.wht)) ?_
   rintro _ _ ⟨rfl,rfl⟩
   replace h126:=nf h126
   refine ⟨⟨[_,_,_,_,_],(sOR h126 [0,1,1,1,1,0] [1,2,3,4,5])⟩,?_⟩
   exact ((hG _ _ _).2 (j67 b73 b62 _ h126)).re [1,2,3,0] 4
  have j54:∀ b60 w169,St w0 F0 [X50 b3 a1.1 a1.2.1 A1 c_1 a1.2.2.1 A2 c_2 a1.2.2.2.1 A3 c_3 a1.2.2.2.2 A4 c_4,X35 b1 a2 A5 c_5,M50 a2 A5 c_5 cs1,X36 b2 a3 A6 c_6,O30 a3 A6 c_6] [R50 [a1] (some ⟨b60,0,none⟩) 1,R30 a1.2.1 A1 c_1,R9 a1.2.2.1 A2 c_2,R59 a1.2.2.2.1 A3 c_3,R57 a1.2.2.2.2 A4 c_4,E50 a2 cs1] w169->G [2,0,1,5] ((9,.slice (some ⟨b60,0,none⟩) ([a1]:List Tq).length 1) :: (7,.slice A5 a2.length c_5) :: E) w169:=by
   intro b60 w169 h112
   subst hE
   refine (hG _ _ _).1 ?_
   refine T3 [3,4,6] (i:=3) rfl rfl rfl rfl ?_
   refine (Z9 ?_ (Z9 ?_ (Z9 ?_ Xs)))
   ·refine Z2 3 rfl (Ut 2 5 0 h112 p1) ?_
    rintro _ w184 ⟨A36,c_36,cs19,rfl,h120⟩
    replace h120:=nf h120
    refine ⟨⟨[_,_,_,_],(sOR h120 [0,1,1,1,0] [2,3,4,5,6])⟩,?_⟩
    refine T3 [4,6] (i:=4) rfl rfl rfl rfl ?_
    refine (Z9 ?_ (Z9 ?_ Xs))
    ·refine Z2 4 rfl (Sf (Zh 3 h120.wht)) ?_
     rintro _ _ ⟨rfl,rfl⟩
     replace h120:=nf h120
     refine ⟨⟨[_,_,_,_],(sOR h120 [0,1,1,1,0] [2,3,4,5,6])⟩,?_⟩
     exact (hG _ _ _).2 (j60 A36 c_36 b60 cs19 _ h120)
    ·refine Z2 6 rfl (Zx (.int .u32) [a0] h120) ?_
     rintro _ w186 ⟨b68,rfl,h121⟩
     replace h121:=nf h121
     refine ⟨⟨[_,_,_,_,_],(sOR h121 [0,0,1,1,1,0] [2,3,4,5,6])⟩,?_⟩
     exact (hG _ _ _).2 (j61 b68 A36 c_36 b60 cs19 _ h121)
   ·refine Z2 4 rfl (Sf (Zh 3 h112.wht)) ?_
    rintro _ _ ⟨rfl,rfl⟩
    replace h112:=nf h112
    refine ⟨⟨[_,_,_,_],(sOR h112 [1,1,1,1,0] [1,2,3,4,5])⟩,?_⟩
    exact (hG _ _ _).2 (j62 b60 _ h112)
   ·refine Z2 6 rfl (Zx (.int .u32) [a0] h112) ?_
    rintro _ w188 ⟨b69,rfl,h122⟩
    replace h122:=nf h122
    refine ⟨⟨[_,_,_,_,_],(sOR h122 [0,1,1,1,1,0] [1,2,3,4,5])⟩,?_⟩
    exact (hG _ _ _).2 (j63 b69 b60 _ h122)
  have j55:∀ w1,St w0 F0 [X50 b3 a1.1 a1.2.1 A1 c_1 a1.2.2.1 A2 c_2 a1.2.2.2.1 A3 c_3 a1.2.2.2.2 A4 c_4,X35 b1 a2 A5 c_5,M50 a2 A5 c_5 cs1,X36 b2 a3 A6 c_6,O30 a3 A6 c_6] [R30 a1.2.1 A1 c_1,R9 a1.2.2.1 A2 c_2,R59 a1.2.2.2.1 A3 c_3,R57 a1.2.2.2.2 A4 c_4,E50 a2 cs1] w1->G [4,0,1,5] ((11,.slice A6 a3.length c_6) :: (7,.slice A5 a2.length c_5) :: E) w1:=by
   intro w1 h8
   subst hE
   refine (hG _ _ _).1 ?_
   refine T3 [2,6] (i:=2) rfl rfl rfl rfl ?_
   refine (Z9 ?_ (Z9 ?_ Xs))
   ·refine Z2 2 rfl (W2 (.pair (.int .i64) (.pair (.slice 30 (.int .u32)) (.pair (.slice 9 .str) (.pair (.slice 59 (.pair .str (.pair .bool .str))) (.slice 57 (.pair .str .str)))))) [a1] h8 (W7 ⟨_,_,rfl,(Xf rfl _),⟨_,_,rfl,(.inl (Zc 0)),⟨_,_,rfl,(.inl (Zc 1)),⟨_,_,rfl,(.inl (Zc 2)),(.inl (Zc 3))⟩⟩⟩⟩ V3)) ?_
    rintro _ w189 ⟨b70,rfl,h123⟩
    replace h123:=nf h123
    refine ⟨⟨[_,_,_,_],(sOR h123 [1,1,1,1,0] [1,2,3,4,5])⟩,?_⟩
    exact ((hG _ _ _).2 (j62 b70 _ h123)).re [1,0,2] 3
   ·refine Z2 6 rfl (Zx (.int .u32) [a0] h8) ?_
    rintro _ w190 ⟨b71,rfl,h124⟩
    replace h124:=nf h124
    refine ⟨⟨[_,_,_,_,_],(sO h124 [0,1,1,1,1,0])⟩,?_⟩
    exact (hG _ _ _).2 (j64 b71 _ h124)
  have j56:∀ b61 w171,St w0 F0 [O30 [a0] (some ⟨b61,0,none⟩) 1,X50 b3 a1.1 a1.2.1 A1 c_1 a1.2.2.1 A2 c_2 a1.2.2.2.1 A3 c_3 a1.2.2.2.2 A4 c_4,X35 b1 a2 A5 c_5,M50 a2 A5 c_5 cs1,X36 b2 a3 A6 c_6,O30 a3 A6 c_6] [R30 a1.2.1 A1 c_1,R9 a1.2.2.1 A2 c_2,R59 a1.2.2.2.1 A3 c_3,R57 a1.2.2.2.2 A4 c_4,E50 a2 cs1] w171->G [6,0,1,5] ((13,.slice (some ⟨b61,0,none⟩) ([a0]:List Int).length 1) :: (7,.slice A5 a2.length c_5) :: E) w171:=by
   intro b61 w171 h113
   subst hE
   refine (hG _ _ _).1 ?_
   refine T3 [2,4] (i:=2) rfl rfl rfl rfl ?_
   refine (Z9 ?_ (Z9 ?_ Xs))
   ·refine Z2 2 rfl (W2 (.pair (.int .i64) (.pair (.slice 30 (.int .u32)) (.pair (.slice 9 .str) (.pair (.slice 59 (.pair .str (.pair .bool .str))) (.slice 57 (.pair .str .str)))))) [a1] h113 (W7 ⟨_,_,rfl,(Xf rfl _),⟨_,_,rfl,(.inl (Zc 0)),⟨_,_,rfl,(.inl (Zc 1)),⟨_,_,rfl,(.inl (Zc 2)),(.inl (Zc 3))⟩⟩⟩⟩ V3)) ?_
    rintro _ w191 ⟨b72,rfl,h125⟩
    replace h125:=nf h125
    refine ⟨⟨[_,_,_,_,_],(sOR h125 [0,1,1,1,1,0] [1,2,3,4,5])⟩,?_⟩
    exact ((hG _ _ _).2 (j63 b61 b72 _ h125)).re [1,0,2] 3
   ·refine Z2 4 rfl (Sf (Zh 4 h113.wht)) ?_
    rintro _ _ ⟨rfl,rfl⟩
    replace h113:=nf h113
    refine ⟨⟨[_,_,_,_,_],(sO h113 [0,1,1,1,1,0])⟩,?_⟩
    exact ((hG _ _ _).2 (j64 b61 _ h113)).re [1,0,2] 3
  have j57:∀ b62 w172,St w0 F0 [X50 b3 a1.1 a1.2.1 A1 c_1 a1.2.2.1 A2 c_2 a1.2.2.2.1 A3 c_3 a1.2.2.2.2 A4 c_4,X35 b1 a2 A5 c_5,M50 a2 A5 c_5 cs1,X36 b2 a3 A6 c_6,O30 a3 A6 c_6] [R50 [a1] (some ⟨b62,0,none⟩) 1,R30 a1.2.1 A1 c_1,R9 a1.2.2.1 A2 c_2,R59 a1.2.2.2.1 A3 c_3,R57 a1.2.2.2.2 A4 c_4,E50 a2 cs1] w172->G [4,2,1,5] ((11,.slice A6 a3.length c_6) :: (9,.slice (some ⟨b62,0,none⟩) ([a1]:List Tq).length 1) :: E) w172:=by
   intro b62 w172 h114
   subst hE
   refine (hG _ _ _).1 ?_
   refine T3 [0,6] (i:=0) rfl rfl rfl rfl ?_
   refine (Z9 ?_ (Z9 ?_ Xs))
   ·refine Z2 0 rfl (Sf (Zh 1 h114.wht)) ?_
    rintro _ _ ⟨rfl,rfl⟩
    replace h114:=nf h114
    refine ⟨⟨[_,_,_,_],(sOR h114 [1,1,1,1,0] [1,2,3,4,5])⟩,?_⟩
    exact ((hG _ _ _).2 (j62 b62 _ h114)).re [1,2,0] 3
   ·refine Z2 6 rfl (Zx (.int .u32) [a0] h114) ?_
    rintro _ w194 ⟨b73,rfl,h126⟩
    replace h126:=nf h126
    refine ⟨⟨[_,_,_,_,_],(sOR h126 [0,1,1,1,1,0] [1,2,3,4,5])⟩,?_⟩
    exact (hG _ _ _).2 (j65 b73 b62 _ h126)
  have j58:∀ b63 b62 w175,St w0 F0 [O30 [a0] (some ⟨b63,0,none⟩) 1,X50 b3 a1.1 a1.2.1 A1 c_1 a1.2.2.1 A2 c_2 a1.2.2.2.1 A3 c_3 a1.2.2.2.2 A4 c_4,X35 b1 a2 A5 c_5,M50 a2 A5 c_5 cs1,X36 b2 a3 A6 c_6,O30 a3 A6 c_6] [R50 [a1] (some ⟨b62,0,none⟩) 1,R30 a1.2.1 A1 c_1,R9 a1.2.2.1 A2 c_2,R59 a1.2.2.2.1 A3 c_3,R57 a1.2.2.2.2 A4 c_4,E50 a2 cs1] w175->G [6,2,1,5] ((13,.slice (some ⟨b63,0,none⟩) ([a0]:List Int).length 1) :: (9,.slice (some ⟨b62,0,none⟩) ([a1]:List Tq).length 1) :: E) w175:=by
   intro b63 b62 w175 h115
   subst hE
   refine (hG _ _ _).1 ?_
   refine T3 [0,4] (i:=0) rfl rfl rfl rfl ?_
   refine (Z9 ?_ (Z9 ?_ Xs))
   ·refine Z2 0 rfl (Sf (Zh 2 h115.wht)) ?_
    rintro _ _ ⟨rfl,rfl⟩
    replace h115:=nf h115
    refine ⟨⟨[_,_,_,_,_],(sOR h115 [0,1,1,1,1,0] [1,2,3,4,5])⟩,?_⟩
    exact ((hG _ _ _).2 (j63 b63 b62 _ h115)).re [1,2,0] 3
   ·refine Z2 4 rfl (Sf (Zh 4 h115.wht)) ?_
    rintro _ _ ⟨rfl,rfl⟩
    replace h115:=nf h115
    refine ⟨⟨[_,_,_,_,_],(sOR h115 [0,1,1,1,1,0] [1,2,3,4,5])⟩,?_⟩
    exact ((hG _ _ _).2 (j65 b63 b62 _ h115)).re [1,0,2] 3
  have j59:∀ b65 w179,St w0 F0 [O30 [a0] (some ⟨b65,0,none⟩) 1,X50 b3 a1.1 a1.2.1 A1 c_1 a1.2.2.1 A2 c_2 a1.2.2.2.1 A3 c_3 a1.2.2.2.2 A4 c_4,X35 b1 a2 A5 c_5,M50 a2 A5 c_5 cs1,X36 b2 a3 A6 c_6,O30 a3 A6 c_6] [R30 a1.2.1 A1 c_1,R9 a1.2.2.1 A2 c_2,R59 a1.2.2.2.1 A3 c_3,R57 a1.2.2.2.2 A4 c_4,E50 a2 cs1] w179->G [6,4,1,5] ((13,.slice (some ⟨b65,0,none⟩) ([a0]:List Int).length 1) :: (11,.slice A6 a3.length c_6) :: E) w179:=by
   intro b65 w179 h117
   subst hE
   refine (hG _ _ _).1 ?_
   refine T3 [0,2] (i:=0) rfl rfl rfl rfl ?_
   refine (Z9 ?_ (Z9 ?_ Xs))
   ·refine Z2 0 rfl (Sf (Zh 2 h117.wht)) ?_
    rintro _ _ ⟨rfl,rfl⟩
    replace h117:=nf h117
    refine ⟨⟨[_,_,_,_,_],(sO h117 [0,1,1,1,1,0])⟩,?_⟩
    exact ((hG _ _ _).2 (j64 b65 _ h117)).re [1,2,0] 3
   ·refine Z2 2 rfl (W2 (.pair (.int .i64) (.pair (.slice 30 (.int .u32)) (.pair (.slice 9 .str) (.pair (.slice 59 (.pair .str (.pair .bool .str))) (.slice 57 (.pair .str .str)))))) [a1] h117 (W7 ⟨_,_,rfl,(Xf rfl _),⟨_,_,rfl,(.inl (Zc 0)),⟨_,_,rfl,(.inl (Zc 1)),⟨_,_,rfl,(.inl (Zc 2)),(.inl (Zc 3))⟩⟩⟩⟩ V3)) ?_
    rintro _ w198 ⟨b74,rfl,h127⟩
    replace h127:=nf h127
    refine ⟨⟨[_,_,_,_,_],(sOR h127 [0,1,1,1,1,0] [1,2,3,4,5])⟩,?_⟩
    exact ((hG _ _ _).2 (j65 b65 b74 _ h127)).re [1,2,0] 3
  subst hE
  refine (hG _ _ _).1 ?_
  refine T3 [0,2,4,6] (i:=0) rfl rfl rfl rfl ?_
  refine (Z9 ?_ (Z9 ?_ (Z9 ?_ (Z9 ?_ Xs))))
  ·refine Z2 0 rfl (Sf (Zh 1 h8.wht)) ?_
   rintro _ _ ⟨rfl,rfl⟩
   replace h8:=nf h8
   refine ⟨⟨[_,_,_,_],(sO h8 [1,1,1,1,0])⟩,?_⟩
   refine T3 [2,4,6] (i:=2) rfl rfl rfl rfl ?_
   refine (Z9 ?_ (Z9 ?_ (Z9 ?_ Xs)))
   ·refine Z2 2 rfl (W2 (.pair (.int .i64) (.pair (.slice 30 (.int .u32)) (.pair (.slice 9 .str) (.pair (.slice 59 (.pair .str (.pair .bool .str))) (.slice 57 (.pair .str .str)))))) [a1] h8 (W7 ⟨_,_,rfl,(Xf rfl _),⟨_,_,rfl,(.inl (Zc 0)),⟨_,_,rfl,(.inl (Zc 1)),⟨_,_,rfl,(.inl (Zc 2)),(.inl (Zc 3))⟩⟩⟩⟩ V3)) ?_
    rintro _ w169 ⟨b60,rfl,h112⟩
    replace h112:=nf h112
    refine ⟨⟨[_,_,_,_],(sOR h112 [1,1,1,1,0] [1,2,3,4,5])⟩,?_⟩
    exact (hG _ _ _).2 (j54 b60 _ h112)
   ·refine Z2 4 rfl (Sf (Zh 3 h8.wht)) ?_
    rintro _ _ ⟨rfl,rfl⟩
    replace h8:=nf h8
    refine ⟨⟨[_,_,_,_],(sO h8 [1,1,1,1,0])⟩,?_⟩
    exact (hG _ _ _).2 (j55 _ h8)
   ·refine Z2 6 rfl (Zx (.int .u32) [a0] h8) ?_
    rintro _ w171 ⟨b61,rfl,h113⟩
    replace h113:=nf h113
    refine ⟨⟨[_,_,_,_,_],(sO h113 [0,1,1,1,1,0])⟩,?_⟩
    exact (hG _ _ _).2 (j56 b61 _ h113)
  ·refine Z2 2 rfl (W2 (.pair (.int .i64) (.pair (.slice 30 (.int .u32)) (.pair (.slice 9 .str) (.pair (.slice 59 (.pair .str (.pair .bool .str))) (.slice 57 (.pair .str .str)))))) [a1] h8 (W7 ⟨_,_,rfl,(Xf rfl _),⟨_,_,rfl,(.inl (Zc 0)),⟨_,_,rfl,(.inl (Zc 1)),⟨_,_,rfl,(.inl (Zc 2)),(.inl (Zc 3))⟩⟩⟩⟩ V3)) ?_
   rintro _ w172 ⟨b62,rfl,h114⟩
   replace h114:=nf h114
   refine ⟨⟨[_,_,_,_],(sOR h114 [1,1,1,1,0] [1,2,3,4,5])⟩,?_⟩
   refine T3 [0,4,6] (i:=0) rfl rfl rfl rfl ?_
   refine (Z9 ?_ (Z9 ?_ (Z9 ?_ Xs)))
   ·refine Z2 0 rfl (Sf (Zh 1 h114.wht)) ?_
    rintro _ _ ⟨rfl,rfl⟩
    replace h114:=nf h114
    refine ⟨⟨[_,_,_,_],(sOR h114 [1,1,1,1,0] [1,2,3,4,5])⟩,?_⟩
    exact ((hG _ _ _).2 (j54 b62 _ h114)).re [1,0] 2
   ·refine Z2 4 rfl (Sf (Zh 3 h114.wht)) ?_
    rintro _ _ ⟨rfl,rfl⟩
    replace h114:=nf h114
    refine ⟨⟨[_,_,_,_],(sOR h114 [1,1,1,1,0] [1,2,3,4,5])⟩,?_⟩
    exact (hG _ _ _).2 (j57 b62 _ h114)
   ·refine Z2 6 rfl (Zx (.int .u32) [a0] h114) ?_
    rintro _ w175 ⟨b63,rfl,h115⟩
    replace h115:=nf h115
    refine ⟨⟨[_,_,_,_,_],(sOR h115 [0,1,1,1,1,0] [1,2,3,4,5])⟩,?_⟩
    exact (hG _ _ _).2 (j58 b63 b62 _ h115)
  ·refine Z2 4 rfl (Sf (Zh 3 h8.wht)) ?_
   rintro _ _ ⟨rfl,rfl⟩
   replace h8:=nf h8
   refine ⟨⟨[_,_,_,_],(sO h8 [1,1,1,1,0])⟩,?_⟩
   refine T3 [0,2,6] (i:=0) rfl rfl rfl rfl ?_
   refine (Z9 ?_ (Z9 ?_ (Z9 ?_ Xs)))
   ·refine Z2 0 rfl (Sf (Zh 1 h8.wht)) ?_
    rintro _ _ ⟨rfl,rfl⟩
    replace h8:=nf h8
    refine ⟨⟨[_,_,_,_],(sO h8 [1,1,1,1,0])⟩,?_⟩
    exact ((hG _ _ _).2 (j55 _ h8)).re [1,0] 2
   ·refine Z2 2 rfl (W2 (.pair (.int .i64) (.pair (.slice 30 (.int .u32)) (.pair (.slice 9 .str) (.pair (.slice 59 (.pair .str (.pair .bool .str))) (.slice 57 (.pair .str .str)))))) [a1] h8 (W7 ⟨_,_,rfl,(Xf rfl _),⟨_,_,rfl,(.inl (Zc 0)),⟨_,_,rfl,(.inl (Zc 1)),⟨_,_,rfl,(.inl (Zc 2)),(.inl (Zc 3))⟩⟩⟩⟩ V3)) ?_
    rintro _ w178 ⟨b64,rfl,h116⟩
    replace h116:=nf h116
    refine ⟨⟨[_,_,_,_],(sOR h116 [1,1,1,1,0] [1,2,3,4,5])⟩,?_⟩
    exact ((hG _ _ _).2 (j57 b64 _ h116)).re [1,0] 2
   ·refine Z2 6 rfl (Zx (.int .u32) [a0] h8) ?_
    rintro _ w179 ⟨b65,rfl,h117⟩
    replace h117:=nf h117
    refine ⟨⟨[_,_,_,_,_],(sO h117 [0,1,1,1,1,0])⟩,?_⟩
    exact (hG _ _ _).2 (j59 b65 _ h117)
  ·refine Z2 6 rfl (Zx (.int .u32) [a0] h8) ?_
   rintro _ w180 ⟨b66,rfl,h118⟩
   replace h118:=nf h118
   refine ⟨⟨[_,_,_,_,_],(sO h118 [0,1,1,1,1,0])⟩,?_⟩
   refine T3 [0,2,4] (i:=0) rfl rfl rfl rfl ?_
   refine (Z9 ?_ (Z9 ?_ (Z9 ?_ Xs)))
   ·refine Z2 0 rfl (Sf (Zh 2 h118.wht)) ?_
    rintro _ _ ⟨rfl,rfl⟩
    replace h118:=nf h118
    refine ⟨⟨[_,_,_,_,_],(sO h118 [0,1,1,1,1,0])⟩,?_⟩
    exact ((hG _ _ _).2 (j56 b66 _ h118)).re [1,0] 2
   ·refine Z2 2 rfl (W2 (.pair (.int .i64) (.pair (.slice 30 (.int .u32)) (.pair (.slice 9 .str) (.pair (.slice 59 (.pair .str (.pair .bool .str))) (.slice 57 (.pair .str .str)))))) [a1] h118 (W7 ⟨_,_,rfl,(Xf rfl _),⟨_,_,rfl,(.inl (Zc 0)),⟨_,_,rfl,(.inl (Zc 1)),⟨_,_,rfl,(.inl (Zc 2)),(.inl (Zc 3))⟩⟩⟩⟩ V3)) ?_
    rintro _ w182 ⟨b67,rfl,h119⟩
    replace h119:=nf h119
    refine ⟨⟨[_,_,_,_,_],(sOR h119 [0,1,1,1,1,0] [1,2,3,4,5])⟩,?_⟩
    exact ((hG _ _ _).2 (j58 b66 b67 _ h119)).re [1,0] 2
   ·refine Z2 4 rfl (Sf (Zh 4 h118.wht)) ?_
    rintro _ _ ⟨rfl,rfl⟩
    replace h118:=nf h118
    refine ⟨⟨[_,_,_,_,_],(sO h118 [0,1,1,1,1,0])⟩,?_⟩
    exact ((hG _ _ _).2 (j59 b66 _ h118)).re [1,0] 2
 rintro env w453 ⟨A7,c_7,cs2,A8,c_8,rfl,h337⟩
 refine Sc (Za [6] ?_)
 cases H
 exact Sb (jRA ⟨_,_,_,_,_,rfl,rfl,rfl⟩ (sOR h337 [0,0,0,0] [0]))

def Q92.l0:Nat->TW->Ts->TG->TE->TL->Tz->TQ->T0->(Int)->Tp->T0->(Int)->(Int)->Option Tb
 | 0,_,_,_,_,_,_,_,_,_,_,_,_,_=>none
 | k+1,a2,x1,x2,x3,x4,x5,x6,x7,x8,x9,x10,x11,x12=>(Q93.f k (x1,(x2,x5,x6,x7,x3),x4,x8) x12).bind fun r1=>(if (!decide (r1.2.1=0))=true then (some (r1.2.1,r1.2.2,x9,x10)) else (if (decide (0<=x11))=true then (if (!decide (r1.1.1=(w64 (x11 - 1))))=true then (some (12,r1.2.2,x9,x10)) else ((Q89.f x12 r1.1 x9 x10).bind fun r2=>(if (!r2.1)=true then (some (0,r1.2.2,r2.2.1,r2.2.2)) else (if (decide (r1.1.1=0))=true then (some (0,r1.2.2,r2.2.1,r2.2.2)) else ((Q60.f k r1.1.2.2.1 a2).bind fun r3=>(if 0<=r3/\r3<(r1.1.2.1.length:Int) then (Q92.l0 k a2 r1.2.2.1 r1.2.2.2.1.1 r1.2.2.2.1.2.2.2.2 r1.2.2.2.2.1 r1.2.2.2.1.2.1 r1.2.2.2.1.2.2.1 r1.2.2.2.1.2.2.2.1 r1.2.2.2.2.2 r2.2.1 r2.2.2 r1.1.1 (gt r1.1.2.1 r3)) else none)))))) else ((Q89.f x12 r1.1 x9 x10).bind fun r4=>(if (!r4.1)=true then (some (0,r1.2.2,r4.2.1,r4.2.2)) else (if (decide (r1.1.1=0))=true then (some (0,r1.2.2,r4.2.1,r4.2.2)) else ((Q60.f k r1.1.2.2.1 a2).bind fun r5=>(if 0<=r5/\r5<(r1.1.2.1.length:Int) then (Q92.l0 k a2 r1.2.2.1 r1.2.2.2.1.1 r1.2.2.2.1.2.2.2.2 r1.2.2.2.2.1 r1.2.2.2.1.2.1 r1.2.2.2.1.2.2.1 r1.2.2.2.1.2.2.2.1 r1.2.2.2.2.2 r4.2.1 r4.2.2 r1.1.1 (gt r1.1.2.1 r5)) else none)))))))
def Q92.f (k:Nat) (a0:Th) (a1:Int) (a2:TW) (a4:Tp) (a5:T0):Option Tb:=Q92.l0 k a2 a0.1 a0.2.1.1 a0.2.1.2.2.2.2 a0.2.2.1 a0.2.1.2.1 a0.2.1.2.2.1 a0.2.1.2.2.2.1 a0.2.2.2 a4 a5 (-1) a1
theorem Q92.spec {k a0 a1 a2 a4 a5 cs1 b1 b2 b3 b4 b5 b6 b7 b8 b9 A1 c_1 A2 c_2 A3 c_3 A4 c_4 A5 c_5 A6 c_6 A7 c_7 r} (H:Q92.f k a0 a1 a2 a4 a5=some r) :
  SpecA prog 19 [.pointer (some ⟨b1,0,none⟩),.int .u32 a1,.string ⟨⟨a2⟩⟩,.func (.func 20) #[] #[.pointer (some ⟨b8,0,none⟩),.pointer (some ⟨b9,0,none⟩)]] (Wy a0 b1 b2 b3 b4 b5 b6 b7 A1 A2 A3 A4 A5 c_1 c_2 c_3 c_4 c_5 ++ [X35 b8 a4 A6 c_6,M50 a4 A6 c_6 cs1] ++ Zgz a5 b9 A7 c_7) [E50 a4 cs1] (fun v l lr=>∃ A_0 c_0 A_1 c_1 A_2 c_2 A_3 c_3 A_4 c_4 A_5 c_5 cs_5 A_6 c_6,v=.int .i64 r.1/\l=Wy r.2.1 b1 b2 b3 b4 b5 b6 b7 A_0 A_1 A_2 A_3 A_4 c_0 c_1 c_2 c_3 c_4 ++ [X35 b8 r.2.2.1 A_5 c_5,M50 r.2.2.1 A_5 c_5 cs_5] ++ Zgz r.2.2.2 b9 A_6 c_6/\lr=[E50 r.2.2.1 cs_5]):=by
 refine Yj Tryz.func19 fun w0 F0 h0=>?_
 replace h0:=nf h0
 unfold Q92.f at H
 refine Sc (Za [0,1,2,3] ?_)
 refine Sc (Za [0,1,2,3,9] ?_)
 refine Sc (Za [0,2,3,9,10] ?_)
 refine T4 ?_
 have h23:=(sOR h0 [0,1,0,2,3,4,4,5,6,0,0,0,0,0,0,0] [0])
 refine T8 (fun kk env w=>∃ x1 x2 x3 x4 A8 c_8 x5 A9 c_9 x6 x7 A10 c_10 A11 c_11 A12 c_12 x8 x9 A13 c_13 x10 A14 c_14 x11 x12 cs2,Q92.l0 kk a2 x1 x2 x3 x4 x5 x6 x7 x8 x9 x10 x11 x12=some r/\env=[(0,.pointer (some ⟨b1,0,none⟩)),(2,.string ⟨⟨a2⟩⟩),(3,.func (.func 20) #[] #[.pointer (some ⟨b8,0,none⟩),.pointer (some ⟨b9,0,none⟩)]),(9,.int .i64 x11),(10,.int .u32 x12)]/\St w0 F0 [X78 b1 x1.1 x1.2.1 x1.2.2.1 x1.2.2.2.1 x1.2.2.2.2.1 x1.2.2.2.2.2.1 x1.2.2.2.2.2.2.1 x1.2.2.2.2.2.2.2 (.pointer (some ⟨b3,0,none⟩)) (.pointer (some ⟨b2,0,none⟩)) (.pointer (some ⟨b6,0,none⟩)) x8,Xu b3 x2.1 x2.2.1 A8 c_8 x2.2.2.1 x2.2.2.2,X6 b2 (.pointer (some ⟨b3,0,none⟩)) x5 A9 c_9 (.map (some b4)) x7 A10 c_10 (.pointer (some ⟨b5,0,none⟩)),Xj .u32 (Value.int .i64) b4 x6,Y2 b5 x3.1 A11 c_11 x3.2,Us b6 (.pointer (some ⟨b7,0,none⟩)),Ws b7 x4.1 x4.2.1 x4.2.2 A12 c_12,X35 b8 x9 A13 c_13,X36 b9 x10 A14 c_14,O5 x2.2.1 A8 c_8,X7 x5 A9 c_9,O3 x7 A10 c_10,Y3 x3.1 A11 c_11,Wr x4.2.2 A12 c_12,M50 x9 A13 c_13 cs2,O30 x10 A14 c_14] [E50 x9 cs2] w) (k:=k) ⟨_,_,_,_,_,_,_,_,_,_,_,_,_,_,_,_,_,_,_,_,_,_,_,_,_,_,_,H,rfl,h23⟩ ?_
 rintro k1 env w1 ⟨x1,x2,x3,x4,A8,c_8,x5,A9,c_9,x6,x7,A10,c_10,A11,c_11,A12,c_12,x8,x9,A13,c_13,x10,A14,c_14,x11,x12,cs2,H,rfl,h1⟩
 rcases k1 with _ | k1
 ·exact z0 H
 rw [Q92.l0] at H
 refine T4 (Sc (Sa (Zf 2 ?_)))
 refine cE H [0,1,0,6,6,0,5,0,4,0,0,2] h1 rfl Q93.spec Zm ?_
 rintro r1 w2 _ _ H ⟨A15,c_15,A16,c_16,A17,c_17,A18,c_18,A19,c_19,A20,c_20,A21,c_21,A22,c_22,A23,c_23,rfl,rfl⟩ h2
 replace h2:=nf h2
 refine Zf 3 ?_
 refine rB (Yi h2) fun b10 w3 h3=>?_
 refine rS (Zk 0 h3) fun _ w4 h4=>?_
 refine rFi [0,2,3,9,10,11,12] ?_
 refine Sc (Sc (Za [0,2,3,9,10,11,12,21] ?_))
 refine jIf H (fun c1 H=>?_) fun c1 H=>?_
 ·refine Sc (Za [8] ?_)
  have h5:=sO h4 [5,5,5,5,5,5,5,5,5,5,5,5,5,5,5,5]
  replace h5:=nf h5
  cases H
  exact Sb (jRA ⟨_,_,_,_,_,_,_,_,_,_,_,_,_,_,_,rfl,rfl,rfl⟩ (sOR h5 [0,0,0,0,0,0,0,0,0,0,0,0,0,1,0,0] [0]))
 refine Sd (Sc (Sc (Sa (Zf 3 ?_))))
 refine Z7 25 H (fun c2 H=>?_) fun c2 H=>?_
 ·refine rRL 1 0 h4 ?_
  refine rFi [0,2,3,10,11,31] ?_
  refine jIf H (fun c3 H=>?_) fun c3 H=>?_
  ·refine Sc (Za [8] ?_)
   have h6:=sO h4 [5,5,5,5,5,5,5,5,5,5,5,5,5,5,5,5]
   replace h6:=nf h6
   cases H
   exact Sb (jRA ⟨_,_,_,_,_,_,_,_,_,_,_,_,_,_,_,rfl,rfl,rfl⟩ (sOR h6 [0,0,0,0,0,0,0,0,0,0,0,0,0,1,0,0] [0]))
  refine Sd (Sc (Sc (Sa (rRL 2 0 h4 ?_))))
  have h7:=h4.freeze (k:=1) rfl Ye
  have h8:=h7.freeze (k:=1) rfl Ye
  have h9:=h8.freeze (k:=1) rfl Ye
  have h10:=h9.freeze (k:=1) rfl Ye
  obtain ⟨r2,q2,H⟩:=Yf H
  refine Zp (Un [.int .u32 x12,.agg #[.int .i64 r1.1.1,.slice A15 r1.1.2.1.length c_15,.slice A16 r1.1.2.2.1.length c_16,.slice A17 r1.1.2.2.2.1.length c_17,.slice A18 r1.1.2.2.2.2.length c_18]] [.pointer (some ⟨b8,0,none⟩),.pointer (some ⟨b9,0,none⟩)] [13,14,13,13] (Q89.spec q2) h10 rfl (gS [3,2,1,0,4])) ?_
  rintro _ w5 ⟨_,_,⟨A24,c_24,cs3,A25,c_25,rfl,rfl,rfl⟩,h11⟩
  replace h11:=nf h11
  refine Zf 2 ?_
  refine Z7 37 H (fun c4 H=>?_) fun c4 H=>?_
  ·refine rFi [0,2,3,11,41] ?_
   refine Zn ?_
   refine Sc (Za [8] ?_)
   cases H
   exact Sb (jRA ⟨_,_,_,_,_,_,_,_,_,_,_,_,_,_,_,rfl,rfl,rfl⟩ (sOR h11 [5,5,5,5,5,5,5,5,5,5,5,5,0,0,0,0] [0]))
  refine rRL 1 4 h11 ?_
  refine rFi [0,2,3,11,41] ?_
  refine jIf H (fun c5 H=>?_) fun c5 H=>?_
  ·refine Sc (Za [8] ?_)
   cases H
   exact Sb (jRA ⟨_,_,_,_,_,_,_,_,_,_,_,_,_,_,_,rfl,rfl,rfl⟩ (sOR h11 [5,5,5,5,5,5,5,5,5,5,5,5,0,0,0,0] [0]))
  refine Sd (Sc (Sa (rRL 1 4 h11 ?_)))
  refine rFi [0,2,3,9,11] ?_
  refine jH h11 fun h12=>?_
  refine Zq [0,2,4] ?_
  refine Zb 1 rfl (Zh 4 wI) ?_
  refine Zb 3 rfl (Zh 4 wI) ?_
  refine cSJ 5 rfl H [] h12 rfl Q60.spec (gS [20]) 0 fun r3 w6 H h13=>?_
  obtain ⟨⟨p1,p2⟩,H⟩:=Zi H
  have e1:=Zv h13.wh (Zc 21) p1 p2
  refine Zb 6 rfl (Zd e1 p1 p2) ?_
  refine Zb 7 rfl (Ze 0 wI (Zc 21) p1 p2) ?_
  refine hRF [8] [0,2,3,9,10] ?_
  have h14:=(sOR h13 [5,6,5,7,8,9,9,0,1,3,3,3,3,3,0,0] [0])
  exact ⟨k1,by omega,_,_,_,_,_,_,_,_,_,_,_,_,_,_,_,_,_,_,_,_,_,_,_,_,_,_,_,H,rfl,h14⟩
 refine rFi [0,2,3,10,11,31] ?_
 refine Z0 ?_
 refine Sd (Sc (Sc (Sa (rRL 2 0 h4 ?_))))
 have h15:=h4.freeze (k:=1) rfl Ye
 have h16:=h15.freeze (k:=1) rfl Ye
 have h17:=h16.freeze (k:=1) rfl Ye
 have h18:=h17.freeze (k:=1) rfl Ye
 obtain ⟨r4,q4,H⟩:=Yf H
 refine Zp (Un [.int .u32 x12,.agg #[.int .i64 r1.1.1,.slice A15 r1.1.2.1.length c_15,.slice A16 r1.1.2.2.1.length c_16,.slice A17 r1.1.2.2.2.1.length c_17,.slice A18 r1.1.2.2.2.2.length c_18]] [.pointer (some ⟨b8,0,none⟩),.pointer (some ⟨b9,0,none⟩)] [13,14,13,13] (Q89.spec q4) h18 rfl (gS [3,2,1,0,4])) ?_
 rintro _ w7 ⟨_,_,⟨A26,c_26,cs4,A27,c_27,rfl,rfl,rfl⟩,h19⟩
 replace h19:=nf h19
 refine Zf 2 ?_
 refine Z7 37 H (fun c6 H=>?_) fun c6 H=>?_
 ·refine rFi [0,2,3,11,41] ?_
  refine Zn ?_
  refine Sc (Za [8] ?_)
  cases H
  exact Sb (jRA ⟨_,_,_,_,_,_,_,_,_,_,_,_,_,_,_,rfl,rfl,rfl⟩ (sOR h19 [5,5,5,5,5,5,5,5,5,5,5,5,0,0,0,0] [0]))
 refine rRL 1 4 h19 ?_
 refine rFi [0,2,3,11,41] ?_
 refine jIf H (fun c7 H=>?_) fun c7 H=>?_
 ·refine Sc (Za [8] ?_)
  cases H
  exact Sb (jRA ⟨_,_,_,_,_,_,_,_,_,_,_,_,_,_,_,rfl,rfl,rfl⟩ (sOR h19 [5,5,5,5,5,5,5,5,5,5,5,5,0,0,0,0] [0]))
 refine Sd (Sc (Sa (rRL 1 4 h19 ?_)))
 refine rFi [0,2,3,9,11] ?_
 refine jH h19 fun h20=>?_
 refine Zq [0,2,4] ?_
 refine Zb 1 rfl (Zh 4 wI) ?_
 refine Zb 3 rfl (Zh 4 wI) ?_
 refine cSJ 5 rfl H [] h20 rfl Q60.spec (gS [20]) 0 fun r5 w8 H h21=>?_
 obtain ⟨⟨p3,p4⟩,H⟩:=Zi H
 have e2:=Zv h21.wh (Zc 21) p3 p4
 refine Zb 6 rfl (Zd e2 p3 p4) ?_
 refine Zb 7 rfl (Ze 0 wI (Zc 21) p3 p4) ?_
 refine hRF [8] [0,2,3,9,10] ?_
 have h22:=(sOR h21 [5,6,5,7,8,9,9,0,1,3,3,3,3,3,0,0] [0])
 exact ⟨k1,by omega,_,_,_,_,_,_,_,_,_,_,_,_,_,_,_,_,_,_,_,_,_,_,_,_,_,_,_,H,rfl,h22⟩

def Q88.f (k:Nat) (a0:Th) (a1:Int) (a2:TW):Option Tc:=(Q92.f k a0 a1 a2 [] []).bind fun r1=>(if (!decide (r1.1=0))=true then (some ([],[],r1.1,r1.2.1)) else (some (r1.2.2.1,r1.2.2.2,0,r1.2.1)))
theorem Q88.spec {k a0 a1 a2 b1 b2 b3 b4 b5 b6 b7 A1 c_1 A2 c_2 A3 c_3 A4 c_4 A5 c_5 r} (H:Q88.f k a0 a1 a2=some r) :
  SpecA prog 6 [.pointer (some ⟨b1,0,none⟩),.int .u32 a1,.string ⟨⟨a2⟩⟩] (Wy a0 b1 b2 b3 b4 b5 b6 b7 A1 A2 A3 A4 A5 c_1 c_2 c_3 c_4 c_5) [] (fun v l lr=>∃ A_0 c_0 A_1 c_1 A_2 c_2 A_3 c_3 A_4 c_4 A_5 c_5 A_6 c_6,v=.tuple #[.slice A_0 r.1.length c_0,.slice A_1 r.2.1.length c_1,.int .i64 r.2.2.1]/\l=[O30 r.2.1 A_1 c_1] ++ Wy r.2.2.2 b1 b2 b3 b4 b5 b6 b7 A_2 A_3 A_4 A_5 A_6 c_2 c_3 c_4 c_5 c_6/\lr=[R50 r.1 A_0 c_0]):=by
 refine Yj Tryz.func6 fun w0 F0 h0=>?_
 replace h0:=nf h0
 unfold Q88.f at H
 refine Sc (Za [0,1,2] ?_)
 refine Sc (Sa (rB (Yi h0) fun b8 w1 h1=>?_))
 refine rFi [0,1,2,9] ?_
 refine Sc (Sa (rB (Yi h1) fun b9 w2 h2=>?_))
 refine rFi [0,1,2,9,10] ?_
 refine Sc (Sa (Zf 4 ?_))
 have h3:=h2.rawNil 50 (.pair (.int .i64) (.pair (.slice 30 (.int .u32)) (.pair (.slice 9 .str) (.pair (.slice 59 (.pair .str (.pair .bool .str))) (.slice 57 (.pair .str .str))))))
 have h4:=h3.addNil 30 (.int .u32)
 obtain ⟨r1,q1,H⟩:=Yf H
 refine Zp (Z4 [4,4,4,4,4,4,4,4,4,4,4,4,3,1,1,0] (Q92.spec q1) h4 rfl (gS [0])) ?_
 rintro _ w3 ⟨_,_,⟨A6,c_6,A7,c_7,A8,c_8,A9,c_9,A10,c_10,A11,c_11,cs1,A12,c_12,rfl,rfl,rfl⟩,h5⟩
 replace h5:=nf h5
 refine rFi [9,10,11] ?_
 refine Sc (Sc (Za [9,10,11,18] ?_))
 refine jIf H (fun c1 H=>?_) fun c1 H=>?_
 ·refine Sc (Za [6,7,8] ?_)
  have h6:=sO h5 [0,0,0,0,0,0,0,0,0,0,0,0]
  replace h6:=nf h6
  have h7:=h6.addNil 50 (.pair (.int .i64) (.pair (.slice 30 (.int .u32)) (.pair (.slice 9 .str) (.pair (.slice 59 (.pair .str (.pair .bool .str))) (.slice 57 (.pair .str .str))))))
  have h8:=h7.freeze (k:=0) rfl Ye
  have h9:=h8.addNil 30 (.int .u32)
  cases H
  exact Sb (jRA ⟨_,_,_,_,_,_,_,_,_,_,_,_,_,_,rfl,rfl,rfl⟩ (sOR h9 [0,0,0,0,0,0,0,0,0,0,0,0,0] [0]))
 refine Sd (Sc (jH h5 fun h10=>?_))
 refine Zb 0 rfl (Zh 12 wI) ?_
 refine Zq [2] ?_
 refine Zb 1 rfl (Zh 14 wI) ?_
 refine hRF [3,4] [6,7,8] ?_
 have h11:=sO h10 [0,0,0,0,0,0,0,0,0,0,0,0,1,2]
 replace h11:=nf h11
 have h12:=Sk 12 0 h11
 cases H
 exact Sb (jRA ⟨_,_,_,_,_,_,_,_,_,_,_,_,_,_,rfl,rfl,rfl⟩ (sOR h12 [12,0,0,0,0,0,0,0,0,0,0,0,0] [0]))

def Q163.l0:Nat->Tm->TW->Tp->(Int)->(Int)->Option Tn
 | 0,_,_,_,_,_=>none
 | k+1,a0,a1,x1,x2,x3=>if (decide (0<=x3))=true then (if 0<=x3/\x3<(a0.length:Int) then (if 0<=x2/\x2<((gt a0 x3).length:Int) then (if (x1.length+([(gt (gt a0 x3) x2)]:List Tq).length)*104<=140737488355328 then (if (decide (0<x3))=true then ((Q157.f k ((gt (gt a0 x3) x2).2.2.1) a1).bind fun r1=>(if 0<=r1/\r1<(((gt (gt a0 x3) x2).2.1).length:Int) then (Q163.l0 k a0 a1 (x1 ++ [(gt (gt a0 x3) x2)]) (w64 ((w64 ((gt ((gt (gt a0 x3) x2).2.1) r1))) - 1)) (w64 (x3 - 1))) else none)) else (Q163.l0 k a0 a1 (x1 ++ [(gt (gt a0 x3) x2)]) x2 (w64 (x3 - 1)))) else none) else none) else none) else (some x1)
def Q163.f (k:Nat) (a0:Tm) (a1:TW):Option Tn:=Q163.l0 k a0 a1 [] 0 (w64 ((a0.length:Int) - 1))
theorem Q163.spec {k a0 a1 A1 c_1 r} (H:Q163.f k a0 a1=some r) :
  SpecA prog 9 [.slice A1 a0.length c_1,.string ⟨⟨a1⟩⟩] [] [R35 a0 A1 c_1] (fun v l lr=>∃ A_0 c_0,v=.slice A_0 r.length c_0/\l=[]/\lr=[R50 r A_0 c_0]):=by
 refine Yj Tryz.func9 fun w0 F0 h0=>?_
 unfold Q163.f at H
 refine Sc (Za [0,1] ?_)
 refine Sc (Sa (rB (Zc8 (.pair (.int .i64) (.pair (.slice 30 (.int .u32)) (.pair (.slice 9 .str) (.pair (.slice 59 (.pair .str (.pair .bool .str))) (.slice 57 (.pair .str .str)))))) h0) fun b1 w1 h1=>?_))
 refine rFi [0,1,5] ?_
 refine Sc (Za [0,1,5,6] ?_)
 refine Sc (Sc (Za [0,1,5,6,7] ?_))
 refine T4 ?_
 have h18:=(sOR h1 [0] [1,0])
 refine T8 (fun kk env w=>∃ x1 A2 c_2 x2 x3 cs1,Q163.l0 kk a0 a1 x1 x2 x3=some r/\env=[(0,.slice A1 a0.length c_1),(1,.string ⟨⟨a1⟩⟩),(5,.slice A2 x1.length c_2),(6,.int .i64 x2),(7,.int .i64 x3)]/\St w0 F0 [M50 x1 A2 c_2 cs1] [R35 a0 A1 c_1,E50 x1 cs1] w) (k:=k) ⟨_,_,_,_,_,_,H,rfl,h18⟩ ?_
 rintro k1 env w2 ⟨x1,A2,c_2,x2,x3,cs1,H,rfl,h2⟩
 rcases k1 with _ | k1
 ·exact z0 H
 rw [Q163.l0] at H
 refine Sc (Sc (Za [0,1,5,6,7,14] ?_))
 refine jIf H (fun c1 H=>?_) fun c1 H=>?_
 ·refine Sd (Sc (T4 (Sc (Sa (Zf 2 ?_)))))
  obtain ⟨⟨p1,p2⟩,H⟩:=Zi H
  have e1:=Zv h2.wh (Zc 1) p1 p2
  refine Zj (Zd e1 p1 p2) ?_
  obtain ⟨cs2,h3⟩:=h2.elem 0 rfl p1 p2
  obtain ⟨A3,c_3,rfl⟩:=Z3 0 h3
  refine Zj (Xd 0 h3.wht (Zc 2)) ?_
  refine Zf 1 ?_
  obtain ⟨⟨p3,p4⟩,H⟩:=Zi H
  have e2:=Zv h3.wh (Zc 1) p3 p4
  refine Zj (Zd e2 p3 p4) ?_
  obtain ⟨cs3,h4⟩:=h3.elem 0 rfl p3 p4
  obtain ⟨cs4,cs5,rfl,h5⟩:=Yd 0 h4
  obtain ⟨cs6,cs7,rfl,h6⟩:=Yd 1 h5
  obtain ⟨cs8,cs9,rfl,h7⟩:=Yd 1 h6
  obtain ⟨cs10,cs11,rfl,h8⟩:=Yd 1 h7
  obtain rfl:=Wf (.int .i64) 6 h8
  obtain ⟨A4,c_4,rfl⟩:=Z3 4 h8
  obtain ⟨A5,c_5,rfl⟩:=Z3 2 h8
  obtain ⟨A6,c_6,rfl⟩:=Z3 0 h8
  obtain ⟨A7,c_7,rfl⟩:=Z3 1 h8
  refine Zj (Xd 0 h8.wht (Zc 10)) ?_
  refine rB (Yi h8) fun b2 w3 h9=>?_
  refine rS (Zk 0 h9) fun _ w4 h10=>?_
  refine rFi [0,1,5,6,7,8] ?_
  refine Sc (Sa (rRL 1 0 h10 ?_))
  refine Zp (W2 (.pair (.int .i64) (.pair (.slice 30 (.int .u32)) (.pair (.slice 9 .str) (.pair (.slice 59 (.pair .str (.pair .bool .str))) (.slice 57 (.pair .str .str)))))) [(gt (gt a0 x3) x2)] h10 (W7 ⟨_,_,rfl,(Xf rfl _),⟨_,_,rfl,(.inl (Zc 4)),⟨_,_,rfl,(.inl (Zc 2)),⟨_,_,rfl,(.inl (Zc 0)),(.inl (Zc 1))⟩⟩⟩⟩ V3)) ?_
  rintro _ w5 ⟨b3,rfl,h11⟩
  replace h11:=nf h11
  obtain ⟨p5,H⟩:=Zi H
  refine Zp (Ut 1 14 0 h11 p5) ?_
  rintro _ w6 ⟨A8,c_8,cs12,rfl,h12⟩
  replace h12:=nf h12
  refine rFi [0,1,5,6,7,8] ?_
  refine Sc (Za [0,1,5,6,7,8,29] ?_)
  refine jIf H (fun c2 H=>?_) fun c2 H=>?_
  ·refine jH h12 fun h13=>?_
   refine Zq [0,2,4] ?_
   refine Zb 1 rfl (Zh 1 wI) ?_
   refine Zb 3 rfl (Zh 1 wI) ?_
   refine cSJ 5 rfl H [] h13 rfl Q157.spec (gS [6]) 0 fun r1 w7 H h14=>?_
   obtain ⟨⟨p6,p7⟩,H⟩:=Zi H
   have e3:=Zv h14.wh (Zc 8) p6 p7
   refine Zb 6 rfl (Zd e3 p6 p7) ?_
   refine Zb 7 rfl (Ze 0 wI (Zc 8) p6 p7) ?_
   refine hRF [8,9,10] [0,1,5,6,7] ?_
   refine Za [0,1,5,6,7] ?_
   have h15:=(sOR h14 [0] [14,0])
   exact ⟨k1,by omega,_,_,_,_,_,_,H,rfl,h15⟩
  refine Sd (Za [0,1,5,6,7] ?_)
  have h16:=(sOR h12 [0] [14,0])
  exact ⟨k1,by omega,_,_,_,_,_,_,H,rfl,h16⟩
 refine T7 (Sc (Za [4] ?_))
 have h17:=Sk 0 1 h2
 cases H
 exact Sb (jRA ⟨_,_,rfl,rfl,rfl⟩ (sOR h17 [] [0]))

def Q158.l0:Nat->T0->T0->(Int)->Option (Bool)
 | 0,_,_,_=>none
 | k+1,a0,a1,x1=>if (decide (x1<(a0.length:Int)))=true then (if 0<=x1/\x1<(a0.length:Int) then (if 0<=x1/\x1<(a1.length:Int) then (if (!decide ((gt a0 x1)=(gt a1 x1)))=true then (some false) else (Q158.l0 k a0 a1 (w64 (x1+1)))) else none) else none) else (some true)
def Q158.f (k:Nat) (a0:T0) (a1:T0):Option (Bool):=if (!decide ((a0.length:Int)=(a1.length:Int)))=true then (some false) else (Q158.l0 k a0 a1 0)
theorem Q158.spec {k a0 a1 A1 c_1 A2 c_2 r} (H:Q158.f k a0 a1=some r) :
  Spec prog 32 [.slice A1 a0.length c_1,.slice A2 a1.length c_2] [] [R30 a0 A1 c_1,R30 a1 A2 c_2] (fun v l=>v=.bool r/\l=[]):=by
 refine Zg Tryz.func32 fun w0 F0 h0=>?_
 unfold Q158.f at H
 refine Sc (Za [0,1] ?_)
 refine Sc (Sc (Za [0,1,10] ?_))
 refine jIf H (fun c1 H=>?_) fun c1 H=>?_
 ·refine Sc (Za [4] ?_)
  cases H
  exact Sb (jR0 h0 [])
 refine Sd (Sc (Sc (Za [0,1,5] ?_)))
 refine T4 ?_
 have h4:=(sOR h0 [] [0,1])
 refine T8 (fun kk env w=>∃ x1,Q158.l0 kk a0 a1 x1=some r/\env=[(0,.slice A1 a0.length c_1),(1,.slice A2 a1.length c_2),(5,.int .i64 x1)]/\St w0 F0 [] [R30 a0 A1 c_1,R30 a1 A2 c_2] w) (k:=k) ⟨_,H,rfl,h4⟩ ?_
 rintro k1 env w1 ⟨x1,H,rfl,h1⟩
 rcases k1 with _ | k1
 ·exact z0 H
 rw [Q158.l0] at H
 refine Sc (Sc (Za [0,1,5,14] ?_))
 refine jIf H (fun c2 H=>?_) fun c2 H=>?_
 ·refine Sd (Sc (T4 (Sc (jH h1 fun h2=>?_))))
  refine Zq [0,1,4,5] ?_
  obtain ⟨⟨p1,p2⟩,H⟩:=Zi H
  have e1:=Zv h2.wh (Zc 0) p1 p2
  refine Zb 2 rfl (Zd e1 p1 p2) ?_
  refine Zb 3 rfl (Ze 0 wI (Zc 0) p1 p2) ?_
  obtain ⟨⟨p3,p4⟩,H⟩:=Zi H
  have e2:=Zv h2.wh (Zc 1) p3 p4
  refine Zb 6 rfl (Zd e2 p3 p4) ?_
  refine Zb 7 rfl (Ze 0 wI (Zc 1) p3 p4) ?_
  refine hRF [8] [0,1,5,25] ?_
  refine jIf H (fun c3 H=>?_) fun c3 H=>?_
  ·refine Sc (Za [4] ?_)
   cases H
   exact Sb (jR0 h2 [])
  refine Sd (Za [0,1,5] ?_)
  have h3:=(sOR h2 [] [0,1])
  exact ⟨k1,by omega,_,H,rfl,h3⟩
 refine T7 (Sc (Za [4] ?_))
 cases H
 exact Sb (jR0 h1 [])

def Q155.l0:Nat->TO->TO->(Int)->Option (Bool)
 | 0,_,_,_=>none
 | k+1,a0,a1,x1=>if (decide (x1<(a0.length:Int)))=true then (if 0<=x1/\x1<(a0.length:Int) then (if 0<=x1/\x1<(a1.length:Int) then (if (!decide ((gt a0 x1)=(gt a1 x1)))=true then (some false) else (Q155.l0 k a0 a1 (w64 (x1+1)))) else none) else none) else (some true)
def Q155.f (k:Nat) (a0:TO) (a1:TO):Option (Bool):=if (!decide ((a0.length:Int)=(a1.length:Int)))=true then (some false) else (Q155.l0 k a0 a1 0)
theorem Q155.spec {k a0 a1 A1 c_1 A2 c_2 r} (H:Q155.f k a0 a1=some r) :
  Spec prog 33 [.slice A1 a0.length c_1,.slice A2 a1.length c_2] [] [R9 a0 A1 c_1,R9 a1 A2 c_2] (fun v l=>v=.bool r/\l=[]):=by
 refine Zg Tryz.func33 fun w0 F0 h0=>?_
 unfold Q155.f at H
 refine Sc (Za [0,1] ?_)
 refine Sc (Sc (Za [0,1,10] ?_))
 refine jIf H (fun c1 H=>?_) fun c1 H=>?_
 ·refine Sc (Za [4] ?_)
  cases H
  exact Sb (jR0 h0 [])
 refine Sd (Sc (Sc (Za [0,1,5] ?_)))
 refine T4 ?_
 have h4:=(sOR h0 [] [0,1])
 refine T8 (fun kk env w=>∃ x1,Q155.l0 kk a0 a1 x1=some r/\env=[(0,.slice A1 a0.length c_1),(1,.slice A2 a1.length c_2),(5,.int .i64 x1)]/\St w0 F0 [] [R9 a0 A1 c_1,R9 a1 A2 c_2] w) (k:=k) ⟨_,H,rfl,h4⟩ ?_
 rintro k1 env w1 ⟨x1,H,rfl,h1⟩
 rcases k1 with _ | k1
 ·exact z0 H
 rw [Q155.l0] at H
 refine Sc (Sc (Za [0,1,5,14] ?_))
 refine jIf H (fun c2 H=>?_) fun c2 H=>?_
 ·refine Sd (Sc (T4 (Sc (jH h1 fun h2=>?_))))
  refine Zq [0,1,4,5] ?_
  obtain ⟨⟨p1,p2⟩,H⟩:=Zi H
  have e1:=Zv h2.wh (Zc 0) p1 p2
  refine Zb 2 rfl (Zd e1 p1 p2) ?_
  refine Zb 3 rfl (Ze 0 wI (Zc 0) p1 p2) ?_
  obtain ⟨⟨p3,p4⟩,H⟩:=Zi H
  have e2:=Zv h2.wh (Zc 1) p3 p4
  refine Zb 6 rfl (Zd e2 p3 p4) ?_
  refine Zb 7 rfl (Ze 0 wI (Zc 1) p3 p4) ?_
  refine hRF [8] [0,1,5,25] ?_
  refine jIf H (fun c3 H=>?_) fun c3 H=>?_
  ·refine Sc (Za [4] ?_)
   cases H
   exact Sb (jR0 h2 [])
  refine Sd (Za [0,1,5] ?_)
  have h3:=(sOR h2 [] [0,1])
  exact ⟨k1,by omega,_,H,rfl,h3⟩
 refine T7 (Sc (Za [4] ?_))
 cases H
 exact Sb (jR0 h1 [])

def Q151.l0:Nat->Tw->Tw->(Int)->Option (Bool)
 | 0,_,_,_=>none
 | k+1,a0,a1,x1=>if (decide (x1<(a0.length:Int)))=true then (if 0<=x1/\x1<(a0.length:Int) then (if 0<=x1/\x1<(a1.length:Int) then (if (!((decide (((gt a0 x1).1)=((gt a1 x1).1))) && ((((gt a0 x1).2.1) == ((gt a1 x1).2.1)) && ((decide (((gt a0 x1).2.2)=((gt a1 x1).2.2))) && true))))=true then (some false) else (Q151.l0 k a0 a1 (w64 (x1+1)))) else none) else none) else (some true)
def Q151.f (k:Nat) (a0:Tw) (a1:Tw):Option (Bool):=if (!decide ((a0.length:Int)=(a1.length:Int)))=true then (some false) else (Q151.l0 k a0 a1 0)
theorem Q151.spec {k a0 a1 A1 c_1 A2 c_2 r} (H:Q151.f k a0 a1=some r) :
  Spec prog 34 [.slice A1 a0.length c_1,.slice A2 a1.length c_2] [] [R59 a0 A1 c_1,R59 a1 A2 c_2] (fun v l=>v=.bool r/\l=[]):=by
 refine Zg Tryz.func34 fun w0 F0 h0=>?_
 unfold Q151.f at H
 refine Sc (Za [0,1] ?_)
 refine Sc (Sc (Za [0,1,10] ?_))
 refine jIf H (fun c1 H=>?_) fun c1 H=>?_
 ·refine Sc (Za [4] ?_)
  cases H
  exact Sb (jR0 h0 [])
 refine Sd (Sc (Sc (Za [0,1,5] ?_)))
 refine T4 ?_
 have h4:=(sOR h0 [] [0,1])
 refine T8 (fun kk env w=>∃ x1,Q151.l0 kk a0 a1 x1=some r/\env=[(0,.slice A1 a0.length c_1),(1,.slice A2 a1.length c_2),(5,.int .i64 x1)]/\St w0 F0 [] [R59 a0 A1 c_1,R59 a1 A2 c_2] w) (k:=k) ⟨_,H,rfl,h4⟩ ?_
 rintro k1 env w1 ⟨x1,H,rfl,h1⟩
 rcases k1 with _ | k1
 ·exact z0 H
 rw [Q151.l0] at H
 refine Sc (Sc (Za [0,1,5,14] ?_))
 refine jIf H (fun c2 H=>?_) fun c2 H=>?_
 ·refine Sd (Sc (T4 (Sc (jH h1 fun h2=>?_))))
  refine Zq [0,1,4,5] ?_
  obtain ⟨⟨p1,p2⟩,H⟩:=Zi H
  have e1:=Zv h2.wh (Zc 0) p1 p2
  refine Zb 2 rfl (Zd e1 p1 p2) ?_
  refine Zb 3 rfl (Ze 0 wI (Zc 0) p1 p2) ?_
  obtain ⟨⟨p3,p4⟩,H⟩:=Zi H
  have e2:=Zv h2.wh (Zc 1) p3 p4
  refine Zb 6 rfl (Zd e2 p3 p4) ?_
  refine Zb 7 rfl (Ze 0 wI (Zc 1) p3 p4) ?_
  refine hRF [8] [0,1,5,25] ?_
  refine jIf H (fun c3 H=>?_) fun c3 H=>?_
  ·refine Sc (Za [4] ?_)
   cases H
   exact Sb (jR0 h2 [])
  refine Sd (Za [0,1,5] ?_)
  have h3:=(sOR h2 [] [0,1])
  exact ⟨k1,by omega,_,H,rfl,h3⟩
 refine T7 (Sc (Za [4] ?_))
 cases H
 exact Sb (jR0 h1 [])

def Q154.l0:Nat->TC->TC->(Int)->Option (Bool)
 | 0,_,_,_=>none
 | k+1,a0,a1,x1=>if (decide (x1<(a0.length:Int)))=true then (if 0<=x1/\x1<(a0.length:Int) then (if 0<=x1/\x1<(a1.length:Int) then (if (!((decide (((gt a0 x1).1)=((gt a1 x1).1))) && ((decide (((gt a0 x1).2)=((gt a1 x1).2))) && true)))=true then (some false) else (Q154.l0 k a0 a1 (w64 (x1+1)))) else none) else none) else (some true)
def Q154.f (k:Nat) (a0:TC) (a1:TC):Option (Bool):=if (!decide ((a0.length:Int)=(a1.length:Int)))=true then (some false) else (Q154.l0 k a0 a1 0)
theorem Q154.spec {k a0 a1 A1 c_1 A2 c_2 r} (H:Q154.f k a0 a1=some r) :
  Spec prog 35 [.slice A1 a0.length c_1,.slice A2 a1.length c_2] [] [R57 a0 A1 c_1,R57 a1 A2 c_2] (fun v l=>v=.bool r/\l=[]):=by
 refine Zg Tryz.func35 fun w0 F0 h0=>?_
 unfold Q154.f at H
 refine Sc (Za [0,1] ?_)
 refine Sc (Sc (Za [0,1,10] ?_))
 refine jIf H (fun c1 H=>?_) fun c1 H=>?_
 ·refine Sc (Za [4] ?_)
  cases H
  exact Sb (jR0 h0 [])
 refine Sd (Sc (Sc (Za [0,1,5] ?_)))
 refine T4 ?_
 have h4:=(sOR h0 [] [0,1])
 refine T8 (fun kk env w=>∃ x1,Q154.l0 kk a0 a1 x1=some r/\env=[(0,.slice A1 a0.length c_1),(1,.slice A2 a1.length c_2),(5,.int .i64 x1)]/\St w0 F0 [] [R57 a0 A1 c_1,R57 a1 A2 c_2] w) (k:=k) ⟨_,H,rfl,h4⟩ ?_
 rintro k1 env w1 ⟨x1,H,rfl,h1⟩
 rcases k1 with _ | k1
 ·exact z0 H
 rw [Q154.l0] at H
 refine Sc (Sc (Za [0,1,5,14] ?_))
 refine jIf H (fun c2 H=>?_) fun c2 H=>?_
 ·refine Sd (Sc (T4 (Sc (jH h1 fun h2=>?_))))
  refine Zq [0,1,4,5] ?_
  obtain ⟨⟨p1,p2⟩,H⟩:=Zi H
  have e1:=Zv h2.wh (Zc 0) p1 p2
  refine Zb 2 rfl (Zd e1 p1 p2) ?_
  refine Zb 3 rfl (Ze 0 wI (Zc 0) p1 p2) ?_
  obtain ⟨⟨p3,p4⟩,H⟩:=Zi H
  have e2:=Zv h2.wh (Zc 1) p3 p4
  refine Zb 6 rfl (Zd e2 p3 p4) ?_
  refine Zb 7 rfl (Ze 0 wI (Zc 1) p3 p4) ?_
  refine hRF [8] [0,1,5,25] ?_
  refine jIf H (fun c3 H=>?_) fun c3 H=>?_
  ·refine Sc (Za [4] ?_)
   cases H
   exact Sb (jR0 h2 [])
  refine Sd (Za [0,1,5] ?_)
  have h3:=(sOR h2 [] [0,1])
  exact ⟨k1,by omega,_,H,rfl,h3⟩
 refine T7 (Sc (Za [4] ?_))
 cases H
 exact Sb (jR0 h1 [])

def Q160.f (k:Nat) (a0:Tq) (a1:Tq):Option (Bool):=if (decide (a0.1=a1.1))=true then ((Q158.f k a0.2.1 a1.2.1).bind fun r1=>(if r1=true then ((Q155.f k a0.2.2.1 a1.2.2.1).bind fun r2=>(if r2=true then ((Q151.f k a0.2.2.2.1 a1.2.2.2.1).bind fun r3=>(if r3=true then ((Q154.f k a0.2.2.2.2 a1.2.2.2.2).bind fun r4=>(some r4)) else (some false))) else (some false))) else (some false))) else (some false)
theorem Q160.spec {k a0 a1 A1 c_1 A2 c_2 A3 c_3 A4 c_4 A5 c_5 A6 c_6 A7 c_7 A8 c_8 r} (H:Q160.f k a0 a1=some r) :
  Spec prog 13 [.agg #[.int .i64 a0.1,.slice A1 a0.2.1.length c_1,.slice A2 a0.2.2.1.length c_2,.slice A3 a0.2.2.2.1.length c_3,.slice A4 a0.2.2.2.2.length c_4],.agg #[.int .i64 a1.1,.slice A5 a1.2.1.length c_5,.slice A6 a1.2.2.1.length c_6,.slice A7 a1.2.2.2.1.length c_7,.slice A8 a1.2.2.2.2.length c_8]] [] [R30 a0.2.1 A1 c_1,R9 a0.2.2.1 A2 c_2,R59 a0.2.2.2.1 A3 c_3,R57 a0.2.2.2.2 A4 c_4,R30 a1.2.1 A5 c_5,R9 a1.2.2.1 A6 c_6,R59 a1.2.2.2.1 A7 c_7,R57 a1.2.2.2.2 A8 c_8] (fun v l=>v=.bool r/\l=[]):=by
 refine Zg Tryz.func13 fun w0 F0 h0=>?_
 unfold Q160.f at H
 refine Sc (Sa (rB (Z8 h0) fun b1 w1 h1=>?_))
 refine rB (Z8 h1) fun b2 w2 h2=>?_
 refine rFi [2,3] ?_
 refine Sc (Sa (rRL 1 1 h2 ?_))
 refine rRL 1 0 h2 ?_
 refine Zf 2 ?_
 refine Z7 10 H (fun c1 H=>?_) fun c1 H=>?_
 ·refine rRL 1 1 h2 ?_
  refine rRL 1 0 h2 ?_
  refine cS H [] h2 rfl Q158.spec (gS [2,6]) fun r1 w3 H h3=>?_
  refine Zf 2 ?_
  refine Z7 17 H (fun c2 H=>?_) fun c2 H=>?_
  ·refine rRL 1 1 h3 ?_
   refine rRL 1 0 h3 ?_
   refine cS H [] h3 rfl Q155.spec (gS [3,7]) fun r2 w4 H h4=>?_
   refine Zf 2 ?_
   refine Z7 24 H (fun c3 H=>?_) fun c3 H=>?_
   ·refine rRL 1 1 h4 ?_
    refine rRL 1 0 h4 ?_
    refine cS H [] h4 rfl Q151.spec (gS [4,8]) fun r3 w5 H h5=>?_
    refine Zf 2 ?_
    refine Z7 31 H (fun c4 H=>?_) fun c4 H=>?_
    ·refine rRL 1 1 h5 ?_
     refine rRL 1 0 h5 ?_
     refine cS H [] h5 rfl Q154.spec (gS [5,9]) fun r4 w6 H h6=>?_
     refine rFi [4] ?_
     have h7:=sO h6 []
     replace h7:=nf h7
     cases H
     exact Sb (jR0 h7 [])
    refine rFi [4] ?_
    have h8:=sO h5 []
    replace h8:=nf h8
    cases H
    exact Sb (jR0 h8 [])
   refine rFi [4] ?_
   have h9:=sO h4 []
   replace h9:=nf h9
   cases H
   exact Sb (jR0 h9 [])
  refine rFi [4] ?_
  have h10:=sO h3 []
  replace h10:=nf h10
  cases H
  exact Sb (jR0 h10 [])
 refine rFi [4] ?_
 have h11:=sO h2 []
 replace h11:=nf h11
 cases H
 exact Sb (jR0 h11 [])

def Q136.l0:Nat->Tp->Tp->(Int)->Option (Bool)
 | 0,_,_,_=>none
 | k+1,a0,a1,x1=>if (decide (x1<(a0.length:Int)))=true then (if 0<=x1/\x1<(a0.length:Int) then (if 0<=x1/\x1<(a1.length:Int) then (if (!decide ((((gt a0 x1).2.1).length:Int)=(((gt a1 x1).2.1).length:Int)))=true then (some false) else ((Q160.f k ((gt a0 x1).1,[],(gt a0 x1).2.2.1,(gt a0 x1).2.2.2.1,(gt a0 x1).2.2.2.2) ((gt a1 x1).1,[],(gt a1 x1).2.2.1,(gt a1 x1).2.2.2.1,(gt a1 x1).2.2.2.2)).bind fun r1=>(if (!r1)=true then (some false) else (Q136.l0 k a0 a1 (w64 (x1+1)))))) else none) else none) else (some true)
def Q136.f (k:Nat) (a0:Tp) (a1:Tp):Option (Bool):=if (!decide ((a0.length:Int)=(a1.length:Int)))=true then (some false) else (Q136.l0 k a0 a1 0)
theorem Q136.spec {k a0 a1 A1 c_1 A2 c_2 r} (H:Q136.f k a0 a1=some r) :
  Spec prog 8 [.slice A1 a0.length c_1,.slice A2 a1.length c_2] [] [R50 a0 A1 c_1,R50 a1 A2 c_2] (fun v l=>v=.bool r/\l=[]):=by
 refine Zg Tryz.func8 fun w0 F0 h0=>?_
 unfold Q136.f at H
 refine Sc (Za [0,1] ?_)
 refine Sc (Sc (Za [0,1,12] ?_))
 refine jIf H (fun c1 H=>?_) fun c1 H=>?_
 ·refine Sc (Za [4] ?_)
  cases H
  exact Sb (jR0 h0 [])
 refine Sd (Sc (Sc (Za [0,1,5] ?_)))
 refine T4 ?_
 have h36:=(sOR h0 [] [0,1])
 refine T8 (fun kk env w=>∃ x1,Q136.l0 kk a0 a1 x1=some r/\env=[(0,.slice A1 a0.length c_1),(1,.slice A2 a1.length c_2),(5,.int .i64 x1)]/\St w0 F0 [] [R50 a0 A1 c_1,R50 a1 A2 c_2] w) (k:=k) ⟨_,H,rfl,h36⟩ ?_
 rintro k1 env w1 ⟨x1,H,rfl,h1⟩
 rcases k1 with _ | k1
 ·exact z0 H
 rw [Q136.l0] at H
 refine Sc (Sc (Za [0,1,5,16] ?_))
 refine jIf H (fun c2 H=>?_) fun c2 H=>?_
 ·refine Sd (Sc (T4 (Sc ?_)))
  obtain ⟨⟨p1,p2⟩,H⟩:=Zi H
  obtain ⟨cs1,h2⟩:=h1.elem 0 rfl p1 p2
  obtain ⟨cs2,cs3,rfl,h3⟩:=Yd 0 h2
  obtain ⟨cs4,cs5,rfl,h4⟩:=Yd 1 h3
  obtain ⟨cs6,cs7,rfl,h5⟩:=Yd 1 h4
  obtain ⟨cs8,cs9,rfl,h6⟩:=Yd 1 h5
  obtain rfl:=Wf (.int .i64) 6 h6
  obtain ⟨A3,c_3,rfl⟩:=Z3 4 h6
  obtain ⟨A4,c_4,rfl⟩:=Z3 2 h6
  obtain ⟨A5,c_5,rfl⟩:=Z3 0 h6
  obtain ⟨A6,c_6,rfl⟩:=Z3 1 h6
  obtain ⟨⟨p3,p4⟩,H⟩:=Zi H
  obtain ⟨cs10,h7⟩:=h6.elem 11 rfl p3 p4
  obtain ⟨cs11,cs12,rfl,h8⟩:=Yd 0 h7
  obtain ⟨cs13,cs14,rfl,h9⟩:=Yd 1 h8
  obtain ⟨cs15,cs16,rfl,h10⟩:=Yd 1 h9
  obtain ⟨cs17,cs18,rfl,h11⟩:=Yd 1 h10
  obtain rfl:=Wf (.int .i64) 6 h11
  obtain ⟨A7,c_7,rfl⟩:=Z3 4 h11
  obtain ⟨A8,c_8,rfl⟩:=Z3 2 h11
  obtain ⟨A9,c_9,rfl⟩:=Z3 0 h11
  obtain ⟨A10,c_10,rfl⟩:=Z3 1 h11
  refine T9 (fun env w=>∃(b1:Nat) (b2:Nat),env=[(0,.slice A1 a0.length c_1),(1,.slice A2 a1.length c_2),(5,.int .i64 x1),(6,.pointer (some ⟨b1,0,none⟩)),(7,.pointer (some ⟨b2,0,none⟩))]/\St w0 F0 [X50 b1 ((gt a0 x1).1) ((gt a0 x1).2.1) A3 c_3 ((gt a0 x1).2.2.1) A4 c_4 ((gt a0 x1).2.2.2.1) A5 c_5 ((gt a0 x1).2.2.2.2) A6 c_6,X50 b2 ((gt a1 x1).1) ((gt a1 x1).2.1) A7 c_7 ((gt a1 x1).2.2.1) A8 c_8 ((gt a1 x1).2.2.2.1) A9 c_9 ((gt a1 x1).2.2.2.2) A10 c_10] [R59 ((gt a1 x1).2.2.2.1) A9 c_9,R57 ((gt a1 x1).2.2.2.2) A10 c_10,R9 ((gt a1 x1).2.2.1) A8 c_8,R30 ((gt a1 x1).2.1) A7 c_7,R59 ((gt a0 x1).2.2.2.1) A5 c_5,R57 ((gt a0 x1).2.2.2.2) A6 c_6,R9 ((gt a0 x1).2.2.1) A4 c_4,R30 ((gt a0 x1).2.1) A3 c_3,R50 a0 A1 c_1,R50 a1 A2 c_2] w) ?_ ?_
  ·refine jH h11 fun h16=>?_
   refine Zq [0,1,4,5] ?_
   have e3:=Zv h16.wh (Zc 20) p1 p2
   refine Zb 2 rfl (Zd e3 p1 p2) ?_
   refine Zb 3 rfl (Xd 0 wI (Zc 19)) ?_
   have e4:=Zv h16.wh (Zc 21) p3 p4
   refine Zb 6 rfl (Zd e4 p3 p4) ?_
   refine Zb 7 rfl (Xd 0 wI (Zc 9)) ?_
   refine T3 [8,9] (i:=8) rfl rfl rfl rfl ?_
   refine (Z9 ?_ (Z9 ?_ Xs))
   ·refine Z2 8 rfl (Yi h16) ?_
    rintro _ w8 ⟨b5,rfl,h19⟩
    replace h19:=nf h19
    refine ⟨⟨[_],h19⟩,?_⟩
    refine hB 9 rfl (Yi h19) 2 fun b6 w9 h20=>?_
    refine hS 10 rfl (Zk 1 h20) 2 fun _ w10 h21=>?_
    refine hS 11 rfl (Zk 1 h21) 2 fun _ w11 h22=>?_
    refine Y7 [0,1,5,6,7] ?_
    exact Yt ⟨b5,b6,rfl,(sOR h22 [1,0] [0,1,2,4,10,11,12,14,20,21])⟩
   ·refine Z2 9 rfl (Yi h16) ?_
    rintro _ w12 ⟨b7,rfl,h23⟩
    replace h23:=nf h23
    refine ⟨⟨[_],h23⟩,?_⟩
    refine hB 8 rfl (Yi h23) 2 fun b8 w13 h24=>?_
    refine hS 10 rfl (Zk 0 h24) 2 fun _ w14 h25=>?_
    refine hS 11 rfl (Zk 1 h25) 2 fun _ w15 h26=>?_
    refine Y7 [0,1,5,6,7] ?_
    exact Yt ⟨b8,b7,rfl,(sOR h26 [1,0] [0,1,2,4,10,11,12,14,20,21])⟩
  rintro env w16 ⟨b1,b2,rfl,h27⟩
  refine Sc (Sc (Sa (rRL 1 0 h27 ?_)))
  refine rRL 2 1 h27 ?_
  refine rFi [0,1,5,6,7,33] ?_
  refine jIf H (fun c3 H=>?_) fun c3 H=>?_
  ·refine Sc (Za [4] ?_)
   have h28:=sO h27 []
   replace h28:=nf h28
   cases H
   exact Sb (jR0 h28 [])
  refine Sd (Sc (Sa (Zf 1 ?_)))
  refine rS (Zk 0 h27) fun _ w17 h29=>?_
  refine Zf 1 ?_
  refine rS (Zk 1 h29) fun _ w18 h30=>?_
  refine rFi [0,1,5,6,7] ?_
  refine Sc (Sa (rLo 1 h30 ?_))
  refine rLo 0 h30 ?_
  have h31:=h30.addNil 30 (.int .u32)
  have h32:=h31.freeze (k:=0) rfl Ye
  refine cS H [] h32 rfl Q160.spec (gS [2,9,7,8,2,5,3,4]) fun r1 w19 H h33=>?_
  refine rFi [0,1,5,39] ?_
  have h34:=sO h33 []
  replace h34:=nf h34
  refine jIf H (fun c4 H=>?_) fun c4 H=>?_
  ·refine Sc (Za [4] ?_)
   cases H
   exact Sb (jR0 h34 [])
  refine Sd (Za [0,1,5] ?_)
  have h35:=(sOR h34 [] [9,10])
  exact ⟨k1,by omega,_,H,rfl,h35⟩
 refine T7 (Sc (Za [4] ?_))
 cases H
 exact Sb (jR0 h1 [])

def Q144.f (k:Nat) (a0:TF) (a1:TW):Option (Bool):=(Q141.f k a0.1 a1).bind fun r1=>(if (decide (r1<=0))=true then (if a0.2.2=true then (some true) else ((Q141.f k a1 a0.2.1).bind fun r2=>(some (decide (r2<0))))) else (some false))
theorem Q144.spec {k a0 a1 r} (H:Q144.f k a0 a1=some r) :
  Spec prog 11 [.agg #[.string ⟨⟨a0.1⟩⟩,.string ⟨⟨a0.2.1⟩⟩,.bool a0.2.2],.string ⟨⟨a1⟩⟩] [] [] (fun v l=>v=.bool r/\l=[]):=by
 refine Zg Tryz.func11 fun w0 F0 h0=>?_
 unfold Q144.f at H
 refine Sc (Sa (rB (Z8 h0) fun b1 w1 h1=>?_))
 refine rFi [1,2] ?_
 refine Sc (Sa (rRL 1 0 h1 ?_))
 refine Zf 1 ?_
 refine cS H [] h1 rfl Q141.spec Zm fun r1 w2 H h2=>?_
 refine Zf 2 ?_
 refine Z7 10 H (fun c1 H=>?_) fun c1 H=>?_
 ·refine rRL 1 0 h2 ?_
  refine Zf 1 ?_
  refine Z7 13 H (fun c2 H=>?_) fun c2 H=>?_
  ·refine rFi [4] ?_
   cases H
   exact Sb (jR0 h2 [])
  refine rRL 2 0 h2 ?_
  refine cS H [] h2 rfl Q141.spec Zm fun r2 w3 H h3=>?_
  refine rFi [4] ?_
  cases H
  exact Sb (jR0 h3 [])
 refine rFi [4] ?_
 cases H
 exact Sb (jR0 h2 [])

def Q143.f (k:Nat) (a0:TF):Option (Bool):=(Q144.f k a0 a0.1).bind fun r1=>(some (!r1))
theorem Q143.spec {k a0 r} (H:Q143.f k a0=some r) :
  Spec prog 51 [.agg #[.string ⟨⟨a0.1⟩⟩,.string ⟨⟨a0.2.1⟩⟩,.bool a0.2.2]] [] [] (fun v l=>v=.bool r/\l=[]):=by
 refine Zg Tryz.func51 fun w0 F0 h0=>?_
 unfold Q143.f at H
 refine Sc (Sa (rB (Z8 h0) fun b1 w1 h1=>?_))
 refine rFi [1] ?_
 refine Sc (Sa (rLo 0 h1 ?_))
 refine rRL 1 0 h1 ?_
 refine cS H [] h1 rfl Q144.spec Zm fun r1 w2 H h2=>?_
 refine rFi [2] ?_
 cases H
 exact Sb (jR0 h2 [])

def Q156.f (k:Nat) (a0:TO) (a1:Int) (a2:TF):Option Tv:=if (decide (a1<0))=true then (some (([],[],false),false)) else (if (decide ((a0.length:Int)<a1))=true then (some (([],[],false),false)) else (if (decide (0<a1))=true then (if 0<=(w64 (a1 - 1))/\(w64 (a1 - 1))<(a0.length:Int) then ((Q141.f k (gt a0 (w64 (a1 - 1))) a2.1).bind fun r1=>(if (decide (0<r1))=true then (if (decide (a1<(a0.length:Int)))=true then (if a2.2.2=true then (if 0<=a1/\a1<(a0.length:Int) then ((Q143.f k ((gt a0 (w64 (a1 - 1))),(gt a0 a1),false)).bind fun r2=>(if r2=true then (some (([],[],false),false)) else (some (((gt a0 (w64 (a1 - 1))),(gt a0 a1),false),true)))) else none) else (if 0<=a1/\a1<(a0.length:Int) then ((Q141.f k (gt a0 a1) a2.2.1).bind fun r3=>(if (decide (r3<0))=true then ((Q143.f k ((gt a0 (w64 (a1 - 1))),(gt a0 a1),false)).bind fun r4=>(if r4=true then (some (([],[],false),false)) else (some (((gt a0 (w64 (a1 - 1))),(gt a0 a1),false),true)))) else ((Q143.f k ((gt a0 (w64 (a1 - 1))),a2.2.1,a2.2.2)).bind fun r5=>(if r5=true then (some (([],[],false),false)) else (some (((gt a0 (w64 (a1 - 1))),a2.2.1,a2.2.2),true)))))) else none)) else (if a2.2.2=true then ((Q143.f k ((gt a0 (w64 (a1 - 1))),[],a2.2.2)).bind fun r6=>(if r6=true then (some (([],[],false),false)) else (some (((gt a0 (w64 (a1 - 1))),[],a2.2.2),true)))) else ((Q143.f k ((gt a0 (w64 (a1 - 1))),a2.2.1,a2.2.2)).bind fun r7=>(if r7=true then (some (([],[],false),false)) else (some (((gt a0 (w64 (a1 - 1))),a2.2.1,a2.2.2),true)))))) else (if (decide (a1<(a0.length:Int)))=true then (if a2.2.2=true then (if 0<=a1/\a1<(a0.length:Int) then ((Q143.f k (a2.1,(gt a0 a1),false)).bind fun r8=>(if r8=true then (some (([],[],false),false)) else (some ((a2.1,(gt a0 a1),false),true)))) else none) else (if 0<=a1/\a1<(a0.length:Int) then ((Q141.f k (gt a0 a1) a2.2.1).bind fun r9=>(if (decide (r9<0))=true then ((Q143.f k (a2.1,(gt a0 a1),false)).bind fun r10=>(if r10=true then (some (([],[],false),false)) else (some ((a2.1,(gt a0 a1),false),true)))) else ((Q143.f k a2).bind fun r11=>(if r11=true then (some (([],[],false),false)) else (some (a2,true)))))) else none)) else (if a2.2.2=true then ((Q143.f k (a2.1,[],a2.2.2)).bind fun r12=>(if r12=true then (some (([],[],false),false)) else (some ((a2.1,[],a2.2.2),true)))) else ((Q143.f k a2).bind fun r13=>(if r13=true then (some (([],[],false),false)) else (some (a2,true)))))))) else none) else (if (decide (a1<(a0.length:Int)))=true then (if a2.2.2=true then (if 0<=a1/\a1<(a0.length:Int) then ((Q143.f k (a2.1,(gt a0 a1),false)).bind fun r14=>(if r14=true then (some (([],[],false),false)) else (some ((a2.1,(gt a0 a1),false),true)))) else none) else (if 0<=a1/\a1<(a0.length:Int) then ((Q141.f k (gt a0 a1) a2.2.1).bind fun r15=>(if (decide (r15<0))=true then ((Q143.f k (a2.1,(gt a0 a1),false)).bind fun r16=>(if r16=true then (some (([],[],false),false)) else (some ((a2.1,(gt a0 a1),false),true)))) else ((Q143.f k a2).bind fun r17=>(if r17=true then (some (([],[],false),false)) else (some (a2,true)))))) else none)) else (if a2.2.2=true then ((Q143.f k (a2.1,[],a2.2.2)).bind fun r18=>(if r18=true then (some (([],[],false),false)) else (some ((a2.1,[],a2.2.2),true)))) else ((Q143.f k a2).bind fun r19=>(if r19=true then (some (([],[],false),false)) else (some (a2,true))))))))
theorem Q156.spec {k a0 a1 a2 A1 c_1 r} (H:Q156.f k a0 a1 a2=some r) :
  Spec prog 25 [.slice A1 a0.length c_1,.int .i64 a1,.agg #[.string ⟨⟨a2.1⟩⟩,.string ⟨⟨a2.2.1⟩⟩,.bool a2.2.2]] [] [R9 a0 A1 c_1] (fun v l=>v=.tuple #[.agg #[.string ⟨⟨r.1.1⟩⟩,.string ⟨⟨r.1.2.1⟩⟩,.bool r.1.2.2],.bool r.2]/\l=[]):=by
 refine Zg Tryz.func25 fun w0 F0 h0=>?_
 unfold Q156.f at H
 refine Sc (Sa (rB (Z8 h0) fun b1 w1 h1=>?_))
 refine rB (Yi h1) fun b2 w2 h2=>?_
 refine rFi [0,1,5,6] ?_
 refine Sc (Sc (Sa (Zf 3 ?_)))
 refine Z7 10 H (fun c1 H=>?_) fun c1 H=>?_
 ·refine rFi [0,1,5,6,15] ?_
  refine Zn ?_
  refine Sc (Sa (Zf 1 ?_))
  refine rS (Zk 0 h2) fun _ w3 h3=>?_
  refine rFi [6,7] ?_
  cases H
  exact Sb (jR2 (Zt (Si Yk 0 h3 rfl rfl rfl rfl) (Zt (Sj rfl) Yl)) ⟨rfl,rfl⟩ h3 [])
 refine rFi [0,1,5,6,15] ?_
 refine jIf H (fun c2 H=>?_) fun c2 H=>?_
 ·refine Sc (Sa (Zf 1 ?_))
  refine rS (Zk 0 h2) fun _ w4 h4=>?_
  refine rFi [6,7] ?_
  cases H
  exact Sb (jR2 (Zt (Si Yk 0 h4 rfl rfl rfl rfl) (Zt (Sj rfl) Yl)) ⟨rfl,rfl⟩ h4 [])
 refine Sd (Sc (Sc (jH h2 fun h5=>?_)))
 refine Zq [0,1,2] ?_
 refine Xo 19 H (fun c3 H=>?_) fun c3 H=>?_
 ·refine Zq [3,4,5,8] ?_
  obtain ⟨⟨p1,p2⟩,H⟩:=Zi H
  have e1:=Zv h5.wh (Zc 2) p1 p2
  refine Zb 6 rfl (Zd e1 p1 p2) ?_
  refine Zb 7 rfl (Ze 0 wI (Zc 2) p1 p2) ?_
  refine Zb 9 rfl (Zh 1 wI) ?_
  refine cSJ 10 rfl H [] h5 rfl Q141.spec Zm 0 fun r1 w5 H h6=>?_
  refine hRF [11,12] [0,1,5,6,29] ?_
  refine jIf H (fun c4 H=>?_) fun c4 H=>?_
  ·refine Sa (Zf 3 ?_)
   refine Zj (Zd e1 p1 p2) ?_
   refine Zj (Ze 0 h6.wht (Zc 2) p1 p2) ?_
   refine Zf 1 ?_
   refine rS (Zk 1 h6) fun _ w6 h7=>?_
   refine rFi [0,1,5,6] ?_
   refine Sc (Sc (jH h7 fun h8=>?_))
   refine Zq [0,1,2,3,4] ?_
   refine Xo 40 H (fun c5 H=>?_) fun c5 H=>?_
   ·refine Zq [5] ?_
    refine Zb 6 rfl (Zh 0 wI) ?_
    refine Zq [7] ?_
    refine Xo 43 H (fun c6 H=>?_) fun c6 H=>?_
    ·refine hRF [8,9,10,11,12,13,14,15,16,17] [0,1,5,6,53] ?_
     refine Zn ?_
     refine Sc (Sa (Zf 2 ?_))
     obtain ⟨⟨p3,p4⟩,H⟩:=Zi H
     refine Zj (Zd e1 p3 p4) ?_
     refine Zj (Ze 0 h8.wht (Zc 2) p3 p4) ?_
     refine Zf 1 ?_
     refine rS (Zk 0 h8) fun _ w7 h9=>?_
     refine rFi [5,6] ?_
     refine Sa (Zf 1 ?_)
     refine rS (Zk 0 h9) fun _ w8 h10=>?_
     refine rFi [5,6] ?_
     refine Sc (Sc (Sa (rRL 1 0 h10 ?_)))
     refine rFi [5,6,61] ?_
     refine Z0 ?_
     refine Sd (Sc (Sc (Sa (rLo 0 h10 ?_))))
     refine cS H [] h10 rfl Q143.spec Zm fun r2 w9 H h11=>?_
     refine rFi [5,6,64] ?_
     refine jIf H (fun c7 H=>?_) fun c7 H=>?_
     ·refine Sc (Sa (Zf 1 ?_))
      refine rS (Zk 1 h11) fun _ w10 h12=>?_
      refine rFi [6,7] ?_
      cases H
      exact Sb (jR2 (Zt (Si Yk 0 h12 rfl rfl rfl rfl) (Zt (Sj rfl) Yl)) ⟨rfl,rfl⟩ h12 [])
     refine Sd (Sc (Sa (rLo 0 h11 ?_)))
     refine rS (Zk 1 h11) fun _ w11 h13=>?_
     refine rFi [6,7] ?_
     cases H
     exact Sb (jR2 (Zt (Si Yk 0 h13 rfl rfl rfl rfl) (Zt (Sj rfl) Yl)) ⟨rfl,rfl⟩ h13 [])
    refine Zq [8,9,12] ?_
    obtain ⟨⟨p5,p6⟩,H⟩:=Zi H
    refine Zb 10 rfl (Zd e1 p5 p6) ?_
    refine Zb 11 rfl (Ze 0 wI (Zc 2) p5 p6) ?_
    refine Zb 13 rfl (Zh 0 wI) ?_
    refine cSJ 14 rfl H [] h8 rfl Q141.spec Zm 0 fun r3 w12 H h14=>?_
    refine hRF [15,16,17] [0,1,5,6,53] ?_
    refine jIf H (fun c8 H=>?_) fun c8 H=>?_
    ·refine Sc (Sa (Zf 2 ?_))
     refine Zj (Zd e1 p5 p6) ?_
     refine Zj (Ze 0 h14.wht (Zc 2) p5 p6) ?_
     refine Zf 1 ?_
     refine rS (Zk 0 h14) fun _ w13 h15=>?_
     refine rFi [5,6] ?_
     refine Sa (Zf 1 ?_)
     refine rS (Zk 0 h15) fun _ w14 h16=>?_
     refine rFi [5,6] ?_
     refine Sc (Sc (Sa (rRL 1 0 h16 ?_)))
     refine rFi [5,6,61] ?_
     refine Z0 ?_
     refine Sd (Sc (Sc (Sa (rLo 0 h16 ?_))))
     refine cS H [] h16 rfl Q143.spec Zm fun r4 w15 H h17=>?_
     refine rFi [5,6,64] ?_
     refine jIf H (fun c9 H=>?_) fun c9 H=>?_
     ·refine Sc (Sa (Zf 1 ?_))
      refine rS (Zk 1 h17) fun _ w16 h18=>?_
      refine rFi [6,7] ?_
      cases H
      exact Sb (jR2 (Zt (Si Yk 0 h18 rfl rfl rfl rfl) (Zt (Sj rfl) Yl)) ⟨rfl,rfl⟩ h18 [])
     refine Sd (Sc (Sa (rLo 0 h17 ?_)))
     refine rS (Zk 1 h17) fun _ w17 h19=>?_
     refine rFi [6,7] ?_
     cases H
     exact Sb (jR2 (Zt (Si Yk 0 h19 rfl rfl rfl rfl) (Zt (Sj rfl) Yl)) ⟨rfl,rfl⟩ h19 [])
    refine Sd (Sc (Sc (Sa (rRL 1 0 h14 ?_))))
    refine rFi [5,6,61] ?_
    refine T5 rfl (fun e=>by rw [c6] at e; cases e) (fun e=>?_)
    refine Sd (Sc (Sc (Sa (rLo 0 h14 ?_))))
    refine cS H [] h14 rfl Q143.spec Zm fun r5 w18 H h20=>?_
    refine rFi [5,6,64] ?_
    refine jIf H (fun c10 H=>?_) fun c10 H=>?_
    ·refine Sc (Sa (Zf 1 ?_))
     refine rS (Zk 1 h20) fun _ w19 h21=>?_
     refine rFi [6,7] ?_
     cases H
     exact Sb (jR2 (Zt (Si Yk 0 h21 rfl rfl rfl rfl) (Zt (Sj rfl) Yl)) ⟨rfl,rfl⟩ h21 [])
    refine Sd (Sc (Sa (rLo 0 h20 ?_)))
    refine rS (Zk 1 h20) fun _ w20 h22=>?_
    refine rFi [6,7] ?_
    cases H
    exact Sb (jR2 (Zt (Si Yk 0 h22 rfl rfl rfl rfl) (Zt (Sj rfl) Yl)) ⟨rfl,rfl⟩ h22 [])
   refine hRF [5,6,7,8,9,10,11,12,13,14,15,16,17] [0,1,5,6,53] ?_
   refine Z0 ?_
   refine Sd (Sc (Sc (Sa (rRL 1 0 h8 ?_))))
   refine rFi [5,6,61] ?_
   refine jIf H (fun c11 H=>?_) fun c11 H=>?_
   ·refine Sa (Zf 1 ?_)
    refine rS (Zk 0 h8) fun _ w21 h23=>?_
    refine rFi [5,6] ?_
    refine Sc (Sc (Sa (rLo 0 h23 ?_)))
    refine cS H [] h23 rfl Q143.spec Zm fun r6 w22 H h24=>?_
    refine rFi [5,6,64] ?_
    refine jIf H (fun c12 H=>?_) fun c12 H=>?_
    ·refine Sc (Sa (Zf 1 ?_))
     refine rS (Zk 1 h24) fun _ w23 h25=>?_
     refine rFi [6,7] ?_
     cases H
     exact Sb (jR2 (Zt (Si Yk 0 h25 rfl rfl rfl rfl) (Zt (Sj rfl) Yl)) ⟨rfl,rfl⟩ h25 [])
    refine Sd (Sc (Sa (rLo 0 h24 ?_)))
    refine rS (Zk 1 h24) fun _ w24 h26=>?_
    refine rFi [6,7] ?_
    cases H
    exact Sb (jR2 (Zt (Si Yk 0 h26 rfl rfl rfl rfl) (Zt (Sj rfl) Yl)) ⟨rfl,rfl⟩ h26 [])
   refine Sd (Sc (Sc (Sa (rLo 0 h8 ?_))))
   refine cS H [] h8 rfl Q143.spec Zm fun r7 w25 H h27=>?_
   refine rFi [5,6,64] ?_
   refine jIf H (fun c13 H=>?_) fun c13 H=>?_
   ·refine Sc (Sa (Zf 1 ?_))
    refine rS (Zk 1 h27) fun _ w26 h28=>?_
    refine rFi [6,7] ?_
    cases H
    exact Sb (jR2 (Zt (Si Yk 0 h28 rfl rfl rfl rfl) (Zt (Sj rfl) Yl)) ⟨rfl,rfl⟩ h28 [])
   refine Sd (Sc (Sa (rLo 0 h27 ?_)))
   refine rS (Zk 1 h27) fun _ w27 h29=>?_
   refine rFi [6,7] ?_
   cases H
   exact Sb (jR2 (Zt (Si Yk 0 h29 rfl rfl rfl rfl) (Zt (Sj rfl) Yl)) ⟨rfl,rfl⟩ h29 [])
  refine Sd (Sc (Sc (jH h6 fun h30=>?_)))
  refine Zq [0,1,2,3,4] ?_
  refine Xo 40 H (fun c14 H=>?_) fun c14 H=>?_
  ·refine Zq [5] ?_
   refine Zb 6 rfl (Zh 1 wI) ?_
   refine Zq [7] ?_
   refine Xo 43 H (fun c15 H=>?_) fun c15 H=>?_
   ·refine hRF [8,9,10,11,12,13,14,15,16,17] [0,1,5,6,53] ?_
    refine Zn ?_
    refine Sc (Sa (Zf 2 ?_))
    obtain ⟨⟨p7,p8⟩,H⟩:=Zi H
    refine Zj (Zd e1 p7 p8) ?_
    refine Zj (Ze 0 h30.wht (Zc 2) p7 p8) ?_
    refine Zf 1 ?_
    refine rS (Zk 1 h30) fun _ w28 h31=>?_
    refine rFi [5,6] ?_
    refine Sa (Zf 1 ?_)
    refine rS (Zk 0 h31) fun _ w29 h32=>?_
    refine rFi [5,6] ?_
    refine Sc (Sc (Sa (rRL 1 0 h32 ?_)))
    refine rFi [5,6,61] ?_
    refine Z0 ?_
    refine Sd (Sc (Sc (Sa (rLo 0 h32 ?_))))
    refine cS H [] h32 rfl Q143.spec Zm fun r8 w30 H h33=>?_
    refine rFi [5,6,64] ?_
    refine jIf H (fun c16 H=>?_) fun c16 H=>?_
    ·refine Sc (Sa (Zf 1 ?_))
     refine rS (Zk 1 h33) fun _ w31 h34=>?_
     refine rFi [6,7] ?_
     cases H
     exact Sb (jR2 (Zt (Si Yk 0 h34 rfl rfl rfl rfl) (Zt (Sj rfl) Yl)) ⟨rfl,rfl⟩ h34 [])
    refine Sd (Sc (Sa (rLo 0 h33 ?_)))
    refine rS (Zk 1 h33) fun _ w32 h35=>?_
    refine rFi [6,7] ?_
    cases H
    exact Sb (jR2 (Zt (Si Yk 0 h35 rfl rfl rfl rfl) (Zt (Sj rfl) Yl)) ⟨rfl,rfl⟩ h35 [])
   refine Zq [8,9,12] ?_
   obtain ⟨⟨p9,p10⟩,H⟩:=Zi H
   refine Zb 10 rfl (Zd e1 p9 p10) ?_
   refine Zb 11 rfl (Ze 0 wI (Zc 2) p9 p10) ?_
   refine Zb 13 rfl (Zh 1 wI) ?_
   refine cSJ 14 rfl H [] h30 rfl Q141.spec Zm 0 fun r9 w33 H h36=>?_
   refine hRF [15,16,17] [0,1,5,6,53] ?_
   refine jIf H (fun c17 H=>?_) fun c17 H=>?_
   ·refine Sc (Sa (Zf 2 ?_))
    refine Zj (Zd e1 p9 p10) ?_
    refine Zj (Ze 0 h36.wht (Zc 2) p9 p10) ?_
    refine Zf 1 ?_
    refine rS (Zk 1 h36) fun _ w34 h37=>?_
    refine rFi [5,6] ?_
    refine Sa (Zf 1 ?_)
    refine rS (Zk 0 h37) fun _ w35 h38=>?_
    refine rFi [5,6] ?_
    refine Sc (Sc (Sa (rRL 1 0 h38 ?_)))
    refine rFi [5,6,61] ?_
    refine Z0 ?_
    refine Sd (Sc (Sc (Sa (rLo 0 h38 ?_))))
    refine cS H [] h38 rfl Q143.spec Zm fun r10 w36 H h39=>?_
    refine rFi [5,6,64] ?_
    refine jIf H (fun c18 H=>?_) fun c18 H=>?_
    ·refine Sc (Sa (Zf 1 ?_))
     refine rS (Zk 1 h39) fun _ w37 h40=>?_
     refine rFi [6,7] ?_
     cases H
     exact Sb (jR2 (Zt (Si Yk 0 h40 rfl rfl rfl rfl) (Zt (Sj rfl) Yl)) ⟨rfl,rfl⟩ h40 [])
    refine Sd (Sc (Sa (rLo 0 h39 ?_)))
    refine rS (Zk 1 h39) fun _ w38 h41=>?_
    refine rFi [6,7] ?_
    cases H
    exact Sb (jR2 (Zt (Si Yk 0 h41 rfl rfl rfl rfl) (Zt (Sj rfl) Yl)) ⟨rfl,rfl⟩ h41 [])
   refine Sd (Sc (Sc (Sa (rRL 1 1 h36 ?_))))
   refine rFi [5,6,61] ?_
   refine T5 rfl (fun e=>by rw [c15] at e; cases e) (fun e=>?_)
   refine Sd (Sc (Sc (Sa (rLo 1 h36 ?_))))
   refine cS H [] h36 rfl Q143.spec Zm fun r11 w39 H h42=>?_
   refine rFi [5,6,64] ?_
   refine jIf H (fun c19 H=>?_) fun c19 H=>?_
   ·refine Sc (Sa (Zf 1 ?_))
    refine rS (Zk 0 h42) fun _ w40 h43=>?_
    refine rFi [6,7] ?_
    cases H
    exact Sb (jR2 (Zt (Si Yk 0 h43 rfl rfl rfl rfl) (Zt (Sj rfl) Yl)) ⟨rfl,rfl⟩ h43 [])
   refine Sd (Sc (Sa (rLo 1 h42 ?_)))
   refine rS (Zk 0 h42) fun _ w41 h44=>?_
   refine rFi [6,7] ?_
   cases H
   exact Sb (jR2 (Zt (Si Yk 0 h44 rfl rfl rfl rfl) (Zt (Sj rfl) Yl)) ⟨rfl,rfl⟩ h44 [])
  refine hRF [5,6,7,8,9,10,11,12,13,14,15,16,17] [0,1,5,6,53] ?_
  refine Z0 ?_
  refine Sd (Sc (Sc (Sa (rRL 1 1 h30 ?_))))
  refine rFi [5,6,61] ?_
  refine jIf H (fun c20 H=>?_) fun c20 H=>?_
  ·refine Sa (Zf 1 ?_)
   refine rS (Zk 1 h30) fun _ w42 h45=>?_
   refine rFi [5,6] ?_
   refine Sc (Sc (Sa (rLo 0 h45 ?_)))
   refine cS H [] h45 rfl Q143.spec Zm fun r12 w43 H h46=>?_
   refine rFi [5,6,64] ?_
   refine jIf H (fun c21 H=>?_) fun c21 H=>?_
   ·refine Sc (Sa (Zf 1 ?_))
    refine rS (Zk 1 h46) fun _ w44 h47=>?_
    refine rFi [6,7] ?_
    cases H
    exact Sb (jR2 (Zt (Si Yk 0 h47 rfl rfl rfl rfl) (Zt (Sj rfl) Yl)) ⟨rfl,rfl⟩ h47 [])
   refine Sd (Sc (Sa (rLo 0 h46 ?_)))
   refine rS (Zk 1 h46) fun _ w45 h48=>?_
   refine rFi [6,7] ?_
   cases H
   exact Sb (jR2 (Zt (Si Yk 0 h48 rfl rfl rfl rfl) (Zt (Sj rfl) Yl)) ⟨rfl,rfl⟩ h48 [])
  refine Sd (Sc (Sc (Sa (rLo 1 h30 ?_))))
  refine cS H [] h30 rfl Q143.spec Zm fun r13 w46 H h49=>?_
  refine rFi [5,6,64] ?_
  refine jIf H (fun c22 H=>?_) fun c22 H=>?_
  ·refine Sc (Sa (Zf 1 ?_))
   refine rS (Zk 0 h49) fun _ w47 h50=>?_
   refine rFi [6,7] ?_
   cases H
   exact Sb (jR2 (Zt (Si Yk 0 h50 rfl rfl rfl rfl) (Zt (Sj rfl) Yl)) ⟨rfl,rfl⟩ h50 [])
  refine Sd (Sc (Sa (rLo 1 h49 ?_)))
  refine rS (Zk 0 h49) fun _ w48 h51=>?_
  refine rFi [6,7] ?_
  cases H
  exact Sb (jR2 (Zt (Si Yk 0 h51 rfl rfl rfl rfl) (Zt (Sj rfl) Yl)) ⟨rfl,rfl⟩ h51 [])
 refine hRF [3,4,5,6,7,8,9,10,11,12] [0,1,5,6,29] ?_
 refine Z0 ?_
 refine Sd (Sc (Sc (jH h5 fun h52=>?_)))
 refine Zq [0,1,2,3,4] ?_
 refine Xo 40 H (fun c23 H=>?_) fun c23 H=>?_
 ·refine Zq [5] ?_
  refine Zb 6 rfl (Zh 1 wI) ?_
  refine Zq [7] ?_
  refine Xo 43 H (fun c24 H=>?_) fun c24 H=>?_
  ·refine hRF [8,9,10,11,12,13,14,15,16,17] [0,1,5,6,53] ?_
   refine Zn ?_
   refine Sc (Sa (Zf 2 ?_))
   obtain ⟨⟨p11,p12⟩,H⟩:=Zi H
   have e2:=Zv h52.wh (Zc 2) p11 p12
   refine Zj (Zd e2 p11 p12) ?_
   refine Zj (Ze 0 h52.wht (Zc 2) p11 p12) ?_
   refine Zf 1 ?_
   refine rS (Zk 1 h52) fun _ w49 h53=>?_
   refine rFi [5,6] ?_
   refine Sa (Zf 1 ?_)
   refine rS (Zk 0 h53) fun _ w50 h54=>?_
   refine rFi [5,6] ?_
   refine Sc (Sc (Sa (rRL 1 0 h54 ?_)))
   refine rFi [5,6,61] ?_
   refine Z0 ?_
   refine Sd (Sc (Sc (Sa (rLo 0 h54 ?_))))
   refine cS H [] h54 rfl Q143.spec Zm fun r14 w51 H h55=>?_
   refine rFi [5,6,64] ?_
   refine jIf H (fun c25 H=>?_) fun c25 H=>?_
   ·refine Sc (Sa (Zf 1 ?_))
    refine rS (Zk 1 h55) fun _ w52 h56=>?_
    refine rFi [6,7] ?_
    cases H
    exact Sb (jR2 (Zt (Si Yk 0 h56 rfl rfl rfl rfl) (Zt (Sj rfl) Yl)) ⟨rfl,rfl⟩ h56 [])
   refine Sd (Sc (Sa (rLo 0 h55 ?_)))
   refine rS (Zk 1 h55) fun _ w53 h57=>?_
   refine rFi [6,7] ?_
   cases H
   exact Sb (jR2 (Zt (Si Yk 0 h57 rfl rfl rfl rfl) (Zt (Sj rfl) Yl)) ⟨rfl,rfl⟩ h57 [])
  refine Zq [8,9,12] ?_
  obtain ⟨⟨p13,p14⟩,H⟩:=Zi H
  have e3:=Zv h52.wh (Zc 2) p13 p14
  refine Zb 10 rfl (Zd e3 p13 p14) ?_
  refine Zb 11 rfl (Ze 0 wI (Zc 2) p13 p14) ?_
  refine Zb 13 rfl (Zh 1 wI) ?_
  refine cSJ 14 rfl H [] h52 rfl Q141.spec Zm 0 fun r15 w54 H h58=>?_
  refine hRF [15,16,17] [0,1,5,6,53] ?_
  refine jIf H (fun c26 H=>?_) fun c26 H=>?_
  ·refine Sc (Sa (Zf 2 ?_))
   refine Zj (Zd e3 p13 p14) ?_
   refine Zj (Ze 0 h58.wht (Zc 2) p13 p14) ?_
   refine Zf 1 ?_
   refine rS (Zk 1 h58) fun _ w55 h59=>?_
   refine rFi [5,6] ?_
   refine Sa (Zf 1 ?_)
   refine rS (Zk 0 h59) fun _ w56 h60=>?_
   refine rFi [5,6] ?_
   refine Sc (Sc (Sa (rRL 1 0 h60 ?_)))
   refine rFi [5,6,61] ?_
   refine Z0 ?_
   refine Sd (Sc (Sc (Sa (rLo 0 h60 ?_))))
   refine cS H [] h60 rfl Q143.spec Zm fun r16 w57 H h61=>?_
   refine rFi [5,6,64] ?_
   refine jIf H (fun c27 H=>?_) fun c27 H=>?_
   ·refine Sc (Sa (Zf 1 ?_))
    refine rS (Zk 1 h61) fun _ w58 h62=>?_
    refine rFi [6,7] ?_
    cases H
    exact Sb (jR2 (Zt (Si Yk 0 h62 rfl rfl rfl rfl) (Zt (Sj rfl) Yl)) ⟨rfl,rfl⟩ h62 [])
   refine Sd (Sc (Sa (rLo 0 h61 ?_)))
   refine rS (Zk 1 h61) fun _ w59 h63=>?_
   refine rFi [6,7] ?_
   cases H
   exact Sb (jR2 (Zt (Si Yk 0 h63 rfl rfl rfl rfl) (Zt (Sj rfl) Yl)) ⟨rfl,rfl⟩ h63 [])
  refine Sd (Sc (Sc (Sa (rRL 1 1 h58 ?_))))
  refine rFi [5,6,61] ?_
  refine T5 rfl (fun e=>by rw [c24] at e; cases e) (fun e=>?_)
  refine Sd (Sc (Sc (Sa (rLo 1 h58 ?_))))
  refine cS H [] h58 rfl Q143.spec Zm fun r17 w60 H h64=>?_
  refine rFi [5,6,64] ?_
  refine jIf H (fun c28 H=>?_) fun c28 H=>?_
  ·refine Sc (Sa (Zf 1 ?_))
   refine rS (Zk 0 h64) fun _ w61 h65=>?_
   refine rFi [6,7] ?_
   cases H
   exact Sb (jR2 (Zt (Si Yk 0 h65 rfl rfl rfl rfl) (Zt (Sj rfl) Yl)) ⟨rfl,rfl⟩ h65 [])
  refine Sd (Sc (Sa (rLo 1 h64 ?_)))
  refine rS (Zk 0 h64) fun _ w62 h66=>?_
  refine rFi [6,7] ?_
  cases H
  exact Sb (jR2 (Zt (Si Yk 0 h66 rfl rfl rfl rfl) (Zt (Sj rfl) Yl)) ⟨rfl,rfl⟩ h66 [])
 refine hRF [5,6,7,8,9,10,11,12,13,14,15,16,17] [0,1,5,6,53] ?_
 refine Z0 ?_
 refine Sd (Sc (Sc (Sa (rRL 1 1 h52 ?_))))
 refine rFi [5,6,61] ?_
 refine jIf H (fun c29 H=>?_) fun c29 H=>?_
 ·refine Sa (Zf 1 ?_)
  refine rS (Zk 1 h52) fun _ w63 h67=>?_
  refine rFi [5,6] ?_
  refine Sc (Sc (Sa (rLo 0 h67 ?_)))
  refine cS H [] h67 rfl Q143.spec Zm fun r18 w65 H h68=>?_
  refine rFi [5,6,64] ?_
  refine jIf H (fun c30 H=>?_) fun c30 H=>?_
  ·refine Sc (Sa (Zf 1 ?_))
   refine rS (Zk 1 h68) fun _ w66 h69=>?_
   refine rFi [6,7] ?_
   cases H
   exact Sb (jR2 (Zt (Si Yk 0 h69 rfl rfl rfl rfl) (Zt (Sj rfl) Yl)) ⟨rfl,rfl⟩ h69 [])
  refine Sd (Sc (Sa (rLo 0 h68 ?_)))
  refine rS (Zk 1 h68) fun _ w67 h70=>?_
  refine rFi [6,7] ?_
  cases H
  exact Sb (jR2 (Zt (Si Yk 0 h70 rfl rfl rfl rfl) (Zt (Sj rfl) Yl)) ⟨rfl,rfl⟩ h70 [])
 refine Sd (Sc (Sc (Sa (rLo 1 h52 ?_))))
 refine cS H [] h52 rfl Q143.spec Zm fun r19 w68 H h71=>?_
 refine rFi [5,6,64] ?_
 refine jIf H (fun c31 H=>?_) fun c31 H=>?_
 ·refine Sc (Sa (Zf 1 ?_))
  refine rS (Zk 0 h71) fun _ w69 h72=>?_
  refine rFi [6,7] ?_
  cases H
  exact Sb (jR2 (Zt (Si Yk 0 h72 rfl rfl rfl rfl) (Zt (Sj rfl) Yl)) ⟨rfl,rfl⟩ h72 [])
 refine Sd (Sc (Sa (rLo 1 h71 ?_)))
 refine rS (Zk 0 h71) fun _ w70 h73=>?_
 refine rFi [6,7] ?_
 cases H
 exact Sb (jR2 (Zt (Si Yk 0 h73 rfl rfl rfl rfl) (Zt (Sj rfl) Yl)) ⟨rfl,rfl⟩ h73 [])

def Q162.l0:Nat->TW->Tn->TF->(Int)->Option TB
 | 0,_,_,_,_=>none
 | k+1,a1,r1,x1,x2=>if (decide (x2<(r1.length:Int)))=true then (if 0<=x2/\x2<(r1.length:Int) then (if (decide (0<((gt r1 x2).1)))=true then ((Q157.f k ((gt r1 x2).2.2.1) a1).bind fun r2=>((Q156.f k ((gt r1 x2).2.2.1) r2 x1).bind fun r3=>(Q162.l0 k a1 r1 r3.1 (w64 (x2+1))))) else (Q162.l0 k a1 r1 x1 (w64 (x2+1)))) else none) else (some x1)
def Q162.f (k:Nat) (a0:Tm) (a1:TW):Option TB:=(Q163.f k a0 a1).bind fun r1=>(Q162.l0 k a1 r1 ([],[],true) 0)
theorem Q162.spec {k a0 a1 A1 c_1 r} (H:Q162.f k a0 a1=some r) :
  Spec prog 10 [.slice A1 a0.length c_1,.string ⟨⟨a1⟩⟩] [] [R35 a0 A1 c_1] (fun v l=>v=.agg #[.string ⟨⟨r.1⟩⟩,.string ⟨⟨r.2.1⟩⟩,.bool r.2.2]/\l=[]):=by
 refine Zg Tryz.func10 fun w0 F0 h0=>?_
 unfold Q162.f at H
 refine Sc (Sa (rB (Yi h0) fun b1 w1 h1=>?_))
 refine rFi [0,1,4] ?_
 refine Sc (Sa (Zf 1 ?_))
 refine rB (Yi h1) fun b2 w2 h2=>?_
 refine rS (Zk 0 h2) fun _ w3 h3=>?_
 refine rFi [0,1,4,5] ?_
 refine Sc (Sa (Zf 2 ?_))
 obtain ⟨r1,q1,H⟩:=Yf H
 refine Zp (Z4 [] (Q163.spec q1) h3 rfl (gS [0])) ?_
 rintro _ w4 ⟨_,_,⟨A2,c_2,rfl,rfl,rfl⟩,h4⟩
 replace h4:=nf h4
 refine rFi [1,4,5,6] ?_
 refine Sc (Sc (Za [1,4,5,6,7] ?_))
 refine T4 ?_
 have h27:=(sOR h4 [1,0] [0])
 refine T8 (fun kk env w=>∃ x1 x2,Q162.l0 kk a1 r1 x1 x2=some r/\env=[(1,.string ⟨⟨a1⟩⟩),(4,.pointer (some ⟨b1,0,none⟩)),(5,.pointer (some ⟨b2,0,none⟩)),(6,.slice A2 r1.length c_2),(7,.int .i64 x2)]/\St w0 F0 [X41 b1 [] [] false,X41 b2 x1.1 x1.2.1 x1.2.2] [R50 r1 A2 c_2] w) (k:=k) ⟨_,_,H,rfl,h27⟩ ?_
 rintro k1 env w5 ⟨x1,x2,H,rfl,h5⟩
 rcases k1 with _ | k1
 ·exact z0 H
 rw [Q162.l0] at H
 refine Sc (Sc (Za [1,4,5,6,7,15] ?_))
 refine jIf H (fun c1 H=>?_) fun c1 H=>?_
 ·refine Sd (Sc (T4 (Sc (Sa (Zf 2 ?_)))))
  obtain ⟨⟨p1,p2⟩,H⟩:=Zi H
  have e1:=Zv h5.wh (Zc 2) p1 p2
  refine Zj (Zd e1 p1 p2) ?_
  refine Zf 1 ?_
  obtain ⟨cs1,h6⟩:=h5.elem 0 rfl p1 p2
  obtain ⟨cs2,cs3,rfl,h7⟩:=Yd 0 h6
  obtain ⟨cs4,cs5,rfl,h8⟩:=Yd 1 h7
  obtain ⟨cs6,cs7,rfl,h9⟩:=Yd 1 h8
  obtain ⟨cs8,cs9,rfl,h10⟩:=Yd 1 h9
  obtain rfl:=Wf (.int .i64) 6 h10
  obtain ⟨A3,c_3,rfl⟩:=Z3 4 h10
  obtain ⟨A4,c_4,rfl⟩:=Z3 2 h10
  obtain ⟨A5,c_5,rfl⟩:=Z3 0 h10
  obtain ⟨A6,c_6,rfl⟩:=Z3 1 h10
  refine Zj (Xd 0 h10.wht (Zc 11)) ?_
  refine rFi [1,4,5,6,7,23] ?_
  refine jIf H (fun c2 H=>?_) fun c2 H=>?_
  ·obtain ⟨r2,q2,H⟩:=Yf H
   obtain ⟨r3,q3,H⟩:=Yf H
   refine J.mid (fun env w=>env=[(1,.string ⟨⟨a1⟩⟩),(4,.pointer (some ⟨b1,0,none⟩)),(5,.pointer (some ⟨b2,0,none⟩)),(6,.slice A2 r1.length c_2),(7,.int .i64 x2)]/\St w0 F0 [X41 b2 r3.1.1 r3.1.2.1 r3.1.2.2,X41 b1 [] [] false] [R59 ((gt r1 x2).2.2.2.1) A5 c_5,R57 ((gt r1 x2).2.2.2.2) A6 c_6,R9 ((gt r1 x2).2.2.1) A4 c_4,R30 ((gt r1 x2).2.1) A3 c_3,R50 r1 A2 c_2] w) ?_ ?_
   ·refine Zy (sO h10 [0]) ?_
    have h14:=h10.drew
    refine Zq [0,1,5,6,10] ?_
    refine Zb 2 rfl (Zd e1 p1 p2) ?_
    refine Zq [3] ?_
    refine Zb 4 rfl (Xd 2 wI (Zc 10)) ?_
    refine Zb 7 rfl (Zd e1 p1 p2) ?_
    refine Zq [8] ?_
    refine Zb 9 rfl (Xd 2 wI (Zc 10)) ?_
    refine T3 [11,12] (i:=11) rfl rfl rfl rfl ?_
    refine (Z9 ?_ (Z9 ?_ Xs))
    ·refine Z2 11 rfl (Xx [] (Q157.spec q2) h14 rfl (gS [4])) ?_
     rintro _ w12 ⟨_,⟨rfl,rfl⟩,h17⟩
     replace h17:=nf h17
     refine ⟨⟨[_],(sO h17 [1,0])⟩,?_⟩
     refine Yb 12 rfl (Sf (Zh 1 h17.wht)) ?_
     rintro _ _ ⟨rfl,rfl⟩
     replace h17:=nf h17
     refine ⟨⟨[_],(sO h17 [1,0])⟩,?_⟩
     refine Yb 13 rfl (Xx [] (Q156.spec q3) h17 rfl (gS [4])) ?_
     rintro _ w14 ⟨_,⟨rfl,rfl⟩,h18⟩
     replace h18:=nf h18
     refine ⟨⟨[_],(sO h18 [1,0])⟩,?_⟩
     refine Zq [14,15,16] ?_
     refine hS 17 rfl (Zk 1 h18) 1 fun _ w15 h19=>?_
     refine Y7 [1,4,5,6,7] ?_
     exact Yt ⟨rfl,(sOR h19 [0,0] [0,1,2,4,10])⟩
    ·refine Z2 12 rfl (Sf (Zh 1 h14.wht)) ?_
     rintro _ _ ⟨rfl,rfl⟩
     replace h14:=nf h14
     refine ⟨⟨[_],(sO h14 [1,0])⟩,?_⟩
     refine Yb 11 rfl (Xx [] (Q157.spec q2) h14 rfl (gS [4])) ?_
     rintro _ w17 ⟨_,⟨rfl,rfl⟩,h20⟩
     replace h20:=nf h20
     refine ⟨⟨[_],(sO h20 [1,0])⟩,?_⟩
     refine Yb 13 rfl (Xx [] (Q156.spec q3) h20 rfl (gS [4])) ?_
     rintro _ w18 ⟨_,⟨rfl,rfl⟩,h21⟩
     replace h21:=nf h21
     refine ⟨⟨[_],(sO h21 [1,0])⟩,?_⟩
     refine Zq [14,15,16] ?_
     refine hS 17 rfl (Zk 1 h21) 1 fun _ w19 h22=>?_
     refine Y7 [1,4,5,6,7] ?_
     exact Yt ⟨rfl,(sOR h22 [0,0] [0,1,2,4,10])⟩
   rintro env w20 ⟨rfl,h23⟩
   refine Za [1,4,5,6,7] ?_
   have h24:=(sOR h23 [1,0] [4])
   exact ⟨k1,by omega,_,_,H,rfl,h24⟩
  refine Sd (Za [1,4,5,6,7] ?_)
  have h25:=(sOR h10 [0,0] [10])
  exact ⟨k1,by omega,_,_,H,rfl,h25⟩
 refine T7 (Sc (Sa (rLo 1 h5 ?_)))
 refine rS (Zk 0 h5) fun _ w21 h26=>?_
 refine rFi [4] ?_
 cases H
 exact Sb (jR2 (Zt (Si Yk 0 h26 rfl rfl rfl rfl) Yl) ⟨rfl,rfl⟩ h26 [])

def Q134.l2:Nat->Tc->Ts->TG->TE->TL->Tz->TQ->T0->(Int)->(Int)->Option (Bool)
 | 0,_,_,_,_,_,_,_,_,_,_=>none
 | k+1,r6,x3,x4,x5,x6,x7,x8,x9,x10,x11=>if (decide (x11<(r6.2.1.length:Int)))=true then (if 0<=x11/\x11<(r6.2.1.length:Int) then ((Q93.f k (x3,(x4,x7,x8,x9,x5),x6,x10) (gt r6.2.1 x11)).bind fun r8=>(if 0<=x11/\x11<(r6.1.length:Int) then (if (!decide (r8.2.1=0))=true then (some false) else ((Q160.f k r8.1 (gt r6.1 x11)).bind fun r9=>(if (!r9)=true then (some false) else (Q134.l2 k r6 r8.2.2.1 r8.2.2.2.1.1 r8.2.2.2.1.2.2.2.2 r8.2.2.2.2.1 r8.2.2.2.1.2.1 r8.2.2.2.1.2.2.1 r8.2.2.2.1.2.2.2.1 r8.2.2.2.2.2 (w64 (x11+1)))))) else none)) else none) else ((Q137.f k).bind fun r10=>(some r10))
def Q134.l1:Nat->Tc->Te->(Bool)->Option (Bool)
 | 0,_,_,_=>none
 | k+1,r6,r7,x2=>if x2=true then (some false) else (Q134.l2 k r6 r7.2.2.1 r7.2.2.2.1.1 r7.2.2.2.1.2.2.2.2 r7.2.2.2.2.1 r7.2.2.2.1.2.1 r7.2.2.2.1.2.2.1 r7.2.2.2.1.2.2.2.1 r7.2.2.2.2.2 0)
def Q134.l0:Nat->TW->Ta->Th->(Bool)->Option (Bool)
 | 0,_,_,_,_=>none
 | k+1,a2,r1,r2,x1=>if x1=true then ((Q137.f k).bind fun r5=>(some r5)) else ((Q88.f k r2 r1.2.1 a2).bind fun r6=>((Q86.f k r6.2.2.2 r1.2.1 a2).bind fun r7=>(if (!decide (r6.2.2.1=0))=true then (Q134.l1 k r6 r7 true) else (if (!decide (r7.2.1=0))=true then (Q134.l1 k r6 r7 true) else ((Q163.f k r1.2.2.1 a2).bind fun r11=>((Q136.f k r6.1 r11).bind fun r12=>(if (!r12)=true then (Q134.l1 k r6 r7 true) else (if (!decide ((r6.2.1.length:Int)=(r6.1.length:Int)))=true then (Q134.l1 k r6 r7 true) else (if 0<(r6.2.1.length:Int) then (if (!decide ((gt r6.2.1 0)=r1.2.1))=true then (Q134.l1 k r6 r7 true) else ((Q162.f k r1.2.2.1 a2).bind fun r13=>(if (!((decide (r7.1.1=r13.1)) && ((decide (r7.1.2.1=r13.2.1)) && ((r7.1.2.2 == r13.2.2) && true))))=true then (Q134.l1 k r6 r7 true) else ((Q144.f k r7.1 a2).bind fun r14=>(Q134.l1 k r6 r7 (!r14)))))) else none)))))))))
def Q134.f (k:Nat) (a0:Ts) (a1:Tr) (a2:TW):Option (Bool):=(Q135.f k a0 a1).bind fun r1=>(Vn r1.1 (if (!r1.2.2.2)=true then ((Q137.f k).bind fun r3=>(some r3)) else (if (decide (300<(a2.length:Int)))=true then ((Q137.f k).bind fun r4=>(some r4)) else (none))) (fun r2=>(if (!r1.2.2.2)=true then (Q134.l0 k a2 r1 r2 true) else (Q134.l0 k a2 r1 r2 (decide (300<(a2.length:Int)))))))
theorem Q134.spec {k a0 a1 a2 A1 c_1 A2 c_2 A3 c_3 A4 c_4 r} (H:Q134.f k a0 a1 a2=some r) :
  Spec prog 3 [.agg #[.int .i64 a0.1,.int .i64 a0.2.1,.int .i64 a0.2.2.1,.int .i64 a0.2.2.2.1,.int .i64 a0.2.2.2.2.1,.int .i64 a0.2.2.2.2.2.1,.int .i64 a0.2.2.2.2.2.2.1,.int .i64 a0.2.2.2.2.2.2.2],.agg #[.slice A1 a1.1.length c_1,.slice A2 a1.2.1.length c_2,.slice A3 a1.2.2.1.length c_3,.slice A4 a1.2.2.2.length c_4],.string ⟨⟨a2⟩⟩] [] [R57 a1.1 A1 c_1,R59 a1.2.1 A2 c_2,R5 a1.2.2.1 A3 c_3,R5 a1.2.2.2 A4 c_4,tabC 1] (fun v l=>v=.bool r/\l=[]):=by
 refine Zg Tryz.func3 fun w0 F0 h0=>?_
 unfold Q134.f at H
 refine Sc (Sa (rB (Z8 h0) fun b1 w1 h1=>?_))
 refine rB (Z8 h1) fun b2 w2 h2=>?_
 refine rFi [2,3,4] ?_
 refine Sc (Sa (rLo 1 h2 ?_))
 refine rLo 0 h2 ?_
 obtain ⟨r1,q1,H⟩:=Yf H
 refine Zp (Z4 [] (Q135.spec q1) h2 rfl (gS [0,1,2,3,4])) ?_
 rintro _ w3 ⟨_,_,⟨v1,l1,ho1,A5,c_5,rfl,rfl,rfl⟩,h3⟩
 rcases ho2:r1.1 with _ | r2
 ·rw [ho2] at ho1
  obtain ⟨rfl,rfl⟩:=ho1
  replace H:=J9 ho2 H
  replace h3:=nf h3
  refine rFi [2,7,8,9,10] ?_
  have h4:=sO h3 []
  replace h4:=nf h4
  refine Sc (Sc (Sa (Zf 3 ?_)))
  refine Z7 29 H (fun c1 H=>?_) fun c1 H=>?_
  ·refine rFi [2,7,8,9,33] ?_
   refine Zn ?_
   refine Sc (Sa (cS H [] h4 rfl Q137.spec (gS [5]) fun r3 w4 H h5=>?_))
   refine rFi [6] ?_
   cases H
   exact Sb (jR0 h5 [])
  refine rFi [2,7,8,9,33] ?_
  refine jIf H (fun c2 H=>?_) fun c2 H=>?_
  ·refine Sc (Sa (cS H [] h4 rfl Q137.spec (gS [5]) fun r4 w5 H h6=>?_))
   refine rFi [6] ?_
   cases H
   exact Sb (jR0 h6 [])
  refine Sd (Sc (Sa (Zf 3 ?_)))
  exact nomatch H
 rw [ho2] at ho1
 obtain ⟨b3,b4,b5,A6,c_6,A7,c_7,b6,A8,c_8,b7,A9,c_9,b8,b9,A10,c_10,rfl,rfl⟩:=ho1
 replace H:=J8 ho2 H
 replace h3:=nf h3
 refine rFi [2,7,8,9,10] ?_
 have h7:=sO h3 [0,0,0,0,0,0,0,0,0,0,0,0]
 replace h7:=nf h7
 refine Sc (Sc (T9 (fun env w=>∃ k1 x1,Q134.l0 k1 a2 r1 r2 x1=some r/\env=[(2,.string ⟨⟨a2⟩⟩),(7,.pointer (some ⟨b3,0,none⟩)),(8,.int .u32 r1.2.1),(9,.slice A5 r1.2.2.1.length c_5),(33,.bool x1)]/\St w0 F0 [X78 b3 r2.1.1 r2.1.2.1 r2.1.2.2.1 r2.1.2.2.2.1 r2.1.2.2.2.2.1 r2.1.2.2.2.2.2.1 r2.1.2.2.2.2.2.2.1 r2.1.2.2.2.2.2.2.2 (.pointer (some ⟨b5,0,none⟩)) (.pointer (some ⟨b4,0,none⟩)) (.pointer (some ⟨b8,0,none⟩)) r2.2.2.2,Xu b5 r2.2.1.1.1 r2.2.1.1.2.1 A6 c_6 r2.2.1.1.2.2.1 r2.2.1.1.2.2.2,X6 b4 (.pointer (some ⟨b5,0,none⟩)) r2.2.1.2.1 A7 c_7 (.map (some b6)) r2.2.1.2.2.2.1 A8 c_8 (.pointer (some ⟨b7,0,none⟩)),Xj .u32 (Value.int .i64) b6 r2.2.1.2.2.1,Y2 b7 r2.2.1.2.2.2.2.1 A9 c_9 r2.2.1.2.2.2.2.2,Us b8 (.pointer (some ⟨b9,0,none⟩)),Ws b9 r2.2.2.1.1 r2.2.2.1.2.1 r2.2.2.1.2.2 A10 c_10,O5 r2.2.1.1.2.1 A6 c_6,X7 r2.2.1.2.1 A7 c_7,O3 r2.2.1.2.2.2.1 A8 c_8,Y3 r2.2.1.2.2.2.2.1 A9 c_9,Wr r2.2.2.1.2.2 A10 c_10] [R35 r1.2.2.1 A5 c_5,tabC 1] w/\k1<=k) ?_ ?_))
 ·refine Sa (Zf 3 ?_)
  refine Z7 29 H (fun c14 H=>?_) fun c14 H=>?_
  ·refine rFi [2,7,8,9,33] ?_
   have h48:=(sOR h7 [0,1,0,2,3,4,4,0,0,0,0,0] [0,5])
   exact ⟨k,_,H,rfl,h48,Se _⟩
  refine rFi [2,7,8,9,33] ?_
  have h49:=(sOR h7 [0,1,0,2,3,4,4,0,0,0,0,0] [0,5])
  exact ⟨k,_,H,rfl,h49,Se _⟩
 rintro env w7 ⟨k1,x1,H,rfl,h8,hk1⟩
 rcases k1 with _ | k1
 ·exact z0 H
 rw [Q134.l0] at H
 refine jIf H (fun c3 H=>?_) fun c3 H=>?_
 ·refine Sc (Sa (cS H [] h8 rfl Q137.spec (gS [13]) fun r5 w8 H h9=>?_))
  refine rFi [6] ?_
  have h10:=sO h9 []
  replace h10:=nf h10
  cases H
  exact Sb (jR0 h10 [])
 refine Sd (Sc (Sa (Zf 3 ?_)))
 obtain ⟨r6,q5,H⟩:=Yf H
 refine Zp (Z4 [0,1,0,4,4,0,3,0,2,0,0,0] (Q88.spec q5) h8 rfl Zm) ?_
 rintro _ w9 ⟨_,_,⟨A11,c_11,A12,c_12,A13,c_13,A14,c_14,A15,c_15,A16,c_16,A17,c_17,rfl,rfl,rfl⟩,h11⟩
 replace h11:=nf h11
 refine rFi [2,7,8,9,11,12,13] ?_
 refine Sc (Sa (Zf 3 ?_))
 refine cE H [1,1,1,1,1,1,1,1,1,1,1,1] h11 rfl Q86.spec Zm ?_
 rintro r7 w10 _ _ H ⟨A18,c_18,A19,c_19,A20,c_20,A21,c_21,A22,c_22,rfl,rfl⟩ h12
 replace h12:=nf h12
 refine Zf 3 ?_
 refine rB (Yi h12) fun b10 w11 h13=>?_
 refine rS (Zk 0 h13) fun _ w12 h14=>?_
 refine rFi [2,7,8,9,11,12,13,14,15] ?_
 refine Sc (Sc (T9 (fun env w=>∃ k2 x2,Q134.l1 k2 r6 r7 x2=some r/\env=[(7,.pointer (some ⟨b3,0,none⟩)),(11,.slice A11 r6.1.length c_11),(12,.slice A12 r6.2.1.length c_12),(90,.bool x2)]/\St w0 F0 [X78 b3 r7.2.2.1.1 r7.2.2.1.2.1 r7.2.2.1.2.2.1 r7.2.2.1.2.2.2.1 r7.2.2.1.2.2.2.2.1 r7.2.2.1.2.2.2.2.2.1 r7.2.2.1.2.2.2.2.2.2.1 r7.2.2.1.2.2.2.2.2.2.2 (.pointer (some ⟨b5,0,none⟩)) (.pointer (some ⟨b4,0,none⟩)) (.pointer (some ⟨b8,0,none⟩)) r7.2.2.2.2.2,Xu b5 r7.2.2.2.1.1.1 r7.2.2.2.1.1.2.1 A18 c_18 r7.2.2.2.1.1.2.2.1 r7.2.2.2.1.1.2.2.2,X6 b4 (.pointer (some ⟨b5,0,none⟩)) r7.2.2.2.1.2.1 A19 c_19 (.map (some b6)) r7.2.2.2.1.2.2.2.1 A20 c_20 (.pointer (some ⟨b7,0,none⟩)),Xj .u32 (Value.int .i64) b6 r7.2.2.2.1.2.2.1,Y2 b7 r7.2.2.2.1.2.2.2.2.1 A21 c_21 r7.2.2.2.1.2.2.2.2.2,Us b8 (.pointer (some ⟨b9,0,none⟩)),Ws b9 r7.2.2.2.2.1.1 r7.2.2.2.2.1.2.1 r7.2.2.2.2.1.2.2 A22 c_22,O5 r7.2.2.2.1.1.2.1 A18 c_18,X7 r7.2.2.2.1.2.1 A19 c_19,O3 r7.2.2.2.1.2.2.2.1 A20 c_20,Y3 r7.2.2.2.1.2.2.2.2.1 A21 c_21,Wr r7.2.2.2.2.1.2.2 A22 c_22,O30 r6.2.1 A12 c_12] [R50 r6.1 A11 c_11,tabC 1] w/\k2<=k1) ?_ ?_))
 ·refine jH h14 fun h36=>?_
  refine Zq [0,1,2] ?_
  refine Xo 52 H (fun c8 H=>?_) fun c8 H=>?_
  ·refine hRF [3,4,5,6,7,8,9,10,11,12,13,14,15,16,17,18,19,20,21,22,23,24,25,26,27,28,29,30,31,32,33,34,35,36,37,38,39,40] [7,11,12,90] ?_
   have h37:=(sOR h36 [1,2,1,3,4,5,5,1,1,1,1,1,1] [0,2])
   exact ⟨k1,_,H,rfl,h37,Se _⟩
  refine Zq [3,4,5,6] ?_
  refine Xo 56 H (fun c9 H=>?_) fun c9 H=>?_
  ·refine hRF [7,8,9,10,11,12,13,14,15,16,17,18,19,20,21,22,23,24,25,26,27,28,29,30,31,32,33,34,35,36,37,38,39,40] [7,11,12,90] ?_
   have h38:=(sOR h36 [1,2,1,3,4,5,5,1,1,1,1,1,1] [0,2])
   exact ⟨k1,_,H,rfl,h38,Se _⟩
  refine Zq [7,8,9] ?_
  obtain ⟨r11,q10,H⟩:=Yf H
  refine Yb 10 rfl (Z4 [] (Q163.spec q10) h36 rfl (gS [1])) ?_
  rintro _ w21 ⟨_,_,⟨A41,c_41,rfl,rfl,rfl⟩,h39⟩
  replace h39:=nf h39
  refine ⟨⟨[],(Wo h39 [1,2,3])⟩,?_⟩
  refine cEJ 11 rfl H [] h39 rfl Q136.spec (gS [15,14]) ?_
  rintro r12 w22 _ _ H ⟨rfl,rfl⟩ h40
  replace h40:=nf h40
  refine ⟨⟨[],(Wo h40 [1,2,3])⟩,?_⟩
  refine Zq [12,13,14] ?_
  refine Xo 64 H (fun c10 H=>?_) fun c10 H=>?_
  ·refine hRF [15,16,17,18,19,20,21,22,23,24,25,26,27,28,29,30,31,32,33,34,35,36,37,38,39,40] [7,11,12,90] ?_
   have h41:=(sOR h40 [1,2,1,3,4,5,5,1,1,1,1,1,1] [1,3])
   exact ⟨k1,_,H,rfl,h41,Se _⟩
  refine Zq [15,16,17,18,19,20,21] ?_
  refine Xo 71 H (fun c11 H=>?_) fun c11 H=>?_
  ·refine hRF [22,23,24,25,26,27,28,29,30,31,32,33,34,35,36,37,38,39,40] [7,11,12,90] ?_
   have h42:=(sOR h40 [1,2,1,3,4,5,5,1,1,1,1,1,1] [1,3])
   exact ⟨k1,_,H,rfl,h42,Se _⟩
  refine Zq [22,25] ?_
  obtain ⟨p5,H⟩:=Zi H
  have e3:=U3 h40.wh (gO 13) p5
  refine Zb 23 rfl (Ul e3 p5) ?_
  refine Zb 24 rfl (Vd 0 wI (gO 13) p5) ?_
  refine Zq [26,27,28] ?_
  refine Xo 78 H (fun c12 H=>?_) fun c12 H=>?_
  ·refine hRF [29,30,31,32,33,34,35,36,37,38,39,40] [7,11,12,90] ?_
   have h43:=(sOR h40 [1,2,1,3,4,5,5,1,1,1,1,1,1] [1,3])
   exact ⟨k1,_,H,rfl,h43,Se _⟩
  refine Zq [30,31] ?_
  refine Zb 29 rfl (Zh 0 wI) ?_
  refine cEJ 32 rfl H [] h40 rfl Q162.spec (gS [16]) ?_
  rintro r13 w23 _ _ H ⟨rfl,rfl⟩ h44
  replace h44:=nf h44
  refine ⟨⟨[],(Wo h44 [1,2,3])⟩,?_⟩
  refine Zq [33,34,35] ?_
  refine Xo 85 H (fun c13 H=>?_) fun c13 H=>?_
  ·refine hRF [36,37,38,39,40] [7,11,12,90] ?_
   have h45:=(sOR h44 [1,2,1,3,4,5,5,1,1,1,1,1,1] [1,3])
   exact ⟨k1,_,H,rfl,h45,Se _⟩
  refine Zq [37] ?_
  refine Zb 36 rfl (Zh 0 wI) ?_
  refine cEJ 38 rfl H [] h44 rfl Q144.spec Zm ?_
  rintro r14 w24 _ _ H ⟨rfl,rfl⟩ h46
  replace h46:=nf h46
  refine ⟨⟨[],(Wo h46 [1,2,3])⟩,?_⟩
  refine hRF [39,40] [7,11,12,90] ?_
  have h47:=(sOR h46 [1,2,1,3,4,5,5,1,1,1,1,1,1] [1,3])
  exact ⟨k1,_,H,rfl,h47,Se _⟩
 rintro env w14 ⟨k2,x2,H,rfl,h15,hk2⟩
 rcases k2 with _ | k2
 ·exact z0 H
 rw [Q134.l1] at H
 refine jIf H (fun c4 H=>?_) fun c4 H=>?_
 ·refine Sc (Za [6] ?_)
  have h16:=sO h15 []
  replace h16:=nf h16
  cases H
  exact Sb (jR0 h16 [])
 refine Sd (Sc (Sc (Za [7,11,12,16] ?_)))
 refine T4 ?_
 have h35:=(sOR h15 [0,0,0,0,0,0,0,0,0,0,0,0,0] [0,1])
 refine T8 (fun kk env w=>∃ x3 x4 x5 x6 A23 c_23 x7 A24 c_24 x8 x9 A25 c_25 A26 c_26 A27 c_27 x10 x11,Q134.l2 kk r6 x3 x4 x5 x6 x7 x8 x9 x10 x11=some r/\env=[(7,.pointer (some ⟨b3,0,none⟩)),(11,.slice A11 r6.1.length c_11),(12,.slice A12 r6.2.1.length c_12),(16,.int .i64 x11)]/\St w0 F0 [X78 b3 x3.1 x3.2.1 x3.2.2.1 x3.2.2.2.1 x3.2.2.2.2.1 x3.2.2.2.2.2.1 x3.2.2.2.2.2.2.1 x3.2.2.2.2.2.2.2 (.pointer (some ⟨b5,0,none⟩)) (.pointer (some ⟨b4,0,none⟩)) (.pointer (some ⟨b8,0,none⟩)) x10,Xu b5 x4.1 x4.2.1 A23 c_23 x4.2.2.1 x4.2.2.2,X6 b4 (.pointer (some ⟨b5,0,none⟩)) x7 A24 c_24 (.map (some b6)) x9 A25 c_25 (.pointer (some ⟨b7,0,none⟩)),Xj .u32 (Value.int .i64) b6 x8,Y2 b7 x5.1 A26 c_26 x5.2,Us b8 (.pointer (some ⟨b9,0,none⟩)),Ws b9 x6.1 x6.2.1 x6.2.2 A27 c_27,O5 x4.2.1 A23 c_23,X7 x7 A24 c_24,O3 x9 A25 c_25,Y3 x5.1 A26 c_26,Wr x6.2.2 A27 c_27,O30 r6.2.1 A12 c_12] [R50 r6.1 A11 c_11,tabC 1] w) (k:=k2) ⟨_,_,_,_,_,_,_,_,_,_,_,_,_,_,_,_,_,_,_,H,rfl,h35⟩ ?_
 rintro k3 env w15 ⟨x3,x4,x5,x6,A23,c_23,x7,A24,c_24,x8,x9,A25,c_25,A26,c_26,A27,c_27,x10,x11,H,rfl,h17⟩
 rcases k3 with _ | k3
 ·exact z0 H
 rw [Q134.l2] at H
 refine Sc (Sc (Za [7,11,12,16,94] ?_))
 refine jIf H (fun c5 H=>?_) fun c5 H=>?_
 ·refine Sd (Sc (T4 (Sc (Sa (Zf 3 ?_)))))
  obtain ⟨⟨p1,p2⟩,H⟩:=Zi H
  have e1:=Zv h17.wh (gO 12) p1 p2
  refine Zj (Zd e1 p1 p2) ?_
  refine Zj (Ze 0 h17.wht (gO 12) p1 p2) ?_
  refine cE H [0,1,0,4,4,0,3,0,2,0,0,0] h17 rfl Q93.spec Zm ?_
  rintro r8 w16 _ _ H ⟨A28,c_28,A29,c_29,A30,c_30,A31,c_31,A32,c_32,A33,c_33,A34,c_34,A35,c_35,A36,c_36,rfl,rfl⟩ h18
  replace h18:=nf h18
  refine Zf 3 ?_
  refine rB (Yi h18) fun b11 w17 h19=>?_
  refine rS (Zk 0 h19) fun _ w18 h20=>?_
  refine rFi [7,11,12,16,17,18] ?_
  refine Sc ?_
  obtain ⟨⟨p3,p4⟩,H⟩:=Zi H
  obtain ⟨cs1,h21⟩:=h20.elem 0 rfl p3 p4
  obtain ⟨cs2,cs3,rfl,h22⟩:=Yd 0 h21
  obtain ⟨cs4,cs5,rfl,h23⟩:=Yd 1 h22
  obtain ⟨cs6,cs7,rfl,h24⟩:=Yd 1 h23
  obtain ⟨cs8,cs9,rfl,h25⟩:=Yd 1 h24
  obtain rfl:=Wf (.int .i64) 6 h25
  obtain ⟨A37,c_37,rfl⟩:=Z3 4 h25
  obtain ⟨A38,c_38,rfl⟩:=Z3 2 h25
  obtain ⟨A39,c_39,rfl⟩:=Z3 0 h25
  obtain ⟨A40,c_40,rfl⟩:=Z3 1 h25
  refine jH h25 fun h26=>?_
  refine Zq [0,1,2] ?_
  refine Xo 108 H (fun c6 H=>?_) fun c6 H=>?_
  ·refine hRF [3,4,5,6,7,8,9,10] [7,11,12,16,116] ?_
   have h27:=sO h26 [5,5,5,5,5,5,5,5,5,5,5,5,5]
   replace h27:=nf h27
   refine Zn ?_
   refine Sc (Za [6] ?_)
   have h28:=sO h27 []
   replace h28:=nf h28
   cases H
   exact Sb (jR0 h28 [])
  refine Zq [4,5] ?_
  refine Zb 3 rfl (Zh 0 wI) ?_
  have e2:=Zv h26.wh (Zc 28) p3 p4
  refine Zb 6 rfl (Zd e2 p3 p4) ?_
  refine Zb 7 rfl (Xd 0 wI (Zc 27)) ?_
  refine cSJ 8 rfl H [] h26 rfl Q160.spec (Xm (gO 1) (Xm (gO 2) (Xm (gO 3) (Xm (gO 4) (gS [22,20,18,19]))))) 0 fun r9 w19 H h29=>?_
  refine hRF [9,10] [7,11,12,16,116] ?_
  have h30:=sO h29 [5,5,5,5,5,5,5,5,5,5,5,5,5]
  replace h30:=nf h30
  refine jIf H (fun c7 H=>?_) fun c7 H=>?_
  ·refine Sc (Za [6] ?_)
   have h31:=sO h30 []
   replace h31:=nf h31
   cases H
   exact Sb (jR0 h31 [])
  refine Sd (Za [7,11,12,16] ?_)
  have h32:=(sOR h30 [0,1,0,2,3,4,4,0,0,0,0,0,0] [10,11])
  exact ⟨k3,by omega,_,_,_,_,_,_,_,_,_,_,_,_,_,_,_,_,_,_,_,H,rfl,h32⟩
 refine T7 (Sc (Sa (cS H [] h17 rfl Q137.spec (gS [14]) fun r10 w20 H h33=>?_)))
 refine rFi [6] ?_
 have h34:=sO h33 []
 replace h34:=nf h34
 cases H
 exact Sb (jR0 h34 [])

end Go.SK.T
