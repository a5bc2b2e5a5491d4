/- The functions, further. -/
import Derived.Test.YtildkmkohidmdaaGreatDoorXSeekCostsF2
set_option linter.unusedVariables false
set_option linter.unusedSimpArgs false
set_option maxRecDepth 20000
set_option maxHeartbeats 40000000
namespace Go.SK.T
open Go Go.SK Go.Proofs
open Tryz (prog)
def Q90.f (a0:Int) (a1:Tn) (a2:Tm) (a3:TX):Option (Bool×Tm×List Int):=if (a2.length+([a1]:List Tn).length)*104<=140737488355328 then (if (a3.length+([a0]:List Int).length)*4<=140737488355328 then (some (true,(a2 ++ [a1]),(a3 ++ [a0]))) else none) else none
theorem Q90.spec {a0 a1 a2 a3 A1 c_1 A2 c_2 A3 c_3 A4 c_4 cs1 b1 b2 A5 c_5 A6 c_6 r} (H:Q90.f a0 a1 a2 a3=some r) :
  SpecA prog 77 [.int .u32 a0,.agg #[.int .i64 a1.1,.slice A1 a1.2.1.length c_1,.slice A2 a1.2.2.1.length c_2,.slice A3 a1.2.2.2.1.length c_3,.slice A4 a1.2.2.2.2.length c_4],.pointer (some ⟨b1,0,none⟩),.pointer (some ⟨b2,0,none⟩)] ([X47 b1 a2 A5 c_5,M42 a2 A5 c_5 cs1] ++ Zgt a3 b2 A6 c_6) [R30 a1.2.1 A1 c_1,R9 a1.2.2.1 A2 c_2,Yk a1.2.2.2.1 A3 c_3,Yh a1.2.2.2.2 A4 c_4,E42 a2 cs1] (fun v l lr=>∃ A_0 c_0 cs_0 A_1 c_1,v=.bool r.1/\l=[X47 b1 r.2.1 A_0 c_0,M42 r.2.1 A_0 c_0 cs_0] ++ Zgt r.2.2 b2 A_1 c_1/\lr=[E42 r.2.1 cs_0]):=by
 refine Yl Tryz.func77 fun w0 F0 h0=>?_
 replace h0:=nf h0
 unfold Q90.f at H
 refine T9 (T7 ?_)
 refine rB (Ya h0) fun b3 w1 h1=>?_
 refine Ze [0,2,3,5] rfl ?_
 refine T9 ?_
 obtain ⟨p1,H⟩:=Zk H
 obtain ⟨p2,H⟩:=Zk H
 refine T6 (fun env w=>∃(A7:_) (c_7:_) (cs2:_) (A8:_) (c_8:_),env=[]/\St w0 F0 [X47 b1 (a2 ++ [a1]) A7 c_7,M42 (a2 ++ [a1]) A7 c_7 cs2,X39 b2 (a3 ++ [a0]) A8 c_8,O30 (a3 ++ [a0]) A8 c_8,X42 b3 a1.1 a1.2.1 A1 c_1 a1.2.2.1 A2 c_2 a1.2.2.2.1 A3 c_3 a1.2.2.2.2 A4 c_4] [E42 (a2 ++ [a1]) cs2,R30 a1.2.1 A1 c_1,R9 a1.2.2.1 A2 c_2,Yk a1.2.2.2.1 A3 c_3,Yh a1.2.2.2.2 A4 c_4,E42 a2 cs1] w) ?_ ?_
 ·refine Zv (sO h1 [0]) ?_
  have h8:=h1.drew
  refine Zl [5] ?_
  refine Zf 1 rfl (Za 0 wI) ?_
  refine TZ fun G E hE hG=>?_
  have j66:∀ b75 A36 c_36 b60 cs19 w199,St w0 F0 [O30 [a0] (some ⟨b75,0,none⟩) 1,M42 (a2 ++ [a1]) A36 c_36 cs19,X42 b3 a1.1 a1.2.1 A1 c_1 a1.2.2.1 A2 c_2 a1.2.2.2.1 A3 c_3 a1.2.2.2.2 A4 c_4,X47 b1 a2 A5 c_5,X39 b2 a3 A6 c_6,O30 a3 A6 c_6] [E42 (a2 ++ [a1]) cs19,R42 [a1] (some ⟨b60,0,none⟩) 1,R30 a1.2.1 A1 c_1,R9 a1.2.2.1 A2 c_2,Yk a1.2.2.2.1 A3 c_3,Yh a1.2.2.2.2 A4 c_4,E42 a2 cs1] w199->G [6,4,3,2,0,1,5] ((13,.slice (some ⟨b75,0,none⟩) ([a0]:List Int).length 1) :: (11,.slice A6 a3.length c_6) :: (10,.slice A36 (a2 ++ [a1]).length c_36) :: (9,.slice (some ⟨b60,0,none⟩) ([a1]:List Tn).length 1) :: (7,.slice A5 a2.length c_5) :: E) w199:=by
   intro b75 A36 c_36 b60 cs19 w199 h128
   subst hE
   refine (hG _ _ _).1 ?_
   refine Yg 7 rfl (Zz 5 h128 (gO 0) p2) ?_
   rintro _ w207 ⟨A39,c_39,rfl,h133⟩
   replace h133:=nf h133
   refine ⟨⟨[_,_,_,_,_],(sOR h133 [0,0,0,1,1,0] [2,3,4,5,6])⟩,?_⟩
   refine Yg 8 rfl (Zt 4 h133) ?_
   intro _ w208 h134
   replace h134:=nf h134
   refine ⟨⟨[_,_,_,_,_],(sOR h134 [0,0,0,0,1,0] [2,3,4,5,6])⟩,?_⟩
   refine Yg 9 rfl (Zt 5 h134) ?_
   intro _ w209 h135
   replace h135:=nf h135
   refine ⟨⟨[_,_,_,_,_],(Ua h135 [2,3,4,5,6])⟩,?_⟩
   refine Zy [] ?_
   exact Y0 ⟨A36,c_36,cs19,A39,c_39,rfl,(sOR h135 [1,3,0,0,1] [0,2,3,4,5,6])⟩
  have j60:∀ A36 c_36 b60 cs19 w184,St w0 F0 [M42 (a2 ++ [a1]) A36 c_36 cs19,X42 b3 a1.1 a1.2.1 A1 c_1 a1.2.2.1 A2 c_2 a1.2.2.2.1 A3 c_3 a1.2.2.2.2 A4 c_4,X47 b1 a2 A5 c_5,X39 b2 a3 A6 c_6,O30 a3 A6 c_6] [E42 (a2 ++ [a1]) cs19,R42 [a1] (some ⟨b60,0,none⟩) 1,R30 a1.2.1 A1 c_1,R9 a1.2.2.1 A2 c_2,Yk a1.2.2.2.1 A3 c_3,Yh a1.2.2.2.2 A4 c_4,E42 a2 cs1] w184->G [4,3,2,0,1,5] ((11,.slice A6 a3.length c_6) :: (10,.slice A36 (a2 ++ [a1]).length c_36) :: (9,.slice (some ⟨b60,0,none⟩) ([a1]:List Tn).length 1) :: (7,.slice A5 a2.length c_5) :: E) w184:=by
   intro A36 c_36 b60 cs19 w184 h120
   subst hE
   refine (hG _ _ _).1 ?_
   refine Yg 6 rfl (Zw (.int .u32) [a0] h120) ?_
   rintro _ w199 ⟨b75,rfl,h128⟩
   replace h128:=nf h128
   refine ⟨⟨[_,_,_,_,_],(sOR h128 [0,0,1,1,1,0] [2,3,4,5,6])⟩,?_⟩
   exact (hG _ _ _).2 (j66 b75 A36 c_36 b60 cs19 _ h128)
  have j61:∀ b68 A36 c_36 b60 cs19 w186,St w0 F0 [O30 [a0] (some ⟨b68,0,none⟩) 1,M42 (a2 ++ [a1]) A36 c_36 cs19,X42 b3 a1.1 a1.2.1 A1 c_1 a1.2.2.1 A2 c_2 a1.2.2.2.1 A3 c_3 a1.2.2.2.2 A4 c_4,X47 b1 a2 A5 c_5,X39 b2 a3 A6 c_6,O30 a3 A6 c_6] [E42 (a2 ++ [a1]) cs19,R42 [a1] (some ⟨b60,0,none⟩) 1,R30 a1.2.1 A1 c_1,R9 a1.2.2.1 A2 c_2,Yk a1.2.2.2.1 A3 c_3,Yh a1.2.2.2.2 A4 c_4,E42 a2 cs1] w186->G [6,3,2,0,1,5] ((13,.slice (some ⟨b68,0,none⟩) ([a0]:List Int).length 1) :: (10,.slice A36 (a2 ++ [a1]).length c_36) :: (9,.slice (some ⟨b60,0,none⟩) ([a1]:List Tn).length 1) :: (7,.slice A5 a2.length c_5) :: E) w186:=by
   intro b68 A36 c_36 b60 cs19 w186 h121
   subst hE
   refine (hG _ _ _).1 ?_
   refine Yg 4 rfl (Sc (Za 4 h121.wht)) ?_
   rintro _ _ ⟨rfl,rfl⟩
   replace h121:=nf h121
   refine ⟨⟨[_,_,_,_,_],(sOR h121 [0,0,1,1,1,0] [2,3,4,5,6])⟩,?_⟩
   exact ((hG _ _ _).2 (j66 b68 A36 c_36 b60 cs19 _ h121)).re [1,0,2,3,4] 5
  have j67:∀ b76 b60 w202,St w0 F0 [O30 [a0] (some ⟨b76,0,none⟩) 1,X42 b3 a1.1 a1.2.1 A1 c_1 a1.2.2.1 A2 c_2 a1.2.2.2.1 A3 c_3 a1.2.2.2.2 A4 c_4,X47 b1 a2 A5 c_5,M42 a2 A5 c_5 cs1,X39 b2 a3 A6 c_6,O30 a3 A6 c_6] [R42 [a1] (some ⟨b60,0,none⟩) 1,R30 a1.2.1 A1 c_1,R9 a1.2.2.1 A2 c_2,Yk a1.2.2.2.1 A3 c_3,Yh a1.2.2.2.2 A4 c_4,E42 a2 cs1] w202->G [6,4,2,0,1,5] ((13,.slice (some ⟨b76,0,none⟩) ([a0]:List Int).length 1) :: (11,.slice A6 a3.length c_6) :: (9,.slice (some ⟨b60,0,none⟩) ([a1]:List Tn).length 1) :: (7,.slice A5 a2.length c_5) :: E) w202:=by
   intro b76 b60 w202 h130
   subst hE
   refine (hG _ _ _).1 ?_
   refine Yg 3 rfl (U9 3 5 0 h130 p1) ?_
   rintro _ w210 ⟨A40,c_40,cs22,rfl,h136⟩
   replace h136:=nf h136
   refine ⟨⟨[_,_,_,_,_],(sOR h136 [0,0,1,1,1,0] [2,3,4,5,6])⟩,?_⟩
   exact ((hG _ _ _).2 (j66 b76 A40 c_40 b60 cs22 _ (sOR h136 [1,0,0,0,0,0] [0,1,2,3,4,5,6]))).re [1,2,0,3,4] 5
  have j62:∀ b60 w169,St w0 F0 [X42 b3 a1.1 a1.2.1 A1 c_1 a1.2.2.1 A2 c_2 a1.2.2.2.1 A3 c_3 a1.2.2.2.2 A4 c_4,X47 b1 a2 A5 c_5,M42 a2 A5 c_5 cs1,X39 b2 a3 A6 c_6,O30 a3 A6 c_6] [R42 [a1] (some ⟨b60,0,none⟩) 1,R30 a1.2.1 A1 c_1,R9 a1.2.2.1 A2 c_2,Yk a1.2.2.2.1 A3 c_3,Yh a1.2.2.2.2 A4 c_4,E42 a2 cs1] w169->G [4,2,0,1,5] ((11,.slice A6 a3.length c_6) :: (9,.slice (some ⟨b60,0,none⟩) ([a1]:List Tn).length 1) :: (7,.slice A5 a2.length c_5) :: E) w169:=by
   intro b60 w169 h112
   subst hE
   refine (hG _ _ _).1 ?_
   refine T0 [3,6] (i:=3) rfl rfl rfl rfl ?_
   refine (Yb ?_ (Yb ?_ Xz))
   ·refine Z2 3 rfl (U9 2 5 0 h112 p1) ?_
    rintro _ w201 ⟨A37,c_37,cs20,rfl,h129⟩
    replace h129:=nf h129
    refine ⟨⟨[_,_,_,_],(sOR h129 [0,1,1,1,0] [2,3,4,5,6])⟩,?_⟩
    exact ((hG _ _ _).2 (j60 A37 c_37 b60 cs20 _ h129)).re [1,0,2,3] 4
   ·refine Z2 6 rfl (Zw (.int .u32) [a0] h112) ?_
    rintro _ w202 ⟨b76,rfl,h130⟩
    replace h130:=nf h130
    refine ⟨⟨[_,_,_,_,_],(sOR h130 [0,1,1,1,1,0] [1,2,3,4,5])⟩,?_⟩
    exact (hG _ _ _).2 (j67 b76 b60 _ h130)
  have j63:∀ b69 b60 w188,St w0 F0 [O30 [a0] (some ⟨b69,0,none⟩) 1,X42 b3 a1.1 a1.2.1 A1 c_1 a1.2.2.1 A2 c_2 a1.2.2.2.1 A3 c_3 a1.2.2.2.2 A4 c_4,X47 b1 a2 A5 c_5,M42 a2 A5 c_5 cs1,X39 b2 a3 A6 c_6,O30 a3 A6 c_6] [R42 [a1] (some ⟨b60,0,none⟩) 1,R30 a1.2.1 A1 c_1,R9 a1.2.2.1 A2 c_2,Yk a1.2.2.2.1 A3 c_3,Yh a1.2.2.2.2 A4 c_4,E42 a2 cs1] w188->G [6,2,0,1,5] ((13,.slice (some ⟨b69,0,none⟩) ([a0]:List Int).length 1) :: (9,.slice (some ⟨b60,0,none⟩) ([a1]:List Tn).length 1) :: (7,.slice A5 a2.length c_5) :: E) w188:=by
   intro b69 b60 w188 h122
   subst hE
   refine (hG _ _ _).1 ?_
   refine T0 [3,4] (i:=3) rfl rfl rfl rfl ?_
   refine (Yb ?_ (Yb ?_ Xz))
   ·refine Z2 3 rfl (U9 3 5 0 h122 p1) ?_
    rintro _ w203 ⟨A38,c_38,cs21,rfl,h131⟩
    replace h131:=nf h131
    refine ⟨⟨[_,_,_,_,_],(sOR h131 [0,0,1,1,1,0] [2,3,4,5,6])⟩,?_⟩
    exact ((hG _ _ _).2 (j61 b69 A38 c_38 b60 cs21 _ (sOR h131 [1,0,0,0,0,0] [0,1,2,3,4,5,6]))).re [1,0,2,3] 4
   ·refine Z2 4 rfl (Sc (Za 4 h122.wht)) ?_
    rintro _ _ ⟨rfl,rfl⟩
    replace h122:=nf h122
    refine ⟨⟨[_,_,_,_,_],(sOR h122 [0,1,1,1,1,0] [1,2,3,4,5])⟩,?_⟩
    exact ((hG _ _ _).2 (j67 b69 b60 _ h122)).re [1,0,2,3] 4
  have j64:∀ b71 w190,St w0 F0 [O30 [a0] (some ⟨b71,0,none⟩) 1,X42 b3 a1.1 a1.2.1 A1 c_1 a1.2.2.1 A2 c_2 a1.2.2.2.1 A3 c_3 a1.2.2.2.2 A4 c_4,X47 b1 a2 A5 c_5,M42 a2 A5 c_5 cs1,X39 b2 a3 A6 c_6,O30 a3 A6 c_6] [R30 a1.2.1 A1 c_1,R9 a1.2.2.1 A2 c_2,Yk a1.2.2.2.1 A3 c_3,Yh a1.2.2.2.2 A4 c_4,E42 a2 cs1] w190->G [6,4,0,1,5] ((13,.slice (some ⟨b71,0,none⟩) ([a0]:List Int).length 1) :: (11,.slice A6 a3.length c_6) :: (7,.slice A5 a2.length c_5) :: E) w190:=by
   intro b71 w190 h124
   subst hE
   refine (hG _ _ _).1 ?_
   refine Yg 2 rfl (W3 (.pair (.int .i64) (.pair (.slice 30 (.int .u32)) (.pair (.slice 9 .str) (.pair (.slice 106 (.pair .str (.pair .bool .str))) (.slice 104 (.pair .str .str)))))) [a1] h124 (Vo ⟨_,_,rfl,(Xi rfl _),⟨_,_,rfl,(.inl (Zh 0)),⟨_,_,rfl,(.inl (Zh 1)),⟨_,_,rfl,(.inl (Zh 2)),(.inl (Zh 3))⟩⟩⟩⟩ Ud)) ?_
   rintro _ w205 ⟨b77,rfl,h132⟩
   replace h132:=nf h132
   refine ⟨⟨[_,_,_,_,_],(sOR h132 [0,1,1,1,1,0] [1,2,3,4,5])⟩,?_⟩
   exact ((hG _ _ _).2 (j67 b71 b77 _ h132)).re [1,2,0,3] 4
  have j65:∀ b73 b62 w194,St w0 F0 [O30 [a0] (some ⟨b73,0,none⟩) 1,X42 b3 a1.1 a1.2.1 A1 c_1 a1.2.2.1 A2 c_2 a1.2.2.2.1 A3 c_3 a1.2.2.2.2 A4 c_4,X47 b1 a2 A5 c_5,M42 a2 A5 c_5 cs1,X39 b2 a3 A6 c_6,O30 a3 A6 c_6] [R42 [a1] (some ⟨b62,0,none⟩) 1,R30 a1.2.1 A1 c_1,R9 a1.2.2.1 A2 c_2,Yk a1.2.2.2.1 A3 c_3,Yh a1.2.2.2.2 A4 c_4,E42 a2 cs1] w194->G [6,4,2,1,5] ((13,.slice (some ⟨b73,0,none⟩) ([a0]:List Int).length 1) :: (11,.slice A6 a3.length c_6) :: (9,.slice (some ⟨b62,0,none⟩) ([a1]:List Tn).length 1) :: E) w194:=by
   intro b73 b62 w194 h126
   subst hE
   refine (hG _ _ _).1 ?_
   refine Yg 0 rfl (Sc (Za 2 h126.wht)) ?_
   rintro _ _ ⟨rfl,rfl⟩
   replace h126:=nf h126
   refine ⟨⟨[_,_,_,_,_],(sOR h126 [0,1,1,1,1,0] [1,2,3,4,5])⟩,?_⟩
   exact ((hG _ _ _).2 (j67 b73 b62 _ h126)).re [1,2,3,0] 4
  have j54:∀ b60 w169,St w0 F0 [X42 b3 a1.1 a1.2.1 A1 c_1 a1.2.2.1 A2 c_2 a1.2.2.2.1 A3 c_3 a1.2.2.2.2 A4 c_4,X47 b1 a2 A5 c_5,M42 a2 A5 c_5 cs1,X39 b2 a3 A6 c_6,O30 a3 A6 c_6] [R42 [a1] (some ⟨b60,0,none⟩) 1,R30 a1.2.1 A1 c_1,R9 a1.2.2.1 A2 c_2,Yk a1.2.2.2.1 A3 c_3,Yh a1.2.2.2.2 A4 c_4,E42 a2 cs1] w169->G [2,0,1,5] ((9,.slice (some ⟨b60,0,none⟩) ([a1]:List Tn).length 1) :: (7,.slice A5 a2.length c_5) :: E) w169:=by
   intro b60 w169 h112
   subst hE
   refine (hG _ _ _).1 ?_
   refine T0 [3,4,6] (i:=3) rfl rfl rfl rfl ?_
   refine (Yb ?_ (Yb ?_ (Yb ?_ Xz)))
   ·refine Z2 3 rfl (U9 2 5 0 h112 p1) ?_
    rintro _ w184 ⟨A36,c_36,cs19,rfl,h120⟩
    replace h120:=nf h120
    refine ⟨⟨[_,_,_,_],(sOR h120 [0,1,1,1,0] [2,3,4,5,6])⟩,?_⟩
    refine T0 [4,6] (i:=4) rfl rfl rfl rfl ?_
    refine (Yb ?_ (Yb ?_ Xz))
    ·refine Z2 4 rfl (Sc (Za 3 h120.wht)) ?_
     rintro _ _ ⟨rfl,rfl⟩
     replace h120:=nf h120
     refine ⟨⟨[_,_,_,_],(sOR h120 [0,1,1,1,0] [2,3,4,5,6])⟩,?_⟩
     exact (hG _ _ _).2 (j60 A36 c_36 b60 cs19 _ h120)
    ·refine Z2 6 rfl (Zw (.int .u32) [a0] h120) ?_
     rintro _ w186 ⟨b68,rfl,h121⟩
     replace h121:=nf h121
     refine ⟨⟨[_,_,_,_,_],(sOR h121 [0,0,1,1,1,0] [2,3,4,5,6])⟩,?_⟩
     exact (hG _ _ _).2 (j61 b68 A36 c_36 b60 cs19 _ h121)
   ·refine Z2 4 rfl (Sc (Za 3 h112.wht)) ?_
    rintro _ _ ⟨rfl,rfl⟩
    replace h112:=nf h112
    refine ⟨⟨[_,_,_,_],(sOR h112 [1,1,1,1,0] [1,2,3,4,5])⟩,?_⟩
    exact (hG _ _ _).2 (j62 b60 _ h112)
   ·refine Z2 6 rfl (Zw (.int .u32) [a0] h112) ?_
    rintro _ w188 ⟨b69,rfl,h122⟩
    replace h122:=nf h122
    refine ⟨⟨[_,_,_,_,_],(sOR h122 [0,1,1,1,1,0] [1,2,3,4,5])⟩,?_⟩
    exact (hG _ _ _).2 (j63 b69 b60 _ h122)
  have j55:∀ w1,St w0 F0 [X42 b3 a1.1 a1.2.1 A1 c_1 a1.2.2.1 A2 c_2 a1.2.2.2.1 A3 c_3 a1.2.2.2.2 A4 c_4,X47 b1 a2 A5 c_5,M42 a2 A5 c_5 cs1,X39 b2 a3 A6 c_6,O30 a3 A6 c_6] [R30 a1.2.1 A1 c_1,R9 a1.2.2.1 A2 c_2,Yk a1.2.2.2.1 A3 c_3,Yh a1.2.2.2.2 A4 c_4,E42 a2 cs1] w1->G [4,0,1,5] ((11,.slice A6 a3.length c_6) :: (7,.slice A5 a2.length c_5) :: E) w1:=by
   intro w1 h8
   subst hE
   refine (hG _ _ _).1 ?_
   refine T0 [2,6] (i:=2) rfl rfl rfl rfl ?_
   refine (Yb ?_ (Yb ?_ Xz))
   ·refine Z2 2 rfl (W3 (.pair (.int .i64) (.pair (.slice 30 (.int .u32)) (.pair (.slice 9 .str) (.pair (.slice 106 (.pair .str (.pair .bool .str))) (.slice 104 (.pair .str .str)))))) [a1] h8 (Vo ⟨_,_,rfl,(Xi rfl _),⟨_,_,rfl,(.inl (Zh 0)),⟨_,_,rfl,(.inl (Zh 1)),⟨_,_,rfl,(.inl (Zh 2)),(.inl (Zh 3))⟩⟩⟩⟩ Ud)) ?_
    rintro _ w189 ⟨b70,rfl,h123⟩
    replace h123:=nf h123
    refine ⟨⟨[_,_,_,_],(sOR h123 [1,1,1,1,0] [1,2,3,4,5])⟩,?_⟩
    exact ((hG _ _ _).2 (j62 b70 _ h123)).re [1,0,2] 3
   ·refine Z2 6 rfl (Zw (.int .u32) [a0] h8) ?_
    rintro _ w190 ⟨b71,rfl,h124⟩
    replace h124:=nf h124
    refine ⟨⟨[_,_,_,_,_],(sO h124 [0,1,1,1,1,0])⟩,?_⟩
    exact (hG _ _ _).2 (j64 b71 _ h124)
  have j56:∀ b61 w171,St w0 F0 [O30 [a0] (some ⟨b61,0,none⟩) 1,X42 b3 a1.1 a1.2.1 A1 c_1 a1.2.2.1 A2 c_2 a1.2.2.2.1 A3 c_3 a1.2.2.2.2 A4 c_4,X47 b1 a2 A5 c_5,M42 a2 A5 c_5 cs1,X39 b2 a3 A6 c_6,O30 a3 A6 c_6] [R30 a1.2.1 A1 c_1,R9 a1.2.2.1 A2 c_2,Yk a1.2.2.2.1 A3 c_3,Yh a1.2.2.2.2 A4 c_4,E42 a2 cs1] w171->G [6,0,1,5] ((13,.slice (some ⟨b61,0,none⟩) ([a0]:List Int).length 1) :: (7,.slice A5 a2.length c_5) :: E) w171:=by
   intro b61 w171 h113
   subst hE
   refine (hG _ _ _).1 ?_
   refine T0 [2,4] (i:=2) rfl rfl rfl rfl ?_
   refine (Yb ?_ (Yb ?_ Xz))
   ·refine Z2 2 rfl (W3 (.pair (.int .i64) (.pair (.slice 30 (.int .u32)) (.pair (.slice 9 .str) (.pair (.slice 106 (.pair .str (.pair .bool .str))) (.slice 104 (.pair .str .str)))))) [a1] h113 (Vo ⟨_,_,rfl,(Xi rfl _),⟨_,_,rfl,(.inl (Zh 0)),⟨_,_,rfl,(.inl (Zh 1)),⟨_,_,rfl,(.inl (Zh 2)),(.inl (Zh 3))⟩⟩⟩⟩ Ud)) ?_
    rintro _ w191 ⟨b72,rfl,h125⟩
    replace h125:=nf h125
    refine ⟨⟨[_,_,_,_,_],(sOR h125 [0,1,1,1,1,0] [1,2,3,4,5])⟩,?_⟩
    exact ((hG _ _ _).2 (j63 b61 b72 _ h125)).re [1,0,2] 3
   ·refine Z2 4 rfl (Sc (Za 4 h113.wht)) ?_
    rintro _ _ ⟨rfl,rfl⟩
    replace h113:=nf h113
    refine ⟨⟨[_,_,_,_,_],(sO h113 [0,1,1,1,1,0])⟩,?_⟩
    exact ((hG _ _ _).2 (j64 b61 _ h113)).re [1,0,2] 3
  have j57:∀ b62 w172,St w0 F0 [X42 b3 a1.1 a1.2.1 A1 c_1 a1.2.2.1 A2 c_2 a1.2.2.2.1 A3 c_3 a1.2.2.2.2 A4 c_4,X47 b1 a2 A5 c_5,M42 a2 A5 c_5 cs1,X39 b2 a3 A6 c_6,O30 a3 A6 c_6] [R42 [a1] (some ⟨b62,0,none⟩) 1,R30 a1.2.1 A1 c_1,R9 a1.2.2.1 A2 c_2,Yk a1.2.2.2.1 A3 c_3,Yh a1.2.2.2.2 A4 c_4,E42 a2 cs1] w172->G [4,2,1,5] ((11,.slice A6 a3.length c_6) :: (9,.slice (some ⟨b62,0,none⟩) ([a1]:List Tn).length 1) :: E) w172:=by
   intro b62 w172 h114
   subst hE
   refine (hG _ _ _).1 ?_
   refine T0 [0,6] (i:=0) rfl rfl rfl rfl ?_
   refine (Yb ?_ (Yb ?_ Xz))
   ·refine Z2 0 rfl (Sc (Za 1 h114.wht)) ?_
    rintro _ _ ⟨rfl,rfl⟩
    replace h114:=nf h114
    refine ⟨⟨[_,_,_,_],(sOR h114 [1,1,1,1,0] [1,2,3,4,5])⟩,?_⟩
    exact ((hG _ _ _).2 (j62 b62 _ h114)).re [1,2,0] 3
   ·refine Z2 6 rfl (Zw (.int .u32) [a0] h114) ?_
    rintro _ w194 ⟨b73,rfl,h126⟩
    replace h126:=nf h126
    refine ⟨⟨[_,_,_,_,_],(sOR h126 [0,1,1,1,1,0] [1,2,3,4,5])⟩,?_⟩
    exact (hG _ _ _).2 (j65 b73 b62 _ h126)
  have j58:∀ b63 b62 w175,St w0 F0 [O30 [a0] (some ⟨b63,0,none⟩) 1,X42 b3 a1.1 a1.2.1 A1 c_1 a1.2.2.1 A2 c_2 a1.2.2.2.1 A3 c_3 a1.2.2.2.2 A4 c_4,X47 b1 a2 A5 c_5,M42 a2 A5 c_5 cs1,X39 b2 a3 A6 c_6,O30 a3 A6 c_6] [R42 [a1] (some ⟨b62,0,none⟩) 1,R30 a1.2.1 A1 c_1,R9 a1.2.2.1 A2 c_2,Yk a1.2.2.2.1 A3 c_3,Yh a1.2.2.2.2 A4 c_4,E42 a2 cs1] w175->G [6,2,1,5] ((13,.slice (some ⟨b63,0,none⟩) ([a0]:List Int).length 1) :: (9,.slice (some ⟨b62,0,none⟩) ([a1]:List Tn).length 1) :: E) w175:=by
   intro b63 b62 w175 h115
   subst hE
   refine (hG _ _ _).1 ?_
   refine T0 [0,4] (i:=0) rfl rfl rfl rfl ?_
   refine (Yb ?_ (Yb ?_ Xz))
   ·refine Z2 0 rfl (Sc (Za 2 h115.wht)) ?_
    rintro _ _ ⟨rfl,rfl⟩
    replace h115:=nf h115
    refine ⟨⟨[_,_,_,_,_],(sOR h115 [0,1,1,1,1,0] [1,2,3,4,5])⟩,?_⟩
    exact ((hG _ _ _).2 (j63 b63 b62 _ h115)).re [1,2,0] 3
   ·refine Z2 4 rfl (Sc (Za 4 h115.wht)) ?_
    rintro _ _ ⟨rfl,rfl⟩
    replace h115:=nf h115
    refine ⟨⟨[_,_,_,_,_],(sOR h115 [0,1,1,1,1,0] [1,2,3,4,5])⟩,?_⟩
    exact ((hG _ _ _).2 (j65 b63 b62 _ h115)).re [1,0,2] 3
  have j59:∀ b65 w179,St w0 F0 [O30 [a0] (some ⟨b65,0,none⟩) 1,X42 b3 a1.1 a1.2.1 A1 c_1 a1.2.2.1 A2 c_2 a1.2.2.2.1 A3 c_3 a1.2.2.2.2 A4 c_4,X47 b1 a2 A5 c_5,M42 a2 A5 c_5 cs1,X39 b2 a3 A6 c_6,O30 a3 A6 c_6] [R30 a1.2.1 A1 c_1,R9 a1.2.2.1 A2 c_2,Yk a1.2.2.2.1 A3 c_3,Yh a1.2.2.2.2 A4 c_4,E42 a2 cs1] w179->G [6,4,1,5] ((13,.slice (some ⟨b65,0,none⟩) ([a0]:List Int).length 1) :: (11,.slice A6 a3.length c_6) :: E) w179:=by
   intro b65 w179 h117
   subst hE
   refine (hG _ _ _).1 ?_
   refine T0 [0,2] (i:=0) rfl rfl rfl rfl ?_
   refine (Yb ?_ (Yb ?_ Xz))
   ·refine Z2 0 rfl (Sc (Za 2 h117.wht)) ?_
    rintro _ _ ⟨rfl,rfl⟩
    replace h117:=nf h117
    refine ⟨⟨[_,_,_,_,_],(sO h117 [0,1,1,1,1,0])⟩,?_⟩
    exact ((hG _ _ _).2 (j64 b65 _ h117)).re [1,2,0] 3
   ·refine Z2 2 rfl (W3 (.pair (.int .i64) (.pair (.slice 30 (.int .u32)) (.pair (.slice 9 .str) (.pair (.slice 106 (.pair .str (.pair .bool .str))) (.slice 104 (.pair .str .str)))))) [a1] h117 (Vo ⟨_,_,rfl,(Xi rfl _),⟨_,_,rfl,(.inl (Zh 0)),⟨_,_,rfl,(.inl (Zh 1)),⟨_,_,rfl,(.inl (Zh 2)),(.inl (Zh 3))⟩⟩⟩⟩ Ud)) ?_
    rintro _ w198 ⟨b74,rfl,h127⟩
    replace h127:=nf h127
    refine ⟨⟨[_,_,_,_,_],(sOR h127 [0,1,1,1,1,0] [1,2,3,4,5])⟩,?_⟩
    exact ((hG _ _ _).2 (j65 b65 b74 _ h127)).re [1,2,0] 3
  subst hE
  refine (hG _ _ _).1 ?_
  refine T0 [0,2,4,6] (i:=0) rfl rfl rfl rfl ?_
  refine (Yb ?_ (Yb ?_ (Yb ?_ (Yb ?_ Xz))))
  ·refine Z2 0 rfl (Sc (Za 1 h8.wht)) ?_
   rintro _ _ ⟨rfl,rfl⟩
   replace h8:=nf h8
   refine ⟨⟨[_,_,_,_],(sO h8 [1,1,1,1,0])⟩,?_⟩
   refine T0 [2,4,6] (i:=2) rfl rfl rfl rfl ?_
   refine (Yb ?_ (Yb ?_ (Yb ?_ Xz)))
   ·refine Z2 2 rfl (W3 (.pair (.int .i64) (.pair (.slice 30 (.int .u32)) (.pair (.slice 9 .str) (.pair (.slice 106 (.pair .str (.pair .bool .str))) (.slice 104 (.pair .str .str)))))) [a1] h8 (Vo ⟨_,_,rfl,(Xi rfl _),⟨_,_,rfl,(.inl (Zh 0)),⟨_,_,rfl,(.inl (Zh 1)),⟨_,_,rfl,(.inl (Zh 2)),(.inl (Zh 3))⟩⟩⟩⟩ Ud)) ?_
    rintro _ w169 ⟨b60,rfl,h112⟩
    replace h112:=nf h112
    refine ⟨⟨[_,_,_,_],(sOR h112 [1,1,1,1,0] [1,2,3,4,5])⟩,?_⟩
    exact (hG _ _ _).2 (j54 b60 _ h112)
   ·refine Z2 4 rfl (Sc (Za 3 h8.wht)) ?_
    rintro _ _ ⟨rfl,rfl⟩
    replace h8:=nf h8
    refine ⟨⟨[_,_,_,_],(sO h8 [1,1,1,1,0])⟩,?_⟩
    exact (hG _ _ _).2 (j55 _ h8)
   ·refine Z2 6 rfl (Zw (.int .u32) [a0] h8) ?_
    rintro _ w171 ⟨b61,rfl,h113⟩
    replace h113:=nf h113
    refine ⟨⟨[_,_,_,_,_],(sO h113 [0,1,1,1,1,0])⟩,?_⟩
    exact (hG _ _ _).2 (j56 b61 _ h113)
  ·refine Z2 2 rfl (W3 (.pair (.int .i64) (.pair (.slice 30 (.int .u32)) (.pair (.slice 9 .str) (.pair (.slice 106 (.pair .str (.pair .bool .str))) (.slice 104 (.pair .str .str)))))) [a1] h8 (Vo ⟨_,_,rfl,(Xi rfl _),⟨_,_,rfl,(.inl (Zh 0)),⟨_,_,rfl,(.inl (Zh 1)),⟨_,_,rfl,(.inl (Zh 2)),(.inl (Zh 3))⟩⟩⟩⟩ Ud)) ?_
   rintro _ w172 ⟨b62,rfl,h114⟩
   replace h114:=nf h114
   refine ⟨⟨[_,_,_,_],(sOR h114 [1,1,1,1,0] [1,2,3,4,5])⟩,?_⟩
   refine T0 [0,4,6] (i:=0) rfl rfl rfl rfl ?_
   refine (Yb ?_ (Yb ?_ (Yb ?_ Xz)))
   ·refine Z2 0 rfl (Sc (Za 1 h114.wht)) ?_
    rintro _ _ ⟨rfl,rfl⟩
    replace h114:=nf h114
    refine ⟨⟨[_,_,_,_],(sOR h114 [1,1,1,1,0] [1,2,3,4,5])⟩,?_⟩
    exact ((hG _ _ _).2 (j54 b62 _ h114)).re [1,0] 2
   ·refine Z2 4 rfl (Sc (Za 3 h114.wht)) ?_
    rintro _ _ ⟨rfl,rfl⟩
    replace h114:=nf h114
    refine ⟨⟨[_,_,_,_],(sOR h114 [1,1,1,1,0] [1,2,3,4,5])⟩,?_⟩
    exact (hG _ _ _).2 (j57 b62 _ h114)
   ·refine Z2 6 rfl (Zw (.int .u32) [a0] h114) ?_
    rintro _ w175 ⟨b63,rfl,h115⟩
    replace h115:=nf h115
    refine ⟨⟨[_,_,_,_,_],(sOR h115 [0,1,1,1,1,0] [1,2,3,4,5])⟩,?_⟩
    exact (hG _ _ _).2 (j58 b63 b62 _ h115)
  ·refine Z2 4 rfl (Sc (Za 3 h8.wht)) ?_
   rintro _ _ ⟨rfl,rfl⟩
   replace h8:=nf h8
   refine ⟨⟨[_,_,_,_],(sO h8 [1,1,1,1,0])⟩,?_⟩
   refine T0 [0,2,6] (i:=0) rfl rfl rfl rfl ?_
   refine (Yb ?_ (Yb ?_ (Yb ?_ Xz)))
   ·refine Z2 0 rfl (Sc (Za 1 h8.wht)) ?_
    rintro _ _ ⟨rfl,rfl⟩
    replace h8:=nf h8
    refine ⟨⟨[_,_,_,_],(sO h8 [1,1,1,1,0])⟩,?_⟩
    exact ((hG _ _ _).2 (j55 _ h8)).re [1,0] 2
   ·refine Z2 2 rfl (W3 (.pair (.int .i64) (.pair (.slice 30 (.int .u32)) (.pair (.slice 9 .str) (.pair (.slice 106 (.pair .str (.pair .bool .str))) (.slice 104 (.pair .str .str)))))) [a1] h8 (Vo ⟨_,_,rfl,(Xi rfl _),⟨_,_,rfl,(.inl (Zh 0)),⟨_,_,rfl,(.inl (Zh 1)),⟨_,_,rfl,(.inl (Zh 2)),(.inl (Zh 3))⟩⟩⟩⟩ Ud)) ?_
    rintro _ w178 ⟨b64,rfl,h116⟩
    replace h116:=nf h116
    refine ⟨⟨[_,_,_,_],(sOR h116 [1,1,1,1,0] [1,2,3,4,5])⟩,?_⟩
    exact ((hG _ _ _).2 (j57 b64 _ h116)).re [1,0] 2
   ·refine Z2 6 rfl (Zw (.int .u32) [a0] h8) ?_
    rintro _ w179 ⟨b65,rfl,h117⟩
    replace h117:=nf h117
    refine ⟨⟨[_,_,_,_,_],(sO h117 [0,1,1,1,1,0])⟩,?_⟩
    exact (hG _ _ _).2 (j59 b65 _ h117)
  ·refine Z2 6 rfl (Zw (.int .u32) [a0] h8) ?_
   rintro _ w180 ⟨b66,rfl,h118⟩
   replace h118:=nf h118
   refine ⟨⟨[_,_,_,_,_],(sO h118 [0,1,1,1,1,0])⟩,?_⟩
   refine T0 [0,2,4] (i:=0) rfl rfl rfl rfl ?_
   refine (Yb ?_ (Yb ?_ (Yb ?_ Xz)))
   ·refine Z2 0 rfl (Sc (Za 2 h118.wht)) ?_
    rintro _ _ ⟨rfl,rfl⟩
    replace h118:=nf h118
    refine ⟨⟨[_,_,_,_,_],(sO h118 [0,1,1,1,1,0])⟩,?_⟩
    exact ((hG _ _ _).2 (j56 b66 _ h118)).re [1,0] 2
   ·refine Z2 2 rfl (W3 (.pair (.int .i64) (.pair (.slice 30 (.int .u32)) (.pair (.slice 9 .str) (.pair (.slice 106 (.pair .str (.pair .bool .str))) (.slice 104 (.pair .str .str)))))) [a1] h118 (Vo ⟨_,_,rfl,(Xi rfl _),⟨_,_,rfl,(.inl (Zh 0)),⟨_,_,rfl,(.inl (Zh 1)),⟨_,_,rfl,(.inl (Zh 2)),(.inl (Zh 3))⟩⟩⟩⟩ Ud)) ?_
    rintro _ w182 ⟨b67,rfl,h119⟩
    replace h119:=nf h119
    refine ⟨⟨[_,_,_,_,_],(sOR h119 [0,1,1,1,1,0] [1,2,3,4,5])⟩,?_⟩
    exact ((hG _ _ _).2 (j58 b66 b67 _ h119)).re [1,0] 2
   ·refine Z2 4 rfl (Sc (Za 4 h118.wht)) ?_
    rintro _ _ ⟨rfl,rfl⟩
    replace h118:=nf h118
    refine ⟨⟨[_,_,_,_,_],(sO h118 [0,1,1,1,1,0])⟩,?_⟩
    exact ((hG _ _ _).2 (j59 b66 _ h118)).re [1,0] 2
 rintro env w453 ⟨A7,c_7,cs2,A8,c_8,rfl,h337⟩
 refine T9 (Zb [6] ?_)
 cases H
 exact T8 (jRA ⟨_,_,_,_,_,rfl,rfl,rfl⟩ (sOR h337 [0,0,0,0] [0]))

def Q93.l0:Nat->TS->Tq->TD->TA->TG->Tw->TN->TX->(Int)->Tm->TX->(Int)->(Int)->Option Tb
 | 0,_,_,_,_,_,_,_,_,_,_,_,_,_=>none
 | k+1,a2,x1,x2,x3,x4,x5,x6,x7,x8,x9,x10,x11,x12=>(Q95.f k (x1,(x2,x5,x6,x7,x3),x4,x8) x12).bind fun r1=>(if (!decide (r1.2.1=0))=true then (some (r1.2.1,r1.2.2,x9,x10)) else (if (decide (0<=x11))=true then (if (!decide (r1.1.1=(w64 (x11 - 1))))=true then (some (12,r1.2.2,x9,x10)) else ((Q90.f x12 r1.1 x9 x10).bind fun r2=>(if (!r2.1)=true then (some (0,r1.2.2,r2.2.1,r2.2.2)) else (if (decide (r1.1.1=0))=true then (some (0,r1.2.2,r2.2.1,r2.2.2)) else ((Q61.f k r1.1.2.2.1 a2).bind fun r3=>(if 0<=r3/\r3<(r1.1.2.1.length:Int) then (Q93.l0 k a2 r1.2.2.1 r1.2.2.2.1.1 r1.2.2.2.1.2.2.2.2 r1.2.2.2.2.1 r1.2.2.2.1.2.1 r1.2.2.2.1.2.2.1 r1.2.2.2.1.2.2.2.1 r1.2.2.2.2.2 r2.2.1 r2.2.2 r1.1.1 (gt r1.1.2.1 r3)) else none)))))) else ((Q90.f x12 r1.1 x9 x10).bind fun r4=>(if (!r4.1)=true then (some (0,r1.2.2,r4.2.1,r4.2.2)) else (if (decide (r1.1.1=0))=true then (some (0,r1.2.2,r4.2.1,r4.2.2)) else ((Q61.f k r1.1.2.2.1 a2).bind fun r5=>(if 0<=r5/\r5<(r1.1.2.1.length:Int) then (Q93.l0 k a2 r1.2.2.1 r1.2.2.2.1.1 r1.2.2.2.1.2.2.2.2 r1.2.2.2.2.1 r1.2.2.2.1.2.1 r1.2.2.2.1.2.2.1 r1.2.2.2.1.2.2.2.1 r1.2.2.2.2.2 r4.2.1 r4.2.2 r1.1.1 (gt r1.1.2.1 r5)) else none)))))))
def Q93.f (k:Nat) (a0:Tg) (a1:Int) (a2:TS) (a4:Tm) (a5:TX):Option Tb:=Q93.l0 k a2 a0.1 a0.2.1.1 a0.2.1.2.2.2.2 a0.2.2.1 a0.2.1.2.1 a0.2.1.2.2.1 a0.2.1.2.2.2.1 a0.2.2.2 a4 a5 (-1) a1
theorem Q93.spec {k a0 a1 a2 a4 a5 cs1 b1 b2 b3 b4 b5 b6 b7 b8 b9 A1 c_1 A2 c_2 A3 c_3 A4 c_4 A5 c_5 A6 c_6 A7 c_7 r} (H:Q93.f k a0 a1 a2 a4 a5=some r) :
  SpecA prog 70 [.pointer (some ⟨b1,0,none⟩),.int .u32 a1,.string ⟨⟨a2⟩⟩,.func (.func 77) #[] #[.pointer (some ⟨b8,0,none⟩),.pointer (some ⟨b9,0,none⟩)]] (Wc a0 b1 b2 b3 b4 b5 b6 b7 A1 A2 A3 A4 A5 c_1 c_2 c_3 c_4 c_5 ++ [X47 b8 a4 A6 c_6,M42 a4 A6 c_6 cs1] ++ Zgt a5 b9 A7 c_7) [E42 a4 cs1] (fun v l lr=>∃ A_0 c_0 A_1 c_1 A_2 c_2 A_3 c_3 A_4 c_4 A_5 c_5 cs_5 A_6 c_6,v=.int .i64 r.1/\l=Wc r.2.1 b1 b2 b3 b4 b5 b6 b7 A_0 A_1 A_2 A_3 A_4 c_0 c_1 c_2 c_3 c_4 ++ [X47 b8 r.2.2.1 A_5 c_5,M42 r.2.2.1 A_5 c_5 cs_5] ++ Zgt r.2.2.2 b9 A_6 c_6/\lr=[E42 r.2.2.1 cs_5]):=by
 refine Yl Tryz.func70 fun w0 F0 h0=>?_
 replace h0:=nf h0
 unfold Q93.f at H
 refine T9 (Zb [0,1,2,3] ?_)
 refine T9 (Zb [0,1,2,3,9] ?_)
 refine T9 (Zb [0,2,3,9,10] ?_)
 refine T1 ?_
 have h23:=(sOR h0 [0,1,0,2,3,4,4,5,6,0,0,0,0,0,0,0] [0])
 refine T5 (fun kk env w=>∃ x1 x2 x3 x4 A8 c_8 x5 A9 c_9 x6 x7 A10 c_10 A11 c_11 A12 c_12 x8 x9 A13 c_13 x10 A14 c_14 x11 x12 cs2,Q93.l0 kk a2 x1 x2 x3 x4 x5 x6 x7 x8 x9 x10 x11 x12=some r/\env=[(0,.pointer (some ⟨b1,0,none⟩)),(2,.string ⟨⟨a2⟩⟩),(3,.func (.func 77) #[] #[.pointer (some ⟨b8,0,none⟩),.pointer (some ⟨b9,0,none⟩)]),(9,.int .i64 x11),(10,.int .u32 x12)]/\St w0 F0 [Bq b1 x1.1 x1.2.1 x1.2.2.1 x1.2.2.2.1 x1.2.2.2.2.1 x1.2.2.2.2.2.1 x1.2.2.2.2.2.2.1 x1.2.2.2.2.2.2.2 (.pointer (some ⟨b3,0,none⟩)) (.pointer (some ⟨b2,0,none⟩)) (.pointer (some ⟨b6,0,none⟩)) x8,Xy b3 x2.1 x2.2.1 A8 c_8 x2.2.2.1 x2.2.2.2,X6 b2 (.pointer (some ⟨b3,0,none⟩)) x5 A9 c_9 (.map (some b4)) x7 A10 c_10 (.pointer (some ⟨b5,0,none⟩)),Xj .u32 (Value.int .i64) b4 x6,Y6 b5 x3.1 A11 c_11 x3.2,U6 b6 (.pointer (some ⟨b7,0,none⟩)),Wt b7 x4.1 x4.2.1 x4.2.2 A12 c_12,X47 b8 x9 A13 c_13,X39 b9 x10 A14 c_14,O5 x2.2.1 A8 c_8,X8 x5 A9 c_9,O3 x7 A10 c_10,Y5 x3.1 A11 c_11,O98 x4.2.2 A12 c_12,M42 x9 A13 c_13 cs2,O30 x10 A14 c_14] [E42 x9 cs2] w) (k:=k) ⟨_,_,_,_,_,_,_,_,_,_,_,_,_,_,_,_,_,_,_,_,_,_,_,_,_,_,_,H,rfl,h23⟩ ?_
 rintro k1 env w1 ⟨x1,x2,x3,x4,A8,c_8,x5,A9,c_9,x6,x7,A10,c_10,A11,c_11,A12,c_12,x8,x9,A13,c_13,x10,A14,c_14,x11,x12,cs2,H,rfl,h1⟩
 rcases k1 with _ | k1
 ·exact z0 H
 rw [Q93.l0] at H
 refine T1 (T9 (T7 ?_))
 refine Zd 2 ?_
 refine cE H [0,1,0,6,6,0,5,0,4,0,0,2] h1 rfl Q95.spec Zn ?_
 rintro r1 w2 _ _ H ⟨A15,c_15,A16,c_16,A17,c_17,A18,c_18,A19,c_19,A20,c_20,A21,c_21,A22,c_22,A23,c_23,rfl,rfl⟩ h2
 replace h2:=nf h2
 refine Zd 3 ?_
 refine rB (Yi h2) fun b10 w3 h3=>?_
 refine rS (Zt 0 h3) fun _ w4 h4=>?_
 refine Ze [0,2,3,9,10,11,12] rfl ?_
 refine T9 (T9 (Zb [0,2,3,9,10,11,12,21] ?_))
 refine jIf H (fun c1 H=>?_) fun c1 H=>?_
 ·refine T9 (Zb [8] ?_)
  have h5:=sO h4 [5,5,5,5,5,5,5,5,5,5,5,5,5,5,5,5]
  replace h5:=nf h5
  cases H
  exact T8 (jRA ⟨_,_,_,_,_,_,_,_,_,_,_,_,_,_,_,rfl,rfl,rfl⟩ (sOR h5 [0,0,0,0,0,0,0,0,0,0,0,0,0,1,0,0] [0]))
 refine Sa (T9 (T9 (T7 ?_)))
 refine Zd 3 ?_
 refine Z6 25 H (fun c2 H=>?_) fun c2 H=>?_
 ·refine Zd 1 ?_
  refine Zc (Za 0 h4.wht) ?_
  refine Ze [0,2,3,10,11,31] rfl ?_
  refine jIf H (fun c3 H=>?_) fun c3 H=>?_
  ·refine T9 (Zb [8] ?_)
   have h6:=sO h4 [5,5,5,5,5,5,5,5,5,5,5,5,5,5,5,5]
   replace h6:=nf h6
   cases H
   exact T8 (jRA ⟨_,_,_,_,_,_,_,_,_,_,_,_,_,_,_,rfl,rfl,rfl⟩ (sOR h6 [0,0,0,0,0,0,0,0,0,0,0,0,0,1,0,0] [0]))
  refine Sa (T9 (T9 (T7 ?_)))
  refine Zd 2 ?_
  refine Zc (Za 0 h4.wht) ?_
  have h7:=h4.freeze (k:=1) rfl Ye
  have h8:=h7.freeze (k:=1) rfl Ye
  have h9:=h8.freeze (k:=1) rfl Ye
  have h10:=h9.freeze (k:=1) rfl Ye
  obtain ⟨r2,q2,H⟩:=Yf H
  refine Zr (Un [.int .u32 x12,.agg #[.int .i64 r1.1.1,.slice A15 r1.1.2.1.length c_15,.slice A16 r1.1.2.2.1.length c_16,.slice A17 r1.1.2.2.2.1.length c_17,.slice A18 r1.1.2.2.2.2.length c_18]] [.pointer (some ⟨b8,0,none⟩),.pointer (some ⟨b9,0,none⟩)] [13,14,13,13] (Q90.spec q2) h10 rfl (gS [3,2,1,0,4])) ?_
  rintro _ w5 ⟨_,_,⟨A24,c_24,cs3,A25,c_25,rfl,rfl,rfl⟩,h11⟩
  replace h11:=nf h11
  refine Zd 2 ?_
  refine Z6 37 H (fun c4 H=>?_) fun c4 H=>?_
  ·refine Ze [0,2,3,11,41] rfl ?_
   refine Zo ?_
   refine T9 (Zb [8] ?_)
   cases H
   exact T8 (jRA ⟨_,_,_,_,_,_,_,_,_,_,_,_,_,_,_,rfl,rfl,rfl⟩ (sOR h11 [5,5,5,5,5,5,5,5,5,5,5,5,0,0,0,0] [0]))
  refine Zd 1 ?_
  refine Zc (Za 4 h11.wht) ?_
  refine Ze [0,2,3,11,41] rfl ?_
  refine jIf H (fun c5 H=>?_) fun c5 H=>?_
  ·refine T9 (Zb [8] ?_)
   cases H
   exact T8 (jRA ⟨_,_,_,_,_,_,_,_,_,_,_,_,_,_,_,rfl,rfl,rfl⟩ (sOR h11 [5,5,5,5,5,5,5,5,5,5,5,5,0,0,0,0] [0]))
  refine Sa (T9 (T7 ?_))
  refine Zd 1 ?_
  refine Zc (Za 4 h11.wht) ?_
  refine Ze [0,2,3,9,11] rfl ?_
  refine jH h11 fun h12=>?_
  refine Zl [0,2,4] ?_
  refine Zf 1 rfl (Za 4 wI) ?_
  refine Zf 3 rfl (Za 4 wI) ?_
  refine cSJ 5 rfl H [] h12 rfl Q61.spec (gS [20]) 0 fun r3 w6 H h13=>?_
  obtain ⟨⟨p1,p2⟩,H⟩:=Zk H
  have e1:=Zx h13.wh (Zh 21) p1 p2
  refine Zf 6 rfl (Zg e1 p1 p2) ?_
  refine Zf 7 rfl (Zi 0 wI (Zh 21) p1 p2) ?_
  refine Zl [8] ?_
  refine Zy [0,2,3,9,10] ?_
  have h14:=(sOR h13 [5,6,5,7,8,9,9,0,1,3,3,3,3,3,0,0] [0])
  exact ⟨k1,by omega,_,_,_,_,_,_,_,_,_,_,_,_,_,_,_,_,_,_,_,_,_,_,_,_,_,_,_,H,rfl,h14⟩
 refine Ze [0,2,3,10,11,31] rfl ?_
 refine Z5 ?_
 refine Sa (T9 (T9 (T7 ?_)))
 refine Zd 2 ?_
 refine Zc (Za 0 h4.wht) ?_
 have h15:=h4.freeze (k:=1) rfl Ye
 have h16:=h15.freeze (k:=1) rfl Ye
 have h17:=h16.freeze (k:=1) rfl Ye
 have h18:=h17.freeze (k:=1) rfl Ye
 obtain ⟨r4,q4,H⟩:=Yf H
 refine Zr (Un [.int .u32 x12,.agg #[.int .i64 r1.1.1,.slice A15 r1.1.2.1.length c_15,.slice A16 r1.1.2.2.1.length c_16,.slice A17 r1.1.2.2.2.1.length c_17,.slice A18 r1.1.2.2.2.2.length c_18]] [.pointer (some ⟨b8,0,none⟩),.pointer (some ⟨b9,0,none⟩)] [13,14,13,13] (Q90.spec q4) h18 rfl (gS [3,2,1,0,4])) ?_
 rintro _ w7 ⟨_,_,⟨A26,c_26,cs4,A27,c_27,rfl,rfl,rfl⟩,h19⟩
 replace h19:=nf h19
 refine Zd 2 ?_
 refine Z6 37 H (fun c6 H=>?_) fun c6 H=>?_
 ·refine Ze [0,2,3,11,41] rfl ?_
  refine Zo ?_
  refine T9 (Zb [8] ?_)
  cases H
  exact T8 (jRA ⟨_,_,_,_,_,_,_,_,_,_,_,_,_,_,_,rfl,rfl,rfl⟩ (sOR h19 [5,5,5,5,5,5,5,5,5,5,5,5,0,0,0,0] [0]))
 refine Zd 1 ?_
 refine Zc (Za 4 h19.wht) ?_
 refine Ze [0,2,3,11,41] rfl ?_
 refine jIf H (fun c7 H=>?_) fun c7 H=>?_
 ·refine T9 (Zb [8] ?_)
  cases H
  exact T8 (jRA ⟨_,_,_,_,_,_,_,_,_,_,_,_,_,_,_,rfl,rfl,rfl⟩ (sOR h19 [5,5,5,5,5,5,5,5,5,5,5,5,0,0,0,0] [0]))
 refine Sa (T9 (T7 ?_))
 refine Zd 1 ?_
 refine Zc (Za 4 h19.wht) ?_
 refine Ze [0,2,3,9,11] rfl ?_
 refine jH h19 fun h20=>?_
 refine Zl [0,2,4] ?_
 refine Zf 1 rfl (Za 4 wI) ?_
 refine Zf 3 rfl (Za 4 wI) ?_
 refine cSJ 5 rfl H [] h20 rfl Q61.spec (gS [20]) 0 fun r5 w8 H h21=>?_
 obtain ⟨⟨p3,p4⟩,H⟩:=Zk H
 have e2:=Zx h21.wh (Zh 21) p3 p4
 refine Zf 6 rfl (Zg e2 p3 p4) ?_
 refine Zf 7 rfl (Zi 0 wI (Zh 21) p3 p4) ?_
 refine Zl [8] ?_
 refine Zy [0,2,3,9,10] ?_
 have h22:=(sOR h21 [5,6,5,7,8,9,9,0,1,3,3,3,3,3,0,0] [0])
 exact ⟨k1,by omega,_,_,_,_,_,_,_,_,_,_,_,_,_,_,_,_,_,_,_,_,_,_,_,_,_,_,_,H,rfl,h22⟩

def Q89.f (k:Nat) (a0:Tg) (a1:Int) (a2:TS):Option (Tm×List Int×Int×Tg):=(Q93.f k a0 a1 a2 [] []).bind fun r1=>(if (!decide (r1.1=0))=true then (some ([],[],r1.1,r1.2.1)) else (some (r1.2.2.1,r1.2.2.2,0,r1.2.1)))
theorem Q89.spec {k a0 a1 a2 b1 b2 b3 b4 b5 b6 b7 A1 c_1 A2 c_2 A3 c_3 A4 c_4 A5 c_5 r} (H:Q89.f k a0 a1 a2=some r) :
  SpecA prog 39 [.pointer (some ⟨b1,0,none⟩),.int .u32 a1,.string ⟨⟨a2⟩⟩] (Wc a0 b1 b2 b3 b4 b5 b6 b7 A1 A2 A3 A4 A5 c_1 c_2 c_3 c_4 c_5) [] (fun v l lr=>∃ A_0 c_0 A_1 c_1 A_2 c_2 A_3 c_3 A_4 c_4 A_5 c_5 A_6 c_6,v=.tuple #[.slice A_0 r.1.length c_0,.slice A_1 r.2.1.length c_1,.int .i64 r.2.2.1]/\l=[O30 r.2.1 A_1 c_1] ++ Wc r.2.2.2 b1 b2 b3 b4 b5 b6 b7 A_2 A_3 A_4 A_5 A_6 c_2 c_3 c_4 c_5 c_6/\lr=[R42 r.1 A_0 c_0]):=by
 refine Yl Tryz.func39 fun w0 F0 h0=>?_
 replace h0:=nf h0
 unfold Q89.f at H
 refine T9 (Zb [0,1,2] ?_)
 refine T9 (T7 ?_)
 refine rB (Yi h0) fun b8 w1 h1=>?_
 refine Ze [0,1,2,9] rfl ?_
 refine T9 (T7 ?_)
 refine rB (Yi h1) fun b9 w2 h2=>?_
 refine Ze [0,1,2,9,10] rfl ?_
 refine T9 (T7 ?_)
 refine Zd 4 ?_
 have h3:=h2.rawNil 42 (.pair (.int .i64) (.pair (.slice 30 (.int .u32)) (.pair (.slice 9 .str) (.pair (.slice 106 (.pair .str (.pair .bool .str))) (.slice 104 (.pair .str .str))))))
 have h4:=h3.addNil 30 (.int .u32)
 obtain ⟨r1,q1,H⟩:=Yf H
 refine Zr (Z3 [4,4,4,4,4,4,4,4,4,4,4,4,3,1,1,0] (Q93.spec q1) h4 rfl (gS [0])) ?_
 rintro _ w3 ⟨_,_,⟨A6,c_6,A7,c_7,A8,c_8,A9,c_9,A10,c_10,A11,c_11,cs1,A12,c_12,rfl,rfl,rfl⟩,h5⟩
 replace h5:=nf h5
 refine Ze [9,10,11] rfl ?_
 refine T9 (T9 (Zb [9,10,11,18] ?_))
 refine jIf H (fun c1 H=>?_) fun c1 H=>?_
 ·refine T9 (Zb [6,7,8] ?_)
  have h6:=sO h5 [0,0,0,0,0,0,0,0,0,0,0,0]
  replace h6:=nf h6
  have h7:=h6.addNil 42 (.pair (.int .i64) (.pair (.slice 30 (.int .u32)) (.pair (.slice 9 .str) (.pair (.slice 106 (.pair .str (.pair .bool .str))) (.slice 104 (.pair .str .str))))))
  have h8:=h7.freeze (k:=0) rfl Ye
  have h9:=h8.addNil 30 (.int .u32)
  cases H
  exact T8 (jRA ⟨_,_,_,_,_,_,_,_,_,_,_,_,_,_,rfl,rfl,rfl⟩ (sOR h9 [0,0,0,0,0,0,0,0,0,0,0,0,0] [0]))
 refine Sa (T9 (jH h5 fun h10=>?_))
 refine Zf 0 rfl (Za 12 wI) ?_
 refine Zl [2] ?_
 refine Zf 1 rfl (Za 14 wI) ?_
 refine Zl [3,4] ?_
 refine Zy [6,7,8] ?_
 have h11:=sO h10 [0,0,0,0,0,0,0,0,0,0,0,0,1,2]
 replace h11:=nf h11
 have h12:=St.mixFreeze 12 0 h11
 cases H
 exact T8 (jRA ⟨_,_,_,_,_,_,_,_,_,_,_,_,_,_,rfl,rfl,rfl⟩ (sOR h12 [12,0,0,0,0,0,0,0,0,0,0,0,0] [0]))

def Q145.f (k:Nat) (a0:TC) (a1:TS):Option (Bool):=(Q143.f k a0.1 a1).bind fun r1=>(if (decide (r1<=0))=true then (if a0.2.2=true then (some true) else ((Q143.f k a1 a0.2.1).bind fun r2=>(some (decide (r2<0))))) else (some false))
theorem Q145.spec {k a0 a1 r} (H:Q145.f k a0 a1=some r) :
  Spec prog 44 [.agg #[.string ⟨⟨a0.1⟩⟩,.string ⟨⟨a0.2.1⟩⟩,.bool a0.2.2],.string ⟨⟨a1⟩⟩] [] [] (fun v l=>v=.bool r/\l=[]):=by
 refine Zj Tryz.func44 fun w0 F0 h0=>?_
 unfold Q145.f at H
 refine T9 (T7 ?_)
 refine rB (Ya h0) fun b1 w1 h1=>?_
 refine Ze [1,2] rfl ?_
 refine T9 (T7 ?_)
 refine Zd 1 ?_
 refine Zc (Za 0 h1.wht) ?_
 refine Zd 1 ?_
 refine cS H [] h1 rfl Q143.spec Zn fun r1 w2 H h2=>?_
 refine Zd 2 ?_
 refine Z6 10 H (fun c1 H=>?_) fun c1 H=>?_
 ·refine Zd 1 ?_
  refine Zc (Za 0 h2.wht) ?_
  refine Zd 1 ?_
  refine Z6 13 H (fun c2 H=>?_) fun c2 H=>?_
  ·refine Ze [4] rfl ?_
   cases H
   exact T8 (jR0 h2 [])
  refine Zd 2 ?_
  refine Zc (Za 0 h2.wht) ?_
  refine cS H [] h2 rfl Q143.spec Zn fun r2 w3 H h3=>?_
  refine Ze [4] rfl ?_
  cases H
  exact T8 (jR0 h3 [])
 refine Ze [4] rfl ?_
 cases H
 exact T8 (jR0 h2 [])

def Q155.l0:Nat->TX->TX->(Int)->Option (Bool)
 | 0,_,_,_=>none
 | k+1,a0,a1,x1=>if (decide (x1<(a0.length:Int)))=true then (if 0<=x1/\x1<(a0.length:Int) then (if 0<=x1/\x1<(a1.length:Int) then (if (!decide ((gt a0 x1)=(gt a1 x1)))=true then (some false) else (Q155.l0 k a0 a1 (w64 (x1+1)))) else none) else none) else (some true)
def Q155.f (k:Nat) (a0:TX) (a1:TX):Option (Bool):=if (!decide ((a0.length:Int)=(a1.length:Int)))=true then (some false) else (Q155.l0 k a0 a1 0)
theorem Q155.spec {k a0 a1 A1 c_1 A2 c_2 r} (H:Q155.f k a0 a1=some r) :
  Spec prog 48 [.slice A1 a0.length c_1,.slice A2 a1.length c_2] [] [R30 a0 A1 c_1,R30 a1 A2 c_2] (fun v l=>v=.bool r/\l=[]):=by
 refine Zj Tryz.func48 fun w0 F0 h0=>?_
 unfold Q155.f at H
 refine T9 (Zb [0,1] ?_)
 refine T9 (T9 (Zb [0,1,10] ?_))
 refine jIf H (fun c1 H=>?_) fun c1 H=>?_
 ·refine T9 (Zb [4] ?_)
  cases H
  exact T8 (jR0 h0 [])
 refine Sa (T9 (T9 (Zb [0,1,5] ?_)))
 refine T1 ?_
 have h4:=(sOR h0 [] [0,1])
 refine T5 (fun kk env w=>∃ x1,Q155.l0 kk a0 a1 x1=some r/\env=[(0,.slice A1 a0.length c_1),(1,.slice A2 a1.length c_2),(5,.int .i64 x1)]/\St w0 F0 [] [R30 a0 A1 c_1,R30 a1 A2 c_2] w) (k:=k) ⟨_,H,rfl,h4⟩ ?_
 rintro k1 env w1 ⟨x1,H,rfl,h1⟩
 rcases k1 with _ | k1
 ·exact z0 H
 rw [Q155.l0] at H
 refine T9 (T9 (Zb [0,1,5,14] ?_))
 refine jIf H (fun c2 H=>?_) fun c2 H=>?_
 ·refine Sa (T9 (T1 (T9 ?_)))
  refine jH h1 fun h2=>?_
  refine Zl [0,1,4,5] ?_
  obtain ⟨⟨p1,p2⟩,H⟩:=Zk H
  have e1:=Zx h2.wh (Zh 0) p1 p2
  refine Zf 2 rfl (Zg e1 p1 p2) ?_
  refine Zf 3 rfl (Zi 0 wI (Zh 0) p1 p2) ?_
  obtain ⟨⟨p3,p4⟩,H⟩:=Zk H
  have e2:=Zx h2.wh (Zh 1) p3 p4
  refine Zf 6 rfl (Zg e2 p3 p4) ?_
  refine Zf 7 rfl (Zi 0 wI (Zh 1) p3 p4) ?_
  refine Zl [8] ?_
  refine Zy [0,1,5,25] ?_
  refine jIf H (fun c3 H=>?_) fun c3 H=>?_
  ·refine T9 (Zb [4] ?_)
   cases H
   exact T8 (jR0 h2 [])
  refine Sa (Zb [0,1,5] ?_)
  have h3:=(sOR h2 [] [0,1])
  exact ⟨k1,by omega,_,H,rfl,h3⟩
 refine T4 (T9 (Zb [4] ?_))
 cases H
 exact T8 (jR0 h1 [])

def Q137.l0:Nat->TS->TS->Ta->Tq->TD->TA->TG->Tw->TN->TX->(Int)->(Bool)->Option (Bool)
 | 0,_,_,_,_,_,_,_,_,_,_,_,_=>none
 | k+1,a2,a3,r1,x1,x2,x3,x4,x5,x6,x7,x8,x9=>if x9=true then ((Q139.f k).bind fun r6=>(some r6)) else ((Q97.f (x1,(x2,x5,x6,x7,x3),x4,x8)).bind fun r7=>((Q85.f k (x1,(x2,x5,x6,x7,x3),x4,x8) r1.2.1 a2).bind fun r8=>((Q97.f r8.2.2.2).bind fun r9=>(if (decide ((uH.wrap ((w64 (2*(w64 ((r1.2.2.1.length:Int) - 1))))))<(uH.wrap ((uH.wrap ((uH.wrap (r9.1 - r7.1))+r9.2)) - r7.2))))=true then (some false) else ((Q89.f k r8.2.2.2 r1.2.1 a2).bind fun r10=>((Q89.f k r10.2.2.2 r1.2.1 a3).bind fun r11=>((Q87.f k r11.2.2.2 r1.2.1 a2).bind fun r12=>(if (decide (r10.2.2.1=0))=true then (if (decide (r11.2.2.1=0))=true then ((Q145.f k r12.1 a3).bind fun r13=>((Q155.f k r10.2.1 r11.2.1).bind fun r14=>(if (r13 == r14)=true then ((Q139.f k).bind fun r15=>(some r15)) else (some false)))) else (some false)) else (some false)))))))))
def Q137.f (k:Nat) (a0:Tq) (a1:Tp) (a2:TS) (a3:TS):Option (Bool):=(Q138.f k a0 a1).bind fun r1=>(Vx r1.1 (if (!r1.2.2.2)=true then ((Q139.f k).bind fun r3=>(some r3)) else (if (decide (300<(a2.length:Int)))=true then ((Q139.f k).bind fun r4=>(some r4)) else (if (decide (300<(a3.length:Int)))=true then ((Q139.f k).bind fun r5=>(some r5)) else (none)))) (fun r2=>(if (!r1.2.2.2)=true then (Q137.l0 k a2 a3 r1 r2.1 r2.2.1.1 r2.2.1.2.2.2.2 r2.2.2.1 r2.2.1.2.1 r2.2.1.2.2.1 r2.2.1.2.2.2.1 r2.2.2.2 true) else (if (decide (300<(a2.length:Int)))=true then (Q137.l0 k a2 a3 r1 r2.1 r2.2.1.1 r2.2.1.2.2.2.2 r2.2.2.1 r2.2.1.2.1 r2.2.1.2.2.1 r2.2.1.2.2.2.1 r2.2.2.2 true) else (if (decide (300<(a3.length:Int)))=true then (Q137.l0 k a2 a3 r1 r2.1 r2.2.1.1 r2.2.1.2.2.2.2 r2.2.2.1 r2.2.1.2.1 r2.2.1.2.2.1 r2.2.1.2.2.2.1 r2.2.2.2 true) else ((Q94.f r2 r1.2.1).bind fun r16=>(Q137.l0 k a2 a3 r1 r16.2.1 r16.2.2.1.1 r16.2.2.1.2.2.2.2 r16.2.2.2.1 r16.2.2.1.2.1 r16.2.2.1.2.2.1 r16.2.2.1.2.2.2.1 r16.2.2.2.2 (!decide (r16.1=0)))))))))
theorem Q137.spec {k a0 a1 a2 a3 A1 c_1 A2 c_2 A3 c_3 A4 c_4 r} (H:Q137.f k a0 a1 a2 a3=some r) :
  Spec prog 11 [.agg #[.int .i64 a0.1,.int .i64 a0.2.1,.int .i64 a0.2.2.1,.int .i64 a0.2.2.2.1,.int .i64 a0.2.2.2.2.1,.int .i64 a0.2.2.2.2.2.1,.int .i64 a0.2.2.2.2.2.2.1,.int .i64 a0.2.2.2.2.2.2.2],.agg #[.slice A1 a1.1.length c_1,.slice A2 a1.2.1.length c_2,.slice A3 a1.2.2.1.length c_3,.slice A4 a1.2.2.2.length c_4],.string ⟨⟨a2⟩⟩,.string ⟨⟨a3⟩⟩] [] [Yh a1.1 A1 c_1,Yk a1.2.1 A2 c_2,R5 a1.2.2.1 A3 c_3,R5 a1.2.2.2 A4 c_4,tabC 0] (fun v l=>v=.bool r/\l=[]):=by
 refine Zj Tryz.func11 fun w0 F0 h0=>?_
 unfold Q137.f at H
 refine T9 (T7 ?_)
 refine rB (Ya h0) fun b1 w1 h1=>?_
 refine rB (Ya h1) fun b2 w2 h2=>?_
 refine Ze [2,3,4,5] rfl ?_
 refine T9 (T7 ?_)
 refine Zc (Za 1 h2.wht) ?_
 refine Zc (Za 0 h2.wht) ?_
 obtain ⟨r1,q1,H⟩:=Yf H
 refine Zr (Z3 [] (Q138.spec q1) h2 rfl (gS [0,1,2,3,4])) ?_
 rintro _ w3 ⟨_,_,⟨v1,l1,ho1,A5,c_5,rfl,rfl,rfl⟩,h3⟩
 rcases ho2:r1.1 with _ | r2
 ·rw [ho2] at ho1
  obtain ⟨rfl,rfl⟩:=ho1
  replace H:=Gc ho2 H
  replace h3:=nf h3
  refine Ze [2,3,9,10,11,12] rfl ?_
  have h4:=sO h3 []
  replace h4:=nf h4
  refine T9 (T9 (T7 ?_))
  refine Zd 3 ?_
  refine Z6 33 H (fun c1 H=>?_) fun c1 H=>?_
  ·refine Ze [2,3,9,10,11,48] rfl ?_
   refine Zo ?_
   refine T9 (T7 ?_)
   refine cS H [] h4 rfl Q139.spec (gS [5]) fun r3 w4 H h5=>?_
   refine Ze [8] rfl ?_
   cases H
   exact T8 (jR0 h5 [])
  refine Zd 5 ?_
  refine Z6 38 H (fun c2 H=>?_) fun c2 H=>?_
  ·refine Ze [2,3,9,10,11,48] rfl ?_
   refine Zo ?_
   refine T9 (T7 ?_)
   refine cS H [] h4 rfl Q139.spec (gS [5]) fun r4 w5 H h6=>?_
   refine Ze [8] rfl ?_
   cases H
   exact T8 (jR0 h6 [])
  refine Zd 5 ?_
  refine Z6 43 H (fun c3 H=>?_) fun c3 H=>?_
  ·refine Ze [2,3,9,10,11,48] rfl ?_
   refine Zo ?_
   refine T9 (T7 ?_)
   refine cS H [] h4 rfl Q139.spec (gS [5]) fun r5 w6 H h7=>?_
   refine Ze [8] rfl ?_
   cases H
   exact T8 (jR0 h7 [])
  refine Zd 2 ?_
  exact nomatch H
 rw [ho2] at ho1
 obtain ⟨b3,b4,b5,A6,c_6,A7,c_7,b6,A8,c_8,b7,A9,c_9,b8,b9,A10,c_10,rfl,rfl⟩:=ho1
 replace H:=J8 ho2 H
 replace h3:=nf h3
 refine Ze [2,3,9,10,11,12] rfl ?_
 have h8:=sO h3 [0,0,0,0,0,0,0,0,0,0,0,0]
 replace h8:=nf h8
 refine T9 (T9 ?_)
 refine T6 (fun env w=>∃ k1 x1 x2 x3 x4 A11 c_11 x5 A12 c_12 x6 x7 A13 c_13 A14 c_14 A15 c_15 x8 x9,Q137.l0 k1 a2 a3 r1 x1 x2 x3 x4 x5 x6 x7 x8 x9=some r/\env=[(2,.string ⟨⟨a2⟩⟩),(3,.string ⟨⟨a3⟩⟩),(9,.pointer (some ⟨b3,0,none⟩)),(10,.int .u32 r1.2.1),(11,.slice A5 r1.2.2.1.length c_5),(48,.bool x9)]/\St w0 F0 [Bq b3 x1.1 x1.2.1 x1.2.2.1 x1.2.2.2.1 x1.2.2.2.2.1 x1.2.2.2.2.2.1 x1.2.2.2.2.2.2.1 x1.2.2.2.2.2.2.2 (.pointer (some ⟨b5,0,none⟩)) (.pointer (some ⟨b4,0,none⟩)) (.pointer (some ⟨b8,0,none⟩)) x8,Xy b5 x2.1 x2.2.1 A11 c_11 x2.2.2.1 x2.2.2.2,X6 b4 (.pointer (some ⟨b5,0,none⟩)) x5 A12 c_12 (.map (some b6)) x7 A13 c_13 (.pointer (some ⟨b7,0,none⟩)),Xj .u32 (Value.int .i64) b6 x6,Y6 b7 x3.1 A14 c_14 x3.2,U6 b8 (.pointer (some ⟨b9,0,none⟩)),Wt b9 x4.1 x4.2.1 x4.2.2 A15 c_15,O5 x2.2.1 A11 c_11,X8 x5 A12 c_12,O3 x7 A13 c_13,Y5 x3.1 A14 c_14,O98 x4.2.2 A15 c_15] [R47 r1.2.2.1 A5 c_5,tabC 0] w/\k1<=k) ?_ ?_
 ·refine T7 (Zd 3 ?_)
  refine Z6 33 H (fun c9 H=>?_) fun c9 H=>?_
  ·refine Ze [2,3,9,10,11,48] rfl ?_
   have h34:=(sOR h8 [0,1,0,2,3,4,4,0,0,0,0,0] [0,5])
   exact ⟨k,_,_,_,_,_,_,_,_,_,_,_,_,_,_,_,_,_,_,_,H,rfl,h34,Sb _⟩
  refine Zd 5 ?_
  refine Z6 38 H (fun c10 H=>?_) fun c10 H=>?_
  ·refine Ze [2,3,9,10,11,48] rfl ?_
   have h35:=(sOR h8 [0,1,0,2,3,4,4,0,0,0,0,0] [0,5])
   exact ⟨k,_,_,_,_,_,_,_,_,_,_,_,_,_,_,_,_,_,_,_,H,rfl,h35,Sb _⟩
  refine Zd 5 ?_
  refine Z6 43 H (fun c11 H=>?_) fun c11 H=>?_
  ·refine Ze [2,3,9,10,11,48] rfl ?_
   have h36:=(sOR h8 [0,1,0,2,3,4,4,0,0,0,0,0] [0,5])
   exact ⟨k,_,_,_,_,_,_,_,_,_,_,_,_,_,_,_,_,_,_,_,H,rfl,h36,Sb _⟩
  refine Zd 2 ?_
  refine cE H [0,0,0,0,0,0,0,0,0,0,0,0] h8 rfl Q94.spec Zn ?_
  rintro r16 w25 _ _ H ⟨A40,c_40,A41,c_41,A42,c_42,A43,c_43,A44,c_44,rfl,rfl⟩ h37
  replace h37:=nf h37
  refine Ze [2,3,9,10,11,48] rfl ?_
  have h38:=(sOR h37 [0,1,0,2,3,4,4,0,0,0,0,0] [0,5])
  exact ⟨k,_,_,_,_,_,_,_,_,_,_,_,_,_,_,_,_,_,_,_,H,rfl,h38,Sb _⟩
 rintro env w8 ⟨k1,x1,x2,x3,x4,A11,c_11,x5,A12,c_12,x6,x7,A13,c_13,A14,c_14,A15,c_15,x8,x9,H,rfl,h9,hk1⟩
 rcases k1 with _ | k1
 ·exact z0 H
 rw [Q137.l0] at H
 refine jIf H (fun c4 H=>?_) fun c4 H=>?_
 ·refine T9 (T7 ?_)
  refine cS H [] h9 rfl Q139.spec (gS [13]) fun r6 w9 H h10=>?_
  refine Ze [8] rfl ?_
  have h11:=sO h10 []
  replace h11:=nf h11
  cases H
  exact T8 (jR0 h11 [])
 refine Sa (T9 (T7 ?_))
 refine Zd 1 ?_
 refine cS H [0,1,0,4,4,0,3,0,2,0,0,0] h9 rfl Q97.spec Zn fun r7 w10 H h12=>?_
 refine rB (Yi h12) fun b10 w11 h13=>?_
 refine rS (Zt 0 h13) fun _ w12 h14=>?_
 refine Ze [2,3,9,10,11,13] rfl ?_
 refine T9 (T7 ?_)
 refine Zd 3 ?_
 refine cE H [1,1,1,1,1,1,1,1,1,1,1,1] h14 rfl Q85.spec Zn ?_
 rintro r8 w13 _ _ H ⟨A16,c_16,A17,c_17,A18,c_18,A19,c_19,A20,c_20,rfl,rfl⟩ h15
 replace h15:=nf h15
 refine Ze [2,3,9,10,11,13] rfl ?_
 refine T9 (T7 ?_)
 refine Zd 1 ?_
 refine cS H [0,0,0,0,0,0,0,0,0,0,0,0] h15 rfl Q97.spec Zn fun r9 w14 H h16=>?_
 refine rB (Yi h16) fun b11 w15 h17=>?_
 refine rS (Zt 0 h17) fun _ w16 h18=>?_
 refine Ze [2,3,9,10,11,13,14] rfl ?_
 refine T9 (T9 (T7 ?_))
 refine Zd 1 ?_
 refine Zc (Za 0 h18.wht) ?_
 refine Zd 1 ?_
 refine Zc (Za 13 h18.wht) ?_
 refine Zd 2 ?_
 refine Zc (Za 0 h18.wht) ?_
 refine Zd 2 ?_
 refine Zc (Za 13 h18.wht) ?_
 refine Ze [2,3,9,10,74] rfl ?_
 have h19:=sO h18 [1,1,1,1,1,1,1,1,1,1,1,1]
 replace h19:=nf h19
 refine jIf H (fun c5 H=>?_) fun c5 H=>?_
 ·refine T9 (Zb [8] ?_)
  have h20:=sO h19 []
  replace h20:=nf h20
  cases H
  exact T8 (jR0 h20 [])
 refine Sa (T9 (T7 ?_))
 refine Zd 3 ?_
 obtain ⟨r10,q9,H⟩:=Yf H
 refine Zr (Z3 [0,0,0,0,0,0,0,0,0,0,0,0] (Q89.spec q9) h19 rfl Zn) ?_
 rintro _ w17 ⟨_,_,⟨A21,c_21,A22,c_22,A23,c_23,A24,c_24,A25,c_25,A26,c_26,A27,c_27,rfl,rfl,rfl⟩,h21⟩
 replace h21:=nf h21
 refine Ze [2,3,9,10,16,17] rfl ?_
 refine T9 (T7 ?_)
 refine Zd 3 ?_
 obtain ⟨r11,q10,H⟩:=Yf H
 refine Zr (Z3 [1,1,1,1,1,1,1,1,1,1,1,1] (Q89.spec q10) h21 rfl Zn) ?_
 rintro _ w18 ⟨_,_,⟨A28,c_28,A29,c_29,A30,c_30,A31,c_31,A32,c_32,A33,c_33,A34,c_34,rfl,rfl,rfl⟩,h22⟩
 replace h22:=nf h22
 refine Ze [2,3,9,10,16,17,19,20] rfl ?_
 refine T9 (T7 ?_)
 refine Zd 3 ?_
 refine cE H [1,1,1,1,1,1,1,1,1,1,1,1] h22 rfl Q87.spec Zn ?_
 rintro r12 w19 _ _ H ⟨A35,c_35,A36,c_36,A37,c_37,A38,c_38,A39,c_39,rfl,rfl⟩ h23
 replace h23:=nf h23
 refine Zd 3 ?_
 refine rB (Yi h23) fun b12 w20 h24=>?_
 refine rS (Zt 0 h24) fun _ w21 h25=>?_
 refine Ze [3,16,17,19,20,21] rfl ?_
 have h26:=sO h25 [0,12,12]
 replace h26:=nf h26
 refine T9 (T7 ?_)
 refine Zd 3 ?_
 refine Z6 100 H (fun c6 H=>?_) fun c6 H=>?_
 ·refine Zd 4 ?_
  refine Z6 104 H (fun c7 H=>?_) fun c7 H=>?_
  ·refine Zc (Za 0 h26.wht) ?_
   refine Zd 1 ?_
   refine cS H [] h26 rfl Q145.spec Zn fun r13 w22 H h27=>?_
   refine Zd 2 ?_
   refine cS H [] h27 rfl Q155.spec (Xq (gO 2) (Xq (gO 1) Zn)) fun r14 w23 H h28=>?_
   refine Zd 3 ?_
   refine Z6 113 H (fun c8 H=>?_) fun c8 H=>?_
   ·refine cS H [] h28 rfl Q139.spec (gS [6]) fun r15 w24 H h29=>?_
    refine Ze [8] rfl ?_
    have h30:=sO h29 []
    replace h30:=nf h30
    cases H
    exact T8 (jR0 h30 [])
   refine Ze [8] rfl ?_
   have h31:=sO h28 []
   replace h31:=nf h31
   cases H
   exact T8 (jR0 h31 [])
  refine Ze [8] rfl ?_
  have h32:=sO h26 []
  replace h32:=nf h32
  cases H
  exact T8 (jR0 h32 [])
 refine Ze [8] rfl ?_
 have h33:=sO h26 []
 replace h33:=nf h33
 cases H
 exact T8 (jR0 h33 [])

end Go.SK.T
