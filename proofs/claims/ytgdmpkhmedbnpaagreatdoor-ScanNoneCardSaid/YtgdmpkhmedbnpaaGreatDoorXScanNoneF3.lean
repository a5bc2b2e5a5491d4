/- The functions, further. -/
import Derived.Test.YtgdmpkhmedbnpaaGreatDoorXScanNoneF2
set_option linter.unusedVariables false
set_option linter.unusedSimpArgs false
set_option maxRecDepth 20000
set_option maxHeartbeats 40000000
namespace Go.SK.T
open Go Go.SK Go.Proofs
theorem slices_Insert_api_Pair_api_Pair.ov:Ov Tryz.prog 215 41:=Ov.of (rs:=Tryz.f215.resultTypes) Tryz.func215 (by kernel_rfl) (by kernel_rfl) (by kernel_rfl) (by kernel_rfl)
def Q114.f (a0:TA) (a1:Int) (a2:TA):Option TA:=
 if 0≤a1∧a1≤(a0.length:Int) then (if (a0.length+a2.length)*32≤140737488355328 then some (a0.take a1.toNat ++ a2 ++ a0.drop a1.toNat) else none) else none
set_option maxRecDepth 20000 in
set_option maxHeartbeats 4000000 in
theorem Q114.spec {a0:TA} {a1:Int} {a2:TA} {A1:Option Addr} {c_1:Nat} {A2:Option Addr} {c_2:Nat} {r:TA} (H:Q114.f a0 a1 a2=some r) :
  Spec Tryz.prog 187 [.slice A1 a0.length c_1,.int .i64 a1,.slice A2 a2.length c_2] [Yg 106 (.pair .str .str) a0 (.slice A1 a0.length c_1)] [rdC 106 (.pair .str .str) a2 (.slice A2 a2.length c_2)]
   (fun v l=>∃(A_0:Option Addr) (c_0:Nat),v=.slice A_0 r.length c_0∧l=[Yg 106 (.pair .str .str) r (.slice A_0 r.length c_0)]):=by
 refine Spec.enter Tryz.func187 rfl (by kernel_rfl) (by kernel_rfl) fun w0 F0 h0=>?_
 unfold Q114.f at H
 obtain ⟨⟨p0,p1⟩,H⟩:=Zk H
 obtain ⟨p2,H⟩:=Zk H
 obtain rfl:=Option.some.inj H
 clear H
 obtain ⟨i,rfl⟩:=Int.eq_ofNat_of_zero_le p0
 have hi:i≤a0.length:=by omega
 have hc1:=h0.cap (Gives.of 0 rfl Yc)
 simp only [Int.toNat_natCast]
 refine T8 (T6 (Sg Z4 1 rfl ?_))
 refine Se [(0,.slice A1 a0.length c_1),(1,.int .i64 (i:Int)),(2,.slice A2 a2.length c_2)] rfl ?_
 refine T8 (T6 (Sg Z4 2 rfl ?_))
 refine RJ.q rfl rfl (Zak (l:=(i:Int)) (h:=(a0.length:Int)) (sub:=a0.drop i) Z4 rfl rfl rfl rfl hc1 ⟨_,rfl⟩ rfl p0 p1 (Int.le_refl _) (by simpa using Yn a0 (i:Int))) ?_
 refine Se [(0,.slice A1 a0.length c_1),(1,.int .i64 (i:Int)),(2,.slice A2 a2.length c_2)] rfl ?_
 refine T8 (T6 (Sg Z4 3 rfl ?_))
 refine Se [(0,.slice A1 a0.length c_1),(1,.int .i64 (i:Int)),(2,.slice A2 a2.length c_2),(7,.int .i64 (a2.length:Int))] rfl ?_
 refine T8 (T8 (T6 (Sg Z4 2 rfl ?_)))
 refine Se [(0,.slice A1 a0.length c_1),(1,.int .i64 (i:Int)),(2,.slice A2 a2.length c_2),(7,.int .i64 (a2.length:Int)),(16,.bool (decide ((a2.length:Int)=0)))] rfl ?_
 refine T1 rfl (fun c=>?_) (fun c=>?_)
 ·have hz:a2=[]:=List.eq_nil_of_length_eq_zero (by have:=of_decide_eq_true c; omega)
  subst hz
  refine T8 (T6 (Sg Z4 2 rfl ?_))
  refine Se [(6,.slice A1 a0.length c_1)] rfl ?_
  refine T7 ?_
  have e:a0.take i ++ [] ++ a0.drop i=a0:=by simp
  rw [e]
  exact ⟨_,_,_,(Xn rfl),⟨_,_,rfl,rfl⟩,h0.only [0] rfl⟩
 ·refine T9 ?_
  have hm:a2.length≠0:=by have:=of_decide_eq_false c; omega
  refine T8 (T6 (Sg Z4 3 rfl ?_))
  refine Se [(0,.slice A1 a0.length c_1),(1,.int .i64 (i:Int)),(2,.slice A2 a2.length c_2),(7,.int .i64 (a2.length:Int)),(8,.int .i64 (a0.length:Int))] rfl ?_
  refine T8 (T8 (T6 (Sg Z4 3 rfl ?_)))
  refine Se [(0,.slice A1 a0.length c_1),(1,.int .i64 (i:Int)),(2,.slice A2 a2.length c_2),(7,.int .i64 (a2.length:Int)),(8,.int .i64 (a0.length:Int)),(22,.bool (decide ((i:Int)=(a0.length:Int))))] rfl ?_
  refine T1 rfl (fun c=>?_) (fun c=>?_)
  ·have hie:i=a0.length:=by have:=of_decide_eq_true c; omega
   refine T8 (T6 (Sg Z4 2 rfl ?_))
   refine RJ.op rfl rfl (Zdq Z4 (ty:=(.pair .str .str)) rfl 0 rfl h0 rfl (Gives.self 0 rfl) rfl rfl rfl rfl rfl rfl (by decide) (by decide) p2) ?_
   rintro _ w1 ⟨A,c_3,rfl,h1⟩
   refine Sg Z4 1 rfl ?_
   refine Se [(6,.slice A (a0 ++ a2).length c_3)] rfl ?_
   refine T7 ?_
   have e:a0.take i ++ a2 ++ a0.drop i=a0 ++ a2:=by rw [hie]; simp
   rw [e]
   exact ⟨_,_,_,(Xn rfl),⟨_,_,rfl,rfl⟩,h1.only [0] rfl⟩
  ·refine T9 ?_
   have hlt:i<a0.length:=by have:=of_decide_eq_false c; omega
   have w1:w64 ((a0.length:Int)+(a2.length:Int))=((a0.length+a2.length:Nat):Int):=by rw [Z3 (by omega) (by omega)]; omega
   have wim:w64 ((i:Int)+(a2.length:Int))=((i+a2.length:Nat):Int):=by rw [Z3 (by omega) (by omega)]; omega
   rcases h0.openRow (ty:=(.pair .str .str)) rfl 0 rfl with ⟨_,e,_⟩ | ⟨b,sp,rfl,hc,hcm,hsp,h1⟩
   ·rw [e] at hlt; cases hlt
   have hX:=Yw (ty:=(.pair .str .str)) rfl a0
   have hY:=Yw (ty:=(.pair .str .str)) rfl a2
   have nn:Ty.n (.pair .str .str)=2:=rfl
   have oX:=Vv (ty:=(.pair .str .str)) rfl a0
   have oY:=Vv (ty:=(.pair .str .str)) rfl a2
   have eT:(a0.flatMap (Ty.enc (.pair .str .str))).take (i*2)=(a0.take i).flatMap (Ty.enc (.pair .str .str)):=Vx (ty:=(.pair .str .str)) rfl a0 i
   have eD:(a0.flatMap (Ty.enc (.pair .str .str))).drop (i*2)=(a0.drop i).flatMap (Ty.enc (.pair .str .str)):=Jv (ty:=(.pair .str .str)) rfl a0 i
   have eR:(a0.take i ++ a2 ++ a0.drop i).flatMap (Ty.enc (.pair .str .str))=(a0.flatMap (Ty.enc (.pair .str .str))).take (i*2) ++ a2.flatMap (Ty.enc (.pair .str .str)) ++ (a0.flatMap (Ty.enc (.pair .str .str))).drop (i*2):=by rw [eT,eD,List.flatMap_append,List.flatMap_append]
   have lR:(a0.take i ++ a2 ++ a0.drop i).length=a0.length+a2.length:=by simp only [List.length_append,List.length_take,List.length_drop]; omega
   rw [nn] at hX hY hsp
   obtain ⟨X,hXe⟩:∃ X,X=a0.flatMap (Ty.enc (.pair .str .str)):=⟨_,rfl⟩
   obtain ⟨Y,hYe⟩:∃ Y,Y=a2.flatMap (Ty.enc (.pair .str .str)):=⟨_,rfl⟩
   rw [← hXe] at hX eR h1 oX
   rw [← hYe] at hY eR oY
   refine T8 (T8 (T6 (Sg Z4 3 rfl ?_)))
   refine Sf (t:=28) rfl (congrArg (Value.int .i64) w1) ?_
   refine Sg Z4 3 rfl ?_
   refine Se [(0,.slice (some ⟨b,0,none⟩) a0.length c_1),(1,.int .i64 (i:Int)),(2,.slice A2 a2.length c_2),(7,.int .i64 (a2.length:Int)),(8,.int .i64 (a0.length:Int)),(31,.bool (decide ((c_1:Int)<((a0.length+a2.length:Nat):Int))))] rfl ?_
   refine T1 rfl (fun c=>?_) (fun c=>?_)
   ·-- a new row
    have hgr:=of_decide_eq_true c
    have w2:w64 (((a0.length+a2.length:Nat):Int) - (i:Int))=((a0.length+a2.length - i:Nat):Int):=by rw [Z3 (by omega) (by omega)]; omega
    refine T8 (T6 (Sg Z4 2 rfl ?_))
    refine RJ.q rfl rfl (Wg Z4 0 (i:Int) (0) (i) (c_1) rfl rfl rfl rfl hc rfl ⟨_,rfl⟩ (Int.le_refl _) p0 (by omega) (by omega) (by show 0+0*2=0; omega) (by omega) (by omega)) ?_
    refine Sg Z4 3 rfl ?_
    refine Sf (t:=37) rfl (congrArg (Value.int .i64) w1) ?_
    refine Sg Z4 2 rfl ?_
    refine Sf (t:=39) rfl (congrArg (Value.int .i64) w2) ?_
    refine RJ.op rfl rfl (Zgz Z4 0 rfl h1 rfl rfl rfl rfl rfl rfl rfl (by decide) (by decide) (by omega) (by omega) (by rw [List.length_append]; show i*2≤_; omega) (by show ((i:Int)+_)*(32:Nat)≤_; omega)) ?_
    rintro _ w2' ⟨b2,cap,tail,rfl,hcap,hcap2,htail,h2⟩
    rw [Int.toNat_natCast] at hcap
    replace hcap:a0.length+a2.length≤cap:=by omega
    replace htail:tail.length=(cap - i)*2:=htail
    refine Sf (t:=40) (v:=.slice (some ⟨b2,0,none⟩) (a0.length+a2.length) cap) rfl (by rw [Int.toNat_natCast]; congr 1; omega) ?_
    have eX:(X ++ sp).take (i*2)=X.take (i*2):=List.take_append_of_le_length (by omega)
    have lX:(X.take (i*2)).length=i*2:=by rw [List.length_take]; omega
    replace h2:St w0 F0 (Yr b2 106 (X.take (i*2) ++ tail) :: [Yr b 106 (X ++ sp)]) [rdC 106 (.pair .str .str) a2 (.slice A2 a2.length c_2)] w2':=by rw [← eX]; exact h2
    obtain ⟨R,hR,_⟩:=h2.gives (c:=rdC 106 (.pair .str .str) a2 (.slice A2 a2.length c_2)) (Gives.self 2 rfl)
    have lY:=(Gg (ty:=(.pair .str .str)) rfl hR).2.1
    rw [← hYe] at lY
    refine Sg Z4 1 rfl ?_
    refine Se [(0,.slice (some ⟨b,0,none⟩) a0.length c_1),(1,.int .i64 (i:Int)),(2,.slice A2 a2.length c_2),(7,.int .i64 (a2.length:Int)),(9,.slice (some ⟨b2,0,none⟩) (a0.length+a2.length) cap)] rfl ?_
    refine T8 (T6 (Sg Z4 2 rfl ?_))
    refine RJ.q rfl rfl (Wg Z4 (i:Int) ((a0.length+a2.length:Nat):Int) (i*2) (a0.length+a2.length - i) (cap - i) rfl rfl rfl rfl hcap ⟨_,rfl⟩ rfl p0 (by omega) (by omega) (by omega) (by show 0+(i:Int).toNat*2=i*2; omega) (by omega) (by omega)) ?_
    refine Sg Z4 1 rfl ?_
    refine RJ.op rfl rfl (V4 Z4 (cs:=Y) 0 rfl h2 rfl rfl rfl rfl rfl (by show Y.length=min a2.length (a0.length+a2.length - i)*2; rw [Nat.min_eq_left (by omega)]; exact hY) (by rw [List.length_append]; omega) lY oY) ?_
    intro _ w3 h3
    refine Se [(0,.slice (some ⟨b,0,none⟩) a0.length c_1),(1,.int .i64 (i:Int)),(7,.int .i64 (a2.length:Int)),(9,.slice (some ⟨b2,0,none⟩) (a0.length+a2.length) cap)] rfl ?_
    obtain ⟨G,⟨hG,hh⟩,_⟩:=h3.own (k:=1) (c:=Yr b 106 (X ++ sp)) rfl
    have l3:(Zy (i*2) Y (X.take (i*2) ++ tail)).length=cap*2:=by simp only [Zy,List.length_append,List.length_take,List.length_drop]; omega
    refine T8 (J.heldSt mix (h3.only [] rfl) ?_)
    have h3:=h3.drew
    have lS:∀ w',w'.heap[b]?=some (.cells (X ++ sp).toArray 106 (0,0))→Lies w' (some ⟨b,i*2,none⟩) (X.drop (i*2)):=fun w' hw=>by
     have:=(Gn hw (i*2)).take ((a0.length - i)*2)
     rwa [List.drop_append_of_le_length (by omega),List.take_append_of_le_length (by rw [List.length_drop]; omega),List.take_of_length_le (by rw [List.length_drop]; omega)] at this
    refine TZ Z4 rfl [0,1,2,3] rfl ?_
    refine HJ.know (t:=49) rfl (congrArg (Value.int .i64) wim) ?_
    refine HJ.q (i:=4) rfl rfl rfl rfl rfl rfl (Wg Z4 ((i+a2.length:Nat):Int) ((a0.length+a2.length:Nat):Int) ((i+a2.length)*2) (a0.length - i) (cap - (i+a2.length)) rfl rfl rfl rfl hcap ⟨_,rfl⟩ rfl (by omega) (by omega) (by omega) (by omega) (by show 0+((i+a2.length:Nat):Int).toNat*2=(i+a2.length)*2; omega) (by omega) (by omega)) ?_
    refine TZ Z4 rfl [5,6] rfl ?_
    refine HJ.q (i:=7) rfl rfl rfl rfl rfl rfl (Wg Z4 (i:Int) (a0.length:Int) (i*2) (a0.length - i) (c_1 - i) rfl rfl rfl rfl hc ⟨_,rfl⟩ rfl p0 p1 (by omega) (by omega) (by show 0+(i:Int).toNat*2=i*2; omega) (by omega) (by omega)) ?_
    refine HJ.op (i:=8) rfl rfl rfl rfl rfl (V4 Z4 (cs:=X.drop (i*2)) 0 rfl h3 rfl rfl rfl rfl rfl (by show (X.drop (i*2)).length=min (a0.length - i) (a0.length - i)*2; rw [List.length_drop,Nat.min_self]; omega) (by rw [l3,List.length_drop]; omega) (lS _ hh) (fun u hu=>oX u (List.mem_of_mem_drop hu))) ?_
    intro _ w4 h4
    refine ⟨⟨[_,_],h4⟩,?_⟩
    refine HJ.fin [(9,.slice (some ⟨b2,0,none⟩) (a0.length+a2.length) cap)] rfl rfl ?_
    refine T8 (T6 (Sg Z4 2 rfl ?_))
    refine Se [(6,.slice (some ⟨b2,0,none⟩) (a0.length+a2.length) cap)] rfl ?_
    refine T7 ?_
    have q:=Zj5 (X:=X) (Y:=Y) (tail:=tail) (a:=i*2) (by omega) (by omega)
    have e1:(i+a2.length)*2=i*2+Y.length:=by omega
    rw [e1] at h4
    have h5:=h4.closeRow (ty:=(.pair .str .str)) (ys:=a0.take i ++ a2 ++ a0.drop i) (c:=cap) rfl 0 rfl (by rw [lR]; exact hcap) hcap2 (by rw [q.1,List.length_append,lX,nn]; omega) (by rw [eR,lR,nn,← q.2]; congr 1; omega)
    exact ⟨_,_,_,(Xn rfl),⟨_,_,by rw [lR]; rfl,rfl⟩,h5.only [0] rfl⟩
   ·-- in place
    have hroom:a0.length+a2.length≤c_1:=by have:=of_decide_eq_false c; omega
    refine T9 (T8 (T6 (Sg Z4 4 rfl ?_)))
    refine Sf (t:=59) rfl (congrArg (Value.int .i64) w1) ?_
    refine RJ.q rfl rfl (Wg Z4 0 ((a0.length+a2.length:Nat):Int) (0) (a0.length+a2.length) (c_1) rfl rfl rfl rfl hc rfl ⟨_,rfl⟩ (Int.le_refl _) (by omega) (by omega) (by omega) (by show 0+0*2=0; omega) (by omega) (by omega)) ?_
    refine Sg Z4 1 rfl ?_
    refine Se [(0,.slice (some ⟨b,0,none⟩) (a0.length+a2.length) c_1),(1,.int .i64 (i:Int)),(2,.slice A2 a2.length c_2),(7,.int .i64 (a2.length:Int)),(8,.int .i64 (a0.length:Int))] rfl ?_
    refine T8 (T8 (T6 (Sg Z4 4 rfl ?_)))
    refine Sg Z4 1 rfl ?_
    refine Sf (t:=65) rfl (congrArg (Value.int .i64) wim) ?_
    refine RJ.q rfl rfl (Wg Z4 ((i+a2.length:Nat):Int) ((a0.length+a2.length:Nat):Int) ((i+a2.length)*2) (a0.length - i) (c_1 - (i+a2.length)) rfl rfl rfl rfl hroom ⟨_,rfl⟩ rfl (by omega) (by omega) (by omega) (by omega) (by show 0+((i+a2.length:Nat):Int).toNat*2=(i+a2.length)*2; omega) (by omega) (by omega)) ?_
    refine RJ.q rfl rfl (Zgx Z4 (ty:=(.pair .str .str)) (ys:=a2) rfl 0 slices_Insert_api_Pair_api_Pair.ov rfl rfl rfl h1 rfl (Gives.self 0 rfl) rfl rfl (by decide)) ?_
    refine Sg Z4 1 rfl ?_
    refine Se [(0,.slice (some ⟨b,0,none⟩) (a0.length+a2.length) c_1),(1,.int .i64 (i:Int)),(2,.slice A2 a2.length c_2),(7,.int .i64 (a2.length:Int)),(8,.int .i64 (a0.length:Int)),(68,.bool true)] rfl ?_
    refine J.condT rfl ?_
    obtain ⟨G,⟨hG,hh⟩,_⟩:=h1.own (k:=0) (c:=Yr b 106 (X ++ sp)) rfl
    have lS:∀ w',w'.heap[b]?=some (.cells (X ++ sp).toArray 106 (0,0))→Lies w' (some ⟨b,i*2,none⟩) (X.drop (i*2)):=fun w' hw=>by
     have:=(Gn hw (i*2)).take ((a0.length - i)*2)
     rwa [List.drop_append_of_le_length (by omega),List.take_append_of_le_length (by rw [List.length_drop]; omega),List.take_of_length_le (by rw [List.length_drop]; omega)] at this
    refine T8 (J.heldSt mix (h1.only [] rfl) ?_)
    have h2:=h1.drew
    refine TZ Z4 rfl [0,1,2,3] rfl ?_
    refine HJ.know (t:=72) rfl (congrArg (Value.int .i64) wim) ?_
    refine HJ.q (i:=4) rfl rfl rfl rfl rfl rfl (Wg Z4 ((i+a2.length:Nat):Int) ((a0.length+a2.length:Nat):Int) ((i+a2.length)*2) (a0.length - i) (c_1 - (i+a2.length)) rfl rfl rfl rfl hroom ⟨_,rfl⟩ rfl (by omega) (by omega) (by omega) (by omega) (by show 0+((i+a2.length:Nat):Int).toNat*2=(i+a2.length)*2; omega) (by omega) (by omega)) ?_
    refine TZ Z4 rfl [5,6] rfl ?_
    refine HJ.q (i:=7) rfl rfl rfl rfl rfl rfl (Wg Z4 (i:Int) ((a0.length+a2.length:Nat):Int) (i*2) (a0.length+a2.length - i) (c_1 - i) rfl rfl rfl rfl hroom ⟨_,rfl⟩ rfl p0 (by omega) (by omega) (by omega) (by show 0+(i:Int).toNat*2=i*2; omega) (by omega) (by omega)) ?_
    refine HJ.op (i:=8) rfl rfl rfl rfl rfl (V4 Z4 (cs:=X.drop (i*2)) 0 rfl h2 rfl rfl rfl rfl rfl (by show (X.drop (i*2)).length=min (a0.length+a2.length - i) (a0.length - i)*2; rw [List.length_drop,Nat.min_eq_right (by omega)]; omega) (by rw [List.length_append,List.length_drop]; omega) (lS _ hh) (fun u hu=>oX u (List.mem_of_mem_drop hu))) ?_
    intro _ w3 h3
    refine ⟨⟨[_],h3⟩,?_⟩
    refine HJ.fin [(0,.slice (some ⟨b,0,none⟩) (a0.length+a2.length) c_1),(1,.int .i64 (i:Int)),(2,.slice A2 a2.length c_2)] rfl rfl ?_
    obtain ⟨R,hR,_⟩:=h3.gives (c:=rdC 106 (.pair .str .str) a2 (.slice A2 a2.length c_2)) (Gives.self 1 rfl)
    have lY:=(Gg (ty:=(.pair .str .str)) rfl hR).2.1
    rw [← hYe] at lY
    have q:=Zjr (X:=X) (Y:=Y) (sp:=sp) (a:=i*2) (by omega) (by omega)
    have e1:(i+a2.length)*2=i*2+Y.length:=by omega
    rw [e1] at h3
    refine T8 (T6 (Sg Z4 2 rfl ?_))
    refine RJ.q rfl rfl (Wg Z4 (i:Int) ((a0.length+a2.length:Nat):Int) (i*2) (a0.length+a2.length - i) (c_1 - i) rfl rfl rfl rfl hroom ⟨_,rfl⟩ rfl p0 (by omega) (by omega) (by omega) (by show 0+(i:Int).toNat*2=i*2; omega) (by omega) (by omega)) ?_
    refine Sg Z4 1 rfl ?_
    refine RJ.op rfl rfl (V4 Z4 (cs:=Y) 0 rfl h3 rfl rfl rfl rfl rfl (by show Y.length=min a2.length (a0.length+a2.length - i)*2; rw [Nat.min_eq_left (by omega)]; exact hY) (by simp only [Zy,List.length_append,List.length_take,List.length_drop]; omega) lY oY) ?_
    intro _ w4 h4
    refine Se [(0,.slice (some ⟨b,0,none⟩) (a0.length+a2.length) c_1)] rfl ?_
    refine T8 (T6 (Sg Z4 2 rfl ?_))
    refine Se [(6,.slice (some ⟨b,0,none⟩) (a0.length+a2.length) c_1)] rfl ?_
    refine T7 ?_
    have h5:=h4.closeRow (ty:=(.pair .str .str)) (ys:=a0.take i ++ a2 ++ a0.drop i) (c:=c_1) rfl 0 rfl (by rw [lR]; exact hroom) hcm (by rw [q.1,List.length_append,nn]; omega) (by rw [eR,lR,nn,← q.2]; congr 1; omega)
    exact ⟨_,_,_,(Xn rfl),⟨_,_,by rw [lR]; rfl,rfl⟩,h5.only [0] rfl⟩

def Q62.l0:Nat→Tv→TA→Int→Option Tz
 | 0,_,_,_=>none
 | k+1,a1,x1,x2=>if (decide (x2<(a1.length:Int)))=true then (if 0≤x2∧x2<(a1.length:Int) then ((Q96.f k x1 ((gt a1 x2).1)).bind fun r2=>(if r2.2=true then (if (gt a1 x2).2.1=true then ((Q107.f x1 r2.1 (w64 (r2.1+1))).bind fun r3=>(Q62.l0 k a1 r3 (w64 (x2+1)))) else (if 0≤r2.1∧r2.1<(x1.length:Int) then (Q62.l0 k a1 (x1.set r2.1.toNat ((gt x1 r2.1).1,(gt a1 x2).2.2)) (w64 (x2+1))) else none)) else (if (!((gt a1 x2).2.1))=true then ((Q114.f x1 r2.1 ([((gt a1 x2).1,(gt a1 x2).2.2)]:List TF)).bind fun r4=>(Q62.l0 k a1 r4 (w64 (x2+1)))) else (Q62.l0 k a1 x1 (w64 (x2+1)))))) else none) else (some x1)
def Q62.f (k:Nat) (a0:TA) (a1:Tv):Option Tz:=(Q98.f a0).bind fun r1=>(Q62.l0 k a1 r1 0)
theorem Q62.spec {k a0 a1 A1 c_1 A2 c_2 r} (H:Q62.f k a0 a1=some r) :
  Spec Tryz.prog 148 [.slice A1 a0.length c_1,.slice A2 a1.length c_2] [] [Ym a0 A1 c_1,Yi a1 A2 c_2] (fun v l=>∃ A_0 c_0,v=.slice A_0 r.length c_0∧l=[Xt r A_0 c_0]):=by
 refine Zi Tryz.func148 fun w0 F0 h0=>?_
 unfold Q62.f at H
 refine T8 (Zb [0,1] ?_)
 refine T8 (T6 ?_)
 refine Zd 1 ?_
 refine cE H [] h0 rfl Q98.spec (gS [0]) ?_
 rintro r1 w1 _ _ H ⟨A3,c_3,rfl,rfl⟩ h1
 replace h1:=nf h1
 refine Ze [1,5] rfl ?_
 refine T8 (T8 (Zb [5,12,13,14] ?_))
 refine T0 ?_
 have h15:=(sOR h1 [0] [1])
 refine T4 (fun kk env w=>∃ x1 A4 c_4 x2,Q62.l0 kk a1 x1 x2=some r∧env=[(5,.slice A4 x1.length c_4),(12,.slice A2 a1.length c_2),(13,.int .i64 (a1.length:Int)),(14,.int .i64 x2)]∧St w0 F0 [Xt x1 A4 c_4] [Yi a1 A2 c_2] w) (k:=k) ⟨_,_,_,_,H,rfl,h15⟩ ?_
 rintro k1 env w2 ⟨x1,A4,c_4,x2,H,rfl,h2⟩
 rcases k1 with _ | k1
 ·exact z0 H
 rw [Q62.l0] at H
 refine T8 (Zb [5,12,13,14,15] ?_)
 refine T8 (jIf H (fun c1 H=>?_) fun c1 H=>?_)
 ·refine T9 (T8 (T0 (T8 (T6 ?_))))
  obtain ⟨⟨p1,p2⟩,H⟩:=Zk H
  have e1:=Z0 h2.wh (Zj 1) p1 p2
  refine Zc (Zg e1 p1 p2) ?_
  refine Zc (Zh 0 h2.wht (Zj 1) p1 p2) ?_
  refine rB (Yt h2) fun b1 w3 h3=>?_
  refine rS (Zt 0 h3) fun _ w4 h4=>?_
  refine Ze [5,7,12,13,14] rfl ?_
  refine T8 (T6 ?_)
  refine Zd 2 ?_
  refine Zc (Za 0 h4.wht) ?_
  refine cS H [] h4 rfl Q96.spec (Y5 (gO 1) Zp) fun r2 w5 H h5=>?_
  refine Ze [5,7,8,9,12,13,14] rfl ?_
  refine T0 (T8 (T6 ?_))
  refine Zd 2 ?_
  refine Yb 27 H (fun c2 H=>?_) fun c2 H=>?_
  ·refine Zd 1 ?_
   refine Zc (Za 0 h5.wht) ?_
   refine Ze [5,7,8,9,12,13,14,25] rfl ?_
   refine jIf H (fun c3 H=>?_) fun c3 H=>?_
   ·refine T6 (Zd 4 ?_)
    refine cE H [1] h5 rfl Q107.spec Zp ?_
    rintro r3 w6 _ _ H ⟨A5,c_5,rfl,rfl⟩ h6
    replace h6:=nf h6
    refine Ze [5,12,13,14] rfl ?_
    refine Zb [5,12,13,14] ?_
    have h7:=(sOR h6 [0] [0])
    exact ⟨k1,by omega,_,_,_,_,H,rfl,h7⟩
   refine T8 (Zb [5,7,8,12,13,14,36] ?_)
   refine T1 rfl (fun e=>?_) (fun e=>by rw [c2] at e; cases e)
   refine T6 (Zd 3 ?_)
   refine Zc (Za 0 h5.wht) ?_
   obtain ⟨⟨p3,p4⟩,H⟩:=Zk H
   have e2:=Z0 h5.wh (gO 1) p3 p4
   refine Zc (Zg e2 p3 p4) ?_
   refine Zd 1 ?_
   refine rS (Zm 1 (.pair .str .str) r2.1 ((gt x1 r2.1).1,(gt a1 x2).2.2) 1 h5 rfl p3 p4) fun _ w7 h8=>?_
   refine Ze [5,12,13,14] rfl ?_
   refine T2 (env':=[(5,.slice A4 (x1.set r2.1.toNat ((gt x1 r2.1).1,(gt a1 x2).2.2)).length c_4),(12,.slice A2 a1.length c_2),(13,.int .i64 (a1.length:Int)),(14,.int .i64 x2)]) (by simp only [List.length_set,List.length_nil] <;> rfl) ?_
   refine Zb [5,12,13,14] ?_
   have h9:=(sOR h8 [0] [0])
   exact ⟨k1,by omega,_,_,_,_,H,rfl,h9⟩
  refine Ze [5,7,8,9,12,13,14,25] rfl ?_
  refine Z6 ?_
  refine T8 (Zb [5,7,8,12,13,14,36] ?_)
  refine T1 rfl (fun e=>by rw [c2] at e; cases e) (fun e=>?_)
  refine T8 (T6 ?_)
  refine Zd 1 ?_
  refine Zc (Za 0 h5.wht) ?_
  refine Ze [5,7,8,12,13,14,44] rfl ?_
  refine jIf H (fun c4 H=>?_) fun c4 H=>?_
  ·refine T6 (Zd 3 ?_)
   refine Zc (Za 0 h5.wht) ?_
   refine Zd 1 ?_
   refine Zc (Za 0 h5.wht) ?_
   refine Zd 1 ?_
   refine rB (Z1 (.pair .str .str) ([((gt a1 x2).1,(gt a1 x2).2.2)]:List TF) h5) fun b2 w8 h10=>?_
   refine cE H [2] h10 rfl Q114.spec (Y5 (gO 0) Zp) ?_
   rintro r4 w9 _ _ H ⟨A6,c_6,rfl,rfl⟩ h11
   replace h11:=nf h11
   refine Ze [5,12,13,14] rfl ?_
   have h12:=sO h11 [0]
   replace h12:=nf h12
   refine Zb [5,12,13,14] ?_
   have h13:=(sOR h12 [0] [0])
   exact ⟨k1,by omega,_,_,_,_,H,rfl,h13⟩
  refine T9 (Zb [5,12,13,14] ?_)
  have h14:=(sOR h5 [1] [0])
  exact ⟨k1,by omega,_,_,_,_,H,rfl,h14⟩
 refine T3 (T8 (Zb [4] ?_))
 cases H
 exact T7 (jR ⟨_,_,rfl,rfl⟩ h2 [0])

def Q15.f (a0:TB) (a1:TS):Option (Int):=(Q67.f a0.1 a1).bind fun r1=>(some r1)
theorem Q15.spec {a0 a1 r} (H:Q15.f a0 a1=some r) :
  Spec Tryz.prog 219 [.agg #[.string ⟨⟨a0.1⟩⟩,.bool a0.2.1,.string ⟨⟨a0.2.2⟩⟩],.string ⟨⟨a1⟩⟩] [] [] (fun v l=>v=.int .i64 r∧l=[]):=by
 refine Zi Tryz.func219 fun w0 F0 h0=>?_
 unfold Q15.f at H
 refine T8 (T6 ?_)
 refine rB (Z9 h0) fun b1 w1 h1=>?_
 refine Ze [1,2] rfl ?_
 refine T8 (T6 ?_)
 refine Zd 1 ?_
 refine Zc (Za 0 h1.wht) ?_
 refine Zd 1 ?_
 refine cS H [] h1 rfl Q67.spec Zp fun r1 w2 H h2=>?_
 refine Ze [4] rfl ?_
 cases H
 exact T7 (jR0 h2 [])

def Q95.l0:Nat→Tv→TS→Int→Int→Option TV
 | 0,_,_,_,_=>none
 | k+1,a0,a1,x1,x2=>if (decide (x1<x2))=true then (if 0≤(w64 ((Int.fdiv (IntKind.u64.wrap ((w64 (x1+x2)))) (2 ^ 1))))∧(w64 ((Int.fdiv (IntKind.u64.wrap ((w64 (x1+x2)))) (2 ^ 1))))<(a0.length:Int) then ((Q15.f (gt a0 (w64 ((Int.fdiv (IntKind.u64.wrap ((w64 (x1+x2)))) (2 ^ 1))))) a1).bind fun r1=>(if (decide (r1<0))=true then (Q95.l0 k a0 a1 (w64 ((w64 ((Int.fdiv (IntKind.u64.wrap ((w64 (x1+x2)))) (2 ^ 1))))+1)) x2) else (Q95.l0 k a0 a1 x1 (w64 ((Int.fdiv (IntKind.u64.wrap ((w64 (x1+x2)))) (2 ^ 1))))))) else none) else (if (decide (x1<(a0.length:Int)))=true then (if 0≤x1∧x1<(a0.length:Int) then ((Q15.f (gt a0 x1) a1).bind fun r2=>(some (x1,(decide (r2=0))))) else none) else (some (x1,false)))
def Q95.f (k:Nat) (a0:Tv) (a1:TS):Option TV:=Q95.l0 k a0 a1 0 (a0.length:Int)
theorem Q95.spec {k a0 a1 A1 c_1 r} (H:Q95.f k a0 a1=some r) :
  Spec Tryz.prog 218 [.slice A1 a0.length c_1,.string ⟨⟨a1⟩⟩,.func (.func 219) #[] #[]] [] [Yi a0 A1 c_1] (fun v l=>v=.tuple #[.int .i64 r.1,.bool r.2]∧l=[]):=by
 refine Zi Tryz.func218 fun w0 F0 h0=>?_
 unfold Q95.f at H
 refine T8 (Zb [0,1,2] ?_)
 refine T8 (Zb [0,1,2,8] ?_)
 refine T8 (Zb [0,1,2,8,9,10] ?_)
 refine T8 (T0 ?_)
 have h6:=(sOR h0 [] [0])
 refine T4 (fun kk env w=>∃ x1 x2,Q95.l0 kk a0 a1 x1 x2=some r∧env=[(0,.slice A1 a0.length c_1),(1,.string ⟨⟨a1⟩⟩),(2,.func (.func 219) #[] #[]),(8,.int .i64 (a0.length:Int)),(9,.int .i64 x1),(10,.int .i64 x2)]∧St w0 F0 [] [Yi a0 A1 c_1] w) (k:=k) ⟨_,_,H,rfl,h6⟩ ?_
 rintro k1 env w1 ⟨x1,x2,H,rfl,h1⟩
 rcases k1 with _ | k1
 ·exact z0 H
 rw [Q95.l0] at H
 refine T8 (T8 (Zb [0,1,2,8,9,10,17] ?_))
 refine jIf H (fun c1 H=>?_) fun c1 H=>?_
 ·refine T9 (T0 (T8 (Zb [0,1,2,8,9,10,11] ?_)))
  refine T8 (T6 ?_)
  refine Zd 3 ?_
  obtain ⟨⟨p1,p2⟩,H⟩:=Zk H
  have e1:=Z0 h1.wh (Zj 0) p1 p2
  refine Zc (Zg e1 p1 p2) ?_
  refine Zc (Zh 0 h1.wht (Zj 0) p1 p2) ?_
  refine Zd 1 ?_
  refine cS H [] h1 rfl Q15.spec Zp fun r1 w2 H h2=>?_
  refine Ze [0,1,2,8,9,10,11,31] rfl ?_
  refine jIf H (fun c2 H=>?_) fun c2 H=>?_
  ·refine Zb [0,1,2,8,9,10] ?_
   have h3:=(sOR h2 [] [0])
   exact ⟨k1,by omega,_,_,H,rfl,h3⟩
  refine Zb [0,1,2,8,9,10] ?_
  have h4:=(sOR h2 [] [0])
  exact ⟨k1,by omega,_,_,H,rfl,h4⟩
 refine T3 (T8 (T6 ?_))
 refine Zd 5 ?_
 refine Yb 39 H (fun c3 H=>?_) fun c3 H=>?_
 ·refine Zd 3 ?_
  obtain ⟨⟨p3,p4⟩,H⟩:=Zk H
  have e2:=Z0 h1.wh (Zj 0) p3 p4
  refine Zc (Zg e2 p3 p4) ?_
  refine Zc (Zh 0 h1.wht (Zj 0) p3 p4) ?_
  refine Zd 1 ?_
  refine cS H [] h1 rfl Q15.spec Zp fun r2 w3 H h5=>?_
  refine Ze [6,7] rfl ?_
  cases H
  exact T7 (jR0 h5 [])
 refine Ze [6,7] rfl ?_
 cases H
 exact T7 (jR0 h1 [])

def Q16.f (k:Nat) (a0:Tv) (a1:TC):Option TW:=(Q68.f a1).bind fun r1=>(if r1=true then (some (0,0)) else ((Q95.f k a0 a1.1).bind fun r2=>(if (!a1.2.2)=true then ((Q95.f k a0 a1.2.1).bind fun r3=>(some (r2.1,r3.1))) else (some (r2.1,(a0.length:Int))))))
theorem Q16.spec {k a0 a1 A1 c_1 r} (H:Q16.f k a0 a1=some r) :
  Spec Tryz.prog 189 [.slice A1 a0.length c_1,.agg #[.string ⟨⟨a1.1⟩⟩,.string ⟨⟨a1.2.1⟩⟩,.bool a1.2.2]] [] [Yi a0 A1 c_1] (fun v l=>v=.tuple #[.int .i64 r.1,.int .i64 r.2]∧l=[]):=by
 refine Zi Tryz.func189 fun w0 F0 h0=>?_
 unfold Q16.f at H
 refine T8 (T6 ?_)
 refine rB (Z9 h0) fun b1 w1 h1=>?_
 refine Ze [0,3] rfl ?_
 refine T8 (T8 (T6 ?_))
 refine Zc (Za 0 h1.wht) ?_
 refine cS H [] h1 rfl Q68.spec Zp fun r1 w2 H h2=>?_
 refine Ze [0,3,10] rfl ?_
 refine jIf H (fun c1 H=>?_) fun c1 H=>?_
 ·refine T8 (Zb [4,5] ?_)
  cases H
  exact T7 (jR0 h2 [])
 refine T9 (T8 (T6 ?_))
 refine Zd 2 ?_
 refine Zc (Za 0 h2.wht) ?_
 refine cS H [] h2 rfl Q95.spec (gS [1]) fun r2 w3 H h3=>?_
 refine Ze [0,3,6] rfl ?_
 refine T8 (Zb [0,3,6,8] ?_)
 refine T8 (T8 (T6 ?_))
 refine Zd 1 ?_
 refine Zc (Za 0 h3.wht) ?_
 refine Ze [0,3,6,8,22] rfl ?_
 refine jIf H (fun c2 H=>?_) fun c2 H=>?_
 ·refine T6 (Zd 2 ?_)
  refine Zc (Za 0 h3.wht) ?_
  refine cS H [] h3 rfl Q95.spec (gS [1]) fun r3 w4 H h4=>?_
  refine Ze [6,8] rfl ?_
  refine T8 (Zb [4,5] ?_)
  cases H
  exact T7 (jR0 h4 [])
 refine T9 (T8 (Zb [4,5] ?_))
 cases H
 exact T7 (jR0 h3 [])

def Q97.f (a0:Tv):Option Ts:=if (([]:List TB).length+a0.length)*40≤140737488355328 then (some (([]:List TB) ++ a0)) else none
theorem Q97.spec {a0 A1 c_1 r} (H:Q97.f a0=some r) :
  Spec Tryz.prog 190 [.slice A1 a0.length c_1] [] [Yi a0 A1 c_1] (fun v l=>∃ A_0 c_0,v=.slice A_0 r.length c_0∧l=[Wy r A_0 c_0]):=by
 refine Zi Tryz.func190 fun w0 F0 h0=>?_
 unfold Q97.f at H
 refine T8 (Zb [0] ?_)
 refine T8 (T8 (Zb [0,4] ?_))
 refine U2 (fun c1=>?_) (fun c1=>?_)
 ·have e1:=h0.nilrow (Zj 0) (by simpa using c1)
  replace H:(some ([]:List TB))=some r:=by rw [e1] at H; simpa using H
  refine T8 (Zb [2] ?_)
  have h1:=h0.addNil 115 (.pair .str (.pair .bool .str))
  cases H
  exact T7 (jR ⟨_,_,rfl,rfl⟩ h1 [0])
 refine T9 (T8 (T6 ?_))
 refine rB (Z1 (.pair .str (.pair .bool .str)) ([]:List TB) h0) fun b1 w1 h2=>?_
 refine Zd 1 ?_
 obtain ⟨p1,H⟩:=Zk H
 refine Zs (Zr 0 h2 (Zj 0) p1) ?_
 rintro _ w2 ⟨A2,c_2,rfl,h3⟩
 replace h3:=nf h3
 refine Ze [2] rfl ?_
 cases H
 exact T7 (jR ⟨_,_,rfl,rfl⟩ h3 [0])

def Q13.f (k:Nat) (a0:Tv) (a1:TC):Option Ts:=(Q16.f k a0 a1).bind fun r1=>(if 0≤r1.1∧r1.1≤r1.2∧r1.2≤(a0.length:Int) then ((Q97.f ((a0.drop (r1.1).toNat).take ((r1.2).toNat - (r1.1).toNat))).bind fun r2=>(some r2)) else none)
theorem Q13.spec {k a0 a1 A1 c_1 r} (H:Q13.f k a0 a1=some r) :
  Spec Tryz.prog 151 [.slice A1 a0.length c_1,.agg #[.string ⟨⟨a1.1⟩⟩,.string ⟨⟨a1.2.1⟩⟩,.bool a1.2.2]] [] [Yi a0 A1 c_1] (fun v l=>∃ A_0 c_0,v=.slice A_0 r.length c_0∧l=[Wy r A_0 c_0]):=by
 refine Zi Tryz.func151 fun w0 F0 h0=>?_
 unfold Q13.f at H
 refine T8 (T6 ?_)
 refine rB (Z9 h0) fun b1 w1 h1=>?_
 refine Ze [0,3] rfl ?_
 refine T8 (T6 ?_)
 refine Zd 1 ?_
 refine Zc (Za 0 h1.wht) ?_
 refine cS H [] h1 rfl Q16.spec (gS [1]) fun r1 w2 H h2=>?_
 refine Ze [0,5,6] rfl ?_
 refine T8 (T6 ?_)
 refine Zd 3 ?_
 obtain ⟨⟨p1,p2,p3⟩,H⟩:=Zk H
 have e1:=h2.cap (Zj 1)
 refine Zc (Uq ((a0.drop (r1.1).toNat).take ((r1.2).toNat - (r1.1).toNat)) r1.1 r1.2 e1 p1 p2 p3) ?_
 refine cE H [] h2 rfl Q97.spec (Y5 ((Gives.self 1 rfl).trans (U5 (.pair .str (.pair .bool .str)) ((a0.drop (r1.1).toNat).take ((r1.2).toNat - (r1.1).toNat)) r1.1 r1.2 p1 p2 p3)) Zp) ?_
 rintro r2 w3 _ _ H ⟨A2,c_2,rfl,rfl⟩ h3
 replace h3:=nf h3
 refine Ze [4] rfl ?_
 cases H
 exact T7 (jR ⟨_,_,rfl,rfl⟩ h3 [0])

def Q12.l0:Nat→Tv→Tv→Tv→Option Ts
 | 0,_,_,_=>none
 | k+1,x1,x2,x3=>if (decide (0<(x1.length:Int)))=true then (if (decide (0<(x2.length:Int)))=true then (if 0<(x1.length:Int) then (if 0<(x2.length:Int) then ((Q67.f ((gt x1 0).1) ((gt x2 0).1)).bind fun r1=>(if (decide (r1=1))=true then (if (x3.length+([(gt x2 0)]:List TB).length)*40≤140737488355328 then (if (1:Int)≤(x2.length:Int) then (Q12.l0 k x1 (x2.drop 1) (x3 ++ ([(gt x2 0)]:List TB))) else none) else none) else (if (decide (r1=0))=true then (if (1:Int)≤(x2.length:Int) then (if (x3.length+([(gt x1 0)]:List TB).length)*40≤140737488355328 then (if (1:Int)≤(x1.length:Int) then (Q12.l0 k (x1.drop 1) (x2.drop 1) (x3 ++ ([(gt x1 0)]:List TB))) else none) else none) else none) else (if (x3.length+([(gt x1 0)]:List TB).length)*40≤140737488355328 then (if (1:Int)≤(x1.length:Int) then (Q12.l0 k (x1.drop 1) x2 (x3 ++ ([(gt x1 0)]:List TB))) else none) else none)))) else none) else none) else (if (x3.length+x1.length)*40≤140737488355328 then (if ((x3 ++ x1).length+x2.length)*40≤140737488355328 then (some ((x3 ++ x1) ++ x2)) else none) else none)) else (if (x3.length+x1.length)*40≤140737488355328 then (if ((x3 ++ x1).length+x2.length)*40≤140737488355328 then (some ((x3 ++ x1) ++ x2)) else none) else none)
def Q12.f (k:Nat) (a0:Tv) (a1:Tv):Option Ts:=if 0≤(w64 ((a0.length:Int)+(a1.length:Int)))∧(w64 ((a0.length:Int)+(a1.length:Int)))*40≤281474976710656 then (Q12.l0 k a0 a1 ([]:List TB)) else none
theorem Q12.spec {k a0 a1 A1 c_1 A2 c_2 r} (H:Q12.f k a0 a1=some r) :
  Spec Tryz.prog 150 [.slice A1 a0.length c_1,.slice A2 a1.length c_2] [] [Yi a0 A1 c_1,Yi a1 A2 c_2] (fun v l=>∃ A_0 c_0,v=.slice A_0 r.length c_0∧l=[Wy r A_0 c_0]):=by
 refine Zi Tryz.func150 fun w0 F0 h0=>?_
 unfold Q12.f at H
 refine T8 (Zb [0,1] ?_)
 refine T8 (T6 ?_)
 refine Zd 5 ?_
 obtain ⟨⟨p1,p2⟩,H⟩:=Zk H
 refine rB (Zfm (.pair .str (.pair .bool .str)) h0 p1 p2) fun b1 w1 h1=>?_
 refine Ze [0,1,5] rfl ?_
 refine T8 (T0 ?_)
 have h22:=(sOR h1 [0] [0,1])
 refine T4 (fun kk env w=>∃ x1 A3 c_3 x2 A4 c_4 x3 A5 c_5,Q12.l0 kk x1 x2 x3=some r∧env=[(0,.slice A3 x1.length c_3),(1,.slice A4 x2.length c_4),(5,.slice A5 x3.length c_5)]∧St w0 F0 [Wy x3 A5 c_5] [Yi x1 A3 c_3,Yi x2 A4 c_4] w) (k:=k) ⟨_,_,_,_,_,_,_,_,_,H,rfl,h22⟩ ?_
 rintro k1 env w2 ⟨x1,A3,c_3,x2,A4,c_4,x3,A5,c_5,H,rfl,h2⟩
 rcases k1 with _ | k1
 ·exact z0 H
 rw [Q12.l0] at H
 refine T8 (T8 (T6 ?_))
 refine Zd 4 ?_
 refine Yb 15 H (fun c1 H=>?_) fun c1 H=>?_
 ·refine Ze [0,1,5,19] rfl ?_
  refine jIf H (fun c2 H=>?_) fun c2 H=>?_
  ·refine T9 (T0 (T8 (T8 ?_)))
   refine jH h2 fun h3=>?_
   refine Zo [0,4] ?_
   obtain ⟨p3,H⟩:=Zk H
   have e1:=Wl h3.wh (Zj 1) p3
   refine Zf 1 rfl (Xr e1 p3) ?_
   refine Zo [2] ?_
   refine Zf 3 rfl (Y7 0 wI (Zj 1) p3) ?_
   obtain ⟨p4,H⟩:=Zk H
   have e2:=Wl h3.wh (Zj 2) p4
   refine Zf 5 rfl (Xr e2 p4) ?_
   refine Zo [6] ?_
   refine Zf 7 rfl (Y7 0 wI (Zj 2) p4) ?_
   refine cSJ 8 rfl H [] h3 rfl Q67.spec Zp 0 fun r1 w3 H h4=>?_
   refine Zw [0,1,5,28] ?_
   refine T0 (T8 (Zb [0,1,5,28,29] ?_))
   refine jIf H (fun c3 H=>?_) fun c3 H=>?_
   ·refine T8 (T6 ?_)
    refine Zd 2 ?_
    refine Zc (Xr e2 p4) ?_
    refine Zc (Y7 0 h4.wht (Zj 2) p4) ?_
    refine rB (Z1 (.pair .str (.pair .bool .str)) ([(gt x2 0)]:List TB) h4) fun b2 w4 h5=>?_
    obtain ⟨p5,H⟩:=Zk H
    refine Zs (Zr 1 h5 (gO 0) p5) ?_
    rintro _ w5 ⟨A6,c_6,rfl,h6⟩
    replace h6:=nf h6
    refine Ze [0,1,5] rfl ?_
    refine T8 (T6 ?_)
    refine Zd 1 ?_
    obtain ⟨p6,H⟩:=Zk H
    have e3:=h6.cap (Zj 3)
    refine Zc (Jr (x2.drop 1) 1 (x2.length:Int) e3 p6 (Int.le_refl _) (Yn _ _)) ?_
    refine Ze [0,1,5] rfl ?_
    refine T3 ?_
    have h7:=h6.read (k:=1) rfl (fun w F h=>((V8 (ty:=(.pair .str (.pair .bool .str))) (l:=1) (h:=(x2.length:Int)) (sub:=(x2.drop 1)) rfl (by decide) p6 (Int.le_refl _) (Yn _ _)) w F h))
    have h8:=(sOR h7 [0] [1,0])
    exact ⟨k1,by omega,_,_,_,_,_,_,_,_,_,H,rfl,h8⟩
   refine T8 (Zb [0,1,5,39] ?_)
   refine jIf H (fun c4 H=>?_) fun c4 H=>?_
   ·refine T6 (Zd 1 ?_)
    obtain ⟨p7,H⟩:=Zk H
    have e4:=h4.cap (Zj 2)
    refine Zc (Jr (x2.drop 1) 1 (x2.length:Int) e4 p7 (Int.le_refl _) (Yn _ _)) ?_
    refine Ze [0,1,5] rfl ?_
    refine T8 (T6 ?_)
    refine Zd 2 ?_
    refine Zc (Xr e1 p3) ?_
    refine Zc (Y7 0 h4.wht (Zj 1) p3) ?_
    refine rB (Z1 (.pair .str (.pair .bool .str)) ([(gt x1 0)]:List TB) h4) fun b3 w6 h9=>?_
    obtain ⟨p8,H⟩:=Zk H
    refine Zs (Zr 1 h9 (gO 0) p8) ?_
    rintro _ w7 ⟨A7,c_7,rfl,h10⟩
    replace h10:=nf h10
    refine Ze [0,1,5] rfl ?_
    refine T6 (Zd 1 ?_)
    obtain ⟨p9,H⟩:=Zk H
    have e5:=h10.cap (Zj 2)
    refine Zc (Jr (x1.drop 1) 1 (x1.length:Int) e5 p9 (Int.le_refl _) (Yn _ _)) ?_
    refine Ze [0,1,5] rfl ?_
    have h11:=h10.read (k:=0) rfl (fun w F h=>((V8 (ty:=(.pair .str (.pair .bool .str))) (l:=1) (h:=(x1.length:Int)) (sub:=(x1.drop 1)) rfl (by decide) p9 (Int.le_refl _) (Yn _ _)) w F h))
    have h12:=h11.read (k:=2) rfl (fun w F h=>((V8 (ty:=(.pair .str (.pair .bool .str))) (l:=1) (h:=(x2.length:Int)) (sub:=(x2.drop 1)) rfl (by decide) p7 (Int.le_refl _) (Yn _ _)) w F h))
    have h13:=(sOR h12 [0] [1,0])
    exact ⟨k1,by omega,_,_,_,_,_,_,_,_,_,H,rfl,h13⟩
   refine T9 (T8 (T6 ?_))
   refine Zd 2 ?_
   refine Zc (Xr e1 p3) ?_
   refine Zc (Y7 0 h4.wht (Zj 1) p3) ?_
   refine rB (Z1 (.pair .str (.pair .bool .str)) ([(gt x1 0)]:List TB) h4) fun b4 w8 h14=>?_
   obtain ⟨p10,H⟩:=Zk H
   refine Zs (Zr 1 h14 (gO 0) p10) ?_
   rintro _ w9 ⟨A8,c_8,rfl,h15⟩
   replace h15:=nf h15
   refine Ze [0,1,5] rfl ?_
   refine T6 (Zd 1 ?_)
   obtain ⟨p11,H⟩:=Zk H
   have e6:=h15.cap (Zj 2)
   refine Zc (Jr (x1.drop 1) 1 (x1.length:Int) e6 p11 (Int.le_refl _) (Yn _ _)) ?_
   refine Ze [0,1,5] rfl ?_
   have h16:=h15.read (k:=0) rfl (fun w F h=>((V8 (ty:=(.pair .str (.pair .bool .str))) (l:=1) (h:=(x1.length:Int)) (sub:=(x1.drop 1)) rfl (by decide) p11 (Int.le_refl _) (Yn _ _)) w F h))
   have h17:=(sOR h16 [0] [0,2])
   exact ⟨k1,by omega,_,_,_,_,_,_,_,_,_,H,rfl,h17⟩
  refine T3 (T8 (T6 ?_))
  refine Zd 2 ?_
  obtain ⟨p12,H⟩:=Zk H
  refine Zs (Zr 0 h2 (Zj 0) p12) ?_
  rintro _ w10 ⟨A9,c_9,rfl,h18⟩
  replace h18:=nf h18
  refine Ze [1,5] rfl ?_
  refine T8 (T6 ?_)
  refine Zd 2 ?_
  obtain ⟨p13,H⟩:=Zk H
  refine Zs (Zr 0 h18 (Zj 1) p13) ?_
  rintro _ w11 ⟨A10,c_10,rfl,h19⟩
  replace h19:=nf h19
  refine Ze [4] rfl ?_
  cases H
  exact T7 (jR ⟨_,_,rfl,rfl⟩ h19 [0])
 refine Ze [0,1,5,19] rfl ?_
 refine Z6 ?_
 refine T3 (T8 (T6 ?_))
 refine Zd 2 ?_
 obtain ⟨p14,H⟩:=Zk H
 refine Zs (Zr 0 h2 (Zj 0) p14) ?_
 rintro _ w12 ⟨A11,c_11,rfl,h20⟩
 replace h20:=nf h20
 refine Ze [1,5] rfl ?_
 refine T8 (T6 ?_)
 refine Zd 2 ?_
 obtain ⟨p15,H⟩:=Zk H
 refine Zs (Zr 0 h20 (Zj 1) p15) ?_
 rintro _ w13 ⟨A12,c_12,rfl,h21⟩
 replace h21:=nf h21
 refine Ze [4] rfl ?_
 cases H
 exact T7 (jR ⟨_,_,rfl,rfl⟩ h21 [0])

def Q70.f (a0:TC) (a1:TC):Option Tt:=if a0.2.2=true then (if (!a1.2.2)=true then ((Q68.f ((if (!Op.bytesLess a0.1 a1.1)=true then a0.1 else a1.1),a1.2.1,a1.2.2)).bind fun r1=>(if r1=true then (some ((([]:List UInt8),([]:List UInt8),false),false)) else (some (((if (!Op.bytesLess a0.1 a1.1)=true then a0.1 else a1.1),a1.2.1,a1.2.2),true)))) else (if a1.2.2=true then (if (!a0.2.2)=true then ((Q68.f ((if (!Op.bytesLess a0.1 a1.1)=true then a0.1 else a1.1),a0.2.1,a1.2.2)).bind fun r2=>(if r2=true then (some ((([]:List UInt8),([]:List UInt8),false),false)) else (some (((if (!Op.bytesLess a0.1 a1.1)=true then a0.1 else a1.1),a0.2.1,a1.2.2),true)))) else ((Q68.f ((if (!Op.bytesLess a0.1 a1.1)=true then a0.1 else a1.1),([]:List UInt8),a1.2.2)).bind fun r3=>(if r3=true then (some ((([]:List UInt8),([]:List UInt8),false),false)) else (some (((if (!Op.bytesLess a0.1 a1.1)=true then a0.1 else a1.1),([]:List UInt8),a1.2.2),true))))) else (if (!a0.2.2)=true then ((Q68.f ((if (!Op.bytesLess a0.1 a1.1)=true then a0.1 else a1.1),(if (Op.bytesLess a0.2.1 a1.2.1 || decide (a0.2.1=a1.2.1))=true then a0.2.1 else a1.2.1),a1.2.2)).bind fun r4=>(if r4=true then (some ((([]:List UInt8),([]:List UInt8),false),false)) else (some (((if (!Op.bytesLess a0.1 a1.1)=true then a0.1 else a1.1),(if (Op.bytesLess a0.2.1 a1.2.1 || decide (a0.2.1=a1.2.1))=true then a0.2.1 else a1.2.1),a1.2.2),true)))) else ((Q68.f ((if (!Op.bytesLess a0.1 a1.1)=true then a0.1 else a1.1),([]:List UInt8),a1.2.2)).bind fun r5=>(if r5=true then (some ((([]:List UInt8),([]:List UInt8),false),false)) else (some (((if (!Op.bytesLess a0.1 a1.1)=true then a0.1 else a1.1),([]:List UInt8),a1.2.2),true))))))) else (if a1.2.2=true then (if (!a0.2.2)=true then ((Q68.f ((if (!Op.bytesLess a0.1 a1.1)=true then a0.1 else a1.1),a0.2.1,false)).bind fun r6=>(if r6=true then (some ((([]:List UInt8),([]:List UInt8),false),false)) else (some (((if (!Op.bytesLess a0.1 a1.1)=true then a0.1 else a1.1),a0.2.1,false),true)))) else ((Q68.f ((if (!Op.bytesLess a0.1 a1.1)=true then a0.1 else a1.1),([]:List UInt8),false)).bind fun r7=>(if r7=true then (some ((([]:List UInt8),([]:List UInt8),false),false)) else (some (((if (!Op.bytesLess a0.1 a1.1)=true then a0.1 else a1.1),([]:List UInt8),false),true))))) else (if (!a0.2.2)=true then ((Q68.f ((if (!Op.bytesLess a0.1 a1.1)=true then a0.1 else a1.1),(if (Op.bytesLess a0.2.1 a1.2.1 || decide (a0.2.1=a1.2.1))=true then a0.2.1 else a1.2.1),false)).bind fun r8=>(if r8=true then (some ((([]:List UInt8),([]:List UInt8),false),false)) else (some (((if (!Op.bytesLess a0.1 a1.1)=true then a0.1 else a1.1),(if (Op.bytesLess a0.2.1 a1.2.1 || decide (a0.2.1=a1.2.1))=true then a0.2.1 else a1.2.1),false),true)))) else ((Q68.f ((if (!Op.bytesLess a0.1 a1.1)=true then a0.1 else a1.1),([]:List UInt8),false)).bind fun r9=>(if r9=true then (some ((([]:List UInt8),([]:List UInt8),false),false)) else (some (((if (!Op.bytesLess a0.1 a1.1)=true then a0.1 else a1.1),([]:List UInt8),false),true))))))
theorem Q70.spec {a0 a1 r} (H:Q70.f a0 a1=some r) :
  Spec Tryz.prog 191 [.agg #[.string ⟨⟨a0.1⟩⟩,.string ⟨⟨a0.2.1⟩⟩,.bool a0.2.2],.agg #[.string ⟨⟨a1.1⟩⟩,.string ⟨⟨a1.2.1⟩⟩,.bool a1.2.2]] [] [] (fun v l=>v=.tuple #[.agg #[.string ⟨⟨r.1.1⟩⟩,.string ⟨⟨r.1.2.1⟩⟩,.bool r.1.2.2],.bool r.2]∧l=[]):=by
 refine Zi Tryz.func191 fun w0 F0 h0=>?_
 unfold Q70.f at H
 refine T8 (T6 ?_)
 refine rB (Z9 h0) fun b1 w1 h1=>?_
 refine rB (Z9 h1) fun b2 w2 h2=>?_
 refine rB (Yt h2) fun b3 w3 h3=>?_
 refine Ze [2,3,4] rfl ?_
 refine T8 (T6 ?_)
 refine Zd 1 ?_
 refine Zc (Za 2 h3.wht) ?_
 refine Zd 1 ?_
 refine Zc (Za 1 h3.wht) ?_
 refine Zd 2 ?_
 refine Zc (Za 2 h3.wht) ?_
 refine Zd 1 ?_
 refine Yb 14 H (fun c1 H=>?_) fun c1 H=>?_
 ·refine Zd 1 ?_
  refine Zc (Za 1 h3.wht) ?_
  refine Zd 2 ?_
  refine rB (Yt h3) fun b4 w4 h4=>?_
  refine rS (Zt 0 h4) fun _ w5 h5=>?_
  refine Ze [2,3,4,6] rfl ?_
  refine T8 (T0 (T8 (T6 ?_)))
  refine Zd 1 ?_
  refine Zc (Za 3 h5.wht) ?_
  refine Zd 1 ?_
  refine Yh 22 (congrArg Value.bool c1) ?_
  refine Zd 1 ?_
  refine Zc (Za 2 h5.wht) ?_
  refine Ze [2,3,4,6,19] rfl ?_
  refine jIf H (fun c2 H=>?_) fun c2 H=>?_
  ·refine T6 (Zd 1 ?_)
   refine Zc (Za 2 h5.wht) ?_
   refine Zd 1 ?_
   refine rS (Zt 0 h5) fun _ w6 h6=>?_
   refine Ze [4,6] rfl ?_
   have h7:=sO h6 [0,0]
   replace h7:=nf h7
   refine T8 (T8 (T6 ?_))
   refine Zc (Za 0 h7.wht) ?_
   refine cS H [] h7 rfl Q68.spec Zp fun r1 w7 H h8=>?_
   refine Ze [4,6,52] rfl ?_
   refine jIf H (fun c3 H=>?_) fun c3 H=>?_
   ·refine T8 (T6 ?_)
    refine Zd 1 ?_
    refine rS (Zt 1 h8) fun _ w8 h9=>?_
    refine Ze [4,5] rfl ?_
    cases H
    exact T7 (jR2 (Z8 (Sh Z4 0 h9 rfl rfl rfl rfl) (Z8 (Si rfl) Y1)) ⟨rfl,rfl⟩ h9 [])
   refine T9 (T8 (T6 ?_))
   refine Zc (Za 0 h8.wht) ?_
   refine rS (Zt 1 h8) fun _ w9 h10=>?_
   refine Ze [4,5] rfl ?_
   cases H
   exact T7 (jR2 (Z8 (Sh Z4 0 h10 rfl rfl rfl rfl) (Z8 (Si rfl) Y1)) ⟨rfl,rfl⟩ h10 [])
  refine T8 (T6 ?_)
  refine Zd 1 ?_
  refine Zc (Za 2 h5.wht) ?_
  refine Zd 1 ?_
  refine Yb 33 H (fun c4 H=>?_) fun c4 H=>?_
  ·refine Zd 1 ?_
   refine Zc (Za 3 h5.wht) ?_
   refine Ze [2,3,4,6,30] rfl ?_
   refine jIf H (fun c5 H=>?_) fun c5 H=>?_
   ·refine T6 (Zd 1 ?_)
    refine Zc (Za 3 h5.wht) ?_
    refine Zd 1 ?_
    refine rS (Zt 0 h5) fun _ w10 h11=>?_
    refine Ze [4,6] rfl ?_
    have h12:=sO h11 [0,0]
    replace h12:=nf h12
    refine T8 (T8 (T6 ?_))
    refine Zc (Za 0 h12.wht) ?_
    refine cS H [] h12 rfl Q68.spec Zp fun r2 w11 H h13=>?_
    refine Ze [4,6,52] rfl ?_
    refine jIf H (fun c6 H=>?_) fun c6 H=>?_
    ·refine T8 (T6 ?_)
     refine Zd 1 ?_
     refine rS (Zt 1 h13) fun _ w12 h14=>?_
     refine Ze [4,5] rfl ?_
     cases H
     exact T7 (jR2 (Z8 (Sh Z4 0 h14 rfl rfl rfl rfl) (Z8 (Si rfl) Y1)) ⟨rfl,rfl⟩ h14 [])
    refine T9 (T8 (T6 ?_))
    refine Zc (Za 0 h13.wht) ?_
    refine rS (Zt 1 h13) fun _ w13 h15=>?_
    refine Ze [4,5] rfl ?_
    cases H
    exact T7 (jR2 (Z8 (Sh Z4 0 h15 rfl rfl rfl rfl) (Z8 (Si rfl) Y1)) ⟨rfl,rfl⟩ h15 [])
   refine T8 (T6 ?_)
   refine Zd 1 ?_
   refine Zc (Za 3 h5.wht) ?_
   refine Ze [2,3,4,6,41] rfl ?_
   refine T1 rfl (fun e=>by rw [c5] at e; cases e) (fun e=>?_)
   refine T9 (T8 (T8 (T6 ?_)))
   refine Zc (Za 0 h5.wht) ?_
   refine cS H [] h5 rfl Q68.spec Zp fun r3 w14 H h16=>?_
   refine Ze [4,6,52] rfl ?_
   have h17:=sO h16 [0,0]
   replace h17:=nf h17
   refine jIf H (fun c7 H=>?_) fun c7 H=>?_
   ·refine T8 (T6 ?_)
    refine Zd 1 ?_
    refine rS (Zt 1 h17) fun _ w15 h18=>?_
    refine Ze [4,5] rfl ?_
    cases H
    exact T7 (jR2 (Z8 (Sh Z4 0 h18 rfl rfl rfl rfl) (Z8 (Si rfl) Y1)) ⟨rfl,rfl⟩ h18 [])
   refine T9 (T8 (T6 ?_))
   refine Zc (Za 0 h17.wht) ?_
   refine rS (Zt 1 h17) fun _ w16 h19=>?_
   refine Ze [4,5] rfl ?_
   cases H
   exact T7 (jR2 (Z8 (Sh Z4 0 h19 rfl rfl rfl rfl) (Z8 (Si rfl) Y1)) ⟨rfl,rfl⟩ h19 [])
  refine Ze [2,3,4,6,30] rfl ?_
  refine Z6 ?_
  refine T8 (T6 ?_)
  refine Zd 1 ?_
  refine Zc (Za 3 h5.wht) ?_
  refine Ze [2,3,4,6,41] rfl ?_
  refine jIf H (fun c8 H=>?_) fun c8 H=>?_
  ·refine T6 (Zd 1 ?_)
   refine Zc (Za 3 h5.wht) ?_
   refine Zd 1 ?_
   refine Zc (Za 2 h5.wht) ?_
   refine Zd 2 ?_
   refine rS (Zt 0 h5) fun _ w17 h20=>?_
   refine Ze [4,6] rfl ?_
   have h21:=sO h20 [0,0]
   replace h21:=nf h21
   refine T8 (T8 (T6 ?_))
   refine Zc (Za 0 h21.wht) ?_
   refine cS H [] h21 rfl Q68.spec Zp fun r4 w18 H h22=>?_
   refine Ze [4,6,52] rfl ?_
   refine jIf H (fun c9 H=>?_) fun c9 H=>?_
   ·refine T8 (T6 ?_)
    refine Zd 1 ?_
    refine rS (Zt 1 h22) fun _ w19 h23=>?_
    refine Ze [4,5] rfl ?_
    cases H
    exact T7 (jR2 (Z8 (Sh Z4 0 h23 rfl rfl rfl rfl) (Z8 (Si rfl) Y1)) ⟨rfl,rfl⟩ h23 [])
   refine T9 (T8 (T6 ?_))
   refine Zc (Za 0 h22.wht) ?_
   refine rS (Zt 1 h22) fun _ w20 h24=>?_
   refine Ze [4,5] rfl ?_
   cases H
   exact T7 (jR2 (Z8 (Sh Z4 0 h24 rfl rfl rfl rfl) (Z8 (Si rfl) Y1)) ⟨rfl,rfl⟩ h24 [])
  refine T9 (T8 (T8 (T6 ?_)))
  refine Zc (Za 0 h5.wht) ?_
  refine cS H [] h5 rfl Q68.spec Zp fun r5 w21 H h25=>?_
  refine Ze [4,6,52] rfl ?_
  have h26:=sO h25 [0,0]
  replace h26:=nf h26
  refine jIf H (fun c10 H=>?_) fun c10 H=>?_
  ·refine T8 (T6 ?_)
   refine Zd 1 ?_
   refine rS (Zt 1 h26) fun _ w22 h27=>?_
   refine Ze [4,5] rfl ?_
   cases H
   exact T7 (jR2 (Z8 (Sh Z4 0 h27 rfl rfl rfl rfl) (Z8 (Si rfl) Y1)) ⟨rfl,rfl⟩ h27 [])
  refine T9 (T8 (T6 ?_))
  refine Zc (Za 0 h26.wht) ?_
  refine rS (Zt 1 h26) fun _ w23 h28=>?_
  refine Ze [4,5] rfl ?_
  cases H
  exact T7 (jR2 (Z8 (Sh Z4 0 h28 rfl rfl rfl rfl) (Z8 (Si rfl) Y1)) ⟨rfl,rfl⟩ h28 [])
 refine Zd 4 ?_
 refine rB (Yt h3) fun b5 w24 h29=>?_
 refine rS (Zt 0 h29) fun _ w25 h30=>?_
 refine Ze [2,3,4,6] rfl ?_
 refine T8 (T0 (T8 (T6 ?_)))
 refine Zd 1 ?_
 refine Zc (Za 3 h30.wht) ?_
 refine Zd 1 ?_
 refine Yh 22 (congrArg Value.bool c1) ?_
 refine Ze [2,3,4,6,19] rfl ?_
 refine Z6 ?_
 refine T8 (T6 ?_)
 refine Zd 1 ?_
 refine Zc (Za 2 h30.wht) ?_
 refine Zd 1 ?_
 refine Yb 33 H (fun c11 H=>?_) fun c11 H=>?_
 ·refine Zd 1 ?_
  refine Zc (Za 3 h30.wht) ?_
  refine Ze [2,3,4,6,30] rfl ?_
  refine jIf H (fun c12 H=>?_) fun c12 H=>?_
  ·refine T6 (Zd 1 ?_)
   refine Zc (Za 3 h30.wht) ?_
   refine Zd 1 ?_
   refine rS (Zt 0 h30) fun _ w26 h31=>?_
   refine Ze [4,6] rfl ?_
   have h32:=sO h31 [0,0]
   replace h32:=nf h32
   refine T8 (T8 (T6 ?_))
   refine Zc (Za 0 h32.wht) ?_
   refine cS H [] h32 rfl Q68.spec Zp fun r6 w27 H h33=>?_
   refine Ze [4,6,52] rfl ?_
   refine jIf H (fun c13 H=>?_) fun c13 H=>?_
   ·refine T8 (T6 ?_)
    refine Zd 1 ?_
    refine rS (Zt 1 h33) fun _ w28 h34=>?_
    refine Ze [4,5] rfl ?_
    cases H
    exact T7 (jR2 (Z8 (Sh Z4 0 h34 rfl rfl rfl rfl) (Z8 (Si rfl) Y1)) ⟨rfl,rfl⟩ h34 [])
   refine T9 (T8 (T6 ?_))
   refine Zc (Za 0 h33.wht) ?_
   refine rS (Zt 1 h33) fun _ w29 h35=>?_
   refine Ze [4,5] rfl ?_
   cases H
   exact T7 (jR2 (Z8 (Sh Z4 0 h35 rfl rfl rfl rfl) (Z8 (Si rfl) Y1)) ⟨rfl,rfl⟩ h35 [])
  refine T8 (T6 ?_)
  refine Zd 1 ?_
  refine Zc (Za 3 h30.wht) ?_
  refine Ze [2,3,4,6,41] rfl ?_
  refine T1 rfl (fun e=>by rw [c12] at e; cases e) (fun e=>?_)
  refine T9 (T8 (T8 (T6 ?_)))
  refine Zc (Za 0 h30.wht) ?_
  refine cS H [] h30 rfl Q68.spec Zp fun r7 w30 H h36=>?_
  refine Ze [4,6,52] rfl ?_
  have h37:=sO h36 [0,0]
  replace h37:=nf h37
  refine jIf H (fun c14 H=>?_) fun c14 H=>?_
  ·refine T8 (T6 ?_)
   refine Zd 1 ?_
   refine rS (Zt 1 h37) fun _ w31 h38=>?_
   refine Ze [4,5] rfl ?_
   cases H
   exact T7 (jR2 (Z8 (Sh Z4 0 h38 rfl rfl rfl rfl) (Z8 (Si rfl) Y1)) ⟨rfl,rfl⟩ h38 [])
  refine T9 (T8 (T6 ?_))
  refine Zc (Za 0 h37.wht) ?_
  refine rS (Zt 1 h37) fun _ w32 h39=>?_
  refine Ze [4,5] rfl ?_
  cases H
  exact T7 (jR2 (Z8 (Sh Z4 0 h39 rfl rfl rfl rfl) (Z8 (Si rfl) Y1)) ⟨rfl,rfl⟩ h39 [])
 refine Ze [2,3,4,6,30] rfl ?_
 refine Z6 ?_
 refine T8 (T6 ?_)
 refine Zd 1 ?_
 refine Zc (Za 3 h30.wht) ?_
 refine Ze [2,3,4,6,41] rfl ?_
 refine jIf H (fun c15 H=>?_) fun c15 H=>?_
 ·refine T6 (Zd 1 ?_)
  refine Zc (Za 3 h30.wht) ?_
  refine Zd 1 ?_
  refine Zc (Za 2 h30.wht) ?_
  refine Zd 2 ?_
  refine rS (Zt 0 h30) fun _ w33 h40=>?_
  refine Ze [4,6] rfl ?_
  have h41:=sO h40 [0,0]
  replace h41:=nf h41
  refine T8 (T8 (T6 ?_))
  refine Zc (Za 0 h41.wht) ?_
  refine cS H [] h41 rfl Q68.spec Zp fun r8 w34 H h42=>?_
  refine Ze [4,6,52] rfl ?_
  refine jIf H (fun c16 H=>?_) fun c16 H=>?_
  ·refine T8 (T6 ?_)
   refine Zd 1 ?_
   refine rS (Zt 1 h42) fun _ w35 h43=>?_
   refine Ze [4,5] rfl ?_
   cases H
   exact T7 (jR2 (Z8 (Sh Z4 0 h43 rfl rfl rfl rfl) (Z8 (Si rfl) Y1)) ⟨rfl,rfl⟩ h43 [])
  refine T9 (T8 (T6 ?_))
  refine Zc (Za 0 h42.wht) ?_
  refine rS (Zt 1 h42) fun _ w36 h44=>?_
  refine Ze [4,5] rfl ?_
  cases H
  exact T7 (jR2 (Z8 (Sh Z4 0 h44 rfl rfl rfl rfl) (Z8 (Si rfl) Y1)) ⟨rfl,rfl⟩ h44 [])
 refine T9 (T8 (T8 (T6 ?_)))
 refine Zc (Za 0 h30.wht) ?_
 refine cS H [] h30 rfl Q68.spec Zp fun r9 w37 H h45=>?_
 refine Ze [4,6,52] rfl ?_
 have h46:=sO h45 [0,0]
 replace h46:=nf h46
 refine jIf H (fun c17 H=>?_) fun c17 H=>?_
 ·refine T8 (T6 ?_)
  refine Zd 1 ?_
  refine rS (Zt 1 h46) fun _ w38 h47=>?_
  refine Ze [4,5] rfl ?_
  cases H
  exact T7 (jR2 (Z8 (Sh Z4 0 h47 rfl rfl rfl rfl) (Z8 (Si rfl) Y1)) ⟨rfl,rfl⟩ h47 [])
 refine T9 (T8 (T6 ?_))
 refine Zc (Za 0 h46.wht) ?_
 refine rS (Zt 1 h46) fun _ w39 h48=>?_
 refine Ze [4,5] rfl ?_
 cases H
 exact T7 (jR2 (Z8 (Sh Z4 0 h48 rfl rfl rfl rfl) (Z8 (Si rfl) Y1)) ⟨rfl,rfl⟩ h48 [])

def Q61.f (a0:TM) (a1:Int) (a2:TC):Option Tt:=if (decide (a1<0))=true then (some ((([]:List UInt8),([]:List UInt8),false),false)) else (if (decide ((a0.length:Int)<a1))=true then (some ((([]:List UInt8),([]:List UInt8),false),false)) else (if (decide (0<a1))=true then (if 0≤(w64 (a1 - 1))∧(w64 (a1 - 1))<(a0.length:Int) then (if (!(decide (a1=(a0.length:Int))))=true then (if 0≤a1∧a1<(a0.length:Int) then ((Q70.f ((gt a0 (w64 (a1 - 1))),(gt a0 a1),(decide (a1=(a0.length:Int)))) a2).bind fun r1=>(some r1)) else none) else ((Q70.f ((gt a0 (w64 (a1 - 1))),([]:List UInt8),(decide (a1=(a0.length:Int)))) a2).bind fun r2=>(some r2))) else none) else (if (!(decide (a1=(a0.length:Int))))=true then (if 0≤a1∧a1<(a0.length:Int) then ((Q70.f (([]:List UInt8),(gt a0 a1),(decide (a1=(a0.length:Int)))) a2).bind fun r3=>(some r3)) else none) else ((Q70.f (([]:List UInt8),([]:List UInt8),(decide (a1=(a0.length:Int)))) a2).bind fun r4=>(some r4)))))
theorem Q61.spec {a0 a1 a2 A1 c_1 r} (H:Q61.f a0 a1 a2=some r) :
  Spec Tryz.prog 152 [.slice A1 a0.length c_1,.int .i64 a1,.agg #[.string ⟨⟨a2.1⟩⟩,.string ⟨⟨a2.2.1⟩⟩,.bool a2.2.2]] [] [R9 a0 A1 c_1] (fun v l=>v=.tuple #[.agg #[.string ⟨⟨r.1.1⟩⟩,.string ⟨⟨r.1.2.1⟩⟩,.bool r.1.2.2],.bool r.2]∧l=[]):=by
 refine Zi Tryz.func152 fun w0 F0 h0=>?_
 unfold Q61.f at H
 refine T8 (T6 ?_)
 refine rB (Z9 h0) fun b1 w1 h1=>?_
 refine rB (Yt h1) fun b2 w2 h2=>?_
 refine Ze [0,1,5,6] rfl ?_
 refine T8 (T8 (T6 ?_))
 refine Zd 3 ?_
 refine Yb 11 H (fun c1 H=>?_) fun c1 H=>?_
 ·refine Ze [0,1,5,6,16] rfl ?_
  refine Zn ?_
  refine T8 (T6 ?_)
  refine Zd 1 ?_
  refine rS (Zt 0 h2) fun _ w3 h3=>?_
  refine Ze [6,7] rfl ?_
  cases H
  exact T7 (jR2 (Z8 (Sh Z4 0 h3 rfl rfl rfl rfl) (Z8 (Si rfl) Y1)) ⟨rfl,rfl⟩ h3 [])
 refine Ze [0,1,5,6,16] rfl ?_
 refine jIf H (fun c2 H=>?_) fun c2 H=>?_
 ·refine T8 (T6 ?_)
  refine Zd 1 ?_
  refine rS (Zt 0 h2) fun _ w4 h4=>?_
  refine Ze [6,7] rfl ?_
  cases H
  exact T7 (jR2 (Z8 (Sh Z4 0 h4 rfl rfl rfl rfl) (Z8 (Si rfl) Y1)) ⟨rfl,rfl⟩ h4 [])
 refine T9 (T8 (T6 ?_))
 refine Zd 5 ?_
 refine rB (Yt h2) fun b3 w5 h5=>?_
 refine rS (Zt 0 h5) fun _ w6 h6=>?_
 refine Ze [0,1,5,6,8] rfl ?_
 refine T8 (T8 (Zb [0,1,5,6,8,24] ?_))
 refine jIf H (fun c3 H=>?_) fun c3 H=>?_
 ·refine T6 (Zd 3 ?_)
  obtain ⟨⟨p1,p2⟩,H⟩:=Zk H
  have e1:=Z0 h6.wh (Zj 3) p1 p2
  refine Zc (Zg e1 p1 p2) ?_
  refine Zc (Zh 0 h6.wht (Zj 3) p1 p2) ?_
  refine Zd 1 ?_
  refine rS (Zt 0 h6) fun _ w7 h7=>?_
  refine Ze [0,1,5,6,8] rfl ?_
  refine T8 (T8 (T6 ?_))
  refine Zd 1 ?_
  refine Zc (Za 0 h7.wht) ?_
  refine Ze [0,1,5,6,8,33] rfl ?_
  refine jIf H (fun c4 H=>?_) fun c4 H=>?_
  ·refine T6 (Zd 2 ?_)
   obtain ⟨⟨p3,p4⟩,H⟩:=Zk H
   refine Zc (Zg e1 p3 p4) ?_
   refine Zc (Zh 0 h7.wht (Zj 3) p3 p4) ?_
   refine Zd 1 ?_
   refine rS (Zt 0 h7) fun _ w8 h8=>?_
   refine Ze [5,6,8] rfl ?_
   refine T8 (T6 ?_)
   refine Zc (Za 0 h8.wht) ?_
   refine Zc (Za 2 h8.wht) ?_
   refine cS H [] h8 rfl Q70.spec Zp fun r1 w9 H h9=>?_
   refine Zd 2 ?_
   refine rS (Zt 1 h9) fun _ w10 h10=>?_
   refine Ze [6,7] rfl ?_
   have h11:=sO h10 [0]
   replace h11:=nf h11
   cases H
   exact T7 (jR2 (Z8 (Sh Z4 0 h11 rfl rfl rfl rfl) (Z8 (Si rfl) Y1)) ⟨rfl,rfl⟩ h11 [])
  refine T9 (T8 (T6 ?_))
  refine Zc (Za 0 h7.wht) ?_
  refine Zc (Za 2 h7.wht) ?_
  refine cS H [] h7 rfl Q70.spec Zp fun r2 w11 H h12=>?_
  refine Zd 2 ?_
  refine rS (Zt 1 h12) fun _ w12 h13=>?_
  refine Ze [6,7] rfl ?_
  have h14:=sO h13 [0]
  replace h14:=nf h14
  cases H
  exact T7 (jR2 (Z8 (Sh Z4 0 h14 rfl rfl rfl rfl) (Z8 (Si rfl) Y1)) ⟨rfl,rfl⟩ h14 [])
 refine T9 (T8 (T8 (T6 ?_)))
 refine Zd 1 ?_
 refine Zc (Za 0 h6.wht) ?_
 refine Ze [0,1,5,6,8,33] rfl ?_
 refine jIf H (fun c5 H=>?_) fun c5 H=>?_
 ·refine T6 (Zd 2 ?_)
  obtain ⟨⟨p5,p6⟩,H⟩:=Zk H
  have e2:=Z0 h6.wh (Zj 3) p5 p6
  refine Zc (Zg e2 p5 p6) ?_
  refine Zc (Zh 0 h6.wht (Zj 3) p5 p6) ?_
  refine Zd 1 ?_
  refine rS (Zt 0 h6) fun _ w13 h15=>?_
  refine Ze [5,6,8] rfl ?_
  refine T8 (T6 ?_)
  refine Zc (Za 0 h15.wht) ?_
  refine Zc (Za 2 h15.wht) ?_
  refine cS H [] h15 rfl Q70.spec Zp fun r3 w14 H h16=>?_
  refine Zd 2 ?_
  refine rS (Zt 1 h16) fun _ w15 h17=>?_
  refine Ze [6,7] rfl ?_
  have h18:=sO h17 [0]
  replace h18:=nf h18
  cases H
  exact T7 (jR2 (Z8 (Sh Z4 0 h18 rfl rfl rfl rfl) (Z8 (Si rfl) Y1)) ⟨rfl,rfl⟩ h18 [])
 refine T9 (T8 (T6 ?_))
 refine Zc (Za 0 h6.wht) ?_
 refine Zc (Za 2 h6.wht) ?_
 refine cS H [] h6 rfl Q70.spec Zp fun r4 w16 H h19=>?_
 refine Zd 2 ?_
 refine rS (Zt 1 h19) fun _ w17 h20=>?_
 refine Ze [6,7] rfl ?_
 have h21:=sO h20 [0]
 replace h21:=nf h21
 cases H
 exact T7 (jR2 (Z8 (Sh Z4 0 h21 rfl rfl rfl rfl) (Z8 (Si rfl) Y1)) ⟨rfl,rfl⟩ h21 [])

def Q87.f (a0:Td):Option (Bool):=some (decide (a0.2.1≤(a0.2.2.length:Int)))
theorem Q87.spec {a0 b1 b2 b3 b4 b5 b6 b7 b8 A1 c_1 A2 c_2 A3 c_3 A4 c_4 A5 c_5 A6 c_6 r} (H:Q87.f a0=some r) :
  Spec Tryz.prog 153 [.pointer (some ⟨b1,0,none⟩)] (Zec a0 b1 b2 b3 b4 b5 b6 b7 b8 A1 A2 A3 A4 A5 A6 c_1 c_2 c_3 c_4 c_5 c_6) [] (fun v l=>v=.bool r∧l=Zec a0 b1 b2 b3 b4 b5 b6 b7 b8 A1 A2 A3 A4 A5 A6 c_1 c_2 c_3 c_4 c_5 c_6):=by
 refine Zi Tryz.func153 fun w0 F0 h0=>?_
 replace h0:=nf h0
 unfold Q87.f at H
 refine T8 (Zb [0] ?_)
 refine T8 (jH h0 fun h1=>?_)
 refine Zo [0,1,2,5,6,7] ?_
 refine Zf 3 rfl (Za 0 wI) ?_
 refine Zo [4] ?_
 refine Zf 8 rfl (Za 0 wI) ?_
 refine Zo [9,10] ?_
 refine Zw [2] ?_
 cases H
 exact T7 (jR0 h1 [0,0,0,0,0,0,0,0,0,0,0,0,0,0])

mutual
def Q88.l0:Nat→TC→Tb→Ts→Tq→TE→TD→TH→Tx→TO→TX→Int→Int→TA→Int→Option Tc
 | 0,_,_,_,_,_,_,_,_,_,_,_,_,_,_=>none
 | k+1,a3,r1,r5,x1,x2,x3,x4,x5,x6,x7,x8,x9,x10,x11=>if (decide (x11<(r1.1.2.1.length:Int)))=true then (if 0≤x11∧x11<(r1.1.2.1.length:Int) then ((Q61.f r1.1.2.2.1 x11 a3).bind fun r6=>(if (!r6.2)=true then (Q88.l0 k a3 r1 r5 x1 x2 x3 x4 x5 x6 x7 x8 x9 x10 (w64 (x11+1))) else ((Q87.f ((x1,(x2,x5,x6,x7,x3),x4,x8),x9,x10)).bind fun r7=>(if r7=true then (some (0,((x1,(x2,x5,x6,x7,x3),x4,x8),x9,x10))) else ((Q13.f k r5 r6.1).bind fun r8=>((Q88.f k ((x1,(x2,x5,x6,x7,x3),x4,x8),x9,x10) (gt r1.1.2.1 x11) (w64 (r1.1.1 - 1)) r6.1 r8).bind fun r9=>(if (!decide (r9.1=0))=true then (some r9) else (Q88.l0 k a3 r1 r5 r9.2.1.1 r9.2.1.2.1.1 r9.2.1.2.1.2.2.2.2 r9.2.1.2.2.1 r9.2.1.2.1.2.1 r9.2.1.2.1.2.2.1 r9.2.1.2.1.2.2.2.1 r9.2.1.2.2.2 r9.2.2.1 r9.2.2.2 (w64 (x11+1)))))))))) else none) else (some (0,((x1,(x2,x5,x6,x7,x3),x4,x8),x9,x10)))
def Q88.l1:Nat→TC→Tb→Ts→Tq→TE→TD→TH→Tx→TO→TX→Int→Int→TA→Int→Option Tc
 | 0,_,_,_,_,_,_,_,_,_,_,_,_,_,_=>none
 | k+1,a3,r1,r13,x12,x13,x14,x15,x16,x17,x18,x19,x20,x21,x22=>if (decide (x22<(r1.1.2.1.length:Int)))=true then (if 0≤x22∧x22<(r1.1.2.1.length:Int) then ((Q61.f r1.1.2.2.1 x22 a3).bind fun r14=>(if (!r14.2)=true then (Q88.l1 k a3 r1 r13 x12 x13 x14 x15 x16 x17 x18 x19 x20 x21 (w64 (x22+1))) else ((Q87.f ((x12,(x13,x16,x17,x18,x14),x15,x19),x20,x21)).bind fun r15=>(if r15=true then (some (0,((x12,(x13,x16,x17,x18,x14),x15,x19),x20,x21))) else ((Q13.f k r13 r14.1).bind fun r16=>((Q88.f k ((x12,(x13,x16,x17,x18,x14),x15,x19),x20,x21) (gt r1.1.2.1 x22) (w64 (r1.1.1 - 1)) r14.1 r16).bind fun r17=>(if (!decide (r17.1=0))=true then (some r17) else (Q88.l1 k a3 r1 r13 r17.2.1.1 r17.2.1.2.1.1 r17.2.1.2.1.2.2.2.2 r17.2.1.2.2.1 r17.2.1.2.1.2.1 r17.2.1.2.1.2.2.1 r17.2.1.2.1.2.2.2.1 r17.2.1.2.2.2 r17.2.2.1 r17.2.2.2 (w64 (x22+1)))))))))) else none) else (some (0,((x12,(x13,x16,x17,x18,x14),x15,x19),x20,x21)))
def Q88.f:Nat→Td→Int→Int→TC→Tv→Option Tc
 | 0,_,_,_,_,_=>none
 | k+1,a0,a1,a2,a3,a4=>(Q90.f k a0.1 a1).bind fun r1=>(if (!decide (r1.2.1=0))=true then (some (r1.2.1,(r1.2.2,a0.2.1,a0.2.2))) else (if (decide (0≤a2))=true then (if (!decide (r1.1.1=a2))=true then (some (12,(r1.2.2,a0.2.1,a0.2.2))) else (if (decide (r1.1.1=0))=true then ((Q63.f k r1.1.2.2.2.2 a3 (r1.1.2.2.2.2.length:Int)).bind fun r2=>((Q62.f k r2 a4).bind fun r3=>(if (0:Int)≤(if (w64 (a0.2.1 - (a0.2.2.length:Int)))<(r3.length:Int) then (w64 (a0.2.1 - (a0.2.2.length:Int))) else (r3.length:Int))∧(if (w64 (a0.2.1 - (a0.2.2.length:Int)))<(r3.length:Int) then (w64 (a0.2.1 - (a0.2.2.length:Int))) else (r3.length:Int))≤(r3.length:Int) then (if (a0.2.2.length+(r3.take ((if (w64 (a0.2.1 - (a0.2.2.length:Int)))<(r3.length:Int) then (w64 (a0.2.1 - (a0.2.2.length:Int))) else (r3.length:Int))).toNat).length)*32≤140737488355328 then (some (0,(r1.2.2,a0.2.1,(a0.2.2 ++ (r3.take ((if (w64 (a0.2.1 - (a0.2.2.length:Int)))<(r3.length:Int) then (w64 (a0.2.1 - (a0.2.2.length:Int))) else (r3.length:Int))).toNat))))) else none) else none))) else ((Q13.f k r1.1.2.2.2.1 a3).bind fun r4=>((Q12.f k a4 r4).bind fun r5=>(Q88.l0 k a3 r1 r5 r1.2.2.1 r1.2.2.2.1.1 r1.2.2.2.1.2.2.2.2 r1.2.2.2.2.1 r1.2.2.2.1.2.1 r1.2.2.2.1.2.2.1 r1.2.2.2.1.2.2.2.1 r1.2.2.2.2.2 a0.2.1 a0.2.2 0))))) else (if (decide (r1.1.1=0))=true then ((Q63.f k r1.1.2.2.2.2 a3 (r1.1.2.2.2.2.length:Int)).bind fun r10=>((Q62.f k r10 a4).bind fun r11=>(if (0:Int)≤(if (w64 (a0.2.1 - (a0.2.2.length:Int)))<(r11.length:Int) then (w64 (a0.2.1 - (a0.2.2.length:Int))) else (r11.length:Int))∧(if (w64 (a0.2.1 - (a0.2.2.length:Int)))<(r11.length:Int) then (w64 (a0.2.1 - (a0.2.2.length:Int))) else (r11.length:Int))≤(r11.length:Int) then (if (a0.2.2.length+(r11.take ((if (w64 (a0.2.1 - (a0.2.2.length:Int)))<(r11.length:Int) then (w64 (a0.2.1 - (a0.2.2.length:Int))) else (r11.length:Int))).toNat).length)*32≤140737488355328 then (some (0,(r1.2.2,a0.2.1,(a0.2.2 ++ (r11.take ((if (w64 (a0.2.1 - (a0.2.2.length:Int)))<(r11.length:Int) then (w64 (a0.2.1 - (a0.2.2.length:Int))) else (r11.length:Int))).toNat))))) else none) else none))) else ((Q13.f k r1.1.2.2.2.1 a3).bind fun r12=>((Q12.f k a4 r12).bind fun r13=>(Q88.l1 k a3 r1 r13 r1.2.2.1 r1.2.2.2.1.1 r1.2.2.2.1.2.2.2.2 r1.2.2.2.2.1 r1.2.2.2.1.2.1 r1.2.2.2.1.2.2.1 r1.2.2.2.1.2.2.2.1 r1.2.2.2.2.2 a0.2.1 a0.2.2 0))))))
end
theorem Q88.spec:∀ {k a0 a1 a2 a3 a4 A7 c_7 b1 b2 b3 b4 b5 b6 b7 b8 A1 c_1 A2 c_2 A3 c_3 A4 c_4 A5 c_5 A6 c_6 r},Q88.f k a0 a1 a2 a3 a4=some r→
  Spec Tryz.prog 99 [.pointer (some ⟨b1,0,none⟩),.int .u32 a1,.int .i64 a2,.agg #[.string ⟨⟨a3.1⟩⟩,.string ⟨⟨a3.2.1⟩⟩,.bool a3.2.2],.slice A7 a4.length c_7] (Zec a0 b1 b2 b3 b4 b5 b6 b7 b8 A1 A2 A3 A4 A5 A6 c_1 c_2 c_3 c_4 c_5 c_6) [Yi a4 A7 c_7] (fun v l=>∃ A_0 c_0 A_1 c_1 A_2 c_2 A_3 c_3 A_4 c_4 A_5 c_5,v=.int .i64 r.1∧l=Zec r.2 b1 b2 b3 b4 b5 b6 b7 b8 A_0 A_1 A_2 A_3 A_4 A_5 c_0 c_1 c_2 c_3 c_4 c_5):=by
 intro k
 induction k using Nat.strongRecOn with
 | _ k ih=>
 intro a0 a1 a2 a3 a4 A7 c_7 b1 b2 b3 b4 b5 b6 b7 b8 A1 c_1 A2 c_2 A3 c_3 A4 c_4 A5 c_5 A6 c_6 r H
 cases k with
 | zero=>rw [Q88.f] at H; cases H
 | succ kr=>
 refine Zi Tryz.func99 fun w0 F0 h0=>?_
 replace h0:=nf h0
 rw [Q88.f] at H
 refine T8 (T6 ?_)
 refine rB (Z9 h0) fun b9 w1 h1=>?_
 refine Ze [0,1,2,4,8] rfl ?_
 refine T8 (T6 ?_)
 refine Zd 3 ?_
 refine Zc (Za 1 h1.wht) ?_
 refine Zd 1 ?_
 refine cE H [2,2,2,2,2,2,2,2,2,2,2,2] h1 rfl Q90.spec Zp ?_
 rintro r1 w2 _ _ H ⟨A8,c_8,A9,c_9,A10,c_10,A11,c_11,A12,c_12,A13,c_13,A14,c_14,A15,c_15,A16,c_16,rfl,rfl⟩ h2
 replace h2:=nf h2
 refine Zd 3 ?_
 refine rB (Yt h2) fun b10 w3 h3=>?_
 refine rS (Zt 0 h3) fun _ w4 h4=>?_
 refine Ze [0,2,4,8,11,12] rfl ?_
 refine T8 (T0 (T8 (Zb [0,2,4,8,11,12,28] ?_)))
 refine jIf H (fun c1 H=>?_) fun c1 H=>?_
 ·refine T8 (Zb [10] ?_)
  have h5:=sO h4 [5,5,5,5,5,5,5,5,5,5,5,5,6,6]
  replace h5:=nf h5
  cases H
  exact T7 (jR ⟨_,_,_,_,_,_,_,_,_,_,_,_,rfl,rfl⟩ h5 [12,0,0,0,0,0,0,0,0,0,0,0,0,0])
 refine T8 (T6 ?_)
 refine Zd 3 ?_
 refine Yb 35 H (fun c2 H=>?_) fun c2 H=>?_
 ·refine Zd 1 ?_
  refine Zc (Za 0 h4.wht) ?_
  refine Ze [0,4,8,11,32] rfl ?_
  refine jIf H (fun c3 H=>?_) fun c3 H=>?_
  ·refine T8 (Zb [10] ?_)
   have h6:=sO h4 [5,5,5,5,5,5,5,5,5,5,5,5,6,6]
   replace h6:=nf h6
   cases H
   exact T7 (jR ⟨_,_,_,_,_,_,_,_,_,_,_,_,rfl,rfl⟩ h6 [12,0,0,0,0,0,0,0,0,0,0,0,0,0])
  refine T9 (T8 (T8 (T6 ?_)))
  refine Zd 1 ?_
  refine Zc (Za 0 h4.wht) ?_
  refine Ze [0,4,8,11,43] rfl ?_
  refine jIf H (fun c4 H=>?_) fun c4 H=>?_
  ·refine T8 (T6 ?_)
   refine Zd 1 ?_
   refine Zc (Za 0 h4.wht) ?_
   refine Zc (Za 17 h4.wht) ?_
   refine Zd 1 ?_
   refine Zc (Za 0 h4.wht) ?_
   refine Zd 1 ?_
   refine cE H [] h4 rfl Q63.spec (Y5 (gO 4) Zp) ?_
   rintro r2 w5 _ _ H ⟨A17,c_17,rfl,rfl⟩ h7
   replace h7:=nf h7
   refine Zd 1 ?_
   refine cE H [] h7 rfl Q62.spec (Y5 (gO 0) (gS [21])) ?_
   rintro r3 w6 _ _ H ⟨A18,c_18,rfl,rfl⟩ h8
   replace h8:=nf h8
   refine Ze [0,13] rfl ?_
   have h9:=sO h8 [0,6,6,6,6,6,6,6,6,6,6,6,6,7,7]
   replace h9:=nf h9
   refine T8 ?_
   obtain ⟨⟨p1,p2⟩,H⟩:=Zk H
   obtain ⟨p3,H⟩:=Zk H
   refine T5 (fun env w=>∃(A19:Option Addr) (c_19:Nat),env=[]∧St w0 F0 [Zfo b1 (.pointer (some ⟨b2,0,none⟩)) a0.2.1 (a0.2.2 ++ (r3.take ((if (w64 (a0.2.1 - (a0.2.2.length:Int)))<(r3.length:Int) then (w64 (a0.2.1 - (a0.2.2.length:Int))) else (r3.length:Int))).toNat)) A19 c_19,Xt (a0.2.2 ++ (r3.take ((if (w64 (a0.2.1 - (a0.2.2.length:Int)))<(r3.length:Int) then (w64 (a0.2.1 - (a0.2.2.length:Int))) else (r3.length:Int))).toNat)) A19 c_19,Xt r3 A18 c_18,X83 b2 r1.2.2.1.1 r1.2.2.1.2.1 r1.2.2.1.2.2.1 r1.2.2.1.2.2.2.1 r1.2.2.1.2.2.2.2.1 r1.2.2.1.2.2.2.2.2.1 r1.2.2.1.2.2.2.2.2.2.1 r1.2.2.1.2.2.2.2.2.2.2 (.pointer (some ⟨b4,0,none⟩)) (.pointer (some ⟨b3,0,none⟩)) (.pointer (some ⟨b7,0,none⟩)) r1.2.2.2.2.2,Xp b3 (.pointer (some ⟨b4,0,none⟩)) r1.2.2.2.1.2.1 A13 c_13 (.map (some b5)) r1.2.2.2.1.2.2.2.1 A14 c_14 (.pointer (some ⟨b6,0,none⟩)),Xi b4 r1.2.2.2.1.1.1 r1.2.2.2.1.1.2.1 A12 c_12 r1.2.2.2.1.1.2.2.1 r1.2.2.2.1.1.2.2.2,O5 r1.2.2.2.1.1.2.1 A12 c_12,Xq r1.2.2.2.1.2.1 A13 c_13,Xa .u32 (Value.int .i64) b5 r1.2.2.2.1.2.2.1,O3 r1.2.2.2.1.2.2.2.1 A14 c_14,Y0 b6 r1.2.2.2.1.2.2.2.2.1 A15 c_15 r1.2.2.2.1.2.2.2.2.2,Y2 r1.2.2.2.1.2.2.2.2.1 A15 c_15,Vl b7 (.pointer (some ⟨b8,0,none⟩)),Xy b8 r1.2.2.2.2.1.1 r1.2.2.2.2.1.2.1 r1.2.2.2.2.1.2.2 A16 c_16,O61 r1.2.2.2.2.1.2.2 A16 c_16] [Yi a4 A7 c_7] w) ?_ ?_
   ·refine Zz (sO h9 [1,1,1,3,4,5,5]) ?_
    have h12:=h9.drew
    refine Zo [0,1,2,3,5,6,7,8,9,10,12,13,14] ?_
    refine TY [4,11,15] (i:=4) rfl rfl rfl rfl ?_
    refine (Z5 ?_ (Z5 ?_ (Z5 ?_ Y4)))
    ·refine Yf 4 rfl (Sb (Za 13 h12.wht)) ?_
     rintro _ _ ⟨rfl,rfl⟩
     replace h12:=nf h12
     refine ⟨⟨[_,_,_,_,_,_,_,_],(sO h12 [0,3,3,4,5,7,7,7,0,0,0,0,0,0,0])⟩,?_⟩
     refine TY [11,15] (i:=11) rfl rfl rfl rfl ?_
     refine (Z5 ?_ (Z5 ?_ Y4))
     ·refine Yf 11 rfl (Sb (Za 13 h12.wht)) ?_
      rintro _ _ ⟨rfl,rfl⟩
      replace h12:=nf h12
      refine ⟨⟨[_,_,_,_,_,_,_,_],(sO h12 [0,3,3,4,5,7,7,7,0,0,0,0,0,0,0])⟩,?_⟩
      refine Zx 15 rfl (Sb (Za 13 h12.wht)) ?_
      rintro _ _ ⟨rfl,rfl⟩
      replace h12:=nf h12
      refine ⟨⟨[_,_,_,_,_,_,_,_],(sO h12 [0,3,3,4,5,7,7,7,0,0,0,0,0,0,0])⟩,?_⟩
      refine Zo [16,17,18] ?_
      have e2:=h12.cap (gO 0)
      refine Zf 19 rfl (Yy (r3.take ((if (w64 (a0.2.1 - (a0.2.2.length:Int)))<(r3.length:Int) then (w64 (a0.2.1 - (a0.2.2.length:Int))) else (r3.length:Int))).toNat) (if (w64 (a0.2.1 - (a0.2.2.length:Int)))<(r3.length:Int) then (w64 (a0.2.1 - (a0.2.2.length:Int))) else (r3.length:Int)) e2 p1 p2) ?_
      refine Zx 20 rfl (Zr 14 h12 ((Gives.of 0 rfl Yc).trans (Y3 (.pair .str .str) (r3.take ((if (w64 (a0.2.1 - (a0.2.2.length:Int)))<(r3.length:Int) then (w64 (a0.2.1 - (a0.2.2.length:Int))) else (r3.length:Int))).toNat) (if (w64 (a0.2.1 - (a0.2.2.length:Int)))<(r3.length:Int) then (w64 (a0.2.1 - (a0.2.2.length:Int))) else (r3.length:Int)) p1 p2)) p3) ?_
      rintro _ w15 ⟨A20,c_20,rfl,h13⟩
      replace h13:=nf h13
      refine ⟨⟨[_,_,_,_,_,_,_,_],(sO h13 [0,0,3,3,4,5,7,7,0,0,0,0,0,0,0])⟩,?_⟩
      refine Zo [21,22] ?_
      refine Zx 23 rfl (Zt 14 h13) ?_
      intro _ w16 h14
      replace h14:=nf h14
      refine ⟨⟨[_,_,_,_,_,_,_,_],(sO h14 [0,0,0,3,3,4,5,7,0,0,0,0,0,0,0])⟩,?_⟩
      refine Zw [] ?_
      exact Zu ⟨A20,c_20,rfl,(sOR h14 [0,0,0,0,0,0,0,0,0,0,0,0,0,0,0] [0])⟩
     ·refine Yf 15 rfl (Sb (Za 13 h12.wht)) ?_
      rintro _ _ ⟨rfl,rfl⟩
      replace h12:=nf h12
      refine ⟨⟨[_,_,_,_,_,_,_,_],(sO h12 [0,3,3,4,5,7,7,7,0,0,0,0,0,0,0])⟩,?_⟩
      refine Zo [16] ?_
      refine Zx 11 rfl (Sb (Za 13 h12.wht)) ?_
      rintro _ _ ⟨rfl,rfl⟩
      replace h12:=nf h12
      refine ⟨⟨[_,_,_,_,_,_,_,_],(sO h12 [0,3,3,4,5,7,7,7,0,0,0,0,0,0,0])⟩,?_⟩
      refine Zo [17,18] ?_
      have e3:=h12.cap (gO 0)
      refine Zf 19 rfl (Yy (r3.take ((if (w64 (a0.2.1 - (a0.2.2.length:Int)))<(r3.length:Int) then (w64 (a0.2.1 - (a0.2.2.length:Int))) else (r3.length:Int))).toNat) (if (w64 (a0.2.1 - (a0.2.2.length:Int)))<(r3.length:Int) then (w64 (a0.2.1 - (a0.2.2.length:Int))) else (r3.length:Int)) e3 p1 p2) ?_
      refine Zx 20 rfl (Zr 14 h12 ((Gives.of 0 rfl Yc).trans (Y3 (.pair .str .str) (r3.take ((if (w64 (a0.2.1 - (a0.2.2.length:Int)))<(r3.length:Int) then (w64 (a0.2.1 - (a0.2.2.length:Int))) else (r3.length:Int))).toNat) (if (w64 (a0.2.1 - (a0.2.2.length:Int)))<(r3.length:Int) then (w64 (a0.2.1 - (a0.2.2.length:Int))) else (r3.length:Int)) p1 p2)) p3) ?_
      rintro _ w19 ⟨A21,c_21,rfl,h15⟩
      replace h15:=nf h15
      refine ⟨⟨[_,_,_,_,_,_,_,_],(sO h15 [0,0,3,3,4,5,7,7,0,0,0,0,0,0,0])⟩,?_⟩
      refine Zo [21,22] ?_
      refine Zx 23 rfl (Zt 14 h15) ?_
      intro _ w20 h16
      replace h16:=nf h16
      refine ⟨⟨[_,_,_,_,_,_,_,_],(sO h16 [0,0,0,3,3,4,5,7,0,0,0,0,0,0,0])⟩,?_⟩
      refine Zw [] ?_
      exact Zu ⟨A21,c_21,rfl,(sOR h16 [0,0,0,0,0,0,0,0,0,0,0,0,0,0,0] [0])⟩
    ·refine Yf 11 rfl (Sb (Za 13 h12.wht)) ?_
     rintro _ _ ⟨rfl,rfl⟩
     replace h12:=nf h12
     refine ⟨⟨[_,_,_,_,_,_,_,_],(sO h12 [0,3,3,4,5,7,7,7,0,0,0,0,0,0,0])⟩,?_⟩
     refine TY [4,15] (i:=4) rfl rfl rfl rfl ?_
     refine (Z5 ?_ (Z5 ?_ Y4))
     ·refine Yf 4 rfl (Sb (Za 13 h12.wht)) ?_
      rintro _ _ ⟨rfl,rfl⟩
      replace h12:=nf h12
      refine ⟨⟨[_,_,_,_,_,_,_,_],(sO h12 [0,3,3,4,5,7,7,7,0,0,0,0,0,0,0])⟩,?_⟩
      refine Zx 15 rfl (Sb (Za 13 h12.wht)) ?_
      rintro _ _ ⟨rfl,rfl⟩
      replace h12:=nf h12
      refine ⟨⟨[_,_,_,_,_,_,_,_],(sO h12 [0,3,3,4,5,7,7,7,0,0,0,0,0,0,0])⟩,?_⟩
      refine Zo [16,17,18] ?_
      have e4:=h12.cap (gO 0)
      refine Zf 19 rfl (Yy (r3.take ((if (w64 (a0.2.1 - (a0.2.2.length:Int)))<(r3.length:Int) then (w64 (a0.2.1 - (a0.2.2.length:Int))) else (r3.length:Int))).toNat) (if (w64 (a0.2.1 - (a0.2.2.length:Int)))<(r3.length:Int) then (w64 (a0.2.1 - (a0.2.2.length:Int))) else (r3.length:Int)) e4 p1 p2) ?_
      refine Zx 20 rfl (Zr 14 h12 ((Gives.of 0 rfl Yc).trans (Y3 (.pair .str .str) (r3.take ((if (w64 (a0.2.1 - (a0.2.2.length:Int)))<(r3.length:Int) then (w64 (a0.2.1 - (a0.2.2.length:Int))) else (r3.length:Int))).toNat) (if (w64 (a0.2.1 - (a0.2.2.length:Int)))<(r3.length:Int) then (w64 (a0.2.1 - (a0.2.2.length:Int))) else (r3.length:Int)) p1 p2)) p3) ?_
      rintro _ w24 ⟨A22,c_22,rfl,h17⟩
      replace h17:=nf h17
      refine ⟨⟨[_,_,_,_,_,_,_,_],(sO h17 [0,0,3,3,4,5,7,7,0,0,0,0,0,0,0])⟩,?_⟩
      refine Zo [21,22] ?_
      refine Zx 23 rfl (Zt 14 h17) ?_
      intro _ w25 h18
      replace h18:=nf h18
      refine ⟨⟨[_,_,_,_,_,_,_,_],(sO h18 [0,0,0,3,3,4,5,7,0,0,0,0,0,0,0])⟩,?_⟩
      refine Zw [] ?_
      exact Zu ⟨A22,c_22,rfl,(sOR h18 [0,0,0,0,0,0,0,0,0,0,0,0,0,0,0] [0])⟩
     ·refine Yf 15 rfl (Sb (Za 13 h12.wht)) ?_
      rintro _ _ ⟨rfl,rfl⟩
      replace h12:=nf h12
      refine ⟨⟨[_,_,_,_,_,_,_,_],(sO h12 [0,3,3,4,5,7,7,7,0,0,0,0,0,0,0])⟩,?_⟩
      refine Zo [16,17,18] ?_
      have e5:=h12.cap (gO 0)
      refine Zf 19 rfl (Yy (r3.take ((if (w64 (a0.2.1 - (a0.2.2.length:Int)))<(r3.length:Int) then (w64 (a0.2.1 - (a0.2.2.length:Int))) else (r3.length:Int))).toNat) (if (w64 (a0.2.1 - (a0.2.2.length:Int)))<(r3.length:Int) then (w64 (a0.2.1 - (a0.2.2.length:Int))) else (r3.length:Int)) e5 p1 p2) ?_
      refine Zx 4 rfl (Sb (Za 13 h12.wht)) ?_
      rintro _ _ ⟨rfl,rfl⟩
      replace h12:=nf h12
      refine ⟨⟨[_,_,_,_,_,_,_,_],(sO h12 [0,3,3,4,5,7,7,7,0,0,0,0,0,0,0])⟩,?_⟩
      refine Zx 20 rfl (Zr 14 h12 ((Gives.of 0 rfl Yc).trans (Y3 (.pair .str .str) (r3.take ((if (w64 (a0.2.1 - (a0.2.2.length:Int)))<(r3.length:Int) then (w64 (a0.2.1 - (a0.2.2.length:Int))) else (r3.length:Int))).toNat) (if (w64 (a0.2.1 - (a0.2.2.length:Int)))<(r3.length:Int) then (w64 (a0.2.1 - (a0.2.2.length:Int))) else (r3.length:Int)) p1 p2)) p3) ?_
      rintro _ w28 ⟨A23,c_23,rfl,h19⟩
      replace h19:=nf h19
      refine ⟨⟨[_,_,_,_,_,_,_,_],(sO h19 [0,0,3,3,4,5,7,7,0,0,0,0,0,0,0])⟩,?_⟩
      refine Zo [21,22] ?_
      refine Zx 23 rfl (Zt 14 h19) ?_
      intro _ w29 h20
      replace h20:=nf h20
      refine ⟨⟨[_,_,_,_,_,_,_,_],(sO h20 [0,0,0,3,3,4,5,7,0,0,0,0,0,0,0])⟩,?_⟩
      refine Zw [] ?_
      exact Zu ⟨A23,c_23,rfl,(sOR h20 [0,0,0,0,0,0,0,0,0,0,0,0,0,0,0] [0])⟩
    ·refine Yf 15 rfl (Sb (Za 13 h12.wht)) ?_
     rintro _ _ ⟨rfl,rfl⟩
     replace h12:=nf h12
     refine ⟨⟨[_,_,_,_,_,_,_,_],(sO h12 [0,3,3,4,5,7,7,7,0,0,0,0,0,0,0])⟩,?_⟩
     refine Zo [16] ?_
     refine TY [4,11] (i:=4) rfl rfl rfl rfl ?_
     refine (Z5 ?_ (Z5 ?_ Y4))
     ·refine Yf 4 rfl (Sb (Za 13 h12.wht)) ?_
      rintro _ _ ⟨rfl,rfl⟩
      replace h12:=nf h12
      refine ⟨⟨[_,_,_,_,_,_,_,_],(sO h12 [0,3,3,4,5,7,7,7,0,0,0,0,0,0,0])⟩,?_⟩
      refine Zx 11 rfl (Sb (Za 13 h12.wht)) ?_
      rintro _ _ ⟨rfl,rfl⟩
      replace h12:=nf h12
      refine ⟨⟨[_,_,_,_,_,_,_,_],(sO h12 [0,3,3,4,5,7,7,7,0,0,0,0,0,0,0])⟩,?_⟩
      refine Zo [17,18] ?_
      have e6:=h12.cap (gO 0)
      refine Zf 19 rfl (Yy (r3.take ((if (w64 (a0.2.1 - (a0.2.2.length:Int)))<(r3.length:Int) then (w64 (a0.2.1 - (a0.2.2.length:Int))) else (r3.length:Int))).toNat) (if (w64 (a0.2.1 - (a0.2.2.length:Int)))<(r3.length:Int) then (w64 (a0.2.1 - (a0.2.2.length:Int))) else (r3.length:Int)) e6 p1 p2) ?_
      refine Zx 20 rfl (Zr 14 h12 ((Gives.of 0 rfl Yc).trans (Y3 (.pair .str .str) (r3.take ((if (w64 (a0.2.1 - (a0.2.2.length:Int)))<(r3.length:Int) then (w64 (a0.2.1 - (a0.2.2.length:Int))) else (r3.length:Int))).toNat) (if (w64 (a0.2.1 - (a0.2.2.length:Int)))<(r3.length:Int) then (w64 (a0.2.1 - (a0.2.2.length:Int))) else (r3.length:Int)) p1 p2)) p3) ?_
      rintro _ w33 ⟨A24,c_24,rfl,h21⟩
      replace h21:=nf h21
      refine ⟨⟨[_,_,_,_,_,_,_,_],(sO h21 [0,0,3,3,4,5,7,7,0,0,0,0,0,0,0])⟩,?_⟩
      refine Zo [21,22] ?_
      refine Zx 23 rfl (Zt 14 h21) ?_
      intro _ w34 h22
      replace h22:=nf h22
      refine ⟨⟨[_,_,_,_,_,_,_,_],(sO h22 [0,0,0,3,3,4,5,7,0,0,0,0,0,0,0])⟩,?_⟩
      refine Zw [] ?_
      exact Zu ⟨A24,c_24,rfl,(sOR h22 [0,0,0,0,0,0,0,0,0,0,0,0,0,0,0] [0])⟩
     ·refine Yf 11 rfl (Sb (Za 13 h12.wht)) ?_
      rintro _ _ ⟨rfl,rfl⟩
      replace h12:=nf h12
      refine ⟨⟨[_,_,_,_,_,_,_,_],(sO h12 [0,3,3,4,5,7,7,7,0,0,0,0,0,0,0])⟩,?_⟩
      refine Zo [17,18] ?_
      have e7:=h12.cap (gO 0)
      refine Zf 19 rfl (Yy (r3.take ((if (w64 (a0.2.1 - (a0.2.2.length:Int)))<(r3.length:Int) then (w64 (a0.2.1 - (a0.2.2.length:Int))) else (r3.length:Int))).toNat) (if (w64 (a0.2.1 - (a0.2.2.length:Int)))<(r3.length:Int) then (w64 (a0.2.1 - (a0.2.2.length:Int))) else (r3.length:Int)) e7 p1 p2) ?_
      refine Zx 4 rfl (Sb (Za 13 h12.wht)) ?_
      rintro _ _ ⟨rfl,rfl⟩
      replace h12:=nf h12
      refine ⟨⟨[_,_,_,_,_,_,_,_],(sO h12 [0,3,3,4,5,7,7,7,0,0,0,0,0,0,0])⟩,?_⟩
      refine Zx 20 rfl (Zr 14 h12 ((Gives.of 0 rfl Yc).trans (Y3 (.pair .str .str) (r3.take ((if (w64 (a0.2.1 - (a0.2.2.length:Int)))<(r3.length:Int) then (w64 (a0.2.1 - (a0.2.2.length:Int))) else (r3.length:Int))).toNat) (if (w64 (a0.2.1 - (a0.2.2.length:Int)))<(r3.length:Int) then (w64 (a0.2.1 - (a0.2.2.length:Int))) else (r3.length:Int)) p1 p2)) p3) ?_
      rintro _ w37 ⟨A25,c_25,rfl,h23⟩
      replace h23:=nf h23
      refine ⟨⟨[_,_,_,_,_,_,_,_],(sO h23 [0,0,3,3,4,5,7,7,0,0,0,0,0,0,0])⟩,?_⟩
      refine Zo [21,22] ?_
      refine Zx 23 rfl (Zt 14 h23) ?_
      intro _ w38 h24
      replace h24:=nf h24
      refine ⟨⟨[_,_,_,_,_,_,_,_],(sO h24 [0,0,0,3,3,4,5,7,0,0,0,0,0,0,0])⟩,?_⟩
      refine Zw [] ?_
      exact Zu ⟨A25,c_25,rfl,(sOR h24 [0,0,0,0,0,0,0,0,0,0,0,0,0,0,0] [0])⟩
   rintro env w39 ⟨A19,c_19,rfl,h25⟩
   refine T8 (Zb [10] ?_)
   cases H
   exact T7 (jR ⟨_,_,_,_,_,_,_,_,_,_,_,_,rfl,rfl⟩ h25 [0,2,2,2,2,2,2,2,2,2,2,2,2,0])
  refine T9 (T8 (T6 ?_))
  refine Zd 2 ?_
  refine Zc (Za 0 h4.wht) ?_
  refine Zc (Za 17 h4.wht) ?_
  refine cE H [] h4 rfl Q13.spec (Y5 (gO 3) Zp) ?_
  rintro r4 w40 _ _ H ⟨A26,c_26,rfl,rfl⟩ h26
  replace h26:=nf h26
  refine cE H [] h26 rfl Q12.spec (Y5 (Zj 21) (Y5 (gO 0) Zp)) ?_
  rintro r5 w41 _ _ H ⟨A27,c_27,rfl,rfl⟩ h27
  replace h27:=nf h27
  refine Ze [0,4,8,11] rfl ?_
  refine T8 (T8 (T6 ?_))
  refine Zd 1 ?_
  refine Zc (Za 2 h27.wht) ?_
  refine Ze [0,4,8,11,83,84,85] rfl ?_
  refine T0 ?_
  have h42:=(sOR h27 [20,7,8,7,9,10,11,11,12,2,6,6,6,6,6,6,0,1,1,1,1] [])
  refine T4 (fun kk env w=>∃ x1 x2 x3 x4 A28 c_28 x5 A29 c_29 x6 x7 A30 c_30 A31 c_31 A32 c_32 x8 x9 x10 A33 c_33 x11,Q88.l0 kk a3 r1 r5 x1 x2 x3 x4 x5 x6 x7 x8 x9 x10 x11=some r∧env=[(0,.pointer (some ⟨b1,0,none⟩)),(4,.slice A27 r5.length c_27),(8,.pointer (some ⟨b9,0,none⟩)),(11,.pointer (some ⟨b10,0,none⟩)),(83,.slice A8 r1.1.2.1.length c_8),(84,.int .i64 (r1.1.2.1.length:Int)),(85,.int .i64 x11)]∧St w0 F0 [Zfo b1 (.pointer (some ⟨b2,0,none⟩)) x9 x10 A33 c_33,X83 b2 x1.1 x1.2.1 x1.2.2.1 x1.2.2.2.1 x1.2.2.2.2.1 x1.2.2.2.2.2.1 x1.2.2.2.2.2.2.1 x1.2.2.2.2.2.2.2 (.pointer (some ⟨b4,0,none⟩)) (.pointer (some ⟨b3,0,none⟩)) (.pointer (some ⟨b7,0,none⟩)) x8,Xi b4 x2.1 x2.2.1 A28 c_28 x2.2.2.1 x2.2.2.2,Xp b3 (.pointer (some ⟨b4,0,none⟩)) x5 A29 c_29 (.map (some b5)) x7 A30 c_30 (.pointer (some ⟨b6,0,none⟩)),Xa .u32 (Value.int .i64) b5 x6,Y0 b6 x3.1 A31 c_31 x3.2,Vl b7 (.pointer (some ⟨b8,0,none⟩)),Xy b8 x4.1 x4.2.1 x4.2.2 A32 c_32,X92 b9 a3.1 a3.2.1 a3.2.2,X43 b10 r1.1.1 r1.1.2.1 A8 c_8 r1.1.2.2.1 A9 c_9 r1.1.2.2.2.1 A10 c_10 r1.1.2.2.2.2 A11 c_11,O5 x2.2.1 A28 c_28,Xq x5 A29 c_29,O3 x7 A30 c_30,Y2 x3.1 A31 c_31,O61 x4.2.2 A32 c_32,Xt x10 A33 c_33,Wy r5 A27 c_27,O33 r1.1.2.1 A8 c_8,O9 r1.1.2.2.1 A9 c_9,Wy r1.1.2.2.2.1 A10 c_10,Xt r1.1.2.2.2.2 A11 c_11] [] w∧kk≤kr) (k:=kr) ⟨_,_,_,_,_,_,_,_,_,_,_,_,_,_,_,_,_,_,_,_,_,_,_,H,rfl,h42,Sa _⟩ ?_
  rintro k1 env w42 ⟨x1,x2,x3,x4,A28,c_28,x5,A29,c_29,x6,x7,A30,c_30,A31,c_31,A32,c_32,x8,x9,x10,A33,c_33,x11,H,rfl,h28,hk1⟩
  rcases k1 with _ | k1
  ·exact z0 H
  rw [Q88.l0] at H
  refine T8 (Zb [0,4,8,11,83,84,85,86] ?_)
  refine T8 (jIf H (fun c5 H=>?_) fun c5 H=>?_)
  ·refine T9 (T8 (T0 (T8 (T6 ?_))))
   refine Zd 1 ?_
   obtain ⟨⟨p4,p5⟩,H⟩:=Zk H
   have e8:=Z0 h28.wh (gO 17) p4 p5
   refine Zc (Zg e8 p4 p5) ?_
   refine Zc (Zh 0 h28.wht (gO 17) p4 p5) ?_
   refine Ze [0,4,8,11,14,15,83,84,85] rfl ?_
   refine T8 (T6 ?_)
   refine Zd 1 ?_
   refine Zc (Za 9 h28.wht) ?_
   refine Zd 1 ?_
   refine Zc (Za 8 h28.wht) ?_
   refine cS H [] h28 rfl Q61.spec (Y5 (gO 18) Zp) fun r6 w43 H h29=>?_
   refine Zd 3 ?_
   refine rB (Yt h29) fun b11 w44 h30=>?_
   refine rS (Zt 0 h30) fun _ w45 h31=>?_
   refine Ze [0,4,8,11,15,16,17,83,84,85] rfl ?_
   refine T8 (T8 (Zb [0,4,8,11,15,16,83,84,85,99] ?_))
   refine jIf H (fun c6 H=>?_) fun c6 H=>?_
   ·refine T3 (Zb [0,4,8,11,83,84,85] ?_)
    have h32:=(sOR h31 [1,1,1,1,1,1,1,1,1,1,1,1,1,1,1,1,1,1,1,1,1] [])
    exact ⟨k1,by omega,_,_,_,_,_,_,_,_,_,_,_,_,_,_,_,_,_,_,_,_,_,_,_,H,rfl,h32,by omega⟩
   refine T9 (T8 (T8 (T6 ?_)))
   refine Zd 1 ?_
   refine cS H [1,1,2,1,7,7,1,6,1,5,1,1,3,3] h31 rfl Q87.spec Zp fun r7 w46 H h33=>?_
   refine Ze [0,4,8,11,15,16,83,84,85,101] rfl ?_
   refine jIf H (fun c7 H=>?_) fun c7 H=>?_
   ·refine T8 (Zb [10] ?_)
    have h34:=sO h33 [0,0,0,0,0,0,0,0,0,0,0,0,0,0]
    replace h34:=nf h34
    cases H
    exact T7 (jR ⟨_,_,_,_,_,_,_,_,_,_,_,_,rfl,rfl⟩ h34 [0,0,0,0,0,0,0,0,0,0,0,0,0,0])
   refine T9 (T8 (Zz (sO h33 [14,14,14,14,14,14,14,14]) ?_))
   have h35:=h33.drew
   refine Zo [0,1,2,6] ?_
   refine Zf 3 rfl (Za 2 wI) ?_
   refine Zo [4] ?_
   refine Zf 5 rfl (Za 0 wI) ?_
   refine Zf 7 rfl (Za 0 wI) ?_
   refine cEJ 8 rfl H [] h35 rfl Q13.spec (Y5 (gO 17) Zp) ?_
   rintro r8 w47 _ _ H ⟨A34,c_34,rfl,rfl⟩ h36
   replace h36:=nf h36
   refine ⟨⟨[_,_,_,_,_,_,_,_,_,_,_,_,_,_,_],h36⟩,?_⟩
   refine cEJ 9 rfl H [1,1,1,1,1,1,1,1,1,1,1,1,1,1] h36 rfl (ih k1 (by omega)) (Y5 (gO 0) Zp) ?_
   rintro r9 w48 _ _ H ⟨A35,c_35,A36,c_36,A37,c_37,A38,c_38,A39,c_39,A40,c_40,rfl,rfl⟩ h37
   replace h37:=nf h37
   refine ⟨⟨[_,_,_,_,_,_,_,_,_,_,_,_,_,_,_],h37⟩,?_⟩
   refine Zo [10] ?_
   refine Zw [0,4,8,11,18,83,84,85] ?_
   have h38:=sO h37 [0,0,0,0,0,0,0,0,0,0,0,0,0,0,2,2,2,2,2,2,2]
   replace h38:=nf h38
   refine T8 (Zb [0,4,8,11,18,83,84,85,113] ?_)
   refine jIf H (fun c8 H=>?_) fun c8 H=>?_
   ·refine T8 (Zb [10] ?_)
    have h39:=sO h38 [0,0,0,0,0,0,0,0,0,0,0,0,0,0]
    replace h39:=nf h39
    cases H
    exact T7 (jR ⟨_,_,_,_,_,_,_,_,_,_,_,_,rfl,rfl⟩ h39 [0,0,0,0,0,0,0,0,0,0,0,0,0,0])
   refine T9 (Zb [0,4,8,11,83,84,85] ?_)
   have h40:=(sOR h38 [0,0,1,0,2,3,4,4,6,6,0,0,0,0,0,0,0,0,0,0,0] [])
   exact ⟨k1,by omega,_,_,_,_,_,_,_,_,_,_,_,_,_,_,_,_,_,_,_,_,_,_,_,H,rfl,h40,by omega⟩
  refine T3 (T8 (Zb [10] ?_))
  have h41:=sO h28 [0,0,0,0,0,0,0,0,2,2,2,2,2,2]
  replace h41:=nf h41
  cases H
  exact T7 (jR ⟨_,_,_,_,_,_,_,_,_,_,_,_,rfl,rfl⟩ h41 [0,0,1,0,4,4,0,3,0,2,0,0,0,0])
 refine Ze [0,4,8,11,32] rfl ?_
 refine Z6 ?_
 refine T9 (T8 (T8 (T6 ?_)))
 refine Zd 1 ?_
 refine Zc (Za 0 h4.wht) ?_
 refine Ze [0,4,8,11,43] rfl ?_
 refine jIf H (fun c9 H=>?_) fun c9 H=>?_
 ·refine T8 (T6 ?_)
  refine Zd 1 ?_
  refine Zc (Za 0 h4.wht) ?_
  refine Zc (Za 17 h4.wht) ?_
  refine Zd 1 ?_
  refine Zc (Za 0 h4.wht) ?_
  refine Zd 1 ?_
  refine cE H [] h4 rfl Q63.spec (Y5 (gO 4) Zp) ?_
  rintro r10 w49 _ _ H ⟨A41,c_41,rfl,rfl⟩ h43
  replace h43:=nf h43
  refine Zd 1 ?_
  refine cE H [] h43 rfl Q62.spec (Y5 (gO 0) (gS [21])) ?_
  rintro r11 w50 _ _ H ⟨A42,c_42,rfl,rfl⟩ h44
  replace h44:=nf h44
  refine Ze [0,13] rfl ?_
  have h45:=sO h44 [0,6,6,6,6,6,6,6,6,6,6,6,6,7,7]
  replace h45:=nf h45
  refine T8 ?_
  obtain ⟨⟨p6,p7⟩,H⟩:=Zk H
  obtain ⟨p8,H⟩:=Zk H
  refine T5 (fun env w=>∃(A43:Option Addr) (c_43:Nat),env=[]∧St w0 F0 [Zfo b1 (.pointer (some ⟨b2,0,none⟩)) a0.2.1 (a0.2.2 ++ (r11.take ((if (w64 (a0.2.1 - (a0.2.2.length:Int)))<(r11.length:Int) then (w64 (a0.2.1 - (a0.2.2.length:Int))) else (r11.length:Int))).toNat)) A43 c_43,Xt (a0.2.2 ++ (r11.take ((if (w64 (a0.2.1 - (a0.2.2.length:Int)))<(r11.length:Int) then (w64 (a0.2.1 - (a0.2.2.length:Int))) else (r11.length:Int))).toNat)) A43 c_43,Xt r11 A42 c_42,X83 b2 r1.2.2.1.1 r1.2.2.1.2.1 r1.2.2.1.2.2.1 r1.2.2.1.2.2.2.1 r1.2.2.1.2.2.2.2.1 r1.2.2.1.2.2.2.2.2.1 r1.2.2.1.2.2.2.2.2.2.1 r1.2.2.1.2.2.2.2.2.2.2 (.pointer (some ⟨b4,0,none⟩)) (.pointer (some ⟨b3,0,none⟩)) (.pointer (some ⟨b7,0,none⟩)) r1.2.2.2.2.2,Xp b3 (.pointer (some ⟨b4,0,none⟩)) r1.2.2.2.1.2.1 A13 c_13 (.map (some b5)) r1.2.2.2.1.2.2.2.1 A14 c_14 (.pointer (some ⟨b6,0,none⟩)),Xi b4 r1.2.2.2.1.1.1 r1.2.2.2.1.1.2.1 A12 c_12 r1.2.2.2.1.1.2.2.1 r1.2.2.2.1.1.2.2.2,O5 r1.2.2.2.1.1.2.1 A12 c_12,Xq r1.2.2.2.1.2.1 A13 c_13,Xa .u32 (Value.int .i64) b5 r1.2.2.2.1.2.2.1,O3 r1.2.2.2.1.2.2.2.1 A14 c_14,Y0 b6 r1.2.2.2.1.2.2.2.2.1 A15 c_15 r1.2.2.2.1.2.2.2.2.2,Y2 r1.2.2.2.1.2.2.2.2.1 A15 c_15,Vl b7 (.pointer (some ⟨b8,0,none⟩)),Xy b8 r1.2.2.2.2.1.1 r1.2.2.2.2.1.2.1 r1.2.2.2.2.1.2.2 A16 c_16,O61 r1.2.2.2.2.1.2.2 A16 c_16] [Yi a4 A7 c_7] w) ?_ ?_
  ·refine Zz (sO h45 [1,1,1,3,4,5,5]) ?_
   have h48:=h45.drew
   refine Zo [0,1,2,3,5,6,7,8,9,10,12,13,14] ?_
   refine TY [4,11,15] (i:=4) rfl rfl rfl rfl ?_
   refine (Z5 ?_ (Z5 ?_ (Z5 ?_ Y4)))
   ·refine Yf 4 rfl (Sb (Za 13 h48.wht)) ?_
    rintro _ _ ⟨rfl,rfl⟩
    replace h48:=nf h48
    refine ⟨⟨[_,_,_,_,_,_,_,_],(sO h48 [0,3,3,4,5,7,7,7,0,0,0,0,0,0,0])⟩,?_⟩
    refine TY [11,15] (i:=11) rfl rfl rfl rfl ?_
    refine (Z5 ?_ (Z5 ?_ Y4))
    ·refine Yf 11 rfl (Sb (Za 13 h48.wht)) ?_
     rintro _ _ ⟨rfl,rfl⟩
     replace h48:=nf h48
     refine ⟨⟨[_,_,_,_,_,_,_,_],(sO h48 [0,3,3,4,5,7,7,7,0,0,0,0,0,0,0])⟩,?_⟩
     refine Zx 15 rfl (Sb (Za 13 h48.wht)) ?_
     rintro _ _ ⟨rfl,rfl⟩
     replace h48:=nf h48
     refine ⟨⟨[_,_,_,_,_,_,_,_],(sO h48 [0,3,3,4,5,7,7,7,0,0,0,0,0,0,0])⟩,?_⟩
     refine Zo [16,17,18] ?_
     have e10:=h48.cap (gO 0)
     refine Zf 19 rfl (Yy (r11.take ((if (w64 (a0.2.1 - (a0.2.2.length:Int)))<(r11.length:Int) then (w64 (a0.2.1 - (a0.2.2.length:Int))) else (r11.length:Int))).toNat) (if (w64 (a0.2.1 - (a0.2.2.length:Int)))<(r11.length:Int) then (w64 (a0.2.1 - (a0.2.2.length:Int))) else (r11.length:Int)) e10 p6 p7) ?_
     refine Zx 20 rfl (Zr 14 h48 ((Gives.of 0 rfl Yc).trans (Y3 (.pair .str .str) (r11.take ((if (w64 (a0.2.1 - (a0.2.2.length:Int)))<(r11.length:Int) then (w64 (a0.2.1 - (a0.2.2.length:Int))) else (r11.length:Int))).toNat) (if (w64 (a0.2.1 - (a0.2.2.length:Int)))<(r11.length:Int) then (w64 (a0.2.1 - (a0.2.2.length:Int))) else (r11.length:Int)) p6 p7)) p8) ?_
     rintro _ w59 ⟨A44,c_44,rfl,h49⟩
     replace h49:=nf h49
     refine ⟨⟨[_,_,_,_,_,_,_,_],(sO h49 [0,0,3,3,4,5,7,7,0,0,0,0,0,0,0])⟩,?_⟩
     refine Zo [21,22] ?_
     refine Zx 23 rfl (Zt 14 h49) ?_
     intro _ w60 h50
     replace h50:=nf h50
     refine ⟨⟨[_,_,_,_,_,_,_,_],(sO h50 [0,0,0,3,3,4,5,7,0,0,0,0,0,0,0])⟩,?_⟩
     refine Zw [] ?_
     exact Zu ⟨A44,c_44,rfl,(sOR h50 [0,0,0,0,0,0,0,0,0,0,0,0,0,0,0] [0])⟩
    ·refine Yf 15 rfl (Sb (Za 13 h48.wht)) ?_
     rintro _ _ ⟨rfl,rfl⟩
     replace h48:=nf h48
     refine ⟨⟨[_,_,_,_,_,_,_,_],(sO h48 [0,3,3,4,5,7,7,7,0,0,0,0,0,0,0])⟩,?_⟩
     refine Zo [16] ?_
     refine Zx 11 rfl (Sb (Za 13 h48.wht)) ?_
     rintro _ _ ⟨rfl,rfl⟩
     replace h48:=nf h48
     refine ⟨⟨[_,_,_,_,_,_,_,_],(sO h48 [0,3,3,4,5,7,7,7,0,0,0,0,0,0,0])⟩,?_⟩
     refine Zo [17,18] ?_
     have e11:=h48.cap (gO 0)
     refine Zf 19 rfl (Yy (r11.take ((if (w64 (a0.2.1 - (a0.2.2.length:Int)))<(r11.length:Int) then (w64 (a0.2.1 - (a0.2.2.length:Int))) else (r11.length:Int))).toNat) (if (w64 (a0.2.1 - (a0.2.2.length:Int)))<(r11.length:Int) then (w64 (a0.2.1 - (a0.2.2.length:Int))) else (r11.length:Int)) e11 p6 p7) ?_
     refine Zx 20 rfl (Zr 14 h48 ((Gives.of 0 rfl Yc).trans (Y3 (.pair .str .str) (r11.take ((if (w64 (a0.2.1 - (a0.2.2.length:Int)))<(r11.length:Int) then (w64 (a0.2.1 - (a0.2.2.length:Int))) else (r11.length:Int))).toNat) (if (w64 (a0.2.1 - (a0.2.2.length:Int)))<(r11.length:Int) then (w64 (a0.2.1 - (a0.2.2.length:Int))) else (r11.length:Int)) p6 p7)) p8) ?_
     rintro _ w63 ⟨A45,c_45,rfl,h51⟩
     replace h51:=nf h51
     refine ⟨⟨[_,_,_,_,_,_,_,_],(sO h51 [0,0,3,3,4,5,7,7,0,0,0,0,0,0,0])⟩,?_⟩
     refine Zo [21,22] ?_
     refine Zx 23 rfl (Zt 14 h51) ?_
     intro _ w65 h52
     replace h52:=nf h52
     refine ⟨⟨[_,_,_,_,_,_,_,_],(sO h52 [0,0,0,3,3,4,5,7,0,0,0,0,0,0,0])⟩,?_⟩
     refine Zw [] ?_
     exact Zu ⟨A45,c_45,rfl,(sOR h52 [0,0,0,0,0,0,0,0,0,0,0,0,0,0,0] [0])⟩
   ·refine Yf 11 rfl (Sb (Za 13 h48.wht)) ?_
    rintro _ _ ⟨rfl,rfl⟩
    replace h48:=nf h48
    refine ⟨⟨[_,_,_,_,_,_,_,_],(sO h48 [0,3,3,4,5,7,7,7,0,0,0,0,0,0,0])⟩,?_⟩
    refine TY [4,15] (i:=4) rfl rfl rfl rfl ?_
    refine (Z5 ?_ (Z5 ?_ Y4))
    ·refine Yf 4 rfl (Sb (Za 13 h48.wht)) ?_
     rintro _ _ ⟨rfl,rfl⟩
     replace h48:=nf h48
     refine ⟨⟨[_,_,_,_,_,_,_,_],(sO h48 [0,3,3,4,5,7,7,7,0,0,0,0,0,0,0])⟩,?_⟩
     refine Zx 15 rfl (Sb (Za 13 h48.wht)) ?_
     rintro _ _ ⟨rfl,rfl⟩
     replace h48:=nf h48
     refine ⟨⟨[_,_,_,_,_,_,_,_],(sO h48 [0,3,3,4,5,7,7,7,0,0,0,0,0,0,0])⟩,?_⟩
     refine Zo [16,17,18] ?_
     have e12:=h48.cap (gO 0)
     refine Zf 19 rfl (Yy (r11.take ((if (w64 (a0.2.1 - (a0.2.2.length:Int)))<(r11.length:Int) then (w64 (a0.2.1 - (a0.2.2.length:Int))) else (r11.length:Int))).toNat) (if (w64 (a0.2.1 - (a0.2.2.length:Int)))<(r11.length:Int) then (w64 (a0.2.1 - (a0.2.2.length:Int))) else (r11.length:Int)) e12 p6 p7) ?_
     refine Zx 20 rfl (Zr 14 h48 ((Gives.of 0 rfl Yc).trans (Y3 (.pair .str .str) (r11.take ((if (w64 (a0.2.1 - (a0.2.2.length:Int)))<(r11.length:Int) then (w64 (a0.2.1 - (a0.2.2.length:Int))) else (r11.length:Int))).toNat) (if (w64 (a0.2.1 - (a0.2.2.length:Int)))<(r11.length:Int) then (w64 (a0.2.1 - (a0.2.2.length:Int))) else (r11.length:Int)) p6 p7)) p8) ?_
     rintro _ w69 ⟨A46,c_46,rfl,h53⟩
     replace h53:=nf h53
     refine ⟨⟨[_,_,_,_,_,_,_,_],(sO h53 [0,0,3,3,4,5,7,7,0,0,0,0,0,0,0])⟩,?_⟩
     refine Zo [21,22] ?_
     refine Zx 23 rfl (Zt 14 h53) ?_
     intro _ w70 h54
     replace h54:=nf h54
     refine ⟨⟨[_,_,_,_,_,_,_,_],(sO h54 [0,0,0,3,3,4,5,7,0,0,0,0,0,0,0])⟩,?_⟩
     refine Zw [] ?_
     exact Zu ⟨A46,c_46,rfl,(sOR h54 [0,0,0,0,0,0,0,0,0,0,0,0,0,0,0] [0])⟩
    ·refine Yf 15 rfl (Sb (Za 13 h48.wht)) ?_
     rintro _ _ ⟨rfl,rfl⟩
     replace h48:=nf h48
     refine ⟨⟨[_,_,_,_,_,_,_,_],(sO h48 [0,3,3,4,5,7,7,7,0,0,0,0,0,0,0])⟩,?_⟩
     refine Zo [16,17,18] ?_
     have e13:=h48.cap (gO 0)
     refine Zf 19 rfl (Yy (r11.take ((if (w64 (a0.2.1 - (a0.2.2.length:Int)))<(r11.length:Int) then (w64 (a0.2.1 - (a0.2.2.length:Int))) else (r11.length:Int))).toNat) (if (w64 (a0.2.1 - (a0.2.2.length:Int)))<(r11.length:Int) then (w64 (a0.2.1 - (a0.2.2.length:Int))) else (r11.length:Int)) e13 p6 p7) ?_
     refine Zx 4 rfl (Sb (Za 13 h48.wht)) ?_
     rintro _ _ ⟨rfl,rfl⟩
     replace h48:=nf h48
     refine ⟨⟨[_,_,_,_,_,_,_,_],(sO h48 [0,3,3,4,5,7,7,7,0,0,0,0,0,0,0])⟩,?_⟩
     refine Zx 20 rfl (Zr 14 h48 ((Gives.of 0 rfl Yc).trans (Y3 (.pair .str .str) (r11.take ((if (w64 (a0.2.1 - (a0.2.2.length:Int)))<(r11.length:Int) then (w64 (a0.2.1 - (a0.2.2.length:Int))) else (r11.length:Int))).toNat) (if (w64 (a0.2.1 - (a0.2.2.length:Int)))<(r11.length:Int) then (w64 (a0.2.1 - (a0.2.2.length:Int))) else (r11.length:Int)) p6 p7)) p8) ?_
     rintro _ w73 ⟨A47,c_47,rfl,h55⟩
     replace h55:=nf h55
     refine ⟨⟨[_,_,_,_,_,_,_,_],(sO h55 [0,0,3,3,4,5,7,7,0,0,0,0,0,0,0])⟩,?_⟩
     refine Zo [21,22] ?_
     refine Zx 23 rfl (Zt 14 h55) ?_
     intro _ w74 h56
     replace h56:=nf h56
     refine ⟨⟨[_,_,_,_,_,_,_,_],(sO h56 [0,0,0,3,3,4,5,7,0,0,0,0,0,0,0])⟩,?_⟩
     refine Zw [] ?_
     exact Zu ⟨A47,c_47,rfl,(sOR h56 [0,0,0,0,0,0,0,0,0,0,0,0,0,0,0] [0])⟩
   ·refine Yf 15 rfl (Sb (Za 13 h48.wht)) ?_
    rintro _ _ ⟨rfl,rfl⟩
    replace h48:=nf h48
    refine ⟨⟨[_,_,_,_,_,_,_,_],(sO h48 [0,3,3,4,5,7,7,7,0,0,0,0,0,0,0])⟩,?_⟩
    refine Zo [16] ?_
    refine TY [4,11] (i:=4) rfl rfl rfl rfl ?_
    refine (Z5 ?_ (Z5 ?_ Y4))
    ·refine Yf 4 rfl (Sb (Za 13 h48.wht)) ?_
     rintro _ _ ⟨rfl,rfl⟩
     replace h48:=nf h48
     refine ⟨⟨[_,_,_,_,_,_,_,_],(sO h48 [0,3,3,4,5,7,7,7,0,0,0,0,0,0,0])⟩,?_⟩
     refine Zx 11 rfl (Sb (Za 13 h48.wht)) ?_
     rintro _ _ ⟨rfl,rfl⟩
     replace h48:=nf h48
     refine ⟨⟨[_,_,_,_,_,_,_,_],(sO h48 [0,3,3,4,5,7,7,7,0,0,0,0,0,0,0])⟩,?_⟩
     refine Zo [17,18] ?_
     have e14:=h48.cap (gO 0)
     refine Zf 19 rfl (Yy (r11.take ((if (w64 (a0.2.1 - (a0.2.2.length:Int)))<(r11.length:Int) then (w64 (a0.2.1 - (a0.2.2.length:Int))) else (r11.length:Int))).toNat) (if (w64 (a0.2.1 - (a0.2.2.length:Int)))<(r11.length:Int) then (w64 (a0.2.1 - (a0.2.2.length:Int))) else (r11.length:Int)) e14 p6 p7) ?_
     refine Zx 20 rfl (Zr 14 h48 ((Gives.of 0 rfl Yc).trans (Y3 (.pair .str .str) (r11.take ((if (w64 (a0.2.1 - (a0.2.2.length:Int)))<(r11.length:Int) then (w64 (a0.2.1 - (a0.2.2.length:Int))) else (r11.length:Int))).toNat) (if (w64 (a0.2.1 - (a0.2.2.length:Int)))<(r11.length:Int) then (w64 (a0.2.1 - (a0.2.2.length:Int))) else (r11.length:Int)) p6 p7)) p8) ?_
     rintro _ w78 ⟨A48,c_48,rfl,h57⟩
     replace h57:=nf h57
     refine ⟨⟨[_,_,_,_,_,_,_,_],(sO h57 [0,0,3,3,4,5,7,7,0,0,0,0,0,0,0])⟩,?_⟩
     refine Zo [21,22] ?_
     refine Zx 23 rfl (Zt 14 h57) ?_
     intro _ w79 h58
     replace h58:=nf h58
     refine ⟨⟨[_,_,_,_,_,_,_,_],(sO h58 [0,0,0,3,3,4,5,7,0,0,0,0,0,0,0])⟩,?_⟩
     refine Zw [] ?_
     exact Zu ⟨A48,c_48,rfl,(sOR h58 [0,0,0,0,0,0,0,0,0,0,0,0,0,0,0] [0])⟩
    ·refine Yf 11 rfl (Sb (Za 13 h48.wht)) ?_
     rintro _ _ ⟨rfl,rfl⟩
     replace h48:=nf h48
     refine ⟨⟨[_,_,_,_,_,_,_,_],(sO h48 [0,3,3,4,5,7,7,7,0,0,0,0,0,0,0])⟩,?_⟩
     refine Zo [17,18] ?_
     have e15:=h48.cap (gO 0)
     refine Zf 19 rfl (Yy (r11.take ((if (w64 (a0.2.1 - (a0.2.2.length:Int)))<(r11.length:Int) then (w64 (a0.2.1 - (a0.2.2.length:Int))) else (r11.length:Int))).toNat) (if (w64 (a0.2.1 - (a0.2.2.length:Int)))<(r11.length:Int) then (w64 (a0.2.1 - (a0.2.2.length:Int))) else (r11.length:Int)) e15 p6 p7) ?_
     refine Zx 4 rfl (Sb (Za 13 h48.wht)) ?_
     rintro _ _ ⟨rfl,rfl⟩
     replace h48:=nf h48
     refine ⟨⟨[_,_,_,_,_,_,_,_],(sO h48 [0,3,3,4,5,7,7,7,0,0,0,0,0,0,0])⟩,?_⟩
     refine Zx 20 rfl (Zr 14 h48 ((Gives.of 0 rfl Yc).trans (Y3 (.pair .str .str) (r11.take ((if (w64 (a0.2.1 - (a0.2.2.length:Int)))<(r11.length:Int) then (w64 (a0.2.1 - (a0.2.2.length:Int))) else (r11.length:Int))).toNat) (if (w64 (a0.2.1 - (a0.2.2.length:Int)))<(r11.length:Int) then (w64 (a0.2.1 - (a0.2.2.length:Int))) else (r11.length:Int)) p6 p7)) p8) ?_
     rintro _ w82 ⟨A49,c_49,rfl,h59⟩
     replace h59:=nf h59
     refine ⟨⟨[_,_,_,_,_,_,_,_],(sO h59 [0,0,3,3,4,5,7,7,0,0,0,0,0,0,0])⟩,?_⟩
     refine Zo [21,22] ?_
     refine Zx 23 rfl (Zt 14 h59) ?_
     intro _ w83 h60
     replace h60:=nf h60
     refine ⟨⟨[_,_,_,_,_,_,_,_],(sO h60 [0,0,0,3,3,4,5,7,0,0,0,0,0,0,0])⟩,?_⟩
     refine Zw [] ?_
     exact Zu ⟨A49,c_49,rfl,(sOR h60 [0,0,0,0,0,0,0,0,0,0,0,0,0,0,0] [0])⟩
  rintro env w84 ⟨A43,c_43,rfl,h61⟩
  refine T8 (Zb [10] ?_)
  cases H
  exact T7 (jR ⟨_,_,_,_,_,_,_,_,_,_,_,_,rfl,rfl⟩ h61 [0,2,2,2,2,2,2,2,2,2,2,2,2,0])
 refine T9 (T8 (T6 ?_))
 refine Zd 2 ?_
 refine Zc (Za 0 h4.wht) ?_
 refine Zc (Za 17 h4.wht) ?_
 refine cE H [] h4 rfl Q13.spec (Y5 (gO 3) Zp) ?_
 rintro r12 w85 _ _ H ⟨A50,c_50,rfl,rfl⟩ h62
 replace h62:=nf h62
 refine cE H [] h62 rfl Q12.spec (Y5 (Zj 21) (Y5 (gO 0) Zp)) ?_
 rintro r13 w86 _ _ H ⟨A51,c_51,rfl,rfl⟩ h63
 replace h63:=nf h63
 refine Ze [0,4,8,11] rfl ?_
 refine T8 (T8 (T6 ?_))
 refine Zd 1 ?_
 refine Zc (Za 2 h63.wht) ?_
 refine Ze [0,4,8,11,83,84,85] rfl ?_
 refine T0 ?_
 have h78:=(sOR h63 [20,7,8,7,9,10,11,11,12,2,6,6,6,6,6,6,0,1,1,1,1] [])
 refine T4 (fun kk env w=>∃ x12 x13 x14 x15 A52 c_52 x16 A53 c_53 x17 x18 A54 c_54 A55 c_55 A56 c_56 x19 x20 x21 A57 c_57 x22,Q88.l1 kk a3 r1 r13 x12 x13 x14 x15 x16 x17 x18 x19 x20 x21 x22=some r∧env=[(0,.pointer (some ⟨b1,0,none⟩)),(4,.slice A51 r13.length c_51),(8,.pointer (some ⟨b9,0,none⟩)),(11,.pointer (some ⟨b10,0,none⟩)),(83,.slice A8 r1.1.2.1.length c_8),(84,.int .i64 (r1.1.2.1.length:Int)),(85,.int .i64 x22)]∧St w0 F0 [Zfo b1 (.pointer (some ⟨b2,0,none⟩)) x20 x21 A57 c_57,X83 b2 x12.1 x12.2.1 x12.2.2.1 x12.2.2.2.1 x12.2.2.2.2.1 x12.2.2.2.2.2.1 x12.2.2.2.2.2.2.1 x12.2.2.2.2.2.2.2 (.pointer (some ⟨b4,0,none⟩)) (.pointer (some ⟨b3,0,none⟩)) (.pointer (some ⟨b7,0,none⟩)) x19,Xi b4 x13.1 x13.2.1 A52 c_52 x13.2.2.1 x13.2.2.2,Xp b3 (.pointer (some ⟨b4,0,none⟩)) x16 A53 c_53 (.map (some b5)) x18 A54 c_54 (.pointer (some ⟨b6,0,none⟩)),Xa .u32 (Value.int .i64) b5 x17,Y0 b6 x14.1 A55 c_55 x14.2,Vl b7 (.pointer (some ⟨b8,0,none⟩)),Xy b8 x15.1 x15.2.1 x15.2.2 A56 c_56,X92 b9 a3.1 a3.2.1 a3.2.2,X43 b10 r1.1.1 r1.1.2.1 A8 c_8 r1.1.2.2.1 A9 c_9 r1.1.2.2.2.1 A10 c_10 r1.1.2.2.2.2 A11 c_11,O5 x13.2.1 A52 c_52,Xq x16 A53 c_53,O3 x18 A54 c_54,Y2 x14.1 A55 c_55,O61 x15.2.2 A56 c_56,Xt x21 A57 c_57,Wy r13 A51 c_51,O33 r1.1.2.1 A8 c_8,O9 r1.1.2.2.1 A9 c_9,Wy r1.1.2.2.2.1 A10 c_10,Xt r1.1.2.2.2.2 A11 c_11] [] w∧kk≤kr) (k:=kr) ⟨_,_,_,_,_,_,_,_,_,_,_,_,_,_,_,_,_,_,_,_,_,_,_,H,rfl,h78,Sa _⟩ ?_
 rintro k2 env w87 ⟨x12,x13,x14,x15,A52,c_52,x16,A53,c_53,x17,x18,A54,c_54,A55,c_55,A56,c_56,x19,x20,x21,A57,c_57,x22,H,rfl,h64,hk2⟩
 rcases k2 with _ | k2
 ·exact z0 H
 rw [Q88.l1] at H
 refine T8 (Zb [0,4,8,11,83,84,85,86] ?_)
 refine T8 (jIf H (fun c10 H=>?_) fun c10 H=>?_)
 ·refine T9 (T8 (T0 (T8 (T6 ?_))))
  refine Zd 1 ?_
  obtain ⟨⟨p9,p10⟩,H⟩:=Zk H
  have e16:=Z0 h64.wh (gO 17) p9 p10
  refine Zc (Zg e16 p9 p10) ?_
  refine Zc (Zh 0 h64.wht (gO 17) p9 p10) ?_
  refine Ze [0,4,8,11,14,15,83,84,85] rfl ?_
  refine T8 (T6 ?_)
  refine Zd 1 ?_
  refine Zc (Za 9 h64.wht) ?_
  refine Zd 1 ?_
  refine Zc (Za 8 h64.wht) ?_
  refine cS H [] h64 rfl Q61.spec (Y5 (gO 18) Zp) fun r14 w88 H h65=>?_
  refine Zd 3 ?_
  refine rB (Yt h65) fun b12 w89 h66=>?_
  refine rS (Zt 0 h66) fun _ w90 h67=>?_
  refine Ze [0,4,8,11,15,16,17,83,84,85] rfl ?_
  refine T8 (T8 (Zb [0,4,8,11,15,16,83,84,85,99] ?_))
  refine jIf H (fun c11 H=>?_) fun c11 H=>?_
  ·refine T3 (Zb [0,4,8,11,83,84,85] ?_)
   have h68:=(sOR h67 [1,1,1,1,1,1,1,1,1,1,1,1,1,1,1,1,1,1,1,1,1] [])
   exact ⟨k2,by omega,_,_,_,_,_,_,_,_,_,_,_,_,_,_,_,_,_,_,_,_,_,_,_,H,rfl,h68,by omega⟩
  refine T9 (T8 (T8 (T6 ?_)))
  refine Zd 1 ?_
  refine cS H [1,1,2,1,7,7,1,6,1,5,1,1,3,3] h67 rfl Q87.spec Zp fun r15 w91 H h69=>?_
  refine Ze [0,4,8,11,15,16,83,84,85,101] rfl ?_
  refine jIf H (fun c12 H=>?_) fun c12 H=>?_
  ·refine T8 (Zb [10] ?_)
   have h70:=sO h69 [0,0,0,0,0,0,0,0,0,0,0,0,0,0]
   replace h70:=nf h70
   cases H
   exact T7 (jR ⟨_,_,_,_,_,_,_,_,_,_,_,_,rfl,rfl⟩ h70 [0,0,0,0,0,0,0,0,0,0,0,0,0,0])
  refine T9 (T8 (Zz (sO h69 [14,14,14,14,14,14,14,14]) ?_))
  have h71:=h69.drew
  refine Zo [0,1,2,6] ?_
  refine Zf 3 rfl (Za 2 wI) ?_
  refine Zo [4] ?_
  refine Zf 5 rfl (Za 0 wI) ?_
  refine Zf 7 rfl (Za 0 wI) ?_
  refine cEJ 8 rfl H [] h71 rfl Q13.spec (Y5 (gO 17) Zp) ?_
  rintro r16 w92 _ _ H ⟨A58,c_58,rfl,rfl⟩ h72
  replace h72:=nf h72
  refine ⟨⟨[_,_,_,_,_,_,_,_,_,_,_,_,_,_,_],h72⟩,?_⟩
  refine cEJ 9 rfl H [1,1,1,1,1,1,1,1,1,1,1,1,1,1] h72 rfl (ih k2 (by omega)) (Y5 (gO 0) Zp) ?_
  rintro r17 w93 _ _ H ⟨A59,c_59,A60,c_60,A61,c_61,A62,c_62,A63,c_63,A64,c_64,rfl,rfl⟩ h73
  replace h73:=nf h73
  refine ⟨⟨[_,_,_,_,_,_,_,_,_,_,_,_,_,_,_],h73⟩,?_⟩
  refine Zo [10] ?_
  refine Zw [0,4,8,11,18,83,84,85] ?_
  have h74:=sO h73 [0,0,0,0,0,0,0,0,0,0,0,0,0,0,2,2,2,2,2,2,2]
  replace h74:=nf h74
  refine T8 (Zb [0,4,8,11,18,83,84,85,113] ?_)
  refine jIf H (fun c13 H=>?_) fun c13 H=>?_
  ·refine T8 (Zb [10] ?_)
   have h75:=sO h74 [0,0,0,0,0,0,0,0,0,0,0,0,0,0]
   replace h75:=nf h75
   cases H
   exact T7 (jR ⟨_,_,_,_,_,_,_,_,_,_,_,_,rfl,rfl⟩ h75 [0,0,0,0,0,0,0,0,0,0,0,0,0,0])
  refine T9 (Zb [0,4,8,11,83,84,85] ?_)
  have h76:=(sOR h74 [0,0,1,0,2,3,4,4,6,6,0,0,0,0,0,0,0,0,0,0,0] [])
  exact ⟨k2,by omega,_,_,_,_,_,_,_,_,_,_,_,_,_,_,_,_,_,_,_,_,_,_,_,H,rfl,h76,by omega⟩
 refine T3 (T8 (Zb [10] ?_))
 have h77:=sO h64 [0,0,0,0,0,0,0,0,2,2,2,2,2,2]
 replace h77:=nf h77
 cases H
 exact T7 (jR ⟨_,_,_,_,_,_,_,_,_,_,_,_,rfl,rfl⟩ h77 [0,0,1,0,4,4,0,3,0,2,0,0,0,0])

def Q85.f (k:Nat) (a0:Tg) (a1:Int) (a2:TC) (a3:Int):Option Te:=if (decide (a3<1))=true then (some (([]:List TF),0,a0)) else ((Q68.f a2).bind fun r1=>(if r1=true then (some (([]:List TF),0,a0)) else ((Q88.f k (a0,a3,([]:List TF)) a1 (-1) a2 ([]:List TB)).bind fun r2=>(if (!decide (r2.1=0))=true then (some (([]:List TF),r2.1,r2.2.1)) else (some (r2.2.2.2,0,r2.2.1))))))
theorem Q85.spec {k a0 a1 a2 a3 b1 b2 b3 b4 b5 b6 b7 A1 c_1 A2 c_2 A3 c_3 A4 c_4 A5 c_5 r} (H:Q85.f k a0 a1 a2 a3=some r) :
  Spec Tryz.prog 47 [.pointer (some ⟨b1,0,none⟩),.int .u32 a1,.agg #[.string ⟨⟨a2.1⟩⟩,.string ⟨⟨a2.2.1⟩⟩,.bool a2.2.2],.int .i64 a3] (V5 a0 b1 b2 b3 b4 b5 b6 b7 A1 A2 A3 A4 A5 c_1 c_2 c_3 c_4 c_5) [] (fun v l=>∃ A_0 c_0 A_1 c_1 A_2 c_2 A_3 c_3 A_4 c_4 A_5 c_5,v=.tuple #[.slice A_0 r.1.length c_0,.int .i64 r.2.1]∧l=[Xt r.1 A_0 c_0] ++ V5 r.2.2 b1 b2 b3 b4 b5 b6 b7 A_1 A_2 A_3 A_4 A_5 c_1 c_2 c_3 c_4 c_5):=by
 refine Zi Tryz.func47 fun w0 F0 h0=>?_
 replace h0:=nf h0
 unfold Q85.f at H
 refine T8 (T6 ?_)
 refine rB (Z9 h0) fun b8 w1 h1=>?_
 refine Ze [0,1,3,6] rfl ?_
 refine T8 (T8 (T6 ?_))
 refine Zd 3 ?_
 refine Yb 14 H (fun c1 H=>?_) fun c1 H=>?_
 ·refine Ze [0,1,3,6,17] rfl ?_
  refine Zn ?_
  refine T8 (Zb [8,9] ?_)
  have h2:=h1.addNil 106 (.pair .str .str)
  cases H
  exact T7 (jR ⟨_,_,_,_,_,_,_,_,_,_,_,_,rfl,rfl⟩ h2 [0,1,1,1,1,1,1,1,1,1,1,1,1])
 refine Zc (Za 0 h1.wht) ?_
 refine cS H [] h1 rfl Q68.spec Zp fun r1 w2 H h3=>?_
 refine Ze [0,1,3,6,17] rfl ?_
 refine jIf H (fun c2 H=>?_) fun c2 H=>?_
 ·refine T8 (Zb [8,9] ?_)
  have h4:=h3.addNil 106 (.pair .str .str)
  cases H
  exact T7 (jR ⟨_,_,_,_,_,_,_,_,_,_,_,_,rfl,rfl⟩ h4 [0,1,1,1,1,1,1,1,1,1,1,1,1])
 refine T9 (T8 (T6 ?_))
 refine Zd 3 ?_
 refine rB (Z9 h3) fun b9 w3 h5=>?_
 refine Ze [1,6,10] rfl ?_
 refine T8 (T8 (T6 ?_))
 refine Zd 2 ?_
 refine Zc (Za 1 h5.wht) ?_
 have h6:=h5.addNil 115 (.pair .str (.pair .bool .str))
 have h7:=h6.freeze (k:=0) rfl Yc
 have h8:=h7.addNil 106 (.pair .str .str)
 refine cE H [1,2,2,2,2,2,2,2,2,2,2,2,2,0] h8 rfl Q88.spec (gS [1]) ?_
 rintro r2 w4 _ _ H ⟨A6,c_6,A7,c_7,A8,c_8,A9,c_9,A10,c_10,A11,c_11,rfl,rfl⟩ h9
 replace h9:=nf h9
 refine Ze [10,11] rfl ?_
 refine T8 (Zb [10,11,27] ?_)
 refine jIf H (fun c3 H=>?_) fun c3 H=>?_
 ·refine T8 (Zb [8,9] ?_)
  have h10:=sO h9 [1,1,1,1,1,1,1,1,1,1,1,1]
  replace h10:=nf h10
  have h11:=h10.addNil 106 (.pair .str .str)
  cases H
  exact T7 (jR ⟨_,_,_,_,_,_,_,_,_,_,_,_,rfl,rfl⟩ h11 [0,0,0,0,0,0,0,0,0,0,0,0,0])
 refine T9 (T8 (T6 ?_))
 refine Zd 3 ?_
 refine Zc (Za 0 h9.wht) ?_
 refine Ze [8,9] rfl ?_
 have h12:=sO h9 [1,1,1,1,1,1,1,1,1,1,1,1,1]
 replace h12:=nf h12
 cases H
 exact T7 (jR ⟨_,_,_,_,_,_,_,_,_,_,_,_,rfl,rfl⟩ h12 [12,0,0,0,0,0,0,0,0,0,0,0,0])

def Q139.f (k:Nat):Option (Bool):=(Q134.f k (9,200,8,8,16,16,2,1) (([(([97]:List UInt8),([]:List UInt8)),(([98]:List UInt8),([]:List UInt8)),(([99]:List UInt8),([]:List UInt8))]:List TF),([]:List TB),([]:List Int),([]:List Int))).bind fun r1=>(Vb r1.1 (if (!r1.2.2.2)=true then (some false) else ((Q86.f r1.2.1 (([98]:List UInt8),([]:List UInt8),true) 1).bind fun r3=>(if (decide (r3.2=0))=true then (if (decide ((r3.1.length:Int)=1))=true then (if 0<(r3.1.length:Int) then (some (decide (((gt r3.1 0).1)=([98]:List UInt8)))) else none) else (some false)) else (some false)))) (fun r2=>(if (!r1.2.2.2)=true then (some false) else ((Q85.f k r2 r1.2.1 (([98]:List UInt8),([]:List UInt8),true) 1).bind fun r4=>(if (decide (r4.2.1=0))=true then (if (decide ((r4.1.length:Int)=1))=true then (if 0<(r4.1.length:Int) then (some (decide (((gt r4.1 0).1)=([98]:List UInt8)))) else none) else (some false)) else (some false))))))
theorem Q139.spec {k r} (H:Q139.f k=some r) :
  Spec Tryz.prog 46 [] [] [tabC 0] (fun v l=>v=.bool r∧l=[]):=by
 refine Zi Tryz.func46 fun w0 F0 h0=>?_
 unfold Q139.f at H
 refine T8 (Zb [] ?_)
 refine T8 (T6 ?_)
 refine Zd 1 ?_
 refine rB (Yt h0) fun b1 w1 h1=>?_
 refine rS (Zt 0 h1) fun _ w2 h2=>?_
 refine Ze [1] rfl ?_
 refine T8 (T6 ?_)
 refine Zc (Za 0 h2.wht) ?_
 refine Zd 3 ?_
 refine rB (Z1 (.pair .str .str) ([(([97]:List UInt8),([]:List UInt8)),(([98]:List UInt8),([]:List UInt8)),(([99]:List UInt8),([]:List UInt8))]:List TF) h2) fun b2 w3 h3=>?_
 refine Zd 1 ?_
 have h4:=h3.addNil 115 (.pair .str (.pair .bool .str))
 have h5:=h4.freeze (k:=0) rfl Yc
 have h6:=h5.addNil 5 (.int .u8)
 have h7:=h6.freeze (k:=0) rfl Yc
 have h8:=h7.freeze (k:=0) rfl Yc
 obtain ⟨r1,q1,H⟩:=Yj H
 refine Zs (Ya [] (Q134.spec q1) h8 rfl (gS [0,2,1,1,3])) ?_
 rintro _ w4 ⟨_,_,⟨v1,l1,ho1,A1,c_1,rfl,rfl,rfl⟩,h9⟩
 rcases ho2:r1.1 with _ | r2
 ·rw [ho2] at ho1
  obtain ⟨rfl,rfl⟩:=ho1
  replace H:=Vz ho2 H
  replace h9:=nf h9
  refine Ze [2,3,5] rfl ?_
  refine T8 (T8 (Zb [2,3,22] ?_))
  refine jIf H (fun c1 H=>?_) fun c1 H=>?_
  ·refine T8 (Zb [0] ?_)
   cases H
   exact T7 (jR0 h9 [])
  refine T9 (T8 (T6 ?_))
  refine Zd 3 ?_
  refine cE H [] h9 rfl Q86.spec Zp ?_
  rintro r3 w5 _ _ H ⟨A2,c_2,rfl,rfl⟩ h10
  replace h10:=nf h10
  refine Ze [6,7] rfl ?_
  refine T8 (T6 ?_)
  refine Zd 3 ?_
  refine Yb 32 H (fun c2 H=>?_) fun c2 H=>?_
  ·refine Zd 5 ?_
   refine Yb 37 H (fun c3 H=>?_) fun c3 H=>?_
   ·refine Zd 1 ?_
    obtain ⟨p1,H⟩:=Zk H
    have e1:=Wl h10.wh (gO 0) p1
    refine Zc (Xr e1 p1) ?_
    refine Zd 1 ?_
    refine Zc (Y7 0 h10.wht (gO 0) p1) ?_
    refine Ze [0] rfl ?_
    have h11:=sO h10 []
    replace h11:=nf h11
    cases H
    exact T7 (jR0 h11 [])
   refine Ze [0] rfl ?_
   have h12:=sO h10 []
   replace h12:=nf h12
   cases H
   exact T7 (jR0 h12 [])
  refine Ze [0] rfl ?_
  have h13:=sO h10 []
  replace h13:=nf h13
  cases H
  exact T7 (jR0 h13 [])
 rw [ho2] at ho1
 obtain ⟨b3,b4,b5,A3,c_3,A4,c_4,b6,A5,c_5,b7,A6,c_6,b8,b9,A7,c_7,rfl,rfl⟩:=ho1
 replace H:=Vw ho2 H
 replace h9:=nf h9
 refine Ze [2,3,5] rfl ?_
 refine T8 (T8 (Zb [2,3,22] ?_))
 refine jIf H (fun c4 H=>?_) fun c4 H=>?_
 ·refine T8 (Zb [0] ?_)
  have h14:=sO h9 []
  replace h14:=nf h14
  cases H
  exact T7 (jR0 h14 [])
 refine T9 (T8 (T6 ?_))
 refine Zd 3 ?_
 refine cE H [0,0,0,0,0,0,0,0,0,0,0,0] h9 rfl Q85.spec Zp ?_
 rintro r4 w6 _ _ H ⟨A8,c_8,A9,c_9,A10,c_10,A11,c_11,A12,c_12,A13,c_13,rfl,rfl⟩ h15
 replace h15:=nf h15
 refine Ze [6,7] rfl ?_
 have h16:=sO h15 [0]
 replace h16:=nf h16
 refine T8 (T6 ?_)
 refine Zd 3 ?_
 refine Yb 32 H (fun c5 H=>?_) fun c5 H=>?_
 ·refine Zd 5 ?_
  refine Yb 37 H (fun c6 H=>?_) fun c6 H=>?_
  ·refine Zd 1 ?_
   obtain ⟨p2,H⟩:=Zk H
   have e2:=Wl h16.wh (gO 0) p2
   refine Zc (Xr e2 p2) ?_
   refine Zd 1 ?_
   refine Zc (Y7 0 h16.wht (gO 0) p2) ?_
   refine Ze [0] rfl ?_
   cases H
   exact T7 (jR0 h16 [])
  refine Ze [0] rfl ?_
  cases H
  exact T7 (jR0 h16 [])
 refine Ze [0] rfl ?_
 cases H
 exact T7 (jR0 h16 [])

def Q138.l4:Nat→Te→Bool→Option (Bool)
 | 0,_,_=>none
 | k+1,r25,x6=>if x6=true then (if (decide (r25.2.1=12))=true then ((Q139.f k).bind fun r27=>(some r27)) else (some false)) else (if (decide (r25.2.1=4))=true then ((Q139.f k).bind fun r28=>(some r28)) else (some false))
def Q138.l3:Nat→Tq→Int→Te→Bool→Option (Bool)
 | 0,_,_,_,_=>none
 | k+1,a0,a1,r25,x5=>if x5=true then (if (decide ((r25.1.length:Int)=0))=true then (if (decide (r25.2.1=0))=true then ((Q139.f k).bind fun r26=>(some r26)) else (some false)) else (some false)) else (if (decide (0<a1))=true then (Q138.l4 k r25 (decide ((w64 (a1))<a0.1))) else (Q138.l4 k r25 false))
def Q138.l2:Nat→Tq→Int→TC→Int→TE→TD→Bool→TX→Int→Option (Bool)
 | 0,_,_,_,_,_,_,_,_,_=>none
 | k+1,a0,a1,a2,a3,r5,r16,x1,x3,x4=>if (decide (x4<a0.2.2.1))=true then (if (x3.length+([x4]:List Int).length)*8≤140737488355328 then (Q138.l2 k a0 a1 a2 a3 r5 r16 x1 (x3 ++ ([x4]:List Int)) (w64 (x4+1))) else none) else ((Q54.f r5).bind fun r18=>(if (!decide (r18=a0.1))=true then ((Q86.f a1 a2 a3).bind fun r19=>(some false)) else ((Q55.f r5).bind fun r20=>(if (!decide (r20=a0.2.1))=true then ((Q86.f a1 a2 a3).bind fun r21=>(some false)) else ((Q79.f a0.1).bind fun r22=>(Vb r22.1 (if (!decide (r22.2=0))=true then ((Q86.f a1 a2 a3).bind fun r24=>(some false)) else none) (fun r23=>(if (!decide (r22.2=0))=false then ((Q85.f k (a0,(r5,(List.replicate a0.2.2.1.toNat ((0,([]:List Int),false,0):Int×List Int×Bool×Int)),([]:List TW),x3,r16),r23,0) a1 a2 a3).bind fun r25=>(if (!decide ((r25.1.length:Int)=0))=true then (Q138.l3 k a0 a1 r25 true) else (Q138.l3 k a0 a1 r25 x1))) else none))))))))
def Q138.l1:Nat→Tq→Int→TC→Int→Bool→Bool→Option (Bool)
 | 0,_,_,_,_,_,_=>none
 | k+1,a0,a1,a2,a3,x1,x2=>if x2=true then (some false) else ((Q131.f k a0).bind fun r2=>(if (!r2)=true then ((Q139.f k).bind fun r3=>(some r3)) else ((Q58.f a0.1 a0.2.1).bind fun r4=>(Vb r4.1 (if (!decide (r4.2=0))=true then ((Q49.f a0).bind fun r6=>(if (!decide (r6=0))=true then ((Q86.f a1 a2 a3).bind fun r7=>(some false)) else ((Q86.f a1 a2 a3).bind fun r8=>(some false)))) else none) (fun r5=>(if (!decide (r4.2=0))=false then ((Q49.f a0).bind fun r9=>(if (!decide (r9=0))=true then ((Q86.f a1 a2 a3).bind fun r10=>(some false)) else ((Q54.f r5).bind fun r11=>(if (decide (r11=0))=true then ((Q86.f a1 a2 a3).bind fun r12=>(some false)) else (if (decide (a0.2.2.1<1))=true then ((Q86.f a1 a2 a3).bind fun r13=>(some false)) else (if (decide (64<a0.2.2.1))=true then ((Q86.f a1 a2 a3).bind fun r14=>(some false)) else ((Q35.f a0.2.2.1).bind fun r15=>(Vb r15.1 (if (!decide (r15.2=0))=true then ((Q86.f a1 a2 a3).bind fun r17=>(some false)) else none) (fun r16=>(if (!decide (r15.2=0))=false then (if 0≤a0.2.2.1∧a0.2.2.1*48≤281474976710656 then (Q138.l2 k a0 a1 a2 a3 r5 r16 x1 ([]:List Int) 0) else none) else none)))))))))) else none))))))
def Q138.l0:Nat→Tq→Int→TC→Int→Tu→Bool→Option (Bool)
 | 0,_,_,_,_,_,_=>none
 | k+1,a0,a1,a2,a3,r1,x1=>if (!decide ((r1.1.length:Int)=0))=true then (Q138.l1 k a0 a1 a2 a3 x1 true) else (if (!(x1 == (decide (r1.2=0))))=true then (Q138.l1 k a0 a1 a2 a3 x1 true) else (if (!x1)=true then (Q138.l1 k a0 a1 a2 a3 x1 (!decide (r1.2=1))) else (Q138.l1 k a0 a1 a2 a3 x1 false)))
def Q138.f (k:Nat) (a0:Tq) (a1:Int) (a2:TC) (a3:Int):Option (Bool):=(Q86.f a1 a2 a3).bind fun r1=>(if (decide (a3<1))=true then (Q138.l0 k a0 a1 a2 a3 r1 true) else ((Q142.f k a2 a2.1).bind fun r29=>(Q138.l0 k a0 a1 a2 a3 r1 (!r29))))
theorem Q138.spec {k a0 a1 a2 a3 r} (H:Q138.f k a0 a1 a2 a3=some r) :
  Spec Tryz.prog 8 [.agg #[.int .i64 a0.1,.int .i64 a0.2.1,.int .i64 a0.2.2.1,.int .i64 a0.2.2.2.1,.int .i64 a0.2.2.2.2.1,.int .i64 a0.2.2.2.2.2.1,.int .i64 a0.2.2.2.2.2.2.1,.int .i64 a0.2.2.2.2.2.2.2],.int .u32 a1,.agg #[.string ⟨⟨a2.1⟩⟩,.string ⟨⟨a2.2.1⟩⟩,.bool a2.2.2],.int .i64 a3] [] [tabC 0] (fun v l=>v=.bool r∧l=[]):=by
 refine Zi Tryz.func8 fun w0 F0 h0=>?_
 unfold Q138.f at H
 refine T8 (T6 ?_)
 refine rB (Z9 h0) fun b1 w1 h1=>?_
 refine rB (Z9 h1) fun b2 w2 h2=>?_
 refine Ze [1,3,4,6] rfl ?_
 refine T8 (T6 ?_)
 refine Zd 1 ?_
 refine Zc (Za 0 h2.wht) ?_
 refine Zd 1 ?_
 refine cE H [] h2 rfl Q86.spec Zp ?_
 rintro r1 w3 _ _ H ⟨A1,c_1,rfl,rfl⟩ h3
 replace h3:=nf h3
 refine Ze [1,3,4,6,9,10] rfl ?_
 refine T8 (T5 (fun env w=>∃ k1 x1,Q138.l0 k1 a0 a1 a2 a3 r1 x1=some r∧env=[(1,.int .u32 a1),(3,.int .i64 a3),(4,.pointer (some ⟨b1,0,none⟩)),(6,.pointer (some ⟨b2,0,none⟩)),(9,.slice A1 r1.1.length c_1),(10,.int .i64 r1.2),(11,.bool x1)]∧St w0 F0 [X23 b1 a0.1 a0.2.1 a0.2.2.1 a0.2.2.2.1 a0.2.2.2.2.1 a0.2.2.2.2.2.1 a0.2.2.2.2.2.2.1 a0.2.2.2.2.2.2.2,X92 b2 a2.1 a2.2.1 a2.2.2,Xt r1.1 A1 c_1] [tabC 0] w∧k1≤k) ?_ ?_)
 ·refine T6 (Zd 3 ?_)
  refine Yb 25 H (fun c28 H=>?_) fun c28 H=>?_
  ·refine Ze [1,3,4,6,9,10,11] rfl ?_
   have h83:=(sOR h3 [2,1,0] [0])
   exact ⟨k,_,H,rfl,h83,Sa _⟩
  refine Zc (Za 1 h3.wht) ?_
  refine Zd 1 ?_
  refine Zc (Za 1 h3.wht) ?_
  refine cS H [] h3 rfl Q142.spec Zp fun r29 w47 H h84=>?_
  refine Ze [1,3,4,6,9,10,11] rfl ?_
  have h85:=(sOR h84 [2,1,0] [0])
  exact ⟨k,_,H,rfl,h85,Sa _⟩
 rintro env w5 ⟨k1,x1,H,rfl,h4,hk1⟩
 rcases k1 with _ | k1
 ·exact z0 H
 rw [Q138.l0] at H
 refine T8 (T8 ?_)
 refine T5 (fun env w=>∃ k2 x2,Q138.l1 k2 a0 a1 a2 a3 x1 x2=some r∧env=[(1,.int .u32 a1),(3,.int .i64 a3),(4,.pointer (some ⟨b1,0,none⟩)),(6,.pointer (some ⟨b2,0,none⟩)),(11,.bool x1),(48,.bool x2)]∧St w0 F0 [X23 b1 a0.1 a0.2.1 a0.2.2.1 a0.2.2.2.1 a0.2.2.2.2.1 a0.2.2.2.2.2.1 a0.2.2.2.2.2.2.1 a0.2.2.2.2.2.2.2,X92 b2 a2.1 a2.2.1 a2.2.2] [tabC 0] w∧k2≤k1) ?_ ?_
 ·refine T6 (Zd 4 ?_)
  refine Yb 35 H (fun c25 H=>?_) fun c25 H=>?_
  ·refine Ze [1,3,4,6,11,48] rfl ?_
   have h79:=(sOR h4 [0,0] [0])
   exact ⟨k1,_,H,rfl,h79,Sa _⟩
  refine Zd 6 ?_
  refine Yb 41 H (fun c26 H=>?_) fun c26 H=>?_
  ·refine Ze [1,3,4,6,11,48] rfl ?_
   have h80:=(sOR h4 [0,0] [0])
   exact ⟨k1,_,H,rfl,h80,Sa _⟩
  refine Zd 3 ?_
  refine Yb 44 H (fun c27 H=>?_) fun c27 H=>?_
  ·refine Ze [1,3,4,6,11,48] rfl ?_
   have h81:=(sOR h4 [0,0] [0])
   exact ⟨k1,_,H,rfl,h81,Sa _⟩
  refine Ze [1,3,4,6,11,48] rfl ?_
  have h82:=(sOR h4 [0,0] [0])
  exact ⟨k1,_,H,rfl,h82,Sa _⟩
 rintro env w7 ⟨k2,x2,H,rfl,h5,hk2⟩
 rcases k2 with _ | k2
 ·exact z0 H
 rw [Q138.l1] at H
 refine jIf H (fun c1 H=>?_) fun c1 H=>?_
 ·refine T8 (Zb [8] ?_)
  have h6:=sO h5 []
  replace h6:=nf h6
  cases H
  exact T7 (jR0 h6 [])
 refine T9 (T8 (T8 (T6 ?_)))
 refine Zc (Za 0 h5.wht) ?_
 refine cS H [] h5 rfl Q131.spec Zp fun r2 w8 H h7=>?_
 refine Ze [1,3,4,6,11,51] rfl ?_
 refine jIf H (fun c2 H=>?_) fun c2 H=>?_
 ·refine T8 (T6 ?_)
  refine cS H [] h7 rfl Q139.spec (gS [2]) fun r3 w9 H h8=>?_
  refine Ze [8] rfl ?_
  have h9:=sO h8 []
  replace h9:=nf h9
  cases H
  exact T7 (jR0 h9 [])
 refine T9 (T8 (T6 ?_))
 refine Zc (Za 0 h7.wht) ?_
 refine Ye Tryz.func14 ?_
 refine T8 (T6 ?_)
 refine rB (Z9 h7) fun b3 w10 h10=>?_
 refine Ze [1] rfl ?_
 refine T8 (T6 ?_)
 refine Zd 1 ?_
 refine Zc (Za 0 h10.wht) ?_
 refine Zd 1 ?_
 refine Zc (Za 0 h10.wht) ?_
 refine cE H [] h10 rfl Q58.spec Zp ?_
 rintro r4 w11 _ _ H ⟨v1,l1,ho1,rfl,rfl⟩ h11
 rcases ho2:r4.1 with _ | r5
 ·rw [ho2] at ho1
  obtain ⟨rfl,rfl⟩:=ho1
  replace H:=Vz ho2 H
  obtain ⟨c3,H⟩:=Zk H
  replace h11:=nf h11
  refine Ze [1,4,5] rfl ?_
  refine T8 (T6 ?_)
  refine Zc (Za 0 h11.wht) ?_
  refine Zd 1 ?_
  refine Ye Tryz.func35 ?_
  refine T8 (T6 ?_)
  refine rB (Z9 h11) fun b4 w12 h12=>?_
  refine Ze [1,2] rfl ?_
  refine T8 (T8 (T6 ?_))
  refine Zc (Za 0 h12.wht) ?_
  refine cS H [] h12 rfl Q49.spec Zp fun r6 w13 H h13=>?_
  refine Ze [1,2,6] rfl ?_
  refine T8 (Zb [1,2,6,13] ?_)
  refine jIf H (fun c5 H=>?_) fun c5 H=>?_
  ·refine T8 (Zb [4,5] ?_)
   refine T7 (⟨_,Zl,?_⟩)
   refine Ze [4,5,6,7] rfl ?_
   refine T8 (T8 (T6 ?_))
   refine Zd 3 ?_
   refine Yh 24 (congrArg Value.bool c3) ?_
   refine Ze [4,6,27] rfl ?_
   refine Zn ?_
   refine T8 (Zb [2,3] ?_)
   refine T7 (⟨_,Zl,?_⟩)
   refine Ze [1,3,4,6,11,12] rfl ?_
   have h14:=sO h13 [2,2]
   replace h14:=nf h14
   refine T8 (T6 ?_)
   refine Zd 2 ?_
   refine Zc (Za 1 h14.wht) ?_
   refine Zd 1 ?_
   refine cE H [] h14 rfl Q86.spec Zp ?_
   rintro r7 w14 _ _ H ⟨A2,c_2,rfl,rfl⟩ h15
   replace h15:=nf h15
   refine Ze [1,4,11,12,14,15] rfl ?_
   refine T8 (T8 (Zb [1,4,12,14,15,75] ?_))
   refine Zn ?_
   refine T8 (Zb [8] ?_)
   have h16:=sO h15 []
   replace h16:=nf h16
   cases H
   exact T7 (jR0 h16 [])
  refine T9 (T8 (T6 ?_))
  refine Zd 2 ?_
  refine Zc (Za 0 h13.wht) ?_
  refine Ye Tryz.func85 ?_
  refine T8 (Zb [0,1] ?_)
  refine T8 (T0 (T8 (T6 ?_)))
  refine Zd 1 ?_
  refine Ye Tryz.func37 ?_
  refine T8 (Zb [0] ?_)
  refine T8 (T8 (Zb [0,11] ?_))
  refine Zn ?_
  refine T8 (Zb [2] ?_)
  refine T7 (⟨_,Zl,?_⟩)
  refine Ze [0,1,10] rfl ?_
  refine Zn ?_
  refine T8 (Zb [4,5] ?_)
  refine T7 (⟨_,Zl,?_⟩)
  refine Ze [1,2,7,8] rfl ?_
  refine T8 (T8 (Zb [1,2,7,8,23] ?_))
  refine Zn ?_
  refine T8 (Zb [4,5] ?_)
  refine T7 (⟨_,Zl,?_⟩)
  refine Ze [4,5,6,7] rfl ?_
  refine T8 (T8 (T6 ?_))
  refine Zd 3 ?_
  refine Yh 24 (congrArg Value.bool c3) ?_
  refine Ze [4,6,27] rfl ?_
  refine Zn ?_
  refine T8 (Zb [2,3] ?_)
  refine T7 (⟨_,Zl,?_⟩)
  refine Ze [1,3,4,6,11,12] rfl ?_
  have h17:=sO h13 [2,2]
  replace h17:=nf h17
  refine T8 (T6 ?_)
  refine Zd 2 ?_
  refine Zc (Za 1 h17.wht) ?_
  refine Zd 1 ?_
  refine cE H [] h17 rfl Q86.spec Zp ?_
  rintro r8 w15 _ _ H ⟨A3,c_3,rfl,rfl⟩ h18
  replace h18:=nf h18
  refine Ze [1,4,11,12,14,15] rfl ?_
  refine T8 (T8 (Zb [1,4,12,14,15,75] ?_))
  refine Zn ?_
  refine T8 (Zb [8] ?_)
  have h19:=sO h18 []
  replace h19:=nf h19
  cases H
  exact T7 (jR0 h19 [])
 rw [ho2] at ho1
 obtain ⟨b5,A4,c_4,rfl,rfl⟩:=ho1
 replace H:=Vw ho2 H
 obtain ⟨c4,H⟩:=Zk H
 replace h11:=nf h11
 refine Ze [1,4,5] rfl ?_
 refine T8 (T6 ?_)
 refine Zc (Za 2 h11.wht) ?_
 refine Zd 1 ?_
 refine Ye Tryz.func35 ?_
 refine T8 (T6 ?_)
 refine rB (Z9 h11) fun b6 w16 h20=>?_
 refine Ze [1,2] rfl ?_
 refine T8 (T8 (T6 ?_))
 refine Zc (Za 0 h20.wht) ?_
 refine cS H [] h20 rfl Q49.spec Zp fun r9 w17 H h21=>?_
 refine Ze [1,2,6] rfl ?_
 refine T8 (Zb [1,2,6,13] ?_)
 refine jIf H (fun c6 H=>?_) fun c6 H=>?_
 ·refine T8 (Zb [4,5] ?_)
  refine T7 (⟨_,Zl,?_⟩)
  refine Ze [4,5,6,7] rfl ?_
  refine T8 (T8 (T6 ?_))
  refine Zd 3 ?_
  refine Yh 24 (congrArg Value.bool c4) ?_
  refine Ze [4,6,27] rfl ?_
  refine T1 rfl (fun e=>?_) (fun e=>by rw [c6] at e; cases e)
  refine T8 (Zb [2,3] ?_)
  refine T7 (⟨_,Zl,?_⟩)
  refine Ze [1,3,4,6,11,12] rfl ?_
  have h22:=sO h21 [4,4]
  replace h22:=nf h22
  refine T8 (T6 ?_)
  refine Zd 2 ?_
  refine Zc (Za 1 h22.wht) ?_
  refine Zd 1 ?_
  refine cE H [] h22 rfl Q86.spec Zp ?_
  rintro r10 w18 _ _ H ⟨A5,c_5,rfl,rfl⟩ h23
  replace h23:=nf h23
  refine Ze [1,4,11,12,14,15] rfl ?_
  refine T8 (T8 (Zb [1,4,12,14,15,75] ?_))
  refine Zn ?_
  refine T8 (Zb [8] ?_)
  have h24:=sO h23 []
  replace h24:=nf h24
  cases H
  exact T7 (jR0 h24 [])
 refine T9 (T8 (T6 ?_))
 refine Zd 2 ?_
 refine Zc (Za 0 h21.wht) ?_
 refine Ye Tryz.func85 ?_
 refine T8 (Zb [0,1] ?_)
 refine T8 (T0 (T8 (T6 ?_)))
 refine Zd 1 ?_
 refine cS H [1,1] h21 rfl Q54.spec Zp fun r11 w19 H h25=>?_
 refine Ze [0,1,10] rfl ?_
 refine jIf H (fun c7 H=>?_) fun c7 H=>?_
 ·refine T8 (Zb [4,5] ?_)
  refine T7 (⟨_,Zl,?_⟩)
  refine Ze [1,2,7,8] rfl ?_
  refine T8 (T8 (Zb [1,2,7,8,23] ?_))
  refine Zn ?_
  refine T8 (Zb [4,5] ?_)
  refine T7 (⟨_,Zl,?_⟩)
  refine Ze [4,5,6,7] rfl ?_
  refine T8 (T8 (T6 ?_))
  refine Zd 3 ?_
  refine Yh 24 (congrArg Value.bool c4) ?_
  refine Ze [4,6,27] rfl ?_
  refine Zn ?_
  refine T8 (Zb [2,3] ?_)
  refine T7 (⟨_,Zl,?_⟩)
  refine Ze [1,3,4,6,11,12] rfl ?_
  have h26:=sO h25 [4,4]
  replace h26:=nf h26
  refine T8 (T6 ?_)
  refine Zd 2 ?_
  refine Zc (Za 1 h26.wht) ?_
  refine Zd 1 ?_
  refine cE H [] h26 rfl Q86.spec Zp ?_
  rintro r12 w20 _ _ H ⟨A6,c_6,rfl,rfl⟩ h27
  replace h27:=nf h27
  refine Ze [1,4,11,12,14,15] rfl ?_
  refine T8 (T8 (Zb [1,4,12,14,15,75] ?_))
  refine Zn ?_
  refine T8 (Zb [8] ?_)
  have h28:=sO h27 []
  replace h28:=nf h28
  cases H
  exact T7 (jR0 h28 [])
 refine T8 (T6 ?_)
 refine Zd 3 ?_
 refine Yb 17 H (fun c8 H=>?_) fun c8 H=>?_
 ·refine Ze [0,1,14] rfl ?_
  refine Zn ?_
  refine T8 (Zb [4,5] ?_)
  refine T7 (⟨_,Zl,?_⟩)
  refine Ze [1,2,7,8] rfl ?_
  refine T8 (T8 (Zb [1,2,7,8,23] ?_))
  refine Zn ?_
  refine T8 (Zb [4,5] ?_)
  refine T7 (⟨_,Zl,?_⟩)
  refine Ze [4,5,6,7] rfl ?_
  refine T8 (T8 (T6 ?_))
  refine Zd 3 ?_
  refine Yh 24 (congrArg Value.bool c4) ?_
  refine Ze [4,6,27] rfl ?_
  refine Zn ?_
  refine T8 (Zb [2,3] ?_)
  refine T7 (⟨_,Zl,?_⟩)
  refine Ze [1,3,4,6,11,12] rfl ?_
  have h29:=sO h25 [4,4]
  replace h29:=nf h29
  refine T8 (T6 ?_)
  refine Zd 2 ?_
  refine Zc (Za 1 h29.wht) ?_
  refine Zd 1 ?_
  refine cE H [] h29 rfl Q86.spec Zp ?_
  rintro r13 w21 _ _ H ⟨A7,c_7,rfl,rfl⟩ h30
  replace h30:=nf h30
  refine Ze [1,4,11,12,14,15] rfl ?_
  refine T8 (T8 (Zb [1,4,12,14,15,75] ?_))
  refine Zn ?_
  refine T8 (Zb [8] ?_)
  have h31:=sO h30 []
  replace h31:=nf h31
  cases H
  exact T7 (jR0 h31 [])
 refine Ze [0,1,14] rfl ?_
 refine jIf H (fun c9 H=>?_) fun c9 H=>?_
 ·refine T8 (Zb [4,5] ?_)
  refine T7 (⟨_,Zl,?_⟩)
  refine Ze [1,2,7,8] rfl ?_
  refine T8 (T8 (Zb [1,2,7,8,23] ?_))
  refine Zn ?_
  refine T8 (Zb [4,5] ?_)
  refine T7 (⟨_,Zl,?_⟩)
  refine Ze [4,5,6,7] rfl ?_
  refine T8 (T8 (T6 ?_))
  refine Zd 3 ?_
  refine Yh 24 (congrArg Value.bool c4) ?_
  refine Ze [4,6,27] rfl ?_
  refine Zn ?_
  refine T8 (Zb [2,3] ?_)
  refine T7 (⟨_,Zl,?_⟩)
  refine Ze [1,3,4,6,11,12] rfl ?_
  have h32:=sO h25 [4,4]
  replace h32:=nf h32
  refine T8 (T6 ?_)
  refine Zd 2 ?_
  refine Zc (Za 1 h32.wht) ?_
  refine Zd 1 ?_
  refine cE H [] h32 rfl Q86.spec Zp ?_
  rintro r14 w22 _ _ H ⟨A8,c_8,rfl,rfl⟩ h33
  replace h33:=nf h33
  refine Ze [1,4,11,12,14,15] rfl ?_
  refine T8 (T8 (Zb [1,4,12,14,15,75] ?_))
  refine Zn ?_
  refine T8 (Zb [8] ?_)
  have h34:=sO h33 []
  replace h34:=nf h34
  cases H
  exact T7 (jR0 h34 [])
 refine T9 (T8 (T6 ?_))
 refine Zd 1 ?_
 refine cE H [] h25 rfl Q35.spec Zp ?_
 rintro r15 w23 _ _ H ⟨v2,l2,ho3,rfl,rfl⟩ h35
 rcases ho4:r15.1 with _ | r16
 ·rw [ho4] at ho3
  obtain ⟨rfl,rfl⟩:=ho3
  replace H:=Vz ho4 H
  obtain ⟨c10,H⟩:=Zk H
  replace h35:=nf h35
  refine Ze [0,1,6,7] rfl ?_
  refine T8 (T8 (Zb [0,1,6,7,27] ?_))
  refine T1 rfl (fun e=>?_) (fun e=>by rw [c10] at e; cases e)
  refine T8 (Zb [4,5] ?_)
  refine T7 (⟨_,Zl,?_⟩)
  refine Ze [1,2,7,8] rfl ?_
  refine T8 (T8 (Zb [1,2,7,8,23] ?_))
  refine T1 rfl (fun e=>?_) (fun e=>by rw [c10] at e; cases e)
  refine T8 (Zb [4,5] ?_)
  refine T7 (⟨_,Zl,?_⟩)
  refine Ze [4,5,6,7] rfl ?_
  refine T8 (T8 (T6 ?_))
  refine Zd 3 ?_
  refine Yh 24 (congrArg Value.bool c4) ?_
  refine Ze [4,6,27] rfl ?_
  refine T1 rfl (fun e=>?_) (fun e=>by rw [c10] at e; cases e)
  refine T8 (Zb [2,3] ?_)
  refine T7 (⟨_,Zl,?_⟩)
  refine Ze [1,3,4,6,11,12] rfl ?_
  have h36:=sO h35 [4,4]
  replace h36:=nf h36
  refine T8 (T6 ?_)
  refine Zd 2 ?_
  refine Zc (Za 1 h36.wht) ?_
  refine Zd 1 ?_
  refine cE H [] h36 rfl Q86.spec Zp ?_
  rintro r17 w24 _ _ H ⟨A9,c_9,rfl,rfl⟩ h37
  replace h37:=nf h37
  refine Ze [1,4,11,12,14,15] rfl ?_
  refine T8 (T8 (Zb [1,4,12,14,15,75] ?_))
  refine Zn ?_
  refine T8 (Zb [8] ?_)
  have h38:=sO h37 []
  replace h38:=nf h38
  cases H
  exact T7 (jR0 h38 [])
 rw [ho4] at ho3
 obtain ⟨b7,A10,c_10,rfl,rfl⟩:=ho3
 replace H:=Vw ho4 H
 obtain ⟨c11,H⟩:=Zk H
 replace h35:=nf h35
 refine Ze [0,1,6,7] rfl ?_
 refine T8 (T8 (Zb [0,1,6,7,27] ?_))
 refine T1 rfl (fun e=>by rw [c11] at e; cases e) (fun e=>?_)
 refine T9 (T8 (T6 ?_))
 refine Zd 2 ?_
 obtain ⟨⟨p1,p2⟩,H⟩:=Zk H
 refine rB (Zac Z4 (ty:=(.pair (.int .u32) (.pair (.slice 5 (.int .u8)) (.pair .bool (.int .i64))))) ((0,([]:List Int),false,0):Int×List Int×Bool×Int) rfl rfl rfl rfl rfl rfl (fun _ _=>Zg1 ⟨none,0,rfl,Sa _,.inl rfl⟩) (by decide) h35 p1 p2) fun b8 w25 h39=>?_
 refine rB (Gd .u32 (Value.int .i64) h39) fun b9 w26 h40=>?_
 refine Zd 2 ?_
 refine rB (Z9 h40) fun b10 w27 h41=>?_
 refine Ze [1,8] rfl ?_
 refine T8 (T8 (Zb [8,36,37] ?_))
 refine T0 ?_
 have h77:=h41.addNil 3 (.int .i64)
 have h78:=(sOR h77 [1,5,1,2,6,6,5,4,3,1,0,0] [0])
 refine T4 (fun kk env w=>∃ x3 A11 c_11 x4,Q138.l2 kk a0 a1 a2 a3 r5 r16 x1 x3 x4=some r∧env=[(8,.pointer (some ⟨b10,0,none⟩)),(36,.int .i64 a0.2.2.1),(37,.int .i64 x4)]∧St w0 F0 [Xp b10 (.pointer (some ⟨b5,0,none⟩)) (List.replicate a0.2.2.1.toNat ((0,([]:List Int),false,0):Int×List Int×Bool×Int)) (some ⟨b8,0,none⟩) (a0.2.2.1.toNat) (.map (some b9)) x3 A11 c_11 (.pointer (some ⟨b7,0,none⟩)),Xi b5 r5.1 r5.2.1 A4 c_4 r5.2.2.1 r5.2.2.2,Xa .u32 (Value.int .i64) b9 ([]:List TW),Y0 b7 r16.1 A10 c_10 r16.2,X23 b1 a0.1 a0.2.1 a0.2.2.1 a0.2.2.2.1 a0.2.2.2.2.1 a0.2.2.2.2.2.1 a0.2.2.2.2.2.2.1 a0.2.2.2.2.2.2.2,X92 b2 a2.1 a2.2.1 a2.2.2,X23 b3 a0.1 a0.2.1 a0.2.2.1 a0.2.2.2.1 a0.2.2.2.2.1 a0.2.2.2.2.2.1 a0.2.2.2.2.2.2.1 a0.2.2.2.2.2.2.2,X23 b6 a0.1 a0.2.1 a0.2.2.1 a0.2.2.2.1 a0.2.2.2.2.1 a0.2.2.2.2.2.1 a0.2.2.2.2.2.2.1 a0.2.2.2.2.2.2.2,O5 r5.2.1 A4 c_4,Xq (List.replicate a0.2.2.1.toNat ((0,([]:List Int),false,0):Int×List Int×Bool×Int)) (some ⟨b8,0,none⟩) (a0.2.2.1.toNat),O3 x3 A11 c_11,Y2 r16.1 A10 c_10] [tabC 0] w) (k:=k2) ⟨_,_,_,_,H,rfl,h78⟩ ?_
 rintro k3 env w28 ⟨x3,A11,c_11,x4,H,rfl,h42⟩
 rcases k3 with _ | k3
 ·exact z0 H
 rw [Q138.l2] at H
 refine T8 (Zb [8,36,37,38] ?_)
 refine T8 (jIf H (fun c12 H=>?_) fun c12 H=>?_)
 ·refine T9 (T8 (T0 (T8 (Zb [8,9,36,37] ?_))))
  refine T6 (Zd 4 ?_)
  refine Zc (Za 0 h42.wht) ?_
  refine Zd 1 ?_
  refine rB (Z1 (.int .i64) ([x4]:List Int) h42) fun b11 w29 h43=>?_
  obtain ⟨p3,H⟩:=Zk H
  refine Zs (Zr 11 h43 (gO 0) p3) ?_
  rintro _ w30 ⟨A12,c_12,rfl,h44⟩
  replace h44:=nf h44
  refine Zd 2 ?_
  refine rS (Zt 2 h44) fun _ w31 h45=>?_
  refine Ze [8,36,37] rfl ?_
  refine Zb [8,36,37] ?_
  have h46:=(sOR h45 [0,2,2,2,2,2,2,2,2,2,0,1] [0])
  exact ⟨k3,by omega,_,_,_,_,H,rfl,h46⟩
 refine T3 (T8 (Zb [4,5] ?_))
 refine T7 (⟨_,Zl,?_⟩)
 refine Ze [1,2,7,8] rfl ?_
 refine T8 (T8 (Zb [1,2,7,8,23] ?_))
 refine Z6 ?_
 refine T9 (T8 (T8 ?_))
 refine jH h42 fun h47=>?_
 refine Zo [0,2] ?_
 refine Zf 3 rfl (Za 7 wI) ?_
 refine cEJ 1 rfl H [1,7] h47 rfl Q54.spec Zp ?_
 rintro r18 w32 _ _ H ⟨rfl,rfl⟩ h48
 replace h48:=nf h48
 refine ⟨⟨[],(sO h48 [2,0,1,1,1,1,1,1,0,0,0,0])⟩,?_⟩
 refine Zo [4,5] ?_
 refine X8 30 H (fun c13 H=>?_) fun c13 H=>?_
 ·refine Zo [6,7,8,9,10,11] ?_
  refine Zw [1,2,7,36] ?_
  refine Zn ?_
  refine T8 (Zb [4,5] ?_)
  refine T7 (⟨_,Zl,?_⟩)
  refine Ze [4,5,6,7] rfl ?_
  refine T8 (T8 (T6 ?_))
  refine Zd 3 ?_
  refine Yh 24 (congrArg Value.bool c4) ?_
  refine Ze [4,6,27] rfl ?_
  refine Zn ?_
  refine T8 (Zb [2,3] ?_)
  refine T7 (⟨_,Zl,?_⟩)
  refine Ze [1,3,4,6,11,12] rfl ?_
  have h49:=sO h48 [5,5]
  replace h49:=nf h49
  refine T8 (T6 ?_)
  refine Zd 2 ?_
  refine Zc (Za 1 h49.wht) ?_
  refine Zd 1 ?_
  refine cE H [] h49 rfl Q86.spec Zp ?_
  rintro r19 w33 _ _ H ⟨A13,c_13,rfl,rfl⟩ h50
  replace h50:=nf h50
  refine Ze [1,4,11,12,14,15] rfl ?_
  refine T8 (T8 (Zb [1,4,12,14,15,75] ?_))
  refine Zn ?_
  refine T8 (Zb [8] ?_)
  have h51:=sO h50 []
  replace h51:=nf h51
  cases H
  exact T7 (jR0 h51 [])
 refine Zo [6,8] ?_
 refine Zf 9 rfl (Za 7 wI) ?_
 refine cEJ 7 rfl H [0,0] h48 rfl Q55.spec Zp ?_
 rintro r20 w34 _ _ H ⟨rfl,rfl⟩ h52
 replace h52:=nf h52
 refine ⟨⟨[],(sO h52 [2,0,1,1,1,1,1,1,0,0,0,0])⟩,?_⟩
 refine Zo [10,11] ?_
 refine Zw [1,2,7,36] ?_
 refine jIf H (fun c14 H=>?_) fun c14 H=>?_
 ·refine T8 (Zb [4,5] ?_)
  refine T7 (⟨_,Zl,?_⟩)
  refine Ze [4,5,6,7] rfl ?_
  refine T8 (T8 (T6 ?_))
  refine Zd 3 ?_
  refine Yh 24 (congrArg Value.bool c4) ?_
  refine Ze [4,6,27] rfl ?_
  refine Zn ?_
  refine T8 (Zb [2,3] ?_)
  refine T7 (⟨_,Zl,?_⟩)
  refine Ze [1,3,4,6,11,12] rfl ?_
  have h53:=sO h52 [5,5]
  replace h53:=nf h53
  refine T8 (T6 ?_)
  refine Zd 2 ?_
  refine Zc (Za 1 h53.wht) ?_
  refine Zd 1 ?_
  refine cE H [] h53 rfl Q86.spec Zp ?_
  rintro r21 w35 _ _ H ⟨A14,c_14,rfl,rfl⟩ h54
  replace h54:=nf h54
  refine Ze [1,4,11,12,14,15] rfl ?_
  refine T8 (T8 (Zb [1,4,12,14,15,75] ?_))
  refine Zn ?_
  refine T8 (Zb [8] ?_)
  have h55:=sO h54 []
  replace h55:=nf h55
  cases H
  exact T7 (jR0 h55 [])
 refine T9 (T8 (T6 ?_))
 refine Zd 1 ?_
 refine Zc (Za 8 h52.wht) ?_
 refine cE H [] h52 rfl Q79.spec Zp ?_
 rintro r22 w36 _ _ H ⟨v3,l3,ho5,rfl,rfl⟩ h56
 rcases ho6:r22.1 with _ | r23
 ·rw [ho6] at ho5
  obtain ⟨rfl,rfl⟩:=ho5
  replace H:=Vz ho6 H
  obtain ⟨c15,H⟩:=Zk H
  replace h56:=nf h56
  refine Ze [1,2,7,8,9] rfl ?_
  refine T8 (T8 (Zb [1,2,7,8,9,44] ?_))
  refine T1 rfl (fun e=>?_) (fun e=>by rw [c15] at e; cases e)
  refine T8 (Zb [4,5] ?_)
  refine T7 (⟨_,Zl,?_⟩)
  refine Ze [4,5,6,7] rfl ?_
  refine T8 (T8 (T6 ?_))
  refine Zd 3 ?_
  refine Yh 24 (congrArg Value.bool c4) ?_
  refine Ze [4,6,27] rfl ?_
  refine T1 rfl (fun e=>?_) (fun e=>by rw [c15] at e; cases e)
  refine T8 (Zb [2,3] ?_)
  refine T7 (⟨_,Zl,?_⟩)
  refine Ze [1,3,4,6,11,12] rfl ?_
  have h57:=sO h56 [5,5]
  replace h57:=nf h57
  refine T8 (T6 ?_)
  refine Zd 2 ?_
  refine Zc (Za 1 h57.wht) ?_
  refine Zd 1 ?_
  refine cE H [] h57 rfl Q86.spec Zp ?_
  rintro r24 w37 _ _ H ⟨A15,c_15,rfl,rfl⟩ h58
  replace h58:=nf h58
  refine Ze [1,4,11,12,14,15] rfl ?_
  refine T8 (T8 (Zb [1,4,12,14,15,75] ?_))
  refine Zn ?_
  refine T8 (Zb [8] ?_)
  have h59:=sO h58 []
  replace h59:=nf h59
  cases H
  exact T7 (jR0 h59 [])
 rw [ho6] at ho5
 obtain ⟨b12,b13,A16,c_16,rfl,rfl⟩:=ho5
 replace H:=Vw ho6 H
 obtain ⟨c16,H⟩:=Zk H
 replace h56:=nf h56
 refine Ze [1,2,7,8,9] rfl ?_
 refine T8 (T8 (Zb [1,2,7,8,9,44] ?_))
 refine T1 rfl (fun e=>by rw [c16] at e; cases e) (fun e=>?_)
 refine T9 (T8 (T6 ?_))
 refine Zc (Za 11 h56.wht) ?_
 refine Zd 4 ?_
 refine rB (Z9 h56) fun b14 w38 h60=>?_
 refine Ze [4,5] rfl ?_
 refine T7 (⟨_,Zl,?_⟩)
 refine Ze [4,5,6,7] rfl ?_
 refine T8 (T8 (T6 ?_))
 refine Zd 3 ?_
 refine Yh 24 (congrArg Value.bool c4) ?_
 refine Ze [4,6,27] rfl ?_
 refine Z6 ?_
 refine T9 (T8 (Zb [2,3] ?_))
 refine T7 (⟨_,Zl,?_⟩)
 refine Ze [1,3,4,6,11,12] rfl ?_
 have h61:=sO h60 [0,0,0,0,0,0,0,0,0,0,0,2,2,2]
 replace h61:=nf h61
 refine T8 (T6 ?_)
 refine Zd 2 ?_
 refine Zc (Za 10 h61.wht) ?_
 refine Zd 1 ?_
 refine cE H [0,5,3,3,7,3,6,3,5,0,0,0] h61 rfl Q85.spec Zp ?_
 rintro r25 w39 _ _ H ⟨A17,c_17,A18,c_18,A19,c_19,A20,c_20,A21,c_21,A22,c_22,rfl,rfl⟩ h62
 replace h62:=nf h62
 refine Ze [1,4,11,12,14,15] rfl ?_
 refine T8 (T8 ?_)
 refine T5 (fun env w=>∃ k4 x5,Q138.l3 k4 a0 a1 r25 x5=some r∧env=[(1,.int .u32 a1),(4,.pointer (some ⟨b1,0,none⟩)),(12,.pointer (some ⟨b14,0,none⟩)),(14,.slice A17 r25.1.length c_17),(15,.int .i64 r25.2.1),(75,.bool x5)]∧St w0 F0 [X23 b1 a0.1 a0.2.1 a0.2.2.1 a0.2.2.2.1 a0.2.2.2.2.1 a0.2.2.2.2.2.1 a0.2.2.2.2.2.2.1 a0.2.2.2.2.2.2.2,X83 b14 r25.2.2.1.1 r25.2.2.1.2.1 r25.2.2.1.2.2.1 r25.2.2.1.2.2.2.1 r25.2.2.1.2.2.2.2.1 r25.2.2.1.2.2.2.2.2.1 r25.2.2.1.2.2.2.2.2.2.1 r25.2.2.1.2.2.2.2.2.2.2 (.pointer (some ⟨b5,0,none⟩)) (.pointer (some ⟨b10,0,none⟩)) (.pointer (some ⟨b12,0,none⟩)) r25.2.2.2.2.2,Xi b5 r25.2.2.2.1.1.1 r25.2.2.2.1.1.2.1 A18 c_18 r25.2.2.2.1.1.2.2.1 r25.2.2.2.1.1.2.2.2,Xp b10 (.pointer (some ⟨b5,0,none⟩)) r25.2.2.2.1.2.1 A19 c_19 (.map (some b9)) r25.2.2.2.1.2.2.2.1 A20 c_20 (.pointer (some ⟨b7,0,none⟩)),Xa .u32 (Value.int .i64) b9 r25.2.2.2.1.2.2.1,Y0 b7 r25.2.2.2.1.2.2.2.2.1 A21 c_21 r25.2.2.2.1.2.2.2.2.2,Vl b12 (.pointer (some ⟨b13,0,none⟩)),Xy b13 r25.2.2.2.2.1.1 r25.2.2.2.2.1.2.1 r25.2.2.2.2.1.2.2 A22 c_22,O5 r25.2.2.2.1.1.2.1 A18 c_18,Xq r25.2.2.2.1.2.1 A19 c_19,O3 r25.2.2.2.1.2.2.2.1 A20 c_20,Y2 r25.2.2.2.1.2.2.2.2.1 A21 c_21,O61 r25.2.2.2.2.1.2.2 A22 c_22,Xt r25.1 A17 c_17] [tabC 0] w∧k4≤k3) ?_ ?_
 ·refine T6 (Zd 8 ?_)
  refine Yb 73 H (fun c24 H=>?_) fun c24 H=>?_
  ·refine Ze [1,4,12,14,15,75] rfl ?_
   have h75:=(sOR h62 [13,1,2,1,3,4,5,5,1,1,1,1,1,0] [0])
   exact ⟨k3,_,H,rfl,h75,Sa _⟩
  refine Ze [1,4,12,14,15,75] rfl ?_
  have h76:=(sOR h62 [13,1,2,1,3,4,5,5,1,1,1,1,1,0] [0])
  exact ⟨k3,_,H,rfl,h76,Sa _⟩
 rintro env w41 ⟨k4,x5,H,rfl,h63,hk4⟩
 rcases k4 with _ | k4
 ·exact z0 H
 rw [Q138.l3] at H
 refine jIf H (fun c17 H=>?_) fun c17 H=>?_
 ·refine T8 (T6 ?_)
  refine Zd 8 ?_
  refine Yb 83 H (fun c18 H=>?_) fun c18 H=>?_
  ·refine Zd 4 ?_
   refine Yb 87 H (fun c19 H=>?_) fun c19 H=>?_
   ·refine cS H [] h63 rfl Q139.spec (gS [14]) fun r26 w42 H h64=>?_
    refine Ze [8] rfl ?_
    have h65:=sO h64 []
    replace h65:=nf h65
    cases H
    exact T7 (jR0 h65 [])
   refine Ze [8] rfl ?_
   have h66:=sO h63 []
   replace h66:=nf h66
   cases H
   exact T7 (jR0 h66 [])
  refine Ze [8] rfl ?_
  have h67:=sO h63 []
  replace h67:=nf h67
  cases H
  exact T7 (jR0 h67 [])
 refine T9 (T8 (T8 ?_))
 refine T5 (fun env w=>∃ k5 x6,Q138.l4 k5 r25 x6=some r∧env=[(15,.int .i64 r25.2.1),(98,.bool x6)]∧St w0 F0 [] [tabC 0] w∧k5≤k4) ?_ ?_
 ·refine T6 (Zd 3 ?_)
  refine Yb 92 H (fun c23 H=>?_) fun c23 H=>?_
  ·refine Zd 3 ?_
   refine Zc (Za 0 h63.wht) ?_
   refine Ze [15,98] rfl ?_
   have h71:=sO h63 []
   replace h71:=nf h71
   have h72:=(sOR h71 [] [0])
   exact ⟨k4,_,H,rfl,h72,Sa _⟩
  refine Ze [15,98] rfl ?_
  have h73:=sO h63 []
  replace h73:=nf h73
  have h74:=(sOR h73 [] [0])
  exact ⟨k4,_,H,rfl,h74,Sa _⟩
 rintro env w44 ⟨k5,x6,H,rfl,h68,hk5⟩
 rcases k5 with _ | k5
 ·exact z0 H
 rw [Q138.l4] at H
 refine jIf H (fun c20 H=>?_) fun c20 H=>?_
 ·refine T8 (T6 ?_)
  refine Zd 3 ?_
  refine Yb 101 H (fun c21 H=>?_) fun c21 H=>?_
  ·refine cS H [] h68 rfl Q139.spec (gS [0]) fun r27 w45 H h69=>?_
   refine Ze [8] rfl ?_
   cases H
   exact T7 (jR0 h69 [])
  refine Ze [8] rfl ?_
  cases H
  exact T7 (jR0 h68 [])
 refine T9 (T8 (T6 ?_))
 refine Zd 3 ?_
 refine Yb 106 H (fun c22 H=>?_) fun c22 H=>?_
 ·refine cS H [] h68 rfl Q139.spec (gS [0]) fun r28 w46 H h70=>?_
  refine Ze [8] rfl ?_
  cases H
  exact T7 (jR0 h70 [])
 refine Ze [8] rfl ?_
 cases H
 exact T7 (jR0 h68 [])

end Go.SK.T
