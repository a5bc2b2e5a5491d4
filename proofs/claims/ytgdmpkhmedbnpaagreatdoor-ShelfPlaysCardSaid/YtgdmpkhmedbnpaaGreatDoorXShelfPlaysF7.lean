/- sortedkeys -/
import Derived.Test.YtgdmpkhmedbnpaaGreatDoorXShelfPlaysF6
set_option linter.unusedVariables false
set_option linter.unusedSimpArgs false
set_option maxRecDepth 20000
set_option maxHeartbeats 40000000
namespace Go.SK.T
open Go Go.SK Go.Proofs
def Q175.f (es:TL):Option TV:=if Jg es=true then some ((es.map Prod.fst).mergeSort fun x y=>decide (x≤y)) else none
theorem keys.spec {mb:Nat}:Spec Tryz.prog 159 [.map (some mb)] [] [] (fun v l=>∃ b:Nat,v=.func (.func 197) #[] #[.pointer (some ⟨b,0,none⟩)]∧l=[Yv b 165 [.map (some mb)]]):=by
 refine Spec.enter Tryz.func159 rfl (by kernel_rfl) (by kernel_rfl) fun w0 F0 h0=>?_
 refine T5 (T3 ?_)
 refine RJ.op rfl rfl (Zlb rfl rfl h0) ?_
 rintro _ w1 ⟨b1,rfl,h1⟩
 replace h1:St w0 F0 [Yv b1 165 [.map (some mb)]] _ _:=h1
 refine Sa Yi 1 rfl ?_
 refine RJ.fin [(1,.pointer (some ⟨b1,0,none⟩))] rfl ?_
 refine T5 (T3 ?_)
 refine Sa Yi 2 rfl ?_
 refine RJ.fin [(2,.func (.func 197) #[] #[.pointer (some ⟨b1,0,none⟩)])] rfl ?_
 refine T4 ?_
 exact ⟨_,_,_,Wz rfl,⟨_,rfl,rfl⟩,h1.only [0] rfl⟩
theorem Q175.spec {kb mb:Nat} {es:TL} {r:TV} (H:Q175.f es=some r):Spec Tryz.prog 158 [.func (.func 197) #[] #[.pointer (some ⟨kb,0,none⟩)]] [Yv kb 165 [.map (some mb)],Y2 .u32 (Value.int .i64) mb es] []
  (fun v l=>∃(A_0:Option Addr) (c_0:Nat),v=.slice A_0 r.length c_0∧l=[Yj 33 (.int .u32) r (.slice A_0 r.length c_0),Yv kb 165 [.map (some mb)],Y2 .u32 (Value.int .i64) mb es]):=by
 unfold Q175.f at H
 by_cases hok:Jg es=true
 ·rw [if_pos hok] at H
  have hl:es.length<200:=by
   simp only [Jg,Bool.and_eq_true,decide_eq_true_eq] at hok
   exact hok.1
  refine Spec.enter Tryz.func158 rfl (by kernel_rfl) (by kernel_rfl) fun w0 F0 h0=>?_
  refine T5 (T3 ?_)
  refine Sa Yi 1 rfl ?_
  refine RJ.fin [(0,.func (.func 197) #[] #[.pointer (some ⟨kb,0,none⟩)])] rfl ?_
  refine T5 (T3 ?_)
  refine Sa Yi 1 rfl ?_
  refine RJ.op rfl rfl (Uw [0,0] (collect.spec hok) rfl rfl rfl h0 rfl Zq) ?_
  rintro _ w1 ⟨_,⟨ss,A,c,hp,rfl,rfl⟩,h1⟩
  replace h1:St w0 F0 [Yj 33 (.int .u32) ss (.slice A ss.length c),Yv kb 165 [.map (some mb)],Y2 .u32 (Value.int .i64) mb es] _ _:=h1
  refine Sa Yi 1 rfl ?_
  refine RJ.fin [(3,.slice A ss.length c)] rfl ?_
  have hs:ss.length=es.length:=by rw [hp.length_eq,List.length_map]
  obtain ⟨k0,hk⟩:=Zm3 (l:=ss) (by omega)
  have hq:=hk k0 (T7 _)
  have hm:(ss.mergeSort fun x y=>decide (x≤y))=r:=by
   rw [← Option.some.inj H]
   exact mergeSort_of_perm_i hp
  have hlen:ss.length=r.length:=by rw [← hm,List.length_mergeSort]
  dsimp only at hq
  rw [hm] at hq
  refine T5 (T3 ?_)
  refine Sa Yi 1 rfl ?_
  refine RJ.op rfl rfl (Uw [0] (Q113.spec hq) rfl rfl rfl h1 rfl Zq) ?_
  rintro _ w2 ⟨_,⟨rfl,rfl,_⟩,h2⟩
  replace h2:St w0 F0 [Yj 33 (.int .u32) r (.slice A r.length c),Yv kb 165 [.map (some mb)],Y2 .u32 (Value.int .i64) mb es] _ _:=h2
  refine RJ.fin [(3,.slice A ss.length c)] rfl ?_
  refine T5 (T3 ?_)
  refine Sa Yi 2 rfl ?_
  refine RJ.fin [(2,.slice A ss.length c)] rfl ?_
  refine T4 ?_
  exact ⟨_,_,_,Wz rfl,⟨A,c,by rw [← hlen]; rfl,rfl⟩,h2.only [0,0,0] rfl⟩
 ·rw [if_neg hok] at H; cases H
end Go.SK.T
