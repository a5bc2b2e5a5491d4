/- sortedkeys -/
import Derived.Test.YtgdmpkhmedbnpaaGreatDoorXShelfFlushedF6
set_option linter.unusedVariables false
set_option linter.unusedSimpArgs false
set_option maxRecDepth 20000
set_option maxHeartbeats 40000000
namespace Go.SK.T
open Go Go.SK Go.Proofs
def Q166.f (es:TJ):Option TU:=if U7 es=true then some ((es.map Prod.fst).mergeSort fun x y=>decide (x≤y)) else none
theorem keys.spec {mb:Nat}:Spec Tryz.prog 159 [.map (some mb)] [] [] (fun v l=>∃ b:Nat,v=.func (.func 197) #[] #[.pointer (some ⟨b,0,none⟩)]∧l=[Ys b 165 [.map (some mb)]]):=by
 refine Spec.enter Tryz.func159 rfl (by kernel_rfl) (by kernel_rfl) fun w0 F0 h0=>?_
 refine T4 (T2 ?_)
 refine RJ.op rfl rfl (Zlc rfl rfl h0) ?_
 rintro _ w1 ⟨b1,rfl,h1⟩
 replace h1:St w0 F0 [Ys b1 165 [.map (some mb)]] _ _:=h1
 refine T9 Yj 1 rfl ?_
 refine RJ.fin [(1,.pointer (some ⟨b1,0,none⟩))] rfl ?_
 refine T4 (T2 ?_)
 refine T9 Yj 2 rfl ?_
 refine RJ.fin [(2,.func (.func 197) #[] #[.pointer (some ⟨b1,0,none⟩)])] rfl ?_
 refine T3 ?_
 exact ⟨_,_,_,Wt rfl,⟨_,rfl,rfl⟩,h1.only [0] rfl⟩
theorem Q166.spec {kb mb:Nat} {es:TJ} {r:TU} (H:Q166.f es=some r):Spec Tryz.prog 158 [.func (.func 197) #[] #[.pointer (some ⟨kb,0,none⟩)]] [Ys kb 165 [.map (some mb)],Y2 .u32 (Value.int .i64) mb es] []
  (fun v l=>∃(A_0:Option Addr) (c_0:Nat),v=.slice A_0 r.length c_0∧l=[Yh 33 (.int .u32) r (.slice A_0 r.length c_0),Ys kb 165 [.map (some mb)],Y2 .u32 (Value.int .i64) mb es]):=by
 unfold Q166.f at H
 by_cases hok:U7 es=true
 ·rw [if_pos hok] at H
  have hl:es.length<200:=by
   simp only [U7,Bool.and_eq_true,decide_eq_true_eq] at hok
   exact hok.1
  refine Spec.enter Tryz.func158 rfl (by kernel_rfl) (by kernel_rfl) fun w0 F0 h0=>?_
  refine T4 (T2 ?_)
  refine T9 Yj 1 rfl ?_
  refine RJ.fin [(0,.func (.func 197) #[] #[.pointer (some ⟨kb,0,none⟩)])] rfl ?_
  refine T4 (T2 ?_)
  refine T9 Yj 1 rfl ?_
  refine RJ.op rfl rfl (Uv [0,0] (collect.spec hok) rfl rfl rfl h0 rfl Zp) ?_
  rintro _ w1 ⟨_,⟨ss,A,c,hp,rfl,rfl⟩,h1⟩
  replace h1:St w0 F0 [Yh 33 (.int .u32) ss (.slice A ss.length c),Ys kb 165 [.map (some mb)],Y2 .u32 (Value.int .i64) mb es] _ _:=h1
  refine T9 Yj 1 rfl ?_
  refine RJ.fin [(3,.slice A ss.length c)] rfl ?_
  have hs:ss.length=es.length:=by rw [hp.length_eq,List.length_map]
  obtain ⟨k0,hk⟩:=Zmu (l:=ss) (by omega)
  have hq:=hk k0 (T6 _)
  have hm:(ss.mergeSort fun x y=>decide (x≤y))=r:=by
   rw [← Option.some.inj H]
   exact mergeSort_of_perm_i hp
  have hlen:ss.length=r.length:=by rw [← hm,List.length_mergeSort]
  dsimp only at hq
  rw [hm] at hq
  refine T4 (T2 ?_)
  refine T9 Yj 1 rfl ?_
  refine RJ.op rfl rfl (Uv [0] (Q107.spec hq) rfl rfl rfl h1 rfl Zp) ?_
  rintro _ w2 ⟨_,⟨rfl,rfl,_⟩,h2⟩
  replace h2:St w0 F0 [Yh 33 (.int .u32) r (.slice A r.length c),Ys kb 165 [.map (some mb)],Y2 .u32 (Value.int .i64) mb es] _ _:=h2
  refine RJ.fin [(3,.slice A ss.length c)] rfl ?_
  refine T4 (T2 ?_)
  refine T9 Yj 2 rfl ?_
  refine RJ.fin [(2,.slice A ss.length c)] rfl ?_
  refine T3 ?_
  exact ⟨_,_,_,Wt rfl,⟨A,c,by rw [← hlen]; rfl,rfl⟩,h2.only [0,0,0] rfl⟩
 ·rw [if_neg hok] at H; cases H
end Go.SK.T
