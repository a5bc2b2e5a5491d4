/- sortedkeys -/
import Derived.Test.YtoemkinhdomnpaaXCacheReadsF5
set_option linter.unusedVariables false
set_option linter.unusedSimpArgs false
set_option maxRecDepth 20000
set_option maxHeartbeats 40000000
namespace Go.SK.T
open Go Go.SK Go.Proofs
def Q54.f (es : List (Int × Int)) : Option (List Int) := if W6 es = true then some ((es.map Prod.fst).mergeSort fun x y => decide (x ≤ y)) else none
theorem keys.spec {mb : Nat} : Spec Try.prog 102 [.map (some mb)] [] [] (fun v l => ∃ b : Nat, v = .func (.func 145) #[] #[.pointer (some ⟨b, 0, none⟩)] ∧ l = [Yr b 109 [.map (some mb)]]) := by
 refine Spec.enter Try.func102 rfl (by kernel_rfl) (by kernel_rfl) fun w0 F0 h0 => ?_
 refine J.seq (J.region ?_)
 refine RJ.op rfl rfl (Zd7 rfl rfl h0) ?_
 rintro _ w1 ⟨b1, rfl, h1⟩
 replace h1 : St w0 F0 [Yr b1 109 [.map (some mb)]] _ _ := h1
 refine RJ.run Xh 1 rfl ?_
 refine RJ.fin [(1, .pointer (some ⟨b1, 0, none⟩))] rfl ?_
 refine J.seq (J.region ?_)
 refine RJ.run Xh 2 rfl ?_
 refine RJ.fin [(2, .func (.func 145) #[] #[.pointer (some ⟨b1, 0, none⟩)])] rfl ?_
 refine J.ret ?_
 exact ⟨_, _, _, Vd rfl, ⟨_, rfl, rfl⟩, h1.only [0] rfl⟩
theorem Q54.spec {kb mb : Nat} {es : List (Int × Int)} {r : List Int} (H : Q54.f es = some r) : Spec Try.prog 101 [.func (.func 145) #[] #[.pointer (some ⟨kb, 0, none⟩)]] [Yr kb 109 [.map (some mb)], Z8 .u32 (Value.int .i64) mb es] []
  (fun v l => ∃ (A_0 : Option Addr) (c_0 : Nat), v = .slice A_0 r.length c_0 ∧ l = [Yh 23 (.int .u32) r (.slice A_0 r.length c_0), Yr kb 109 [.map (some mb)], Z8 .u32 (Value.int .i64) mb es]) := by
 unfold Q54.f at H
 by_cases hok : W6 es = true
 ·rw [if_pos hok] at H
  have hl : es.length < 200 := by
   simp only [W6, Bool.and_eq_true, decide_eq_true_eq] at hok
   exact hok.1
  refine Spec.enter Try.func101 rfl (by kernel_rfl) (by kernel_rfl) fun w0 F0 h0 => ?_
  refine J.seq (J.region ?_)
  refine RJ.run Xh 1 rfl ?_
  refine RJ.fin [(0, .func (.func 145) #[] #[.pointer (some ⟨kb, 0, none⟩)])] rfl ?_
  refine J.seq (J.region ?_)
  refine RJ.run Xh 1 rfl ?_
  refine RJ.op rfl rfl (Bw [0, 0] (collect.spec hok) rfl rfl rfl h0 rfl Zt) ?_
  rintro _ w1 ⟨_, ⟨ss, A, c, hp, rfl, rfl⟩, h1⟩
  replace h1 : St w0 F0 [Yh 23 (.int .u32) ss (.slice A ss.length c), Yr kb 109 [.map (some mb)], Z8 .u32 (Value.int .i64) mb es] _ _ := h1
  refine RJ.run Xh 1 rfl ?_
  refine RJ.fin [(3, .slice A ss.length c)] rfl ?_
  have hs : ss.length = es.length := by rw [hp.length_eq, List.length_map]
  obtain ⟨k0, hk⟩ := Zhe (l := ss) (by omega)
  have hq := hk k0 (Nat.le_refl _)
  have hm : (ss.mergeSort fun x y => decide (x ≤ y)) = r := by
   rw [← Option.some.inj H]
   exact mergeSort_of_perm_i hp
  have hlen : ss.length = r.length := by rw [← hm, List.length_mergeSort]
  dsimp only at hq
  rw [hm] at hq
  refine J.seq (J.region ?_)
  refine RJ.run Xh 1 rfl ?_
  refine RJ.op rfl rfl (Bw [0] (Q35.spec hq) rfl rfl rfl h1 rfl Zt) ?_
  rintro _ w2 ⟨_, ⟨rfl, rfl, _⟩, h2⟩
  replace h2 : St w0 F0 [Yh 23 (.int .u32) r (.slice A r.length c), Yr kb 109 [.map (some mb)], Z8 .u32 (Value.int .i64) mb es] _ _ := h2
  refine RJ.fin [(3, .slice A ss.length c)] rfl ?_
  refine J.seq (J.region ?_)
  refine RJ.run Xh 2 rfl ?_
  refine RJ.fin [(2, .slice A ss.length c)] rfl ?_
  refine J.ret ?_
  exact ⟨_, _, _, Vd rfl, ⟨A, c, by rw [← hlen]; rfl, rfl⟩, h2.only [0, 0, 0] rfl⟩
 ·rw [if_neg hok] at H; cases H
end Go.SK.T
