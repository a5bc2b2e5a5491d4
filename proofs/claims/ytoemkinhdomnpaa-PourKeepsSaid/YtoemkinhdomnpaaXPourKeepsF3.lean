/- The functions, further. -/
import Derived.Test.YtoemkinhdomnpaaXPourKeepsF2
set_option linter.unusedVariables false
set_option linter.unusedSimpArgs false
namespace Go.SK.T
open Go Go.SK Go.Proofs
/-! sluicegate/sluicegatelaw15.awake -/
def sluicegatelaw15_awake.f (k : Nat)  : Option (Bool) := (pour_Pour.f k (0, 0, 0, 0, 16, 0, 0, 0) (1, ([3, 4] : List (Int)), ([([98] : List UInt8)] : List (List UInt8)), ([(([97] : List UInt8), false, ([49] : List UInt8)), (([99] : List UInt8), false, ([50] : List UInt8))] : List (List UInt8 × Bool × List UInt8)), ([] : List (List UInt8 × List UInt8))) 0 (0, ([] : List (Int)), ([] : List (List UInt8)), ([] : List (List UInt8 × Bool × List UInt8)), ([(([97] : List UInt8), ([48] : List UInt8))] : List (List UInt8 × List UInt8))) 9).bind fun r1 => ((pour_Value.f k ([(1, ([3, 4] : List (Int)), ([([98] : List UInt8)] : List (List UInt8)), ([(([97] : List UInt8), false, ([49] : List UInt8)), (([99] : List UInt8), false, ([50] : List UInt8))] : List (List UInt8 × Bool × List UInt8)), ([] : List (List UInt8 × List UInt8))), (0, ([] : List (Int)), ([] : List (List UInt8)), ([] : List (List UInt8 × Bool × List UInt8)), ([(([97] : List UInt8), ([48] : List UInt8))] : List (List UInt8 × List UInt8)))] : List (Int × List (Int) × List (List UInt8) × (List (List UInt8 × Bool × List UInt8)) × (List (List UInt8 × List UInt8)))) ([97] : List UInt8)).bind fun r2 => (if (decide (r1.2.2 = 1)) = true then (if (decide ((r1.1.2.2.2.1.length : Int) = 1)) = true then (if 0 < (r1.1.2.2.2.1.length : Int) then (if (decide (((gt r1.1.2.2.2.1 0).1) = ([99] : List UInt8))) = true then (if (decide ((r1.2.1.2.2.2.2.length : Int) = 1)) = true then (if 0 < (r1.2.1.2.2.2.2.length : Int) then (if (decide (((gt r1.2.1.2.2.2.2 0).2) = ([49] : List UInt8))) = true then (if (decide (r2.1 = ([49] : List UInt8))) = true then (some r2.2) else (some false)) else (some false)) else none) else (some false)) else (some false)) else none) else (some false)) else (some false)))
set_option maxRecDepth 20000 in
set_option maxHeartbeats 40000000 in
theorem sluicegatelaw15_awake.spec {k : Nat}   {r : Bool} (H : sluicegatelaw15_awake.f k  = some r) :
    Spec Try.prog 43 [] [] [] (fun v l => v = .bool r ∧ l = []) := by
  refine Spec.enter Try.func43 rfl (by kernel_rfl) (by kernel_rfl) fun w0 F0 h0 => ?_
  unfold sluicegatelaw15_awake.f at H
  refine J.seq ?_
  refine J.region ?_
  refine RJ.run ttok 1 rfl ?_
  refine RJ.fin [] rfl ?_
  refine J.seq ?_
  refine J.region ?_
  refine RJ.op rfl rfl (op_lit ttok (.int .u32) rfl ([3, 4] : List (Int)) rfl h0 rfl rfl (by decide) rfl rfl rfl rfl rfl rfl rfl) ?_
  rintro _ w1 ⟨b1, rfl, h1⟩
  replace h1 : St w0 F0 [ownC 23 (.int .u32) ([3, 4] : List (Int)) (.slice (some ⟨b1, 0, none⟩) ([3, 4] : List (Int)).length 2)] _ _ := h1
  refine RJ.op rfl rfl (op_lit ttok .str rfl ([([98] : List UInt8)] : List (List UInt8)) rfl h1 rfl rfl (by decide) rfl rfl rfl rfl rfl rfl rfl) ?_
  rintro _ w2 ⟨b2, rfl, h2⟩
  replace h2 : St w0 F0 [ownC 9 .str ([([98] : List UInt8)] : List (List UInt8)) (.slice (some ⟨b2, 0, none⟩) ([([98] : List UInt8)] : List (List UInt8)).length 1), ownC 23 (.int .u32) ([3, 4] : List (Int)) (.slice (some ⟨b1, 0, none⟩) ([3, 4] : List (Int)).length 2)] _ _ := h2
  refine RJ.run ttok 2 rfl ?_
  refine RJ.op rfl rfl (op_lit ttok (.pair .str (.pair .bool .str)) rfl ([(([97] : List UInt8), false, ([49] : List UInt8)), (([99] : List UInt8), false, ([50] : List UInt8))] : List (List UInt8 × Bool × List UInt8)) rfl h2 rfl rfl (by decide) rfl rfl rfl rfl rfl rfl rfl) ?_
  rintro _ w3 ⟨b3, rfl, h3⟩
  replace h3 : St w0 F0 [ownC 135 (.pair .str (.pair .bool .str)) ([(([97] : List UInt8), false, ([49] : List UInt8)), (([99] : List UInt8), false, ([50] : List UInt8))] : List (List UInt8 × Bool × List UInt8)) (.slice (some ⟨b3, 0, none⟩) ([(([97] : List UInt8), false, ([49] : List UInt8)), (([99] : List UInt8), false, ([50] : List UInt8))] : List (List UInt8 × Bool × List UInt8)).length 2), ownC 9 .str ([([98] : List UInt8)] : List (List UInt8)) (.slice (some ⟨b2, 0, none⟩) ([([98] : List UInt8)] : List (List UInt8)).length 1), ownC 23 (.int .u32) ([3, 4] : List (Int)) (.slice (some ⟨b1, 0, none⟩) ([3, 4] : List (Int)).length 2)] _ _ := h3
  refine RJ.run ttok 1 rfl ?_
  refine RJ.op rfl rfl (op_alloc ttok rfl rfl h3) ?_
  rintro _ w4 ⟨b4, rfl, h4⟩
  replace h4 : St w0 F0 [boxC b4 86 [.int .i64 0, .slice none ([] : List (Int)).length 0, .slice none ([] : List (List UInt8)).length 0, .slice none ([] : List (List UInt8 × Bool × List UInt8)).length 0, .slice none ([] : List (List UInt8 × List UInt8)).length 0], ownC 135 (.pair .str (.pair .bool .str)) ([(([97] : List UInt8), false, ([49] : List UInt8)), (([99] : List UInt8), false, ([50] : List UInt8))] : List (List UInt8 × Bool × List UInt8)) (.slice (some ⟨b3, 0, none⟩) ([(([97] : List UInt8), false, ([49] : List UInt8)), (([99] : List UInt8), false, ([50] : List UInt8))] : List (List UInt8 × Bool × List UInt8)).length 2), ownC 9 .str ([([98] : List UInt8)] : List (List UInt8)) (.slice (some ⟨b2, 0, none⟩) ([([98] : List UInt8)] : List (List UInt8)).length 1), ownC 23 (.int .u32) ([3, 4] : List (Int)) (.slice (some ⟨b1, 0, none⟩) ([3, 4] : List (Int)).length 2)] _ _ := h4
  refine RJ.op rfl rfl (op_store ttok 0 rfl h4 rfl rfl rfl rfl rfl rfl rfl) ?_
  intro _ w5 h5
  replace h5 : St w0 F0 [boxC b4 86 [.int .i64 1, .slice (some ⟨b1, 0, none⟩) ([3, 4] : List (Int)).length 2, .slice (some ⟨b2, 0, none⟩) ([([98] : List UInt8)] : List (List UInt8)).length 1, .slice (some ⟨b3, 0, none⟩) ([(([97] : List UInt8), false, ([49] : List UInt8)), (([99] : List UInt8), false, ([50] : List UInt8))] : List (List UInt8 × Bool × List UInt8)).length 2, .slice none ([] : List (List UInt8 × List UInt8)).length 0], ownC 135 (.pair .str (.pair .bool .str)) ([(([97] : List UInt8), false, ([49] : List UInt8)), (([99] : List UInt8), false, ([50] : List UInt8))] : List (List UInt8 × Bool × List UInt8)) (.slice (some ⟨b3, 0, none⟩) ([(([97] : List UInt8), false, ([49] : List UInt8)), (([99] : List UInt8), false, ([50] : List UInt8))] : List (List UInt8 × Bool × List UInt8)).length 2), ownC 9 .str ([([98] : List UInt8)] : List (List UInt8)) (.slice (some ⟨b2, 0, none⟩) ([([98] : List UInt8)] : List (List UInt8)).length 1), ownC 23 (.int .u32) ([3, 4] : List (Int)) (.slice (some ⟨b1, 0, none⟩) ([3, 4] : List (Int)).length 2)] _ _ := h5
  refine RJ.fin [(1, .pointer (some ⟨b4, 0, none⟩))] rfl ?_
  refine J.seq ?_
  refine J.region ?_
  refine RJ.run ttok 1 rfl ?_
  refine RJ.op rfl rfl (op_lit ttok (.pair .str .str) rfl ([(([97] : List UInt8), ([48] : List UInt8))] : List (List UInt8 × List UInt8)) rfl h5 rfl rfl (by decide) rfl rfl rfl rfl rfl rfl rfl) ?_
  rintro _ w6 ⟨b5, rfl, h6⟩
  replace h6 : St w0 F0 [ownC 75 (.pair .str .str) ([(([97] : List UInt8), ([48] : List UInt8))] : List (List UInt8 × List UInt8)) (.slice (some ⟨b5, 0, none⟩) ([(([97] : List UInt8), ([48] : List UInt8))] : List (List UInt8 × List UInt8)).length 1), boxC b4 86 [.int .i64 1, .slice (some ⟨b1, 0, none⟩) ([3, 4] : List (Int)).length 2, .slice (some ⟨b2, 0, none⟩) ([([98] : List UInt8)] : List (List UInt8)).length 1, .slice (some ⟨b3, 0, none⟩) ([(([97] : List UInt8), false, ([49] : List UInt8)), (([99] : List UInt8), false, ([50] : List UInt8))] : List (List UInt8 × Bool × List UInt8)).length 2, .slice none ([] : List (List UInt8 × List UInt8)).length 0], ownC 135 (.pair .str (.pair .bool .str)) ([(([97] : List UInt8), false, ([49] : List UInt8)), (([99] : List UInt8), false, ([50] : List UInt8))] : List (List UInt8 × Bool × List UInt8)) (.slice (some ⟨b3, 0, none⟩) ([(([97] : List UInt8), false, ([49] : List UInt8)), (([99] : List UInt8), false, ([50] : List UInt8))] : List (List UInt8 × Bool × List UInt8)).length 2), ownC 9 .str ([([98] : List UInt8)] : List (List UInt8)) (.slice (some ⟨b2, 0, none⟩) ([([98] : List UInt8)] : List (List UInt8)).length 1), ownC 23 (.int .u32) ([3, 4] : List (Int)) (.slice (some ⟨b1, 0, none⟩) ([3, 4] : List (Int)).length 2)] _ _ := h6
  refine RJ.run ttok 1 rfl ?_
  refine RJ.op rfl rfl (op_alloc ttok rfl rfl h6) ?_
  rintro _ w7 ⟨b6, rfl, h7⟩
  replace h7 : St w0 F0 [boxC b6 86 [.int .i64 0, .slice none ([] : List (Int)).length 0, .slice none ([] : List (List UInt8)).length 0, .slice none ([] : List (List UInt8 × Bool × List UInt8)).length 0, .slice none ([] : List (List UInt8 × List UInt8)).length 0], ownC 75 (.pair .str .str) ([(([97] : List UInt8), ([48] : List UInt8))] : List (List UInt8 × List UInt8)) (.slice (some ⟨b5, 0, none⟩) ([(([97] : List UInt8), ([48] : List UInt8))] : List (List UInt8 × List UInt8)).length 1), boxC b4 86 [.int .i64 1, .slice (some ⟨b1, 0, none⟩) ([3, 4] : List (Int)).length 2, .slice (some ⟨b2, 0, none⟩) ([([98] : List UInt8)] : List (List UInt8)).length 1, .slice (some ⟨b3, 0, none⟩) ([(([97] : List UInt8), false, ([49] : List UInt8)), (([99] : List UInt8), false, ([50] : List UInt8))] : List (List UInt8 × Bool × List UInt8)).length 2, .slice none ([] : List (List UInt8 × List UInt8)).length 0], ownC 135 (.pair .str (.pair .bool .str)) ([(([97] : List UInt8), false, ([49] : List UInt8)), (([99] : List UInt8), false, ([50] : List UInt8))] : List (List UInt8 × Bool × List UInt8)) (.slice (some ⟨b3, 0, none⟩) ([(([97] : List UInt8), false, ([49] : List UInt8)), (([99] : List UInt8), false, ([50] : List UInt8))] : List (List UInt8 × Bool × List UInt8)).length 2), ownC 9 .str ([([98] : List UInt8)] : List (List UInt8)) (.slice (some ⟨b2, 0, none⟩) ([([98] : List UInt8)] : List (List UInt8)).length 1), ownC 23 (.int .u32) ([3, 4] : List (Int)) (.slice (some ⟨b1, 0, none⟩) ([3, 4] : List (Int)).length 2)] _ _ := h7
  refine RJ.op rfl rfl (op_store ttok 0 rfl h7 rfl rfl rfl rfl rfl rfl rfl) ?_
  intro _ w8 h8
  replace h8 : St w0 F0 [boxC b6 86 [.int .i64 0, .slice none ([] : List (Int)).length 0, .slice none ([] : List (List UInt8)).length 0, .slice none ([] : List (List UInt8 × Bool × List UInt8)).length 0, .slice (some ⟨b5, 0, none⟩) ([(([97] : List UInt8), ([48] : List UInt8))] : List (List UInt8 × List UInt8)).length 1], ownC 75 (.pair .str .str) ([(([97] : List UInt8), ([48] : List UInt8))] : List (List UInt8 × List UInt8)) (.slice (some ⟨b5, 0, none⟩) ([(([97] : List UInt8), ([48] : List UInt8))] : List (List UInt8 × List UInt8)).length 1), boxC b4 86 [.int .i64 1, .slice (some ⟨b1, 0, none⟩) ([3, 4] : List (Int)).length 2, .slice (some ⟨b2, 0, none⟩) ([([98] : List UInt8)] : List (List UInt8)).length 1, .slice (some ⟨b3, 0, none⟩) ([(([97] : List UInt8), false, ([49] : List UInt8)), (([99] : List UInt8), false, ([50] : List UInt8))] : List (List UInt8 × Bool × List UInt8)).length 2, .slice none ([] : List (List UInt8 × List UInt8)).length 0], ownC 135 (.pair .str (.pair .bool .str)) ([(([97] : List UInt8), false, ([49] : List UInt8)), (([99] : List UInt8), false, ([50] : List UInt8))] : List (List UInt8 × Bool × List UInt8)) (.slice (some ⟨b3, 0, none⟩) ([(([97] : List UInt8), false, ([49] : List UInt8)), (([99] : List UInt8), false, ([50] : List UInt8))] : List (List UInt8 × Bool × List UInt8)).length 2), ownC 9 .str ([([98] : List UInt8)] : List (List UInt8)) (.slice (some ⟨b2, 0, none⟩) ([([98] : List UInt8)] : List (List UInt8)).length 1), ownC 23 (.int .u32) ([3, 4] : List (Int)) (.slice (some ⟨b1, 0, none⟩) ([3, 4] : List (Int)).length 2)] _ _ := h8
  refine RJ.fin [(1, .pointer (some ⟨b4, 0, none⟩)), (2, .pointer (some ⟨b6, 0, none⟩))] rfl ?_
  refine J.seq ?_
  refine J.region ?_
  refine RJ.run ttok 1 rfl ?_
  refine RJ.q rfl rfl (q_load_box ttok 2 (fun w e => e ▸ h8.wh) rfl rfl rfl rfl rfl) ?_
  refine RJ.q rfl rfl (q_load_box ttok 0 (fun w e => e ▸ h8.wh) rfl rfl rfl rfl rfl) ?_
  have h9 := h8.addNil 75 (.pair .str .str)
  have h10 := h9.addNil 23 (.int .u32)
  have h11 := h10.addNil 9 .str
  have h12 := h11.addNil 135 (.pair .str (.pair .bool .str))
  obtain ⟨r1, q1, H⟩ := bind_t H
  refine RJ.op rfl rfl (op_call [] (pour_Pour.spec q1) rfl rfl rfl h12 rfl (gcons (Gives.of 9 rfl own_rd) (gcons (Gives.of 8 rfl own_rd) (gcons (Gives.of 7 rfl own_rd) (gcons (Gives.of 3 rfl own_rd) (gcons (Gives.of 2 rfl own_rd) (gcons (Gives.of 1 rfl own_rd) (gcons (Gives.of 0 rfl own_rd) (gcons (Gives.of 5 rfl own_rd) gnil))))))))) ?_
  rintro _ w9 ⟨_, ⟨A1, c_1, A2, c_2, A3, c_3, A4, c_4, A5, c_5, A6, c_6, A7, c_7, A8, c_8, rfl, rfl⟩, h13⟩
  replace h13 : St w0 F0 [ownC 23 (.int .u32) r1.1.2.1 (.slice A1 r1.1.2.1.length c_1), ownC 9 .str r1.1.2.2.1 (.slice A2 r1.1.2.2.1.length c_2), ownC 135 (.pair .str (.pair .bool .str)) r1.1.2.2.2.1 (.slice A3 r1.1.2.2.2.1.length c_3), ownC 75 (.pair .str .str) r1.1.2.2.2.2 (.slice A4 r1.1.2.2.2.2.length c_4), ownC 23 (.int .u32) r1.2.1.2.1 (.slice A5 r1.2.1.2.1.length c_5), ownC 9 .str r1.2.1.2.2.1 (.slice A6 r1.2.1.2.2.1.length c_6), ownC 135 (.pair .str (.pair .bool .str)) r1.2.1.2.2.2.1 (.slice A7 r1.2.1.2.2.2.1.length c_7), ownC 75 (.pair .str .str) r1.2.1.2.2.2.2 (.slice A8 r1.2.1.2.2.2.2.length c_8), ownC 135 (.pair .str (.pair .bool .str)) ([] : List (List UInt8 × Bool × List UInt8)) (.slice none ([] : List (List UInt8 × Bool × List UInt8)).length 0), ownC 9 .str ([] : List (List UInt8)) (.slice none ([] : List (List UInt8)).length 0), ownC 23 (.int .u32) ([] : List (Int)) (.slice none ([] : List (Int)).length 0), ownC 75 (.pair .str .str) ([] : List (List UInt8 × List UInt8)) (.slice none ([] : List (List UInt8 × List UInt8)).length 0), boxC b6 86 [.int .i64 0, .slice none ([] : List (Int)).length 0, .slice none ([] : List (List UInt8)).length 0, .slice none ([] : List (List UInt8 × Bool × List UInt8)).length 0, .slice (some ⟨b5, 0, none⟩) ([(([97] : List UInt8), ([48] : List UInt8))] : List (List UInt8 × List UInt8)).length 1], ownC 75 (.pair .str .str) ([(([97] : List UInt8), ([48] : List UInt8))] : List (List UInt8 × List UInt8)) (.slice (some ⟨b5, 0, none⟩) ([(([97] : List UInt8), ([48] : List UInt8))] : List (List UInt8 × List UInt8)).length 1), boxC b4 86 [.int .i64 1, .slice (some ⟨b1, 0, none⟩) ([3, 4] : List (Int)).length 2, .slice (some ⟨b2, 0, none⟩) ([([98] : List UInt8)] : List (List UInt8)).length 1, .slice (some ⟨b3, 0, none⟩) ([(([97] : List UInt8), false, ([49] : List UInt8)), (([99] : List UInt8), false, ([50] : List UInt8))] : List (List UInt8 × Bool × List UInt8)).length 2, .slice none ([] : List (List UInt8 × List UInt8)).length 0], ownC 135 (.pair .str (.pair .bool .str)) ([(([97] : List UInt8), false, ([49] : List UInt8)), (([99] : List UInt8), false, ([50] : List UInt8))] : List (List UInt8 × Bool × List UInt8)) (.slice (some ⟨b3, 0, none⟩) ([(([97] : List UInt8), false, ([49] : List UInt8)), (([99] : List UInt8), false, ([50] : List UInt8))] : List (List UInt8 × Bool × List UInt8)).length 2), ownC 9 .str ([([98] : List UInt8)] : List (List UInt8)) (.slice (some ⟨b2, 0, none⟩) ([([98] : List UInt8)] : List (List UInt8)).length 1), ownC 23 (.int .u32) ([3, 4] : List (Int)) (.slice (some ⟨b1, 0, none⟩) ([3, 4] : List (Int)).length 2)] _ _ := h13
  refine RJ.run ttok 4 rfl ?_
  refine RJ.op rfl rfl (op_alloc ttok rfl rfl h13) ?_
  rintro _ w10 ⟨b7, rfl, h14⟩
  replace h14 : St w0 F0 [boxC b7 86 [.int .i64 0, .slice none ([] : List (Int)).length 0, .slice none ([] : List (List UInt8)).length 0, .slice none ([] : List (List UInt8 × Bool × List UInt8)).length 0, .slice none ([] : List (List UInt8 × List UInt8)).length 0], ownC 23 (.int .u32) r1.1.2.1 (.slice A1 r1.1.2.1.length c_1), ownC 9 .str r1.1.2.2.1 (.slice A2 r1.1.2.2.1.length c_2), ownC 135 (.pair .str (.pair .bool .str)) r1.1.2.2.2.1 (.slice A3 r1.1.2.2.2.1.length c_3), ownC 75 (.pair .str .str) r1.1.2.2.2.2 (.slice A4 r1.1.2.2.2.2.length c_4), ownC 23 (.int .u32) r1.2.1.2.1 (.slice A5 r1.2.1.2.1.length c_5), ownC 9 .str r1.2.1.2.2.1 (.slice A6 r1.2.1.2.2.1.length c_6), ownC 135 (.pair .str (.pair .bool .str)) r1.2.1.2.2.2.1 (.slice A7 r1.2.1.2.2.2.1.length c_7), ownC 75 (.pair .str .str) r1.2.1.2.2.2.2 (.slice A8 r1.2.1.2.2.2.2.length c_8), ownC 135 (.pair .str (.pair .bool .str)) ([] : List (List UInt8 × Bool × List UInt8)) (.slice none ([] : List (List UInt8 × Bool × List UInt8)).length 0), ownC 9 .str ([] : List (List UInt8)) (.slice none ([] : List (List UInt8)).length 0), ownC 23 (.int .u32) ([] : List (Int)) (.slice none ([] : List (Int)).length 0), ownC 75 (.pair .str .str) ([] : List (List UInt8 × List UInt8)) (.slice none ([] : List (List UInt8 × List UInt8)).length 0), boxC b6 86 [.int .i64 0, .slice none ([] : List (Int)).length 0, .slice none ([] : List (List UInt8)).length 0, .slice none ([] : List (List UInt8 × Bool × List UInt8)).length 0, .slice (some ⟨b5, 0, none⟩) ([(([97] : List UInt8), ([48] : List UInt8))] : List (List UInt8 × List UInt8)).length 1], ownC 75 (.pair .str .str) ([(([97] : List UInt8), ([48] : List UInt8))] : List (List UInt8 × List UInt8)) (.slice (some ⟨b5, 0, none⟩) ([(([97] : List UInt8), ([48] : List UInt8))] : List (List UInt8 × List UInt8)).length 1), boxC b4 86 [.int .i64 1, .slice (some ⟨b1, 0, none⟩) ([3, 4] : List (Int)).length 2, .slice (some ⟨b2, 0, none⟩) ([([98] : List UInt8)] : List (List UInt8)).length 1, .slice (some ⟨b3, 0, none⟩) ([(([97] : List UInt8), false, ([49] : List UInt8)), (([99] : List UInt8), false, ([50] : List UInt8))] : List (List UInt8 × Bool × List UInt8)).length 2, .slice none ([] : List (List UInt8 × List UInt8)).length 0], ownC 135 (.pair .str (.pair .bool .str)) ([(([97] : List UInt8), false, ([49] : List UInt8)), (([99] : List UInt8), false, ([50] : List UInt8))] : List (List UInt8 × Bool × List UInt8)) (.slice (some ⟨b3, 0, none⟩) ([(([97] : List UInt8), false, ([49] : List UInt8)), (([99] : List UInt8), false, ([50] : List UInt8))] : List (List UInt8 × Bool × List UInt8)).length 2), ownC 9 .str ([([98] : List UInt8)] : List (List UInt8)) (.slice (some ⟨b2, 0, none⟩) ([([98] : List UInt8)] : List (List UInt8)).length 1), ownC 23 (.int .u32) ([3, 4] : List (Int)) (.slice (some ⟨b1, 0, none⟩) ([3, 4] : List (Int)).length 2)] _ _ := h14
  refine RJ.op rfl rfl (op_alloc ttok rfl rfl h14) ?_
  rintro _ w11 ⟨b8, rfl, h15⟩
  replace h15 : St w0 F0 [boxC b8 86 [.int .i64 0, .slice none ([] : List (Int)).length 0, .slice none ([] : List (List UInt8)).length 0, .slice none ([] : List (List UInt8 × Bool × List UInt8)).length 0, .slice none ([] : List (List UInt8 × List UInt8)).length 0], boxC b7 86 [.int .i64 0, .slice none ([] : List (Int)).length 0, .slice none ([] : List (List UInt8)).length 0, .slice none ([] : List (List UInt8 × Bool × List UInt8)).length 0, .slice none ([] : List (List UInt8 × List UInt8)).length 0], ownC 23 (.int .u32) r1.1.2.1 (.slice A1 r1.1.2.1.length c_1), ownC 9 .str r1.1.2.2.1 (.slice A2 r1.1.2.2.1.length c_2), ownC 135 (.pair .str (.pair .bool .str)) r1.1.2.2.2.1 (.slice A3 r1.1.2.2.2.1.length c_3), ownC 75 (.pair .str .str) r1.1.2.2.2.2 (.slice A4 r1.1.2.2.2.2.length c_4), ownC 23 (.int .u32) r1.2.1.2.1 (.slice A5 r1.2.1.2.1.length c_5), ownC 9 .str r1.2.1.2.2.1 (.slice A6 r1.2.1.2.2.1.length c_6), ownC 135 (.pair .str (.pair .bool .str)) r1.2.1.2.2.2.1 (.slice A7 r1.2.1.2.2.2.1.length c_7), ownC 75 (.pair .str .str) r1.2.1.2.2.2.2 (.slice A8 r1.2.1.2.2.2.2.length c_8), ownC 135 (.pair .str (.pair .bool .str)) ([] : List (List UInt8 × Bool × List UInt8)) (.slice none ([] : List (List UInt8 × Bool × List UInt8)).length 0), ownC 9 .str ([] : List (List UInt8)) (.slice none ([] : List (List UInt8)).length 0), ownC 23 (.int .u32) ([] : List (Int)) (.slice none ([] : List (Int)).length 0), ownC 75 (.pair .str .str) ([] : List (List UInt8 × List UInt8)) (.slice none ([] : List (List UInt8 × List UInt8)).length 0), boxC b6 86 [.int .i64 0, .slice none ([] : List (Int)).length 0, .slice none ([] : List (List UInt8)).length 0, .slice none ([] : List (List UInt8 × Bool × List UInt8)).length 0, .slice (some ⟨b5, 0, none⟩) ([(([97] : List UInt8), ([48] : List UInt8))] : List (List UInt8 × List UInt8)).length 1], ownC 75 (.pair .str .str) ([(([97] : List UInt8), ([48] : List UInt8))] : List (List UInt8 × List UInt8)) (.slice (some ⟨b5, 0, none⟩) ([(([97] : List UInt8), ([48] : List UInt8))] : List (List UInt8 × List UInt8)).length 1), boxC b4 86 [.int .i64 1, .slice (some ⟨b1, 0, none⟩) ([3, 4] : List (Int)).length 2, .slice (some ⟨b2, 0, none⟩) ([([98] : List UInt8)] : List (List UInt8)).length 1, .slice (some ⟨b3, 0, none⟩) ([(([97] : List UInt8), false, ([49] : List UInt8)), (([99] : List UInt8), false, ([50] : List UInt8))] : List (List UInt8 × Bool × List UInt8)).length 2, .slice none ([] : List (List UInt8 × List UInt8)).length 0], ownC 135 (.pair .str (.pair .bool .str)) ([(([97] : List UInt8), false, ([49] : List UInt8)), (([99] : List UInt8), false, ([50] : List UInt8))] : List (List UInt8 × Bool × List UInt8)) (.slice (some ⟨b3, 0, none⟩) ([(([97] : List UInt8), false, ([49] : List UInt8)), (([99] : List UInt8), false, ([50] : List UInt8))] : List (List UInt8 × Bool × List UInt8)).length 2), ownC 9 .str ([([98] : List UInt8)] : List (List UInt8)) (.slice (some ⟨b2, 0, none⟩) ([([98] : List UInt8)] : List (List UInt8)).length 1), ownC 23 (.int .u32) ([3, 4] : List (Int)) (.slice (some ⟨b1, 0, none⟩) ([3, 4] : List (Int)).length 2)] _ _ := h15
  refine RJ.op rfl rfl (op_store ttok 1 rfl h15 rfl rfl rfl rfl rfl rfl rfl) ?_
  intro _ w12 h16
  replace h16 : St w0 F0 [boxC b7 86 [.int .i64 r1.1.1, .slice A1 r1.1.2.1.length c_1, .slice A2 r1.1.2.2.1.length c_2, .slice A3 r1.1.2.2.2.1.length c_3, .slice A4 r1.1.2.2.2.2.length c_4], boxC b8 86 [.int .i64 0, .slice none ([] : List (Int)).length 0, .slice none ([] : List (List UInt8)).length 0, .slice none ([] : List (List UInt8 × Bool × List UInt8)).length 0, .slice none ([] : List (List UInt8 × List UInt8)).length 0], ownC 23 (.int .u32) r1.1.2.1 (.slice A1 r1.1.2.1.length c_1), ownC 9 .str r1.1.2.2.1 (.slice A2 r1.1.2.2.1.length c_2), ownC 135 (.pair .str (.pair .bool .str)) r1.1.2.2.2.1 (.slice A3 r1.1.2.2.2.1.length c_3), ownC 75 (.pair .str .str) r1.1.2.2.2.2 (.slice A4 r1.1.2.2.2.2.length c_4), ownC 23 (.int .u32) r1.2.1.2.1 (.slice A5 r1.2.1.2.1.length c_5), ownC 9 .str r1.2.1.2.2.1 (.slice A6 r1.2.1.2.2.1.length c_6), ownC 135 (.pair .str (.pair .bool .str)) r1.2.1.2.2.2.1 (.slice A7 r1.2.1.2.2.2.1.length c_7), ownC 75 (.pair .str .str) r1.2.1.2.2.2.2 (.slice A8 r1.2.1.2.2.2.2.length c_8), ownC 135 (.pair .str (.pair .bool .str)) ([] : List (List UInt8 × Bool × List UInt8)) (.slice none ([] : List (List UInt8 × Bool × List UInt8)).length 0), ownC 9 .str ([] : List (List UInt8)) (.slice none ([] : List (List UInt8)).length 0), ownC 23 (.int .u32) ([] : List (Int)) (.slice none ([] : List (Int)).length 0), ownC 75 (.pair .str .str) ([] : List (List UInt8 × List UInt8)) (.slice none ([] : List (List UInt8 × List UInt8)).length 0), boxC b6 86 [.int .i64 0, .slice none ([] : List (Int)).length 0, .slice none ([] : List (List UInt8)).length 0, .slice none ([] : List (List UInt8 × Bool × List UInt8)).length 0, .slice (some ⟨b5, 0, none⟩) ([(([97] : List UInt8), ([48] : List UInt8))] : List (List UInt8 × List UInt8)).length 1], ownC 75 (.pair .str .str) ([(([97] : List UInt8), ([48] : List UInt8))] : List (List UInt8 × List UInt8)) (.slice (some ⟨b5, 0, none⟩) ([(([97] : List UInt8), ([48] : List UInt8))] : List (List UInt8 × List UInt8)).length 1), boxC b4 86 [.int .i64 1, .slice (some ⟨b1, 0, none⟩) ([3, 4] : List (Int)).length 2, .slice (some ⟨b2, 0, none⟩) ([([98] : List UInt8)] : List (List UInt8)).length 1, .slice (some ⟨b3, 0, none⟩) ([(([97] : List UInt8), false, ([49] : List UInt8)), (([99] : List UInt8), false, ([50] : List UInt8))] : List (List UInt8 × Bool × List UInt8)).length 2, .slice none ([] : List (List UInt8 × List UInt8)).length 0], ownC 135 (.pair .str (.pair .bool .str)) ([(([97] : List UInt8), false, ([49] : List UInt8)), (([99] : List UInt8), false, ([50] : List UInt8))] : List (List UInt8 × Bool × List UInt8)) (.slice (some ⟨b3, 0, none⟩) ([(([97] : List UInt8), false, ([49] : List UInt8)), (([99] : List UInt8), false, ([50] : List UInt8))] : List (List UInt8 × Bool × List UInt8)).length 2), ownC 9 .str ([([98] : List UInt8)] : List (List UInt8)) (.slice (some ⟨b2, 0, none⟩) ([([98] : List UInt8)] : List (List UInt8)).length 1), ownC 23 (.int .u32) ([3, 4] : List (Int)) (.slice (some ⟨b1, 0, none⟩) ([3, 4] : List (Int)).length 2)] _ _ := h16
  refine RJ.op rfl rfl (op_store ttok 1 rfl h16 rfl rfl rfl rfl rfl rfl rfl) ?_
  intro _ w13 h17
  replace h17 : St w0 F0 [boxC b8 86 [.int .i64 r1.2.1.1, .slice A5 r1.2.1.2.1.length c_5, .slice A6 r1.2.1.2.2.1.length c_6, .slice A7 r1.2.1.2.2.2.1.length c_7, .slice A8 r1.2.1.2.2.2.2.length c_8], boxC b7 86 [.int .i64 r1.1.1, .slice A1 r1.1.2.1.length c_1, .slice A2 r1.1.2.2.1.length c_2, .slice A3 r1.1.2.2.2.1.length c_3, .slice A4 r1.1.2.2.2.2.length c_4], ownC 23 (.int .u32) r1.1.2.1 (.slice A1 r1.1.2.1.length c_1), ownC 9 .str r1.1.2.2.1 (.slice A2 r1.1.2.2.1.length c_2), ownC 135 (.pair .str (.pair .bool .str)) r1.1.2.2.2.1 (.slice A3 r1.1.2.2.2.1.length c_3), ownC 75 (.pair .str .str) r1.1.2.2.2.2 (.slice A4 r1.1.2.2.2.2.length c_4), ownC 23 (.int .u32) r1.2.1.2.1 (.slice A5 r1.2.1.2.1.length c_5), ownC 9 .str r1.2.1.2.2.1 (.slice A6 r1.2.1.2.2.1.length c_6), ownC 135 (.pair .str (.pair .bool .str)) r1.2.1.2.2.2.1 (.slice A7 r1.2.1.2.2.2.1.length c_7), ownC 75 (.pair .str .str) r1.2.1.2.2.2.2 (.slice A8 r1.2.1.2.2.2.2.length c_8), ownC 135 (.pair .str (.pair .bool .str)) ([] : List (List UInt8 × Bool × List UInt8)) (.slice none ([] : List (List UInt8 × Bool × List UInt8)).length 0), ownC 9 .str ([] : List (List UInt8)) (.slice none ([] : List (List UInt8)).length 0), ownC 23 (.int .u32) ([] : List (Int)) (.slice none ([] : List (Int)).length 0), ownC 75 (.pair .str .str) ([] : List (List UInt8 × List UInt8)) (.slice none ([] : List (List UInt8 × List UInt8)).length 0), boxC b6 86 [.int .i64 0, .slice none ([] : List (Int)).length 0, .slice none ([] : List (List UInt8)).length 0, .slice none ([] : List (List UInt8 × Bool × List UInt8)).length 0, .slice (some ⟨b5, 0, none⟩) ([(([97] : List UInt8), ([48] : List UInt8))] : List (List UInt8 × List UInt8)).length 1], ownC 75 (.pair .str .str) ([(([97] : List UInt8), ([48] : List UInt8))] : List (List UInt8 × List UInt8)) (.slice (some ⟨b5, 0, none⟩) ([(([97] : List UInt8), ([48] : List UInt8))] : List (List UInt8 × List UInt8)).length 1), boxC b4 86 [.int .i64 1, .slice (some ⟨b1, 0, none⟩) ([3, 4] : List (Int)).length 2, .slice (some ⟨b2, 0, none⟩) ([([98] : List UInt8)] : List (List UInt8)).length 1, .slice (some ⟨b3, 0, none⟩) ([(([97] : List UInt8), false, ([49] : List UInt8)), (([99] : List UInt8), false, ([50] : List UInt8))] : List (List UInt8 × Bool × List UInt8)).length 2, .slice none ([] : List (List UInt8 × List UInt8)).length 0], ownC 135 (.pair .str (.pair .bool .str)) ([(([97] : List UInt8), false, ([49] : List UInt8)), (([99] : List UInt8), false, ([50] : List UInt8))] : List (List UInt8 × Bool × List UInt8)) (.slice (some ⟨b3, 0, none⟩) ([(([97] : List UInt8), false, ([49] : List UInt8)), (([99] : List UInt8), false, ([50] : List UInt8))] : List (List UInt8 × Bool × List UInt8)).length 2), ownC 9 .str ([([98] : List UInt8)] : List (List UInt8)) (.slice (some ⟨b2, 0, none⟩) ([([98] : List UInt8)] : List (List UInt8)).length 1), ownC 23 (.int .u32) ([3, 4] : List (Int)) (.slice (some ⟨b1, 0, none⟩) ([3, 4] : List (Int)).length 2)] _ _ := h17
  refine RJ.run ttok 1 rfl ?_
  refine RJ.fin [(1, .pointer (some ⟨b4, 0, none⟩)), (2, .pointer (some ⟨b6, 0, none⟩)), (3, .pointer (some ⟨b7, 0, none⟩)), (4, .pointer (some ⟨b8, 0, none⟩)), (5, .int .i64 r1.2.2)] rfl ?_
  refine J.seq ?_
  refine J.region ?_
  refine RJ.q rfl rfl (q_load_box ttok 16 (fun w e => e ▸ h17.wh) rfl rfl rfl rfl rfl) ?_
  refine RJ.q rfl rfl (q_load_box ttok 14 (fun w e => e ▸ h17.wh) rfl rfl rfl rfl rfl) ?_
  have h18 := h17.freeze (k := 19) rfl own_rd
  have h19 := h18.freeze (k := 18) rfl own_rd
  have h20 := h19.freeze (k := 17) rfl own_rd
  have h21 := h20.freeze (k := 15) rfl own_rd
  refine RJ.op rfl rfl (op_lit_rd ttok (.pair (.int .i64) (.pair (.slice 23 (.int .u32)) (.pair (.slice 9 .str) (.pair (.slice 135 (.pair .str (.pair .bool .str))) (.slice 75 (.pair .str .str)))))) ([(1, ([3, 4] : List (Int)), ([([98] : List UInt8)] : List (List UInt8)), ([(([97] : List UInt8), false, ([49] : List UInt8)), (([99] : List UInt8), false, ([50] : List UInt8))] : List (List UInt8 × Bool × List UInt8)), ([] : List (List UInt8 × List UInt8))), (0, ([] : List (Int)), ([] : List (List UInt8)), ([] : List (List UInt8 × Bool × List UInt8)), ([(([97] : List UInt8), ([48] : List UInt8))] : List (List UInt8 × List UInt8)))] : List (Int × List (Int) × List (List UInt8) × (List (List UInt8 × Bool × List UInt8)) × (List (List UInt8 × List UInt8)))) rfl h21 rfl rfl (by decide) rfl rfl rfl rfl rfl rfl ⟨⟨_, _, rfl, (give_scal rfl _), ⟨_, _, rfl, (.inl (Gives.self 3 rfl)), ⟨_, _, rfl, (.inl (Gives.self 2 rfl)), ⟨_, _, rfl, (.inl (Gives.self 1 rfl)), (.inr okC_nil)⟩⟩⟩⟩, ⟨⟨_, _, rfl, (give_scal rfl _), ⟨_, _, rfl, (.inr okC_nil), ⟨_, _, rfl, (.inr okC_nil), ⟨_, _, rfl, (.inr okC_nil), (.inl (Gives.self 0 rfl))⟩⟩⟩⟩, trivial⟩⟩) ?_
  rintro _ w14 ⟨b9, rfl, h22⟩
  replace h22 : St w0 F0 [boxC b8 86 [.int .i64 r1.2.1.1, .slice A5 r1.2.1.2.1.length c_5, .slice A6 r1.2.1.2.2.1.length c_6, .slice A7 r1.2.1.2.2.2.1.length c_7, .slice A8 r1.2.1.2.2.2.2.length c_8], boxC b7 86 [.int .i64 r1.1.1, .slice A1 r1.1.2.1.length c_1, .slice A2 r1.1.2.2.1.length c_2, .slice A3 r1.1.2.2.2.1.length c_3, .slice A4 r1.1.2.2.2.2.length c_4], ownC 23 (.int .u32) r1.1.2.1 (.slice A1 r1.1.2.1.length c_1), ownC 9 .str r1.1.2.2.1 (.slice A2 r1.1.2.2.1.length c_2), ownC 135 (.pair .str (.pair .bool .str)) r1.1.2.2.2.1 (.slice A3 r1.1.2.2.2.1.length c_3), ownC 75 (.pair .str .str) r1.1.2.2.2.2 (.slice A4 r1.1.2.2.2.2.length c_4), ownC 23 (.int .u32) r1.2.1.2.1 (.slice A5 r1.2.1.2.1.length c_5), ownC 9 .str r1.2.1.2.2.1 (.slice A6 r1.2.1.2.2.1.length c_6), ownC 135 (.pair .str (.pair .bool .str)) r1.2.1.2.2.2.1 (.slice A7 r1.2.1.2.2.2.1.length c_7), ownC 75 (.pair .str .str) r1.2.1.2.2.2.2 (.slice A8 r1.2.1.2.2.2.2.length c_8), ownC 135 (.pair .str (.pair .bool .str)) ([] : List (List UInt8 × Bool × List UInt8)) (.slice none ([] : List (List UInt8 × Bool × List UInt8)).length 0), ownC 9 .str ([] : List (List UInt8)) (.slice none ([] : List (List UInt8)).length 0), ownC 23 (.int .u32) ([] : List (Int)) (.slice none ([] : List (Int)).length 0), ownC 75 (.pair .str .str) ([] : List (List UInt8 × List UInt8)) (.slice none ([] : List (List UInt8 × List UInt8)).length 0), boxC b6 86 [.int .i64 0, .slice none ([] : List (Int)).length 0, .slice none ([] : List (List UInt8)).length 0, .slice none ([] : List (List UInt8 × Bool × List UInt8)).length 0, .slice (some ⟨b5, 0, none⟩) ([(([97] : List UInt8), ([48] : List UInt8))] : List (List UInt8 × List UInt8)).length 1], boxC b4 86 [.int .i64 1, .slice (some ⟨b1, 0, none⟩) ([3, 4] : List (Int)).length 2, .slice (some ⟨b2, 0, none⟩) ([([98] : List UInt8)] : List (List UInt8)).length 1, .slice (some ⟨b3, 0, none⟩) ([(([97] : List UInt8), false, ([49] : List UInt8)), (([99] : List UInt8), false, ([50] : List UInt8))] : List (List UInt8 × Bool × List UInt8)).length 2, .slice none ([] : List (List UInt8 × List UInt8)).length 0]] _ _ := h22
  obtain ⟨r2, q2, H⟩ := bind_t H
  refine RJ.op rfl rfl (op_call [] (pour_Value.spec q2) rfl rfl rfl h22 rfl (gcons (Gives.self 16 rfl) gnil)) ?_
  rintro _ w15 ⟨_, ⟨rfl, rfl⟩, h23⟩
  replace h23 : St w0 F0 [boxC b8 86 [.int .i64 r1.2.1.1, .slice A5 r1.2.1.2.1.length c_5, .slice A6 r1.2.1.2.2.1.length c_6, .slice A7 r1.2.1.2.2.2.1.length c_7, .slice A8 r1.2.1.2.2.2.2.length c_8], boxC b7 86 [.int .i64 r1.1.1, .slice A1 r1.1.2.1.length c_1, .slice A2 r1.1.2.2.1.length c_2, .slice A3 r1.1.2.2.2.1.length c_3, .slice A4 r1.1.2.2.2.2.length c_4], ownC 23 (.int .u32) r1.1.2.1 (.slice A1 r1.1.2.1.length c_1), ownC 9 .str r1.1.2.2.1 (.slice A2 r1.1.2.2.1.length c_2), ownC 135 (.pair .str (.pair .bool .str)) r1.1.2.2.2.1 (.slice A3 r1.1.2.2.2.1.length c_3), ownC 75 (.pair .str .str) r1.1.2.2.2.2 (.slice A4 r1.1.2.2.2.2.length c_4), ownC 23 (.int .u32) r1.2.1.2.1 (.slice A5 r1.2.1.2.1.length c_5), ownC 9 .str r1.2.1.2.2.1 (.slice A6 r1.2.1.2.2.1.length c_6), ownC 135 (.pair .str (.pair .bool .str)) r1.2.1.2.2.2.1 (.slice A7 r1.2.1.2.2.2.1.length c_7), ownC 75 (.pair .str .str) r1.2.1.2.2.2.2 (.slice A8 r1.2.1.2.2.2.2.length c_8), ownC 135 (.pair .str (.pair .bool .str)) ([] : List (List UInt8 × Bool × List UInt8)) (.slice none ([] : List (List UInt8 × Bool × List UInt8)).length 0), ownC 9 .str ([] : List (List UInt8)) (.slice none ([] : List (List UInt8)).length 0), ownC 23 (.int .u32) ([] : List (Int)) (.slice none ([] : List (Int)).length 0), ownC 75 (.pair .str .str) ([] : List (List UInt8 × List UInt8)) (.slice none ([] : List (List UInt8 × List UInt8)).length 0), boxC b6 86 [.int .i64 0, .slice none ([] : List (Int)).length 0, .slice none ([] : List (List UInt8)).length 0, .slice none ([] : List (List UInt8 × Bool × List UInt8)).length 0, .slice (some ⟨b5, 0, none⟩) ([(([97] : List UInt8), ([48] : List UInt8))] : List (List UInt8 × List UInt8)).length 1], boxC b4 86 [.int .i64 1, .slice (some ⟨b1, 0, none⟩) ([3, 4] : List (Int)).length 2, .slice (some ⟨b2, 0, none⟩) ([([98] : List UInt8)] : List (List UInt8)).length 1, .slice (some ⟨b3, 0, none⟩) ([(([97] : List UInt8), false, ([49] : List UInt8)), (([99] : List UInt8), false, ([50] : List UInt8))] : List (List UInt8 × Bool × List UInt8)).length 2, .slice none ([] : List (List UInt8 × List UInt8)).length 0]] _ _ := h23
  refine RJ.run ttok 5 rfl ?_
  refine RJ.fin [(3, .pointer (some ⟨b7, 0, none⟩)), (4, .pointer (some ⟨b8, 0, none⟩)), (5, .int .i64 r1.2.2), (6, .string ⟨⟨r2.1⟩⟩), (7, .bool r2.2)] rfl ?_
  have h24 := h23.only [0, 0, 0, 0, 0, 0, 0, 0, 0, 0] rfl
  replace h24 : St w0 F0 [boxC b8 86 [.int .i64 r1.2.1.1, .slice A5 r1.2.1.2.1.length c_5, .slice A6 r1.2.1.2.2.1.length c_6, .slice A7 r1.2.1.2.2.2.1.length c_7, .slice A8 r1.2.1.2.2.2.2.length c_8], boxC b7 86 [.int .i64 r1.1.1, .slice A1 r1.1.2.1.length c_1, .slice A2 r1.1.2.2.1.length c_2, .slice A3 r1.1.2.2.2.1.length c_3, .slice A4 r1.1.2.2.2.2.length c_4], ownC 23 (.int .u32) r1.1.2.1 (.slice A1 r1.1.2.1.length c_1), ownC 9 .str r1.1.2.2.1 (.slice A2 r1.1.2.2.1.length c_2), ownC 135 (.pair .str (.pair .bool .str)) r1.1.2.2.2.1 (.slice A3 r1.1.2.2.2.1.length c_3), ownC 75 (.pair .str .str) r1.1.2.2.2.2 (.slice A4 r1.1.2.2.2.2.length c_4), ownC 23 (.int .u32) r1.2.1.2.1 (.slice A5 r1.2.1.2.1.length c_5), ownC 9 .str r1.2.1.2.2.1 (.slice A6 r1.2.1.2.2.1.length c_6), ownC 135 (.pair .str (.pair .bool .str)) r1.2.1.2.2.2.1 (.slice A7 r1.2.1.2.2.2.1.length c_7), ownC 75 (.pair .str .str) r1.2.1.2.2.2.2 (.slice A8 r1.2.1.2.2.2.2.length c_8)] _ _ := h24
  refine J.seq ?_
  refine J.region ?_
  refine RJ.run ttok 3 rfl ?_
  rcases Bool.eq_false_or_eq_true (decide (r1.2.2 = 1)) with c1 | c1
  · replace H := ite_t c1 H
    refine RJ.know (t := 34) rfl (congrArg Value.bool c1) ?_
    refine RJ.run ttok 1 rfl ?_
    refine RJ.q rfl rfl (q_load_box ttok 1 (fun w e => e ▸ h24.wh) rfl rfl rfl rfl rfl) ?_
    refine RJ.run ttok 4 rfl ?_
    rcases Bool.eq_false_or_eq_true (decide ((r1.1.2.2.2.1.length : Int) = 1)) with c2 | c2
    · replace H := ite_t c2 H
      refine RJ.know (t := 40) rfl (congrArg Value.bool c2) ?_
      refine RJ.run ttok 1 rfl ?_
      refine RJ.q rfl rfl (q_load_box ttok 1 (fun w e => e ▸ h24.wh) rfl rfl rfl rfl rfl) ?_
      obtain ⟨p1, H⟩ := guard_t H
      have e1 := elem_A h24.wh (Gives.of 4 rfl own_rd) (by decide) p1
      refine RJ.q rfl rfl (q_index ttok rfl rfl rfl rfl rfl e1 (by decide) p1) ?_
      refine RJ.run ttok 1 rfl ?_
      refine RJ.q rfl rfl (q_load_elem (f := 0) ttok rfl (fun w e => e ▸ h24.wh) (Gives.of 4 rfl own_rd) (by decide) p1 rfl rfl rfl rfl rfl) ?_
      refine RJ.run ttok 3 rfl ?_
      rcases Bool.eq_false_or_eq_true (decide (((gt r1.1.2.2.2.1 0).1) = ([99] : List UInt8))) with c3 | c3
      · replace H := ite_t c3 H
        refine RJ.know (t := 48) rfl (congrArg Value.bool c3) ?_
        refine RJ.run ttok 1 rfl ?_
        refine RJ.q rfl rfl (q_load_box ttok 0 (fun w e => e ▸ h24.wh) rfl rfl rfl rfl rfl) ?_
        refine RJ.run ttok 4 rfl ?_
        rcases Bool.eq_false_or_eq_true (decide ((r1.2.1.2.2.2.2.length : Int) = 1)) with c4 | c4
        · replace H := ite_t c4 H
          refine RJ.know (t := 54) rfl (congrArg Value.bool c4) ?_
          refine RJ.run ttok 1 rfl ?_
          refine RJ.q rfl rfl (q_load_box ttok 0 (fun w e => e ▸ h24.wh) rfl rfl rfl rfl rfl) ?_
          obtain ⟨p2, H⟩ := guard_t H
          have e2 := elem_A h24.wh (Gives.of 9 rfl own_rd) (by decide) p2
          refine RJ.q rfl rfl (q_index ttok rfl rfl rfl rfl rfl e2 (by decide) p2) ?_
          refine RJ.run ttok 1 rfl ?_
          refine RJ.q rfl rfl (q_load_elem (f := 1) ttok rfl (fun w e => e ▸ h24.wh) (Gives.of 9 rfl own_rd) (by decide) p2 rfl rfl rfl rfl rfl) ?_
          refine RJ.run ttok 3 rfl ?_
          rcases Bool.eq_false_or_eq_true (decide (((gt r1.2.1.2.2.2.2 0).2) = ([49] : List UInt8))) with c5 | c5
          · replace H := ite_t c5 H
            refine RJ.know (t := 62) rfl (congrArg Value.bool c5) ?_
            refine RJ.run ttok 4 rfl ?_
            rcases Bool.eq_false_or_eq_true (decide (r2.1 = ([49] : List UInt8))) with c6 | c6
            · replace H := ite_t c6 H
              refine RJ.know (t := 66) rfl (congrArg Value.bool c6) ?_
              refine RJ.run ttok 3 rfl ?_
              refine RJ.fin [(0, .bool r2.2)] rfl ?_
              have h25 := h24.only [] rfl
              replace h25 : St w0 F0 [] _ _ := h25
              refine J.ret ?_
              obtain rfl := Option.some.inj H
              exact ⟨_, _, _, (results_slots rfl), ⟨rfl, rfl⟩, h25.only [] rfl⟩
            · replace H := ite_f c6 H
              refine RJ.know (t := 66) rfl (congrArg Value.bool c6) ?_
              refine RJ.run ttok 3 rfl ?_
              refine RJ.fin [(0, .bool false)] rfl ?_
              have h26 := h24.only [] rfl
              replace h26 : St w0 F0 [] _ _ := h26
              refine J.ret ?_
              obtain rfl := Option.some.inj H
              exact ⟨_, _, _, (results_slots rfl), ⟨rfl, rfl⟩, h26.only [] rfl⟩
          · replace H := ite_f c5 H
            refine RJ.know (t := 62) rfl (congrArg Value.bool c5) ?_
            refine RJ.run ttok 7 rfl ?_
            refine RJ.fin [(0, .bool false)] rfl ?_
            have h27 := h24.only [] rfl
            replace h27 : St w0 F0 [] _ _ := h27
            refine J.ret ?_
            obtain rfl := Option.some.inj H
            exact ⟨_, _, _, (results_slots rfl), ⟨rfl, rfl⟩, h27.only [] rfl⟩
        · replace H := ite_f c4 H
          refine RJ.know (t := 54) rfl (congrArg Value.bool c4) ?_
          refine RJ.run ttok 15 rfl ?_
          refine RJ.fin [(0, .bool false)] rfl ?_
          have h28 := h24.only [] rfl
          replace h28 : St w0 F0 [] _ _ := h28
          refine J.ret ?_
          obtain rfl := Option.some.inj H
          exact ⟨_, _, _, (results_slots rfl), ⟨rfl, rfl⟩, h28.only [] rfl⟩
      · replace H := ite_f c3 H
        refine RJ.know (t := 48) rfl (congrArg Value.bool c3) ?_
        refine RJ.run ttok 21 rfl ?_
        refine RJ.fin [(0, .bool false)] rfl ?_
        have h29 := h24.only [] rfl
        replace h29 : St w0 F0 [] _ _ := h29
        refine J.ret ?_
        obtain rfl := Option.some.inj H
        exact ⟨_, _, _, (results_slots rfl), ⟨rfl, rfl⟩, h29.only [] rfl⟩
    · replace H := ite_f c2 H
      refine RJ.know (t := 40) rfl (congrArg Value.bool c2) ?_
      refine RJ.run ttok 29 rfl ?_
      refine RJ.fin [(0, .bool false)] rfl ?_
      have h30 := h24.only [] rfl
      replace h30 : St w0 F0 [] _ _ := h30
      refine J.ret ?_
      obtain rfl := Option.some.inj H
      exact ⟨_, _, _, (results_slots rfl), ⟨rfl, rfl⟩, h30.only [] rfl⟩
  · replace H := ite_f c1 H
    refine RJ.know (t := 34) rfl (congrArg Value.bool c1) ?_
    refine RJ.run ttok 35 rfl ?_
    refine RJ.fin [(0, .bool false)] rfl ?_
    have h31 := h24.only [] rfl
    replace h31 : St w0 F0 [] _ _ := h31
    refine J.ret ?_
    obtain rfl := Option.some.inj H
    exact ⟨_, _, _, (results_slots rfl), ⟨rfl, rfl⟩, h31.only [] rfl⟩

/-! sluicegate/sluicegatelaw15.PourKeeps -/
def sluicegatelaw15_PourKeeps.f (k : Nat) (a0 : Int × Int × Int × Int × Int × Int × Int × Int) (a1 : Int × List (Int) × List (List UInt8) × (List (List UInt8 × Bool × List UInt8)) × (List (List UInt8 × List UInt8))) (a2 : Int) (a3 : Int × List (Int) × List (List UInt8) × (List (List UInt8 × Bool × List UInt8)) × (List (List UInt8 × List UInt8))) (a4 : Int) : Option (Bool) := (sluicegatelaw15_right.f k (a0.1, a0.2.1, a0.2.2.1, a0.2.2.2.1, a0.2.2.2.2.1, a0.2.2.2.2.2.1, a0.2.2.2.2.2.2.1, a0.2.2.2.2.2.2.2) (a1.1, a1.2.1, a1.2.2.1, a1.2.2.2.1, a1.2.2.2.2) a2 (a3.1, a3.2.1, a3.2.2.1, a3.2.2.2.1, a3.2.2.2.2)).bind fun r1 => (if (!r1) = true then ((sluicegatelaw15_awake.f k).bind fun r2 => (some r2)) else ((pour_Pour.f k (a0.1, a0.2.1, a0.2.2.1, a0.2.2.2.1, a0.2.2.2.2.1, a0.2.2.2.2.2.1, a0.2.2.2.2.2.2.1, a0.2.2.2.2.2.2.2) (a1.1, a1.2.1, a1.2.2.1, a1.2.2.2.1, a1.2.2.2.2) a2 (a3.1, a3.2.1, a3.2.2.1, a3.2.2.2.1, a3.2.2.2.2) a4).bind fun r3 => (if (!decide ((w64 ((a1.2.2.2.1.length : Int) - (r3.1.2.2.2.1.length : Int))) = r3.2.2)) = true then (some false) else (if (decide (r3.2.2 < 0)) = true then (some false) else (if (decide ((if a4 > 0 then a4 else 0) < r3.2.2)) = true then (some false) else (if (decide ((w64 ((a3.2.2.2.1.length : Int) + r3.2.2)) < (r3.2.1.2.2.2.1.length : Int))) = true then (some false) else (if (decide ((w64 ((a3.2.2.2.2.length : Int) + r3.2.2)) < (r3.2.1.2.2.2.2.length : Int))) = true then (some false) else (if (decide ((r3.2.1.2.2.2.2.length : Int) < (w64 ((a3.2.2.2.2.length : Int) - r3.2.2)))) = true then (some false) else ((sluicegateref12_Span.f k a1.2.2.1 a2 (([] : List UInt8), ([] : List UInt8), true)).bind fun r4 => ((sluicegateref13_Right.f k (a0.1, a0.2.1, a0.2.2.1, a0.2.2.2.1, a0.2.2.2.2.1, a0.2.2.2.2.2.1, a0.2.2.2.2.2.2.1, a0.2.2.2.2.2.2.2) (([] : List UInt8), ([] : List UInt8), true) (r3.1.1, r3.1.2.1, r3.1.2.2.1, r3.1.2.2.2.1, r3.1.2.2.2.2)).bind fun r5 => (if r5 = true then (if (!r4.2) = true then ((sluicegatelaw15_awake.f k).bind fun r6 => (some r6)) else ((sluicegateref13_Right.f k (a0.1, a0.2.1, a0.2.2.1, a0.2.2.2.1, a0.2.2.2.2.1, (w64 (a0.2.2.2.2.2.1 + r3.2.2)), a0.2.2.2.2.2.2.1, a0.2.2.2.2.2.2.2) (r4.1.1, r4.1.2.1, r4.1.2.2) (r3.2.1.1, r3.2.1.2.1, r3.2.1.2.2.1, r3.2.1.2.2.2.1, r3.2.1.2.2.2.2)).bind fun r7 => (if r7 = true then ((sluicegatelaw15_awake.f k).bind fun r8 => (some r8)) else (some false)))) else (some false))))))))))))
set_option maxRecDepth 20000 in
set_option maxHeartbeats 40000000 in
theorem sluicegatelaw15_PourKeeps.spec {k : Nat} {a0 : Int × Int × Int × Int × Int × Int × Int × Int} {a1 : Int × List (Int) × List (List UInt8) × (List (List UInt8 × Bool × List UInt8)) × (List (List UInt8 × List UInt8))} {a2 : Int} {a3 : Int × List (Int) × List (List UInt8) × (List (List UInt8 × Bool × List UInt8)) × (List (List UInt8 × List UInt8))} {a4 : Int} {A1 : Option Addr} {c_1 : Nat} {A2 : Option Addr} {c_2 : Nat} {A3 : Option Addr} {c_3 : Nat} {A4 : Option Addr} {c_4 : Nat} {A5 : Option Addr} {c_5 : Nat} {A6 : Option Addr} {c_6 : Nat} {A7 : Option Addr} {c_7 : Nat} {A8 : Option Addr} {c_8 : Nat} {r : Bool} (H : sluicegatelaw15_PourKeeps.f k a0 a1 a2 a3 a4 = some r) :
    Spec Try.prog 10 [.agg #[.int .i64 a0.1, .int .i64 a0.2.1, .int .i64 a0.2.2.1, .int .i64 a0.2.2.2.1, .int .i64 a0.2.2.2.2.1, .int .i64 a0.2.2.2.2.2.1, .int .i64 a0.2.2.2.2.2.2.1, .int .i64 a0.2.2.2.2.2.2.2], .agg #[.int .i64 a1.1, .slice A1 a1.2.1.length c_1, .slice A2 a1.2.2.1.length c_2, .slice A3 a1.2.2.2.1.length c_3, .slice A4 a1.2.2.2.2.length c_4], .int .i64 a2, .agg #[.int .i64 a3.1, .slice A5 a3.2.1.length c_5, .slice A6 a3.2.2.1.length c_6, .slice A7 a3.2.2.2.1.length c_7, .slice A8 a3.2.2.2.2.length c_8], .int .i64 a4] [] [rdC 23 (.int .u32) a1.2.1 (.slice A1 a1.2.1.length c_1), rdC 9 .str a1.2.2.1 (.slice A2 a1.2.2.1.length c_2), rdC 135 (.pair .str (.pair .bool .str)) a1.2.2.2.1 (.slice A3 a1.2.2.2.1.length c_3), rdC 75 (.pair .str .str) a1.2.2.2.2 (.slice A4 a1.2.2.2.2.length c_4), rdC 23 (.int .u32) a3.2.1 (.slice A5 a3.2.1.length c_5), rdC 9 .str a3.2.2.1 (.slice A6 a3.2.2.1.length c_6), rdC 135 (.pair .str (.pair .bool .str)) a3.2.2.2.1 (.slice A7 a3.2.2.2.1.length c_7), rdC 75 (.pair .str .str) a3.2.2.2.2 (.slice A8 a3.2.2.2.2.length c_8)] (fun v l => v = .bool r ∧ l = []) := by
  refine Spec.enter Try.func10 rfl (by kernel_rfl) (by kernel_rfl) fun w0 F0 h0 => ?_
  unfold sluicegatelaw15_PourKeeps.f at H
  refine J.seq ?_
  refine J.region ?_
  refine RJ.op rfl rfl (op_box rfl rfl h0) ?_
  rintro _ w1 ⟨b1, rfl, h1⟩
  replace h1 : St w0 F0 [boxC b1 61 [.int .i64 a0.1, .int .i64 a0.2.1, .int .i64 a0.2.2.1, .int .i64 a0.2.2.2.1, .int .i64 a0.2.2.2.2.1, .int .i64 a0.2.2.2.2.2.1, .int .i64 a0.2.2.2.2.2.2.1, .int .i64 a0.2.2.2.2.2.2.2]] _ _ := h1
  refine RJ.op rfl rfl (op_box rfl rfl h1) ?_
  rintro _ w2 ⟨b2, rfl, h2⟩
  replace h2 : St w0 F0 [boxC b2 86 [.int .i64 a1.1, .slice A1 a1.2.1.length c_1, .slice A2 a1.2.2.1.length c_2, .slice A3 a1.2.2.2.1.length c_3, .slice A4 a1.2.2.2.2.length c_4], boxC b1 61 [.int .i64 a0.1, .int .i64 a0.2.1, .int .i64 a0.2.2.1, .int .i64 a0.2.2.2.1, .int .i64 a0.2.2.2.2.1, .int .i64 a0.2.2.2.2.2.1, .int .i64 a0.2.2.2.2.2.2.1, .int .i64 a0.2.2.2.2.2.2.2]] _ _ := h2
  refine RJ.op rfl rfl (op_box rfl rfl h2) ?_
  rintro _ w3 ⟨b3, rfl, h3⟩
  replace h3 : St w0 F0 [boxC b3 86 [.int .i64 a3.1, .slice A5 a3.2.1.length c_5, .slice A6 a3.2.2.1.length c_6, .slice A7 a3.2.2.2.1.length c_7, .slice A8 a3.2.2.2.2.length c_8], boxC b2 86 [.int .i64 a1.1, .slice A1 a1.2.1.length c_1, .slice A2 a1.2.2.1.length c_2, .slice A3 a1.2.2.2.1.length c_3, .slice A4 a1.2.2.2.2.length c_4], boxC b1 61 [.int .i64 a0.1, .int .i64 a0.2.1, .int .i64 a0.2.2.1, .int .i64 a0.2.2.2.1, .int .i64 a0.2.2.2.2.1, .int .i64 a0.2.2.2.2.2.1, .int .i64 a0.2.2.2.2.2.2.1, .int .i64 a0.2.2.2.2.2.2.2]] _ _ := h3
  refine RJ.run ttok 1 rfl ?_
  refine RJ.fin [(2, .int .i64 a2), (4, .int .i64 a4), (5, .pointer (some ⟨b1, 0, none⟩)), (6, .pointer (some ⟨b2, 0, none⟩)), (8, .pointer (some ⟨b3, 0, none⟩))] rfl ?_
  refine J.seq ?_
  refine J.seq ?_
  refine J.region ?_
  refine RJ.q rfl rfl (q_load_box ttok 2 (fun w e => e ▸ h3.wh) rfl rfl rfl rfl rfl) ?_
  refine RJ.q rfl rfl (q_load_box ttok 1 (fun w e => e ▸ h3.wh) rfl rfl rfl rfl rfl) ?_
  refine RJ.run ttok 1 rfl ?_
  refine RJ.q rfl rfl (q_load_box ttok 0 (fun w e => e ▸ h3.wh) rfl rfl rfl rfl rfl) ?_
  obtain ⟨r1, q1, H⟩ := bind_t H
  refine RJ.op rfl rfl (op_call [] (sluicegatelaw15_right.spec q1) rfl rfl rfl h3 rfl (gcons (Gives.self 3 rfl) (gcons (Gives.self 4 rfl) (gcons (Gives.self 5 rfl) (gcons (Gives.self 6 rfl) (gcons (Gives.self 7 rfl) (gcons (Gives.self 8 rfl) (gcons (Gives.self 9 rfl) (gcons (Gives.self 10 rfl) gnil))))))))) ?_
  rintro _ w4 ⟨_, ⟨rfl, rfl⟩, h4⟩
  replace h4 : St w0 F0 [boxC b3 86 [.int .i64 a3.1, .slice A5 a3.2.1.length c_5, .slice A6 a3.2.2.1.length c_6, .slice A7 a3.2.2.2.1.length c_7, .slice A8 a3.2.2.2.2.length c_8], boxC b2 86 [.int .i64 a1.1, .slice A1 a1.2.1.length c_1, .slice A2 a1.2.2.1.length c_2, .slice A3 a1.2.2.2.1.length c_3, .slice A4 a1.2.2.2.2.length c_4], boxC b1 61 [.int .i64 a0.1, .int .i64 a0.2.1, .int .i64 a0.2.2.1, .int .i64 a0.2.2.2.1, .int .i64 a0.2.2.2.2.1, .int .i64 a0.2.2.2.2.2.1, .int .i64 a0.2.2.2.2.2.2.1, .int .i64 a0.2.2.2.2.2.2.2]] _ _ := h4
  refine RJ.run ttok 1 rfl ?_
  refine RJ.fin [(2, .int .i64 a2), (4, .int .i64 a4), (5, .pointer (some ⟨b1, 0, none⟩)), (6, .pointer (some ⟨b2, 0, none⟩)), (8, .pointer (some ⟨b3, 0, none⟩)), (22, .bool (!r1))] rfl ?_
  refine J.cond rfl (fun c1 => ?_) (fun c1 => ?_)
  · replace H := ite_t c1 H
    refine J.seq ?_
    refine J.region ?_
    obtain ⟨r2, q2, H⟩ := bind_t H
    refine RJ.op rfl rfl (op_call [] (sluicegatelaw15_awake.spec q2) rfl rfl rfl h4 rfl gnil) ?_
    rintro _ w5 ⟨_, ⟨rfl, rfl⟩, h5⟩
    replace h5 : St w0 F0 [boxC b3 86 [.int .i64 a3.1, .slice A5 a3.2.1.length c_5, .slice A6 a3.2.2.1.length c_6, .slice A7 a3.2.2.2.1.length c_7, .slice A8 a3.2.2.2.2.length c_8], boxC b2 86 [.int .i64 a1.1, .slice A1 a1.2.1.length c_1, .slice A2 a1.2.2.1.length c_2, .slice A3 a1.2.2.2.1.length c_3, .slice A4 a1.2.2.2.2.length c_4], boxC b1 61 [.int .i64 a0.1, .int .i64 a0.2.1, .int .i64 a0.2.2.1, .int .i64 a0.2.2.2.1, .int .i64 a0.2.2.2.2.1, .int .i64 a0.2.2.2.2.2.1, .int .i64 a0.2.2.2.2.2.2.1, .int .i64 a0.2.2.2.2.2.2.2]] _ _ := h5
    refine RJ.run ttok 1 rfl ?_
    refine RJ.fin [(10, .bool r2)] rfl ?_
    have h6 := h5.only [] rfl
    replace h6 : St w0 F0 [] _ _ := h6
    refine J.ret ?_
    obtain rfl := Option.some.inj H
    exact ⟨_, _, _, (results_slots rfl), ⟨rfl, rfl⟩, h6.only [] rfl⟩
  · replace H := ite_f c1 H
    refine J.skip ?_
    refine J.seq ?_
    refine J.region ?_
    refine RJ.q rfl rfl (q_load_box ttok 2 (fun w e => e ▸ h4.wh) rfl rfl rfl rfl rfl) ?_
    refine RJ.q rfl rfl (q_load_box ttok 1 (fun w e => e ▸ h4.wh) rfl rfl rfl rfl rfl) ?_
    refine RJ.run ttok 1 rfl ?_
    refine RJ.q rfl rfl (q_load_box ttok 0 (fun w e => e ▸ h4.wh) rfl rfl rfl rfl rfl) ?_
    refine RJ.run ttok 1 rfl ?_
    obtain ⟨r3, q3, H⟩ := bind_t H
    refine RJ.op rfl rfl (op_call [] (pour_Pour.spec q3) rfl rfl rfl h4 rfl (gcons (Gives.self 3 rfl) (gcons (Gives.self 4 rfl) (gcons (Gives.self 5 rfl) (gcons (Gives.self 6 rfl) (gcons (Gives.self 7 rfl) (gcons (Gives.self 8 rfl) (gcons (Gives.self 9 rfl) (gcons (Gives.self 10 rfl) gnil))))))))) ?_
    rintro _ w6 ⟨_, ⟨A9, c_9, A10, c_10, A11, c_11, A12, c_12, A13, c_13, A14, c_14, A15, c_15, A16, c_16, rfl, rfl⟩, h7⟩
    replace h7 : St w0 F0 [ownC 23 (.int .u32) r3.1.2.1 (.slice A9 r3.1.2.1.length c_9), ownC 9 .str r3.1.2.2.1 (.slice A10 r3.1.2.2.1.length c_10), ownC 135 (.pair .str (.pair .bool .str)) r3.1.2.2.2.1 (.slice A11 r3.1.2.2.2.1.length c_11), ownC 75 (.pair .str .str) r3.1.2.2.2.2 (.slice A12 r3.1.2.2.2.2.length c_12), ownC 23 (.int .u32) r3.2.1.2.1 (.slice A13 r3.2.1.2.1.length c_13), ownC 9 .str r3.2.1.2.2.1 (.slice A14 r3.2.1.2.2.1.length c_14), ownC 135 (.pair .str (.pair .bool .str)) r3.2.1.2.2.2.1 (.slice A15 r3.2.1.2.2.2.1.length c_15), ownC 75 (.pair .str .str) r3.2.1.2.2.2.2 (.slice A16 r3.2.1.2.2.2.2.length c_16), boxC b3 86 [.int .i64 a3.1, .slice A5 a3.2.1.length c_5, .slice A6 a3.2.2.1.length c_6, .slice A7 a3.2.2.2.1.length c_7, .slice A8 a3.2.2.2.2.length c_8], boxC b2 86 [.int .i64 a1.1, .slice A1 a1.2.1.length c_1, .slice A2 a1.2.2.1.length c_2, .slice A3 a1.2.2.2.1.length c_3, .slice A4 a1.2.2.2.2.length c_4], boxC b1 61 [.int .i64 a0.1, .int .i64 a0.2.1, .int .i64 a0.2.2.1, .int .i64 a0.2.2.2.1, .int .i64 a0.2.2.2.2.1, .int .i64 a0.2.2.2.2.2.1, .int .i64 a0.2.2.2.2.2.2.1, .int .i64 a0.2.2.2.2.2.2.2]] _ _ := h7
    refine RJ.run ttok 4 rfl ?_
    refine RJ.op rfl rfl (op_alloc ttok rfl rfl h7) ?_
    rintro _ w7 ⟨b4, rfl, h8⟩
    replace h8 : St w0 F0 [boxC b4 86 [.int .i64 0, .slice none ([] : List (Int)).length 0, .slice none ([] : List (List UInt8)).length 0, .slice none ([] : List (List UInt8 × Bool × List UInt8)).length 0, .slice none ([] : List (List UInt8 × List UInt8)).length 0], ownC 23 (.int .u32) r3.1.2.1 (.slice A9 r3.1.2.1.length c_9), ownC 9 .str r3.1.2.2.1 (.slice A10 r3.1.2.2.1.length c_10), ownC 135 (.pair .str (.pair .bool .str)) r3.1.2.2.2.1 (.slice A11 r3.1.2.2.2.1.length c_11), ownC 75 (.pair .str .str) r3.1.2.2.2.2 (.slice A12 r3.1.2.2.2.2.length c_12), ownC 23 (.int .u32) r3.2.1.2.1 (.slice A13 r3.2.1.2.1.length c_13), ownC 9 .str r3.2.1.2.2.1 (.slice A14 r3.2.1.2.2.1.length c_14), ownC 135 (.pair .str (.pair .bool .str)) r3.2.1.2.2.2.1 (.slice A15 r3.2.1.2.2.2.1.length c_15), ownC 75 (.pair .str .str) r3.2.1.2.2.2.2 (.slice A16 r3.2.1.2.2.2.2.length c_16), boxC b3 86 [.int .i64 a3.1, .slice A5 a3.2.1.length c_5, .slice A6 a3.2.2.1.length c_6, .slice A7 a3.2.2.2.1.length c_7, .slice A8 a3.2.2.2.2.length c_8], boxC b2 86 [.int .i64 a1.1, .slice A1 a1.2.1.length c_1, .slice A2 a1.2.2.1.length c_2, .slice A3 a1.2.2.2.1.length c_3, .slice A4 a1.2.2.2.2.length c_4], boxC b1 61 [.int .i64 a0.1, .int .i64 a0.2.1, .int .i64 a0.2.2.1, .int .i64 a0.2.2.2.1, .int .i64 a0.2.2.2.2.1, .int .i64 a0.2.2.2.2.2.1, .int .i64 a0.2.2.2.2.2.2.1, .int .i64 a0.2.2.2.2.2.2.2]] _ _ := h8
    refine RJ.op rfl rfl (op_alloc ttok rfl rfl h8) ?_
    rintro _ w8 ⟨b5, rfl, h9⟩
    replace h9 : St w0 F0 [boxC b5 86 [.int .i64 0, .slice none ([] : List (Int)).length 0, .slice none ([] : List (List UInt8)).length 0, .slice none ([] : List (List UInt8 × Bool × List UInt8)).length 0, .slice none ([] : List (List UInt8 × List UInt8)).length 0], boxC b4 86 [.int .i64 0, .slice none ([] : List (Int)).length 0, .slice none ([] : List (List UInt8)).length 0, .slice none ([] : List (List UInt8 × Bool × List UInt8)).length 0, .slice none ([] : List (List UInt8 × List UInt8)).length 0], ownC 23 (.int .u32) r3.1.2.1 (.slice A9 r3.1.2.1.length c_9), ownC 9 .str r3.1.2.2.1 (.slice A10 r3.1.2.2.1.length c_10), ownC 135 (.pair .str (.pair .bool .str)) r3.1.2.2.2.1 (.slice A11 r3.1.2.2.2.1.length c_11), ownC 75 (.pair .str .str) r3.1.2.2.2.2 (.slice A12 r3.1.2.2.2.2.length c_12), ownC 23 (.int .u32) r3.2.1.2.1 (.slice A13 r3.2.1.2.1.length c_13), ownC 9 .str r3.2.1.2.2.1 (.slice A14 r3.2.1.2.2.1.length c_14), ownC 135 (.pair .str (.pair .bool .str)) r3.2.1.2.2.2.1 (.slice A15 r3.2.1.2.2.2.1.length c_15), ownC 75 (.pair .str .str) r3.2.1.2.2.2.2 (.slice A16 r3.2.1.2.2.2.2.length c_16), boxC b3 86 [.int .i64 a3.1, .slice A5 a3.2.1.length c_5, .slice A6 a3.2.2.1.length c_6, .slice A7 a3.2.2.2.1.length c_7, .slice A8 a3.2.2.2.2.length c_8], boxC b2 86 [.int .i64 a1.1, .slice A1 a1.2.1.length c_1, .slice A2 a1.2.2.1.length c_2, .slice A3 a1.2.2.2.1.length c_3, .slice A4 a1.2.2.2.2.length c_4], boxC b1 61 [.int .i64 a0.1, .int .i64 a0.2.1, .int .i64 a0.2.2.1, .int .i64 a0.2.2.2.1, .int .i64 a0.2.2.2.2.1, .int .i64 a0.2.2.2.2.2.1, .int .i64 a0.2.2.2.2.2.2.1, .int .i64 a0.2.2.2.2.2.2.2]] _ _ := h9
    refine RJ.op rfl rfl (op_store ttok 1 rfl h9 rfl rfl rfl rfl rfl rfl rfl) ?_
    intro _ w9 h10
    replace h10 : St w0 F0 [boxC b4 86 [.int .i64 r3.1.1, .slice A9 r3.1.2.1.length c_9, .slice A10 r3.1.2.2.1.length c_10, .slice A11 r3.1.2.2.2.1.length c_11, .slice A12 r3.1.2.2.2.2.length c_12], boxC b5 86 [.int .i64 0, .slice none ([] : List (Int)).length 0, .slice none ([] : List (List UInt8)).length 0, .slice none ([] : List (List UInt8 × Bool × List UInt8)).length 0, .slice none ([] : List (List UInt8 × List UInt8)).length 0], ownC 23 (.int .u32) r3.1.2.1 (.slice A9 r3.1.2.1.length c_9), ownC 9 .str r3.1.2.2.1 (.slice A10 r3.1.2.2.1.length c_10), ownC 135 (.pair .str (.pair .bool .str)) r3.1.2.2.2.1 (.slice A11 r3.1.2.2.2.1.length c_11), ownC 75 (.pair .str .str) r3.1.2.2.2.2 (.slice A12 r3.1.2.2.2.2.length c_12), ownC 23 (.int .u32) r3.2.1.2.1 (.slice A13 r3.2.1.2.1.length c_13), ownC 9 .str r3.2.1.2.2.1 (.slice A14 r3.2.1.2.2.1.length c_14), ownC 135 (.pair .str (.pair .bool .str)) r3.2.1.2.2.2.1 (.slice A15 r3.2.1.2.2.2.1.length c_15), ownC 75 (.pair .str .str) r3.2.1.2.2.2.2 (.slice A16 r3.2.1.2.2.2.2.length c_16), boxC b3 86 [.int .i64 a3.1, .slice A5 a3.2.1.length c_5, .slice A6 a3.2.2.1.length c_6, .slice A7 a3.2.2.2.1.length c_7, .slice A8 a3.2.2.2.2.length c_8], boxC b2 86 [.int .i64 a1.1, .slice A1 a1.2.1.length c_1, .slice A2 a1.2.2.1.length c_2, .slice A3 a1.2.2.2.1.length c_3, .slice A4 a1.2.2.2.2.length c_4], boxC b1 61 [.int .i64 a0.1, .int .i64 a0.2.1, .int .i64 a0.2.2.1, .int .i64 a0.2.2.2.1, .int .i64 a0.2.2.2.2.1, .int .i64 a0.2.2.2.2.2.1, .int .i64 a0.2.2.2.2.2.2.1, .int .i64 a0.2.2.2.2.2.2.2]] _ _ := h10
    refine RJ.op rfl rfl (op_store ttok 1 rfl h10 rfl rfl rfl rfl rfl rfl rfl) ?_
    intro _ w10 h11
    replace h11 : St w0 F0 [boxC b5 86 [.int .i64 r3.2.1.1, .slice A13 r3.2.1.2.1.length c_13, .slice A14 r3.2.1.2.2.1.length c_14, .slice A15 r3.2.1.2.2.2.1.length c_15, .slice A16 r3.2.1.2.2.2.2.length c_16], boxC b4 86 [.int .i64 r3.1.1, .slice A9 r3.1.2.1.length c_9, .slice A10 r3.1.2.2.1.length c_10, .slice A11 r3.1.2.2.2.1.length c_11, .slice A12 r3.1.2.2.2.2.length c_12], ownC 23 (.int .u32) r3.1.2.1 (.slice A9 r3.1.2.1.length c_9), ownC 9 .str r3.1.2.2.1 (.slice A10 r3.1.2.2.1.length c_10), ownC 135 (.pair .str (.pair .bool .str)) r3.1.2.2.2.1 (.slice A11 r3.1.2.2.2.1.length c_11), ownC 75 (.pair .str .str) r3.1.2.2.2.2 (.slice A12 r3.1.2.2.2.2.length c_12), ownC 23 (.int .u32) r3.2.1.2.1 (.slice A13 r3.2.1.2.1.length c_13), ownC 9 .str r3.2.1.2.2.1 (.slice A14 r3.2.1.2.2.1.length c_14), ownC 135 (.pair .str (.pair .bool .str)) r3.2.1.2.2.2.1 (.slice A15 r3.2.1.2.2.2.1.length c_15), ownC 75 (.pair .str .str) r3.2.1.2.2.2.2 (.slice A16 r3.2.1.2.2.2.2.length c_16), boxC b3 86 [.int .i64 a3.1, .slice A5 a3.2.1.length c_5, .slice A6 a3.2.2.1.length c_6, .slice A7 a3.2.2.2.1.length c_7, .slice A8 a3.2.2.2.2.length c_8], boxC b2 86 [.int .i64 a1.1, .slice A1 a1.2.1.length c_1, .slice A2 a1.2.2.1.length c_2, .slice A3 a1.2.2.2.1.length c_3, .slice A4 a1.2.2.2.2.length c_4], boxC b1 61 [.int .i64 a0.1, .int .i64 a0.2.1, .int .i64 a0.2.2.1, .int .i64 a0.2.2.2.1, .int .i64 a0.2.2.2.2.1, .int .i64 a0.2.2.2.2.2.1, .int .i64 a0.2.2.2.2.2.2.1, .int .i64 a0.2.2.2.2.2.2.2]] _ _ := h11
    refine RJ.run ttok 1 rfl ?_
    refine RJ.fin [(2, .int .i64 a2), (4, .int .i64 a4), (5, .pointer (some ⟨b1, 0, none⟩)), (6, .pointer (some ⟨b2, 0, none⟩)), (8, .pointer (some ⟨b3, 0, none⟩)), (11, .pointer (some ⟨b4, 0, none⟩)), (12, .pointer (some ⟨b5, 0, none⟩)), (13, .int .i64 r3.2.2)] rfl ?_
    refine J.seq ?_
    refine J.seq ?_
    refine J.region ?_
    refine RJ.run ttok 1 rfl ?_
    refine RJ.q rfl rfl (q_load_box ttok 11 (fun w e => e ▸ h11.wh) rfl rfl rfl rfl rfl) ?_
    refine RJ.run ttok 2 rfl ?_
    refine RJ.q rfl rfl (q_load_box ttok 1 (fun w e => e ▸ h11.wh) rfl rfl rfl rfl rfl) ?_
    refine RJ.run ttok 5 rfl ?_
    rcases Bool.eq_false_or_eq_true (!decide ((w64 ((a1.2.2.2.1.length : Int) - (r3.1.2.2.2.1.length : Int))) = r3.2.2)) with c2 | c2
    · replace H := ite_t c2 H
      refine RJ.know (t := 43) rfl (congrArg Value.bool c2) ?_
      refine RJ.run ttok 42 rfl ?_
      refine RJ.fin [(2, .int .i64 a2), (5, .pointer (some ⟨b1, 0, none⟩)), (6, .pointer (some ⟨b2, 0, none⟩)), (11, .pointer (some ⟨b4, 0, none⟩)), (12, .pointer (some ⟨b5, 0, none⟩)), (13, .int .i64 r3.2.2), (85, .bool true)] rfl ?_
      refine J.condT rfl ?_
      refine J.seq ?_
      refine J.region ?_
      refine RJ.run ttok 1 rfl ?_
      refine RJ.fin [(10, .bool false)] rfl ?_
      have h12 := h11.only [] rfl
      replace h12 : St w0 F0 [] _ _ := h12
      refine J.ret ?_
      obtain rfl := Option.some.inj H
      exact ⟨_, _, _, (results_slots rfl), ⟨rfl, rfl⟩, h12.only [] rfl⟩
    · replace H := ite_f c2 H
      refine RJ.know (t := 43) rfl (congrArg Value.bool c2) ?_
      refine RJ.run ttok 4 rfl ?_
      rcases Bool.eq_false_or_eq_true (decide (r3.2.2 < 0)) with c3 | c3
      · replace H := ite_t c3 H
        refine RJ.know (t := 47) rfl (congrArg Value.bool c3) ?_
        refine RJ.run ttok 38 rfl ?_
        refine RJ.fin [(2, .int .i64 a2), (5, .pointer (some ⟨b1, 0, none⟩)), (6, .pointer (some ⟨b2, 0, none⟩)), (11, .pointer (some ⟨b4, 0, none⟩)), (12, .pointer (some ⟨b5, 0, none⟩)), (13, .int .i64 r3.2.2), (85, .bool true)] rfl ?_
        refine J.condT rfl ?_
        refine J.seq ?_
        refine J.region ?_
        refine RJ.run ttok 1 rfl ?_
        refine RJ.fin [(10, .bool false)] rfl ?_
        have h13 := h11.only [] rfl
        replace h13 : St w0 F0 [] _ _ := h13
        refine J.ret ?_
        obtain rfl := Option.some.inj H
        exact ⟨_, _, _, (results_slots rfl), ⟨rfl, rfl⟩, h13.only [] rfl⟩
      · replace H := ite_f c3 H
        refine RJ.know (t := 47) rfl (congrArg Value.bool c3) ?_
        refine RJ.run ttok 6 rfl ?_
        rcases Bool.eq_false_or_eq_true (decide ((if a4 > 0 then a4 else 0) < r3.2.2)) with c4 | c4
        · replace H := ite_t c4 H
          refine RJ.know (t := 53) rfl (congrArg Value.bool c4) ?_
          refine RJ.run ttok 32 rfl ?_
          refine RJ.fin [(2, .int .i64 a2), (5, .pointer (some ⟨b1, 0, none⟩)), (6, .pointer (some ⟨b2, 0, none⟩)), (11, .pointer (some ⟨b4, 0, none⟩)), (12, .pointer (some ⟨b5, 0, none⟩)), (13, .int .i64 r3.2.2), (85, .bool true)] rfl ?_
          refine J.condT rfl ?_
          refine J.seq ?_
          refine J.region ?_
          refine RJ.run ttok 1 rfl ?_
          refine RJ.fin [(10, .bool false)] rfl ?_
          have h14 := h11.only [] rfl
          replace h14 : St w0 F0 [] _ _ := h14
          refine J.ret ?_
          obtain rfl := Option.some.inj H
          exact ⟨_, _, _, (results_slots rfl), ⟨rfl, rfl⟩, h14.only [] rfl⟩
        · replace H := ite_f c4 H
          refine RJ.know (t := 53) rfl (congrArg Value.bool c4) ?_
          refine RJ.run ttok 1 rfl ?_
          refine RJ.q rfl rfl (q_load_box ttok 0 (fun w e => e ▸ h11.wh) rfl rfl rfl rfl rfl) ?_
          refine RJ.run ttok 2 rfl ?_
          refine RJ.q rfl rfl (q_load_box ttok 10 (fun w e => e ▸ h11.wh) rfl rfl rfl rfl rfl) ?_
          refine RJ.run ttok 6 rfl ?_
          rcases Bool.eq_false_or_eq_true (decide ((w64 ((a3.2.2.2.1.length : Int) + r3.2.2)) < (r3.2.1.2.2.2.1.length : Int))) with c5 | c5
          · replace H := ite_t c5 H
            refine RJ.know (t := 64) rfl (congrArg Value.bool c5) ?_
            refine RJ.run ttok 21 rfl ?_
            refine RJ.fin [(2, .int .i64 a2), (5, .pointer (some ⟨b1, 0, none⟩)), (6, .pointer (some ⟨b2, 0, none⟩)), (11, .pointer (some ⟨b4, 0, none⟩)), (12, .pointer (some ⟨b5, 0, none⟩)), (13, .int .i64 r3.2.2), (85, .bool true)] rfl ?_
            refine J.condT rfl ?_
            refine J.seq ?_
            refine J.region ?_
            refine RJ.run ttok 1 rfl ?_
            refine RJ.fin [(10, .bool false)] rfl ?_
            have h15 := h11.only [] rfl
            replace h15 : St w0 F0 [] _ _ := h15
            refine J.ret ?_
            obtain rfl := Option.some.inj H
            exact ⟨_, _, _, (results_slots rfl), ⟨rfl, rfl⟩, h15.only [] rfl⟩
          · replace H := ite_f c5 H
            refine RJ.know (t := 64) rfl (congrArg Value.bool c5) ?_
            refine RJ.run ttok 1 rfl ?_
            refine RJ.q rfl rfl (q_load_box ttok 0 (fun w e => e ▸ h11.wh) rfl rfl rfl rfl rfl) ?_
            refine RJ.run ttok 2 rfl ?_
            refine RJ.q rfl rfl (q_load_box ttok 10 (fun w e => e ▸ h11.wh) rfl rfl rfl rfl rfl) ?_
            refine RJ.run ttok 6 rfl ?_
            rcases Bool.eq_false_or_eq_true (decide ((w64 ((a3.2.2.2.2.length : Int) + r3.2.2)) < (r3.2.1.2.2.2.2.length : Int))) with c6 | c6
            · replace H := ite_t c6 H
              refine RJ.know (t := 75) rfl (congrArg Value.bool c6) ?_
              refine RJ.run ttok 10 rfl ?_
              refine RJ.fin [(2, .int .i64 a2), (5, .pointer (some ⟨b1, 0, none⟩)), (6, .pointer (some ⟨b2, 0, none⟩)), (11, .pointer (some ⟨b4, 0, none⟩)), (12, .pointer (some ⟨b5, 0, none⟩)), (13, .int .i64 r3.2.2), (85, .bool true)] rfl ?_
              refine J.condT rfl ?_
              refine J.seq ?_
              refine J.region ?_
              refine RJ.run ttok 1 rfl ?_
              refine RJ.fin [(10, .bool false)] rfl ?_
              have h16 := h11.only [] rfl
              replace h16 : St w0 F0 [] _ _ := h16
              refine J.ret ?_
              obtain rfl := Option.some.inj H
              exact ⟨_, _, _, (results_slots rfl), ⟨rfl, rfl⟩, h16.only [] rfl⟩
            · replace H := ite_f c6 H
              refine RJ.know (t := 75) rfl (congrArg Value.bool c6) ?_
              refine RJ.run ttok 1 rfl ?_
              refine RJ.q rfl rfl (q_load_box ttok 0 (fun w e => e ▸ h11.wh) rfl rfl rfl rfl rfl) ?_
              refine RJ.run ttok 2 rfl ?_
              refine RJ.q rfl rfl (q_load_box ttok 10 (fun w e => e ▸ h11.wh) rfl rfl rfl rfl rfl) ?_
              refine RJ.run ttok 5 rfl ?_
              refine RJ.fin [(2, .int .i64 a2), (5, .pointer (some ⟨b1, 0, none⟩)), (6, .pointer (some ⟨b2, 0, none⟩)), (11, .pointer (some ⟨b4, 0, none⟩)), (12, .pointer (some ⟨b5, 0, none⟩)), (13, .int .i64 r3.2.2), (85, .bool (decide ((r3.2.1.2.2.2.2.length : Int) < (w64 ((a3.2.2.2.2.length : Int) - r3.2.2)))))] rfl ?_
              refine J.cond rfl (fun c7 => ?_) (fun c7 => ?_)
              · replace H := ite_t c7 H
                refine J.seq ?_
                refine J.region ?_
                refine RJ.run ttok 1 rfl ?_
                refine RJ.fin [(10, .bool false)] rfl ?_
                have h17 := h11.only [] rfl
                replace h17 : St w0 F0 [] _ _ := h17
                refine J.ret ?_
                obtain rfl := Option.some.inj H
                exact ⟨_, _, _, (results_slots rfl), ⟨rfl, rfl⟩, h17.only [] rfl⟩
              · replace H := ite_f c7 H
                refine J.skip ?_
                refine J.seq ?_
                refine J.region ?_
                refine RJ.run ttok 1 rfl ?_
                refine RJ.q rfl rfl (q_load_box ttok 11 (fun w e => e ▸ h11.wh) rfl rfl rfl rfl rfl) ?_
                refine RJ.run ttok 2 rfl ?_
                obtain ⟨r4, q4, H⟩ := bind_t H
                refine RJ.op rfl rfl (op_call [] (sluicegateref12_Span.spec q4) rfl rfl rfl h11 rfl (gcons (Gives.self 14 rfl) gnil)) ?_
                rintro _ w11 ⟨_, ⟨rfl, rfl⟩, h18⟩
                replace h18 : St w0 F0 [boxC b5 86 [.int .i64 r3.2.1.1, .slice A13 r3.2.1.2.1.length c_13, .slice A14 r3.2.1.2.2.1.length c_14, .slice A15 r3.2.1.2.2.2.1.length c_15, .slice A16 r3.2.1.2.2.2.2.length c_16], boxC b4 86 [.int .i64 r3.1.1, .slice A9 r3.1.2.1.length c_9, .slice A10 r3.1.2.2.1.length c_10, .slice A11 r3.1.2.2.2.1.length c_11, .slice A12 r3.1.2.2.2.2.length c_12], ownC 23 (.int .u32) r3.1.2.1 (.slice A9 r3.1.2.1.length c_9), ownC 9 .str r3.1.2.2.1 (.slice A10 r3.1.2.2.1.length c_10), ownC 135 (.pair .str (.pair .bool .str)) r3.1.2.2.2.1 (.slice A11 r3.1.2.2.2.1.length c_11), ownC 75 (.pair .str .str) r3.1.2.2.2.2 (.slice A12 r3.1.2.2.2.2.length c_12), ownC 23 (.int .u32) r3.2.1.2.1 (.slice A13 r3.2.1.2.1.length c_13), ownC 9 .str r3.2.1.2.2.1 (.slice A14 r3.2.1.2.2.1.length c_14), ownC 135 (.pair .str (.pair .bool .str)) r3.2.1.2.2.2.1 (.slice A15 r3.2.1.2.2.2.1.length c_15), ownC 75 (.pair .str .str) r3.2.1.2.2.2.2 (.slice A16 r3.2.1.2.2.2.2.length c_16), boxC b3 86 [.int .i64 a3.1, .slice A5 a3.2.1.length c_5, .slice A6 a3.2.2.1.length c_6, .slice A7 a3.2.2.2.1.length c_7, .slice A8 a3.2.2.2.2.length c_8], boxC b2 86 [.int .i64 a1.1, .slice A1 a1.2.1.length c_1, .slice A2 a1.2.2.1.length c_2, .slice A3 a1.2.2.2.1.length c_3, .slice A4 a1.2.2.2.2.length c_4], boxC b1 61 [.int .i64 a0.1, .int .i64 a0.2.1, .int .i64 a0.2.2.1, .int .i64 a0.2.2.2.1, .int .i64 a0.2.2.2.2.1, .int .i64 a0.2.2.2.2.2.1, .int .i64 a0.2.2.2.2.2.2.1, .int .i64 a0.2.2.2.2.2.2.2]] _ _ := h18
                refine RJ.run ttok 3 rfl ?_
                refine RJ.op rfl rfl (op_alloc ttok rfl rfl h18) ?_
                rintro _ w12 ⟨b6, rfl, h19⟩
                replace h19 : St w0 F0 [boxC b6 93 [.string ⟨⟨([] : List UInt8)⟩⟩, .string ⟨⟨([] : List UInt8)⟩⟩, .bool false], boxC b5 86 [.int .i64 r3.2.1.1, .slice A13 r3.2.1.2.1.length c_13, .slice A14 r3.2.1.2.2.1.length c_14, .slice A15 r3.2.1.2.2.2.1.length c_15, .slice A16 r3.2.1.2.2.2.2.length c_16], boxC b4 86 [.int .i64 r3.1.1, .slice A9 r3.1.2.1.length c_9, .slice A10 r3.1.2.2.1.length c_10, .slice A11 r3.1.2.2.2.1.length c_11, .slice A12 r3.1.2.2.2.2.length c_12], ownC 23 (.int .u32) r3.1.2.1 (.slice A9 r3.1.2.1.length c_9), ownC 9 .str r3.1.2.2.1 (.slice A10 r3.1.2.2.1.length c_10), ownC 135 (.pair .str (.pair .bool .str)) r3.1.2.2.2.1 (.slice A11 r3.1.2.2.2.1.length c_11), ownC 75 (.pair .str .str) r3.1.2.2.2.2 (.slice A12 r3.1.2.2.2.2.length c_12), ownC 23 (.int .u32) r3.2.1.2.1 (.slice A13 r3.2.1.2.1.length c_13), ownC 9 .str r3.2.1.2.2.1 (.slice A14 r3.2.1.2.2.1.length c_14), ownC 135 (.pair .str (.pair .bool .str)) r3.2.1.2.2.2.1 (.slice A15 r3.2.1.2.2.2.1.length c_15), ownC 75 (.pair .str .str) r3.2.1.2.2.2.2 (.slice A16 r3.2.1.2.2.2.2.length c_16), boxC b3 86 [.int .i64 a3.1, .slice A5 a3.2.1.length c_5, .slice A6 a3.2.2.1.length c_6, .slice A7 a3.2.2.2.1.length c_7, .slice A8 a3.2.2.2.2.length c_8], boxC b2 86 [.int .i64 a1.1, .slice A1 a1.2.1.length c_1, .slice A2 a1.2.2.1.length c_2, .slice A3 a1.2.2.2.1.length c_3, .slice A4 a1.2.2.2.2.length c_4], boxC b1 61 [.int .i64 a0.1, .int .i64 a0.2.1, .int .i64 a0.2.2.1, .int .i64 a0.2.2.2.1, .int .i64 a0.2.2.2.2.1, .int .i64 a0.2.2.2.2.2.1, .int .i64 a0.2.2.2.2.2.2.1, .int .i64 a0.2.2.2.2.2.2.2]] _ _ := h19
                refine RJ.op rfl rfl (op_store ttok 0 rfl h19 rfl rfl rfl rfl rfl rfl rfl) ?_
                intro _ w13 h20
                replace h20 : St w0 F0 [boxC b6 93 [.string ⟨⟨r4.1.1⟩⟩, .string ⟨⟨r4.1.2.1⟩⟩, .bool r4.1.2.2], boxC b5 86 [.int .i64 r3.2.1.1, .slice A13 r3.2.1.2.1.length c_13, .slice A14 r3.2.1.2.2.1.length c_14, .slice A15 r3.2.1.2.2.2.1.length c_15, .slice A16 r3.2.1.2.2.2.2.length c_16], boxC b4 86 [.int .i64 r3.1.1, .slice A9 r3.1.2.1.length c_9, .slice A10 r3.1.2.2.1.length c_10, .slice A11 r3.1.2.2.2.1.length c_11, .slice A12 r3.1.2.2.2.2.length c_12], ownC 23 (.int .u32) r3.1.2.1 (.slice A9 r3.1.2.1.length c_9), ownC 9 .str r3.1.2.2.1 (.slice A10 r3.1.2.2.1.length c_10), ownC 135 (.pair .str (.pair .bool .str)) r3.1.2.2.2.1 (.slice A11 r3.1.2.2.2.1.length c_11), ownC 75 (.pair .str .str) r3.1.2.2.2.2 (.slice A12 r3.1.2.2.2.2.length c_12), ownC 23 (.int .u32) r3.2.1.2.1 (.slice A13 r3.2.1.2.1.length c_13), ownC 9 .str r3.2.1.2.2.1 (.slice A14 r3.2.1.2.2.1.length c_14), ownC 135 (.pair .str (.pair .bool .str)) r3.2.1.2.2.2.1 (.slice A15 r3.2.1.2.2.2.1.length c_15), ownC 75 (.pair .str .str) r3.2.1.2.2.2.2 (.slice A16 r3.2.1.2.2.2.2.length c_16), boxC b3 86 [.int .i64 a3.1, .slice A5 a3.2.1.length c_5, .slice A6 a3.2.2.1.length c_6, .slice A7 a3.2.2.2.1.length c_7, .slice A8 a3.2.2.2.2.length c_8], boxC b2 86 [.int .i64 a1.1, .slice A1 a1.2.1.length c_1, .slice A2 a1.2.2.1.length c_2, .slice A3 a1.2.2.2.1.length c_3, .slice A4 a1.2.2.2.2.length c_4], boxC b1 61 [.int .i64 a0.1, .int .i64 a0.2.1, .int .i64 a0.2.2.1, .int .i64 a0.2.2.2.1, .int .i64 a0.2.2.2.2.1, .int .i64 a0.2.2.2.2.2.1, .int .i64 a0.2.2.2.2.2.2.1, .int .i64 a0.2.2.2.2.2.2.2]] _ _ := h20
                refine RJ.run ttok 1 rfl ?_
                refine RJ.fin [(5, .pointer (some ⟨b1, 0, none⟩)), (11, .pointer (some ⟨b4, 0, none⟩)), (12, .pointer (some ⟨b5, 0, none⟩)), (13, .int .i64 r3.2.2), (14, .pointer (some ⟨b6, 0, none⟩)), (15, .bool r4.2)] rfl ?_
                have h21 := h20.only [0, 0, 0, 0, 0, 0, 0, 0, 0, 0, 0, 2] rfl
                replace h21 : St w0 F0 [boxC b6 93 [.string ⟨⟨r4.1.1⟩⟩, .string ⟨⟨r4.1.2.1⟩⟩, .bool r4.1.2.2], boxC b5 86 [.int .i64 r3.2.1.1, .slice A13 r3.2.1.2.1.length c_13, .slice A14 r3.2.1.2.2.1.length c_14, .slice A15 r3.2.1.2.2.2.1.length c_15, .slice A16 r3.2.1.2.2.2.2.length c_16], boxC b4 86 [.int .i64 r3.1.1, .slice A9 r3.1.2.1.length c_9, .slice A10 r3.1.2.2.1.length c_10, .slice A11 r3.1.2.2.2.1.length c_11, .slice A12 r3.1.2.2.2.2.length c_12], ownC 23 (.int .u32) r3.1.2.1 (.slice A9 r3.1.2.1.length c_9), ownC 9 .str r3.1.2.2.1 (.slice A10 r3.1.2.2.1.length c_10), ownC 135 (.pair .str (.pair .bool .str)) r3.1.2.2.2.1 (.slice A11 r3.1.2.2.2.1.length c_11), ownC 75 (.pair .str .str) r3.1.2.2.2.2 (.slice A12 r3.1.2.2.2.2.length c_12), ownC 23 (.int .u32) r3.2.1.2.1 (.slice A13 r3.2.1.2.1.length c_13), ownC 9 .str r3.2.1.2.2.1 (.slice A14 r3.2.1.2.2.1.length c_14), ownC 135 (.pair .str (.pair .bool .str)) r3.2.1.2.2.2.1 (.slice A15 r3.2.1.2.2.2.1.length c_15), ownC 75 (.pair .str .str) r3.2.1.2.2.2.2 (.slice A16 r3.2.1.2.2.2.2.length c_16), boxC b1 61 [.int .i64 a0.1, .int .i64 a0.2.1, .int .i64 a0.2.2.1, .int .i64 a0.2.2.2.1, .int .i64 a0.2.2.2.2.1, .int .i64 a0.2.2.2.2.2.1, .int .i64 a0.2.2.2.2.2.2.1, .int .i64 a0.2.2.2.2.2.2.2]] _ _ := h21
                refine J.seq ?_
                refine J.region ?_
                refine RJ.q rfl rfl (q_load_box ttok 11 (fun w e => e ▸ h21.wh) rfl rfl rfl rfl rfl) ?_
                refine RJ.op rfl rfl (op_alloc ttok rfl rfl h21) ?_
                rintro _ w14 ⟨b7, rfl, h22⟩
                replace h22 : St w0 F0 [boxC b7 61 [.int .i64 0, .int .i64 0, .int .i64 0, .int .i64 0, .int .i64 0, .int .i64 0, .int .i64 0, .int .i64 0], boxC b6 93 [.string ⟨⟨r4.1.1⟩⟩, .string ⟨⟨r4.1.2.1⟩⟩, .bool r4.1.2.2], boxC b5 86 [.int .i64 r3.2.1.1, .slice A13 r3.2.1.2.1.length c_13, .slice A14 r3.2.1.2.2.1.length c_14, .slice A15 r3.2.1.2.2.2.1.length c_15, .slice A16 r3.2.1.2.2.2.2.length c_16], boxC b4 86 [.int .i64 r3.1.1, .slice A9 r3.1.2.1.length c_9, .slice A10 r3.1.2.2.1.length c_10, .slice A11 r3.1.2.2.2.1.length c_11, .slice A12 r3.1.2.2.2.2.length c_12], ownC 23 (.int .u32) r3.1.2.1 (.slice A9 r3.1.2.1.length c_9), ownC 9 .str r3.1.2.2.1 (.slice A10 r3.1.2.2.1.length c_10), ownC 135 (.pair .str (.pair .bool .str)) r3.1.2.2.2.1 (.slice A11 r3.1.2.2.2.1.length c_11), ownC 75 (.pair .str .str) r3.1.2.2.2.2 (.slice A12 r3.1.2.2.2.2.length c_12), ownC 23 (.int .u32) r3.2.1.2.1 (.slice A13 r3.2.1.2.1.length c_13), ownC 9 .str r3.2.1.2.2.1 (.slice A14 r3.2.1.2.2.1.length c_14), ownC 135 (.pair .str (.pair .bool .str)) r3.2.1.2.2.2.1 (.slice A15 r3.2.1.2.2.2.1.length c_15), ownC 75 (.pair .str .str) r3.2.1.2.2.2.2 (.slice A16 r3.2.1.2.2.2.2.length c_16), boxC b1 61 [.int .i64 a0.1, .int .i64 a0.2.1, .int .i64 a0.2.2.1, .int .i64 a0.2.2.2.1, .int .i64 a0.2.2.2.2.1, .int .i64 a0.2.2.2.2.2.1, .int .i64 a0.2.2.2.2.2.2.1, .int .i64 a0.2.2.2.2.2.2.2]] _ _ := h22
                refine RJ.op rfl rfl (op_store ttok 0 rfl h22 rfl rfl rfl rfl rfl rfl rfl) ?_
                intro _ w15 h23
                replace h23 : St w0 F0 [boxC b7 61 [.int .i64 a0.1, .int .i64 a0.2.1, .int .i64 a0.2.2.1, .int .i64 a0.2.2.2.1, .int .i64 a0.2.2.2.2.1, .int .i64 a0.2.2.2.2.2.1, .int .i64 a0.2.2.2.2.2.2.1, .int .i64 a0.2.2.2.2.2.2.2], boxC b6 93 [.string ⟨⟨r4.1.1⟩⟩, .string ⟨⟨r4.1.2.1⟩⟩, .bool r4.1.2.2], boxC b5 86 [.int .i64 r3.2.1.1, .slice A13 r3.2.1.2.1.length c_13, .slice A14 r3.2.1.2.2.1.length c_14, .slice A15 r3.2.1.2.2.2.1.length c_15, .slice A16 r3.2.1.2.2.2.2.length c_16], boxC b4 86 [.int .i64 r3.1.1, .slice A9 r3.1.2.1.length c_9, .slice A10 r3.1.2.2.1.length c_10, .slice A11 r3.1.2.2.2.1.length c_11, .slice A12 r3.1.2.2.2.2.length c_12], ownC 23 (.int .u32) r3.1.2.1 (.slice A9 r3.1.2.1.length c_9), ownC 9 .str r3.1.2.2.1 (.slice A10 r3.1.2.2.1.length c_10), ownC 135 (.pair .str (.pair .bool .str)) r3.1.2.2.2.1 (.slice A11 r3.1.2.2.2.1.length c_11), ownC 75 (.pair .str .str) r3.1.2.2.2.2 (.slice A12 r3.1.2.2.2.2.length c_12), ownC 23 (.int .u32) r3.2.1.2.1 (.slice A13 r3.2.1.2.1.length c_13), ownC 9 .str r3.2.1.2.2.1 (.slice A14 r3.2.1.2.2.1.length c_14), ownC 135 (.pair .str (.pair .bool .str)) r3.2.1.2.2.2.1 (.slice A15 r3.2.1.2.2.2.1.length c_15), ownC 75 (.pair .str .str) r3.2.1.2.2.2.2 (.slice A16 r3.2.1.2.2.2.2.length c_16), boxC b1 61 [.int .i64 a0.1, .int .i64 a0.2.1, .int .i64 a0.2.2.1, .int .i64 a0.2.2.2.1, .int .i64 a0.2.2.2.2.1, .int .i64 a0.2.2.2.2.2.1, .int .i64 a0.2.2.2.2.2.2.1, .int .i64 a0.2.2.2.2.2.2.2]] _ _ := h23
                refine RJ.fin [(5, .pointer (some ⟨b1, 0, none⟩)), (11, .pointer (some ⟨b4, 0, none⟩)), (12, .pointer (some ⟨b5, 0, none⟩)), (13, .int .i64 r3.2.2), (14, .pointer (some ⟨b6, 0, none⟩)), (15, .bool r4.2), (16, .pointer (some ⟨b7, 0, none⟩))] rfl ?_
                refine J.seq ?_
                refine J.region ?_
                refine RJ.run ttok 1 rfl ?_
                refine RJ.q rfl rfl (q_load_box ttok 12 (fun w e => e ▸ h23.wh) rfl rfl rfl rfl rfl) ?_
                refine RJ.run ttok 3 rfl ?_
                refine RJ.op rfl rfl (op_store ttok 0 rfl h23 rfl rfl rfl rfl rfl rfl rfl) ?_
                intro _ w16 h24
                replace h24 : St w0 F0 [boxC b7 61 [.int .i64 a0.1, .int .i64 a0.2.1, .int .i64 a0.2.2.1, .int .i64 a0.2.2.2.1, .int .i64 a0.2.2.2.2.1, .int .i64 (w64 (a0.2.2.2.2.2.1 + r3.2.2)), .int .i64 a0.2.2.2.2.2.2.1, .int .i64 a0.2.2.2.2.2.2.2], boxC b6 93 [.string ⟨⟨r4.1.1⟩⟩, .string ⟨⟨r4.1.2.1⟩⟩, .bool r4.1.2.2], boxC b5 86 [.int .i64 r3.2.1.1, .slice A13 r3.2.1.2.1.length c_13, .slice A14 r3.2.1.2.2.1.length c_14, .slice A15 r3.2.1.2.2.2.1.length c_15, .slice A16 r3.2.1.2.2.2.2.length c_16], boxC b4 86 [.int .i64 r3.1.1, .slice A9 r3.1.2.1.length c_9, .slice A10 r3.1.2.2.1.length c_10, .slice A11 r3.1.2.2.2.1.length c_11, .slice A12 r3.1.2.2.2.2.length c_12], ownC 23 (.int .u32) r3.1.2.1 (.slice A9 r3.1.2.1.length c_9), ownC 9 .str r3.1.2.2.1 (.slice A10 r3.1.2.2.1.length c_10), ownC 135 (.pair .str (.pair .bool .str)) r3.1.2.2.2.1 (.slice A11 r3.1.2.2.2.1.length c_11), ownC 75 (.pair .str .str) r3.1.2.2.2.2 (.slice A12 r3.1.2.2.2.2.length c_12), ownC 23 (.int .u32) r3.2.1.2.1 (.slice A13 r3.2.1.2.1.length c_13), ownC 9 .str r3.2.1.2.2.1 (.slice A14 r3.2.1.2.2.1.length c_14), ownC 135 (.pair .str (.pair .bool .str)) r3.2.1.2.2.2.1 (.slice A15 r3.2.1.2.2.2.1.length c_15), ownC 75 (.pair .str .str) r3.2.1.2.2.2.2 (.slice A16 r3.2.1.2.2.2.2.length c_16), boxC b1 61 [.int .i64 a0.1, .int .i64 a0.2.1, .int .i64 a0.2.2.1, .int .i64 a0.2.2.2.1, .int .i64 a0.2.2.2.2.1, .int .i64 a0.2.2.2.2.2.1, .int .i64 a0.2.2.2.2.2.2.1, .int .i64 a0.2.2.2.2.2.2.2]] _ _ := h24
                refine RJ.fin [(5, .pointer (some ⟨b1, 0, none⟩)), (11, .pointer (some ⟨b4, 0, none⟩)), (12, .pointer (some ⟨b5, 0, none⟩)), (14, .pointer (some ⟨b6, 0, none⟩)), (15, .bool r4.2), (16, .pointer (some ⟨b7, 0, none⟩))] rfl ?_
                refine J.seq ?_
                refine J.region ?_
                refine RJ.q rfl rfl (q_load_box ttok 12 (fun w e => e ▸ h24.wh) rfl rfl rfl rfl rfl) ?_
                refine RJ.run ttok 1 rfl ?_
                refine RJ.q rfl rfl (q_load_box ttok 3 (fun w e => e ▸ h24.wh) rfl rfl rfl rfl rfl) ?_
                obtain ⟨r5, q5, H⟩ := bind_t H
                refine RJ.op rfl rfl (op_call [] (sluicegateref13_Right.spec q5) rfl rfl rfl h24 rfl (gcons (Gives.of 4 rfl own_rd) (gcons (Gives.of 5 rfl own_rd) (gcons (Gives.of 6 rfl own_rd) (gcons (Gives.of 7 rfl own_rd) gnil))))) ?_
                rintro _ w17 ⟨_, ⟨rfl, rfl⟩, h25⟩
                replace h25 : St w0 F0 [boxC b7 61 [.int .i64 a0.1, .int .i64 a0.2.1, .int .i64 a0.2.2.1, .int .i64 a0.2.2.2.1, .int .i64 a0.2.2.2.2.1, .int .i64 (w64 (a0.2.2.2.2.2.1 + r3.2.2)), .int .i64 a0.2.2.2.2.2.2.1, .int .i64 a0.2.2.2.2.2.2.2], boxC b6 93 [.string ⟨⟨r4.1.1⟩⟩, .string ⟨⟨r4.1.2.1⟩⟩, .bool r4.1.2.2], boxC b5 86 [.int .i64 r3.2.1.1, .slice A13 r3.2.1.2.1.length c_13, .slice A14 r3.2.1.2.2.1.length c_14, .slice A15 r3.2.1.2.2.2.1.length c_15, .slice A16 r3.2.1.2.2.2.2.length c_16], boxC b4 86 [.int .i64 r3.1.1, .slice A9 r3.1.2.1.length c_9, .slice A10 r3.1.2.2.1.length c_10, .slice A11 r3.1.2.2.2.1.length c_11, .slice A12 r3.1.2.2.2.2.length c_12], ownC 23 (.int .u32) r3.1.2.1 (.slice A9 r3.1.2.1.length c_9), ownC 9 .str r3.1.2.2.1 (.slice A10 r3.1.2.2.1.length c_10), ownC 135 (.pair .str (.pair .bool .str)) r3.1.2.2.2.1 (.slice A11 r3.1.2.2.2.1.length c_11), ownC 75 (.pair .str .str) r3.1.2.2.2.2 (.slice A12 r3.1.2.2.2.2.length c_12), ownC 23 (.int .u32) r3.2.1.2.1 (.slice A13 r3.2.1.2.1.length c_13), ownC 9 .str r3.2.1.2.2.1 (.slice A14 r3.2.1.2.2.1.length c_14), ownC 135 (.pair .str (.pair .bool .str)) r3.2.1.2.2.2.1 (.slice A15 r3.2.1.2.2.2.1.length c_15), ownC 75 (.pair .str .str) r3.2.1.2.2.2.2 (.slice A16 r3.2.1.2.2.2.2.length c_16), boxC b1 61 [.int .i64 a0.1, .int .i64 a0.2.1, .int .i64 a0.2.2.1, .int .i64 a0.2.2.2.1, .int .i64 a0.2.2.2.2.1, .int .i64 a0.2.2.2.2.2.1, .int .i64 a0.2.2.2.2.2.2.1, .int .i64 a0.2.2.2.2.2.2.2]] _ _ := h25
                refine RJ.run ttok 1 rfl ?_
                rcases Bool.eq_false_or_eq_true r5 with c8 | c8
                · replace H := ite_t c8 H
                  refine RJ.know (t := 104) rfl (congrArg Value.bool c8) ?_
                  refine RJ.run ttok 3 rfl ?_
                  rcases Bool.eq_false_or_eq_true (!r4.2) with c9 | c9
                  · replace H := ite_t c9 H
                    refine RJ.know (t := 107) rfl (congrArg Value.bool c9) ?_
                    refine RJ.run ttok 7 rfl ?_
                    obtain ⟨r6, q6, H⟩ := bind_t H
                    refine RJ.op rfl rfl (op_call [] (sluicegatelaw15_awake.spec q6) rfl rfl rfl h25 rfl gnil) ?_
                    rintro _ w18 ⟨_, ⟨rfl, rfl⟩, h26⟩
                    replace h26 : St w0 F0 [boxC b7 61 [.int .i64 a0.1, .int .i64 a0.2.1, .int .i64 a0.2.2.1, .int .i64 a0.2.2.2.1, .int .i64 a0.2.2.2.2.1, .int .i64 (w64 (a0.2.2.2.2.2.1 + r3.2.2)), .int .i64 a0.2.2.2.2.2.2.1, .int .i64 a0.2.2.2.2.2.2.2], boxC b6 93 [.string ⟨⟨r4.1.1⟩⟩, .string ⟨⟨r4.1.2.1⟩⟩, .bool r4.1.2.2], boxC b5 86 [.int .i64 r3.2.1.1, .slice A13 r3.2.1.2.1.length c_13, .slice A14 r3.2.1.2.2.1.length c_14, .slice A15 r3.2.1.2.2.2.1.length c_15, .slice A16 r3.2.1.2.2.2.2.length c_16], boxC b4 86 [.int .i64 r3.1.1, .slice A9 r3.1.2.1.length c_9, .slice A10 r3.1.2.2.1.length c_10, .slice A11 r3.1.2.2.2.1.length c_11, .slice A12 r3.1.2.2.2.2.length c_12], ownC 23 (.int .u32) r3.1.2.1 (.slice A9 r3.1.2.1.length c_9), ownC 9 .str r3.1.2.2.1 (.slice A10 r3.1.2.2.1.length c_10), ownC 135 (.pair .str (.pair .bool .str)) r3.1.2.2.2.1 (.slice A11 r3.1.2.2.2.1.length c_11), ownC 75 (.pair .str .str) r3.1.2.2.2.2 (.slice A12 r3.1.2.2.2.2.length c_12), ownC 23 (.int .u32) r3.2.1.2.1 (.slice A13 r3.2.1.2.1.length c_13), ownC 9 .str r3.2.1.2.2.1 (.slice A14 r3.2.1.2.2.1.length c_14), ownC 135 (.pair .str (.pair .bool .str)) r3.2.1.2.2.2.1 (.slice A15 r3.2.1.2.2.2.1.length c_15), ownC 75 (.pair .str .str) r3.2.1.2.2.2.2 (.slice A16 r3.2.1.2.2.2.2.length c_16), boxC b1 61 [.int .i64 a0.1, .int .i64 a0.2.1, .int .i64 a0.2.2.1, .int .i64 a0.2.2.2.1, .int .i64 a0.2.2.2.2.1, .int .i64 a0.2.2.2.2.2.1, .int .i64 a0.2.2.2.2.2.2.1, .int .i64 a0.2.2.2.2.2.2.2]] _ _ := h26
                    refine RJ.run ttok 2 rfl ?_
                    refine RJ.fin [(10, .bool r6)] rfl ?_
                    have h27 := h26.only [] rfl
                    replace h27 : St w0 F0 [] _ _ := h27
                    refine J.ret ?_
                    obtain rfl := Option.some.inj H
                    exact ⟨_, _, _, (results_slots rfl), ⟨rfl, rfl⟩, h27.only [] rfl⟩
                  · replace H := ite_f c9 H
                    refine RJ.know (t := 107) rfl (congrArg Value.bool c9) ?_
                    refine RJ.q rfl rfl (q_load_box ttok 0 (fun w e => e ▸ h25.wh) rfl rfl rfl rfl rfl) ?_
                    refine RJ.q rfl rfl (q_load_box ttok 1 (fun w e => e ▸ h25.wh) rfl rfl rfl rfl rfl) ?_
                    refine RJ.q rfl rfl (q_load_box ttok 2 (fun w e => e ▸ h25.wh) rfl rfl rfl rfl rfl) ?_
                    obtain ⟨r7, q7, H⟩ := bind_t H
                    refine RJ.op rfl rfl (op_call [] (sluicegateref13_Right.spec q7) rfl rfl rfl h25 rfl (gcons (Gives.of 8 rfl own_rd) (gcons (Gives.of 9 rfl own_rd) (gcons (Gives.of 10 rfl own_rd) (gcons (Gives.of 11 rfl own_rd) gnil))))) ?_
                    rintro _ w19 ⟨_, ⟨rfl, rfl⟩, h28⟩
                    replace h28 : St w0 F0 [boxC b7 61 [.int .i64 a0.1, .int .i64 a0.2.1, .int .i64 a0.2.2.1, .int .i64 a0.2.2.2.1, .int .i64 a0.2.2.2.2.1, .int .i64 (w64 (a0.2.2.2.2.2.1 + r3.2.2)), .int .i64 a0.2.2.2.2.2.2.1, .int .i64 a0.2.2.2.2.2.2.2], boxC b6 93 [.string ⟨⟨r4.1.1⟩⟩, .string ⟨⟨r4.1.2.1⟩⟩, .bool r4.1.2.2], boxC b5 86 [.int .i64 r3.2.1.1, .slice A13 r3.2.1.2.1.length c_13, .slice A14 r3.2.1.2.2.1.length c_14, .slice A15 r3.2.1.2.2.2.1.length c_15, .slice A16 r3.2.1.2.2.2.2.length c_16], boxC b4 86 [.int .i64 r3.1.1, .slice A9 r3.1.2.1.length c_9, .slice A10 r3.1.2.2.1.length c_10, .slice A11 r3.1.2.2.2.1.length c_11, .slice A12 r3.1.2.2.2.2.length c_12], ownC 23 (.int .u32) r3.1.2.1 (.slice A9 r3.1.2.1.length c_9), ownC 9 .str r3.1.2.2.1 (.slice A10 r3.1.2.2.1.length c_10), ownC 135 (.pair .str (.pair .bool .str)) r3.1.2.2.2.1 (.slice A11 r3.1.2.2.2.1.length c_11), ownC 75 (.pair .str .str) r3.1.2.2.2.2 (.slice A12 r3.1.2.2.2.2.length c_12), ownC 23 (.int .u32) r3.2.1.2.1 (.slice A13 r3.2.1.2.1.length c_13), ownC 9 .str r3.2.1.2.2.1 (.slice A14 r3.2.1.2.2.1.length c_14), ownC 135 (.pair .str (.pair .bool .str)) r3.2.1.2.2.2.1 (.slice A15 r3.2.1.2.2.2.1.length c_15), ownC 75 (.pair .str .str) r3.2.1.2.2.2.2 (.slice A16 r3.2.1.2.2.2.2.length c_16), boxC b1 61 [.int .i64 a0.1, .int .i64 a0.2.1, .int .i64 a0.2.2.1, .int .i64 a0.2.2.2.1, .int .i64 a0.2.2.2.2.1, .int .i64 a0.2.2.2.2.2.1, .int .i64 a0.2.2.2.2.2.2.1, .int .i64 a0.2.2.2.2.2.2.2]] _ _ := h28
                    refine RJ.run ttok 3 rfl ?_
                    rcases Bool.eq_false_or_eq_true r7 with c10 | c10
                    · replace H := ite_t c10 H
                      refine RJ.know (t := 114) rfl (congrArg Value.bool c10) ?_
                      obtain ⟨r8, q8, H⟩ := bind_t H
                      refine RJ.op rfl rfl (op_call [] (sluicegatelaw15_awake.spec q8) rfl rfl rfl h28 rfl gnil) ?_
                      rintro _ w20 ⟨_, ⟨rfl, rfl⟩, h29⟩
                      replace h29 : St w0 F0 [boxC b7 61 [.int .i64 a0.1, .int .i64 a0.2.1, .int .i64 a0.2.2.1, .int .i64 a0.2.2.2.1, .int .i64 a0.2.2.2.2.1, .int .i64 (w64 (a0.2.2.2.2.2.1 + r3.2.2)), .int .i64 a0.2.2.2.2.2.2.1, .int .i64 a0.2.2.2.2.2.2.2], boxC b6 93 [.string ⟨⟨r4.1.1⟩⟩, .string ⟨⟨r4.1.2.1⟩⟩, .bool r4.1.2.2], boxC b5 86 [.int .i64 r3.2.1.1, .slice A13 r3.2.1.2.1.length c_13, .slice A14 r3.2.1.2.2.1.length c_14, .slice A15 r3.2.1.2.2.2.1.length c_15, .slice A16 r3.2.1.2.2.2.2.length c_16], boxC b4 86 [.int .i64 r3.1.1, .slice A9 r3.1.2.1.length c_9, .slice A10 r3.1.2.2.1.length c_10, .slice A11 r3.1.2.2.2.1.length c_11, .slice A12 r3.1.2.2.2.2.length c_12], ownC 23 (.int .u32) r3.1.2.1 (.slice A9 r3.1.2.1.length c_9), ownC 9 .str r3.1.2.2.1 (.slice A10 r3.1.2.2.1.length c_10), ownC 135 (.pair .str (.pair .bool .str)) r3.1.2.2.2.1 (.slice A11 r3.1.2.2.2.1.length c_11), ownC 75 (.pair .str .str) r3.1.2.2.2.2 (.slice A12 r3.1.2.2.2.2.length c_12), ownC 23 (.int .u32) r3.2.1.2.1 (.slice A13 r3.2.1.2.1.length c_13), ownC 9 .str r3.2.1.2.2.1 (.slice A14 r3.2.1.2.2.1.length c_14), ownC 135 (.pair .str (.pair .bool .str)) r3.2.1.2.2.2.1 (.slice A15 r3.2.1.2.2.2.1.length c_15), ownC 75 (.pair .str .str) r3.2.1.2.2.2.2 (.slice A16 r3.2.1.2.2.2.2.length c_16), boxC b1 61 [.int .i64 a0.1, .int .i64 a0.2.1, .int .i64 a0.2.2.1, .int .i64 a0.2.2.2.1, .int .i64 a0.2.2.2.2.1, .int .i64 a0.2.2.2.2.2.1, .int .i64 a0.2.2.2.2.2.2.1, .int .i64 a0.2.2.2.2.2.2.2]] _ _ := h29
                      refine RJ.run ttok 2 rfl ?_
                      refine RJ.fin [(10, .bool r8)] rfl ?_
                      have h30 := h29.only [] rfl
                      replace h30 : St w0 F0 [] _ _ := h30
                      refine J.ret ?_
                      obtain rfl := Option.some.inj H
                      exact ⟨_, _, _, (results_slots rfl), ⟨rfl, rfl⟩, h30.only [] rfl⟩
                    · replace H := ite_f c10 H
                      refine RJ.know (t := 114) rfl (congrArg Value.bool c10) ?_
                      refine RJ.run ttok 3 rfl ?_
                      refine RJ.fin [(10, .bool false)] rfl ?_
                      have h31 := h28.only [] rfl
                      replace h31 : St w0 F0 [] _ _ := h31
                      refine J.ret ?_
                      obtain rfl := Option.some.inj H
                      exact ⟨_, _, _, (results_slots rfl), ⟨rfl, rfl⟩, h31.only [] rfl⟩
                · replace H := ite_f c8 H
                  refine RJ.know (t := 104) rfl (congrArg Value.bool c8) ?_
                  refine RJ.run ttok 13 rfl ?_
                  refine RJ.fin [(10, .bool false)] rfl ?_
                  have h32 := h25.only [] rfl
                  replace h32 : St w0 F0 [] _ _ := h32
                  refine J.ret ?_
                  obtain rfl := Option.some.inj H
                  exact ⟨_, _, _, (results_slots rfl), ⟨rfl, rfl⟩, h32.only [] rfl⟩

/-! sluicegate/sluicegateref12.Way -/
def sluicegateref12_Way.l0 : Nat → (List (List UInt8)) → (List UInt8) → (Int) → (Int) → Option (Int)
  | 0, _, _, _, _ => none
  | k + 1, a0, a1, x1, x2 => if (decide (x2 < (a0.length : Int))) = true then (if 0 ≤ x2 ∧ x2 < (a0.length : Int) then ((sluicegateref01_Compare.f k (gt a0 x2) a1).bind fun r1 => (if (decide (r1 ≤ 0)) = true then (sluicegateref12_Way.l0 k a0 a1 (w64 (x1 + 1)) (w64 (x2 + 1))) else (sluicegateref12_Way.l0 k a0 a1 x1 (w64 (x2 + 1))))) else none) else (some x1)
def sluicegateref12_Way.f (k : Nat) (a0 : List (List UInt8)) (a1 : List UInt8) : Option (Int) := sluicegateref12_Way.l0 k a0 a1 0 0
set_option maxRecDepth 20000 in
set_option maxHeartbeats 40000000 in
theorem sluicegateref12_Way.spec {k : Nat} {a0 : List (List UInt8)} {a1 : List UInt8} {A1 : Option Addr} {c_1 : Nat} {r : Int} (H : sluicegateref12_Way.f k a0 a1 = some r) :
    Spec Try.prog 87 [.slice A1 a0.length c_1, .string ⟨⟨a1⟩⟩] [] [rdC 9 .str a0 (.slice A1 a0.length c_1)] (fun v l => v = .int .i64 r ∧ l = []) := by
  refine Spec.enter Try.func87 rfl (by kernel_rfl) (by kernel_rfl) fun w0 F0 h0 => ?_
  unfold sluicegateref12_Way.f at H
  refine J.seq ?_
  refine J.region ?_
  refine RJ.run ttok 1 rfl ?_
  refine RJ.fin [(0, .slice A1 a0.length c_1), (1, .string ⟨⟨a1⟩⟩)] rfl ?_
  refine J.seq ?_
  refine J.region ?_
  refine RJ.run ttok 1 rfl ?_
  refine RJ.fin [(0, .slice A1 a0.length c_1), (1, .string ⟨⟨a1⟩⟩), (5, .int .i64 0)] rfl ?_
  refine J.seq ?_
  refine J.seq ?_
  refine J.region ?_
  refine RJ.run ttok 1 rfl ?_
  refine RJ.fin [(0, .slice A1 a0.length c_1), (1, .string ⟨⟨a1⟩⟩), (5, .int .i64 0), (6, .int .i64 0)] rfl ?_
  refine J.block ?_
  have h5 := ((h0.only [] rfl).rds [0] rfl)
  refine J.loop (fun k env w => ∃ (x1 : Int) (x2 : Int), env = [(0, .slice A1 a0.length c_1), (1, .string ⟨⟨a1⟩⟩), (5, .int .i64 x1), (6, .int .i64 x2)] ∧ St w0 F0 [] [rdC 9 .str a0 (.slice A1 a0.length c_1)] w ∧ sluicegateref12_Way.l0 k a0 a1 x1 x2 = some r) (k := k) ⟨0, 0, rfl, h5, H⟩ ?_
  rintro k1 env w1 ⟨x1, x2, rfl, h1, H⟩
  cases k1 with
  | zero => exact nomatch (show none = some r from H)
  | succ k1 =>
    rw [sluicegateref12_Way.l0] at H
    refine J.seq ?_
    refine J.seq ?_
    refine J.region ?_
    refine RJ.run ttok 4 rfl ?_
    refine RJ.fin [(0, .slice A1 a0.length c_1), (1, .string ⟨⟨a1⟩⟩), (5, .int .i64 x1), (6, .int .i64 x2), (10, .bool (decide (x2 < (a0.length : Int))))] rfl ?_
    refine J.cond rfl (fun c1 => ?_) (fun c1 => ?_)
    · replace H := ite_t c1 H
      refine J.skip ?_
      refine J.seq ?_
      refine J.block ?_
      refine J.seq ?_
      refine J.region ?_
      refine RJ.run ttok 2 rfl ?_
      obtain ⟨⟨p1, p2⟩, H⟩ := guard_t H
      have e1 := elem_A h1.wh (Gives.self 0 rfl) p1 p2
      refine RJ.q rfl rfl (q_index ttok rfl rfl rfl rfl rfl e1 p1 p2) ?_
      refine RJ.q rfl rfl (q_load_elem (f := 0) ttok rfl (fun w e => e ▸ h1.wh) (Gives.self 0 rfl) p1 p2 rfl rfl rfl rfl rfl) ?_
      refine RJ.run ttok 1 rfl ?_
      obtain ⟨r1, q1, H⟩ := bind_t H
      refine RJ.op rfl rfl (op_call [] (sluicegateref01_Compare.spec q1) rfl rfl rfl h1 rfl gnil) ?_
      rintro _ w2 ⟨_, ⟨rfl, rfl⟩, h2⟩
      replace h2 : St w0 F0 [] _ _ := h2
      refine RJ.run ttok 1 rfl ?_
      refine RJ.fin [(0, .slice A1 a0.length c_1), (1, .string ⟨⟨a1⟩⟩), (5, .int .i64 x1), (6, .int .i64 x2), (19, .bool (decide (r1 ≤ 0)))] rfl ?_
      refine J.cond rfl (fun c2 => ?_) (fun c2 => ?_)
      · replace H := ite_t c2 H
        refine J.region ?_
        refine RJ.run ttok 3 rfl ?_
        refine RJ.fin [(0, .slice A1 a0.length c_1), (1, .string ⟨⟨a1⟩⟩), (5, .int .i64 (w64 (x1 + 1))), (6, .int .i64 x2)] rfl ?_
        refine J.region ?_
        refine RJ.run ttok 3 rfl ?_
        refine RJ.fin [(0, .slice A1 a0.length c_1), (1, .string ⟨⟨a1⟩⟩), (5, .int .i64 (w64 (x1 + 1))), (6, .int .i64 (w64 (x2 + 1)))] rfl ?_
        have h3 := ((h2.only [] rfl).rds [0] rfl)
        exact ⟨k1, by omega, (w64 (x1 + 1)), (w64 (x2 + 1)), rfl, h3, H⟩
      · replace H := ite_f c2 H
        refine J.skip ?_
        refine J.region ?_
        refine RJ.run ttok 3 rfl ?_
        refine RJ.fin [(0, .slice A1 a0.length c_1), (1, .string ⟨⟨a1⟩⟩), (5, .int .i64 x1), (6, .int .i64 (w64 (x2 + 1)))] rfl ?_
        have h4 := ((h2.only [] rfl).rds [0] rfl)
        exact ⟨k1, by omega, x1, (w64 (x2 + 1)), rfl, h4, H⟩
    · replace H := ite_f c1 H
      refine J.exit ?_
      refine J.seq ?_
      refine J.region ?_
      refine RJ.run ttok 2 rfl ?_
      refine RJ.fin [(4, .int .i64 x1)] rfl ?_
      refine J.ret ?_
      obtain rfl := Option.some.inj H
      exact ⟨_, _, _, (results_slots rfl), ⟨rfl, rfl⟩, h1.only [] rfl⟩

/-! sluicegate/sluicegateref11.Cut -/
def sluicegateref11_Cut.l0 : Nat → (List (List UInt8 × List UInt8)) → (List UInt8) → (List (List UInt8 × List UInt8)) → (Int) → Option ((List (List UInt8 × List UInt8)))
  | 0, _, _, _, _ => none
  | k + 1, a0, a1, x1, x2 => if (decide (x2 < (a0.length : Int))) = true then (if 0 ≤ x2 ∧ x2 < (a0.length : Int) then (if (!decide (((gt a0 x2).1) = a1)) = true then (if (x1.length + ([((gt a0 x2).1, (gt a0 x2).2)] : List (List UInt8 × List UInt8)).length) * 32 ≤ 140737488355328 then (sluicegateref11_Cut.l0 k a0 a1 (x1 ++ ([((gt a0 x2).1, (gt a0 x2).2)] : List (List UInt8 × List UInt8))) (w64 (x2 + 1))) else none) else (sluicegateref11_Cut.l0 k a0 a1 x1 (w64 (x2 + 1)))) else none) else (some x1)
def sluicegateref11_Cut.f (k : Nat) (a0 : List (List UInt8 × List UInt8)) (a1 : List UInt8) : Option ((List (List UInt8 × List UInt8))) := sluicegateref11_Cut.l0 k a0 a1 ([] : List (List UInt8 × List UInt8)) 0
set_option maxRecDepth 20000 in
set_option maxHeartbeats 40000000 in
theorem sluicegateref11_Cut.spec {k : Nat} {a0 : List (List UInt8 × List UInt8)} {a1 : List UInt8} {A1 : Option Addr} {c_1 : Nat} {r : (List (List UInt8 × List UInt8))} (H : sluicegateref11_Cut.f k a0 a1 = some r) :
    Spec Try.prog 136 [.slice A1 a0.length c_1, .string ⟨⟨a1⟩⟩] [] [rdC 75 (.pair .str .str) a0 (.slice A1 a0.length c_1)] (fun v l => ∃ (A_0 : Option Addr) (c_0 : Nat), v = .slice A_0 r.length c_0 ∧ l = [ownC 75 (.pair .str .str) r (.slice A_0 r.length c_0)]) := by
  refine Spec.enter Try.func136 rfl (by kernel_rfl) (by kernel_rfl) fun w0 F0 h0 => ?_
  unfold sluicegateref11_Cut.f at H
  refine J.seq ?_
  refine J.region ?_
  refine RJ.run ttok 1 rfl ?_
  refine RJ.fin [(0, .slice A1 a0.length c_1), (1, .string ⟨⟨a1⟩⟩)] rfl ?_
  refine J.seq ?_
  refine J.region ?_
  refine RJ.op rfl rfl (op_lit ttok (.pair .str .str) rfl ([] : List (List UInt8 × List UInt8)) rfl h0 rfl rfl (by decide) rfl rfl rfl rfl rfl rfl rfl) ?_
  rintro _ w1 ⟨b1, rfl, h1⟩
  replace h1 : St w0 F0 [ownC 75 (.pair .str .str) ([] : List (List UInt8 × List UInt8)) (.slice (some ⟨b1, 0, none⟩) ([] : List (List UInt8 × List UInt8)).length 0)] _ _ := h1
  refine RJ.run ttok 1 rfl ?_
  refine RJ.fin [(0, .slice A1 a0.length c_1), (1, .string ⟨⟨a1⟩⟩), (5, .slice (some ⟨b1, 0, none⟩) ([] : List (List UInt8 × List UInt8)).length 0)] rfl ?_
  refine J.seq ?_
  refine J.seq ?_
  refine J.region ?_
  refine RJ.run ttok 1 rfl ?_
  refine RJ.fin [(0, .slice A1 a0.length c_1), (1, .string ⟨⟨a1⟩⟩), (5, .slice (some ⟨b1, 0, none⟩) ([] : List (List UInt8 × List UInt8)).length 0), (6, .int .i64 0)] rfl ?_
  refine J.block ?_
  have h7 := ((h1.only [0] rfl).rds [0] rfl)
  refine J.loop (fun k env w => ∃ (x1 : List (List UInt8 × List UInt8)) (A2 : Option Addr) (c_2 : Nat) (x2 : Int), env = [(0, .slice A1 a0.length c_1), (1, .string ⟨⟨a1⟩⟩), (5, .slice A2 x1.length c_2), (6, .int .i64 x2)] ∧ St w0 F0 [ownC 75 (.pair .str .str) x1 (.slice A2 x1.length c_2)] [rdC 75 (.pair .str .str) a0 (.slice A1 a0.length c_1)] w ∧ sluicegateref11_Cut.l0 k a0 a1 x1 x2 = some r) (k := k) ⟨([] : List (List UInt8 × List UInt8)), (some ⟨b1, 0, none⟩), 0, 0, rfl, h7, H⟩ ?_
  rintro k1 env w2 ⟨x1, A2, c_2, x2, rfl, h2, H⟩
  cases k1 with
  | zero => exact nomatch (show none = some r from H)
  | succ k1 =>
    rw [sluicegateref11_Cut.l0] at H
    refine J.seq ?_
    refine J.seq ?_
    refine J.region ?_
    refine RJ.run ttok 4 rfl ?_
    refine RJ.fin [(0, .slice A1 a0.length c_1), (1, .string ⟨⟨a1⟩⟩), (5, .slice A2 x1.length c_2), (6, .int .i64 x2), (11, .bool (decide (x2 < (a0.length : Int))))] rfl ?_
    refine J.cond rfl (fun c1 => ?_) (fun c1 => ?_)
    · replace H := ite_t c1 H
      refine J.skip ?_
      refine J.seq ?_
      refine J.block ?_
      refine J.seq ?_
      refine J.region ?_
      refine RJ.run ttok 2 rfl ?_
      obtain ⟨⟨p1, p2⟩, H⟩ := guard_t H
      have e1 := elem_A h2.wh (Gives.self 1 rfl) p1 p2
      refine RJ.q rfl rfl (q_index ttok rfl rfl rfl rfl rfl e1 p1 p2) ?_
      refine RJ.run ttok 1 rfl ?_
      refine RJ.q rfl rfl (q_load_elem (f := 0) ttok rfl (fun w e => e ▸ h2.wh) (Gives.self 1 rfl) p1 p2 rfl rfl rfl rfl rfl) ?_
      refine RJ.run ttok 2 rfl ?_
      refine RJ.fin [(0, .slice A1 a0.length c_1), (1, .string ⟨⟨a1⟩⟩), (5, .slice A2 x1.length c_2), (6, .int .i64 x2), (20, .bool (!decide (((gt a0 x2).1) = a1)))] rfl ?_
      refine J.cond rfl (fun c2 => ?_) (fun c2 => ?_)
      · replace H := ite_t c2 H
        refine J.region ?_
        refine RJ.run ttok 3 rfl ?_
        refine RJ.q rfl rfl (q_index ttok rfl rfl rfl rfl rfl e1 p1 p2) ?_
        refine RJ.q rfl rfl (q_load_elem (f := 0) ttok rfl (fun w e => e ▸ h2.wh) (Gives.self 1 rfl) p1 p2 rfl rfl rfl rfl rfl) ?_
        refine RJ.op rfl rfl (op_lit ttok (.pair .str .str) rfl ([((gt a0 x2).1, (gt a0 x2).2)] : List (List UInt8 × List UInt8)) rfl h2 rfl rfl (by decide) rfl rfl rfl rfl rfl rfl rfl) ?_
        rintro _ w3 ⟨b2, rfl, h3⟩
        replace h3 : St w0 F0 [ownC 75 (.pair .str .str) ([((gt a0 x2).1, (gt a0 x2).2)] : List (List UInt8 × List UInt8)) (.slice (some ⟨b2, 0, none⟩) ([((gt a0 x2).1, (gt a0 x2).2)] : List (List UInt8 × List UInt8)).length 1), ownC 75 (.pair .str .str) x1 (.slice A2 x1.length c_2)] _ _ := h3
        obtain ⟨p3, H⟩ := guard_t H
        refine RJ.op rfl rfl (op_append ttok rfl 1 rfl h3 rfl (Gives.of 0 rfl own_rd) rfl rfl rfl rfl rfl rfl (by decide) (by decide) p3) ?_
        rintro _ w4 ⟨A3, c_3, rfl, h4⟩
        replace h4 : St w0 F0 [ownC 75 (.pair .str .str) (x1 ++ ([((gt a0 x2).1, (gt a0 x2).2)] : List (List UInt8 × List UInt8))) (.slice A3 (x1 ++ ([((gt a0 x2).1, (gt a0 x2).2)] : List (List UInt8 × List UInt8))).length c_3), ownC 75 (.pair .str .str) ([((gt a0 x2).1, (gt a0 x2).2)] : List (List UInt8 × List UInt8)) (.slice (some ⟨b2, 0, none⟩) ([((gt a0 x2).1, (gt a0 x2).2)] : List (List UInt8 × List UInt8)).length 1)] _ _ := h4
        refine RJ.run ttok 1 rfl ?_
        refine RJ.fin [(0, .slice A1 a0.length c_1), (1, .string ⟨⟨a1⟩⟩), (5, .slice A3 (x1 ++ ([((gt a0 x2).1, (gt a0 x2).2)] : List (List UInt8 × List UInt8))).length c_3), (6, .int .i64 x2)] rfl ?_
        refine J.region ?_
        refine RJ.run ttok 3 rfl ?_
        refine RJ.fin [(0, .slice A1 a0.length c_1), (1, .string ⟨⟨a1⟩⟩), (5, .slice A3 (x1 ++ ([((gt a0 x2).1, (gt a0 x2).2)] : List (List UInt8 × List UInt8))).length c_3), (6, .int .i64 (w64 (x2 + 1)))] rfl ?_
        have h5 := ((h4.only [0] rfl).rds [0] rfl)
        exact ⟨k1, by omega, (x1 ++ ([((gt a0 x2).1, (gt a0 x2).2)] : List (List UInt8 × List UInt8))), A3, c_3, (w64 (x2 + 1)), rfl, h5, H⟩
      · replace H := ite_f c2 H
        refine J.skip ?_
        refine J.region ?_
        refine RJ.run ttok 3 rfl ?_
        refine RJ.fin [(0, .slice A1 a0.length c_1), (1, .string ⟨⟨a1⟩⟩), (5, .slice A2 x1.length c_2), (6, .int .i64 (w64 (x2 + 1)))] rfl ?_
        have h6 := ((h2.only [0] rfl).rds [0] rfl)
        exact ⟨k1, by omega, x1, A2, c_2, (w64 (x2 + 1)), rfl, h6, H⟩
    · replace H := ite_f c1 H
      refine J.exit ?_
      refine J.seq ?_
      refine J.region ?_
      refine RJ.run ttok 2 rfl ?_
      refine RJ.fin [(4, .slice A2 x1.length c_2)] rfl ?_
      refine J.ret ?_
      obtain rfl := Option.some.inj H
      exact ⟨_, _, _, (results_slots rfl), ⟨_, _, rfl, rfl⟩, h2.only [0] rfl⟩

/-! sluicegate/sluicegateref11.Put -/
def sluicegateref11_Put.l0 : Nat → (List UInt8) → (List UInt8) → ((List (List UInt8 × List UInt8))) → (Int) → Option ((List (List UInt8 × List UInt8)))
  | 0, _, _, _, _ => none
  | k + 1, a1, a2, r1, x1 => if (decide (x1 < (r1.length : Int))) = true then (if 0 ≤ x1 ∧ x1 < (r1.length : Int) then ((sluicegateref01_Compare.f k ((gt r1 x1).1) a1).bind fun r2 => (if (decide (r2 < 0)) = true then (sluicegateref11_Put.l0 k a1 a2 r1 (w64 (x1 + 1))) else (if (0 : Int) ≤ x1 ∧ x1 ≤ (r1.length : Int) then (if (([] : List (List UInt8 × List UInt8)).length + (r1.take x1.toNat).length) * 32 ≤ 140737488355328 then (if ((([] : List (List UInt8 × List UInt8)) ++ (r1.take x1.toNat)).length + ([(a1, a2)] : List (List UInt8 × List UInt8)).length) * 32 ≤ 140737488355328 then (if 0 ≤ x1 ∧ x1 ≤ (r1.length : Int) then (if (((([] : List (List UInt8 × List UInt8)) ++ (r1.take x1.toNat)) ++ ([(a1, a2)] : List (List UInt8 × List UInt8))).length + (r1.drop x1.toNat).length) * 32 ≤ 140737488355328 then (some (((([] : List (List UInt8 × List UInt8)) ++ (r1.take x1.toNat)) ++ ([(a1, a2)] : List (List UInt8 × List UInt8))) ++ (r1.drop x1.toNat))) else none) else none) else none) else none) else none))) else none) else (if (0 : Int) ≤ x1 ∧ x1 ≤ (r1.length : Int) then (if (([] : List (List UInt8 × List UInt8)).length + (r1.take x1.toNat).length) * 32 ≤ 140737488355328 then (if ((([] : List (List UInt8 × List UInt8)) ++ (r1.take x1.toNat)).length + ([(a1, a2)] : List (List UInt8 × List UInt8)).length) * 32 ≤ 140737488355328 then (if 0 ≤ x1 ∧ x1 ≤ (r1.length : Int) then (if (((([] : List (List UInt8 × List UInt8)) ++ (r1.take x1.toNat)) ++ ([(a1, a2)] : List (List UInt8 × List UInt8))).length + (r1.drop x1.toNat).length) * 32 ≤ 140737488355328 then (some (((([] : List (List UInt8 × List UInt8)) ++ (r1.take x1.toNat)) ++ ([(a1, a2)] : List (List UInt8 × List UInt8))) ++ (r1.drop x1.toNat))) else none) else none) else none) else none) else none)
def sluicegateref11_Put.f (k : Nat) (a0 : List (List UInt8 × List UInt8)) (a1 : List UInt8) (a2 : List UInt8) : Option ((List (List UInt8 × List UInt8))) := (sluicegateref11_Cut.f k a0 a1).bind fun r1 => (sluicegateref11_Put.l0 k a1 a2 r1 0)
set_option maxRecDepth 20000 in
set_option maxHeartbeats 40000000 in
theorem sluicegateref11_Put.spec {k : Nat} {a0 : List (List UInt8 × List UInt8)} {a1 : List UInt8} {a2 : List UInt8} {A1 : Option Addr} {c_1 : Nat} {r : (List (List UInt8 × List UInt8))} (H : sluicegateref11_Put.f k a0 a1 a2 = some r) :
    Spec Try.prog 137 [.slice A1 a0.length c_1, .string ⟨⟨a1⟩⟩, .string ⟨⟨a2⟩⟩] [] [rdC 75 (.pair .str .str) a0 (.slice A1 a0.length c_1)] (fun v l => ∃ (A_0 : Option Addr) (c_0 : Nat), v = .slice A_0 r.length c_0 ∧ l = [ownC 75 (.pair .str .str) r (.slice A_0 r.length c_0)]) := by
  refine Spec.enter Try.func137 rfl (by kernel_rfl) (by kernel_rfl) fun w0 F0 h0 => ?_
  unfold sluicegateref11_Put.f at H
  refine J.seq ?_
  refine J.region ?_
  refine RJ.run ttok 1 rfl ?_
  refine RJ.fin [(0, .slice A1 a0.length c_1), (1, .string ⟨⟨a1⟩⟩), (2, .string ⟨⟨a2⟩⟩)] rfl ?_
  refine J.seq ?_
  refine J.region ?_
  refine RJ.run ttok 2 rfl ?_
  obtain ⟨r1, q1, H⟩ := bind_t H
  refine RJ.op rfl rfl (op_call [] (sluicegateref11_Cut.spec q1) rfl rfl rfl h0 rfl (gcons (Gives.self 0 rfl) gnil)) ?_
  rintro _ w1 ⟨_, ⟨A2, c_2, rfl, rfl⟩, h1⟩
  replace h1 : St w0 F0 [ownC 75 (.pair .str .str) r1 (.slice A2 r1.length c_2)] _ _ := h1
  refine RJ.run ttok 1 rfl ?_
  refine RJ.fin [(0, .slice A2 r1.length c_2), (1, .string ⟨⟨a1⟩⟩), (2, .string ⟨⟨a2⟩⟩)] rfl ?_
  refine J.seq ?_
  refine J.region ?_
  refine RJ.run ttok 1 rfl ?_
  refine RJ.fin [(0, .slice A2 r1.length c_2), (1, .string ⟨⟨a1⟩⟩), (2, .string ⟨⟨a2⟩⟩), (7, .int .i64 0)] rfl ?_
  refine J.seq ?_
  refine J.block ?_
  have h17 := ((h1.only [0] rfl).rds [] rfl)
  refine J.loop (fun k env w => ∃ (x1 : Int), env = [(0, .slice A2 r1.length c_2), (1, .string ⟨⟨a1⟩⟩), (2, .string ⟨⟨a2⟩⟩), (7, .int .i64 x1)] ∧ St w0 F0 [ownC 75 (.pair .str .str) r1 (.slice A2 r1.length c_2)] [] w ∧ sluicegateref11_Put.l0 k a1 a2 r1 x1 = some r) (k := k) ⟨0, rfl, h17, H⟩ ?_
  rintro k1 env w2 ⟨x1, rfl, h2, H⟩
  cases k1 with
  | zero => exact nomatch (show none = some r from H)
  | succ k1 =>
    rw [sluicegateref11_Put.l0] at H
    refine J.seq ?_
    refine J.seq ?_
    refine J.region ?_
    refine RJ.run ttok 5 rfl ?_
    rcases Bool.eq_false_or_eq_true (decide (x1 < (r1.length : Int))) with c1 | c1
    · replace H := ite_t c1 H
      refine RJ.know (t := 16) rfl (congrArg Value.bool c1) ?_
      refine RJ.run ttok 2 rfl ?_
      obtain ⟨⟨p1, p2⟩, H⟩ := guard_t H
      have e1 := elem_A h2.wh (Gives.of 0 rfl own_rd) p1 p2
      refine RJ.q rfl rfl (q_index ttok rfl rfl rfl rfl rfl e1 p1 p2) ?_
      refine RJ.run ttok 1 rfl ?_
      refine RJ.q rfl rfl (q_load_elem (f := 0) ttok rfl (fun w e => e ▸ h2.wh) (Gives.of 0 rfl own_rd) p1 p2 rfl rfl rfl rfl rfl) ?_
      refine RJ.run ttok 1 rfl ?_
      obtain ⟨r2, q2, H⟩ := bind_t H
      refine RJ.op rfl rfl (op_call [] (sluicegateref01_Compare.spec q2) rfl rfl rfl h2 rfl gnil) ?_
      rintro _ w3 ⟨_, ⟨rfl, rfl⟩, h3⟩
      replace h3 : St w0 F0 [ownC 75 (.pair .str .str) r1 (.slice A2 r1.length c_2)] _ _ := h3
      refine RJ.run ttok 2 rfl ?_
      refine RJ.fin [(0, .slice A2 r1.length c_2), (1, .string ⟨⟨a1⟩⟩), (2, .string ⟨⟨a2⟩⟩), (7, .int .i64 x1), (25, .bool (decide (r2 < 0)))] rfl ?_
      refine J.cond rfl (fun c2 => ?_) (fun c2 => ?_)
      · replace H := ite_t c2 H
        refine J.skip ?_
        refine J.block ?_
        refine J.region ?_
        refine RJ.run ttok 3 rfl ?_
        refine RJ.fin [(0, .slice A2 r1.length c_2), (1, .string ⟨⟨a1⟩⟩), (2, .string ⟨⟨a2⟩⟩), (7, .int .i64 (w64 (x1 + 1)))] rfl ?_
        have h4 := ((h3.only [0] rfl).rds [] rfl)
        exact ⟨k1, by omega, (w64 (x1 + 1)), rfl, h4, H⟩
      · replace H := ite_f c2 H
        refine J.exit ?_
        refine J.seq ?_
        refine J.region ?_
        refine RJ.op rfl rfl (op_lit ttok (.pair .str .str) rfl ([] : List (List UInt8 × List UInt8)) rfl h3 rfl rfl (by decide) rfl rfl rfl rfl rfl rfl rfl) ?_
        rintro _ w4 ⟨b1, rfl, h5⟩
        replace h5 : St w0 F0 [ownC 75 (.pair .str .str) ([] : List (List UInt8 × List UInt8)) (.slice (some ⟨b1, 0, none⟩) ([] : List (List UInt8 × List UInt8)).length 0), ownC 75 (.pair .str .str) r1 (.slice A2 r1.length c_2)] _ _ := h5
        refine RJ.run ttok 2 rfl ?_
        obtain ⟨⟨p3, p4⟩, H⟩ := guard_t H
        have e2 := h5.cap (Gives.of 1 rfl own_rd)
        refine RJ.q rfl rfl (q_cut0 (h := x1) (sub := (r1.take x1.toNat)) ttok rfl rfl rfl rfl e2 ⟨_, rfl⟩ p3 p4 rfl) ?_
        obtain ⟨p5, H⟩ := guard_t H
        refine RJ.op rfl rfl (op_append ttok rfl 0 rfl h5 rfl ((Gives.of 0 rfl own_rd).trans (rd_cut0 (ty := (.pair .str .str)) (h := x1) (sub := (r1.take x1.toNat)) p3 p4 rfl)) rfl rfl rfl rfl rfl rfl (by decide) (by decide) p5) ?_
        rintro _ w5 ⟨A3, c_3, rfl, h6⟩
        replace h6 : St w0 F0 [ownC 75 (.pair .str .str) (([] : List (List UInt8 × List UInt8)) ++ (r1.take x1.toNat)) (.slice A3 (([] : List (List UInt8 × List UInt8)) ++ (r1.take x1.toNat)).length c_3), ownC 75 (.pair .str .str) r1 (.slice A2 r1.length c_2)] _ _ := h6
        refine RJ.run ttok 1 rfl ?_
        refine RJ.fin [(0, .slice A2 r1.length c_2), (1, .string ⟨⟨a1⟩⟩), (2, .string ⟨⟨a2⟩⟩), (7, .int .i64 x1), (8, .slice A3 (([] : List (List UInt8 × List UInt8)) ++ (r1.take x1.toNat)).length c_3)] rfl ?_
        refine J.seq ?_
        refine J.region ?_
        refine RJ.run ttok 4 rfl ?_
        refine RJ.op rfl rfl (op_lit ttok (.pair .str .str) rfl ([(a1, a2)] : List (List UInt8 × List UInt8)) rfl h6 rfl rfl (by decide) rfl rfl rfl rfl rfl rfl rfl) ?_
        rintro _ w6 ⟨b2, rfl, h7⟩
        replace h7 : St w0 F0 [ownC 75 (.pair .str .str) ([(a1, a2)] : List (List UInt8 × List UInt8)) (.slice (some ⟨b2, 0, none⟩) ([(a1, a2)] : List (List UInt8 × List UInt8)).length 1), ownC 75 (.pair .str .str) (([] : List (List UInt8 × List UInt8)) ++ (r1.take x1.toNat)) (.slice A3 (([] : List (List UInt8 × List UInt8)) ++ (r1.take x1.toNat)).length c_3), ownC 75 (.pair .str .str) r1 (.slice A2 r1.length c_2)] _ _ := h7
        obtain ⟨p6, H⟩ := guard_t H
        refine RJ.op rfl rfl (op_append ttok rfl 1 rfl h7 rfl (Gives.of 0 rfl own_rd) rfl rfl rfl rfl rfl rfl (by decide) (by decide) p6) ?_
        rintro _ w7 ⟨A4, c_4, rfl, h8⟩
        replace h8 : St w0 F0 [ownC 75 (.pair .str .str) ((([] : List (List UInt8 × List UInt8)) ++ (r1.take x1.toNat)) ++ ([(a1, a2)] : List (List UInt8 × List UInt8))) (.slice A4 ((([] : List (List UInt8 × List UInt8)) ++ (r1.take x1.toNat)) ++ ([(a1, a2)] : List (List UInt8 × List UInt8))).length c_4), ownC 75 (.pair .str .str) ([(a1, a2)] : List (List UInt8 × List UInt8)) (.slice (some ⟨b2, 0, none⟩) ([(a1, a2)] : List (List UInt8 × List UInt8)).length 1), ownC 75 (.pair .str .str) r1 (.slice A2 r1.length c_2)] _ _ := h8
        refine RJ.run ttok 1 rfl ?_
        refine RJ.fin [(0, .slice A2 r1.length c_2), (7, .int .i64 x1), (8, .slice A4 ((([] : List (List UInt8 × List UInt8)) ++ (r1.take x1.toNat)) ++ ([(a1, a2)] : List (List UInt8 × List UInt8))).length c_4)] rfl ?_
        refine J.seq ?_
        refine J.region ?_
        refine RJ.run ttok 3 rfl ?_
        obtain ⟨⟨p7, p8⟩, H⟩ := guard_t H
        have e3 := h8.cap (Gives.of 2 rfl own_rd)
        refine RJ.q rfl rfl (q_cut (l := x1) (h := (r1.length : Int)) (sub := (r1.drop x1.toNat)) ttok rfl rfl rfl rfl e3 ⟨_, rfl⟩ rfl p7 p8 (Int.le_refl _) (cut_from _ _)) ?_
        obtain ⟨p9, H⟩ := guard_t H
        refine RJ.op rfl rfl (op_append ttok rfl 0 rfl h8 rfl ((Gives.of 1 rfl own_rd).trans (rd_cut (ty := (.pair .str .str)) (l := x1) (h := (r1.length : Int)) (sub := (r1.drop x1.toNat)) rfl p7 p8 (Int.le_refl _) (cut_from _ _))) rfl rfl rfl rfl rfl rfl (by decide) (by decide) p9) ?_
        rintro _ w8 ⟨A5, c_5, rfl, h9⟩
        replace h9 : St w0 F0 [ownC 75 (.pair .str .str) (((([] : List (List UInt8 × List UInt8)) ++ (r1.take x1.toNat)) ++ ([(a1, a2)] : List (List UInt8 × List UInt8))) ++ (r1.drop x1.toNat)) (.slice A5 (((([] : List (List UInt8 × List UInt8)) ++ (r1.take x1.toNat)) ++ ([(a1, a2)] : List (List UInt8 × List UInt8))) ++ (r1.drop x1.toNat)).length c_5), ownC 75 (.pair .str .str) ([(a1, a2)] : List (List UInt8 × List UInt8)) (.slice (some ⟨b2, 0, none⟩) ([(a1, a2)] : List (List UInt8 × List UInt8)).length 1), ownC 75 (.pair .str .str) r1 (.slice A2 r1.length c_2)] _ _ := h9
        refine RJ.run ttok 1 rfl ?_
        refine RJ.fin [(6, .slice A5 (((([] : List (List UInt8 × List UInt8)) ++ (r1.take x1.toNat)) ++ ([(a1, a2)] : List (List UInt8 × List UInt8))) ++ (r1.drop x1.toNat)).length c_5)] rfl ?_
        have h10 := h9.only [0] rfl
        replace h10 : St w0 F0 [ownC 75 (.pair .str .str) (((([] : List (List UInt8 × List UInt8)) ++ (r1.take x1.toNat)) ++ ([(a1, a2)] : List (List UInt8 × List UInt8))) ++ (r1.drop x1.toNat)) (.slice A5 (((([] : List (List UInt8 × List UInt8)) ++ (r1.take x1.toNat)) ++ ([(a1, a2)] : List (List UInt8 × List UInt8))) ++ (r1.drop x1.toNat)).length c_5)] _ _ := h10
        refine J.ret ?_
        obtain rfl := Option.some.inj H
        exact ⟨_, _, _, (results_slots rfl), ⟨_, _, rfl, rfl⟩, h10.only [0] rfl⟩
    · replace H := ite_f c1 H
      refine RJ.know (t := 16) rfl (congrArg Value.bool c1) ?_
      refine RJ.run ttok 9 rfl ?_
      refine RJ.fin [(0, .slice A2 r1.length c_2), (1, .string ⟨⟨a1⟩⟩), (2, .string ⟨⟨a2⟩⟩), (7, .int .i64 x1), (25, .bool false)] rfl ?_
      refine J.condF rfl ?_
      refine J.exit ?_
      refine J.seq ?_
      refine J.region ?_
      refine RJ.op rfl rfl (op_lit ttok (.pair .str .str) rfl ([] : List (List UInt8 × List UInt8)) rfl h2 rfl rfl (by decide) rfl rfl rfl rfl rfl rfl rfl) ?_
      rintro _ w9 ⟨b3, rfl, h11⟩
      replace h11 : St w0 F0 [ownC 75 (.pair .str .str) ([] : List (List UInt8 × List UInt8)) (.slice (some ⟨b3, 0, none⟩) ([] : List (List UInt8 × List UInt8)).length 0), ownC 75 (.pair .str .str) r1 (.slice A2 r1.length c_2)] _ _ := h11
      refine RJ.run ttok 2 rfl ?_
      obtain ⟨⟨p10, p11⟩, H⟩ := guard_t H
      have e4 := h11.cap (Gives.of 1 rfl own_rd)
      refine RJ.q rfl rfl (q_cut0 (h := x1) (sub := (r1.take x1.toNat)) ttok rfl rfl rfl rfl e4 ⟨_, rfl⟩ p10 p11 rfl) ?_
      obtain ⟨p12, H⟩ := guard_t H
      refine RJ.op rfl rfl (op_append ttok rfl 0 rfl h11 rfl ((Gives.of 0 rfl own_rd).trans (rd_cut0 (ty := (.pair .str .str)) (h := x1) (sub := (r1.take x1.toNat)) p10 p11 rfl)) rfl rfl rfl rfl rfl rfl (by decide) (by decide) p12) ?_
      rintro _ w10 ⟨A6, c_6, rfl, h12⟩
      replace h12 : St w0 F0 [ownC 75 (.pair .str .str) (([] : List (List UInt8 × List UInt8)) ++ (r1.take x1.toNat)) (.slice A6 (([] : List (List UInt8 × List UInt8)) ++ (r1.take x1.toNat)).length c_6), ownC 75 (.pair .str .str) r1 (.slice A2 r1.length c_2)] _ _ := h12
      refine RJ.run ttok 1 rfl ?_
      refine RJ.fin [(0, .slice A2 r1.length c_2), (1, .string ⟨⟨a1⟩⟩), (2, .string ⟨⟨a2⟩⟩), (7, .int .i64 x1), (8, .slice A6 (([] : List (List UInt8 × List UInt8)) ++ (r1.take x1.toNat)).length c_6)] rfl ?_
      refine J.seq ?_
      refine J.region ?_
      refine RJ.run ttok 4 rfl ?_
      refine RJ.op rfl rfl (op_lit ttok (.pair .str .str) rfl ([(a1, a2)] : List (List UInt8 × List UInt8)) rfl h12 rfl rfl (by decide) rfl rfl rfl rfl rfl rfl rfl) ?_
      rintro _ w11 ⟨b4, rfl, h13⟩
      replace h13 : St w0 F0 [ownC 75 (.pair .str .str) ([(a1, a2)] : List (List UInt8 × List UInt8)) (.slice (some ⟨b4, 0, none⟩) ([(a1, a2)] : List (List UInt8 × List UInt8)).length 1), ownC 75 (.pair .str .str) (([] : List (List UInt8 × List UInt8)) ++ (r1.take x1.toNat)) (.slice A6 (([] : List (List UInt8 × List UInt8)) ++ (r1.take x1.toNat)).length c_6), ownC 75 (.pair .str .str) r1 (.slice A2 r1.length c_2)] _ _ := h13
      obtain ⟨p13, H⟩ := guard_t H
      refine RJ.op rfl rfl (op_append ttok rfl 1 rfl h13 rfl (Gives.of 0 rfl own_rd) rfl rfl rfl rfl rfl rfl (by decide) (by decide) p13) ?_
      rintro _ w12 ⟨A7, c_7, rfl, h14⟩
      replace h14 : St w0 F0 [ownC 75 (.pair .str .str) ((([] : List (List UInt8 × List UInt8)) ++ (r1.take x1.toNat)) ++ ([(a1, a2)] : List (List UInt8 × List UInt8))) (.slice A7 ((([] : List (List UInt8 × List UInt8)) ++ (r1.take x1.toNat)) ++ ([(a1, a2)] : List (List UInt8 × List UInt8))).length c_7), ownC 75 (.pair .str .str) ([(a1, a2)] : List (List UInt8 × List UInt8)) (.slice (some ⟨b4, 0, none⟩) ([(a1, a2)] : List (List UInt8 × List UInt8)).length 1), ownC 75 (.pair .str .str) r1 (.slice A2 r1.length c_2)] _ _ := h14
      refine RJ.run ttok 1 rfl ?_
      refine RJ.fin [(0, .slice A2 r1.length c_2), (7, .int .i64 x1), (8, .slice A7 ((([] : List (List UInt8 × List UInt8)) ++ (r1.take x1.toNat)) ++ ([(a1, a2)] : List (List UInt8 × List UInt8))).length c_7)] rfl ?_
      refine J.seq ?_
      refine J.region ?_
      refine RJ.run ttok 3 rfl ?_
      obtain ⟨⟨p14, p15⟩, H⟩ := guard_t H
      have e5 := h14.cap (Gives.of 2 rfl own_rd)
      refine RJ.q rfl rfl (q_cut (l := x1) (h := (r1.length : Int)) (sub := (r1.drop x1.toNat)) ttok rfl rfl rfl rfl e5 ⟨_, rfl⟩ rfl p14 p15 (Int.le_refl _) (cut_from _ _)) ?_
      obtain ⟨p16, H⟩ := guard_t H
      refine RJ.op rfl rfl (op_append ttok rfl 0 rfl h14 rfl ((Gives.of 1 rfl own_rd).trans (rd_cut (ty := (.pair .str .str)) (l := x1) (h := (r1.length : Int)) (sub := (r1.drop x1.toNat)) rfl p14 p15 (Int.le_refl _) (cut_from _ _))) rfl rfl rfl rfl rfl rfl (by decide) (by decide) p16) ?_
      rintro _ w13 ⟨A8, c_8, rfl, h15⟩
      replace h15 : St w0 F0 [ownC 75 (.pair .str .str) (((([] : List (List UInt8 × List UInt8)) ++ (r1.take x1.toNat)) ++ ([(a1, a2)] : List (List UInt8 × List UInt8))) ++ (r1.drop x1.toNat)) (.slice A8 (((([] : List (List UInt8 × List UInt8)) ++ (r1.take x1.toNat)) ++ ([(a1, a2)] : List (List UInt8 × List UInt8))) ++ (r1.drop x1.toNat)).length c_8), ownC 75 (.pair .str .str) ([(a1, a2)] : List (List UInt8 × List UInt8)) (.slice (some ⟨b4, 0, none⟩) ([(a1, a2)] : List (List UInt8 × List UInt8)).length 1), ownC 75 (.pair .str .str) r1 (.slice A2 r1.length c_2)] _ _ := h15
      refine RJ.run ttok 1 rfl ?_
      refine RJ.fin [(6, .slice A8 (((([] : List (List UInt8 × List UInt8)) ++ (r1.take x1.toNat)) ++ ([(a1, a2)] : List (List UInt8 × List UInt8))) ++ (r1.drop x1.toNat)).length c_8)] rfl ?_
      have h16 := h15.only [0] rfl
      replace h16 : St w0 F0 [ownC 75 (.pair .str .str) (((([] : List (List UInt8 × List UInt8)) ++ (r1.take x1.toNat)) ++ ([(a1, a2)] : List (List UInt8 × List UInt8))) ++ (r1.drop x1.toNat)) (.slice A8 (((([] : List (List UInt8 × List UInt8)) ++ (r1.take x1.toNat)) ++ ([(a1, a2)] : List (List UInt8 × List UInt8))) ++ (r1.drop x1.toNat)).length c_8)] _ _ := h16
      refine J.ret ?_
      obtain rfl := Option.some.inj H
      exact ⟨_, _, _, (results_slots rfl), ⟨_, _, rfl, rfl⟩, h16.only [0] rfl⟩

/-! sluicegate/sluicegateref11.Apply -/
def sluicegateref11_Apply.l0 : Nat → (List (List UInt8 × Bool × List UInt8)) → (List (List UInt8 × List UInt8)) → (Int) → Option ((List (List UInt8 × List UInt8)))
  | 0, _, _, _ => none
  | k + 1, a1, x1, x2 => if (decide (x2 < (a1.length : Int))) = true then (if 0 ≤ x2 ∧ x2 < (a1.length : Int) then (if (gt a1 x2).2.1 = true then ((sluicegateref11_Cut.f k x1 ((gt a1 x2).1)).bind fun r1 => (sluicegateref11_Apply.l0 k a1 r1 (w64 (x2 + 1)))) else ((sluicegateref11_Put.f k x1 ((gt a1 x2).1) ((gt a1 x2).2.2)).bind fun r2 => (sluicegateref11_Apply.l0 k a1 r2 (w64 (x2 + 1))))) else none) else (some x1)
def sluicegateref11_Apply.f (k : Nat) (a0 : List (List UInt8 × List UInt8)) (a1 : List (List UInt8 × Bool × List UInt8)) : Option ((List (List UInt8 × List UInt8))) := sluicegateref11_Apply.l0 k a1 a0 0
set_option maxRecDepth 20000 in
set_option maxHeartbeats 40000000 in
theorem sluicegateref11_Apply.spec {k : Nat} {a0 : List (List UInt8 × List UInt8)} {a1 : List (List UInt8 × Bool × List UInt8)} {A1 : Option Addr} {c_1 : Nat} {A2 : Option Addr} {c_2 : Nat} {r : (List (List UInt8 × List UInt8))} (H : sluicegateref11_Apply.f k a0 a1 = some r) :
    SpecA Try.prog 88 [.slice A1 a0.length c_1, .slice A2 a1.length c_2] [] [rdC 75 (.pair .str .str) a0 (.slice A1 a0.length c_1), rdC 135 (.pair .str (.pair .bool .str)) a1 (.slice A2 a1.length c_2)] (fun v l lr => ∃ (A_0 : Option Addr) (c_0 : Nat), v = .slice A_0 r.length c_0 ∧ l = [] ∧ lr = [rdC 75 (.pair .str .str) r (.slice A_0 r.length c_0)]) := by
  refine SpecA.enter Try.func88 rfl (by kernel_rfl) (by kernel_rfl) fun w0 F0 h0 => ?_
  unfold sluicegateref11_Apply.f at H
  refine J.seq ?_
  refine J.region ?_
  refine RJ.run ttok 1 rfl ?_
  refine RJ.fin [(0, .slice A1 a0.length c_1), (1, .slice A2 a1.length c_2)] rfl ?_
  refine J.seq ?_
  refine J.seq ?_
  refine J.region ?_
  refine RJ.run ttok 1 rfl ?_
  refine RJ.fin [(0, .slice A1 a0.length c_1), (1, .slice A2 a1.length c_2), (5, .int .i64 0)] rfl ?_
  refine J.block ?_
  have h9 := ((h0.only [] rfl).rds [0, 1] rfl)
  refine J.loop (fun k env w => ∃ (x1 : List (List UInt8 × List UInt8)) (A3 : Option Addr) (c_3 : Nat) (x2 : Int), env = [(0, .slice A3 x1.length c_3), (1, .slice A2 a1.length c_2), (5, .int .i64 x2)] ∧ St w0 F0 [] [rdC 75 (.pair .str .str) x1 (.slice A3 x1.length c_3), rdC 135 (.pair .str (.pair .bool .str)) a1 (.slice A2 a1.length c_2)] w ∧ sluicegateref11_Apply.l0 k a1 x1 x2 = some r) (k := k) ⟨a0, A1, c_1, 0, rfl, h9, H⟩ ?_
  rintro k1 env w1 ⟨x1, A3, c_3, x2, rfl, h1, H⟩
  cases k1 with
  | zero => exact nomatch (show none = some r from H)
  | succ k1 =>
    rw [sluicegateref11_Apply.l0] at H
    refine J.seq ?_
    refine J.seq ?_
    refine J.region ?_
    refine RJ.run ttok 4 rfl ?_
    refine RJ.fin [(0, .slice A3 x1.length c_3), (1, .slice A2 a1.length c_2), (5, .int .i64 x2), (9, .bool (decide (x2 < (a1.length : Int))))] rfl ?_
    refine J.cond rfl (fun c1 => ?_) (fun c1 => ?_)
    · replace H := ite_t c1 H
      refine J.skip ?_
      refine J.seq ?_
      refine J.block ?_
      refine J.seq ?_
      refine J.region ?_
      refine RJ.run ttok 2 rfl ?_
      obtain ⟨⟨p1, p2⟩, H⟩ := guard_t H
      have e1 := elem_A h1.wh (Gives.self 1 rfl) p1 p2
      refine RJ.q rfl rfl (q_index ttok rfl rfl rfl rfl rfl e1 p1 p2) ?_
      refine RJ.run ttok 1 rfl ?_
      refine RJ.q rfl rfl (q_load_elem (f := 1) ttok rfl (fun w e => e ▸ h1.wh) (Gives.self 1 rfl) p1 p2 rfl rfl rfl rfl rfl) ?_
      refine RJ.fin [(0, .slice A3 x1.length c_3), (1, .slice A2 a1.length c_2), (5, .int .i64 x2), (16, .bool ((gt a1 x2).2.1))] rfl ?_
      refine J.cond rfl (fun c2 => ?_) (fun c2 => ?_)
      · replace H := ite_t c2 H
        refine J.region ?_
        refine RJ.run ttok 3 rfl ?_
        refine RJ.q rfl rfl (q_index ttok rfl rfl rfl rfl rfl e1 p1 p2) ?_
        refine RJ.run ttok 1 rfl ?_
        refine RJ.q rfl rfl (q_load_elem (f := 0) ttok rfl (fun w e => e ▸ h1.wh) (Gives.self 1 rfl) p1 p2 rfl rfl rfl rfl rfl) ?_
        obtain ⟨r1, q1, H⟩ := bind_t H
        refine RJ.op rfl rfl (op_call [] (sluicegateref11_Cut.spec q1) rfl rfl rfl h1 rfl (gcons (Gives.self 0 rfl) gnil)) ?_
        rintro _ w2 ⟨_, ⟨A4, c_4, rfl, rfl⟩, h2⟩
        replace h2 : St w0 F0 [ownC 75 (.pair .str .str) r1 (.slice A4 r1.length c_4)] _ _ := h2
        refine RJ.run ttok 1 rfl ?_
        refine RJ.fin [(0, .slice A4 r1.length c_4), (1, .slice A2 a1.length c_2), (5, .int .i64 x2)] rfl ?_
        refine J.region ?_
        refine RJ.run ttok 3 rfl ?_
        refine RJ.fin [(0, .slice A4 r1.length c_4), (1, .slice A2 a1.length c_2), (5, .int .i64 (w64 (x2 + 1)))] rfl ?_
        have h3 := h2.freeze (k := 0) rfl own_rd
        have h4 := ((h3.only [] rfl).rds [0, 2] rfl)
        exact ⟨k1, by omega, r1, A4, c_4, (w64 (x2 + 1)), rfl, h4, H⟩
      · replace H := ite_f c2 H
        refine J.heldSt mix h1 ?_
        have h5 := h1.drew
        refine HJ.run ttok rfl [0, 1, 2, 6, 7] rfl ?_
        refine HJ.q (i := 3) rfl rfl rfl rfl rfl rfl (q_index ttok rfl rfl rfl rfl rfl e1 p1 p2) ?_
        refine HJ.run ttok rfl [4] rfl ?_
        refine HJ.q (i := 5) rfl rfl rfl rfl rfl rfl (q_load_elem (f := 0) ttok rfl (fun w e => e) (Gives.self 1 rfl) p1 p2 rfl rfl rfl rfl rfl) ?_
        refine HJ.q (i := 8) rfl rfl rfl rfl rfl rfl (q_index ttok rfl rfl rfl rfl rfl e1 p1 p2) ?_
        refine HJ.run ttok rfl [9] rfl ?_
        refine HJ.q (i := 10) rfl rfl rfl rfl rfl rfl (q_load_elem (f := 2) ttok rfl (fun w e => e) (Gives.self 1 rfl) p1 p2 rfl rfl rfl rfl rfl) ?_
        obtain ⟨r2, q2, H⟩ := bind_t H
        refine HJ.op (i := 11) rfl rfl rfl rfl rfl (op_call [] (sluicegateref11_Put.spec q2) rfl rfl rfl h5 rfl (gcons (Gives.self 0 rfl) gnil)) ?_
        rintro _ w3 ⟨_, ⟨A5, c_5, rfl, rfl⟩, h6⟩
        replace h6 : St w0 F0 [ownC 75 (.pair .str .str) r2 (.slice A5 r2.length c_5)] _ _ := h6
        refine ⟨⟨[_], h6⟩, ?_⟩
        refine HJ.run ttok rfl [12] rfl ?_
        refine HJ.fin [(0, .slice A5 r2.length c_5), (1, .slice A2 a1.length c_2), (5, .int .i64 x2)] rfl rfl ?_
        refine J.region ?_
        refine RJ.run ttok 3 rfl ?_
        refine RJ.fin [(0, .slice A5 r2.length c_5), (1, .slice A2 a1.length c_2), (5, .int .i64 (w64 (x2 + 1)))] rfl ?_
        have h7 := h6.freeze (k := 0) rfl own_rd
        have h8 := ((h7.only [] rfl).rds [0, 2] rfl)
        exact ⟨k1, by omega, r2, A5, c_5, (w64 (x2 + 1)), rfl, h8, H⟩
    · replace H := ite_f c1 H
      refine J.exit ?_
      refine J.seq ?_
      refine J.region ?_
      refine RJ.run ttok 2 rfl ?_
      refine RJ.fin [(4, .slice A3 x1.length c_3)] rfl ?_
      refine J.ret ?_
      obtain rfl := Option.some.inj H
      exact ⟨_, _, _, (results_slots rfl), ⟨_, _, rfl, rfl, rfl⟩, (h1.only [] rfl).rds [0] rfl⟩

/-! sluicegate/sluicegateref10.Put -/
def sluicegateref10_Put.l0 : Nat → (List (List UInt8 × Bool × List UInt8)) → (List UInt8 × Bool × List UInt8) → (List (List UInt8 × Bool × List UInt8)) → (Bool) → (Int) → Option ((List (List UInt8 × Bool × List UInt8)))
  | 0, _, _, _, _, _ => none
  | k + 1, a0, a1, x1, x2, x3 => if (decide (x3 < (a0.length : Int))) = true then (if (!x2) = true then (if 0 ≤ x3 ∧ x3 < (a0.length : Int) then ((sluicegateref01_Compare.f k a1.1 ((gt a0 x3).1)).bind fun r1 => (if (decide (r1 ≤ 0)) = true then (if (x1.length + ([(a1.1, a1.2.1, a1.2.2)] : List (List UInt8 × Bool × List UInt8)).length) * 40 ≤ 140737488355328 then (if (!decide (((gt a0 x3).1) = a1.1)) = true then (if ((x1 ++ ([(a1.1, a1.2.1, a1.2.2)] : List (List UInt8 × Bool × List UInt8))).length + ([((gt a0 x3).1, (gt a0 x3).2.1, (gt a0 x3).2.2)] : List (List UInt8 × Bool × List UInt8)).length) * 40 ≤ 140737488355328 then (sluicegateref10_Put.l0 k a0 a1 ((x1 ++ ([(a1.1, a1.2.1, a1.2.2)] : List (List UInt8 × Bool × List UInt8))) ++ ([((gt a0 x3).1, (gt a0 x3).2.1, (gt a0 x3).2.2)] : List (List UInt8 × Bool × List UInt8))) true (w64 (x3 + 1))) else none) else (sluicegateref10_Put.l0 k a0 a1 (x1 ++ ([(a1.1, a1.2.1, a1.2.2)] : List (List UInt8 × Bool × List UInt8))) true (w64 (x3 + 1)))) else none) else (if (!decide (((gt a0 x3).1) = a1.1)) = true then (if (x1.length + ([((gt a0 x3).1, (gt a0 x3).2.1, (gt a0 x3).2.2)] : List (List UInt8 × Bool × List UInt8)).length) * 40 ≤ 140737488355328 then (sluicegateref10_Put.l0 k a0 a1 (x1 ++ ([((gt a0 x3).1, (gt a0 x3).2.1, (gt a0 x3).2.2)] : List (List UInt8 × Bool × List UInt8))) x2 (w64 (x3 + 1))) else none) else (sluicegateref10_Put.l0 k a0 a1 x1 x2 (w64 (x3 + 1)))))) else none) else (if 0 ≤ x3 ∧ x3 < (a0.length : Int) then (if (!decide (((gt a0 x3).1) = a1.1)) = true then (if (x1.length + ([((gt a0 x3).1, (gt a0 x3).2.1, (gt a0 x3).2.2)] : List (List UInt8 × Bool × List UInt8)).length) * 40 ≤ 140737488355328 then (sluicegateref10_Put.l0 k a0 a1 (x1 ++ ([((gt a0 x3).1, (gt a0 x3).2.1, (gt a0 x3).2.2)] : List (List UInt8 × Bool × List UInt8))) x2 (w64 (x3 + 1))) else none) else (sluicegateref10_Put.l0 k a0 a1 x1 x2 (w64 (x3 + 1)))) else none)) else (if (!x2) = true then (if (x1.length + ([(a1.1, a1.2.1, a1.2.2)] : List (List UInt8 × Bool × List UInt8)).length) * 40 ≤ 140737488355328 then (some (x1 ++ ([(a1.1, a1.2.1, a1.2.2)] : List (List UInt8 × Bool × List UInt8)))) else none) else (some x1))
def sluicegateref10_Put.f (k : Nat) (a0 : List (List UInt8 × Bool × List UInt8)) (a1 : List UInt8 × Bool × List UInt8) : Option ((List (List UInt8 × Bool × List UInt8))) := sluicegateref10_Put.l0 k a0 a1 ([] : List (List UInt8 × Bool × List UInt8)) false 0
set_option maxRecDepth 20000 in
set_option maxHeartbeats 40000000 in
theorem sluicegateref10_Put.spec {k : Nat} {a0 : List (List UInt8 × Bool × List UInt8)} {a1 : List UInt8 × Bool × List UInt8} {A1 : Option Addr} {c_1 : Nat} {r : (List (List UInt8 × Bool × List UInt8))} (H : sluicegateref10_Put.f k a0 a1 = some r) :
    Spec Try.prog 89 [.slice A1 a0.length c_1, .agg #[.string ⟨⟨a1.1⟩⟩, .bool a1.2.1, .string ⟨⟨a1.2.2⟩⟩]] [] [rdC 135 (.pair .str (.pair .bool .str)) a0 (.slice A1 a0.length c_1)] (fun v l => ∃ (A_0 : Option Addr) (c_0 : Nat), v = .slice A_0 r.length c_0 ∧ l = [ownC 135 (.pair .str (.pair .bool .str)) r (.slice A_0 r.length c_0)]) := by
  refine Spec.enter Try.func89 rfl (by kernel_rfl) (by kernel_rfl) fun w0 F0 h0 => ?_
  unfold sluicegateref10_Put.f at H
  refine J.seq ?_
  refine J.region ?_
  refine RJ.op rfl rfl (op_box rfl rfl h0) ?_
  rintro _ w1 ⟨b1, rfl, h1⟩
  replace h1 : St w0 F0 [boxC b1 135 [.string ⟨⟨a1.1⟩⟩, .bool a1.2.1, .string ⟨⟨a1.2.2⟩⟩]] _ _ := h1
  refine RJ.run ttok 1 rfl ?_
  refine RJ.fin [(0, .slice A1 a0.length c_1), (3, .pointer (some ⟨b1, 0, none⟩))] rfl ?_
  refine J.seq ?_
  refine J.region ?_
  refine RJ.op rfl rfl (op_lit ttok (.pair .str (.pair .bool .str)) rfl ([] : List (List UInt8 × Bool × List UInt8)) rfl h1 rfl rfl (by decide) rfl rfl rfl rfl rfl rfl rfl) ?_
  rintro _ w2 ⟨b2, rfl, h2⟩
  replace h2 : St w0 F0 [ownC 135 (.pair .str (.pair .bool .str)) ([] : List (List UInt8 × Bool × List UInt8)) (.slice (some ⟨b2, 0, none⟩) ([] : List (List UInt8 × Bool × List UInt8)).length 0), boxC b1 135 [.string ⟨⟨a1.1⟩⟩, .bool a1.2.1, .string ⟨⟨a1.2.2⟩⟩]] _ _ := h2
  refine RJ.run ttok 1 rfl ?_
  refine RJ.fin [(0, .slice A1 a0.length c_1), (3, .pointer (some ⟨b1, 0, none⟩)), (5, .slice (some ⟨b2, 0, none⟩) ([] : List (List UInt8 × Bool × List UInt8)).length 0)] rfl ?_
  refine J.seq ?_
  refine J.region ?_
  refine RJ.run ttok 1 rfl ?_
  refine RJ.fin [(0, .slice A1 a0.length c_1), (3, .pointer (some ⟨b1, 0, none⟩)), (5, .slice (some ⟨b2, 0, none⟩) ([] : List (List UInt8 × Bool × List UInt8)).length 0), (6, .bool false)] rfl ?_
  refine J.seq ?_
  refine J.seq ?_
  refine J.region ?_
  refine RJ.run ttok 1 rfl ?_
  refine RJ.fin [(0, .slice A1 a0.length c_1), (3, .pointer (some ⟨b1, 0, none⟩)), (5, .slice (some ⟨b2, 0, none⟩) ([] : List (List UInt8 × Bool × List UInt8)).length 0), (6, .bool false), (7, .int .i64 0)] rfl ?_
  refine J.block ?_
  have h27 := ((h2.only [1, 0] rfl).rds [0] rfl)
  refine J.loop (fun k env w => ∃ (x1 : List (List UInt8 × Bool × List UInt8)) (A2 : Option Addr) (c_2 : Nat) (x2 : Bool) (x3 : Int), env = [(0, .slice A1 a0.length c_1), (3, .pointer (some ⟨b1, 0, none⟩)), (5, .slice A2 x1.length c_2), (6, .bool x2), (7, .int .i64 x3)] ∧ St w0 F0 [boxC b1 135 [.string ⟨⟨a1.1⟩⟩, .bool a1.2.1, .string ⟨⟨a1.2.2⟩⟩], ownC 135 (.pair .str (.pair .bool .str)) x1 (.slice A2 x1.length c_2)] [rdC 135 (.pair .str (.pair .bool .str)) a0 (.slice A1 a0.length c_1)] w ∧ sluicegateref10_Put.l0 k a0 a1 x1 x2 x3 = some r) (k := k) ⟨([] : List (List UInt8 × Bool × List UInt8)), (some ⟨b2, 0, none⟩), 0, false, 0, rfl, h27, H⟩ ?_
  rintro k1 env w3 ⟨x1, A2, c_2, x2, x3, rfl, h3, H⟩
  cases k1 with
  | zero => exact nomatch (show none = some r from H)
  | succ k1 =>
    rw [sluicegateref10_Put.l0] at H
    refine J.seq ?_
    refine J.seq ?_
    refine J.region ?_
    refine RJ.run ttok 4 rfl ?_
    refine RJ.fin [(0, .slice A1 a0.length c_1), (3, .pointer (some ⟨b1, 0, none⟩)), (5, .slice A2 x1.length c_2), (6, .bool x2), (7, .int .i64 x3), (12, .bool (decide (x3 < (a0.length : Int))))] rfl ?_
    refine J.cond rfl (fun c1 => ?_) (fun c1 => ?_)
    · replace H := ite_t c1 H
      refine J.skip ?_
      refine J.seq ?_
      refine J.block ?_
      refine J.seq ?_
      refine J.seq ?_
      refine J.heldSt mix h3 ?_
      have h4 := h3.drew
      refine HJ.run ttok rfl [0, 1, 2] rfl ?_
      rcases Bool.eq_false_or_eq_true (!x2) with c2 | c2
      · replace H := ite_t c2 H
        refine HJ.know (t := 17) rfl (congrArg Value.bool c2) ?_
        refine HJ.run ttok rfl [3, 5, 6] rfl ?_
        refine HJ.q (i := 4) rfl rfl rfl rfl rfl rfl (q_load_box ttok 0 (fun w e => e) rfl rfl rfl rfl rfl) ?_
        obtain ⟨⟨p1, p2⟩, H⟩ := guard_t H
        have e1 := elem_A h4.wh (Gives.self 2 rfl) p1 p2
        refine HJ.q (i := 7) rfl rfl rfl rfl rfl rfl (q_index ttok rfl rfl rfl rfl rfl e1 p1 p2) ?_
        refine HJ.run ttok rfl [8] rfl ?_
        refine HJ.q (i := 9) rfl rfl rfl rfl rfl rfl (q_load_elem (f := 0) ttok rfl (fun w e => e) (Gives.self 2 rfl) p1 p2 rfl rfl rfl rfl rfl) ?_
        obtain ⟨r1, q1, H⟩ := bind_t H
        refine HJ.op (i := 10) rfl rfl rfl rfl rfl (op_call [] (sluicegateref01_Compare.spec q1) rfl rfl rfl h4 rfl gnil) ?_
        rintro _ w4 ⟨_, ⟨rfl, rfl⟩, h5⟩
        replace h5 : St w0 F0 [boxC b1 135 [.string ⟨⟨a1.1⟩⟩, .bool a1.2.1, .string ⟨⟨a1.2.2⟩⟩], ownC 135 (.pair .str (.pair .bool .str)) x1 (.slice A2 x1.length c_2)] _ _ := h5
        refine ⟨⟨[], h5⟩, ?_⟩
        refine HJ.run ttok rfl [11, 12] rfl ?_
        refine HJ.fin [(0, .slice A1 a0.length c_1), (3, .pointer (some ⟨b1, 0, none⟩)), (5, .slice A2 x1.length c_2), (6, .bool x2), (7, .int .i64 x3), (27, .bool (decide (r1 ≤ 0)))] rfl rfl ?_
        refine J.cond rfl (fun c3 => ?_) (fun c3 => ?_)
        · replace H := ite_t c3 H
          refine J.seq ?_
          refine J.region ?_
          refine RJ.run ttok 1 rfl ?_
          refine RJ.q rfl rfl (q_load_box ttok 0 (fun w e => e ▸ h5.wh) rfl rfl rfl rfl rfl) ?_
          refine RJ.op rfl rfl (op_lit ttok (.pair .str (.pair .bool .str)) rfl ([(a1.1, a1.2.1, a1.2.2)] : List (List UInt8 × Bool × List UInt8)) rfl h5 rfl rfl (by decide) rfl rfl rfl rfl rfl rfl rfl) ?_
          rintro _ w5 ⟨b3, rfl, h6⟩
          replace h6 : St w0 F0 [ownC 135 (.pair .str (.pair .bool .str)) ([(a1.1, a1.2.1, a1.2.2)] : List (List UInt8 × Bool × List UInt8)) (.slice (some ⟨b3, 0, none⟩) ([(a1.1, a1.2.1, a1.2.2)] : List (List UInt8 × Bool × List UInt8)).length 1), boxC b1 135 [.string ⟨⟨a1.1⟩⟩, .bool a1.2.1, .string ⟨⟨a1.2.2⟩⟩], ownC 135 (.pair .str (.pair .bool .str)) x1 (.slice A2 x1.length c_2)] _ _ := h6
          obtain ⟨p3, H⟩ := guard_t H
          refine RJ.op rfl rfl (op_append ttok rfl 2 rfl h6 rfl (Gives.of 0 rfl own_rd) rfl rfl rfl rfl rfl rfl (by decide) (by decide) p3) ?_
          rintro _ w6 ⟨A3, c_3, rfl, h7⟩
          replace h7 : St w0 F0 [ownC 135 (.pair .str (.pair .bool .str)) (x1 ++ ([(a1.1, a1.2.1, a1.2.2)] : List (List UInt8 × Bool × List UInt8))) (.slice A3 (x1 ++ ([(a1.1, a1.2.1, a1.2.2)] : List (List UInt8 × Bool × List UInt8))).length c_3), ownC 135 (.pair .str (.pair .bool .str)) ([(a1.1, a1.2.1, a1.2.2)] : List (List UInt8 × Bool × List UInt8)) (.slice (some ⟨b3, 0, none⟩) ([(a1.1, a1.2.1, a1.2.2)] : List (List UInt8 × Bool × List UInt8)).length 1), boxC b1 135 [.string ⟨⟨a1.1⟩⟩, .bool a1.2.1, .string ⟨⟨a1.2.2⟩⟩]] _ _ := h7
          refine RJ.run ttok 1 rfl ?_
          refine RJ.fin [(0, .slice A1 a0.length c_1), (3, .pointer (some ⟨b1, 0, none⟩)), (5, .slice A3 (x1 ++ ([(a1.1, a1.2.1, a1.2.2)] : List (List UInt8 × Bool × List UInt8))).length c_3), (7, .int .i64 x3)] rfl ?_
          refine J.region ?_
          refine RJ.run ttok 1 rfl ?_
          refine RJ.fin [(0, .slice A1 a0.length c_1), (3, .pointer (some ⟨b1, 0, none⟩)), (5, .slice A3 (x1 ++ ([(a1.1, a1.2.1, a1.2.2)] : List (List UInt8 × Bool × List UInt8))).length c_3), (6, .bool true), (7, .int .i64 x3)] rfl ?_
          refine J.seq ?_
          refine J.heldSt mix h7 ?_
          have h8 := h7.drew
          refine HJ.run ttok rfl [0, 1, 5] rfl ?_
          refine HJ.q (i := 2) rfl rfl rfl rfl rfl rfl (q_index ttok rfl rfl rfl rfl rfl e1 p1 p2) ?_
          refine HJ.run ttok rfl [3] rfl ?_
          refine HJ.q (i := 4) rfl rfl rfl rfl rfl rfl (q_load_elem (f := 0) ttok rfl (fun w e => e) (Gives.self 3 rfl) p1 p2 rfl rfl rfl rfl rfl) ?_
          refine HJ.q (i := 6) rfl rfl rfl rfl rfl rfl (q_load_box ttok 2 (fun w e => e) rfl rfl rfl rfl rfl) ?_
          refine HJ.run ttok rfl [7] rfl ?_
          refine HJ.fin [(0, .slice A1 a0.length c_1), (3, .pointer (some ⟨b1, 0, none⟩)), (5, .slice A3 (x1 ++ ([(a1.1, a1.2.1, a1.2.2)] : List (List UInt8 × Bool × List UInt8))).length c_3), (6, .bool true), (7, .int .i64 x3), (39, .bool (!decide (((gt a0 x3).1) = a1.1)))] rfl rfl ?_
          refine J.cond rfl (fun c4 => ?_) (fun c4 => ?_)
          · replace H := ite_t c4 H
            refine J.region ?_
            refine RJ.run ttok 3 rfl ?_
            refine RJ.q rfl rfl (q_index ttok rfl rfl rfl rfl rfl e1 p1 p2) ?_
            refine RJ.q rfl rfl (q_load_elem (f := 0) ttok rfl (fun w e => e ▸ h8.wh) (Gives.self 3 rfl) p1 p2 rfl rfl rfl rfl rfl) ?_
            refine RJ.op rfl rfl (op_lit ttok (.pair .str (.pair .bool .str)) rfl ([((gt a0 x3).1, (gt a0 x3).2.1, (gt a0 x3).2.2)] : List (List UInt8 × Bool × List UInt8)) rfl h8 rfl rfl (by decide) rfl rfl rfl rfl rfl rfl rfl) ?_
            rintro _ w7 ⟨b4, rfl, h9⟩
            replace h9 : St w0 F0 [ownC 135 (.pair .str (.pair .bool .str)) ([((gt a0 x3).1, (gt a0 x3).2.1, (gt a0 x3).2.2)] : List (List UInt8 × Bool × List UInt8)) (.slice (some ⟨b4, 0, none⟩) ([((gt a0 x3).1, (gt a0 x3).2.1, (gt a0 x3).2.2)] : List (List UInt8 × Bool × List UInt8)).length 1), ownC 135 (.pair .str (.pair .bool .str)) (x1 ++ ([(a1.1, a1.2.1, a1.2.2)] : List (List UInt8 × Bool × List UInt8))) (.slice A3 (x1 ++ ([(a1.1, a1.2.1, a1.2.2)] : List (List UInt8 × Bool × List UInt8))).length c_3), ownC 135 (.pair .str (.pair .bool .str)) ([(a1.1, a1.2.1, a1.2.2)] : List (List UInt8 × Bool × List UInt8)) (.slice (some ⟨b3, 0, none⟩) ([(a1.1, a1.2.1, a1.2.2)] : List (List UInt8 × Bool × List UInt8)).length 1), boxC b1 135 [.string ⟨⟨a1.1⟩⟩, .bool a1.2.1, .string ⟨⟨a1.2.2⟩⟩]] _ _ := h9
            obtain ⟨p4, H⟩ := guard_t H
            refine RJ.op rfl rfl (op_append ttok rfl 1 rfl h9 rfl (Gives.of 0 rfl own_rd) rfl rfl rfl rfl rfl rfl (by decide) (by decide) p4) ?_
            rintro _ w8 ⟨A4, c_4, rfl, h10⟩
            replace h10 : St w0 F0 [ownC 135 (.pair .str (.pair .bool .str)) ((x1 ++ ([(a1.1, a1.2.1, a1.2.2)] : List (List UInt8 × Bool × List UInt8))) ++ ([((gt a0 x3).1, (gt a0 x3).2.1, (gt a0 x3).2.2)] : List (List UInt8 × Bool × List UInt8))) (.slice A4 ((x1 ++ ([(a1.1, a1.2.1, a1.2.2)] : List (List UInt8 × Bool × List UInt8))) ++ ([((gt a0 x3).1, (gt a0 x3).2.1, (gt a0 x3).2.2)] : List (List UInt8 × Bool × List UInt8))).length c_4), ownC 135 (.pair .str (.pair .bool .str)) ([((gt a0 x3).1, (gt a0 x3).2.1, (gt a0 x3).2.2)] : List (List UInt8 × Bool × List UInt8)) (.slice (some ⟨b4, 0, none⟩) ([((gt a0 x3).1, (gt a0 x3).2.1, (gt a0 x3).2.2)] : List (List UInt8 × Bool × List UInt8)).length 1), ownC 135 (.pair .str (.pair .bool .str)) ([(a1.1, a1.2.1, a1.2.2)] : List (List UInt8 × Bool × List UInt8)) (.slice (some ⟨b3, 0, none⟩) ([(a1.1, a1.2.1, a1.2.2)] : List (List UInt8 × Bool × List UInt8)).length 1), boxC b1 135 [.string ⟨⟨a1.1⟩⟩, .bool a1.2.1, .string ⟨⟨a1.2.2⟩⟩]] _ _ := h10
            refine RJ.run ttok 1 rfl ?_
            refine RJ.fin [(0, .slice A1 a0.length c_1), (3, .pointer (some ⟨b1, 0, none⟩)), (5, .slice A4 ((x1 ++ ([(a1.1, a1.2.1, a1.2.2)] : List (List UInt8 × Bool × List UInt8))) ++ ([((gt a0 x3).1, (gt a0 x3).2.1, (gt a0 x3).2.2)] : List (List UInt8 × Bool × List UInt8))).length c_4), (6, .bool true), (7, .int .i64 x3)] rfl ?_
            have h11 := h10.only [0, 2] rfl
            replace h11 : St w0 F0 [ownC 135 (.pair .str (.pair .bool .str)) ((x1 ++ ([(a1.1, a1.2.1, a1.2.2)] : List (List UInt8 × Bool × List UInt8))) ++ ([((gt a0 x3).1, (gt a0 x3).2.1, (gt a0 x3).2.2)] : List (List UInt8 × Bool × List UInt8))) (.slice A4 ((x1 ++ ([(a1.1, a1.2.1, a1.2.2)] : List (List UInt8 × Bool × List UInt8))) ++ ([((gt a0 x3).1, (gt a0 x3).2.1, (gt a0 x3).2.2)] : List (List UInt8 × Bool × List UInt8))).length c_4), boxC b1 135 [.string ⟨⟨a1.1⟩⟩, .bool a1.2.1, .string ⟨⟨a1.2.2⟩⟩]] _ _ := h11
            refine J.region ?_
            refine RJ.run ttok 3 rfl ?_
            refine RJ.fin [(0, .slice A1 a0.length c_1), (3, .pointer (some ⟨b1, 0, none⟩)), (5, .slice A4 ((x1 ++ ([(a1.1, a1.2.1, a1.2.2)] : List (List UInt8 × Bool × List UInt8))) ++ ([((gt a0 x3).1, (gt a0 x3).2.1, (gt a0 x3).2.2)] : List (List UInt8 × Bool × List UInt8))).length c_4), (6, .bool true), (7, .int .i64 (w64 (x3 + 1)))] rfl ?_
            have h12 := ((h11.only [1, 0] rfl).rds [0] rfl)
            exact ⟨k1, by omega, ((x1 ++ ([(a1.1, a1.2.1, a1.2.2)] : List (List UInt8 × Bool × List UInt8))) ++ ([((gt a0 x3).1, (gt a0 x3).2.1, (gt a0 x3).2.2)] : List (List UInt8 × Bool × List UInt8))), A4, c_4, true, (w64 (x3 + 1)), rfl, h12, H⟩
          · replace H := ite_f c4 H
            refine J.skip ?_
            refine J.region ?_
            refine RJ.run ttok 3 rfl ?_
            refine RJ.fin [(0, .slice A1 a0.length c_1), (3, .pointer (some ⟨b1, 0, none⟩)), (5, .slice A3 (x1 ++ ([(a1.1, a1.2.1, a1.2.2)] : List (List UInt8 × Bool × List UInt8))).length c_3), (6, .bool true), (7, .int .i64 (w64 (x3 + 1)))] rfl ?_
            have h13 := ((h8.only [2, 0] rfl).rds [0] rfl)
            exact ⟨k1, by omega, (x1 ++ ([(a1.1, a1.2.1, a1.2.2)] : List (List UInt8 × Bool × List UInt8))), A3, c_3, true, (w64 (x3 + 1)), rfl, h13, H⟩
        · replace H := ite_f c3 H
          refine J.skip ?_
          refine J.seq ?_
          refine J.heldSt mix h5 ?_
          have h14 := h5.drew
          refine HJ.run ttok rfl [0, 1, 5] rfl ?_
          refine HJ.q (i := 2) rfl rfl rfl rfl rfl rfl (q_index ttok rfl rfl rfl rfl rfl e1 p1 p2) ?_
          refine HJ.run ttok rfl [3] rfl ?_
          refine HJ.q (i := 4) rfl rfl rfl rfl rfl rfl (q_load_elem (f := 0) ttok rfl (fun w e => e) (Gives.self 2 rfl) p1 p2 rfl rfl rfl rfl rfl) ?_
          refine HJ.q (i := 6) rfl rfl rfl rfl rfl rfl (q_load_box ttok 0 (fun w e => e) rfl rfl rfl rfl rfl) ?_
          refine HJ.run ttok rfl [7] rfl ?_
          refine HJ.fin [(0, .slice A1 a0.length c_1), (3, .pointer (some ⟨b1, 0, none⟩)), (5, .slice A2 x1.length c_2), (6, .bool x2), (7, .int .i64 x3), (39, .bool (!decide (((gt a0 x3).1) = a1.1)))] rfl rfl ?_
          refine J.cond rfl (fun c5 => ?_) (fun c5 => ?_)
          · replace H := ite_t c5 H
            refine J.region ?_
            refine RJ.run ttok 3 rfl ?_
            refine RJ.q rfl rfl (q_index ttok rfl rfl rfl rfl rfl e1 p1 p2) ?_
            refine RJ.q rfl rfl (q_load_elem (f := 0) ttok rfl (fun w e => e ▸ h14.wh) (Gives.self 2 rfl) p1 p2 rfl rfl rfl rfl rfl) ?_
            refine RJ.op rfl rfl (op_lit ttok (.pair .str (.pair .bool .str)) rfl ([((gt a0 x3).1, (gt a0 x3).2.1, (gt a0 x3).2.2)] : List (List UInt8 × Bool × List UInt8)) rfl h14 rfl rfl (by decide) rfl rfl rfl rfl rfl rfl rfl) ?_
            rintro _ w9 ⟨b5, rfl, h15⟩
            replace h15 : St w0 F0 [ownC 135 (.pair .str (.pair .bool .str)) ([((gt a0 x3).1, (gt a0 x3).2.1, (gt a0 x3).2.2)] : List (List UInt8 × Bool × List UInt8)) (.slice (some ⟨b5, 0, none⟩) ([((gt a0 x3).1, (gt a0 x3).2.1, (gt a0 x3).2.2)] : List (List UInt8 × Bool × List UInt8)).length 1), boxC b1 135 [.string ⟨⟨a1.1⟩⟩, .bool a1.2.1, .string ⟨⟨a1.2.2⟩⟩], ownC 135 (.pair .str (.pair .bool .str)) x1 (.slice A2 x1.length c_2)] _ _ := h15
            obtain ⟨p5, H⟩ := guard_t H
            refine RJ.op rfl rfl (op_append ttok rfl 2 rfl h15 rfl (Gives.of 0 rfl own_rd) rfl rfl rfl rfl rfl rfl (by decide) (by decide) p5) ?_
            rintro _ w10 ⟨A5, c_5, rfl, h16⟩
            replace h16 : St w0 F0 [ownC 135 (.pair .str (.pair .bool .str)) (x1 ++ ([((gt a0 x3).1, (gt a0 x3).2.1, (gt a0 x3).2.2)] : List (List UInt8 × Bool × List UInt8))) (.slice A5 (x1 ++ ([((gt a0 x3).1, (gt a0 x3).2.1, (gt a0 x3).2.2)] : List (List UInt8 × Bool × List UInt8))).length c_5), ownC 135 (.pair .str (.pair .bool .str)) ([((gt a0 x3).1, (gt a0 x3).2.1, (gt a0 x3).2.2)] : List (List UInt8 × Bool × List UInt8)) (.slice (some ⟨b5, 0, none⟩) ([((gt a0 x3).1, (gt a0 x3).2.1, (gt a0 x3).2.2)] : List (List UInt8 × Bool × List UInt8)).length 1), boxC b1 135 [.string ⟨⟨a1.1⟩⟩, .bool a1.2.1, .string ⟨⟨a1.2.2⟩⟩]] _ _ := h16
            refine RJ.run ttok 1 rfl ?_
            refine RJ.fin [(0, .slice A1 a0.length c_1), (3, .pointer (some ⟨b1, 0, none⟩)), (5, .slice A5 (x1 ++ ([((gt a0 x3).1, (gt a0 x3).2.1, (gt a0 x3).2.2)] : List (List UInt8 × Bool × List UInt8))).length c_5), (6, .bool x2), (7, .int .i64 x3)] rfl ?_
            refine J.region ?_
            refine RJ.run ttok 3 rfl ?_
            refine RJ.fin [(0, .slice A1 a0.length c_1), (3, .pointer (some ⟨b1, 0, none⟩)), (5, .slice A5 (x1 ++ ([((gt a0 x3).1, (gt a0 x3).2.1, (gt a0 x3).2.2)] : List (List UInt8 × Bool × List UInt8))).length c_5), (6, .bool x2), (7, .int .i64 (w64 (x3 + 1)))] rfl ?_
            have h17 := ((h16.only [2, 0] rfl).rds [0] rfl)
            exact ⟨k1, by omega, (x1 ++ ([((gt a0 x3).1, (gt a0 x3).2.1, (gt a0 x3).2.2)] : List (List UInt8 × Bool × List UInt8))), A5, c_5, x2, (w64 (x3 + 1)), rfl, h17, H⟩
          · replace H := ite_f c5 H
            refine J.skip ?_
            refine J.region ?_
            refine RJ.run ttok 3 rfl ?_
            refine RJ.fin [(0, .slice A1 a0.length c_1), (3, .pointer (some ⟨b1, 0, none⟩)), (5, .slice A2 x1.length c_2), (6, .bool x2), (7, .int .i64 (w64 (x3 + 1)))] rfl ?_
            have h18 := ((h14.only [0, 0] rfl).rds [0] rfl)
            exact ⟨k1, by omega, x1, A2, c_2, x2, (w64 (x3 + 1)), rfl, h18, H⟩
      · replace H := ite_f c2 H
        refine HJ.know (t := 17) rfl (congrArg Value.bool c2) ?_
        refine HJ.run ttok rfl [3, 4, 5, 6, 7, 8, 9, 10, 11, 12] rfl ?_
        refine HJ.fin [(0, .slice A1 a0.length c_1), (3, .pointer (some ⟨b1, 0, none⟩)), (5, .slice A2 x1.length c_2), (6, .bool x2), (7, .int .i64 x3), (27, .bool false)] rfl rfl ?_
        refine J.condF rfl ?_
        refine J.skip ?_
        refine J.seq ?_
        refine J.heldSt mix h4 ?_
        have h19 := h4.drew
        refine HJ.run ttok rfl [0, 1, 5] rfl ?_
        obtain ⟨⟨p6, p7⟩, H⟩ := guard_t H
        have e2 := elem_A h19.wh (Gives.self 2 rfl) p6 p7
        refine HJ.q (i := 2) rfl rfl rfl rfl rfl rfl (q_index ttok rfl rfl rfl rfl rfl e2 p6 p7) ?_
        refine HJ.run ttok rfl [3] rfl ?_
        refine HJ.q (i := 4) rfl rfl rfl rfl rfl rfl (q_load_elem (f := 0) ttok rfl (fun w e => e) (Gives.self 2 rfl) p6 p7 rfl rfl rfl rfl rfl) ?_
        refine HJ.q (i := 6) rfl rfl rfl rfl rfl rfl (q_load_box ttok 0 (fun w e => e) rfl rfl rfl rfl rfl) ?_
        refine HJ.run ttok rfl [7] rfl ?_
        refine HJ.fin [(0, .slice A1 a0.length c_1), (3, .pointer (some ⟨b1, 0, none⟩)), (5, .slice A2 x1.length c_2), (6, .bool x2), (7, .int .i64 x3), (39, .bool (!decide (((gt a0 x3).1) = a1.1)))] rfl rfl ?_
        refine J.cond rfl (fun c6 => ?_) (fun c6 => ?_)
        · replace H := ite_t c6 H
          refine J.region ?_
          refine RJ.run ttok 3 rfl ?_
          refine RJ.q rfl rfl (q_index ttok rfl rfl rfl rfl rfl e2 p6 p7) ?_
          refine RJ.q rfl rfl (q_load_elem (f := 0) ttok rfl (fun w e => e ▸ h19.wh) (Gives.self 2 rfl) p6 p7 rfl rfl rfl rfl rfl) ?_
          refine RJ.op rfl rfl (op_lit ttok (.pair .str (.pair .bool .str)) rfl ([((gt a0 x3).1, (gt a0 x3).2.1, (gt a0 x3).2.2)] : List (List UInt8 × Bool × List UInt8)) rfl h19 rfl rfl (by decide) rfl rfl rfl rfl rfl rfl rfl) ?_
          rintro _ w11 ⟨b6, rfl, h20⟩
          replace h20 : St w0 F0 [ownC 135 (.pair .str (.pair .bool .str)) ([((gt a0 x3).1, (gt a0 x3).2.1, (gt a0 x3).2.2)] : List (List UInt8 × Bool × List UInt8)) (.slice (some ⟨b6, 0, none⟩) ([((gt a0 x3).1, (gt a0 x3).2.1, (gt a0 x3).2.2)] : List (List UInt8 × Bool × List UInt8)).length 1), boxC b1 135 [.string ⟨⟨a1.1⟩⟩, .bool a1.2.1, .string ⟨⟨a1.2.2⟩⟩], ownC 135 (.pair .str (.pair .bool .str)) x1 (.slice A2 x1.length c_2)] _ _ := h20
          obtain ⟨p8, H⟩ := guard_t H
          refine RJ.op rfl rfl (op_append ttok rfl 2 rfl h20 rfl (Gives.of 0 rfl own_rd) rfl rfl rfl rfl rfl rfl (by decide) (by decide) p8) ?_
          rintro _ w12 ⟨A6, c_6, rfl, h21⟩
          replace h21 : St w0 F0 [ownC 135 (.pair .str (.pair .bool .str)) (x1 ++ ([((gt a0 x3).1, (gt a0 x3).2.1, (gt a0 x3).2.2)] : List (List UInt8 × Bool × List UInt8))) (.slice A6 (x1 ++ ([((gt a0 x3).1, (gt a0 x3).2.1, (gt a0 x3).2.2)] : List (List UInt8 × Bool × List UInt8))).length c_6), ownC 135 (.pair .str (.pair .bool .str)) ([((gt a0 x3).1, (gt a0 x3).2.1, (gt a0 x3).2.2)] : List (List UInt8 × Bool × List UInt8)) (.slice (some ⟨b6, 0, none⟩) ([((gt a0 x3).1, (gt a0 x3).2.1, (gt a0 x3).2.2)] : List (List UInt8 × Bool × List UInt8)).length 1), boxC b1 135 [.string ⟨⟨a1.1⟩⟩, .bool a1.2.1, .string ⟨⟨a1.2.2⟩⟩]] _ _ := h21
          refine RJ.run ttok 1 rfl ?_
          refine RJ.fin [(0, .slice A1 a0.length c_1), (3, .pointer (some ⟨b1, 0, none⟩)), (5, .slice A6 (x1 ++ ([((gt a0 x3).1, (gt a0 x3).2.1, (gt a0 x3).2.2)] : List (List UInt8 × Bool × List UInt8))).length c_6), (6, .bool x2), (7, .int .i64 x3)] rfl ?_
          refine J.region ?_
          refine RJ.run ttok 3 rfl ?_
          refine RJ.fin [(0, .slice A1 a0.length c_1), (3, .pointer (some ⟨b1, 0, none⟩)), (5, .slice A6 (x1 ++ ([((gt a0 x3).1, (gt a0 x3).2.1, (gt a0 x3).2.2)] : List (List UInt8 × Bool × List UInt8))).length c_6), (6, .bool x2), (7, .int .i64 (w64 (x3 + 1)))] rfl ?_
          have h22 := ((h21.only [2, 0] rfl).rds [0] rfl)
          exact ⟨k1, by omega, (x1 ++ ([((gt a0 x3).1, (gt a0 x3).2.1, (gt a0 x3).2.2)] : List (List UInt8 × Bool × List UInt8))), A6, c_6, x2, (w64 (x3 + 1)), rfl, h22, H⟩
        · replace H := ite_f c6 H
          refine J.skip ?_
          refine J.region ?_
          refine RJ.run ttok 3 rfl ?_
          refine RJ.fin [(0, .slice A1 a0.length c_1), (3, .pointer (some ⟨b1, 0, none⟩)), (5, .slice A2 x1.length c_2), (6, .bool x2), (7, .int .i64 (w64 (x3 + 1)))] rfl ?_
          have h23 := ((h19.only [0, 0] rfl).rds [0] rfl)
          exact ⟨k1, by omega, x1, A2, c_2, x2, (w64 (x3 + 1)), rfl, h23, H⟩
    · replace H := ite_f c1 H
      refine J.exit ?_
      refine J.seq ?_
      refine J.seq ?_
      refine J.region ?_
      refine RJ.run ttok 2 rfl ?_
      refine RJ.fin [(3, .pointer (some ⟨b1, 0, none⟩)), (5, .slice A2 x1.length c_2), (48, .bool (!x2))] rfl ?_
      refine J.cond rfl (fun c7 => ?_) (fun c7 => ?_)
      · replace H := ite_t c7 H
        refine J.region ?_
        refine RJ.run ttok 1 rfl ?_
        refine RJ.q rfl rfl (q_load_box ttok 0 (fun w e => e ▸ h3.wh) rfl rfl rfl rfl rfl) ?_
        refine RJ.op rfl rfl (op_lit ttok (.pair .str (.pair .bool .str)) rfl ([(a1.1, a1.2.1, a1.2.2)] : List (List UInt8 × Bool × List UInt8)) rfl h3 rfl rfl (by decide) rfl rfl rfl rfl rfl rfl rfl) ?_
        rintro _ w13 ⟨b7, rfl, h24⟩
        replace h24 : St w0 F0 [ownC 135 (.pair .str (.pair .bool .str)) ([(a1.1, a1.2.1, a1.2.2)] : List (List UInt8 × Bool × List UInt8)) (.slice (some ⟨b7, 0, none⟩) ([(a1.1, a1.2.1, a1.2.2)] : List (List UInt8 × Bool × List UInt8)).length 1), boxC b1 135 [.string ⟨⟨a1.1⟩⟩, .bool a1.2.1, .string ⟨⟨a1.2.2⟩⟩], ownC 135 (.pair .str (.pair .bool .str)) x1 (.slice A2 x1.length c_2)] _ _ := h24
        obtain ⟨p9, H⟩ := guard_t H
        refine RJ.op rfl rfl (op_append ttok rfl 2 rfl h24 rfl (Gives.of 0 rfl own_rd) rfl rfl rfl rfl rfl rfl (by decide) (by decide) p9) ?_
        rintro _ w14 ⟨A7, c_7, rfl, h25⟩
        replace h25 : St w0 F0 [ownC 135 (.pair .str (.pair .bool .str)) (x1 ++ ([(a1.1, a1.2.1, a1.2.2)] : List (List UInt8 × Bool × List UInt8))) (.slice A7 (x1 ++ ([(a1.1, a1.2.1, a1.2.2)] : List (List UInt8 × Bool × List UInt8))).length c_7), ownC 135 (.pair .str (.pair .bool .str)) ([(a1.1, a1.2.1, a1.2.2)] : List (List UInt8 × Bool × List UInt8)) (.slice (some ⟨b7, 0, none⟩) ([(a1.1, a1.2.1, a1.2.2)] : List (List UInt8 × Bool × List UInt8)).length 1), boxC b1 135 [.string ⟨⟨a1.1⟩⟩, .bool a1.2.1, .string ⟨⟨a1.2.2⟩⟩]] _ _ := h25
        refine RJ.run ttok 1 rfl ?_
        refine RJ.fin [(5, .slice A7 (x1 ++ ([(a1.1, a1.2.1, a1.2.2)] : List (List UInt8 × Bool × List UInt8))).length c_7)] rfl ?_
        have h26 := h25.only [0] rfl
        replace h26 : St w0 F0 [ownC 135 (.pair .str (.pair .bool .str)) (x1 ++ ([(a1.1, a1.2.1, a1.2.2)] : List (List UInt8 × Bool × List UInt8))) (.slice A7 (x1 ++ ([(a1.1, a1.2.1, a1.2.2)] : List (List UInt8 × Bool × List UInt8))).length c_7)] _ _ := h26
        refine J.seq ?_
        refine J.region ?_
        refine RJ.run ttok 2 rfl ?_
        refine RJ.fin [(4, .slice A7 (x1 ++ ([(a1.1, a1.2.1, a1.2.2)] : List (List UInt8 × Bool × List UInt8))).length c_7)] rfl ?_
        refine J.ret ?_
        obtain rfl := Option.some.inj H
        exact ⟨_, _, _, (results_slots rfl), ⟨_, _, rfl, rfl⟩, h26.only [0] rfl⟩
      · replace H := ite_f c7 H
        refine J.skip ?_
        refine J.seq ?_
        refine J.region ?_
        refine RJ.run ttok 2 rfl ?_
        refine RJ.fin [(4, .slice A2 x1.length c_2)] rfl ?_
        refine J.ret ?_
        obtain rfl := Option.some.inj H
        exact ⟨_, _, _, (results_slots rfl), ⟨_, _, rfl, rfl⟩, h3.only [1] rfl⟩

/-! sluicegate/sluicegateref15.Pour -/
def sluicegateref15_Pour.l0 : Nat → (Int × Int × Int × Int × Int × Int × Int × Int) → (Int × List (Int) × List (List UInt8) × (List (List UInt8 × Bool × List UInt8)) × (List (List UInt8 × List UInt8))) → (Int) → (Int × List (Int) × List (List UInt8) × (List (List UInt8 × Bool × List UInt8)) × (List (List UInt8 × List UInt8))) → (Int) → (List (List UInt8 × Bool × List UInt8)) → (List (List UInt8 × List UInt8)) → (Int) → (List (List UInt8 × Bool × List UInt8)) → (Int) → Option ((Int × List (Int) × List (List UInt8) × (List (List UInt8 × Bool × List UInt8)) × (List (List UInt8 × List UInt8))) × (Int × List (Int) × List (List UInt8) × (List (List UInt8 × Bool × List UInt8)) × (List (List UInt8 × List UInt8))) × Int)
  | 0, _, _, _, _, _, _, _, _, _, _ => none
  | k + 1, a0, a1, a2, a3, a4, x1, x2, x3, x4, x5 => if (decide (x5 < (a1.2.2.2.1.length : Int))) = true then (if 0 ≤ x5 ∧ x5 < (a1.2.2.2.1.length : Int) then ((sluicegateref12_Way.f k a1.2.2.1 ((gt a1.2.2.2.1 x5).1)).bind fun r1 => (if (!decide (r1 = a2)) = true then (if (x4.length + ([((gt a1.2.2.2.1 x5).1, (gt a1.2.2.2.1 x5).2.1, (gt a1.2.2.2.1 x5).2.2)] : List (List UInt8 × Bool × List UInt8)).length) * 40 ≤ 140737488355328 then (sluicegateref15_Pour.l0 k a0 a1 a2 a3 a4 x1 x2 x3 (x4 ++ ([((gt a1.2.2.2.1 x5).1, (gt a1.2.2.2.1 x5).2.1, (gt a1.2.2.2.1 x5).2.2)] : List (List UInt8 × Bool × List UInt8))) (w64 (x5 + 1))) else none) else (if (decide (a4 ≤ x3)) = true then (if (x4.length + ([((gt a1.2.2.2.1 x5).1, (gt a1.2.2.2.1 x5).2.1, (gt a1.2.2.2.1 x5).2.2)] : List (List UInt8 × Bool × List UInt8)).length) * 40 ≤ 140737488355328 then (sluicegateref15_Pour.l0 k a0 a1 a2 a3 a4 x1 x2 x3 (x4 ++ ([((gt a1.2.2.2.1 x5).1, (gt a1.2.2.2.1 x5).2.1, (gt a1.2.2.2.1 x5).2.2)] : List (List UInt8 × Bool × List UInt8))) (w64 (x5 + 1))) else none) else (if (decide (0 < a3.1)) = true then (if (decide ((w64 (a0.2.2.2.2.1 - (a3.2.2.2.1.length : Int))) ≤ x3)) = true then (if (x4.length + ([((gt a1.2.2.2.1 x5).1, (gt a1.2.2.2.1 x5).2.1, (gt a1.2.2.2.1 x5).2.2)] : List (List UInt8 × Bool × List UInt8)).length) * 40 ≤ 140737488355328 then (sluicegateref15_Pour.l0 k a0 a1 a2 a3 a4 x1 x2 x3 (x4 ++ ([((gt a1.2.2.2.1 x5).1, (gt a1.2.2.2.1 x5).2.1, (gt a1.2.2.2.1 x5).2.2)] : List (List UInt8 × Bool × List UInt8))) (w64 (x5 + 1))) else none) else (if (decide (a3.1 = 0)) = true then ((sluicegateref11_Apply.f k x2 ([((gt a1.2.2.2.1 x5).1, (gt a1.2.2.2.1 x5).2.1, (gt a1.2.2.2.1 x5).2.2)] : List (List UInt8 × Bool × List UInt8))).bind fun r2 => (sluicegateref15_Pour.l0 k a0 a1 a2 a3 a4 x1 r2 (w64 (x3 + 1)) x4 (w64 (x5 + 1)))) else ((sluicegateref10_Put.f k x1 ((gt a1.2.2.2.1 x5).1, (gt a1.2.2.2.1 x5).2.1, (gt a1.2.2.2.1 x5).2.2)).bind fun r3 => (sluicegateref15_Pour.l0 k a0 a1 a2 a3 a4 r3 x2 (w64 (x3 + 1)) x4 (w64 (x5 + 1)))))) else (if (decide (a3.1 = 0)) = true then ((sluicegateref11_Apply.f k x2 ([((gt a1.2.2.2.1 x5).1, (gt a1.2.2.2.1 x5).2.1, (gt a1.2.2.2.1 x5).2.2)] : List (List UInt8 × Bool × List UInt8))).bind fun r4 => (sluicegateref15_Pour.l0 k a0 a1 a2 a3 a4 x1 r4 (w64 (x3 + 1)) x4 (w64 (x5 + 1)))) else ((sluicegateref10_Put.f k x1 ((gt a1.2.2.2.1 x5).1, (gt a1.2.2.2.1 x5).2.1, (gt a1.2.2.2.1 x5).2.2)).bind fun r5 => (sluicegateref15_Pour.l0 k a0 a1 a2 a3 a4 r5 x2 (w64 (x3 + 1)) x4 (w64 (x5 + 1))))))))) else none) else (some ((a1.1, a1.2.1, a1.2.2.1, x4, a1.2.2.2.2), (a3.1, a3.2.1, a3.2.2.1, x1, x2), x3))
def sluicegateref15_Pour.f (k : Nat) (a0 : Int × Int × Int × Int × Int × Int × Int × Int) (a1 : Int × List (Int) × List (List UInt8) × (List (List UInt8 × Bool × List UInt8)) × (List (List UInt8 × List UInt8))) (a2 : Int) (a3 : Int × List (Int) × List (List UInt8) × (List (List UInt8 × Bool × List UInt8)) × (List (List UInt8 × List UInt8))) (a4 : Int) : Option ((Int × List (Int) × List (List UInt8) × (List (List UInt8 × Bool × List UInt8)) × (List (List UInt8 × List UInt8))) × (Int × List (Int) × List (List UInt8) × (List (List UInt8 × Bool × List UInt8)) × (List (List UInt8 × List UInt8))) × Int) := if (decide (a2 < 0)) = true then (some ((a1.1, a1.2.1, a1.2.2.1, a1.2.2.2.1, a1.2.2.2.2), (a3.1, a3.2.1, a3.2.2.1, a3.2.2.2.1, a3.2.2.2.2), 0)) else (if (decide ((a1.2.1.length : Int) ≤ a2)) = true then (some ((a1.1, a1.2.1, a1.2.2.1, a1.2.2.2.1, a1.2.2.2.2), (a3.1, a3.2.1, a3.2.2.1, a3.2.2.2.1, a3.2.2.2.2), 0)) else (if (!decide (a1.1 = (w64 (a3.1 + 1)))) = true then (some ((a1.1, a1.2.1, a1.2.2.1, a1.2.2.2.1, a1.2.2.2.2), (a3.1, a3.2.1, a3.2.2.1, a3.2.2.2.1, a3.2.2.2.2), 0)) else (sluicegateref15_Pour.l0 k a0 a1 a2 a3 a4 a3.2.2.2.1 a3.2.2.2.2 0 ([] : List (List UInt8 × Bool × List UInt8)) 0)))
set_option maxRecDepth 20000 in
set_option maxHeartbeats 40000000 in
theorem sluicegateref15_Pour.spec {k : Nat} {a0 : Int × Int × Int × Int × Int × Int × Int × Int} {a1 : Int × List (Int) × List (List UInt8) × (List (List UInt8 × Bool × List UInt8)) × (List (List UInt8 × List UInt8))} {a2 : Int} {a3 : Int × List (Int) × List (List UInt8) × (List (List UInt8 × Bool × List UInt8)) × (List (List UInt8 × List UInt8))} {a4 : Int} {A1 : Option Addr} {c_1 : Nat} {A2 : Option Addr} {c_2 : Nat} {A3 : Option Addr} {c_3 : Nat} {A4 : Option Addr} {c_4 : Nat} {A5 : Option Addr} {c_5 : Nat} {A6 : Option Addr} {c_6 : Nat} {A7 : Option Addr} {c_7 : Nat} {A8 : Option Addr} {c_8 : Nat} {r : (Int × List (Int) × List (List UInt8) × (List (List UInt8 × Bool × List UInt8)) × (List (List UInt8 × List UInt8))) × (Int × List (Int) × List (List UInt8) × (List (List UInt8 × Bool × List UInt8)) × (List (List UInt8 × List UInt8))) × Int} (H : sluicegateref15_Pour.f k a0 a1 a2 a3 a4 = some r) :
    SpecA Try.prog 45 [.agg #[.int .i64 a0.1, .int .i64 a0.2.1, .int .i64 a0.2.2.1, .int .i64 a0.2.2.2.1, .int .i64 a0.2.2.2.2.1, .int .i64 a0.2.2.2.2.2.1, .int .i64 a0.2.2.2.2.2.2.1, .int .i64 a0.2.2.2.2.2.2.2], .agg #[.int .i64 a1.1, .slice A1 a1.2.1.length c_1, .slice A2 a1.2.2.1.length c_2, .slice A3 a1.2.2.2.1.length c_3, .slice A4 a1.2.2.2.2.length c_4], .int .i64 a2, .agg #[.int .i64 a3.1, .slice A5 a3.2.1.length c_5, .slice A6 a3.2.2.1.length c_6, .slice A7 a3.2.2.2.1.length c_7, .slice A8 a3.2.2.2.2.length c_8], .int .i64 a4] [] [rdC 23 (.int .u32) a1.2.1 (.slice A1 a1.2.1.length c_1), rdC 9 .str a1.2.2.1 (.slice A2 a1.2.2.1.length c_2), rdC 135 (.pair .str (.pair .bool .str)) a1.2.2.2.1 (.slice A3 a1.2.2.2.1.length c_3), rdC 75 (.pair .str .str) a1.2.2.2.2 (.slice A4 a1.2.2.2.2.length c_4), rdC 23 (.int .u32) a3.2.1 (.slice A5 a3.2.1.length c_5), rdC 9 .str a3.2.2.1 (.slice A6 a3.2.2.1.length c_6), rdC 135 (.pair .str (.pair .bool .str)) a3.2.2.2.1 (.slice A7 a3.2.2.2.1.length c_7), rdC 75 (.pair .str .str) a3.2.2.2.2 (.slice A8 a3.2.2.2.2.length c_8)] (fun v l lr => ∃ (A_0 : Option Addr) (c_0 : Nat) (A_1 : Option Addr) (c_1 : Nat) (A_2 : Option Addr) (c_2 : Nat) (A_3 : Option Addr) (c_3 : Nat) (A_4 : Option Addr) (c_4 : Nat) (A_5 : Option Addr) (c_5 : Nat) (A_6 : Option Addr) (c_6 : Nat) (A_7 : Option Addr) (c_7 : Nat), v = .tuple #[.agg #[.int .i64 r.1.1, .slice A_0 r.1.2.1.length c_0, .slice A_1 r.1.2.2.1.length c_1, .slice A_2 r.1.2.2.2.1.length c_2, .slice A_3 r.1.2.2.2.2.length c_3], .agg #[.int .i64 r.2.1.1, .slice A_4 r.2.1.2.1.length c_4, .slice A_5 r.2.1.2.2.1.length c_5, .slice A_6 r.2.1.2.2.2.1.length c_6, .slice A_7 r.2.1.2.2.2.2.length c_7], .int .i64 r.2.2] ∧ l = [] ∧ lr = [rdC 23 (.int .u32) r.1.2.1 (.slice A_0 r.1.2.1.length c_0), rdC 9 .str r.1.2.2.1 (.slice A_1 r.1.2.2.1.length c_1), rdC 135 (.pair .str (.pair .bool .str)) r.1.2.2.2.1 (.slice A_2 r.1.2.2.2.1.length c_2), rdC 75 (.pair .str .str) r.1.2.2.2.2 (.slice A_3 r.1.2.2.2.2.length c_3), rdC 23 (.int .u32) r.2.1.2.1 (.slice A_4 r.2.1.2.1.length c_4), rdC 9 .str r.2.1.2.2.1 (.slice A_5 r.2.1.2.2.1.length c_5), rdC 135 (.pair .str (.pair .bool .str)) r.2.1.2.2.2.1 (.slice A_6 r.2.1.2.2.2.1.length c_6), rdC 75 (.pair .str .str) r.2.1.2.2.2.2 (.slice A_7 r.2.1.2.2.2.2.length c_7)]) := by
  refine SpecA.enter Try.func45 rfl (by kernel_rfl) (by kernel_rfl) fun w0 F0 h0 => ?_
  unfold sluicegateref15_Pour.f at H
  refine J.seq ?_
  refine J.region ?_
  refine RJ.op rfl rfl (op_box rfl rfl h0) ?_
  rintro _ w1 ⟨b1, rfl, h1⟩
  replace h1 : St w0 F0 [boxC b1 61 [.int .i64 a0.1, .int .i64 a0.2.1, .int .i64 a0.2.2.1, .int .i64 a0.2.2.2.1, .int .i64 a0.2.2.2.2.1, .int .i64 a0.2.2.2.2.2.1, .int .i64 a0.2.2.2.2.2.2.1, .int .i64 a0.2.2.2.2.2.2.2]] _ _ := h1
  refine RJ.op rfl rfl (op_box rfl rfl h1) ?_
  rintro _ w2 ⟨b2, rfl, h2⟩
  replace h2 : St w0 F0 [boxC b2 86 [.int .i64 a1.1, .slice A1 a1.2.1.length c_1, .slice A2 a1.2.2.1.length c_2, .slice A3 a1.2.2.2.1.length c_3, .slice A4 a1.2.2.2.2.length c_4], boxC b1 61 [.int .i64 a0.1, .int .i64 a0.2.1, .int .i64 a0.2.2.1, .int .i64 a0.2.2.2.1, .int .i64 a0.2.2.2.2.1, .int .i64 a0.2.2.2.2.2.1, .int .i64 a0.2.2.2.2.2.2.1, .int .i64 a0.2.2.2.2.2.2.2]] _ _ := h2
  refine RJ.op rfl rfl (op_box rfl rfl h2) ?_
  rintro _ w3 ⟨b3, rfl, h3⟩
  replace h3 : St w0 F0 [boxC b3 86 [.int .i64 a3.1, .slice A5 a3.2.1.length c_5, .slice A6 a3.2.2.1.length c_6, .slice A7 a3.2.2.2.1.length c_7, .slice A8 a3.2.2.2.2.length c_8], boxC b2 86 [.int .i64 a1.1, .slice A1 a1.2.1.length c_1, .slice A2 a1.2.2.1.length c_2, .slice A3 a1.2.2.2.1.length c_3, .slice A4 a1.2.2.2.2.length c_4], boxC b1 61 [.int .i64 a0.1, .int .i64 a0.2.1, .int .i64 a0.2.2.1, .int .i64 a0.2.2.2.1, .int .i64 a0.2.2.2.2.1, .int .i64 a0.2.2.2.2.2.1, .int .i64 a0.2.2.2.2.2.2.1, .int .i64 a0.2.2.2.2.2.2.2]] _ _ := h3
  refine RJ.op rfl rfl (op_alloc ttok rfl rfl h3) ?_
  rintro _ w4 ⟨b4, rfl, h4⟩
  replace h4 : St w0 F0 [boxC b4 86 [.int .i64 0, .slice none ([] : List (Int)).length 0, .slice none ([] : List (List UInt8)).length 0, .slice none ([] : List (List UInt8 × Bool × List UInt8)).length 0, .slice none ([] : List (List UInt8 × List UInt8)).length 0], boxC b3 86 [.int .i64 a3.1, .slice A5 a3.2.1.length c_5, .slice A6 a3.2.2.1.length c_6, .slice A7 a3.2.2.2.1.length c_7, .slice A8 a3.2.2.2.2.length c_8], boxC b2 86 [.int .i64 a1.1, .slice A1 a1.2.1.length c_1, .slice A2 a1.2.2.1.length c_2, .slice A3 a1.2.2.2.1.length c_3, .slice A4 a1.2.2.2.2.length c_4], boxC b1 61 [.int .i64 a0.1, .int .i64 a0.2.1, .int .i64 a0.2.2.1, .int .i64 a0.2.2.2.1, .int .i64 a0.2.2.2.2.1, .int .i64 a0.2.2.2.2.2.1, .int .i64 a0.2.2.2.2.2.2.1, .int .i64 a0.2.2.2.2.2.2.2]] _ _ := h4
  refine RJ.op rfl rfl (op_alloc ttok rfl rfl h4) ?_
  rintro _ w5 ⟨b5, rfl, h5⟩
  replace h5 : St w0 F0 [boxC b5 86 [.int .i64 0, .slice none ([] : List (Int)).length 0, .slice none ([] : List (List UInt8)).length 0, .slice none ([] : List (List UInt8 × Bool × List UInt8)).length 0, .slice none ([] : List (List UInt8 × List UInt8)).length 0], boxC b4 86 [.int .i64 0, .slice none ([] : List (Int)).length 0, .slice none ([] : List (List UInt8)).length 0, .slice none ([] : List (List UInt8 × Bool × List UInt8)).length 0, .slice none ([] : List (List UInt8 × List UInt8)).length 0], boxC b3 86 [.int .i64 a3.1, .slice A5 a3.2.1.length c_5, .slice A6 a3.2.2.1.length c_6, .slice A7 a3.2.2.2.1.length c_7, .slice A8 a3.2.2.2.2.length c_8], boxC b2 86 [.int .i64 a1.1, .slice A1 a1.2.1.length c_1, .slice A2 a1.2.2.1.length c_2, .slice A3 a1.2.2.2.1.length c_3, .slice A4 a1.2.2.2.2.length c_4], boxC b1 61 [.int .i64 a0.1, .int .i64 a0.2.1, .int .i64 a0.2.2.1, .int .i64 a0.2.2.2.1, .int .i64 a0.2.2.2.2.1, .int .i64 a0.2.2.2.2.2.1, .int .i64 a0.2.2.2.2.2.2.1, .int .i64 a0.2.2.2.2.2.2.2]] _ _ := h5
  refine RJ.run ttok 1 rfl ?_
  refine RJ.fin [(2, .int .i64 a2), (4, .int .i64 a4), (5, .pointer (some ⟨b1, 0, none⟩)), (6, .pointer (some ⟨b2, 0, none⟩)), (8, .pointer (some ⟨b3, 0, none⟩)), (10, .pointer (some ⟨b4, 0, none⟩)), (11, .pointer (some ⟨b5, 0, none⟩))] rfl ?_
  refine J.seq ?_
  refine J.seq ?_
  refine J.region ?_
  refine RJ.run ttok 3 rfl ?_
  rcases Bool.eq_false_or_eq_true (decide (a2 < 0)) with c1 | c1
  · replace H := ite_t c1 H
    refine RJ.know (t := 20) rfl (congrArg Value.bool c1) ?_
    refine RJ.run ttok 14 rfl ?_
    refine RJ.fin [(2, .int .i64 a2), (4, .int .i64 a4), (5, .pointer (some ⟨b1, 0, none⟩)), (6, .pointer (some ⟨b2, 0, none⟩)), (8, .pointer (some ⟨b3, 0, none⟩)), (10, .pointer (some ⟨b4, 0, none⟩)), (11, .pointer (some ⟨b5, 0, none⟩)), (34, .bool true)] rfl ?_
    refine J.condT rfl ?_
    refine J.seq ?_
    refine J.heldSt mix (h5.only [2, 2, 2] rfl) ?_
    have h6 := h5.drew
    refine HJ.q (i := 0) rfl rfl rfl rfl rfl rfl (q_load_box ttok 1 (fun w e => e) rfl rfl rfl rfl rfl) ?_
    refine HJ.q (i := 1) rfl rfl rfl rfl rfl rfl (q_load_box ttok 0 (fun w e => e) rfl rfl rfl rfl rfl) ?_
    refine HJ.op (i := 2) rfl rfl rfl rfl rfl (op_store ttok 1 rfl h6 rfl rfl rfl rfl rfl rfl rfl) ?_
    intro _ w6 h7
    replace h7 : St w0 F0 [boxC b4 86 [.int .i64 a1.1, .slice A1 a1.2.1.length c_1, .slice A2 a1.2.2.1.length c_2, .slice A3 a1.2.2.2.1.length c_3, .slice A4 a1.2.2.2.2.length c_4], boxC b5 86 [.int .i64 0, .slice none ([] : List (Int)).length 0, .slice none ([] : List (List UInt8)).length 0, .slice none ([] : List (List UInt8 × Bool × List UInt8)).length 0, .slice none ([] : List (List UInt8 × List UInt8)).length 0], boxC b3 86 [.int .i64 a3.1, .slice A5 a3.2.1.length c_5, .slice A6 a3.2.2.1.length c_6, .slice A7 a3.2.2.2.1.length c_7, .slice A8 a3.2.2.2.2.length c_8], boxC b2 86 [.int .i64 a1.1, .slice A1 a1.2.1.length c_1, .slice A2 a1.2.2.1.length c_2, .slice A3 a1.2.2.2.1.length c_3, .slice A4 a1.2.2.2.2.length c_4], boxC b1 61 [.int .i64 a0.1, .int .i64 a0.2.1, .int .i64 a0.2.2.1, .int .i64 a0.2.2.2.1, .int .i64 a0.2.2.2.2.1, .int .i64 a0.2.2.2.2.2.1, .int .i64 a0.2.2.2.2.2.2.1, .int .i64 a0.2.2.2.2.2.2.2]] _ _ := h7
    refine ⟨⟨[_, _], h7⟩, ?_⟩
    refine HJ.op (i := 3) rfl rfl rfl rfl rfl (op_store ttok 1 rfl h7 rfl rfl rfl rfl rfl rfl rfl) ?_
    intro _ w7 h8
    replace h8 : St w0 F0 [boxC b5 86 [.int .i64 a3.1, .slice A5 a3.2.1.length c_5, .slice A6 a3.2.2.1.length c_6, .slice A7 a3.2.2.2.1.length c_7, .slice A8 a3.2.2.2.2.length c_8], boxC b4 86 [.int .i64 a1.1, .slice A1 a1.2.1.length c_1, .slice A2 a1.2.2.1.length c_2, .slice A3 a1.2.2.2.1.length c_3, .slice A4 a1.2.2.2.2.length c_4], boxC b3 86 [.int .i64 a3.1, .slice A5 a3.2.1.length c_5, .slice A6 a3.2.2.1.length c_6, .slice A7 a3.2.2.2.1.length c_7, .slice A8 a3.2.2.2.2.length c_8], boxC b2 86 [.int .i64 a1.1, .slice A1 a1.2.1.length c_1, .slice A2 a1.2.2.1.length c_2, .slice A3 a1.2.2.2.1.length c_3, .slice A4 a1.2.2.2.2.length c_4], boxC b1 61 [.int .i64 a0.1, .int .i64 a0.2.1, .int .i64 a0.2.2.1, .int .i64 a0.2.2.2.1, .int .i64 a0.2.2.2.2.1, .int .i64 a0.2.2.2.2.2.1, .int .i64 a0.2.2.2.2.2.2.1, .int .i64 a0.2.2.2.2.2.2.2]] _ _ := h8
    refine ⟨⟨[_, _], h8⟩, ?_⟩
    refine HJ.run ttok rfl [4] rfl ?_
    refine HJ.fin [(10, .pointer (some ⟨b4, 0, none⟩)), (11, .pointer (some ⟨b5, 0, none⟩)), (12, .int .i64 0)] rfl rfl ?_
    have h9 := h8.only [0, 0] rfl
    replace h9 : St w0 F0 [boxC b5 86 [.int .i64 a3.1, .slice A5 a3.2.1.length c_5, .slice A6 a3.2.2.1.length c_6, .slice A7 a3.2.2.2.1.length c_7, .slice A8 a3.2.2.2.2.length c_8], boxC b4 86 [.int .i64 a1.1, .slice A1 a1.2.1.length c_1, .slice A2 a1.2.2.1.length c_2, .slice A3 a1.2.2.2.1.length c_3, .slice A4 a1.2.2.2.2.length c_4]] _ _ := h9
    refine J.ret ?_
    obtain rfl := Option.some.inj H
    exact ⟨_, _, _, (results_two rfl (rvcons (RV.cell ttok 1 h9 rfl rfl rfl rfl) (rvcons (RV.cell ttok 0 h9 rfl rfl rfl rfl) (rvcons (RV.tmp rfl) rvnil))) rfl), ⟨_, _, _, _, _, _, _, _, _, _, _, _, _, _, _, _, rfl, rfl, rfl⟩, (h9.only [] rfl).rds [0, 1, 2, 3, 4, 5, 6, 7] rfl⟩
  · replace H := ite_f c1 H
    refine RJ.know (t := 20) rfl (congrArg Value.bool c1) ?_
    refine RJ.run ttok 2 rfl ?_
    refine RJ.q rfl rfl (q_load_box ttok 3 (fun w e => e ▸ h5.wh) rfl rfl rfl rfl rfl) ?_
    refine RJ.run ttok 4 rfl ?_
    rcases Bool.eq_false_or_eq_true (decide ((a1.2.1.length : Int) ≤ a2)) with c2 | c2
    · replace H := ite_t c2 H
      refine RJ.know (t := 27) rfl (congrArg Value.bool c2) ?_
      refine RJ.run ttok 7 rfl ?_
      refine RJ.fin [(2, .int .i64 a2), (4, .int .i64 a4), (5, .pointer (some ⟨b1, 0, none⟩)), (6, .pointer (some ⟨b2, 0, none⟩)), (8, .pointer (some ⟨b3, 0, none⟩)), (10, .pointer (some ⟨b4, 0, none⟩)), (11, .pointer (some ⟨b5, 0, none⟩)), (34, .bool true)] rfl ?_
      refine J.condT rfl ?_
      refine J.seq ?_
      refine J.heldSt mix (h5.only [2, 2, 2] rfl) ?_
      have h10 := h5.drew
      refine HJ.q (i := 0) rfl rfl rfl rfl rfl rfl (q_load_box ttok 1 (fun w e => e) rfl rfl rfl rfl rfl) ?_
      refine HJ.q (i := 1) rfl rfl rfl rfl rfl rfl (q_load_box ttok 0 (fun w e => e) rfl rfl rfl rfl rfl) ?_
      refine HJ.op (i := 2) rfl rfl rfl rfl rfl (op_store ttok 1 rfl h10 rfl rfl rfl rfl rfl rfl rfl) ?_
      intro _ w8 h11
      replace h11 : St w0 F0 [boxC b4 86 [.int .i64 a1.1, .slice A1 a1.2.1.length c_1, .slice A2 a1.2.2.1.length c_2, .slice A3 a1.2.2.2.1.length c_3, .slice A4 a1.2.2.2.2.length c_4], boxC b5 86 [.int .i64 0, .slice none ([] : List (Int)).length 0, .slice none ([] : List (List UInt8)).length 0, .slice none ([] : List (List UInt8 × Bool × List UInt8)).length 0, .slice none ([] : List (List UInt8 × List UInt8)).length 0], boxC b3 86 [.int .i64 a3.1, .slice A5 a3.2.1.length c_5, .slice A6 a3.2.2.1.length c_6, .slice A7 a3.2.2.2.1.length c_7, .slice A8 a3.2.2.2.2.length c_8], boxC b2 86 [.int .i64 a1.1, .slice A1 a1.2.1.length c_1, .slice A2 a1.2.2.1.length c_2, .slice A3 a1.2.2.2.1.length c_3, .slice A4 a1.2.2.2.2.length c_4], boxC b1 61 [.int .i64 a0.1, .int .i64 a0.2.1, .int .i64 a0.2.2.1, .int .i64 a0.2.2.2.1, .int .i64 a0.2.2.2.2.1, .int .i64 a0.2.2.2.2.2.1, .int .i64 a0.2.2.2.2.2.2.1, .int .i64 a0.2.2.2.2.2.2.2]] _ _ := h11
      refine ⟨⟨[_, _], h11⟩, ?_⟩
      refine HJ.op (i := 3) rfl rfl rfl rfl rfl (op_store ttok 1 rfl h11 rfl rfl rfl rfl rfl rfl rfl) ?_
      intro _ w9 h12
      replace h12 : St w0 F0 [boxC b5 86 [.int .i64 a3.1, .slice A5 a3.2.1.length c_5, .slice A6 a3.2.2.1.length c_6, .slice A7 a3.2.2.2.1.length c_7, .slice A8 a3.2.2.2.2.length c_8], boxC b4 86 [.int .i64 a1.1, .slice A1 a1.2.1.length c_1, .slice A2 a1.2.2.1.length c_2, .slice A3 a1.2.2.2.1.length c_3, .slice A4 a1.2.2.2.2.length c_4], boxC b3 86 [.int .i64 a3.1, .slice A5 a3.2.1.length c_5, .slice A6 a3.2.2.1.length c_6, .slice A7 a3.2.2.2.1.length c_7, .slice A8 a3.2.2.2.2.length c_8], boxC b2 86 [.int .i64 a1.1, .slice A1 a1.2.1.length c_1, .slice A2 a1.2.2.1.length c_2, .slice A3 a1.2.2.2.1.length c_3, .slice A4 a1.2.2.2.2.length c_4], boxC b1 61 [.int .i64 a0.1, .int .i64 a0.2.1, .int .i64 a0.2.2.1, .int .i64 a0.2.2.2.1, .int .i64 a0.2.2.2.2.1, .int .i64 a0.2.2.2.2.2.1, .int .i64 a0.2.2.2.2.2.2.1, .int .i64 a0.2.2.2.2.2.2.2]] _ _ := h12
      refine ⟨⟨[_, _], h12⟩, ?_⟩
      refine HJ.run ttok rfl [4] rfl ?_
      refine HJ.fin [(10, .pointer (some ⟨b4, 0, none⟩)), (11, .pointer (some ⟨b5, 0, none⟩)), (12, .int .i64 0)] rfl rfl ?_
      have h13 := h12.only [0, 0] rfl
      replace h13 : St w0 F0 [boxC b5 86 [.int .i64 a3.1, .slice A5 a3.2.1.length c_5, .slice A6 a3.2.2.1.length c_6, .slice A7 a3.2.2.2.1.length c_7, .slice A8 a3.2.2.2.2.length c_8], boxC b4 86 [.int .i64 a1.1, .slice A1 a1.2.1.length c_1, .slice A2 a1.2.2.1.length c_2, .slice A3 a1.2.2.2.1.length c_3, .slice A4 a1.2.2.2.2.length c_4]] _ _ := h13
      refine J.ret ?_
      obtain rfl := Option.some.inj H
      exact ⟨_, _, _, (results_two rfl (rvcons (RV.cell ttok 1 h13 rfl rfl rfl rfl) (rvcons (RV.cell ttok 0 h13 rfl rfl rfl rfl) (rvcons (RV.tmp rfl) rvnil))) rfl), ⟨_, _, _, _, _, _, _, _, _, _, _, _, _, _, _, _, rfl, rfl, rfl⟩, (h13.only [] rfl).rds [0, 1, 2, 3, 4, 5, 6, 7] rfl⟩
    · replace H := ite_f c2 H
      refine RJ.know (t := 27) rfl (congrArg Value.bool c2) ?_
      refine RJ.run ttok 1 rfl ?_
      refine RJ.q rfl rfl (q_load_box ttok 3 (fun w e => e ▸ h5.wh) rfl rfl rfl rfl rfl) ?_
      refine RJ.run ttok 1 rfl ?_
      refine RJ.q rfl rfl (q_load_box ttok 2 (fun w e => e ▸ h5.wh) rfl rfl rfl rfl rfl) ?_
      refine RJ.run ttok 3 rfl ?_
      refine RJ.fin [(2, .int .i64 a2), (4, .int .i64 a4), (5, .pointer (some ⟨b1, 0, none⟩)), (6, .pointer (some ⟨b2, 0, none⟩)), (8, .pointer (some ⟨b3, 0, none⟩)), (10, .pointer (some ⟨b4, 0, none⟩)), (11, .pointer (some ⟨b5, 0, none⟩)), (34, .bool (!decide (a1.1 = (w64 (a3.1 + 1)))))] rfl ?_
      refine J.cond rfl (fun c3 => ?_) (fun c3 => ?_)
      · replace H := ite_t c3 H
        refine J.seq ?_
        refine J.heldSt mix (h5.only [2, 2, 2] rfl) ?_
        have h14 := h5.drew
        refine HJ.q (i := 0) rfl rfl rfl rfl rfl rfl (q_load_box ttok 1 (fun w e => e) rfl rfl rfl rfl rfl) ?_
        refine HJ.q (i := 1) rfl rfl rfl rfl rfl rfl (q_load_box ttok 0 (fun w e => e) rfl rfl rfl rfl rfl) ?_
        refine HJ.op (i := 2) rfl rfl rfl rfl rfl (op_store ttok 1 rfl h14 rfl rfl rfl rfl rfl rfl rfl) ?_
        intro _ w10 h15
        replace h15 : St w0 F0 [boxC b4 86 [.int .i64 a1.1, .slice A1 a1.2.1.length c_1, .slice A2 a1.2.2.1.length c_2, .slice A3 a1.2.2.2.1.length c_3, .slice A4 a1.2.2.2.2.length c_4], boxC b5 86 [.int .i64 0, .slice none ([] : List (Int)).length 0, .slice none ([] : List (List UInt8)).length 0, .slice none ([] : List (List UInt8 × Bool × List UInt8)).length 0, .slice none ([] : List (List UInt8 × List UInt8)).length 0], boxC b3 86 [.int .i64 a3.1, .slice A5 a3.2.1.length c_5, .slice A6 a3.2.2.1.length c_6, .slice A7 a3.2.2.2.1.length c_7, .slice A8 a3.2.2.2.2.length c_8], boxC b2 86 [.int .i64 a1.1, .slice A1 a1.2.1.length c_1, .slice A2 a1.2.2.1.length c_2, .slice A3 a1.2.2.2.1.length c_3, .slice A4 a1.2.2.2.2.length c_4], boxC b1 61 [.int .i64 a0.1, .int .i64 a0.2.1, .int .i64 a0.2.2.1, .int .i64 a0.2.2.2.1, .int .i64 a0.2.2.2.2.1, .int .i64 a0.2.2.2.2.2.1, .int .i64 a0.2.2.2.2.2.2.1, .int .i64 a0.2.2.2.2.2.2.2]] _ _ := h15
        refine ⟨⟨[_, _], h15⟩, ?_⟩
        refine HJ.op (i := 3) rfl rfl rfl rfl rfl (op_store ttok 1 rfl h15 rfl rfl rfl rfl rfl rfl rfl) ?_
        intro _ w11 h16
        replace h16 : St w0 F0 [boxC b5 86 [.int .i64 a3.1, .slice A5 a3.2.1.length c_5, .slice A6 a3.2.2.1.length c_6, .slice A7 a3.2.2.2.1.length c_7, .slice A8 a3.2.2.2.2.length c_8], boxC b4 86 [.int .i64 a1.1, .slice A1 a1.2.1.length c_1, .slice A2 a1.2.2.1.length c_2, .slice A3 a1.2.2.2.1.length c_3, .slice A4 a1.2.2.2.2.length c_4], boxC b3 86 [.int .i64 a3.1, .slice A5 a3.2.1.length c_5, .slice A6 a3.2.2.1.length c_6, .slice A7 a3.2.2.2.1.length c_7, .slice A8 a3.2.2.2.2.length c_8], boxC b2 86 [.int .i64 a1.1, .slice A1 a1.2.1.length c_1, .slice A2 a1.2.2.1.length c_2, .slice A3 a1.2.2.2.1.length c_3, .slice A4 a1.2.2.2.2.length c_4], boxC b1 61 [.int .i64 a0.1, .int .i64 a0.2.1, .int .i64 a0.2.2.1, .int .i64 a0.2.2.2.1, .int .i64 a0.2.2.2.2.1, .int .i64 a0.2.2.2.2.2.1, .int .i64 a0.2.2.2.2.2.2.1, .int .i64 a0.2.2.2.2.2.2.2]] _ _ := h16
        refine ⟨⟨[_, _], h16⟩, ?_⟩
        refine HJ.run ttok rfl [4] rfl ?_
        refine HJ.fin [(10, .pointer (some ⟨b4, 0, none⟩)), (11, .pointer (some ⟨b5, 0, none⟩)), (12, .int .i64 0)] rfl rfl ?_
        have h17 := h16.only [0, 0] rfl
        replace h17 : St w0 F0 [boxC b5 86 [.int .i64 a3.1, .slice A5 a3.2.1.length c_5, .slice A6 a3.2.2.1.length c_6, .slice A7 a3.2.2.2.1.length c_7, .slice A8 a3.2.2.2.2.length c_8], boxC b4 86 [.int .i64 a1.1, .slice A1 a1.2.1.length c_1, .slice A2 a1.2.2.1.length c_2, .slice A3 a1.2.2.2.1.length c_3, .slice A4 a1.2.2.2.2.length c_4]] _ _ := h17
        refine J.ret ?_
        obtain rfl := Option.some.inj H
        exact ⟨_, _, _, (results_two rfl (rvcons (RV.cell ttok 1 h17 rfl rfl rfl rfl) (rvcons (RV.cell ttok 0 h17 rfl rfl rfl rfl) (rvcons (RV.tmp rfl) rvnil))) rfl), ⟨_, _, _, _, _, _, _, _, _, _, _, _, _, _, _, _, rfl, rfl, rfl⟩, (h17.only [] rfl).rds [0, 1, 2, 3, 4, 5, 6, 7] rfl⟩
      · replace H := ite_f c3 H
        refine J.skip ?_
        refine J.seq ?_
        refine J.region ?_
        refine RJ.run ttok 1 rfl ?_
        refine RJ.q rfl rfl (q_load_box ttok 4 (fun w e => e ▸ h5.wh) rfl rfl rfl rfl rfl) ?_
        refine RJ.run ttok 1 rfl ?_
        refine RJ.q rfl rfl (q_load_box ttok 2 (fun w e => e ▸ h5.wh) rfl rfl rfl rfl rfl) ?_
        refine RJ.run ttok 3 rfl ?_
        refine RJ.fin [(2, .int .i64 a2), (4, .int .i64 a4), (6, .pointer (some ⟨b2, 0, none⟩)), (8, .pointer (some ⟨b3, 0, none⟩)), (10, .pointer (some ⟨b4, 0, none⟩)), (11, .pointer (some ⟨b5, 0, none⟩)), (13, .int .i64 (w64 (a0.2.2.2.2.1 - (a3.2.2.2.1.length : Int))))] rfl ?_
        refine J.seq ?_
        refine J.region ?_
        refine RJ.run ttok 1 rfl ?_
        refine RJ.fin [(2, .int .i64 a2), (4, .int .i64 a4), (6, .pointer (some ⟨b2, 0, none⟩)), (8, .pointer (some ⟨b3, 0, none⟩)), (10, .pointer (some ⟨b4, 0, none⟩)), (11, .pointer (some ⟨b5, 0, none⟩)), (13, .int .i64 (w64 (a0.2.2.2.2.1 - (a3.2.2.2.1.length : Int)))), (14, .int .i64 0)] rfl ?_
        refine J.seq ?_
        refine J.region ?_
        refine RJ.op rfl rfl (op_lit ttok (.pair .str (.pair .bool .str)) rfl ([] : List (List UInt8 × Bool × List UInt8)) rfl h5 rfl rfl (by decide) rfl rfl rfl rfl rfl rfl rfl) ?_
        rintro _ w12 ⟨b6, rfl, h18⟩
        replace h18 : St w0 F0 [ownC 135 (.pair .str (.pair .bool .str)) ([] : List (List UInt8 × Bool × List UInt8)) (.slice (some ⟨b6, 0, none⟩) ([] : List (List UInt8 × Bool × List UInt8)).length 0), boxC b5 86 [.int .i64 0, .slice none ([] : List (Int)).length 0, .slice none ([] : List (List UInt8)).length 0, .slice none ([] : List (List UInt8 × Bool × List UInt8)).length 0, .slice none ([] : List (List UInt8 × List UInt8)).length 0], boxC b4 86 [.int .i64 0, .slice none ([] : List (Int)).length 0, .slice none ([] : List (List UInt8)).length 0, .slice none ([] : List (List UInt8 × Bool × List UInt8)).length 0, .slice none ([] : List (List UInt8 × List UInt8)).length 0], boxC b3 86 [.int .i64 a3.1, .slice A5 a3.2.1.length c_5, .slice A6 a3.2.2.1.length c_6, .slice A7 a3.2.2.2.1.length c_7, .slice A8 a3.2.2.2.2.length c_8], boxC b2 86 [.int .i64 a1.1, .slice A1 a1.2.1.length c_1, .slice A2 a1.2.2.1.length c_2, .slice A3 a1.2.2.2.1.length c_3, .slice A4 a1.2.2.2.2.length c_4], boxC b1 61 [.int .i64 a0.1, .int .i64 a0.2.1, .int .i64 a0.2.2.1, .int .i64 a0.2.2.2.1, .int .i64 a0.2.2.2.2.1, .int .i64 a0.2.2.2.2.2.1, .int .i64 a0.2.2.2.2.2.2.1, .int .i64 a0.2.2.2.2.2.2.2]] _ _ := h18
        refine RJ.run ttok 1 rfl ?_
        refine RJ.fin [(2, .int .i64 a2), (4, .int .i64 a4), (6, .pointer (some ⟨b2, 0, none⟩)), (8, .pointer (some ⟨b3, 0, none⟩)), (10, .pointer (some ⟨b4, 0, none⟩)), (11, .pointer (some ⟨b5, 0, none⟩)), (13, .int .i64 (w64 (a0.2.2.2.2.1 - (a3.2.2.2.1.length : Int)))), (14, .int .i64 0), (15, .slice (some ⟨b6, 0, none⟩) ([] : List (List UInt8 × Bool × List UInt8)).length 0)] rfl ?_
        refine J.seq ?_
        refine J.seq ?_
        refine J.region ?_
        refine RJ.run ttok 1 rfl ?_
        refine RJ.fin [(2, .int .i64 a2), (4, .int .i64 a4), (6, .pointer (some ⟨b2, 0, none⟩)), (8, .pointer (some ⟨b3, 0, none⟩)), (10, .pointer (some ⟨b4, 0, none⟩)), (11, .pointer (some ⟨b5, 0, none⟩)), (13, .int .i64 (w64 (a0.2.2.2.2.1 - (a3.2.2.2.1.length : Int)))), (14, .int .i64 0), (15, .slice (some ⟨b6, 0, none⟩) ([] : List (List UInt8 × Bool × List UInt8)).length 0), (16, .int .i64 0)] rfl ?_
        refine J.block ?_
        have h59 := ((h18.only [4, 3, 2, 1, 0] rfl).rds [0, 1, 2, 3, 4, 5, 6, 7] rfl)
        refine J.loop (fun k env w => ∃ (x1 : List (List UInt8 × Bool × List UInt8)) (A9 : Option Addr) (c_9 : Nat) (x2 : List (List UInt8 × List UInt8)) (A10 : Option Addr) (c_10 : Nat) (x3 : Int) (x4 : List (List UInt8 × Bool × List UInt8)) (A11 : Option Addr) (c_11 : Nat) (x5 : Int), env = [(2, .int .i64 a2), (4, .int .i64 a4), (6, .pointer (some ⟨b2, 0, none⟩)), (8, .pointer (some ⟨b3, 0, none⟩)), (10, .pointer (some ⟨b4, 0, none⟩)), (11, .pointer (some ⟨b5, 0, none⟩)), (13, .int .i64 (w64 (a0.2.2.2.2.1 - (a3.2.2.2.1.length : Int)))), (14, .int .i64 x3), (15, .slice A11 x4.length c_11), (16, .int .i64 x5)] ∧ St w0 F0 [boxC b2 86 [.int .i64 a1.1, .slice A1 a1.2.1.length c_1, .slice A2 a1.2.2.1.length c_2, .slice A3 a1.2.2.2.1.length c_3, .slice A4 a1.2.2.2.2.length c_4], boxC b3 86 [.int .i64 a3.1, .slice A5 a3.2.1.length c_5, .slice A6 a3.2.2.1.length c_6, .slice A9 x1.length c_9, .slice A10 x2.length c_10], boxC b4 86 [.int .i64 0, .slice none ([] : List (Int)).length 0, .slice none ([] : List (List UInt8)).length 0, .slice none ([] : List (List UInt8 × Bool × List UInt8)).length 0, .slice none ([] : List (List UInt8 × List UInt8)).length 0], boxC b5 86 [.int .i64 0, .slice none ([] : List (Int)).length 0, .slice none ([] : List (List UInt8)).length 0, .slice none ([] : List (List UInt8 × Bool × List UInt8)).length 0, .slice none ([] : List (List UInt8 × List UInt8)).length 0], ownC 135 (.pair .str (.pair .bool .str)) x4 (.slice A11 x4.length c_11)] [rdC 23 (.int .u32) a1.2.1 (.slice A1 a1.2.1.length c_1), rdC 9 .str a1.2.2.1 (.slice A2 a1.2.2.1.length c_2), rdC 135 (.pair .str (.pair .bool .str)) a1.2.2.2.1 (.slice A3 a1.2.2.2.1.length c_3), rdC 75 (.pair .str .str) a1.2.2.2.2 (.slice A4 a1.2.2.2.2.length c_4), rdC 23 (.int .u32) a3.2.1 (.slice A5 a3.2.1.length c_5), rdC 9 .str a3.2.2.1 (.slice A6 a3.2.2.1.length c_6), rdC 135 (.pair .str (.pair .bool .str)) x1 (.slice A9 x1.length c_9), rdC 75 (.pair .str .str) x2 (.slice A10 x2.length c_10)] w ∧ sluicegateref15_Pour.l0 k a0 a1 a2 a3 a4 x1 x2 x3 x4 x5 = some r) (k := k) ⟨a3.2.2.2.1, A7, c_7, a3.2.2.2.2, A8, c_8, 0, ([] : List (List UInt8 × Bool × List UInt8)), (some ⟨b6, 0, none⟩), 0, 0, rfl, h59, H⟩ ?_
        rintro k1 env w13 ⟨x1, A9, c_9, x2, A10, c_10, x3, x4, A11, c_11, x5, rfl, h19, H⟩
        cases k1 with
        | zero => exact nomatch (show none = some r from H)
        | succ k1 =>
          rw [sluicegateref15_Pour.l0] at H
          refine J.seq ?_
          refine J.seq ?_
          refine J.region ?_
          refine RJ.run ttok 2 rfl ?_
          refine RJ.q rfl rfl (q_load_box ttok 0 (fun w e => e ▸ h19.wh) rfl rfl rfl rfl rfl) ?_
          refine RJ.run ttok 2 rfl ?_
          refine RJ.fin [(2, .int .i64 a2), (4, .int .i64 a4), (6, .pointer (some ⟨b2, 0, none⟩)), (8, .pointer (some ⟨b3, 0, none⟩)), (10, .pointer (some ⟨b4, 0, none⟩)), (11, .pointer (some ⟨b5, 0, none⟩)), (13, .int .i64 (w64 (a0.2.2.2.2.1 - (a3.2.2.2.1.length : Int)))), (14, .int .i64 x3), (15, .slice A11 x4.length c_11), (16, .int .i64 x5), (48, .bool (decide (x5 < (a1.2.2.2.1.length : Int))))] rfl ?_
          refine J.cond rfl (fun c4 => ?_) (fun c4 => ?_)
          · replace H := ite_t c4 H
            refine J.skip ?_
            refine J.seq ?_
            refine J.block ?_
            refine J.seq ?_
            refine J.region ?_
            refine RJ.run ttok 1 rfl ?_
            refine RJ.q rfl rfl (q_load_box ttok 0 (fun w e => e ▸ h19.wh) rfl rfl rfl rfl rfl) ?_
            refine RJ.run ttok 1 rfl ?_
            obtain ⟨⟨p1, p2⟩, H⟩ := guard_t H
            have e1 := elem_A h19.wh (Gives.self 7 rfl) p1 p2
            refine RJ.q rfl rfl (q_index ttok rfl rfl rfl rfl rfl e1 p1 p2) ?_
            refine RJ.q rfl rfl (q_load_elem (f := 0) ttok rfl (fun w e => e ▸ h19.wh) (Gives.self 7 rfl) p1 p2 rfl rfl rfl rfl rfl) ?_
            refine RJ.op rfl rfl (op_alloc ttok rfl rfl h19) ?_
            rintro _ w14 ⟨b7, rfl, h20⟩
            replace h20 : St w0 F0 [boxC b7 135 [.string ⟨⟨([] : List UInt8)⟩⟩, .bool false, .string ⟨⟨([] : List UInt8)⟩⟩], boxC b2 86 [.int .i64 a1.1, .slice A1 a1.2.1.length c_1, .slice A2 a1.2.2.1.length c_2, .slice A3 a1.2.2.2.1.length c_3, .slice A4 a1.2.2.2.2.length c_4], boxC b3 86 [.int .i64 a3.1, .slice A5 a3.2.1.length c_5, .slice A6 a3.2.2.1.length c_6, .slice A9 x1.length c_9, .slice A10 x2.length c_10], boxC b4 86 [.int .i64 0, .slice none ([] : List (Int)).length 0, .slice none ([] : List (List UInt8)).length 0, .slice none ([] : List (List UInt8 × Bool × List UInt8)).length 0, .slice none ([] : List (List UInt8 × List UInt8)).length 0], boxC b5 86 [.int .i64 0, .slice none ([] : List (Int)).length 0, .slice none ([] : List (List UInt8)).length 0, .slice none ([] : List (List UInt8 × Bool × List UInt8)).length 0, .slice none ([] : List (List UInt8 × List UInt8)).length 0], ownC 135 (.pair .str (.pair .bool .str)) x4 (.slice A11 x4.length c_11)] _ _ := h20
            refine RJ.op rfl rfl (op_store ttok 0 rfl h20 rfl rfl rfl rfl rfl rfl rfl) ?_
            intro _ w15 h21
            replace h21 : St w0 F0 [boxC b7 135 [.string ⟨⟨(gt a1.2.2.2.1 x5).1⟩⟩, .bool ((gt a1.2.2.2.1 x5).2.1), .string ⟨⟨(gt a1.2.2.2.1 x5).2.2⟩⟩], boxC b2 86 [.int .i64 a1.1, .slice A1 a1.2.1.length c_1, .slice A2 a1.2.2.1.length c_2, .slice A3 a1.2.2.2.1.length c_3, .slice A4 a1.2.2.2.2.length c_4], boxC b3 86 [.int .i64 a3.1, .slice A5 a3.2.1.length c_5, .slice A6 a3.2.2.1.length c_6, .slice A9 x1.length c_9, .slice A10 x2.length c_10], boxC b4 86 [.int .i64 0, .slice none ([] : List (Int)).length 0, .slice none ([] : List (List UInt8)).length 0, .slice none ([] : List (List UInt8 × Bool × List UInt8)).length 0, .slice none ([] : List (List UInt8 × List UInt8)).length 0], boxC b5 86 [.int .i64 0, .slice none ([] : List (Int)).length 0, .slice none ([] : List (List UInt8)).length 0, .slice none ([] : List (List UInt8 × Bool × List UInt8)).length 0, .slice none ([] : List (List UInt8 × List UInt8)).length 0], ownC 135 (.pair .str (.pair .bool .str)) x4 (.slice A11 x4.length c_11)] _ _ := h21
            refine RJ.fin [(2, .int .i64 a2), (4, .int .i64 a4), (6, .pointer (some ⟨b2, 0, none⟩)), (8, .pointer (some ⟨b3, 0, none⟩)), (10, .pointer (some ⟨b4, 0, none⟩)), (11, .pointer (some ⟨b5, 0, none⟩)), (13, .int .i64 (w64 (a0.2.2.2.2.1 - (a3.2.2.2.1.length : Int)))), (14, .int .i64 x3), (15, .slice A11 x4.length c_11), (16, .int .i64 x5), (17, .pointer (some ⟨b7, 0, none⟩))] rfl ?_
            refine J.seq ?_
            refine J.seq ?_
            refine J.region ?_
            refine RJ.run ttok 1 rfl ?_
            refine RJ.q rfl rfl (q_load_box ttok 1 (fun w e => e ▸ h21.wh) rfl rfl rfl rfl rfl) ?_
            refine RJ.run ttok 1 rfl ?_
            refine RJ.q rfl rfl (q_load_box ttok 0 (fun w e => e ▸ h21.wh) rfl rfl rfl rfl rfl) ?_
            obtain ⟨r1, q1, H⟩ := bind_t H
            refine RJ.op rfl rfl (op_call [] (sluicegateref12_Way.spec q1) rfl rfl rfl h21 rfl (gcons (Gives.self 7 rfl) gnil)) ?_
            rintro _ w16 ⟨_, ⟨rfl, rfl⟩, h22⟩
            replace h22 : St w0 F0 [boxC b7 135 [.string ⟨⟨(gt a1.2.2.2.1 x5).1⟩⟩, .bool ((gt a1.2.2.2.1 x5).2.1), .string ⟨⟨(gt a1.2.2.2.1 x5).2.2⟩⟩], boxC b2 86 [.int .i64 a1.1, .slice A1 a1.2.1.length c_1, .slice A2 a1.2.2.1.length c_2, .slice A3 a1.2.2.2.1.length c_3, .slice A4 a1.2.2.2.2.length c_4], boxC b3 86 [.int .i64 a3.1, .slice A5 a3.2.1.length c_5, .slice A6 a3.2.2.1.length c_6, .slice A9 x1.length c_9, .slice A10 x2.length c_10], boxC b4 86 [.int .i64 0, .slice none ([] : List (Int)).length 0, .slice none ([] : List (List UInt8)).length 0, .slice none ([] : List (List UInt8 × Bool × List UInt8)).length 0, .slice none ([] : List (List UInt8 × List UInt8)).length 0], boxC b5 86 [.int .i64 0, .slice none ([] : List (Int)).length 0, .slice none ([] : List (List UInt8)).length 0, .slice none ([] : List (List UInt8 × Bool × List UInt8)).length 0, .slice none ([] : List (List UInt8 × List UInt8)).length 0], ownC 135 (.pair .str (.pair .bool .str)) x4 (.slice A11 x4.length c_11)] _ _ := h22
            refine RJ.run ttok 3 rfl ?_
            rcases Bool.eq_false_or_eq_true (!decide (r1 = a2)) with c5 | c5
            · replace H := ite_t c5 H
              refine RJ.know (t := 63) rfl (congrArg Value.bool c5) ?_
              refine RJ.run ttok 14 rfl ?_
              refine RJ.fin [(2, .int .i64 a2), (4, .int .i64 a4), (6, .pointer (some ⟨b2, 0, none⟩)), (8, .pointer (some ⟨b3, 0, none⟩)), (10, .pointer (some ⟨b4, 0, none⟩)), (11, .pointer (some ⟨b5, 0, none⟩)), (13, .int .i64 (w64 (a0.2.2.2.2.1 - (a3.2.2.2.1.length : Int)))), (14, .int .i64 x3), (15, .slice A11 x4.length c_11), (16, .int .i64 x5), (17, .pointer (some ⟨b7, 0, none⟩)), (77, .bool true)] rfl ?_
              refine J.condT rfl ?_
              refine J.seq ?_
              refine J.region ?_
              refine RJ.run ttok 1 rfl ?_
              refine RJ.q rfl rfl (q_load_box ttok 0 (fun w e => e ▸ h22.wh) rfl rfl rfl rfl rfl) ?_
              refine RJ.op rfl rfl (op_lit ttok (.pair .str (.pair .bool .str)) rfl ([((gt a1.2.2.2.1 x5).1, (gt a1.2.2.2.1 x5).2.1, (gt a1.2.2.2.1 x5).2.2)] : List (List UInt8 × Bool × List UInt8)) rfl h22 rfl rfl (by decide) rfl rfl rfl rfl rfl rfl rfl) ?_
              rintro _ w17 ⟨b8, rfl, h23⟩
              replace h23 : St w0 F0 [ownC 135 (.pair .str (.pair .bool .str)) ([((gt a1.2.2.2.1 x5).1, (gt a1.2.2.2.1 x5).2.1, (gt a1.2.2.2.1 x5).2.2)] : List (List UInt8 × Bool × List UInt8)) (.slice (some ⟨b8, 0, none⟩) ([((gt a1.2.2.2.1 x5).1, (gt a1.2.2.2.1 x5).2.1, (gt a1.2.2.2.1 x5).2.2)] : List (List UInt8 × Bool × List UInt8)).length 1), boxC b7 135 [.string ⟨⟨(gt a1.2.2.2.1 x5).1⟩⟩, .bool ((gt a1.2.2.2.1 x5).2.1), .string ⟨⟨(gt a1.2.2.2.1 x5).2.2⟩⟩], boxC b2 86 [.int .i64 a1.1, .slice A1 a1.2.1.length c_1, .slice A2 a1.2.2.1.length c_2, .slice A3 a1.2.2.2.1.length c_3, .slice A4 a1.2.2.2.2.length c_4], boxC b3 86 [.int .i64 a3.1, .slice A5 a3.2.1.length c_5, .slice A6 a3.2.2.1.length c_6, .slice A9 x1.length c_9, .slice A10 x2.length c_10], boxC b4 86 [.int .i64 0, .slice none ([] : List (Int)).length 0, .slice none ([] : List (List UInt8)).length 0, .slice none ([] : List (List UInt8 × Bool × List UInt8)).length 0, .slice none ([] : List (List UInt8 × List UInt8)).length 0], boxC b5 86 [.int .i64 0, .slice none ([] : List (Int)).length 0, .slice none ([] : List (List UInt8)).length 0, .slice none ([] : List (List UInt8 × Bool × List UInt8)).length 0, .slice none ([] : List (List UInt8 × List UInt8)).length 0], ownC 135 (.pair .str (.pair .bool .str)) x4 (.slice A11 x4.length c_11)] _ _ := h23
              obtain ⟨p3, H⟩ := guard_t H
              refine RJ.op rfl rfl (op_append ttok rfl 6 rfl h23 rfl (Gives.of 0 rfl own_rd) rfl rfl rfl rfl rfl rfl (by decide) (by decide) p3) ?_
              rintro _ w18 ⟨A12, c_12, rfl, h24⟩
              replace h24 : St w0 F0 [ownC 135 (.pair .str (.pair .bool .str)) (x4 ++ ([((gt a1.2.2.2.1 x5).1, (gt a1.2.2.2.1 x5).2.1, (gt a1.2.2.2.1 x5).2.2)] : List (List UInt8 × Bool × List UInt8))) (.slice A12 (x4 ++ ([((gt a1.2.2.2.1 x5).1, (gt a1.2.2.2.1 x5).2.1, (gt a1.2.2.2.1 x5).2.2)] : List (List UInt8 × Bool × List UInt8))).length c_12), ownC 135 (.pair .str (.pair .bool .str)) ([((gt a1.2.2.2.1 x5).1, (gt a1.2.2.2.1 x5).2.1, (gt a1.2.2.2.1 x5).2.2)] : List (List UInt8 × Bool × List UInt8)) (.slice (some ⟨b8, 0, none⟩) ([((gt a1.2.2.2.1 x5).1, (gt a1.2.2.2.1 x5).2.1, (gt a1.2.2.2.1 x5).2.2)] : List (List UInt8 × Bool × List UInt8)).length 1), boxC b7 135 [.string ⟨⟨(gt a1.2.2.2.1 x5).1⟩⟩, .bool ((gt a1.2.2.2.1 x5).2.1), .string ⟨⟨(gt a1.2.2.2.1 x5).2.2⟩⟩], boxC b2 86 [.int .i64 a1.1, .slice A1 a1.2.1.length c_1, .slice A2 a1.2.2.1.length c_2, .slice A3 a1.2.2.2.1.length c_3, .slice A4 a1.2.2.2.2.length c_4], boxC b3 86 [.int .i64 a3.1, .slice A5 a3.2.1.length c_5, .slice A6 a3.2.2.1.length c_6, .slice A9 x1.length c_9, .slice A10 x2.length c_10], boxC b4 86 [.int .i64 0, .slice none ([] : List (Int)).length 0, .slice none ([] : List (List UInt8)).length 0, .slice none ([] : List (List UInt8 × Bool × List UInt8)).length 0, .slice none ([] : List (List UInt8 × List UInt8)).length 0], boxC b5 86 [.int .i64 0, .slice none ([] : List (Int)).length 0, .slice none ([] : List (List UInt8)).length 0, .slice none ([] : List (List UInt8 × Bool × List UInt8)).length 0, .slice none ([] : List (List UInt8 × List UInt8)).length 0]] _ _ := h24
              refine RJ.run ttok 1 rfl ?_
              refine RJ.fin [(2, .int .i64 a2), (4, .int .i64 a4), (6, .pointer (some ⟨b2, 0, none⟩)), (8, .pointer (some ⟨b3, 0, none⟩)), (10, .pointer (some ⟨b4, 0, none⟩)), (11, .pointer (some ⟨b5, 0, none⟩)), (13, .int .i64 (w64 (a0.2.2.2.2.1 - (a3.2.2.2.1.length : Int)))), (14, .int .i64 x3), (15, .slice A12 (x4 ++ ([((gt a1.2.2.2.1 x5).1, (gt a1.2.2.2.1 x5).2.1, (gt a1.2.2.2.1 x5).2.2)] : List (List UInt8 × Bool × List UInt8))).length c_12), (16, .int .i64 x5)] rfl ?_
              have h25 := h24.only [0, 2, 2, 2, 2] rfl
              replace h25 : St w0 F0 [ownC 135 (.pair .str (.pair .bool .str)) (x4 ++ ([((gt a1.2.2.2.1 x5).1, (gt a1.2.2.2.1 x5).2.1, (gt a1.2.2.2.1 x5).2.2)] : List (List UInt8 × Bool × List UInt8))) (.slice A12 (x4 ++ ([((gt a1.2.2.2.1 x5).1, (gt a1.2.2.2.1 x5).2.1, (gt a1.2.2.2.1 x5).2.2)] : List (List UInt8 × Bool × List UInt8))).length c_12), boxC b2 86 [.int .i64 a1.1, .slice A1 a1.2.1.length c_1, .slice A2 a1.2.2.1.length c_2, .slice A3 a1.2.2.2.1.length c_3, .slice A4 a1.2.2.2.2.length c_4], boxC b3 86 [.int .i64 a3.1, .slice A5 a3.2.1.length c_5, .slice A6 a3.2.2.1.length c_6, .slice A9 x1.length c_9, .slice A10 x2.length c_10], boxC b4 86 [.int .i64 0, .slice none ([] : List (Int)).length 0, .slice none ([] : List (List UInt8)).length 0, .slice none ([] : List (List UInt8 × Bool × List UInt8)).length 0, .slice none ([] : List (List UInt8 × List UInt8)).length 0], boxC b5 86 [.int .i64 0, .slice none ([] : List (Int)).length 0, .slice none ([] : List (List UInt8)).length 0, .slice none ([] : List (List UInt8 × Bool × List UInt8)).length 0, .slice none ([] : List (List UInt8 × List UInt8)).length 0]] _ _ := h25
              refine J.exit ?_
              refine J.region ?_
              refine RJ.run ttok 3 rfl ?_
              refine RJ.fin [(2, .int .i64 a2), (4, .int .i64 a4), (6, .pointer (some ⟨b2, 0, none⟩)), (8, .pointer (some ⟨b3, 0, none⟩)), (10, .pointer (some ⟨b4, 0, none⟩)), (11, .pointer (some ⟨b5, 0, none⟩)), (13, .int .i64 (w64 (a0.2.2.2.2.1 - (a3.2.2.2.1.length : Int)))), (14, .int .i64 x3), (15, .slice A12 (x4 ++ ([((gt a1.2.2.2.1 x5).1, (gt a1.2.2.2.1 x5).2.1, (gt a1.2.2.2.1 x5).2.2)] : List (List UInt8 × Bool × List UInt8))).length c_12), (16, .int .i64 (w64 (x5 + 1)))] rfl ?_
              have h26 := ((h25.only [1, 1, 1, 1, 0] rfl).rds [0, 1, 2, 3, 4, 5, 6, 7] rfl)
              exact ⟨k1, by omega, x1, A9, c_9, x2, A10, c_10, x3, (x4 ++ ([((gt a1.2.2.2.1 x5).1, (gt a1.2.2.2.1 x5).2.1, (gt a1.2.2.2.1 x5).2.2)] : List (List UInt8 × Bool × List UInt8))), A12, c_12, (w64 (x5 + 1)), rfl, h26, H⟩
            · replace H := ite_f c5 H
              refine RJ.know (t := 63) rfl (congrArg Value.bool c5) ?_
              refine RJ.run ttok 5 rfl ?_
              rcases Bool.eq_false_or_eq_true (decide (a4 ≤ x3)) with c6 | c6
              · replace H := ite_t c6 H
                refine RJ.know (t := 68) rfl (congrArg Value.bool c6) ?_
                refine RJ.run ttok 9 rfl ?_
                refine RJ.fin [(2, .int .i64 a2), (4, .int .i64 a4), (6, .pointer (some ⟨b2, 0, none⟩)), (8, .pointer (some ⟨b3, 0, none⟩)), (10, .pointer (some ⟨b4, 0, none⟩)), (11, .pointer (some ⟨b5, 0, none⟩)), (13, .int .i64 (w64 (a0.2.2.2.2.1 - (a3.2.2.2.1.length : Int)))), (14, .int .i64 x3), (15, .slice A11 x4.length c_11), (16, .int .i64 x5), (17, .pointer (some ⟨b7, 0, none⟩)), (77, .bool true)] rfl ?_
                refine J.condT rfl ?_
                refine J.seq ?_
                refine J.region ?_
                refine RJ.run ttok 1 rfl ?_
                refine RJ.q rfl rfl (q_load_box ttok 0 (fun w e => e ▸ h22.wh) rfl rfl rfl rfl rfl) ?_
                refine RJ.op rfl rfl (op_lit ttok (.pair .str (.pair .bool .str)) rfl ([((gt a1.2.2.2.1 x5).1, (gt a1.2.2.2.1 x5).2.1, (gt a1.2.2.2.1 x5).2.2)] : List (List UInt8 × Bool × List UInt8)) rfl h22 rfl rfl (by decide) rfl rfl rfl rfl rfl rfl rfl) ?_
                rintro _ w19 ⟨b9, rfl, h27⟩
                replace h27 : St w0 F0 [ownC 135 (.pair .str (.pair .bool .str)) ([((gt a1.2.2.2.1 x5).1, (gt a1.2.2.2.1 x5).2.1, (gt a1.2.2.2.1 x5).2.2)] : List (List UInt8 × Bool × List UInt8)) (.slice (some ⟨b9, 0, none⟩) ([((gt a1.2.2.2.1 x5).1, (gt a1.2.2.2.1 x5).2.1, (gt a1.2.2.2.1 x5).2.2)] : List (List UInt8 × Bool × List UInt8)).length 1), boxC b7 135 [.string ⟨⟨(gt a1.2.2.2.1 x5).1⟩⟩, .bool ((gt a1.2.2.2.1 x5).2.1), .string ⟨⟨(gt a1.2.2.2.1 x5).2.2⟩⟩], boxC b2 86 [.int .i64 a1.1, .slice A1 a1.2.1.length c_1, .slice A2 a1.2.2.1.length c_2, .slice A3 a1.2.2.2.1.length c_3, .slice A4 a1.2.2.2.2.length c_4], boxC b3 86 [.int .i64 a3.1, .slice A5 a3.2.1.length c_5, .slice A6 a3.2.2.1.length c_6, .slice A9 x1.length c_9, .slice A10 x2.length c_10], boxC b4 86 [.int .i64 0, .slice none ([] : List (Int)).length 0, .slice none ([] : List (List UInt8)).length 0, .slice none ([] : List (List UInt8 × Bool × List UInt8)).length 0, .slice none ([] : List (List UInt8 × List UInt8)).length 0], boxC b5 86 [.int .i64 0, .slice none ([] : List (Int)).length 0, .slice none ([] : List (List UInt8)).length 0, .slice none ([] : List (List UInt8 × Bool × List UInt8)).length 0, .slice none ([] : List (List UInt8 × List UInt8)).length 0], ownC 135 (.pair .str (.pair .bool .str)) x4 (.slice A11 x4.length c_11)] _ _ := h27
                obtain ⟨p4, H⟩ := guard_t H
                refine RJ.op rfl rfl (op_append ttok rfl 6 rfl h27 rfl (Gives.of 0 rfl own_rd) rfl rfl rfl rfl rfl rfl (by decide) (by decide) p4) ?_
                rintro _ w20 ⟨A13, c_13, rfl, h28⟩
                replace h28 : St w0 F0 [ownC 135 (.pair .str (.pair .bool .str)) (x4 ++ ([((gt a1.2.2.2.1 x5).1, (gt a1.2.2.2.1 x5).2.1, (gt a1.2.2.2.1 x5).2.2)] : List (List UInt8 × Bool × List UInt8))) (.slice A13 (x4 ++ ([((gt a1.2.2.2.1 x5).1, (gt a1.2.2.2.1 x5).2.1, (gt a1.2.2.2.1 x5).2.2)] : List (List UInt8 × Bool × List UInt8))).length c_13), ownC 135 (.pair .str (.pair .bool .str)) ([((gt a1.2.2.2.1 x5).1, (gt a1.2.2.2.1 x5).2.1, (gt a1.2.2.2.1 x5).2.2)] : List (List UInt8 × Bool × List UInt8)) (.slice (some ⟨b9, 0, none⟩) ([((gt a1.2.2.2.1 x5).1, (gt a1.2.2.2.1 x5).2.1, (gt a1.2.2.2.1 x5).2.2)] : List (List UInt8 × Bool × List UInt8)).length 1), boxC b7 135 [.string ⟨⟨(gt a1.2.2.2.1 x5).1⟩⟩, .bool ((gt a1.2.2.2.1 x5).2.1), .string ⟨⟨(gt a1.2.2.2.1 x5).2.2⟩⟩], boxC b2 86 [.int .i64 a1.1, .slice A1 a1.2.1.length c_1, .slice A2 a1.2.2.1.length c_2, .slice A3 a1.2.2.2.1.length c_3, .slice A4 a1.2.2.2.2.length c_4], boxC b3 86 [.int .i64 a3.1, .slice A5 a3.2.1.length c_5, .slice A6 a3.2.2.1.length c_6, .slice A9 x1.length c_9, .slice A10 x2.length c_10], boxC b4 86 [.int .i64 0, .slice none ([] : List (Int)).length 0, .slice none ([] : List (List UInt8)).length 0, .slice none ([] : List (List UInt8 × Bool × List UInt8)).length 0, .slice none ([] : List (List UInt8 × List UInt8)).length 0], boxC b5 86 [.int .i64 0, .slice none ([] : List (Int)).length 0, .slice none ([] : List (List UInt8)).length 0, .slice none ([] : List (List UInt8 × Bool × List UInt8)).length 0, .slice none ([] : List (List UInt8 × List UInt8)).length 0]] _ _ := h28
                refine RJ.run ttok 1 rfl ?_
                refine RJ.fin [(2, .int .i64 a2), (4, .int .i64 a4), (6, .pointer (some ⟨b2, 0, none⟩)), (8, .pointer (some ⟨b3, 0, none⟩)), (10, .pointer (some ⟨b4, 0, none⟩)), (11, .pointer (some ⟨b5, 0, none⟩)), (13, .int .i64 (w64 (a0.2.2.2.2.1 - (a3.2.2.2.1.length : Int)))), (14, .int .i64 x3), (15, .slice A13 (x4 ++ ([((gt a1.2.2.2.1 x5).1, (gt a1.2.2.2.1 x5).2.1, (gt a1.2.2.2.1 x5).2.2)] : List (List UInt8 × Bool × List UInt8))).length c_13), (16, .int .i64 x5)] rfl ?_
                have h29 := h28.only [0, 2, 2, 2, 2] rfl
                replace h29 : St w0 F0 [ownC 135 (.pair .str (.pair .bool .str)) (x4 ++ ([((gt a1.2.2.2.1 x5).1, (gt a1.2.2.2.1 x5).2.1, (gt a1.2.2.2.1 x5).2.2)] : List (List UInt8 × Bool × List UInt8))) (.slice A13 (x4 ++ ([((gt a1.2.2.2.1 x5).1, (gt a1.2.2.2.1 x5).2.1, (gt a1.2.2.2.1 x5).2.2)] : List (List UInt8 × Bool × List UInt8))).length c_13), boxC b2 86 [.int .i64 a1.1, .slice A1 a1.2.1.length c_1, .slice A2 a1.2.2.1.length c_2, .slice A3 a1.2.2.2.1.length c_3, .slice A4 a1.2.2.2.2.length c_4], boxC b3 86 [.int .i64 a3.1, .slice A5 a3.2.1.length c_5, .slice A6 a3.2.2.1.length c_6, .slice A9 x1.length c_9, .slice A10 x2.length c_10], boxC b4 86 [.int .i64 0, .slice none ([] : List (Int)).length 0, .slice none ([] : List (List UInt8)).length 0, .slice none ([] : List (List UInt8 × Bool × List UInt8)).length 0, .slice none ([] : List (List UInt8 × List UInt8)).length 0], boxC b5 86 [.int .i64 0, .slice none ([] : List (Int)).length 0, .slice none ([] : List (List UInt8)).length 0, .slice none ([] : List (List UInt8 × Bool × List UInt8)).length 0, .slice none ([] : List (List UInt8 × List UInt8)).length 0]] _ _ := h29
                refine J.exit ?_
                refine J.region ?_
                refine RJ.run ttok 3 rfl ?_
                refine RJ.fin [(2, .int .i64 a2), (4, .int .i64 a4), (6, .pointer (some ⟨b2, 0, none⟩)), (8, .pointer (some ⟨b3, 0, none⟩)), (10, .pointer (some ⟨b4, 0, none⟩)), (11, .pointer (some ⟨b5, 0, none⟩)), (13, .int .i64 (w64 (a0.2.2.2.2.1 - (a3.2.2.2.1.length : Int)))), (14, .int .i64 x3), (15, .slice A13 (x4 ++ ([((gt a1.2.2.2.1 x5).1, (gt a1.2.2.2.1 x5).2.1, (gt a1.2.2.2.1 x5).2.2)] : List (List UInt8 × Bool × List UInt8))).length c_13), (16, .int .i64 (w64 (x5 + 1)))] rfl ?_
                have h30 := ((h29.only [1, 1, 1, 1, 0] rfl).rds [0, 1, 2, 3, 4, 5, 6, 7] rfl)
                exact ⟨k1, by omega, x1, A9, c_9, x2, A10, c_10, x3, (x4 ++ ([((gt a1.2.2.2.1 x5).1, (gt a1.2.2.2.1 x5).2.1, (gt a1.2.2.2.1 x5).2.2)] : List (List UInt8 × Bool × List UInt8))), A13, c_13, (w64 (x5 + 1)), rfl, h30, H⟩
              · replace H := ite_f c6 H
                refine RJ.know (t := 68) rfl (congrArg Value.bool c6) ?_
                refine RJ.run ttok 1 rfl ?_
                refine RJ.q rfl rfl (q_load_box ttok 2 (fun w e => e ▸ h22.wh) rfl rfl rfl rfl rfl) ?_
                refine RJ.run ttok 2 rfl ?_
                rcases Bool.eq_false_or_eq_true (decide (0 < a3.1)) with c7 | c7
                · replace H := ite_t c7 H
                  refine RJ.know (t := 72) rfl (congrArg Value.bool c7) ?_
                  refine RJ.run ttok 5 rfl ?_
                  refine RJ.fin [(2, .int .i64 a2), (4, .int .i64 a4), (6, .pointer (some ⟨b2, 0, none⟩)), (8, .pointer (some ⟨b3, 0, none⟩)), (10, .pointer (some ⟨b4, 0, none⟩)), (11, .pointer (some ⟨b5, 0, none⟩)), (13, .int .i64 (w64 (a0.2.2.2.2.1 - (a3.2.2.2.1.length : Int)))), (14, .int .i64 x3), (15, .slice A11 x4.length c_11), (16, .int .i64 x5), (17, .pointer (some ⟨b7, 0, none⟩)), (77, .bool (decide ((w64 (a0.2.2.2.2.1 - (a3.2.2.2.1.length : Int))) ≤ x3)))] rfl ?_
                  refine J.cond rfl (fun c8 => ?_) (fun c8 => ?_)
                  · replace H := ite_t c8 H
                    refine J.seq ?_
                    refine J.region ?_
                    refine RJ.run ttok 1 rfl ?_
                    refine RJ.q rfl rfl (q_load_box ttok 0 (fun w e => e ▸ h22.wh) rfl rfl rfl rfl rfl) ?_
                    refine RJ.op rfl rfl (op_lit ttok (.pair .str (.pair .bool .str)) rfl ([((gt a1.2.2.2.1 x5).1, (gt a1.2.2.2.1 x5).2.1, (gt a1.2.2.2.1 x5).2.2)] : List (List UInt8 × Bool × List UInt8)) rfl h22 rfl rfl (by decide) rfl rfl rfl rfl rfl rfl rfl) ?_
                    rintro _ w21 ⟨b10, rfl, h31⟩
                    replace h31 : St w0 F0 [ownC 135 (.pair .str (.pair .bool .str)) ([((gt a1.2.2.2.1 x5).1, (gt a1.2.2.2.1 x5).2.1, (gt a1.2.2.2.1 x5).2.2)] : List (List UInt8 × Bool × List UInt8)) (.slice (some ⟨b10, 0, none⟩) ([((gt a1.2.2.2.1 x5).1, (gt a1.2.2.2.1 x5).2.1, (gt a1.2.2.2.1 x5).2.2)] : List (List UInt8 × Bool × List UInt8)).length 1), boxC b7 135 [.string ⟨⟨(gt a1.2.2.2.1 x5).1⟩⟩, .bool ((gt a1.2.2.2.1 x5).2.1), .string ⟨⟨(gt a1.2.2.2.1 x5).2.2⟩⟩], boxC b2 86 [.int .i64 a1.1, .slice A1 a1.2.1.length c_1, .slice A2 a1.2.2.1.length c_2, .slice A3 a1.2.2.2.1.length c_3, .slice A4 a1.2.2.2.2.length c_4], boxC b3 86 [.int .i64 a3.1, .slice A5 a3.2.1.length c_5, .slice A6 a3.2.2.1.length c_6, .slice A9 x1.length c_9, .slice A10 x2.length c_10], boxC b4 86 [.int .i64 0, .slice none ([] : List (Int)).length 0, .slice none ([] : List (List UInt8)).length 0, .slice none ([] : List (List UInt8 × Bool × List UInt8)).length 0, .slice none ([] : List (List UInt8 × List UInt8)).length 0], boxC b5 86 [.int .i64 0, .slice none ([] : List (Int)).length 0, .slice none ([] : List (List UInt8)).length 0, .slice none ([] : List (List UInt8 × Bool × List UInt8)).length 0, .slice none ([] : List (List UInt8 × List UInt8)).length 0], ownC 135 (.pair .str (.pair .bool .str)) x4 (.slice A11 x4.length c_11)] _ _ := h31
                    obtain ⟨p5, H⟩ := guard_t H
                    refine RJ.op rfl rfl (op_append ttok rfl 6 rfl h31 rfl (Gives.of 0 rfl own_rd) rfl rfl rfl rfl rfl rfl (by decide) (by decide) p5) ?_
                    rintro _ w22 ⟨A14, c_14, rfl, h32⟩
                    replace h32 : St w0 F0 [ownC 135 (.pair .str (.pair .bool .str)) (x4 ++ ([((gt a1.2.2.2.1 x5).1, (gt a1.2.2.2.1 x5).2.1, (gt a1.2.2.2.1 x5).2.2)] : List (List UInt8 × Bool × List UInt8))) (.slice A14 (x4 ++ ([((gt a1.2.2.2.1 x5).1, (gt a1.2.2.2.1 x5).2.1, (gt a1.2.2.2.1 x5).2.2)] : List (List UInt8 × Bool × List UInt8))).length c_14), ownC 135 (.pair .str (.pair .bool .str)) ([((gt a1.2.2.2.1 x5).1, (gt a1.2.2.2.1 x5).2.1, (gt a1.2.2.2.1 x5).2.2)] : List (List UInt8 × Bool × List UInt8)) (.slice (some ⟨b10, 0, none⟩) ([((gt a1.2.2.2.1 x5).1, (gt a1.2.2.2.1 x5).2.1, (gt a1.2.2.2.1 x5).2.2)] : List (List UInt8 × Bool × List UInt8)).length 1), boxC b7 135 [.string ⟨⟨(gt a1.2.2.2.1 x5).1⟩⟩, .bool ((gt a1.2.2.2.1 x5).2.1), .string ⟨⟨(gt a1.2.2.2.1 x5).2.2⟩⟩], boxC b2 86 [.int .i64 a1.1, .slice A1 a1.2.1.length c_1, .slice A2 a1.2.2.1.length c_2, .slice A3 a1.2.2.2.1.length c_3, .slice A4 a1.2.2.2.2.length c_4], boxC b3 86 [.int .i64 a3.1, .slice A5 a3.2.1.length c_5, .slice A6 a3.2.2.1.length c_6, .slice A9 x1.length c_9, .slice A10 x2.length c_10], boxC b4 86 [.int .i64 0, .slice none ([] : List (Int)).length 0, .slice none ([] : List (List UInt8)).length 0, .slice none ([] : List (List UInt8 × Bool × List UInt8)).length 0, .slice none ([] : List (List UInt8 × List UInt8)).length 0], boxC b5 86 [.int .i64 0, .slice none ([] : List (Int)).length 0, .slice none ([] : List (List UInt8)).length 0, .slice none ([] : List (List UInt8 × Bool × List UInt8)).length 0, .slice none ([] : List (List UInt8 × List UInt8)).length 0]] _ _ := h32
                    refine RJ.run ttok 1 rfl ?_
                    refine RJ.fin [(2, .int .i64 a2), (4, .int .i64 a4), (6, .pointer (some ⟨b2, 0, none⟩)), (8, .pointer (some ⟨b3, 0, none⟩)), (10, .pointer (some ⟨b4, 0, none⟩)), (11, .pointer (some ⟨b5, 0, none⟩)), (13, .int .i64 (w64 (a0.2.2.2.2.1 - (a3.2.2.2.1.length : Int)))), (14, .int .i64 x3), (15, .slice A14 (x4 ++ ([((gt a1.2.2.2.1 x5).1, (gt a1.2.2.2.1 x5).2.1, (gt a1.2.2.2.1 x5).2.2)] : List (List UInt8 × Bool × List UInt8))).length c_14), (16, .int .i64 x5)] rfl ?_
                    have h33 := h32.only [0, 2, 2, 2, 2] rfl
                    replace h33 : St w0 F0 [ownC 135 (.pair .str (.pair .bool .str)) (x4 ++ ([((gt a1.2.2.2.1 x5).1, (gt a1.2.2.2.1 x5).2.1, (gt a1.2.2.2.1 x5).2.2)] : List (List UInt8 × Bool × List UInt8))) (.slice A14 (x4 ++ ([((gt a1.2.2.2.1 x5).1, (gt a1.2.2.2.1 x5).2.1, (gt a1.2.2.2.1 x5).2.2)] : List (List UInt8 × Bool × List UInt8))).length c_14), boxC b2 86 [.int .i64 a1.1, .slice A1 a1.2.1.length c_1, .slice A2 a1.2.2.1.length c_2, .slice A3 a1.2.2.2.1.length c_3, .slice A4 a1.2.2.2.2.length c_4], boxC b3 86 [.int .i64 a3.1, .slice A5 a3.2.1.length c_5, .slice A6 a3.2.2.1.length c_6, .slice A9 x1.length c_9, .slice A10 x2.length c_10], boxC b4 86 [.int .i64 0, .slice none ([] : List (Int)).length 0, .slice none ([] : List (List UInt8)).length 0, .slice none ([] : List (List UInt8 × Bool × List UInt8)).length 0, .slice none ([] : List (List UInt8 × List UInt8)).length 0], boxC b5 86 [.int .i64 0, .slice none ([] : List (Int)).length 0, .slice none ([] : List (List UInt8)).length 0, .slice none ([] : List (List UInt8 × Bool × List UInt8)).length 0, .slice none ([] : List (List UInt8 × List UInt8)).length 0]] _ _ := h33
                    refine J.exit ?_
                    refine J.region ?_
                    refine RJ.run ttok 3 rfl ?_
                    refine RJ.fin [(2, .int .i64 a2), (4, .int .i64 a4), (6, .pointer (some ⟨b2, 0, none⟩)), (8, .pointer (some ⟨b3, 0, none⟩)), (10, .pointer (some ⟨b4, 0, none⟩)), (11, .pointer (some ⟨b5, 0, none⟩)), (13, .int .i64 (w64 (a0.2.2.2.2.1 - (a3.2.2.2.1.length : Int)))), (14, .int .i64 x3), (15, .slice A14 (x4 ++ ([((gt a1.2.2.2.1 x5).1, (gt a1.2.2.2.1 x5).2.1, (gt a1.2.2.2.1 x5).2.2)] : List (List UInt8 × Bool × List UInt8))).length c_14), (16, .int .i64 (w64 (x5 + 1)))] rfl ?_
                    have h34 := ((h33.only [1, 1, 1, 1, 0] rfl).rds [0, 1, 2, 3, 4, 5, 6, 7] rfl)
                    exact ⟨k1, by omega, x1, A9, c_9, x2, A10, c_10, x3, (x4 ++ ([((gt a1.2.2.2.1 x5).1, (gt a1.2.2.2.1 x5).2.1, (gt a1.2.2.2.1 x5).2.2)] : List (List UInt8 × Bool × List UInt8))), A14, c_14, (w64 (x5 + 1)), rfl, h34, H⟩
                  · replace H := ite_f c8 H
                    refine J.skip ?_
                    refine J.seq ?_
                    refine J.region ?_
                    refine RJ.run ttok 3 rfl ?_
                    refine RJ.fin [(2, .int .i64 a2), (4, .int .i64 a4), (6, .pointer (some ⟨b2, 0, none⟩)), (8, .pointer (some ⟨b3, 0, none⟩)), (10, .pointer (some ⟨b4, 0, none⟩)), (11, .pointer (some ⟨b5, 0, none⟩)), (13, .int .i64 (w64 (a0.2.2.2.2.1 - (a3.2.2.2.1.length : Int)))), (14, .int .i64 (w64 (x3 + 1))), (15, .slice A11 x4.length c_11), (16, .int .i64 x5), (17, .pointer (some ⟨b7, 0, none⟩))] rfl ?_
                    refine J.seq ?_
                    refine J.region ?_
                    refine RJ.run ttok 1 rfl ?_
                    refine RJ.q rfl rfl (q_load_box ttok 2 (fun w e => e ▸ h22.wh) rfl rfl rfl rfl rfl) ?_
                    refine RJ.run ttok 1 rfl ?_
                    refine RJ.fin [(2, .int .i64 a2), (4, .int .i64 a4), (6, .pointer (some ⟨b2, 0, none⟩)), (8, .pointer (some ⟨b3, 0, none⟩)), (10, .pointer (some ⟨b4, 0, none⟩)), (11, .pointer (some ⟨b5, 0, none⟩)), (13, .int .i64 (w64 (a0.2.2.2.2.1 - (a3.2.2.2.1.length : Int)))), (14, .int .i64 (w64 (x3 + 1))), (15, .slice A11 x4.length c_11), (16, .int .i64 x5), (17, .pointer (some ⟨b7, 0, none⟩)), (86, .bool (decide (a3.1 = 0)))] rfl ?_
                    refine J.cond rfl (fun c9 => ?_) (fun c9 => ?_)
                    · replace H := ite_t c9 H
                      refine J.region ?_
                      refine RJ.run ttok 1 rfl ?_
                      refine RJ.q rfl rfl (q_load_box ttok 2 (fun w e => e ▸ h22.wh) rfl rfl rfl rfl rfl) ?_
                      refine RJ.q rfl rfl (q_load_box ttok 0 (fun w e => e ▸ h22.wh) rfl rfl rfl rfl rfl) ?_
                      refine RJ.op rfl rfl (op_lit ttok (.pair .str (.pair .bool .str)) rfl ([((gt a1.2.2.2.1 x5).1, (gt a1.2.2.2.1 x5).2.1, (gt a1.2.2.2.1 x5).2.2)] : List (List UInt8 × Bool × List UInt8)) rfl h22 rfl rfl (by decide) rfl rfl rfl rfl rfl rfl rfl) ?_
                      rintro _ w23 ⟨b11, rfl, h35⟩
                      replace h35 : St w0 F0 [ownC 135 (.pair .str (.pair .bool .str)) ([((gt a1.2.2.2.1 x5).1, (gt a1.2.2.2.1 x5).2.1, (gt a1.2.2.2.1 x5).2.2)] : List (List UInt8 × Bool × List UInt8)) (.slice (some ⟨b11, 0, none⟩) ([((gt a1.2.2.2.1 x5).1, (gt a1.2.2.2.1 x5).2.1, (gt a1.2.2.2.1 x5).2.2)] : List (List UInt8 × Bool × List UInt8)).length 1), boxC b7 135 [.string ⟨⟨(gt a1.2.2.2.1 x5).1⟩⟩, .bool ((gt a1.2.2.2.1 x5).2.1), .string ⟨⟨(gt a1.2.2.2.1 x5).2.2⟩⟩], boxC b2 86 [.int .i64 a1.1, .slice A1 a1.2.1.length c_1, .slice A2 a1.2.2.1.length c_2, .slice A3 a1.2.2.2.1.length c_3, .slice A4 a1.2.2.2.2.length c_4], boxC b3 86 [.int .i64 a3.1, .slice A5 a3.2.1.length c_5, .slice A6 a3.2.2.1.length c_6, .slice A9 x1.length c_9, .slice A10 x2.length c_10], boxC b4 86 [.int .i64 0, .slice none ([] : List (Int)).length 0, .slice none ([] : List (List UInt8)).length 0, .slice none ([] : List (List UInt8 × Bool × List UInt8)).length 0, .slice none ([] : List (List UInt8 × List UInt8)).length 0], boxC b5 86 [.int .i64 0, .slice none ([] : List (Int)).length 0, .slice none ([] : List (List UInt8)).length 0, .slice none ([] : List (List UInt8 × Bool × List UInt8)).length 0, .slice none ([] : List (List UInt8 × List UInt8)).length 0], ownC 135 (.pair .str (.pair .bool .str)) x4 (.slice A11 x4.length c_11)] _ _ := h35
                      have h36 := h35.freeze (k := 0) rfl own_rd
                      obtain ⟨r2, q2, H⟩ := bind_t H
                      refine RJ.op rfl rfl (op_callA [] (sluicegateref11_Apply.spec q2) rfl rfl rfl h36 rfl (gcons (Gives.self 8 rfl) (gcons (Gives.self 0 rfl) gnil))) ?_
                      rintro _ w24 ⟨_, _, ⟨A15, c_15, rfl, rfl, rfl⟩, h37⟩
                      replace h37 : St w0 F0 [boxC b7 135 [.string ⟨⟨(gt a1.2.2.2.1 x5).1⟩⟩, .bool ((gt a1.2.2.2.1 x5).2.1), .string ⟨⟨(gt a1.2.2.2.1 x5).2.2⟩⟩], boxC b2 86 [.int .i64 a1.1, .slice A1 a1.2.1.length c_1, .slice A2 a1.2.2.1.length c_2, .slice A3 a1.2.2.2.1.length c_3, .slice A4 a1.2.2.2.2.length c_4], boxC b3 86 [.int .i64 a3.1, .slice A5 a3.2.1.length c_5, .slice A6 a3.2.2.1.length c_6, .slice A9 x1.length c_9, .slice A10 x2.length c_10], boxC b4 86 [.int .i64 0, .slice none ([] : List (Int)).length 0, .slice none ([] : List (List UInt8)).length 0, .slice none ([] : List (List UInt8 × Bool × List UInt8)).length 0, .slice none ([] : List (List UInt8 × List UInt8)).length 0], boxC b5 86 [.int .i64 0, .slice none ([] : List (Int)).length 0, .slice none ([] : List (List UInt8)).length 0, .slice none ([] : List (List UInt8 × Bool × List UInt8)).length 0, .slice none ([] : List (List UInt8 × List UInt8)).length 0], ownC 135 (.pair .str (.pair .bool .str)) x4 (.slice A11 x4.length c_11)] _ _ := h37
                      refine RJ.run ttok 1 rfl ?_
                      refine RJ.op rfl rfl (op_store ttok 2 rfl h37 rfl rfl rfl rfl rfl rfl rfl) ?_
                      intro _ w25 h38
                      replace h38 : St w0 F0 [boxC b3 86 [.int .i64 a3.1, .slice A5 a3.2.1.length c_5, .slice A6 a3.2.2.1.length c_6, .slice A9 x1.length c_9, .slice A15 r2.length c_15], boxC b7 135 [.string ⟨⟨(gt a1.2.2.2.1 x5).1⟩⟩, .bool ((gt a1.2.2.2.1 x5).2.1), .string ⟨⟨(gt a1.2.2.2.1 x5).2.2⟩⟩], boxC b2 86 [.int .i64 a1.1, .slice A1 a1.2.1.length c_1, .slice A2 a1.2.2.1.length c_2, .slice A3 a1.2.2.2.1.length c_3, .slice A4 a1.2.2.2.2.length c_4], boxC b4 86 [.int .i64 0, .slice none ([] : List (Int)).length 0, .slice none ([] : List (List UInt8)).length 0, .slice none ([] : List (List UInt8 × Bool × List UInt8)).length 0, .slice none ([] : List (List UInt8 × List UInt8)).length 0], boxC b5 86 [.int .i64 0, .slice none ([] : List (Int)).length 0, .slice none ([] : List (List UInt8)).length 0, .slice none ([] : List (List UInt8 × Bool × List UInt8)).length 0, .slice none ([] : List (List UInt8 × List UInt8)).length 0], ownC 135 (.pair .str (.pair .bool .str)) x4 (.slice A11 x4.length c_11)] _ _ := h38
                      refine RJ.fin [(2, .int .i64 a2), (4, .int .i64 a4), (6, .pointer (some ⟨b2, 0, none⟩)), (8, .pointer (some ⟨b3, 0, none⟩)), (10, .pointer (some ⟨b4, 0, none⟩)), (11, .pointer (some ⟨b5, 0, none⟩)), (13, .int .i64 (w64 (a0.2.2.2.2.1 - (a3.2.2.2.1.length : Int)))), (14, .int .i64 (w64 (x3 + 1))), (15, .slice A11 x4.length c_11), (16, .int .i64 x5)] rfl ?_
                      refine J.region ?_
                      refine RJ.run ttok 3 rfl ?_
                      refine RJ.fin [(2, .int .i64 a2), (4, .int .i64 a4), (6, .pointer (some ⟨b2, 0, none⟩)), (8, .pointer (some ⟨b3, 0, none⟩)), (10, .pointer (some ⟨b4, 0, none⟩)), (11, .pointer (some ⟨b5, 0, none⟩)), (13, .int .i64 (w64 (a0.2.2.2.2.1 - (a3.2.2.2.1.length : Int)))), (14, .int .i64 (w64 (x3 + 1))), (15, .slice A11 x4.length c_11), (16, .int .i64 (w64 (x5 + 1)))] rfl ?_
                      have h39 := ((h38.only [2, 0, 1, 1, 1] rfl).rds [2, 3, 4, 5, 6, 7, 8, 0] rfl)
                      exact ⟨k1, by omega, x1, A9, c_9, r2, A15, c_15, (w64 (x3 + 1)), x4, A11, c_11, (w64 (x5 + 1)), rfl, h39, H⟩
                    · replace H := ite_f c9 H
                      refine J.region ?_
                      refine RJ.run ttok 1 rfl ?_
                      refine RJ.q rfl rfl (q_load_box ttok 2 (fun w e => e ▸ h22.wh) rfl rfl rfl rfl rfl) ?_
                      refine RJ.q rfl rfl (q_load_box ttok 0 (fun w e => e ▸ h22.wh) rfl rfl rfl rfl rfl) ?_
                      obtain ⟨r3, q3, H⟩ := bind_t H
                      refine RJ.op rfl rfl (op_call [] (sluicegateref10_Put.spec q3) rfl rfl rfl h22 rfl (gcons (Gives.self 12 rfl) gnil)) ?_
                      rintro _ w26 ⟨_, ⟨A16, c_16, rfl, rfl⟩, h40⟩
                      replace h40 : St w0 F0 [ownC 135 (.pair .str (.pair .bool .str)) r3 (.slice A16 r3.length c_16), boxC b7 135 [.string ⟨⟨(gt a1.2.2.2.1 x5).1⟩⟩, .bool ((gt a1.2.2.2.1 x5).2.1), .string ⟨⟨(gt a1.2.2.2.1 x5).2.2⟩⟩], boxC b2 86 [.int .i64 a1.1, .slice A1 a1.2.1.length c_1, .slice A2 a1.2.2.1.length c_2, .slice A3 a1.2.2.2.1.length c_3, .slice A4 a1.2.2.2.2.length c_4], boxC b3 86 [.int .i64 a3.1, .slice A5 a3.2.1.length c_5, .slice A6 a3.2.2.1.length c_6, .slice A9 x1.length c_9, .slice A10 x2.length c_10], boxC b4 86 [.int .i64 0, .slice none ([] : List (Int)).length 0, .slice none ([] : List (List UInt8)).length 0, .slice none ([] : List (List UInt8 × Bool × List UInt8)).length 0, .slice none ([] : List (List UInt8 × List UInt8)).length 0], boxC b5 86 [.int .i64 0, .slice none ([] : List (Int)).length 0, .slice none ([] : List (List UInt8)).length 0, .slice none ([] : List (List UInt8 × Bool × List UInt8)).length 0, .slice none ([] : List (List UInt8 × List UInt8)).length 0], ownC 135 (.pair .str (.pair .bool .str)) x4 (.slice A11 x4.length c_11)] _ _ := h40
                      refine RJ.run ttok 1 rfl ?_
                      refine RJ.op rfl rfl (op_store ttok 3 rfl h40 rfl rfl rfl rfl rfl rfl rfl) ?_
                      intro _ w27 h41
                      replace h41 : St w0 F0 [boxC b3 86 [.int .i64 a3.1, .slice A5 a3.2.1.length c_5, .slice A6 a3.2.2.1.length c_6, .slice A16 r3.length c_16, .slice A10 x2.length c_10], ownC 135 (.pair .str (.pair .bool .str)) r3 (.slice A16 r3.length c_16), boxC b7 135 [.string ⟨⟨(gt a1.2.2.2.1 x5).1⟩⟩, .bool ((gt a1.2.2.2.1 x5).2.1), .string ⟨⟨(gt a1.2.2.2.1 x5).2.2⟩⟩], boxC b2 86 [.int .i64 a1.1, .slice A1 a1.2.1.length c_1, .slice A2 a1.2.2.1.length c_2, .slice A3 a1.2.2.2.1.length c_3, .slice A4 a1.2.2.2.2.length c_4], boxC b4 86 [.int .i64 0, .slice none ([] : List (Int)).length 0, .slice none ([] : List (List UInt8)).length 0, .slice none ([] : List (List UInt8 × Bool × List UInt8)).length 0, .slice none ([] : List (List UInt8 × List UInt8)).length 0], boxC b5 86 [.int .i64 0, .slice none ([] : List (Int)).length 0, .slice none ([] : List (List UInt8)).length 0, .slice none ([] : List (List UInt8 × Bool × List UInt8)).length 0, .slice none ([] : List (List UInt8 × List UInt8)).length 0], ownC 135 (.pair .str (.pair .bool .str)) x4 (.slice A11 x4.length c_11)] _ _ := h41
                      refine RJ.fin [(2, .int .i64 a2), (4, .int .i64 a4), (6, .pointer (some ⟨b2, 0, none⟩)), (8, .pointer (some ⟨b3, 0, none⟩)), (10, .pointer (some ⟨b4, 0, none⟩)), (11, .pointer (some ⟨b5, 0, none⟩)), (13, .int .i64 (w64 (a0.2.2.2.2.1 - (a3.2.2.2.1.length : Int)))), (14, .int .i64 (w64 (x3 + 1))), (15, .slice A11 x4.length c_11), (16, .int .i64 x5)] rfl ?_
                      refine J.region ?_
                      refine RJ.run ttok 3 rfl ?_
                      refine RJ.fin [(2, .int .i64 a2), (4, .int .i64 a4), (6, .pointer (some ⟨b2, 0, none⟩)), (8, .pointer (some ⟨b3, 0, none⟩)), (10, .pointer (some ⟨b4, 0, none⟩)), (11, .pointer (some ⟨b5, 0, none⟩)), (13, .int .i64 (w64 (a0.2.2.2.2.1 - (a3.2.2.2.1.length : Int)))), (14, .int .i64 (w64 (x3 + 1))), (15, .slice A11 x4.length c_11), (16, .int .i64 (w64 (x5 + 1)))] rfl ?_
                      have h42 := h41.freeze (k := 1) rfl own_rd
                      have h43 := ((h42.only [2, 0, 1, 1, 1] rfl).rds [1, 2, 3, 4, 5, 6, 0, 8] rfl)
                      exact ⟨k1, by omega, r3, A16, c_16, x2, A10, c_10, (w64 (x3 + 1)), x4, A11, c_11, (w64 (x5 + 1)), rfl, h43, H⟩
                · replace H := ite_f c7 H
                  refine RJ.know (t := 72) rfl (congrArg Value.bool c7) ?_
                  refine RJ.run ttok 5 rfl ?_
                  refine RJ.fin [(2, .int .i64 a2), (4, .int .i64 a4), (6, .pointer (some ⟨b2, 0, none⟩)), (8, .pointer (some ⟨b3, 0, none⟩)), (10, .pointer (some ⟨b4, 0, none⟩)), (11, .pointer (some ⟨b5, 0, none⟩)), (13, .int .i64 (w64 (a0.2.2.2.2.1 - (a3.2.2.2.1.length : Int)))), (14, .int .i64 x3), (15, .slice A11 x4.length c_11), (16, .int .i64 x5), (17, .pointer (some ⟨b7, 0, none⟩)), (77, .bool false)] rfl ?_
                  refine J.condF rfl ?_
                  refine J.skip ?_
                  refine J.seq ?_
                  refine J.region ?_
                  refine RJ.run ttok 3 rfl ?_
                  refine RJ.fin [(2, .int .i64 a2), (4, .int .i64 a4), (6, .pointer (some ⟨b2, 0, none⟩)), (8, .pointer (some ⟨b3, 0, none⟩)), (10, .pointer (some ⟨b4, 0, none⟩)), (11, .pointer (some ⟨b5, 0, none⟩)), (13, .int .i64 (w64 (a0.2.2.2.2.1 - (a3.2.2.2.1.length : Int)))), (14, .int .i64 (w64 (x3 + 1))), (15, .slice A11 x4.length c_11), (16, .int .i64 x5), (17, .pointer (some ⟨b7, 0, none⟩))] rfl ?_
                  refine J.seq ?_
                  refine J.region ?_
                  refine RJ.run ttok 1 rfl ?_
                  refine RJ.q rfl rfl (q_load_box ttok 2 (fun w e => e ▸ h22.wh) rfl rfl rfl rfl rfl) ?_
                  refine RJ.run ttok 1 rfl ?_
                  refine RJ.fin [(2, .int .i64 a2), (4, .int .i64 a4), (6, .pointer (some ⟨b2, 0, none⟩)), (8, .pointer (some ⟨b3, 0, none⟩)), (10, .pointer (some ⟨b4, 0, none⟩)), (11, .pointer (some ⟨b5, 0, none⟩)), (13, .int .i64 (w64 (a0.2.2.2.2.1 - (a3.2.2.2.1.length : Int)))), (14, .int .i64 (w64 (x3 + 1))), (15, .slice A11 x4.length c_11), (16, .int .i64 x5), (17, .pointer (some ⟨b7, 0, none⟩)), (86, .bool (decide (a3.1 = 0)))] rfl ?_
                  refine J.cond rfl (fun c10 => ?_) (fun c10 => ?_)
                  · replace H := ite_t c10 H
                    refine J.region ?_
                    refine RJ.run ttok 1 rfl ?_
                    refine RJ.q rfl rfl (q_load_box ttok 2 (fun w e => e ▸ h22.wh) rfl rfl rfl rfl rfl) ?_
                    refine RJ.q rfl rfl (q_load_box ttok 0 (fun w e => e ▸ h22.wh) rfl rfl rfl rfl rfl) ?_
                    refine RJ.op rfl rfl (op_lit ttok (.pair .str (.pair .bool .str)) rfl ([((gt a1.2.2.2.1 x5).1, (gt a1.2.2.2.1 x5).2.1, (gt a1.2.2.2.1 x5).2.2)] : List (List UInt8 × Bool × List UInt8)) rfl h22 rfl rfl (by decide) rfl rfl rfl rfl rfl rfl rfl) ?_
                    rintro _ w28 ⟨b12, rfl, h44⟩
                    replace h44 : St w0 F0 [ownC 135 (.pair .str (.pair .bool .str)) ([((gt a1.2.2.2.1 x5).1, (gt a1.2.2.2.1 x5).2.1, (gt a1.2.2.2.1 x5).2.2)] : List (List UInt8 × Bool × List UInt8)) (.slice (some ⟨b12, 0, none⟩) ([((gt a1.2.2.2.1 x5).1, (gt a1.2.2.2.1 x5).2.1, (gt a1.2.2.2.1 x5).2.2)] : List (List UInt8 × Bool × List UInt8)).length 1), boxC b7 135 [.string ⟨⟨(gt a1.2.2.2.1 x5).1⟩⟩, .bool ((gt a1.2.2.2.1 x5).2.1), .string ⟨⟨(gt a1.2.2.2.1 x5).2.2⟩⟩], boxC b2 86 [.int .i64 a1.1, .slice A1 a1.2.1.length c_1, .slice A2 a1.2.2.1.length c_2, .slice A3 a1.2.2.2.1.length c_3, .slice A4 a1.2.2.2.2.length c_4], boxC b3 86 [.int .i64 a3.1, .slice A5 a3.2.1.length c_5, .slice A6 a3.2.2.1.length c_6, .slice A9 x1.length c_9, .slice A10 x2.length c_10], boxC b4 86 [.int .i64 0, .slice none ([] : List (Int)).length 0, .slice none ([] : List (List UInt8)).length 0, .slice none ([] : List (List UInt8 × Bool × List UInt8)).length 0, .slice none ([] : List (List UInt8 × List UInt8)).length 0], boxC b5 86 [.int .i64 0, .slice none ([] : List (Int)).length 0, .slice none ([] : List (List UInt8)).length 0, .slice none ([] : List (List UInt8 × Bool × List UInt8)).length 0, .slice none ([] : List (List UInt8 × List UInt8)).length 0], ownC 135 (.pair .str (.pair .bool .str)) x4 (.slice A11 x4.length c_11)] _ _ := h44
                    have h45 := h44.freeze (k := 0) rfl own_rd
                    obtain ⟨r4, q4, H⟩ := bind_t H
                    refine RJ.op rfl rfl (op_callA [] (sluicegateref11_Apply.spec q4) rfl rfl rfl h45 rfl (gcons (Gives.self 8 rfl) (gcons (Gives.self 0 rfl) gnil))) ?_
                    rintro _ w29 ⟨_, _, ⟨A17, c_17, rfl, rfl, rfl⟩, h46⟩
                    replace h46 : St w0 F0 [boxC b7 135 [.string ⟨⟨(gt a1.2.2.2.1 x5).1⟩⟩, .bool ((gt a1.2.2.2.1 x5).2.1), .string ⟨⟨(gt a1.2.2.2.1 x5).2.2⟩⟩], boxC b2 86 [.int .i64 a1.1, .slice A1 a1.2.1.length c_1, .slice A2 a1.2.2.1.length c_2, .slice A3 a1.2.2.2.1.length c_3, .slice A4 a1.2.2.2.2.length c_4], boxC b3 86 [.int .i64 a3.1, .slice A5 a3.2.1.length c_5, .slice A6 a3.2.2.1.length c_6, .slice A9 x1.length c_9, .slice A10 x2.length c_10], boxC b4 86 [.int .i64 0, .slice none ([] : List (Int)).length 0, .slice none ([] : List (List UInt8)).length 0, .slice none ([] : List (List UInt8 × Bool × List UInt8)).length 0, .slice none ([] : List (List UInt8 × List UInt8)).length 0], boxC b5 86 [.int .i64 0, .slice none ([] : List (Int)).length 0, .slice none ([] : List (List UInt8)).length 0, .slice none ([] : List (List UInt8 × Bool × List UInt8)).length 0, .slice none ([] : List (List UInt8 × List UInt8)).length 0], ownC 135 (.pair .str (.pair .bool .str)) x4 (.slice A11 x4.length c_11)] _ _ := h46
                    refine RJ.run ttok 1 rfl ?_
                    refine RJ.op rfl rfl (op_store ttok 2 rfl h46 rfl rfl rfl rfl rfl rfl rfl) ?_
                    intro _ w30 h47
                    replace h47 : St w0 F0 [boxC b3 86 [.int .i64 a3.1, .slice A5 a3.2.1.length c_5, .slice A6 a3.2.2.1.length c_6, .slice A9 x1.length c_9, .slice A17 r4.length c_17], boxC b7 135 [.string ⟨⟨(gt a1.2.2.2.1 x5).1⟩⟩, .bool ((gt a1.2.2.2.1 x5).2.1), .string ⟨⟨(gt a1.2.2.2.1 x5).2.2⟩⟩], boxC b2 86 [.int .i64 a1.1, .slice A1 a1.2.1.length c_1, .slice A2 a1.2.2.1.length c_2, .slice A3 a1.2.2.2.1.length c_3, .slice A4 a1.2.2.2.2.length c_4], boxC b4 86 [.int .i64 0, .slice none ([] : List (Int)).length 0, .slice none ([] : List (List UInt8)).length 0, .slice none ([] : List (List UInt8 × Bool × List UInt8)).length 0, .slice none ([] : List (List UInt8 × List UInt8)).length 0], boxC b5 86 [.int .i64 0, .slice none ([] : List (Int)).length 0, .slice none ([] : List (List UInt8)).length 0, .slice none ([] : List (List UInt8 × Bool × List UInt8)).length 0, .slice none ([] : List (List UInt8 × List UInt8)).length 0], ownC 135 (.pair .str (.pair .bool .str)) x4 (.slice A11 x4.length c_11)] _ _ := h47
                    refine RJ.fin [(2, .int .i64 a2), (4, .int .i64 a4), (6, .pointer (some ⟨b2, 0, none⟩)), (8, .pointer (some ⟨b3, 0, none⟩)), (10, .pointer (some ⟨b4, 0, none⟩)), (11, .pointer (some ⟨b5, 0, none⟩)), (13, .int .i64 (w64 (a0.2.2.2.2.1 - (a3.2.2.2.1.length : Int)))), (14, .int .i64 (w64 (x3 + 1))), (15, .slice A11 x4.length c_11), (16, .int .i64 x5)] rfl ?_
                    refine J.region ?_
                    refine RJ.run ttok 3 rfl ?_
                    refine RJ.fin [(2, .int .i64 a2), (4, .int .i64 a4), (6, .pointer (some ⟨b2, 0, none⟩)), (8, .pointer (some ⟨b3, 0, none⟩)), (10, .pointer (some ⟨b4, 0, none⟩)), (11, .pointer (some ⟨b5, 0, none⟩)), (13, .int .i64 (w64 (a0.2.2.2.2.1 - (a3.2.2.2.1.length : Int)))), (14, .int .i64 (w64 (x3 + 1))), (15, .slice A11 x4.length c_11), (16, .int .i64 (w64 (x5 + 1)))] rfl ?_
                    have h48 := ((h47.only [2, 0, 1, 1, 1] rfl).rds [2, 3, 4, 5, 6, 7, 8, 0] rfl)
                    exact ⟨k1, by omega, x1, A9, c_9, r4, A17, c_17, (w64 (x3 + 1)), x4, A11, c_11, (w64 (x5 + 1)), rfl, h48, H⟩
                  · replace H := ite_f c10 H
                    refine J.region ?_
                    refine RJ.run ttok 1 rfl ?_
                    refine RJ.q rfl rfl (q_load_box ttok 2 (fun w e => e ▸ h22.wh) rfl rfl rfl rfl rfl) ?_
                    refine RJ.q rfl rfl (q_load_box ttok 0 (fun w e => e ▸ h22.wh) rfl rfl rfl rfl rfl) ?_
                    obtain ⟨r5, q5, H⟩ := bind_t H
                    refine RJ.op rfl rfl (op_call [] (sluicegateref10_Put.spec q5) rfl rfl rfl h22 rfl (gcons (Gives.self 12 rfl) gnil)) ?_
                    rintro _ w31 ⟨_, ⟨A18, c_18, rfl, rfl⟩, h49⟩
                    replace h49 : St w0 F0 [ownC 135 (.pair .str (.pair .bool .str)) r5 (.slice A18 r5.length c_18), boxC b7 135 [.string ⟨⟨(gt a1.2.2.2.1 x5).1⟩⟩, .bool ((gt a1.2.2.2.1 x5).2.1), .string ⟨⟨(gt a1.2.2.2.1 x5).2.2⟩⟩], boxC b2 86 [.int .i64 a1.1, .slice A1 a1.2.1.length c_1, .slice A2 a1.2.2.1.length c_2, .slice A3 a1.2.2.2.1.length c_3, .slice A4 a1.2.2.2.2.length c_4], boxC b3 86 [.int .i64 a3.1, .slice A5 a3.2.1.length c_5, .slice A6 a3.2.2.1.length c_6, .slice A9 x1.length c_9, .slice A10 x2.length c_10], boxC b4 86 [.int .i64 0, .slice none ([] : List (Int)).length 0, .slice none ([] : List (List UInt8)).length 0, .slice none ([] : List (List UInt8 × Bool × List UInt8)).length 0, .slice none ([] : List (List UInt8 × List UInt8)).length 0], boxC b5 86 [.int .i64 0, .slice none ([] : List (Int)).length 0, .slice none ([] : List (List UInt8)).length 0, .slice none ([] : List (List UInt8 × Bool × List UInt8)).length 0, .slice none ([] : List (List UInt8 × List UInt8)).length 0], ownC 135 (.pair .str (.pair .bool .str)) x4 (.slice A11 x4.length c_11)] _ _ := h49
                    refine RJ.run ttok 1 rfl ?_
                    refine RJ.op rfl rfl (op_store ttok 3 rfl h49 rfl rfl rfl rfl rfl rfl rfl) ?_
                    intro _ w32 h50
                    replace h50 : St w0 F0 [boxC b3 86 [.int .i64 a3.1, .slice A5 a3.2.1.length c_5, .slice A6 a3.2.2.1.length c_6, .slice A18 r5.length c_18, .slice A10 x2.length c_10], ownC 135 (.pair .str (.pair .bool .str)) r5 (.slice A18 r5.length c_18), boxC b7 135 [.string ⟨⟨(gt a1.2.2.2.1 x5).1⟩⟩, .bool ((gt a1.2.2.2.1 x5).2.1), .string ⟨⟨(gt a1.2.2.2.1 x5).2.2⟩⟩], boxC b2 86 [.int .i64 a1.1, .slice A1 a1.2.1.length c_1, .slice A2 a1.2.2.1.length c_2, .slice A3 a1.2.2.2.1.length c_3, .slice A4 a1.2.2.2.2.length c_4], boxC b4 86 [.int .i64 0, .slice none ([] : List (Int)).length 0, .slice none ([] : List (List UInt8)).length 0, .slice none ([] : List (List UInt8 × Bool × List UInt8)).length 0, .slice none ([] : List (List UInt8 × List UInt8)).length 0], boxC b5 86 [.int .i64 0, .slice none ([] : List (Int)).length 0, .slice none ([] : List (List UInt8)).length 0, .slice none ([] : List (List UInt8 × Bool × List UInt8)).length 0, .slice none ([] : List (List UInt8 × List UInt8)).length 0], ownC 135 (.pair .str (.pair .bool .str)) x4 (.slice A11 x4.length c_11)] _ _ := h50
                    refine RJ.fin [(2, .int .i64 a2), (4, .int .i64 a4), (6, .pointer (some ⟨b2, 0, none⟩)), (8, .pointer (some ⟨b3, 0, none⟩)), (10, .pointer (some ⟨b4, 0, none⟩)), (11, .pointer (some ⟨b5, 0, none⟩)), (13, .int .i64 (w64 (a0.2.2.2.2.1 - (a3.2.2.2.1.length : Int)))), (14, .int .i64 (w64 (x3 + 1))), (15, .slice A11 x4.length c_11), (16, .int .i64 x5)] rfl ?_
                    refine J.region ?_
                    refine RJ.run ttok 3 rfl ?_
                    refine RJ.fin [(2, .int .i64 a2), (4, .int .i64 a4), (6, .pointer (some ⟨b2, 0, none⟩)), (8, .pointer (some ⟨b3, 0, none⟩)), (10, .pointer (some ⟨b4, 0, none⟩)), (11, .pointer (some ⟨b5, 0, none⟩)), (13, .int .i64 (w64 (a0.2.2.2.2.1 - (a3.2.2.2.1.length : Int)))), (14, .int .i64 (w64 (x3 + 1))), (15, .slice A11 x4.length c_11), (16, .int .i64 (w64 (x5 + 1)))] rfl ?_
                    have h51 := h50.freeze (k := 1) rfl own_rd
                    have h52 := ((h51.only [2, 0, 1, 1, 1] rfl).rds [1, 2, 3, 4, 5, 6, 0, 8] rfl)
                    exact ⟨k1, by omega, r5, A18, c_18, x2, A10, c_10, (w64 (x3 + 1)), x4, A11, c_11, (w64 (x5 + 1)), rfl, h52, H⟩
          · replace H := ite_f c4 H
            refine J.exit ?_
            refine J.seq ?_
            refine J.region ?_
            refine RJ.run ttok 2 rfl ?_
            refine RJ.op rfl rfl (op_store ttok 0 rfl h19 rfl rfl rfl rfl rfl rfl rfl) ?_
            intro _ w33 h53
            replace h53 : St w0 F0 [boxC b2 86 [.int .i64 a1.1, .slice A1 a1.2.1.length c_1, .slice A2 a1.2.2.1.length c_2, .slice A11 x4.length c_11, .slice A4 a1.2.2.2.2.length c_4], boxC b3 86 [.int .i64 a3.1, .slice A5 a3.2.1.length c_5, .slice A6 a3.2.2.1.length c_6, .slice A9 x1.length c_9, .slice A10 x2.length c_10], boxC b4 86 [.int .i64 0, .slice none ([] : List (Int)).length 0, .slice none ([] : List (List UInt8)).length 0, .slice none ([] : List (List UInt8 × Bool × List UInt8)).length 0, .slice none ([] : List (List UInt8 × List UInt8)).length 0], boxC b5 86 [.int .i64 0, .slice none ([] : List (Int)).length 0, .slice none ([] : List (List UInt8)).length 0, .slice none ([] : List (List UInt8 × Bool × List UInt8)).length 0, .slice none ([] : List (List UInt8 × List UInt8)).length 0], ownC 135 (.pair .str (.pair .bool .str)) x4 (.slice A11 x4.length c_11)] _ _ := h53
            refine RJ.fin [(6, .pointer (some ⟨b2, 0, none⟩)), (8, .pointer (some ⟨b3, 0, none⟩)), (10, .pointer (some ⟨b4, 0, none⟩)), (11, .pointer (some ⟨b5, 0, none⟩)), (14, .int .i64 x3)] rfl ?_
            refine J.seq ?_
            refine J.heldSt mix (h53.only [0, 0, 2] rfl) ?_
            have h54 := h53.drew
            refine HJ.run ttok rfl [2] rfl ?_
            refine HJ.q (i := 0) rfl rfl rfl rfl rfl rfl (q_load_box ttok 0 (fun w e => e) rfl rfl rfl rfl rfl) ?_
            refine HJ.q (i := 1) rfl rfl rfl rfl rfl rfl (q_load_box ttok 1 (fun w e => e) rfl rfl rfl rfl rfl) ?_
            refine HJ.op (i := 3) rfl rfl rfl rfl rfl (op_store ttok 2 rfl h54 rfl rfl rfl rfl rfl rfl rfl) ?_
            intro _ w34 h55
            replace h55 : St w0 F0 [boxC b4 86 [.int .i64 a1.1, .slice A1 a1.2.1.length c_1, .slice A2 a1.2.2.1.length c_2, .slice A11 x4.length c_11, .slice A4 a1.2.2.2.2.length c_4], boxC b2 86 [.int .i64 a1.1, .slice A1 a1.2.1.length c_1, .slice A2 a1.2.2.1.length c_2, .slice A11 x4.length c_11, .slice A4 a1.2.2.2.2.length c_4], boxC b3 86 [.int .i64 a3.1, .slice A5 a3.2.1.length c_5, .slice A6 a3.2.2.1.length c_6, .slice A9 x1.length c_9, .slice A10 x2.length c_10], boxC b5 86 [.int .i64 0, .slice none ([] : List (Int)).length 0, .slice none ([] : List (List UInt8)).length 0, .slice none ([] : List (List UInt8 × Bool × List UInt8)).length 0, .slice none ([] : List (List UInt8 × List UInt8)).length 0], ownC 135 (.pair .str (.pair .bool .str)) x4 (.slice A11 x4.length c_11)] _ _ := h55
            refine ⟨⟨[_, _], (h55.only [0, 2, 0, 0, 0] rfl)⟩, ?_⟩
            refine HJ.op (i := 4) rfl rfl rfl rfl rfl (op_store ttok 3 rfl h55 rfl rfl rfl rfl rfl rfl rfl) ?_
            intro _ w35 h56
            replace h56 : St w0 F0 [boxC b5 86 [.int .i64 a3.1, .slice A5 a3.2.1.length c_5, .slice A6 a3.2.2.1.length c_6, .slice A9 x1.length c_9, .slice A10 x2.length c_10], boxC b4 86 [.int .i64 a1.1, .slice A1 a1.2.1.length c_1, .slice A2 a1.2.2.1.length c_2, .slice A11 x4.length c_11, .slice A4 a1.2.2.2.2.length c_4], boxC b2 86 [.int .i64 a1.1, .slice A1 a1.2.1.length c_1, .slice A2 a1.2.2.1.length c_2, .slice A11 x4.length c_11, .slice A4 a1.2.2.2.2.length c_4], boxC b3 86 [.int .i64 a3.1, .slice A5 a3.2.1.length c_5, .slice A6 a3.2.2.1.length c_6, .slice A9 x1.length c_9, .slice A10 x2.length c_10], ownC 135 (.pair .str (.pair .bool .str)) x4 (.slice A11 x4.length c_11)] _ _ := h56
            refine ⟨⟨[_, _], h56⟩, ?_⟩
            refine HJ.run ttok rfl [5] rfl ?_
            refine HJ.fin [(10, .pointer (some ⟨b4, 0, none⟩)), (11, .pointer (some ⟨b5, 0, none⟩)), (12, .int .i64 x3)] rfl rfl ?_
            have h57 := h56.only [0, 0, 2] rfl
            replace h57 : St w0 F0 [boxC b5 86 [.int .i64 a3.1, .slice A5 a3.2.1.length c_5, .slice A6 a3.2.2.1.length c_6, .slice A9 x1.length c_9, .slice A10 x2.length c_10], boxC b4 86 [.int .i64 a1.1, .slice A1 a1.2.1.length c_1, .slice A2 a1.2.2.1.length c_2, .slice A11 x4.length c_11, .slice A4 a1.2.2.2.2.length c_4], ownC 135 (.pair .str (.pair .bool .str)) x4 (.slice A11 x4.length c_11)] _ _ := h57
            refine J.ret ?_
            have h58 := h57.freeze (k := 2) rfl own_rd
            obtain rfl := Option.some.inj H
            exact ⟨_, _, _, (results_two rfl (rvcons (RV.cell ttok 1 h58 rfl rfl rfl rfl) (rvcons (RV.cell ttok 0 h58 rfl rfl rfl rfl) (rvcons (RV.tmp rfl) rvnil))) rfl), ⟨_, _, _, _, _, _, _, _, _, _, _, _, _, _, _, _, rfl, rfl, rfl⟩, (h58.only [] rfl).rds [1, 2, 0, 4, 5, 6, 7, 8] rfl⟩

end Go.SK.T
