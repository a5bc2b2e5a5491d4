/- The functions, further. -/
import Derived.Test.YtoohimccifdbeaaGreatXCodeReadsF3
set_option linter.unusedVariables false
set_option linter.unusedSimpArgs false
set_option maxRecDepth 20000
set_option maxHeartbeats 40000000
namespace Go.SK.T
open Go Go.SK Go.Proofs
def Q91.l0 : Nat → (Int × Int × Int × Int × Int × Int × Int × Int) → (List UInt8) → (Int) → (Int) → (List (List UInt8 × List UInt8)) → (Int) → (Int) → Option ((Int × List (Int) × List (List UInt8) × (List (List UInt8 × Bool × List UInt8)) × (List (List UInt8 × List UInt8))) × Int)
 | 0, _, _, _, _, _, _, _ => none
 | k + 1, a0, a1, r2, r3, x6, x7, x8 => if (decide (x8 < r3)) = true then (if (decide ((w64 ((w64 ((w64 (x7 + 3)) + a0.2.2.2.2.2.2.1)) + a0.2.2.2.2.2.2.2)) ≤ (a1.length : Int))) = true then ((Q95.f k a1 x7 1).bind fun r7 => ((Q99.f a1 (w64 (x7 + 3)) r7).bind fun r8 => ((Q95.f k a1 (w64 (x7 + 1)) 2).bind fun r9 => ((Q99.f a1 (w64 ((w64 (x7 + 3)) + a0.2.2.2.2.2.2.1)) r9).bind fun r10 => (if (x6.length + ([(r8, r10)] : List (List UInt8 × List UInt8)).length) * 32 ≤ 140737488355328 then (Q91.l0 k a0 a1 r2 r3 (x6 ++ ([(r8, r10)] : List (List UInt8 × List UInt8))) (w64 ((w64 ((w64 (x7 + 3)) + a0.2.2.2.2.2.2.1)) + a0.2.2.2.2.2.2.2)) (w64 (x8 + 1))) else none))))) else ((Q92.f k (a0.1, a0.2.1, a0.2.2.1, a0.2.2.2.1, a0.2.2.2.2.1, a0.2.2.2.2.2.1, a0.2.2.2.2.2.2.1, a0.2.2.2.2.2.2.2) (r2, ([] : List (Int)), ([] : List (List UInt8)), ([] : List (List UInt8 × Bool × List UInt8)), x6)).bind fun r5 => (if (!r5) = true then (some ((0, ([] : List (Int)), ([] : List (List UInt8)), ([] : List (List UInt8 × Bool × List UInt8)), ([] : List (List UInt8 × List UInt8))), 12)) else ((Q90.f k (a0.1, a0.2.1, a0.2.2.1, a0.2.2.2.1, a0.2.2.2.2.1, a0.2.2.2.2.2.1, a0.2.2.2.2.2.2.1, a0.2.2.2.2.2.2.2) (r2, ([] : List (Int)), ([] : List (List UInt8)), ([] : List (List UInt8 × Bool × List UInt8)), x6)).bind fun r6 => (if (!decide (r6 = a1)) = true then (some ((0, ([] : List (Int)), ([] : List (List UInt8)), ([] : List (List UInt8 × Bool × List UInt8)), ([] : List (List UInt8 × List UInt8))), 12)) else (some ((r2, ([] : List (Int)), ([] : List (List UInt8)), ([] : List (List UInt8 × Bool × List UInt8)), x6), 0))))))) else ((Q92.f k (a0.1, a0.2.1, a0.2.2.1, a0.2.2.2.1, a0.2.2.2.2.1, a0.2.2.2.2.2.1, a0.2.2.2.2.2.2.1, a0.2.2.2.2.2.2.2) (r2, ([] : List (Int)), ([] : List (List UInt8)), ([] : List (List UInt8 × Bool × List UInt8)), x6)).bind fun r5 => (if (!r5) = true then (some ((0, ([] : List (Int)), ([] : List (List UInt8)), ([] : List (List UInt8 × Bool × List UInt8)), ([] : List (List UInt8 × List UInt8))), 12)) else ((Q90.f k (a0.1, a0.2.1, a0.2.2.1, a0.2.2.2.1, a0.2.2.2.2.1, a0.2.2.2.2.2.1, a0.2.2.2.2.2.2.1, a0.2.2.2.2.2.2.2) (r2, ([] : List (Int)), ([] : List (List UInt8)), ([] : List (List UInt8 × Bool × List UInt8)), x6)).bind fun r6 => (if (!decide (r6 = a1)) = true then (some ((0, ([] : List (Int)), ([] : List (List UInt8)), ([] : List (List UInt8 × Bool × List UInt8)), ([] : List (List UInt8 × List UInt8))), 12)) else (some ((r2, ([] : List (Int)), ([] : List (List UInt8)), ([] : List (List UInt8 × Bool × List UInt8)), x6), 0))))))
def Q91.l1 : Nat → (Int × Int × Int × Int × Int × Int × Int × Int) → (List UInt8) → (Int) → (Int) → (List (Int)) → (List (List UInt8)) → (List (List UInt8 × Bool × List UInt8)) → (Int) → (Int) → Option ((Int × List (Int) × List (List UInt8) × (List (List UInt8 × Bool × List UInt8)) × (List (List UInt8 × List UInt8))) × Int)
 | 0, _, _, _, _, _, _, _, _, _ => none
 | k + 1, a0, a1, r2, r4, x9, x12, x15, x16, x17 => if (decide (x17 < r4)) = true then (if (decide ((w64 ((w64 ((w64 (x16 + 4)) + a0.2.2.2.2.2.2.1)) + a0.2.2.2.2.2.2.2)) ≤ (a1.length : Int))) = true then (if 0 ≤ x16 ∧ x16 < (a1.length : Int) then ((Q95.f k a1 (w64 (x16 + 1)) 1).bind fun r11 => ((Q99.f a1 (w64 (x16 + 4)) r11).bind fun r12 => ((Q95.f k a1 (w64 (x16 + 2)) 2).bind fun r13 => ((Q99.f a1 (w64 ((w64 (x16 + 4)) + a0.2.2.2.2.2.2.1)) r13).bind fun r14 => (if (x15.length + ([(r12, (decide ((gtb a1 x16) = 2)), r14)] : List (List UInt8 × Bool × List UInt8)).length) * 40 ≤ 140737488355328 then (Q91.l1 k a0 a1 r2 r4 x9 x12 (x15 ++ ([(r12, (decide ((gtb a1 x16) = 2)), r14)] : List (List UInt8 × Bool × List UInt8))) (w64 ((w64 ((w64 (x16 + 4)) + a0.2.2.2.2.2.2.1)) + a0.2.2.2.2.2.2.2)) (w64 (x17 + 1))) else none))))) else none) else ((Q92.f k (a0.1, a0.2.1, a0.2.2.1, a0.2.2.2.1, a0.2.2.2.2.1, a0.2.2.2.2.2.1, a0.2.2.2.2.2.2.1, a0.2.2.2.2.2.2.2) (r2, x9, x12, x15, ([] : List (List UInt8 × List UInt8)))).bind fun r5 => (if (!r5) = true then (some ((0, ([] : List (Int)), ([] : List (List UInt8)), ([] : List (List UInt8 × Bool × List UInt8)), ([] : List (List UInt8 × List UInt8))), 12)) else ((Q90.f k (a0.1, a0.2.1, a0.2.2.1, a0.2.2.2.1, a0.2.2.2.2.1, a0.2.2.2.2.2.1, a0.2.2.2.2.2.2.1, a0.2.2.2.2.2.2.2) (r2, x9, x12, x15, ([] : List (List UInt8 × List UInt8)))).bind fun r6 => (if (!decide (r6 = a1)) = true then (some ((0, ([] : List (Int)), ([] : List (List UInt8)), ([] : List (List UInt8 × Bool × List UInt8)), ([] : List (List UInt8 × List UInt8))), 12)) else (some ((r2, x9, x12, x15, ([] : List (List UInt8 × List UInt8))), 0))))))) else ((Q92.f k (a0.1, a0.2.1, a0.2.2.1, a0.2.2.2.1, a0.2.2.2.2.1, a0.2.2.2.2.2.1, a0.2.2.2.2.2.2.1, a0.2.2.2.2.2.2.2) (r2, x9, x12, x15, ([] : List (List UInt8 × List UInt8)))).bind fun r5 => (if (!r5) = true then (some ((0, ([] : List (Int)), ([] : List (List UInt8)), ([] : List (List UInt8 × Bool × List UInt8)), ([] : List (List UInt8 × List UInt8))), 12)) else ((Q90.f k (a0.1, a0.2.1, a0.2.2.1, a0.2.2.2.1, a0.2.2.2.2.1, a0.2.2.2.2.2.1, a0.2.2.2.2.2.2.1, a0.2.2.2.2.2.2.2) (r2, x9, x12, x15, ([] : List (List UInt8 × List UInt8)))).bind fun r6 => (if (!decide (r6 = a1)) = true then (some ((0, ([] : List (Int)), ([] : List (List UInt8)), ([] : List (List UInt8 × Bool × List UInt8)), ([] : List (List UInt8 × List UInt8))), 12)) else (some ((r2, x9, x12, x15, ([] : List (List UInt8 × List UInt8))), 0))))))
def Q91.l2 : Nat → (Int × Int × Int × Int × Int × Int × Int × Int) → (List UInt8) → (Int) → (Int) → (Int) → (List (Int)) → (List (List UInt8)) → (Int) → Option ((Int × List (Int) × List (List UInt8) × (List (List UInt8 × Bool × List UInt8)) × (List (List UInt8 × List UInt8))) × Int)
 | 0, _, _, _, _, _, _, _, _ => none
 | k + 1, a0, a1, r2, r3, r4, x9, x18, x19 => if (decide ((w64 (x19 + 1)) < r3)) = true then (if (decide ((w64 (x19 + 1)) < a0.2.2.2.1)) = true then ((Q95.f k a1 (w64 ((w64 (8 + (w64 (4 * a0.2.2.2.1)))) + (w64 ((w64 (1 + a0.2.2.2.2.2.2.1)) * x19)))) 1).bind fun r15 => ((Q99.f a1 (w64 ((w64 ((w64 (8 + (w64 (4 * a0.2.2.2.1)))) + (w64 ((w64 (1 + a0.2.2.2.2.2.2.1)) * x19)))) + 1)) r15).bind fun r16 => (if (x18.length + ([r16] : List (List UInt8)).length) * 16 ≤ 140737488355328 then (Q91.l2 k a0 a1 r2 r3 r4 x9 (x18 ++ ([r16] : List (List UInt8))) (w64 (x19 + 1))) else none))) else (Q91.l1 k a0 a1 r2 r4 x9 x18 ([] : List (List UInt8 × Bool × List UInt8)) (w64 ((w64 (8 + (w64 (4 * a0.2.2.2.1)))) + (w64 ((w64 (1 + a0.2.2.2.2.2.2.1)) * (w64 (a0.2.2.2.1 - 1)))))) 0)) else (Q91.l1 k a0 a1 r2 r4 x9 x18 ([] : List (List UInt8 × Bool × List UInt8)) (w64 ((w64 (8 + (w64 (4 * a0.2.2.2.1)))) + (w64 ((w64 (1 + a0.2.2.2.2.2.2.1)) * (w64 (a0.2.2.2.1 - 1)))))) 0)
def Q91.l3 : Nat → (Int × Int × Int × Int × Int × Int × Int × Int) → (List UInt8) → (Int) → (Int) → (Int) → (List (Int)) → (Int) → Option ((Int × List (Int) × List (List UInt8) × (List (List UInt8 × Bool × List UInt8)) × (List (List UInt8 × List UInt8))) × Int)
 | 0, _, _, _, _, _, _, _ => none
 | k + 1, a0, a1, r2, r3, r4, x20, x21 => if (decide (x21 < r3)) = true then (if (decide (x21 < a0.2.2.2.1)) = true then ((Q95.f k a1 (w64 (8 + (w64 (4 * x21)))) 4).bind fun r17 => (if (x20.length + ([(IntKind.u32.wrap (r17))] : List (Int)).length) * 4 ≤ 140737488355328 then (Q91.l3 k a0 a1 r2 r3 r4 (x20 ++ ([(IntKind.u32.wrap (r17))] : List (Int))) (w64 (x21 + 1))) else none)) else (Q91.l2 k a0 a1 r2 r3 r4 x20 ([] : List (List UInt8)) 0)) else (Q91.l2 k a0 a1 r2 r3 r4 x20 ([] : List (List UInt8)) 0)
def Q91.f (k : Nat) (a0 : Int × Int × Int × Int × Int × Int × Int × Int) (a1 : List UInt8) : Option ((Int × List (Int) × List (List UInt8) × (List (List UInt8 × Bool × List UInt8)) × (List (List UInt8 × List UInt8))) × Int) := (Q74.f k (a0.1, a0.2.1, a0.2.2.1, a0.2.2.2.1, a0.2.2.2.2.1, a0.2.2.2.2.2.1, a0.2.2.2.2.2.2.1, a0.2.2.2.2.2.2.2)).bind fun r1 => (if (!r1) = true then (some ((0, ([] : List (Int)), ([] : List (List UInt8)), ([] : List (List UInt8 × Bool × List UInt8)), ([] : List (List UInt8 × List UInt8))), 2)) else (if (!decide ((a1.length : Int) = a0.2.1)) = true then (some ((0, ([] : List (Int)), ([] : List (List UInt8)), ([] : List (List UInt8 × Bool × List UInt8)), ([] : List (List UInt8 × List UInt8))), 12)) else ((Q95.f k a1 1 1).bind fun r2 => ((Q95.f k a1 2 2).bind fun r3 => ((Q95.f k a1 4 2).bind fun r4 => (if (decide (r2 = 0)) = true then (Q91.l0 k a0 a1 r2 r3 ([] : List (List UInt8 × List UInt8)) 8 0) else (Q91.l3 k a0 a1 r2 r3 r4 ([] : List (Int)) 0)))))))
theorem Q91.spec {k : Nat} {a0 : Int × Int × Int × Int × Int × Int × Int × Int} {a1 : List UInt8}  {r : (Int × List (Int) × List (List UInt8) × (List (List UInt8 × Bool × List UInt8)) × (List (List UInt8 × List UInt8))) × Int} (H : Q91.f k a0 a1 = some r) :
  Spec Tryz.prog 12 [.agg #[.int .i64 a0.1, .int .i64 a0.2.1, .int .i64 a0.2.2.1, .int .i64 a0.2.2.2.1, .int .i64 a0.2.2.2.2.1, .int .i64 a0.2.2.2.2.2.1, .int .i64 a0.2.2.2.2.2.2.1, .int .i64 a0.2.2.2.2.2.2.2], .string ⟨⟨a1⟩⟩] [] [] (fun v l => ∃ (A_0 : Option Addr) (c_0 : Nat) (A_1 : Option Addr) (c_1 : Nat) (A_2 : Option Addr) (c_2 : Nat) (A_3 : Option Addr) (c_3 : Nat), v = .tuple #[.agg #[.int .i64 r.1.1, .slice A_0 r.1.2.1.length c_0, .slice A_1 r.1.2.2.1.length c_1, .slice A_2 r.1.2.2.2.1.length c_2, .slice A_3 r.1.2.2.2.2.length c_3], .int .i64 r.2] ∧ l = [Zf 70 (.int .u32) r.1.2.1 (.slice A_0 r.1.2.1.length c_0), Zf 9 .str r.1.2.2.1 (.slice A_1 r.1.2.2.1.length c_1), Zf 49 (.pair .str (.pair .bool .str)) r.1.2.2.2.1 (.slice A_2 r.1.2.2.2.1.length c_2), Zf 51 (.pair .str .str) r.1.2.2.2.2 (.slice A_3 r.1.2.2.2.2.length c_3)]) := by
 refine Spec.enter Tryz.func12 rfl (by kernel_rfl) (by kernel_rfl) fun w0 F0 h0 => ?_
 unfold Q91.f at H
 refine J.seq (J.region ?_)
 refine RJ.op rfl rfl (Z2 rfl rfl h0) ?_
 rintro _ w1 ⟨b1, rfl, h1⟩
 replace h1 : St w0 F0 [Zh b1 23 [.int .i64 a0.1, .int .i64 a0.2.1, .int .i64 a0.2.2.1, .int .i64 a0.2.2.2.1, .int .i64 a0.2.2.2.2.1, .int .i64 a0.2.2.2.2.2.1, .int .i64 a0.2.2.2.2.2.2.1, .int .i64 a0.2.2.2.2.2.2.2]] _ _ := h1
 refine RJ.op rfl rfl (Ye Za rfl rfl h1) ?_
 rintro _ w2 ⟨b2, rfl, h2⟩
 replace h2 : St w0 F0 [Zh b2 29 [.int .i64 0, .slice none ([] : List (Int)).length 0, .slice none ([] : List (List UInt8)).length 0, .slice none ([] : List (List UInt8 × Bool × List UInt8)).length 0, .slice none ([] : List (List UInt8 × List UInt8)).length 0], _] _ _ := h2
 refine RJ.run Za 1 rfl (RJ.fin [(1, .string ⟨⟨a1⟩⟩), (2, .pointer (some ⟨b1, 0, none⟩)), (4, .pointer (some ⟨b2, 0, none⟩))] rfl (J.seq (J.seq (J.region ?_))))
 refine RJ.q rfl rfl (Zc Za 1 h2.wht rfl rfl rfl rfl rfl) ?_
 obtain ⟨r1, q1, H⟩ := Zj H
 refine RJ.op rfl rfl (Zd [] (Q74.spec q1) rfl rfl rfl h2 rfl Zm) ?_
 rintro _ w3 ⟨_, ⟨rfl, rfl⟩, h3⟩
 replace h3 : St w0 F0 [_, _] _ _ := h3
 refine RJ.run Za 1 rfl (RJ.fin [(1, _), (2, _), (4, _), (16, .bool (!r1))] rfl (J.cond rfl (fun c1 => ?_) (fun c1 => ?_)))
 ·replace H := Zi c1 H
  refine J.seq (J.region ?_)
  refine RJ.run Za 1 rfl (RJ.op rfl rfl (Zt Za 0 rfl h3 rfl rfl rfl rfl rfl rfl rfl) ?_)
  intro _ w4 h4
  replace h4 : St w0 F0 [Zh b2 29 [.int .i64 0, .slice none ([] : List (Int)).length 0, .slice none ([] : List (List UInt8)).length 0, .slice none ([] : List (List UInt8 × Bool × List UInt8)).length 0, .slice none ([] : List (List UInt8 × List UInt8)).length 0], _] _ _ := h4
  refine RJ.run Za 1 rfl (RJ.fin [(4, _), (5, .int .i64 2)] rfl (J.ret ?_))
  have h5 := h4.addNil 70 (.int .u32)
  have h6 := h5.addNil 9 .str
  have h7 := h6.addNil 49 (.pair .str (.pair .bool .str))
  have h8 := h7.addNil 51 (.pair .str .str)
  obtain rfl := Option.some.inj H
  exact ⟨_, _, _, (Z6 rfl (Z8 (RV.cell Za 4 h8 rfl rfl rfl rfl) (Z8 (RV.tmp rfl) Yr)) rfl), ⟨_, _, _, _, _, _, _, _, rfl, rfl⟩, h8.only [3, 2, 1, 0] rfl⟩
 replace H := Zg c1 H
 refine J.skip (J.seq (J.seq (J.region ?_)))
 refine RJ.run Za 3 rfl (RJ.q rfl rfl (Zc Za 1 h3.wht rfl rfl rfl rfl rfl) (RJ.run Za 1 rfl (RJ.fin [(1, _), (2, _), (4, _), (22, .bool (!decide ((a1.length : Int) = a0.2.1)))] rfl (J.cond rfl (fun c2 => ?_) (fun c2 => ?_)))))
 ·replace H := Zi c2 H
  refine J.seq (J.region ?_)
  refine RJ.run Za 1 rfl (RJ.op rfl rfl (Zt Za 0 rfl h3 rfl rfl rfl rfl rfl rfl rfl) ?_)
  intro _ w5 h9
  replace h9 : St w0 F0 [Zh b2 29 [.int .i64 0, .slice none ([] : List (Int)).length 0, .slice none ([] : List (List UInt8)).length 0, .slice none ([] : List (List UInt8 × Bool × List UInt8)).length 0, .slice none ([] : List (List UInt8 × List UInt8)).length 0], _] _ _ := h9
  refine RJ.run Za 1 rfl (RJ.fin [(4, _), (5, .int .i64 12)] rfl (J.ret ?_))
  have h10 := h9.addNil 70 (.int .u32)
  have h11 := h10.addNil 9 .str
  have h12 := h11.addNil 49 (.pair .str (.pair .bool .str))
  have h13 := h12.addNil 51 (.pair .str .str)
  obtain rfl := Option.some.inj H
  exact ⟨_, _, _, (Z6 rfl (Z8 (RV.cell Za 4 h13 rfl rfl rfl rfl) (Z8 (RV.tmp rfl) Yr)) rfl), ⟨_, _, _, _, _, _, _, _, rfl, rfl⟩, h13.only [3, 2, 1, 0] rfl⟩
 replace H := Zg c2 H
 refine J.skip (J.seq (J.region ?_))
 refine RJ.run Za 1 rfl ?_
 obtain ⟨r2, q2, H⟩ := Zj H
 refine RJ.op rfl rfl (Zd [] (Q95.spec q2) rfl rfl rfl h3 rfl Zm) ?_
 rintro _ w6 ⟨_, ⟨rfl, rfl⟩, h14⟩
 replace h14 : St w0 F0 [_, _] _ _ := h14
 refine RJ.run Za 1 rfl (RJ.op rfl rfl (Ye Za rfl rfl h14) ?_)
 rintro _ w7 ⟨b3, rfl, h15⟩
 replace h15 : St w0 F0 [Zh b3 29 [.int .i64 0, .slice none ([] : List (Int)).length 0, .slice none ([] : List (List UInt8)).length 0, .slice none ([] : List (List UInt8 × Bool × List UInt8)).length 0, .slice none ([] : List (List UInt8 × List UInt8)).length 0], _, _] _ _ := h15
 refine RJ.op rfl rfl (Zt Za 0 rfl h15 rfl rfl rfl rfl rfl rfl rfl) ?_
 intro _ w8 h16
 replace h16 : St w0 F0 [Zh b3 29 [.int .i64 r2, .slice none ([] : List (Int)).length 0, .slice none ([] : List (List UInt8)).length 0, .slice none ([] : List (List UInt8 × Bool × List UInt8)).length 0, .slice none ([] : List (List UInt8 × List UInt8)).length 0], _, _] _ _ := h16
 refine RJ.fin [(1, _), (2, _), (4, _), (6, .pointer (some ⟨b3, 0, none⟩))] rfl (J.seq (J.region ?_))
 refine RJ.run Za 1 rfl ?_
 obtain ⟨r3, q3, H⟩ := Zj H
 refine RJ.op rfl rfl (Zd [] (Q95.spec q3) rfl rfl rfl h16 rfl Zm) ?_
 rintro _ w9 ⟨_, ⟨rfl, rfl⟩, h17⟩
 replace h17 : St w0 F0 [_, _, _] _ _ := h17
 refine RJ.run Za 1 rfl ?_
 obtain ⟨r4, q4, H⟩ := Zj H
 refine RJ.op rfl rfl (Zd [] (Q95.spec q4) rfl rfl rfl h17 rfl Zm) ?_
 rintro _ w10 ⟨_, ⟨rfl, rfl⟩, h18⟩
 replace h18 : St w0 F0 [_, _, _] _ _ := h18
 refine RJ.run Za 2 rfl (RJ.fin [(1, _), (2, _), (4, _), (6, _), (7, .int .i64 r3), (8, .int .i64 r4)] rfl (J.seq (J.region ?_)))
 refine RJ.run Za 1 rfl (RJ.fin [(1, _), (2, _), (4, _), (6, _), (7, _), (8, _), (9, .int .i64 8)] rfl (J.seq (J.seq (J.region ?_))))
 refine RJ.run Za 1 rfl (RJ.q rfl rfl (Zc Za 0 h18.wht rfl rfl rfl rfl rfl) (RJ.run Za 1 rfl (RJ.fin [(1, _), (2, _), (4, _), (6, _), (7, _), (8, _), (9, _), (33, .bool (decide (r2 = 0)))] rfl (J.midS (fun env w => ∃ (k1 : Nat) (x1 : List (Int)) (A1 : Option Addr) (c_1 : Nat) (x2 : List (List UInt8)) (A2 : Option Addr) (c_2 : Nat) (x3 : List (List UInt8 × Bool × List UInt8)) (A3 : Option Addr) (c_3 : Nat) (x4 : List (List UInt8 × List UInt8)) (A4 : Option Addr) (c_4 : Nat) (x5 : Int), env = [(1, .string ⟨⟨a1⟩⟩), (2, .pointer (some ⟨b1, 0, none⟩)), (4, .pointer (some ⟨b2, 0, none⟩)), (6, .pointer (some ⟨b3, 0, none⟩)), (9, .int .i64 x5)] ∧ St w0 F0 [Zh b1 23 [.int .i64 a0.1, .int .i64 a0.2.1, .int .i64 a0.2.2.1, .int .i64 a0.2.2.2.1, .int .i64 a0.2.2.2.2.1, .int .i64 a0.2.2.2.2.2.1, .int .i64 a0.2.2.2.2.2.2.1, .int .i64 a0.2.2.2.2.2.2.2], Zh b2 29 [.int .i64 0, .slice none ([] : List (Int)).length 0, .slice none ([] : List (List UInt8)).length 0, .slice none ([] : List (List UInt8 × Bool × List UInt8)).length 0, .slice none ([] : List (List UInt8 × List UInt8)).length 0], Zh b3 29 [.int .i64 r2, .slice A1 x1.length c_1, .slice A2 x2.length c_2, .slice A3 x3.length c_3, .slice A4 x4.length c_4], Zf 70 (.int .u32) x1 (.slice A1 x1.length c_1), Zf 9 .str x2 (.slice A2 x2.length c_2), Zf 49 (.pair .str (.pair .bool .str)) x3 (.slice A3 x3.length c_3), Zf 51 (.pair .str .str) x4 (.slice A4 x4.length c_4)] [] w ∧ ((Q92.f k1 (a0.1, a0.2.1, a0.2.2.1, a0.2.2.2.1, a0.2.2.2.2.1, a0.2.2.2.2.2.1, a0.2.2.2.2.2.2.1, a0.2.2.2.2.2.2.2) (r2, x1, x2, x3, x4)).bind fun r5 => (if (!r5) = true then (some ((0, ([] : List (Int)), ([] : List (List UInt8)), ([] : List (List UInt8 × Bool × List UInt8)), ([] : List (List UInt8 × List UInt8))), 12)) else ((Q90.f k1 (a0.1, a0.2.1, a0.2.2.1, a0.2.2.2.1, a0.2.2.2.2.1, a0.2.2.2.2.2.1, a0.2.2.2.2.2.2.1, a0.2.2.2.2.2.2.2) (r2, x1, x2, x3, x4)).bind fun r6 => (if (!decide (r6 = a1)) = true then (some ((0, ([] : List (Int)), ([] : List (List UInt8)), ([] : List (List UInt8 × Bool × List UInt8)), ([] : List (List UInt8 × List UInt8))), 12)) else (some ((r2, x1, x2, x3, x4), 0)))))) = some r ∧ k1 ≤ k) ?_ ?_))))
 ·refine J.cond rfl (fun c5 => ?_) (fun c5 => ?_)
  ·replace H := Zi c5 H
   refine J.seq (J.region ?_)
   refine RJ.run Za 1 rfl (RJ.fin [(1, _), (2, _), (4, _), (6, _), (7, _), (9, _), (10, .int .i64 0)] rfl (J.block ?_))
   have h87 := h18.addNil 51 (.pair .str .str)
   have h88 := ((h87.only [3, 2, 1, 0] rfl).rds [] rfl)
   refine J.loop (fun kk env w => ∃ (x6 : List (List UInt8 × List UInt8)) (A5 : Option Addr) (c_5 : Nat) (x7 : Int) (x8 : Int), env = [(1, .string ⟨⟨a1⟩⟩), (2, .pointer (some ⟨b1, 0, none⟩)), (4, .pointer (some ⟨b2, 0, none⟩)), (6, .pointer (some ⟨b3, 0, none⟩)), (7, .int .i64 r3), (9, .int .i64 x7), (10, .int .i64 x8)] ∧ St w0 F0 [Zh b1 23 [.int .i64 a0.1, .int .i64 a0.2.1, .int .i64 a0.2.2.1, .int .i64 a0.2.2.2.1, .int .i64 a0.2.2.2.2.1, .int .i64 a0.2.2.2.2.2.1, .int .i64 a0.2.2.2.2.2.2.1, .int .i64 a0.2.2.2.2.2.2.2], Zh b2 29 [.int .i64 0, .slice none ([] : List (Int)).length 0, .slice none ([] : List (List UInt8)).length 0, .slice none ([] : List (List UInt8 × Bool × List UInt8)).length 0, .slice none ([] : List (List UInt8 × List UInt8)).length 0], Zh b3 29 [.int .i64 r2, .slice none ([] : List (Int)).length 0, .slice none ([] : List (List UInt8)).length 0, .slice none ([] : List (List UInt8 × Bool × List UInt8)).length 0, .slice A5 x6.length c_5], Zf 51 (.pair .str .str) x6 (.slice A5 x6.length c_5)] [] w ∧ Q91.l0 kk a0 a1 r2 r3 x6 x7 x8 = some r ∧ kk ≤ k) (k := k) ⟨([] : List (List UInt8 × List UInt8)), none, 0, 8, 0, rfl, h88, H, Nat.le_refl _⟩ ?_
   rintro k2 env w18 ⟨x6, A5, c_5, x7, x8, rfl, h36, H, hk2⟩
   cases k2 with
   | zero => exact nomatch (show none = some r from H)
   | succ k2 =>
    rw [Q91.l0] at H
    refine J.seq (J.seq (J.region ?_))
    refine RJ.run Za 4 rfl ?_
    rcases Bool.eq_false_or_eq_true (decide (x8 < r3)) with c6 | c6
    ·replace H := Zi c6 H
     refine RJ.know (t := 37) rfl (congrArg Value.bool c6) (RJ.run Za 3 rfl (RJ.q rfl rfl (Zc Za 0 h36.wht rfl rfl rfl rfl rfl) (RJ.run Za 2 rfl (RJ.q rfl rfl (Zc Za 0 h36.wht rfl rfl rfl rfl rfl) (RJ.run Za 5 rfl (RJ.fin [(1, _), (2, _), (4, _), (6, _), (7, _), (9, _), (10, _), (49, .bool (decide ((w64 ((w64 ((w64 (x7 + 3)) + a0.2.2.2.2.2.2.1)) + a0.2.2.2.2.2.2.2)) ≤ (a1.length : Int))))] rfl (J.cond rfl (fun c7 => ?_) (fun c7 => ?_))))))))
     ·replace H := Zi c7 H
      refine J.skip (J.seq (J.block (J.seq ?_)))
      obtain ⟨r7, q7, H⟩ := Zj H
      obtain ⟨r8, q8, H⟩ := Zj H
      obtain ⟨r9, q9, H⟩ := Zj H
      obtain ⟨r10, q10, H⟩ := Zj H
      obtain ⟨p1, H⟩ := Zo H
      refine J.midS (fun env w => ∃ (A6 : Option Addr) (c_6 : Nat), env = [(1, .string ⟨⟨a1⟩⟩), (2, .pointer (some ⟨b1, 0, none⟩)), (4, .pointer (some ⟨b2, 0, none⟩)), (6, .pointer (some ⟨b3, 0, none⟩)), (7, .int .i64 r3), (9, .int .i64 x7), (10, .int .i64 x8)] ∧ St w0 F0 [Zh b3 29 [.int .i64 r2, .slice none ([] : List (Int)).length 0, .slice none ([] : List (List UInt8)).length 0, .slice none ([] : List (List UInt8 × Bool × List UInt8)).length 0, .slice A6 (x6 ++ ([(r8, r10)] : List (List UInt8 × List UInt8))).length c_6], Zf 51 (.pair .str .str) (x6 ++ ([(r8, r10)] : List (List UInt8 × List UInt8))) (.slice A6 (x6 ++ ([(r8, r10)] : List (List UInt8 × List UInt8))).length c_6), Zh b1 23 [.int .i64 a0.1, .int .i64 a0.2.1, .int .i64 a0.2.2.1, .int .i64 a0.2.2.2.1, .int .i64 a0.2.2.2.2.1, .int .i64 a0.2.2.2.2.2.1, .int .i64 a0.2.2.2.2.2.2.1, .int .i64 a0.2.2.2.2.2.2.2], Zh b2 29 [.int .i64 0, .slice none ([] : List (Int)).length 0, .slice none ([] : List (List UInt8)).length 0, .slice none ([] : List (List UInt8 × Bool × List UInt8)).length 0, .slice none ([] : List (List UInt8 × List UInt8)).length 0]] [] w) ?_ ?_
      ·refine J.heldSt mix (h36.only [0, 0] rfl) ?_
       have h44 := h36.drew
       refine HJ.run Za rfl [0, 2, 3, 4, 5, 6, 9, 10, 11, 12, 15, 16, 17] rfl (HJ.q (i := 13) rfl rfl rfl rfl rfl rfl (Zc Za 0 (fun w e => e) rfl rfl rfl rfl rfl) ?_)
       refine HJ.run Za rfl [14] rfl (HJ.pick [1, 7] (i := 1) rfl rfl rfl rfl ((Zs ?_ (Zs ?_ Z4))))
       ·refine HS.op (i := 1) rfl rfl rfl (OpT.ofq (Zc Za 2 h44.wht rfl rfl rfl rfl rfl)) ?_
        rintro _ _ ⟨rfl, rfl⟩
        replace h44 : St w0 F0 [_, _, _, _] _ _ := h44
        refine ⟨⟨[_, _], (h44.only [2, 2, 0, 0] rfl)⟩, ?_⟩
        refine HJ.op (i := 7) rfl rfl rfl rfl rfl (Zd [] (Q95.spec q7) rfl rfl rfl h44 rfl Zm) ?_
        rintro _ w28 ⟨_, ⟨rfl, rfl⟩, h45⟩
        replace h45 : St w0 F0 [_, _, _, _] _ _ := h45
        refine ⟨⟨[_, _], (h45.only [2, 2, 0, 0] rfl)⟩, ?_⟩
        refine HJ.op (i := 8) rfl rfl rfl rfl rfl (Zd [] (Q99.spec q8) rfl rfl rfl h45 rfl Zm) ?_
        rintro _ w29 ⟨_, ⟨rfl, rfl⟩, h46⟩
        replace h46 : St w0 F0 [_, _, _, _] _ _ := h46
        refine ⟨⟨[_, _], (h46.only [2, 2, 0, 0] rfl)⟩, ?_⟩
        refine HJ.op (i := 18) rfl rfl rfl rfl rfl (Zd [] (Q95.spec q9) rfl rfl rfl h46 rfl Zm) ?_
        rintro _ w30 ⟨_, ⟨rfl, rfl⟩, h47⟩
        replace h47 : St w0 F0 [_, _, _, _] _ _ := h47
        refine ⟨⟨[_, _], (h47.only [2, 2, 0, 0] rfl)⟩, ?_⟩
        refine HJ.op (i := 19) rfl rfl rfl rfl rfl (Zd [] (Q99.spec q10) rfl rfl rfl h47 rfl Zm) ?_
        rintro _ w31 ⟨_, ⟨rfl, rfl⟩, h48⟩
        replace h48 : St w0 F0 [_, _, _, _] _ _ := h48
        refine ⟨⟨[_, _], (h48.only [2, 2, 0, 0] rfl)⟩, ?_⟩
        refine HJ.run Za rfl [20] rfl (HJ.op (i := 21) rfl rfl rfl rfl rfl (Yd Za (.pair .str .str) rfl ([(r8, r10)] : List (List UInt8 × List UInt8)) rfl h48 rfl rfl (by decide) rfl rfl rfl rfl rfl rfl rfl) ?_)
        rintro _ w32 ⟨b5, rfl, h49⟩
        replace h49 : St w0 F0 [Zf 51 (.pair .str .str) ([(r8, r10)] : List (List UInt8 × List UInt8)) (.slice (some ⟨b5, 0, none⟩) ([(r8, r10)] : List (List UInt8 × List UInt8)).length 1), _, _, _, _] _ _ := h49
        refine ⟨⟨[_, _, _], (h49.only [0, 2, 2, 0, 0] rfl)⟩, ?_⟩
        refine HJ.op (i := 22) rfl rfl rfl rfl rfl (Z7 Za rfl 4 rfl h49 rfl (Gives.of 0 rfl Zl) rfl rfl rfl rfl rfl rfl (by decide) (by decide) p1) ?_
        rintro _ w33 ⟨A7, c_7, rfl, h50⟩
        replace h50 : St w0 F0 [Zf 51 (.pair .str .str) (x6 ++ ([(r8, r10)] : List (List UInt8 × List UInt8))) (.slice A7 (x6 ++ ([(r8, r10)] : List (List UInt8 × List UInt8))).length c_7), _, _, _, _] _ _ := h50
        refine ⟨⟨[_, _, _], (h50.only [0, 0, 2, 0, 0] rfl)⟩, ?_⟩
        refine HJ.run Za rfl [23] rfl (HJ.op (i := 24) rfl rfl rfl rfl rfl (Zt Za 4 rfl h50 rfl rfl rfl rfl rfl rfl rfl) ?_)
        intro _ w34 h51
        replace h51 : St w0 F0 [Zh b3 29 [.int .i64 r2, .slice none ([] : List (Int)).length 0, .slice none ([] : List (List UInt8)).length 0, .slice none ([] : List (List UInt8 × Bool × List UInt8)).length 0, .slice A7 (x6 ++ ([(r8, r10)] : List (List UInt8 × List UInt8))).length c_7], _, _, _, _] _ _ := h51
        refine ⟨⟨[_, _, _], h51⟩, ?_⟩
        refine HJ.fin [(1, .string ⟨⟨a1⟩⟩), (2, .pointer (some ⟨b1, 0, none⟩)), (4, .pointer (some ⟨b2, 0, none⟩)), (6, .pointer (some ⟨b3, 0, none⟩)), (7, .int .i64 r3), (9, .int .i64 x7), (10, .int .i64 x8)] rfl rfl ?_
        exact Zq ⟨A7, c_7, rfl, ((h51.only [0, 0, 1, 1] rfl).rds [] rfl)⟩
       ·refine HS.op (i := 7) rfl rfl rfl (Zd [] (Q95.spec q7) rfl rfl rfl h44 rfl Zm) ?_
        rintro _ w35 ⟨_, ⟨rfl, rfl⟩, h52⟩
        replace h52 : St w0 F0 [_, _, _, _] _ _ := h52
        refine ⟨⟨[_, _], (h52.only [2, 2, 0, 0] rfl)⟩, ?_⟩
        refine HJ.pick [1, 8] (i := 1) rfl rfl rfl rfl ((Zs ?_ (Zs ?_ Z4)))
        ·refine HS.op (i := 1) rfl rfl rfl (OpT.ofq (Zc Za 2 h52.wht rfl rfl rfl rfl rfl)) ?_
         rintro _ _ ⟨rfl, rfl⟩
         replace h52 : St w0 F0 [_, _, _, _] _ _ := h52
         refine ⟨⟨[_, _], (h52.only [2, 2, 0, 0] rfl)⟩, ?_⟩
         refine HJ.op (i := 8) rfl rfl rfl rfl rfl (Zd [] (Q99.spec q8) rfl rfl rfl h52 rfl Zm) ?_
         rintro _ w37 ⟨_, ⟨rfl, rfl⟩, h53⟩
         replace h53 : St w0 F0 [_, _, _, _] _ _ := h53
         refine ⟨⟨[_, _], (h53.only [2, 2, 0, 0] rfl)⟩, ?_⟩
         refine HJ.op (i := 18) rfl rfl rfl rfl rfl (Zd [] (Q95.spec q9) rfl rfl rfl h53 rfl Zm) ?_
         rintro _ w38 ⟨_, ⟨rfl, rfl⟩, h54⟩
         replace h54 : St w0 F0 [_, _, _, _] _ _ := h54
         refine ⟨⟨[_, _], (h54.only [2, 2, 0, 0] rfl)⟩, ?_⟩
         refine HJ.op (i := 19) rfl rfl rfl rfl rfl (Zd [] (Q99.spec q10) rfl rfl rfl h54 rfl Zm) ?_
         rintro _ w39 ⟨_, ⟨rfl, rfl⟩, h55⟩
         replace h55 : St w0 F0 [_, _, _, _] _ _ := h55
         refine ⟨⟨[_, _], (h55.only [2, 2, 0, 0] rfl)⟩, ?_⟩
         refine HJ.run Za rfl [20] rfl (HJ.op (i := 21) rfl rfl rfl rfl rfl (Yd Za (.pair .str .str) rfl ([(r8, r10)] : List (List UInt8 × List UInt8)) rfl h55 rfl rfl (by decide) rfl rfl rfl rfl rfl rfl rfl) ?_)
         rintro _ w40 ⟨b6, rfl, h56⟩
         replace h56 : St w0 F0 [Zf 51 (.pair .str .str) ([(r8, r10)] : List (List UInt8 × List UInt8)) (.slice (some ⟨b6, 0, none⟩) ([(r8, r10)] : List (List UInt8 × List UInt8)).length 1), _, _, _, _] _ _ := h56
         refine ⟨⟨[_, _, _], (h56.only [0, 2, 2, 0, 0] rfl)⟩, ?_⟩
         refine HJ.op (i := 22) rfl rfl rfl rfl rfl (Z7 Za rfl 4 rfl h56 rfl (Gives.of 0 rfl Zl) rfl rfl rfl rfl rfl rfl (by decide) (by decide) p1) ?_
         rintro _ w41 ⟨A8, c_8, rfl, h57⟩
         replace h57 : St w0 F0 [Zf 51 (.pair .str .str) (x6 ++ ([(r8, r10)] : List (List UInt8 × List UInt8))) (.slice A8 (x6 ++ ([(r8, r10)] : List (List UInt8 × List UInt8))).length c_8), _, _, _, _] _ _ := h57
         refine ⟨⟨[_, _, _], (h57.only [0, 0, 2, 0, 0] rfl)⟩, ?_⟩
         refine HJ.run Za rfl [23] rfl (HJ.op (i := 24) rfl rfl rfl rfl rfl (Zt Za 4 rfl h57 rfl rfl rfl rfl rfl rfl rfl) ?_)
         intro _ w42 h58
         replace h58 : St w0 F0 [Zh b3 29 [.int .i64 r2, .slice none ([] : List (Int)).length 0, .slice none ([] : List (List UInt8)).length 0, .slice none ([] : List (List UInt8 × Bool × List UInt8)).length 0, .slice A8 (x6 ++ ([(r8, r10)] : List (List UInt8 × List UInt8))).length c_8], _, _, _, _] _ _ := h58
         refine ⟨⟨[_, _, _], h58⟩, ?_⟩
         refine HJ.fin [(1, .string ⟨⟨a1⟩⟩), (2, .pointer (some ⟨b1, 0, none⟩)), (4, .pointer (some ⟨b2, 0, none⟩)), (6, .pointer (some ⟨b3, 0, none⟩)), (7, .int .i64 r3), (9, .int .i64 x7), (10, .int .i64 x8)] rfl rfl ?_
         exact Zq ⟨A8, c_8, rfl, ((h58.only [0, 0, 1, 1] rfl).rds [] rfl)⟩
        ·refine HS.op (i := 8) rfl rfl rfl (Zd [] (Q99.spec q8) rfl rfl rfl h52 rfl Zm) ?_
         rintro _ w43 ⟨_, ⟨rfl, rfl⟩, h59⟩
         replace h59 : St w0 F0 [_, _, _, _] _ _ := h59
         refine ⟨⟨[_, _], (h59.only [2, 2, 0, 0] rfl)⟩, ?_⟩
         refine HJ.pick [1, 18] (i := 1) rfl rfl rfl rfl ((Zs ?_ (Zs ?_ Z4)))
         ·refine HS.op (i := 1) rfl rfl rfl (OpT.ofq (Zc Za 2 h59.wht rfl rfl rfl rfl rfl)) ?_
          rintro _ _ ⟨rfl, rfl⟩
          replace h59 : St w0 F0 [_, _, _, _] _ _ := h59
          refine ⟨⟨[_, _], (h59.only [2, 2, 0, 0] rfl)⟩, ?_⟩
          refine HJ.op (i := 18) rfl rfl rfl rfl rfl (Zd [] (Q95.spec q9) rfl rfl rfl h59 rfl Zm) ?_
          rintro _ w45 ⟨_, ⟨rfl, rfl⟩, h60⟩
          replace h60 : St w0 F0 [_, _, _, _] _ _ := h60
          refine ⟨⟨[_, _], (h60.only [2, 2, 0, 0] rfl)⟩, ?_⟩
          refine HJ.op (i := 19) rfl rfl rfl rfl rfl (Zd [] (Q99.spec q10) rfl rfl rfl h60 rfl Zm) ?_
          rintro _ w46 ⟨_, ⟨rfl, rfl⟩, h61⟩
          replace h61 : St w0 F0 [_, _, _, _] _ _ := h61
          refine ⟨⟨[_, _], (h61.only [2, 2, 0, 0] rfl)⟩, ?_⟩
          refine HJ.run Za rfl [20] rfl (HJ.op (i := 21) rfl rfl rfl rfl rfl (Yd Za (.pair .str .str) rfl ([(r8, r10)] : List (List UInt8 × List UInt8)) rfl h61 rfl rfl (by decide) rfl rfl rfl rfl rfl rfl rfl) ?_)
          rintro _ w47 ⟨b7, rfl, h62⟩
          replace h62 : St w0 F0 [Zf 51 (.pair .str .str) ([(r8, r10)] : List (List UInt8 × List UInt8)) (.slice (some ⟨b7, 0, none⟩) ([(r8, r10)] : List (List UInt8 × List UInt8)).length 1), _, _, _, _] _ _ := h62
          refine ⟨⟨[_, _, _], (h62.only [0, 2, 2, 0, 0] rfl)⟩, ?_⟩
          refine HJ.op (i := 22) rfl rfl rfl rfl rfl (Z7 Za rfl 4 rfl h62 rfl (Gives.of 0 rfl Zl) rfl rfl rfl rfl rfl rfl (by decide) (by decide) p1) ?_
          rintro _ w48 ⟨A9, c_9, rfl, h63⟩
          replace h63 : St w0 F0 [Zf 51 (.pair .str .str) (x6 ++ ([(r8, r10)] : List (List UInt8 × List UInt8))) (.slice A9 (x6 ++ ([(r8, r10)] : List (List UInt8 × List UInt8))).length c_9), _, _, _, _] _ _ := h63
          refine ⟨⟨[_, _, _], (h63.only [0, 0, 2, 0, 0] rfl)⟩, ?_⟩
          refine HJ.run Za rfl [23] rfl (HJ.op (i := 24) rfl rfl rfl rfl rfl (Zt Za 4 rfl h63 rfl rfl rfl rfl rfl rfl rfl) ?_)
          intro _ w49 h64
          replace h64 : St w0 F0 [Zh b3 29 [.int .i64 r2, .slice none ([] : List (Int)).length 0, .slice none ([] : List (List UInt8)).length 0, .slice none ([] : List (List UInt8 × Bool × List UInt8)).length 0, .slice A9 (x6 ++ ([(r8, r10)] : List (List UInt8 × List UInt8))).length c_9], _, _, _, _] _ _ := h64
          refine ⟨⟨[_, _, _], h64⟩, ?_⟩
          refine HJ.fin [(1, .string ⟨⟨a1⟩⟩), (2, .pointer (some ⟨b1, 0, none⟩)), (4, .pointer (some ⟨b2, 0, none⟩)), (6, .pointer (some ⟨b3, 0, none⟩)), (7, .int .i64 r3), (9, .int .i64 x7), (10, .int .i64 x8)] rfl rfl ?_
          exact Zq ⟨A9, c_9, rfl, ((h64.only [0, 0, 1, 1] rfl).rds [] rfl)⟩
         ·refine HS.op (i := 18) rfl rfl rfl (Zd [] (Q95.spec q9) rfl rfl rfl h59 rfl Zm) ?_
          rintro _ w50 ⟨_, ⟨rfl, rfl⟩, h65⟩
          replace h65 : St w0 F0 [_, _, _, _] _ _ := h65
          refine ⟨⟨[_, _], (h65.only [2, 2, 0, 0] rfl)⟩, ?_⟩
          refine HJ.pick [1, 19] (i := 1) rfl rfl rfl rfl ((Zs ?_ (Zs ?_ Z4)))
          ·refine HS.op (i := 1) rfl rfl rfl (OpT.ofq (Zc Za 2 h65.wht rfl rfl rfl rfl rfl)) ?_
           rintro _ _ ⟨rfl, rfl⟩
           replace h65 : St w0 F0 [_, _, _, _] _ _ := h65
           refine ⟨⟨[_, _], (h65.only [2, 2, 0, 0] rfl)⟩, ?_⟩
           refine HJ.op (i := 19) rfl rfl rfl rfl rfl (Zd [] (Q99.spec q10) rfl rfl rfl h65 rfl Zm) ?_
           rintro _ w52 ⟨_, ⟨rfl, rfl⟩, h66⟩
           replace h66 : St w0 F0 [_, _, _, _] _ _ := h66
           refine ⟨⟨[_, _], (h66.only [2, 2, 0, 0] rfl)⟩, ?_⟩
           refine HJ.run Za rfl [20] rfl (HJ.op (i := 21) rfl rfl rfl rfl rfl (Yd Za (.pair .str .str) rfl ([(r8, r10)] : List (List UInt8 × List UInt8)) rfl h66 rfl rfl (by decide) rfl rfl rfl rfl rfl rfl rfl) ?_)
           rintro _ w53 ⟨b8, rfl, h67⟩
           replace h67 : St w0 F0 [Zf 51 (.pair .str .str) ([(r8, r10)] : List (List UInt8 × List UInt8)) (.slice (some ⟨b8, 0, none⟩) ([(r8, r10)] : List (List UInt8 × List UInt8)).length 1), _, _, _, _] _ _ := h67
           refine ⟨⟨[_, _, _], (h67.only [0, 2, 2, 0, 0] rfl)⟩, ?_⟩
           refine HJ.op (i := 22) rfl rfl rfl rfl rfl (Z7 Za rfl 4 rfl h67 rfl (Gives.of 0 rfl Zl) rfl rfl rfl rfl rfl rfl (by decide) (by decide) p1) ?_
           rintro _ w54 ⟨A10, c_10, rfl, h68⟩
           replace h68 : St w0 F0 [Zf 51 (.pair .str .str) (x6 ++ ([(r8, r10)] : List (List UInt8 × List UInt8))) (.slice A10 (x6 ++ ([(r8, r10)] : List (List UInt8 × List UInt8))).length c_10), _, _, _, _] _ _ := h68
           refine ⟨⟨[_, _, _], (h68.only [0, 0, 2, 0, 0] rfl)⟩, ?_⟩
           refine HJ.run Za rfl [23] rfl (HJ.op (i := 24) rfl rfl rfl rfl rfl (Zt Za 4 rfl h68 rfl rfl rfl rfl rfl rfl rfl) ?_)
           intro _ w55 h69
           replace h69 : St w0 F0 [Zh b3 29 [.int .i64 r2, .slice none ([] : List (Int)).length 0, .slice none ([] : List (List UInt8)).length 0, .slice none ([] : List (List UInt8 × Bool × List UInt8)).length 0, .slice A10 (x6 ++ ([(r8, r10)] : List (List UInt8 × List UInt8))).length c_10], _, _, _, _] _ _ := h69
           refine ⟨⟨[_, _, _], h69⟩, ?_⟩
           refine HJ.fin [(1, .string ⟨⟨a1⟩⟩), (2, .pointer (some ⟨b1, 0, none⟩)), (4, .pointer (some ⟨b2, 0, none⟩)), (6, .pointer (some ⟨b3, 0, none⟩)), (7, .int .i64 r3), (9, .int .i64 x7), (10, .int .i64 x8)] rfl rfl ?_
           exact Zq ⟨A10, c_10, rfl, ((h69.only [0, 0, 1, 1] rfl).rds [] rfl)⟩
          ·refine HS.op (i := 19) rfl rfl rfl (Zd [] (Q99.spec q10) rfl rfl rfl h65 rfl Zm) ?_
           rintro _ w56 ⟨_, ⟨rfl, rfl⟩, h70⟩
           replace h70 : St w0 F0 [_, _, _, _] _ _ := h70
           refine ⟨⟨[_, _], (h70.only [2, 2, 0, 0] rfl)⟩, ?_⟩
           refine HJ.run Za rfl [20] rfl (HJ.pick [1, 21] (i := 1) rfl rfl rfl rfl ((Zs ?_ (Zs ?_ Z4))))
           ·refine HS.op (i := 1) rfl rfl rfl (OpT.ofq (Zc Za 2 h70.wht rfl rfl rfl rfl rfl)) ?_
            rintro _ _ ⟨rfl, rfl⟩
            replace h70 : St w0 F0 [_, _, _, _] _ _ := h70
            refine ⟨⟨[_, _], (h70.only [2, 2, 0, 0] rfl)⟩, ?_⟩
            refine HJ.op (i := 21) rfl rfl rfl rfl rfl (Yd Za (.pair .str .str) rfl ([(r8, r10)] : List (List UInt8 × List UInt8)) rfl h70 rfl rfl (by decide) rfl rfl rfl rfl rfl rfl rfl) ?_
            rintro _ w58 ⟨b9, rfl, h71⟩
            replace h71 : St w0 F0 [Zf 51 (.pair .str .str) ([(r8, r10)] : List (List UInt8 × List UInt8)) (.slice (some ⟨b9, 0, none⟩) ([(r8, r10)] : List (List UInt8 × List UInt8)).length 1), _, _, _, _] _ _ := h71
            refine ⟨⟨[_, _, _], (h71.only [0, 2, 2, 0, 0] rfl)⟩, ?_⟩
            refine HJ.op (i := 22) rfl rfl rfl rfl rfl (Z7 Za rfl 4 rfl h71 rfl (Gives.of 0 rfl Zl) rfl rfl rfl rfl rfl rfl (by decide) (by decide) p1) ?_
            rintro _ w59 ⟨A11, c_11, rfl, h72⟩
            replace h72 : St w0 F0 [Zf 51 (.pair .str .str) (x6 ++ ([(r8, r10)] : List (List UInt8 × List UInt8))) (.slice A11 (x6 ++ ([(r8, r10)] : List (List UInt8 × List UInt8))).length c_11), _, _, _, _] _ _ := h72
            refine ⟨⟨[_, _, _], (h72.only [0, 0, 2, 0, 0] rfl)⟩, ?_⟩
            refine HJ.run Za rfl [23] rfl (HJ.op (i := 24) rfl rfl rfl rfl rfl (Zt Za 4 rfl h72 rfl rfl rfl rfl rfl rfl rfl) ?_)
            intro _ w60 h73
            replace h73 : St w0 F0 [Zh b3 29 [.int .i64 r2, .slice none ([] : List (Int)).length 0, .slice none ([] : List (List UInt8)).length 0, .slice none ([] : List (List UInt8 × Bool × List UInt8)).length 0, .slice A11 (x6 ++ ([(r8, r10)] : List (List UInt8 × List UInt8))).length c_11], _, _, _, _] _ _ := h73
            refine ⟨⟨[_, _, _], h73⟩, ?_⟩
            refine HJ.fin [(1, .string ⟨⟨a1⟩⟩), (2, .pointer (some ⟨b1, 0, none⟩)), (4, .pointer (some ⟨b2, 0, none⟩)), (6, .pointer (some ⟨b3, 0, none⟩)), (7, .int .i64 r3), (9, .int .i64 x7), (10, .int .i64 x8)] rfl rfl ?_
            exact Zq ⟨A11, c_11, rfl, ((h73.only [0, 0, 1, 1] rfl).rds [] rfl)⟩
           ·refine HS.op (i := 21) rfl rfl rfl (Yd Za (.pair .str .str) rfl ([(r8, r10)] : List (List UInt8 × List UInt8)) rfl h70 rfl rfl (by decide) rfl rfl rfl rfl rfl rfl rfl) ?_
            rintro _ w61 ⟨b10, rfl, h74⟩
            replace h74 : St w0 F0 [Zf 51 (.pair .str .str) ([(r8, r10)] : List (List UInt8 × List UInt8)) (.slice (some ⟨b10, 0, none⟩) ([(r8, r10)] : List (List UInt8 × List UInt8)).length 1), _, _, _, _] _ _ := h74
            refine ⟨⟨[_, _, _], (h74.only [0, 2, 2, 0, 0] rfl)⟩, ?_⟩
            refine HJ.op (i := 1) rfl rfl rfl rfl rfl (OpT.ofq (Zc Za 3 h74.wht rfl rfl rfl rfl rfl)) ?_
            rintro _ _ ⟨rfl, rfl⟩
            replace h74 : St w0 F0 [_, _, _, _, _] _ _ := h74
            refine ⟨⟨[_, _, _], (h74.only [0, 2, 2, 0, 0] rfl)⟩, ?_⟩
            refine HJ.op (i := 22) rfl rfl rfl rfl rfl (Z7 Za rfl 4 rfl h74 rfl (Gives.of 0 rfl Zl) rfl rfl rfl rfl rfl rfl (by decide) (by decide) p1) ?_
            rintro _ w63 ⟨A12, c_12, rfl, h75⟩
            replace h75 : St w0 F0 [Zf 51 (.pair .str .str) (x6 ++ ([(r8, r10)] : List (List UInt8 × List UInt8))) (.slice A12 (x6 ++ ([(r8, r10)] : List (List UInt8 × List UInt8))).length c_12), _, _, _, _] _ _ := h75
            refine ⟨⟨[_, _, _], (h75.only [0, 0, 2, 0, 0] rfl)⟩, ?_⟩
            refine HJ.run Za rfl [23] rfl (HJ.op (i := 24) rfl rfl rfl rfl rfl (Zt Za 4 rfl h75 rfl rfl rfl rfl rfl rfl rfl) ?_)
            intro _ w65 h76
            replace h76 : St w0 F0 [Zh b3 29 [.int .i64 r2, .slice none ([] : List (Int)).length 0, .slice none ([] : List (List UInt8)).length 0, .slice none ([] : List (List UInt8 × Bool × List UInt8)).length 0, .slice A12 (x6 ++ ([(r8, r10)] : List (List UInt8 × List UInt8))).length c_12], _, _, _, _] _ _ := h76
            refine ⟨⟨[_, _, _], h76⟩, ?_⟩
            refine HJ.fin [(1, .string ⟨⟨a1⟩⟩), (2, .pointer (some ⟨b1, 0, none⟩)), (4, .pointer (some ⟨b2, 0, none⟩)), (6, .pointer (some ⟨b3, 0, none⟩)), (7, .int .i64 r3), (9, .int .i64 x7), (10, .int .i64 x8)] rfl rfl ?_
            exact Zq ⟨A12, c_12, rfl, ((h76.only [0, 0, 1, 1] rfl).rds [] rfl)⟩
      rintro env w66 ⟨A6, c_6, rfl, h77⟩
      refine J.region (RJ.run Za 3 rfl (RJ.q rfl rfl (Zc Za 2 h77.wht rfl rfl rfl rfl rfl) (RJ.run Za 2 rfl (RJ.q rfl rfl (Zc Za 2 h77.wht rfl rfl rfl rfl rfl) (RJ.run Za 2 rfl (RJ.fin [(1, _), (2, _), (4, _), (6, _), (7, _), (9, .int .i64 (w64 ((w64 ((w64 (x7 + 3)) + a0.2.2.2.2.2.2.1)) + a0.2.2.2.2.2.2.2))), (10, _)] rfl (J.region (RJ.run Za 3 rfl (RJ.fin [(1, _), (2, _), (4, _), (6, _), (7, _), (9, _), (10, .int .i64 (w64 (x8 + 1)))] rfl ?_)))))))))
      have h78 := ((h77.only [2, 2, 0, 0] rfl).rds [] rfl)
      exact ⟨k2, by omega, (x6 ++ ([(r8, r10)] : List (List UInt8 × List UInt8))), A6, c_6, (w64 ((w64 ((w64 (x7 + 3)) + a0.2.2.2.2.2.2.1)) + a0.2.2.2.2.2.2.2)), (w64 (x8 + 1)), rfl, h78, H, by omega⟩
     replace H := Zg c7 H
     refine J.narrow [(1, _), (2, _), (4, _), (6, _), (9, _)] rfl (J.exit ?_)
     have h79 := h36.addNil 70 (.int .u32)
     have h80 := h79.addNil 9 .str
     have h81 := h80.addNil 49 (.pair .str (.pair .bool .str))
     have h82 := ((h81.only [3, 3, 3, 2, 1, 0, 0] rfl).rds [] rfl)
     exact ⟨k2, ([] : List (Int)), none, 0, ([] : List (List UInt8)), none, 0, ([] : List (List UInt8 × Bool × List UInt8)), none, 0, x6, A5, c_5, x7, rfl, h82, H, by omega⟩
    replace H := Zg c6 H
    refine RJ.know (t := 37) rfl (congrArg Value.bool c6) (RJ.run Za 12 rfl (RJ.fin [(1, _), (2, _), (4, _), (6, _), (7, _), (9, _), (10, _), (49, .bool false)] rfl (J.condF rfl (J.narrow [(1, _), (2, _), (4, _), (6, _), (9, _)] rfl (J.exit ?_)))))
    have h83 := h36.addNil 70 (.int .u32)
    have h84 := h83.addNil 9 .str
    have h85 := h84.addNil 49 (.pair .str (.pair .bool .str))
    have h86 := ((h85.only [3, 3, 3, 2, 1, 0, 0] rfl).rds [] rfl)
    exact ⟨k2, ([] : List (Int)), none, 0, ([] : List (List UInt8)), none, 0, ([] : List (List UInt8 × Bool × List UInt8)), none, 0, x6, A5, c_5, x7, rfl, h86, H, by omega⟩
  replace H := Zg c5 H
  refine J.seq (J.seq (J.region ?_))
  refine RJ.run Za 1 rfl (RJ.fin [(1, _), (2, _), (4, _), (6, _), (7, _), (8, _), (9, _), (11, .int .i64 0)] rfl (J.midS (fun env w => ∃ (k3 : Nat) (x9 : List (Int)) (A13 : Option Addr) (c_13 : Nat) (x10 : Int) (x11 : Bool), env = [(1, .string ⟨⟨a1⟩⟩), (2, .pointer (some ⟨b1, 0, none⟩)), (4, .pointer (some ⟨b2, 0, none⟩)), (6, .pointer (some ⟨b3, 0, none⟩)), (7, .int .i64 r3), (8, .int .i64 r4), (9, .int .i64 8), (11, .int .i64 x10), (92, .bool x11)] ∧ St w0 F0 [Zh b1 23 [.int .i64 a0.1, .int .i64 a0.2.1, .int .i64 a0.2.2.1, .int .i64 a0.2.2.2.1, .int .i64 a0.2.2.2.2.1, .int .i64 a0.2.2.2.2.2.1, .int .i64 a0.2.2.2.2.2.2.1, .int .i64 a0.2.2.2.2.2.2.2], Zh b2 29 [.int .i64 0, .slice none ([] : List (Int)).length 0, .slice none ([] : List (List UInt8)).length 0, .slice none ([] : List (List UInt8 × Bool × List UInt8)).length 0, .slice none ([] : List (List UInt8 × List UInt8)).length 0], Zh b3 29 [.int .i64 r2, .slice A13 x9.length c_13, .slice none ([] : List (List UInt8)).length 0, .slice none ([] : List (List UInt8 × Bool × List UInt8)).length 0, .slice none ([] : List (List UInt8 × List UInt8)).length 0], Zf 70 (.int .u32) x9 (.slice A13 x9.length c_13)] [] w ∧ (Q91.l2 k3 a0 a1 r2 r3 r4 x9 ([] : List (List UInt8)) 0) = some r ∧ k3 ≤ k) ?_ ?_))
  ·refine J.block ?_
   have h191 := h18.addNil 70 (.int .u32)
   have h192 := ((h191.only [3, 2, 1, 0] rfl).rds [] rfl)
   refine J.loop (fun kk env w => ∃ (x20 : List (Int)) (A29 : Option Addr) (c_29 : Nat) (x21 : Int), env = [(1, .string ⟨⟨a1⟩⟩), (2, .pointer (some ⟨b1, 0, none⟩)), (4, .pointer (some ⟨b2, 0, none⟩)), (6, .pointer (some ⟨b3, 0, none⟩)), (7, .int .i64 r3), (8, .int .i64 r4), (9, .int .i64 8), (11, .int .i64 x21)] ∧ St w0 F0 [Zh b1 23 [.int .i64 a0.1, .int .i64 a0.2.1, .int .i64 a0.2.2.1, .int .i64 a0.2.2.2.1, .int .i64 a0.2.2.2.2.1, .int .i64 a0.2.2.2.2.2.1, .int .i64 a0.2.2.2.2.2.2.1, .int .i64 a0.2.2.2.2.2.2.2], Zh b2 29 [.int .i64 0, .slice none ([] : List (Int)).length 0, .slice none ([] : List (List UInt8)).length 0, .slice none ([] : List (List UInt8 × Bool × List UInt8)).length 0, .slice none ([] : List (List UInt8 × List UInt8)).length 0], Zh b3 29 [.int .i64 r2, .slice A29 x20.length c_29, .slice none ([] : List (List UInt8)).length 0, .slice none ([] : List (List UInt8 × Bool × List UInt8)).length 0, .slice none ([] : List (List UInt8 × List UInt8)).length 0], Zf 70 (.int .u32) x20 (.slice A29 x20.length c_29)] [] w ∧ Q91.l3 kk a0 a1 r2 r3 r4 x20 x21 = some r ∧ kk ≤ k) (k := k) ⟨([] : List (Int)), none, 0, 0, rfl, h192, H, Nat.le_refl _⟩ ?_
   rintro k7 env w148 ⟨x20, A29, c_29, x21, rfl, h170, H, hk7⟩
   cases k7 with
   | zero => exact nomatch (show none = some r from H)
   | succ k7 =>
    rw [Q91.l3] at H
    refine J.seq (J.seq (J.region ?_))
    refine RJ.run Za 4 rfl ?_
    rcases Bool.eq_false_or_eq_true (decide (x21 < r3)) with c12 | c12
    ·replace H := Zi c12 H
     refine RJ.know (t := 87) rfl (congrArg Value.bool c12) (RJ.run Za 2 rfl (RJ.q rfl rfl (Zc Za 0 h170.wht rfl rfl rfl rfl rfl) (RJ.run Za 2 rfl (RJ.fin [(1, _), (2, _), (4, _), (6, _), (7, _), (8, _), (9, _), (11, _), (92, .bool (decide (x21 < a0.2.2.2.1)))] rfl (J.cond rfl (fun c13 => ?_) (fun c13 => ?_))))))
     ·replace H := Zi c13 H
      refine J.skip (J.seq (J.block ?_))
      obtain ⟨r17, q17, H⟩ := Zj H
      obtain ⟨p6, H⟩ := Zo H
      refine J.mid (fun env w => ∃ (A30 : Option Addr) (c_30 : Nat), env = [(1, .string ⟨⟨a1⟩⟩), (2, .pointer (some ⟨b1, 0, none⟩)), (4, .pointer (some ⟨b2, 0, none⟩)), (6, .pointer (some ⟨b3, 0, none⟩)), (7, .int .i64 r3), (8, .int .i64 r4), (9, .int .i64 8), (11, .int .i64 x21)] ∧ St w0 F0 [Zh b3 29 [.int .i64 r2, .slice A30 (x20 ++ ([(IntKind.u32.wrap (r17))] : List (Int))).length c_30, .slice none ([] : List (List UInt8)).length 0, .slice none ([] : List (List UInt8 × Bool × List UInt8)).length 0, .slice none ([] : List (List UInt8 × List UInt8)).length 0], Zf 70 (.int .u32) (x20 ++ ([(IntKind.u32.wrap (r17))] : List (Int))) (.slice A30 (x20 ++ ([(IntKind.u32.wrap (r17))] : List (Int))).length c_30), Zh b1 23 [.int .i64 a0.1, .int .i64 a0.2.1, .int .i64 a0.2.2.1, .int .i64 a0.2.2.2.1, .int .i64 a0.2.2.2.2.1, .int .i64 a0.2.2.2.2.2.1, .int .i64 a0.2.2.2.2.2.2.1, .int .i64 a0.2.2.2.2.2.2.2], Zh b2 29 [.int .i64 0, .slice none ([] : List (Int)).length 0, .slice none ([] : List (List UInt8)).length 0, .slice none ([] : List (List UInt8 × Bool × List UInt8)).length 0, .slice none ([] : List (List UInt8 × List UInt8)).length 0]] [] w) ?_ ?_
      ·refine J.heldSt mix (h170.only [0, 0] rfl) ?_
       have h175 := h170.drew
       refine HJ.run Za rfl [0, 2, 3, 4, 5, 6] rfl (HJ.pick [1, 7] (i := 1) rfl rfl rfl rfl ((Zs ?_ (Zs ?_ Z4))))
       ·refine HS.op (i := 1) rfl rfl rfl (OpT.ofq (Zc Za 2 h175.wht rfl rfl rfl rfl rfl)) ?_
        rintro _ _ ⟨rfl, rfl⟩
        replace h175 : St w0 F0 [_, _, _, _] _ _ := h175
        refine ⟨⟨[_, _], (h175.only [2, 2, 0, 0] rfl)⟩, ?_⟩
        refine HJ.op (i := 7) rfl rfl rfl rfl rfl (Zd [] (Q95.spec q17) rfl rfl rfl h175 rfl Zm) ?_
        rintro _ w155 ⟨_, ⟨rfl, rfl⟩, h176⟩
        replace h176 : St w0 F0 [_, _, _, _] _ _ := h176
        refine ⟨⟨[_, _], (h176.only [2, 2, 0, 0] rfl)⟩, ?_⟩
        refine HJ.run Za rfl [8] rfl (HJ.op (i := 9) rfl rfl rfl rfl rfl (Yd Za (.int .u32) rfl ([(IntKind.u32.wrap (r17))] : List (Int)) rfl h176 rfl rfl (by decide) rfl rfl rfl rfl rfl rfl rfl) ?_)
        rintro _ w156 ⟨b24, rfl, h177⟩
        replace h177 : St w0 F0 [Zf 70 (.int .u32) ([(IntKind.u32.wrap (r17))] : List (Int)) (.slice (some ⟨b24, 0, none⟩) ([(IntKind.u32.wrap (r17))] : List (Int)).length 1), _, _, _, _] _ _ := h177
        refine ⟨⟨[_, _, _], (h177.only [0, 2, 2, 0, 0] rfl)⟩, ?_⟩
        refine HJ.op (i := 10) rfl rfl rfl rfl rfl (Z7 Za rfl 4 rfl h177 rfl (Gives.of 0 rfl Zl) rfl rfl rfl rfl rfl rfl (by decide) (by decide) p6) ?_
        rintro _ w157 ⟨A31, c_31, rfl, h178⟩
        replace h178 : St w0 F0 [Zf 70 (.int .u32) (x20 ++ ([(IntKind.u32.wrap (r17))] : List (Int))) (.slice A31 (x20 ++ ([(IntKind.u32.wrap (r17))] : List (Int))).length c_31), _, _, _, _] _ _ := h178
        refine ⟨⟨[_, _, _], (h178.only [0, 0, 2, 0, 0] rfl)⟩, ?_⟩
        refine HJ.run Za rfl [11] rfl (HJ.op (i := 12) rfl rfl rfl rfl rfl (Zt Za 4 rfl h178 rfl rfl rfl rfl rfl rfl rfl) ?_)
        intro _ w158 h179
        replace h179 : St w0 F0 [Zh b3 29 [.int .i64 r2, .slice A31 (x20 ++ ([(IntKind.u32.wrap (r17))] : List (Int))).length c_31, .slice none ([] : List (List UInt8)).length 0, .slice none ([] : List (List UInt8 × Bool × List UInt8)).length 0, .slice none ([] : List (List UInt8 × List UInt8)).length 0], _, _, _, _] _ _ := h179
        refine ⟨⟨[_, _, _], h179⟩, ?_⟩
        refine HJ.fin [(1, .string ⟨⟨a1⟩⟩), (2, .pointer (some ⟨b1, 0, none⟩)), (4, .pointer (some ⟨b2, 0, none⟩)), (6, .pointer (some ⟨b3, 0, none⟩)), (7, .int .i64 r3), (8, .int .i64 r4), (9, .int .i64 8), (11, .int .i64 x21)] rfl rfl ?_
        exact Zq ⟨A31, c_31, rfl, ((h179.only [0, 0, 1, 1] rfl).rds [] rfl)⟩
       ·refine HS.op (i := 7) rfl rfl rfl (Zd [] (Q95.spec q17) rfl rfl rfl h175 rfl Zm) ?_
        rintro _ w159 ⟨_, ⟨rfl, rfl⟩, h180⟩
        replace h180 : St w0 F0 [_, _, _, _] _ _ := h180
        refine ⟨⟨[_, _], (h180.only [2, 2, 0, 0] rfl)⟩, ?_⟩
        refine HJ.run Za rfl [8] rfl (HJ.pick [1, 9] (i := 1) rfl rfl rfl rfl ((Zs ?_ (Zs ?_ Z4))))
        ·refine HS.op (i := 1) rfl rfl rfl (OpT.ofq (Zc Za 2 h180.wht rfl rfl rfl rfl rfl)) ?_
         rintro _ _ ⟨rfl, rfl⟩
         replace h180 : St w0 F0 [_, _, _, _] _ _ := h180
         refine ⟨⟨[_, _], (h180.only [2, 2, 0, 0] rfl)⟩, ?_⟩
         refine HJ.op (i := 9) rfl rfl rfl rfl rfl (Yd Za (.int .u32) rfl ([(IntKind.u32.wrap (r17))] : List (Int)) rfl h180 rfl rfl (by decide) rfl rfl rfl rfl rfl rfl rfl) ?_
         rintro _ w161 ⟨b25, rfl, h181⟩
         replace h181 : St w0 F0 [Zf 70 (.int .u32) ([(IntKind.u32.wrap (r17))] : List (Int)) (.slice (some ⟨b25, 0, none⟩) ([(IntKind.u32.wrap (r17))] : List (Int)).length 1), _, _, _, _] _ _ := h181
         refine ⟨⟨[_, _, _], (h181.only [0, 2, 2, 0, 0] rfl)⟩, ?_⟩
         refine HJ.op (i := 10) rfl rfl rfl rfl rfl (Z7 Za rfl 4 rfl h181 rfl (Gives.of 0 rfl Zl) rfl rfl rfl rfl rfl rfl (by decide) (by decide) p6) ?_
         rintro _ w162 ⟨A32, c_32, rfl, h182⟩
         replace h182 : St w0 F0 [Zf 70 (.int .u32) (x20 ++ ([(IntKind.u32.wrap (r17))] : List (Int))) (.slice A32 (x20 ++ ([(IntKind.u32.wrap (r17))] : List (Int))).length c_32), _, _, _, _] _ _ := h182
         refine ⟨⟨[_, _, _], (h182.only [0, 0, 2, 0, 0] rfl)⟩, ?_⟩
         refine HJ.run Za rfl [11] rfl (HJ.op (i := 12) rfl rfl rfl rfl rfl (Zt Za 4 rfl h182 rfl rfl rfl rfl rfl rfl rfl) ?_)
         intro _ w163 h183
         replace h183 : St w0 F0 [Zh b3 29 [.int .i64 r2, .slice A32 (x20 ++ ([(IntKind.u32.wrap (r17))] : List (Int))).length c_32, .slice none ([] : List (List UInt8)).length 0, .slice none ([] : List (List UInt8 × Bool × List UInt8)).length 0, .slice none ([] : List (List UInt8 × List UInt8)).length 0], _, _, _, _] _ _ := h183
         refine ⟨⟨[_, _, _], h183⟩, ?_⟩
         refine HJ.fin [(1, .string ⟨⟨a1⟩⟩), (2, .pointer (some ⟨b1, 0, none⟩)), (4, .pointer (some ⟨b2, 0, none⟩)), (6, .pointer (some ⟨b3, 0, none⟩)), (7, .int .i64 r3), (8, .int .i64 r4), (9, .int .i64 8), (11, .int .i64 x21)] rfl rfl ?_
         exact Zq ⟨A32, c_32, rfl, ((h183.only [0, 0, 1, 1] rfl).rds [] rfl)⟩
        ·refine HS.op (i := 9) rfl rfl rfl (Yd Za (.int .u32) rfl ([(IntKind.u32.wrap (r17))] : List (Int)) rfl h180 rfl rfl (by decide) rfl rfl rfl rfl rfl rfl rfl) ?_
         rintro _ w164 ⟨b26, rfl, h184⟩
         replace h184 : St w0 F0 [Zf 70 (.int .u32) ([(IntKind.u32.wrap (r17))] : List (Int)) (.slice (some ⟨b26, 0, none⟩) ([(IntKind.u32.wrap (r17))] : List (Int)).length 1), _, _, _, _] _ _ := h184
         refine ⟨⟨[_, _, _], (h184.only [0, 2, 2, 0, 0] rfl)⟩, ?_⟩
         refine HJ.op (i := 1) rfl rfl rfl rfl rfl (OpT.ofq (Zc Za 3 h184.wht rfl rfl rfl rfl rfl)) ?_
         rintro _ _ ⟨rfl, rfl⟩
         replace h184 : St w0 F0 [_, _, _, _, _] _ _ := h184
         refine ⟨⟨[_, _, _], (h184.only [0, 2, 2, 0, 0] rfl)⟩, ?_⟩
         refine HJ.op (i := 10) rfl rfl rfl rfl rfl (Z7 Za rfl 4 rfl h184 rfl (Gives.of 0 rfl Zl) rfl rfl rfl rfl rfl rfl (by decide) (by decide) p6) ?_
         rintro _ w166 ⟨A33, c_33, rfl, h185⟩
         replace h185 : St w0 F0 [Zf 70 (.int .u32) (x20 ++ ([(IntKind.u32.wrap (r17))] : List (Int))) (.slice A33 (x20 ++ ([(IntKind.u32.wrap (r17))] : List (Int))).length c_33), _, _, _, _] _ _ := h185
         refine ⟨⟨[_, _, _], (h185.only [0, 0, 2, 0, 0] rfl)⟩, ?_⟩
         refine HJ.run Za rfl [11] rfl (HJ.op (i := 12) rfl rfl rfl rfl rfl (Zt Za 4 rfl h185 rfl rfl rfl rfl rfl rfl rfl) ?_)
         intro _ w167 h186
         replace h186 : St w0 F0 [Zh b3 29 [.int .i64 r2, .slice A33 (x20 ++ ([(IntKind.u32.wrap (r17))] : List (Int))).length c_33, .slice none ([] : List (List UInt8)).length 0, .slice none ([] : List (List UInt8 × Bool × List UInt8)).length 0, .slice none ([] : List (List UInt8 × List UInt8)).length 0], _, _, _, _] _ _ := h186
         refine ⟨⟨[_, _, _], h186⟩, ?_⟩
         refine HJ.fin [(1, .string ⟨⟨a1⟩⟩), (2, .pointer (some ⟨b1, 0, none⟩)), (4, .pointer (some ⟨b2, 0, none⟩)), (6, .pointer (some ⟨b3, 0, none⟩)), (7, .int .i64 r3), (8, .int .i64 r4), (9, .int .i64 8), (11, .int .i64 x21)] rfl rfl ?_
         exact Zq ⟨A33, c_33, rfl, ((h186.only [0, 0, 1, 1] rfl).rds [] rfl)⟩
      rintro env w168 ⟨A30, c_30, rfl, h187⟩
      refine J.region (RJ.run Za 3 rfl (RJ.fin [(1, _), (2, _), (4, _), (6, _), (7, _), (8, _), (9, _), (11, .int .i64 (w64 (x21 + 1)))] rfl ?_))
      have h188 := ((h187.only [2, 2, 0, 0] rfl).rds [] rfl)
      exact ⟨k7, by omega, (x20 ++ ([(IntKind.u32.wrap (r17))] : List (Int))), A30, c_30, (w64 (x21 + 1)), rfl, h188, H, by omega⟩
     replace H := Zg c13 H
     refine J.exit ?_
     have h189 := ((h170.only [0, 0, 0, 0] rfl).rds [] rfl)
     exact ⟨k7, x20, A29, c_29, x21, (decide (x21 < a0.2.2.2.1)), rfl, h189, H, by omega⟩
    replace H := Zg c12 H
    refine RJ.know (t := 87) rfl (congrArg Value.bool c12) (RJ.run Za 5 rfl (RJ.fin [(1, _), (2, _), (4, _), (6, _), (7, _), (8, _), (9, _), (11, _), (92, .bool false)] rfl (J.condF rfl (J.exit ?_))))
    have h190 := ((h170.only [0, 0, 0, 0] rfl).rds [] rfl)
    exact ⟨k7, x20, A29, c_29, x21, false, rfl, h190, H, by omega⟩
  rintro env w68 ⟨k3, x9, A13, c_13, x10, x11, rfl, h89, H, hk3⟩
  refine J.seq (J.region ?_)
  refine RJ.run Za 2 rfl (RJ.q rfl rfl (Zc Za 0 h89.wht rfl rfl rfl rfl rfl) (RJ.run Za 3 rfl (RJ.fin [(1, _), (2, _), (4, _), (6, _), (7, _), (8, _), (9, .int .i64 (w64 (8 + (w64 (4 * a0.2.2.2.1)))))] rfl (J.seq (J.seq (J.region ?_))))))
  refine RJ.run Za 1 rfl (RJ.fin [(1, _), (2, _), (4, _), (6, _), (7, _), (8, _), (9, _), (12, .int .i64 0)] rfl (J.midS (fun env w => ∃ (k4 : Nat) (x12 : List (List UInt8)) (A14 : Option Addr) (c_14 : Nat) (x13 : Int) (x14 : Bool), env = [(1, .string ⟨⟨a1⟩⟩), (2, .pointer (some ⟨b1, 0, none⟩)), (4, .pointer (some ⟨b2, 0, none⟩)), (6, .pointer (some ⟨b3, 0, none⟩)), (7, .int .i64 r3), (8, .int .i64 r4), (9, .int .i64 (w64 (8 + (w64 (4 * a0.2.2.2.1))))), (12, .int .i64 x13), (122, .bool x14)] ∧ St w0 F0 [Zh b1 23 [.int .i64 a0.1, .int .i64 a0.2.1, .int .i64 a0.2.2.1, .int .i64 a0.2.2.2.1, .int .i64 a0.2.2.2.2.1, .int .i64 a0.2.2.2.2.2.1, .int .i64 a0.2.2.2.2.2.2.1, .int .i64 a0.2.2.2.2.2.2.2], Zh b2 29 [.int .i64 0, .slice none ([] : List (Int)).length 0, .slice none ([] : List (List UInt8)).length 0, .slice none ([] : List (List UInt8 × Bool × List UInt8)).length 0, .slice none ([] : List (List UInt8 × List UInt8)).length 0], Zh b3 29 [.int .i64 r2, .slice A13 x9.length c_13, .slice A14 x12.length c_14, .slice none ([] : List (List UInt8 × Bool × List UInt8)).length 0, .slice none ([] : List (List UInt8 × List UInt8)).length 0], Zf 70 (.int .u32) x9 (.slice A13 x9.length c_13), Zf 9 .str x12 (.slice A14 x12.length c_14)] [] w ∧ (Q91.l1 k4 a0 a1 r2 r4 x9 x12 ([] : List (List UInt8 × Bool × List UInt8)) (w64 ((w64 (8 + (w64 (4 * a0.2.2.2.1)))) + (w64 ((w64 (1 + a0.2.2.2.2.2.2.1)) * (w64 (a0.2.2.2.1 - 1)))))) 0) = some r ∧ k4 ≤ k3) ?_ ?_))
  ·refine J.block ?_
   have h168 := h89.addNil 9 .str
   have h169 := ((h168.only [1, 1, 1, 1, 0] rfl).rds [] rfl)
   refine J.loop (fun kk env w => ∃ (x18 : List (List UInt8)) (A23 : Option Addr) (c_23 : Nat) (x19 : Int), env = [(1, .string ⟨⟨a1⟩⟩), (2, .pointer (some ⟨b1, 0, none⟩)), (4, .pointer (some ⟨b2, 0, none⟩)), (6, .pointer (some ⟨b3, 0, none⟩)), (7, .int .i64 r3), (8, .int .i64 r4), (9, .int .i64 (w64 (8 + (w64 (4 * a0.2.2.2.1))))), (12, .int .i64 x19)] ∧ St w0 F0 [Zh b1 23 [.int .i64 a0.1, .int .i64 a0.2.1, .int .i64 a0.2.2.1, .int .i64 a0.2.2.2.1, .int .i64 a0.2.2.2.2.1, .int .i64 a0.2.2.2.2.2.1, .int .i64 a0.2.2.2.2.2.2.1, .int .i64 a0.2.2.2.2.2.2.2], Zh b2 29 [.int .i64 0, .slice none ([] : List (Int)).length 0, .slice none ([] : List (List UInt8)).length 0, .slice none ([] : List (List UInt8 × Bool × List UInt8)).length 0, .slice none ([] : List (List UInt8 × List UInt8)).length 0], Zh b3 29 [.int .i64 r2, .slice A13 x9.length c_13, .slice A23 x18.length c_23, .slice none ([] : List (List UInt8 × Bool × List UInt8)).length 0, .slice none ([] : List (List UInt8 × List UInt8)).length 0], Zf 70 (.int .u32) x9 (.slice A13 x9.length c_13), Zf 9 .str x18 (.slice A23 x18.length c_23)] [] w ∧ Q91.l2 kk a0 a1 r2 r3 r4 x9 x18 x19 = some r ∧ kk ≤ k3) (k := k3) ⟨([] : List (List UInt8)), none, 0, 0, rfl, h169, H, Nat.le_refl _⟩ ?_
   rintro k6 env w119 ⟨x18, A23, c_23, x19, rfl, h140, H, hk6⟩
   cases k6 with
   | zero => exact nomatch (show none = some r from H)
   | succ k6 =>
    rw [Q91.l2] at H
    refine J.seq (J.seq (J.region ?_))
    refine RJ.run Za 5 rfl ?_
    rcases Bool.eq_false_or_eq_true (decide ((w64 (x19 + 1)) < r3)) with c10 | c10
    ·replace H := Zi c10 H
     refine RJ.know (t := 116) rfl (congrArg Value.bool c10) (RJ.run Za 3 rfl (RJ.q rfl rfl (Zc Za 0 h140.wht rfl rfl rfl rfl rfl) (RJ.run Za 2 rfl (RJ.fin [(1, _), (2, _), (4, _), (6, _), (7, _), (8, _), (9, _), (12, _), (122, .bool (decide ((w64 (x19 + 1)) < a0.2.2.2.1)))] rfl (J.cond rfl (fun c11 => ?_) (fun c11 => ?_))))))
     ·replace H := Zi c11 H
      refine J.skip (J.seq (J.block ?_))
      obtain ⟨r15, q15, H⟩ := Zj H
      obtain ⟨r16, q16, H⟩ := Zj H
      obtain ⟨p5, H⟩ := Zo H
      refine J.mid (fun env w => ∃ (A24 : Option Addr) (c_24 : Nat), env = [(1, .string ⟨⟨a1⟩⟩), (2, .pointer (some ⟨b1, 0, none⟩)), (4, .pointer (some ⟨b2, 0, none⟩)), (6, .pointer (some ⟨b3, 0, none⟩)), (7, .int .i64 r3), (8, .int .i64 r4), (9, .int .i64 (w64 (8 + (w64 (4 * a0.2.2.2.1))))), (12, .int .i64 x19)] ∧ St w0 F0 [Zh b3 29 [.int .i64 r2, .slice A13 x9.length c_13, .slice A24 (x18 ++ ([r16] : List (List UInt8))).length c_24, .slice none ([] : List (List UInt8 × Bool × List UInt8)).length 0, .slice none ([] : List (List UInt8 × List UInt8)).length 0], Zf 9 .str (x18 ++ ([r16] : List (List UInt8))) (.slice A24 (x18 ++ ([r16] : List (List UInt8))).length c_24), Zh b1 23 [.int .i64 a0.1, .int .i64 a0.2.1, .int .i64 a0.2.2.1, .int .i64 a0.2.2.2.1, .int .i64 a0.2.2.2.2.1, .int .i64 a0.2.2.2.2.2.1, .int .i64 a0.2.2.2.2.2.2.1, .int .i64 a0.2.2.2.2.2.2.2], Zh b2 29 [.int .i64 0, .slice none ([] : List (Int)).length 0, .slice none ([] : List (List UInt8)).length 0, .slice none ([] : List (List UInt8 × Bool × List UInt8)).length 0, .slice none ([] : List (List UInt8 × List UInt8)).length 0], Zf 70 (.int .u32) x9 (.slice A13 x9.length c_13)] [] w) ?_ ?_
      ·refine J.heldSt mix (h140.only [0, 0] rfl) ?_
       have h146 := h140.drew
       refine HJ.run Za rfl [0, 2, 3, 4, 7, 11, 12, 13, 16] rfl (HJ.q (i := 5) rfl rfl rfl rfl rfl rfl (Zc Za 0 (fun w e => e) rfl rfl rfl rfl rfl) ?_)
       refine HJ.run Za rfl [6, 8, 9, 10] rfl (HJ.q (i := 14) rfl rfl rfl rfl rfl rfl (Zc Za 0 (fun w e => e) rfl rfl rfl rfl rfl) ?_)
       refine HJ.run Za rfl [15, 17, 18] rfl (HJ.pick [1, 19] (i := 1) rfl rfl rfl rfl ((Zs ?_ (Zs ?_ Z4))))
       ·refine HS.op (i := 1) rfl rfl rfl (OpT.ofq (Zc Za 2 h146.wht rfl rfl rfl rfl rfl)) ?_
        rintro _ _ ⟨rfl, rfl⟩
        replace h146 : St w0 F0 [_, _, _, _, _] _ _ := h146
        refine ⟨⟨[_, _, _], (h146.only [2, 2, 2, 0, 0] rfl)⟩, ?_⟩
        refine HJ.op (i := 19) rfl rfl rfl rfl rfl (Zd [] (Q95.spec q15) rfl rfl rfl h146 rfl Zm) ?_
        rintro _ w127 ⟨_, ⟨rfl, rfl⟩, h147⟩
        replace h147 : St w0 F0 [_, _, _, _, _] _ _ := h147
        refine ⟨⟨[_, _, _], (h147.only [2, 2, 2, 0, 0] rfl)⟩, ?_⟩
        refine HJ.op (i := 20) rfl rfl rfl rfl rfl (Zd [] (Q99.spec q16) rfl rfl rfl h147 rfl Zm) ?_
        rintro _ w128 ⟨_, ⟨rfl, rfl⟩, h148⟩
        replace h148 : St w0 F0 [_, _, _, _, _] _ _ := h148
        refine ⟨⟨[_, _, _], (h148.only [2, 2, 2, 0, 0] rfl)⟩, ?_⟩
        refine HJ.op (i := 21) rfl rfl rfl rfl rfl (Yd Za .str rfl ([r16] : List (List UInt8)) rfl h148 rfl rfl (by decide) rfl rfl rfl rfl rfl rfl rfl) ?_
        rintro _ w129 ⟨b19, rfl, h149⟩
        replace h149 : St w0 F0 [Zf 9 .str ([r16] : List (List UInt8)) (.slice (some ⟨b19, 0, none⟩) ([r16] : List (List UInt8)).length 1), _, _, _, _, _] _ _ := h149
        refine ⟨⟨[_, _, _, _], (h149.only [0, 2, 2, 2, 0, 0] rfl)⟩, ?_⟩
        refine HJ.op (i := 22) rfl rfl rfl rfl rfl (Z7 Za rfl 5 rfl h149 rfl (Gives.of 0 rfl Zl) rfl rfl rfl rfl rfl rfl (by decide) (by decide) p5) ?_
        rintro _ w130 ⟨A25, c_25, rfl, h150⟩
        replace h150 : St w0 F0 [Zf 9 .str (x18 ++ ([r16] : List (List UInt8))) (.slice A25 (x18 ++ ([r16] : List (List UInt8))).length c_25), _, _, _, _, _] _ _ := h150
        refine ⟨⟨[_, _, _, _], (h150.only [0, 0, 2, 2, 0, 0] rfl)⟩, ?_⟩
        refine HJ.run Za rfl [23] rfl (HJ.op (i := 24) rfl rfl rfl rfl rfl (Zt Za 4 rfl h150 rfl rfl rfl rfl rfl rfl rfl) ?_)
        intro _ w131 h151
        replace h151 : St w0 F0 [Zh b3 29 [.int .i64 r2, .slice A13 x9.length c_13, .slice A25 (x18 ++ ([r16] : List (List UInt8))).length c_25, .slice none ([] : List (List UInt8 × Bool × List UInt8)).length 0, .slice none ([] : List (List UInt8 × List UInt8)).length 0], _, _, _, _, _] _ _ := h151
        refine ⟨⟨[_, _, _, _], (h151.only [0, 0, 0, 2, 0, 0] rfl)⟩, ?_⟩
        refine HJ.fin [(1, .string ⟨⟨a1⟩⟩), (2, .pointer (some ⟨b1, 0, none⟩)), (4, .pointer (some ⟨b2, 0, none⟩)), (6, .pointer (some ⟨b3, 0, none⟩)), (7, .int .i64 r3), (8, .int .i64 r4), (9, .int .i64 (w64 (8 + (w64 (4 * a0.2.2.2.1))))), (12, .int .i64 x19)] rfl rfl ?_
        exact Zq ⟨A25, c_25, rfl, ((h151.only [0, 0, 1, 1, 1] rfl).rds [] rfl)⟩
       ·refine HS.op (i := 19) rfl rfl rfl (Zd [] (Q95.spec q15) rfl rfl rfl h146 rfl Zm) ?_
        rintro _ w132 ⟨_, ⟨rfl, rfl⟩, h152⟩
        replace h152 : St w0 F0 [_, _, _, _, _] _ _ := h152
        refine ⟨⟨[_, _, _], (h152.only [2, 2, 2, 0, 0] rfl)⟩, ?_⟩
        refine HJ.pick [1, 20] (i := 1) rfl rfl rfl rfl ((Zs ?_ (Zs ?_ Z4)))
        ·refine HS.op (i := 1) rfl rfl rfl (OpT.ofq (Zc Za 2 h152.wht rfl rfl rfl rfl rfl)) ?_
         rintro _ _ ⟨rfl, rfl⟩
         replace h152 : St w0 F0 [_, _, _, _, _] _ _ := h152
         refine ⟨⟨[_, _, _], (h152.only [2, 2, 2, 0, 0] rfl)⟩, ?_⟩
         refine HJ.op (i := 20) rfl rfl rfl rfl rfl (Zd [] (Q99.spec q16) rfl rfl rfl h152 rfl Zm) ?_
         rintro _ w134 ⟨_, ⟨rfl, rfl⟩, h153⟩
         replace h153 : St w0 F0 [_, _, _, _, _] _ _ := h153
         refine ⟨⟨[_, _, _], (h153.only [2, 2, 2, 0, 0] rfl)⟩, ?_⟩
         refine HJ.op (i := 21) rfl rfl rfl rfl rfl (Yd Za .str rfl ([r16] : List (List UInt8)) rfl h153 rfl rfl (by decide) rfl rfl rfl rfl rfl rfl rfl) ?_
         rintro _ w135 ⟨b20, rfl, h154⟩
         replace h154 : St w0 F0 [Zf 9 .str ([r16] : List (List UInt8)) (.slice (some ⟨b20, 0, none⟩) ([r16] : List (List UInt8)).length 1), _, _, _, _, _] _ _ := h154
         refine ⟨⟨[_, _, _, _], (h154.only [0, 2, 2, 2, 0, 0] rfl)⟩, ?_⟩
         refine HJ.op (i := 22) rfl rfl rfl rfl rfl (Z7 Za rfl 5 rfl h154 rfl (Gives.of 0 rfl Zl) rfl rfl rfl rfl rfl rfl (by decide) (by decide) p5) ?_
         rintro _ w136 ⟨A26, c_26, rfl, h155⟩
         replace h155 : St w0 F0 [Zf 9 .str (x18 ++ ([r16] : List (List UInt8))) (.slice A26 (x18 ++ ([r16] : List (List UInt8))).length c_26), _, _, _, _, _] _ _ := h155
         refine ⟨⟨[_, _, _, _], (h155.only [0, 0, 2, 2, 0, 0] rfl)⟩, ?_⟩
         refine HJ.run Za rfl [23] rfl (HJ.op (i := 24) rfl rfl rfl rfl rfl (Zt Za 4 rfl h155 rfl rfl rfl rfl rfl rfl rfl) ?_)
         intro _ w137 h156
         replace h156 : St w0 F0 [Zh b3 29 [.int .i64 r2, .slice A13 x9.length c_13, .slice A26 (x18 ++ ([r16] : List (List UInt8))).length c_26, .slice none ([] : List (List UInt8 × Bool × List UInt8)).length 0, .slice none ([] : List (List UInt8 × List UInt8)).length 0], _, _, _, _, _] _ _ := h156
         refine ⟨⟨[_, _, _, _], (h156.only [0, 0, 0, 2, 0, 0] rfl)⟩, ?_⟩
         refine HJ.fin [(1, .string ⟨⟨a1⟩⟩), (2, .pointer (some ⟨b1, 0, none⟩)), (4, .pointer (some ⟨b2, 0, none⟩)), (6, .pointer (some ⟨b3, 0, none⟩)), (7, .int .i64 r3), (8, .int .i64 r4), (9, .int .i64 (w64 (8 + (w64 (4 * a0.2.2.2.1))))), (12, .int .i64 x19)] rfl rfl ?_
         exact Zq ⟨A26, c_26, rfl, ((h156.only [0, 0, 1, 1, 1] rfl).rds [] rfl)⟩
        ·refine HS.op (i := 20) rfl rfl rfl (Zd [] (Q99.spec q16) rfl rfl rfl h152 rfl Zm) ?_
         rintro _ w138 ⟨_, ⟨rfl, rfl⟩, h157⟩
         replace h157 : St w0 F0 [_, _, _, _, _] _ _ := h157
         refine ⟨⟨[_, _, _], (h157.only [2, 2, 2, 0, 0] rfl)⟩, ?_⟩
         refine HJ.pick [1, 21] (i := 1) rfl rfl rfl rfl ((Zs ?_ (Zs ?_ Z4)))
         ·refine HS.op (i := 1) rfl rfl rfl (OpT.ofq (Zc Za 2 h157.wht rfl rfl rfl rfl rfl)) ?_
          rintro _ _ ⟨rfl, rfl⟩
          replace h157 : St w0 F0 [_, _, _, _, _] _ _ := h157
          refine ⟨⟨[_, _, _], (h157.only [2, 2, 2, 0, 0] rfl)⟩, ?_⟩
          refine HJ.op (i := 21) rfl rfl rfl rfl rfl (Yd Za .str rfl ([r16] : List (List UInt8)) rfl h157 rfl rfl (by decide) rfl rfl rfl rfl rfl rfl rfl) ?_
          rintro _ w140 ⟨b21, rfl, h158⟩
          replace h158 : St w0 F0 [Zf 9 .str ([r16] : List (List UInt8)) (.slice (some ⟨b21, 0, none⟩) ([r16] : List (List UInt8)).length 1), _, _, _, _, _] _ _ := h158
          refine ⟨⟨[_, _, _, _], (h158.only [0, 2, 2, 2, 0, 0] rfl)⟩, ?_⟩
          refine HJ.op (i := 22) rfl rfl rfl rfl rfl (Z7 Za rfl 5 rfl h158 rfl (Gives.of 0 rfl Zl) rfl rfl rfl rfl rfl rfl (by decide) (by decide) p5) ?_
          rintro _ w141 ⟨A27, c_27, rfl, h159⟩
          replace h159 : St w0 F0 [Zf 9 .str (x18 ++ ([r16] : List (List UInt8))) (.slice A27 (x18 ++ ([r16] : List (List UInt8))).length c_27), _, _, _, _, _] _ _ := h159
          refine ⟨⟨[_, _, _, _], (h159.only [0, 0, 2, 2, 0, 0] rfl)⟩, ?_⟩
          refine HJ.run Za rfl [23] rfl (HJ.op (i := 24) rfl rfl rfl rfl rfl (Zt Za 4 rfl h159 rfl rfl rfl rfl rfl rfl rfl) ?_)
          intro _ w142 h160
          replace h160 : St w0 F0 [Zh b3 29 [.int .i64 r2, .slice A13 x9.length c_13, .slice A27 (x18 ++ ([r16] : List (List UInt8))).length c_27, .slice none ([] : List (List UInt8 × Bool × List UInt8)).length 0, .slice none ([] : List (List UInt8 × List UInt8)).length 0], _, _, _, _, _] _ _ := h160
          refine ⟨⟨[_, _, _, _], (h160.only [0, 0, 0, 2, 0, 0] rfl)⟩, ?_⟩
          refine HJ.fin [(1, .string ⟨⟨a1⟩⟩), (2, .pointer (some ⟨b1, 0, none⟩)), (4, .pointer (some ⟨b2, 0, none⟩)), (6, .pointer (some ⟨b3, 0, none⟩)), (7, .int .i64 r3), (8, .int .i64 r4), (9, .int .i64 (w64 (8 + (w64 (4 * a0.2.2.2.1))))), (12, .int .i64 x19)] rfl rfl ?_
          exact Zq ⟨A27, c_27, rfl, ((h160.only [0, 0, 1, 1, 1] rfl).rds [] rfl)⟩
         ·refine HS.op (i := 21) rfl rfl rfl (Yd Za .str rfl ([r16] : List (List UInt8)) rfl h157 rfl rfl (by decide) rfl rfl rfl rfl rfl rfl rfl) ?_
          rintro _ w143 ⟨b22, rfl, h161⟩
          replace h161 : St w0 F0 [Zf 9 .str ([r16] : List (List UInt8)) (.slice (some ⟨b22, 0, none⟩) ([r16] : List (List UInt8)).length 1), _, _, _, _, _] _ _ := h161
          refine ⟨⟨[_, _, _, _], (h161.only [0, 2, 2, 2, 0, 0] rfl)⟩, ?_⟩
          refine HJ.op (i := 1) rfl rfl rfl rfl rfl (OpT.ofq (Zc Za 3 h161.wht rfl rfl rfl rfl rfl)) ?_
          rintro _ _ ⟨rfl, rfl⟩
          replace h161 : St w0 F0 [_, _, _, _, _, _] _ _ := h161
          refine ⟨⟨[_, _, _, _], (h161.only [0, 2, 2, 2, 0, 0] rfl)⟩, ?_⟩
          refine HJ.op (i := 22) rfl rfl rfl rfl rfl (Z7 Za rfl 5 rfl h161 rfl (Gives.of 0 rfl Zl) rfl rfl rfl rfl rfl rfl (by decide) (by decide) p5) ?_
          rintro _ w145 ⟨A28, c_28, rfl, h162⟩
          replace h162 : St w0 F0 [Zf 9 .str (x18 ++ ([r16] : List (List UInt8))) (.slice A28 (x18 ++ ([r16] : List (List UInt8))).length c_28), _, _, _, _, _] _ _ := h162
          refine ⟨⟨[_, _, _, _], (h162.only [0, 0, 2, 2, 0, 0] rfl)⟩, ?_⟩
          refine HJ.run Za rfl [23] rfl (HJ.op (i := 24) rfl rfl rfl rfl rfl (Zt Za 4 rfl h162 rfl rfl rfl rfl rfl rfl rfl) ?_)
          intro _ w146 h163
          replace h163 : St w0 F0 [Zh b3 29 [.int .i64 r2, .slice A13 x9.length c_13, .slice A28 (x18 ++ ([r16] : List (List UInt8))).length c_28, .slice none ([] : List (List UInt8 × Bool × List UInt8)).length 0, .slice none ([] : List (List UInt8 × List UInt8)).length 0], _, _, _, _, _] _ _ := h163
          refine ⟨⟨[_, _, _, _], (h163.only [0, 0, 0, 2, 0, 0] rfl)⟩, ?_⟩
          refine HJ.fin [(1, .string ⟨⟨a1⟩⟩), (2, .pointer (some ⟨b1, 0, none⟩)), (4, .pointer (some ⟨b2, 0, none⟩)), (6, .pointer (some ⟨b3, 0, none⟩)), (7, .int .i64 r3), (8, .int .i64 r4), (9, .int .i64 (w64 (8 + (w64 (4 * a0.2.2.2.1))))), (12, .int .i64 x19)] rfl rfl ?_
          exact Zq ⟨A28, c_28, rfl, ((h163.only [0, 0, 1, 1, 1] rfl).rds [] rfl)⟩
      rintro env w147 ⟨A24, c_24, rfl, h164⟩
      refine J.region (RJ.run Za 3 rfl (RJ.fin [(1, _), (2, _), (4, _), (6, _), (7, _), (8, _), (9, _), (12, .int .i64 (w64 (x19 + 1)))] rfl ?_))
      have h165 := ((h164.only [2, 2, 0, 1, 0] rfl).rds [] rfl)
      exact ⟨k6, by omega, (x18 ++ ([r16] : List (List UInt8))), A24, c_24, (w64 (x19 + 1)), rfl, h165, H, by omega⟩
     replace H := Zg c11 H
     refine J.exit ?_
     have h166 := ((h140.only [0, 0, 0, 0, 0] rfl).rds [] rfl)
     exact ⟨k6, x18, A23, c_23, x19, (decide ((w64 (x19 + 1)) < a0.2.2.2.1)), rfl, h166, H, by omega⟩
    replace H := Zg c10 H
    refine RJ.know (t := 116) rfl (congrArg Value.bool c10) (RJ.run Za 6 rfl (RJ.fin [(1, _), (2, _), (4, _), (6, _), (7, _), (8, _), (9, _), (12, _), (122, .bool false)] rfl (J.condF rfl (J.exit ?_))))
    have h167 := ((h140.only [0, 0, 0, 0, 0] rfl).rds [] rfl)
    exact ⟨k6, x18, A23, c_23, x19, false, rfl, h167, H, by omega⟩
  rintro env w70 ⟨k4, x12, A14, c_14, x13, x14, rfl, h90, H, hk4⟩
  refine J.seq (J.region ?_)
  refine RJ.run Za 2 rfl (RJ.q rfl rfl (Zc Za 0 h90.wht rfl rfl rfl rfl rfl) (RJ.run Za 2 rfl (RJ.q rfl rfl (Zc Za 0 h90.wht rfl rfl rfl rfl rfl) (RJ.run Za 4 rfl (RJ.fin [(1, _), (2, _), (4, _), (6, _), (8, _), (9, .int .i64 (w64 ((w64 (8 + (w64 (4 * a0.2.2.2.1)))) + (w64 ((w64 (1 + a0.2.2.2.2.2.2.1)) * (w64 (a0.2.2.2.1 - 1)))))))] rfl (J.seq (J.region ?_)))))))
  refine RJ.run Za 1 rfl (RJ.fin [(1, _), (2, _), (4, _), (6, _), (8, _), (9, _), (13, .int .i64 0)] rfl (J.block ?_))
  have h138 := h90.addNil 49 (.pair .str (.pair .bool .str))
  have h139 := ((h138.only [1, 1, 1, 1, 1, 0] rfl).rds [] rfl)
  refine J.loop (fun kk env w => ∃ (x15 : List (List UInt8 × Bool × List UInt8)) (A15 : Option Addr) (c_15 : Nat) (x16 : Int) (x17 : Int), env = [(1, .string ⟨⟨a1⟩⟩), (2, .pointer (some ⟨b1, 0, none⟩)), (4, .pointer (some ⟨b2, 0, none⟩)), (6, .pointer (some ⟨b3, 0, none⟩)), (8, .int .i64 r4), (9, .int .i64 x16), (13, .int .i64 x17)] ∧ St w0 F0 [Zh b1 23 [.int .i64 a0.1, .int .i64 a0.2.1, .int .i64 a0.2.2.1, .int .i64 a0.2.2.2.1, .int .i64 a0.2.2.2.2.1, .int .i64 a0.2.2.2.2.2.1, .int .i64 a0.2.2.2.2.2.2.1, .int .i64 a0.2.2.2.2.2.2.2], Zh b2 29 [.int .i64 0, .slice none ([] : List (Int)).length 0, .slice none ([] : List (List UInt8)).length 0, .slice none ([] : List (List UInt8 × Bool × List UInt8)).length 0, .slice none ([] : List (List UInt8 × List UInt8)).length 0], Zh b3 29 [.int .i64 r2, .slice A13 x9.length c_13, .slice A14 x12.length c_14, .slice A15 x15.length c_15, .slice none ([] : List (List UInt8 × List UInt8)).length 0], Zf 70 (.int .u32) x9 (.slice A13 x9.length c_13), Zf 9 .str x12 (.slice A14 x12.length c_14), Zf 49 (.pair .str (.pair .bool .str)) x15 (.slice A15 x15.length c_15)] [] w ∧ Q91.l1 kk a0 a1 r2 r4 x9 x12 x15 x16 x17 = some r ∧ kk ≤ k4) (k := k4) ⟨([] : List (List UInt8 × Bool × List UInt8)), none, 0, (w64 ((w64 (8 + (w64 (4 * a0.2.2.2.1)))) + (w64 ((w64 (1 + a0.2.2.2.2.2.2.1)) * (w64 (a0.2.2.2.1 - 1)))))), 0, rfl, h139, H, Nat.le_refl _⟩ ?_
  rintro k5 env w71 ⟨x15, A15, c_15, x16, x17, rfl, h91, H, hk5⟩
  cases k5 with
  | zero => exact nomatch (show none = some r from H)
  | succ k5 =>
   rw [Q91.l1] at H
   refine J.seq (J.seq (J.region ?_))
   refine RJ.run Za 4 rfl ?_
   rcases Bool.eq_false_or_eq_true (decide (x17 < r4)) with c8 | c8
   ·replace H := Zi c8 H
    refine RJ.know (t := 161) rfl (congrArg Value.bool c8) (RJ.run Za 3 rfl (RJ.q rfl rfl (Zc Za 0 h91.wht rfl rfl rfl rfl rfl) (RJ.run Za 2 rfl (RJ.q rfl rfl (Zc Za 0 h91.wht rfl rfl rfl rfl rfl) (RJ.run Za 5 rfl (RJ.fin [(1, _), (2, _), (4, _), (6, _), (8, _), (9, _), (13, _), (173, .bool (decide ((w64 ((w64 ((w64 (x16 + 4)) + a0.2.2.2.2.2.2.1)) + a0.2.2.2.2.2.2.2)) ≤ (a1.length : Int))))] rfl (J.cond rfl (fun c9 => ?_) (fun c9 => ?_))))))))
    ·replace H := Zi c9 H
     refine J.skip (J.seq (J.block (J.seq ?_)))
     obtain ⟨⟨p2, p3⟩, H⟩ := Zo H
     obtain ⟨r11, q11, H⟩ := Zj H
     obtain ⟨r12, q12, H⟩ := Zj H
     obtain ⟨r13, q13, H⟩ := Zj H
     obtain ⟨r14, q14, H⟩ := Zj H
     obtain ⟨p4, H⟩ := Zo H
     refine J.midS (fun env w => ∃ (A16 : Option Addr) (c_16 : Nat), env = [(1, .string ⟨⟨a1⟩⟩), (2, .pointer (some ⟨b1, 0, none⟩)), (4, .pointer (some ⟨b2, 0, none⟩)), (6, .pointer (some ⟨b3, 0, none⟩)), (8, .int .i64 r4), (9, .int .i64 x16), (13, .int .i64 x17)] ∧ St w0 F0 [Zh b3 29 [.int .i64 r2, .slice A13 x9.length c_13, .slice A14 x12.length c_14, .slice A16 (x15 ++ ([(r12, (decide ((gtb a1 x16) = 2)), r14)] : List (List UInt8 × Bool × List UInt8))).length c_16, .slice none ([] : List (List UInt8 × List UInt8)).length 0], Zf 49 (.pair .str (.pair .bool .str)) (x15 ++ ([(r12, (decide ((gtb a1 x16) = 2)), r14)] : List (List UInt8 × Bool × List UInt8))) (.slice A16 (x15 ++ ([(r12, (decide ((gtb a1 x16) = 2)), r14)] : List (List UInt8 × Bool × List UInt8))).length c_16), Zh b1 23 [.int .i64 a0.1, .int .i64 a0.2.1, .int .i64 a0.2.2.1, .int .i64 a0.2.2.2.1, .int .i64 a0.2.2.2.2.1, .int .i64 a0.2.2.2.2.2.1, .int .i64 a0.2.2.2.2.2.2.1, .int .i64 a0.2.2.2.2.2.2.2], Zh b2 29 [.int .i64 0, .slice none ([] : List (Int)).length 0, .slice none ([] : List (List UInt8)).length 0, .slice none ([] : List (List UInt8 × Bool × List UInt8)).length 0, .slice none ([] : List (List UInt8 × List UInt8)).length 0], Zf 70 (.int .u32) x9 (.slice A13 x9.length c_13), Zf 9 .str x12 (.slice A14 x12.length c_14)] [] w) ?_ ?_
     ·refine J.heldSt mix (h91.only [0, 0] rfl) ?_
      have h99 := h91.drew
      refine HJ.run Za rfl [0, 2, 3, 4, 5, 6, 7, 10, 11, 14, 15, 16, 17, 20, 21, 22] rfl (HJ.q (i := 12) rfl rfl rfl rfl rfl rfl (Y7 Za rfl rfl rfl rfl p2 p3) (HJ.run Za rfl [13] rfl (HJ.q (i := 18) rfl rfl rfl rfl rfl rfl (Zc Za 0 (fun w e => e) rfl rfl rfl rfl rfl) ?_)))
      refine HJ.run Za rfl [19] rfl (HJ.pick [1, 8] (i := 1) rfl rfl rfl rfl ((Zs ?_ (Zs ?_ Z4))))
      ·refine HS.op (i := 1) rfl rfl rfl (OpT.ofq (Zc Za 2 h99.wht rfl rfl rfl rfl rfl)) ?_
       rintro _ _ ⟨rfl, rfl⟩
       replace h99 : St w0 F0 [_, _, _, _, _, _] _ _ := h99
       refine ⟨⟨[_, _, _, _], (h99.only [2, 2, 2, 2, 0, 0] rfl)⟩, ?_⟩
       refine HJ.op (i := 8) rfl rfl rfl rfl rfl (Zd [] (Q95.spec q11) rfl rfl rfl h99 rfl Zm) ?_
       rintro _ w81 ⟨_, ⟨rfl, rfl⟩, h100⟩
       replace h100 : St w0 F0 [_, _, _, _, _, _] _ _ := h100
       refine ⟨⟨[_, _, _, _], (h100.only [2, 2, 2, 2, 0, 0] rfl)⟩, ?_⟩
       refine HJ.op (i := 9) rfl rfl rfl rfl rfl (Zd [] (Q99.spec q12) rfl rfl rfl h100 rfl Zm) ?_
       rintro _ w82 ⟨_, ⟨rfl, rfl⟩, h101⟩
       replace h101 : St w0 F0 [_, _, _, _, _, _] _ _ := h101
       refine ⟨⟨[_, _, _, _], (h101.only [2, 2, 2, 2, 0, 0] rfl)⟩, ?_⟩
       refine HJ.op (i := 23) rfl rfl rfl rfl rfl (Zd [] (Q95.spec q13) rfl rfl rfl h101 rfl Zm) ?_
       rintro _ w83 ⟨_, ⟨rfl, rfl⟩, h102⟩
       replace h102 : St w0 F0 [_, _, _, _, _, _] _ _ := h102
       refine ⟨⟨[_, _, _, _], (h102.only [2, 2, 2, 2, 0, 0] rfl)⟩, ?_⟩
       refine HJ.op (i := 24) rfl rfl rfl rfl rfl (Zd [] (Q99.spec q14) rfl rfl rfl h102 rfl Zm) ?_
       rintro _ w84 ⟨_, ⟨rfl, rfl⟩, h103⟩
       replace h103 : St w0 F0 [_, _, _, _, _, _] _ _ := h103
       refine ⟨⟨[_, _, _, _], (h103.only [2, 2, 2, 2, 0, 0] rfl)⟩, ?_⟩
       refine HJ.run Za rfl [25] rfl (HJ.op (i := 26) rfl rfl rfl rfl rfl (Yd Za (.pair .str (.pair .bool .str)) rfl ([(r12, (decide ((gtb a1 x16) = 2)), r14)] : List (List UInt8 × Bool × List UInt8)) rfl h103 rfl rfl (by decide) rfl rfl rfl rfl rfl rfl rfl) ?_)
       rintro _ w85 ⟨b12, rfl, h104⟩
       replace h104 : St w0 F0 [Zf 49 (.pair .str (.pair .bool .str)) ([(r12, (decide ((gtb a1 x16) = 2)), r14)] : List (List UInt8 × Bool × List UInt8)) (.slice (some ⟨b12, 0, none⟩) ([(r12, (decide ((gtb a1 x16) = 2)), r14)] : List (List UInt8 × Bool × List UInt8)).length 1), _, _, _, _, _, _] _ _ := h104
       refine ⟨⟨[_, _, _, _, _], (h104.only [0, 2, 2, 2, 2, 0, 0] rfl)⟩, ?_⟩
       refine HJ.op (i := 27) rfl rfl rfl rfl rfl (Z7 Za rfl 6 rfl h104 rfl (Gives.of 0 rfl Zl) rfl rfl rfl rfl rfl rfl (by decide) (by decide) p4) ?_
       rintro _ w86 ⟨A17, c_17, rfl, h105⟩
       replace h105 : St w0 F0 [Zf 49 (.pair .str (.pair .bool .str)) (x15 ++ ([(r12, (decide ((gtb a1 x16) = 2)), r14)] : List (List UInt8 × Bool × List UInt8))) (.slice A17 (x15 ++ ([(r12, (decide ((gtb a1 x16) = 2)), r14)] : List (List UInt8 × Bool × List UInt8))).length c_17), _, _, _, _, _, _] _ _ := h105
       refine ⟨⟨[_, _, _, _, _], (h105.only [0, 0, 2, 2, 2, 0, 0] rfl)⟩, ?_⟩
       refine HJ.run Za rfl [28] rfl (HJ.op (i := 29) rfl rfl rfl rfl rfl (Zt Za 4 rfl h105 rfl rfl rfl rfl rfl rfl rfl) ?_)
       intro _ w87 h106
       replace h106 : St w0 F0 [Zh b3 29 [.int .i64 r2, .slice A13 x9.length c_13, .slice A14 x12.length c_14, .slice A17 (x15 ++ ([(r12, (decide ((gtb a1 x16) = 2)), r14)] : List (List UInt8 × Bool × List UInt8))).length c_17, .slice none ([] : List (List UInt8 × List UInt8)).length 0], _, _, _, _, _, _] _ _ := h106
       refine ⟨⟨[_, _, _, _, _], (h106.only [0, 0, 0, 2, 2, 0, 0] rfl)⟩, ?_⟩
       refine HJ.fin [(1, .string ⟨⟨a1⟩⟩), (2, .pointer (some ⟨b1, 0, none⟩)), (4, .pointer (some ⟨b2, 0, none⟩)), (6, .pointer (some ⟨b3, 0, none⟩)), (8, .int .i64 r4), (9, .int .i64 x16), (13, .int .i64 x17)] rfl rfl ?_
       exact Zq ⟨A17, c_17, rfl, ((h106.only [0, 0, 1, 1, 1, 1] rfl).rds [] rfl)⟩
      ·refine HS.op (i := 8) rfl rfl rfl (Zd [] (Q95.spec q11) rfl rfl rfl h99 rfl Zm) ?_
       rintro _ w88 ⟨_, ⟨rfl, rfl⟩, h107⟩
       replace h107 : St w0 F0 [_, _, _, _, _, _] _ _ := h107
       refine ⟨⟨[_, _, _, _], (h107.only [2, 2, 2, 2, 0, 0] rfl)⟩, ?_⟩
       refine HJ.pick [1, 9] (i := 1) rfl rfl rfl rfl ((Zs ?_ (Zs ?_ Z4)))
       ·refine HS.op (i := 1) rfl rfl rfl (OpT.ofq (Zc Za 2 h107.wht rfl rfl rfl rfl rfl)) ?_
        rintro _ _ ⟨rfl, rfl⟩
        replace h107 : St w0 F0 [_, _, _, _, _, _] _ _ := h107
        refine ⟨⟨[_, _, _, _], (h107.only [2, 2, 2, 2, 0, 0] rfl)⟩, ?_⟩
        refine HJ.op (i := 9) rfl rfl rfl rfl rfl (Zd [] (Q99.spec q12) rfl rfl rfl h107 rfl Zm) ?_
        rintro _ w90 ⟨_, ⟨rfl, rfl⟩, h108⟩
        replace h108 : St w0 F0 [_, _, _, _, _, _] _ _ := h108
        refine ⟨⟨[_, _, _, _], (h108.only [2, 2, 2, 2, 0, 0] rfl)⟩, ?_⟩
        refine HJ.op (i := 23) rfl rfl rfl rfl rfl (Zd [] (Q95.spec q13) rfl rfl rfl h108 rfl Zm) ?_
        rintro _ w91 ⟨_, ⟨rfl, rfl⟩, h109⟩
        replace h109 : St w0 F0 [_, _, _, _, _, _] _ _ := h109
        refine ⟨⟨[_, _, _, _], (h109.only [2, 2, 2, 2, 0, 0] rfl)⟩, ?_⟩
        refine HJ.op (i := 24) rfl rfl rfl rfl rfl (Zd [] (Q99.spec q14) rfl rfl rfl h109 rfl Zm) ?_
        rintro _ w92 ⟨_, ⟨rfl, rfl⟩, h110⟩
        replace h110 : St w0 F0 [_, _, _, _, _, _] _ _ := h110
        refine ⟨⟨[_, _, _, _], (h110.only [2, 2, 2, 2, 0, 0] rfl)⟩, ?_⟩
        refine HJ.run Za rfl [25] rfl (HJ.op (i := 26) rfl rfl rfl rfl rfl (Yd Za (.pair .str (.pair .bool .str)) rfl ([(r12, (decide ((gtb a1 x16) = 2)), r14)] : List (List UInt8 × Bool × List UInt8)) rfl h110 rfl rfl (by decide) rfl rfl rfl rfl rfl rfl rfl) ?_)
        rintro _ w93 ⟨b13, rfl, h111⟩
        replace h111 : St w0 F0 [Zf 49 (.pair .str (.pair .bool .str)) ([(r12, (decide ((gtb a1 x16) = 2)), r14)] : List (List UInt8 × Bool × List UInt8)) (.slice (some ⟨b13, 0, none⟩) ([(r12, (decide ((gtb a1 x16) = 2)), r14)] : List (List UInt8 × Bool × List UInt8)).length 1), _, _, _, _, _, _] _ _ := h111
        refine ⟨⟨[_, _, _, _, _], (h111.only [0, 2, 2, 2, 2, 0, 0] rfl)⟩, ?_⟩
        refine HJ.op (i := 27) rfl rfl rfl rfl rfl (Z7 Za rfl 6 rfl h111 rfl (Gives.of 0 rfl Zl) rfl rfl rfl rfl rfl rfl (by decide) (by decide) p4) ?_
        rintro _ w94 ⟨A18, c_18, rfl, h112⟩
        replace h112 : St w0 F0 [Zf 49 (.pair .str (.pair .bool .str)) (x15 ++ ([(r12, (decide ((gtb a1 x16) = 2)), r14)] : List (List UInt8 × Bool × List UInt8))) (.slice A18 (x15 ++ ([(r12, (decide ((gtb a1 x16) = 2)), r14)] : List (List UInt8 × Bool × List UInt8))).length c_18), _, _, _, _, _, _] _ _ := h112
        refine ⟨⟨[_, _, _, _, _], (h112.only [0, 0, 2, 2, 2, 0, 0] rfl)⟩, ?_⟩
        refine HJ.run Za rfl [28] rfl (HJ.op (i := 29) rfl rfl rfl rfl rfl (Zt Za 4 rfl h112 rfl rfl rfl rfl rfl rfl rfl) ?_)
        intro _ w95 h113
        replace h113 : St w0 F0 [Zh b3 29 [.int .i64 r2, .slice A13 x9.length c_13, .slice A14 x12.length c_14, .slice A18 (x15 ++ ([(r12, (decide ((gtb a1 x16) = 2)), r14)] : List (List UInt8 × Bool × List UInt8))).length c_18, .slice none ([] : List (List UInt8 × List UInt8)).length 0], _, _, _, _, _, _] _ _ := h113
        refine ⟨⟨[_, _, _, _, _], (h113.only [0, 0, 0, 2, 2, 0, 0] rfl)⟩, ?_⟩
        refine HJ.fin [(1, .string ⟨⟨a1⟩⟩), (2, .pointer (some ⟨b1, 0, none⟩)), (4, .pointer (some ⟨b2, 0, none⟩)), (6, .pointer (some ⟨b3, 0, none⟩)), (8, .int .i64 r4), (9, .int .i64 x16), (13, .int .i64 x17)] rfl rfl ?_
        exact Zq ⟨A18, c_18, rfl, ((h113.only [0, 0, 1, 1, 1, 1] rfl).rds [] rfl)⟩
       ·refine HS.op (i := 9) rfl rfl rfl (Zd [] (Q99.spec q12) rfl rfl rfl h107 rfl Zm) ?_
        rintro _ w96 ⟨_, ⟨rfl, rfl⟩, h114⟩
        replace h114 : St w0 F0 [_, _, _, _, _, _] _ _ := h114
        refine ⟨⟨[_, _, _, _], (h114.only [2, 2, 2, 2, 0, 0] rfl)⟩, ?_⟩
        refine HJ.pick [1, 23] (i := 1) rfl rfl rfl rfl ((Zs ?_ (Zs ?_ Z4)))
        ·refine HS.op (i := 1) rfl rfl rfl (OpT.ofq (Zc Za 2 h114.wht rfl rfl rfl rfl rfl)) ?_
         rintro _ _ ⟨rfl, rfl⟩
         replace h114 : St w0 F0 [_, _, _, _, _, _] _ _ := h114
         refine ⟨⟨[_, _, _, _], (h114.only [2, 2, 2, 2, 0, 0] rfl)⟩, ?_⟩
         refine HJ.op (i := 23) rfl rfl rfl rfl rfl (Zd [] (Q95.spec q13) rfl rfl rfl h114 rfl Zm) ?_
         rintro _ w98 ⟨_, ⟨rfl, rfl⟩, h115⟩
         replace h115 : St w0 F0 [_, _, _, _, _, _] _ _ := h115
         refine ⟨⟨[_, _, _, _], (h115.only [2, 2, 2, 2, 0, 0] rfl)⟩, ?_⟩
         refine HJ.op (i := 24) rfl rfl rfl rfl rfl (Zd [] (Q99.spec q14) rfl rfl rfl h115 rfl Zm) ?_
         rintro _ w99 ⟨_, ⟨rfl, rfl⟩, h116⟩
         replace h116 : St w0 F0 [_, _, _, _, _, _] _ _ := h116
         refine ⟨⟨[_, _, _, _], (h116.only [2, 2, 2, 2, 0, 0] rfl)⟩, ?_⟩
         refine HJ.run Za rfl [25] rfl (HJ.op (i := 26) rfl rfl rfl rfl rfl (Yd Za (.pair .str (.pair .bool .str)) rfl ([(r12, (decide ((gtb a1 x16) = 2)), r14)] : List (List UInt8 × Bool × List UInt8)) rfl h116 rfl rfl (by decide) rfl rfl rfl rfl rfl rfl rfl) ?_)
         rintro _ w100 ⟨b14, rfl, h117⟩
         replace h117 : St w0 F0 [Zf 49 (.pair .str (.pair .bool .str)) ([(r12, (decide ((gtb a1 x16) = 2)), r14)] : List (List UInt8 × Bool × List UInt8)) (.slice (some ⟨b14, 0, none⟩) ([(r12, (decide ((gtb a1 x16) = 2)), r14)] : List (List UInt8 × Bool × List UInt8)).length 1), _, _, _, _, _, _] _ _ := h117
         refine ⟨⟨[_, _, _, _, _], (h117.only [0, 2, 2, 2, 2, 0, 0] rfl)⟩, ?_⟩
         refine HJ.op (i := 27) rfl rfl rfl rfl rfl (Z7 Za rfl 6 rfl h117 rfl (Gives.of 0 rfl Zl) rfl rfl rfl rfl rfl rfl (by decide) (by decide) p4) ?_
         rintro _ w101 ⟨A19, c_19, rfl, h118⟩
         replace h118 : St w0 F0 [Zf 49 (.pair .str (.pair .bool .str)) (x15 ++ ([(r12, (decide ((gtb a1 x16) = 2)), r14)] : List (List UInt8 × Bool × List UInt8))) (.slice A19 (x15 ++ ([(r12, (decide ((gtb a1 x16) = 2)), r14)] : List (List UInt8 × Bool × List UInt8))).length c_19), _, _, _, _, _, _] _ _ := h118
         refine ⟨⟨[_, _, _, _, _], (h118.only [0, 0, 2, 2, 2, 0, 0] rfl)⟩, ?_⟩
         refine HJ.run Za rfl [28] rfl (HJ.op (i := 29) rfl rfl rfl rfl rfl (Zt Za 4 rfl h118 rfl rfl rfl rfl rfl rfl rfl) ?_)
         intro _ w102 h119
         replace h119 : St w0 F0 [Zh b3 29 [.int .i64 r2, .slice A13 x9.length c_13, .slice A14 x12.length c_14, .slice A19 (x15 ++ ([(r12, (decide ((gtb a1 x16) = 2)), r14)] : List (List UInt8 × Bool × List UInt8))).length c_19, .slice none ([] : List (List UInt8 × List UInt8)).length 0], _, _, _, _, _, _] _ _ := h119
         refine ⟨⟨[_, _, _, _, _], (h119.only [0, 0, 0, 2, 2, 0, 0] rfl)⟩, ?_⟩
         refine HJ.fin [(1, .string ⟨⟨a1⟩⟩), (2, .pointer (some ⟨b1, 0, none⟩)), (4, .pointer (some ⟨b2, 0, none⟩)), (6, .pointer (some ⟨b3, 0, none⟩)), (8, .int .i64 r4), (9, .int .i64 x16), (13, .int .i64 x17)] rfl rfl ?_
         exact Zq ⟨A19, c_19, rfl, ((h119.only [0, 0, 1, 1, 1, 1] rfl).rds [] rfl)⟩
        ·refine HS.op (i := 23) rfl rfl rfl (Zd [] (Q95.spec q13) rfl rfl rfl h114 rfl Zm) ?_
         rintro _ w103 ⟨_, ⟨rfl, rfl⟩, h120⟩
         replace h120 : St w0 F0 [_, _, _, _, _, _] _ _ := h120
         refine ⟨⟨[_, _, _, _], (h120.only [2, 2, 2, 2, 0, 0] rfl)⟩, ?_⟩
         refine HJ.pick [1, 24] (i := 1) rfl rfl rfl rfl ((Zs ?_ (Zs ?_ Z4)))
         ·refine HS.op (i := 1) rfl rfl rfl (OpT.ofq (Zc Za 2 h120.wht rfl rfl rfl rfl rfl)) ?_
          rintro _ _ ⟨rfl, rfl⟩
          replace h120 : St w0 F0 [_, _, _, _, _, _] _ _ := h120
          refine ⟨⟨[_, _, _, _], (h120.only [2, 2, 2, 2, 0, 0] rfl)⟩, ?_⟩
          refine HJ.op (i := 24) rfl rfl rfl rfl rfl (Zd [] (Q99.spec q14) rfl rfl rfl h120 rfl Zm) ?_
          rintro _ w105 ⟨_, ⟨rfl, rfl⟩, h121⟩
          replace h121 : St w0 F0 [_, _, _, _, _, _] _ _ := h121
          refine ⟨⟨[_, _, _, _], (h121.only [2, 2, 2, 2, 0, 0] rfl)⟩, ?_⟩
          refine HJ.run Za rfl [25] rfl (HJ.op (i := 26) rfl rfl rfl rfl rfl (Yd Za (.pair .str (.pair .bool .str)) rfl ([(r12, (decide ((gtb a1 x16) = 2)), r14)] : List (List UInt8 × Bool × List UInt8)) rfl h121 rfl rfl (by decide) rfl rfl rfl rfl rfl rfl rfl) ?_)
          rintro _ w106 ⟨b15, rfl, h122⟩
          replace h122 : St w0 F0 [Zf 49 (.pair .str (.pair .bool .str)) ([(r12, (decide ((gtb a1 x16) = 2)), r14)] : List (List UInt8 × Bool × List UInt8)) (.slice (some ⟨b15, 0, none⟩) ([(r12, (decide ((gtb a1 x16) = 2)), r14)] : List (List UInt8 × Bool × List UInt8)).length 1), _, _, _, _, _, _] _ _ := h122
          refine ⟨⟨[_, _, _, _, _], (h122.only [0, 2, 2, 2, 2, 0, 0] rfl)⟩, ?_⟩
          refine HJ.op (i := 27) rfl rfl rfl rfl rfl (Z7 Za rfl 6 rfl h122 rfl (Gives.of 0 rfl Zl) rfl rfl rfl rfl rfl rfl (by decide) (by decide) p4) ?_
          rintro _ w107 ⟨A20, c_20, rfl, h123⟩
          replace h123 : St w0 F0 [Zf 49 (.pair .str (.pair .bool .str)) (x15 ++ ([(r12, (decide ((gtb a1 x16) = 2)), r14)] : List (List UInt8 × Bool × List UInt8))) (.slice A20 (x15 ++ ([(r12, (decide ((gtb a1 x16) = 2)), r14)] : List (List UInt8 × Bool × List UInt8))).length c_20), _, _, _, _, _, _] _ _ := h123
          refine ⟨⟨[_, _, _, _, _], (h123.only [0, 0, 2, 2, 2, 0, 0] rfl)⟩, ?_⟩
          refine HJ.run Za rfl [28] rfl (HJ.op (i := 29) rfl rfl rfl rfl rfl (Zt Za 4 rfl h123 rfl rfl rfl rfl rfl rfl rfl) ?_)
          intro _ w108 h124
          replace h124 : St w0 F0 [Zh b3 29 [.int .i64 r2, .slice A13 x9.length c_13, .slice A14 x12.length c_14, .slice A20 (x15 ++ ([(r12, (decide ((gtb a1 x16) = 2)), r14)] : List (List UInt8 × Bool × List UInt8))).length c_20, .slice none ([] : List (List UInt8 × List UInt8)).length 0], _, _, _, _, _, _] _ _ := h124
          refine ⟨⟨[_, _, _, _, _], (h124.only [0, 0, 0, 2, 2, 0, 0] rfl)⟩, ?_⟩
          refine HJ.fin [(1, .string ⟨⟨a1⟩⟩), (2, .pointer (some ⟨b1, 0, none⟩)), (4, .pointer (some ⟨b2, 0, none⟩)), (6, .pointer (some ⟨b3, 0, none⟩)), (8, .int .i64 r4), (9, .int .i64 x16), (13, .int .i64 x17)] rfl rfl ?_
          exact Zq ⟨A20, c_20, rfl, ((h124.only [0, 0, 1, 1, 1, 1] rfl).rds [] rfl)⟩
         ·refine HS.op (i := 24) rfl rfl rfl (Zd [] (Q99.spec q14) rfl rfl rfl h120 rfl Zm) ?_
          rintro _ w109 ⟨_, ⟨rfl, rfl⟩, h125⟩
          replace h125 : St w0 F0 [_, _, _, _, _, _] _ _ := h125
          refine ⟨⟨[_, _, _, _], (h125.only [2, 2, 2, 2, 0, 0] rfl)⟩, ?_⟩
          refine HJ.run Za rfl [25] rfl (HJ.pick [1, 26] (i := 1) rfl rfl rfl rfl ((Zs ?_ (Zs ?_ Z4))))
          ·refine HS.op (i := 1) rfl rfl rfl (OpT.ofq (Zc Za 2 h125.wht rfl rfl rfl rfl rfl)) ?_
           rintro _ _ ⟨rfl, rfl⟩
           replace h125 : St w0 F0 [_, _, _, _, _, _] _ _ := h125
           refine ⟨⟨[_, _, _, _], (h125.only [2, 2, 2, 2, 0, 0] rfl)⟩, ?_⟩
           refine HJ.op (i := 26) rfl rfl rfl rfl rfl (Yd Za (.pair .str (.pair .bool .str)) rfl ([(r12, (decide ((gtb a1 x16) = 2)), r14)] : List (List UInt8 × Bool × List UInt8)) rfl h125 rfl rfl (by decide) rfl rfl rfl rfl rfl rfl rfl) ?_
           rintro _ w111 ⟨b16, rfl, h126⟩
           replace h126 : St w0 F0 [Zf 49 (.pair .str (.pair .bool .str)) ([(r12, (decide ((gtb a1 x16) = 2)), r14)] : List (List UInt8 × Bool × List UInt8)) (.slice (some ⟨b16, 0, none⟩) ([(r12, (decide ((gtb a1 x16) = 2)), r14)] : List (List UInt8 × Bool × List UInt8)).length 1), _, _, _, _, _, _] _ _ := h126
           refine ⟨⟨[_, _, _, _, _], (h126.only [0, 2, 2, 2, 2, 0, 0] rfl)⟩, ?_⟩
           refine HJ.op (i := 27) rfl rfl rfl rfl rfl (Z7 Za rfl 6 rfl h126 rfl (Gives.of 0 rfl Zl) rfl rfl rfl rfl rfl rfl (by decide) (by decide) p4) ?_
           rintro _ w112 ⟨A21, c_21, rfl, h127⟩
           replace h127 : St w0 F0 [Zf 49 (.pair .str (.pair .bool .str)) (x15 ++ ([(r12, (decide ((gtb a1 x16) = 2)), r14)] : List (List UInt8 × Bool × List UInt8))) (.slice A21 (x15 ++ ([(r12, (decide ((gtb a1 x16) = 2)), r14)] : List (List UInt8 × Bool × List UInt8))).length c_21), _, _, _, _, _, _] _ _ := h127
           refine ⟨⟨[_, _, _, _, _], (h127.only [0, 0, 2, 2, 2, 0, 0] rfl)⟩, ?_⟩
           refine HJ.run Za rfl [28] rfl (HJ.op (i := 29) rfl rfl rfl rfl rfl (Zt Za 4 rfl h127 rfl rfl rfl rfl rfl rfl rfl) ?_)
           intro _ w113 h128
           replace h128 : St w0 F0 [Zh b3 29 [.int .i64 r2, .slice A13 x9.length c_13, .slice A14 x12.length c_14, .slice A21 (x15 ++ ([(r12, (decide ((gtb a1 x16) = 2)), r14)] : List (List UInt8 × Bool × List UInt8))).length c_21, .slice none ([] : List (List UInt8 × List UInt8)).length 0], _, _, _, _, _, _] _ _ := h128
           refine ⟨⟨[_, _, _, _, _], (h128.only [0, 0, 0, 2, 2, 0, 0] rfl)⟩, ?_⟩
           refine HJ.fin [(1, .string ⟨⟨a1⟩⟩), (2, .pointer (some ⟨b1, 0, none⟩)), (4, .pointer (some ⟨b2, 0, none⟩)), (6, .pointer (some ⟨b3, 0, none⟩)), (8, .int .i64 r4), (9, .int .i64 x16), (13, .int .i64 x17)] rfl rfl ?_
           exact Zq ⟨A21, c_21, rfl, ((h128.only [0, 0, 1, 1, 1, 1] rfl).rds [] rfl)⟩
          ·refine HS.op (i := 26) rfl rfl rfl (Yd Za (.pair .str (.pair .bool .str)) rfl ([(r12, (decide ((gtb a1 x16) = 2)), r14)] : List (List UInt8 × Bool × List UInt8)) rfl h125 rfl rfl (by decide) rfl rfl rfl rfl rfl rfl rfl) ?_
           rintro _ w114 ⟨b17, rfl, h129⟩
           replace h129 : St w0 F0 [Zf 49 (.pair .str (.pair .bool .str)) ([(r12, (decide ((gtb a1 x16) = 2)), r14)] : List (List UInt8 × Bool × List UInt8)) (.slice (some ⟨b17, 0, none⟩) ([(r12, (decide ((gtb a1 x16) = 2)), r14)] : List (List UInt8 × Bool × List UInt8)).length 1), _, _, _, _, _, _] _ _ := h129
           refine ⟨⟨[_, _, _, _, _], (h129.only [0, 2, 2, 2, 2, 0, 0] rfl)⟩, ?_⟩
           refine HJ.op (i := 1) rfl rfl rfl rfl rfl (OpT.ofq (Zc Za 3 h129.wht rfl rfl rfl rfl rfl)) ?_
           rintro _ _ ⟨rfl, rfl⟩
           replace h129 : St w0 F0 [_, _, _, _, _, _, _] _ _ := h129
           refine ⟨⟨[_, _, _, _, _], (h129.only [0, 2, 2, 2, 2, 0, 0] rfl)⟩, ?_⟩
           refine HJ.op (i := 27) rfl rfl rfl rfl rfl (Z7 Za rfl 6 rfl h129 rfl (Gives.of 0 rfl Zl) rfl rfl rfl rfl rfl rfl (by decide) (by decide) p4) ?_
           rintro _ w116 ⟨A22, c_22, rfl, h130⟩
           replace h130 : St w0 F0 [Zf 49 (.pair .str (.pair .bool .str)) (x15 ++ ([(r12, (decide ((gtb a1 x16) = 2)), r14)] : List (List UInt8 × Bool × List UInt8))) (.slice A22 (x15 ++ ([(r12, (decide ((gtb a1 x16) = 2)), r14)] : List (List UInt8 × Bool × List UInt8))).length c_22), _, _, _, _, _, _] _ _ := h130
           refine ⟨⟨[_, _, _, _, _], (h130.only [0, 0, 2, 2, 2, 0, 0] rfl)⟩, ?_⟩
           refine HJ.run Za rfl [28] rfl (HJ.op (i := 29) rfl rfl rfl rfl rfl (Zt Za 4 rfl h130 rfl rfl rfl rfl rfl rfl rfl) ?_)
           intro _ w117 h131
           replace h131 : St w0 F0 [Zh b3 29 [.int .i64 r2, .slice A13 x9.length c_13, .slice A14 x12.length c_14, .slice A22 (x15 ++ ([(r12, (decide ((gtb a1 x16) = 2)), r14)] : List (List UInt8 × Bool × List UInt8))).length c_22, .slice none ([] : List (List UInt8 × List UInt8)).length 0], _, _, _, _, _, _] _ _ := h131
           refine ⟨⟨[_, _, _, _, _], (h131.only [0, 0, 0, 2, 2, 0, 0] rfl)⟩, ?_⟩
           refine HJ.fin [(1, .string ⟨⟨a1⟩⟩), (2, .pointer (some ⟨b1, 0, none⟩)), (4, .pointer (some ⟨b2, 0, none⟩)), (6, .pointer (some ⟨b3, 0, none⟩)), (8, .int .i64 r4), (9, .int .i64 x16), (13, .int .i64 x17)] rfl rfl ?_
           exact Zq ⟨A22, c_22, rfl, ((h131.only [0, 0, 1, 1, 1, 1] rfl).rds [] rfl)⟩
     rintro env w118 ⟨A16, c_16, rfl, h132⟩
     refine J.region (RJ.run Za 3 rfl (RJ.q rfl rfl (Zc Za 2 h132.wht rfl rfl rfl rfl rfl) (RJ.run Za 2 rfl (RJ.q rfl rfl (Zc Za 2 h132.wht rfl rfl rfl rfl rfl) (RJ.run Za 2 rfl (RJ.fin [(1, _), (2, _), (4, _), (6, _), (8, _), (9, .int .i64 (w64 ((w64 ((w64 (x16 + 4)) + a0.2.2.2.2.2.2.1)) + a0.2.2.2.2.2.2.2))), (13, _)] rfl (J.region (RJ.run Za 3 rfl (RJ.fin [(1, _), (2, _), (4, _), (6, _), (8, _), (9, _), (13, .int .i64 (w64 (x17 + 1)))] rfl ?_)))))))))
     have h133 := ((h132.only [2, 2, 0, 1, 1, 0] rfl).rds [] rfl)
     exact ⟨k5, by omega, (x15 ++ ([(r12, (decide ((gtb a1 x16) = 2)), r14)] : List (List UInt8 × Bool × List UInt8))), A16, c_16, (w64 ((w64 ((w64 (x16 + 4)) + a0.2.2.2.2.2.2.1)) + a0.2.2.2.2.2.2.2)), (w64 (x17 + 1)), rfl, h133, H, by omega⟩
    replace H := Zg c9 H
    refine J.narrow [(1, _), (2, _), (4, _), (6, _), (9, _)] rfl (J.exit ?_)
    have h134 := h91.addNil 51 (.pair .str .str)
    have h135 := ((h134.only [1, 1, 1, 1, 1, 1, 0] rfl).rds [] rfl)
    exact ⟨k5, x9, A13, c_13, x12, A14, c_14, x15, A15, c_15, ([] : List (List UInt8 × List UInt8)), none, 0, x16, rfl, h135, H, by omega⟩
   replace H := Zg c8 H
   refine RJ.know (t := 161) rfl (congrArg Value.bool c8) (RJ.run Za 12 rfl (RJ.fin [(1, _), (2, _), (4, _), (6, _), (8, _), (9, _), (13, _), (173, .bool false)] rfl (J.condF rfl (J.narrow [(1, _), (2, _), (4, _), (6, _), (9, _)] rfl (J.exit ?_)))))
   have h136 := h91.addNil 51 (.pair .str .str)
   have h137 := ((h136.only [1, 1, 1, 1, 1, 1, 0] rfl).rds [] rfl)
   exact ⟨k5, x9, A13, c_13, x12, A14, c_14, x15, A15, c_15, ([] : List (List UInt8 × List UInt8)), none, 0, x16, rfl, h137, H, by omega⟩
 rintro env w12 ⟨k1, x1, A1, c_1, x2, A2, c_2, x3, A3, c_3, x4, A4, c_4, x5, rfl, h19, H, hk1⟩
 refine J.seq (J.seq (J.region ?_))
 refine RJ.q rfl rfl (Zc Za 0 h19.wht rfl rfl rfl rfl rfl) (RJ.q rfl rfl (Zc Za 2 h19.wht rfl rfl rfl rfl rfl) ?_)
 obtain ⟨r5, q5, H⟩ := Zj H
 refine RJ.op rfl rfl (Zd [] (Q92.spec q5) rfl rfl rfl h19 rfl (Zr (Gives.of 3 rfl Zl) (Zr (Gives.of 4 rfl Zl) (Zr (Gives.of 5 rfl Zl) (Zr (Gives.of 6 rfl Zl) Zm))))) ?_
 rintro _ w13 ⟨_, ⟨rfl, rfl⟩, h20⟩
 replace h20 : St w0 F0 [_, _, _, _, _, _, _] _ _ := h20
 refine RJ.run Za 2 rfl ?_
 rcases Bool.eq_false_or_eq_true (!r5) with c3 | c3
 ·replace H := Zi c3 H
  refine RJ.know (t := 217) rfl (congrArg Value.bool c3) (RJ.run Za 6 rfl (RJ.fin [(4, _), (6, _), (223, .bool true)] rfl (J.condT rfl (J.seq (J.region ?_)))))
  refine RJ.run Za 1 rfl (RJ.op rfl rfl (Zt Za 1 rfl h20 rfl rfl rfl rfl rfl rfl rfl) ?_)
  intro _ w14 h21
  replace h21 : St w0 F0 [Zh b2 29 [.int .i64 0, .slice none ([] : List (Int)).length 0, .slice none ([] : List (List UInt8)).length 0, .slice none ([] : List (List UInt8 × Bool × List UInt8)).length 0, .slice none ([] : List (List UInt8 × List UInt8)).length 0], _, _, _, _, _, _] _ _ := h21
  refine RJ.run Za 1 rfl (RJ.fin [(4, _), (5, .int .i64 12)] rfl ?_)
  have h22 := h21.only [0] rfl
  replace h22 : St w0 F0 [_] _ _ := h22
  refine J.ret ?_
  have h23 := h22.addNil 70 (.int .u32)
  have h24 := h23.addNil 9 .str
  have h25 := h24.addNil 49 (.pair .str (.pair .bool .str))
  have h26 := h25.addNil 51 (.pair .str .str)
  obtain rfl := Option.some.inj H
  exact ⟨_, _, _, (Z6 rfl (Z8 (RV.cell Za 4 h26 rfl rfl rfl rfl) (Z8 (RV.tmp rfl) Yr)) rfl), ⟨_, _, _, _, _, _, _, _, rfl, rfl⟩, h26.only [3, 2, 1, 0] rfl⟩
 replace H := Zg c3 H
 refine RJ.know (t := 217) rfl (congrArg Value.bool c3) (RJ.q rfl rfl (Zc Za 0 h20.wht rfl rfl rfl rfl rfl) (RJ.q rfl rfl (Zc Za 2 h20.wht rfl rfl rfl rfl rfl) ?_))
 obtain ⟨r6, q6, H⟩ := Zj H
 refine RJ.op rfl rfl (Zd [] (Q90.spec q6) rfl rfl rfl h20 rfl (Zr (Gives.of 3 rfl Zl) (Zr (Gives.of 4 rfl Zl) (Zr (Gives.of 5 rfl Zl) (Zr (Gives.of 6 rfl Zl) Zm))))) ?_
 rintro _ w15 ⟨_, ⟨rfl, rfl⟩, h27⟩
 replace h27 : St w0 F0 [_, _, _, _, _, _, _] _ _ := h27
 refine RJ.run Za 3 rfl (RJ.fin [(4, _), (6, _), (223, .bool (!decide (r6 = a1)))] rfl (J.cond rfl (fun c4 => ?_) (fun c4 => ?_)))
 ·replace H := Zi c4 H
  refine J.seq (J.region ?_)
  refine RJ.run Za 1 rfl (RJ.op rfl rfl (Zt Za 1 rfl h27 rfl rfl rfl rfl rfl rfl rfl) ?_)
  intro _ w16 h28
  replace h28 : St w0 F0 [Zh b2 29 [.int .i64 0, .slice none ([] : List (Int)).length 0, .slice none ([] : List (List UInt8)).length 0, .slice none ([] : List (List UInt8 × Bool × List UInt8)).length 0, .slice none ([] : List (List UInt8 × List UInt8)).length 0], _, _, _, _, _, _] _ _ := h28
  refine RJ.run Za 1 rfl (RJ.fin [(4, _), (5, .int .i64 12)] rfl ?_)
  have h29 := h28.only [0] rfl
  replace h29 : St w0 F0 [_] _ _ := h29
  refine J.ret ?_
  have h30 := h29.addNil 70 (.int .u32)
  have h31 := h30.addNil 9 .str
  have h32 := h31.addNil 49 (.pair .str (.pair .bool .str))
  have h33 := h32.addNil 51 (.pair .str .str)
  obtain rfl := Option.some.inj H
  exact ⟨_, _, _, (Z6 rfl (Z8 (RV.cell Za 4 h33 rfl rfl rfl rfl) (Z8 (RV.tmp rfl) Yr)) rfl), ⟨_, _, _, _, _, _, _, _, rfl, rfl⟩, h33.only [3, 2, 1, 0] rfl⟩
 replace H := Zg c4 H
 refine J.skip (J.seq (J.region ?_))
 refine RJ.q rfl rfl (Zc Za 2 h27.wht rfl rfl rfl rfl rfl) (RJ.op rfl rfl (Zt Za 1 rfl h27 rfl rfl rfl rfl rfl rfl rfl) ?_)
 intro _ w17 h34
 replace h34 : St w0 F0 [Zh b2 29 [.int .i64 r2, .slice A1 x1.length c_1, .slice A2 x2.length c_2, .slice A3 x3.length c_3, .slice A4 x4.length c_4], _, _, _, _, _, _] _ _ := h34
 refine RJ.run Za 1 rfl (RJ.fin [(4, _), (5, .int .i64 0)] rfl ?_)
 have h35 := h34.only [0, 2, 2, 2, 2] rfl
 replace h35 : St w0 F0 [_, _, _, _, _] _ _ := h35
 refine J.ret ?_
 obtain rfl := Option.some.inj H
 exact ⟨_, _, _, (Z6 rfl (Z8 (RV.cell Za 0 h35 rfl rfl rfl rfl) (Z8 (RV.tmp rfl) Yr)) rfl), ⟨_, _, _, _, _, _, _, _, rfl, rfl⟩, h35.only [1, 1, 1, 1] rfl⟩

def Q84.l0 : Nat → (List (Int)) → (List (Int)) → (Int) → Option (Bool)
 | 0, _, _, _ => none
 | k + 1, a0, a1, x1 => if (decide (x1 < (a0.length : Int))) = true then (if 0 ≤ x1 ∧ x1 < (a0.length : Int) then (if 0 ≤ x1 ∧ x1 < (a1.length : Int) then (if (!decide ((gt a0 x1) = (gt a1 x1))) = true then (some false) else (Q84.l0 k a0 a1 (w64 (x1 + 1)))) else none) else none) else (some true)
def Q84.f (k : Nat) (a0 : List (Int)) (a1 : List (Int)) : Option (Bool) := if (!decide ((a0.length : Int) = (a1.length : Int))) = true then (some false) else (Q84.l0 k a0 a1 0)
theorem Q84.spec {k : Nat} {a0 : List (Int)} {a1 : List (Int)} {A1 : Option Addr} {c_1 : Nat} {A2 : Option Addr} {c_2 : Nat} {r : Bool} (H : Q84.f k a0 a1 = some r) :
  Spec Tryz.prog 31 [.slice A1 a0.length c_1, .slice A2 a1.length c_2] [] [rdC 70 (.int .u32) a0 (.slice A1 a0.length c_1), rdC 70 (.int .u32) a1 (.slice A2 a1.length c_2)] (fun v l => v = .bool r ∧ l = []) := by
 refine Spec.enter Tryz.func31 rfl (by kernel_rfl) (by kernel_rfl) fun w0 F0 h0 => ?_
 unfold Q84.f at H
 refine J.seq (J.region ?_)
 refine RJ.run Za 1 rfl (RJ.fin [(0, .slice A1 a0.length c_1), (1, .slice A2 a1.length c_2)] rfl (J.seq (J.seq (J.region ?_))))
 refine RJ.run Za 5 rfl (RJ.fin [(0, _), (1, _), (10, .bool (!decide ((a0.length : Int) = (a1.length : Int))))] rfl (J.cond rfl (fun c1 => ?_) (fun c1 => ?_)))
 ·replace H := Zi c1 H
  refine J.seq (J.region ?_)
  refine RJ.run Za 1 rfl (RJ.fin [(4, .bool false)] rfl (J.ret ?_))
  obtain rfl := Option.some.inj H
  exact ⟨_, _, _, (Zb rfl), ⟨rfl, rfl⟩, h0.only [] rfl⟩
 replace H := Zg c1 H
 refine J.skip (J.seq (J.seq (J.region ?_)))
 refine RJ.run Za 1 rfl (RJ.fin [(0, _), (1, _), (5, .int .i64 0)] rfl (J.block ?_))
 have h4 := ((h0.only [] rfl).rds [0, 1] rfl)
 refine J.loop (fun kk env w => ∃ (x1 : Int), env = [(0, .slice A1 a0.length c_1), (1, .slice A2 a1.length c_2), (5, .int .i64 x1)] ∧ St w0 F0 [] [rdC 70 (.int .u32) a0 (.slice A1 a0.length c_1), rdC 70 (.int .u32) a1 (.slice A2 a1.length c_2)] w ∧ Q84.l0 kk a0 a1 x1 = some r) (k := k) ⟨0, rfl, h4, H⟩ ?_
 rintro k1 env w1 ⟨x1, rfl, h1, H⟩
 cases k1 with
 | zero => exact nomatch (show none = some r from H)
 | succ k1 =>
  rw [Q84.l0] at H
  refine J.seq (J.seq (J.region ?_))
  refine RJ.run Za 4 rfl (RJ.fin [(0, _), (1, _), (5, _), (14, .bool (decide (x1 < (a0.length : Int))))] rfl (J.cond rfl (fun c2 => ?_) (fun c2 => ?_)))
  ·replace H := Zi c2 H
   refine J.skip (J.seq (J.block (J.seq ?_)))
   refine J.heldSt mix h1 ?_
   have h2 := h1.drew
   refine HJ.run Za rfl [0, 1, 4, 5] rfl ?_
   obtain ⟨⟨p1, p2⟩, H⟩ := Zo H
   have e1 := Zy h2.wh (Gives.self 0 rfl) p1 p2
   refine HJ.q (i := 2) rfl rfl rfl rfl rfl rfl (Zk Za rfl rfl rfl rfl rfl e1 p1 p2) (HJ.q (i := 3) rfl rfl rfl rfl rfl rfl (Ze (f := 0) Za rfl (fun w e => e) (Gives.self 0 rfl) p1 p2 rfl rfl rfl rfl rfl) ?_)
   obtain ⟨⟨p3, p4⟩, H⟩ := Zo H
   have e2 := Zy h2.wh (Gives.self 1 rfl) p3 p4
   refine HJ.q (i := 6) rfl rfl rfl rfl rfl rfl (Zk Za rfl rfl rfl rfl rfl e2 p3 p4) (HJ.q (i := 7) rfl rfl rfl rfl rfl rfl (Ze (f := 0) Za rfl (fun w e => e) (Gives.self 1 rfl) p3 p4 rfl rfl rfl rfl rfl) ?_)
   refine HJ.run Za rfl [8] rfl (HJ.fin [(0, _), (1, _), (5, _), (25, .bool (!decide ((gt a0 x1) = (gt a1 x1))))] rfl rfl (J.cond rfl (fun c3 => ?_) (fun c3 => ?_)))
   ·replace H := Zi c3 H
    refine J.seq (J.region ?_)
    refine RJ.run Za 1 rfl (RJ.fin [(4, .bool false)] rfl (J.ret ?_))
    obtain rfl := Option.some.inj H
    exact ⟨_, _, _, (Zb rfl), ⟨rfl, rfl⟩, h2.only [] rfl⟩
   replace H := Zg c3 H
   refine J.skip (J.region (RJ.run Za 3 rfl (RJ.fin [(0, _), (1, _), (5, .int .i64 (w64 (x1 + 1)))] rfl ?_)))
   have h3 := ((h2.only [] rfl).rds [0, 1] rfl)
   exact ⟨k1, by omega, (w64 (x1 + 1)), rfl, h3, H⟩
  replace H := Zg c2 H
  refine J.exit (J.seq (J.region ?_))
  refine RJ.run Za 1 rfl (RJ.fin [(4, .bool true)] rfl (J.ret ?_))
  obtain rfl := Option.some.inj H
  exact ⟨_, _, _, (Zb rfl), ⟨rfl, rfl⟩, h1.only [] rfl⟩

def Q83.l0 : Nat → (List (List UInt8)) → (List (List UInt8)) → (Int) → Option (Bool)
 | 0, _, _, _ => none
 | k + 1, a0, a1, x1 => if (decide (x1 < (a0.length : Int))) = true then (if 0 ≤ x1 ∧ x1 < (a0.length : Int) then (if 0 ≤ x1 ∧ x1 < (a1.length : Int) then (if (!decide ((gt a0 x1) = (gt a1 x1))) = true then (some false) else (Q83.l0 k a0 a1 (w64 (x1 + 1)))) else none) else none) else (some true)
def Q83.f (k : Nat) (a0 : List (List UInt8)) (a1 : List (List UInt8)) : Option (Bool) := if (!decide ((a0.length : Int) = (a1.length : Int))) = true then (some false) else (Q83.l0 k a0 a1 0)
theorem Q83.spec {k : Nat} {a0 : List (List UInt8)} {a1 : List (List UInt8)} {A1 : Option Addr} {c_1 : Nat} {A2 : Option Addr} {c_2 : Nat} {r : Bool} (H : Q83.f k a0 a1 = some r) :
  Spec Tryz.prog 32 [.slice A1 a0.length c_1, .slice A2 a1.length c_2] [] [rdC 9 .str a0 (.slice A1 a0.length c_1), rdC 9 .str a1 (.slice A2 a1.length c_2)] (fun v l => v = .bool r ∧ l = []) := by
 refine Spec.enter Tryz.func32 rfl (by kernel_rfl) (by kernel_rfl) fun w0 F0 h0 => ?_
 unfold Q83.f at H
 refine J.seq (J.region ?_)
 refine RJ.run Za 1 rfl (RJ.fin [(0, .slice A1 a0.length c_1), (1, .slice A2 a1.length c_2)] rfl (J.seq (J.seq (J.region ?_))))
 refine RJ.run Za 5 rfl (RJ.fin [(0, _), (1, _), (10, .bool (!decide ((a0.length : Int) = (a1.length : Int))))] rfl (J.cond rfl (fun c1 => ?_) (fun c1 => ?_)))
 ·replace H := Zi c1 H
  refine J.seq (J.region ?_)
  refine RJ.run Za 1 rfl (RJ.fin [(4, .bool false)] rfl (J.ret ?_))
  obtain rfl := Option.some.inj H
  exact ⟨_, _, _, (Zb rfl), ⟨rfl, rfl⟩, h0.only [] rfl⟩
 replace H := Zg c1 H
 refine J.skip (J.seq (J.seq (J.region ?_)))
 refine RJ.run Za 1 rfl (RJ.fin [(0, _), (1, _), (5, .int .i64 0)] rfl (J.block ?_))
 have h4 := ((h0.only [] rfl).rds [0, 1] rfl)
 refine J.loop (fun kk env w => ∃ (x1 : Int), env = [(0, .slice A1 a0.length c_1), (1, .slice A2 a1.length c_2), (5, .int .i64 x1)] ∧ St w0 F0 [] [rdC 9 .str a0 (.slice A1 a0.length c_1), rdC 9 .str a1 (.slice A2 a1.length c_2)] w ∧ Q83.l0 kk a0 a1 x1 = some r) (k := k) ⟨0, rfl, h4, H⟩ ?_
 rintro k1 env w1 ⟨x1, rfl, h1, H⟩
 cases k1 with
 | zero => exact nomatch (show none = some r from H)
 | succ k1 =>
  rw [Q83.l0] at H
  refine J.seq (J.seq (J.region ?_))
  refine RJ.run Za 4 rfl (RJ.fin [(0, _), (1, _), (5, _), (14, .bool (decide (x1 < (a0.length : Int))))] rfl (J.cond rfl (fun c2 => ?_) (fun c2 => ?_)))
  ·replace H := Zi c2 H
   refine J.skip (J.seq (J.block (J.seq ?_)))
   refine J.heldSt mix h1 ?_
   have h2 := h1.drew
   refine HJ.run Za rfl [0, 1, 4, 5] rfl ?_
   obtain ⟨⟨p1, p2⟩, H⟩ := Zo H
   have e1 := Zy h2.wh (Gives.self 0 rfl) p1 p2
   refine HJ.q (i := 2) rfl rfl rfl rfl rfl rfl (Zk Za rfl rfl rfl rfl rfl e1 p1 p2) (HJ.q (i := 3) rfl rfl rfl rfl rfl rfl (Ze (f := 0) Za rfl (fun w e => e) (Gives.self 0 rfl) p1 p2 rfl rfl rfl rfl rfl) ?_)
   obtain ⟨⟨p3, p4⟩, H⟩ := Zo H
   have e2 := Zy h2.wh (Gives.self 1 rfl) p3 p4
   refine HJ.q (i := 6) rfl rfl rfl rfl rfl rfl (Zk Za rfl rfl rfl rfl rfl e2 p3 p4) (HJ.q (i := 7) rfl rfl rfl rfl rfl rfl (Ze (f := 0) Za rfl (fun w e => e) (Gives.self 1 rfl) p3 p4 rfl rfl rfl rfl rfl) ?_)
   refine HJ.run Za rfl [8] rfl (HJ.fin [(0, _), (1, _), (5, _), (25, .bool (!decide ((gt a0 x1) = (gt a1 x1))))] rfl rfl (J.cond rfl (fun c3 => ?_) (fun c3 => ?_)))
   ·replace H := Zi c3 H
    refine J.seq (J.region ?_)
    refine RJ.run Za 1 rfl (RJ.fin [(4, .bool false)] rfl (J.ret ?_))
    obtain rfl := Option.some.inj H
    exact ⟨_, _, _, (Zb rfl), ⟨rfl, rfl⟩, h2.only [] rfl⟩
   replace H := Zg c3 H
   refine J.skip (J.region (RJ.run Za 3 rfl (RJ.fin [(0, _), (1, _), (5, .int .i64 (w64 (x1 + 1)))] rfl ?_)))
   have h3 := ((h2.only [] rfl).rds [0, 1] rfl)
   exact ⟨k1, by omega, (w64 (x1 + 1)), rfl, h3, H⟩
  replace H := Zg c2 H
  refine J.exit (J.seq (J.region ?_))
  refine RJ.run Za 1 rfl (RJ.fin [(4, .bool true)] rfl (J.ret ?_))
  obtain rfl := Option.some.inj H
  exact ⟨_, _, _, (Zb rfl), ⟨rfl, rfl⟩, h1.only [] rfl⟩

def Q78.l0 : Nat → (List (List UInt8 × Bool × List UInt8)) → (List (List UInt8 × Bool × List UInt8)) → (Int) → Option (Bool)
 | 0, _, _, _ => none
 | k + 1, a0, a1, x1 => if (decide (x1 < (a0.length : Int))) = true then (if 0 ≤ x1 ∧ x1 < (a0.length : Int) then (if 0 ≤ x1 ∧ x1 < (a1.length : Int) then (if (!((decide (((gt a0 x1).1) = ((gt a1 x1).1))) && ((((gt a0 x1).2.1) == ((gt a1 x1).2.1)) && ((decide (((gt a0 x1).2.2) = ((gt a1 x1).2.2))) && true)))) = true then (some false) else (Q78.l0 k a0 a1 (w64 (x1 + 1)))) else none) else none) else (some true)
def Q78.f (k : Nat) (a0 : List (List UInt8 × Bool × List UInt8)) (a1 : List (List UInt8 × Bool × List UInt8)) : Option (Bool) := if (!decide ((a0.length : Int) = (a1.length : Int))) = true then (some false) else (Q78.l0 k a0 a1 0)
theorem Q78.spec {k : Nat} {a0 : List (List UInt8 × Bool × List UInt8)} {a1 : List (List UInt8 × Bool × List UInt8)} {A1 : Option Addr} {c_1 : Nat} {A2 : Option Addr} {c_2 : Nat} {r : Bool} (H : Q78.f k a0 a1 = some r) :
  Spec Tryz.prog 33 [.slice A1 a0.length c_1, .slice A2 a1.length c_2] [] [rdC 49 (.pair .str (.pair .bool .str)) a0 (.slice A1 a0.length c_1), rdC 49 (.pair .str (.pair .bool .str)) a1 (.slice A2 a1.length c_2)] (fun v l => v = .bool r ∧ l = []) := by
 refine Spec.enter Tryz.func33 rfl (by kernel_rfl) (by kernel_rfl) fun w0 F0 h0 => ?_
 unfold Q78.f at H
 refine J.seq (J.region ?_)
 refine RJ.run Za 1 rfl (RJ.fin [(0, .slice A1 a0.length c_1), (1, .slice A2 a1.length c_2)] rfl (J.seq (J.seq (J.region ?_))))
 refine RJ.run Za 5 rfl (RJ.fin [(0, _), (1, _), (10, .bool (!decide ((a0.length : Int) = (a1.length : Int))))] rfl (J.cond rfl (fun c1 => ?_) (fun c1 => ?_)))
 ·replace H := Zi c1 H
  refine J.seq (J.region ?_)
  refine RJ.run Za 1 rfl (RJ.fin [(4, .bool false)] rfl (J.ret ?_))
  obtain rfl := Option.some.inj H
  exact ⟨_, _, _, (Zb rfl), ⟨rfl, rfl⟩, h0.only [] rfl⟩
 replace H := Zg c1 H
 refine J.skip (J.seq (J.seq (J.region ?_)))
 refine RJ.run Za 1 rfl (RJ.fin [(0, _), (1, _), (5, .int .i64 0)] rfl (J.block ?_))
 have h4 := ((h0.only [] rfl).rds [0, 1] rfl)
 refine J.loop (fun kk env w => ∃ (x1 : Int), env = [(0, .slice A1 a0.length c_1), (1, .slice A2 a1.length c_2), (5, .int .i64 x1)] ∧ St w0 F0 [] [rdC 49 (.pair .str (.pair .bool .str)) a0 (.slice A1 a0.length c_1), rdC 49 (.pair .str (.pair .bool .str)) a1 (.slice A2 a1.length c_2)] w ∧ Q78.l0 kk a0 a1 x1 = some r) (k := k) ⟨0, rfl, h4, H⟩ ?_
 rintro k1 env w1 ⟨x1, rfl, h1, H⟩
 cases k1 with
 | zero => exact nomatch (show none = some r from H)
 | succ k1 =>
  rw [Q78.l0] at H
  refine J.seq (J.seq (J.region ?_))
  refine RJ.run Za 4 rfl (RJ.fin [(0, _), (1, _), (5, _), (14, .bool (decide (x1 < (a0.length : Int))))] rfl (J.cond rfl (fun c2 => ?_) (fun c2 => ?_)))
  ·replace H := Zi c2 H
   refine J.skip (J.seq (J.block (J.seq ?_)))
   refine J.heldSt mix h1 ?_
   have h2 := h1.drew
   refine HJ.run Za rfl [0, 1, 4, 5] rfl ?_
   obtain ⟨⟨p1, p2⟩, H⟩ := Zo H
   have e1 := Zy h2.wh (Gives.self 0 rfl) p1 p2
   refine HJ.q (i := 2) rfl rfl rfl rfl rfl rfl (Zk Za rfl rfl rfl rfl rfl e1 p1 p2) (HJ.q (i := 3) rfl rfl rfl rfl rfl rfl (Ze (f := 0) Za rfl (fun w e => e) (Gives.self 0 rfl) p1 p2 rfl rfl rfl rfl rfl) ?_)
   obtain ⟨⟨p3, p4⟩, H⟩ := Zo H
   have e2 := Zy h2.wh (Gives.self 1 rfl) p3 p4
   refine HJ.q (i := 6) rfl rfl rfl rfl rfl rfl (Zk Za rfl rfl rfl rfl rfl e2 p3 p4) (HJ.q (i := 7) rfl rfl rfl rfl rfl rfl (Ze (f := 0) Za rfl (fun w e => e) (Gives.self 1 rfl) p3 p4 rfl rfl rfl rfl rfl) ?_)
   refine HJ.run Za rfl [8] rfl (HJ.fin [(0, _), (1, _), (5, _), (25, .bool (!((decide (((gt a0 x1).1) = ((gt a1 x1).1))) && ((((gt a0 x1).2.1) == ((gt a1 x1).2.1)) && ((decide (((gt a0 x1).2.2) = ((gt a1 x1).2.2))) && true)))))] rfl rfl (J.cond rfl (fun c3 => ?_) (fun c3 => ?_)))
   ·replace H := Zi c3 H
    refine J.seq (J.region ?_)
    refine RJ.run Za 1 rfl (RJ.fin [(4, .bool false)] rfl (J.ret ?_))
    obtain rfl := Option.some.inj H
    exact ⟨_, _, _, (Zb rfl), ⟨rfl, rfl⟩, h2.only [] rfl⟩
   replace H := Zg c3 H
   refine J.skip (J.region (RJ.run Za 3 rfl (RJ.fin [(0, _), (1, _), (5, .int .i64 (w64 (x1 + 1)))] rfl ?_)))
   have h3 := ((h2.only [] rfl).rds [0, 1] rfl)
   exact ⟨k1, by omega, (w64 (x1 + 1)), rfl, h3, H⟩
  replace H := Zg c2 H
  refine J.exit (J.seq (J.region ?_))
  refine RJ.run Za 1 rfl (RJ.fin [(4, .bool true)] rfl (J.ret ?_))
  obtain rfl := Option.some.inj H
  exact ⟨_, _, _, (Zb rfl), ⟨rfl, rfl⟩, h1.only [] rfl⟩

def Q80.l0 : Nat → (List (List UInt8 × List UInt8)) → (List (List UInt8 × List UInt8)) → (Int) → Option (Bool)
 | 0, _, _, _ => none
 | k + 1, a0, a1, x1 => if (decide (x1 < (a0.length : Int))) = true then (if 0 ≤ x1 ∧ x1 < (a0.length : Int) then (if 0 ≤ x1 ∧ x1 < (a1.length : Int) then (if (!((decide (((gt a0 x1).1) = ((gt a1 x1).1))) && ((decide (((gt a0 x1).2) = ((gt a1 x1).2))) && true))) = true then (some false) else (Q80.l0 k a0 a1 (w64 (x1 + 1)))) else none) else none) else (some true)
def Q80.f (k : Nat) (a0 : List (List UInt8 × List UInt8)) (a1 : List (List UInt8 × List UInt8)) : Option (Bool) := if (!decide ((a0.length : Int) = (a1.length : Int))) = true then (some false) else (Q80.l0 k a0 a1 0)
theorem Q80.spec {k : Nat} {a0 : List (List UInt8 × List UInt8)} {a1 : List (List UInt8 × List UInt8)} {A1 : Option Addr} {c_1 : Nat} {A2 : Option Addr} {c_2 : Nat} {r : Bool} (H : Q80.f k a0 a1 = some r) :
  Spec Tryz.prog 34 [.slice A1 a0.length c_1, .slice A2 a1.length c_2] [] [rdC 51 (.pair .str .str) a0 (.slice A1 a0.length c_1), rdC 51 (.pair .str .str) a1 (.slice A2 a1.length c_2)] (fun v l => v = .bool r ∧ l = []) := by
 refine Spec.enter Tryz.func34 rfl (by kernel_rfl) (by kernel_rfl) fun w0 F0 h0 => ?_
 unfold Q80.f at H
 refine J.seq (J.region ?_)
 refine RJ.run Za 1 rfl (RJ.fin [(0, .slice A1 a0.length c_1), (1, .slice A2 a1.length c_2)] rfl (J.seq (J.seq (J.region ?_))))
 refine RJ.run Za 5 rfl (RJ.fin [(0, _), (1, _), (10, .bool (!decide ((a0.length : Int) = (a1.length : Int))))] rfl (J.cond rfl (fun c1 => ?_) (fun c1 => ?_)))
 ·replace H := Zi c1 H
  refine J.seq (J.region ?_)
  refine RJ.run Za 1 rfl (RJ.fin [(4, .bool false)] rfl (J.ret ?_))
  obtain rfl := Option.some.inj H
  exact ⟨_, _, _, (Zb rfl), ⟨rfl, rfl⟩, h0.only [] rfl⟩
 replace H := Zg c1 H
 refine J.skip (J.seq (J.seq (J.region ?_)))
 refine RJ.run Za 1 rfl (RJ.fin [(0, _), (1, _), (5, .int .i64 0)] rfl (J.block ?_))
 have h4 := ((h0.only [] rfl).rds [0, 1] rfl)
 refine J.loop (fun kk env w => ∃ (x1 : Int), env = [(0, .slice A1 a0.length c_1), (1, .slice A2 a1.length c_2), (5, .int .i64 x1)] ∧ St w0 F0 [] [rdC 51 (.pair .str .str) a0 (.slice A1 a0.length c_1), rdC 51 (.pair .str .str) a1 (.slice A2 a1.length c_2)] w ∧ Q80.l0 kk a0 a1 x1 = some r) (k := k) ⟨0, rfl, h4, H⟩ ?_
 rintro k1 env w1 ⟨x1, rfl, h1, H⟩
 cases k1 with
 | zero => exact nomatch (show none = some r from H)
 | succ k1 =>
  rw [Q80.l0] at H
  refine J.seq (J.seq (J.region ?_))
  refine RJ.run Za 4 rfl (RJ.fin [(0, _), (1, _), (5, _), (14, .bool (decide (x1 < (a0.length : Int))))] rfl (J.cond rfl (fun c2 => ?_) (fun c2 => ?_)))
  ·replace H := Zi c2 H
   refine J.skip (J.seq (J.block (J.seq ?_)))
   refine J.heldSt mix h1 ?_
   have h2 := h1.drew
   refine HJ.run Za rfl [0, 1, 4, 5] rfl ?_
   obtain ⟨⟨p1, p2⟩, H⟩ := Zo H
   have e1 := Zy h2.wh (Gives.self 0 rfl) p1 p2
   refine HJ.q (i := 2) rfl rfl rfl rfl rfl rfl (Zk Za rfl rfl rfl rfl rfl e1 p1 p2) (HJ.q (i := 3) rfl rfl rfl rfl rfl rfl (Ze (f := 0) Za rfl (fun w e => e) (Gives.self 0 rfl) p1 p2 rfl rfl rfl rfl rfl) ?_)
   obtain ⟨⟨p3, p4⟩, H⟩ := Zo H
   have e2 := Zy h2.wh (Gives.self 1 rfl) p3 p4
   refine HJ.q (i := 6) rfl rfl rfl rfl rfl rfl (Zk Za rfl rfl rfl rfl rfl e2 p3 p4) (HJ.q (i := 7) rfl rfl rfl rfl rfl rfl (Ze (f := 0) Za rfl (fun w e => e) (Gives.self 1 rfl) p3 p4 rfl rfl rfl rfl rfl) ?_)
   refine HJ.run Za rfl [8] rfl (HJ.fin [(0, _), (1, _), (5, _), (25, .bool (!((decide (((gt a0 x1).1) = ((gt a1 x1).1))) && ((decide (((gt a0 x1).2) = ((gt a1 x1).2))) && true))))] rfl rfl (J.cond rfl (fun c3 => ?_) (fun c3 => ?_)))
   ·replace H := Zi c3 H
    refine J.seq (J.region ?_)
    refine RJ.run Za 1 rfl (RJ.fin [(4, .bool false)] rfl (J.ret ?_))
    obtain rfl := Option.some.inj H
    exact ⟨_, _, _, (Zb rfl), ⟨rfl, rfl⟩, h2.only [] rfl⟩
   replace H := Zg c3 H
   refine J.skip (J.region (RJ.run Za 3 rfl (RJ.fin [(0, _), (1, _), (5, .int .i64 (w64 (x1 + 1)))] rfl ?_)))
   have h3 := ((h2.only [] rfl).rds [0, 1] rfl)
   exact ⟨k1, by omega, (w64 (x1 + 1)), rfl, h3, H⟩
  replace H := Zg c2 H
  refine J.exit (J.seq (J.region ?_))
  refine RJ.run Za 1 rfl (RJ.fin [(4, .bool true)] rfl (J.ret ?_))
  obtain rfl := Option.some.inj H
  exact ⟨_, _, _, (Zb rfl), ⟨rfl, rfl⟩, h1.only [] rfl⟩

def Q87.f (k : Nat) (a0 : Int × List (Int) × List (List UInt8) × (List (List UInt8 × Bool × List UInt8)) × (List (List UInt8 × List UInt8))) (a1 : Int × List (Int) × List (List UInt8) × (List (List UInt8 × Bool × List UInt8)) × (List (List UInt8 × List UInt8))) : Option (Bool) := if (decide (a0.1 = a1.1)) = true then ((Q84.f k a0.2.1 a1.2.1).bind fun r1 => (if r1 = true then ((Q83.f k a0.2.2.1 a1.2.2.1).bind fun r2 => (if r2 = true then ((Q78.f k a0.2.2.2.1 a1.2.2.2.1).bind fun r3 => (if r3 = true then ((Q80.f k a0.2.2.2.2 a1.2.2.2.2).bind fun r4 => (some r4)) else (some false))) else (some false))) else (some false))) else (some false)
theorem Q87.spec {k : Nat} {a0 : Int × List (Int) × List (List UInt8) × (List (List UInt8 × Bool × List UInt8)) × (List (List UInt8 × List UInt8))} {a1 : Int × List (Int) × List (List UInt8) × (List (List UInt8 × Bool × List UInt8)) × (List (List UInt8 × List UInt8))} {A1 : Option Addr} {c_1 : Nat} {A2 : Option Addr} {c_2 : Nat} {A3 : Option Addr} {c_3 : Nat} {A4 : Option Addr} {c_4 : Nat} {A5 : Option Addr} {c_5 : Nat} {A6 : Option Addr} {c_6 : Nat} {A7 : Option Addr} {c_7 : Nat} {A8 : Option Addr} {c_8 : Nat} {r : Bool} (H : Q87.f k a0 a1 = some r) :
  Spec Tryz.prog 13 [.agg #[.int .i64 a0.1, .slice A1 a0.2.1.length c_1, .slice A2 a0.2.2.1.length c_2, .slice A3 a0.2.2.2.1.length c_3, .slice A4 a0.2.2.2.2.length c_4], .agg #[.int .i64 a1.1, .slice A5 a1.2.1.length c_5, .slice A6 a1.2.2.1.length c_6, .slice A7 a1.2.2.2.1.length c_7, .slice A8 a1.2.2.2.2.length c_8]] [] [rdC 70 (.int .u32) a0.2.1 (.slice A1 a0.2.1.length c_1), rdC 9 .str a0.2.2.1 (.slice A2 a0.2.2.1.length c_2), rdC 49 (.pair .str (.pair .bool .str)) a0.2.2.2.1 (.slice A3 a0.2.2.2.1.length c_3), rdC 51 (.pair .str .str) a0.2.2.2.2 (.slice A4 a0.2.2.2.2.length c_4), rdC 70 (.int .u32) a1.2.1 (.slice A5 a1.2.1.length c_5), rdC 9 .str a1.2.2.1 (.slice A6 a1.2.2.1.length c_6), rdC 49 (.pair .str (.pair .bool .str)) a1.2.2.2.1 (.slice A7 a1.2.2.2.1.length c_7), rdC 51 (.pair .str .str) a1.2.2.2.2 (.slice A8 a1.2.2.2.2.length c_8)] (fun v l => v = .bool r ∧ l = []) := by
 refine Spec.enter Tryz.func13 rfl (by kernel_rfl) (by kernel_rfl) fun w0 F0 h0 => ?_
 unfold Q87.f at H
 refine J.seq (J.region ?_)
 refine RJ.op rfl rfl (Z2 rfl rfl h0) ?_
 rintro _ w1 ⟨b1, rfl, h1⟩
 replace h1 : St w0 F0 [Zh b1 29 [.int .i64 a0.1, .slice A1 a0.2.1.length c_1, .slice A2 a0.2.2.1.length c_2, .slice A3 a0.2.2.2.1.length c_3, .slice A4 a0.2.2.2.2.length c_4]] _ _ := h1
 refine RJ.op rfl rfl (Z2 rfl rfl h1) ?_
 rintro _ w2 ⟨b2, rfl, h2⟩
 replace h2 : St w0 F0 [Zh b2 29 [.int .i64 a1.1, .slice A5 a1.2.1.length c_5, .slice A6 a1.2.2.1.length c_6, .slice A7 a1.2.2.2.1.length c_7, .slice A8 a1.2.2.2.2.length c_8], _] _ _ := h2
 refine RJ.run Za 1 rfl (RJ.fin [(2, .pointer (some ⟨b1, 0, none⟩)), (3, .pointer (some ⟨b2, 0, none⟩))] rfl (J.seq (J.region ?_)))
 refine RJ.run Za 1 rfl (RJ.q rfl rfl (Zc Za 1 h2.wht rfl rfl rfl rfl rfl) (RJ.run Za 1 rfl (RJ.q rfl rfl (Zc Za 0 h2.wht rfl rfl rfl rfl rfl) (RJ.run Za 2 rfl ?_))))
 rcases Bool.eq_false_or_eq_true (decide (a0.1 = a1.1)) with c1 | c1
 ·replace H := Zi c1 H
  refine RJ.know (t := 10) rfl (congrArg Value.bool c1) (RJ.run Za 1 rfl (RJ.q rfl rfl (Zc Za 1 h2.wht rfl rfl rfl rfl rfl) (RJ.run Za 1 rfl (RJ.q rfl rfl (Zc Za 0 h2.wht rfl rfl rfl rfl rfl) ?_))))
  obtain ⟨r1, q1, H⟩ := Zj H
  refine RJ.op rfl rfl (Zd [] (Q84.spec q1) rfl rfl rfl h2 rfl (Zr (Gives.self 2 rfl) (Zr (Gives.self 6 rfl) Zm))) ?_
  rintro _ w3 ⟨_, ⟨rfl, rfl⟩, h3⟩
  replace h3 : St w0 F0 [_, _] _ _ := h3
  refine RJ.run Za 2 rfl ?_
  rcases Bool.eq_false_or_eq_true r1 with c2 | c2
  ·replace H := Zi c2 H
   refine RJ.know (t := 17) rfl (congrArg Value.bool c2) (RJ.run Za 1 rfl (RJ.q rfl rfl (Zc Za 1 h3.wht rfl rfl rfl rfl rfl) (RJ.run Za 1 rfl (RJ.q rfl rfl (Zc Za 0 h3.wht rfl rfl rfl rfl rfl) ?_))))
   obtain ⟨r2, q2, H⟩ := Zj H
   refine RJ.op rfl rfl (Zd [] (Q83.spec q2) rfl rfl rfl h3 rfl (Zr (Gives.self 3 rfl) (Zr (Gives.self 7 rfl) Zm))) ?_
   rintro _ w4 ⟨_, ⟨rfl, rfl⟩, h4⟩
   replace h4 : St w0 F0 [_, _] _ _ := h4
   refine RJ.run Za 2 rfl ?_
   rcases Bool.eq_false_or_eq_true r2 with c3 | c3
   ·replace H := Zi c3 H
    refine RJ.know (t := 24) rfl (congrArg Value.bool c3) (RJ.run Za 1 rfl (RJ.q rfl rfl (Zc Za 1 h4.wht rfl rfl rfl rfl rfl) (RJ.run Za 1 rfl (RJ.q rfl rfl (Zc Za 0 h4.wht rfl rfl rfl rfl rfl) ?_))))
    obtain ⟨r3, q3, H⟩ := Zj H
    refine RJ.op rfl rfl (Zd [] (Q78.spec q3) rfl rfl rfl h4 rfl (Zr (Gives.self 4 rfl) (Zr (Gives.self 8 rfl) Zm))) ?_
    rintro _ w5 ⟨_, ⟨rfl, rfl⟩, h5⟩
    replace h5 : St w0 F0 [_, _] _ _ := h5
    refine RJ.run Za 2 rfl ?_
    rcases Bool.eq_false_or_eq_true r3 with c4 | c4
    ·replace H := Zi c4 H
     refine RJ.know (t := 31) rfl (congrArg Value.bool c4) (RJ.run Za 1 rfl (RJ.q rfl rfl (Zc Za 1 h5.wht rfl rfl rfl rfl rfl) (RJ.run Za 1 rfl (RJ.q rfl rfl (Zc Za 0 h5.wht rfl rfl rfl rfl rfl) ?_))))
     obtain ⟨r4, q4, H⟩ := Zj H
     refine RJ.op rfl rfl (Zd [] (Q80.spec q4) rfl rfl rfl h5 rfl (Zr (Gives.self 5 rfl) (Zr (Gives.self 9 rfl) Zm))) ?_
     rintro _ w6 ⟨_, ⟨rfl, rfl⟩, h6⟩
     replace h6 : St w0 F0 [_, _] _ _ := h6
     refine RJ.run Za 2 rfl (RJ.fin [(4, .bool r4)] rfl ?_)
     have h7 := h6.only [] rfl
     replace h7 : St w0 F0 [] _ _ := h7
     refine J.ret ?_
     obtain rfl := Option.some.inj H
     exact ⟨_, _, _, (Zb rfl), ⟨rfl, rfl⟩, h7.only [] rfl⟩
    replace H := Zg c4 H
    refine RJ.know (t := 31) rfl (congrArg Value.bool c4) (RJ.run Za 7 rfl (RJ.fin [(4, .bool false)] rfl ?_))
    have h8 := h5.only [] rfl
    replace h8 : St w0 F0 [] _ _ := h8
    refine J.ret ?_
    obtain rfl := Option.some.inj H
    exact ⟨_, _, _, (Zb rfl), ⟨rfl, rfl⟩, h8.only [] rfl⟩
   replace H := Zg c3 H
   refine RJ.know (t := 24) rfl (congrArg Value.bool c3) (RJ.run Za 14 rfl (RJ.fin [(4, .bool false)] rfl ?_))
   have h9 := h4.only [] rfl
   replace h9 : St w0 F0 [] _ _ := h9
   refine J.ret ?_
   obtain rfl := Option.some.inj H
   exact ⟨_, _, _, (Zb rfl), ⟨rfl, rfl⟩, h9.only [] rfl⟩
  replace H := Zg c2 H
  refine RJ.know (t := 17) rfl (congrArg Value.bool c2) (RJ.run Za 21 rfl (RJ.fin [(4, .bool false)] rfl ?_))
  have h10 := h3.only [] rfl
  replace h10 : St w0 F0 [] _ _ := h10
  refine J.ret ?_
  obtain rfl := Option.some.inj H
  exact ⟨_, _, _, (Zb rfl), ⟨rfl, rfl⟩, h10.only [] rfl⟩
 replace H := Zg c1 H
 refine RJ.know (t := 10) rfl (congrArg Value.bool c1) (RJ.run Za 28 rfl (RJ.fin [(4, .bool false)] rfl ?_))
 have h11 := h2.only [] rfl
 replace h11 : St w0 F0 [] _ _ := h11
 refine J.ret ?_
 obtain rfl := Option.some.inj H
 exact ⟨_, _, _, (Zb rfl), ⟨rfl, rfl⟩, h11.only [] rfl⟩

def Q65.f (k : Nat) (a0 : Int × Int × Int × Int × Int × Int × Int × Int) (a1 : List (Int)) : Option (Bool) := (Q67.f (a0.1, a0.2.1, a0.2.2.1, a0.2.2.2.1, a0.2.2.2.2.1, a0.2.2.2.2.2.1, a0.2.2.2.2.2.2.1, a0.2.2.2.2.2.2.2)).bind fun r1 => (if (!r1) = true then ((Q66.f k).bind fun r2 => (some r2)) else (if (decide (4000 < (a1.length : Int))) = true then ((Q66.f k).bind fun r3 => (some r3)) else ((Q6.f k (a0.1, a0.2.1, a0.2.2.1, a0.2.2.2.1, a0.2.2.2.2.1, a0.2.2.2.2.2.1, a0.2.2.2.2.2.2.1, a0.2.2.2.2.2.2.2) a1).bind fun r4 => ((Q91.f k (a0.1, a0.2.1, a0.2.2.1, a0.2.2.2.1, a0.2.2.2.2.1, a0.2.2.2.2.2.1, a0.2.2.2.2.2.2.1, a0.2.2.2.2.2.2.2) (toS a1)).bind fun r5 => (if (!decide (r4.2 = r5.2)) = true then (some false) else ((Q87.f k (r4.1.1, r4.1.2.1, r4.1.2.2.1, r4.1.2.2.2.1, r4.1.2.2.2.2) (r5.1.1, r5.1.2.1, r5.1.2.2.1, r5.1.2.2.2.1, r5.1.2.2.2.2)).bind fun r6 => (if (!r6) = true then (some false) else ((Q7.f k (a0.1, a0.2.1, a0.2.2.1, a0.2.2.2.1, a0.2.2.2.2.1, a0.2.2.2.2.2.1, a0.2.2.2.2.2.2.1, a0.2.2.2.2.2.2.2) (r4.1.1, r4.1.2.1, r4.1.2.2.1, r4.1.2.2.2.1, r4.1.2.2.2.2)).bind fun r7 => (if (!decide (r4.2 = 0)) = true then ((Q66.f k).bind fun r8 => (some r8)) else (if (decide (r7.2 = 0)) = true then (if (decide ((toS r7.1) = (toS a1))) = true then ((Q66.f k).bind fun r9 => (some r9)) else (some false)) else (some false)))))))))))
theorem Q65.spec {k : Nat} {a0 : Int × Int × Int × Int × Int × Int × Int × Int} {a1 : List (Int)} {A1 : Option Addr} {c_1 : Nat} {r : Bool} (H : Q65.f k a0 a1 = some r) :
  Spec Tryz.prog 4 [.agg #[.int .i64 a0.1, .int .i64 a0.2.1, .int .i64 a0.2.2.1, .int .i64 a0.2.2.2.1, .int .i64 a0.2.2.2.2.1, .int .i64 a0.2.2.2.2.2.1, .int .i64 a0.2.2.2.2.2.2.1, .int .i64 a0.2.2.2.2.2.2.2], .slice A1 a1.length c_1] [] [rdC 5 (.int .u8) a1 (.slice A1 a1.length c_1)] (fun v l => v = .bool r ∧ l = []) := by
 refine Spec.enter Tryz.func4 rfl (by kernel_rfl) (by kernel_rfl) fun w0 F0 h0 => ?_
 unfold Q65.f at H
 refine J.seq (J.region ?_)
 refine RJ.op rfl rfl (Z2 rfl rfl h0) ?_
 rintro _ w1 ⟨b1, rfl, h1⟩
 replace h1 : St w0 F0 [Zh b1 23 [.int .i64 a0.1, .int .i64 a0.2.1, .int .i64 a0.2.2.1, .int .i64 a0.2.2.2.1, .int .i64 a0.2.2.2.2.1, .int .i64 a0.2.2.2.2.2.1, .int .i64 a0.2.2.2.2.2.2.1, .int .i64 a0.2.2.2.2.2.2.2]] _ _ := h1
 refine RJ.run Za 1 rfl (RJ.fin [(1, .slice A1 a1.length c_1), (2, .pointer (some ⟨b1, 0, none⟩))] rfl (J.seq (J.seq (J.region ?_))))
 refine RJ.q rfl rfl (Zc Za 0 h1.wht rfl rfl rfl rfl rfl) ?_
 obtain ⟨r1, q1, H⟩ := Zj H
 refine RJ.op rfl rfl (Zd [] (Q67.spec q1) rfl rfl rfl h1 rfl Zm) ?_
 rintro _ w2 ⟨_, ⟨rfl, rfl⟩, h2⟩
 replace h2 : St w0 F0 [_] _ _ := h2
 refine RJ.run Za 2 rfl ?_
 rcases Bool.eq_false_or_eq_true (!r1) with c1 | c1
 ·replace H := Zi c1 H
  refine RJ.know (t := 14) rfl (congrArg Value.bool c1) (RJ.run Za 4 rfl (RJ.fin [(1, _), (2, _), (18, .bool true)] rfl (J.condT rfl (J.seq (J.region ?_)))))
  obtain ⟨r2, q2, H⟩ := Zj H
  refine RJ.op rfl rfl (Zd [] (Q66.spec q2) rfl rfl rfl h2 rfl Zm) ?_
  rintro _ w3 ⟨_, ⟨rfl, rfl⟩, h3⟩
  replace h3 : St w0 F0 [_] _ _ := h3
  refine RJ.run Za 1 rfl (RJ.fin [(4, .bool r2)] rfl (J.ret ?_))
  obtain rfl := Option.some.inj H
  exact ⟨_, _, _, (Zb rfl), ⟨rfl, rfl⟩, h3.only [] rfl⟩
 replace H := Zg c1 H
 refine RJ.know (t := 14) rfl (congrArg Value.bool c1) (RJ.run Za 4 rfl (RJ.fin [(1, _), (2, _), (18, .bool (decide (4000 < (a1.length : Int))))] rfl (J.cond rfl (fun c2 => ?_) (fun c2 => ?_))))
 ·replace H := Zi c2 H
  refine J.seq (J.region ?_)
  obtain ⟨r3, q3, H⟩ := Zj H
  refine RJ.op rfl rfl (Zd [] (Q66.spec q3) rfl rfl rfl h2 rfl Zm) ?_
  rintro _ w4 ⟨_, ⟨rfl, rfl⟩, h4⟩
  replace h4 : St w0 F0 [_] _ _ := h4
  refine RJ.run Za 1 rfl (RJ.fin [(4, .bool r3)] rfl (J.ret ?_))
  obtain rfl := Option.some.inj H
  exact ⟨_, _, _, (Zb rfl), ⟨rfl, rfl⟩, h4.only [] rfl⟩
 replace H := Zg c2 H
 refine J.skip (J.seq (J.region ?_))
 refine RJ.q rfl rfl (Zc Za 0 h2.wht rfl rfl rfl rfl rfl) (RJ.run Za 1 rfl ?_)
 obtain ⟨r4, q4, H⟩ := Zj H
 refine RJ.op rfl rfl (Zd [] (Q6.spec q4) rfl rfl rfl h2 rfl (Zr (Gives.self 1 rfl) Zm)) ?_
 rintro _ w5 ⟨_, ⟨A2, c_2, A3, c_3, A4, c_4, A5, c_5, rfl, rfl⟩, h5⟩
 replace h5 : St w0 F0 [Zf 70 (.int .u32) r4.1.2.1 (.slice A2 r4.1.2.1.length c_2), Zf 9 .str r4.1.2.2.1 (.slice A3 r4.1.2.2.1.length c_3), Zf 49 (.pair .str (.pair .bool .str)) r4.1.2.2.2.1 (.slice A4 r4.1.2.2.2.1.length c_4), Zf 51 (.pair .str .str) r4.1.2.2.2.2 (.slice A5 r4.1.2.2.2.2.length c_5), _] _ _ := h5
 refine RJ.run Za 3 rfl (RJ.op rfl rfl (Ye Za rfl rfl h5) ?_)
 rintro _ w6 ⟨b2, rfl, h6⟩
 replace h6 : St w0 F0 [Zh b2 29 [.int .i64 0, .slice none ([] : List (Int)).length 0, .slice none ([] : List (List UInt8)).length 0, .slice none ([] : List (List UInt8 × Bool × List UInt8)).length 0, .slice none ([] : List (List UInt8 × List UInt8)).length 0], _, _, _, _, _] _ _ := h6
 refine RJ.op rfl rfl (Zt Za 0 rfl h6 rfl rfl rfl rfl rfl rfl rfl) ?_
 intro _ w7 h7
 replace h7 : St w0 F0 [Zh b2 29 [.int .i64 r4.1.1, .slice A2 r4.1.2.1.length c_2, .slice A3 r4.1.2.2.1.length c_3, .slice A4 r4.1.2.2.2.1.length c_4, .slice A5 r4.1.2.2.2.2.length c_5], _, _, _, _, _] _ _ := h7
 refine RJ.run Za 1 rfl (RJ.fin [(1, _), (2, _), (5, .pointer (some ⟨b2, 0, none⟩)), (6, .int .i64 r4.2)] rfl (J.seq (J.region ?_)))
 refine RJ.q rfl rfl (Zc Za 5 h7.wht rfl rfl rfl rfl rfl) (RJ.run Za 1 rfl (RJ.q rfl rfl (Xz Za h7.wht (Gives.self 6 rfl) rfl rfl rfl rfl rfl) ?_))
 obtain ⟨r5, q5, H⟩ := Zj H
 refine RJ.op rfl rfl (Zd [] (Q91.spec q5) rfl rfl rfl h7 rfl Zm) ?_
 rintro _ w8 ⟨_, ⟨A6, c_6, A7, c_7, A8, c_8, A9, c_9, rfl, rfl⟩, h8⟩
 replace h8 : St w0 F0 [Zf 70 (.int .u32) r5.1.2.1 (.slice A6 r5.1.2.1.length c_6), Zf 9 .str r5.1.2.2.1 (.slice A7 r5.1.2.2.1.length c_7), Zf 49 (.pair .str (.pair .bool .str)) r5.1.2.2.2.1 (.slice A8 r5.1.2.2.2.1.length c_8), Zf 51 (.pair .str .str) r5.1.2.2.2.2 (.slice A9 r5.1.2.2.2.2.length c_9), _, _, _, _, _, _] _ _ := h8
 refine RJ.run Za 3 rfl (RJ.op rfl rfl (Ye Za rfl rfl h8) ?_)
 rintro _ w9 ⟨b3, rfl, h9⟩
 replace h9 : St w0 F0 [Zh b3 29 [.int .i64 0, .slice none ([] : List (Int)).length 0, .slice none ([] : List (List UInt8)).length 0, .slice none ([] : List (List UInt8 × Bool × List UInt8)).length 0, .slice none ([] : List (List UInt8 × List UInt8)).length 0], _, _, _, _, _, _, _, _, _, _] _ _ := h9
 refine RJ.op rfl rfl (Zt Za 0 rfl h9 rfl rfl rfl rfl rfl rfl rfl) ?_
 intro _ w10 h10
 replace h10 : St w0 F0 [Zh b3 29 [.int .i64 r5.1.1, .slice A6 r5.1.2.1.length c_6, .slice A7 r5.1.2.2.1.length c_7, .slice A8 r5.1.2.2.2.1.length c_8, .slice A9 r5.1.2.2.2.2.length c_9], _, _, _, _, _, _, _, _, _, _] _ _ := h10
 refine RJ.run Za 1 rfl (RJ.fin [(1, _), (2, _), (5, _), (6, _), (7, .pointer (some ⟨b3, 0, none⟩)), (8, .int .i64 r5.2)] rfl (J.seq (J.seq (J.region ?_))))
 refine RJ.run Za 4 rfl ?_
 rcases Bool.eq_false_or_eq_true (!decide (r4.2 = r5.2)) with c3 | c3
 ·replace H := Zi c3 H
  refine RJ.know (t := 36) rfl (congrArg Value.bool c3) (RJ.run Za 5 rfl (RJ.fin [(1, _), (2, _), (5, _), (6, _), (41, .bool true)] rfl ?_))
  have h11 := h10.only [5, 5, 5, 5, 5, 5] rfl
  replace h11 : St w0 F0 [_, _, _, _, _, _] _ _ := h11
  refine J.condT rfl (J.seq (J.region ?_))
  refine RJ.run Za 1 rfl (RJ.fin [(4, .bool false)] rfl ?_)
  have h12 := h11.only [] rfl
  replace h12 : St w0 F0 [] _ _ := h12
  refine J.ret ?_
  obtain rfl := Option.some.inj H
  exact ⟨_, _, _, (Zb rfl), ⟨rfl, rfl⟩, h12.only [] rfl⟩
 replace H := Zg c3 H
 refine RJ.know (t := 36) rfl (congrArg Value.bool c3) (RJ.q rfl rfl (Zc Za 5 h10.wht rfl rfl rfl rfl rfl) (RJ.q rfl rfl (Zc Za 0 h10.wht rfl rfl rfl rfl rfl) ?_))
 obtain ⟨r6, q6, H⟩ := Zj H
 refine RJ.op rfl rfl (Zd [] (Q87.spec q6) rfl rfl rfl h10 rfl (Zr (Gives.of 6 rfl Zl) (Zr (Gives.of 7 rfl Zl) (Zr (Gives.of 8 rfl Zl) (Zr (Gives.of 9 rfl Zl) (Zr (Gives.of 1 rfl Zl) (Zr (Gives.of 2 rfl Zl) (Zr (Gives.of 3 rfl Zl) (Zr (Gives.of 4 rfl Zl) Zm))))))))) ?_
 rintro _ w11 ⟨_, ⟨rfl, rfl⟩, h13⟩
 replace h13 : St w0 F0 [_, _, _, _, _, _, _, _, _, _, _] _ _ := h13
 refine RJ.run Za 2 rfl (RJ.fin [(1, _), (2, _), (5, _), (6, _), (41, .bool (!r6))] rfl ?_)
 have h14 := h13.only [5, 5, 5, 5, 5, 5] rfl
 replace h14 : St w0 F0 [_, _, _, _, _, _] _ _ := h14
 refine J.cond rfl (fun c4 => ?_) (fun c4 => ?_)
 ·replace H := Zi c4 H
  refine J.seq (J.region ?_)
  refine RJ.run Za 1 rfl (RJ.fin [(4, .bool false)] rfl ?_)
  have h15 := h14.only [] rfl
  replace h15 : St w0 F0 [] _ _ := h15
  refine J.ret ?_
  obtain rfl := Option.some.inj H
  exact ⟨_, _, _, (Zb rfl), ⟨rfl, rfl⟩, h15.only [] rfl⟩
 replace H := Zg c4 H
 refine J.skip (J.seq (J.region ?_))
 refine RJ.q rfl rfl (Zc Za 5 h14.wht rfl rfl rfl rfl rfl) (RJ.q rfl rfl (Zc Za 0 h14.wht rfl rfl rfl rfl rfl) ?_)
 obtain ⟨r7, q7, H⟩ := Zj H
 refine RJ.op rfl rfl (Zd [] (Q7.spec q7) rfl rfl rfl h14 rfl (Zr (Gives.of 1 rfl Zl) (Zr (Gives.of 2 rfl Zl) (Zr (Gives.of 3 rfl Zl) (Zr (Gives.of 4 rfl Zl) Zm))))) ?_
 rintro _ w12 ⟨_, ⟨A10, c_10, rfl, rfl⟩, h16⟩
 replace h16 : St w0 F0 [Zf 5 (.int .u8) r7.1 (.slice A10 r7.1.length c_10), _, _, _, _, _, _] _ _ := h16
 refine RJ.run Za 5 rfl (RJ.fin [(1, _), (6, _), (9, .slice A10 r7.1.length c_10), (10, .int .i64 r7.2)] rfl ?_)
 have h17 := h16.only [0] rfl
 replace h17 : St w0 F0 [_] _ _ := h17
 refine J.seq (J.region ?_)
 refine RJ.run Za 3 rfl ?_
 rcases Bool.eq_false_or_eq_true (!decide (r4.2 = 0)) with c5 | c5
 ·replace H := Zi c5 H
  refine RJ.know (t := 50) rfl (congrArg Value.bool c5) (RJ.run Za 11 rfl ?_)
  obtain ⟨r8, q8, H⟩ := Zj H
  refine RJ.op rfl rfl (Zd [] (Q66.spec q8) rfl rfl rfl h17 rfl Zm) ?_
  rintro _ w13 ⟨_, ⟨rfl, rfl⟩, h18⟩
  replace h18 : St w0 F0 [_] _ _ := h18
  refine RJ.run Za 2 rfl (RJ.fin [(4, .bool r8)] rfl (J.ret ?_))
  obtain rfl := Option.some.inj H
  exact ⟨_, _, _, (Zb rfl), ⟨rfl, rfl⟩, h18.only [] rfl⟩
 replace H := Zg c5 H
 refine RJ.know (t := 50) rfl (congrArg Value.bool c5) (RJ.run Za 3 rfl ?_)
 rcases Bool.eq_false_or_eq_true (decide (r7.2 = 0)) with c6 | c6
 ·replace H := Zi c6 H
  refine RJ.know (t := 53) rfl (congrArg Value.bool c6) (RJ.run Za 1 rfl (RJ.q rfl rfl (Xz Za h17.wht (Gives.of 0 rfl Zl) rfl rfl rfl rfl rfl) (RJ.run Za 1 rfl (RJ.q rfl rfl (Xz Za h17.wht (Gives.self 1 rfl) rfl rfl rfl rfl rfl) (RJ.run Za 4 rfl ?_)))))
  rcases Bool.eq_false_or_eq_true (decide ((toS r7.1) = (toS a1))) with c7 | c7
  ·replace H := Zi c7 H
   refine RJ.know (t := 61) rfl (congrArg Value.bool c7) ?_
   obtain ⟨r9, q9, H⟩ := Zj H
   refine RJ.op rfl rfl (Zd [] (Q66.spec q9) rfl rfl rfl h17 rfl Zm) ?_
   rintro _ w14 ⟨_, ⟨rfl, rfl⟩, h19⟩
   replace h19 : St w0 F0 [_] _ _ := h19
   refine RJ.run Za 2 rfl (RJ.fin [(4, .bool r9)] rfl (J.ret ?_))
   obtain rfl := Option.some.inj H
   exact ⟨_, _, _, (Zb rfl), ⟨rfl, rfl⟩, h19.only [] rfl⟩
  replace H := Zg c7 H
  refine RJ.know (t := 61) rfl (congrArg Value.bool c7) (RJ.run Za 3 rfl (RJ.fin [(4, .bool false)] rfl (J.ret ?_)))
  obtain rfl := Option.some.inj H
  exact ⟨_, _, _, (Zb rfl), ⟨rfl, rfl⟩, h17.only [] rfl⟩
 replace H := Zg c6 H
 refine RJ.know (t := 53) rfl (congrArg Value.bool c6) (RJ.run Za 11 rfl (RJ.fin [(4, .bool false)] rfl (J.ret ?_)))
 obtain rfl := Option.some.inj H
 exact ⟨_, _, _, (Zb rfl), ⟨rfl, rfl⟩, h17.only [] rfl⟩

end Go.SK.T
