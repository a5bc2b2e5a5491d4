/- The functions, further. -/
import Derived.Test.YtoemkinhdomnpaaXTruthAsksF0
set_option linter.unusedVariables false
set_option linter.unusedSimpArgs false
namespace Go.SK.T
open Go Go.SK Go.Proofs
/-! sluicegate/sluicegatelaw28.TruthAsks -/
def sluicegatelaw28_TruthAsks.l0 : Nat → (List (Int × List UInt8 × List UInt8 × Int)) → (Int × List UInt8 × List UInt8 × Int) → (Int) → (Int) → (Int) → (Int) → (Int) → (Int) → (Int) → (Int) → (List (List UInt8 × List UInt8)) → (Int) → Option (Bool)
  | 0, _, _, _, _, _, _, _, _, _, _, _, _ => none
  | k + 1, a1, a2, x1, x2, x3, x4, x5, x6, x7, x8, x9, x10 => if (decide (x10 < (a1.length : Int))) = true then (if (decide (x10 < 150)) = true then (if 0 ≤ x10 ∧ x10 < (a1.length : Int) then ((sluicegatelaw27_Long.f ((gt a1 x10).1, (gt a1 x10).2.1, (gt a1 x10).2.2.1, (gt a1 x10).2.2.2)).bind fun r4 => (if r4 = true then ((sluicegatelaw28_awake.f k).bind fun r5 => (some r5)) else ((truth_Truth_Do.f k ((x1, x2, x3, x4, x5, x6, x7, x8), x9) ((gt a1 x10).1, (gt a1 x10).2.1, (gt a1 x10).2.2.1, (gt a1 x10).2.2.2)).bind fun r6 => (sluicegatelaw28_TruthAsks.l0 k a1 a2 r6.2.1.1 r6.2.1.2.1 r6.2.1.2.2.1 r6.2.1.2.2.2.1 r6.2.1.2.2.2.2.1 r6.2.1.2.2.2.2.2.1 r6.2.1.2.2.2.2.2.2.1 r6.2.1.2.2.2.2.2.2.2 r6.2.2 (w64 (x10 + 1)))))) else none) else ((truth_Truth_Pairs.f ((x1, x2, x3, x4, x5, x6, x7, x8), x9)).bind fun r7 => ((truth_Truth_Would.f k ((x1, x2, x3, x4, x5, x6, x7, x8), x9) (a2.1, a2.2.1, a2.2.2.1, a2.2.2.2)).bind fun r8 => ((truth_Truth_Pairs.f ((x1, x2, x3, x4, x5, x6, x7, x8), x9)).bind fun r9 => ((sluicegateref11_Same.f k r9 r7).bind fun r10 => (if (!r10) = true then (some false) else ((truth_Truth_Do.f k ((x1, x2, x3, x4, x5, x6, x7, x8), x9) (a2.1, a2.2.1, a2.2.2.1, a2.2.2.2)).bind fun r11 => (if (!decide (r11.1.1 = 0)) = true then ((truth_Truth_Pairs.f ((r11.2.1.1, r11.2.1.2.1, r11.2.1.2.2.1, r11.2.1.2.2.2.1, r11.2.1.2.2.2.2.1, r11.2.1.2.2.2.2.2.1, r11.2.1.2.2.2.2.2.2.1, r11.2.1.2.2.2.2.2.2.2), r11.2.2)).bind fun r12 => ((sluicegateref11_Same.f k r12 r7).bind fun r13 => (if (!r13) = true then (some false) else ((truth_Truth_Pairs.f ((r11.2.1.1, r11.2.1.2.1, r11.2.1.2.2.1, r11.2.1.2.2.2.1, r11.2.1.2.2.2.2.1, r11.2.1.2.2.2.2.2.1, r11.2.1.2.2.2.2.2.2.1, r11.2.1.2.2.2.2.2.2.2), r11.2.2)).bind fun r14 => (if (decide (0 < (r14.length : Int))) = true then (if 0 < (r14.length : Int) then (if ((gt r14 0).2).length + ([120] : List UInt8).length ≤ 9223372036854775807 then ((truth_Truth_Pairs.f ((r11.2.1.1, r11.2.1.2.1, r11.2.1.2.2.1, r11.2.1.2.2.2.1, r11.2.1.2.2.2.2.1, r11.2.1.2.2.2.2.2.1, r11.2.1.2.2.2.2.2.2.1, r11.2.1.2.2.2.2.2.2.2), r11.2.2)).bind fun r15 => ((sluicegateref11_Same.f k r15 (r14.set (0 : Int).toNat ((gt r14 0).1, (((gt r14 0).2) ++ ([120] : List UInt8))))).bind fun r16 => (if (!r16) = true then ((sluicegatelaw28_awake.f k).bind fun r17 => (some r17)) else (some false)))) else none) else none) else ((sluicegatelaw28_awake.f k).bind fun r18 => (some r18))))))) else (if (!decide (a2.1 = 1)) = true then (if (!decide (a2.1 = 2)) = true then ((truth_Truth_Pairs.f ((r11.2.1.1, r11.2.1.2.1, r11.2.1.2.2.1, r11.2.1.2.2.2.1, r11.2.1.2.2.2.2.1, r11.2.1.2.2.2.2.2.1, r11.2.1.2.2.2.2.2.2.1, r11.2.1.2.2.2.2.2.2.2), r11.2.2)).bind fun r19 => ((sluicegateref11_Same.f k r19 r7).bind fun r20 => (if (!r20) = true then (some false) else ((truth_Truth_Pairs.f ((r11.2.1.1, r11.2.1.2.1, r11.2.1.2.2.1, r11.2.1.2.2.2.1, r11.2.1.2.2.2.2.1, r11.2.1.2.2.2.2.2.1, r11.2.1.2.2.2.2.2.2.1, r11.2.1.2.2.2.2.2.2.2), r11.2.2)).bind fun r21 => (if (decide (0 < (r21.length : Int))) = true then (if 0 < (r21.length : Int) then (if ((gt r21 0).2).length + ([120] : List UInt8).length ≤ 9223372036854775807 then ((truth_Truth_Pairs.f ((r11.2.1.1, r11.2.1.2.1, r11.2.1.2.2.1, r11.2.1.2.2.2.1, r11.2.1.2.2.2.2.1, r11.2.1.2.2.2.2.2.1, r11.2.1.2.2.2.2.2.2.1, r11.2.1.2.2.2.2.2.2.2), r11.2.2)).bind fun r22 => ((sluicegateref11_Same.f k r22 (r21.set (0 : Int).toNat ((gt r21 0).1, (((gt r21 0).2) ++ ([120] : List UInt8))))).bind fun r23 => (if (!r23) = true then ((sluicegatelaw28_awake.f k).bind fun r24 => (some r24)) else (some false)))) else none) else none) else ((sluicegatelaw28_awake.f k).bind fun r25 => (some r25))))))) else ((truth_Truth_Pairs.f ((r11.2.1.1, r11.2.1.2.1, r11.2.1.2.2.1, r11.2.1.2.2.2.1, r11.2.1.2.2.2.2.1, r11.2.1.2.2.2.2.2.1, r11.2.1.2.2.2.2.2.2.1, r11.2.1.2.2.2.2.2.2.2), r11.2.2)).bind fun r26 => (if (decide (0 < (r26.length : Int))) = true then (if 0 < (r26.length : Int) then (if ((gt r26 0).2).length + ([120] : List UInt8).length ≤ 9223372036854775807 then ((truth_Truth_Pairs.f ((r11.2.1.1, r11.2.1.2.1, r11.2.1.2.2.1, r11.2.1.2.2.2.1, r11.2.1.2.2.2.2.1, r11.2.1.2.2.2.2.2.1, r11.2.1.2.2.2.2.2.2.1, r11.2.1.2.2.2.2.2.2.2), r11.2.2)).bind fun r27 => ((sluicegateref11_Same.f k r27 (r26.set (0 : Int).toNat ((gt r26 0).1, (((gt r26 0).2) ++ ([120] : List UInt8))))).bind fun r28 => (if (!r28) = true then ((sluicegatelaw28_awake.f k).bind fun r29 => (some r29)) else (some false)))) else none) else none) else ((sluicegatelaw28_awake.f k).bind fun r30 => (some r30))))) else ((truth_Truth_Pairs.f ((r11.2.1.1, r11.2.1.2.1, r11.2.1.2.2.1, r11.2.1.2.2.2.1, r11.2.1.2.2.2.2.1, r11.2.1.2.2.2.2.2.1, r11.2.1.2.2.2.2.2.2.1, r11.2.1.2.2.2.2.2.2.2), r11.2.2)).bind fun r31 => (if (decide (0 < (r31.length : Int))) = true then (if 0 < (r31.length : Int) then (if ((gt r31 0).2).length + ([120] : List UInt8).length ≤ 9223372036854775807 then ((truth_Truth_Pairs.f ((r11.2.1.1, r11.2.1.2.1, r11.2.1.2.2.1, r11.2.1.2.2.2.1, r11.2.1.2.2.2.2.1, r11.2.1.2.2.2.2.2.1, r11.2.1.2.2.2.2.2.2.1, r11.2.1.2.2.2.2.2.2.2), r11.2.2)).bind fun r32 => ((sluicegateref11_Same.f k r32 (r31.set (0 : Int).toNat ((gt r31 0).1, (((gt r31 0).2) ++ ([120] : List UInt8))))).bind fun r33 => (if (!r33) = true then ((sluicegatelaw28_awake.f k).bind fun r34 => (some r34)) else (some false)))) else none) else none) else ((sluicegatelaw28_awake.f k).bind fun r35 => (some r35))))))))))))) else ((truth_Truth_Pairs.f ((x1, x2, x3, x4, x5, x6, x7, x8), x9)).bind fun r36 => ((truth_Truth_Would.f k ((x1, x2, x3, x4, x5, x6, x7, x8), x9) (a2.1, a2.2.1, a2.2.2.1, a2.2.2.2)).bind fun r37 => ((truth_Truth_Pairs.f ((x1, x2, x3, x4, x5, x6, x7, x8), x9)).bind fun r38 => ((sluicegateref11_Same.f k r38 r36).bind fun r39 => (if (!r39) = true then (some false) else ((truth_Truth_Do.f k ((x1, x2, x3, x4, x5, x6, x7, x8), x9) (a2.1, a2.2.1, a2.2.2.1, a2.2.2.2)).bind fun r40 => (if (!decide (r40.1.1 = 0)) = true then ((truth_Truth_Pairs.f ((r40.2.1.1, r40.2.1.2.1, r40.2.1.2.2.1, r40.2.1.2.2.2.1, r40.2.1.2.2.2.2.1, r40.2.1.2.2.2.2.2.1, r40.2.1.2.2.2.2.2.2.1, r40.2.1.2.2.2.2.2.2.2), r40.2.2)).bind fun r41 => ((sluicegateref11_Same.f k r41 r36).bind fun r42 => (if (!r42) = true then (some false) else ((truth_Truth_Pairs.f ((r40.2.1.1, r40.2.1.2.1, r40.2.1.2.2.1, r40.2.1.2.2.2.1, r40.2.1.2.2.2.2.1, r40.2.1.2.2.2.2.2.1, r40.2.1.2.2.2.2.2.2.1, r40.2.1.2.2.2.2.2.2.2), r40.2.2)).bind fun r43 => (if (decide (0 < (r43.length : Int))) = true then (if 0 < (r43.length : Int) then (if ((gt r43 0).2).length + ([120] : List UInt8).length ≤ 9223372036854775807 then ((truth_Truth_Pairs.f ((r40.2.1.1, r40.2.1.2.1, r40.2.1.2.2.1, r40.2.1.2.2.2.1, r40.2.1.2.2.2.2.1, r40.2.1.2.2.2.2.2.1, r40.2.1.2.2.2.2.2.2.1, r40.2.1.2.2.2.2.2.2.2), r40.2.2)).bind fun r44 => ((sluicegateref11_Same.f k r44 (r43.set (0 : Int).toNat ((gt r43 0).1, (((gt r43 0).2) ++ ([120] : List UInt8))))).bind fun r45 => (if (!r45) = true then ((sluicegatelaw28_awake.f k).bind fun r46 => (some r46)) else (some false)))) else none) else none) else ((sluicegatelaw28_awake.f k).bind fun r47 => (some r47))))))) else (if (!decide (a2.1 = 1)) = true then (if (!decide (a2.1 = 2)) = true then ((truth_Truth_Pairs.f ((r40.2.1.1, r40.2.1.2.1, r40.2.1.2.2.1, r40.2.1.2.2.2.1, r40.2.1.2.2.2.2.1, r40.2.1.2.2.2.2.2.1, r40.2.1.2.2.2.2.2.2.1, r40.2.1.2.2.2.2.2.2.2), r40.2.2)).bind fun r48 => ((sluicegateref11_Same.f k r48 r36).bind fun r49 => (if (!r49) = true then (some false) else ((truth_Truth_Pairs.f ((r40.2.1.1, r40.2.1.2.1, r40.2.1.2.2.1, r40.2.1.2.2.2.1, r40.2.1.2.2.2.2.1, r40.2.1.2.2.2.2.2.1, r40.2.1.2.2.2.2.2.2.1, r40.2.1.2.2.2.2.2.2.2), r40.2.2)).bind fun r50 => (if (decide (0 < (r50.length : Int))) = true then (if 0 < (r50.length : Int) then (if ((gt r50 0).2).length + ([120] : List UInt8).length ≤ 9223372036854775807 then ((truth_Truth_Pairs.f ((r40.2.1.1, r40.2.1.2.1, r40.2.1.2.2.1, r40.2.1.2.2.2.1, r40.2.1.2.2.2.2.1, r40.2.1.2.2.2.2.2.1, r40.2.1.2.2.2.2.2.2.1, r40.2.1.2.2.2.2.2.2.2), r40.2.2)).bind fun r51 => ((sluicegateref11_Same.f k r51 (r50.set (0 : Int).toNat ((gt r50 0).1, (((gt r50 0).2) ++ ([120] : List UInt8))))).bind fun r52 => (if (!r52) = true then ((sluicegatelaw28_awake.f k).bind fun r53 => (some r53)) else (some false)))) else none) else none) else ((sluicegatelaw28_awake.f k).bind fun r54 => (some r54))))))) else ((truth_Truth_Pairs.f ((r40.2.1.1, r40.2.1.2.1, r40.2.1.2.2.1, r40.2.1.2.2.2.1, r40.2.1.2.2.2.2.1, r40.2.1.2.2.2.2.2.1, r40.2.1.2.2.2.2.2.2.1, r40.2.1.2.2.2.2.2.2.2), r40.2.2)).bind fun r55 => (if (decide (0 < (r55.length : Int))) = true then (if 0 < (r55.length : Int) then (if ((gt r55 0).2).length + ([120] : List UInt8).length ≤ 9223372036854775807 then ((truth_Truth_Pairs.f ((r40.2.1.1, r40.2.1.2.1, r40.2.1.2.2.1, r40.2.1.2.2.2.1, r40.2.1.2.2.2.2.1, r40.2.1.2.2.2.2.2.1, r40.2.1.2.2.2.2.2.2.1, r40.2.1.2.2.2.2.2.2.2), r40.2.2)).bind fun r56 => ((sluicegateref11_Same.f k r56 (r55.set (0 : Int).toNat ((gt r55 0).1, (((gt r55 0).2) ++ ([120] : List UInt8))))).bind fun r57 => (if (!r57) = true then ((sluicegatelaw28_awake.f k).bind fun r58 => (some r58)) else (some false)))) else none) else none) else ((sluicegatelaw28_awake.f k).bind fun r59 => (some r59))))) else ((truth_Truth_Pairs.f ((r40.2.1.1, r40.2.1.2.1, r40.2.1.2.2.1, r40.2.1.2.2.2.1, r40.2.1.2.2.2.2.1, r40.2.1.2.2.2.2.2.1, r40.2.1.2.2.2.2.2.2.1, r40.2.1.2.2.2.2.2.2.2), r40.2.2)).bind fun r60 => (if (decide (0 < (r60.length : Int))) = true then (if 0 < (r60.length : Int) then (if ((gt r60 0).2).length + ([120] : List UInt8).length ≤ 9223372036854775807 then ((truth_Truth_Pairs.f ((r40.2.1.1, r40.2.1.2.1, r40.2.1.2.2.1, r40.2.1.2.2.2.1, r40.2.1.2.2.2.2.1, r40.2.1.2.2.2.2.2.1, r40.2.1.2.2.2.2.2.2.1, r40.2.1.2.2.2.2.2.2.2), r40.2.2)).bind fun r61 => ((sluicegateref11_Same.f k r61 (r60.set (0 : Int).toNat ((gt r60 0).1, (((gt r60 0).2) ++ ([120] : List UInt8))))).bind fun r62 => (if (!r62) = true then ((sluicegatelaw28_awake.f k).bind fun r63 => (some r63)) else (some false)))) else none) else none) else ((sluicegatelaw28_awake.f k).bind fun r64 => (some r64))))))))))))
def sluicegatelaw28_TruthAsks.f (k : Nat) (a0 : Int × Int × Int × Int × Int × Int × Int × Int) (a1 : List (Int × List UInt8 × List UInt8 × Int)) (a2 : Int × List UInt8 × List UInt8 × Int) : Option (Bool) := (truth_New.f (a0.1, a0.2.1, a0.2.2.1, a0.2.2.2.1, a0.2.2.2.2.1, a0.2.2.2.2.2.1, a0.2.2.2.2.2.2.1, a0.2.2.2.2.2.2.2)).bind fun r1 => ((sluicegatelaw27_Long.f (a2.1, a2.2.1, a2.2.2.1, a2.2.2.2)).bind fun r2 => (if r2 = true then ((sluicegatelaw28_awake.f k).bind fun r3 => (some r3)) else (sluicegatelaw28_TruthAsks.l0 k a1 a2 r1.1.1 r1.1.2.1 r1.1.2.2.1 r1.1.2.2.2.1 r1.1.2.2.2.2.1 r1.1.2.2.2.2.2.1 r1.1.2.2.2.2.2.2.1 r1.1.2.2.2.2.2.2.2 r1.2 0)))
set_option maxRecDepth 20000 in
set_option maxHeartbeats 40000000 in
theorem sluicegatelaw28_TruthAsks.spec {k : Nat} {a0 : Int × Int × Int × Int × Int × Int × Int × Int} {a1 : List (Int × List UInt8 × List UInt8 × Int)} {a2 : Int × List UInt8 × List UInt8 × Int} {A1 : Option Addr} {c_1 : Nat} {r : Bool} (H : sluicegatelaw28_TruthAsks.f k a0 a1 a2 = some r) :
    Spec Try.prog 7 [.agg #[.int .i64 a0.1, .int .i64 a0.2.1, .int .i64 a0.2.2.1, .int .i64 a0.2.2.2.1, .int .i64 a0.2.2.2.2.1, .int .i64 a0.2.2.2.2.2.1, .int .i64 a0.2.2.2.2.2.2.1, .int .i64 a0.2.2.2.2.2.2.2], .slice A1 a1.length c_1, .agg #[.int .i64 a2.1, .string ⟨⟨a2.2.1⟩⟩, .string ⟨⟨a2.2.2.1⟩⟩, .int .i64 a2.2.2.2]] [] [rdC 64 (.pair (.int .i64) (.pair .str (.pair .str (.int .i64)))) a1 (.slice A1 a1.length c_1)] (fun v l => v = .bool r ∧ l = []) := by
  refine Spec.enter Try.func7 rfl (by kernel_rfl) (by kernel_rfl) fun w0 F0 h0 => ?_
  unfold sluicegatelaw28_TruthAsks.f at H
  refine J.seq ?_
  refine J.region ?_
  refine RJ.op rfl rfl (op_box rfl rfl h0) ?_
  rintro _ w1 ⟨b1, rfl, h1⟩
  replace h1 : St w0 F0 [boxC b1 61 [.int .i64 a0.1, .int .i64 a0.2.1, .int .i64 a0.2.2.1, .int .i64 a0.2.2.2.1, .int .i64 a0.2.2.2.2.1, .int .i64 a0.2.2.2.2.2.1, .int .i64 a0.2.2.2.2.2.2.1, .int .i64 a0.2.2.2.2.2.2.2]] _ _ := h1
  refine RJ.op rfl rfl (op_box rfl rfl h1) ?_
  rintro _ w2 ⟨b2, rfl, h2⟩
  replace h2 : St w0 F0 [boxC b2 64 [.int .i64 a2.1, .string ⟨⟨a2.2.1⟩⟩, .string ⟨⟨a2.2.2.1⟩⟩, .int .i64 a2.2.2.2], boxC b1 61 [.int .i64 a0.1, .int .i64 a0.2.1, .int .i64 a0.2.2.1, .int .i64 a0.2.2.2.1, .int .i64 a0.2.2.2.2.1, .int .i64 a0.2.2.2.2.2.1, .int .i64 a0.2.2.2.2.2.2.1, .int .i64 a0.2.2.2.2.2.2.2]] _ _ := h2
  refine RJ.run ttok 1 rfl ?_
  refine RJ.fin [(1, .slice A1 a1.length c_1), (3, .pointer (some ⟨b1, 0, none⟩)), (5, .pointer (some ⟨b2, 0, none⟩))] rfl ?_
  refine J.seq ?_
  refine J.region ?_
  refine RJ.q rfl rfl (q_load_box ttok 1 h2.wht rfl rfl rfl rfl rfl) ?_
  obtain ⟨r1, q1, H⟩ := bind_t H
  refine RJ.op rfl rfl (op_call [] (truth_New.spec q1) rfl rfl rfl h2 rfl gnil) ?_
  rintro _ w3 ⟨_, ⟨b3, A2, c_2, rfl, rfl⟩, h3⟩
  replace h3 : St w0 F0 [boxC b3 132 [.int .i64 r1.1.1, .int .i64 r1.1.2.1, .int .i64 r1.1.2.2.1, .int .i64 r1.1.2.2.2.1, .int .i64 r1.1.2.2.2.2.1, .int .i64 r1.1.2.2.2.2.2.1, .int .i64 r1.1.2.2.2.2.2.2.1, .int .i64 r1.1.2.2.2.2.2.2.2, .slice A2 r1.2.length c_2], ownC 75 (.pair .str .str) r1.2 (.slice A2 r1.2.length c_2), boxC b2 64 [.int .i64 a2.1, .string ⟨⟨a2.2.1⟩⟩, .string ⟨⟨a2.2.2.1⟩⟩, .int .i64 a2.2.2.2], boxC b1 61 [.int .i64 a0.1, .int .i64 a0.2.1, .int .i64 a0.2.2.1, .int .i64 a0.2.2.2.1, .int .i64 a0.2.2.2.2.1, .int .i64 a0.2.2.2.2.2.1, .int .i64 a0.2.2.2.2.2.2.1, .int .i64 a0.2.2.2.2.2.2.2]] _ _ := h3
  refine RJ.run ttok 1 rfl ?_
  refine RJ.fin [(1, .slice A1 a1.length c_1), (5, .pointer (some ⟨b2, 0, none⟩)), (7, .pointer (some ⟨b3, 0, none⟩))] rfl ?_
  refine J.seq ?_
  refine J.seq ?_
  refine J.region ?_
  refine RJ.run ttok 3 rfl ?_
  refine RJ.q rfl rfl (q_load_box ttok 2 h3.wht rfl rfl rfl rfl rfl) ?_
  obtain ⟨r2, q2, H⟩ := bind_t H
  refine RJ.op rfl rfl (op_call [] (sluicegatelaw27_Long.spec q2) rfl rfl rfl h3 rfl gnil) ?_
  rintro _ w4 ⟨_, ⟨rfl, rfl⟩, h4⟩
  replace h4 : St w0 F0 [boxC b3 132 [.int .i64 r1.1.1, .int .i64 r1.1.2.1, .int .i64 r1.1.2.2.1, .int .i64 r1.1.2.2.2.1, .int .i64 r1.1.2.2.2.2.1, .int .i64 r1.1.2.2.2.2.2.1, .int .i64 r1.1.2.2.2.2.2.2.1, .int .i64 r1.1.2.2.2.2.2.2.2, .slice A2 r1.2.length c_2], ownC 75 (.pair .str .str) r1.2 (.slice A2 r1.2.length c_2), boxC b2 64 [.int .i64 a2.1, .string ⟨⟨a2.2.1⟩⟩, .string ⟨⟨a2.2.2.1⟩⟩, .int .i64 a2.2.2.2], boxC b1 61 [.int .i64 a0.1, .int .i64 a0.2.1, .int .i64 a0.2.2.1, .int .i64 a0.2.2.2.1, .int .i64 a0.2.2.2.2.1, .int .i64 a0.2.2.2.2.2.1, .int .i64 a0.2.2.2.2.2.2.1, .int .i64 a0.2.2.2.2.2.2.2]] _ _ := h4
  refine RJ.run ttok 1 rfl ?_
  refine RJ.fin [(1, .slice A1 a1.length c_1), (5, .pointer (some ⟨b2, 0, none⟩)), (7, .pointer (some ⟨b3, 0, none⟩)), (19, .bool r2)] rfl ?_
  refine J.cond rfl (fun c1 => ?_) (fun c1 => ?_)
  · replace H := ite_t c1 H
    refine J.seq ?_
    refine J.region ?_
    refine RJ.run ttok 3 rfl ?_
    obtain ⟨r3, q3, H⟩ := bind_t H
    refine RJ.op rfl rfl (op_call [] (sluicegatelaw28_awake.spec q3) rfl rfl rfl h4 rfl gnil) ?_
    rintro _ w5 ⟨_, ⟨rfl, rfl⟩, h5⟩
    replace h5 : St w0 F0 [boxC b3 132 [.int .i64 r1.1.1, .int .i64 r1.1.2.1, .int .i64 r1.1.2.2.1, .int .i64 r1.1.2.2.2.1, .int .i64 r1.1.2.2.2.2.1, .int .i64 r1.1.2.2.2.2.2.1, .int .i64 r1.1.2.2.2.2.2.2.1, .int .i64 r1.1.2.2.2.2.2.2.2, .slice A2 r1.2.length c_2], ownC 75 (.pair .str .str) r1.2 (.slice A2 r1.2.length c_2), boxC b2 64 [.int .i64 a2.1, .string ⟨⟨a2.2.1⟩⟩, .string ⟨⟨a2.2.2.1⟩⟩, .int .i64 a2.2.2.2], boxC b1 61 [.int .i64 a0.1, .int .i64 a0.2.1, .int .i64 a0.2.2.1, .int .i64 a0.2.2.2.1, .int .i64 a0.2.2.2.2.1, .int .i64 a0.2.2.2.2.2.1, .int .i64 a0.2.2.2.2.2.2.1, .int .i64 a0.2.2.2.2.2.2.2]] _ _ := h5
    refine RJ.run ttok 2 rfl ?_
    refine RJ.fin [(6, .bool r3)] rfl ?_
    have h6 := h5.only [] rfl
    replace h6 : St w0 F0 [] _ _ := h6
    refine J.ret ?_
    obtain rfl := Option.some.inj H
    exact ⟨_, _, _, (results_slots rfl), ⟨rfl, rfl⟩, h6.only [] rfl⟩
  · replace H := ite_f c1 H
    refine J.skip ?_
    refine J.seq ?_
    refine J.seq ?_
    refine J.region ?_
    refine RJ.run ttok 1 rfl ?_
    refine RJ.fin [(1, .slice A1 a1.length c_1), (5, .pointer (some ⟨b2, 0, none⟩)), (7, .pointer (some ⟨b3, 0, none⟩)), (8, .int .i64 0)] rfl ?_
    refine J.block ?_
    have h125 := ((h4.only [2, 0, 0] rfl).rds [0] rfl)
    refine J.loop (fun k env w => ∃ (x1 : Int) (x2 : Int) (x3 : Int) (x4 : Int) (x5 : Int) (x6 : Int) (x7 : Int) (x8 : Int) (x9 : List (List UInt8 × List UInt8)) (A3 : Option Addr) (c_3 : Nat) (x10 : Int), env = [(1, .slice A1 a1.length c_1), (5, .pointer (some ⟨b2, 0, none⟩)), (7, .pointer (some ⟨b3, 0, none⟩)), (8, .int .i64 x10)] ∧ St w0 F0 [boxC b2 64 [.int .i64 a2.1, .string ⟨⟨a2.2.1⟩⟩, .string ⟨⟨a2.2.2.1⟩⟩, .int .i64 a2.2.2.2], boxC b3 132 [.int .i64 x1, .int .i64 x2, .int .i64 x3, .int .i64 x4, .int .i64 x5, .int .i64 x6, .int .i64 x7, .int .i64 x8, .slice A3 x9.length c_3], ownC 75 (.pair .str .str) x9 (.slice A3 x9.length c_3)] [rdC 64 (.pair (.int .i64) (.pair .str (.pair .str (.int .i64)))) a1 (.slice A1 a1.length c_1)] w ∧ sluicegatelaw28_TruthAsks.l0 k a1 a2 x1 x2 x3 x4 x5 x6 x7 x8 x9 x10 = some r) (k := k) ⟨r1.1.1, r1.1.2.1, r1.1.2.2.1, r1.1.2.2.2.1, r1.1.2.2.2.2.1, r1.1.2.2.2.2.2.1, r1.1.2.2.2.2.2.2.1, r1.1.2.2.2.2.2.2.2, r1.2, A2, c_2, 0, rfl, h125, H⟩ ?_
    rintro k1 env w6 ⟨x1, x2, x3, x4, x5, x6, x7, x8, x9, A3, c_3, x10, rfl, h7, H⟩
    cases k1 with
    | zero => exact nomatch (show none = some r from H)
    | succ k1 =>
      rw [sluicegatelaw28_TruthAsks.l0] at H
      refine J.seq ?_
      refine J.seq ?_
      refine J.region ?_
      refine RJ.run ttok 5 rfl ?_
      rcases Bool.eq_false_or_eq_true (decide (x10 < (a1.length : Int))) with c2 | c2
      · replace H := ite_t c2 H
        refine RJ.know (t := 29) rfl (congrArg Value.bool c2) ?_
        refine RJ.run ttok 3 rfl ?_
        refine RJ.fin [(1, .slice A1 a1.length c_1), (5, .pointer (some ⟨b2, 0, none⟩)), (7, .pointer (some ⟨b3, 0, none⟩)), (8, .int .i64 x10), (32, .bool (decide (x10 < 150)))] rfl ?_
        refine J.cond rfl (fun c3 => ?_) (fun c3 => ?_)
        · replace H := ite_t c3 H
          refine J.skip ?_
          refine J.seq ?_
          refine J.block ?_
          refine J.seq ?_
          refine J.seq ?_
          refine J.region ?_
          refine RJ.run ttok 2 rfl ?_
          obtain ⟨⟨p1, p2⟩, H⟩ := guard_t H
          have e1 := elem_A h7.wh (Gives.self 3 rfl) p1 p2
          refine RJ.q rfl rfl (q_index ttok rfl rfl rfl rfl rfl e1 p1 p2) ?_
          refine RJ.q rfl rfl (q_load_elem (f := 0) ttok rfl h7.wht (Gives.self 3 rfl) p1 p2 rfl rfl rfl rfl rfl) ?_
          obtain ⟨r4, q4, H⟩ := bind_t H
          refine RJ.op rfl rfl (op_call [] (sluicegatelaw27_Long.spec q4) rfl rfl rfl h7 rfl gnil) ?_
          rintro _ w7 ⟨_, ⟨rfl, rfl⟩, h8⟩
          replace h8 : St w0 F0 [boxC b2 64 [.int .i64 a2.1, .string ⟨⟨a2.2.1⟩⟩, .string ⟨⟨a2.2.2.1⟩⟩, .int .i64 a2.2.2.2], boxC b3 132 [.int .i64 x1, .int .i64 x2, .int .i64 x3, .int .i64 x4, .int .i64 x5, .int .i64 x6, .int .i64 x7, .int .i64 x8, .slice A3 x9.length c_3], ownC 75 (.pair .str .str) x9 (.slice A3 x9.length c_3)] _ _ := h8
          refine RJ.fin [(1, .slice A1 a1.length c_1), (5, .pointer (some ⟨b2, 0, none⟩)), (7, .pointer (some ⟨b3, 0, none⟩)), (8, .int .i64 x10), (39, .bool r4)] rfl ?_
          refine J.cond rfl (fun c4 => ?_) (fun c4 => ?_)
          · replace H := ite_t c4 H
            refine J.seq ?_
            refine J.region ?_
            obtain ⟨r5, q5, H⟩ := bind_t H
            refine RJ.op rfl rfl (op_call [] (sluicegatelaw28_awake.spec q5) rfl rfl rfl h8 rfl gnil) ?_
            rintro _ w8 ⟨_, ⟨rfl, rfl⟩, h9⟩
            replace h9 : St w0 F0 [boxC b2 64 [.int .i64 a2.1, .string ⟨⟨a2.2.1⟩⟩, .string ⟨⟨a2.2.2.1⟩⟩, .int .i64 a2.2.2.2], boxC b3 132 [.int .i64 x1, .int .i64 x2, .int .i64 x3, .int .i64 x4, .int .i64 x5, .int .i64 x6, .int .i64 x7, .int .i64 x8, .slice A3 x9.length c_3], ownC 75 (.pair .str .str) x9 (.slice A3 x9.length c_3)] _ _ := h9
            refine RJ.run ttok 1 rfl ?_
            refine RJ.fin [(6, .bool r5)] rfl ?_
            have h10 := h9.only [] rfl
            replace h10 : St w0 F0 [] _ _ := h10
            refine J.ret ?_
            obtain rfl := Option.some.inj H
            exact ⟨_, _, _, (results_slots rfl), ⟨rfl, rfl⟩, h10.only [] rfl⟩
          · replace H := ite_f c4 H
            refine J.skip ?_
            refine J.region ?_
            refine RJ.run ttok 3 rfl ?_
            refine RJ.q rfl rfl (q_index ttok rfl rfl rfl rfl rfl e1 p1 p2) ?_
            refine RJ.q rfl rfl (q_load_elem (f := 0) ttok rfl h8.wht (Gives.self 3 rfl) p1 p2 rfl rfl rfl rfl rfl) ?_
            obtain ⟨r6, q6, H⟩ := bind_t H
            refine RJ.op rfl rfl (op_call [1, 1] (truth_Truth_Do.spec q6) rfl rfl rfl h8 rfl gnil) ?_
            rintro _ w9 ⟨_, ⟨A4, c_4, A5, c_5, rfl, rfl⟩, h11⟩
            replace h11 : St w0 F0 [ownC 75 (.pair .str .str) r6.1.2.2 (.slice A4 r6.1.2.2.length c_4), boxC b3 132 [.int .i64 r6.2.1.1, .int .i64 r6.2.1.2.1, .int .i64 r6.2.1.2.2.1, .int .i64 r6.2.1.2.2.2.1, .int .i64 r6.2.1.2.2.2.2.1, .int .i64 r6.2.1.2.2.2.2.2.1, .int .i64 r6.2.1.2.2.2.2.2.2.1, .int .i64 r6.2.1.2.2.2.2.2.2.2, .slice A5 r6.2.2.length c_5], ownC 75 (.pair .str .str) r6.2.2 (.slice A5 r6.2.2.length c_5), boxC b2 64 [.int .i64 a2.1, .string ⟨⟨a2.2.1⟩⟩, .string ⟨⟨a2.2.2.1⟩⟩, .int .i64 a2.2.2.2]] _ _ := h11
            refine RJ.fin [(1, .slice A1 a1.length c_1), (5, .pointer (some ⟨b2, 0, none⟩)), (7, .pointer (some ⟨b3, 0, none⟩)), (8, .int .i64 x10)] rfl ?_
            refine J.region ?_
            refine RJ.run ttok 3 rfl ?_
            refine RJ.fin [(1, .slice A1 a1.length c_1), (5, .pointer (some ⟨b2, 0, none⟩)), (7, .pointer (some ⟨b3, 0, none⟩)), (8, .int .i64 (w64 (x10 + 1)))] rfl ?_
            have h12 := ((h11.only [3, 1, 1] rfl).rds [0] rfl)
            exact ⟨k1, by omega, r6.2.1.1, r6.2.1.2.1, r6.2.1.2.2.1, r6.2.1.2.2.2.1, r6.2.1.2.2.2.2.1, r6.2.1.2.2.2.2.2.1, r6.2.1.2.2.2.2.2.2.1, r6.2.1.2.2.2.2.2.2.2, r6.2.2, A5, c_5, (w64 (x10 + 1)), rfl, h12, H⟩
        · replace H := ite_f c3 H
          refine J.exit ?_
          refine J.seq ?_
          refine J.region ?_
          refine RJ.run ttok 1 rfl ?_
          obtain ⟨r7, q7, H⟩ := bind_t H
          refine RJ.op rfl rfl (op_call [1, 1] (truth_Truth_Pairs.spec q7) rfl rfl rfl h7 rfl gnil) ?_
          rintro _ w10 ⟨_, ⟨A6, c_6, rfl, rfl⟩, h13⟩
          replace h13 : St w0 F0 [ownC 75 (.pair .str .str) r7 (.slice A6 r7.length c_6), boxC b3 132 [.int .i64 x1, .int .i64 x2, .int .i64 x3, .int .i64 x4, .int .i64 x5, .int .i64 x6, .int .i64 x7, .int .i64 x8, .slice A3 x9.length c_3], ownC 75 (.pair .str .str) x9 (.slice A3 x9.length c_3), boxC b2 64 [.int .i64 a2.1, .string ⟨⟨a2.2.1⟩⟩, .string ⟨⟨a2.2.2.1⟩⟩, .int .i64 a2.2.2.2]] _ _ := h13
          refine RJ.run ttok 1 rfl ?_
          refine RJ.fin [(5, .pointer (some ⟨b2, 0, none⟩)), (7, .pointer (some ⟨b3, 0, none⟩)), (9, .slice A6 r7.length c_6)] rfl ?_
          refine J.seq ?_
          refine J.region ?_
          refine RJ.run ttok 1 rfl ?_
          refine RJ.q rfl rfl (q_load_box ttok 3 h13.wht rfl rfl rfl rfl rfl) ?_
          obtain ⟨r8, q8, H⟩ := bind_t H
          refine RJ.op rfl rfl (op_call [1, 1] (truth_Truth_Would.spec q8) rfl rfl rfl h13 rfl gnil) ?_
          rintro _ w11 ⟨_, ⟨A7, c_7, rfl, rfl⟩, h14⟩
          replace h14 : St w0 F0 [ownC 75 (.pair .str .str) r8.2.2 (.slice A7 r8.2.2.length c_7), boxC b3 132 [.int .i64 x1, .int .i64 x2, .int .i64 x3, .int .i64 x4, .int .i64 x5, .int .i64 x6, .int .i64 x7, .int .i64 x8, .slice A3 x9.length c_3], ownC 75 (.pair .str .str) x9 (.slice A3 x9.length c_3), ownC 75 (.pair .str .str) r7 (.slice A6 r7.length c_6), boxC b2 64 [.int .i64 a2.1, .string ⟨⟨a2.2.1⟩⟩, .string ⟨⟨a2.2.2.1⟩⟩, .int .i64 a2.2.2.2]] _ _ := h14
          refine RJ.fin [(5, .pointer (some ⟨b2, 0, none⟩)), (7, .pointer (some ⟨b3, 0, none⟩)), (9, .slice A6 r7.length c_6)] rfl ?_
          refine J.seq ?_
          refine J.seq ?_
          refine J.region ?_
          refine RJ.run ttok 1 rfl ?_
          obtain ⟨r9, q9, H⟩ := bind_t H
          refine RJ.op rfl rfl (op_call [1, 1] (truth_Truth_Pairs.spec q9) rfl rfl rfl h14 rfl gnil) ?_
          rintro _ w12 ⟨_, ⟨A8, c_8, rfl, rfl⟩, h15⟩
          replace h15 : St w0 F0 [ownC 75 (.pair .str .str) r9 (.slice A8 r9.length c_8), boxC b3 132 [.int .i64 x1, .int .i64 x2, .int .i64 x3, .int .i64 x4, .int .i64 x5, .int .i64 x6, .int .i64 x7, .int .i64 x8, .slice A3 x9.length c_3], ownC 75 (.pair .str .str) x9 (.slice A3 x9.length c_3), ownC 75 (.pair .str .str) r8.2.2 (.slice A7 r8.2.2.length c_7), ownC 75 (.pair .str .str) r7 (.slice A6 r7.length c_6), boxC b2 64 [.int .i64 a2.1, .string ⟨⟨a2.2.1⟩⟩, .string ⟨⟨a2.2.2.1⟩⟩, .int .i64 a2.2.2.2]] _ _ := h15
          refine RJ.run ttok 1 rfl ?_
          obtain ⟨r10, q10, H⟩ := bind_t H
          refine RJ.op rfl rfl (op_call [] (sluicegateref11_Same.spec q10) rfl rfl rfl h15 rfl (gcons (Gives.of 0 rfl own_rd) (gcons (Gives.of 4 rfl own_rd) gnil))) ?_
          rintro _ w13 ⟨_, ⟨rfl, rfl⟩, h16⟩
          replace h16 : St w0 F0 [ownC 75 (.pair .str .str) r9 (.slice A8 r9.length c_8), boxC b3 132 [.int .i64 x1, .int .i64 x2, .int .i64 x3, .int .i64 x4, .int .i64 x5, .int .i64 x6, .int .i64 x7, .int .i64 x8, .slice A3 x9.length c_3], ownC 75 (.pair .str .str) x9 (.slice A3 x9.length c_3), ownC 75 (.pair .str .str) r8.2.2 (.slice A7 r8.2.2.length c_7), ownC 75 (.pair .str .str) r7 (.slice A6 r7.length c_6), boxC b2 64 [.int .i64 a2.1, .string ⟨⟨a2.2.1⟩⟩, .string ⟨⟨a2.2.2.1⟩⟩, .int .i64 a2.2.2.2]] _ _ := h16
          refine RJ.run ttok 1 rfl ?_
          refine RJ.fin [(5, .pointer (some ⟨b2, 0, none⟩)), (7, .pointer (some ⟨b3, 0, none⟩)), (9, .slice A6 r7.length c_6), (56, .bool (!r10))] rfl ?_
          have h17 := h16.only [1, 1, 2, 2] rfl
          replace h17 : St w0 F0 [boxC b3 132 [.int .i64 x1, .int .i64 x2, .int .i64 x3, .int .i64 x4, .int .i64 x5, .int .i64 x6, .int .i64 x7, .int .i64 x8, .slice A3 x9.length c_3], ownC 75 (.pair .str .str) x9 (.slice A3 x9.length c_3), ownC 75 (.pair .str .str) r7 (.slice A6 r7.length c_6), boxC b2 64 [.int .i64 a2.1, .string ⟨⟨a2.2.1⟩⟩, .string ⟨⟨a2.2.2.1⟩⟩, .int .i64 a2.2.2.2]] _ _ := h17
          refine J.cond rfl (fun c5 => ?_) (fun c5 => ?_)
          · replace H := ite_t c5 H
            refine J.seq ?_
            refine J.region ?_
            refine RJ.run ttok 1 rfl ?_
            refine RJ.fin [(6, .bool false)] rfl ?_
            have h18 := h17.only [] rfl
            replace h18 : St w0 F0 [] _ _ := h18
            refine J.ret ?_
            obtain rfl := Option.some.inj H
            exact ⟨_, _, _, (results_slots rfl), ⟨rfl, rfl⟩, h18.only [] rfl⟩
          · replace H := ite_f c5 H
            refine J.skip ?_
            refine J.seq ?_
            refine J.region ?_
            refine RJ.run ttok 1 rfl ?_
            refine RJ.q rfl rfl (q_load_box ttok 3 h17.wht rfl rfl rfl rfl rfl) ?_
            obtain ⟨r11, q11, H⟩ := bind_t H
            refine RJ.op rfl rfl (op_call [0, 0] (truth_Truth_Do.spec q11) rfl rfl rfl h17 rfl gnil) ?_
            rintro _ w14 ⟨_, ⟨A9, c_9, A10, c_10, rfl, rfl⟩, h19⟩
            replace h19 : St w0 F0 [ownC 75 (.pair .str .str) r11.1.2.2 (.slice A9 r11.1.2.2.length c_9), boxC b3 132 [.int .i64 r11.2.1.1, .int .i64 r11.2.1.2.1, .int .i64 r11.2.1.2.2.1, .int .i64 r11.2.1.2.2.2.1, .int .i64 r11.2.1.2.2.2.2.1, .int .i64 r11.2.1.2.2.2.2.2.1, .int .i64 r11.2.1.2.2.2.2.2.2.1, .int .i64 r11.2.1.2.2.2.2.2.2.2, .slice A10 r11.2.2.length c_10], ownC 75 (.pair .str .str) r11.2.2 (.slice A10 r11.2.2.length c_10), ownC 75 (.pair .str .str) r7 (.slice A6 r7.length c_6), boxC b2 64 [.int .i64 a2.1, .string ⟨⟨a2.2.1⟩⟩, .string ⟨⟨a2.2.2.1⟩⟩, .int .i64 a2.2.2.2]] _ _ := h19
            refine RJ.op rfl rfl (op_alloc ttok rfl rfl h19) ?_
            rintro _ w15 ⟨b4, rfl, h20⟩
            replace h20 : St w0 F0 [boxC b4 70 [.int .i64 0, .string ⟨⟨([] : List UInt8)⟩⟩, .slice none ([] : List (List UInt8 × List UInt8)).length 0], ownC 75 (.pair .str .str) r11.1.2.2 (.slice A9 r11.1.2.2.length c_9), boxC b3 132 [.int .i64 r11.2.1.1, .int .i64 r11.2.1.2.1, .int .i64 r11.2.1.2.2.1, .int .i64 r11.2.1.2.2.2.1, .int .i64 r11.2.1.2.2.2.2.1, .int .i64 r11.2.1.2.2.2.2.2.1, .int .i64 r11.2.1.2.2.2.2.2.2.1, .int .i64 r11.2.1.2.2.2.2.2.2.2, .slice A10 r11.2.2.length c_10], ownC 75 (.pair .str .str) r11.2.2 (.slice A10 r11.2.2.length c_10), ownC 75 (.pair .str .str) r7 (.slice A6 r7.length c_6), boxC b2 64 [.int .i64 a2.1, .string ⟨⟨a2.2.1⟩⟩, .string ⟨⟨a2.2.2.1⟩⟩, .int .i64 a2.2.2.2]] _ _ := h20
            refine RJ.op rfl rfl (op_store ttok 0 rfl h20 rfl rfl rfl rfl rfl rfl rfl) ?_
            intro _ w16 h21
            replace h21 : St w0 F0 [boxC b4 70 [.int .i64 r11.1.1, .string ⟨⟨r11.1.2.1⟩⟩, .slice A9 r11.1.2.2.length c_9], ownC 75 (.pair .str .str) r11.1.2.2 (.slice A9 r11.1.2.2.length c_9), boxC b3 132 [.int .i64 r11.2.1.1, .int .i64 r11.2.1.2.1, .int .i64 r11.2.1.2.2.1, .int .i64 r11.2.1.2.2.2.1, .int .i64 r11.2.1.2.2.2.2.1, .int .i64 r11.2.1.2.2.2.2.2.1, .int .i64 r11.2.1.2.2.2.2.2.2.1, .int .i64 r11.2.1.2.2.2.2.2.2.2, .slice A10 r11.2.2.length c_10], ownC 75 (.pair .str .str) r11.2.2 (.slice A10 r11.2.2.length c_10), ownC 75 (.pair .str .str) r7 (.slice A6 r7.length c_6), boxC b2 64 [.int .i64 a2.1, .string ⟨⟨a2.2.1⟩⟩, .string ⟨⟨a2.2.2.1⟩⟩, .int .i64 a2.2.2.2]] _ _ := h21
            refine RJ.fin [(5, .pointer (some ⟨b2, 0, none⟩)), (7, .pointer (some ⟨b3, 0, none⟩)), (9, .slice A6 r7.length c_6), (10, .pointer (some ⟨b4, 0, none⟩))] rfl ?_
            refine J.seq ?_
            refine J.seq ?_
            refine J.region ?_
            refine RJ.run ttok 1 rfl ?_
            refine RJ.q rfl rfl (q_load_box ttok 0 h21.wht rfl rfl rfl rfl rfl) ?_
            refine RJ.run ttok 2 rfl ?_
            rcases Bool.eq_false_or_eq_true (!decide (r11.1.1 = 0)) with c6 | c6
            · replace H := ite_t c6 H
              refine RJ.know (t := 63) rfl (congrArg Value.bool c6) ?_
              refine RJ.run ttok 9 rfl ?_
              refine RJ.fin [(7, .pointer (some ⟨b3, 0, none⟩)), (9, .slice A6 r7.length c_6), (72, .bool true)] rfl ?_
              have h22 := h21.only [2, 2, 2] rfl
              replace h22 : St w0 F0 [boxC b3 132 [.int .i64 r11.2.1.1, .int .i64 r11.2.1.2.1, .int .i64 r11.2.1.2.2.1, .int .i64 r11.2.1.2.2.2.1, .int .i64 r11.2.1.2.2.2.2.1, .int .i64 r11.2.1.2.2.2.2.2.1, .int .i64 r11.2.1.2.2.2.2.2.2.1, .int .i64 r11.2.1.2.2.2.2.2.2.2, .slice A10 r11.2.2.length c_10], ownC 75 (.pair .str .str) r11.2.2 (.slice A10 r11.2.2.length c_10), ownC 75 (.pair .str .str) r7 (.slice A6 r7.length c_6)] _ _ := h22
              refine J.condT rfl ?_
              refine J.seq ?_
              refine J.region ?_
              refine RJ.run ttok 1 rfl ?_
              obtain ⟨r12, q12, H⟩ := bind_t H
              refine RJ.op rfl rfl (op_call [0, 0] (truth_Truth_Pairs.spec q12) rfl rfl rfl h22 rfl gnil) ?_
              rintro _ w17 ⟨_, ⟨A11, c_11, rfl, rfl⟩, h23⟩
              replace h23 : St w0 F0 [ownC 75 (.pair .str .str) r12 (.slice A11 r12.length c_11), boxC b3 132 [.int .i64 r11.2.1.1, .int .i64 r11.2.1.2.1, .int .i64 r11.2.1.2.2.1, .int .i64 r11.2.1.2.2.2.1, .int .i64 r11.2.1.2.2.2.2.1, .int .i64 r11.2.1.2.2.2.2.2.1, .int .i64 r11.2.1.2.2.2.2.2.2.1, .int .i64 r11.2.1.2.2.2.2.2.2.2, .slice A10 r11.2.2.length c_10], ownC 75 (.pair .str .str) r11.2.2 (.slice A10 r11.2.2.length c_10), ownC 75 (.pair .str .str) r7 (.slice A6 r7.length c_6)] _ _ := h23
              refine RJ.run ttok 1 rfl ?_
              obtain ⟨r13, q13, H⟩ := bind_t H
              refine RJ.op rfl rfl (op_call [] (sluicegateref11_Same.spec q13) rfl rfl rfl h23 rfl (gcons (Gives.of 0 rfl own_rd) (gcons (Gives.of 3 rfl own_rd) gnil))) ?_
              rintro _ w18 ⟨_, ⟨rfl, rfl⟩, h24⟩
              replace h24 : St w0 F0 [ownC 75 (.pair .str .str) r12 (.slice A11 r12.length c_11), boxC b3 132 [.int .i64 r11.2.1.1, .int .i64 r11.2.1.2.1, .int .i64 r11.2.1.2.2.1, .int .i64 r11.2.1.2.2.2.1, .int .i64 r11.2.1.2.2.2.2.1, .int .i64 r11.2.1.2.2.2.2.2.1, .int .i64 r11.2.1.2.2.2.2.2.2.1, .int .i64 r11.2.1.2.2.2.2.2.2.2, .slice A10 r11.2.2.length c_10], ownC 75 (.pair .str .str) r11.2.2 (.slice A10 r11.2.2.length c_10), ownC 75 (.pair .str .str) r7 (.slice A6 r7.length c_6)] _ _ := h24
              refine RJ.run ttok 1 rfl ?_
              refine RJ.fin [(7, .pointer (some ⟨b3, 0, none⟩)), (77, .bool (!r13))] rfl ?_
              have h25 := h24.only [1, 1] rfl
              replace h25 : St w0 F0 [boxC b3 132 [.int .i64 r11.2.1.1, .int .i64 r11.2.1.2.1, .int .i64 r11.2.1.2.2.1, .int .i64 r11.2.1.2.2.2.1, .int .i64 r11.2.1.2.2.2.2.1, .int .i64 r11.2.1.2.2.2.2.2.1, .int .i64 r11.2.1.2.2.2.2.2.2.1, .int .i64 r11.2.1.2.2.2.2.2.2.2, .slice A10 r11.2.2.length c_10], ownC 75 (.pair .str .str) r11.2.2 (.slice A10 r11.2.2.length c_10)] _ _ := h25
              refine J.cond rfl (fun c7 => ?_) (fun c7 => ?_)
              · replace H := ite_t c7 H
                refine J.seq ?_
                refine J.region ?_
                refine RJ.run ttok 1 rfl ?_
                refine RJ.fin [(6, .bool false)] rfl ?_
                have h26 := h25.only [] rfl
                replace h26 : St w0 F0 [] _ _ := h26
                refine J.ret ?_
                obtain rfl := Option.some.inj H
                exact ⟨_, _, _, (results_slots rfl), ⟨rfl, rfl⟩, h26.only [] rfl⟩
              · replace H := ite_f c7 H
                refine J.skip ?_
                refine J.seq ?_
                refine J.region ?_
                refine RJ.run ttok 1 rfl ?_
                obtain ⟨r14, q14, H⟩ := bind_t H
                refine RJ.op rfl rfl (op_call [0, 0] (truth_Truth_Pairs.spec q14) rfl rfl rfl h25 rfl gnil) ?_
                rintro _ w19 ⟨_, ⟨A12, c_12, rfl, rfl⟩, h27⟩
                replace h27 : St w0 F0 [ownC 75 (.pair .str .str) r14 (.slice A12 r14.length c_12), boxC b3 132 [.int .i64 r11.2.1.1, .int .i64 r11.2.1.2.1, .int .i64 r11.2.1.2.2.1, .int .i64 r11.2.1.2.2.2.1, .int .i64 r11.2.1.2.2.2.2.1, .int .i64 r11.2.1.2.2.2.2.2.1, .int .i64 r11.2.1.2.2.2.2.2.2.1, .int .i64 r11.2.1.2.2.2.2.2.2.2, .slice A10 r11.2.2.length c_10], ownC 75 (.pair .str .str) r11.2.2 (.slice A10 r11.2.2.length c_10)] _ _ := h27
                refine RJ.run ttok 1 rfl ?_
                refine RJ.fin [(7, .pointer (some ⟨b3, 0, none⟩)), (11, .slice A12 r14.length c_12)] rfl ?_
                refine J.seq ?_
                refine J.seq ?_
                refine J.region ?_
                refine RJ.run ttok 3 rfl ?_
                refine RJ.fin [(7, .pointer (some ⟨b3, 0, none⟩)), (11, .slice A12 r14.length c_12), (82, .bool (decide (0 < (r14.length : Int))))] rfl ?_
                refine J.cond rfl (fun c8 => ?_) (fun c8 => ?_)
                · replace H := ite_t c8 H
                  refine J.seq ?_
                  refine J.region ?_
                  refine RJ.run ttok 1 rfl ?_
                  obtain ⟨p3, H⟩ := guard_t H
                  have e2 := elem_A h27.wh (Gives.of 0 rfl own_rd) (by decide) p3
                  refine RJ.q rfl rfl (q_index ttok rfl rfl rfl rfl rfl e2 (by decide) p3) ?_
                  refine RJ.run ttok 1 rfl ?_
                  refine RJ.q rfl rfl (q_load_elem (f := 1) ttok rfl h27.wht (Gives.of 0 rfl own_rd) (by decide) p3 rfl rfl rfl rfl rfl) ?_
                  obtain ⟨p4, H⟩ := guard_t H
                  refine RJ.q rfl rfl (q_concat rfl rfl rfl p4) ?_
                  refine RJ.q rfl rfl (q_index ttok rfl rfl rfl rfl rfl e2 (by decide) p3) ?_
                  refine RJ.run ttok 1 rfl ?_
                  refine RJ.op rfl rfl (op_store_elem (f := 1) (ix := 0) ttok rfl ((gt r14 0).1, (((gt r14 0).2) ++ ([120] : List UInt8))) 0 rfl h27 rfl rfl (by decide) p3 rfl rfl rfl rfl rfl rfl rfl) ?_
                  intro _ w20 h28
                  replace h28 : St w0 F0 [ownC 75 (.pair .str .str) (r14.set (0 : Int).toNat ((gt r14 0).1, (((gt r14 0).2) ++ ([120] : List UInt8)))) (.slice A12 (r14.set (0 : Int).toNat ((gt r14 0).1, (((gt r14 0).2) ++ ([120] : List UInt8)))).length c_12), boxC b3 132 [.int .i64 r11.2.1.1, .int .i64 r11.2.1.2.1, .int .i64 r11.2.1.2.2.1, .int .i64 r11.2.1.2.2.2.1, .int .i64 r11.2.1.2.2.2.2.1, .int .i64 r11.2.1.2.2.2.2.2.1, .int .i64 r11.2.1.2.2.2.2.2.2.1, .int .i64 r11.2.1.2.2.2.2.2.2.2, .slice A10 r11.2.2.length c_10], ownC 75 (.pair .str .str) r11.2.2 (.slice A10 r11.2.2.length c_10)] _ _ := h28
                  refine RJ.fin [(7, .pointer (some ⟨b3, 0, none⟩)), (11, .slice A12 r14.length c_12)] rfl ?_
                  refine J.envEq (env' := [(7, .pointer (some ⟨b3, 0, none⟩)), (11, .slice A12 (r14.set (0 : Int).toNat ((gt r14 0).1, (((gt r14 0).2) ++ ([120] : List UInt8)))).length c_12)]) (by simp only [List.length_set]) ?_
                  refine J.seq ?_
                  refine J.region ?_
                  refine RJ.run ttok 1 rfl ?_
                  obtain ⟨r15, q15, H⟩ := bind_t H
                  refine RJ.op rfl rfl (op_call [1, 1] (truth_Truth_Pairs.spec q15) rfl rfl rfl h28 rfl gnil) ?_
                  rintro _ w21 ⟨_, ⟨A13, c_13, rfl, rfl⟩, h29⟩
                  replace h29 : St w0 F0 [ownC 75 (.pair .str .str) r15 (.slice A13 r15.length c_13), boxC b3 132 [.int .i64 r11.2.1.1, .int .i64 r11.2.1.2.1, .int .i64 r11.2.1.2.2.1, .int .i64 r11.2.1.2.2.2.1, .int .i64 r11.2.1.2.2.2.2.1, .int .i64 r11.2.1.2.2.2.2.2.1, .int .i64 r11.2.1.2.2.2.2.2.2.1, .int .i64 r11.2.1.2.2.2.2.2.2.2, .slice A10 r11.2.2.length c_10], ownC 75 (.pair .str .str) r11.2.2 (.slice A10 r11.2.2.length c_10), ownC 75 (.pair .str .str) (r14.set (0 : Int).toNat ((gt r14 0).1, (((gt r14 0).2) ++ ([120] : List UInt8)))) (.slice A12 (r14.set (0 : Int).toNat ((gt r14 0).1, (((gt r14 0).2) ++ ([120] : List UInt8)))).length c_12)] _ _ := h29
                  refine RJ.run ttok 1 rfl ?_
                  obtain ⟨r16, q16, H⟩ := bind_t H
                  refine RJ.op rfl rfl (op_call [] (sluicegateref11_Same.spec q16) rfl rfl rfl h29 rfl (gcons (Gives.of 0 rfl own_rd) (gcons (Gives.of 3 rfl own_rd) gnil))) ?_
                  rintro _ w22 ⟨_, ⟨rfl, rfl⟩, h30⟩
                  replace h30 : St w0 F0 [ownC 75 (.pair .str .str) r15 (.slice A13 r15.length c_13), boxC b3 132 [.int .i64 r11.2.1.1, .int .i64 r11.2.1.2.1, .int .i64 r11.2.1.2.2.1, .int .i64 r11.2.1.2.2.2.1, .int .i64 r11.2.1.2.2.2.2.1, .int .i64 r11.2.1.2.2.2.2.2.1, .int .i64 r11.2.1.2.2.2.2.2.2.1, .int .i64 r11.2.1.2.2.2.2.2.2.2, .slice A10 r11.2.2.length c_10], ownC 75 (.pair .str .str) r11.2.2 (.slice A10 r11.2.2.length c_10), ownC 75 (.pair .str .str) (r14.set (0 : Int).toNat ((gt r14 0).1, (((gt r14 0).2) ++ ([120] : List UInt8)))) (.slice A12 (r14.set (0 : Int).toNat ((gt r14 0).1, (((gt r14 0).2) ++ ([120] : List UInt8)))).length c_12)] _ _ := h30
                  refine RJ.run ttok 2 rfl ?_
                  rcases Bool.eq_false_or_eq_true (!r16) with c9 | c9
                  · replace H := ite_t c9 H
                    refine RJ.know (t := 95) rfl (congrArg Value.bool c9) ?_
                    obtain ⟨r17, q17, H⟩ := bind_t H
                    refine RJ.op rfl rfl (op_call [] (sluicegatelaw28_awake.spec q17) rfl rfl rfl h30 rfl gnil) ?_
                    rintro _ w23 ⟨_, ⟨rfl, rfl⟩, h31⟩
                    replace h31 : St w0 F0 [ownC 75 (.pair .str .str) r15 (.slice A13 r15.length c_13), boxC b3 132 [.int .i64 r11.2.1.1, .int .i64 r11.2.1.2.1, .int .i64 r11.2.1.2.2.1, .int .i64 r11.2.1.2.2.2.1, .int .i64 r11.2.1.2.2.2.2.1, .int .i64 r11.2.1.2.2.2.2.2.1, .int .i64 r11.2.1.2.2.2.2.2.2.1, .int .i64 r11.2.1.2.2.2.2.2.2.2, .slice A10 r11.2.2.length c_10], ownC 75 (.pair .str .str) r11.2.2 (.slice A10 r11.2.2.length c_10), ownC 75 (.pair .str .str) (r14.set (0 : Int).toNat ((gt r14 0).1, (((gt r14 0).2) ++ ([120] : List UInt8)))) (.slice A12 (r14.set (0 : Int).toNat ((gt r14 0).1, (((gt r14 0).2) ++ ([120] : List UInt8)))).length c_12)] _ _ := h31
                    refine RJ.run ttok 2 rfl ?_
                    refine RJ.fin [(6, .bool r17)] rfl ?_
                    have h32 := h31.only [] rfl
                    replace h32 : St w0 F0 [] _ _ := h32
                    refine J.ret ?_
                    obtain rfl := Option.some.inj H
                    exact ⟨_, _, _, (results_slots rfl), ⟨rfl, rfl⟩, h32.only [] rfl⟩
                  · replace H := ite_f c9 H
                    refine RJ.know (t := 95) rfl (congrArg Value.bool c9) ?_
                    refine RJ.run ttok 3 rfl ?_
                    refine RJ.fin [(6, .bool false)] rfl ?_
                    have h33 := h30.only [] rfl
                    replace h33 : St w0 F0 [] _ _ := h33
                    refine J.ret ?_
                    obtain rfl := Option.some.inj H
                    exact ⟨_, _, _, (results_slots rfl), ⟨rfl, rfl⟩, h33.only [] rfl⟩
                · replace H := ite_f c8 H
                  refine J.skip ?_
                  refine J.seq ?_
                  refine J.region ?_
                  obtain ⟨r18, q18, H⟩ := bind_t H
                  refine RJ.op rfl rfl (op_call [] (sluicegatelaw28_awake.spec q18) rfl rfl rfl h27 rfl gnil) ?_
                  rintro _ w24 ⟨_, ⟨rfl, rfl⟩, h34⟩
                  replace h34 : St w0 F0 [ownC 75 (.pair .str .str) r14 (.slice A12 r14.length c_12), boxC b3 132 [.int .i64 r11.2.1.1, .int .i64 r11.2.1.2.1, .int .i64 r11.2.1.2.2.1, .int .i64 r11.2.1.2.2.2.1, .int .i64 r11.2.1.2.2.2.2.1, .int .i64 r11.2.1.2.2.2.2.2.1, .int .i64 r11.2.1.2.2.2.2.2.2.1, .int .i64 r11.2.1.2.2.2.2.2.2.2, .slice A10 r11.2.2.length c_10], ownC 75 (.pair .str .str) r11.2.2 (.slice A10 r11.2.2.length c_10)] _ _ := h34
                  refine RJ.run ttok 1 rfl ?_
                  refine RJ.fin [(6, .bool r18)] rfl ?_
                  have h35 := h34.only [] rfl
                  replace h35 : St w0 F0 [] _ _ := h35
                  refine J.ret ?_
                  obtain rfl := Option.some.inj H
                  exact ⟨_, _, _, (results_slots rfl), ⟨rfl, rfl⟩, h35.only [] rfl⟩
            · replace H := ite_f c6 H
              refine RJ.know (t := 63) rfl (congrArg Value.bool c6) ?_
              refine RJ.run ttok 1 rfl ?_
              refine RJ.q rfl rfl (q_load_box ttok 5 h21.wht rfl rfl rfl rfl rfl) ?_
              refine RJ.run ttok 2 rfl ?_
              rcases Bool.eq_false_or_eq_true (!decide (a2.1 = 1)) with c10 | c10
              · replace H := ite_t c10 H
                refine RJ.know (t := 67) rfl (congrArg Value.bool c10) ?_
                refine RJ.run ttok 1 rfl ?_
                refine RJ.q rfl rfl (q_load_box ttok 5 h21.wht rfl rfl rfl rfl rfl) ?_
                refine RJ.run ttok 3 rfl ?_
                refine RJ.fin [(7, .pointer (some ⟨b3, 0, none⟩)), (9, .slice A6 r7.length c_6), (72, .bool (!decide (a2.1 = 2)))] rfl ?_
                have h36 := h21.only [2, 2, 2] rfl
                replace h36 : St w0 F0 [boxC b3 132 [.int .i64 r11.2.1.1, .int .i64 r11.2.1.2.1, .int .i64 r11.2.1.2.2.1, .int .i64 r11.2.1.2.2.2.1, .int .i64 r11.2.1.2.2.2.2.1, .int .i64 r11.2.1.2.2.2.2.2.1, .int .i64 r11.2.1.2.2.2.2.2.2.1, .int .i64 r11.2.1.2.2.2.2.2.2.2, .slice A10 r11.2.2.length c_10], ownC 75 (.pair .str .str) r11.2.2 (.slice A10 r11.2.2.length c_10), ownC 75 (.pair .str .str) r7 (.slice A6 r7.length c_6)] _ _ := h36
                refine J.cond rfl (fun c11 => ?_) (fun c11 => ?_)
                · replace H := ite_t c11 H
                  refine J.seq ?_
                  refine J.region ?_
                  refine RJ.run ttok 1 rfl ?_
                  obtain ⟨r19, q19, H⟩ := bind_t H
                  refine RJ.op rfl rfl (op_call [0, 0] (truth_Truth_Pairs.spec q19) rfl rfl rfl h36 rfl gnil) ?_
                  rintro _ w25 ⟨_, ⟨A14, c_14, rfl, rfl⟩, h37⟩
                  replace h37 : St w0 F0 [ownC 75 (.pair .str .str) r19 (.slice A14 r19.length c_14), boxC b3 132 [.int .i64 r11.2.1.1, .int .i64 r11.2.1.2.1, .int .i64 r11.2.1.2.2.1, .int .i64 r11.2.1.2.2.2.1, .int .i64 r11.2.1.2.2.2.2.1, .int .i64 r11.2.1.2.2.2.2.2.1, .int .i64 r11.2.1.2.2.2.2.2.2.1, .int .i64 r11.2.1.2.2.2.2.2.2.2, .slice A10 r11.2.2.length c_10], ownC 75 (.pair .str .str) r11.2.2 (.slice A10 r11.2.2.length c_10), ownC 75 (.pair .str .str) r7 (.slice A6 r7.length c_6)] _ _ := h37
                  refine RJ.run ttok 1 rfl ?_
                  obtain ⟨r20, q20, H⟩ := bind_t H
                  refine RJ.op rfl rfl (op_call [] (sluicegateref11_Same.spec q20) rfl rfl rfl h37 rfl (gcons (Gives.of 0 rfl own_rd) (gcons (Gives.of 3 rfl own_rd) gnil))) ?_
                  rintro _ w26 ⟨_, ⟨rfl, rfl⟩, h38⟩
                  replace h38 : St w0 F0 [ownC 75 (.pair .str .str) r19 (.slice A14 r19.length c_14), boxC b3 132 [.int .i64 r11.2.1.1, .int .i64 r11.2.1.2.1, .int .i64 r11.2.1.2.2.1, .int .i64 r11.2.1.2.2.2.1, .int .i64 r11.2.1.2.2.2.2.1, .int .i64 r11.2.1.2.2.2.2.2.1, .int .i64 r11.2.1.2.2.2.2.2.2.1, .int .i64 r11.2.1.2.2.2.2.2.2.2, .slice A10 r11.2.2.length c_10], ownC 75 (.pair .str .str) r11.2.2 (.slice A10 r11.2.2.length c_10), ownC 75 (.pair .str .str) r7 (.slice A6 r7.length c_6)] _ _ := h38
                  refine RJ.run ttok 1 rfl ?_
                  refine RJ.fin [(7, .pointer (some ⟨b3, 0, none⟩)), (77, .bool (!r20))] rfl ?_
                  have h39 := h38.only [1, 1] rfl
                  replace h39 : St w0 F0 [boxC b3 132 [.int .i64 r11.2.1.1, .int .i64 r11.2.1.2.1, .int .i64 r11.2.1.2.2.1, .int .i64 r11.2.1.2.2.2.1, .int .i64 r11.2.1.2.2.2.2.1, .int .i64 r11.2.1.2.2.2.2.2.1, .int .i64 r11.2.1.2.2.2.2.2.2.1, .int .i64 r11.2.1.2.2.2.2.2.2.2, .slice A10 r11.2.2.length c_10], ownC 75 (.pair .str .str) r11.2.2 (.slice A10 r11.2.2.length c_10)] _ _ := h39
                  refine J.cond rfl (fun c12 => ?_) (fun c12 => ?_)
                  · replace H := ite_t c12 H
                    refine J.seq ?_
                    refine J.region ?_
                    refine RJ.run ttok 1 rfl ?_
                    refine RJ.fin [(6, .bool false)] rfl ?_
                    have h40 := h39.only [] rfl
                    replace h40 : St w0 F0 [] _ _ := h40
                    refine J.ret ?_
                    obtain rfl := Option.some.inj H
                    exact ⟨_, _, _, (results_slots rfl), ⟨rfl, rfl⟩, h40.only [] rfl⟩
                  · replace H := ite_f c12 H
                    refine J.skip ?_
                    refine J.seq ?_
                    refine J.region ?_
                    refine RJ.run ttok 1 rfl ?_
                    obtain ⟨r21, q21, H⟩ := bind_t H
                    refine RJ.op rfl rfl (op_call [0, 0] (truth_Truth_Pairs.spec q21) rfl rfl rfl h39 rfl gnil) ?_
                    rintro _ w27 ⟨_, ⟨A15, c_15, rfl, rfl⟩, h41⟩
                    replace h41 : St w0 F0 [ownC 75 (.pair .str .str) r21 (.slice A15 r21.length c_15), boxC b3 132 [.int .i64 r11.2.1.1, .int .i64 r11.2.1.2.1, .int .i64 r11.2.1.2.2.1, .int .i64 r11.2.1.2.2.2.1, .int .i64 r11.2.1.2.2.2.2.1, .int .i64 r11.2.1.2.2.2.2.2.1, .int .i64 r11.2.1.2.2.2.2.2.2.1, .int .i64 r11.2.1.2.2.2.2.2.2.2, .slice A10 r11.2.2.length c_10], ownC 75 (.pair .str .str) r11.2.2 (.slice A10 r11.2.2.length c_10)] _ _ := h41
                    refine RJ.run ttok 1 rfl ?_
                    refine RJ.fin [(7, .pointer (some ⟨b3, 0, none⟩)), (11, .slice A15 r21.length c_15)] rfl ?_
                    refine J.seq ?_
                    refine J.seq ?_
                    refine J.region ?_
                    refine RJ.run ttok 3 rfl ?_
                    refine RJ.fin [(7, .pointer (some ⟨b3, 0, none⟩)), (11, .slice A15 r21.length c_15), (82, .bool (decide (0 < (r21.length : Int))))] rfl ?_
                    refine J.cond rfl (fun c13 => ?_) (fun c13 => ?_)
                    · replace H := ite_t c13 H
                      refine J.seq ?_
                      refine J.region ?_
                      refine RJ.run ttok 1 rfl ?_
                      obtain ⟨p5, H⟩ := guard_t H
                      have e3 := elem_A h41.wh (Gives.of 0 rfl own_rd) (by decide) p5
                      refine RJ.q rfl rfl (q_index ttok rfl rfl rfl rfl rfl e3 (by decide) p5) ?_
                      refine RJ.run ttok 1 rfl ?_
                      refine RJ.q rfl rfl (q_load_elem (f := 1) ttok rfl h41.wht (Gives.of 0 rfl own_rd) (by decide) p5 rfl rfl rfl rfl rfl) ?_
                      obtain ⟨p6, H⟩ := guard_t H
                      refine RJ.q rfl rfl (q_concat rfl rfl rfl p6) ?_
                      refine RJ.q rfl rfl (q_index ttok rfl rfl rfl rfl rfl e3 (by decide) p5) ?_
                      refine RJ.run ttok 1 rfl ?_
                      refine RJ.op rfl rfl (op_store_elem (f := 1) (ix := 0) ttok rfl ((gt r21 0).1, (((gt r21 0).2) ++ ([120] : List UInt8))) 0 rfl h41 rfl rfl (by decide) p5 rfl rfl rfl rfl rfl rfl rfl) ?_
                      intro _ w28 h42
                      replace h42 : St w0 F0 [ownC 75 (.pair .str .str) (r21.set (0 : Int).toNat ((gt r21 0).1, (((gt r21 0).2) ++ ([120] : List UInt8)))) (.slice A15 (r21.set (0 : Int).toNat ((gt r21 0).1, (((gt r21 0).2) ++ ([120] : List UInt8)))).length c_15), boxC b3 132 [.int .i64 r11.2.1.1, .int .i64 r11.2.1.2.1, .int .i64 r11.2.1.2.2.1, .int .i64 r11.2.1.2.2.2.1, .int .i64 r11.2.1.2.2.2.2.1, .int .i64 r11.2.1.2.2.2.2.2.1, .int .i64 r11.2.1.2.2.2.2.2.2.1, .int .i64 r11.2.1.2.2.2.2.2.2.2, .slice A10 r11.2.2.length c_10], ownC 75 (.pair .str .str) r11.2.2 (.slice A10 r11.2.2.length c_10)] _ _ := h42
                      refine RJ.fin [(7, .pointer (some ⟨b3, 0, none⟩)), (11, .slice A15 r21.length c_15)] rfl ?_
                      refine J.envEq (env' := [(7, .pointer (some ⟨b3, 0, none⟩)), (11, .slice A15 (r21.set (0 : Int).toNat ((gt r21 0).1, (((gt r21 0).2) ++ ([120] : List UInt8)))).length c_15)]) (by simp only [List.length_set]) ?_
                      refine J.seq ?_
                      refine J.region ?_
                      refine RJ.run ttok 1 rfl ?_
                      obtain ⟨r22, q22, H⟩ := bind_t H
                      refine RJ.op rfl rfl (op_call [1, 1] (truth_Truth_Pairs.spec q22) rfl rfl rfl h42 rfl gnil) ?_
                      rintro _ w29 ⟨_, ⟨A16, c_16, rfl, rfl⟩, h43⟩
                      replace h43 : St w0 F0 [ownC 75 (.pair .str .str) r22 (.slice A16 r22.length c_16), boxC b3 132 [.int .i64 r11.2.1.1, .int .i64 r11.2.1.2.1, .int .i64 r11.2.1.2.2.1, .int .i64 r11.2.1.2.2.2.1, .int .i64 r11.2.1.2.2.2.2.1, .int .i64 r11.2.1.2.2.2.2.2.1, .int .i64 r11.2.1.2.2.2.2.2.2.1, .int .i64 r11.2.1.2.2.2.2.2.2.2, .slice A10 r11.2.2.length c_10], ownC 75 (.pair .str .str) r11.2.2 (.slice A10 r11.2.2.length c_10), ownC 75 (.pair .str .str) (r21.set (0 : Int).toNat ((gt r21 0).1, (((gt r21 0).2) ++ ([120] : List UInt8)))) (.slice A15 (r21.set (0 : Int).toNat ((gt r21 0).1, (((gt r21 0).2) ++ ([120] : List UInt8)))).length c_15)] _ _ := h43
                      refine RJ.run ttok 1 rfl ?_
                      obtain ⟨r23, q23, H⟩ := bind_t H
                      refine RJ.op rfl rfl (op_call [] (sluicegateref11_Same.spec q23) rfl rfl rfl h43 rfl (gcons (Gives.of 0 rfl own_rd) (gcons (Gives.of 3 rfl own_rd) gnil))) ?_
                      rintro _ w30 ⟨_, ⟨rfl, rfl⟩, h44⟩
                      replace h44 : St w0 F0 [ownC 75 (.pair .str .str) r22 (.slice A16 r22.length c_16), boxC b3 132 [.int .i64 r11.2.1.1, .int .i64 r11.2.1.2.1, .int .i64 r11.2.1.2.2.1, .int .i64 r11.2.1.2.2.2.1, .int .i64 r11.2.1.2.2.2.2.1, .int .i64 r11.2.1.2.2.2.2.2.1, .int .i64 r11.2.1.2.2.2.2.2.2.1, .int .i64 r11.2.1.2.2.2.2.2.2.2, .slice A10 r11.2.2.length c_10], ownC 75 (.pair .str .str) r11.2.2 (.slice A10 r11.2.2.length c_10), ownC 75 (.pair .str .str) (r21.set (0 : Int).toNat ((gt r21 0).1, (((gt r21 0).2) ++ ([120] : List UInt8)))) (.slice A15 (r21.set (0 : Int).toNat ((gt r21 0).1, (((gt r21 0).2) ++ ([120] : List UInt8)))).length c_15)] _ _ := h44
                      refine RJ.run ttok 2 rfl ?_
                      rcases Bool.eq_false_or_eq_true (!r23) with c14 | c14
                      · replace H := ite_t c14 H
                        refine RJ.know (t := 95) rfl (congrArg Value.bool c14) ?_
                        obtain ⟨r24, q24, H⟩ := bind_t H
                        refine RJ.op rfl rfl (op_call [] (sluicegatelaw28_awake.spec q24) rfl rfl rfl h44 rfl gnil) ?_
                        rintro _ w31 ⟨_, ⟨rfl, rfl⟩, h45⟩
                        replace h45 : St w0 F0 [ownC 75 (.pair .str .str) r22 (.slice A16 r22.length c_16), boxC b3 132 [.int .i64 r11.2.1.1, .int .i64 r11.2.1.2.1, .int .i64 r11.2.1.2.2.1, .int .i64 r11.2.1.2.2.2.1, .int .i64 r11.2.1.2.2.2.2.1, .int .i64 r11.2.1.2.2.2.2.2.1, .int .i64 r11.2.1.2.2.2.2.2.2.1, .int .i64 r11.2.1.2.2.2.2.2.2.2, .slice A10 r11.2.2.length c_10], ownC 75 (.pair .str .str) r11.2.2 (.slice A10 r11.2.2.length c_10), ownC 75 (.pair .str .str) (r21.set (0 : Int).toNat ((gt r21 0).1, (((gt r21 0).2) ++ ([120] : List UInt8)))) (.slice A15 (r21.set (0 : Int).toNat ((gt r21 0).1, (((gt r21 0).2) ++ ([120] : List UInt8)))).length c_15)] _ _ := h45
                        refine RJ.run ttok 2 rfl ?_
                        refine RJ.fin [(6, .bool r24)] rfl ?_
                        have h46 := h45.only [] rfl
                        replace h46 : St w0 F0 [] _ _ := h46
                        refine J.ret ?_
                        obtain rfl := Option.some.inj H
                        exact ⟨_, _, _, (results_slots rfl), ⟨rfl, rfl⟩, h46.only [] rfl⟩
                      · replace H := ite_f c14 H
                        refine RJ.know (t := 95) rfl (congrArg Value.bool c14) ?_
                        refine RJ.run ttok 3 rfl ?_
                        refine RJ.fin [(6, .bool false)] rfl ?_
                        have h47 := h44.only [] rfl
                        replace h47 : St w0 F0 [] _ _ := h47
                        refine J.ret ?_
                        obtain rfl := Option.some.inj H
                        exact ⟨_, _, _, (results_slots rfl), ⟨rfl, rfl⟩, h47.only [] rfl⟩
                    · replace H := ite_f c13 H
                      refine J.skip ?_
                      refine J.seq ?_
                      refine J.region ?_
                      obtain ⟨r25, q25, H⟩ := bind_t H
                      refine RJ.op rfl rfl (op_call [] (sluicegatelaw28_awake.spec q25) rfl rfl rfl h41 rfl gnil) ?_
                      rintro _ w32 ⟨_, ⟨rfl, rfl⟩, h48⟩
                      replace h48 : St w0 F0 [ownC 75 (.pair .str .str) r21 (.slice A15 r21.length c_15), boxC b3 132 [.int .i64 r11.2.1.1, .int .i64 r11.2.1.2.1, .int .i64 r11.2.1.2.2.1, .int .i64 r11.2.1.2.2.2.1, .int .i64 r11.2.1.2.2.2.2.1, .int .i64 r11.2.1.2.2.2.2.2.1, .int .i64 r11.2.1.2.2.2.2.2.2.1, .int .i64 r11.2.1.2.2.2.2.2.2.2, .slice A10 r11.2.2.length c_10], ownC 75 (.pair .str .str) r11.2.2 (.slice A10 r11.2.2.length c_10)] _ _ := h48
                      refine RJ.run ttok 1 rfl ?_
                      refine RJ.fin [(6, .bool r25)] rfl ?_
                      have h49 := h48.only [] rfl
                      replace h49 : St w0 F0 [] _ _ := h49
                      refine J.ret ?_
                      obtain rfl := Option.some.inj H
                      exact ⟨_, _, _, (results_slots rfl), ⟨rfl, rfl⟩, h49.only [] rfl⟩
                · replace H := ite_f c11 H
                  refine J.skip ?_
                  refine J.seq ?_
                  refine J.region ?_
                  refine RJ.run ttok 1 rfl ?_
                  obtain ⟨r26, q26, H⟩ := bind_t H
                  refine RJ.op rfl rfl (op_call [0, 0] (truth_Truth_Pairs.spec q26) rfl rfl rfl h36 rfl gnil) ?_
                  rintro _ w33 ⟨_, ⟨A17, c_17, rfl, rfl⟩, h50⟩
                  replace h50 : St w0 F0 [ownC 75 (.pair .str .str) r26 (.slice A17 r26.length c_17), boxC b3 132 [.int .i64 r11.2.1.1, .int .i64 r11.2.1.2.1, .int .i64 r11.2.1.2.2.1, .int .i64 r11.2.1.2.2.2.1, .int .i64 r11.2.1.2.2.2.2.1, .int .i64 r11.2.1.2.2.2.2.2.1, .int .i64 r11.2.1.2.2.2.2.2.2.1, .int .i64 r11.2.1.2.2.2.2.2.2.2, .slice A10 r11.2.2.length c_10], ownC 75 (.pair .str .str) r11.2.2 (.slice A10 r11.2.2.length c_10), ownC 75 (.pair .str .str) r7 (.slice A6 r7.length c_6)] _ _ := h50
                  refine RJ.run ttok 1 rfl ?_
                  refine RJ.fin [(7, .pointer (some ⟨b3, 0, none⟩)), (11, .slice A17 r26.length c_17)] rfl ?_
                  refine J.seq ?_
                  refine J.seq ?_
                  refine J.region ?_
                  refine RJ.run ttok 3 rfl ?_
                  refine RJ.fin [(7, .pointer (some ⟨b3, 0, none⟩)), (11, .slice A17 r26.length c_17), (82, .bool (decide (0 < (r26.length : Int))))] rfl ?_
                  refine J.cond rfl (fun c15 => ?_) (fun c15 => ?_)
                  · replace H := ite_t c15 H
                    refine J.seq ?_
                    refine J.region ?_
                    refine RJ.run ttok 1 rfl ?_
                    obtain ⟨p7, H⟩ := guard_t H
                    have e4 := elem_A h50.wh (Gives.of 0 rfl own_rd) (by decide) p7
                    refine RJ.q rfl rfl (q_index ttok rfl rfl rfl rfl rfl e4 (by decide) p7) ?_
                    refine RJ.run ttok 1 rfl ?_
                    refine RJ.q rfl rfl (q_load_elem (f := 1) ttok rfl h50.wht (Gives.of 0 rfl own_rd) (by decide) p7 rfl rfl rfl rfl rfl) ?_
                    obtain ⟨p8, H⟩ := guard_t H
                    refine RJ.q rfl rfl (q_concat rfl rfl rfl p8) ?_
                    refine RJ.q rfl rfl (q_index ttok rfl rfl rfl rfl rfl e4 (by decide) p7) ?_
                    refine RJ.run ttok 1 rfl ?_
                    refine RJ.op rfl rfl (op_store_elem (f := 1) (ix := 0) ttok rfl ((gt r26 0).1, (((gt r26 0).2) ++ ([120] : List UInt8))) 0 rfl h50 rfl rfl (by decide) p7 rfl rfl rfl rfl rfl rfl rfl) ?_
                    intro _ w34 h51
                    replace h51 : St w0 F0 [ownC 75 (.pair .str .str) (r26.set (0 : Int).toNat ((gt r26 0).1, (((gt r26 0).2) ++ ([120] : List UInt8)))) (.slice A17 (r26.set (0 : Int).toNat ((gt r26 0).1, (((gt r26 0).2) ++ ([120] : List UInt8)))).length c_17), boxC b3 132 [.int .i64 r11.2.1.1, .int .i64 r11.2.1.2.1, .int .i64 r11.2.1.2.2.1, .int .i64 r11.2.1.2.2.2.1, .int .i64 r11.2.1.2.2.2.2.1, .int .i64 r11.2.1.2.2.2.2.2.1, .int .i64 r11.2.1.2.2.2.2.2.2.1, .int .i64 r11.2.1.2.2.2.2.2.2.2, .slice A10 r11.2.2.length c_10], ownC 75 (.pair .str .str) r11.2.2 (.slice A10 r11.2.2.length c_10), ownC 75 (.pair .str .str) r7 (.slice A6 r7.length c_6)] _ _ := h51
                    refine RJ.fin [(7, .pointer (some ⟨b3, 0, none⟩)), (11, .slice A17 r26.length c_17)] rfl ?_
                    refine J.envEq (env' := [(7, .pointer (some ⟨b3, 0, none⟩)), (11, .slice A17 (r26.set (0 : Int).toNat ((gt r26 0).1, (((gt r26 0).2) ++ ([120] : List UInt8)))).length c_17)]) (by simp only [List.length_set]) ?_
                    refine J.seq ?_
                    refine J.region ?_
                    refine RJ.run ttok 1 rfl ?_
                    obtain ⟨r27, q27, H⟩ := bind_t H
                    refine RJ.op rfl rfl (op_call [1, 1] (truth_Truth_Pairs.spec q27) rfl rfl rfl h51 rfl gnil) ?_
                    rintro _ w35 ⟨_, ⟨A18, c_18, rfl, rfl⟩, h52⟩
                    replace h52 : St w0 F0 [ownC 75 (.pair .str .str) r27 (.slice A18 r27.length c_18), boxC b3 132 [.int .i64 r11.2.1.1, .int .i64 r11.2.1.2.1, .int .i64 r11.2.1.2.2.1, .int .i64 r11.2.1.2.2.2.1, .int .i64 r11.2.1.2.2.2.2.1, .int .i64 r11.2.1.2.2.2.2.2.1, .int .i64 r11.2.1.2.2.2.2.2.2.1, .int .i64 r11.2.1.2.2.2.2.2.2.2, .slice A10 r11.2.2.length c_10], ownC 75 (.pair .str .str) r11.2.2 (.slice A10 r11.2.2.length c_10), ownC 75 (.pair .str .str) (r26.set (0 : Int).toNat ((gt r26 0).1, (((gt r26 0).2) ++ ([120] : List UInt8)))) (.slice A17 (r26.set (0 : Int).toNat ((gt r26 0).1, (((gt r26 0).2) ++ ([120] : List UInt8)))).length c_17), ownC 75 (.pair .str .str) r7 (.slice A6 r7.length c_6)] _ _ := h52
                    refine RJ.run ttok 1 rfl ?_
                    obtain ⟨r28, q28, H⟩ := bind_t H
                    refine RJ.op rfl rfl (op_call [] (sluicegateref11_Same.spec q28) rfl rfl rfl h52 rfl (gcons (Gives.of 0 rfl own_rd) (gcons (Gives.of 3 rfl own_rd) gnil))) ?_
                    rintro _ w36 ⟨_, ⟨rfl, rfl⟩, h53⟩
                    replace h53 : St w0 F0 [ownC 75 (.pair .str .str) r27 (.slice A18 r27.length c_18), boxC b3 132 [.int .i64 r11.2.1.1, .int .i64 r11.2.1.2.1, .int .i64 r11.2.1.2.2.1, .int .i64 r11.2.1.2.2.2.1, .int .i64 r11.2.1.2.2.2.2.1, .int .i64 r11.2.1.2.2.2.2.2.1, .int .i64 r11.2.1.2.2.2.2.2.2.1, .int .i64 r11.2.1.2.2.2.2.2.2.2, .slice A10 r11.2.2.length c_10], ownC 75 (.pair .str .str) r11.2.2 (.slice A10 r11.2.2.length c_10), ownC 75 (.pair .str .str) (r26.set (0 : Int).toNat ((gt r26 0).1, (((gt r26 0).2) ++ ([120] : List UInt8)))) (.slice A17 (r26.set (0 : Int).toNat ((gt r26 0).1, (((gt r26 0).2) ++ ([120] : List UInt8)))).length c_17), ownC 75 (.pair .str .str) r7 (.slice A6 r7.length c_6)] _ _ := h53
                    refine RJ.run ttok 2 rfl ?_
                    rcases Bool.eq_false_or_eq_true (!r28) with c16 | c16
                    · replace H := ite_t c16 H
                      refine RJ.know (t := 95) rfl (congrArg Value.bool c16) ?_
                      obtain ⟨r29, q29, H⟩ := bind_t H
                      refine RJ.op rfl rfl (op_call [] (sluicegatelaw28_awake.spec q29) rfl rfl rfl h53 rfl gnil) ?_
                      rintro _ w37 ⟨_, ⟨rfl, rfl⟩, h54⟩
                      replace h54 : St w0 F0 [ownC 75 (.pair .str .str) r27 (.slice A18 r27.length c_18), boxC b3 132 [.int .i64 r11.2.1.1, .int .i64 r11.2.1.2.1, .int .i64 r11.2.1.2.2.1, .int .i64 r11.2.1.2.2.2.1, .int .i64 r11.2.1.2.2.2.2.1, .int .i64 r11.2.1.2.2.2.2.2.1, .int .i64 r11.2.1.2.2.2.2.2.2.1, .int .i64 r11.2.1.2.2.2.2.2.2.2, .slice A10 r11.2.2.length c_10], ownC 75 (.pair .str .str) r11.2.2 (.slice A10 r11.2.2.length c_10), ownC 75 (.pair .str .str) (r26.set (0 : Int).toNat ((gt r26 0).1, (((gt r26 0).2) ++ ([120] : List UInt8)))) (.slice A17 (r26.set (0 : Int).toNat ((gt r26 0).1, (((gt r26 0).2) ++ ([120] : List UInt8)))).length c_17), ownC 75 (.pair .str .str) r7 (.slice A6 r7.length c_6)] _ _ := h54
                      refine RJ.run ttok 2 rfl ?_
                      refine RJ.fin [(6, .bool r29)] rfl ?_
                      have h55 := h54.only [] rfl
                      replace h55 : St w0 F0 [] _ _ := h55
                      refine J.ret ?_
                      obtain rfl := Option.some.inj H
                      exact ⟨_, _, _, (results_slots rfl), ⟨rfl, rfl⟩, h55.only [] rfl⟩
                    · replace H := ite_f c16 H
                      refine RJ.know (t := 95) rfl (congrArg Value.bool c16) ?_
                      refine RJ.run ttok 3 rfl ?_
                      refine RJ.fin [(6, .bool false)] rfl ?_
                      have h56 := h53.only [] rfl
                      replace h56 : St w0 F0 [] _ _ := h56
                      refine J.ret ?_
                      obtain rfl := Option.some.inj H
                      exact ⟨_, _, _, (results_slots rfl), ⟨rfl, rfl⟩, h56.only [] rfl⟩
                  · replace H := ite_f c15 H
                    refine J.skip ?_
                    refine J.seq ?_
                    refine J.region ?_
                    obtain ⟨r30, q30, H⟩ := bind_t H
                    refine RJ.op rfl rfl (op_call [] (sluicegatelaw28_awake.spec q30) rfl rfl rfl h50 rfl gnil) ?_
                    rintro _ w38 ⟨_, ⟨rfl, rfl⟩, h57⟩
                    replace h57 : St w0 F0 [ownC 75 (.pair .str .str) r26 (.slice A17 r26.length c_17), boxC b3 132 [.int .i64 r11.2.1.1, .int .i64 r11.2.1.2.1, .int .i64 r11.2.1.2.2.1, .int .i64 r11.2.1.2.2.2.1, .int .i64 r11.2.1.2.2.2.2.1, .int .i64 r11.2.1.2.2.2.2.2.1, .int .i64 r11.2.1.2.2.2.2.2.2.1, .int .i64 r11.2.1.2.2.2.2.2.2.2, .slice A10 r11.2.2.length c_10], ownC 75 (.pair .str .str) r11.2.2 (.slice A10 r11.2.2.length c_10), ownC 75 (.pair .str .str) r7 (.slice A6 r7.length c_6)] _ _ := h57
                    refine RJ.run ttok 1 rfl ?_
                    refine RJ.fin [(6, .bool r30)] rfl ?_
                    have h58 := h57.only [] rfl
                    replace h58 : St w0 F0 [] _ _ := h58
                    refine J.ret ?_
                    obtain rfl := Option.some.inj H
                    exact ⟨_, _, _, (results_slots rfl), ⟨rfl, rfl⟩, h58.only [] rfl⟩
              · replace H := ite_f c10 H
                refine RJ.know (t := 67) rfl (congrArg Value.bool c10) ?_
                refine RJ.run ttok 5 rfl ?_
                refine RJ.fin [(7, .pointer (some ⟨b3, 0, none⟩)), (9, .slice A6 r7.length c_6), (72, .bool false)] rfl ?_
                have h59 := h21.only [2, 2, 2] rfl
                replace h59 : St w0 F0 [boxC b3 132 [.int .i64 r11.2.1.1, .int .i64 r11.2.1.2.1, .int .i64 r11.2.1.2.2.1, .int .i64 r11.2.1.2.2.2.1, .int .i64 r11.2.1.2.2.2.2.1, .int .i64 r11.2.1.2.2.2.2.2.1, .int .i64 r11.2.1.2.2.2.2.2.2.1, .int .i64 r11.2.1.2.2.2.2.2.2.2, .slice A10 r11.2.2.length c_10], ownC 75 (.pair .str .str) r11.2.2 (.slice A10 r11.2.2.length c_10), ownC 75 (.pair .str .str) r7 (.slice A6 r7.length c_6)] _ _ := h59
                refine J.condF rfl ?_
                refine J.skip ?_
                refine J.seq ?_
                refine J.region ?_
                refine RJ.run ttok 1 rfl ?_
                obtain ⟨r31, q31, H⟩ := bind_t H
                refine RJ.op rfl rfl (op_call [0, 0] (truth_Truth_Pairs.spec q31) rfl rfl rfl h59 rfl gnil) ?_
                rintro _ w39 ⟨_, ⟨A19, c_19, rfl, rfl⟩, h60⟩
                replace h60 : St w0 F0 [ownC 75 (.pair .str .str) r31 (.slice A19 r31.length c_19), boxC b3 132 [.int .i64 r11.2.1.1, .int .i64 r11.2.1.2.1, .int .i64 r11.2.1.2.2.1, .int .i64 r11.2.1.2.2.2.1, .int .i64 r11.2.1.2.2.2.2.1, .int .i64 r11.2.1.2.2.2.2.2.1, .int .i64 r11.2.1.2.2.2.2.2.2.1, .int .i64 r11.2.1.2.2.2.2.2.2.2, .slice A10 r11.2.2.length c_10], ownC 75 (.pair .str .str) r11.2.2 (.slice A10 r11.2.2.length c_10), ownC 75 (.pair .str .str) r7 (.slice A6 r7.length c_6)] _ _ := h60
                refine RJ.run ttok 1 rfl ?_
                refine RJ.fin [(7, .pointer (some ⟨b3, 0, none⟩)), (11, .slice A19 r31.length c_19)] rfl ?_
                refine J.seq ?_
                refine J.seq ?_
                refine J.region ?_
                refine RJ.run ttok 3 rfl ?_
                refine RJ.fin [(7, .pointer (some ⟨b3, 0, none⟩)), (11, .slice A19 r31.length c_19), (82, .bool (decide (0 < (r31.length : Int))))] rfl ?_
                refine J.cond rfl (fun c17 => ?_) (fun c17 => ?_)
                · replace H := ite_t c17 H
                  refine J.seq ?_
                  refine J.region ?_
                  refine RJ.run ttok 1 rfl ?_
                  obtain ⟨p9, H⟩ := guard_t H
                  have e5 := elem_A h60.wh (Gives.of 0 rfl own_rd) (by decide) p9
                  refine RJ.q rfl rfl (q_index ttok rfl rfl rfl rfl rfl e5 (by decide) p9) ?_
                  refine RJ.run ttok 1 rfl ?_
                  refine RJ.q rfl rfl (q_load_elem (f := 1) ttok rfl h60.wht (Gives.of 0 rfl own_rd) (by decide) p9 rfl rfl rfl rfl rfl) ?_
                  obtain ⟨p10, H⟩ := guard_t H
                  refine RJ.q rfl rfl (q_concat rfl rfl rfl p10) ?_
                  refine RJ.q rfl rfl (q_index ttok rfl rfl rfl rfl rfl e5 (by decide) p9) ?_
                  refine RJ.run ttok 1 rfl ?_
                  refine RJ.op rfl rfl (op_store_elem (f := 1) (ix := 0) ttok rfl ((gt r31 0).1, (((gt r31 0).2) ++ ([120] : List UInt8))) 0 rfl h60 rfl rfl (by decide) p9 rfl rfl rfl rfl rfl rfl rfl) ?_
                  intro _ w40 h61
                  replace h61 : St w0 F0 [ownC 75 (.pair .str .str) (r31.set (0 : Int).toNat ((gt r31 0).1, (((gt r31 0).2) ++ ([120] : List UInt8)))) (.slice A19 (r31.set (0 : Int).toNat ((gt r31 0).1, (((gt r31 0).2) ++ ([120] : List UInt8)))).length c_19), boxC b3 132 [.int .i64 r11.2.1.1, .int .i64 r11.2.1.2.1, .int .i64 r11.2.1.2.2.1, .int .i64 r11.2.1.2.2.2.1, .int .i64 r11.2.1.2.2.2.2.1, .int .i64 r11.2.1.2.2.2.2.2.1, .int .i64 r11.2.1.2.2.2.2.2.2.1, .int .i64 r11.2.1.2.2.2.2.2.2.2, .slice A10 r11.2.2.length c_10], ownC 75 (.pair .str .str) r11.2.2 (.slice A10 r11.2.2.length c_10), ownC 75 (.pair .str .str) r7 (.slice A6 r7.length c_6)] _ _ := h61
                  refine RJ.fin [(7, .pointer (some ⟨b3, 0, none⟩)), (11, .slice A19 r31.length c_19)] rfl ?_
                  refine J.envEq (env' := [(7, .pointer (some ⟨b3, 0, none⟩)), (11, .slice A19 (r31.set (0 : Int).toNat ((gt r31 0).1, (((gt r31 0).2) ++ ([120] : List UInt8)))).length c_19)]) (by simp only [List.length_set]) ?_
                  refine J.seq ?_
                  refine J.region ?_
                  refine RJ.run ttok 1 rfl ?_
                  obtain ⟨r32, q32, H⟩ := bind_t H
                  refine RJ.op rfl rfl (op_call [1, 1] (truth_Truth_Pairs.spec q32) rfl rfl rfl h61 rfl gnil) ?_
                  rintro _ w41 ⟨_, ⟨A20, c_20, rfl, rfl⟩, h62⟩
                  replace h62 : St w0 F0 [ownC 75 (.pair .str .str) r32 (.slice A20 r32.length c_20), boxC b3 132 [.int .i64 r11.2.1.1, .int .i64 r11.2.1.2.1, .int .i64 r11.2.1.2.2.1, .int .i64 r11.2.1.2.2.2.1, .int .i64 r11.2.1.2.2.2.2.1, .int .i64 r11.2.1.2.2.2.2.2.1, .int .i64 r11.2.1.2.2.2.2.2.2.1, .int .i64 r11.2.1.2.2.2.2.2.2.2, .slice A10 r11.2.2.length c_10], ownC 75 (.pair .str .str) r11.2.2 (.slice A10 r11.2.2.length c_10), ownC 75 (.pair .str .str) (r31.set (0 : Int).toNat ((gt r31 0).1, (((gt r31 0).2) ++ ([120] : List UInt8)))) (.slice A19 (r31.set (0 : Int).toNat ((gt r31 0).1, (((gt r31 0).2) ++ ([120] : List UInt8)))).length c_19), ownC 75 (.pair .str .str) r7 (.slice A6 r7.length c_6)] _ _ := h62
                  refine RJ.run ttok 1 rfl ?_
                  obtain ⟨r33, q33, H⟩ := bind_t H
                  refine RJ.op rfl rfl (op_call [] (sluicegateref11_Same.spec q33) rfl rfl rfl h62 rfl (gcons (Gives.of 0 rfl own_rd) (gcons (Gives.of 3 rfl own_rd) gnil))) ?_
                  rintro _ w42 ⟨_, ⟨rfl, rfl⟩, h63⟩
                  replace h63 : St w0 F0 [ownC 75 (.pair .str .str) r32 (.slice A20 r32.length c_20), boxC b3 132 [.int .i64 r11.2.1.1, .int .i64 r11.2.1.2.1, .int .i64 r11.2.1.2.2.1, .int .i64 r11.2.1.2.2.2.1, .int .i64 r11.2.1.2.2.2.2.1, .int .i64 r11.2.1.2.2.2.2.2.1, .int .i64 r11.2.1.2.2.2.2.2.2.1, .int .i64 r11.2.1.2.2.2.2.2.2.2, .slice A10 r11.2.2.length c_10], ownC 75 (.pair .str .str) r11.2.2 (.slice A10 r11.2.2.length c_10), ownC 75 (.pair .str .str) (r31.set (0 : Int).toNat ((gt r31 0).1, (((gt r31 0).2) ++ ([120] : List UInt8)))) (.slice A19 (r31.set (0 : Int).toNat ((gt r31 0).1, (((gt r31 0).2) ++ ([120] : List UInt8)))).length c_19), ownC 75 (.pair .str .str) r7 (.slice A6 r7.length c_6)] _ _ := h63
                  refine RJ.run ttok 2 rfl ?_
                  rcases Bool.eq_false_or_eq_true (!r33) with c18 | c18
                  · replace H := ite_t c18 H
                    refine RJ.know (t := 95) rfl (congrArg Value.bool c18) ?_
                    obtain ⟨r34, q34, H⟩ := bind_t H
                    refine RJ.op rfl rfl (op_call [] (sluicegatelaw28_awake.spec q34) rfl rfl rfl h63 rfl gnil) ?_
                    rintro _ w43 ⟨_, ⟨rfl, rfl⟩, h64⟩
                    replace h64 : St w0 F0 [ownC 75 (.pair .str .str) r32 (.slice A20 r32.length c_20), boxC b3 132 [.int .i64 r11.2.1.1, .int .i64 r11.2.1.2.1, .int .i64 r11.2.1.2.2.1, .int .i64 r11.2.1.2.2.2.1, .int .i64 r11.2.1.2.2.2.2.1, .int .i64 r11.2.1.2.2.2.2.2.1, .int .i64 r11.2.1.2.2.2.2.2.2.1, .int .i64 r11.2.1.2.2.2.2.2.2.2, .slice A10 r11.2.2.length c_10], ownC 75 (.pair .str .str) r11.2.2 (.slice A10 r11.2.2.length c_10), ownC 75 (.pair .str .str) (r31.set (0 : Int).toNat ((gt r31 0).1, (((gt r31 0).2) ++ ([120] : List UInt8)))) (.slice A19 (r31.set (0 : Int).toNat ((gt r31 0).1, (((gt r31 0).2) ++ ([120] : List UInt8)))).length c_19), ownC 75 (.pair .str .str) r7 (.slice A6 r7.length c_6)] _ _ := h64
                    refine RJ.run ttok 2 rfl ?_
                    refine RJ.fin [(6, .bool r34)] rfl ?_
                    have h65 := h64.only [] rfl
                    replace h65 : St w0 F0 [] _ _ := h65
                    refine J.ret ?_
                    obtain rfl := Option.some.inj H
                    exact ⟨_, _, _, (results_slots rfl), ⟨rfl, rfl⟩, h65.only [] rfl⟩
                  · replace H := ite_f c18 H
                    refine RJ.know (t := 95) rfl (congrArg Value.bool c18) ?_
                    refine RJ.run ttok 3 rfl ?_
                    refine RJ.fin [(6, .bool false)] rfl ?_
                    have h66 := h63.only [] rfl
                    replace h66 : St w0 F0 [] _ _ := h66
                    refine J.ret ?_
                    obtain rfl := Option.some.inj H
                    exact ⟨_, _, _, (results_slots rfl), ⟨rfl, rfl⟩, h66.only [] rfl⟩
                · replace H := ite_f c17 H
                  refine J.skip ?_
                  refine J.seq ?_
                  refine J.region ?_
                  obtain ⟨r35, q35, H⟩ := bind_t H
                  refine RJ.op rfl rfl (op_call [] (sluicegatelaw28_awake.spec q35) rfl rfl rfl h60 rfl gnil) ?_
                  rintro _ w44 ⟨_, ⟨rfl, rfl⟩, h67⟩
                  replace h67 : St w0 F0 [ownC 75 (.pair .str .str) r31 (.slice A19 r31.length c_19), boxC b3 132 [.int .i64 r11.2.1.1, .int .i64 r11.2.1.2.1, .int .i64 r11.2.1.2.2.1, .int .i64 r11.2.1.2.2.2.1, .int .i64 r11.2.1.2.2.2.2.1, .int .i64 r11.2.1.2.2.2.2.2.1, .int .i64 r11.2.1.2.2.2.2.2.2.1, .int .i64 r11.2.1.2.2.2.2.2.2.2, .slice A10 r11.2.2.length c_10], ownC 75 (.pair .str .str) r11.2.2 (.slice A10 r11.2.2.length c_10), ownC 75 (.pair .str .str) r7 (.slice A6 r7.length c_6)] _ _ := h67
                  refine RJ.run ttok 1 rfl ?_
                  refine RJ.fin [(6, .bool r35)] rfl ?_
                  have h68 := h67.only [] rfl
                  replace h68 : St w0 F0 [] _ _ := h68
                  refine J.ret ?_
                  obtain rfl := Option.some.inj H
                  exact ⟨_, _, _, (results_slots rfl), ⟨rfl, rfl⟩, h68.only [] rfl⟩
      · replace H := ite_f c2 H
        refine RJ.know (t := 29) rfl (congrArg Value.bool c2) ?_
        refine RJ.run ttok 3 rfl ?_
        refine RJ.fin [(1, .slice A1 a1.length c_1), (5, .pointer (some ⟨b2, 0, none⟩)), (7, .pointer (some ⟨b3, 0, none⟩)), (8, .int .i64 x10), (32, .bool false)] rfl ?_
        refine J.condF rfl ?_
        refine J.exit ?_
        refine J.seq ?_
        refine J.region ?_
        refine RJ.run ttok 1 rfl ?_
        obtain ⟨r36, q36, H⟩ := bind_t H
        refine RJ.op rfl rfl (op_call [1, 1] (truth_Truth_Pairs.spec q36) rfl rfl rfl h7 rfl gnil) ?_
        rintro _ w45 ⟨_, ⟨A21, c_21, rfl, rfl⟩, h69⟩
        replace h69 : St w0 F0 [ownC 75 (.pair .str .str) r36 (.slice A21 r36.length c_21), boxC b3 132 [.int .i64 x1, .int .i64 x2, .int .i64 x3, .int .i64 x4, .int .i64 x5, .int .i64 x6, .int .i64 x7, .int .i64 x8, .slice A3 x9.length c_3], ownC 75 (.pair .str .str) x9 (.slice A3 x9.length c_3), boxC b2 64 [.int .i64 a2.1, .string ⟨⟨a2.2.1⟩⟩, .string ⟨⟨a2.2.2.1⟩⟩, .int .i64 a2.2.2.2]] _ _ := h69
        refine RJ.run ttok 1 rfl ?_
        refine RJ.fin [(5, .pointer (some ⟨b2, 0, none⟩)), (7, .pointer (some ⟨b3, 0, none⟩)), (9, .slice A21 r36.length c_21)] rfl ?_
        refine J.seq ?_
        refine J.region ?_
        refine RJ.run ttok 1 rfl ?_
        refine RJ.q rfl rfl (q_load_box ttok 3 h69.wht rfl rfl rfl rfl rfl) ?_
        obtain ⟨r37, q37, H⟩ := bind_t H
        refine RJ.op rfl rfl (op_call [1, 1] (truth_Truth_Would.spec q37) rfl rfl rfl h69 rfl gnil) ?_
        rintro _ w46 ⟨_, ⟨A22, c_22, rfl, rfl⟩, h70⟩
        replace h70 : St w0 F0 [ownC 75 (.pair .str .str) r37.2.2 (.slice A22 r37.2.2.length c_22), boxC b3 132 [.int .i64 x1, .int .i64 x2, .int .i64 x3, .int .i64 x4, .int .i64 x5, .int .i64 x6, .int .i64 x7, .int .i64 x8, .slice A3 x9.length c_3], ownC 75 (.pair .str .str) x9 (.slice A3 x9.length c_3), ownC 75 (.pair .str .str) r36 (.slice A21 r36.length c_21), boxC b2 64 [.int .i64 a2.1, .string ⟨⟨a2.2.1⟩⟩, .string ⟨⟨a2.2.2.1⟩⟩, .int .i64 a2.2.2.2]] _ _ := h70
        refine RJ.fin [(5, .pointer (some ⟨b2, 0, none⟩)), (7, .pointer (some ⟨b3, 0, none⟩)), (9, .slice A21 r36.length c_21)] rfl ?_
        refine J.seq ?_
        refine J.seq ?_
        refine J.region ?_
        refine RJ.run ttok 1 rfl ?_
        obtain ⟨r38, q38, H⟩ := bind_t H
        refine RJ.op rfl rfl (op_call [1, 1] (truth_Truth_Pairs.spec q38) rfl rfl rfl h70 rfl gnil) ?_
        rintro _ w47 ⟨_, ⟨A23, c_23, rfl, rfl⟩, h71⟩
        replace h71 : St w0 F0 [ownC 75 (.pair .str .str) r38 (.slice A23 r38.length c_23), boxC b3 132 [.int .i64 x1, .int .i64 x2, .int .i64 x3, .int .i64 x4, .int .i64 x5, .int .i64 x6, .int .i64 x7, .int .i64 x8, .slice A3 x9.length c_3], ownC 75 (.pair .str .str) x9 (.slice A3 x9.length c_3), ownC 75 (.pair .str .str) r37.2.2 (.slice A22 r37.2.2.length c_22), ownC 75 (.pair .str .str) r36 (.slice A21 r36.length c_21), boxC b2 64 [.int .i64 a2.1, .string ⟨⟨a2.2.1⟩⟩, .string ⟨⟨a2.2.2.1⟩⟩, .int .i64 a2.2.2.2]] _ _ := h71
        refine RJ.run ttok 1 rfl ?_
        obtain ⟨r39, q39, H⟩ := bind_t H
        refine RJ.op rfl rfl (op_call [] (sluicegateref11_Same.spec q39) rfl rfl rfl h71 rfl (gcons (Gives.of 0 rfl own_rd) (gcons (Gives.of 4 rfl own_rd) gnil))) ?_
        rintro _ w48 ⟨_, ⟨rfl, rfl⟩, h72⟩
        replace h72 : St w0 F0 [ownC 75 (.pair .str .str) r38 (.slice A23 r38.length c_23), boxC b3 132 [.int .i64 x1, .int .i64 x2, .int .i64 x3, .int .i64 x4, .int .i64 x5, .int .i64 x6, .int .i64 x7, .int .i64 x8, .slice A3 x9.length c_3], ownC 75 (.pair .str .str) x9 (.slice A3 x9.length c_3), ownC 75 (.pair .str .str) r37.2.2 (.slice A22 r37.2.2.length c_22), ownC 75 (.pair .str .str) r36 (.slice A21 r36.length c_21), boxC b2 64 [.int .i64 a2.1, .string ⟨⟨a2.2.1⟩⟩, .string ⟨⟨a2.2.2.1⟩⟩, .int .i64 a2.2.2.2]] _ _ := h72
        refine RJ.run ttok 1 rfl ?_
        refine RJ.fin [(5, .pointer (some ⟨b2, 0, none⟩)), (7, .pointer (some ⟨b3, 0, none⟩)), (9, .slice A21 r36.length c_21), (56, .bool (!r39))] rfl ?_
        have h73 := h72.only [1, 1, 2, 2] rfl
        replace h73 : St w0 F0 [boxC b3 132 [.int .i64 x1, .int .i64 x2, .int .i64 x3, .int .i64 x4, .int .i64 x5, .int .i64 x6, .int .i64 x7, .int .i64 x8, .slice A3 x9.length c_3], ownC 75 (.pair .str .str) x9 (.slice A3 x9.length c_3), ownC 75 (.pair .str .str) r36 (.slice A21 r36.length c_21), boxC b2 64 [.int .i64 a2.1, .string ⟨⟨a2.2.1⟩⟩, .string ⟨⟨a2.2.2.1⟩⟩, .int .i64 a2.2.2.2]] _ _ := h73
        refine J.cond rfl (fun c19 => ?_) (fun c19 => ?_)
        · replace H := ite_t c19 H
          refine J.seq ?_
          refine J.region ?_
          refine RJ.run ttok 1 rfl ?_
          refine RJ.fin [(6, .bool false)] rfl ?_
          have h74 := h73.only [] rfl
          replace h74 : St w0 F0 [] _ _ := h74
          refine J.ret ?_
          obtain rfl := Option.some.inj H
          exact ⟨_, _, _, (results_slots rfl), ⟨rfl, rfl⟩, h74.only [] rfl⟩
        · replace H := ite_f c19 H
          refine J.skip ?_
          refine J.seq ?_
          refine J.region ?_
          refine RJ.run ttok 1 rfl ?_
          refine RJ.q rfl rfl (q_load_box ttok 3 h73.wht rfl rfl rfl rfl rfl) ?_
          obtain ⟨r40, q40, H⟩ := bind_t H
          refine RJ.op rfl rfl (op_call [0, 0] (truth_Truth_Do.spec q40) rfl rfl rfl h73 rfl gnil) ?_
          rintro _ w49 ⟨_, ⟨A24, c_24, A25, c_25, rfl, rfl⟩, h75⟩
          replace h75 : St w0 F0 [ownC 75 (.pair .str .str) r40.1.2.2 (.slice A24 r40.1.2.2.length c_24), boxC b3 132 [.int .i64 r40.2.1.1, .int .i64 r40.2.1.2.1, .int .i64 r40.2.1.2.2.1, .int .i64 r40.2.1.2.2.2.1, .int .i64 r40.2.1.2.2.2.2.1, .int .i64 r40.2.1.2.2.2.2.2.1, .int .i64 r40.2.1.2.2.2.2.2.2.1, .int .i64 r40.2.1.2.2.2.2.2.2.2, .slice A25 r40.2.2.length c_25], ownC 75 (.pair .str .str) r40.2.2 (.slice A25 r40.2.2.length c_25), ownC 75 (.pair .str .str) r36 (.slice A21 r36.length c_21), boxC b2 64 [.int .i64 a2.1, .string ⟨⟨a2.2.1⟩⟩, .string ⟨⟨a2.2.2.1⟩⟩, .int .i64 a2.2.2.2]] _ _ := h75
          refine RJ.op rfl rfl (op_alloc ttok rfl rfl h75) ?_
          rintro _ w50 ⟨b5, rfl, h76⟩
          replace h76 : St w0 F0 [boxC b5 70 [.int .i64 0, .string ⟨⟨([] : List UInt8)⟩⟩, .slice none ([] : List (List UInt8 × List UInt8)).length 0], ownC 75 (.pair .str .str) r40.1.2.2 (.slice A24 r40.1.2.2.length c_24), boxC b3 132 [.int .i64 r40.2.1.1, .int .i64 r40.2.1.2.1, .int .i64 r40.2.1.2.2.1, .int .i64 r40.2.1.2.2.2.1, .int .i64 r40.2.1.2.2.2.2.1, .int .i64 r40.2.1.2.2.2.2.2.1, .int .i64 r40.2.1.2.2.2.2.2.2.1, .int .i64 r40.2.1.2.2.2.2.2.2.2, .slice A25 r40.2.2.length c_25], ownC 75 (.pair .str .str) r40.2.2 (.slice A25 r40.2.2.length c_25), ownC 75 (.pair .str .str) r36 (.slice A21 r36.length c_21), boxC b2 64 [.int .i64 a2.1, .string ⟨⟨a2.2.1⟩⟩, .string ⟨⟨a2.2.2.1⟩⟩, .int .i64 a2.2.2.2]] _ _ := h76
          refine RJ.op rfl rfl (op_store ttok 0 rfl h76 rfl rfl rfl rfl rfl rfl rfl) ?_
          intro _ w51 h77
          replace h77 : St w0 F0 [boxC b5 70 [.int .i64 r40.1.1, .string ⟨⟨r40.1.2.1⟩⟩, .slice A24 r40.1.2.2.length c_24], ownC 75 (.pair .str .str) r40.1.2.2 (.slice A24 r40.1.2.2.length c_24), boxC b3 132 [.int .i64 r40.2.1.1, .int .i64 r40.2.1.2.1, .int .i64 r40.2.1.2.2.1, .int .i64 r40.2.1.2.2.2.1, .int .i64 r40.2.1.2.2.2.2.1, .int .i64 r40.2.1.2.2.2.2.2.1, .int .i64 r40.2.1.2.2.2.2.2.2.1, .int .i64 r40.2.1.2.2.2.2.2.2.2, .slice A25 r40.2.2.length c_25], ownC 75 (.pair .str .str) r40.2.2 (.slice A25 r40.2.2.length c_25), ownC 75 (.pair .str .str) r36 (.slice A21 r36.length c_21), boxC b2 64 [.int .i64 a2.1, .string ⟨⟨a2.2.1⟩⟩, .string ⟨⟨a2.2.2.1⟩⟩, .int .i64 a2.2.2.2]] _ _ := h77
          refine RJ.fin [(5, .pointer (some ⟨b2, 0, none⟩)), (7, .pointer (some ⟨b3, 0, none⟩)), (9, .slice A21 r36.length c_21), (10, .pointer (some ⟨b5, 0, none⟩))] rfl ?_
          refine J.seq ?_
          refine J.seq ?_
          refine J.region ?_
          refine RJ.run ttok 1 rfl ?_
          refine RJ.q rfl rfl (q_load_box ttok 0 h77.wht rfl rfl rfl rfl rfl) ?_
          refine RJ.run ttok 2 rfl ?_
          rcases Bool.eq_false_or_eq_true (!decide (r40.1.1 = 0)) with c20 | c20
          · replace H := ite_t c20 H
            refine RJ.know (t := 63) rfl (congrArg Value.bool c20) ?_
            refine RJ.run ttok 9 rfl ?_
            refine RJ.fin [(7, .pointer (some ⟨b3, 0, none⟩)), (9, .slice A21 r36.length c_21), (72, .bool true)] rfl ?_
            have h78 := h77.only [2, 2, 2] rfl
            replace h78 : St w0 F0 [boxC b3 132 [.int .i64 r40.2.1.1, .int .i64 r40.2.1.2.1, .int .i64 r40.2.1.2.2.1, .int .i64 r40.2.1.2.2.2.1, .int .i64 r40.2.1.2.2.2.2.1, .int .i64 r40.2.1.2.2.2.2.2.1, .int .i64 r40.2.1.2.2.2.2.2.2.1, .int .i64 r40.2.1.2.2.2.2.2.2.2, .slice A25 r40.2.2.length c_25], ownC 75 (.pair .str .str) r40.2.2 (.slice A25 r40.2.2.length c_25), ownC 75 (.pair .str .str) r36 (.slice A21 r36.length c_21)] _ _ := h78
            refine J.condT rfl ?_
            refine J.seq ?_
            refine J.region ?_
            refine RJ.run ttok 1 rfl ?_
            obtain ⟨r41, q41, H⟩ := bind_t H
            refine RJ.op rfl rfl (op_call [0, 0] (truth_Truth_Pairs.spec q41) rfl rfl rfl h78 rfl gnil) ?_
            rintro _ w52 ⟨_, ⟨A26, c_26, rfl, rfl⟩, h79⟩
            replace h79 : St w0 F0 [ownC 75 (.pair .str .str) r41 (.slice A26 r41.length c_26), boxC b3 132 [.int .i64 r40.2.1.1, .int .i64 r40.2.1.2.1, .int .i64 r40.2.1.2.2.1, .int .i64 r40.2.1.2.2.2.1, .int .i64 r40.2.1.2.2.2.2.1, .int .i64 r40.2.1.2.2.2.2.2.1, .int .i64 r40.2.1.2.2.2.2.2.2.1, .int .i64 r40.2.1.2.2.2.2.2.2.2, .slice A25 r40.2.2.length c_25], ownC 75 (.pair .str .str) r40.2.2 (.slice A25 r40.2.2.length c_25), ownC 75 (.pair .str .str) r36 (.slice A21 r36.length c_21)] _ _ := h79
            refine RJ.run ttok 1 rfl ?_
            obtain ⟨r42, q42, H⟩ := bind_t H
            refine RJ.op rfl rfl (op_call [] (sluicegateref11_Same.spec q42) rfl rfl rfl h79 rfl (gcons (Gives.of 0 rfl own_rd) (gcons (Gives.of 3 rfl own_rd) gnil))) ?_
            rintro _ w53 ⟨_, ⟨rfl, rfl⟩, h80⟩
            replace h80 : St w0 F0 [ownC 75 (.pair .str .str) r41 (.slice A26 r41.length c_26), boxC b3 132 [.int .i64 r40.2.1.1, .int .i64 r40.2.1.2.1, .int .i64 r40.2.1.2.2.1, .int .i64 r40.2.1.2.2.2.1, .int .i64 r40.2.1.2.2.2.2.1, .int .i64 r40.2.1.2.2.2.2.2.1, .int .i64 r40.2.1.2.2.2.2.2.2.1, .int .i64 r40.2.1.2.2.2.2.2.2.2, .slice A25 r40.2.2.length c_25], ownC 75 (.pair .str .str) r40.2.2 (.slice A25 r40.2.2.length c_25), ownC 75 (.pair .str .str) r36 (.slice A21 r36.length c_21)] _ _ := h80
            refine RJ.run ttok 1 rfl ?_
            refine RJ.fin [(7, .pointer (some ⟨b3, 0, none⟩)), (77, .bool (!r42))] rfl ?_
            have h81 := h80.only [1, 1] rfl
            replace h81 : St w0 F0 [boxC b3 132 [.int .i64 r40.2.1.1, .int .i64 r40.2.1.2.1, .int .i64 r40.2.1.2.2.1, .int .i64 r40.2.1.2.2.2.1, .int .i64 r40.2.1.2.2.2.2.1, .int .i64 r40.2.1.2.2.2.2.2.1, .int .i64 r40.2.1.2.2.2.2.2.2.1, .int .i64 r40.2.1.2.2.2.2.2.2.2, .slice A25 r40.2.2.length c_25], ownC 75 (.pair .str .str) r40.2.2 (.slice A25 r40.2.2.length c_25)] _ _ := h81
            refine J.cond rfl (fun c21 => ?_) (fun c21 => ?_)
            · replace H := ite_t c21 H
              refine J.seq ?_
              refine J.region ?_
              refine RJ.run ttok 1 rfl ?_
              refine RJ.fin [(6, .bool false)] rfl ?_
              have h82 := h81.only [] rfl
              replace h82 : St w0 F0 [] _ _ := h82
              refine J.ret ?_
              obtain rfl := Option.some.inj H
              exact ⟨_, _, _, (results_slots rfl), ⟨rfl, rfl⟩, h82.only [] rfl⟩
            · replace H := ite_f c21 H
              refine J.skip ?_
              refine J.seq ?_
              refine J.region ?_
              refine RJ.run ttok 1 rfl ?_
              obtain ⟨r43, q43, H⟩ := bind_t H
              refine RJ.op rfl rfl (op_call [0, 0] (truth_Truth_Pairs.spec q43) rfl rfl rfl h81 rfl gnil) ?_
              rintro _ w54 ⟨_, ⟨A27, c_27, rfl, rfl⟩, h83⟩
              replace h83 : St w0 F0 [ownC 75 (.pair .str .str) r43 (.slice A27 r43.length c_27), boxC b3 132 [.int .i64 r40.2.1.1, .int .i64 r40.2.1.2.1, .int .i64 r40.2.1.2.2.1, .int .i64 r40.2.1.2.2.2.1, .int .i64 r40.2.1.2.2.2.2.1, .int .i64 r40.2.1.2.2.2.2.2.1, .int .i64 r40.2.1.2.2.2.2.2.2.1, .int .i64 r40.2.1.2.2.2.2.2.2.2, .slice A25 r40.2.2.length c_25], ownC 75 (.pair .str .str) r40.2.2 (.slice A25 r40.2.2.length c_25)] _ _ := h83
              refine RJ.run ttok 1 rfl ?_
              refine RJ.fin [(7, .pointer (some ⟨b3, 0, none⟩)), (11, .slice A27 r43.length c_27)] rfl ?_
              refine J.seq ?_
              refine J.seq ?_
              refine J.region ?_
              refine RJ.run ttok 3 rfl ?_
              refine RJ.fin [(7, .pointer (some ⟨b3, 0, none⟩)), (11, .slice A27 r43.length c_27), (82, .bool (decide (0 < (r43.length : Int))))] rfl ?_
              refine J.cond rfl (fun c22 => ?_) (fun c22 => ?_)
              · replace H := ite_t c22 H
                refine J.seq ?_
                refine J.region ?_
                refine RJ.run ttok 1 rfl ?_
                obtain ⟨p11, H⟩ := guard_t H
                have e6 := elem_A h83.wh (Gives.of 0 rfl own_rd) (by decide) p11
                refine RJ.q rfl rfl (q_index ttok rfl rfl rfl rfl rfl e6 (by decide) p11) ?_
                refine RJ.run ttok 1 rfl ?_
                refine RJ.q rfl rfl (q_load_elem (f := 1) ttok rfl h83.wht (Gives.of 0 rfl own_rd) (by decide) p11 rfl rfl rfl rfl rfl) ?_
                obtain ⟨p12, H⟩ := guard_t H
                refine RJ.q rfl rfl (q_concat rfl rfl rfl p12) ?_
                refine RJ.q rfl rfl (q_index ttok rfl rfl rfl rfl rfl e6 (by decide) p11) ?_
                refine RJ.run ttok 1 rfl ?_
                refine RJ.op rfl rfl (op_store_elem (f := 1) (ix := 0) ttok rfl ((gt r43 0).1, (((gt r43 0).2) ++ ([120] : List UInt8))) 0 rfl h83 rfl rfl (by decide) p11 rfl rfl rfl rfl rfl rfl rfl) ?_
                intro _ w55 h84
                replace h84 : St w0 F0 [ownC 75 (.pair .str .str) (r43.set (0 : Int).toNat ((gt r43 0).1, (((gt r43 0).2) ++ ([120] : List UInt8)))) (.slice A27 (r43.set (0 : Int).toNat ((gt r43 0).1, (((gt r43 0).2) ++ ([120] : List UInt8)))).length c_27), boxC b3 132 [.int .i64 r40.2.1.1, .int .i64 r40.2.1.2.1, .int .i64 r40.2.1.2.2.1, .int .i64 r40.2.1.2.2.2.1, .int .i64 r40.2.1.2.2.2.2.1, .int .i64 r40.2.1.2.2.2.2.2.1, .int .i64 r40.2.1.2.2.2.2.2.2.1, .int .i64 r40.2.1.2.2.2.2.2.2.2, .slice A25 r40.2.2.length c_25], ownC 75 (.pair .str .str) r40.2.2 (.slice A25 r40.2.2.length c_25)] _ _ := h84
                refine RJ.fin [(7, .pointer (some ⟨b3, 0, none⟩)), (11, .slice A27 r43.length c_27)] rfl ?_
                refine J.envEq (env' := [(7, .pointer (some ⟨b3, 0, none⟩)), (11, .slice A27 (r43.set (0 : Int).toNat ((gt r43 0).1, (((gt r43 0).2) ++ ([120] : List UInt8)))).length c_27)]) (by simp only [List.length_set]) ?_
                refine J.seq ?_
                refine J.region ?_
                refine RJ.run ttok 1 rfl ?_
                obtain ⟨r44, q44, H⟩ := bind_t H
                refine RJ.op rfl rfl (op_call [1, 1] (truth_Truth_Pairs.spec q44) rfl rfl rfl h84 rfl gnil) ?_
                rintro _ w56 ⟨_, ⟨A28, c_28, rfl, rfl⟩, h85⟩
                replace h85 : St w0 F0 [ownC 75 (.pair .str .str) r44 (.slice A28 r44.length c_28), boxC b3 132 [.int .i64 r40.2.1.1, .int .i64 r40.2.1.2.1, .int .i64 r40.2.1.2.2.1, .int .i64 r40.2.1.2.2.2.1, .int .i64 r40.2.1.2.2.2.2.1, .int .i64 r40.2.1.2.2.2.2.2.1, .int .i64 r40.2.1.2.2.2.2.2.2.1, .int .i64 r40.2.1.2.2.2.2.2.2.2, .slice A25 r40.2.2.length c_25], ownC 75 (.pair .str .str) r40.2.2 (.slice A25 r40.2.2.length c_25), ownC 75 (.pair .str .str) (r43.set (0 : Int).toNat ((gt r43 0).1, (((gt r43 0).2) ++ ([120] : List UInt8)))) (.slice A27 (r43.set (0 : Int).toNat ((gt r43 0).1, (((gt r43 0).2) ++ ([120] : List UInt8)))).length c_27)] _ _ := h85
                refine RJ.run ttok 1 rfl ?_
                obtain ⟨r45, q45, H⟩ := bind_t H
                refine RJ.op rfl rfl (op_call [] (sluicegateref11_Same.spec q45) rfl rfl rfl h85 rfl (gcons (Gives.of 0 rfl own_rd) (gcons (Gives.of 3 rfl own_rd) gnil))) ?_
                rintro _ w57 ⟨_, ⟨rfl, rfl⟩, h86⟩
                replace h86 : St w0 F0 [ownC 75 (.pair .str .str) r44 (.slice A28 r44.length c_28), boxC b3 132 [.int .i64 r40.2.1.1, .int .i64 r40.2.1.2.1, .int .i64 r40.2.1.2.2.1, .int .i64 r40.2.1.2.2.2.1, .int .i64 r40.2.1.2.2.2.2.1, .int .i64 r40.2.1.2.2.2.2.2.1, .int .i64 r40.2.1.2.2.2.2.2.2.1, .int .i64 r40.2.1.2.2.2.2.2.2.2, .slice A25 r40.2.2.length c_25], ownC 75 (.pair .str .str) r40.2.2 (.slice A25 r40.2.2.length c_25), ownC 75 (.pair .str .str) (r43.set (0 : Int).toNat ((gt r43 0).1, (((gt r43 0).2) ++ ([120] : List UInt8)))) (.slice A27 (r43.set (0 : Int).toNat ((gt r43 0).1, (((gt r43 0).2) ++ ([120] : List UInt8)))).length c_27)] _ _ := h86
                refine RJ.run ttok 2 rfl ?_
                rcases Bool.eq_false_or_eq_true (!r45) with c23 | c23
                · replace H := ite_t c23 H
                  refine RJ.know (t := 95) rfl (congrArg Value.bool c23) ?_
                  obtain ⟨r46, q46, H⟩ := bind_t H
                  refine RJ.op rfl rfl (op_call [] (sluicegatelaw28_awake.spec q46) rfl rfl rfl h86 rfl gnil) ?_
                  rintro _ w58 ⟨_, ⟨rfl, rfl⟩, h87⟩
                  replace h87 : St w0 F0 [ownC 75 (.pair .str .str) r44 (.slice A28 r44.length c_28), boxC b3 132 [.int .i64 r40.2.1.1, .int .i64 r40.2.1.2.1, .int .i64 r40.2.1.2.2.1, .int .i64 r40.2.1.2.2.2.1, .int .i64 r40.2.1.2.2.2.2.1, .int .i64 r40.2.1.2.2.2.2.2.1, .int .i64 r40.2.1.2.2.2.2.2.2.1, .int .i64 r40.2.1.2.2.2.2.2.2.2, .slice A25 r40.2.2.length c_25], ownC 75 (.pair .str .str) r40.2.2 (.slice A25 r40.2.2.length c_25), ownC 75 (.pair .str .str) (r43.set (0 : Int).toNat ((gt r43 0).1, (((gt r43 0).2) ++ ([120] : List UInt8)))) (.slice A27 (r43.set (0 : Int).toNat ((gt r43 0).1, (((gt r43 0).2) ++ ([120] : List UInt8)))).length c_27)] _ _ := h87
                  refine RJ.run ttok 2 rfl ?_
                  refine RJ.fin [(6, .bool r46)] rfl ?_
                  have h88 := h87.only [] rfl
                  replace h88 : St w0 F0 [] _ _ := h88
                  refine J.ret ?_
                  obtain rfl := Option.some.inj H
                  exact ⟨_, _, _, (results_slots rfl), ⟨rfl, rfl⟩, h88.only [] rfl⟩
                · replace H := ite_f c23 H
                  refine RJ.know (t := 95) rfl (congrArg Value.bool c23) ?_
                  refine RJ.run ttok 3 rfl ?_
                  refine RJ.fin [(6, .bool false)] rfl ?_
                  have h89 := h86.only [] rfl
                  replace h89 : St w0 F0 [] _ _ := h89
                  refine J.ret ?_
                  obtain rfl := Option.some.inj H
                  exact ⟨_, _, _, (results_slots rfl), ⟨rfl, rfl⟩, h89.only [] rfl⟩
              · replace H := ite_f c22 H
                refine J.skip ?_
                refine J.seq ?_
                refine J.region ?_
                obtain ⟨r47, q47, H⟩ := bind_t H
                refine RJ.op rfl rfl (op_call [] (sluicegatelaw28_awake.spec q47) rfl rfl rfl h83 rfl gnil) ?_
                rintro _ w59 ⟨_, ⟨rfl, rfl⟩, h90⟩
                replace h90 : St w0 F0 [ownC 75 (.pair .str .str) r43 (.slice A27 r43.length c_27), boxC b3 132 [.int .i64 r40.2.1.1, .int .i64 r40.2.1.2.1, .int .i64 r40.2.1.2.2.1, .int .i64 r40.2.1.2.2.2.1, .int .i64 r40.2.1.2.2.2.2.1, .int .i64 r40.2.1.2.2.2.2.2.1, .int .i64 r40.2.1.2.2.2.2.2.2.1, .int .i64 r40.2.1.2.2.2.2.2.2.2, .slice A25 r40.2.2.length c_25], ownC 75 (.pair .str .str) r40.2.2 (.slice A25 r40.2.2.length c_25)] _ _ := h90
                refine RJ.run ttok 1 rfl ?_
                refine RJ.fin [(6, .bool r47)] rfl ?_
                have h91 := h90.only [] rfl
                replace h91 : St w0 F0 [] _ _ := h91
                refine J.ret ?_
                obtain rfl := Option.some.inj H
                exact ⟨_, _, _, (results_slots rfl), ⟨rfl, rfl⟩, h91.only [] rfl⟩
          · replace H := ite_f c20 H
            refine RJ.know (t := 63) rfl (congrArg Value.bool c20) ?_
            refine RJ.run ttok 1 rfl ?_
            refine RJ.q rfl rfl (q_load_box ttok 5 h77.wht rfl rfl rfl rfl rfl) ?_
            refine RJ.run ttok 2 rfl ?_
            rcases Bool.eq_false_or_eq_true (!decide (a2.1 = 1)) with c24 | c24
            · replace H := ite_t c24 H
              refine RJ.know (t := 67) rfl (congrArg Value.bool c24) ?_
              refine RJ.run ttok 1 rfl ?_
              refine RJ.q rfl rfl (q_load_box ttok 5 h77.wht rfl rfl rfl rfl rfl) ?_
              refine RJ.run ttok 3 rfl ?_
              refine RJ.fin [(7, .pointer (some ⟨b3, 0, none⟩)), (9, .slice A21 r36.length c_21), (72, .bool (!decide (a2.1 = 2)))] rfl ?_
              have h92 := h77.only [2, 2, 2] rfl
              replace h92 : St w0 F0 [boxC b3 132 [.int .i64 r40.2.1.1, .int .i64 r40.2.1.2.1, .int .i64 r40.2.1.2.2.1, .int .i64 r40.2.1.2.2.2.1, .int .i64 r40.2.1.2.2.2.2.1, .int .i64 r40.2.1.2.2.2.2.2.1, .int .i64 r40.2.1.2.2.2.2.2.2.1, .int .i64 r40.2.1.2.2.2.2.2.2.2, .slice A25 r40.2.2.length c_25], ownC 75 (.pair .str .str) r40.2.2 (.slice A25 r40.2.2.length c_25), ownC 75 (.pair .str .str) r36 (.slice A21 r36.length c_21)] _ _ := h92
              refine J.cond rfl (fun c25 => ?_) (fun c25 => ?_)
              · replace H := ite_t c25 H
                refine J.seq ?_
                refine J.region ?_
                refine RJ.run ttok 1 rfl ?_
                obtain ⟨r48, q48, H⟩ := bind_t H
                refine RJ.op rfl rfl (op_call [0, 0] (truth_Truth_Pairs.spec q48) rfl rfl rfl h92 rfl gnil) ?_
                rintro _ w60 ⟨_, ⟨A29, c_29, rfl, rfl⟩, h93⟩
                replace h93 : St w0 F0 [ownC 75 (.pair .str .str) r48 (.slice A29 r48.length c_29), boxC b3 132 [.int .i64 r40.2.1.1, .int .i64 r40.2.1.2.1, .int .i64 r40.2.1.2.2.1, .int .i64 r40.2.1.2.2.2.1, .int .i64 r40.2.1.2.2.2.2.1, .int .i64 r40.2.1.2.2.2.2.2.1, .int .i64 r40.2.1.2.2.2.2.2.2.1, .int .i64 r40.2.1.2.2.2.2.2.2.2, .slice A25 r40.2.2.length c_25], ownC 75 (.pair .str .str) r40.2.2 (.slice A25 r40.2.2.length c_25), ownC 75 (.pair .str .str) r36 (.slice A21 r36.length c_21)] _ _ := h93
                refine RJ.run ttok 1 rfl ?_
                obtain ⟨r49, q49, H⟩ := bind_t H
                refine RJ.op rfl rfl (op_call [] (sluicegateref11_Same.spec q49) rfl rfl rfl h93 rfl (gcons (Gives.of 0 rfl own_rd) (gcons (Gives.of 3 rfl own_rd) gnil))) ?_
                rintro _ w61 ⟨_, ⟨rfl, rfl⟩, h94⟩
                replace h94 : St w0 F0 [ownC 75 (.pair .str .str) r48 (.slice A29 r48.length c_29), boxC b3 132 [.int .i64 r40.2.1.1, .int .i64 r40.2.1.2.1, .int .i64 r40.2.1.2.2.1, .int .i64 r40.2.1.2.2.2.1, .int .i64 r40.2.1.2.2.2.2.1, .int .i64 r40.2.1.2.2.2.2.2.1, .int .i64 r40.2.1.2.2.2.2.2.2.1, .int .i64 r40.2.1.2.2.2.2.2.2.2, .slice A25 r40.2.2.length c_25], ownC 75 (.pair .str .str) r40.2.2 (.slice A25 r40.2.2.length c_25), ownC 75 (.pair .str .str) r36 (.slice A21 r36.length c_21)] _ _ := h94
                refine RJ.run ttok 1 rfl ?_
                refine RJ.fin [(7, .pointer (some ⟨b3, 0, none⟩)), (77, .bool (!r49))] rfl ?_
                have h95 := h94.only [1, 1] rfl
                replace h95 : St w0 F0 [boxC b3 132 [.int .i64 r40.2.1.1, .int .i64 r40.2.1.2.1, .int .i64 r40.2.1.2.2.1, .int .i64 r40.2.1.2.2.2.1, .int .i64 r40.2.1.2.2.2.2.1, .int .i64 r40.2.1.2.2.2.2.2.1, .int .i64 r40.2.1.2.2.2.2.2.2.1, .int .i64 r40.2.1.2.2.2.2.2.2.2, .slice A25 r40.2.2.length c_25], ownC 75 (.pair .str .str) r40.2.2 (.slice A25 r40.2.2.length c_25)] _ _ := h95
                refine J.cond rfl (fun c26 => ?_) (fun c26 => ?_)
                · replace H := ite_t c26 H
                  refine J.seq ?_
                  refine J.region ?_
                  refine RJ.run ttok 1 rfl ?_
                  refine RJ.fin [(6, .bool false)] rfl ?_
                  have h96 := h95.only [] rfl
                  replace h96 : St w0 F0 [] _ _ := h96
                  refine J.ret ?_
                  obtain rfl := Option.some.inj H
                  exact ⟨_, _, _, (results_slots rfl), ⟨rfl, rfl⟩, h96.only [] rfl⟩
                · replace H := ite_f c26 H
                  refine J.skip ?_
                  refine J.seq ?_
                  refine J.region ?_
                  refine RJ.run ttok 1 rfl ?_
                  obtain ⟨r50, q50, H⟩ := bind_t H
                  refine RJ.op rfl rfl (op_call [0, 0] (truth_Truth_Pairs.spec q50) rfl rfl rfl h95 rfl gnil) ?_
                  rintro _ w62 ⟨_, ⟨A30, c_30, rfl, rfl⟩, h97⟩
                  replace h97 : St w0 F0 [ownC 75 (.pair .str .str) r50 (.slice A30 r50.length c_30), boxC b3 132 [.int .i64 r40.2.1.1, .int .i64 r40.2.1.2.1, .int .i64 r40.2.1.2.2.1, .int .i64 r40.2.1.2.2.2.1, .int .i64 r40.2.1.2.2.2.2.1, .int .i64 r40.2.1.2.2.2.2.2.1, .int .i64 r40.2.1.2.2.2.2.2.2.1, .int .i64 r40.2.1.2.2.2.2.2.2.2, .slice A25 r40.2.2.length c_25], ownC 75 (.pair .str .str) r40.2.2 (.slice A25 r40.2.2.length c_25)] _ _ := h97
                  refine RJ.run ttok 1 rfl ?_
                  refine RJ.fin [(7, .pointer (some ⟨b3, 0, none⟩)), (11, .slice A30 r50.length c_30)] rfl ?_
                  refine J.seq ?_
                  refine J.seq ?_
                  refine J.region ?_
                  refine RJ.run ttok 3 rfl ?_
                  refine RJ.fin [(7, .pointer (some ⟨b3, 0, none⟩)), (11, .slice A30 r50.length c_30), (82, .bool (decide (0 < (r50.length : Int))))] rfl ?_
                  refine J.cond rfl (fun c27 => ?_) (fun c27 => ?_)
                  · replace H := ite_t c27 H
                    refine J.seq ?_
                    refine J.region ?_
                    refine RJ.run ttok 1 rfl ?_
                    obtain ⟨p13, H⟩ := guard_t H
                    have e7 := elem_A h97.wh (Gives.of 0 rfl own_rd) (by decide) p13
                    refine RJ.q rfl rfl (q_index ttok rfl rfl rfl rfl rfl e7 (by decide) p13) ?_
                    refine RJ.run ttok 1 rfl ?_
                    refine RJ.q rfl rfl (q_load_elem (f := 1) ttok rfl h97.wht (Gives.of 0 rfl own_rd) (by decide) p13 rfl rfl rfl rfl rfl) ?_
                    obtain ⟨p14, H⟩ := guard_t H
                    refine RJ.q rfl rfl (q_concat rfl rfl rfl p14) ?_
                    refine RJ.q rfl rfl (q_index ttok rfl rfl rfl rfl rfl e7 (by decide) p13) ?_
                    refine RJ.run ttok 1 rfl ?_
                    refine RJ.op rfl rfl (op_store_elem (f := 1) (ix := 0) ttok rfl ((gt r50 0).1, (((gt r50 0).2) ++ ([120] : List UInt8))) 0 rfl h97 rfl rfl (by decide) p13 rfl rfl rfl rfl rfl rfl rfl) ?_
                    intro _ w63 h98
                    replace h98 : St w0 F0 [ownC 75 (.pair .str .str) (r50.set (0 : Int).toNat ((gt r50 0).1, (((gt r50 0).2) ++ ([120] : List UInt8)))) (.slice A30 (r50.set (0 : Int).toNat ((gt r50 0).1, (((gt r50 0).2) ++ ([120] : List UInt8)))).length c_30), boxC b3 132 [.int .i64 r40.2.1.1, .int .i64 r40.2.1.2.1, .int .i64 r40.2.1.2.2.1, .int .i64 r40.2.1.2.2.2.1, .int .i64 r40.2.1.2.2.2.2.1, .int .i64 r40.2.1.2.2.2.2.2.1, .int .i64 r40.2.1.2.2.2.2.2.2.1, .int .i64 r40.2.1.2.2.2.2.2.2.2, .slice A25 r40.2.2.length c_25], ownC 75 (.pair .str .str) r40.2.2 (.slice A25 r40.2.2.length c_25)] _ _ := h98
                    refine RJ.fin [(7, .pointer (some ⟨b3, 0, none⟩)), (11, .slice A30 r50.length c_30)] rfl ?_
                    refine J.envEq (env' := [(7, .pointer (some ⟨b3, 0, none⟩)), (11, .slice A30 (r50.set (0 : Int).toNat ((gt r50 0).1, (((gt r50 0).2) ++ ([120] : List UInt8)))).length c_30)]) (by simp only [List.length_set]) ?_
                    refine J.seq ?_
                    refine J.region ?_
                    refine RJ.run ttok 1 rfl ?_
                    obtain ⟨r51, q51, H⟩ := bind_t H
                    refine RJ.op rfl rfl (op_call [1, 1] (truth_Truth_Pairs.spec q51) rfl rfl rfl h98 rfl gnil) ?_
                    rintro _ w65 ⟨_, ⟨A31, c_31, rfl, rfl⟩, h99⟩
                    replace h99 : St w0 F0 [ownC 75 (.pair .str .str) r51 (.slice A31 r51.length c_31), boxC b3 132 [.int .i64 r40.2.1.1, .int .i64 r40.2.1.2.1, .int .i64 r40.2.1.2.2.1, .int .i64 r40.2.1.2.2.2.1, .int .i64 r40.2.1.2.2.2.2.1, .int .i64 r40.2.1.2.2.2.2.2.1, .int .i64 r40.2.1.2.2.2.2.2.2.1, .int .i64 r40.2.1.2.2.2.2.2.2.2, .slice A25 r40.2.2.length c_25], ownC 75 (.pair .str .str) r40.2.2 (.slice A25 r40.2.2.length c_25), ownC 75 (.pair .str .str) (r50.set (0 : Int).toNat ((gt r50 0).1, (((gt r50 0).2) ++ ([120] : List UInt8)))) (.slice A30 (r50.set (0 : Int).toNat ((gt r50 0).1, (((gt r50 0).2) ++ ([120] : List UInt8)))).length c_30)] _ _ := h99
                    refine RJ.run ttok 1 rfl ?_
                    obtain ⟨r52, q52, H⟩ := bind_t H
                    refine RJ.op rfl rfl (op_call [] (sluicegateref11_Same.spec q52) rfl rfl rfl h99 rfl (gcons (Gives.of 0 rfl own_rd) (gcons (Gives.of 3 rfl own_rd) gnil))) ?_
                    rintro _ w66 ⟨_, ⟨rfl, rfl⟩, h100⟩
                    replace h100 : St w0 F0 [ownC 75 (.pair .str .str) r51 (.slice A31 r51.length c_31), boxC b3 132 [.int .i64 r40.2.1.1, .int .i64 r40.2.1.2.1, .int .i64 r40.2.1.2.2.1, .int .i64 r40.2.1.2.2.2.1, .int .i64 r40.2.1.2.2.2.2.1, .int .i64 r40.2.1.2.2.2.2.2.1, .int .i64 r40.2.1.2.2.2.2.2.2.1, .int .i64 r40.2.1.2.2.2.2.2.2.2, .slice A25 r40.2.2.length c_25], ownC 75 (.pair .str .str) r40.2.2 (.slice A25 r40.2.2.length c_25), ownC 75 (.pair .str .str) (r50.set (0 : Int).toNat ((gt r50 0).1, (((gt r50 0).2) ++ ([120] : List UInt8)))) (.slice A30 (r50.set (0 : Int).toNat ((gt r50 0).1, (((gt r50 0).2) ++ ([120] : List UInt8)))).length c_30)] _ _ := h100
                    refine RJ.run ttok 2 rfl ?_
                    rcases Bool.eq_false_or_eq_true (!r52) with c28 | c28
                    · replace H := ite_t c28 H
                      refine RJ.know (t := 95) rfl (congrArg Value.bool c28) ?_
                      obtain ⟨r53, q53, H⟩ := bind_t H
                      refine RJ.op rfl rfl (op_call [] (sluicegatelaw28_awake.spec q53) rfl rfl rfl h100 rfl gnil) ?_
                      rintro _ w67 ⟨_, ⟨rfl, rfl⟩, h101⟩
                      replace h101 : St w0 F0 [ownC 75 (.pair .str .str) r51 (.slice A31 r51.length c_31), boxC b3 132 [.int .i64 r40.2.1.1, .int .i64 r40.2.1.2.1, .int .i64 r40.2.1.2.2.1, .int .i64 r40.2.1.2.2.2.1, .int .i64 r40.2.1.2.2.2.2.1, .int .i64 r40.2.1.2.2.2.2.2.1, .int .i64 r40.2.1.2.2.2.2.2.2.1, .int .i64 r40.2.1.2.2.2.2.2.2.2, .slice A25 r40.2.2.length c_25], ownC 75 (.pair .str .str) r40.2.2 (.slice A25 r40.2.2.length c_25), ownC 75 (.pair .str .str) (r50.set (0 : Int).toNat ((gt r50 0).1, (((gt r50 0).2) ++ ([120] : List UInt8)))) (.slice A30 (r50.set (0 : Int).toNat ((gt r50 0).1, (((gt r50 0).2) ++ ([120] : List UInt8)))).length c_30)] _ _ := h101
                      refine RJ.run ttok 2 rfl ?_
                      refine RJ.fin [(6, .bool r53)] rfl ?_
                      have h102 := h101.only [] rfl
                      replace h102 : St w0 F0 [] _ _ := h102
                      refine J.ret ?_
                      obtain rfl := Option.some.inj H
                      exact ⟨_, _, _, (results_slots rfl), ⟨rfl, rfl⟩, h102.only [] rfl⟩
                    · replace H := ite_f c28 H
                      refine RJ.know (t := 95) rfl (congrArg Value.bool c28) ?_
                      refine RJ.run ttok 3 rfl ?_
                      refine RJ.fin [(6, .bool false)] rfl ?_
                      have h103 := h100.only [] rfl
                      replace h103 : St w0 F0 [] _ _ := h103
                      refine J.ret ?_
                      obtain rfl := Option.some.inj H
                      exact ⟨_, _, _, (results_slots rfl), ⟨rfl, rfl⟩, h103.only [] rfl⟩
                  · replace H := ite_f c27 H
                    refine J.skip ?_
                    refine J.seq ?_
                    refine J.region ?_
                    obtain ⟨r54, q54, H⟩ := bind_t H
                    refine RJ.op rfl rfl (op_call [] (sluicegatelaw28_awake.spec q54) rfl rfl rfl h97 rfl gnil) ?_
                    rintro _ w68 ⟨_, ⟨rfl, rfl⟩, h104⟩
                    replace h104 : St w0 F0 [ownC 75 (.pair .str .str) r50 (.slice A30 r50.length c_30), boxC b3 132 [.int .i64 r40.2.1.1, .int .i64 r40.2.1.2.1, .int .i64 r40.2.1.2.2.1, .int .i64 r40.2.1.2.2.2.1, .int .i64 r40.2.1.2.2.2.2.1, .int .i64 r40.2.1.2.2.2.2.2.1, .int .i64 r40.2.1.2.2.2.2.2.2.1, .int .i64 r40.2.1.2.2.2.2.2.2.2, .slice A25 r40.2.2.length c_25], ownC 75 (.pair .str .str) r40.2.2 (.slice A25 r40.2.2.length c_25)] _ _ := h104
                    refine RJ.run ttok 1 rfl ?_
                    refine RJ.fin [(6, .bool r54)] rfl ?_
                    have h105 := h104.only [] rfl
                    replace h105 : St w0 F0 [] _ _ := h105
                    refine J.ret ?_
                    obtain rfl := Option.some.inj H
                    exact ⟨_, _, _, (results_slots rfl), ⟨rfl, rfl⟩, h105.only [] rfl⟩
              · replace H := ite_f c25 H
                refine J.skip ?_
                refine J.seq ?_
                refine J.region ?_
                refine RJ.run ttok 1 rfl ?_
                obtain ⟨r55, q55, H⟩ := bind_t H
                refine RJ.op rfl rfl (op_call [0, 0] (truth_Truth_Pairs.spec q55) rfl rfl rfl h92 rfl gnil) ?_
                rintro _ w69 ⟨_, ⟨A32, c_32, rfl, rfl⟩, h106⟩
                replace h106 : St w0 F0 [ownC 75 (.pair .str .str) r55 (.slice A32 r55.length c_32), boxC b3 132 [.int .i64 r40.2.1.1, .int .i64 r40.2.1.2.1, .int .i64 r40.2.1.2.2.1, .int .i64 r40.2.1.2.2.2.1, .int .i64 r40.2.1.2.2.2.2.1, .int .i64 r40.2.1.2.2.2.2.2.1, .int .i64 r40.2.1.2.2.2.2.2.2.1, .int .i64 r40.2.1.2.2.2.2.2.2.2, .slice A25 r40.2.2.length c_25], ownC 75 (.pair .str .str) r40.2.2 (.slice A25 r40.2.2.length c_25), ownC 75 (.pair .str .str) r36 (.slice A21 r36.length c_21)] _ _ := h106
                refine RJ.run ttok 1 rfl ?_
                refine RJ.fin [(7, .pointer (some ⟨b3, 0, none⟩)), (11, .slice A32 r55.length c_32)] rfl ?_
                refine J.seq ?_
                refine J.seq ?_
                refine J.region ?_
                refine RJ.run ttok 3 rfl ?_
                refine RJ.fin [(7, .pointer (some ⟨b3, 0, none⟩)), (11, .slice A32 r55.length c_32), (82, .bool (decide (0 < (r55.length : Int))))] rfl ?_
                refine J.cond rfl (fun c29 => ?_) (fun c29 => ?_)
                · replace H := ite_t c29 H
                  refine J.seq ?_
                  refine J.region ?_
                  refine RJ.run ttok 1 rfl ?_
                  obtain ⟨p15, H⟩ := guard_t H
                  have e8 := elem_A h106.wh (Gives.of 0 rfl own_rd) (by decide) p15
                  refine RJ.q rfl rfl (q_index ttok rfl rfl rfl rfl rfl e8 (by decide) p15) ?_
                  refine RJ.run ttok 1 rfl ?_
                  refine RJ.q rfl rfl (q_load_elem (f := 1) ttok rfl h106.wht (Gives.of 0 rfl own_rd) (by decide) p15 rfl rfl rfl rfl rfl) ?_
                  obtain ⟨p16, H⟩ := guard_t H
                  refine RJ.q rfl rfl (q_concat rfl rfl rfl p16) ?_
                  refine RJ.q rfl rfl (q_index ttok rfl rfl rfl rfl rfl e8 (by decide) p15) ?_
                  refine RJ.run ttok 1 rfl ?_
                  refine RJ.op rfl rfl (op_store_elem (f := 1) (ix := 0) ttok rfl ((gt r55 0).1, (((gt r55 0).2) ++ ([120] : List UInt8))) 0 rfl h106 rfl rfl (by decide) p15 rfl rfl rfl rfl rfl rfl rfl) ?_
                  intro _ w70 h107
                  replace h107 : St w0 F0 [ownC 75 (.pair .str .str) (r55.set (0 : Int).toNat ((gt r55 0).1, (((gt r55 0).2) ++ ([120] : List UInt8)))) (.slice A32 (r55.set (0 : Int).toNat ((gt r55 0).1, (((gt r55 0).2) ++ ([120] : List UInt8)))).length c_32), boxC b3 132 [.int .i64 r40.2.1.1, .int .i64 r40.2.1.2.1, .int .i64 r40.2.1.2.2.1, .int .i64 r40.2.1.2.2.2.1, .int .i64 r40.2.1.2.2.2.2.1, .int .i64 r40.2.1.2.2.2.2.2.1, .int .i64 r40.2.1.2.2.2.2.2.2.1, .int .i64 r40.2.1.2.2.2.2.2.2.2, .slice A25 r40.2.2.length c_25], ownC 75 (.pair .str .str) r40.2.2 (.slice A25 r40.2.2.length c_25), ownC 75 (.pair .str .str) r36 (.slice A21 r36.length c_21)] _ _ := h107
                  refine RJ.fin [(7, .pointer (some ⟨b3, 0, none⟩)), (11, .slice A32 r55.length c_32)] rfl ?_
                  refine J.envEq (env' := [(7, .pointer (some ⟨b3, 0, none⟩)), (11, .slice A32 (r55.set (0 : Int).toNat ((gt r55 0).1, (((gt r55 0).2) ++ ([120] : List UInt8)))).length c_32)]) (by simp only [List.length_set]) ?_
                  refine J.seq ?_
                  refine J.region ?_
                  refine RJ.run ttok 1 rfl ?_
                  obtain ⟨r56, q56, H⟩ := bind_t H
                  refine RJ.op rfl rfl (op_call [1, 1] (truth_Truth_Pairs.spec q56) rfl rfl rfl h107 rfl gnil) ?_
                  rintro _ w71 ⟨_, ⟨A33, c_33, rfl, rfl⟩, h108⟩
                  replace h108 : St w0 F0 [ownC 75 (.pair .str .str) r56 (.slice A33 r56.length c_33), boxC b3 132 [.int .i64 r40.2.1.1, .int .i64 r40.2.1.2.1, .int .i64 r40.2.1.2.2.1, .int .i64 r40.2.1.2.2.2.1, .int .i64 r40.2.1.2.2.2.2.1, .int .i64 r40.2.1.2.2.2.2.2.1, .int .i64 r40.2.1.2.2.2.2.2.2.1, .int .i64 r40.2.1.2.2.2.2.2.2.2, .slice A25 r40.2.2.length c_25], ownC 75 (.pair .str .str) r40.2.2 (.slice A25 r40.2.2.length c_25), ownC 75 (.pair .str .str) (r55.set (0 : Int).toNat ((gt r55 0).1, (((gt r55 0).2) ++ ([120] : List UInt8)))) (.slice A32 (r55.set (0 : Int).toNat ((gt r55 0).1, (((gt r55 0).2) ++ ([120] : List UInt8)))).length c_32), ownC 75 (.pair .str .str) r36 (.slice A21 r36.length c_21)] _ _ := h108
                  refine RJ.run ttok 1 rfl ?_
                  obtain ⟨r57, q57, H⟩ := bind_t H
                  refine RJ.op rfl rfl (op_call [] (sluicegateref11_Same.spec q57) rfl rfl rfl h108 rfl (gcons (Gives.of 0 rfl own_rd) (gcons (Gives.of 3 rfl own_rd) gnil))) ?_
                  rintro _ w72 ⟨_, ⟨rfl, rfl⟩, h109⟩
                  replace h109 : St w0 F0 [ownC 75 (.pair .str .str) r56 (.slice A33 r56.length c_33), boxC b3 132 [.int .i64 r40.2.1.1, .int .i64 r40.2.1.2.1, .int .i64 r40.2.1.2.2.1, .int .i64 r40.2.1.2.2.2.1, .int .i64 r40.2.1.2.2.2.2.1, .int .i64 r40.2.1.2.2.2.2.2.1, .int .i64 r40.2.1.2.2.2.2.2.2.1, .int .i64 r40.2.1.2.2.2.2.2.2.2, .slice A25 r40.2.2.length c_25], ownC 75 (.pair .str .str) r40.2.2 (.slice A25 r40.2.2.length c_25), ownC 75 (.pair .str .str) (r55.set (0 : Int).toNat ((gt r55 0).1, (((gt r55 0).2) ++ ([120] : List UInt8)))) (.slice A32 (r55.set (0 : Int).toNat ((gt r55 0).1, (((gt r55 0).2) ++ ([120] : List UInt8)))).length c_32), ownC 75 (.pair .str .str) r36 (.slice A21 r36.length c_21)] _ _ := h109
                  refine RJ.run ttok 2 rfl ?_
                  rcases Bool.eq_false_or_eq_true (!r57) with c30 | c30
                  · replace H := ite_t c30 H
                    refine RJ.know (t := 95) rfl (congrArg Value.bool c30) ?_
                    obtain ⟨r58, q58, H⟩ := bind_t H
                    refine RJ.op rfl rfl (op_call [] (sluicegatelaw28_awake.spec q58) rfl rfl rfl h109 rfl gnil) ?_
                    rintro _ w73 ⟨_, ⟨rfl, rfl⟩, h110⟩
                    replace h110 : St w0 F0 [ownC 75 (.pair .str .str) r56 (.slice A33 r56.length c_33), boxC b3 132 [.int .i64 r40.2.1.1, .int .i64 r40.2.1.2.1, .int .i64 r40.2.1.2.2.1, .int .i64 r40.2.1.2.2.2.1, .int .i64 r40.2.1.2.2.2.2.1, .int .i64 r40.2.1.2.2.2.2.2.1, .int .i64 r40.2.1.2.2.2.2.2.2.1, .int .i64 r40.2.1.2.2.2.2.2.2.2, .slice A25 r40.2.2.length c_25], ownC 75 (.pair .str .str) r40.2.2 (.slice A25 r40.2.2.length c_25), ownC 75 (.pair .str .str) (r55.set (0 : Int).toNat ((gt r55 0).1, (((gt r55 0).2) ++ ([120] : List UInt8)))) (.slice A32 (r55.set (0 : Int).toNat ((gt r55 0).1, (((gt r55 0).2) ++ ([120] : List UInt8)))).length c_32), ownC 75 (.pair .str .str) r36 (.slice A21 r36.length c_21)] _ _ := h110
                    refine RJ.run ttok 2 rfl ?_
                    refine RJ.fin [(6, .bool r58)] rfl ?_
                    have h111 := h110.only [] rfl
                    replace h111 : St w0 F0 [] _ _ := h111
                    refine J.ret ?_
                    obtain rfl := Option.some.inj H
                    exact ⟨_, _, _, (results_slots rfl), ⟨rfl, rfl⟩, h111.only [] rfl⟩
                  · replace H := ite_f c30 H
                    refine RJ.know (t := 95) rfl (congrArg Value.bool c30) ?_
                    refine RJ.run ttok 3 rfl ?_
                    refine RJ.fin [(6, .bool false)] rfl ?_
                    have h112 := h109.only [] rfl
                    replace h112 : St w0 F0 [] _ _ := h112
                    refine J.ret ?_
                    obtain rfl := Option.some.inj H
                    exact ⟨_, _, _, (results_slots rfl), ⟨rfl, rfl⟩, h112.only [] rfl⟩
                · replace H := ite_f c29 H
                  refine J.skip ?_
                  refine J.seq ?_
                  refine J.region ?_
                  obtain ⟨r59, q59, H⟩ := bind_t H
                  refine RJ.op rfl rfl (op_call [] (sluicegatelaw28_awake.spec q59) rfl rfl rfl h106 rfl gnil) ?_
                  rintro _ w74 ⟨_, ⟨rfl, rfl⟩, h113⟩
                  replace h113 : St w0 F0 [ownC 75 (.pair .str .str) r55 (.slice A32 r55.length c_32), boxC b3 132 [.int .i64 r40.2.1.1, .int .i64 r40.2.1.2.1, .int .i64 r40.2.1.2.2.1, .int .i64 r40.2.1.2.2.2.1, .int .i64 r40.2.1.2.2.2.2.1, .int .i64 r40.2.1.2.2.2.2.2.1, .int .i64 r40.2.1.2.2.2.2.2.2.1, .int .i64 r40.2.1.2.2.2.2.2.2.2, .slice A25 r40.2.2.length c_25], ownC 75 (.pair .str .str) r40.2.2 (.slice A25 r40.2.2.length c_25), ownC 75 (.pair .str .str) r36 (.slice A21 r36.length c_21)] _ _ := h113
                  refine RJ.run ttok 1 rfl ?_
                  refine RJ.fin [(6, .bool r59)] rfl ?_
                  have h114 := h113.only [] rfl
                  replace h114 : St w0 F0 [] _ _ := h114
                  refine J.ret ?_
                  obtain rfl := Option.some.inj H
                  exact ⟨_, _, _, (results_slots rfl), ⟨rfl, rfl⟩, h114.only [] rfl⟩
            · replace H := ite_f c24 H
              refine RJ.know (t := 67) rfl (congrArg Value.bool c24) ?_
              refine RJ.run ttok 5 rfl ?_
              refine RJ.fin [(7, .pointer (some ⟨b3, 0, none⟩)), (9, .slice A21 r36.length c_21), (72, .bool false)] rfl ?_
              have h115 := h77.only [2, 2, 2] rfl
              replace h115 : St w0 F0 [boxC b3 132 [.int .i64 r40.2.1.1, .int .i64 r40.2.1.2.1, .int .i64 r40.2.1.2.2.1, .int .i64 r40.2.1.2.2.2.1, .int .i64 r40.2.1.2.2.2.2.1, .int .i64 r40.2.1.2.2.2.2.2.1, .int .i64 r40.2.1.2.2.2.2.2.2.1, .int .i64 r40.2.1.2.2.2.2.2.2.2, .slice A25 r40.2.2.length c_25], ownC 75 (.pair .str .str) r40.2.2 (.slice A25 r40.2.2.length c_25), ownC 75 (.pair .str .str) r36 (.slice A21 r36.length c_21)] _ _ := h115
              refine J.condF rfl ?_
              refine J.skip ?_
              refine J.seq ?_
              refine J.region ?_
              refine RJ.run ttok 1 rfl ?_
              obtain ⟨r60, q60, H⟩ := bind_t H
              refine RJ.op rfl rfl (op_call [0, 0] (truth_Truth_Pairs.spec q60) rfl rfl rfl h115 rfl gnil) ?_
              rintro _ w75 ⟨_, ⟨A34, c_34, rfl, rfl⟩, h116⟩
              replace h116 : St w0 F0 [ownC 75 (.pair .str .str) r60 (.slice A34 r60.length c_34), boxC b3 132 [.int .i64 r40.2.1.1, .int .i64 r40.2.1.2.1, .int .i64 r40.2.1.2.2.1, .int .i64 r40.2.1.2.2.2.1, .int .i64 r40.2.1.2.2.2.2.1, .int .i64 r40.2.1.2.2.2.2.2.1, .int .i64 r40.2.1.2.2.2.2.2.2.1, .int .i64 r40.2.1.2.2.2.2.2.2.2, .slice A25 r40.2.2.length c_25], ownC 75 (.pair .str .str) r40.2.2 (.slice A25 r40.2.2.length c_25), ownC 75 (.pair .str .str) r36 (.slice A21 r36.length c_21)] _ _ := h116
              refine RJ.run ttok 1 rfl ?_
              refine RJ.fin [(7, .pointer (some ⟨b3, 0, none⟩)), (11, .slice A34 r60.length c_34)] rfl ?_
              refine J.seq ?_
              refine J.seq ?_
              refine J.region ?_
              refine RJ.run ttok 3 rfl ?_
              refine RJ.fin [(7, .pointer (some ⟨b3, 0, none⟩)), (11, .slice A34 r60.length c_34), (82, .bool (decide (0 < (r60.length : Int))))] rfl ?_
              refine J.cond rfl (fun c31 => ?_) (fun c31 => ?_)
              · replace H := ite_t c31 H
                refine J.seq ?_
                refine J.region ?_
                refine RJ.run ttok 1 rfl ?_
                obtain ⟨p17, H⟩ := guard_t H
                have e9 := elem_A h116.wh (Gives.of 0 rfl own_rd) (by decide) p17
                refine RJ.q rfl rfl (q_index ttok rfl rfl rfl rfl rfl e9 (by decide) p17) ?_
                refine RJ.run ttok 1 rfl ?_
                refine RJ.q rfl rfl (q_load_elem (f := 1) ttok rfl h116.wht (Gives.of 0 rfl own_rd) (by decide) p17 rfl rfl rfl rfl rfl) ?_
                obtain ⟨p18, H⟩ := guard_t H
                refine RJ.q rfl rfl (q_concat rfl rfl rfl p18) ?_
                refine RJ.q rfl rfl (q_index ttok rfl rfl rfl rfl rfl e9 (by decide) p17) ?_
                refine RJ.run ttok 1 rfl ?_
                refine RJ.op rfl rfl (op_store_elem (f := 1) (ix := 0) ttok rfl ((gt r60 0).1, (((gt r60 0).2) ++ ([120] : List UInt8))) 0 rfl h116 rfl rfl (by decide) p17 rfl rfl rfl rfl rfl rfl rfl) ?_
                intro _ w76 h117
                replace h117 : St w0 F0 [ownC 75 (.pair .str .str) (r60.set (0 : Int).toNat ((gt r60 0).1, (((gt r60 0).2) ++ ([120] : List UInt8)))) (.slice A34 (r60.set (0 : Int).toNat ((gt r60 0).1, (((gt r60 0).2) ++ ([120] : List UInt8)))).length c_34), boxC b3 132 [.int .i64 r40.2.1.1, .int .i64 r40.2.1.2.1, .int .i64 r40.2.1.2.2.1, .int .i64 r40.2.1.2.2.2.1, .int .i64 r40.2.1.2.2.2.2.1, .int .i64 r40.2.1.2.2.2.2.2.1, .int .i64 r40.2.1.2.2.2.2.2.2.1, .int .i64 r40.2.1.2.2.2.2.2.2.2, .slice A25 r40.2.2.length c_25], ownC 75 (.pair .str .str) r40.2.2 (.slice A25 r40.2.2.length c_25), ownC 75 (.pair .str .str) r36 (.slice A21 r36.length c_21)] _ _ := h117
                refine RJ.fin [(7, .pointer (some ⟨b3, 0, none⟩)), (11, .slice A34 r60.length c_34)] rfl ?_
                refine J.envEq (env' := [(7, .pointer (some ⟨b3, 0, none⟩)), (11, .slice A34 (r60.set (0 : Int).toNat ((gt r60 0).1, (((gt r60 0).2) ++ ([120] : List UInt8)))).length c_34)]) (by simp only [List.length_set]) ?_
                refine J.seq ?_
                refine J.region ?_
                refine RJ.run ttok 1 rfl ?_
                obtain ⟨r61, q61, H⟩ := bind_t H
                refine RJ.op rfl rfl (op_call [1, 1] (truth_Truth_Pairs.spec q61) rfl rfl rfl h117 rfl gnil) ?_
                rintro _ w77 ⟨_, ⟨A35, c_35, rfl, rfl⟩, h118⟩
                replace h118 : St w0 F0 [ownC 75 (.pair .str .str) r61 (.slice A35 r61.length c_35), boxC b3 132 [.int .i64 r40.2.1.1, .int .i64 r40.2.1.2.1, .int .i64 r40.2.1.2.2.1, .int .i64 r40.2.1.2.2.2.1, .int .i64 r40.2.1.2.2.2.2.1, .int .i64 r40.2.1.2.2.2.2.2.1, .int .i64 r40.2.1.2.2.2.2.2.2.1, .int .i64 r40.2.1.2.2.2.2.2.2.2, .slice A25 r40.2.2.length c_25], ownC 75 (.pair .str .str) r40.2.2 (.slice A25 r40.2.2.length c_25), ownC 75 (.pair .str .str) (r60.set (0 : Int).toNat ((gt r60 0).1, (((gt r60 0).2) ++ ([120] : List UInt8)))) (.slice A34 (r60.set (0 : Int).toNat ((gt r60 0).1, (((gt r60 0).2) ++ ([120] : List UInt8)))).length c_34), ownC 75 (.pair .str .str) r36 (.slice A21 r36.length c_21)] _ _ := h118
                refine RJ.run ttok 1 rfl ?_
                obtain ⟨r62, q62, H⟩ := bind_t H
                refine RJ.op rfl rfl (op_call [] (sluicegateref11_Same.spec q62) rfl rfl rfl h118 rfl (gcons (Gives.of 0 rfl own_rd) (gcons (Gives.of 3 rfl own_rd) gnil))) ?_
                rintro _ w78 ⟨_, ⟨rfl, rfl⟩, h119⟩
                replace h119 : St w0 F0 [ownC 75 (.pair .str .str) r61 (.slice A35 r61.length c_35), boxC b3 132 [.int .i64 r40.2.1.1, .int .i64 r40.2.1.2.1, .int .i64 r40.2.1.2.2.1, .int .i64 r40.2.1.2.2.2.1, .int .i64 r40.2.1.2.2.2.2.1, .int .i64 r40.2.1.2.2.2.2.2.1, .int .i64 r40.2.1.2.2.2.2.2.2.1, .int .i64 r40.2.1.2.2.2.2.2.2.2, .slice A25 r40.2.2.length c_25], ownC 75 (.pair .str .str) r40.2.2 (.slice A25 r40.2.2.length c_25), ownC 75 (.pair .str .str) (r60.set (0 : Int).toNat ((gt r60 0).1, (((gt r60 0).2) ++ ([120] : List UInt8)))) (.slice A34 (r60.set (0 : Int).toNat ((gt r60 0).1, (((gt r60 0).2) ++ ([120] : List UInt8)))).length c_34), ownC 75 (.pair .str .str) r36 (.slice A21 r36.length c_21)] _ _ := h119
                refine RJ.run ttok 2 rfl ?_
                rcases Bool.eq_false_or_eq_true (!r62) with c32 | c32
                · replace H := ite_t c32 H
                  refine RJ.know (t := 95) rfl (congrArg Value.bool c32) ?_
                  obtain ⟨r63, q63, H⟩ := bind_t H
                  refine RJ.op rfl rfl (op_call [] (sluicegatelaw28_awake.spec q63) rfl rfl rfl h119 rfl gnil) ?_
                  rintro _ w79 ⟨_, ⟨rfl, rfl⟩, h120⟩
                  replace h120 : St w0 F0 [ownC 75 (.pair .str .str) r61 (.slice A35 r61.length c_35), boxC b3 132 [.int .i64 r40.2.1.1, .int .i64 r40.2.1.2.1, .int .i64 r40.2.1.2.2.1, .int .i64 r40.2.1.2.2.2.1, .int .i64 r40.2.1.2.2.2.2.1, .int .i64 r40.2.1.2.2.2.2.2.1, .int .i64 r40.2.1.2.2.2.2.2.2.1, .int .i64 r40.2.1.2.2.2.2.2.2.2, .slice A25 r40.2.2.length c_25], ownC 75 (.pair .str .str) r40.2.2 (.slice A25 r40.2.2.length c_25), ownC 75 (.pair .str .str) (r60.set (0 : Int).toNat ((gt r60 0).1, (((gt r60 0).2) ++ ([120] : List UInt8)))) (.slice A34 (r60.set (0 : Int).toNat ((gt r60 0).1, (((gt r60 0).2) ++ ([120] : List UInt8)))).length c_34), ownC 75 (.pair .str .str) r36 (.slice A21 r36.length c_21)] _ _ := h120
                  refine RJ.run ttok 2 rfl ?_
                  refine RJ.fin [(6, .bool r63)] rfl ?_
                  have h121 := h120.only [] rfl
                  replace h121 : St w0 F0 [] _ _ := h121
                  refine J.ret ?_
                  obtain rfl := Option.some.inj H
                  exact ⟨_, _, _, (results_slots rfl), ⟨rfl, rfl⟩, h121.only [] rfl⟩
                · replace H := ite_f c32 H
                  refine RJ.know (t := 95) rfl (congrArg Value.bool c32) ?_
                  refine RJ.run ttok 3 rfl ?_
                  refine RJ.fin [(6, .bool false)] rfl ?_
                  have h122 := h119.only [] rfl
                  replace h122 : St w0 F0 [] _ _ := h122
                  refine J.ret ?_
                  obtain rfl := Option.some.inj H
                  exact ⟨_, _, _, (results_slots rfl), ⟨rfl, rfl⟩, h122.only [] rfl⟩
              · replace H := ite_f c31 H
                refine J.skip ?_
                refine J.seq ?_
                refine J.region ?_
                obtain ⟨r64, q64, H⟩ := bind_t H
                refine RJ.op rfl rfl (op_call [] (sluicegatelaw28_awake.spec q64) rfl rfl rfl h116 rfl gnil) ?_
                rintro _ w80 ⟨_, ⟨rfl, rfl⟩, h123⟩
                replace h123 : St w0 F0 [ownC 75 (.pair .str .str) r60 (.slice A34 r60.length c_34), boxC b3 132 [.int .i64 r40.2.1.1, .int .i64 r40.2.1.2.1, .int .i64 r40.2.1.2.2.1, .int .i64 r40.2.1.2.2.2.1, .int .i64 r40.2.1.2.2.2.2.1, .int .i64 r40.2.1.2.2.2.2.2.1, .int .i64 r40.2.1.2.2.2.2.2.2.1, .int .i64 r40.2.1.2.2.2.2.2.2.2, .slice A25 r40.2.2.length c_25], ownC 75 (.pair .str .str) r40.2.2 (.slice A25 r40.2.2.length c_25), ownC 75 (.pair .str .str) r36 (.slice A21 r36.length c_21)] _ _ := h123
                refine RJ.run ttok 1 rfl ?_
                refine RJ.fin [(6, .bool r64)] rfl ?_
                have h124 := h123.only [] rfl
                replace h124 : St w0 F0 [] _ _ := h124
                refine J.ret ?_
                obtain rfl := Option.some.inj H
                exact ⟨_, _, _, (results_slots rfl), ⟨rfl, rfl⟩, h124.only [] rfl⟩

end Go.SK.T
