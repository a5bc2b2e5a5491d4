/- The functions, further. -/
import Derived.Test.YtoemkinhdomnpaaXDevPlaysF0
set_option linter.unusedVariables false
set_option linter.unusedSimpArgs false
namespace Go.SK.T
open Go Go.SK Go.Proofs
/-! sluicegate/sluicegatelaw06.DevPlays -/
def sluicegatelaw06_DevPlays.l0 : Nat → (Int) → (Int) → (List (Int × Int × List (Int))) → (Int) → (List (Int)) → (Int) → (Int) → (Int) → (List (List UInt8)) → (Int) → (Int) → (Int) → Option (Bool)
  | 0, _, _, _, _, _, _, _, _, _, _, _, _ => none
  | k + 1, a0, a1, a2, x1, x2, x3, x4, x5, x6, x7, x8, x9 => if (decide (x9 < (a2.length : Int))) = true then (if (decide (x9 < 40)) = true then (if 0 ≤ x9 ∧ x9 < (a2.length : Int) then (if (decide (((gt a2 x9).1) = 0)) = true then ((sluicegateref06_Write.f (x5, x6, x7, x8) ((gt a2 x9).2.1) (toS ((gt a2 x9).2.2))).bind fun r10 => ((dev_Device_Write.f (x1, x2, (x3, x4)) ((gt a2 x9).2.1) ((gt a2 x9).2.2)).bind fun r11 => ((dev_Device_Stats.f (r11.2.1, r11.2.2.1, (r11.2.2.2.1, r11.2.2.2.2))).bind fun r12 => (if (!(decide (r11.1 = r10.2))) = true then (some false) else ((dev_Device_Image.f (r11.2.1, r11.2.2.1, (r11.2.2.2.1, r11.2.2.2.2))).bind fun r13 => ((sluicegateref06_Image.f k (r10.1.1, r10.1.2.1, r10.1.2.2.1, r10.1.2.2.2)).bind fun r14 => (if (!decide ((toS r13) = r14)) = true then (some false) else ((dev_Device_Blocks.f (r11.2.1, r11.2.2.1, (r11.2.2.2.1, r11.2.2.2.2))).bind fun r15 => (if (!decide (r15 = a0)) = true then (some false) else ((dev_Device_Bytes.f (r11.2.1, r11.2.2.1, (r11.2.2.2.1, r11.2.2.2.2))).bind fun r16 => (if (!decide (r16 = a1)) = true then (some false) else (if (!((decide (r12.1 = (IntKind.u64.wrap (r10.1.2.2.1)))) && ((decide (r12.2 = (IntKind.u64.wrap (r10.1.2.2.2)))) && true))) = true then (some false) else (sluicegatelaw06_DevPlays.l0 k a0 a1 a2 r11.2.1 r11.2.2.1 r11.2.2.2.1 r11.2.2.2.2 r10.1.1 r10.1.2.1 r10.1.2.2.1 r10.1.2.2.2 (w64 (x9 + 1))))))))))))))) else (if (decide (((gt a2 x9).1) = 1)) = true then ((sluicegateref06_Write.f (x5, x6, x7, x8) ((gt a2 x9).2.1) (toS ((gt a2 x9).2.2))).bind fun r17 => ((dev_Device_Write.f (x1, x2, (x3, x4)) ((gt a2 x9).2.1) ((gt a2 x9).2.2)).bind fun r18 => ((dev_Device_Stats.f (r18.2.1, r18.2.2.1, (r18.2.2.2.1, r18.2.2.2.2))).bind fun r19 => (if (!(decide (r18.1 = r17.2))) = true then (some false) else ((dev_Device_Image.f (r18.2.1, r18.2.2.1, (r18.2.2.2.1, r18.2.2.2.2))).bind fun r20 => ((sluicegateref06_Image.f k (r17.1.1, r17.1.2.1, r17.1.2.2.1, r17.1.2.2.2)).bind fun r21 => (if (!decide ((toS r20) = r21)) = true then (some false) else ((dev_Device_Blocks.f (r18.2.1, r18.2.2.1, (r18.2.2.2.1, r18.2.2.2.2))).bind fun r22 => (if (!decide (r22 = a0)) = true then (some false) else ((dev_Device_Bytes.f (r18.2.1, r18.2.2.1, (r18.2.2.2.1, r18.2.2.2.2))).bind fun r23 => (if (!decide (r23 = a1)) = true then (some false) else (if (!((decide (r19.1 = (IntKind.u64.wrap (r17.1.2.2.1)))) && ((decide (r19.2 = (IntKind.u64.wrap (r17.1.2.2.2)))) && true))) = true then (some false) else (sluicegatelaw06_DevPlays.l0 k a0 a1 a2 r18.2.1 r18.2.2.1 r18.2.2.2.1 r18.2.2.2.2 r17.1.1 r17.1.2.1 r17.1.2.2.1 r17.1.2.2.2 (w64 (x9 + 1))))))))))))))) else (if (decide (((gt a2 x9).1) = 2)) = true then ((sluicegateref06_Read.f (x5, x6, x7, x8) ((gt a2 x9).2.1)).bind fun r24 => ((dev_Device_Read.f (x1, x2, (x3, x4)) ((gt a2 x9).2.1)).bind fun r25 => (if (decide ((toS r25.1) = r24.2.1)) = true then ((dev_Device_Stats.f (r25.2.2.1, r25.2.2.2.1, (r25.2.2.2.2.1, r25.2.2.2.2.2))).bind fun r26 => (if (!(decide (r25.2.1 = r24.2.2))) = true then (some false) else ((dev_Device_Image.f (r25.2.2.1, r25.2.2.2.1, (r25.2.2.2.2.1, r25.2.2.2.2.2))).bind fun r27 => ((sluicegateref06_Image.f k (r24.1.1, r24.1.2.1, r24.1.2.2.1, r24.1.2.2.2)).bind fun r28 => (if (!decide ((toS r27) = r28)) = true then (some false) else ((dev_Device_Blocks.f (r25.2.2.1, r25.2.2.2.1, (r25.2.2.2.2.1, r25.2.2.2.2.2))).bind fun r29 => (if (!decide (r29 = a0)) = true then (some false) else ((dev_Device_Bytes.f (r25.2.2.1, r25.2.2.2.1, (r25.2.2.2.2.1, r25.2.2.2.2.2))).bind fun r30 => (if (!decide (r30 = a1)) = true then (some false) else (if (!((decide (r26.1 = (IntKind.u64.wrap (r24.1.2.2.1)))) && ((decide (r26.2 = (IntKind.u64.wrap (r24.1.2.2.2)))) && true))) = true then (some false) else (sluicegatelaw06_DevPlays.l0 k a0 a1 a2 r25.2.2.1 r25.2.2.2.1 r25.2.2.2.2.1 r25.2.2.2.2.2 r24.1.1 r24.1.2.1 r24.1.2.2.1 r24.1.2.2.2 (w64 (x9 + 1))))))))))))) else ((dev_Device_Stats.f (r25.2.2.1, r25.2.2.2.1, (r25.2.2.2.2.1, r25.2.2.2.2.2))).bind fun r31 => (some false))))) else (if (decide (((gt a2 x9).1) = 3)) = true then ((dev_Device_Image.f (x1, x2, (x3, x4))).bind fun r32 => ((dev_From.f a1 r32).bind fun r33 => (ocase r33.1 (if (!decide (r33.2 = 0)) = true then (some false) else (some false)) (fun r34 => (if (!decide (r33.2 = 0)) = true then (some false) else ((dev_Device_Stats.f (r34.1, r34.2.1, (r34.2.2.1, r34.2.2.2))).bind fun r35 => ((dev_Device_Image.f (r34.1, r34.2.1, (r34.2.2.1, r34.2.2.2))).bind fun r36 => ((sluicegateref06_Image.f k (x5, x6, 0, 0)).bind fun r37 => (if (!decide ((toS r36) = r37)) = true then (some false) else ((dev_Device_Blocks.f (r34.1, r34.2.1, (r34.2.2.1, r34.2.2.2))).bind fun r38 => (if (!decide (r38 = a0)) = true then (some false) else ((dev_Device_Bytes.f (r34.1, r34.2.1, (r34.2.2.1, r34.2.2.2))).bind fun r39 => (if (!decide (r39 = a1)) = true then (some false) else (if (!((decide (r35.1 = 0)) && ((decide (r35.2 = 0)) && true))) = true then (some false) else (sluicegatelaw06_DevPlays.l0 k a0 a1 a2 r34.1 r34.2.1 r34.2.2.1 r34.2.2.2 x5 x6 0 0 (w64 (x9 + 1))))))))))))))))) else ((dev_Device_Stats.f (x1, x2, (x3, x4))).bind fun r40 => ((dev_Device_Image.f (x1, x2, (x3, x4))).bind fun r41 => ((sluicegateref06_Image.f k (x5, x6, x7, x8)).bind fun r42 => (if (!decide ((toS r41) = r42)) = true then (some false) else ((dev_Device_Blocks.f (x1, x2, (x3, x4))).bind fun r43 => (if (!decide (r43 = a0)) = true then (some false) else ((dev_Device_Bytes.f (x1, x2, (x3, x4))).bind fun r44 => (if (!decide (r44 = a1)) = true then (some false) else (if (!((decide (r40.1 = (IntKind.u64.wrap (x7)))) && ((decide (r40.2 = (IntKind.u64.wrap (x8)))) && true))) = true then (some false) else (sluicegatelaw06_DevPlays.l0 k a0 a1 a2 x1 x2 x3 x4 x5 x6 x7 x8 (w64 (x9 + 1)))))))))))))))) else none) else ((sluicegatelaw06_awake.f).bind fun r45 => (some r45))) else ((sluicegatelaw06_awake.f).bind fun r46 => (some r46))
def sluicegatelaw06_DevPlays.l1 : Nat → (Int) → (Int) → (List (Int × Int × List (Int))) → (Int) → (List (Int)) → (Int) → (Int) → (Int) → (List (List UInt8)) → (Int) → (Int) → (Int) → Option (Bool)
  | 0, _, _, _, _, _, _, _, _, _, _, _, _ => none
  | k + 1, a0, a1, a2, x10, x11, x12, x13, x14, x15, x16, x17, x18 => if (decide (x18 < (a2.length : Int))) = true then (if (decide (x18 < 40)) = true then (if 0 ≤ x18 ∧ x18 < (a2.length : Int) then (if (decide (((gt a2 x18).1) = 0)) = true then ((sluicegateref06_Write.f (x14, x15, x16, x17) ((gt a2 x18).2.1) (toS ((gt a2 x18).2.2))).bind fun r53 => ((dev_Device_Write.f (x10, x11, (x12, x13)) ((gt a2 x18).2.1) ((gt a2 x18).2.2)).bind fun r54 => ((dev_Device_Stats.f (r54.2.1, r54.2.2.1, (r54.2.2.2.1, r54.2.2.2.2))).bind fun r55 => (if (!(decide (r54.1 = r53.2))) = true then (some false) else ((dev_Device_Image.f (r54.2.1, r54.2.2.1, (r54.2.2.2.1, r54.2.2.2.2))).bind fun r56 => ((sluicegateref06_Image.f k (r53.1.1, r53.1.2.1, r53.1.2.2.1, r53.1.2.2.2)).bind fun r57 => (if (!decide ((toS r56) = r57)) = true then (some false) else ((dev_Device_Blocks.f (r54.2.1, r54.2.2.1, (r54.2.2.2.1, r54.2.2.2.2))).bind fun r58 => (if (!decide (r58 = a0)) = true then (some false) else ((dev_Device_Bytes.f (r54.2.1, r54.2.2.1, (r54.2.2.2.1, r54.2.2.2.2))).bind fun r59 => (if (!decide (r59 = a1)) = true then (some false) else (if (!((decide (r55.1 = (IntKind.u64.wrap (r53.1.2.2.1)))) && ((decide (r55.2 = (IntKind.u64.wrap (r53.1.2.2.2)))) && true))) = true then (some false) else (sluicegatelaw06_DevPlays.l1 k a0 a1 a2 r54.2.1 r54.2.2.1 r54.2.2.2.1 r54.2.2.2.2 r53.1.1 r53.1.2.1 r53.1.2.2.1 r53.1.2.2.2 (w64 (x18 + 1))))))))))))))) else (if (decide (((gt a2 x18).1) = 1)) = true then ((sluicegateref06_Write.f (x14, x15, x16, x17) ((gt a2 x18).2.1) (toS ((gt a2 x18).2.2))).bind fun r60 => ((dev_Device_Write.f (x10, x11, (x12, x13)) ((gt a2 x18).2.1) ((gt a2 x18).2.2)).bind fun r61 => ((dev_Device_Stats.f (r61.2.1, r61.2.2.1, (r61.2.2.2.1, r61.2.2.2.2))).bind fun r62 => (if (!(decide (r61.1 = r60.2))) = true then (some false) else ((dev_Device_Image.f (r61.2.1, r61.2.2.1, (r61.2.2.2.1, r61.2.2.2.2))).bind fun r63 => ((sluicegateref06_Image.f k (r60.1.1, r60.1.2.1, r60.1.2.2.1, r60.1.2.2.2)).bind fun r64 => (if (!decide ((toS r63) = r64)) = true then (some false) else ((dev_Device_Blocks.f (r61.2.1, r61.2.2.1, (r61.2.2.2.1, r61.2.2.2.2))).bind fun r65 => (if (!decide (r65 = a0)) = true then (some false) else ((dev_Device_Bytes.f (r61.2.1, r61.2.2.1, (r61.2.2.2.1, r61.2.2.2.2))).bind fun r66 => (if (!decide (r66 = a1)) = true then (some false) else (if (!((decide (r62.1 = (IntKind.u64.wrap (r60.1.2.2.1)))) && ((decide (r62.2 = (IntKind.u64.wrap (r60.1.2.2.2)))) && true))) = true then (some false) else (sluicegatelaw06_DevPlays.l1 k a0 a1 a2 r61.2.1 r61.2.2.1 r61.2.2.2.1 r61.2.2.2.2 r60.1.1 r60.1.2.1 r60.1.2.2.1 r60.1.2.2.2 (w64 (x18 + 1))))))))))))))) else (if (decide (((gt a2 x18).1) = 2)) = true then ((sluicegateref06_Read.f (x14, x15, x16, x17) ((gt a2 x18).2.1)).bind fun r67 => ((dev_Device_Read.f (x10, x11, (x12, x13)) ((gt a2 x18).2.1)).bind fun r68 => (if (decide ((toS r68.1) = r67.2.1)) = true then ((dev_Device_Stats.f (r68.2.2.1, r68.2.2.2.1, (r68.2.2.2.2.1, r68.2.2.2.2.2))).bind fun r69 => (if (!(decide (r68.2.1 = r67.2.2))) = true then (some false) else ((dev_Device_Image.f (r68.2.2.1, r68.2.2.2.1, (r68.2.2.2.2.1, r68.2.2.2.2.2))).bind fun r70 => ((sluicegateref06_Image.f k (r67.1.1, r67.1.2.1, r67.1.2.2.1, r67.1.2.2.2)).bind fun r71 => (if (!decide ((toS r70) = r71)) = true then (some false) else ((dev_Device_Blocks.f (r68.2.2.1, r68.2.2.2.1, (r68.2.2.2.2.1, r68.2.2.2.2.2))).bind fun r72 => (if (!decide (r72 = a0)) = true then (some false) else ((dev_Device_Bytes.f (r68.2.2.1, r68.2.2.2.1, (r68.2.2.2.2.1, r68.2.2.2.2.2))).bind fun r73 => (if (!decide (r73 = a1)) = true then (some false) else (if (!((decide (r69.1 = (IntKind.u64.wrap (r67.1.2.2.1)))) && ((decide (r69.2 = (IntKind.u64.wrap (r67.1.2.2.2)))) && true))) = true then (some false) else (sluicegatelaw06_DevPlays.l1 k a0 a1 a2 r68.2.2.1 r68.2.2.2.1 r68.2.2.2.2.1 r68.2.2.2.2.2 r67.1.1 r67.1.2.1 r67.1.2.2.1 r67.1.2.2.2 (w64 (x18 + 1))))))))))))) else ((dev_Device_Stats.f (r68.2.2.1, r68.2.2.2.1, (r68.2.2.2.2.1, r68.2.2.2.2.2))).bind fun r74 => (some false))))) else (if (decide (((gt a2 x18).1) = 3)) = true then ((dev_Device_Image.f (x10, x11, (x12, x13))).bind fun r75 => ((dev_From.f a1 r75).bind fun r76 => (ocase r76.1 (if (!decide (r76.2 = 0)) = true then (some false) else (some false)) (fun r77 => (if (!decide (r76.2 = 0)) = true then (some false) else ((dev_Device_Stats.f (r77.1, r77.2.1, (r77.2.2.1, r77.2.2.2))).bind fun r78 => ((dev_Device_Image.f (r77.1, r77.2.1, (r77.2.2.1, r77.2.2.2))).bind fun r79 => ((sluicegateref06_Image.f k (x14, x15, 0, 0)).bind fun r80 => (if (!decide ((toS r79) = r80)) = true then (some false) else ((dev_Device_Blocks.f (r77.1, r77.2.1, (r77.2.2.1, r77.2.2.2))).bind fun r81 => (if (!decide (r81 = a0)) = true then (some false) else ((dev_Device_Bytes.f (r77.1, r77.2.1, (r77.2.2.1, r77.2.2.2))).bind fun r82 => (if (!decide (r82 = a1)) = true then (some false) else (if (!((decide (r78.1 = 0)) && ((decide (r78.2 = 0)) && true))) = true then (some false) else (sluicegatelaw06_DevPlays.l1 k a0 a1 a2 r77.1 r77.2.1 r77.2.2.1 r77.2.2.2 x14 x15 0 0 (w64 (x18 + 1))))))))))))))))) else ((dev_Device_Stats.f (x10, x11, (x12, x13))).bind fun r83 => ((dev_Device_Image.f (x10, x11, (x12, x13))).bind fun r84 => ((sluicegateref06_Image.f k (x14, x15, x16, x17)).bind fun r85 => (if (!decide ((toS r84) = r85)) = true then (some false) else ((dev_Device_Blocks.f (x10, x11, (x12, x13))).bind fun r86 => (if (!decide (r86 = a0)) = true then (some false) else ((dev_Device_Bytes.f (x10, x11, (x12, x13))).bind fun r87 => (if (!decide (r87 = a1)) = true then (some false) else (if (!((decide (r83.1 = (IntKind.u64.wrap (x16)))) && ((decide (r83.2 = (IntKind.u64.wrap (x17)))) && true))) = true then (some false) else (sluicegatelaw06_DevPlays.l1 k a0 a1 a2 x10 x11 x12 x13 x14 x15 x16 x17 (w64 (x18 + 1)))))))))))))))) else none) else ((sluicegatelaw06_awake.f).bind fun r88 => (some r88))) else ((sluicegatelaw06_awake.f).bind fun r89 => (some r89))
def sluicegatelaw06_DevPlays.f (k : Nat) (a0 : Int) (a1 : Int) (a2 : List (Int × Int × List (Int))) : Option (Bool) := (sluicegateref06_Right.f a0 a1).bind fun r1 => (if r1 = true then ((sluicegatelaw06_light.f a0 a1).bind fun r2 => (if (!r2) = true then ((sluicegatelaw06_awake.f).bind fun r3 => (some r3)) else ((dev_New.f a0 a1).bind fun r4 => (ocase r4.1 ((sluicegateref06_Right.f a0 a1).bind fun r6 => (if (!r6) = true then (if (decide (r4.2 = 2)) = true then ((sluicegatelaw06_awake.f).bind fun r7 => (some r7)) else (some false)) else (if (!decide (r4.2 = 0)) = true then (some false) else (some false)))) (fun r5 => ((sluicegateref06_Right.f a0 a1).bind fun r8 => (if (!r8) = true then (some false) else (if (!decide (r4.2 = 0)) = true then (some false) else ((sluicegateref06_New.f k a0 a1).bind fun r9 => (sluicegatelaw06_DevPlays.l0 k a0 a1 a2 r5.1 r5.2.1 r5.2.2.1 r5.2.2.2 r9.1 r9.2.1 r9.2.2.1 r9.2.2.2 0)))))))))) else ((dev_New.f a0 a1).bind fun r47 => (ocase r47.1 ((sluicegateref06_Right.f a0 a1).bind fun r49 => (if (!r49) = true then (if (decide (r47.2 = 2)) = true then ((sluicegatelaw06_awake.f).bind fun r50 => (some r50)) else (some false)) else (if (!decide (r47.2 = 0)) = true then (some false) else (some false)))) (fun r48 => ((sluicegateref06_Right.f a0 a1).bind fun r51 => (if (!r51) = true then (some false) else (if (!decide (r47.2 = 0)) = true then (some false) else ((sluicegateref06_New.f k a0 a1).bind fun r52 => (sluicegatelaw06_DevPlays.l1 k a0 a1 a2 r48.1 r48.2.1 r48.2.2.1 r48.2.2.2 r52.1 r52.2.1 r52.2.2.1 r52.2.2.2 0)))))))))
set_option maxRecDepth 20000 in
set_option maxHeartbeats 40000000 in
theorem sluicegatelaw06_DevPlays.spec {k : Nat} {a0 : Int} {a1 : Int} {a2 : List (Int × Int × List (Int))} {A1 : Option Addr} {c_1 : Nat} {r : Bool} (H : sluicegatelaw06_DevPlays.f k a0 a1 a2 = some r) :
    Spec Try.prog 6 [.int .i64 a0, .int .i64 a1, .slice A1 a2.length c_1] [] [rdC 30 (.pair (.int .i64) (.pair (.int .u32) (.slice 5 (.int .u8)))) a2 (.slice A1 a2.length c_1)] (fun v l => v = .bool r ∧ l = []) := by
  refine Spec.enter Try.func6 rfl (by kernel_rfl) (by kernel_rfl) fun w0 F0 h0 => ?_
  unfold sluicegatelaw06_DevPlays.f at H
  refine J.seq ?_
  refine J.region ?_
  refine RJ.run ttok 1 rfl ?_
  refine RJ.fin [(0, .int .i64 a0), (1, .int .i64 a1), (2, .slice A1 a2.length c_1)] rfl ?_
  refine J.seq ?_
  refine J.seq ?_
  refine J.region ?_
  refine RJ.run ttok 2 rfl ?_
  obtain ⟨r1, q1, H⟩ := bind_t H
  refine RJ.op rfl rfl (op_call [] (sluicegateref06_Right.spec q1) rfl rfl rfl h0 rfl gnil) ?_
  rintro _ w1 ⟨_, ⟨rfl, rfl⟩, h1⟩
  replace h1 : St w0 F0 [] _ _ := h1
  refine RJ.run ttok 1 rfl ?_
  rcases Bool.eq_false_or_eq_true r1 with c1 | c1
  · replace H := ite_t c1 H
    refine RJ.know (t := 26) rfl (congrArg Value.bool c1) ?_
    refine RJ.run ttok 2 rfl ?_
    obtain ⟨r2, q2, H⟩ := bind_t H
    refine RJ.op rfl rfl (op_call [] (sluicegatelaw06_light.spec q2) rfl rfl rfl h1 rfl gnil) ?_
    rintro _ w2 ⟨_, ⟨rfl, rfl⟩, h2⟩
    replace h2 : St w0 F0 [] _ _ := h2
    refine RJ.run ttok 2 rfl ?_
    refine RJ.fin [(0, .int .i64 a0), (1, .int .i64 a1), (2, .slice A1 a2.length c_1), (31, .bool (!r2))] rfl ?_
    refine J.cond rfl (fun c2 => ?_) (fun c2 => ?_)
    · replace H := ite_t c2 H
      refine J.seq ?_
      refine J.region ?_
      obtain ⟨r3, q3, H⟩ := bind_t H
      refine RJ.op rfl rfl (op_call [] (sluicegatelaw06_awake.spec q3) rfl rfl rfl h2 rfl gnil) ?_
      rintro _ w3 ⟨_, ⟨rfl, rfl⟩, h3⟩
      replace h3 : St w0 F0 [] _ _ := h3
      refine RJ.run ttok 1 rfl ?_
      refine RJ.fin [(6, .bool r3)] rfl ?_
      refine J.ret ?_
      obtain rfl := Option.some.inj H
      exact ⟨_, _, _, (results_slots rfl), ⟨rfl, rfl⟩, h3.only [] rfl⟩
    · replace H := ite_f c2 H
      refine J.skip ?_
      refine J.seq ?_
      refine J.region ?_
      refine RJ.run ttok 2 rfl ?_
      obtain ⟨r4, q4, H⟩ := bind_t H
      refine RJ.op rfl rfl (op_call [] (dev_New.spec q4) rfl rfl rfl h2 rfl gnil) ?_
      rintro _ w4 ⟨_, ⟨v1, l1, ho1, rfl, rfl⟩, h4⟩
      rcases ho2 : r4.1 with _ | r5
      · rw [ho2] at ho1
        obtain ⟨rfl, rfl⟩ := ho1
        replace H := ocase_n ho2 H
        replace h4 : St w0 F0 [] _ _ := h4
        refine RJ.run ttok 5 rfl ?_
        refine RJ.fin [(0, .int .i64 a0), (1, .int .i64 a1), (2, .slice A1 a2.length c_1), (7, .pointer none), (8, .int .i64 r4.2)] rfl ?_
        refine J.seq ?_
        refine J.seq ?_
        refine J.region ?_
        refine RJ.run ttok 2 rfl ?_
        obtain ⟨r6, q5, H⟩ := bind_t H
        refine RJ.op rfl rfl (op_call [] (sluicegateref06_Right.spec q5) rfl rfl rfl h4 rfl gnil) ?_
        rintro _ w5 ⟨_, ⟨rfl, rfl⟩, h5⟩
        replace h5 : St w0 F0 [] _ _ := h5
        refine RJ.run ttok 1 rfl ?_
        refine RJ.fin [(0, .int .i64 a0), (1, .int .i64 a1), (2, .slice A1 a2.length c_1), (7, .pointer none), (8, .int .i64 r4.2), (42, .bool (!r6))] rfl ?_
        refine J.cond rfl (fun c3 => ?_) (fun c3 => ?_)
        · replace H := ite_t c3 H
          refine J.seq ?_
          refine J.region ?_
          refine RJ.run ttok 7 rfl ?_
          rcases Bool.eq_false_or_eq_true (decide (r4.2 = 2)) with c4 | c4
          · replace H := ite_t c4 H
            refine RJ.know (t := 49) rfl (congrArg Value.bool c4) ?_
            obtain ⟨r7, q6, H⟩ := bind_t H
            refine RJ.op rfl rfl (op_call [] (sluicegatelaw06_awake.spec q6) rfl rfl rfl h5 rfl gnil) ?_
            rintro _ w6 ⟨_, ⟨rfl, rfl⟩, h6⟩
            replace h6 : St w0 F0 [] _ _ := h6
            refine RJ.run ttok 2 rfl ?_
            refine RJ.fin [(6, .bool r7)] rfl ?_
            refine J.ret ?_
            obtain rfl := Option.some.inj H
            exact ⟨_, _, _, (results_slots rfl), ⟨rfl, rfl⟩, h6.only [] rfl⟩
          · replace H := ite_f c4 H
            refine RJ.know (t := 49) rfl (congrArg Value.bool c4) ?_
            refine RJ.run ttok 3 rfl ?_
            refine RJ.fin [(6, .bool false)] rfl ?_
            refine J.ret ?_
            obtain rfl := Option.some.inj H
            exact ⟨_, _, _, (results_slots rfl), ⟨rfl, rfl⟩, h5.only [] rfl⟩
        · replace H := ite_f c3 H
          refine J.skip ?_
          refine J.seq ?_
          refine J.seq ?_
          refine J.region ?_
          refine RJ.run ttok 3 rfl ?_
          rcases Bool.eq_false_or_eq_true (!decide (r4.2 = 0)) with c5 | c5
          · replace H := ite_t c5 H
            refine RJ.know (t := 54) rfl (congrArg Value.bool c5) ?_
            refine RJ.run ttok 3 rfl ?_
            refine RJ.fin [(0, .int .i64 a0), (1, .int .i64 a1), (2, .slice A1 a2.length c_1), (7, .pointer none), (57, .bool true)] rfl ?_
            refine J.condT rfl ?_
            refine J.seq ?_
            refine J.region ?_
            refine RJ.run ttok 1 rfl ?_
            refine RJ.fin [(6, .bool false)] rfl ?_
            refine J.ret ?_
            obtain rfl := Option.some.inj H
            exact ⟨_, _, _, (results_slots rfl), ⟨rfl, rfl⟩, h5.only [] rfl⟩
          · replace H := ite_f c5 H
            refine RJ.know (t := 54) rfl (congrArg Value.bool c5) ?_
            refine RJ.run ttok 3 rfl ?_
            refine RJ.fin [(0, .int .i64 a0), (1, .int .i64 a1), (2, .slice A1 a2.length c_1), (7, .pointer none), (57, .bool true)] rfl ?_
            refine J.condT rfl ?_
            refine J.seq ?_
            refine J.region ?_
            refine RJ.run ttok 1 rfl ?_
            refine RJ.fin [(6, .bool false)] rfl ?_
            refine J.ret ?_
            obtain rfl := Option.some.inj H
            exact ⟨_, _, _, (results_slots rfl), ⟨rfl, rfl⟩, h5.only [] rfl⟩
      · rw [ho2] at ho1
        obtain ⟨b1, A2, c_2, rfl, rfl⟩ := ho1
        replace H := ocase_s ho2 H
        replace h4 : St w0 F0 [boxC b1 51 [.int .i64 r5.1, .slice A2 r5.2.1.length c_2, .int .u64 r5.2.2.1, .int .u64 r5.2.2.2], ownC 5 (.int .u8) r5.2.1 (.slice A2 r5.2.1.length c_2)] _ _ := h4
        refine RJ.run ttok 5 rfl ?_
        refine RJ.fin [(0, .int .i64 a0), (1, .int .i64 a1), (2, .slice A1 a2.length c_1), (7, .pointer (some ⟨b1, 0, none⟩)), (8, .int .i64 r4.2)] rfl ?_
        refine J.seq ?_
        refine J.seq ?_
        refine J.region ?_
        refine RJ.run ttok 2 rfl ?_
        obtain ⟨r8, q7, H⟩ := bind_t H
        refine RJ.op rfl rfl (op_call [] (sluicegateref06_Right.spec q7) rfl rfl rfl h4 rfl gnil) ?_
        rintro _ w7 ⟨_, ⟨rfl, rfl⟩, h7⟩
        replace h7 : St w0 F0 [boxC b1 51 [.int .i64 r5.1, .slice A2 r5.2.1.length c_2, .int .u64 r5.2.2.1, .int .u64 r5.2.2.2], ownC 5 (.int .u8) r5.2.1 (.slice A2 r5.2.1.length c_2)] _ _ := h7
        refine RJ.run ttok 1 rfl ?_
        refine RJ.fin [(0, .int .i64 a0), (1, .int .i64 a1), (2, .slice A1 a2.length c_1), (7, .pointer (some ⟨b1, 0, none⟩)), (8, .int .i64 r4.2), (42, .bool (!r8))] rfl ?_
        refine J.cond rfl (fun c6 => ?_) (fun c6 => ?_)
        · replace H := ite_t c6 H
          refine J.seq ?_
          refine J.region ?_
          refine RJ.run ttok 10 rfl ?_
          refine RJ.fin [(6, .bool false)] rfl ?_
          have h8 := h7.only [] rfl
          replace h8 : St w0 F0 [] _ _ := h8
          refine J.ret ?_
          obtain rfl := Option.some.inj H
          exact ⟨_, _, _, (results_slots rfl), ⟨rfl, rfl⟩, h8.only [] rfl⟩
        · replace H := ite_f c6 H
          refine J.skip ?_
          refine J.seq ?_
          refine J.seq ?_
          refine J.region ?_
          refine RJ.run ttok 3 rfl ?_
          rcases Bool.eq_false_or_eq_true (!decide (r4.2 = 0)) with c7 | c7
          · replace H := ite_t c7 H
            refine RJ.know (t := 54) rfl (congrArg Value.bool c7) ?_
            refine RJ.run ttok 3 rfl ?_
            refine RJ.fin [(0, .int .i64 a0), (1, .int .i64 a1), (2, .slice A1 a2.length c_1), (7, .pointer (some ⟨b1, 0, none⟩)), (57, .bool true)] rfl ?_
            refine J.condT rfl ?_
            refine J.seq ?_
            refine J.region ?_
            refine RJ.run ttok 1 rfl ?_
            refine RJ.fin [(6, .bool false)] rfl ?_
            have h9 := h7.only [] rfl
            replace h9 : St w0 F0 [] _ _ := h9
            refine J.ret ?_
            obtain rfl := Option.some.inj H
            exact ⟨_, _, _, (results_slots rfl), ⟨rfl, rfl⟩, h9.only [] rfl⟩
          · replace H := ite_f c7 H
            refine RJ.know (t := 54) rfl (congrArg Value.bool c7) ?_
            refine RJ.run ttok 3 rfl ?_
            refine RJ.fin [(0, .int .i64 a0), (1, .int .i64 a1), (2, .slice A1 a2.length c_1), (7, .pointer (some ⟨b1, 0, none⟩)), (57, .bool false)] rfl ?_
            refine J.condF rfl ?_
            refine J.skip ?_
            refine J.seq ?_
            refine J.region ?_
            refine RJ.run ttok 2 rfl ?_
            obtain ⟨r9, q8, H⟩ := bind_t H
            refine RJ.op rfl rfl (op_call [] (sluicegateref06_New.spec q8) rfl rfl rfl h7 rfl gnil) ?_
            rintro _ w8 ⟨_, ⟨A3, c_3, rfl, rfl⟩, h10⟩
            replace h10 : St w0 F0 [ownC 9 .str r9.2.1 (.slice A3 r9.2.1.length c_3), boxC b1 51 [.int .i64 r5.1, .slice A2 r5.2.1.length c_2, .int .u64 r5.2.2.1, .int .u64 r5.2.2.2], ownC 5 (.int .u8) r5.2.1 (.slice A2 r5.2.1.length c_2)] _ _ := h10
            refine RJ.op rfl rfl (op_alloc ttok rfl rfl h10) ?_
            rintro _ w9 ⟨b2, rfl, h11⟩
            replace h11 : St w0 F0 [boxC b2 40 [.int .i64 0, .slice none ([] : List (List UInt8)).length 0, .int .i64 0, .int .i64 0], ownC 9 .str r9.2.1 (.slice A3 r9.2.1.length c_3), boxC b1 51 [.int .i64 r5.1, .slice A2 r5.2.1.length c_2, .int .u64 r5.2.2.1, .int .u64 r5.2.2.2], ownC 5 (.int .u8) r5.2.1 (.slice A2 r5.2.1.length c_2)] _ _ := h11
            refine RJ.op rfl rfl (op_store ttok 0 rfl h11 rfl rfl rfl rfl rfl rfl rfl) ?_
            intro _ w10 h12
            replace h12 : St w0 F0 [boxC b2 40 [.int .i64 r9.1, .slice A3 r9.2.1.length c_3, .int .i64 r9.2.2.1, .int .i64 r9.2.2.2], ownC 9 .str r9.2.1 (.slice A3 r9.2.1.length c_3), boxC b1 51 [.int .i64 r5.1, .slice A2 r5.2.1.length c_2, .int .u64 r5.2.2.1, .int .u64 r5.2.2.2], ownC 5 (.int .u8) r5.2.1 (.slice A2 r5.2.1.length c_2)] _ _ := h12
            refine RJ.fin [(0, .int .i64 a0), (1, .int .i64 a1), (2, .slice A1 a2.length c_1), (7, .pointer (some ⟨b1, 0, none⟩)), (9, .pointer (some ⟨b2, 0, none⟩))] rfl ?_
            refine J.seq ?_
            refine J.seq ?_
            refine J.region ?_
            refine RJ.run ttok 1 rfl ?_
            refine RJ.fin [(0, .int .i64 a0), (1, .int .i64 a1), (2, .slice A1 a2.length c_1), (7, .pointer (some ⟨b1, 0, none⟩)), (9, .pointer (some ⟨b2, 0, none⟩)), (10, .int .i64 0)] rfl ?_
            refine J.block ?_
            have h143 := h12.freeze (k := 1) rfl own_rd
            have h144 := ((h143.only [1, 0, 0] rfl).rds [1, 0] rfl)
            refine J.loop (fun k env w => ∃ (b3 : Nat) (x1 : Int) (x2 : List (Int)) (A4 : Option Addr) (c_4 : Nat) (x3 : Int) (x4 : Int) (x5 : Int) (x6 : List (List UInt8)) (A5 : Option Addr) (c_5 : Nat) (x7 : Int) (x8 : Int) (x9 : Int), env = [(0, .int .i64 a0), (1, .int .i64 a1), (2, .slice A1 a2.length c_1), (7, .pointer (some ⟨b3, 0, none⟩)), (9, .pointer (some ⟨b2, 0, none⟩)), (10, .int .i64 x9)] ∧ St w0 F0 [boxC b3 51 [.int .i64 x1, .slice A4 x2.length c_4, .int .u64 x3, .int .u64 x4], boxC b2 40 [.int .i64 x5, .slice A5 x6.length c_5, .int .i64 x7, .int .i64 x8], ownC 5 (.int .u8) x2 (.slice A4 x2.length c_4)] [rdC 30 (.pair (.int .i64) (.pair (.int .u32) (.slice 5 (.int .u8)))) a2 (.slice A1 a2.length c_1), rdC 9 .str x6 (.slice A5 x6.length c_5)] w ∧ sluicegatelaw06_DevPlays.l0 k a0 a1 a2 x1 x2 x3 x4 x5 x6 x7 x8 x9 = some r) (k := k) ⟨b1, r5.1, r5.2.1, A2, c_2, r5.2.2.1, r5.2.2.2, r9.1, r9.2.1, A3, c_3, r9.2.2.1, r9.2.2.2, 0, rfl, h144, H⟩ ?_
            rintro k1 env w11 ⟨b3, x1, x2, A4, c_4, x3, x4, x5, x6, A5, c_5, x7, x8, x9, rfl, h13, H⟩
            cases k1 with
            | zero => exact nomatch (show none = some r from H)
            | succ k1 =>
              rw [sluicegatelaw06_DevPlays.l0] at H
              refine J.seq ?_
              refine J.seq ?_
              refine J.region ?_
              refine RJ.run ttok 5 rfl ?_
              rcases Bool.eq_false_or_eq_true (decide (x9 < (a2.length : Int))) with c8 | c8
              · replace H := ite_t c8 H
                refine RJ.know (t := 65) rfl (congrArg Value.bool c8) ?_
                refine RJ.run ttok 3 rfl ?_
                refine RJ.fin [(0, .int .i64 a0), (1, .int .i64 a1), (2, .slice A1 a2.length c_1), (7, .pointer (some ⟨b3, 0, none⟩)), (9, .pointer (some ⟨b2, 0, none⟩)), (10, .int .i64 x9), (68, .bool (decide (x9 < 40)))] rfl ?_
                refine J.cond rfl (fun c9 => ?_) (fun c9 => ?_)
                · replace H := ite_t c9 H
                  refine J.skip ?_
                  refine J.seq ?_
                  refine J.block ?_
                  refine J.seq ?_
                  refine J.region ?_
                  refine RJ.run ttok 2 rfl ?_
                  obtain ⟨⟨p1, p2⟩, H⟩ := guard_t H
                  have e1 := elem_A h13.wh (Gives.self 3 rfl) p1 p2
                  refine RJ.q rfl rfl (q_index ttok rfl rfl rfl rfl rfl e1 p1 p2) ?_
                  obtain ⟨cs1, h14⟩ := h13.elem 0 rfl p1 p2
                  obtain ⟨cs2, cs3, rfl, h15⟩ := St.okpr 0 h14 rfl
                  obtain ⟨cs4, cs5, rfl, h16⟩ := St.okpr 1 h15 rfl
                  obtain rfl := St.okflat (t := (.int .i64)) rfl 2 h16 rfl
                  obtain rfl := St.okflat (t := (.int .u32)) rfl 0 h16 rfl
                  obtain ⟨A6, c_6, rfl⟩ := St.okslice 1 h16 rfl
                  refine RJ.q rfl rfl (q_load_el (f := 0) ttok h16.wht (Gives.self 8 rfl) rfl rfl rfl rfl) ?_
                  refine RJ.op rfl rfl (op_alloc ttok rfl rfl h16) ?_
                  rintro _ w12 ⟨b4, rfl, h17⟩
                  replace h17 : St w0 F0 [boxC b4 30 [.int .i64 0, .int .u32 0, .slice none ([] : List (Int)).length 0], boxC b3 51 [.int .i64 x1, .slice A4 x2.length c_4, .int .u64 x3, .int .u64 x4], boxC b2 40 [.int .i64 x5, .slice A5 x6.length c_5, .int .i64 x7, .int .i64 x8], ownC 5 (.int .u8) x2 (.slice A4 x2.length c_4)] _ _ := h17
                  refine RJ.op rfl rfl (op_store ttok 0 rfl h17 rfl rfl rfl rfl rfl rfl rfl) ?_
                  intro _ w13 h18
                  replace h18 : St w0 F0 [boxC b4 30 [.int .i64 ((gt a2 x9).1), .int .u32 ((gt a2 x9).2.1), .slice A6 ((gt a2 x9).2.2).length c_6], boxC b3 51 [.int .i64 x1, .slice A4 x2.length c_4, .int .u64 x3, .int .u64 x4], boxC b2 40 [.int .i64 x5, .slice A5 x6.length c_5, .int .i64 x7, .int .i64 x8], ownC 5 (.int .u8) x2 (.slice A4 x2.length c_4)] _ _ := h18
                  refine RJ.fin [(0, .int .i64 a0), (1, .int .i64 a1), (2, .slice A1 a2.length c_1), (7, .pointer (some ⟨b3, 0, none⟩)), (9, .pointer (some ⟨b2, 0, none⟩)), (10, .int .i64 x9), (11, .pointer (some ⟨b4, 0, none⟩))] rfl ?_
                  refine J.seq ?_
                  refine J.region ?_
                  refine RJ.run ttok 1 rfl ?_
                  refine RJ.fin [(0, .int .i64 a0), (1, .int .i64 a1), (2, .slice A1 a2.length c_1), (7, .pointer (some ⟨b3, 0, none⟩)), (9, .pointer (some ⟨b2, 0, none⟩)), (10, .int .i64 x9), (11, .pointer (some ⟨b4, 0, none⟩)), (12, .bool true)] rfl ?_
                  refine J.seq ?_
                  refine J.seq ?_
                  refine J.region ?_
                  refine RJ.run ttok 1 rfl ?_
                  refine RJ.q rfl rfl (q_load_box ttok 0 h18.wht rfl rfl rfl rfl rfl) ?_
                  refine RJ.fin [(0, .int .i64 a0), (1, .int .i64 a1), (2, .slice A1 a2.length c_1), (7, .pointer (some ⟨b3, 0, none⟩)), (9, .pointer (some ⟨b2, 0, none⟩)), (10, .int .i64 x9), (11, .pointer (some ⟨b4, 0, none⟩)), (12, .bool true), (76, .int .i64 ((gt a2 x9).1))] rfl ?_
                  refine J.block ?_
                  refine J.seq ?_
                  refine J.seq ?_
                  refine J.region ?_
                  refine RJ.run ttok 2 rfl ?_
                  refine RJ.fin [(0, .int .i64 a0), (1, .int .i64 a1), (2, .slice A1 a2.length c_1), (7, .pointer (some ⟨b3, 0, none⟩)), (9, .pointer (some ⟨b2, 0, none⟩)), (10, .int .i64 x9), (11, .pointer (some ⟨b4, 0, none⟩)), (12, .bool true), (76, .int .i64 ((gt a2 x9).1)), (77, .bool (decide (((gt a2 x9).1) = 0)))] rfl ?_
                  refine J.cond rfl (fun c10 => ?_) (fun c10 => ?_)
                  · replace H := ite_t c10 H
                    refine J.skip ?_
                    refine J.cond rfl (fun e => ?_) (fun e => ?_)
                    · refine J.seq ?_
                      refine J.region ?_
                      refine RJ.q rfl rfl (q_load_box ttok 2 h18.wht rfl rfl rfl rfl rfl) ?_
                      refine RJ.run ttok 1 rfl ?_
                      refine RJ.q rfl rfl (q_load_box ttok 0 h18.wht rfl rfl rfl rfl rfl) ?_
                      refine RJ.run ttok 1 rfl ?_
                      refine RJ.q rfl rfl (q_load_box ttok 0 h18.wht rfl rfl rfl rfl rfl) ?_
                      refine RJ.q rfl rfl (q_tostr ttok h18.wht (Gives.self 5 rfl) rfl rfl rfl rfl rfl) ?_
                      obtain ⟨r10, q9, H⟩ := bind_t H
                      refine RJ.op rfl rfl (op_callA [] (sluicegateref06_Write.spec q9) rfl rfl rfl h18 rfl (gcons (Gives.self 7 rfl) gnil)) ?_
                      rintro _ w14 ⟨_, _, ⟨A7, c_7, rfl, rfl, rfl⟩, h19⟩
                      replace h19 : St w0 F0 [boxC b4 30 [.int .i64 ((gt a2 x9).1), .int .u32 ((gt a2 x9).2.1), .slice A6 ((gt a2 x9).2.2).length c_6], boxC b3 51 [.int .i64 x1, .slice A4 x2.length c_4, .int .u64 x3, .int .u64 x4], boxC b2 40 [.int .i64 x5, .slice A5 x6.length c_5, .int .i64 x7, .int .i64 x8], ownC 5 (.int .u8) x2 (.slice A4 x2.length c_4)] _ _ := h19
                      refine RJ.run ttok 3 rfl ?_
                      refine RJ.op rfl rfl (op_alloc ttok rfl rfl h19) ?_
                      rintro _ w15 ⟨b5, rfl, h20⟩
                      replace h20 : St w0 F0 [boxC b5 40 [.int .i64 0, .slice none ([] : List (List UInt8)).length 0, .int .i64 0, .int .i64 0], boxC b4 30 [.int .i64 ((gt a2 x9).1), .int .u32 ((gt a2 x9).2.1), .slice A6 ((gt a2 x9).2.2).length c_6], boxC b3 51 [.int .i64 x1, .slice A4 x2.length c_4, .int .u64 x3, .int .u64 x4], boxC b2 40 [.int .i64 x5, .slice A5 x6.length c_5, .int .i64 x7, .int .i64 x8], ownC 5 (.int .u8) x2 (.slice A4 x2.length c_4)] _ _ := h20
                      refine RJ.op rfl rfl (op_store ttok 0 rfl h20 rfl rfl rfl rfl rfl rfl rfl) ?_
                      intro _ w16 h21
                      replace h21 : St w0 F0 [boxC b5 40 [.int .i64 r10.1.1, .slice A7 r10.1.2.1.length c_7, .int .i64 r10.1.2.2.1, .int .i64 r10.1.2.2.2], boxC b4 30 [.int .i64 ((gt a2 x9).1), .int .u32 ((gt a2 x9).2.1), .slice A6 ((gt a2 x9).2.2).length c_6], boxC b3 51 [.int .i64 x1, .slice A4 x2.length c_4, .int .u64 x3, .int .u64 x4], boxC b2 40 [.int .i64 x5, .slice A5 x6.length c_5, .int .i64 x7, .int .i64 x8], ownC 5 (.int .u8) x2 (.slice A4 x2.length c_4)] _ _ := h21
                      refine RJ.run ttok 1 rfl ?_
                      refine RJ.fin [(0, .int .i64 a0), (1, .int .i64 a1), (2, .slice A1 a2.length c_1), (7, .pointer (some ⟨b3, 0, none⟩)), (9, .pointer (some ⟨b2, 0, none⟩)), (10, .int .i64 x9), (11, .pointer (some ⟨b4, 0, none⟩)), (13, .pointer (some ⟨b5, 0, none⟩)), (14, .int .i64 r10.2)] rfl ?_
                      refine J.seq ?_
                      refine J.region ?_
                      refine RJ.q rfl rfl (q_load_box ttok 0 h21.wht rfl rfl rfl rfl rfl) ?_
                      refine RJ.op rfl rfl (op_store ttok 3 rfl h21 rfl rfl rfl rfl rfl rfl rfl) ?_
                      intro _ w17 h22
                      replace h22 : St w0 F0 [boxC b2 40 [.int .i64 r10.1.1, .slice A7 r10.1.2.1.length c_7, .int .i64 r10.1.2.2.1, .int .i64 r10.1.2.2.2], boxC b5 40 [.int .i64 r10.1.1, .slice A7 r10.1.2.1.length c_7, .int .i64 r10.1.2.2.1, .int .i64 r10.1.2.2.2], boxC b4 30 [.int .i64 ((gt a2 x9).1), .int .u32 ((gt a2 x9).2.1), .slice A6 ((gt a2 x9).2.2).length c_6], boxC b3 51 [.int .i64 x1, .slice A4 x2.length c_4, .int .u64 x3, .int .u64 x4], ownC 5 (.int .u8) x2 (.slice A4 x2.length c_4)] _ _ := h22
                      refine RJ.fin [(0, .int .i64 a0), (1, .int .i64 a1), (2, .slice A1 a2.length c_1), (7, .pointer (some ⟨b3, 0, none⟩)), (9, .pointer (some ⟨b2, 0, none⟩)), (10, .int .i64 x9), (11, .pointer (some ⟨b4, 0, none⟩)), (14, .int .i64 r10.2)] rfl ?_
                      refine J.region ?_
                      refine RJ.run ttok 2 rfl ?_
                      refine RJ.q rfl rfl (q_load_box ttok 2 h22.wht rfl rfl rfl rfl rfl) ?_
                      refine RJ.run ttok 1 rfl ?_
                      refine RJ.q rfl rfl (q_load_box ttok 2 h22.wht rfl rfl rfl rfl rfl) ?_
                      obtain ⟨r11, q10, H⟩ := bind_t H
                      refine RJ.op rfl rfl (op_call [3, 3] (dev_Device_Write.spec q10) rfl rfl rfl h22 rfl (gcons (Gives.self 5 rfl) gnil)) ?_
                      rintro _ w18 ⟨_, ⟨A8, c_8, rfl, rfl⟩, h23⟩
                      replace h23 : St w0 F0 [boxC b3 51 [.int .i64 r11.2.1, .slice A8 r11.2.2.1.length c_8, .int .u64 r11.2.2.2.1, .int .u64 r11.2.2.2.2], ownC 5 (.int .u8) r11.2.2.1 (.slice A8 r11.2.2.1.length c_8), boxC b2 40 [.int .i64 r10.1.1, .slice A7 r10.1.2.1.length c_7, .int .i64 r10.1.2.2.1, .int .i64 r10.1.2.2.2], boxC b5 40 [.int .i64 r10.1.1, .slice A7 r10.1.2.1.length c_7, .int .i64 r10.1.2.2.1, .int .i64 r10.1.2.2.2], boxC b4 30 [.int .i64 ((gt a2 x9).1), .int .u32 ((gt a2 x9).2.1), .slice A6 ((gt a2 x9).2.2).length c_6]] _ _ := h23
                      refine RJ.run ttok 3 rfl ?_
                      refine RJ.fin [(0, .int .i64 a0), (1, .int .i64 a1), (2, .slice A1 a2.length c_1), (7, .pointer (some ⟨b3, 0, none⟩)), (9, .pointer (some ⟨b2, 0, none⟩)), (10, .int .i64 x9), (12, .bool (decide (r11.1 = r10.2)))] rfl ?_
                      have h24 := h23.only [0, 0, 0] rfl
                      replace h24 : St w0 F0 [boxC b3 51 [.int .i64 r11.2.1, .slice A8 r11.2.2.1.length c_8, .int .u64 r11.2.2.2.1, .int .u64 r11.2.2.2.2], ownC 5 (.int .u8) r11.2.2.1 (.slice A8 r11.2.2.1.length c_8), boxC b2 40 [.int .i64 r10.1.1, .slice A7 r10.1.2.1.length c_7, .int .i64 r10.1.2.2.1, .int .i64 r10.1.2.2.2]] _ _ := h24
                      refine J.seq ?_
                      refine J.region ?_
                      refine RJ.run ttok 1 rfl ?_
                      obtain ⟨r12, q11, H⟩ := bind_t H
                      refine RJ.op rfl rfl (op_call [0, 0] (dev_Device_Stats.spec q11) rfl rfl rfl h24 rfl gnil) ?_
                      rintro _ w19 ⟨_, ⟨rfl, rfl⟩, h25⟩
                      replace h25 : St w0 F0 [boxC b3 51 [.int .i64 r11.2.1, .slice A8 r11.2.2.1.length c_8, .int .u64 r11.2.2.2.1, .int .u64 r11.2.2.2.2], ownC 5 (.int .u8) r11.2.2.1 (.slice A8 r11.2.2.1.length c_8), boxC b2 40 [.int .i64 r10.1.1, .slice A7 r10.1.2.1.length c_7, .int .i64 r10.1.2.2.1, .int .i64 r10.1.2.2.2]] _ _ := h25
                      refine RJ.op rfl rfl (op_alloc ttok rfl rfl h25) ?_
                      rintro _ w20 ⟨b6, rfl, h26⟩
                      replace h26 : St w0 F0 [boxC b6 49 [.int .u64 0, .int .u64 0], boxC b3 51 [.int .i64 r11.2.1, .slice A8 r11.2.2.1.length c_8, .int .u64 r11.2.2.2.1, .int .u64 r11.2.2.2.2], ownC 5 (.int .u8) r11.2.2.1 (.slice A8 r11.2.2.1.length c_8), boxC b2 40 [.int .i64 r10.1.1, .slice A7 r10.1.2.1.length c_7, .int .i64 r10.1.2.2.1, .int .i64 r10.1.2.2.2]] _ _ := h26
                      refine RJ.op rfl rfl (op_store ttok 0 rfl h26 rfl rfl rfl rfl rfl rfl rfl) ?_
                      intro _ w21 h27
                      replace h27 : St w0 F0 [boxC b6 49 [.int .u64 r12.1, .int .u64 r12.2], boxC b3 51 [.int .i64 r11.2.1, .slice A8 r11.2.2.1.length c_8, .int .u64 r11.2.2.2.1, .int .u64 r11.2.2.2.2], ownC 5 (.int .u8) r11.2.2.1 (.slice A8 r11.2.2.1.length c_8), boxC b2 40 [.int .i64 r10.1.1, .slice A7 r10.1.2.1.length c_7, .int .i64 r10.1.2.2.1, .int .i64 r10.1.2.2.2]] _ _ := h27
                      refine RJ.fin [(0, .int .i64 a0), (1, .int .i64 a1), (2, .slice A1 a2.length c_1), (7, .pointer (some ⟨b3, 0, none⟩)), (9, .pointer (some ⟨b2, 0, none⟩)), (10, .int .i64 x9), (12, .bool (decide (r11.1 = r10.2))), (22, .pointer (some ⟨b6, 0, none⟩))] rfl ?_
                      refine J.seq ?_
                      refine J.heldSt mix h27 ?_
                      have h28 := h27.drew
                      refine HJ.run ttok rfl [0, 1, 2] rfl ?_
                      rcases Bool.eq_false_or_eq_true (!(decide (r11.1 = r10.2))) with c11 | c11
                      · replace H := ite_t c11 H
                        refine HJ.know (t := 148) rfl (congrArg Value.bool c11) ?_
                        refine HJ.run ttok rfl [3, 4, 5, 6, 7, 8, 9, 10, 11, 12, 13, 14, 15, 16, 17, 18, 19, 20, 21, 22, 23, 24, 25, 26, 27, 28, 29, 30, 31, 32] rfl ?_
                        refine HJ.fin [(0, .int .i64 a0), (1, .int .i64 a1), (2, .slice A1 a2.length c_1), (7, .pointer (some ⟨b3, 0, none⟩)), (9, .pointer (some ⟨b2, 0, none⟩)), (10, .int .i64 x9), (178, .bool true)] rfl rfl ?_
                        refine J.condT rfl ?_
                        refine J.seq ?_
                        refine J.region ?_
                        refine RJ.run ttok 1 rfl ?_
                        refine RJ.fin [(6, .bool false)] rfl ?_
                        have h29 := h28.only [] rfl
                        replace h29 : St w0 F0 [] _ _ := h29
                        refine J.ret ?_
                        obtain rfl := Option.some.inj H
                        exact ⟨_, _, _, (results_slots rfl), ⟨rfl, rfl⟩, h29.only [] rfl⟩
                      · replace H := ite_f c11 H
                        refine HJ.know (t := 148) rfl (congrArg Value.bool c11) ?_
                        refine HJ.run ttok rfl [3] rfl ?_
                        refine HJ.q (i := 6) rfl rfl rfl rfl rfl rfl (q_load_box ttok 3 (fun w e => e) rfl rfl rfl rfl rfl) ?_
                        obtain ⟨r13, q12, H⟩ := bind_t H
                        refine HJ.op (i := 4) rfl rfl rfl rfl rfl (op_call [1, 1] (dev_Device_Image.spec q12) rfl rfl rfl h28 rfl gnil) ?_
                        rintro _ w22 ⟨_, ⟨A9, c_9, rfl, rfl⟩, h30⟩
                        replace h30 : St w0 F0 [ownC 5 (.int .u8) r13 (.slice A9 r13.length c_9), boxC b3 51 [.int .i64 r11.2.1, .slice A8 r11.2.2.1.length c_8, .int .u64 r11.2.2.2.1, .int .u64 r11.2.2.2.2], ownC 5 (.int .u8) r11.2.2.1 (.slice A8 r11.2.2.1.length c_8), boxC b6 49 [.int .u64 r12.1, .int .u64 r12.2], boxC b2 40 [.int .i64 r10.1.1, .slice A7 r10.1.2.1.length c_7, .int .i64 r10.1.2.2.1, .int .i64 r10.1.2.2.2]] _ _ := h30
                        refine ⟨⟨[_], (h30.only [0, 2, 0, 0, 0] rfl)⟩, ?_⟩
                        refine HJ.more ⟨[], (h30.only [0, 2, 0, 0, 0] rfl)⟩ ?_
                        refine HJ.q (i := 5) rfl rfl rfl rfl rfl rfl (q_tostr ttok (fun w e => e) (Gives.of 0 rfl own_rd) rfl rfl rfl rfl rfl) ?_
                        obtain ⟨r14, q13, H⟩ := bind_t H
                        refine HJ.op (i := 7) rfl rfl rfl rfl rfl (op_call [] (sluicegateref06_Image.spec q13) rfl rfl rfl h30 rfl (gcons (Gives.self 5 rfl) gnil)) ?_
                        rintro _ w23 ⟨_, ⟨rfl, rfl⟩, h31⟩
                        replace h31 : St w0 F0 [ownC 5 (.int .u8) r13 (.slice A9 r13.length c_9), boxC b3 51 [.int .i64 r11.2.1, .slice A8 r11.2.2.1.length c_8, .int .u64 r11.2.2.2.1, .int .u64 r11.2.2.2.2], ownC 5 (.int .u8) r11.2.2.1 (.slice A8 r11.2.2.1.length c_8), boxC b6 49 [.int .u64 r12.1, .int .u64 r12.2], boxC b2 40 [.int .i64 r10.1.1, .slice A7 r10.1.2.1.length c_7, .int .i64 r10.1.2.2.1, .int .i64 r10.1.2.2.2]] _ _ := h31
                        refine ⟨⟨[], (h31.only [0, 2, 0, 0, 0] rfl)⟩, ?_⟩
                        refine HJ.run ttok rfl [8, 9, 10] rfl ?_
                        rcases Bool.eq_false_or_eq_true (!decide ((toS r13) = r14)) with c12 | c12
                        · replace H := ite_t c12 H
                          refine HJ.know (t := 156) rfl (congrArg Value.bool c12) ?_
                          refine HJ.run ttok rfl [11, 12, 13, 14, 15, 16, 17, 18, 19, 20, 21, 22, 23, 24, 25, 26, 27, 28, 29, 30, 31, 32] rfl ?_
                          refine HJ.fin [(0, .int .i64 a0), (1, .int .i64 a1), (2, .slice A1 a2.length c_1), (7, .pointer (some ⟨b3, 0, none⟩)), (9, .pointer (some ⟨b2, 0, none⟩)), (10, .int .i64 x9), (178, .bool true)] rfl rfl ?_
                          have h32 := h31.only [1, 1, 2] rfl
                          replace h32 : St w0 F0 [boxC b3 51 [.int .i64 r11.2.1, .slice A8 r11.2.2.1.length c_8, .int .u64 r11.2.2.2.1, .int .u64 r11.2.2.2.2], ownC 5 (.int .u8) r11.2.2.1 (.slice A8 r11.2.2.1.length c_8), boxC b2 40 [.int .i64 r10.1.1, .slice A7 r10.1.2.1.length c_7, .int .i64 r10.1.2.2.1, .int .i64 r10.1.2.2.2]] _ _ := h32
                          refine J.condT rfl ?_
                          refine J.seq ?_
                          refine J.region ?_
                          refine RJ.run ttok 1 rfl ?_
                          refine RJ.fin [(6, .bool false)] rfl ?_
                          have h33 := h32.only [] rfl
                          replace h33 : St w0 F0 [] _ _ := h33
                          refine J.ret ?_
                          obtain rfl := Option.some.inj H
                          exact ⟨_, _, _, (results_slots rfl), ⟨rfl, rfl⟩, h33.only [] rfl⟩
                        · replace H := ite_f c12 H
                          refine HJ.know (t := 156) rfl (congrArg Value.bool c12) ?_
                          refine HJ.run ttok rfl [11, 13] rfl ?_
                          obtain ⟨r15, q14, H⟩ := bind_t H
                          refine HJ.op (i := 12) rfl rfl rfl rfl rfl (op_call [1, 1] (dev_Device_Blocks.spec q14) rfl rfl rfl h31 rfl gnil) ?_
                          rintro _ w24 ⟨_, ⟨rfl, rfl⟩, h34⟩
                          replace h34 : St w0 F0 [boxC b3 51 [.int .i64 r11.2.1, .slice A8 r11.2.2.1.length c_8, .int .u64 r11.2.2.2.1, .int .u64 r11.2.2.2.2], ownC 5 (.int .u8) r11.2.2.1 (.slice A8 r11.2.2.1.length c_8), ownC 5 (.int .u8) r13 (.slice A9 r13.length c_9), boxC b6 49 [.int .u64 r12.1, .int .u64 r12.2], boxC b2 40 [.int .i64 r10.1.1, .slice A7 r10.1.2.1.length c_7, .int .i64 r10.1.2.2.1, .int .i64 r10.1.2.2.2]] _ _ := h34
                          refine ⟨⟨[], (h34.only [2, 2, 0, 0, 0] rfl)⟩, ?_⟩
                          refine HJ.run ttok rfl [14, 15, 16] rfl ?_
                          rcases Bool.eq_false_or_eq_true (!decide (r15 = a0)) with c13 | c13
                          · replace H := ite_t c13 H
                            refine HJ.know (t := 162) rfl (congrArg Value.bool c13) ?_
                            refine HJ.run ttok rfl [17, 18, 19, 20, 21, 22, 23, 24, 25, 26, 27, 28, 29, 30, 31, 32] rfl ?_
                            refine HJ.fin [(0, .int .i64 a0), (1, .int .i64 a1), (2, .slice A1 a2.length c_1), (7, .pointer (some ⟨b3, 0, none⟩)), (9, .pointer (some ⟨b2, 0, none⟩)), (10, .int .i64 x9), (178, .bool true)] rfl rfl ?_
                            have h35 := h34.only [0, 0, 2] rfl
                            replace h35 : St w0 F0 [boxC b3 51 [.int .i64 r11.2.1, .slice A8 r11.2.2.1.length c_8, .int .u64 r11.2.2.2.1, .int .u64 r11.2.2.2.2], ownC 5 (.int .u8) r11.2.2.1 (.slice A8 r11.2.2.1.length c_8), boxC b2 40 [.int .i64 r10.1.1, .slice A7 r10.1.2.1.length c_7, .int .i64 r10.1.2.2.1, .int .i64 r10.1.2.2.2]] _ _ := h35
                            refine J.condT rfl ?_
                            refine J.seq ?_
                            refine J.region ?_
                            refine RJ.run ttok 1 rfl ?_
                            refine RJ.fin [(6, .bool false)] rfl ?_
                            have h36 := h35.only [] rfl
                            replace h36 : St w0 F0 [] _ _ := h36
                            refine J.ret ?_
                            obtain rfl := Option.some.inj H
                            exact ⟨_, _, _, (results_slots rfl), ⟨rfl, rfl⟩, h36.only [] rfl⟩
                          · replace H := ite_f c13 H
                            refine HJ.know (t := 162) rfl (congrArg Value.bool c13) ?_
                            refine HJ.run ttok rfl [17, 19] rfl ?_
                            obtain ⟨r16, q15, H⟩ := bind_t H
                            refine HJ.op (i := 18) rfl rfl rfl rfl rfl (op_call [0, 0] (dev_Device_Bytes.spec q15) rfl rfl rfl h34 rfl gnil) ?_
                            rintro _ w25 ⟨_, ⟨rfl, rfl⟩, h37⟩
                            replace h37 : St w0 F0 [boxC b3 51 [.int .i64 r11.2.1, .slice A8 r11.2.2.1.length c_8, .int .u64 r11.2.2.2.1, .int .u64 r11.2.2.2.2], ownC 5 (.int .u8) r11.2.2.1 (.slice A8 r11.2.2.1.length c_8), ownC 5 (.int .u8) r13 (.slice A9 r13.length c_9), boxC b6 49 [.int .u64 r12.1, .int .u64 r12.2], boxC b2 40 [.int .i64 r10.1.1, .slice A7 r10.1.2.1.length c_7, .int .i64 r10.1.2.2.1, .int .i64 r10.1.2.2.2]] _ _ := h37
                            refine ⟨⟨[], (h37.only [2, 2, 0, 0, 0] rfl)⟩, ?_⟩
                            refine HJ.run ttok rfl [20, 21, 22] rfl ?_
                            rcases Bool.eq_false_or_eq_true (!decide (r16 = a1)) with c14 | c14
                            · replace H := ite_t c14 H
                              refine HJ.know (t := 168) rfl (congrArg Value.bool c14) ?_
                              refine HJ.run ttok rfl [23, 24, 25, 26, 27, 28, 29, 30, 31, 32] rfl ?_
                              refine HJ.fin [(0, .int .i64 a0), (1, .int .i64 a1), (2, .slice A1 a2.length c_1), (7, .pointer (some ⟨b3, 0, none⟩)), (9, .pointer (some ⟨b2, 0, none⟩)), (10, .int .i64 x9), (178, .bool true)] rfl rfl ?_
                              have h38 := h37.only [0, 0, 2] rfl
                              replace h38 : St w0 F0 [boxC b3 51 [.int .i64 r11.2.1, .slice A8 r11.2.2.1.length c_8, .int .u64 r11.2.2.2.1, .int .u64 r11.2.2.2.2], ownC 5 (.int .u8) r11.2.2.1 (.slice A8 r11.2.2.1.length c_8), boxC b2 40 [.int .i64 r10.1.1, .slice A7 r10.1.2.1.length c_7, .int .i64 r10.1.2.2.1, .int .i64 r10.1.2.2.2]] _ _ := h38
                              refine J.condT rfl ?_
                              refine J.seq ?_
                              refine J.region ?_
                              refine RJ.run ttok 1 rfl ?_
                              refine RJ.fin [(6, .bool false)] rfl ?_
                              have h39 := h38.only [] rfl
                              replace h39 : St w0 F0 [] _ _ := h39
                              refine J.ret ?_
                              obtain rfl := Option.some.inj H
                              exact ⟨_, _, _, (results_slots rfl), ⟨rfl, rfl⟩, h39.only [] rfl⟩
                            · replace H := ite_f c14 H
                              refine HJ.know (t := 168) rfl (congrArg Value.bool c14) ?_
                              refine HJ.run ttok rfl [24, 27] rfl ?_
                              refine HJ.q (i := 23) rfl rfl rfl rfl rfl rfl (q_load_box ttok 1 (fun w e => e) rfl rfl rfl rfl rfl) ?_
                              refine HJ.q (i := 25) rfl rfl rfl rfl rfl rfl (q_load_box ttok 4 (fun w e => e) rfl rfl rfl rfl rfl) ?_
                              refine HJ.run ttok rfl [26] rfl ?_
                              refine HJ.q (i := 28) rfl rfl rfl rfl rfl rfl (q_load_box ttok 4 (fun w e => e) rfl rfl rfl rfl rfl) ?_
                              refine HJ.run ttok rfl [29, 30, 31, 32] rfl ?_
                              refine HJ.fin [(0, .int .i64 a0), (1, .int .i64 a1), (2, .slice A1 a2.length c_1), (7, .pointer (some ⟨b3, 0, none⟩)), (9, .pointer (some ⟨b2, 0, none⟩)), (10, .int .i64 x9), (178, .bool (!((decide (r12.1 = (IntKind.u64.wrap (r10.1.2.2.1)))) && ((decide (r12.2 = (IntKind.u64.wrap (r10.1.2.2.2)))) && true))))] rfl rfl ?_
                              have h40 := h37.only [0, 0, 2] rfl
                              replace h40 : St w0 F0 [boxC b3 51 [.int .i64 r11.2.1, .slice A8 r11.2.2.1.length c_8, .int .u64 r11.2.2.2.1, .int .u64 r11.2.2.2.2], ownC 5 (.int .u8) r11.2.2.1 (.slice A8 r11.2.2.1.length c_8), boxC b2 40 [.int .i64 r10.1.1, .slice A7 r10.1.2.1.length c_7, .int .i64 r10.1.2.2.1, .int .i64 r10.1.2.2.2]] _ _ := h40
                              refine J.cond rfl (fun c15 => ?_) (fun c15 => ?_)
                              · replace H := ite_t c15 H
                                refine J.seq ?_
                                refine J.region ?_
                                refine RJ.run ttok 1 rfl ?_
                                refine RJ.fin [(6, .bool false)] rfl ?_
                                have h41 := h40.only [] rfl
                                replace h41 : St w0 F0 [] _ _ := h41
                                refine J.ret ?_
                                obtain rfl := Option.some.inj H
                                exact ⟨_, _, _, (results_slots rfl), ⟨rfl, rfl⟩, h41.only [] rfl⟩
                              · replace H := ite_f c15 H
                                refine J.skip ?_
                                refine J.region ?_
                                refine RJ.run ttok 3 rfl ?_
                                refine RJ.fin [(0, .int .i64 a0), (1, .int .i64 a1), (2, .slice A1 a2.length c_1), (7, .pointer (some ⟨b3, 0, none⟩)), (9, .pointer (some ⟨b2, 0, none⟩)), (10, .int .i64 (w64 (x9 + 1)))] rfl ?_
                                have h42 := ((h40.only [0, 1, 0] rfl).rds [7, 0] rfl)
                                exact ⟨k1, by omega, b3, r11.2.1, r11.2.2.1, A8, c_8, r11.2.2.2.1, r11.2.2.2.2, r10.1.1, r10.1.2.1, A7, c_7, r10.1.2.2.1, r10.1.2.2.2, (w64 (x9 + 1)), rfl, h42, H⟩
                    · rw [c10] at e; cases e
                  · replace H := ite_f c10 H
                    refine J.region ?_
                    refine RJ.run ttok 2 rfl ?_
                    refine RJ.fin [(0, .int .i64 a0), (1, .int .i64 a1), (2, .slice A1 a2.length c_1), (7, .pointer (some ⟨b3, 0, none⟩)), (9, .pointer (some ⟨b2, 0, none⟩)), (10, .int .i64 x9), (11, .pointer (some ⟨b4, 0, none⟩)), (12, .bool true), (76, .int .i64 ((gt a2 x9).1)), (77, .bool (decide (((gt a2 x9).1) = 1)))] rfl ?_
                    refine J.cond rfl (fun c16 => ?_) (fun c16 => ?_)
                    · replace H := ite_t c16 H
                      refine J.seq ?_
                      refine J.region ?_
                      refine RJ.q rfl rfl (q_load_box ttok 2 h18.wht rfl rfl rfl rfl rfl) ?_
                      refine RJ.run ttok 1 rfl ?_
                      refine RJ.q rfl rfl (q_load_box ttok 0 h18.wht rfl rfl rfl rfl rfl) ?_
                      refine RJ.run ttok 1 rfl ?_
                      refine RJ.q rfl rfl (q_load_box ttok 0 h18.wht rfl rfl rfl rfl rfl) ?_
                      refine RJ.q rfl rfl (q_tostr ttok h18.wht (Gives.self 5 rfl) rfl rfl rfl rfl rfl) ?_
                      obtain ⟨r17, q16, H⟩ := bind_t H
                      refine RJ.op rfl rfl (op_callA [] (sluicegateref06_Write.spec q16) rfl rfl rfl h18 rfl (gcons (Gives.self 7 rfl) gnil)) ?_
                      rintro _ w26 ⟨_, _, ⟨A10, c_10, rfl, rfl, rfl⟩, h43⟩
                      replace h43 : St w0 F0 [boxC b4 30 [.int .i64 ((gt a2 x9).1), .int .u32 ((gt a2 x9).2.1), .slice A6 ((gt a2 x9).2.2).length c_6], boxC b3 51 [.int .i64 x1, .slice A4 x2.length c_4, .int .u64 x3, .int .u64 x4], boxC b2 40 [.int .i64 x5, .slice A5 x6.length c_5, .int .i64 x7, .int .i64 x8], ownC 5 (.int .u8) x2 (.slice A4 x2.length c_4)] _ _ := h43
                      refine RJ.run ttok 3 rfl ?_
                      refine RJ.op rfl rfl (op_alloc ttok rfl rfl h43) ?_
                      rintro _ w27 ⟨b7, rfl, h44⟩
                      replace h44 : St w0 F0 [boxC b7 40 [.int .i64 0, .slice none ([] : List (List UInt8)).length 0, .int .i64 0, .int .i64 0], boxC b4 30 [.int .i64 ((gt a2 x9).1), .int .u32 ((gt a2 x9).2.1), .slice A6 ((gt a2 x9).2.2).length c_6], boxC b3 51 [.int .i64 x1, .slice A4 x2.length c_4, .int .u64 x3, .int .u64 x4], boxC b2 40 [.int .i64 x5, .slice A5 x6.length c_5, .int .i64 x7, .int .i64 x8], ownC 5 (.int .u8) x2 (.slice A4 x2.length c_4)] _ _ := h44
                      refine RJ.op rfl rfl (op_store ttok 0 rfl h44 rfl rfl rfl rfl rfl rfl rfl) ?_
                      intro _ w28 h45
                      replace h45 : St w0 F0 [boxC b7 40 [.int .i64 r17.1.1, .slice A10 r17.1.2.1.length c_10, .int .i64 r17.1.2.2.1, .int .i64 r17.1.2.2.2], boxC b4 30 [.int .i64 ((gt a2 x9).1), .int .u32 ((gt a2 x9).2.1), .slice A6 ((gt a2 x9).2.2).length c_6], boxC b3 51 [.int .i64 x1, .slice A4 x2.length c_4, .int .u64 x3, .int .u64 x4], boxC b2 40 [.int .i64 x5, .slice A5 x6.length c_5, .int .i64 x7, .int .i64 x8], ownC 5 (.int .u8) x2 (.slice A4 x2.length c_4)] _ _ := h45
                      refine RJ.run ttok 1 rfl ?_
                      refine RJ.fin [(0, .int .i64 a0), (1, .int .i64 a1), (2, .slice A1 a2.length c_1), (7, .pointer (some ⟨b3, 0, none⟩)), (9, .pointer (some ⟨b2, 0, none⟩)), (10, .int .i64 x9), (11, .pointer (some ⟨b4, 0, none⟩)), (13, .pointer (some ⟨b7, 0, none⟩)), (14, .int .i64 r17.2)] rfl ?_
                      refine J.seq ?_
                      refine J.region ?_
                      refine RJ.q rfl rfl (q_load_box ttok 0 h45.wht rfl rfl rfl rfl rfl) ?_
                      refine RJ.op rfl rfl (op_store ttok 3 rfl h45 rfl rfl rfl rfl rfl rfl rfl) ?_
                      intro _ w29 h46
                      replace h46 : St w0 F0 [boxC b2 40 [.int .i64 r17.1.1, .slice A10 r17.1.2.1.length c_10, .int .i64 r17.1.2.2.1, .int .i64 r17.1.2.2.2], boxC b7 40 [.int .i64 r17.1.1, .slice A10 r17.1.2.1.length c_10, .int .i64 r17.1.2.2.1, .int .i64 r17.1.2.2.2], boxC b4 30 [.int .i64 ((gt a2 x9).1), .int .u32 ((gt a2 x9).2.1), .slice A6 ((gt a2 x9).2.2).length c_6], boxC b3 51 [.int .i64 x1, .slice A4 x2.length c_4, .int .u64 x3, .int .u64 x4], ownC 5 (.int .u8) x2 (.slice A4 x2.length c_4)] _ _ := h46
                      refine RJ.fin [(0, .int .i64 a0), (1, .int .i64 a1), (2, .slice A1 a2.length c_1), (7, .pointer (some ⟨b3, 0, none⟩)), (9, .pointer (some ⟨b2, 0, none⟩)), (10, .int .i64 x9), (11, .pointer (some ⟨b4, 0, none⟩)), (14, .int .i64 r17.2)] rfl ?_
                      refine J.region ?_
                      refine RJ.run ttok 2 rfl ?_
                      refine RJ.q rfl rfl (q_load_box ttok 2 h46.wht rfl rfl rfl rfl rfl) ?_
                      refine RJ.run ttok 1 rfl ?_
                      refine RJ.q rfl rfl (q_load_box ttok 2 h46.wht rfl rfl rfl rfl rfl) ?_
                      obtain ⟨r18, q17, H⟩ := bind_t H
                      refine RJ.op rfl rfl (op_call [3, 3] (dev_Device_Write.spec q17) rfl rfl rfl h46 rfl (gcons (Gives.self 5 rfl) gnil)) ?_
                      rintro _ w30 ⟨_, ⟨A11, c_11, rfl, rfl⟩, h47⟩
                      replace h47 : St w0 F0 [boxC b3 51 [.int .i64 r18.2.1, .slice A11 r18.2.2.1.length c_11, .int .u64 r18.2.2.2.1, .int .u64 r18.2.2.2.2], ownC 5 (.int .u8) r18.2.2.1 (.slice A11 r18.2.2.1.length c_11), boxC b2 40 [.int .i64 r17.1.1, .slice A10 r17.1.2.1.length c_10, .int .i64 r17.1.2.2.1, .int .i64 r17.1.2.2.2], boxC b7 40 [.int .i64 r17.1.1, .slice A10 r17.1.2.1.length c_10, .int .i64 r17.1.2.2.1, .int .i64 r17.1.2.2.2], boxC b4 30 [.int .i64 ((gt a2 x9).1), .int .u32 ((gt a2 x9).2.1), .slice A6 ((gt a2 x9).2.2).length c_6]] _ _ := h47
                      refine RJ.run ttok 3 rfl ?_
                      refine RJ.fin [(0, .int .i64 a0), (1, .int .i64 a1), (2, .slice A1 a2.length c_1), (7, .pointer (some ⟨b3, 0, none⟩)), (9, .pointer (some ⟨b2, 0, none⟩)), (10, .int .i64 x9), (12, .bool (decide (r18.1 = r17.2)))] rfl ?_
                      have h48 := h47.only [0, 0, 0] rfl
                      replace h48 : St w0 F0 [boxC b3 51 [.int .i64 r18.2.1, .slice A11 r18.2.2.1.length c_11, .int .u64 r18.2.2.2.1, .int .u64 r18.2.2.2.2], ownC 5 (.int .u8) r18.2.2.1 (.slice A11 r18.2.2.1.length c_11), boxC b2 40 [.int .i64 r17.1.1, .slice A10 r17.1.2.1.length c_10, .int .i64 r17.1.2.2.1, .int .i64 r17.1.2.2.2]] _ _ := h48
                      refine J.seq ?_
                      refine J.region ?_
                      refine RJ.run ttok 1 rfl ?_
                      obtain ⟨r19, q18, H⟩ := bind_t H
                      refine RJ.op rfl rfl (op_call [0, 0] (dev_Device_Stats.spec q18) rfl rfl rfl h48 rfl gnil) ?_
                      rintro _ w31 ⟨_, ⟨rfl, rfl⟩, h49⟩
                      replace h49 : St w0 F0 [boxC b3 51 [.int .i64 r18.2.1, .slice A11 r18.2.2.1.length c_11, .int .u64 r18.2.2.2.1, .int .u64 r18.2.2.2.2], ownC 5 (.int .u8) r18.2.2.1 (.slice A11 r18.2.2.1.length c_11), boxC b2 40 [.int .i64 r17.1.1, .slice A10 r17.1.2.1.length c_10, .int .i64 r17.1.2.2.1, .int .i64 r17.1.2.2.2]] _ _ := h49
                      refine RJ.op rfl rfl (op_alloc ttok rfl rfl h49) ?_
                      rintro _ w32 ⟨b8, rfl, h50⟩
                      replace h50 : St w0 F0 [boxC b8 49 [.int .u64 0, .int .u64 0], boxC b3 51 [.int .i64 r18.2.1, .slice A11 r18.2.2.1.length c_11, .int .u64 r18.2.2.2.1, .int .u64 r18.2.2.2.2], ownC 5 (.int .u8) r18.2.2.1 (.slice A11 r18.2.2.1.length c_11), boxC b2 40 [.int .i64 r17.1.1, .slice A10 r17.1.2.1.length c_10, .int .i64 r17.1.2.2.1, .int .i64 r17.1.2.2.2]] _ _ := h50
                      refine RJ.op rfl rfl (op_store ttok 0 rfl h50 rfl rfl rfl rfl rfl rfl rfl) ?_
                      intro _ w33 h51
                      replace h51 : St w0 F0 [boxC b8 49 [.int .u64 r19.1, .int .u64 r19.2], boxC b3 51 [.int .i64 r18.2.1, .slice A11 r18.2.2.1.length c_11, .int .u64 r18.2.2.2.1, .int .u64 r18.2.2.2.2], ownC 5 (.int .u8) r18.2.2.1 (.slice A11 r18.2.2.1.length c_11), boxC b2 40 [.int .i64 r17.1.1, .slice A10 r17.1.2.1.length c_10, .int .i64 r17.1.2.2.1, .int .i64 r17.1.2.2.2]] _ _ := h51
                      refine RJ.fin [(0, .int .i64 a0), (1, .int .i64 a1), (2, .slice A1 a2.length c_1), (7, .pointer (some ⟨b3, 0, none⟩)), (9, .pointer (some ⟨b2, 0, none⟩)), (10, .int .i64 x9), (12, .bool (decide (r18.1 = r17.2))), (22, .pointer (some ⟨b8, 0, none⟩))] rfl ?_
                      refine J.seq ?_
                      refine J.heldSt mix h51 ?_
                      have h52 := h51.drew
                      refine HJ.run ttok rfl [0, 1, 2] rfl ?_
                      rcases Bool.eq_false_or_eq_true (!(decide (r18.1 = r17.2))) with c17 | c17
                      · replace H := ite_t c17 H
                        refine HJ.know (t := 148) rfl (congrArg Value.bool c17) ?_
                        refine HJ.run ttok rfl [3, 4, 5, 6, 7, 8, 9, 10, 11, 12, 13, 14, 15, 16, 17, 18, 19, 20, 21, 22, 23, 24, 25, 26, 27, 28, 29, 30, 31, 32] rfl ?_
                        refine HJ.fin [(0, .int .i64 a0), (1, .int .i64 a1), (2, .slice A1 a2.length c_1), (7, .pointer (some ⟨b3, 0, none⟩)), (9, .pointer (some ⟨b2, 0, none⟩)), (10, .int .i64 x9), (178, .bool true)] rfl rfl ?_
                        refine J.condT rfl ?_
                        refine J.seq ?_
                        refine J.region ?_
                        refine RJ.run ttok 1 rfl ?_
                        refine RJ.fin [(6, .bool false)] rfl ?_
                        have h53 := h52.only [] rfl
                        replace h53 : St w0 F0 [] _ _ := h53
                        refine J.ret ?_
                        obtain rfl := Option.some.inj H
                        exact ⟨_, _, _, (results_slots rfl), ⟨rfl, rfl⟩, h53.only [] rfl⟩
                      · replace H := ite_f c17 H
                        refine HJ.know (t := 148) rfl (congrArg Value.bool c17) ?_
                        refine HJ.run ttok rfl [3] rfl ?_
                        refine HJ.q (i := 6) rfl rfl rfl rfl rfl rfl (q_load_box ttok 3 (fun w e => e) rfl rfl rfl rfl rfl) ?_
                        obtain ⟨r20, q19, H⟩ := bind_t H
                        refine HJ.op (i := 4) rfl rfl rfl rfl rfl (op_call [1, 1] (dev_Device_Image.spec q19) rfl rfl rfl h52 rfl gnil) ?_
                        rintro _ w34 ⟨_, ⟨A12, c_12, rfl, rfl⟩, h54⟩
                        replace h54 : St w0 F0 [ownC 5 (.int .u8) r20 (.slice A12 r20.length c_12), boxC b3 51 [.int .i64 r18.2.1, .slice A11 r18.2.2.1.length c_11, .int .u64 r18.2.2.2.1, .int .u64 r18.2.2.2.2], ownC 5 (.int .u8) r18.2.2.1 (.slice A11 r18.2.2.1.length c_11), boxC b8 49 [.int .u64 r19.1, .int .u64 r19.2], boxC b2 40 [.int .i64 r17.1.1, .slice A10 r17.1.2.1.length c_10, .int .i64 r17.1.2.2.1, .int .i64 r17.1.2.2.2]] _ _ := h54
                        refine ⟨⟨[_], (h54.only [0, 2, 0, 0, 0] rfl)⟩, ?_⟩
                        refine HJ.more ⟨[], (h54.only [0, 2, 0, 0, 0] rfl)⟩ ?_
                        refine HJ.q (i := 5) rfl rfl rfl rfl rfl rfl (q_tostr ttok (fun w e => e) (Gives.of 0 rfl own_rd) rfl rfl rfl rfl rfl) ?_
                        obtain ⟨r21, q20, H⟩ := bind_t H
                        refine HJ.op (i := 7) rfl rfl rfl rfl rfl (op_call [] (sluicegateref06_Image.spec q20) rfl rfl rfl h54 rfl (gcons (Gives.self 5 rfl) gnil)) ?_
                        rintro _ w35 ⟨_, ⟨rfl, rfl⟩, h55⟩
                        replace h55 : St w0 F0 [ownC 5 (.int .u8) r20 (.slice A12 r20.length c_12), boxC b3 51 [.int .i64 r18.2.1, .slice A11 r18.2.2.1.length c_11, .int .u64 r18.2.2.2.1, .int .u64 r18.2.2.2.2], ownC 5 (.int .u8) r18.2.2.1 (.slice A11 r18.2.2.1.length c_11), boxC b8 49 [.int .u64 r19.1, .int .u64 r19.2], boxC b2 40 [.int .i64 r17.1.1, .slice A10 r17.1.2.1.length c_10, .int .i64 r17.1.2.2.1, .int .i64 r17.1.2.2.2]] _ _ := h55
                        refine ⟨⟨[], (h55.only [0, 2, 0, 0, 0] rfl)⟩, ?_⟩
                        refine HJ.run ttok rfl [8, 9, 10] rfl ?_
                        rcases Bool.eq_false_or_eq_true (!decide ((toS r20) = r21)) with c18 | c18
                        · replace H := ite_t c18 H
                          refine HJ.know (t := 156) rfl (congrArg Value.bool c18) ?_
                          refine HJ.run ttok rfl [11, 12, 13, 14, 15, 16, 17, 18, 19, 20, 21, 22, 23, 24, 25, 26, 27, 28, 29, 30, 31, 32] rfl ?_
                          refine HJ.fin [(0, .int .i64 a0), (1, .int .i64 a1), (2, .slice A1 a2.length c_1), (7, .pointer (some ⟨b3, 0, none⟩)), (9, .pointer (some ⟨b2, 0, none⟩)), (10, .int .i64 x9), (178, .bool true)] rfl rfl ?_
                          have h56 := h55.only [1, 1, 2] rfl
                          replace h56 : St w0 F0 [boxC b3 51 [.int .i64 r18.2.1, .slice A11 r18.2.2.1.length c_11, .int .u64 r18.2.2.2.1, .int .u64 r18.2.2.2.2], ownC 5 (.int .u8) r18.2.2.1 (.slice A11 r18.2.2.1.length c_11), boxC b2 40 [.int .i64 r17.1.1, .slice A10 r17.1.2.1.length c_10, .int .i64 r17.1.2.2.1, .int .i64 r17.1.2.2.2]] _ _ := h56
                          refine J.condT rfl ?_
                          refine J.seq ?_
                          refine J.region ?_
                          refine RJ.run ttok 1 rfl ?_
                          refine RJ.fin [(6, .bool false)] rfl ?_
                          have h57 := h56.only [] rfl
                          replace h57 : St w0 F0 [] _ _ := h57
                          refine J.ret ?_
                          obtain rfl := Option.some.inj H
                          exact ⟨_, _, _, (results_slots rfl), ⟨rfl, rfl⟩, h57.only [] rfl⟩
                        · replace H := ite_f c18 H
                          refine HJ.know (t := 156) rfl (congrArg Value.bool c18) ?_
                          refine HJ.run ttok rfl [11, 13] rfl ?_
                          obtain ⟨r22, q21, H⟩ := bind_t H
                          refine HJ.op (i := 12) rfl rfl rfl rfl rfl (op_call [1, 1] (dev_Device_Blocks.spec q21) rfl rfl rfl h55 rfl gnil) ?_
                          rintro _ w36 ⟨_, ⟨rfl, rfl⟩, h58⟩
                          replace h58 : St w0 F0 [boxC b3 51 [.int .i64 r18.2.1, .slice A11 r18.2.2.1.length c_11, .int .u64 r18.2.2.2.1, .int .u64 r18.2.2.2.2], ownC 5 (.int .u8) r18.2.2.1 (.slice A11 r18.2.2.1.length c_11), ownC 5 (.int .u8) r20 (.slice A12 r20.length c_12), boxC b8 49 [.int .u64 r19.1, .int .u64 r19.2], boxC b2 40 [.int .i64 r17.1.1, .slice A10 r17.1.2.1.length c_10, .int .i64 r17.1.2.2.1, .int .i64 r17.1.2.2.2]] _ _ := h58
                          refine ⟨⟨[], (h58.only [2, 2, 0, 0, 0] rfl)⟩, ?_⟩
                          refine HJ.run ttok rfl [14, 15, 16] rfl ?_
                          rcases Bool.eq_false_or_eq_true (!decide (r22 = a0)) with c19 | c19
                          · replace H := ite_t c19 H
                            refine HJ.know (t := 162) rfl (congrArg Value.bool c19) ?_
                            refine HJ.run ttok rfl [17, 18, 19, 20, 21, 22, 23, 24, 25, 26, 27, 28, 29, 30, 31, 32] rfl ?_
                            refine HJ.fin [(0, .int .i64 a0), (1, .int .i64 a1), (2, .slice A1 a2.length c_1), (7, .pointer (some ⟨b3, 0, none⟩)), (9, .pointer (some ⟨b2, 0, none⟩)), (10, .int .i64 x9), (178, .bool true)] rfl rfl ?_
                            have h59 := h58.only [0, 0, 2] rfl
                            replace h59 : St w0 F0 [boxC b3 51 [.int .i64 r18.2.1, .slice A11 r18.2.2.1.length c_11, .int .u64 r18.2.2.2.1, .int .u64 r18.2.2.2.2], ownC 5 (.int .u8) r18.2.2.1 (.slice A11 r18.2.2.1.length c_11), boxC b2 40 [.int .i64 r17.1.1, .slice A10 r17.1.2.1.length c_10, .int .i64 r17.1.2.2.1, .int .i64 r17.1.2.2.2]] _ _ := h59
                            refine J.condT rfl ?_
                            refine J.seq ?_
                            refine J.region ?_
                            refine RJ.run ttok 1 rfl ?_
                            refine RJ.fin [(6, .bool false)] rfl ?_
                            have h60 := h59.only [] rfl
                            replace h60 : St w0 F0 [] _ _ := h60
                            refine J.ret ?_
                            obtain rfl := Option.some.inj H
                            exact ⟨_, _, _, (results_slots rfl), ⟨rfl, rfl⟩, h60.only [] rfl⟩
                          · replace H := ite_f c19 H
                            refine HJ.know (t := 162) rfl (congrArg Value.bool c19) ?_
                            refine HJ.run ttok rfl [17, 19] rfl ?_
                            obtain ⟨r23, q22, H⟩ := bind_t H
                            refine HJ.op (i := 18) rfl rfl rfl rfl rfl (op_call [0, 0] (dev_Device_Bytes.spec q22) rfl rfl rfl h58 rfl gnil) ?_
                            rintro _ w37 ⟨_, ⟨rfl, rfl⟩, h61⟩
                            replace h61 : St w0 F0 [boxC b3 51 [.int .i64 r18.2.1, .slice A11 r18.2.2.1.length c_11, .int .u64 r18.2.2.2.1, .int .u64 r18.2.2.2.2], ownC 5 (.int .u8) r18.2.2.1 (.slice A11 r18.2.2.1.length c_11), ownC 5 (.int .u8) r20 (.slice A12 r20.length c_12), boxC b8 49 [.int .u64 r19.1, .int .u64 r19.2], boxC b2 40 [.int .i64 r17.1.1, .slice A10 r17.1.2.1.length c_10, .int .i64 r17.1.2.2.1, .int .i64 r17.1.2.2.2]] _ _ := h61
                            refine ⟨⟨[], (h61.only [2, 2, 0, 0, 0] rfl)⟩, ?_⟩
                            refine HJ.run ttok rfl [20, 21, 22] rfl ?_
                            rcases Bool.eq_false_or_eq_true (!decide (r23 = a1)) with c20 | c20
                            · replace H := ite_t c20 H
                              refine HJ.know (t := 168) rfl (congrArg Value.bool c20) ?_
                              refine HJ.run ttok rfl [23, 24, 25, 26, 27, 28, 29, 30, 31, 32] rfl ?_
                              refine HJ.fin [(0, .int .i64 a0), (1, .int .i64 a1), (2, .slice A1 a2.length c_1), (7, .pointer (some ⟨b3, 0, none⟩)), (9, .pointer (some ⟨b2, 0, none⟩)), (10, .int .i64 x9), (178, .bool true)] rfl rfl ?_
                              have h62 := h61.only [0, 0, 2] rfl
                              replace h62 : St w0 F0 [boxC b3 51 [.int .i64 r18.2.1, .slice A11 r18.2.2.1.length c_11, .int .u64 r18.2.2.2.1, .int .u64 r18.2.2.2.2], ownC 5 (.int .u8) r18.2.2.1 (.slice A11 r18.2.2.1.length c_11), boxC b2 40 [.int .i64 r17.1.1, .slice A10 r17.1.2.1.length c_10, .int .i64 r17.1.2.2.1, .int .i64 r17.1.2.2.2]] _ _ := h62
                              refine J.condT rfl ?_
                              refine J.seq ?_
                              refine J.region ?_
                              refine RJ.run ttok 1 rfl ?_
                              refine RJ.fin [(6, .bool false)] rfl ?_
                              have h63 := h62.only [] rfl
                              replace h63 : St w0 F0 [] _ _ := h63
                              refine J.ret ?_
                              obtain rfl := Option.some.inj H
                              exact ⟨_, _, _, (results_slots rfl), ⟨rfl, rfl⟩, h63.only [] rfl⟩
                            · replace H := ite_f c20 H
                              refine HJ.know (t := 168) rfl (congrArg Value.bool c20) ?_
                              refine HJ.run ttok rfl [24, 27] rfl ?_
                              refine HJ.q (i := 23) rfl rfl rfl rfl rfl rfl (q_load_box ttok 1 (fun w e => e) rfl rfl rfl rfl rfl) ?_
                              refine HJ.q (i := 25) rfl rfl rfl rfl rfl rfl (q_load_box ttok 4 (fun w e => e) rfl rfl rfl rfl rfl) ?_
                              refine HJ.run ttok rfl [26] rfl ?_
                              refine HJ.q (i := 28) rfl rfl rfl rfl rfl rfl (q_load_box ttok 4 (fun w e => e) rfl rfl rfl rfl rfl) ?_
                              refine HJ.run ttok rfl [29, 30, 31, 32] rfl ?_
                              refine HJ.fin [(0, .int .i64 a0), (1, .int .i64 a1), (2, .slice A1 a2.length c_1), (7, .pointer (some ⟨b3, 0, none⟩)), (9, .pointer (some ⟨b2, 0, none⟩)), (10, .int .i64 x9), (178, .bool (!((decide (r19.1 = (IntKind.u64.wrap (r17.1.2.2.1)))) && ((decide (r19.2 = (IntKind.u64.wrap (r17.1.2.2.2)))) && true))))] rfl rfl ?_
                              have h64 := h61.only [0, 0, 2] rfl
                              replace h64 : St w0 F0 [boxC b3 51 [.int .i64 r18.2.1, .slice A11 r18.2.2.1.length c_11, .int .u64 r18.2.2.2.1, .int .u64 r18.2.2.2.2], ownC 5 (.int .u8) r18.2.2.1 (.slice A11 r18.2.2.1.length c_11), boxC b2 40 [.int .i64 r17.1.1, .slice A10 r17.1.2.1.length c_10, .int .i64 r17.1.2.2.1, .int .i64 r17.1.2.2.2]] _ _ := h64
                              refine J.cond rfl (fun c21 => ?_) (fun c21 => ?_)
                              · replace H := ite_t c21 H
                                refine J.seq ?_
                                refine J.region ?_
                                refine RJ.run ttok 1 rfl ?_
                                refine RJ.fin [(6, .bool false)] rfl ?_
                                have h65 := h64.only [] rfl
                                replace h65 : St w0 F0 [] _ _ := h65
                                refine J.ret ?_
                                obtain rfl := Option.some.inj H
                                exact ⟨_, _, _, (results_slots rfl), ⟨rfl, rfl⟩, h65.only [] rfl⟩
                              · replace H := ite_f c21 H
                                refine J.skip ?_
                                refine J.region ?_
                                refine RJ.run ttok 3 rfl ?_
                                refine RJ.fin [(0, .int .i64 a0), (1, .int .i64 a1), (2, .slice A1 a2.length c_1), (7, .pointer (some ⟨b3, 0, none⟩)), (9, .pointer (some ⟨b2, 0, none⟩)), (10, .int .i64 (w64 (x9 + 1)))] rfl ?_
                                have h66 := ((h64.only [0, 1, 0] rfl).rds [7, 0] rfl)
                                exact ⟨k1, by omega, b3, r18.2.1, r18.2.2.1, A11, c_11, r18.2.2.2.1, r18.2.2.2.2, r17.1.1, r17.1.2.1, A10, c_10, r17.1.2.2.1, r17.1.2.2.2, (w64 (x9 + 1)), rfl, h66, H⟩
                    · replace H := ite_f c16 H
                      refine J.seq ?_
                      refine J.region ?_
                      refine RJ.run ttok 2 rfl ?_
                      refine RJ.fin [(0, .int .i64 a0), (1, .int .i64 a1), (2, .slice A1 a2.length c_1), (7, .pointer (some ⟨b3, 0, none⟩)), (9, .pointer (some ⟨b2, 0, none⟩)), (10, .int .i64 x9), (11, .pointer (some ⟨b4, 0, none⟩)), (12, .bool true), (76, .int .i64 ((gt a2 x9).1)), (99, .bool (decide (((gt a2 x9).1) = 2)))] rfl ?_
                      refine J.cond rfl (fun c22 => ?_) (fun c22 => ?_)
                      · replace H := ite_t c22 H
                        refine J.seq ?_
                        refine J.region ?_
                        refine RJ.q rfl rfl (q_load_box ttok 2 h18.wht rfl rfl rfl rfl rfl) ?_
                        refine RJ.run ttok 1 rfl ?_
                        refine RJ.q rfl rfl (q_load_box ttok 0 h18.wht rfl rfl rfl rfl rfl) ?_
                        obtain ⟨r24, q23, H⟩ := bind_t H
                        refine RJ.op rfl rfl (op_callA [] (sluicegateref06_Read.spec q23) rfl rfl rfl h18 rfl (gcons (Gives.self 7 rfl) gnil)) ?_
                        rintro _ w38 ⟨_, _, ⟨A13, c_13, rfl, rfl, rfl⟩, h67⟩
                        replace h67 : St w0 F0 [boxC b4 30 [.int .i64 ((gt a2 x9).1), .int .u32 ((gt a2 x9).2.1), .slice A6 ((gt a2 x9).2.2).length c_6], boxC b3 51 [.int .i64 x1, .slice A4 x2.length c_4, .int .u64 x3, .int .u64 x4], boxC b2 40 [.int .i64 x5, .slice A5 x6.length c_5, .int .i64 x7, .int .i64 x8], ownC 5 (.int .u8) x2 (.slice A4 x2.length c_4)] _ _ := h67
                        refine RJ.run ttok 4 rfl ?_
                        refine RJ.op rfl rfl (op_alloc ttok rfl rfl h67) ?_
                        rintro _ w39 ⟨b9, rfl, h68⟩
                        replace h68 : St w0 F0 [boxC b9 40 [.int .i64 0, .slice none ([] : List (List UInt8)).length 0, .int .i64 0, .int .i64 0], boxC b4 30 [.int .i64 ((gt a2 x9).1), .int .u32 ((gt a2 x9).2.1), .slice A6 ((gt a2 x9).2.2).length c_6], boxC b3 51 [.int .i64 x1, .slice A4 x2.length c_4, .int .u64 x3, .int .u64 x4], boxC b2 40 [.int .i64 x5, .slice A5 x6.length c_5, .int .i64 x7, .int .i64 x8], ownC 5 (.int .u8) x2 (.slice A4 x2.length c_4)] _ _ := h68
                        refine RJ.op rfl rfl (op_store ttok 0 rfl h68 rfl rfl rfl rfl rfl rfl rfl) ?_
                        intro _ w40 h69
                        replace h69 : St w0 F0 [boxC b9 40 [.int .i64 r24.1.1, .slice A13 r24.1.2.1.length c_13, .int .i64 r24.1.2.2.1, .int .i64 r24.1.2.2.2], boxC b4 30 [.int .i64 ((gt a2 x9).1), .int .u32 ((gt a2 x9).2.1), .slice A6 ((gt a2 x9).2.2).length c_6], boxC b3 51 [.int .i64 x1, .slice A4 x2.length c_4, .int .u64 x3, .int .u64 x4], boxC b2 40 [.int .i64 x5, .slice A5 x6.length c_5, .int .i64 x7, .int .i64 x8], ownC 5 (.int .u8) x2 (.slice A4 x2.length c_4)] _ _ := h69
                        refine RJ.run ttok 2 rfl ?_
                        refine RJ.fin [(0, .int .i64 a0), (1, .int .i64 a1), (2, .slice A1 a2.length c_1), (7, .pointer (some ⟨b3, 0, none⟩)), (9, .pointer (some ⟨b2, 0, none⟩)), (10, .int .i64 x9), (11, .pointer (some ⟨b4, 0, none⟩)), (15, .pointer (some ⟨b9, 0, none⟩)), (16, .string ⟨⟨r24.2.1⟩⟩), (17, .int .i64 r24.2.2)] rfl ?_
                        refine J.seq ?_
                        refine J.region ?_
                        refine RJ.q rfl rfl (q_load_box ttok 0 h69.wht rfl rfl rfl rfl rfl) ?_
                        refine RJ.op rfl rfl (op_store ttok 3 rfl h69 rfl rfl rfl rfl rfl rfl rfl) ?_
                        intro _ w41 h70
                        replace h70 : St w0 F0 [boxC b2 40 [.int .i64 r24.1.1, .slice A13 r24.1.2.1.length c_13, .int .i64 r24.1.2.2.1, .int .i64 r24.1.2.2.2], boxC b9 40 [.int .i64 r24.1.1, .slice A13 r24.1.2.1.length c_13, .int .i64 r24.1.2.2.1, .int .i64 r24.1.2.2.2], boxC b4 30 [.int .i64 ((gt a2 x9).1), .int .u32 ((gt a2 x9).2.1), .slice A6 ((gt a2 x9).2.2).length c_6], boxC b3 51 [.int .i64 x1, .slice A4 x2.length c_4, .int .u64 x3, .int .u64 x4], ownC 5 (.int .u8) x2 (.slice A4 x2.length c_4)] _ _ := h70
                        refine RJ.fin [(0, .int .i64 a0), (1, .int .i64 a1), (2, .slice A1 a2.length c_1), (7, .pointer (some ⟨b3, 0, none⟩)), (9, .pointer (some ⟨b2, 0, none⟩)), (10, .int .i64 x9), (11, .pointer (some ⟨b4, 0, none⟩)), (16, .string ⟨⟨r24.2.1⟩⟩), (17, .int .i64 r24.2.2)] rfl ?_
                        refine J.seq ?_
                        refine J.region ?_
                        refine RJ.run ttok 2 rfl ?_
                        refine RJ.q rfl rfl (q_load_box ttok 2 h70.wht rfl rfl rfl rfl rfl) ?_
                        obtain ⟨r25, q24, H⟩ := bind_t H
                        refine RJ.op rfl rfl (op_call [3, 3] (dev_Device_Read.spec q24) rfl rfl rfl h70 rfl gnil) ?_
                        rintro _ w42 ⟨_, ⟨A14, c_14, A15, c_15, rfl, rfl⟩, h71⟩
                        replace h71 : St w0 F0 [ownC 5 (.int .u8) r25.1 (.slice A14 r25.1.length c_14), boxC b3 51 [.int .i64 r25.2.2.1, .slice A15 r25.2.2.2.1.length c_15, .int .u64 r25.2.2.2.2.1, .int .u64 r25.2.2.2.2.2], ownC 5 (.int .u8) r25.2.2.2.1 (.slice A15 r25.2.2.2.1.length c_15), boxC b2 40 [.int .i64 r24.1.1, .slice A13 r24.1.2.1.length c_13, .int .i64 r24.1.2.2.1, .int .i64 r24.1.2.2.2], boxC b9 40 [.int .i64 r24.1.1, .slice A13 r24.1.2.1.length c_13, .int .i64 r24.1.2.2.1, .int .i64 r24.1.2.2.2], boxC b4 30 [.int .i64 ((gt a2 x9).1), .int .u32 ((gt a2 x9).2.1), .slice A6 ((gt a2 x9).2.2).length c_6]] _ _ := h71
                        refine RJ.run ttok 5 rfl ?_
                        refine RJ.fin [(0, .int .i64 a0), (1, .int .i64 a1), (2, .slice A1 a2.length c_1), (7, .pointer (some ⟨b3, 0, none⟩)), (9, .pointer (some ⟨b2, 0, none⟩)), (10, .int .i64 x9), (16, .string ⟨⟨r24.2.1⟩⟩), (17, .int .i64 r24.2.2), (18, .slice A14 r25.1.length c_14), (19, .int .i64 r25.2.1)] rfl ?_
                        have h72 := h71.only [0, 0, 0, 0] rfl
                        replace h72 : St w0 F0 [ownC 5 (.int .u8) r25.1 (.slice A14 r25.1.length c_14), boxC b3 51 [.int .i64 r25.2.2.1, .slice A15 r25.2.2.2.1.length c_15, .int .u64 r25.2.2.2.2.1, .int .u64 r25.2.2.2.2.2], ownC 5 (.int .u8) r25.2.2.2.1 (.slice A15 r25.2.2.2.1.length c_15), boxC b2 40 [.int .i64 r24.1.1, .slice A13 r24.1.2.1.length c_13, .int .i64 r24.1.2.2.1, .int .i64 r24.1.2.2.2]] _ _ := h72
                        refine J.region ?_
                        refine RJ.run ttok 1 rfl ?_
                        refine RJ.q rfl rfl (q_tostr ttok h72.wht (Gives.of 0 rfl own_rd) rfl rfl rfl rfl rfl) ?_
                        refine RJ.run ttok 3 rfl ?_
                        rcases Bool.eq_false_or_eq_true (decide ((toS r25.1) = r24.2.1)) with c23 | c23
                        · replace H := ite_t c23 H
                          refine RJ.know (t := 121) rfl (congrArg Value.bool c23) ?_
                          refine RJ.run ttok 5 rfl ?_
                          refine RJ.fin [(0, .int .i64 a0), (1, .int .i64 a1), (2, .slice A1 a2.length c_1), (7, .pointer (some ⟨b3, 0, none⟩)), (9, .pointer (some ⟨b2, 0, none⟩)), (10, .int .i64 x9), (12, .bool (decide (r25.2.1 = r24.2.2)))] rfl ?_
                          refine J.seq ?_
                          refine J.region ?_
                          refine RJ.run ttok 1 rfl ?_
                          obtain ⟨r26, q25, H⟩ := bind_t H
                          refine RJ.op rfl rfl (op_call [1, 1] (dev_Device_Stats.spec q25) rfl rfl rfl h72 rfl gnil) ?_
                          rintro _ w43 ⟨_, ⟨rfl, rfl⟩, h73⟩
                          replace h73 : St w0 F0 [boxC b3 51 [.int .i64 r25.2.2.1, .slice A15 r25.2.2.2.1.length c_15, .int .u64 r25.2.2.2.2.1, .int .u64 r25.2.2.2.2.2], ownC 5 (.int .u8) r25.2.2.2.1 (.slice A15 r25.2.2.2.1.length c_15), ownC 5 (.int .u8) r25.1 (.slice A14 r25.1.length c_14), boxC b2 40 [.int .i64 r24.1.1, .slice A13 r24.1.2.1.length c_13, .int .i64 r24.1.2.2.1, .int .i64 r24.1.2.2.2]] _ _ := h73
                          refine RJ.op rfl rfl (op_alloc ttok rfl rfl h73) ?_
                          rintro _ w44 ⟨b10, rfl, h74⟩
                          replace h74 : St w0 F0 [boxC b10 49 [.int .u64 0, .int .u64 0], boxC b3 51 [.int .i64 r25.2.2.1, .slice A15 r25.2.2.2.1.length c_15, .int .u64 r25.2.2.2.2.1, .int .u64 r25.2.2.2.2.2], ownC 5 (.int .u8) r25.2.2.2.1 (.slice A15 r25.2.2.2.1.length c_15), ownC 5 (.int .u8) r25.1 (.slice A14 r25.1.length c_14), boxC b2 40 [.int .i64 r24.1.1, .slice A13 r24.1.2.1.length c_13, .int .i64 r24.1.2.2.1, .int .i64 r24.1.2.2.2]] _ _ := h74
                          refine RJ.op rfl rfl (op_store ttok 0 rfl h74 rfl rfl rfl rfl rfl rfl rfl) ?_
                          intro _ w45 h75
                          replace h75 : St w0 F0 [boxC b10 49 [.int .u64 r26.1, .int .u64 r26.2], boxC b3 51 [.int .i64 r25.2.2.1, .slice A15 r25.2.2.2.1.length c_15, .int .u64 r25.2.2.2.2.1, .int .u64 r25.2.2.2.2.2], ownC 5 (.int .u8) r25.2.2.2.1 (.slice A15 r25.2.2.2.1.length c_15), ownC 5 (.int .u8) r25.1 (.slice A14 r25.1.length c_14), boxC b2 40 [.int .i64 r24.1.1, .slice A13 r24.1.2.1.length c_13, .int .i64 r24.1.2.2.1, .int .i64 r24.1.2.2.2]] _ _ := h75
                          refine RJ.fin [(0, .int .i64 a0), (1, .int .i64 a1), (2, .slice A1 a2.length c_1), (7, .pointer (some ⟨b3, 0, none⟩)), (9, .pointer (some ⟨b2, 0, none⟩)), (10, .int .i64 x9), (12, .bool (decide (r25.2.1 = r24.2.2))), (22, .pointer (some ⟨b10, 0, none⟩))] rfl ?_
                          refine J.seq ?_
                          refine J.heldSt mix h75 ?_
                          have h76 := h75.drew
                          refine HJ.run ttok rfl [0, 1, 2] rfl ?_
                          rcases Bool.eq_false_or_eq_true (!(decide (r25.2.1 = r24.2.2))) with c24 | c24
                          · replace H := ite_t c24 H
                            refine HJ.know (t := 148) rfl (congrArg Value.bool c24) ?_
                            refine HJ.run ttok rfl [3, 4, 5, 6, 7, 8, 9, 10, 11, 12, 13, 14, 15, 16, 17, 18, 19, 20, 21, 22, 23, 24, 25, 26, 27, 28, 29, 30, 31, 32] rfl ?_
                            refine HJ.fin [(0, .int .i64 a0), (1, .int .i64 a1), (2, .slice A1 a2.length c_1), (7, .pointer (some ⟨b3, 0, none⟩)), (9, .pointer (some ⟨b2, 0, none⟩)), (10, .int .i64 x9), (178, .bool true)] rfl rfl ?_
                            have h77 := h76.only [1, 1, 2] rfl
                            replace h77 : St w0 F0 [boxC b3 51 [.int .i64 r25.2.2.1, .slice A15 r25.2.2.2.1.length c_15, .int .u64 r25.2.2.2.2.1, .int .u64 r25.2.2.2.2.2], ownC 5 (.int .u8) r25.2.2.2.1 (.slice A15 r25.2.2.2.1.length c_15), boxC b2 40 [.int .i64 r24.1.1, .slice A13 r24.1.2.1.length c_13, .int .i64 r24.1.2.2.1, .int .i64 r24.1.2.2.2]] _ _ := h77
                            refine J.condT rfl ?_
                            refine J.seq ?_
                            refine J.region ?_
                            refine RJ.run ttok 1 rfl ?_
                            refine RJ.fin [(6, .bool false)] rfl ?_
                            have h78 := h77.only [] rfl
                            replace h78 : St w0 F0 [] _ _ := h78
                            refine J.ret ?_
                            obtain rfl := Option.some.inj H
                            exact ⟨_, _, _, (results_slots rfl), ⟨rfl, rfl⟩, h78.only [] rfl⟩
                          · replace H := ite_f c24 H
                            refine HJ.know (t := 148) rfl (congrArg Value.bool c24) ?_
                            refine HJ.run ttok rfl [3] rfl ?_
                            refine HJ.q (i := 6) rfl rfl rfl rfl rfl rfl (q_load_box ttok 4 (fun w e => e) rfl rfl rfl rfl rfl) ?_
                            obtain ⟨r27, q26, H⟩ := bind_t H
                            refine HJ.op (i := 4) rfl rfl rfl rfl rfl (op_call [1, 1] (dev_Device_Image.spec q26) rfl rfl rfl h76 rfl gnil) ?_
                            rintro _ w46 ⟨_, ⟨A16, c_16, rfl, rfl⟩, h79⟩
                            replace h79 : St w0 F0 [ownC 5 (.int .u8) r27 (.slice A16 r27.length c_16), boxC b3 51 [.int .i64 r25.2.2.1, .slice A15 r25.2.2.2.1.length c_15, .int .u64 r25.2.2.2.2.1, .int .u64 r25.2.2.2.2.2], ownC 5 (.int .u8) r25.2.2.2.1 (.slice A15 r25.2.2.2.1.length c_15), boxC b10 49 [.int .u64 r26.1, .int .u64 r26.2], ownC 5 (.int .u8) r25.1 (.slice A14 r25.1.length c_14), boxC b2 40 [.int .i64 r24.1.1, .slice A13 r24.1.2.1.length c_13, .int .i64 r24.1.2.2.1, .int .i64 r24.1.2.2.2]] _ _ := h79
                            refine ⟨⟨[_], (h79.only [0, 2, 0, 0, 0, 0] rfl)⟩, ?_⟩
                            refine HJ.more ⟨[], (h79.only [0, 2, 0, 0, 0, 0] rfl)⟩ ?_
                            refine HJ.q (i := 5) rfl rfl rfl rfl rfl rfl (q_tostr ttok (fun w e => e) (Gives.of 0 rfl own_rd) rfl rfl rfl rfl rfl) ?_
                            obtain ⟨r28, q27, H⟩ := bind_t H
                            refine HJ.op (i := 7) rfl rfl rfl rfl rfl (op_call [] (sluicegateref06_Image.spec q27) rfl rfl rfl h79 rfl (gcons (Gives.self 6 rfl) gnil)) ?_
                            rintro _ w47 ⟨_, ⟨rfl, rfl⟩, h80⟩
                            replace h80 : St w0 F0 [ownC 5 (.int .u8) r27 (.slice A16 r27.length c_16), boxC b3 51 [.int .i64 r25.2.2.1, .slice A15 r25.2.2.2.1.length c_15, .int .u64 r25.2.2.2.2.1, .int .u64 r25.2.2.2.2.2], ownC 5 (.int .u8) r25.2.2.2.1 (.slice A15 r25.2.2.2.1.length c_15), boxC b10 49 [.int .u64 r26.1, .int .u64 r26.2], ownC 5 (.int .u8) r25.1 (.slice A14 r25.1.length c_14), boxC b2 40 [.int .i64 r24.1.1, .slice A13 r24.1.2.1.length c_13, .int .i64 r24.1.2.2.1, .int .i64 r24.1.2.2.2]] _ _ := h80
                            refine ⟨⟨[], (h80.only [0, 2, 0, 0, 0, 0] rfl)⟩, ?_⟩
                            refine HJ.run ttok rfl [8, 9, 10] rfl ?_
                            rcases Bool.eq_false_or_eq_true (!decide ((toS r27) = r28)) with c25 | c25
                            · replace H := ite_t c25 H
                              refine HJ.know (t := 156) rfl (congrArg Value.bool c25) ?_
                              refine HJ.run ttok rfl [11, 12, 13, 14, 15, 16, 17, 18, 19, 20, 21, 22, 23, 24, 25, 26, 27, 28, 29, 30, 31, 32] rfl ?_
                              refine HJ.fin [(0, .int .i64 a0), (1, .int .i64 a1), (2, .slice A1 a2.length c_1), (7, .pointer (some ⟨b3, 0, none⟩)), (9, .pointer (some ⟨b2, 0, none⟩)), (10, .int .i64 x9), (178, .bool true)] rfl rfl ?_
                              have h81 := h80.only [1, 1, 3] rfl
                              replace h81 : St w0 F0 [boxC b3 51 [.int .i64 r25.2.2.1, .slice A15 r25.2.2.2.1.length c_15, .int .u64 r25.2.2.2.2.1, .int .u64 r25.2.2.2.2.2], ownC 5 (.int .u8) r25.2.2.2.1 (.slice A15 r25.2.2.2.1.length c_15), boxC b2 40 [.int .i64 r24.1.1, .slice A13 r24.1.2.1.length c_13, .int .i64 r24.1.2.2.1, .int .i64 r24.1.2.2.2]] _ _ := h81
                              refine J.condT rfl ?_
                              refine J.seq ?_
                              refine J.region ?_
                              refine RJ.run ttok 1 rfl ?_
                              refine RJ.fin [(6, .bool false)] rfl ?_
                              have h82 := h81.only [] rfl
                              replace h82 : St w0 F0 [] _ _ := h82
                              refine J.ret ?_
                              obtain rfl := Option.some.inj H
                              exact ⟨_, _, _, (results_slots rfl), ⟨rfl, rfl⟩, h82.only [] rfl⟩
                            · replace H := ite_f c25 H
                              refine HJ.know (t := 156) rfl (congrArg Value.bool c25) ?_
                              refine HJ.run ttok rfl [11, 13] rfl ?_
                              obtain ⟨r29, q28, H⟩ := bind_t H
                              refine HJ.op (i := 12) rfl rfl rfl rfl rfl (op_call [1, 1] (dev_Device_Blocks.spec q28) rfl rfl rfl h80 rfl gnil) ?_
                              rintro _ w48 ⟨_, ⟨rfl, rfl⟩, h83⟩
                              replace h83 : St w0 F0 [boxC b3 51 [.int .i64 r25.2.2.1, .slice A15 r25.2.2.2.1.length c_15, .int .u64 r25.2.2.2.2.1, .int .u64 r25.2.2.2.2.2], ownC 5 (.int .u8) r25.2.2.2.1 (.slice A15 r25.2.2.2.1.length c_15), ownC 5 (.int .u8) r27 (.slice A16 r27.length c_16), boxC b10 49 [.int .u64 r26.1, .int .u64 r26.2], ownC 5 (.int .u8) r25.1 (.slice A14 r25.1.length c_14), boxC b2 40 [.int .i64 r24.1.1, .slice A13 r24.1.2.1.length c_13, .int .i64 r24.1.2.2.1, .int .i64 r24.1.2.2.2]] _ _ := h83
                              refine ⟨⟨[], (h83.only [2, 2, 0, 0, 0, 0] rfl)⟩, ?_⟩
                              refine HJ.run ttok rfl [14, 15, 16] rfl ?_
                              rcases Bool.eq_false_or_eq_true (!decide (r29 = a0)) with c26 | c26
                              · replace H := ite_t c26 H
                                refine HJ.know (t := 162) rfl (congrArg Value.bool c26) ?_
                                refine HJ.run ttok rfl [17, 18, 19, 20, 21, 22, 23, 24, 25, 26, 27, 28, 29, 30, 31, 32] rfl ?_
                                refine HJ.fin [(0, .int .i64 a0), (1, .int .i64 a1), (2, .slice A1 a2.length c_1), (7, .pointer (some ⟨b3, 0, none⟩)), (9, .pointer (some ⟨b2, 0, none⟩)), (10, .int .i64 x9), (178, .bool true)] rfl rfl ?_
                                have h84 := h83.only [0, 0, 3] rfl
                                replace h84 : St w0 F0 [boxC b3 51 [.int .i64 r25.2.2.1, .slice A15 r25.2.2.2.1.length c_15, .int .u64 r25.2.2.2.2.1, .int .u64 r25.2.2.2.2.2], ownC 5 (.int .u8) r25.2.2.2.1 (.slice A15 r25.2.2.2.1.length c_15), boxC b2 40 [.int .i64 r24.1.1, .slice A13 r24.1.2.1.length c_13, .int .i64 r24.1.2.2.1, .int .i64 r24.1.2.2.2]] _ _ := h84
                                refine J.condT rfl ?_
                                refine J.seq ?_
                                refine J.region ?_
                                refine RJ.run ttok 1 rfl ?_
                                refine RJ.fin [(6, .bool false)] rfl ?_
                                have h85 := h84.only [] rfl
                                replace h85 : St w0 F0 [] _ _ := h85
                                refine J.ret ?_
                                obtain rfl := Option.some.inj H
                                exact ⟨_, _, _, (results_slots rfl), ⟨rfl, rfl⟩, h85.only [] rfl⟩
                              · replace H := ite_f c26 H
                                refine HJ.know (t := 162) rfl (congrArg Value.bool c26) ?_
                                refine HJ.run ttok rfl [17, 19] rfl ?_
                                obtain ⟨r30, q29, H⟩ := bind_t H
                                refine HJ.op (i := 18) rfl rfl rfl rfl rfl (op_call [0, 0] (dev_Device_Bytes.spec q29) rfl rfl rfl h83 rfl gnil) ?_
                                rintro _ w49 ⟨_, ⟨rfl, rfl⟩, h86⟩
                                replace h86 : St w0 F0 [boxC b3 51 [.int .i64 r25.2.2.1, .slice A15 r25.2.2.2.1.length c_15, .int .u64 r25.2.2.2.2.1, .int .u64 r25.2.2.2.2.2], ownC 5 (.int .u8) r25.2.2.2.1 (.slice A15 r25.2.2.2.1.length c_15), ownC 5 (.int .u8) r27 (.slice A16 r27.length c_16), boxC b10 49 [.int .u64 r26.1, .int .u64 r26.2], ownC 5 (.int .u8) r25.1 (.slice A14 r25.1.length c_14), boxC b2 40 [.int .i64 r24.1.1, .slice A13 r24.1.2.1.length c_13, .int .i64 r24.1.2.2.1, .int .i64 r24.1.2.2.2]] _ _ := h86
                                refine ⟨⟨[], (h86.only [2, 2, 0, 0, 0, 0] rfl)⟩, ?_⟩
                                refine HJ.run ttok rfl [20, 21, 22] rfl ?_
                                rcases Bool.eq_false_or_eq_true (!decide (r30 = a1)) with c27 | c27
                                · replace H := ite_t c27 H
                                  refine HJ.know (t := 168) rfl (congrArg Value.bool c27) ?_
                                  refine HJ.run ttok rfl [23, 24, 25, 26, 27, 28, 29, 30, 31, 32] rfl ?_
                                  refine HJ.fin [(0, .int .i64 a0), (1, .int .i64 a1), (2, .slice A1 a2.length c_1), (7, .pointer (some ⟨b3, 0, none⟩)), (9, .pointer (some ⟨b2, 0, none⟩)), (10, .int .i64 x9), (178, .bool true)] rfl rfl ?_
                                  have h87 := h86.only [0, 0, 3] rfl
                                  replace h87 : St w0 F0 [boxC b3 51 [.int .i64 r25.2.2.1, .slice A15 r25.2.2.2.1.length c_15, .int .u64 r25.2.2.2.2.1, .int .u64 r25.2.2.2.2.2], ownC 5 (.int .u8) r25.2.2.2.1 (.slice A15 r25.2.2.2.1.length c_15), boxC b2 40 [.int .i64 r24.1.1, .slice A13 r24.1.2.1.length c_13, .int .i64 r24.1.2.2.1, .int .i64 r24.1.2.2.2]] _ _ := h87
                                  refine J.condT rfl ?_
                                  refine J.seq ?_
                                  refine J.region ?_
                                  refine RJ.run ttok 1 rfl ?_
                                  refine RJ.fin [(6, .bool false)] rfl ?_
                                  have h88 := h87.only [] rfl
                                  replace h88 : St w0 F0 [] _ _ := h88
                                  refine J.ret ?_
                                  obtain rfl := Option.some.inj H
                                  exact ⟨_, _, _, (results_slots rfl), ⟨rfl, rfl⟩, h88.only [] rfl⟩
                                · replace H := ite_f c27 H
                                  refine HJ.know (t := 168) rfl (congrArg Value.bool c27) ?_
                                  refine HJ.run ttok rfl [24, 27] rfl ?_
                                  refine HJ.q (i := 23) rfl rfl rfl rfl rfl rfl (q_load_box ttok 1 (fun w e => e) rfl rfl rfl rfl rfl) ?_
                                  refine HJ.q (i := 25) rfl rfl rfl rfl rfl rfl (q_load_box ttok 5 (fun w e => e) rfl rfl rfl rfl rfl) ?_
                                  refine HJ.run ttok rfl [26] rfl ?_
                                  refine HJ.q (i := 28) rfl rfl rfl rfl rfl rfl (q_load_box ttok 5 (fun w e => e) rfl rfl rfl rfl rfl) ?_
                                  refine HJ.run ttok rfl [29, 30, 31, 32] rfl ?_
                                  refine HJ.fin [(0, .int .i64 a0), (1, .int .i64 a1), (2, .slice A1 a2.length c_1), (7, .pointer (some ⟨b3, 0, none⟩)), (9, .pointer (some ⟨b2, 0, none⟩)), (10, .int .i64 x9), (178, .bool (!((decide (r26.1 = (IntKind.u64.wrap (r24.1.2.2.1)))) && ((decide (r26.2 = (IntKind.u64.wrap (r24.1.2.2.2)))) && true))))] rfl rfl ?_
                                  have h89 := h86.only [0, 0, 3] rfl
                                  replace h89 : St w0 F0 [boxC b3 51 [.int .i64 r25.2.2.1, .slice A15 r25.2.2.2.1.length c_15, .int .u64 r25.2.2.2.2.1, .int .u64 r25.2.2.2.2.2], ownC 5 (.int .u8) r25.2.2.2.1 (.slice A15 r25.2.2.2.1.length c_15), boxC b2 40 [.int .i64 r24.1.1, .slice A13 r24.1.2.1.length c_13, .int .i64 r24.1.2.2.1, .int .i64 r24.1.2.2.2]] _ _ := h89
                                  refine J.cond rfl (fun c28 => ?_) (fun c28 => ?_)
                                  · replace H := ite_t c28 H
                                    refine J.seq ?_
                                    refine J.region ?_
                                    refine RJ.run ttok 1 rfl ?_
                                    refine RJ.fin [(6, .bool false)] rfl ?_
                                    have h90 := h89.only [] rfl
                                    replace h90 : St w0 F0 [] _ _ := h90
                                    refine J.ret ?_
                                    obtain rfl := Option.some.inj H
                                    exact ⟨_, _, _, (results_slots rfl), ⟨rfl, rfl⟩, h90.only [] rfl⟩
                                  · replace H := ite_f c28 H
                                    refine J.skip ?_
                                    refine J.region ?_
                                    refine RJ.run ttok 3 rfl ?_
                                    refine RJ.fin [(0, .int .i64 a0), (1, .int .i64 a1), (2, .slice A1 a2.length c_1), (7, .pointer (some ⟨b3, 0, none⟩)), (9, .pointer (some ⟨b2, 0, none⟩)), (10, .int .i64 (w64 (x9 + 1)))] rfl ?_
                                    have h91 := ((h89.only [0, 1, 0] rfl).rds [7, 0] rfl)
                                    exact ⟨k1, by omega, b3, r25.2.2.1, r25.2.2.2.1, A15, c_15, r25.2.2.2.2.1, r25.2.2.2.2.2, r24.1.1, r24.1.2.1, A13, c_13, r24.1.2.2.1, r24.1.2.2.2, (w64 (x9 + 1)), rfl, h91, H⟩
                        · replace H := ite_f c23 H
                          refine RJ.know (t := 121) rfl (congrArg Value.bool c23) ?_
                          refine RJ.run ttok 5 rfl ?_
                          refine RJ.fin [(0, .int .i64 a0), (1, .int .i64 a1), (2, .slice A1 a2.length c_1), (7, .pointer (some ⟨b3, 0, none⟩)), (9, .pointer (some ⟨b2, 0, none⟩)), (10, .int .i64 x9), (12, .bool false)] rfl ?_
                          refine J.seq ?_
                          refine J.region ?_
                          refine RJ.run ttok 1 rfl ?_
                          obtain ⟨r31, q30, H⟩ := bind_t H
                          refine RJ.op rfl rfl (op_call [1, 1] (dev_Device_Stats.spec q30) rfl rfl rfl h72 rfl gnil) ?_
                          rintro _ w50 ⟨_, ⟨rfl, rfl⟩, h92⟩
                          replace h92 : St w0 F0 [boxC b3 51 [.int .i64 r25.2.2.1, .slice A15 r25.2.2.2.1.length c_15, .int .u64 r25.2.2.2.2.1, .int .u64 r25.2.2.2.2.2], ownC 5 (.int .u8) r25.2.2.2.1 (.slice A15 r25.2.2.2.1.length c_15), ownC 5 (.int .u8) r25.1 (.slice A14 r25.1.length c_14), boxC b2 40 [.int .i64 r24.1.1, .slice A13 r24.1.2.1.length c_13, .int .i64 r24.1.2.2.1, .int .i64 r24.1.2.2.2]] _ _ := h92
                          refine RJ.op rfl rfl (op_alloc ttok rfl rfl h92) ?_
                          rintro _ w51 ⟨b11, rfl, h93⟩
                          replace h93 : St w0 F0 [boxC b11 49 [.int .u64 0, .int .u64 0], boxC b3 51 [.int .i64 r25.2.2.1, .slice A15 r25.2.2.2.1.length c_15, .int .u64 r25.2.2.2.2.1, .int .u64 r25.2.2.2.2.2], ownC 5 (.int .u8) r25.2.2.2.1 (.slice A15 r25.2.2.2.1.length c_15), ownC 5 (.int .u8) r25.1 (.slice A14 r25.1.length c_14), boxC b2 40 [.int .i64 r24.1.1, .slice A13 r24.1.2.1.length c_13, .int .i64 r24.1.2.2.1, .int .i64 r24.1.2.2.2]] _ _ := h93
                          refine RJ.op rfl rfl (op_store ttok 0 rfl h93 rfl rfl rfl rfl rfl rfl rfl) ?_
                          intro _ w52 h94
                          replace h94 : St w0 F0 [boxC b11 49 [.int .u64 r31.1, .int .u64 r31.2], boxC b3 51 [.int .i64 r25.2.2.1, .slice A15 r25.2.2.2.1.length c_15, .int .u64 r25.2.2.2.2.1, .int .u64 r25.2.2.2.2.2], ownC 5 (.int .u8) r25.2.2.2.1 (.slice A15 r25.2.2.2.1.length c_15), ownC 5 (.int .u8) r25.1 (.slice A14 r25.1.length c_14), boxC b2 40 [.int .i64 r24.1.1, .slice A13 r24.1.2.1.length c_13, .int .i64 r24.1.2.2.1, .int .i64 r24.1.2.2.2]] _ _ := h94
                          refine RJ.fin [(0, .int .i64 a0), (1, .int .i64 a1), (2, .slice A1 a2.length c_1), (7, .pointer (some ⟨b3, 0, none⟩)), (9, .pointer (some ⟨b2, 0, none⟩)), (10, .int .i64 x9), (12, .bool false), (22, .pointer (some ⟨b11, 0, none⟩))] rfl ?_
                          refine J.seq ?_
                          refine J.heldSt mix h94 ?_
                          have h95 := h94.drew
                          refine HJ.run ttok rfl [0, 1, 2, 3, 4, 5, 6, 7, 8, 9, 10, 11, 12, 13, 14, 15, 16, 17, 18, 19, 20, 21, 22, 23, 24, 25, 26, 27, 28, 29, 30, 31, 32] rfl ?_
                          refine HJ.fin [(0, .int .i64 a0), (1, .int .i64 a1), (2, .slice A1 a2.length c_1), (7, .pointer (some ⟨b3, 0, none⟩)), (9, .pointer (some ⟨b2, 0, none⟩)), (10, .int .i64 x9), (178, .bool true)] rfl rfl ?_
                          have h96 := h95.only [1, 1, 2] rfl
                          replace h96 : St w0 F0 [boxC b3 51 [.int .i64 r25.2.2.1, .slice A15 r25.2.2.2.1.length c_15, .int .u64 r25.2.2.2.2.1, .int .u64 r25.2.2.2.2.2], ownC 5 (.int .u8) r25.2.2.2.1 (.slice A15 r25.2.2.2.1.length c_15), boxC b2 40 [.int .i64 r24.1.1, .slice A13 r24.1.2.1.length c_13, .int .i64 r24.1.2.2.1, .int .i64 r24.1.2.2.2]] _ _ := h96
                          refine J.condT rfl ?_
                          refine J.seq ?_
                          refine J.region ?_
                          refine RJ.run ttok 1 rfl ?_
                          refine RJ.fin [(6, .bool false)] rfl ?_
                          have h97 := h96.only [] rfl
                          replace h97 : St w0 F0 [] _ _ := h97
                          refine J.ret ?_
                          obtain rfl := Option.some.inj H
                          exact ⟨_, _, _, (results_slots rfl), ⟨rfl, rfl⟩, h97.only [] rfl⟩
                      · replace H := ite_f c22 H
                        refine J.seq ?_
                        refine J.region ?_
                        refine RJ.run ttok 2 rfl ?_
                        refine RJ.fin [(0, .int .i64 a0), (1, .int .i64 a1), (2, .slice A1 a2.length c_1), (7, .pointer (some ⟨b3, 0, none⟩)), (9, .pointer (some ⟨b2, 0, none⟩)), (10, .int .i64 x9), (12, .bool true), (126, .bool (decide (((gt a2 x9).1) = 3)))] rfl ?_
                        refine J.cond rfl (fun c29 => ?_) (fun c29 => ?_)
                        · replace H := ite_t c29 H
                          refine J.seq ?_
                          refine J.region ?_
                          refine RJ.run ttok 2 rfl ?_
                          obtain ⟨r32, q31, H⟩ := bind_t H
                          refine RJ.op rfl rfl (op_call [1, 2] (dev_Device_Image.spec q31) rfl rfl rfl h18 rfl gnil) ?_
                          rintro _ w53 ⟨_, ⟨A17, c_17, rfl, rfl⟩, h98⟩
                          replace h98 : St w0 F0 [ownC 5 (.int .u8) r32 (.slice A17 r32.length c_17), boxC b3 51 [.int .i64 x1, .slice A4 x2.length c_4, .int .u64 x3, .int .u64 x4], ownC 5 (.int .u8) x2 (.slice A4 x2.length c_4), boxC b4 30 [.int .i64 ((gt a2 x9).1), .int .u32 ((gt a2 x9).2.1), .slice A6 ((gt a2 x9).2.2).length c_6], boxC b2 40 [.int .i64 x5, .slice A5 x6.length c_5, .int .i64 x7, .int .i64 x8]] _ _ := h98
                          obtain ⟨r33, q32, H⟩ := bind_t H
                          refine RJ.op rfl rfl (op_call [] (dev_From.spec q32) rfl rfl rfl h98 rfl (gcons (Gives.of 0 rfl own_rd) gnil)) ?_
                          rintro _ w54 ⟨_, ⟨v2, l2, ho3, rfl, rfl⟩, h99⟩
                          rcases ho4 : r33.1 with _ | r34
                          · rw [ho4] at ho3
                            obtain ⟨rfl, rfl⟩ := ho3
                            replace H := ocase_n ho4 H
                            replace h99 : St w0 F0 [ownC 5 (.int .u8) r32 (.slice A17 r32.length c_17), boxC b3 51 [.int .i64 x1, .slice A4 x2.length c_4, .int .u64 x3, .int .u64 x4], ownC 5 (.int .u8) x2 (.slice A4 x2.length c_4), boxC b4 30 [.int .i64 ((gt a2 x9).1), .int .u32 ((gt a2 x9).2.1), .slice A6 ((gt a2 x9).2.2).length c_6], boxC b2 40 [.int .i64 x5, .slice A5 x6.length c_5, .int .i64 x7, .int .i64 x8]] _ _ := h99
                            refine RJ.run ttok 5 rfl ?_
                            refine RJ.fin [(0, .int .i64 a0), (1, .int .i64 a1), (2, .slice A1 a2.length c_1), (9, .pointer (some ⟨b2, 0, none⟩)), (10, .int .i64 x9), (12, .bool true), (20, .pointer none), (21, .int .i64 r33.2)] rfl ?_
                            have h100 := h99.only [4] rfl
                            replace h100 : St w0 F0 [boxC b2 40 [.int .i64 x5, .slice A5 x6.length c_5, .int .i64 x7, .int .i64 x8]] _ _ := h100
                            refine J.seq ?_
                            refine J.seq ?_
                            refine J.region ?_
                            refine RJ.run ttok 3 rfl ?_
                            rcases Bool.eq_false_or_eq_true (!decide (r33.2 = 0)) with c30 | c30
                            · replace H := ite_t c30 H
                              refine RJ.know (t := 137) rfl (congrArg Value.bool c30) ?_
                              refine RJ.run ttok 3 rfl ?_
                              refine RJ.fin [(0, .int .i64 a0), (1, .int .i64 a1), (2, .slice A1 a2.length c_1), (9, .pointer (some ⟨b2, 0, none⟩)), (10, .int .i64 x9), (12, .bool true), (20, .pointer none), (140, .bool true)] rfl ?_
                              refine J.condT rfl ?_
                              refine J.seq ?_
                              refine J.region ?_
                              refine RJ.run ttok 1 rfl ?_
                              refine RJ.fin [(6, .bool false)] rfl ?_
                              refine J.ret ?_
                              obtain rfl := Option.some.inj H
                              exact ⟨_, _, _, (results_slots rfl), ⟨rfl, rfl⟩, h100.only [] rfl⟩
                            · replace H := ite_f c30 H
                              refine RJ.know (t := 137) rfl (congrArg Value.bool c30) ?_
                              refine RJ.run ttok 3 rfl ?_
                              refine RJ.fin [(0, .int .i64 a0), (1, .int .i64 a1), (2, .slice A1 a2.length c_1), (9, .pointer (some ⟨b2, 0, none⟩)), (10, .int .i64 x9), (12, .bool true), (20, .pointer none), (140, .bool true)] rfl ?_
                              refine J.condT rfl ?_
                              refine J.seq ?_
                              refine J.region ?_
                              refine RJ.run ttok 1 rfl ?_
                              refine RJ.fin [(6, .bool false)] rfl ?_
                              refine J.ret ?_
                              obtain rfl := Option.some.inj H
                              exact ⟨_, _, _, (results_slots rfl), ⟨rfl, rfl⟩, h100.only [] rfl⟩
                          · rw [ho4] at ho3
                            obtain ⟨b12, A18, c_18, rfl, rfl⟩ := ho3
                            replace H := ocase_s ho4 H
                            replace h99 : St w0 F0 [boxC b12 51 [.int .i64 r34.1, .slice A18 r34.2.1.length c_18, .int .u64 r34.2.2.1, .int .u64 r34.2.2.2], ownC 5 (.int .u8) r34.2.1 (.slice A18 r34.2.1.length c_18), ownC 5 (.int .u8) r32 (.slice A17 r32.length c_17), boxC b3 51 [.int .i64 x1, .slice A4 x2.length c_4, .int .u64 x3, .int .u64 x4], ownC 5 (.int .u8) x2 (.slice A4 x2.length c_4), boxC b4 30 [.int .i64 ((gt a2 x9).1), .int .u32 ((gt a2 x9).2.1), .slice A6 ((gt a2 x9).2.2).length c_6], boxC b2 40 [.int .i64 x5, .slice A5 x6.length c_5, .int .i64 x7, .int .i64 x8]] _ _ := h99
                            refine RJ.run ttok 5 rfl ?_
                            refine RJ.fin [(0, .int .i64 a0), (1, .int .i64 a1), (2, .slice A1 a2.length c_1), (9, .pointer (some ⟨b2, 0, none⟩)), (10, .int .i64 x9), (12, .bool true), (20, .pointer (some ⟨b12, 0, none⟩)), (21, .int .i64 r33.2)] rfl ?_
                            have h101 := h99.only [0, 0, 4] rfl
                            replace h101 : St w0 F0 [boxC b12 51 [.int .i64 r34.1, .slice A18 r34.2.1.length c_18, .int .u64 r34.2.2.1, .int .u64 r34.2.2.2], ownC 5 (.int .u8) r34.2.1 (.slice A18 r34.2.1.length c_18), boxC b2 40 [.int .i64 x5, .slice A5 x6.length c_5, .int .i64 x7, .int .i64 x8]] _ _ := h101
                            refine J.seq ?_
                            refine J.seq ?_
                            refine J.region ?_
                            refine RJ.run ttok 3 rfl ?_
                            rcases Bool.eq_false_or_eq_true (!decide (r33.2 = 0)) with c31 | c31
                            · replace H := ite_t c31 H
                              refine RJ.know (t := 137) rfl (congrArg Value.bool c31) ?_
                              refine RJ.run ttok 3 rfl ?_
                              refine RJ.fin [(0, .int .i64 a0), (1, .int .i64 a1), (2, .slice A1 a2.length c_1), (9, .pointer (some ⟨b2, 0, none⟩)), (10, .int .i64 x9), (12, .bool true), (20, .pointer (some ⟨b12, 0, none⟩)), (140, .bool true)] rfl ?_
                              refine J.condT rfl ?_
                              refine J.seq ?_
                              refine J.region ?_
                              refine RJ.run ttok 1 rfl ?_
                              refine RJ.fin [(6, .bool false)] rfl ?_
                              have h102 := h101.only [] rfl
                              replace h102 : St w0 F0 [] _ _ := h102
                              refine J.ret ?_
                              obtain rfl := Option.some.inj H
                              exact ⟨_, _, _, (results_slots rfl), ⟨rfl, rfl⟩, h102.only [] rfl⟩
                            · replace H := ite_f c31 H
                              refine RJ.know (t := 137) rfl (congrArg Value.bool c31) ?_
                              refine RJ.run ttok 3 rfl ?_
                              refine RJ.fin [(0, .int .i64 a0), (1, .int .i64 a1), (2, .slice A1 a2.length c_1), (9, .pointer (some ⟨b2, 0, none⟩)), (10, .int .i64 x9), (12, .bool true), (20, .pointer (some ⟨b12, 0, none⟩)), (140, .bool false)] rfl ?_
                              refine J.condF rfl ?_
                              refine J.skip ?_
                              refine J.seq ?_
                              refine J.region ?_
                              refine RJ.run ttok 2 rfl ?_
                              refine RJ.fin [(0, .int .i64 a0), (1, .int .i64 a1), (2, .slice A1 a2.length c_1), (7, .pointer (some ⟨b12, 0, none⟩)), (9, .pointer (some ⟨b2, 0, none⟩)), (10, .int .i64 x9), (12, .bool true)] rfl ?_
                              refine J.region ?_
                              refine RJ.run ttok 1 rfl ?_
                              refine RJ.op rfl rfl (op_store ttok 2 rfl h101 rfl rfl rfl rfl rfl rfl rfl) ?_
                              intro _ w55 h103
                              replace h103 : St w0 F0 [boxC b2 40 [.int .i64 x5, .slice A5 x6.length c_5, .int .i64 0, .int .i64 x8], boxC b12 51 [.int .i64 r34.1, .slice A18 r34.2.1.length c_18, .int .u64 r34.2.2.1, .int .u64 r34.2.2.2], ownC 5 (.int .u8) r34.2.1 (.slice A18 r34.2.1.length c_18)] _ _ := h103
                              refine RJ.run ttok 1 rfl ?_
                              refine RJ.op rfl rfl (op_store ttok 0 rfl h103 rfl rfl rfl rfl rfl rfl rfl) ?_
                              intro _ w56 h104
                              replace h104 : St w0 F0 [boxC b2 40 [.int .i64 x5, .slice A5 x6.length c_5, .int .i64 0, .int .i64 0], boxC b12 51 [.int .i64 r34.1, .slice A18 r34.2.1.length c_18, .int .u64 r34.2.2.1, .int .u64 r34.2.2.2], ownC 5 (.int .u8) r34.2.1 (.slice A18 r34.2.1.length c_18)] _ _ := h104
                              refine RJ.fin [(0, .int .i64 a0), (1, .int .i64 a1), (2, .slice A1 a2.length c_1), (7, .pointer (some ⟨b12, 0, none⟩)), (9, .pointer (some ⟨b2, 0, none⟩)), (10, .int .i64 x9), (12, .bool true)] rfl ?_
                              refine J.seq ?_
                              refine J.region ?_
                              refine RJ.run ttok 1 rfl ?_
                              obtain ⟨r35, q33, H⟩ := bind_t H
                              refine RJ.op rfl rfl (op_call [1, 1] (dev_Device_Stats.spec q33) rfl rfl rfl h104 rfl gnil) ?_
                              rintro _ w57 ⟨_, ⟨rfl, rfl⟩, h105⟩
                              replace h105 : St w0 F0 [boxC b12 51 [.int .i64 r34.1, .slice A18 r34.2.1.length c_18, .int .u64 r34.2.2.1, .int .u64 r34.2.2.2], ownC 5 (.int .u8) r34.2.1 (.slice A18 r34.2.1.length c_18), boxC b2 40 [.int .i64 x5, .slice A5 x6.length c_5, .int .i64 0, .int .i64 0]] _ _ := h105
                              refine RJ.op rfl rfl (op_alloc ttok rfl rfl h105) ?_
                              rintro _ w58 ⟨b13, rfl, h106⟩
                              replace h106 : St w0 F0 [boxC b13 49 [.int .u64 0, .int .u64 0], boxC b12 51 [.int .i64 r34.1, .slice A18 r34.2.1.length c_18, .int .u64 r34.2.2.1, .int .u64 r34.2.2.2], ownC 5 (.int .u8) r34.2.1 (.slice A18 r34.2.1.length c_18), boxC b2 40 [.int .i64 x5, .slice A5 x6.length c_5, .int .i64 0, .int .i64 0]] _ _ := h106
                              refine RJ.op rfl rfl (op_store ttok 0 rfl h106 rfl rfl rfl rfl rfl rfl rfl) ?_
                              intro _ w59 h107
                              replace h107 : St w0 F0 [boxC b13 49 [.int .u64 r35.1, .int .u64 r35.2], boxC b12 51 [.int .i64 r34.1, .slice A18 r34.2.1.length c_18, .int .u64 r34.2.2.1, .int .u64 r34.2.2.2], ownC 5 (.int .u8) r34.2.1 (.slice A18 r34.2.1.length c_18), boxC b2 40 [.int .i64 x5, .slice A5 x6.length c_5, .int .i64 0, .int .i64 0]] _ _ := h107
                              refine RJ.fin [(0, .int .i64 a0), (1, .int .i64 a1), (2, .slice A1 a2.length c_1), (7, .pointer (some ⟨b12, 0, none⟩)), (9, .pointer (some ⟨b2, 0, none⟩)), (10, .int .i64 x9), (12, .bool true), (22, .pointer (some ⟨b13, 0, none⟩))] rfl ?_
                              refine J.seq ?_
                              refine J.heldSt mix h107 ?_
                              have h108 := h107.drew
                              refine HJ.run ttok rfl [0, 1, 2, 3] rfl ?_
                              refine HJ.q (i := 6) rfl rfl rfl rfl rfl rfl (q_load_box ttok 3 (fun w e => e) rfl rfl rfl rfl rfl) ?_
                              obtain ⟨r36, q34, H⟩ := bind_t H
                              refine HJ.op (i := 4) rfl rfl rfl rfl rfl (op_call [1, 1] (dev_Device_Image.spec q34) rfl rfl rfl h108 rfl gnil) ?_
                              rintro _ w60 ⟨_, ⟨A19, c_19, rfl, rfl⟩, h109⟩
                              replace h109 : St w0 F0 [ownC 5 (.int .u8) r36 (.slice A19 r36.length c_19), boxC b12 51 [.int .i64 r34.1, .slice A18 r34.2.1.length c_18, .int .u64 r34.2.2.1, .int .u64 r34.2.2.2], ownC 5 (.int .u8) r34.2.1 (.slice A18 r34.2.1.length c_18), boxC b13 49 [.int .u64 r35.1, .int .u64 r35.2], boxC b2 40 [.int .i64 x5, .slice A5 x6.length c_5, .int .i64 0, .int .i64 0]] _ _ := h109
                              refine ⟨⟨[_], (h109.only [0, 2, 0, 0, 0] rfl)⟩, ?_⟩
                              refine HJ.more ⟨[], (h109.only [0, 2, 0, 0, 0] rfl)⟩ ?_
                              refine HJ.q (i := 5) rfl rfl rfl rfl rfl rfl (q_tostr ttok (fun w e => e) (Gives.of 0 rfl own_rd) rfl rfl rfl rfl rfl) ?_
                              obtain ⟨r37, q35, H⟩ := bind_t H
                              refine HJ.op (i := 7) rfl rfl rfl rfl rfl (op_call [] (sluicegateref06_Image.spec q35) rfl rfl rfl h109 rfl (gcons (Gives.self 12 rfl) gnil)) ?_
                              rintro _ w61 ⟨_, ⟨rfl, rfl⟩, h110⟩
                              replace h110 : St w0 F0 [ownC 5 (.int .u8) r36 (.slice A19 r36.length c_19), boxC b12 51 [.int .i64 r34.1, .slice A18 r34.2.1.length c_18, .int .u64 r34.2.2.1, .int .u64 r34.2.2.2], ownC 5 (.int .u8) r34.2.1 (.slice A18 r34.2.1.length c_18), boxC b13 49 [.int .u64 r35.1, .int .u64 r35.2], boxC b2 40 [.int .i64 x5, .slice A5 x6.length c_5, .int .i64 0, .int .i64 0]] _ _ := h110
                              refine ⟨⟨[], (h110.only [0, 2, 0, 0, 0] rfl)⟩, ?_⟩
                              refine HJ.run ttok rfl [8, 9, 10] rfl ?_
                              rcases Bool.eq_false_or_eq_true (!decide ((toS r36) = r37)) with c32 | c32
                              · replace H := ite_t c32 H
                                refine HJ.know (t := 156) rfl (congrArg Value.bool c32) ?_
                                refine HJ.run ttok rfl [11, 12, 13, 14, 15, 16, 17, 18, 19, 20, 21, 22, 23, 24, 25, 26, 27, 28, 29, 30, 31, 32] rfl ?_
                                refine HJ.fin [(0, .int .i64 a0), (1, .int .i64 a1), (2, .slice A1 a2.length c_1), (7, .pointer (some ⟨b12, 0, none⟩)), (9, .pointer (some ⟨b2, 0, none⟩)), (10, .int .i64 x9), (178, .bool true)] rfl rfl ?_
                                have h111 := h110.only [1, 1, 2] rfl
                                replace h111 : St w0 F0 [boxC b12 51 [.int .i64 r34.1, .slice A18 r34.2.1.length c_18, .int .u64 r34.2.2.1, .int .u64 r34.2.2.2], ownC 5 (.int .u8) r34.2.1 (.slice A18 r34.2.1.length c_18), boxC b2 40 [.int .i64 x5, .slice A5 x6.length c_5, .int .i64 0, .int .i64 0]] _ _ := h111
                                refine J.condT rfl ?_
                                refine J.seq ?_
                                refine J.region ?_
                                refine RJ.run ttok 1 rfl ?_
                                refine RJ.fin [(6, .bool false)] rfl ?_
                                have h112 := h111.only [] rfl
                                replace h112 : St w0 F0 [] _ _ := h112
                                refine J.ret ?_
                                obtain rfl := Option.some.inj H
                                exact ⟨_, _, _, (results_slots rfl), ⟨rfl, rfl⟩, h112.only [] rfl⟩
                              · replace H := ite_f c32 H
                                refine HJ.know (t := 156) rfl (congrArg Value.bool c32) ?_
                                refine HJ.run ttok rfl [11, 13] rfl ?_
                                obtain ⟨r38, q36, H⟩ := bind_t H
                                refine HJ.op (i := 12) rfl rfl rfl rfl rfl (op_call [1, 1] (dev_Device_Blocks.spec q36) rfl rfl rfl h110 rfl gnil) ?_
                                rintro _ w62 ⟨_, ⟨rfl, rfl⟩, h113⟩
                                replace h113 : St w0 F0 [boxC b12 51 [.int .i64 r34.1, .slice A18 r34.2.1.length c_18, .int .u64 r34.2.2.1, .int .u64 r34.2.2.2], ownC 5 (.int .u8) r34.2.1 (.slice A18 r34.2.1.length c_18), ownC 5 (.int .u8) r36 (.slice A19 r36.length c_19), boxC b13 49 [.int .u64 r35.1, .int .u64 r35.2], boxC b2 40 [.int .i64 x5, .slice A5 x6.length c_5, .int .i64 0, .int .i64 0]] _ _ := h113
                                refine ⟨⟨[], (h113.only [2, 2, 0, 0, 0] rfl)⟩, ?_⟩
                                refine HJ.run ttok rfl [14, 15, 16] rfl ?_
                                rcases Bool.eq_false_or_eq_true (!decide (r38 = a0)) with c33 | c33
                                · replace H := ite_t c33 H
                                  refine HJ.know (t := 162) rfl (congrArg Value.bool c33) ?_
                                  refine HJ.run ttok rfl [17, 18, 19, 20, 21, 22, 23, 24, 25, 26, 27, 28, 29, 30, 31, 32] rfl ?_
                                  refine HJ.fin [(0, .int .i64 a0), (1, .int .i64 a1), (2, .slice A1 a2.length c_1), (7, .pointer (some ⟨b12, 0, none⟩)), (9, .pointer (some ⟨b2, 0, none⟩)), (10, .int .i64 x9), (178, .bool true)] rfl rfl ?_
                                  have h114 := h113.only [0, 0, 2] rfl
                                  replace h114 : St w0 F0 [boxC b12 51 [.int .i64 r34.1, .slice A18 r34.2.1.length c_18, .int .u64 r34.2.2.1, .int .u64 r34.2.2.2], ownC 5 (.int .u8) r34.2.1 (.slice A18 r34.2.1.length c_18), boxC b2 40 [.int .i64 x5, .slice A5 x6.length c_5, .int .i64 0, .int .i64 0]] _ _ := h114
                                  refine J.condT rfl ?_
                                  refine J.seq ?_
                                  refine J.region ?_
                                  refine RJ.run ttok 1 rfl ?_
                                  refine RJ.fin [(6, .bool false)] rfl ?_
                                  have h115 := h114.only [] rfl
                                  replace h115 : St w0 F0 [] _ _ := h115
                                  refine J.ret ?_
                                  obtain rfl := Option.some.inj H
                                  exact ⟨_, _, _, (results_slots rfl), ⟨rfl, rfl⟩, h115.only [] rfl⟩
                                · replace H := ite_f c33 H
                                  refine HJ.know (t := 162) rfl (congrArg Value.bool c33) ?_
                                  refine HJ.run ttok rfl [17, 19] rfl ?_
                                  obtain ⟨r39, q37, H⟩ := bind_t H
                                  refine HJ.op (i := 18) rfl rfl rfl rfl rfl (op_call [0, 0] (dev_Device_Bytes.spec q37) rfl rfl rfl h113 rfl gnil) ?_
                                  rintro _ w63 ⟨_, ⟨rfl, rfl⟩, h116⟩
                                  replace h116 : St w0 F0 [boxC b12 51 [.int .i64 r34.1, .slice A18 r34.2.1.length c_18, .int .u64 r34.2.2.1, .int .u64 r34.2.2.2], ownC 5 (.int .u8) r34.2.1 (.slice A18 r34.2.1.length c_18), ownC 5 (.int .u8) r36 (.slice A19 r36.length c_19), boxC b13 49 [.int .u64 r35.1, .int .u64 r35.2], boxC b2 40 [.int .i64 x5, .slice A5 x6.length c_5, .int .i64 0, .int .i64 0]] _ _ := h116
                                  refine ⟨⟨[], (h116.only [2, 2, 0, 0, 0] rfl)⟩, ?_⟩
                                  refine HJ.run ttok rfl [20, 21, 22] rfl ?_
                                  rcases Bool.eq_false_or_eq_true (!decide (r39 = a1)) with c34 | c34
                                  · replace H := ite_t c34 H
                                    refine HJ.know (t := 168) rfl (congrArg Value.bool c34) ?_
                                    refine HJ.run ttok rfl [23, 24, 25, 26, 27, 28, 29, 30, 31, 32] rfl ?_
                                    refine HJ.fin [(0, .int .i64 a0), (1, .int .i64 a1), (2, .slice A1 a2.length c_1), (7, .pointer (some ⟨b12, 0, none⟩)), (9, .pointer (some ⟨b2, 0, none⟩)), (10, .int .i64 x9), (178, .bool true)] rfl rfl ?_
                                    have h117 := h116.only [0, 0, 2] rfl
                                    replace h117 : St w0 F0 [boxC b12 51 [.int .i64 r34.1, .slice A18 r34.2.1.length c_18, .int .u64 r34.2.2.1, .int .u64 r34.2.2.2], ownC 5 (.int .u8) r34.2.1 (.slice A18 r34.2.1.length c_18), boxC b2 40 [.int .i64 x5, .slice A5 x6.length c_5, .int .i64 0, .int .i64 0]] _ _ := h117
                                    refine J.condT rfl ?_
                                    refine J.seq ?_
                                    refine J.region ?_
                                    refine RJ.run ttok 1 rfl ?_
                                    refine RJ.fin [(6, .bool false)] rfl ?_
                                    have h118 := h117.only [] rfl
                                    replace h118 : St w0 F0 [] _ _ := h118
                                    refine J.ret ?_
                                    obtain rfl := Option.some.inj H
                                    exact ⟨_, _, _, (results_slots rfl), ⟨rfl, rfl⟩, h118.only [] rfl⟩
                                  · replace H := ite_f c34 H
                                    refine HJ.know (t := 168) rfl (congrArg Value.bool c34) ?_
                                    refine HJ.run ttok rfl [24, 27] rfl ?_
                                    refine HJ.q (i := 23) rfl rfl rfl rfl rfl rfl (q_load_box ttok 1 (fun w e => e) rfl rfl rfl rfl rfl) ?_
                                    refine HJ.q (i := 25) rfl rfl rfl rfl rfl rfl (q_load_box ttok 4 (fun w e => e) rfl rfl rfl rfl rfl) ?_
                                    refine HJ.run ttok rfl [26] rfl ?_
                                    refine HJ.q (i := 28) rfl rfl rfl rfl rfl rfl (q_load_box ttok 4 (fun w e => e) rfl rfl rfl rfl rfl) ?_
                                    refine HJ.run ttok rfl [29, 30, 31, 32] rfl ?_
                                    refine HJ.fin [(0, .int .i64 a0), (1, .int .i64 a1), (2, .slice A1 a2.length c_1), (7, .pointer (some ⟨b12, 0, none⟩)), (9, .pointer (some ⟨b2, 0, none⟩)), (10, .int .i64 x9), (178, .bool (!((decide (r35.1 = 0)) && ((decide (r35.2 = 0)) && true))))] rfl rfl ?_
                                    have h119 := h116.only [0, 0, 2] rfl
                                    replace h119 : St w0 F0 [boxC b12 51 [.int .i64 r34.1, .slice A18 r34.2.1.length c_18, .int .u64 r34.2.2.1, .int .u64 r34.2.2.2], ownC 5 (.int .u8) r34.2.1 (.slice A18 r34.2.1.length c_18), boxC b2 40 [.int .i64 x5, .slice A5 x6.length c_5, .int .i64 0, .int .i64 0]] _ _ := h119
                                    refine J.cond rfl (fun c35 => ?_) (fun c35 => ?_)
                                    · replace H := ite_t c35 H
                                      refine J.seq ?_
                                      refine J.region ?_
                                      refine RJ.run ttok 1 rfl ?_
                                      refine RJ.fin [(6, .bool false)] rfl ?_
                                      have h120 := h119.only [] rfl
                                      replace h120 : St w0 F0 [] _ _ := h120
                                      refine J.ret ?_
                                      obtain rfl := Option.some.inj H
                                      exact ⟨_, _, _, (results_slots rfl), ⟨rfl, rfl⟩, h120.only [] rfl⟩
                                    · replace H := ite_f c35 H
                                      refine J.skip ?_
                                      refine J.region ?_
                                      refine RJ.run ttok 3 rfl ?_
                                      refine RJ.fin [(0, .int .i64 a0), (1, .int .i64 a1), (2, .slice A1 a2.length c_1), (7, .pointer (some ⟨b12, 0, none⟩)), (9, .pointer (some ⟨b2, 0, none⟩)), (10, .int .i64 (w64 (x9 + 1)))] rfl ?_
                                      have h121 := ((h119.only [0, 1, 0] rfl).rds [6, 7] rfl)
                                      exact ⟨k1, by omega, b12, r34.1, r34.2.1, A18, c_18, r34.2.2.1, r34.2.2.2, x5, x6, A5, c_5, 0, 0, (w64 (x9 + 1)), rfl, h121, H⟩
                        · replace H := ite_f c29 H
                          refine J.skip ?_
                          refine J.seq ?_
                          refine J.region ?_
                          refine RJ.run ttok 1 rfl ?_
                          obtain ⟨r40, q38, H⟩ := bind_t H
                          refine RJ.op rfl rfl (op_call [1, 2] (dev_Device_Stats.spec q38) rfl rfl rfl h18 rfl gnil) ?_
                          rintro _ w65 ⟨_, ⟨rfl, rfl⟩, h122⟩
                          replace h122 : St w0 F0 [boxC b3 51 [.int .i64 x1, .slice A4 x2.length c_4, .int .u64 x3, .int .u64 x4], ownC 5 (.int .u8) x2 (.slice A4 x2.length c_4), boxC b4 30 [.int .i64 ((gt a2 x9).1), .int .u32 ((gt a2 x9).2.1), .slice A6 ((gt a2 x9).2.2).length c_6], boxC b2 40 [.int .i64 x5, .slice A5 x6.length c_5, .int .i64 x7, .int .i64 x8]] _ _ := h122
                          refine RJ.op rfl rfl (op_alloc ttok rfl rfl h122) ?_
                          rintro _ w66 ⟨b14, rfl, h123⟩
                          replace h123 : St w0 F0 [boxC b14 49 [.int .u64 0, .int .u64 0], boxC b3 51 [.int .i64 x1, .slice A4 x2.length c_4, .int .u64 x3, .int .u64 x4], ownC 5 (.int .u8) x2 (.slice A4 x2.length c_4), boxC b4 30 [.int .i64 ((gt a2 x9).1), .int .u32 ((gt a2 x9).2.1), .slice A6 ((gt a2 x9).2.2).length c_6], boxC b2 40 [.int .i64 x5, .slice A5 x6.length c_5, .int .i64 x7, .int .i64 x8]] _ _ := h123
                          refine RJ.op rfl rfl (op_store ttok 0 rfl h123 rfl rfl rfl rfl rfl rfl rfl) ?_
                          intro _ w67 h124
                          replace h124 : St w0 F0 [boxC b14 49 [.int .u64 r40.1, .int .u64 r40.2], boxC b3 51 [.int .i64 x1, .slice A4 x2.length c_4, .int .u64 x3, .int .u64 x4], ownC 5 (.int .u8) x2 (.slice A4 x2.length c_4), boxC b4 30 [.int .i64 ((gt a2 x9).1), .int .u32 ((gt a2 x9).2.1), .slice A6 ((gt a2 x9).2.2).length c_6], boxC b2 40 [.int .i64 x5, .slice A5 x6.length c_5, .int .i64 x7, .int .i64 x8]] _ _ := h124
                          refine RJ.fin [(0, .int .i64 a0), (1, .int .i64 a1), (2, .slice A1 a2.length c_1), (7, .pointer (some ⟨b3, 0, none⟩)), (9, .pointer (some ⟨b2, 0, none⟩)), (10, .int .i64 x9), (12, .bool true), (22, .pointer (some ⟨b14, 0, none⟩))] rfl ?_
                          refine J.seq ?_
                          refine J.heldSt mix h124 ?_
                          have h125 := h124.drew
                          refine HJ.run ttok rfl [0, 1, 2, 3] rfl ?_
                          refine HJ.q (i := 6) rfl rfl rfl rfl rfl rfl (q_load_box ttok 4 (fun w e => e) rfl rfl rfl rfl rfl) ?_
                          obtain ⟨r41, q39, H⟩ := bind_t H
                          refine HJ.op (i := 4) rfl rfl rfl rfl rfl (op_call [1, 1] (dev_Device_Image.spec q39) rfl rfl rfl h125 rfl gnil) ?_
                          rintro _ w68 ⟨_, ⟨A20, c_20, rfl, rfl⟩, h126⟩
                          replace h126 : St w0 F0 [ownC 5 (.int .u8) r41 (.slice A20 r41.length c_20), boxC b3 51 [.int .i64 x1, .slice A4 x2.length c_4, .int .u64 x3, .int .u64 x4], ownC 5 (.int .u8) x2 (.slice A4 x2.length c_4), boxC b14 49 [.int .u64 r40.1, .int .u64 r40.2], boxC b4 30 [.int .i64 ((gt a2 x9).1), .int .u32 ((gt a2 x9).2.1), .slice A6 ((gt a2 x9).2.2).length c_6], boxC b2 40 [.int .i64 x5, .slice A5 x6.length c_5, .int .i64 x7, .int .i64 x8]] _ _ := h126
                          refine ⟨⟨[_], (h126.only [0, 2, 0, 0, 0, 0] rfl)⟩, ?_⟩
                          refine HJ.more ⟨[], (h126.only [0, 2, 0, 0, 0, 0] rfl)⟩ ?_
                          refine HJ.q (i := 5) rfl rfl rfl rfl rfl rfl (q_tostr ttok (fun w e => e) (Gives.of 0 rfl own_rd) rfl rfl rfl rfl rfl) ?_
                          obtain ⟨r42, q40, H⟩ := bind_t H
                          refine HJ.op (i := 7) rfl rfl rfl rfl rfl (op_call [] (sluicegateref06_Image.spec q40) rfl rfl rfl h126 rfl (gcons (Gives.self 13 rfl) gnil)) ?_
                          rintro _ w69 ⟨_, ⟨rfl, rfl⟩, h127⟩
                          replace h127 : St w0 F0 [ownC 5 (.int .u8) r41 (.slice A20 r41.length c_20), boxC b3 51 [.int .i64 x1, .slice A4 x2.length c_4, .int .u64 x3, .int .u64 x4], ownC 5 (.int .u8) x2 (.slice A4 x2.length c_4), boxC b14 49 [.int .u64 r40.1, .int .u64 r40.2], boxC b4 30 [.int .i64 ((gt a2 x9).1), .int .u32 ((gt a2 x9).2.1), .slice A6 ((gt a2 x9).2.2).length c_6], boxC b2 40 [.int .i64 x5, .slice A5 x6.length c_5, .int .i64 x7, .int .i64 x8]] _ _ := h127
                          refine ⟨⟨[], (h127.only [0, 2, 0, 0, 0, 0] rfl)⟩, ?_⟩
                          refine HJ.run ttok rfl [8, 9, 10] rfl ?_
                          rcases Bool.eq_false_or_eq_true (!decide ((toS r41) = r42)) with c36 | c36
                          · replace H := ite_t c36 H
                            refine HJ.know (t := 156) rfl (congrArg Value.bool c36) ?_
                            refine HJ.run ttok rfl [11, 12, 13, 14, 15, 16, 17, 18, 19, 20, 21, 22, 23, 24, 25, 26, 27, 28, 29, 30, 31, 32] rfl ?_
                            refine HJ.fin [(0, .int .i64 a0), (1, .int .i64 a1), (2, .slice A1 a2.length c_1), (7, .pointer (some ⟨b3, 0, none⟩)), (9, .pointer (some ⟨b2, 0, none⟩)), (10, .int .i64 x9), (178, .bool true)] rfl rfl ?_
                            have h128 := h127.only [1, 1, 3] rfl
                            replace h128 : St w0 F0 [boxC b3 51 [.int .i64 x1, .slice A4 x2.length c_4, .int .u64 x3, .int .u64 x4], ownC 5 (.int .u8) x2 (.slice A4 x2.length c_4), boxC b2 40 [.int .i64 x5, .slice A5 x6.length c_5, .int .i64 x7, .int .i64 x8]] _ _ := h128
                            refine J.condT rfl ?_
                            refine J.seq ?_
                            refine J.region ?_
                            refine RJ.run ttok 1 rfl ?_
                            refine RJ.fin [(6, .bool false)] rfl ?_
                            have h129 := h128.only [] rfl
                            replace h129 : St w0 F0 [] _ _ := h129
                            refine J.ret ?_
                            obtain rfl := Option.some.inj H
                            exact ⟨_, _, _, (results_slots rfl), ⟨rfl, rfl⟩, h129.only [] rfl⟩
                          · replace H := ite_f c36 H
                            refine HJ.know (t := 156) rfl (congrArg Value.bool c36) ?_
                            refine HJ.run ttok rfl [11, 13] rfl ?_
                            obtain ⟨r43, q41, H⟩ := bind_t H
                            refine HJ.op (i := 12) rfl rfl rfl rfl rfl (op_call [1, 1] (dev_Device_Blocks.spec q41) rfl rfl rfl h127 rfl gnil) ?_
                            rintro _ w70 ⟨_, ⟨rfl, rfl⟩, h130⟩
                            replace h130 : St w0 F0 [boxC b3 51 [.int .i64 x1, .slice A4 x2.length c_4, .int .u64 x3, .int .u64 x4], ownC 5 (.int .u8) x2 (.slice A4 x2.length c_4), ownC 5 (.int .u8) r41 (.slice A20 r41.length c_20), boxC b14 49 [.int .u64 r40.1, .int .u64 r40.2], boxC b4 30 [.int .i64 ((gt a2 x9).1), .int .u32 ((gt a2 x9).2.1), .slice A6 ((gt a2 x9).2.2).length c_6], boxC b2 40 [.int .i64 x5, .slice A5 x6.length c_5, .int .i64 x7, .int .i64 x8]] _ _ := h130
                            refine ⟨⟨[], (h130.only [2, 2, 0, 0, 0, 0] rfl)⟩, ?_⟩
                            refine HJ.run ttok rfl [14, 15, 16] rfl ?_
                            rcases Bool.eq_false_or_eq_true (!decide (r43 = a0)) with c37 | c37
                            · replace H := ite_t c37 H
                              refine HJ.know (t := 162) rfl (congrArg Value.bool c37) ?_
                              refine HJ.run ttok rfl [17, 18, 19, 20, 21, 22, 23, 24, 25, 26, 27, 28, 29, 30, 31, 32] rfl ?_
                              refine HJ.fin [(0, .int .i64 a0), (1, .int .i64 a1), (2, .slice A1 a2.length c_1), (7, .pointer (some ⟨b3, 0, none⟩)), (9, .pointer (some ⟨b2, 0, none⟩)), (10, .int .i64 x9), (178, .bool true)] rfl rfl ?_
                              have h131 := h130.only [0, 0, 3] rfl
                              replace h131 : St w0 F0 [boxC b3 51 [.int .i64 x1, .slice A4 x2.length c_4, .int .u64 x3, .int .u64 x4], ownC 5 (.int .u8) x2 (.slice A4 x2.length c_4), boxC b2 40 [.int .i64 x5, .slice A5 x6.length c_5, .int .i64 x7, .int .i64 x8]] _ _ := h131
                              refine J.condT rfl ?_
                              refine J.seq ?_
                              refine J.region ?_
                              refine RJ.run ttok 1 rfl ?_
                              refine RJ.fin [(6, .bool false)] rfl ?_
                              have h132 := h131.only [] rfl
                              replace h132 : St w0 F0 [] _ _ := h132
                              refine J.ret ?_
                              obtain rfl := Option.some.inj H
                              exact ⟨_, _, _, (results_slots rfl), ⟨rfl, rfl⟩, h132.only [] rfl⟩
                            · replace H := ite_f c37 H
                              refine HJ.know (t := 162) rfl (congrArg Value.bool c37) ?_
                              refine HJ.run ttok rfl [17, 19] rfl ?_
                              obtain ⟨r44, q42, H⟩ := bind_t H
                              refine HJ.op (i := 18) rfl rfl rfl rfl rfl (op_call [0, 0] (dev_Device_Bytes.spec q42) rfl rfl rfl h130 rfl gnil) ?_
                              rintro _ w71 ⟨_, ⟨rfl, rfl⟩, h133⟩
                              replace h133 : St w0 F0 [boxC b3 51 [.int .i64 x1, .slice A4 x2.length c_4, .int .u64 x3, .int .u64 x4], ownC 5 (.int .u8) x2 (.slice A4 x2.length c_4), ownC 5 (.int .u8) r41 (.slice A20 r41.length c_20), boxC b14 49 [.int .u64 r40.1, .int .u64 r40.2], boxC b4 30 [.int .i64 ((gt a2 x9).1), .int .u32 ((gt a2 x9).2.1), .slice A6 ((gt a2 x9).2.2).length c_6], boxC b2 40 [.int .i64 x5, .slice A5 x6.length c_5, .int .i64 x7, .int .i64 x8]] _ _ := h133
                              refine ⟨⟨[], (h133.only [2, 2, 0, 0, 0, 0] rfl)⟩, ?_⟩
                              refine HJ.run ttok rfl [20, 21, 22] rfl ?_
                              rcases Bool.eq_false_or_eq_true (!decide (r44 = a1)) with c38 | c38
                              · replace H := ite_t c38 H
                                refine HJ.know (t := 168) rfl (congrArg Value.bool c38) ?_
                                refine HJ.run ttok rfl [23, 24, 25, 26, 27, 28, 29, 30, 31, 32] rfl ?_
                                refine HJ.fin [(0, .int .i64 a0), (1, .int .i64 a1), (2, .slice A1 a2.length c_1), (7, .pointer (some ⟨b3, 0, none⟩)), (9, .pointer (some ⟨b2, 0, none⟩)), (10, .int .i64 x9), (178, .bool true)] rfl rfl ?_
                                have h134 := h133.only [0, 0, 3] rfl
                                replace h134 : St w0 F0 [boxC b3 51 [.int .i64 x1, .slice A4 x2.length c_4, .int .u64 x3, .int .u64 x4], ownC 5 (.int .u8) x2 (.slice A4 x2.length c_4), boxC b2 40 [.int .i64 x5, .slice A5 x6.length c_5, .int .i64 x7, .int .i64 x8]] _ _ := h134
                                refine J.condT rfl ?_
                                refine J.seq ?_
                                refine J.region ?_
                                refine RJ.run ttok 1 rfl ?_
                                refine RJ.fin [(6, .bool false)] rfl ?_
                                have h135 := h134.only [] rfl
                                replace h135 : St w0 F0 [] _ _ := h135
                                refine J.ret ?_
                                obtain rfl := Option.some.inj H
                                exact ⟨_, _, _, (results_slots rfl), ⟨rfl, rfl⟩, h135.only [] rfl⟩
                              · replace H := ite_f c38 H
                                refine HJ.know (t := 168) rfl (congrArg Value.bool c38) ?_
                                refine HJ.run ttok rfl [24, 27] rfl ?_
                                refine HJ.q (i := 23) rfl rfl rfl rfl rfl rfl (q_load_box ttok 1 (fun w e => e) rfl rfl rfl rfl rfl) ?_
                                refine HJ.q (i := 25) rfl rfl rfl rfl rfl rfl (q_load_box ttok 5 (fun w e => e) rfl rfl rfl rfl rfl) ?_
                                refine HJ.run ttok rfl [26] rfl ?_
                                refine HJ.q (i := 28) rfl rfl rfl rfl rfl rfl (q_load_box ttok 5 (fun w e => e) rfl rfl rfl rfl rfl) ?_
                                refine HJ.run ttok rfl [29, 30, 31, 32] rfl ?_
                                refine HJ.fin [(0, .int .i64 a0), (1, .int .i64 a1), (2, .slice A1 a2.length c_1), (7, .pointer (some ⟨b3, 0, none⟩)), (9, .pointer (some ⟨b2, 0, none⟩)), (10, .int .i64 x9), (178, .bool (!((decide (r40.1 = (IntKind.u64.wrap (x7)))) && ((decide (r40.2 = (IntKind.u64.wrap (x8)))) && true))))] rfl rfl ?_
                                have h136 := h133.only [0, 0, 3] rfl
                                replace h136 : St w0 F0 [boxC b3 51 [.int .i64 x1, .slice A4 x2.length c_4, .int .u64 x3, .int .u64 x4], ownC 5 (.int .u8) x2 (.slice A4 x2.length c_4), boxC b2 40 [.int .i64 x5, .slice A5 x6.length c_5, .int .i64 x7, .int .i64 x8]] _ _ := h136
                                refine J.cond rfl (fun c39 => ?_) (fun c39 => ?_)
                                · replace H := ite_t c39 H
                                  refine J.seq ?_
                                  refine J.region ?_
                                  refine RJ.run ttok 1 rfl ?_
                                  refine RJ.fin [(6, .bool false)] rfl ?_
                                  have h137 := h136.only [] rfl
                                  replace h137 : St w0 F0 [] _ _ := h137
                                  refine J.ret ?_
                                  obtain rfl := Option.some.inj H
                                  exact ⟨_, _, _, (results_slots rfl), ⟨rfl, rfl⟩, h137.only [] rfl⟩
                                · replace H := ite_f c39 H
                                  refine J.skip ?_
                                  refine J.region ?_
                                  refine RJ.run ttok 3 rfl ?_
                                  refine RJ.fin [(0, .int .i64 a0), (1, .int .i64 a1), (2, .slice A1 a2.length c_1), (7, .pointer (some ⟨b3, 0, none⟩)), (9, .pointer (some ⟨b2, 0, none⟩)), (10, .int .i64 (w64 (x9 + 1)))] rfl ?_
                                  have h138 := ((h136.only [0, 1, 0] rfl).rds [6, 7] rfl)
                                  exact ⟨k1, by omega, b3, x1, x2, A4, c_4, x3, x4, x5, x6, A5, c_5, x7, x8, (w64 (x9 + 1)), rfl, h138, H⟩
                · replace H := ite_f c9 H
                  refine J.exit ?_
                  refine J.seq ?_
                  refine J.region ?_
                  obtain ⟨r45, q43, H⟩ := bind_t H
                  refine RJ.op rfl rfl (op_call [] (sluicegatelaw06_awake.spec q43) rfl rfl rfl h13 rfl gnil) ?_
                  rintro _ w72 ⟨_, ⟨rfl, rfl⟩, h139⟩
                  replace h139 : St w0 F0 [boxC b3 51 [.int .i64 x1, .slice A4 x2.length c_4, .int .u64 x3, .int .u64 x4], boxC b2 40 [.int .i64 x5, .slice A5 x6.length c_5, .int .i64 x7, .int .i64 x8], ownC 5 (.int .u8) x2 (.slice A4 x2.length c_4)] _ _ := h139
                  refine RJ.run ttok 1 rfl ?_
                  refine RJ.fin [(6, .bool r45)] rfl ?_
                  have h140 := h139.only [] rfl
                  replace h140 : St w0 F0 [] _ _ := h140
                  refine J.ret ?_
                  obtain rfl := Option.some.inj H
                  exact ⟨_, _, _, (results_slots rfl), ⟨rfl, rfl⟩, h140.only [] rfl⟩
              · replace H := ite_f c8 H
                refine RJ.know (t := 65) rfl (congrArg Value.bool c8) ?_
                refine RJ.run ttok 3 rfl ?_
                refine RJ.fin [(0, .int .i64 a0), (1, .int .i64 a1), (2, .slice A1 a2.length c_1), (7, .pointer (some ⟨b3, 0, none⟩)), (9, .pointer (some ⟨b2, 0, none⟩)), (10, .int .i64 x9), (68, .bool false)] rfl ?_
                refine J.condF rfl ?_
                refine J.exit ?_
                refine J.seq ?_
                refine J.region ?_
                obtain ⟨r46, q44, H⟩ := bind_t H
                refine RJ.op rfl rfl (op_call [] (sluicegatelaw06_awake.spec q44) rfl rfl rfl h13 rfl gnil) ?_
                rintro _ w73 ⟨_, ⟨rfl, rfl⟩, h141⟩
                replace h141 : St w0 F0 [boxC b3 51 [.int .i64 x1, .slice A4 x2.length c_4, .int .u64 x3, .int .u64 x4], boxC b2 40 [.int .i64 x5, .slice A5 x6.length c_5, .int .i64 x7, .int .i64 x8], ownC 5 (.int .u8) x2 (.slice A4 x2.length c_4)] _ _ := h141
                refine RJ.run ttok 1 rfl ?_
                refine RJ.fin [(6, .bool r46)] rfl ?_
                have h142 := h141.only [] rfl
                replace h142 : St w0 F0 [] _ _ := h142
                refine J.ret ?_
                obtain rfl := Option.some.inj H
                exact ⟨_, _, _, (results_slots rfl), ⟨rfl, rfl⟩, h142.only [] rfl⟩
  · replace H := ite_f c1 H
    refine RJ.know (t := 26) rfl (congrArg Value.bool c1) ?_
    refine RJ.run ttok 5 rfl ?_
    refine RJ.fin [(0, .int .i64 a0), (1, .int .i64 a1), (2, .slice A1 a2.length c_1), (31, .bool false)] rfl ?_
    refine J.condF rfl ?_
    refine J.skip ?_
    refine J.seq ?_
    refine J.region ?_
    refine RJ.run ttok 2 rfl ?_
    obtain ⟨r47, q45, H⟩ := bind_t H
    refine RJ.op rfl rfl (op_call [] (dev_New.spec q45) rfl rfl rfl h1 rfl gnil) ?_
    rintro _ w74 ⟨_, ⟨v3, l3, ho5, rfl, rfl⟩, h145⟩
    rcases ho6 : r47.1 with _ | r48
    · rw [ho6] at ho5
      obtain ⟨rfl, rfl⟩ := ho5
      replace H := ocase_n ho6 H
      replace h145 : St w0 F0 [] _ _ := h145
      refine RJ.run ttok 5 rfl ?_
      refine RJ.fin [(0, .int .i64 a0), (1, .int .i64 a1), (2, .slice A1 a2.length c_1), (7, .pointer none), (8, .int .i64 r47.2)] rfl ?_
      refine J.seq ?_
      refine J.seq ?_
      refine J.region ?_
      refine RJ.run ttok 2 rfl ?_
      obtain ⟨r49, q46, H⟩ := bind_t H
      refine RJ.op rfl rfl (op_call [] (sluicegateref06_Right.spec q46) rfl rfl rfl h145 rfl gnil) ?_
      rintro _ w75 ⟨_, ⟨rfl, rfl⟩, h146⟩
      replace h146 : St w0 F0 [] _ _ := h146
      refine RJ.run ttok 1 rfl ?_
      refine RJ.fin [(0, .int .i64 a0), (1, .int .i64 a1), (2, .slice A1 a2.length c_1), (7, .pointer none), (8, .int .i64 r47.2), (42, .bool (!r49))] rfl ?_
      refine J.cond rfl (fun c40 => ?_) (fun c40 => ?_)
      · replace H := ite_t c40 H
        refine J.seq ?_
        refine J.region ?_
        refine RJ.run ttok 7 rfl ?_
        rcases Bool.eq_false_or_eq_true (decide (r47.2 = 2)) with c41 | c41
        · replace H := ite_t c41 H
          refine RJ.know (t := 49) rfl (congrArg Value.bool c41) ?_
          obtain ⟨r50, q47, H⟩ := bind_t H
          refine RJ.op rfl rfl (op_call [] (sluicegatelaw06_awake.spec q47) rfl rfl rfl h146 rfl gnil) ?_
          rintro _ w76 ⟨_, ⟨rfl, rfl⟩, h147⟩
          replace h147 : St w0 F0 [] _ _ := h147
          refine RJ.run ttok 2 rfl ?_
          refine RJ.fin [(6, .bool r50)] rfl ?_
          refine J.ret ?_
          obtain rfl := Option.some.inj H
          exact ⟨_, _, _, (results_slots rfl), ⟨rfl, rfl⟩, h147.only [] rfl⟩
        · replace H := ite_f c41 H
          refine RJ.know (t := 49) rfl (congrArg Value.bool c41) ?_
          refine RJ.run ttok 3 rfl ?_
          refine RJ.fin [(6, .bool false)] rfl ?_
          refine J.ret ?_
          obtain rfl := Option.some.inj H
          exact ⟨_, _, _, (results_slots rfl), ⟨rfl, rfl⟩, h146.only [] rfl⟩
      · replace H := ite_f c40 H
        refine J.skip ?_
        refine J.seq ?_
        refine J.seq ?_
        refine J.region ?_
        refine RJ.run ttok 3 rfl ?_
        rcases Bool.eq_false_or_eq_true (!decide (r47.2 = 0)) with c42 | c42
        · replace H := ite_t c42 H
          refine RJ.know (t := 54) rfl (congrArg Value.bool c42) ?_
          refine RJ.run ttok 3 rfl ?_
          refine RJ.fin [(0, .int .i64 a0), (1, .int .i64 a1), (2, .slice A1 a2.length c_1), (7, .pointer none), (57, .bool true)] rfl ?_
          refine J.condT rfl ?_
          refine J.seq ?_
          refine J.region ?_
          refine RJ.run ttok 1 rfl ?_
          refine RJ.fin [(6, .bool false)] rfl ?_
          refine J.ret ?_
          obtain rfl := Option.some.inj H
          exact ⟨_, _, _, (results_slots rfl), ⟨rfl, rfl⟩, h146.only [] rfl⟩
        · replace H := ite_f c42 H
          refine RJ.know (t := 54) rfl (congrArg Value.bool c42) ?_
          refine RJ.run ttok 3 rfl ?_
          refine RJ.fin [(0, .int .i64 a0), (1, .int .i64 a1), (2, .slice A1 a2.length c_1), (7, .pointer none), (57, .bool true)] rfl ?_
          refine J.condT rfl ?_
          refine J.seq ?_
          refine J.region ?_
          refine RJ.run ttok 1 rfl ?_
          refine RJ.fin [(6, .bool false)] rfl ?_
          refine J.ret ?_
          obtain rfl := Option.some.inj H
          exact ⟨_, _, _, (results_slots rfl), ⟨rfl, rfl⟩, h146.only [] rfl⟩
    · rw [ho6] at ho5
      obtain ⟨b15, A21, c_21, rfl, rfl⟩ := ho5
      replace H := ocase_s ho6 H
      replace h145 : St w0 F0 [boxC b15 51 [.int .i64 r48.1, .slice A21 r48.2.1.length c_21, .int .u64 r48.2.2.1, .int .u64 r48.2.2.2], ownC 5 (.int .u8) r48.2.1 (.slice A21 r48.2.1.length c_21)] _ _ := h145
      refine RJ.run ttok 5 rfl ?_
      refine RJ.fin [(0, .int .i64 a0), (1, .int .i64 a1), (2, .slice A1 a2.length c_1), (7, .pointer (some ⟨b15, 0, none⟩)), (8, .int .i64 r47.2)] rfl ?_
      refine J.seq ?_
      refine J.seq ?_
      refine J.region ?_
      refine RJ.run ttok 2 rfl ?_
      obtain ⟨r51, q48, H⟩ := bind_t H
      refine RJ.op rfl rfl (op_call [] (sluicegateref06_Right.spec q48) rfl rfl rfl h145 rfl gnil) ?_
      rintro _ w77 ⟨_, ⟨rfl, rfl⟩, h148⟩
      replace h148 : St w0 F0 [boxC b15 51 [.int .i64 r48.1, .slice A21 r48.2.1.length c_21, .int .u64 r48.2.2.1, .int .u64 r48.2.2.2], ownC 5 (.int .u8) r48.2.1 (.slice A21 r48.2.1.length c_21)] _ _ := h148
      refine RJ.run ttok 1 rfl ?_
      refine RJ.fin [(0, .int .i64 a0), (1, .int .i64 a1), (2, .slice A1 a2.length c_1), (7, .pointer (some ⟨b15, 0, none⟩)), (8, .int .i64 r47.2), (42, .bool (!r51))] rfl ?_
      refine J.cond rfl (fun c43 => ?_) (fun c43 => ?_)
      · replace H := ite_t c43 H
        refine J.seq ?_
        refine J.region ?_
        refine RJ.run ttok 10 rfl ?_
        refine RJ.fin [(6, .bool false)] rfl ?_
        have h149 := h148.only [] rfl
        replace h149 : St w0 F0 [] _ _ := h149
        refine J.ret ?_
        obtain rfl := Option.some.inj H
        exact ⟨_, _, _, (results_slots rfl), ⟨rfl, rfl⟩, h149.only [] rfl⟩
      · replace H := ite_f c43 H
        refine J.skip ?_
        refine J.seq ?_
        refine J.seq ?_
        refine J.region ?_
        refine RJ.run ttok 3 rfl ?_
        rcases Bool.eq_false_or_eq_true (!decide (r47.2 = 0)) with c44 | c44
        · replace H := ite_t c44 H
          refine RJ.know (t := 54) rfl (congrArg Value.bool c44) ?_
          refine RJ.run ttok 3 rfl ?_
          refine RJ.fin [(0, .int .i64 a0), (1, .int .i64 a1), (2, .slice A1 a2.length c_1), (7, .pointer (some ⟨b15, 0, none⟩)), (57, .bool true)] rfl ?_
          refine J.condT rfl ?_
          refine J.seq ?_
          refine J.region ?_
          refine RJ.run ttok 1 rfl ?_
          refine RJ.fin [(6, .bool false)] rfl ?_
          have h150 := h148.only [] rfl
          replace h150 : St w0 F0 [] _ _ := h150
          refine J.ret ?_
          obtain rfl := Option.some.inj H
          exact ⟨_, _, _, (results_slots rfl), ⟨rfl, rfl⟩, h150.only [] rfl⟩
        · replace H := ite_f c44 H
          refine RJ.know (t := 54) rfl (congrArg Value.bool c44) ?_
          refine RJ.run ttok 3 rfl ?_
          refine RJ.fin [(0, .int .i64 a0), (1, .int .i64 a1), (2, .slice A1 a2.length c_1), (7, .pointer (some ⟨b15, 0, none⟩)), (57, .bool false)] rfl ?_
          refine J.condF rfl ?_
          refine J.skip ?_
          refine J.seq ?_
          refine J.region ?_
          refine RJ.run ttok 2 rfl ?_
          obtain ⟨r52, q49, H⟩ := bind_t H
          refine RJ.op rfl rfl (op_call [] (sluicegateref06_New.spec q49) rfl rfl rfl h148 rfl gnil) ?_
          rintro _ w78 ⟨_, ⟨A22, c_22, rfl, rfl⟩, h151⟩
          replace h151 : St w0 F0 [ownC 9 .str r52.2.1 (.slice A22 r52.2.1.length c_22), boxC b15 51 [.int .i64 r48.1, .slice A21 r48.2.1.length c_21, .int .u64 r48.2.2.1, .int .u64 r48.2.2.2], ownC 5 (.int .u8) r48.2.1 (.slice A21 r48.2.1.length c_21)] _ _ := h151
          refine RJ.op rfl rfl (op_alloc ttok rfl rfl h151) ?_
          rintro _ w79 ⟨b16, rfl, h152⟩
          replace h152 : St w0 F0 [boxC b16 40 [.int .i64 0, .slice none ([] : List (List UInt8)).length 0, .int .i64 0, .int .i64 0], ownC 9 .str r52.2.1 (.slice A22 r52.2.1.length c_22), boxC b15 51 [.int .i64 r48.1, .slice A21 r48.2.1.length c_21, .int .u64 r48.2.2.1, .int .u64 r48.2.2.2], ownC 5 (.int .u8) r48.2.1 (.slice A21 r48.2.1.length c_21)] _ _ := h152
          refine RJ.op rfl rfl (op_store ttok 0 rfl h152 rfl rfl rfl rfl rfl rfl rfl) ?_
          intro _ w80 h153
          replace h153 : St w0 F0 [boxC b16 40 [.int .i64 r52.1, .slice A22 r52.2.1.length c_22, .int .i64 r52.2.2.1, .int .i64 r52.2.2.2], ownC 9 .str r52.2.1 (.slice A22 r52.2.1.length c_22), boxC b15 51 [.int .i64 r48.1, .slice A21 r48.2.1.length c_21, .int .u64 r48.2.2.1, .int .u64 r48.2.2.2], ownC 5 (.int .u8) r48.2.1 (.slice A21 r48.2.1.length c_21)] _ _ := h153
          refine RJ.fin [(0, .int .i64 a0), (1, .int .i64 a1), (2, .slice A1 a2.length c_1), (7, .pointer (some ⟨b15, 0, none⟩)), (9, .pointer (some ⟨b16, 0, none⟩))] rfl ?_
          refine J.seq ?_
          refine J.seq ?_
          refine J.region ?_
          refine RJ.run ttok 1 rfl ?_
          refine RJ.fin [(0, .int .i64 a0), (1, .int .i64 a1), (2, .slice A1 a2.length c_1), (7, .pointer (some ⟨b15, 0, none⟩)), (9, .pointer (some ⟨b16, 0, none⟩)), (10, .int .i64 0)] rfl ?_
          refine J.block ?_
          have h284 := h153.freeze (k := 1) rfl own_rd
          have h285 := ((h284.only [1, 0, 0] rfl).rds [1, 0] rfl)
          refine J.loop (fun k env w => ∃ (b17 : Nat) (x10 : Int) (x11 : List (Int)) (A23 : Option Addr) (c_23 : Nat) (x12 : Int) (x13 : Int) (x14 : Int) (x15 : List (List UInt8)) (A24 : Option Addr) (c_24 : Nat) (x16 : Int) (x17 : Int) (x18 : Int), env = [(0, .int .i64 a0), (1, .int .i64 a1), (2, .slice A1 a2.length c_1), (7, .pointer (some ⟨b17, 0, none⟩)), (9, .pointer (some ⟨b16, 0, none⟩)), (10, .int .i64 x18)] ∧ St w0 F0 [boxC b17 51 [.int .i64 x10, .slice A23 x11.length c_23, .int .u64 x12, .int .u64 x13], boxC b16 40 [.int .i64 x14, .slice A24 x15.length c_24, .int .i64 x16, .int .i64 x17], ownC 5 (.int .u8) x11 (.slice A23 x11.length c_23)] [rdC 30 (.pair (.int .i64) (.pair (.int .u32) (.slice 5 (.int .u8)))) a2 (.slice A1 a2.length c_1), rdC 9 .str x15 (.slice A24 x15.length c_24)] w ∧ sluicegatelaw06_DevPlays.l1 k a0 a1 a2 x10 x11 x12 x13 x14 x15 x16 x17 x18 = some r) (k := k) ⟨b15, r48.1, r48.2.1, A21, c_21, r48.2.2.1, r48.2.2.2, r52.1, r52.2.1, A22, c_22, r52.2.2.1, r52.2.2.2, 0, rfl, h285, H⟩ ?_
          rintro k2 env w81 ⟨b17, x10, x11, A23, c_23, x12, x13, x14, x15, A24, c_24, x16, x17, x18, rfl, h154, H⟩
          cases k2 with
          | zero => exact nomatch (show none = some r from H)
          | succ k2 =>
            rw [sluicegatelaw06_DevPlays.l1] at H
            refine J.seq ?_
            refine J.seq ?_
            refine J.region ?_
            refine RJ.run ttok 5 rfl ?_
            rcases Bool.eq_false_or_eq_true (decide (x18 < (a2.length : Int))) with c45 | c45
            · replace H := ite_t c45 H
              refine RJ.know (t := 65) rfl (congrArg Value.bool c45) ?_
              refine RJ.run ttok 3 rfl ?_
              refine RJ.fin [(0, .int .i64 a0), (1, .int .i64 a1), (2, .slice A1 a2.length c_1), (7, .pointer (some ⟨b17, 0, none⟩)), (9, .pointer (some ⟨b16, 0, none⟩)), (10, .int .i64 x18), (68, .bool (decide (x18 < 40)))] rfl ?_
              refine J.cond rfl (fun c46 => ?_) (fun c46 => ?_)
              · replace H := ite_t c46 H
                refine J.skip ?_
                refine J.seq ?_
                refine J.block ?_
                refine J.seq ?_
                refine J.region ?_
                refine RJ.run ttok 2 rfl ?_
                obtain ⟨⟨p3, p4⟩, H⟩ := guard_t H
                have e2 := elem_A h154.wh (Gives.self 3 rfl) p3 p4
                refine RJ.q rfl rfl (q_index ttok rfl rfl rfl rfl rfl e2 p3 p4) ?_
                obtain ⟨cs6, h155⟩ := h154.elem 0 rfl p3 p4
                obtain ⟨cs7, cs8, rfl, h156⟩ := St.okpr 0 h155 rfl
                obtain ⟨cs9, cs10, rfl, h157⟩ := St.okpr 1 h156 rfl
                obtain rfl := St.okflat (t := (.int .i64)) rfl 2 h157 rfl
                obtain rfl := St.okflat (t := (.int .u32)) rfl 0 h157 rfl
                obtain ⟨A25, c_25, rfl⟩ := St.okslice 1 h157 rfl
                refine RJ.q rfl rfl (q_load_el (f := 0) ttok h157.wht (Gives.self 8 rfl) rfl rfl rfl rfl) ?_
                refine RJ.op rfl rfl (op_alloc ttok rfl rfl h157) ?_
                rintro _ w82 ⟨b18, rfl, h158⟩
                replace h158 : St w0 F0 [boxC b18 30 [.int .i64 0, .int .u32 0, .slice none ([] : List (Int)).length 0], boxC b17 51 [.int .i64 x10, .slice A23 x11.length c_23, .int .u64 x12, .int .u64 x13], boxC b16 40 [.int .i64 x14, .slice A24 x15.length c_24, .int .i64 x16, .int .i64 x17], ownC 5 (.int .u8) x11 (.slice A23 x11.length c_23)] _ _ := h158
                refine RJ.op rfl rfl (op_store ttok 0 rfl h158 rfl rfl rfl rfl rfl rfl rfl) ?_
                intro _ w83 h159
                replace h159 : St w0 F0 [boxC b18 30 [.int .i64 ((gt a2 x18).1), .int .u32 ((gt a2 x18).2.1), .slice A25 ((gt a2 x18).2.2).length c_25], boxC b17 51 [.int .i64 x10, .slice A23 x11.length c_23, .int .u64 x12, .int .u64 x13], boxC b16 40 [.int .i64 x14, .slice A24 x15.length c_24, .int .i64 x16, .int .i64 x17], ownC 5 (.int .u8) x11 (.slice A23 x11.length c_23)] _ _ := h159
                refine RJ.fin [(0, .int .i64 a0), (1, .int .i64 a1), (2, .slice A1 a2.length c_1), (7, .pointer (some ⟨b17, 0, none⟩)), (9, .pointer (some ⟨b16, 0, none⟩)), (10, .int .i64 x18), (11, .pointer (some ⟨b18, 0, none⟩))] rfl ?_
                refine J.seq ?_
                refine J.region ?_
                refine RJ.run ttok 1 rfl ?_
                refine RJ.fin [(0, .int .i64 a0), (1, .int .i64 a1), (2, .slice A1 a2.length c_1), (7, .pointer (some ⟨b17, 0, none⟩)), (9, .pointer (some ⟨b16, 0, none⟩)), (10, .int .i64 x18), (11, .pointer (some ⟨b18, 0, none⟩)), (12, .bool true)] rfl ?_
                refine J.seq ?_
                refine J.seq ?_
                refine J.region ?_
                refine RJ.run ttok 1 rfl ?_
                refine RJ.q rfl rfl (q_load_box ttok 0 h159.wht rfl rfl rfl rfl rfl) ?_
                refine RJ.fin [(0, .int .i64 a0), (1, .int .i64 a1), (2, .slice A1 a2.length c_1), (7, .pointer (some ⟨b17, 0, none⟩)), (9, .pointer (some ⟨b16, 0, none⟩)), (10, .int .i64 x18), (11, .pointer (some ⟨b18, 0, none⟩)), (12, .bool true), (76, .int .i64 ((gt a2 x18).1))] rfl ?_
                refine J.block ?_
                refine J.seq ?_
                refine J.seq ?_
                refine J.region ?_
                refine RJ.run ttok 2 rfl ?_
                refine RJ.fin [(0, .int .i64 a0), (1, .int .i64 a1), (2, .slice A1 a2.length c_1), (7, .pointer (some ⟨b17, 0, none⟩)), (9, .pointer (some ⟨b16, 0, none⟩)), (10, .int .i64 x18), (11, .pointer (some ⟨b18, 0, none⟩)), (12, .bool true), (76, .int .i64 ((gt a2 x18).1)), (77, .bool (decide (((gt a2 x18).1) = 0)))] rfl ?_
                refine J.cond rfl (fun c47 => ?_) (fun c47 => ?_)
                · replace H := ite_t c47 H
                  refine J.skip ?_
                  refine J.cond rfl (fun e => ?_) (fun e => ?_)
                  · refine J.seq ?_
                    refine J.region ?_
                    refine RJ.q rfl rfl (q_load_box ttok 2 h159.wht rfl rfl rfl rfl rfl) ?_
                    refine RJ.run ttok 1 rfl ?_
                    refine RJ.q rfl rfl (q_load_box ttok 0 h159.wht rfl rfl rfl rfl rfl) ?_
                    refine RJ.run ttok 1 rfl ?_
                    refine RJ.q rfl rfl (q_load_box ttok 0 h159.wht rfl rfl rfl rfl rfl) ?_
                    refine RJ.q rfl rfl (q_tostr ttok h159.wht (Gives.self 5 rfl) rfl rfl rfl rfl rfl) ?_
                    obtain ⟨r53, q50, H⟩ := bind_t H
                    refine RJ.op rfl rfl (op_callA [] (sluicegateref06_Write.spec q50) rfl rfl rfl h159 rfl (gcons (Gives.self 7 rfl) gnil)) ?_
                    rintro _ w84 ⟨_, _, ⟨A26, c_26, rfl, rfl, rfl⟩, h160⟩
                    replace h160 : St w0 F0 [boxC b18 30 [.int .i64 ((gt a2 x18).1), .int .u32 ((gt a2 x18).2.1), .slice A25 ((gt a2 x18).2.2).length c_25], boxC b17 51 [.int .i64 x10, .slice A23 x11.length c_23, .int .u64 x12, .int .u64 x13], boxC b16 40 [.int .i64 x14, .slice A24 x15.length c_24, .int .i64 x16, .int .i64 x17], ownC 5 (.int .u8) x11 (.slice A23 x11.length c_23)] _ _ := h160
                    refine RJ.run ttok 3 rfl ?_
                    refine RJ.op rfl rfl (op_alloc ttok rfl rfl h160) ?_
                    rintro _ w85 ⟨b19, rfl, h161⟩
                    replace h161 : St w0 F0 [boxC b19 40 [.int .i64 0, .slice none ([] : List (List UInt8)).length 0, .int .i64 0, .int .i64 0], boxC b18 30 [.int .i64 ((gt a2 x18).1), .int .u32 ((gt a2 x18).2.1), .slice A25 ((gt a2 x18).2.2).length c_25], boxC b17 51 [.int .i64 x10, .slice A23 x11.length c_23, .int .u64 x12, .int .u64 x13], boxC b16 40 [.int .i64 x14, .slice A24 x15.length c_24, .int .i64 x16, .int .i64 x17], ownC 5 (.int .u8) x11 (.slice A23 x11.length c_23)] _ _ := h161
                    refine RJ.op rfl rfl (op_store ttok 0 rfl h161 rfl rfl rfl rfl rfl rfl rfl) ?_
                    intro _ w86 h162
                    replace h162 : St w0 F0 [boxC b19 40 [.int .i64 r53.1.1, .slice A26 r53.1.2.1.length c_26, .int .i64 r53.1.2.2.1, .int .i64 r53.1.2.2.2], boxC b18 30 [.int .i64 ((gt a2 x18).1), .int .u32 ((gt a2 x18).2.1), .slice A25 ((gt a2 x18).2.2).length c_25], boxC b17 51 [.int .i64 x10, .slice A23 x11.length c_23, .int .u64 x12, .int .u64 x13], boxC b16 40 [.int .i64 x14, .slice A24 x15.length c_24, .int .i64 x16, .int .i64 x17], ownC 5 (.int .u8) x11 (.slice A23 x11.length c_23)] _ _ := h162
                    refine RJ.run ttok 1 rfl ?_
                    refine RJ.fin [(0, .int .i64 a0), (1, .int .i64 a1), (2, .slice A1 a2.length c_1), (7, .pointer (some ⟨b17, 0, none⟩)), (9, .pointer (some ⟨b16, 0, none⟩)), (10, .int .i64 x18), (11, .pointer (some ⟨b18, 0, none⟩)), (13, .pointer (some ⟨b19, 0, none⟩)), (14, .int .i64 r53.2)] rfl ?_
                    refine J.seq ?_
                    refine J.region ?_
                    refine RJ.q rfl rfl (q_load_box ttok 0 h162.wht rfl rfl rfl rfl rfl) ?_
                    refine RJ.op rfl rfl (op_store ttok 3 rfl h162 rfl rfl rfl rfl rfl rfl rfl) ?_
                    intro _ w87 h163
                    replace h163 : St w0 F0 [boxC b16 40 [.int .i64 r53.1.1, .slice A26 r53.1.2.1.length c_26, .int .i64 r53.1.2.2.1, .int .i64 r53.1.2.2.2], boxC b19 40 [.int .i64 r53.1.1, .slice A26 r53.1.2.1.length c_26, .int .i64 r53.1.2.2.1, .int .i64 r53.1.2.2.2], boxC b18 30 [.int .i64 ((gt a2 x18).1), .int .u32 ((gt a2 x18).2.1), .slice A25 ((gt a2 x18).2.2).length c_25], boxC b17 51 [.int .i64 x10, .slice A23 x11.length c_23, .int .u64 x12, .int .u64 x13], ownC 5 (.int .u8) x11 (.slice A23 x11.length c_23)] _ _ := h163
                    refine RJ.fin [(0, .int .i64 a0), (1, .int .i64 a1), (2, .slice A1 a2.length c_1), (7, .pointer (some ⟨b17, 0, none⟩)), (9, .pointer (some ⟨b16, 0, none⟩)), (10, .int .i64 x18), (11, .pointer (some ⟨b18, 0, none⟩)), (14, .int .i64 r53.2)] rfl ?_
                    refine J.region ?_
                    refine RJ.run ttok 2 rfl ?_
                    refine RJ.q rfl rfl (q_load_box ttok 2 h163.wht rfl rfl rfl rfl rfl) ?_
                    refine RJ.run ttok 1 rfl ?_
                    refine RJ.q rfl rfl (q_load_box ttok 2 h163.wht rfl rfl rfl rfl rfl) ?_
                    obtain ⟨r54, q51, H⟩ := bind_t H
                    refine RJ.op rfl rfl (op_call [3, 3] (dev_Device_Write.spec q51) rfl rfl rfl h163 rfl (gcons (Gives.self 5 rfl) gnil)) ?_
                    rintro _ w88 ⟨_, ⟨A27, c_27, rfl, rfl⟩, h164⟩
                    replace h164 : St w0 F0 [boxC b17 51 [.int .i64 r54.2.1, .slice A27 r54.2.2.1.length c_27, .int .u64 r54.2.2.2.1, .int .u64 r54.2.2.2.2], ownC 5 (.int .u8) r54.2.2.1 (.slice A27 r54.2.2.1.length c_27), boxC b16 40 [.int .i64 r53.1.1, .slice A26 r53.1.2.1.length c_26, .int .i64 r53.1.2.2.1, .int .i64 r53.1.2.2.2], boxC b19 40 [.int .i64 r53.1.1, .slice A26 r53.1.2.1.length c_26, .int .i64 r53.1.2.2.1, .int .i64 r53.1.2.2.2], boxC b18 30 [.int .i64 ((gt a2 x18).1), .int .u32 ((gt a2 x18).2.1), .slice A25 ((gt a2 x18).2.2).length c_25]] _ _ := h164
                    refine RJ.run ttok 3 rfl ?_
                    refine RJ.fin [(0, .int .i64 a0), (1, .int .i64 a1), (2, .slice A1 a2.length c_1), (7, .pointer (some ⟨b17, 0, none⟩)), (9, .pointer (some ⟨b16, 0, none⟩)), (10, .int .i64 x18), (12, .bool (decide (r54.1 = r53.2)))] rfl ?_
                    have h165 := h164.only [0, 0, 0] rfl
                    replace h165 : St w0 F0 [boxC b17 51 [.int .i64 r54.2.1, .slice A27 r54.2.2.1.length c_27, .int .u64 r54.2.2.2.1, .int .u64 r54.2.2.2.2], ownC 5 (.int .u8) r54.2.2.1 (.slice A27 r54.2.2.1.length c_27), boxC b16 40 [.int .i64 r53.1.1, .slice A26 r53.1.2.1.length c_26, .int .i64 r53.1.2.2.1, .int .i64 r53.1.2.2.2]] _ _ := h165
                    refine J.seq ?_
                    refine J.region ?_
                    refine RJ.run ttok 1 rfl ?_
                    obtain ⟨r55, q52, H⟩ := bind_t H
                    refine RJ.op rfl rfl (op_call [0, 0] (dev_Device_Stats.spec q52) rfl rfl rfl h165 rfl gnil) ?_
                    rintro _ w89 ⟨_, ⟨rfl, rfl⟩, h166⟩
                    replace h166 : St w0 F0 [boxC b17 51 [.int .i64 r54.2.1, .slice A27 r54.2.2.1.length c_27, .int .u64 r54.2.2.2.1, .int .u64 r54.2.2.2.2], ownC 5 (.int .u8) r54.2.2.1 (.slice A27 r54.2.2.1.length c_27), boxC b16 40 [.int .i64 r53.1.1, .slice A26 r53.1.2.1.length c_26, .int .i64 r53.1.2.2.1, .int .i64 r53.1.2.2.2]] _ _ := h166
                    refine RJ.op rfl rfl (op_alloc ttok rfl rfl h166) ?_
                    rintro _ w90 ⟨b20, rfl, h167⟩
                    replace h167 : St w0 F0 [boxC b20 49 [.int .u64 0, .int .u64 0], boxC b17 51 [.int .i64 r54.2.1, .slice A27 r54.2.2.1.length c_27, .int .u64 r54.2.2.2.1, .int .u64 r54.2.2.2.2], ownC 5 (.int .u8) r54.2.2.1 (.slice A27 r54.2.2.1.length c_27), boxC b16 40 [.int .i64 r53.1.1, .slice A26 r53.1.2.1.length c_26, .int .i64 r53.1.2.2.1, .int .i64 r53.1.2.2.2]] _ _ := h167
                    refine RJ.op rfl rfl (op_store ttok 0 rfl h167 rfl rfl rfl rfl rfl rfl rfl) ?_
                    intro _ w91 h168
                    replace h168 : St w0 F0 [boxC b20 49 [.int .u64 r55.1, .int .u64 r55.2], boxC b17 51 [.int .i64 r54.2.1, .slice A27 r54.2.2.1.length c_27, .int .u64 r54.2.2.2.1, .int .u64 r54.2.2.2.2], ownC 5 (.int .u8) r54.2.2.1 (.slice A27 r54.2.2.1.length c_27), boxC b16 40 [.int .i64 r53.1.1, .slice A26 r53.1.2.1.length c_26, .int .i64 r53.1.2.2.1, .int .i64 r53.1.2.2.2]] _ _ := h168
                    refine RJ.fin [(0, .int .i64 a0), (1, .int .i64 a1), (2, .slice A1 a2.length c_1), (7, .pointer (some ⟨b17, 0, none⟩)), (9, .pointer (some ⟨b16, 0, none⟩)), (10, .int .i64 x18), (12, .bool (decide (r54.1 = r53.2))), (22, .pointer (some ⟨b20, 0, none⟩))] rfl ?_
                    refine J.seq ?_
                    refine J.heldSt mix h168 ?_
                    have h169 := h168.drew
                    refine HJ.run ttok rfl [0, 1, 2] rfl ?_
                    rcases Bool.eq_false_or_eq_true (!(decide (r54.1 = r53.2))) with c48 | c48
                    · replace H := ite_t c48 H
                      refine HJ.know (t := 148) rfl (congrArg Value.bool c48) ?_
                      refine HJ.run ttok rfl [3, 4, 5, 6, 7, 8, 9, 10, 11, 12, 13, 14, 15, 16, 17, 18, 19, 20, 21, 22, 23, 24, 25, 26, 27, 28, 29, 30, 31, 32] rfl ?_
                      refine HJ.fin [(0, .int .i64 a0), (1, .int .i64 a1), (2, .slice A1 a2.length c_1), (7, .pointer (some ⟨b17, 0, none⟩)), (9, .pointer (some ⟨b16, 0, none⟩)), (10, .int .i64 x18), (178, .bool true)] rfl rfl ?_
                      refine J.condT rfl ?_
                      refine J.seq ?_
                      refine J.region ?_
                      refine RJ.run ttok 1 rfl ?_
                      refine RJ.fin [(6, .bool false)] rfl ?_
                      have h170 := h169.only [] rfl
                      replace h170 : St w0 F0 [] _ _ := h170
                      refine J.ret ?_
                      obtain rfl := Option.some.inj H
                      exact ⟨_, _, _, (results_slots rfl), ⟨rfl, rfl⟩, h170.only [] rfl⟩
                    · replace H := ite_f c48 H
                      refine HJ.know (t := 148) rfl (congrArg Value.bool c48) ?_
                      refine HJ.run ttok rfl [3] rfl ?_
                      refine HJ.q (i := 6) rfl rfl rfl rfl rfl rfl (q_load_box ttok 3 (fun w e => e) rfl rfl rfl rfl rfl) ?_
                      obtain ⟨r56, q53, H⟩ := bind_t H
                      refine HJ.op (i := 4) rfl rfl rfl rfl rfl (op_call [1, 1] (dev_Device_Image.spec q53) rfl rfl rfl h169 rfl gnil) ?_
                      rintro _ w92 ⟨_, ⟨A28, c_28, rfl, rfl⟩, h171⟩
                      replace h171 : St w0 F0 [ownC 5 (.int .u8) r56 (.slice A28 r56.length c_28), boxC b17 51 [.int .i64 r54.2.1, .slice A27 r54.2.2.1.length c_27, .int .u64 r54.2.2.2.1, .int .u64 r54.2.2.2.2], ownC 5 (.int .u8) r54.2.2.1 (.slice A27 r54.2.2.1.length c_27), boxC b20 49 [.int .u64 r55.1, .int .u64 r55.2], boxC b16 40 [.int .i64 r53.1.1, .slice A26 r53.1.2.1.length c_26, .int .i64 r53.1.2.2.1, .int .i64 r53.1.2.2.2]] _ _ := h171
                      refine ⟨⟨[_], (h171.only [0, 2, 0, 0, 0] rfl)⟩, ?_⟩
                      refine HJ.more ⟨[], (h171.only [0, 2, 0, 0, 0] rfl)⟩ ?_
                      refine HJ.q (i := 5) rfl rfl rfl rfl rfl rfl (q_tostr ttok (fun w e => e) (Gives.of 0 rfl own_rd) rfl rfl rfl rfl rfl) ?_
                      obtain ⟨r57, q54, H⟩ := bind_t H
                      refine HJ.op (i := 7) rfl rfl rfl rfl rfl (op_call [] (sluicegateref06_Image.spec q54) rfl rfl rfl h171 rfl (gcons (Gives.self 5 rfl) gnil)) ?_
                      rintro _ w93 ⟨_, ⟨rfl, rfl⟩, h172⟩
                      replace h172 : St w0 F0 [ownC 5 (.int .u8) r56 (.slice A28 r56.length c_28), boxC b17 51 [.int .i64 r54.2.1, .slice A27 r54.2.2.1.length c_27, .int .u64 r54.2.2.2.1, .int .u64 r54.2.2.2.2], ownC 5 (.int .u8) r54.2.2.1 (.slice A27 r54.2.2.1.length c_27), boxC b20 49 [.int .u64 r55.1, .int .u64 r55.2], boxC b16 40 [.int .i64 r53.1.1, .slice A26 r53.1.2.1.length c_26, .int .i64 r53.1.2.2.1, .int .i64 r53.1.2.2.2]] _ _ := h172
                      refine ⟨⟨[], (h172.only [0, 2, 0, 0, 0] rfl)⟩, ?_⟩
                      refine HJ.run ttok rfl [8, 9, 10] rfl ?_
                      rcases Bool.eq_false_or_eq_true (!decide ((toS r56) = r57)) with c49 | c49
                      · replace H := ite_t c49 H
                        refine HJ.know (t := 156) rfl (congrArg Value.bool c49) ?_
                        refine HJ.run ttok rfl [11, 12, 13, 14, 15, 16, 17, 18, 19, 20, 21, 22, 23, 24, 25, 26, 27, 28, 29, 30, 31, 32] rfl ?_
                        refine HJ.fin [(0, .int .i64 a0), (1, .int .i64 a1), (2, .slice A1 a2.length c_1), (7, .pointer (some ⟨b17, 0, none⟩)), (9, .pointer (some ⟨b16, 0, none⟩)), (10, .int .i64 x18), (178, .bool true)] rfl rfl ?_
                        have h173 := h172.only [1, 1, 2] rfl
                        replace h173 : St w0 F0 [boxC b17 51 [.int .i64 r54.2.1, .slice A27 r54.2.2.1.length c_27, .int .u64 r54.2.2.2.1, .int .u64 r54.2.2.2.2], ownC 5 (.int .u8) r54.2.2.1 (.slice A27 r54.2.2.1.length c_27), boxC b16 40 [.int .i64 r53.1.1, .slice A26 r53.1.2.1.length c_26, .int .i64 r53.1.2.2.1, .int .i64 r53.1.2.2.2]] _ _ := h173
                        refine J.condT rfl ?_
                        refine J.seq ?_
                        refine J.region ?_
                        refine RJ.run ttok 1 rfl ?_
                        refine RJ.fin [(6, .bool false)] rfl ?_
                        have h174 := h173.only [] rfl
                        replace h174 : St w0 F0 [] _ _ := h174
                        refine J.ret ?_
                        obtain rfl := Option.some.inj H
                        exact ⟨_, _, _, (results_slots rfl), ⟨rfl, rfl⟩, h174.only [] rfl⟩
                      · replace H := ite_f c49 H
                        refine HJ.know (t := 156) rfl (congrArg Value.bool c49) ?_
                        refine HJ.run ttok rfl [11, 13] rfl ?_
                        obtain ⟨r58, q55, H⟩ := bind_t H
                        refine HJ.op (i := 12) rfl rfl rfl rfl rfl (op_call [1, 1] (dev_Device_Blocks.spec q55) rfl rfl rfl h172 rfl gnil) ?_
                        rintro _ w94 ⟨_, ⟨rfl, rfl⟩, h175⟩
                        replace h175 : St w0 F0 [boxC b17 51 [.int .i64 r54.2.1, .slice A27 r54.2.2.1.length c_27, .int .u64 r54.2.2.2.1, .int .u64 r54.2.2.2.2], ownC 5 (.int .u8) r54.2.2.1 (.slice A27 r54.2.2.1.length c_27), ownC 5 (.int .u8) r56 (.slice A28 r56.length c_28), boxC b20 49 [.int .u64 r55.1, .int .u64 r55.2], boxC b16 40 [.int .i64 r53.1.1, .slice A26 r53.1.2.1.length c_26, .int .i64 r53.1.2.2.1, .int .i64 r53.1.2.2.2]] _ _ := h175
                        refine ⟨⟨[], (h175.only [2, 2, 0, 0, 0] rfl)⟩, ?_⟩
                        refine HJ.run ttok rfl [14, 15, 16] rfl ?_
                        rcases Bool.eq_false_or_eq_true (!decide (r58 = a0)) with c50 | c50
                        · replace H := ite_t c50 H
                          refine HJ.know (t := 162) rfl (congrArg Value.bool c50) ?_
                          refine HJ.run ttok rfl [17, 18, 19, 20, 21, 22, 23, 24, 25, 26, 27, 28, 29, 30, 31, 32] rfl ?_
                          refine HJ.fin [(0, .int .i64 a0), (1, .int .i64 a1), (2, .slice A1 a2.length c_1), (7, .pointer (some ⟨b17, 0, none⟩)), (9, .pointer (some ⟨b16, 0, none⟩)), (10, .int .i64 x18), (178, .bool true)] rfl rfl ?_
                          have h176 := h175.only [0, 0, 2] rfl
                          replace h176 : St w0 F0 [boxC b17 51 [.int .i64 r54.2.1, .slice A27 r54.2.2.1.length c_27, .int .u64 r54.2.2.2.1, .int .u64 r54.2.2.2.2], ownC 5 (.int .u8) r54.2.2.1 (.slice A27 r54.2.2.1.length c_27), boxC b16 40 [.int .i64 r53.1.1, .slice A26 r53.1.2.1.length c_26, .int .i64 r53.1.2.2.1, .int .i64 r53.1.2.2.2]] _ _ := h176
                          refine J.condT rfl ?_
                          refine J.seq ?_
                          refine J.region ?_
                          refine RJ.run ttok 1 rfl ?_
                          refine RJ.fin [(6, .bool false)] rfl ?_
                          have h177 := h176.only [] rfl
                          replace h177 : St w0 F0 [] _ _ := h177
                          refine J.ret ?_
                          obtain rfl := Option.some.inj H
                          exact ⟨_, _, _, (results_slots rfl), ⟨rfl, rfl⟩, h177.only [] rfl⟩
                        · replace H := ite_f c50 H
                          refine HJ.know (t := 162) rfl (congrArg Value.bool c50) ?_
                          refine HJ.run ttok rfl [17, 19] rfl ?_
                          obtain ⟨r59, q56, H⟩ := bind_t H
                          refine HJ.op (i := 18) rfl rfl rfl rfl rfl (op_call [0, 0] (dev_Device_Bytes.spec q56) rfl rfl rfl h175 rfl gnil) ?_
                          rintro _ w95 ⟨_, ⟨rfl, rfl⟩, h178⟩
                          replace h178 : St w0 F0 [boxC b17 51 [.int .i64 r54.2.1, .slice A27 r54.2.2.1.length c_27, .int .u64 r54.2.2.2.1, .int .u64 r54.2.2.2.2], ownC 5 (.int .u8) r54.2.2.1 (.slice A27 r54.2.2.1.length c_27), ownC 5 (.int .u8) r56 (.slice A28 r56.length c_28), boxC b20 49 [.int .u64 r55.1, .int .u64 r55.2], boxC b16 40 [.int .i64 r53.1.1, .slice A26 r53.1.2.1.length c_26, .int .i64 r53.1.2.2.1, .int .i64 r53.1.2.2.2]] _ _ := h178
                          refine ⟨⟨[], (h178.only [2, 2, 0, 0, 0] rfl)⟩, ?_⟩
                          refine HJ.run ttok rfl [20, 21, 22] rfl ?_
                          rcases Bool.eq_false_or_eq_true (!decide (r59 = a1)) with c51 | c51
                          · replace H := ite_t c51 H
                            refine HJ.know (t := 168) rfl (congrArg Value.bool c51) ?_
                            refine HJ.run ttok rfl [23, 24, 25, 26, 27, 28, 29, 30, 31, 32] rfl ?_
                            refine HJ.fin [(0, .int .i64 a0), (1, .int .i64 a1), (2, .slice A1 a2.length c_1), (7, .pointer (some ⟨b17, 0, none⟩)), (9, .pointer (some ⟨b16, 0, none⟩)), (10, .int .i64 x18), (178, .bool true)] rfl rfl ?_
                            have h179 := h178.only [0, 0, 2] rfl
                            replace h179 : St w0 F0 [boxC b17 51 [.int .i64 r54.2.1, .slice A27 r54.2.2.1.length c_27, .int .u64 r54.2.2.2.1, .int .u64 r54.2.2.2.2], ownC 5 (.int .u8) r54.2.2.1 (.slice A27 r54.2.2.1.length c_27), boxC b16 40 [.int .i64 r53.1.1, .slice A26 r53.1.2.1.length c_26, .int .i64 r53.1.2.2.1, .int .i64 r53.1.2.2.2]] _ _ := h179
                            refine J.condT rfl ?_
                            refine J.seq ?_
                            refine J.region ?_
                            refine RJ.run ttok 1 rfl ?_
                            refine RJ.fin [(6, .bool false)] rfl ?_
                            have h180 := h179.only [] rfl
                            replace h180 : St w0 F0 [] _ _ := h180
                            refine J.ret ?_
                            obtain rfl := Option.some.inj H
                            exact ⟨_, _, _, (results_slots rfl), ⟨rfl, rfl⟩, h180.only [] rfl⟩
                          · replace H := ite_f c51 H
                            refine HJ.know (t := 168) rfl (congrArg Value.bool c51) ?_
                            refine HJ.run ttok rfl [24, 27] rfl ?_
                            refine HJ.q (i := 23) rfl rfl rfl rfl rfl rfl (q_load_box ttok 1 (fun w e => e) rfl rfl rfl rfl rfl) ?_
                            refine HJ.q (i := 25) rfl rfl rfl rfl rfl rfl (q_load_box ttok 4 (fun w e => e) rfl rfl rfl rfl rfl) ?_
                            refine HJ.run ttok rfl [26] rfl ?_
                            refine HJ.q (i := 28) rfl rfl rfl rfl rfl rfl (q_load_box ttok 4 (fun w e => e) rfl rfl rfl rfl rfl) ?_
                            refine HJ.run ttok rfl [29, 30, 31, 32] rfl ?_
                            refine HJ.fin [(0, .int .i64 a0), (1, .int .i64 a1), (2, .slice A1 a2.length c_1), (7, .pointer (some ⟨b17, 0, none⟩)), (9, .pointer (some ⟨b16, 0, none⟩)), (10, .int .i64 x18), (178, .bool (!((decide (r55.1 = (IntKind.u64.wrap (r53.1.2.2.1)))) && ((decide (r55.2 = (IntKind.u64.wrap (r53.1.2.2.2)))) && true))))] rfl rfl ?_
                            have h181 := h178.only [0, 0, 2] rfl
                            replace h181 : St w0 F0 [boxC b17 51 [.int .i64 r54.2.1, .slice A27 r54.2.2.1.length c_27, .int .u64 r54.2.2.2.1, .int .u64 r54.2.2.2.2], ownC 5 (.int .u8) r54.2.2.1 (.slice A27 r54.2.2.1.length c_27), boxC b16 40 [.int .i64 r53.1.1, .slice A26 r53.1.2.1.length c_26, .int .i64 r53.1.2.2.1, .int .i64 r53.1.2.2.2]] _ _ := h181
                            refine J.cond rfl (fun c52 => ?_) (fun c52 => ?_)
                            · replace H := ite_t c52 H
                              refine J.seq ?_
                              refine J.region ?_
                              refine RJ.run ttok 1 rfl ?_
                              refine RJ.fin [(6, .bool false)] rfl ?_
                              have h182 := h181.only [] rfl
                              replace h182 : St w0 F0 [] _ _ := h182
                              refine J.ret ?_
                              obtain rfl := Option.some.inj H
                              exact ⟨_, _, _, (results_slots rfl), ⟨rfl, rfl⟩, h182.only [] rfl⟩
                            · replace H := ite_f c52 H
                              refine J.skip ?_
                              refine J.region ?_
                              refine RJ.run ttok 3 rfl ?_
                              refine RJ.fin [(0, .int .i64 a0), (1, .int .i64 a1), (2, .slice A1 a2.length c_1), (7, .pointer (some ⟨b17, 0, none⟩)), (9, .pointer (some ⟨b16, 0, none⟩)), (10, .int .i64 (w64 (x18 + 1)))] rfl ?_
                              have h183 := ((h181.only [0, 1, 0] rfl).rds [7, 0] rfl)
                              exact ⟨k2, by omega, b17, r54.2.1, r54.2.2.1, A27, c_27, r54.2.2.2.1, r54.2.2.2.2, r53.1.1, r53.1.2.1, A26, c_26, r53.1.2.2.1, r53.1.2.2.2, (w64 (x18 + 1)), rfl, h183, H⟩
                  · rw [c47] at e; cases e
                · replace H := ite_f c47 H
                  refine J.region ?_
                  refine RJ.run ttok 2 rfl ?_
                  refine RJ.fin [(0, .int .i64 a0), (1, .int .i64 a1), (2, .slice A1 a2.length c_1), (7, .pointer (some ⟨b17, 0, none⟩)), (9, .pointer (some ⟨b16, 0, none⟩)), (10, .int .i64 x18), (11, .pointer (some ⟨b18, 0, none⟩)), (12, .bool true), (76, .int .i64 ((gt a2 x18).1)), (77, .bool (decide (((gt a2 x18).1) = 1)))] rfl ?_
                  refine J.cond rfl (fun c53 => ?_) (fun c53 => ?_)
                  · replace H := ite_t c53 H
                    refine J.seq ?_
                    refine J.region ?_
                    refine RJ.q rfl rfl (q_load_box ttok 2 h159.wht rfl rfl rfl rfl rfl) ?_
                    refine RJ.run ttok 1 rfl ?_
                    refine RJ.q rfl rfl (q_load_box ttok 0 h159.wht rfl rfl rfl rfl rfl) ?_
                    refine RJ.run ttok 1 rfl ?_
                    refine RJ.q rfl rfl (q_load_box ttok 0 h159.wht rfl rfl rfl rfl rfl) ?_
                    refine RJ.q rfl rfl (q_tostr ttok h159.wht (Gives.self 5 rfl) rfl rfl rfl rfl rfl) ?_
                    obtain ⟨r60, q57, H⟩ := bind_t H
                    refine RJ.op rfl rfl (op_callA [] (sluicegateref06_Write.spec q57) rfl rfl rfl h159 rfl (gcons (Gives.self 7 rfl) gnil)) ?_
                    rintro _ w96 ⟨_, _, ⟨A29, c_29, rfl, rfl, rfl⟩, h184⟩
                    replace h184 : St w0 F0 [boxC b18 30 [.int .i64 ((gt a2 x18).1), .int .u32 ((gt a2 x18).2.1), .slice A25 ((gt a2 x18).2.2).length c_25], boxC b17 51 [.int .i64 x10, .slice A23 x11.length c_23, .int .u64 x12, .int .u64 x13], boxC b16 40 [.int .i64 x14, .slice A24 x15.length c_24, .int .i64 x16, .int .i64 x17], ownC 5 (.int .u8) x11 (.slice A23 x11.length c_23)] _ _ := h184
                    refine RJ.run ttok 3 rfl ?_
                    refine RJ.op rfl rfl (op_alloc ttok rfl rfl h184) ?_
                    rintro _ w97 ⟨b21, rfl, h185⟩
                    replace h185 : St w0 F0 [boxC b21 40 [.int .i64 0, .slice none ([] : List (List UInt8)).length 0, .int .i64 0, .int .i64 0], boxC b18 30 [.int .i64 ((gt a2 x18).1), .int .u32 ((gt a2 x18).2.1), .slice A25 ((gt a2 x18).2.2).length c_25], boxC b17 51 [.int .i64 x10, .slice A23 x11.length c_23, .int .u64 x12, .int .u64 x13], boxC b16 40 [.int .i64 x14, .slice A24 x15.length c_24, .int .i64 x16, .int .i64 x17], ownC 5 (.int .u8) x11 (.slice A23 x11.length c_23)] _ _ := h185
                    refine RJ.op rfl rfl (op_store ttok 0 rfl h185 rfl rfl rfl rfl rfl rfl rfl) ?_
                    intro _ w98 h186
                    replace h186 : St w0 F0 [boxC b21 40 [.int .i64 r60.1.1, .slice A29 r60.1.2.1.length c_29, .int .i64 r60.1.2.2.1, .int .i64 r60.1.2.2.2], boxC b18 30 [.int .i64 ((gt a2 x18).1), .int .u32 ((gt a2 x18).2.1), .slice A25 ((gt a2 x18).2.2).length c_25], boxC b17 51 [.int .i64 x10, .slice A23 x11.length c_23, .int .u64 x12, .int .u64 x13], boxC b16 40 [.int .i64 x14, .slice A24 x15.length c_24, .int .i64 x16, .int .i64 x17], ownC 5 (.int .u8) x11 (.slice A23 x11.length c_23)] _ _ := h186
                    refine RJ.run ttok 1 rfl ?_
                    refine RJ.fin [(0, .int .i64 a0), (1, .int .i64 a1), (2, .slice A1 a2.length c_1), (7, .pointer (some ⟨b17, 0, none⟩)), (9, .pointer (some ⟨b16, 0, none⟩)), (10, .int .i64 x18), (11, .pointer (some ⟨b18, 0, none⟩)), (13, .pointer (some ⟨b21, 0, none⟩)), (14, .int .i64 r60.2)] rfl ?_
                    refine J.seq ?_
                    refine J.region ?_
                    refine RJ.q rfl rfl (q_load_box ttok 0 h186.wht rfl rfl rfl rfl rfl) ?_
                    refine RJ.op rfl rfl (op_store ttok 3 rfl h186 rfl rfl rfl rfl rfl rfl rfl) ?_
                    intro _ w99 h187
                    replace h187 : St w0 F0 [boxC b16 40 [.int .i64 r60.1.1, .slice A29 r60.1.2.1.length c_29, .int .i64 r60.1.2.2.1, .int .i64 r60.1.2.2.2], boxC b21 40 [.int .i64 r60.1.1, .slice A29 r60.1.2.1.length c_29, .int .i64 r60.1.2.2.1, .int .i64 r60.1.2.2.2], boxC b18 30 [.int .i64 ((gt a2 x18).1), .int .u32 ((gt a2 x18).2.1), .slice A25 ((gt a2 x18).2.2).length c_25], boxC b17 51 [.int .i64 x10, .slice A23 x11.length c_23, .int .u64 x12, .int .u64 x13], ownC 5 (.int .u8) x11 (.slice A23 x11.length c_23)] _ _ := h187
                    refine RJ.fin [(0, .int .i64 a0), (1, .int .i64 a1), (2, .slice A1 a2.length c_1), (7, .pointer (some ⟨b17, 0, none⟩)), (9, .pointer (some ⟨b16, 0, none⟩)), (10, .int .i64 x18), (11, .pointer (some ⟨b18, 0, none⟩)), (14, .int .i64 r60.2)] rfl ?_
                    refine J.region ?_
                    refine RJ.run ttok 2 rfl ?_
                    refine RJ.q rfl rfl (q_load_box ttok 2 h187.wht rfl rfl rfl rfl rfl) ?_
                    refine RJ.run ttok 1 rfl ?_
                    refine RJ.q rfl rfl (q_load_box ttok 2 h187.wht rfl rfl rfl rfl rfl) ?_
                    obtain ⟨r61, q58, H⟩ := bind_t H
                    refine RJ.op rfl rfl (op_call [3, 3] (dev_Device_Write.spec q58) rfl rfl rfl h187 rfl (gcons (Gives.self 5 rfl) gnil)) ?_
                    rintro _ w100 ⟨_, ⟨A30, c_30, rfl, rfl⟩, h188⟩
                    replace h188 : St w0 F0 [boxC b17 51 [.int .i64 r61.2.1, .slice A30 r61.2.2.1.length c_30, .int .u64 r61.2.2.2.1, .int .u64 r61.2.2.2.2], ownC 5 (.int .u8) r61.2.2.1 (.slice A30 r61.2.2.1.length c_30), boxC b16 40 [.int .i64 r60.1.1, .slice A29 r60.1.2.1.length c_29, .int .i64 r60.1.2.2.1, .int .i64 r60.1.2.2.2], boxC b21 40 [.int .i64 r60.1.1, .slice A29 r60.1.2.1.length c_29, .int .i64 r60.1.2.2.1, .int .i64 r60.1.2.2.2], boxC b18 30 [.int .i64 ((gt a2 x18).1), .int .u32 ((gt a2 x18).2.1), .slice A25 ((gt a2 x18).2.2).length c_25]] _ _ := h188
                    refine RJ.run ttok 3 rfl ?_
                    refine RJ.fin [(0, .int .i64 a0), (1, .int .i64 a1), (2, .slice A1 a2.length c_1), (7, .pointer (some ⟨b17, 0, none⟩)), (9, .pointer (some ⟨b16, 0, none⟩)), (10, .int .i64 x18), (12, .bool (decide (r61.1 = r60.2)))] rfl ?_
                    have h189 := h188.only [0, 0, 0] rfl
                    replace h189 : St w0 F0 [boxC b17 51 [.int .i64 r61.2.1, .slice A30 r61.2.2.1.length c_30, .int .u64 r61.2.2.2.1, .int .u64 r61.2.2.2.2], ownC 5 (.int .u8) r61.2.2.1 (.slice A30 r61.2.2.1.length c_30), boxC b16 40 [.int .i64 r60.1.1, .slice A29 r60.1.2.1.length c_29, .int .i64 r60.1.2.2.1, .int .i64 r60.1.2.2.2]] _ _ := h189
                    refine J.seq ?_
                    refine J.region ?_
                    refine RJ.run ttok 1 rfl ?_
                    obtain ⟨r62, q59, H⟩ := bind_t H
                    refine RJ.op rfl rfl (op_call [0, 0] (dev_Device_Stats.spec q59) rfl rfl rfl h189 rfl gnil) ?_
                    rintro _ w101 ⟨_, ⟨rfl, rfl⟩, h190⟩
                    replace h190 : St w0 F0 [boxC b17 51 [.int .i64 r61.2.1, .slice A30 r61.2.2.1.length c_30, .int .u64 r61.2.2.2.1, .int .u64 r61.2.2.2.2], ownC 5 (.int .u8) r61.2.2.1 (.slice A30 r61.2.2.1.length c_30), boxC b16 40 [.int .i64 r60.1.1, .slice A29 r60.1.2.1.length c_29, .int .i64 r60.1.2.2.1, .int .i64 r60.1.2.2.2]] _ _ := h190
                    refine RJ.op rfl rfl (op_alloc ttok rfl rfl h190) ?_
                    rintro _ w102 ⟨b22, rfl, h191⟩
                    replace h191 : St w0 F0 [boxC b22 49 [.int .u64 0, .int .u64 0], boxC b17 51 [.int .i64 r61.2.1, .slice A30 r61.2.2.1.length c_30, .int .u64 r61.2.2.2.1, .int .u64 r61.2.2.2.2], ownC 5 (.int .u8) r61.2.2.1 (.slice A30 r61.2.2.1.length c_30), boxC b16 40 [.int .i64 r60.1.1, .slice A29 r60.1.2.1.length c_29, .int .i64 r60.1.2.2.1, .int .i64 r60.1.2.2.2]] _ _ := h191
                    refine RJ.op rfl rfl (op_store ttok 0 rfl h191 rfl rfl rfl rfl rfl rfl rfl) ?_
                    intro _ w103 h192
                    replace h192 : St w0 F0 [boxC b22 49 [.int .u64 r62.1, .int .u64 r62.2], boxC b17 51 [.int .i64 r61.2.1, .slice A30 r61.2.2.1.length c_30, .int .u64 r61.2.2.2.1, .int .u64 r61.2.2.2.2], ownC 5 (.int .u8) r61.2.2.1 (.slice A30 r61.2.2.1.length c_30), boxC b16 40 [.int .i64 r60.1.1, .slice A29 r60.1.2.1.length c_29, .int .i64 r60.1.2.2.1, .int .i64 r60.1.2.2.2]] _ _ := h192
                    refine RJ.fin [(0, .int .i64 a0), (1, .int .i64 a1), (2, .slice A1 a2.length c_1), (7, .pointer (some ⟨b17, 0, none⟩)), (9, .pointer (some ⟨b16, 0, none⟩)), (10, .int .i64 x18), (12, .bool (decide (r61.1 = r60.2))), (22, .pointer (some ⟨b22, 0, none⟩))] rfl ?_
                    refine J.seq ?_
                    refine J.heldSt mix h192 ?_
                    have h193 := h192.drew
                    refine HJ.run ttok rfl [0, 1, 2] rfl ?_
                    rcases Bool.eq_false_or_eq_true (!(decide (r61.1 = r60.2))) with c54 | c54
                    · replace H := ite_t c54 H
                      refine HJ.know (t := 148) rfl (congrArg Value.bool c54) ?_
                      refine HJ.run ttok rfl [3, 4, 5, 6, 7, 8, 9, 10, 11, 12, 13, 14, 15, 16, 17, 18, 19, 20, 21, 22, 23, 24, 25, 26, 27, 28, 29, 30, 31, 32] rfl ?_
                      refine HJ.fin [(0, .int .i64 a0), (1, .int .i64 a1), (2, .slice A1 a2.length c_1), (7, .pointer (some ⟨b17, 0, none⟩)), (9, .pointer (some ⟨b16, 0, none⟩)), (10, .int .i64 x18), (178, .bool true)] rfl rfl ?_
                      refine J.condT rfl ?_
                      refine J.seq ?_
                      refine J.region ?_
                      refine RJ.run ttok 1 rfl ?_
                      refine RJ.fin [(6, .bool false)] rfl ?_
                      have h194 := h193.only [] rfl
                      replace h194 : St w0 F0 [] _ _ := h194
                      refine J.ret ?_
                      obtain rfl := Option.some.inj H
                      exact ⟨_, _, _, (results_slots rfl), ⟨rfl, rfl⟩, h194.only [] rfl⟩
                    · replace H := ite_f c54 H
                      refine HJ.know (t := 148) rfl (congrArg Value.bool c54) ?_
                      refine HJ.run ttok rfl [3] rfl ?_
                      refine HJ.q (i := 6) rfl rfl rfl rfl rfl rfl (q_load_box ttok 3 (fun w e => e) rfl rfl rfl rfl rfl) ?_
                      obtain ⟨r63, q60, H⟩ := bind_t H
                      refine HJ.op (i := 4) rfl rfl rfl rfl rfl (op_call [1, 1] (dev_Device_Image.spec q60) rfl rfl rfl h193 rfl gnil) ?_
                      rintro _ w104 ⟨_, ⟨A31, c_31, rfl, rfl⟩, h195⟩
                      replace h195 : St w0 F0 [ownC 5 (.int .u8) r63 (.slice A31 r63.length c_31), boxC b17 51 [.int .i64 r61.2.1, .slice A30 r61.2.2.1.length c_30, .int .u64 r61.2.2.2.1, .int .u64 r61.2.2.2.2], ownC 5 (.int .u8) r61.2.2.1 (.slice A30 r61.2.2.1.length c_30), boxC b22 49 [.int .u64 r62.1, .int .u64 r62.2], boxC b16 40 [.int .i64 r60.1.1, .slice A29 r60.1.2.1.length c_29, .int .i64 r60.1.2.2.1, .int .i64 r60.1.2.2.2]] _ _ := h195
                      refine ⟨⟨[_], (h195.only [0, 2, 0, 0, 0] rfl)⟩, ?_⟩
                      refine HJ.more ⟨[], (h195.only [0, 2, 0, 0, 0] rfl)⟩ ?_
                      refine HJ.q (i := 5) rfl rfl rfl rfl rfl rfl (q_tostr ttok (fun w e => e) (Gives.of 0 rfl own_rd) rfl rfl rfl rfl rfl) ?_
                      obtain ⟨r64, q61, H⟩ := bind_t H
                      refine HJ.op (i := 7) rfl rfl rfl rfl rfl (op_call [] (sluicegateref06_Image.spec q61) rfl rfl rfl h195 rfl (gcons (Gives.self 5 rfl) gnil)) ?_
                      rintro _ w105 ⟨_, ⟨rfl, rfl⟩, h196⟩
                      replace h196 : St w0 F0 [ownC 5 (.int .u8) r63 (.slice A31 r63.length c_31), boxC b17 51 [.int .i64 r61.2.1, .slice A30 r61.2.2.1.length c_30, .int .u64 r61.2.2.2.1, .int .u64 r61.2.2.2.2], ownC 5 (.int .u8) r61.2.2.1 (.slice A30 r61.2.2.1.length c_30), boxC b22 49 [.int .u64 r62.1, .int .u64 r62.2], boxC b16 40 [.int .i64 r60.1.1, .slice A29 r60.1.2.1.length c_29, .int .i64 r60.1.2.2.1, .int .i64 r60.1.2.2.2]] _ _ := h196
                      refine ⟨⟨[], (h196.only [0, 2, 0, 0, 0] rfl)⟩, ?_⟩
                      refine HJ.run ttok rfl [8, 9, 10] rfl ?_
                      rcases Bool.eq_false_or_eq_true (!decide ((toS r63) = r64)) with c55 | c55
                      · replace H := ite_t c55 H
                        refine HJ.know (t := 156) rfl (congrArg Value.bool c55) ?_
                        refine HJ.run ttok rfl [11, 12, 13, 14, 15, 16, 17, 18, 19, 20, 21, 22, 23, 24, 25, 26, 27, 28, 29, 30, 31, 32] rfl ?_
                        refine HJ.fin [(0, .int .i64 a0), (1, .int .i64 a1), (2, .slice A1 a2.length c_1), (7, .pointer (some ⟨b17, 0, none⟩)), (9, .pointer (some ⟨b16, 0, none⟩)), (10, .int .i64 x18), (178, .bool true)] rfl rfl ?_
                        have h197 := h196.only [1, 1, 2] rfl
                        replace h197 : St w0 F0 [boxC b17 51 [.int .i64 r61.2.1, .slice A30 r61.2.2.1.length c_30, .int .u64 r61.2.2.2.1, .int .u64 r61.2.2.2.2], ownC 5 (.int .u8) r61.2.2.1 (.slice A30 r61.2.2.1.length c_30), boxC b16 40 [.int .i64 r60.1.1, .slice A29 r60.1.2.1.length c_29, .int .i64 r60.1.2.2.1, .int .i64 r60.1.2.2.2]] _ _ := h197
                        refine J.condT rfl ?_
                        refine J.seq ?_
                        refine J.region ?_
                        refine RJ.run ttok 1 rfl ?_
                        refine RJ.fin [(6, .bool false)] rfl ?_
                        have h198 := h197.only [] rfl
                        replace h198 : St w0 F0 [] _ _ := h198
                        refine J.ret ?_
                        obtain rfl := Option.some.inj H
                        exact ⟨_, _, _, (results_slots rfl), ⟨rfl, rfl⟩, h198.only [] rfl⟩
                      · replace H := ite_f c55 H
                        refine HJ.know (t := 156) rfl (congrArg Value.bool c55) ?_
                        refine HJ.run ttok rfl [11, 13] rfl ?_
                        obtain ⟨r65, q62, H⟩ := bind_t H
                        refine HJ.op (i := 12) rfl rfl rfl rfl rfl (op_call [1, 1] (dev_Device_Blocks.spec q62) rfl rfl rfl h196 rfl gnil) ?_
                        rintro _ w106 ⟨_, ⟨rfl, rfl⟩, h199⟩
                        replace h199 : St w0 F0 [boxC b17 51 [.int .i64 r61.2.1, .slice A30 r61.2.2.1.length c_30, .int .u64 r61.2.2.2.1, .int .u64 r61.2.2.2.2], ownC 5 (.int .u8) r61.2.2.1 (.slice A30 r61.2.2.1.length c_30), ownC 5 (.int .u8) r63 (.slice A31 r63.length c_31), boxC b22 49 [.int .u64 r62.1, .int .u64 r62.2], boxC b16 40 [.int .i64 r60.1.1, .slice A29 r60.1.2.1.length c_29, .int .i64 r60.1.2.2.1, .int .i64 r60.1.2.2.2]] _ _ := h199
                        refine ⟨⟨[], (h199.only [2, 2, 0, 0, 0] rfl)⟩, ?_⟩
                        refine HJ.run ttok rfl [14, 15, 16] rfl ?_
                        rcases Bool.eq_false_or_eq_true (!decide (r65 = a0)) with c56 | c56
                        · replace H := ite_t c56 H
                          refine HJ.know (t := 162) rfl (congrArg Value.bool c56) ?_
                          refine HJ.run ttok rfl [17, 18, 19, 20, 21, 22, 23, 24, 25, 26, 27, 28, 29, 30, 31, 32] rfl ?_
                          refine HJ.fin [(0, .int .i64 a0), (1, .int .i64 a1), (2, .slice A1 a2.length c_1), (7, .pointer (some ⟨b17, 0, none⟩)), (9, .pointer (some ⟨b16, 0, none⟩)), (10, .int .i64 x18), (178, .bool true)] rfl rfl ?_
                          have h200 := h199.only [0, 0, 2] rfl
                          replace h200 : St w0 F0 [boxC b17 51 [.int .i64 r61.2.1, .slice A30 r61.2.2.1.length c_30, .int .u64 r61.2.2.2.1, .int .u64 r61.2.2.2.2], ownC 5 (.int .u8) r61.2.2.1 (.slice A30 r61.2.2.1.length c_30), boxC b16 40 [.int .i64 r60.1.1, .slice A29 r60.1.2.1.length c_29, .int .i64 r60.1.2.2.1, .int .i64 r60.1.2.2.2]] _ _ := h200
                          refine J.condT rfl ?_
                          refine J.seq ?_
                          refine J.region ?_
                          refine RJ.run ttok 1 rfl ?_
                          refine RJ.fin [(6, .bool false)] rfl ?_
                          have h201 := h200.only [] rfl
                          replace h201 : St w0 F0 [] _ _ := h201
                          refine J.ret ?_
                          obtain rfl := Option.some.inj H
                          exact ⟨_, _, _, (results_slots rfl), ⟨rfl, rfl⟩, h201.only [] rfl⟩
                        · replace H := ite_f c56 H
                          refine HJ.know (t := 162) rfl (congrArg Value.bool c56) ?_
                          refine HJ.run ttok rfl [17, 19] rfl ?_
                          obtain ⟨r66, q63, H⟩ := bind_t H
                          refine HJ.op (i := 18) rfl rfl rfl rfl rfl (op_call [0, 0] (dev_Device_Bytes.spec q63) rfl rfl rfl h199 rfl gnil) ?_
                          rintro _ w107 ⟨_, ⟨rfl, rfl⟩, h202⟩
                          replace h202 : St w0 F0 [boxC b17 51 [.int .i64 r61.2.1, .slice A30 r61.2.2.1.length c_30, .int .u64 r61.2.2.2.1, .int .u64 r61.2.2.2.2], ownC 5 (.int .u8) r61.2.2.1 (.slice A30 r61.2.2.1.length c_30), ownC 5 (.int .u8) r63 (.slice A31 r63.length c_31), boxC b22 49 [.int .u64 r62.1, .int .u64 r62.2], boxC b16 40 [.int .i64 r60.1.1, .slice A29 r60.1.2.1.length c_29, .int .i64 r60.1.2.2.1, .int .i64 r60.1.2.2.2]] _ _ := h202
                          refine ⟨⟨[], (h202.only [2, 2, 0, 0, 0] rfl)⟩, ?_⟩
                          refine HJ.run ttok rfl [20, 21, 22] rfl ?_
                          rcases Bool.eq_false_or_eq_true (!decide (r66 = a1)) with c57 | c57
                          · replace H := ite_t c57 H
                            refine HJ.know (t := 168) rfl (congrArg Value.bool c57) ?_
                            refine HJ.run ttok rfl [23, 24, 25, 26, 27, 28, 29, 30, 31, 32] rfl ?_
                            refine HJ.fin [(0, .int .i64 a0), (1, .int .i64 a1), (2, .slice A1 a2.length c_1), (7, .pointer (some ⟨b17, 0, none⟩)), (9, .pointer (some ⟨b16, 0, none⟩)), (10, .int .i64 x18), (178, .bool true)] rfl rfl ?_
                            have h203 := h202.only [0, 0, 2] rfl
                            replace h203 : St w0 F0 [boxC b17 51 [.int .i64 r61.2.1, .slice A30 r61.2.2.1.length c_30, .int .u64 r61.2.2.2.1, .int .u64 r61.2.2.2.2], ownC 5 (.int .u8) r61.2.2.1 (.slice A30 r61.2.2.1.length c_30), boxC b16 40 [.int .i64 r60.1.1, .slice A29 r60.1.2.1.length c_29, .int .i64 r60.1.2.2.1, .int .i64 r60.1.2.2.2]] _ _ := h203
                            refine J.condT rfl ?_
                            refine J.seq ?_
                            refine J.region ?_
                            refine RJ.run ttok 1 rfl ?_
                            refine RJ.fin [(6, .bool false)] rfl ?_
                            have h204 := h203.only [] rfl
                            replace h204 : St w0 F0 [] _ _ := h204
                            refine J.ret ?_
                            obtain rfl := Option.some.inj H
                            exact ⟨_, _, _, (results_slots rfl), ⟨rfl, rfl⟩, h204.only [] rfl⟩
                          · replace H := ite_f c57 H
                            refine HJ.know (t := 168) rfl (congrArg Value.bool c57) ?_
                            refine HJ.run ttok rfl [24, 27] rfl ?_
                            refine HJ.q (i := 23) rfl rfl rfl rfl rfl rfl (q_load_box ttok 1 (fun w e => e) rfl rfl rfl rfl rfl) ?_
                            refine HJ.q (i := 25) rfl rfl rfl rfl rfl rfl (q_load_box ttok 4 (fun w e => e) rfl rfl rfl rfl rfl) ?_
                            refine HJ.run ttok rfl [26] rfl ?_
                            refine HJ.q (i := 28) rfl rfl rfl rfl rfl rfl (q_load_box ttok 4 (fun w e => e) rfl rfl rfl rfl rfl) ?_
                            refine HJ.run ttok rfl [29, 30, 31, 32] rfl ?_
                            refine HJ.fin [(0, .int .i64 a0), (1, .int .i64 a1), (2, .slice A1 a2.length c_1), (7, .pointer (some ⟨b17, 0, none⟩)), (9, .pointer (some ⟨b16, 0, none⟩)), (10, .int .i64 x18), (178, .bool (!((decide (r62.1 = (IntKind.u64.wrap (r60.1.2.2.1)))) && ((decide (r62.2 = (IntKind.u64.wrap (r60.1.2.2.2)))) && true))))] rfl rfl ?_
                            have h205 := h202.only [0, 0, 2] rfl
                            replace h205 : St w0 F0 [boxC b17 51 [.int .i64 r61.2.1, .slice A30 r61.2.2.1.length c_30, .int .u64 r61.2.2.2.1, .int .u64 r61.2.2.2.2], ownC 5 (.int .u8) r61.2.2.1 (.slice A30 r61.2.2.1.length c_30), boxC b16 40 [.int .i64 r60.1.1, .slice A29 r60.1.2.1.length c_29, .int .i64 r60.1.2.2.1, .int .i64 r60.1.2.2.2]] _ _ := h205
                            refine J.cond rfl (fun c58 => ?_) (fun c58 => ?_)
                            · replace H := ite_t c58 H
                              refine J.seq ?_
                              refine J.region ?_
                              refine RJ.run ttok 1 rfl ?_
                              refine RJ.fin [(6, .bool false)] rfl ?_
                              have h206 := h205.only [] rfl
                              replace h206 : St w0 F0 [] _ _ := h206
                              refine J.ret ?_
                              obtain rfl := Option.some.inj H
                              exact ⟨_, _, _, (results_slots rfl), ⟨rfl, rfl⟩, h206.only [] rfl⟩
                            · replace H := ite_f c58 H
                              refine J.skip ?_
                              refine J.region ?_
                              refine RJ.run ttok 3 rfl ?_
                              refine RJ.fin [(0, .int .i64 a0), (1, .int .i64 a1), (2, .slice A1 a2.length c_1), (7, .pointer (some ⟨b17, 0, none⟩)), (9, .pointer (some ⟨b16, 0, none⟩)), (10, .int .i64 (w64 (x18 + 1)))] rfl ?_
                              have h207 := ((h205.only [0, 1, 0] rfl).rds [7, 0] rfl)
                              exact ⟨k2, by omega, b17, r61.2.1, r61.2.2.1, A30, c_30, r61.2.2.2.1, r61.2.2.2.2, r60.1.1, r60.1.2.1, A29, c_29, r60.1.2.2.1, r60.1.2.2.2, (w64 (x18 + 1)), rfl, h207, H⟩
                  · replace H := ite_f c53 H
                    refine J.seq ?_
                    refine J.region ?_
                    refine RJ.run ttok 2 rfl ?_
                    refine RJ.fin [(0, .int .i64 a0), (1, .int .i64 a1), (2, .slice A1 a2.length c_1), (7, .pointer (some ⟨b17, 0, none⟩)), (9, .pointer (some ⟨b16, 0, none⟩)), (10, .int .i64 x18), (11, .pointer (some ⟨b18, 0, none⟩)), (12, .bool true), (76, .int .i64 ((gt a2 x18).1)), (99, .bool (decide (((gt a2 x18).1) = 2)))] rfl ?_
                    refine J.cond rfl (fun c59 => ?_) (fun c59 => ?_)
                    · replace H := ite_t c59 H
                      refine J.seq ?_
                      refine J.region ?_
                      refine RJ.q rfl rfl (q_load_box ttok 2 h159.wht rfl rfl rfl rfl rfl) ?_
                      refine RJ.run ttok 1 rfl ?_
                      refine RJ.q rfl rfl (q_load_box ttok 0 h159.wht rfl rfl rfl rfl rfl) ?_
                      obtain ⟨r67, q64, H⟩ := bind_t H
                      refine RJ.op rfl rfl (op_callA [] (sluicegateref06_Read.spec q64) rfl rfl rfl h159 rfl (gcons (Gives.self 7 rfl) gnil)) ?_
                      rintro _ w108 ⟨_, _, ⟨A32, c_32, rfl, rfl, rfl⟩, h208⟩
                      replace h208 : St w0 F0 [boxC b18 30 [.int .i64 ((gt a2 x18).1), .int .u32 ((gt a2 x18).2.1), .slice A25 ((gt a2 x18).2.2).length c_25], boxC b17 51 [.int .i64 x10, .slice A23 x11.length c_23, .int .u64 x12, .int .u64 x13], boxC b16 40 [.int .i64 x14, .slice A24 x15.length c_24, .int .i64 x16, .int .i64 x17], ownC 5 (.int .u8) x11 (.slice A23 x11.length c_23)] _ _ := h208
                      refine RJ.run ttok 4 rfl ?_
                      refine RJ.op rfl rfl (op_alloc ttok rfl rfl h208) ?_
                      rintro _ w109 ⟨b23, rfl, h209⟩
                      replace h209 : St w0 F0 [boxC b23 40 [.int .i64 0, .slice none ([] : List (List UInt8)).length 0, .int .i64 0, .int .i64 0], boxC b18 30 [.int .i64 ((gt a2 x18).1), .int .u32 ((gt a2 x18).2.1), .slice A25 ((gt a2 x18).2.2).length c_25], boxC b17 51 [.int .i64 x10, .slice A23 x11.length c_23, .int .u64 x12, .int .u64 x13], boxC b16 40 [.int .i64 x14, .slice A24 x15.length c_24, .int .i64 x16, .int .i64 x17], ownC 5 (.int .u8) x11 (.slice A23 x11.length c_23)] _ _ := h209
                      refine RJ.op rfl rfl (op_store ttok 0 rfl h209 rfl rfl rfl rfl rfl rfl rfl) ?_
                      intro _ w110 h210
                      replace h210 : St w0 F0 [boxC b23 40 [.int .i64 r67.1.1, .slice A32 r67.1.2.1.length c_32, .int .i64 r67.1.2.2.1, .int .i64 r67.1.2.2.2], boxC b18 30 [.int .i64 ((gt a2 x18).1), .int .u32 ((gt a2 x18).2.1), .slice A25 ((gt a2 x18).2.2).length c_25], boxC b17 51 [.int .i64 x10, .slice A23 x11.length c_23, .int .u64 x12, .int .u64 x13], boxC b16 40 [.int .i64 x14, .slice A24 x15.length c_24, .int .i64 x16, .int .i64 x17], ownC 5 (.int .u8) x11 (.slice A23 x11.length c_23)] _ _ := h210
                      refine RJ.run ttok 2 rfl ?_
                      refine RJ.fin [(0, .int .i64 a0), (1, .int .i64 a1), (2, .slice A1 a2.length c_1), (7, .pointer (some ⟨b17, 0, none⟩)), (9, .pointer (some ⟨b16, 0, none⟩)), (10, .int .i64 x18), (11, .pointer (some ⟨b18, 0, none⟩)), (15, .pointer (some ⟨b23, 0, none⟩)), (16, .string ⟨⟨r67.2.1⟩⟩), (17, .int .i64 r67.2.2)] rfl ?_
                      refine J.seq ?_
                      refine J.region ?_
                      refine RJ.q rfl rfl (q_load_box ttok 0 h210.wht rfl rfl rfl rfl rfl) ?_
                      refine RJ.op rfl rfl (op_store ttok 3 rfl h210 rfl rfl rfl rfl rfl rfl rfl) ?_
                      intro _ w111 h211
                      replace h211 : St w0 F0 [boxC b16 40 [.int .i64 r67.1.1, .slice A32 r67.1.2.1.length c_32, .int .i64 r67.1.2.2.1, .int .i64 r67.1.2.2.2], boxC b23 40 [.int .i64 r67.1.1, .slice A32 r67.1.2.1.length c_32, .int .i64 r67.1.2.2.1, .int .i64 r67.1.2.2.2], boxC b18 30 [.int .i64 ((gt a2 x18).1), .int .u32 ((gt a2 x18).2.1), .slice A25 ((gt a2 x18).2.2).length c_25], boxC b17 51 [.int .i64 x10, .slice A23 x11.length c_23, .int .u64 x12, .int .u64 x13], ownC 5 (.int .u8) x11 (.slice A23 x11.length c_23)] _ _ := h211
                      refine RJ.fin [(0, .int .i64 a0), (1, .int .i64 a1), (2, .slice A1 a2.length c_1), (7, .pointer (some ⟨b17, 0, none⟩)), (9, .pointer (some ⟨b16, 0, none⟩)), (10, .int .i64 x18), (11, .pointer (some ⟨b18, 0, none⟩)), (16, .string ⟨⟨r67.2.1⟩⟩), (17, .int .i64 r67.2.2)] rfl ?_
                      refine J.seq ?_
                      refine J.region ?_
                      refine RJ.run ttok 2 rfl ?_
                      refine RJ.q rfl rfl (q_load_box ttok 2 h211.wht rfl rfl rfl rfl rfl) ?_
                      obtain ⟨r68, q65, H⟩ := bind_t H
                      refine RJ.op rfl rfl (op_call [3, 3] (dev_Device_Read.spec q65) rfl rfl rfl h211 rfl gnil) ?_
                      rintro _ w112 ⟨_, ⟨A33, c_33, A34, c_34, rfl, rfl⟩, h212⟩
                      replace h212 : St w0 F0 [ownC 5 (.int .u8) r68.1 (.slice A33 r68.1.length c_33), boxC b17 51 [.int .i64 r68.2.2.1, .slice A34 r68.2.2.2.1.length c_34, .int .u64 r68.2.2.2.2.1, .int .u64 r68.2.2.2.2.2], ownC 5 (.int .u8) r68.2.2.2.1 (.slice A34 r68.2.2.2.1.length c_34), boxC b16 40 [.int .i64 r67.1.1, .slice A32 r67.1.2.1.length c_32, .int .i64 r67.1.2.2.1, .int .i64 r67.1.2.2.2], boxC b23 40 [.int .i64 r67.1.1, .slice A32 r67.1.2.1.length c_32, .int .i64 r67.1.2.2.1, .int .i64 r67.1.2.2.2], boxC b18 30 [.int .i64 ((gt a2 x18).1), .int .u32 ((gt a2 x18).2.1), .slice A25 ((gt a2 x18).2.2).length c_25]] _ _ := h212
                      refine RJ.run ttok 5 rfl ?_
                      refine RJ.fin [(0, .int .i64 a0), (1, .int .i64 a1), (2, .slice A1 a2.length c_1), (7, .pointer (some ⟨b17, 0, none⟩)), (9, .pointer (some ⟨b16, 0, none⟩)), (10, .int .i64 x18), (16, .string ⟨⟨r67.2.1⟩⟩), (17, .int .i64 r67.2.2), (18, .slice A33 r68.1.length c_33), (19, .int .i64 r68.2.1)] rfl ?_
                      have h213 := h212.only [0, 0, 0, 0] rfl
                      replace h213 : St w0 F0 [ownC 5 (.int .u8) r68.1 (.slice A33 r68.1.length c_33), boxC b17 51 [.int .i64 r68.2.2.1, .slice A34 r68.2.2.2.1.length c_34, .int .u64 r68.2.2.2.2.1, .int .u64 r68.2.2.2.2.2], ownC 5 (.int .u8) r68.2.2.2.1 (.slice A34 r68.2.2.2.1.length c_34), boxC b16 40 [.int .i64 r67.1.1, .slice A32 r67.1.2.1.length c_32, .int .i64 r67.1.2.2.1, .int .i64 r67.1.2.2.2]] _ _ := h213
                      refine J.region ?_
                      refine RJ.run ttok 1 rfl ?_
                      refine RJ.q rfl rfl (q_tostr ttok h213.wht (Gives.of 0 rfl own_rd) rfl rfl rfl rfl rfl) ?_
                      refine RJ.run ttok 3 rfl ?_
                      rcases Bool.eq_false_or_eq_true (decide ((toS r68.1) = r67.2.1)) with c60 | c60
                      · replace H := ite_t c60 H
                        refine RJ.know (t := 121) rfl (congrArg Value.bool c60) ?_
                        refine RJ.run ttok 5 rfl ?_
                        refine RJ.fin [(0, .int .i64 a0), (1, .int .i64 a1), (2, .slice A1 a2.length c_1), (7, .pointer (some ⟨b17, 0, none⟩)), (9, .pointer (some ⟨b16, 0, none⟩)), (10, .int .i64 x18), (12, .bool (decide (r68.2.1 = r67.2.2)))] rfl ?_
                        refine J.seq ?_
                        refine J.region ?_
                        refine RJ.run ttok 1 rfl ?_
                        obtain ⟨r69, q66, H⟩ := bind_t H
                        refine RJ.op rfl rfl (op_call [1, 1] (dev_Device_Stats.spec q66) rfl rfl rfl h213 rfl gnil) ?_
                        rintro _ w113 ⟨_, ⟨rfl, rfl⟩, h214⟩
                        replace h214 : St w0 F0 [boxC b17 51 [.int .i64 r68.2.2.1, .slice A34 r68.2.2.2.1.length c_34, .int .u64 r68.2.2.2.2.1, .int .u64 r68.2.2.2.2.2], ownC 5 (.int .u8) r68.2.2.2.1 (.slice A34 r68.2.2.2.1.length c_34), ownC 5 (.int .u8) r68.1 (.slice A33 r68.1.length c_33), boxC b16 40 [.int .i64 r67.1.1, .slice A32 r67.1.2.1.length c_32, .int .i64 r67.1.2.2.1, .int .i64 r67.1.2.2.2]] _ _ := h214
                        refine RJ.op rfl rfl (op_alloc ttok rfl rfl h214) ?_
                        rintro _ w114 ⟨b24, rfl, h215⟩
                        replace h215 : St w0 F0 [boxC b24 49 [.int .u64 0, .int .u64 0], boxC b17 51 [.int .i64 r68.2.2.1, .slice A34 r68.2.2.2.1.length c_34, .int .u64 r68.2.2.2.2.1, .int .u64 r68.2.2.2.2.2], ownC 5 (.int .u8) r68.2.2.2.1 (.slice A34 r68.2.2.2.1.length c_34), ownC 5 (.int .u8) r68.1 (.slice A33 r68.1.length c_33), boxC b16 40 [.int .i64 r67.1.1, .slice A32 r67.1.2.1.length c_32, .int .i64 r67.1.2.2.1, .int .i64 r67.1.2.2.2]] _ _ := h215
                        refine RJ.op rfl rfl (op_store ttok 0 rfl h215 rfl rfl rfl rfl rfl rfl rfl) ?_
                        intro _ w115 h216
                        replace h216 : St w0 F0 [boxC b24 49 [.int .u64 r69.1, .int .u64 r69.2], boxC b17 51 [.int .i64 r68.2.2.1, .slice A34 r68.2.2.2.1.length c_34, .int .u64 r68.2.2.2.2.1, .int .u64 r68.2.2.2.2.2], ownC 5 (.int .u8) r68.2.2.2.1 (.slice A34 r68.2.2.2.1.length c_34), ownC 5 (.int .u8) r68.1 (.slice A33 r68.1.length c_33), boxC b16 40 [.int .i64 r67.1.1, .slice A32 r67.1.2.1.length c_32, .int .i64 r67.1.2.2.1, .int .i64 r67.1.2.2.2]] _ _ := h216
                        refine RJ.fin [(0, .int .i64 a0), (1, .int .i64 a1), (2, .slice A1 a2.length c_1), (7, .pointer (some ⟨b17, 0, none⟩)), (9, .pointer (some ⟨b16, 0, none⟩)), (10, .int .i64 x18), (12, .bool (decide (r68.2.1 = r67.2.2))), (22, .pointer (some ⟨b24, 0, none⟩))] rfl ?_
                        refine J.seq ?_
                        refine J.heldSt mix h216 ?_
                        have h217 := h216.drew
                        refine HJ.run ttok rfl [0, 1, 2] rfl ?_
                        rcases Bool.eq_false_or_eq_true (!(decide (r68.2.1 = r67.2.2))) with c61 | c61
                        · replace H := ite_t c61 H
                          refine HJ.know (t := 148) rfl (congrArg Value.bool c61) ?_
                          refine HJ.run ttok rfl [3, 4, 5, 6, 7, 8, 9, 10, 11, 12, 13, 14, 15, 16, 17, 18, 19, 20, 21, 22, 23, 24, 25, 26, 27, 28, 29, 30, 31, 32] rfl ?_
                          refine HJ.fin [(0, .int .i64 a0), (1, .int .i64 a1), (2, .slice A1 a2.length c_1), (7, .pointer (some ⟨b17, 0, none⟩)), (9, .pointer (some ⟨b16, 0, none⟩)), (10, .int .i64 x18), (178, .bool true)] rfl rfl ?_
                          have h218 := h217.only [1, 1, 2] rfl
                          replace h218 : St w0 F0 [boxC b17 51 [.int .i64 r68.2.2.1, .slice A34 r68.2.2.2.1.length c_34, .int .u64 r68.2.2.2.2.1, .int .u64 r68.2.2.2.2.2], ownC 5 (.int .u8) r68.2.2.2.1 (.slice A34 r68.2.2.2.1.length c_34), boxC b16 40 [.int .i64 r67.1.1, .slice A32 r67.1.2.1.length c_32, .int .i64 r67.1.2.2.1, .int .i64 r67.1.2.2.2]] _ _ := h218
                          refine J.condT rfl ?_
                          refine J.seq ?_
                          refine J.region ?_
                          refine RJ.run ttok 1 rfl ?_
                          refine RJ.fin [(6, .bool false)] rfl ?_
                          have h219 := h218.only [] rfl
                          replace h219 : St w0 F0 [] _ _ := h219
                          refine J.ret ?_
                          obtain rfl := Option.some.inj H
                          exact ⟨_, _, _, (results_slots rfl), ⟨rfl, rfl⟩, h219.only [] rfl⟩
                        · replace H := ite_f c61 H
                          refine HJ.know (t := 148) rfl (congrArg Value.bool c61) ?_
                          refine HJ.run ttok rfl [3] rfl ?_
                          refine HJ.q (i := 6) rfl rfl rfl rfl rfl rfl (q_load_box ttok 4 (fun w e => e) rfl rfl rfl rfl rfl) ?_
                          obtain ⟨r70, q67, H⟩ := bind_t H
                          refine HJ.op (i := 4) rfl rfl rfl rfl rfl (op_call [1, 1] (dev_Device_Image.spec q67) rfl rfl rfl h217 rfl gnil) ?_
                          rintro _ w116 ⟨_, ⟨A35, c_35, rfl, rfl⟩, h220⟩
                          replace h220 : St w0 F0 [ownC 5 (.int .u8) r70 (.slice A35 r70.length c_35), boxC b17 51 [.int .i64 r68.2.2.1, .slice A34 r68.2.2.2.1.length c_34, .int .u64 r68.2.2.2.2.1, .int .u64 r68.2.2.2.2.2], ownC 5 (.int .u8) r68.2.2.2.1 (.slice A34 r68.2.2.2.1.length c_34), boxC b24 49 [.int .u64 r69.1, .int .u64 r69.2], ownC 5 (.int .u8) r68.1 (.slice A33 r68.1.length c_33), boxC b16 40 [.int .i64 r67.1.1, .slice A32 r67.1.2.1.length c_32, .int .i64 r67.1.2.2.1, .int .i64 r67.1.2.2.2]] _ _ := h220
                          refine ⟨⟨[_], (h220.only [0, 2, 0, 0, 0, 0] rfl)⟩, ?_⟩
                          refine HJ.more ⟨[], (h220.only [0, 2, 0, 0, 0, 0] rfl)⟩ ?_
                          refine HJ.q (i := 5) rfl rfl rfl rfl rfl rfl (q_tostr ttok (fun w e => e) (Gives.of 0 rfl own_rd) rfl rfl rfl rfl rfl) ?_
                          obtain ⟨r71, q68, H⟩ := bind_t H
                          refine HJ.op (i := 7) rfl rfl rfl rfl rfl (op_call [] (sluicegateref06_Image.spec q68) rfl rfl rfl h220 rfl (gcons (Gives.self 6 rfl) gnil)) ?_
                          rintro _ w117 ⟨_, ⟨rfl, rfl⟩, h221⟩
                          replace h221 : St w0 F0 [ownC 5 (.int .u8) r70 (.slice A35 r70.length c_35), boxC b17 51 [.int .i64 r68.2.2.1, .slice A34 r68.2.2.2.1.length c_34, .int .u64 r68.2.2.2.2.1, .int .u64 r68.2.2.2.2.2], ownC 5 (.int .u8) r68.2.2.2.1 (.slice A34 r68.2.2.2.1.length c_34), boxC b24 49 [.int .u64 r69.1, .int .u64 r69.2], ownC 5 (.int .u8) r68.1 (.slice A33 r68.1.length c_33), boxC b16 40 [.int .i64 r67.1.1, .slice A32 r67.1.2.1.length c_32, .int .i64 r67.1.2.2.1, .int .i64 r67.1.2.2.2]] _ _ := h221
                          refine ⟨⟨[], (h221.only [0, 2, 0, 0, 0, 0] rfl)⟩, ?_⟩
                          refine HJ.run ttok rfl [8, 9, 10] rfl ?_
                          rcases Bool.eq_false_or_eq_true (!decide ((toS r70) = r71)) with c62 | c62
                          · replace H := ite_t c62 H
                            refine HJ.know (t := 156) rfl (congrArg Value.bool c62) ?_
                            refine HJ.run ttok rfl [11, 12, 13, 14, 15, 16, 17, 18, 19, 20, 21, 22, 23, 24, 25, 26, 27, 28, 29, 30, 31, 32] rfl ?_
                            refine HJ.fin [(0, .int .i64 a0), (1, .int .i64 a1), (2, .slice A1 a2.length c_1), (7, .pointer (some ⟨b17, 0, none⟩)), (9, .pointer (some ⟨b16, 0, none⟩)), (10, .int .i64 x18), (178, .bool true)] rfl rfl ?_
                            have h222 := h221.only [1, 1, 3] rfl
                            replace h222 : St w0 F0 [boxC b17 51 [.int .i64 r68.2.2.1, .slice A34 r68.2.2.2.1.length c_34, .int .u64 r68.2.2.2.2.1, .int .u64 r68.2.2.2.2.2], ownC 5 (.int .u8) r68.2.2.2.1 (.slice A34 r68.2.2.2.1.length c_34), boxC b16 40 [.int .i64 r67.1.1, .slice A32 r67.1.2.1.length c_32, .int .i64 r67.1.2.2.1, .int .i64 r67.1.2.2.2]] _ _ := h222
                            refine J.condT rfl ?_
                            refine J.seq ?_
                            refine J.region ?_
                            refine RJ.run ttok 1 rfl ?_
                            refine RJ.fin [(6, .bool false)] rfl ?_
                            have h223 := h222.only [] rfl
                            replace h223 : St w0 F0 [] _ _ := h223
                            refine J.ret ?_
                            obtain rfl := Option.some.inj H
                            exact ⟨_, _, _, (results_slots rfl), ⟨rfl, rfl⟩, h223.only [] rfl⟩
                          · replace H := ite_f c62 H
                            refine HJ.know (t := 156) rfl (congrArg Value.bool c62) ?_
                            refine HJ.run ttok rfl [11, 13] rfl ?_
                            obtain ⟨r72, q69, H⟩ := bind_t H
                            refine HJ.op (i := 12) rfl rfl rfl rfl rfl (op_call [1, 1] (dev_Device_Blocks.spec q69) rfl rfl rfl h221 rfl gnil) ?_
                            rintro _ w118 ⟨_, ⟨rfl, rfl⟩, h224⟩
                            replace h224 : St w0 F0 [boxC b17 51 [.int .i64 r68.2.2.1, .slice A34 r68.2.2.2.1.length c_34, .int .u64 r68.2.2.2.2.1, .int .u64 r68.2.2.2.2.2], ownC 5 (.int .u8) r68.2.2.2.1 (.slice A34 r68.2.2.2.1.length c_34), ownC 5 (.int .u8) r70 (.slice A35 r70.length c_35), boxC b24 49 [.int .u64 r69.1, .int .u64 r69.2], ownC 5 (.int .u8) r68.1 (.slice A33 r68.1.length c_33), boxC b16 40 [.int .i64 r67.1.1, .slice A32 r67.1.2.1.length c_32, .int .i64 r67.1.2.2.1, .int .i64 r67.1.2.2.2]] _ _ := h224
                            refine ⟨⟨[], (h224.only [2, 2, 0, 0, 0, 0] rfl)⟩, ?_⟩
                            refine HJ.run ttok rfl [14, 15, 16] rfl ?_
                            rcases Bool.eq_false_or_eq_true (!decide (r72 = a0)) with c63 | c63
                            · replace H := ite_t c63 H
                              refine HJ.know (t := 162) rfl (congrArg Value.bool c63) ?_
                              refine HJ.run ttok rfl [17, 18, 19, 20, 21, 22, 23, 24, 25, 26, 27, 28, 29, 30, 31, 32] rfl ?_
                              refine HJ.fin [(0, .int .i64 a0), (1, .int .i64 a1), (2, .slice A1 a2.length c_1), (7, .pointer (some ⟨b17, 0, none⟩)), (9, .pointer (some ⟨b16, 0, none⟩)), (10, .int .i64 x18), (178, .bool true)] rfl rfl ?_
                              have h225 := h224.only [0, 0, 3] rfl
                              replace h225 : St w0 F0 [boxC b17 51 [.int .i64 r68.2.2.1, .slice A34 r68.2.2.2.1.length c_34, .int .u64 r68.2.2.2.2.1, .int .u64 r68.2.2.2.2.2], ownC 5 (.int .u8) r68.2.2.2.1 (.slice A34 r68.2.2.2.1.length c_34), boxC b16 40 [.int .i64 r67.1.1, .slice A32 r67.1.2.1.length c_32, .int .i64 r67.1.2.2.1, .int .i64 r67.1.2.2.2]] _ _ := h225
                              refine J.condT rfl ?_
                              refine J.seq ?_
                              refine J.region ?_
                              refine RJ.run ttok 1 rfl ?_
                              refine RJ.fin [(6, .bool false)] rfl ?_
                              have h226 := h225.only [] rfl
                              replace h226 : St w0 F0 [] _ _ := h226
                              refine J.ret ?_
                              obtain rfl := Option.some.inj H
                              exact ⟨_, _, _, (results_slots rfl), ⟨rfl, rfl⟩, h226.only [] rfl⟩
                            · replace H := ite_f c63 H
                              refine HJ.know (t := 162) rfl (congrArg Value.bool c63) ?_
                              refine HJ.run ttok rfl [17, 19] rfl ?_
                              obtain ⟨r73, q70, H⟩ := bind_t H
                              refine HJ.op (i := 18) rfl rfl rfl rfl rfl (op_call [0, 0] (dev_Device_Bytes.spec q70) rfl rfl rfl h224 rfl gnil) ?_
                              rintro _ w119 ⟨_, ⟨rfl, rfl⟩, h227⟩
                              replace h227 : St w0 F0 [boxC b17 51 [.int .i64 r68.2.2.1, .slice A34 r68.2.2.2.1.length c_34, .int .u64 r68.2.2.2.2.1, .int .u64 r68.2.2.2.2.2], ownC 5 (.int .u8) r68.2.2.2.1 (.slice A34 r68.2.2.2.1.length c_34), ownC 5 (.int .u8) r70 (.slice A35 r70.length c_35), boxC b24 49 [.int .u64 r69.1, .int .u64 r69.2], ownC 5 (.int .u8) r68.1 (.slice A33 r68.1.length c_33), boxC b16 40 [.int .i64 r67.1.1, .slice A32 r67.1.2.1.length c_32, .int .i64 r67.1.2.2.1, .int .i64 r67.1.2.2.2]] _ _ := h227
                              refine ⟨⟨[], (h227.only [2, 2, 0, 0, 0, 0] rfl)⟩, ?_⟩
                              refine HJ.run ttok rfl [20, 21, 22] rfl ?_
                              rcases Bool.eq_false_or_eq_true (!decide (r73 = a1)) with c64 | c64
                              · replace H := ite_t c64 H
                                refine HJ.know (t := 168) rfl (congrArg Value.bool c64) ?_
                                refine HJ.run ttok rfl [23, 24, 25, 26, 27, 28, 29, 30, 31, 32] rfl ?_
                                refine HJ.fin [(0, .int .i64 a0), (1, .int .i64 a1), (2, .slice A1 a2.length c_1), (7, .pointer (some ⟨b17, 0, none⟩)), (9, .pointer (some ⟨b16, 0, none⟩)), (10, .int .i64 x18), (178, .bool true)] rfl rfl ?_
                                have h228 := h227.only [0, 0, 3] rfl
                                replace h228 : St w0 F0 [boxC b17 51 [.int .i64 r68.2.2.1, .slice A34 r68.2.2.2.1.length c_34, .int .u64 r68.2.2.2.2.1, .int .u64 r68.2.2.2.2.2], ownC 5 (.int .u8) r68.2.2.2.1 (.slice A34 r68.2.2.2.1.length c_34), boxC b16 40 [.int .i64 r67.1.1, .slice A32 r67.1.2.1.length c_32, .int .i64 r67.1.2.2.1, .int .i64 r67.1.2.2.2]] _ _ := h228
                                refine J.condT rfl ?_
                                refine J.seq ?_
                                refine J.region ?_
                                refine RJ.run ttok 1 rfl ?_
                                refine RJ.fin [(6, .bool false)] rfl ?_
                                have h229 := h228.only [] rfl
                                replace h229 : St w0 F0 [] _ _ := h229
                                refine J.ret ?_
                                obtain rfl := Option.some.inj H
                                exact ⟨_, _, _, (results_slots rfl), ⟨rfl, rfl⟩, h229.only [] rfl⟩
                              · replace H := ite_f c64 H
                                refine HJ.know (t := 168) rfl (congrArg Value.bool c64) ?_
                                refine HJ.run ttok rfl [24, 27] rfl ?_
                                refine HJ.q (i := 23) rfl rfl rfl rfl rfl rfl (q_load_box ttok 1 (fun w e => e) rfl rfl rfl rfl rfl) ?_
                                refine HJ.q (i := 25) rfl rfl rfl rfl rfl rfl (q_load_box ttok 5 (fun w e => e) rfl rfl rfl rfl rfl) ?_
                                refine HJ.run ttok rfl [26] rfl ?_
                                refine HJ.q (i := 28) rfl rfl rfl rfl rfl rfl (q_load_box ttok 5 (fun w e => e) rfl rfl rfl rfl rfl) ?_
                                refine HJ.run ttok rfl [29, 30, 31, 32] rfl ?_
                                refine HJ.fin [(0, .int .i64 a0), (1, .int .i64 a1), (2, .slice A1 a2.length c_1), (7, .pointer (some ⟨b17, 0, none⟩)), (9, .pointer (some ⟨b16, 0, none⟩)), (10, .int .i64 x18), (178, .bool (!((decide (r69.1 = (IntKind.u64.wrap (r67.1.2.2.1)))) && ((decide (r69.2 = (IntKind.u64.wrap (r67.1.2.2.2)))) && true))))] rfl rfl ?_
                                have h230 := h227.only [0, 0, 3] rfl
                                replace h230 : St w0 F0 [boxC b17 51 [.int .i64 r68.2.2.1, .slice A34 r68.2.2.2.1.length c_34, .int .u64 r68.2.2.2.2.1, .int .u64 r68.2.2.2.2.2], ownC 5 (.int .u8) r68.2.2.2.1 (.slice A34 r68.2.2.2.1.length c_34), boxC b16 40 [.int .i64 r67.1.1, .slice A32 r67.1.2.1.length c_32, .int .i64 r67.1.2.2.1, .int .i64 r67.1.2.2.2]] _ _ := h230
                                refine J.cond rfl (fun c65 => ?_) (fun c65 => ?_)
                                · replace H := ite_t c65 H
                                  refine J.seq ?_
                                  refine J.region ?_
                                  refine RJ.run ttok 1 rfl ?_
                                  refine RJ.fin [(6, .bool false)] rfl ?_
                                  have h231 := h230.only [] rfl
                                  replace h231 : St w0 F0 [] _ _ := h231
                                  refine J.ret ?_
                                  obtain rfl := Option.some.inj H
                                  exact ⟨_, _, _, (results_slots rfl), ⟨rfl, rfl⟩, h231.only [] rfl⟩
                                · replace H := ite_f c65 H
                                  refine J.skip ?_
                                  refine J.region ?_
                                  refine RJ.run ttok 3 rfl ?_
                                  refine RJ.fin [(0, .int .i64 a0), (1, .int .i64 a1), (2, .slice A1 a2.length c_1), (7, .pointer (some ⟨b17, 0, none⟩)), (9, .pointer (some ⟨b16, 0, none⟩)), (10, .int .i64 (w64 (x18 + 1)))] rfl ?_
                                  have h232 := ((h230.only [0, 1, 0] rfl).rds [7, 0] rfl)
                                  exact ⟨k2, by omega, b17, r68.2.2.1, r68.2.2.2.1, A34, c_34, r68.2.2.2.2.1, r68.2.2.2.2.2, r67.1.1, r67.1.2.1, A32, c_32, r67.1.2.2.1, r67.1.2.2.2, (w64 (x18 + 1)), rfl, h232, H⟩
                      · replace H := ite_f c60 H
                        refine RJ.know (t := 121) rfl (congrArg Value.bool c60) ?_
                        refine RJ.run ttok 5 rfl ?_
                        refine RJ.fin [(0, .int .i64 a0), (1, .int .i64 a1), (2, .slice A1 a2.length c_1), (7, .pointer (some ⟨b17, 0, none⟩)), (9, .pointer (some ⟨b16, 0, none⟩)), (10, .int .i64 x18), (12, .bool false)] rfl ?_
                        refine J.seq ?_
                        refine J.region ?_
                        refine RJ.run ttok 1 rfl ?_
                        obtain ⟨r74, q71, H⟩ := bind_t H
                        refine RJ.op rfl rfl (op_call [1, 1] (dev_Device_Stats.spec q71) rfl rfl rfl h213 rfl gnil) ?_
                        rintro _ w120 ⟨_, ⟨rfl, rfl⟩, h233⟩
                        replace h233 : St w0 F0 [boxC b17 51 [.int .i64 r68.2.2.1, .slice A34 r68.2.2.2.1.length c_34, .int .u64 r68.2.2.2.2.1, .int .u64 r68.2.2.2.2.2], ownC 5 (.int .u8) r68.2.2.2.1 (.slice A34 r68.2.2.2.1.length c_34), ownC 5 (.int .u8) r68.1 (.slice A33 r68.1.length c_33), boxC b16 40 [.int .i64 r67.1.1, .slice A32 r67.1.2.1.length c_32, .int .i64 r67.1.2.2.1, .int .i64 r67.1.2.2.2]] _ _ := h233
                        refine RJ.op rfl rfl (op_alloc ttok rfl rfl h233) ?_
                        rintro _ w121 ⟨b25, rfl, h234⟩
                        replace h234 : St w0 F0 [boxC b25 49 [.int .u64 0, .int .u64 0], boxC b17 51 [.int .i64 r68.2.2.1, .slice A34 r68.2.2.2.1.length c_34, .int .u64 r68.2.2.2.2.1, .int .u64 r68.2.2.2.2.2], ownC 5 (.int .u8) r68.2.2.2.1 (.slice A34 r68.2.2.2.1.length c_34), ownC 5 (.int .u8) r68.1 (.slice A33 r68.1.length c_33), boxC b16 40 [.int .i64 r67.1.1, .slice A32 r67.1.2.1.length c_32, .int .i64 r67.1.2.2.1, .int .i64 r67.1.2.2.2]] _ _ := h234
                        refine RJ.op rfl rfl (op_store ttok 0 rfl h234 rfl rfl rfl rfl rfl rfl rfl) ?_
                        intro _ w122 h235
                        replace h235 : St w0 F0 [boxC b25 49 [.int .u64 r74.1, .int .u64 r74.2], boxC b17 51 [.int .i64 r68.2.2.1, .slice A34 r68.2.2.2.1.length c_34, .int .u64 r68.2.2.2.2.1, .int .u64 r68.2.2.2.2.2], ownC 5 (.int .u8) r68.2.2.2.1 (.slice A34 r68.2.2.2.1.length c_34), ownC 5 (.int .u8) r68.1 (.slice A33 r68.1.length c_33), boxC b16 40 [.int .i64 r67.1.1, .slice A32 r67.1.2.1.length c_32, .int .i64 r67.1.2.2.1, .int .i64 r67.1.2.2.2]] _ _ := h235
                        refine RJ.fin [(0, .int .i64 a0), (1, .int .i64 a1), (2, .slice A1 a2.length c_1), (7, .pointer (some ⟨b17, 0, none⟩)), (9, .pointer (some ⟨b16, 0, none⟩)), (10, .int .i64 x18), (12, .bool false), (22, .pointer (some ⟨b25, 0, none⟩))] rfl ?_
                        refine J.seq ?_
                        refine J.heldSt mix h235 ?_
                        have h236 := h235.drew
                        refine HJ.run ttok rfl [0, 1, 2, 3, 4, 5, 6, 7, 8, 9, 10, 11, 12, 13, 14, 15, 16, 17, 18, 19, 20, 21, 22, 23, 24, 25, 26, 27, 28, 29, 30, 31, 32] rfl ?_
                        refine HJ.fin [(0, .int .i64 a0), (1, .int .i64 a1), (2, .slice A1 a2.length c_1), (7, .pointer (some ⟨b17, 0, none⟩)), (9, .pointer (some ⟨b16, 0, none⟩)), (10, .int .i64 x18), (178, .bool true)] rfl rfl ?_
                        have h237 := h236.only [1, 1, 2] rfl
                        replace h237 : St w0 F0 [boxC b17 51 [.int .i64 r68.2.2.1, .slice A34 r68.2.2.2.1.length c_34, .int .u64 r68.2.2.2.2.1, .int .u64 r68.2.2.2.2.2], ownC 5 (.int .u8) r68.2.2.2.1 (.slice A34 r68.2.2.2.1.length c_34), boxC b16 40 [.int .i64 r67.1.1, .slice A32 r67.1.2.1.length c_32, .int .i64 r67.1.2.2.1, .int .i64 r67.1.2.2.2]] _ _ := h237
                        refine J.condT rfl ?_
                        refine J.seq ?_
                        refine J.region ?_
                        refine RJ.run ttok 1 rfl ?_
                        refine RJ.fin [(6, .bool false)] rfl ?_
                        have h238 := h237.only [] rfl
                        replace h238 : St w0 F0 [] _ _ := h238
                        refine J.ret ?_
                        obtain rfl := Option.some.inj H
                        exact ⟨_, _, _, (results_slots rfl), ⟨rfl, rfl⟩, h238.only [] rfl⟩
                    · replace H := ite_f c59 H
                      refine J.seq ?_
                      refine J.region ?_
                      refine RJ.run ttok 2 rfl ?_
                      refine RJ.fin [(0, .int .i64 a0), (1, .int .i64 a1), (2, .slice A1 a2.length c_1), (7, .pointer (some ⟨b17, 0, none⟩)), (9, .pointer (some ⟨b16, 0, none⟩)), (10, .int .i64 x18), (12, .bool true), (126, .bool (decide (((gt a2 x18).1) = 3)))] rfl ?_
                      refine J.cond rfl (fun c66 => ?_) (fun c66 => ?_)
                      · replace H := ite_t c66 H
                        refine J.seq ?_
                        refine J.region ?_
                        refine RJ.run ttok 2 rfl ?_
                        obtain ⟨r75, q72, H⟩ := bind_t H
                        refine RJ.op rfl rfl (op_call [1, 2] (dev_Device_Image.spec q72) rfl rfl rfl h159 rfl gnil) ?_
                        rintro _ w123 ⟨_, ⟨A36, c_36, rfl, rfl⟩, h239⟩
                        replace h239 : St w0 F0 [ownC 5 (.int .u8) r75 (.slice A36 r75.length c_36), boxC b17 51 [.int .i64 x10, .slice A23 x11.length c_23, .int .u64 x12, .int .u64 x13], ownC 5 (.int .u8) x11 (.slice A23 x11.length c_23), boxC b18 30 [.int .i64 ((gt a2 x18).1), .int .u32 ((gt a2 x18).2.1), .slice A25 ((gt a2 x18).2.2).length c_25], boxC b16 40 [.int .i64 x14, .slice A24 x15.length c_24, .int .i64 x16, .int .i64 x17]] _ _ := h239
                        obtain ⟨r76, q73, H⟩ := bind_t H
                        refine RJ.op rfl rfl (op_call [] (dev_From.spec q73) rfl rfl rfl h239 rfl (gcons (Gives.of 0 rfl own_rd) gnil)) ?_
                        rintro _ w124 ⟨_, ⟨v4, l4, ho7, rfl, rfl⟩, h240⟩
                        rcases ho8 : r76.1 with _ | r77
                        · rw [ho8] at ho7
                          obtain ⟨rfl, rfl⟩ := ho7
                          replace H := ocase_n ho8 H
                          replace h240 : St w0 F0 [ownC 5 (.int .u8) r75 (.slice A36 r75.length c_36), boxC b17 51 [.int .i64 x10, .slice A23 x11.length c_23, .int .u64 x12, .int .u64 x13], ownC 5 (.int .u8) x11 (.slice A23 x11.length c_23), boxC b18 30 [.int .i64 ((gt a2 x18).1), .int .u32 ((gt a2 x18).2.1), .slice A25 ((gt a2 x18).2.2).length c_25], boxC b16 40 [.int .i64 x14, .slice A24 x15.length c_24, .int .i64 x16, .int .i64 x17]] _ _ := h240
                          refine RJ.run ttok 5 rfl ?_
                          refine RJ.fin [(0, .int .i64 a0), (1, .int .i64 a1), (2, .slice A1 a2.length c_1), (9, .pointer (some ⟨b16, 0, none⟩)), (10, .int .i64 x18), (12, .bool true), (20, .pointer none), (21, .int .i64 r76.2)] rfl ?_
                          have h241 := h240.only [4] rfl
                          replace h241 : St w0 F0 [boxC b16 40 [.int .i64 x14, .slice A24 x15.length c_24, .int .i64 x16, .int .i64 x17]] _ _ := h241
                          refine J.seq ?_
                          refine J.seq ?_
                          refine J.region ?_
                          refine RJ.run ttok 3 rfl ?_
                          rcases Bool.eq_false_or_eq_true (!decide (r76.2 = 0)) with c67 | c67
                          · replace H := ite_t c67 H
                            refine RJ.know (t := 137) rfl (congrArg Value.bool c67) ?_
                            refine RJ.run ttok 3 rfl ?_
                            refine RJ.fin [(0, .int .i64 a0), (1, .int .i64 a1), (2, .slice A1 a2.length c_1), (9, .pointer (some ⟨b16, 0, none⟩)), (10, .int .i64 x18), (12, .bool true), (20, .pointer none), (140, .bool true)] rfl ?_
                            refine J.condT rfl ?_
                            refine J.seq ?_
                            refine J.region ?_
                            refine RJ.run ttok 1 rfl ?_
                            refine RJ.fin [(6, .bool false)] rfl ?_
                            refine J.ret ?_
                            obtain rfl := Option.some.inj H
                            exact ⟨_, _, _, (results_slots rfl), ⟨rfl, rfl⟩, h241.only [] rfl⟩
                          · replace H := ite_f c67 H
                            refine RJ.know (t := 137) rfl (congrArg Value.bool c67) ?_
                            refine RJ.run ttok 3 rfl ?_
                            refine RJ.fin [(0, .int .i64 a0), (1, .int .i64 a1), (2, .slice A1 a2.length c_1), (9, .pointer (some ⟨b16, 0, none⟩)), (10, .int .i64 x18), (12, .bool true), (20, .pointer none), (140, .bool true)] rfl ?_
                            refine J.condT rfl ?_
                            refine J.seq ?_
                            refine J.region ?_
                            refine RJ.run ttok 1 rfl ?_
                            refine RJ.fin [(6, .bool false)] rfl ?_
                            refine J.ret ?_
                            obtain rfl := Option.some.inj H
                            exact ⟨_, _, _, (results_slots rfl), ⟨rfl, rfl⟩, h241.only [] rfl⟩
                        · rw [ho8] at ho7
                          obtain ⟨b26, A37, c_37, rfl, rfl⟩ := ho7
                          replace H := ocase_s ho8 H
                          replace h240 : St w0 F0 [boxC b26 51 [.int .i64 r77.1, .slice A37 r77.2.1.length c_37, .int .u64 r77.2.2.1, .int .u64 r77.2.2.2], ownC 5 (.int .u8) r77.2.1 (.slice A37 r77.2.1.length c_37), ownC 5 (.int .u8) r75 (.slice A36 r75.length c_36), boxC b17 51 [.int .i64 x10, .slice A23 x11.length c_23, .int .u64 x12, .int .u64 x13], ownC 5 (.int .u8) x11 (.slice A23 x11.length c_23), boxC b18 30 [.int .i64 ((gt a2 x18).1), .int .u32 ((gt a2 x18).2.1), .slice A25 ((gt a2 x18).2.2).length c_25], boxC b16 40 [.int .i64 x14, .slice A24 x15.length c_24, .int .i64 x16, .int .i64 x17]] _ _ := h240
                          refine RJ.run ttok 5 rfl ?_
                          refine RJ.fin [(0, .int .i64 a0), (1, .int .i64 a1), (2, .slice A1 a2.length c_1), (9, .pointer (some ⟨b16, 0, none⟩)), (10, .int .i64 x18), (12, .bool true), (20, .pointer (some ⟨b26, 0, none⟩)), (21, .int .i64 r76.2)] rfl ?_
                          have h242 := h240.only [0, 0, 4] rfl
                          replace h242 : St w0 F0 [boxC b26 51 [.int .i64 r77.1, .slice A37 r77.2.1.length c_37, .int .u64 r77.2.2.1, .int .u64 r77.2.2.2], ownC 5 (.int .u8) r77.2.1 (.slice A37 r77.2.1.length c_37), boxC b16 40 [.int .i64 x14, .slice A24 x15.length c_24, .int .i64 x16, .int .i64 x17]] _ _ := h242
                          refine J.seq ?_
                          refine J.seq ?_
                          refine J.region ?_
                          refine RJ.run ttok 3 rfl ?_
                          rcases Bool.eq_false_or_eq_true (!decide (r76.2 = 0)) with c68 | c68
                          · replace H := ite_t c68 H
                            refine RJ.know (t := 137) rfl (congrArg Value.bool c68) ?_
                            refine RJ.run ttok 3 rfl ?_
                            refine RJ.fin [(0, .int .i64 a0), (1, .int .i64 a1), (2, .slice A1 a2.length c_1), (9, .pointer (some ⟨b16, 0, none⟩)), (10, .int .i64 x18), (12, .bool true), (20, .pointer (some ⟨b26, 0, none⟩)), (140, .bool true)] rfl ?_
                            refine J.condT rfl ?_
                            refine J.seq ?_
                            refine J.region ?_
                            refine RJ.run ttok 1 rfl ?_
                            refine RJ.fin [(6, .bool false)] rfl ?_
                            have h243 := h242.only [] rfl
                            replace h243 : St w0 F0 [] _ _ := h243
                            refine J.ret ?_
                            obtain rfl := Option.some.inj H
                            exact ⟨_, _, _, (results_slots rfl), ⟨rfl, rfl⟩, h243.only [] rfl⟩
                          · replace H := ite_f c68 H
                            refine RJ.know (t := 137) rfl (congrArg Value.bool c68) ?_
                            refine RJ.run ttok 3 rfl ?_
                            refine RJ.fin [(0, .int .i64 a0), (1, .int .i64 a1), (2, .slice A1 a2.length c_1), (9, .pointer (some ⟨b16, 0, none⟩)), (10, .int .i64 x18), (12, .bool true), (20, .pointer (some ⟨b26, 0, none⟩)), (140, .bool false)] rfl ?_
                            refine J.condF rfl ?_
                            refine J.skip ?_
                            refine J.seq ?_
                            refine J.region ?_
                            refine RJ.run ttok 2 rfl ?_
                            refine RJ.fin [(0, .int .i64 a0), (1, .int .i64 a1), (2, .slice A1 a2.length c_1), (7, .pointer (some ⟨b26, 0, none⟩)), (9, .pointer (some ⟨b16, 0, none⟩)), (10, .int .i64 x18), (12, .bool true)] rfl ?_
                            refine J.region ?_
                            refine RJ.run ttok 1 rfl ?_
                            refine RJ.op rfl rfl (op_store ttok 2 rfl h242 rfl rfl rfl rfl rfl rfl rfl) ?_
                            intro _ w125 h244
                            replace h244 : St w0 F0 [boxC b16 40 [.int .i64 x14, .slice A24 x15.length c_24, .int .i64 0, .int .i64 x17], boxC b26 51 [.int .i64 r77.1, .slice A37 r77.2.1.length c_37, .int .u64 r77.2.2.1, .int .u64 r77.2.2.2], ownC 5 (.int .u8) r77.2.1 (.slice A37 r77.2.1.length c_37)] _ _ := h244
                            refine RJ.run ttok 1 rfl ?_
                            refine RJ.op rfl rfl (op_store ttok 0 rfl h244 rfl rfl rfl rfl rfl rfl rfl) ?_
                            intro _ w126 h245
                            replace h245 : St w0 F0 [boxC b16 40 [.int .i64 x14, .slice A24 x15.length c_24, .int .i64 0, .int .i64 0], boxC b26 51 [.int .i64 r77.1, .slice A37 r77.2.1.length c_37, .int .u64 r77.2.2.1, .int .u64 r77.2.2.2], ownC 5 (.int .u8) r77.2.1 (.slice A37 r77.2.1.length c_37)] _ _ := h245
                            refine RJ.fin [(0, .int .i64 a0), (1, .int .i64 a1), (2, .slice A1 a2.length c_1), (7, .pointer (some ⟨b26, 0, none⟩)), (9, .pointer (some ⟨b16, 0, none⟩)), (10, .int .i64 x18), (12, .bool true)] rfl ?_
                            refine J.seq ?_
                            refine J.region ?_
                            refine RJ.run ttok 1 rfl ?_
                            obtain ⟨r78, q74, H⟩ := bind_t H
                            refine RJ.op rfl rfl (op_call [1, 1] (dev_Device_Stats.spec q74) rfl rfl rfl h245 rfl gnil) ?_
                            rintro _ w127 ⟨_, ⟨rfl, rfl⟩, h246⟩
                            replace h246 : St w0 F0 [boxC b26 51 [.int .i64 r77.1, .slice A37 r77.2.1.length c_37, .int .u64 r77.2.2.1, .int .u64 r77.2.2.2], ownC 5 (.int .u8) r77.2.1 (.slice A37 r77.2.1.length c_37), boxC b16 40 [.int .i64 x14, .slice A24 x15.length c_24, .int .i64 0, .int .i64 0]] _ _ := h246
                            refine RJ.op rfl rfl (op_alloc ttok rfl rfl h246) ?_
                            rintro _ w128 ⟨b27, rfl, h247⟩
                            replace h247 : St w0 F0 [boxC b27 49 [.int .u64 0, .int .u64 0], boxC b26 51 [.int .i64 r77.1, .slice A37 r77.2.1.length c_37, .int .u64 r77.2.2.1, .int .u64 r77.2.2.2], ownC 5 (.int .u8) r77.2.1 (.slice A37 r77.2.1.length c_37), boxC b16 40 [.int .i64 x14, .slice A24 x15.length c_24, .int .i64 0, .int .i64 0]] _ _ := h247
                            refine RJ.op rfl rfl (op_store ttok 0 rfl h247 rfl rfl rfl rfl rfl rfl rfl) ?_
                            intro _ w129 h248
                            replace h248 : St w0 F0 [boxC b27 49 [.int .u64 r78.1, .int .u64 r78.2], boxC b26 51 [.int .i64 r77.1, .slice A37 r77.2.1.length c_37, .int .u64 r77.2.2.1, .int .u64 r77.2.2.2], ownC 5 (.int .u8) r77.2.1 (.slice A37 r77.2.1.length c_37), boxC b16 40 [.int .i64 x14, .slice A24 x15.length c_24, .int .i64 0, .int .i64 0]] _ _ := h248
                            refine RJ.fin [(0, .int .i64 a0), (1, .int .i64 a1), (2, .slice A1 a2.length c_1), (7, .pointer (some ⟨b26, 0, none⟩)), (9, .pointer (some ⟨b16, 0, none⟩)), (10, .int .i64 x18), (12, .bool true), (22, .pointer (some ⟨b27, 0, none⟩))] rfl ?_
                            refine J.seq ?_
                            refine J.heldSt mix h248 ?_
                            have h249 := h248.drew
                            refine HJ.run ttok rfl [0, 1, 2, 3] rfl ?_
                            refine HJ.q (i := 6) rfl rfl rfl rfl rfl rfl (q_load_box ttok 3 (fun w e => e) rfl rfl rfl rfl rfl) ?_
                            obtain ⟨r79, q75, H⟩ := bind_t H
                            refine HJ.op (i := 4) rfl rfl rfl rfl rfl (op_call [1, 1] (dev_Device_Image.spec q75) rfl rfl rfl h249 rfl gnil) ?_
                            rintro _ w130 ⟨_, ⟨A38, c_38, rfl, rfl⟩, h250⟩
                            replace h250 : St w0 F0 [ownC 5 (.int .u8) r79 (.slice A38 r79.length c_38), boxC b26 51 [.int .i64 r77.1, .slice A37 r77.2.1.length c_37, .int .u64 r77.2.2.1, .int .u64 r77.2.2.2], ownC 5 (.int .u8) r77.2.1 (.slice A37 r77.2.1.length c_37), boxC b27 49 [.int .u64 r78.1, .int .u64 r78.2], boxC b16 40 [.int .i64 x14, .slice A24 x15.length c_24, .int .i64 0, .int .i64 0]] _ _ := h250
                            refine ⟨⟨[_], (h250.only [0, 2, 0, 0, 0] rfl)⟩, ?_⟩
                            refine HJ.more ⟨[], (h250.only [0, 2, 0, 0, 0] rfl)⟩ ?_
                            refine HJ.q (i := 5) rfl rfl rfl rfl rfl rfl (q_tostr ttok (fun w e => e) (Gives.of 0 rfl own_rd) rfl rfl rfl rfl rfl) ?_
                            obtain ⟨r80, q76, H⟩ := bind_t H
                            refine HJ.op (i := 7) rfl rfl rfl rfl rfl (op_call [] (sluicegateref06_Image.spec q76) rfl rfl rfl h250 rfl (gcons (Gives.self 12 rfl) gnil)) ?_
                            rintro _ w131 ⟨_, ⟨rfl, rfl⟩, h251⟩
                            replace h251 : St w0 F0 [ownC 5 (.int .u8) r79 (.slice A38 r79.length c_38), boxC b26 51 [.int .i64 r77.1, .slice A37 r77.2.1.length c_37, .int .u64 r77.2.2.1, .int .u64 r77.2.2.2], ownC 5 (.int .u8) r77.2.1 (.slice A37 r77.2.1.length c_37), boxC b27 49 [.int .u64 r78.1, .int .u64 r78.2], boxC b16 40 [.int .i64 x14, .slice A24 x15.length c_24, .int .i64 0, .int .i64 0]] _ _ := h251
                            refine ⟨⟨[], (h251.only [0, 2, 0, 0, 0] rfl)⟩, ?_⟩
                            refine HJ.run ttok rfl [8, 9, 10] rfl ?_
                            rcases Bool.eq_false_or_eq_true (!decide ((toS r79) = r80)) with c69 | c69
                            · replace H := ite_t c69 H
                              refine HJ.know (t := 156) rfl (congrArg Value.bool c69) ?_
                              refine HJ.run ttok rfl [11, 12, 13, 14, 15, 16, 17, 18, 19, 20, 21, 22, 23, 24, 25, 26, 27, 28, 29, 30, 31, 32] rfl ?_
                              refine HJ.fin [(0, .int .i64 a0), (1, .int .i64 a1), (2, .slice A1 a2.length c_1), (7, .pointer (some ⟨b26, 0, none⟩)), (9, .pointer (some ⟨b16, 0, none⟩)), (10, .int .i64 x18), (178, .bool true)] rfl rfl ?_
                              have h252 := h251.only [1, 1, 2] rfl
                              replace h252 : St w0 F0 [boxC b26 51 [.int .i64 r77.1, .slice A37 r77.2.1.length c_37, .int .u64 r77.2.2.1, .int .u64 r77.2.2.2], ownC 5 (.int .u8) r77.2.1 (.slice A37 r77.2.1.length c_37), boxC b16 40 [.int .i64 x14, .slice A24 x15.length c_24, .int .i64 0, .int .i64 0]] _ _ := h252
                              refine J.condT rfl ?_
                              refine J.seq ?_
                              refine J.region ?_
                              refine RJ.run ttok 1 rfl ?_
                              refine RJ.fin [(6, .bool false)] rfl ?_
                              have h253 := h252.only [] rfl
                              replace h253 : St w0 F0 [] _ _ := h253
                              refine J.ret ?_
                              obtain rfl := Option.some.inj H
                              exact ⟨_, _, _, (results_slots rfl), ⟨rfl, rfl⟩, h253.only [] rfl⟩
                            · replace H := ite_f c69 H
                              refine HJ.know (t := 156) rfl (congrArg Value.bool c69) ?_
                              refine HJ.run ttok rfl [11, 13] rfl ?_
                              obtain ⟨r81, q77, H⟩ := bind_t H
                              refine HJ.op (i := 12) rfl rfl rfl rfl rfl (op_call [1, 1] (dev_Device_Blocks.spec q77) rfl rfl rfl h251 rfl gnil) ?_
                              rintro _ w132 ⟨_, ⟨rfl, rfl⟩, h254⟩
                              replace h254 : St w0 F0 [boxC b26 51 [.int .i64 r77.1, .slice A37 r77.2.1.length c_37, .int .u64 r77.2.2.1, .int .u64 r77.2.2.2], ownC 5 (.int .u8) r77.2.1 (.slice A37 r77.2.1.length c_37), ownC 5 (.int .u8) r79 (.slice A38 r79.length c_38), boxC b27 49 [.int .u64 r78.1, .int .u64 r78.2], boxC b16 40 [.int .i64 x14, .slice A24 x15.length c_24, .int .i64 0, .int .i64 0]] _ _ := h254
                              refine ⟨⟨[], (h254.only [2, 2, 0, 0, 0] rfl)⟩, ?_⟩
                              refine HJ.run ttok rfl [14, 15, 16] rfl ?_
                              rcases Bool.eq_false_or_eq_true (!decide (r81 = a0)) with c70 | c70
                              · replace H := ite_t c70 H
                                refine HJ.know (t := 162) rfl (congrArg Value.bool c70) ?_
                                refine HJ.run ttok rfl [17, 18, 19, 20, 21, 22, 23, 24, 25, 26, 27, 28, 29, 30, 31, 32] rfl ?_
                                refine HJ.fin [(0, .int .i64 a0), (1, .int .i64 a1), (2, .slice A1 a2.length c_1), (7, .pointer (some ⟨b26, 0, none⟩)), (9, .pointer (some ⟨b16, 0, none⟩)), (10, .int .i64 x18), (178, .bool true)] rfl rfl ?_
                                have h255 := h254.only [0, 0, 2] rfl
                                replace h255 : St w0 F0 [boxC b26 51 [.int .i64 r77.1, .slice A37 r77.2.1.length c_37, .int .u64 r77.2.2.1, .int .u64 r77.2.2.2], ownC 5 (.int .u8) r77.2.1 (.slice A37 r77.2.1.length c_37), boxC b16 40 [.int .i64 x14, .slice A24 x15.length c_24, .int .i64 0, .int .i64 0]] _ _ := h255
                                refine J.condT rfl ?_
                                refine J.seq ?_
                                refine J.region ?_
                                refine RJ.run ttok 1 rfl ?_
                                refine RJ.fin [(6, .bool false)] rfl ?_
                                have h256 := h255.only [] rfl
                                replace h256 : St w0 F0 [] _ _ := h256
                                refine J.ret ?_
                                obtain rfl := Option.some.inj H
                                exact ⟨_, _, _, (results_slots rfl), ⟨rfl, rfl⟩, h256.only [] rfl⟩
                              · replace H := ite_f c70 H
                                refine HJ.know (t := 162) rfl (congrArg Value.bool c70) ?_
                                refine HJ.run ttok rfl [17, 19] rfl ?_
                                obtain ⟨r82, q78, H⟩ := bind_t H
                                refine HJ.op (i := 18) rfl rfl rfl rfl rfl (op_call [0, 0] (dev_Device_Bytes.spec q78) rfl rfl rfl h254 rfl gnil) ?_
                                rintro _ w133 ⟨_, ⟨rfl, rfl⟩, h257⟩
                                replace h257 : St w0 F0 [boxC b26 51 [.int .i64 r77.1, .slice A37 r77.2.1.length c_37, .int .u64 r77.2.2.1, .int .u64 r77.2.2.2], ownC 5 (.int .u8) r77.2.1 (.slice A37 r77.2.1.length c_37), ownC 5 (.int .u8) r79 (.slice A38 r79.length c_38), boxC b27 49 [.int .u64 r78.1, .int .u64 r78.2], boxC b16 40 [.int .i64 x14, .slice A24 x15.length c_24, .int .i64 0, .int .i64 0]] _ _ := h257
                                refine ⟨⟨[], (h257.only [2, 2, 0, 0, 0] rfl)⟩, ?_⟩
                                refine HJ.run ttok rfl [20, 21, 22] rfl ?_
                                rcases Bool.eq_false_or_eq_true (!decide (r82 = a1)) with c71 | c71
                                · replace H := ite_t c71 H
                                  refine HJ.know (t := 168) rfl (congrArg Value.bool c71) ?_
                                  refine HJ.run ttok rfl [23, 24, 25, 26, 27, 28, 29, 30, 31, 32] rfl ?_
                                  refine HJ.fin [(0, .int .i64 a0), (1, .int .i64 a1), (2, .slice A1 a2.length c_1), (7, .pointer (some ⟨b26, 0, none⟩)), (9, .pointer (some ⟨b16, 0, none⟩)), (10, .int .i64 x18), (178, .bool true)] rfl rfl ?_
                                  have h258 := h257.only [0, 0, 2] rfl
                                  replace h258 : St w0 F0 [boxC b26 51 [.int .i64 r77.1, .slice A37 r77.2.1.length c_37, .int .u64 r77.2.2.1, .int .u64 r77.2.2.2], ownC 5 (.int .u8) r77.2.1 (.slice A37 r77.2.1.length c_37), boxC b16 40 [.int .i64 x14, .slice A24 x15.length c_24, .int .i64 0, .int .i64 0]] _ _ := h258
                                  refine J.condT rfl ?_
                                  refine J.seq ?_
                                  refine J.region ?_
                                  refine RJ.run ttok 1 rfl ?_
                                  refine RJ.fin [(6, .bool false)] rfl ?_
                                  have h259 := h258.only [] rfl
                                  replace h259 : St w0 F0 [] _ _ := h259
                                  refine J.ret ?_
                                  obtain rfl := Option.some.inj H
                                  exact ⟨_, _, _, (results_slots rfl), ⟨rfl, rfl⟩, h259.only [] rfl⟩
                                · replace H := ite_f c71 H
                                  refine HJ.know (t := 168) rfl (congrArg Value.bool c71) ?_
                                  refine HJ.run ttok rfl [24, 27] rfl ?_
                                  refine HJ.q (i := 23) rfl rfl rfl rfl rfl rfl (q_load_box ttok 1 (fun w e => e) rfl rfl rfl rfl rfl) ?_
                                  refine HJ.q (i := 25) rfl rfl rfl rfl rfl rfl (q_load_box ttok 4 (fun w e => e) rfl rfl rfl rfl rfl) ?_
                                  refine HJ.run ttok rfl [26] rfl ?_
                                  refine HJ.q (i := 28) rfl rfl rfl rfl rfl rfl (q_load_box ttok 4 (fun w e => e) rfl rfl rfl rfl rfl) ?_
                                  refine HJ.run ttok rfl [29, 30, 31, 32] rfl ?_
                                  refine HJ.fin [(0, .int .i64 a0), (1, .int .i64 a1), (2, .slice A1 a2.length c_1), (7, .pointer (some ⟨b26, 0, none⟩)), (9, .pointer (some ⟨b16, 0, none⟩)), (10, .int .i64 x18), (178, .bool (!((decide (r78.1 = 0)) && ((decide (r78.2 = 0)) && true))))] rfl rfl ?_
                                  have h260 := h257.only [0, 0, 2] rfl
                                  replace h260 : St w0 F0 [boxC b26 51 [.int .i64 r77.1, .slice A37 r77.2.1.length c_37, .int .u64 r77.2.2.1, .int .u64 r77.2.2.2], ownC 5 (.int .u8) r77.2.1 (.slice A37 r77.2.1.length c_37), boxC b16 40 [.int .i64 x14, .slice A24 x15.length c_24, .int .i64 0, .int .i64 0]] _ _ := h260
                                  refine J.cond rfl (fun c72 => ?_) (fun c72 => ?_)
                                  · replace H := ite_t c72 H
                                    refine J.seq ?_
                                    refine J.region ?_
                                    refine RJ.run ttok 1 rfl ?_
                                    refine RJ.fin [(6, .bool false)] rfl ?_
                                    have h261 := h260.only [] rfl
                                    replace h261 : St w0 F0 [] _ _ := h261
                                    refine J.ret ?_
                                    obtain rfl := Option.some.inj H
                                    exact ⟨_, _, _, (results_slots rfl), ⟨rfl, rfl⟩, h261.only [] rfl⟩
                                  · replace H := ite_f c72 H
                                    refine J.skip ?_
                                    refine J.region ?_
                                    refine RJ.run ttok 3 rfl ?_
                                    refine RJ.fin [(0, .int .i64 a0), (1, .int .i64 a1), (2, .slice A1 a2.length c_1), (7, .pointer (some ⟨b26, 0, none⟩)), (9, .pointer (some ⟨b16, 0, none⟩)), (10, .int .i64 (w64 (x18 + 1)))] rfl ?_
                                    have h262 := ((h260.only [0, 1, 0] rfl).rds [6, 7] rfl)
                                    exact ⟨k2, by omega, b26, r77.1, r77.2.1, A37, c_37, r77.2.2.1, r77.2.2.2, x14, x15, A24, c_24, 0, 0, (w64 (x18 + 1)), rfl, h262, H⟩
                      · replace H := ite_f c66 H
                        refine J.skip ?_
                        refine J.seq ?_
                        refine J.region ?_
                        refine RJ.run ttok 1 rfl ?_
                        obtain ⟨r83, q79, H⟩ := bind_t H
                        refine RJ.op rfl rfl (op_call [1, 2] (dev_Device_Stats.spec q79) rfl rfl rfl h159 rfl gnil) ?_
                        rintro _ w134 ⟨_, ⟨rfl, rfl⟩, h263⟩
                        replace h263 : St w0 F0 [boxC b17 51 [.int .i64 x10, .slice A23 x11.length c_23, .int .u64 x12, .int .u64 x13], ownC 5 (.int .u8) x11 (.slice A23 x11.length c_23), boxC b18 30 [.int .i64 ((gt a2 x18).1), .int .u32 ((gt a2 x18).2.1), .slice A25 ((gt a2 x18).2.2).length c_25], boxC b16 40 [.int .i64 x14, .slice A24 x15.length c_24, .int .i64 x16, .int .i64 x17]] _ _ := h263
                        refine RJ.op rfl rfl (op_alloc ttok rfl rfl h263) ?_
                        rintro _ w135 ⟨b28, rfl, h264⟩
                        replace h264 : St w0 F0 [boxC b28 49 [.int .u64 0, .int .u64 0], boxC b17 51 [.int .i64 x10, .slice A23 x11.length c_23, .int .u64 x12, .int .u64 x13], ownC 5 (.int .u8) x11 (.slice A23 x11.length c_23), boxC b18 30 [.int .i64 ((gt a2 x18).1), .int .u32 ((gt a2 x18).2.1), .slice A25 ((gt a2 x18).2.2).length c_25], boxC b16 40 [.int .i64 x14, .slice A24 x15.length c_24, .int .i64 x16, .int .i64 x17]] _ _ := h264
                        refine RJ.op rfl rfl (op_store ttok 0 rfl h264 rfl rfl rfl rfl rfl rfl rfl) ?_
                        intro _ w136 h265
                        replace h265 : St w0 F0 [boxC b28 49 [.int .u64 r83.1, .int .u64 r83.2], boxC b17 51 [.int .i64 x10, .slice A23 x11.length c_23, .int .u64 x12, .int .u64 x13], ownC 5 (.int .u8) x11 (.slice A23 x11.length c_23), boxC b18 30 [.int .i64 ((gt a2 x18).1), .int .u32 ((gt a2 x18).2.1), .slice A25 ((gt a2 x18).2.2).length c_25], boxC b16 40 [.int .i64 x14, .slice A24 x15.length c_24, .int .i64 x16, .int .i64 x17]] _ _ := h265
                        refine RJ.fin [(0, .int .i64 a0), (1, .int .i64 a1), (2, .slice A1 a2.length c_1), (7, .pointer (some ⟨b17, 0, none⟩)), (9, .pointer (some ⟨b16, 0, none⟩)), (10, .int .i64 x18), (12, .bool true), (22, .pointer (some ⟨b28, 0, none⟩))] rfl ?_
                        refine J.seq ?_
                        refine J.heldSt mix h265 ?_
                        have h266 := h265.drew
                        refine HJ.run ttok rfl [0, 1, 2, 3] rfl ?_
                        refine HJ.q (i := 6) rfl rfl rfl rfl rfl rfl (q_load_box ttok 4 (fun w e => e) rfl rfl rfl rfl rfl) ?_
                        obtain ⟨r84, q80, H⟩ := bind_t H
                        refine HJ.op (i := 4) rfl rfl rfl rfl rfl (op_call [1, 1] (dev_Device_Image.spec q80) rfl rfl rfl h266 rfl gnil) ?_
                        rintro _ w137 ⟨_, ⟨A39, c_39, rfl, rfl⟩, h267⟩
                        replace h267 : St w0 F0 [ownC 5 (.int .u8) r84 (.slice A39 r84.length c_39), boxC b17 51 [.int .i64 x10, .slice A23 x11.length c_23, .int .u64 x12, .int .u64 x13], ownC 5 (.int .u8) x11 (.slice A23 x11.length c_23), boxC b28 49 [.int .u64 r83.1, .int .u64 r83.2], boxC b18 30 [.int .i64 ((gt a2 x18).1), .int .u32 ((gt a2 x18).2.1), .slice A25 ((gt a2 x18).2.2).length c_25], boxC b16 40 [.int .i64 x14, .slice A24 x15.length c_24, .int .i64 x16, .int .i64 x17]] _ _ := h267
                        refine ⟨⟨[_], (h267.only [0, 2, 0, 0, 0, 0] rfl)⟩, ?_⟩
                        refine HJ.more ⟨[], (h267.only [0, 2, 0, 0, 0, 0] rfl)⟩ ?_
                        refine HJ.q (i := 5) rfl rfl rfl rfl rfl rfl (q_tostr ttok (fun w e => e) (Gives.of 0 rfl own_rd) rfl rfl rfl rfl rfl) ?_
                        obtain ⟨r85, q81, H⟩ := bind_t H
                        refine HJ.op (i := 7) rfl rfl rfl rfl rfl (op_call [] (sluicegateref06_Image.spec q81) rfl rfl rfl h267 rfl (gcons (Gives.self 13 rfl) gnil)) ?_
                        rintro _ w138 ⟨_, ⟨rfl, rfl⟩, h268⟩
                        replace h268 : St w0 F0 [ownC 5 (.int .u8) r84 (.slice A39 r84.length c_39), boxC b17 51 [.int .i64 x10, .slice A23 x11.length c_23, .int .u64 x12, .int .u64 x13], ownC 5 (.int .u8) x11 (.slice A23 x11.length c_23), boxC b28 49 [.int .u64 r83.1, .int .u64 r83.2], boxC b18 30 [.int .i64 ((gt a2 x18).1), .int .u32 ((gt a2 x18).2.1), .slice A25 ((gt a2 x18).2.2).length c_25], boxC b16 40 [.int .i64 x14, .slice A24 x15.length c_24, .int .i64 x16, .int .i64 x17]] _ _ := h268
                        refine ⟨⟨[], (h268.only [0, 2, 0, 0, 0, 0] rfl)⟩, ?_⟩
                        refine HJ.run ttok rfl [8, 9, 10] rfl ?_
                        rcases Bool.eq_false_or_eq_true (!decide ((toS r84) = r85)) with c73 | c73
                        · replace H := ite_t c73 H
                          refine HJ.know (t := 156) rfl (congrArg Value.bool c73) ?_
                          refine HJ.run ttok rfl [11, 12, 13, 14, 15, 16, 17, 18, 19, 20, 21, 22, 23, 24, 25, 26, 27, 28, 29, 30, 31, 32] rfl ?_
                          refine HJ.fin [(0, .int .i64 a0), (1, .int .i64 a1), (2, .slice A1 a2.length c_1), (7, .pointer (some ⟨b17, 0, none⟩)), (9, .pointer (some ⟨b16, 0, none⟩)), (10, .int .i64 x18), (178, .bool true)] rfl rfl ?_
                          have h269 := h268.only [1, 1, 3] rfl
                          replace h269 : St w0 F0 [boxC b17 51 [.int .i64 x10, .slice A23 x11.length c_23, .int .u64 x12, .int .u64 x13], ownC 5 (.int .u8) x11 (.slice A23 x11.length c_23), boxC b16 40 [.int .i64 x14, .slice A24 x15.length c_24, .int .i64 x16, .int .i64 x17]] _ _ := h269
                          refine J.condT rfl ?_
                          refine J.seq ?_
                          refine J.region ?_
                          refine RJ.run ttok 1 rfl ?_
                          refine RJ.fin [(6, .bool false)] rfl ?_
                          have h270 := h269.only [] rfl
                          replace h270 : St w0 F0 [] _ _ := h270
                          refine J.ret ?_
                          obtain rfl := Option.some.inj H
                          exact ⟨_, _, _, (results_slots rfl), ⟨rfl, rfl⟩, h270.only [] rfl⟩
                        · replace H := ite_f c73 H
                          refine HJ.know (t := 156) rfl (congrArg Value.bool c73) ?_
                          refine HJ.run ttok rfl [11, 13] rfl ?_
                          obtain ⟨r86, q82, H⟩ := bind_t H
                          refine HJ.op (i := 12) rfl rfl rfl rfl rfl (op_call [1, 1] (dev_Device_Blocks.spec q82) rfl rfl rfl h268 rfl gnil) ?_
                          rintro _ w139 ⟨_, ⟨rfl, rfl⟩, h271⟩
                          replace h271 : St w0 F0 [boxC b17 51 [.int .i64 x10, .slice A23 x11.length c_23, .int .u64 x12, .int .u64 x13], ownC 5 (.int .u8) x11 (.slice A23 x11.length c_23), ownC 5 (.int .u8) r84 (.slice A39 r84.length c_39), boxC b28 49 [.int .u64 r83.1, .int .u64 r83.2], boxC b18 30 [.int .i64 ((gt a2 x18).1), .int .u32 ((gt a2 x18).2.1), .slice A25 ((gt a2 x18).2.2).length c_25], boxC b16 40 [.int .i64 x14, .slice A24 x15.length c_24, .int .i64 x16, .int .i64 x17]] _ _ := h271
                          refine ⟨⟨[], (h271.only [2, 2, 0, 0, 0, 0] rfl)⟩, ?_⟩
                          refine HJ.run ttok rfl [14, 15, 16] rfl ?_
                          rcases Bool.eq_false_or_eq_true (!decide (r86 = a0)) with c74 | c74
                          · replace H := ite_t c74 H
                            refine HJ.know (t := 162) rfl (congrArg Value.bool c74) ?_
                            refine HJ.run ttok rfl [17, 18, 19, 20, 21, 22, 23, 24, 25, 26, 27, 28, 29, 30, 31, 32] rfl ?_
                            refine HJ.fin [(0, .int .i64 a0), (1, .int .i64 a1), (2, .slice A1 a2.length c_1), (7, .pointer (some ⟨b17, 0, none⟩)), (9, .pointer (some ⟨b16, 0, none⟩)), (10, .int .i64 x18), (178, .bool true)] rfl rfl ?_
                            have h272 := h271.only [0, 0, 3] rfl
                            replace h272 : St w0 F0 [boxC b17 51 [.int .i64 x10, .slice A23 x11.length c_23, .int .u64 x12, .int .u64 x13], ownC 5 (.int .u8) x11 (.slice A23 x11.length c_23), boxC b16 40 [.int .i64 x14, .slice A24 x15.length c_24, .int .i64 x16, .int .i64 x17]] _ _ := h272
                            refine J.condT rfl ?_
                            refine J.seq ?_
                            refine J.region ?_
                            refine RJ.run ttok 1 rfl ?_
                            refine RJ.fin [(6, .bool false)] rfl ?_
                            have h273 := h272.only [] rfl
                            replace h273 : St w0 F0 [] _ _ := h273
                            refine J.ret ?_
                            obtain rfl := Option.some.inj H
                            exact ⟨_, _, _, (results_slots rfl), ⟨rfl, rfl⟩, h273.only [] rfl⟩
                          · replace H := ite_f c74 H
                            refine HJ.know (t := 162) rfl (congrArg Value.bool c74) ?_
                            refine HJ.run ttok rfl [17, 19] rfl ?_
                            obtain ⟨r87, q83, H⟩ := bind_t H
                            refine HJ.op (i := 18) rfl rfl rfl rfl rfl (op_call [0, 0] (dev_Device_Bytes.spec q83) rfl rfl rfl h271 rfl gnil) ?_
                            rintro _ w140 ⟨_, ⟨rfl, rfl⟩, h274⟩
                            replace h274 : St w0 F0 [boxC b17 51 [.int .i64 x10, .slice A23 x11.length c_23, .int .u64 x12, .int .u64 x13], ownC 5 (.int .u8) x11 (.slice A23 x11.length c_23), ownC 5 (.int .u8) r84 (.slice A39 r84.length c_39), boxC b28 49 [.int .u64 r83.1, .int .u64 r83.2], boxC b18 30 [.int .i64 ((gt a2 x18).1), .int .u32 ((gt a2 x18).2.1), .slice A25 ((gt a2 x18).2.2).length c_25], boxC b16 40 [.int .i64 x14, .slice A24 x15.length c_24, .int .i64 x16, .int .i64 x17]] _ _ := h274
                            refine ⟨⟨[], (h274.only [2, 2, 0, 0, 0, 0] rfl)⟩, ?_⟩
                            refine HJ.run ttok rfl [20, 21, 22] rfl ?_
                            rcases Bool.eq_false_or_eq_true (!decide (r87 = a1)) with c75 | c75
                            · replace H := ite_t c75 H
                              refine HJ.know (t := 168) rfl (congrArg Value.bool c75) ?_
                              refine HJ.run ttok rfl [23, 24, 25, 26, 27, 28, 29, 30, 31, 32] rfl ?_
                              refine HJ.fin [(0, .int .i64 a0), (1, .int .i64 a1), (2, .slice A1 a2.length c_1), (7, .pointer (some ⟨b17, 0, none⟩)), (9, .pointer (some ⟨b16, 0, none⟩)), (10, .int .i64 x18), (178, .bool true)] rfl rfl ?_
                              have h275 := h274.only [0, 0, 3] rfl
                              replace h275 : St w0 F0 [boxC b17 51 [.int .i64 x10, .slice A23 x11.length c_23, .int .u64 x12, .int .u64 x13], ownC 5 (.int .u8) x11 (.slice A23 x11.length c_23), boxC b16 40 [.int .i64 x14, .slice A24 x15.length c_24, .int .i64 x16, .int .i64 x17]] _ _ := h275
                              refine J.condT rfl ?_
                              refine J.seq ?_
                              refine J.region ?_
                              refine RJ.run ttok 1 rfl ?_
                              refine RJ.fin [(6, .bool false)] rfl ?_
                              have h276 := h275.only [] rfl
                              replace h276 : St w0 F0 [] _ _ := h276
                              refine J.ret ?_
                              obtain rfl := Option.some.inj H
                              exact ⟨_, _, _, (results_slots rfl), ⟨rfl, rfl⟩, h276.only [] rfl⟩
                            · replace H := ite_f c75 H
                              refine HJ.know (t := 168) rfl (congrArg Value.bool c75) ?_
                              refine HJ.run ttok rfl [24, 27] rfl ?_
                              refine HJ.q (i := 23) rfl rfl rfl rfl rfl rfl (q_load_box ttok 1 (fun w e => e) rfl rfl rfl rfl rfl) ?_
                              refine HJ.q (i := 25) rfl rfl rfl rfl rfl rfl (q_load_box ttok 5 (fun w e => e) rfl rfl rfl rfl rfl) ?_
                              refine HJ.run ttok rfl [26] rfl ?_
                              refine HJ.q (i := 28) rfl rfl rfl rfl rfl rfl (q_load_box ttok 5 (fun w e => e) rfl rfl rfl rfl rfl) ?_
                              refine HJ.run ttok rfl [29, 30, 31, 32] rfl ?_
                              refine HJ.fin [(0, .int .i64 a0), (1, .int .i64 a1), (2, .slice A1 a2.length c_1), (7, .pointer (some ⟨b17, 0, none⟩)), (9, .pointer (some ⟨b16, 0, none⟩)), (10, .int .i64 x18), (178, .bool (!((decide (r83.1 = (IntKind.u64.wrap (x16)))) && ((decide (r83.2 = (IntKind.u64.wrap (x17)))) && true))))] rfl rfl ?_
                              have h277 := h274.only [0, 0, 3] rfl
                              replace h277 : St w0 F0 [boxC b17 51 [.int .i64 x10, .slice A23 x11.length c_23, .int .u64 x12, .int .u64 x13], ownC 5 (.int .u8) x11 (.slice A23 x11.length c_23), boxC b16 40 [.int .i64 x14, .slice A24 x15.length c_24, .int .i64 x16, .int .i64 x17]] _ _ := h277
                              refine J.cond rfl (fun c76 => ?_) (fun c76 => ?_)
                              · replace H := ite_t c76 H
                                refine J.seq ?_
                                refine J.region ?_
                                refine RJ.run ttok 1 rfl ?_
                                refine RJ.fin [(6, .bool false)] rfl ?_
                                have h278 := h277.only [] rfl
                                replace h278 : St w0 F0 [] _ _ := h278
                                refine J.ret ?_
                                obtain rfl := Option.some.inj H
                                exact ⟨_, _, _, (results_slots rfl), ⟨rfl, rfl⟩, h278.only [] rfl⟩
                              · replace H := ite_f c76 H
                                refine J.skip ?_
                                refine J.region ?_
                                refine RJ.run ttok 3 rfl ?_
                                refine RJ.fin [(0, .int .i64 a0), (1, .int .i64 a1), (2, .slice A1 a2.length c_1), (7, .pointer (some ⟨b17, 0, none⟩)), (9, .pointer (some ⟨b16, 0, none⟩)), (10, .int .i64 (w64 (x18 + 1)))] rfl ?_
                                have h279 := ((h277.only [0, 1, 0] rfl).rds [6, 7] rfl)
                                exact ⟨k2, by omega, b17, x10, x11, A23, c_23, x12, x13, x14, x15, A24, c_24, x16, x17, (w64 (x18 + 1)), rfl, h279, H⟩
              · replace H := ite_f c46 H
                refine J.exit ?_
                refine J.seq ?_
                refine J.region ?_
                obtain ⟨r88, q84, H⟩ := bind_t H
                refine RJ.op rfl rfl (op_call [] (sluicegatelaw06_awake.spec q84) rfl rfl rfl h154 rfl gnil) ?_
                rintro _ w141 ⟨_, ⟨rfl, rfl⟩, h280⟩
                replace h280 : St w0 F0 [boxC b17 51 [.int .i64 x10, .slice A23 x11.length c_23, .int .u64 x12, .int .u64 x13], boxC b16 40 [.int .i64 x14, .slice A24 x15.length c_24, .int .i64 x16, .int .i64 x17], ownC 5 (.int .u8) x11 (.slice A23 x11.length c_23)] _ _ := h280
                refine RJ.run ttok 1 rfl ?_
                refine RJ.fin [(6, .bool r88)] rfl ?_
                have h281 := h280.only [] rfl
                replace h281 : St w0 F0 [] _ _ := h281
                refine J.ret ?_
                obtain rfl := Option.some.inj H
                exact ⟨_, _, _, (results_slots rfl), ⟨rfl, rfl⟩, h281.only [] rfl⟩
            · replace H := ite_f c45 H
              refine RJ.know (t := 65) rfl (congrArg Value.bool c45) ?_
              refine RJ.run ttok 3 rfl ?_
              refine RJ.fin [(0, .int .i64 a0), (1, .int .i64 a1), (2, .slice A1 a2.length c_1), (7, .pointer (some ⟨b17, 0, none⟩)), (9, .pointer (some ⟨b16, 0, none⟩)), (10, .int .i64 x18), (68, .bool false)] rfl ?_
              refine J.condF rfl ?_
              refine J.exit ?_
              refine J.seq ?_
              refine J.region ?_
              obtain ⟨r89, q85, H⟩ := bind_t H
              refine RJ.op rfl rfl (op_call [] (sluicegatelaw06_awake.spec q85) rfl rfl rfl h154 rfl gnil) ?_
              rintro _ w142 ⟨_, ⟨rfl, rfl⟩, h282⟩
              replace h282 : St w0 F0 [boxC b17 51 [.int .i64 x10, .slice A23 x11.length c_23, .int .u64 x12, .int .u64 x13], boxC b16 40 [.int .i64 x14, .slice A24 x15.length c_24, .int .i64 x16, .int .i64 x17], ownC 5 (.int .u8) x11 (.slice A23 x11.length c_23)] _ _ := h282
              refine RJ.run ttok 1 rfl ?_
              refine RJ.fin [(6, .bool r89)] rfl ?_
              have h283 := h282.only [] rfl
              replace h283 : St w0 F0 [] _ _ := h283
              refine J.ret ?_
              obtain rfl := Option.some.inj H
              exact ⟨_, _, _, (results_slots rfl), ⟨rfl, rfl⟩, h283.only [] rfl⟩

end Go.SK.T
