/- The functions, further. -/
import Derived.Test.YtoemkinhdomnpaaXCachePlaysF1
set_option linter.unusedVariables false
set_option linter.unusedSimpArgs false
set_option maxRecDepth 20000
set_option maxHeartbeats 40000000
namespace Go.SK.T
open Go Go.SK Go.Proofs
mutual
def Q50.l0 : Nat → (List (Int)) → (Int) → (Int) → (Int) → (Bool) → (Bool) → Option (List (Int))
 | 0, _, _, _, _, _, _ => none
 | k + 1, x1, x2, x3, x4, x5, x6 => if (decide ((w64 (x3 - x2)) ≤ 12)) = true then ((Q42.f k x1 x2 x3).bind fun r1 => (some r1)) else (if (decide (x4 = 0)) = true then ((Q41.f k x1 x2 x3).bind fun r2 => (some r2)) else (if (!x5) = true then ((Q39.f k x1 x2 x3).bind fun r30 => ((Q40.f r30 x2 x3).bind fun r3 => (if (decide (r3.2 = 2)) = true then ((Q51.f k r30 x2 x3).bind fun r29 => (if x5 = true then (if x6 = true then (if (decide (1 = 1)) = true then ((Q47.f k r29 x2 x3).bind fun r12 => (if r12.1 = true then (some r12.2) else (if (decide (0 < x2)) = true then (if 0 ≤ (w64 (x2 - 1)) ∧ (w64 (x2 - 1)) < (r12.2.length : Int) then (if 0 ≤ (w64 ((w64 (x3 - 1)) - (w64 (r3.1 - x2)))) ∧ (w64 ((w64 (x3 - 1)) - (w64 (r3.1 - x2)))) < (r12.2.length : Int) then ((Q27.f (gt r12.2 (w64 (x2 - 1))) (gt r12.2 (w64 ((w64 (x3 - 1)) - (w64 (r3.1 - x2)))))).bind fun r4 => (if (!r4) = true then ((Q48.f k r12.2 x2 x3 (w64 ((w64 (x3 - 1)) - (w64 (r3.1 - x2))))).bind fun r5 => (Q50.l0 k r5.2 r5.1 x3 (w64 (x4 - 1)) x5 x6)) else ((Q49.f k r12.2 x2 x3 (w64 ((w64 (x3 - 1)) - (w64 (r3.1 - x2))))).bind fun r6 => (if (decide ((w64 (r6.1 - x2)) < (w64 (x3 - r6.1)))) = true then ((Q50.f k r6.2.2 x2 r6.1 (w64 (x4 - 1))).bind fun r7 => (Q50.l0 k r7 (w64 (r6.1 + 1)) x3 (w64 (x4 - 1)) (decide ((w64 (Int.tdiv (w64 (x3 - x2)) 8)) ≤ (w64 (r6.1 - x2)))) r6.2.1)) else ((Q50.f k r6.2.2 (w64 (r6.1 + 1)) x3 (w64 (x4 - 1))).bind fun r8 => (Q50.l0 k r8 x2 r6.1 (w64 (x4 - 1)) (decide ((w64 (Int.tdiv (w64 (x3 - x2)) 8)) ≤ (w64 (x3 - r6.1)))) r6.2.1)))))) else none) else none) else ((Q49.f k r12.2 x2 x3 (w64 ((w64 (x3 - 1)) - (w64 (r3.1 - x2))))).bind fun r9 => (if (decide ((w64 (r9.1 - x2)) < (w64 (x3 - r9.1)))) = true then ((Q50.f k r9.2.2 x2 r9.1 (w64 (x4 - 1))).bind fun r10 => (Q50.l0 k r10 (w64 (r9.1 + 1)) x3 (w64 (x4 - 1)) (decide ((w64 (Int.tdiv (w64 (x3 - x2)) 8)) ≤ (w64 (r9.1 - x2)))) r9.2.1)) else ((Q50.f k r9.2.2 (w64 (r9.1 + 1)) x3 (w64 (x4 - 1))).bind fun r11 => (Q50.l0 k r11 x2 r9.1 (w64 (x4 - 1)) (decide ((w64 (Int.tdiv (w64 (x3 - x2)) 8)) ≤ (w64 (x3 - r9.1)))) r9.2.1))))))) else (if (decide (0 < x2)) = true then (if 0 ≤ (w64 (x2 - 1)) ∧ (w64 (x2 - 1)) < (r29.length : Int) then (if 0 ≤ (w64 ((w64 (x3 - 1)) - (w64 (r3.1 - x2)))) ∧ (w64 ((w64 (x3 - 1)) - (w64 (r3.1 - x2)))) < (r29.length : Int) then ((Q27.f (gt r29 (w64 (x2 - 1))) (gt r29 (w64 ((w64 (x3 - 1)) - (w64 (r3.1 - x2)))))).bind fun r4 => (if (!r4) = true then ((Q48.f k r29 x2 x3 (w64 ((w64 (x3 - 1)) - (w64 (r3.1 - x2))))).bind fun r5 => (Q50.l0 k r5.2 r5.1 x3 (w64 (x4 - 1)) x5 x6)) else ((Q49.f k r29 x2 x3 (w64 ((w64 (x3 - 1)) - (w64 (r3.1 - x2))))).bind fun r6 => (if (decide ((w64 (r6.1 - x2)) < (w64 (x3 - r6.1)))) = true then ((Q50.f k r6.2.2 x2 r6.1 (w64 (x4 - 1))).bind fun r7 => (Q50.l0 k r7 (w64 (r6.1 + 1)) x3 (w64 (x4 - 1)) (decide ((w64 (Int.tdiv (w64 (x3 - x2)) 8)) ≤ (w64 (r6.1 - x2)))) r6.2.1)) else ((Q50.f k r6.2.2 (w64 (r6.1 + 1)) x3 (w64 (x4 - 1))).bind fun r8 => (Q50.l0 k r8 x2 r6.1 (w64 (x4 - 1)) (decide ((w64 (Int.tdiv (w64 (x3 - x2)) 8)) ≤ (w64 (x3 - r6.1)))) r6.2.1)))))) else none) else none) else ((Q49.f k r29 x2 x3 (w64 ((w64 (x3 - 1)) - (w64 (r3.1 - x2))))).bind fun r9 => (if (decide ((w64 (r9.1 - x2)) < (w64 (x3 - r9.1)))) = true then ((Q50.f k r9.2.2 x2 r9.1 (w64 (x4 - 1))).bind fun r10 => (Q50.l0 k r10 (w64 (r9.1 + 1)) x3 (w64 (x4 - 1)) (decide ((w64 (Int.tdiv (w64 (x3 - x2)) 8)) ≤ (w64 (r9.1 - x2)))) r9.2.1)) else ((Q50.f k r9.2.2 (w64 (r9.1 + 1)) x3 (w64 (x4 - 1))).bind fun r11 => (Q50.l0 k r11 x2 r9.1 (w64 (x4 - 1)) (decide ((w64 (Int.tdiv (w64 (x3 - x2)) 8)) ≤ (w64 (x3 - r9.1)))) r9.2.1)))))) else (if (decide (0 < x2)) = true then (if 0 ≤ (w64 (x2 - 1)) ∧ (w64 (x2 - 1)) < (r29.length : Int) then (if 0 ≤ (w64 ((w64 (x3 - 1)) - (w64 (r3.1 - x2)))) ∧ (w64 ((w64 (x3 - 1)) - (w64 (r3.1 - x2)))) < (r29.length : Int) then ((Q27.f (gt r29 (w64 (x2 - 1))) (gt r29 (w64 ((w64 (x3 - 1)) - (w64 (r3.1 - x2)))))).bind fun r13 => (if (!r13) = true then ((Q48.f k r29 x2 x3 (w64 ((w64 (x3 - 1)) - (w64 (r3.1 - x2))))).bind fun r14 => (Q50.l0 k r14.2 r14.1 x3 (w64 (x4 - 1)) x5 x6)) else ((Q49.f k r29 x2 x3 (w64 ((w64 (x3 - 1)) - (w64 (r3.1 - x2))))).bind fun r15 => (if (decide ((w64 (r15.1 - x2)) < (w64 (x3 - r15.1)))) = true then ((Q50.f k r15.2.2 x2 r15.1 (w64 (x4 - 1))).bind fun r16 => (Q50.l0 k r16 (w64 (r15.1 + 1)) x3 (w64 (x4 - 1)) (decide ((w64 (Int.tdiv (w64 (x3 - x2)) 8)) ≤ (w64 (r15.1 - x2)))) r15.2.1)) else ((Q50.f k r15.2.2 (w64 (r15.1 + 1)) x3 (w64 (x4 - 1))).bind fun r17 => (Q50.l0 k r17 x2 r15.1 (w64 (x4 - 1)) (decide ((w64 (Int.tdiv (w64 (x3 - x2)) 8)) ≤ (w64 (x3 - r15.1)))) r15.2.1)))))) else none) else none) else ((Q49.f k r29 x2 x3 (w64 ((w64 (x3 - 1)) - (w64 (r3.1 - x2))))).bind fun r18 => (if (decide ((w64 (r18.1 - x2)) < (w64 (x3 - r18.1)))) = true then ((Q50.f k r18.2.2 x2 r18.1 (w64 (x4 - 1))).bind fun r19 => (Q50.l0 k r19 (w64 (r18.1 + 1)) x3 (w64 (x4 - 1)) (decide ((w64 (Int.tdiv (w64 (x3 - x2)) 8)) ≤ (w64 (r18.1 - x2)))) r18.2.1)) else ((Q50.f k r18.2.2 (w64 (r18.1 + 1)) x3 (w64 (x4 - 1))).bind fun r20 => (Q50.l0 k r20 x2 r18.1 (w64 (x4 - 1)) (decide ((w64 (Int.tdiv (w64 (x3 - x2)) 8)) ≤ (w64 (x3 - r18.1)))) r18.2.1)))))) else (if (decide (0 < x2)) = true then (if 0 ≤ (w64 (x2 - 1)) ∧ (w64 (x2 - 1)) < (r29.length : Int) then (if 0 ≤ (w64 ((w64 (x3 - 1)) - (w64 (r3.1 - x2)))) ∧ (w64 ((w64 (x3 - 1)) - (w64 (r3.1 - x2)))) < (r29.length : Int) then ((Q27.f (gt r29 (w64 (x2 - 1))) (gt r29 (w64 ((w64 (x3 - 1)) - (w64 (r3.1 - x2)))))).bind fun r21 => (if (!r21) = true then ((Q48.f k r29 x2 x3 (w64 ((w64 (x3 - 1)) - (w64 (r3.1 - x2))))).bind fun r22 => (Q50.l0 k r22.2 r22.1 x3 (w64 (x4 - 1)) x5 x6)) else ((Q49.f k r29 x2 x3 (w64 ((w64 (x3 - 1)) - (w64 (r3.1 - x2))))).bind fun r23 => (if (decide ((w64 (r23.1 - x2)) < (w64 (x3 - r23.1)))) = true then ((Q50.f k r23.2.2 x2 r23.1 (w64 (x4 - 1))).bind fun r24 => (Q50.l0 k r24 (w64 (r23.1 + 1)) x3 (w64 (x4 - 1)) (decide ((w64 (Int.tdiv (w64 (x3 - x2)) 8)) ≤ (w64 (r23.1 - x2)))) r23.2.1)) else ((Q50.f k r23.2.2 (w64 (r23.1 + 1)) x3 (w64 (x4 - 1))).bind fun r25 => (Q50.l0 k r25 x2 r23.1 (w64 (x4 - 1)) (decide ((w64 (Int.tdiv (w64 (x3 - x2)) 8)) ≤ (w64 (x3 - r23.1)))) r23.2.1)))))) else none) else none) else ((Q49.f k r29 x2 x3 (w64 ((w64 (x3 - 1)) - (w64 (r3.1 - x2))))).bind fun r26 => (if (decide ((w64 (r26.1 - x2)) < (w64 (x3 - r26.1)))) = true then ((Q50.f k r26.2.2 x2 r26.1 (w64 (x4 - 1))).bind fun r27 => (Q50.l0 k r27 (w64 (r26.1 + 1)) x3 (w64 (x4 - 1)) (decide ((w64 (Int.tdiv (w64 (x3 - x2)) 8)) ≤ (w64 (r26.1 - x2)))) r26.2.1)) else ((Q50.f k r26.2.2 (w64 (r26.1 + 1)) x3 (w64 (x4 - 1))).bind fun r28 => (Q50.l0 k r28 x2 r26.1 (w64 (x4 - 1)) (decide ((w64 (Int.tdiv (w64 (x3 - x2)) 8)) ≤ (w64 (x3 - r26.1)))) r26.2.1))))))) else (if x5 = true then (if x6 = true then (if (decide (r3.2 = 1)) = true then ((Q47.f k r30 x2 x3).bind fun r12 => (if r12.1 = true then (some r12.2) else (if (decide (0 < x2)) = true then (if 0 ≤ (w64 (x2 - 1)) ∧ (w64 (x2 - 1)) < (r12.2.length : Int) then (if 0 ≤ r3.1 ∧ r3.1 < (r12.2.length : Int) then ((Q27.f (gt r12.2 (w64 (x2 - 1))) (gt r12.2 r3.1)).bind fun r4 => (if (!r4) = true then ((Q48.f k r12.2 x2 x3 r3.1).bind fun r5 => (Q50.l0 k r5.2 r5.1 x3 (w64 (x4 - 1)) x5 x6)) else ((Q49.f k r12.2 x2 x3 r3.1).bind fun r6 => (if (decide ((w64 (r6.1 - x2)) < (w64 (x3 - r6.1)))) = true then ((Q50.f k r6.2.2 x2 r6.1 (w64 (x4 - 1))).bind fun r7 => (Q50.l0 k r7 (w64 (r6.1 + 1)) x3 (w64 (x4 - 1)) (decide ((w64 (Int.tdiv (w64 (x3 - x2)) 8)) ≤ (w64 (r6.1 - x2)))) r6.2.1)) else ((Q50.f k r6.2.2 (w64 (r6.1 + 1)) x3 (w64 (x4 - 1))).bind fun r8 => (Q50.l0 k r8 x2 r6.1 (w64 (x4 - 1)) (decide ((w64 (Int.tdiv (w64 (x3 - x2)) 8)) ≤ (w64 (x3 - r6.1)))) r6.2.1)))))) else none) else none) else ((Q49.f k r12.2 x2 x3 r3.1).bind fun r9 => (if (decide ((w64 (r9.1 - x2)) < (w64 (x3 - r9.1)))) = true then ((Q50.f k r9.2.2 x2 r9.1 (w64 (x4 - 1))).bind fun r10 => (Q50.l0 k r10 (w64 (r9.1 + 1)) x3 (w64 (x4 - 1)) (decide ((w64 (Int.tdiv (w64 (x3 - x2)) 8)) ≤ (w64 (r9.1 - x2)))) r9.2.1)) else ((Q50.f k r9.2.2 (w64 (r9.1 + 1)) x3 (w64 (x4 - 1))).bind fun r11 => (Q50.l0 k r11 x2 r9.1 (w64 (x4 - 1)) (decide ((w64 (Int.tdiv (w64 (x3 - x2)) 8)) ≤ (w64 (x3 - r9.1)))) r9.2.1))))))) else (if (decide (0 < x2)) = true then (if 0 ≤ (w64 (x2 - 1)) ∧ (w64 (x2 - 1)) < (r30.length : Int) then (if 0 ≤ r3.1 ∧ r3.1 < (r30.length : Int) then ((Q27.f (gt r30 (w64 (x2 - 1))) (gt r30 r3.1)).bind fun r4 => (if (!r4) = true then ((Q48.f k r30 x2 x3 r3.1).bind fun r5 => (Q50.l0 k r5.2 r5.1 x3 (w64 (x4 - 1)) x5 x6)) else ((Q49.f k r30 x2 x3 r3.1).bind fun r6 => (if (decide ((w64 (r6.1 - x2)) < (w64 (x3 - r6.1)))) = true then ((Q50.f k r6.2.2 x2 r6.1 (w64 (x4 - 1))).bind fun r7 => (Q50.l0 k r7 (w64 (r6.1 + 1)) x3 (w64 (x4 - 1)) (decide ((w64 (Int.tdiv (w64 (x3 - x2)) 8)) ≤ (w64 (r6.1 - x2)))) r6.2.1)) else ((Q50.f k r6.2.2 (w64 (r6.1 + 1)) x3 (w64 (x4 - 1))).bind fun r8 => (Q50.l0 k r8 x2 r6.1 (w64 (x4 - 1)) (decide ((w64 (Int.tdiv (w64 (x3 - x2)) 8)) ≤ (w64 (x3 - r6.1)))) r6.2.1)))))) else none) else none) else ((Q49.f k r30 x2 x3 r3.1).bind fun r9 => (if (decide ((w64 (r9.1 - x2)) < (w64 (x3 - r9.1)))) = true then ((Q50.f k r9.2.2 x2 r9.1 (w64 (x4 - 1))).bind fun r10 => (Q50.l0 k r10 (w64 (r9.1 + 1)) x3 (w64 (x4 - 1)) (decide ((w64 (Int.tdiv (w64 (x3 - x2)) 8)) ≤ (w64 (r9.1 - x2)))) r9.2.1)) else ((Q50.f k r9.2.2 (w64 (r9.1 + 1)) x3 (w64 (x4 - 1))).bind fun r11 => (Q50.l0 k r11 x2 r9.1 (w64 (x4 - 1)) (decide ((w64 (Int.tdiv (w64 (x3 - x2)) 8)) ≤ (w64 (x3 - r9.1)))) r9.2.1)))))) else (if (decide (0 < x2)) = true then (if 0 ≤ (w64 (x2 - 1)) ∧ (w64 (x2 - 1)) < (r30.length : Int) then (if 0 ≤ r3.1 ∧ r3.1 < (r30.length : Int) then ((Q27.f (gt r30 (w64 (x2 - 1))) (gt r30 r3.1)).bind fun r13 => (if (!r13) = true then ((Q48.f k r30 x2 x3 r3.1).bind fun r14 => (Q50.l0 k r14.2 r14.1 x3 (w64 (x4 - 1)) x5 x6)) else ((Q49.f k r30 x2 x3 r3.1).bind fun r15 => (if (decide ((w64 (r15.1 - x2)) < (w64 (x3 - r15.1)))) = true then ((Q50.f k r15.2.2 x2 r15.1 (w64 (x4 - 1))).bind fun r16 => (Q50.l0 k r16 (w64 (r15.1 + 1)) x3 (w64 (x4 - 1)) (decide ((w64 (Int.tdiv (w64 (x3 - x2)) 8)) ≤ (w64 (r15.1 - x2)))) r15.2.1)) else ((Q50.f k r15.2.2 (w64 (r15.1 + 1)) x3 (w64 (x4 - 1))).bind fun r17 => (Q50.l0 k r17 x2 r15.1 (w64 (x4 - 1)) (decide ((w64 (Int.tdiv (w64 (x3 - x2)) 8)) ≤ (w64 (x3 - r15.1)))) r15.2.1)))))) else none) else none) else ((Q49.f k r30 x2 x3 r3.1).bind fun r18 => (if (decide ((w64 (r18.1 - x2)) < (w64 (x3 - r18.1)))) = true then ((Q50.f k r18.2.2 x2 r18.1 (w64 (x4 - 1))).bind fun r19 => (Q50.l0 k r19 (w64 (r18.1 + 1)) x3 (w64 (x4 - 1)) (decide ((w64 (Int.tdiv (w64 (x3 - x2)) 8)) ≤ (w64 (r18.1 - x2)))) r18.2.1)) else ((Q50.f k r18.2.2 (w64 (r18.1 + 1)) x3 (w64 (x4 - 1))).bind fun r20 => (Q50.l0 k r20 x2 r18.1 (w64 (x4 - 1)) (decide ((w64 (Int.tdiv (w64 (x3 - x2)) 8)) ≤ (w64 (x3 - r18.1)))) r18.2.1)))))) else (if (decide (0 < x2)) = true then (if 0 ≤ (w64 (x2 - 1)) ∧ (w64 (x2 - 1)) < (r30.length : Int) then (if 0 ≤ r3.1 ∧ r3.1 < (r30.length : Int) then ((Q27.f (gt r30 (w64 (x2 - 1))) (gt r30 r3.1)).bind fun r21 => (if (!r21) = true then ((Q48.f k r30 x2 x3 r3.1).bind fun r22 => (Q50.l0 k r22.2 r22.1 x3 (w64 (x4 - 1)) x5 x6)) else ((Q49.f k r30 x2 x3 r3.1).bind fun r23 => (if (decide ((w64 (r23.1 - x2)) < (w64 (x3 - r23.1)))) = true then ((Q50.f k r23.2.2 x2 r23.1 (w64 (x4 - 1))).bind fun r24 => (Q50.l0 k r24 (w64 (r23.1 + 1)) x3 (w64 (x4 - 1)) (decide ((w64 (Int.tdiv (w64 (x3 - x2)) 8)) ≤ (w64 (r23.1 - x2)))) r23.2.1)) else ((Q50.f k r23.2.2 (w64 (r23.1 + 1)) x3 (w64 (x4 - 1))).bind fun r25 => (Q50.l0 k r25 x2 r23.1 (w64 (x4 - 1)) (decide ((w64 (Int.tdiv (w64 (x3 - x2)) 8)) ≤ (w64 (x3 - r23.1)))) r23.2.1)))))) else none) else none) else ((Q49.f k r30 x2 x3 r3.1).bind fun r26 => (if (decide ((w64 (r26.1 - x2)) < (w64 (x3 - r26.1)))) = true then ((Q50.f k r26.2.2 x2 r26.1 (w64 (x4 - 1))).bind fun r27 => (Q50.l0 k r27 (w64 (r26.1 + 1)) x3 (w64 (x4 - 1)) (decide ((w64 (Int.tdiv (w64 (x3 - x2)) 8)) ≤ (w64 (r26.1 - x2)))) r26.2.1)) else ((Q50.f k r26.2.2 (w64 (r26.1 + 1)) x3 (w64 (x4 - 1))).bind fun r28 => (Q50.l0 k r28 x2 r26.1 (w64 (x4 - 1)) (decide ((w64 (Int.tdiv (w64 (x3 - x2)) 8)) ≤ (w64 (x3 - r26.1)))) r26.2.1))))))))) else ((Q40.f x1 x2 x3).bind fun r3 => (if (decide (r3.2 = 2)) = true then ((Q51.f k x1 x2 x3).bind fun r29 => (if x5 = true then (if x6 = true then (if (decide (1 = 1)) = true then ((Q47.f k r29 x2 x3).bind fun r12 => (if r12.1 = true then (some r12.2) else (if (decide (0 < x2)) = true then (if 0 ≤ (w64 (x2 - 1)) ∧ (w64 (x2 - 1)) < (r12.2.length : Int) then (if 0 ≤ (w64 ((w64 (x3 - 1)) - (w64 (r3.1 - x2)))) ∧ (w64 ((w64 (x3 - 1)) - (w64 (r3.1 - x2)))) < (r12.2.length : Int) then ((Q27.f (gt r12.2 (w64 (x2 - 1))) (gt r12.2 (w64 ((w64 (x3 - 1)) - (w64 (r3.1 - x2)))))).bind fun r4 => (if (!r4) = true then ((Q48.f k r12.2 x2 x3 (w64 ((w64 (x3 - 1)) - (w64 (r3.1 - x2))))).bind fun r5 => (Q50.l0 k r5.2 r5.1 x3 x4 x5 x6)) else ((Q49.f k r12.2 x2 x3 (w64 ((w64 (x3 - 1)) - (w64 (r3.1 - x2))))).bind fun r6 => (if (decide ((w64 (r6.1 - x2)) < (w64 (x3 - r6.1)))) = true then ((Q50.f k r6.2.2 x2 r6.1 x4).bind fun r7 => (Q50.l0 k r7 (w64 (r6.1 + 1)) x3 x4 (decide ((w64 (Int.tdiv (w64 (x3 - x2)) 8)) ≤ (w64 (r6.1 - x2)))) r6.2.1)) else ((Q50.f k r6.2.2 (w64 (r6.1 + 1)) x3 x4).bind fun r8 => (Q50.l0 k r8 x2 r6.1 x4 (decide ((w64 (Int.tdiv (w64 (x3 - x2)) 8)) ≤ (w64 (x3 - r6.1)))) r6.2.1)))))) else none) else none) else ((Q49.f k r12.2 x2 x3 (w64 ((w64 (x3 - 1)) - (w64 (r3.1 - x2))))).bind fun r9 => (if (decide ((w64 (r9.1 - x2)) < (w64 (x3 - r9.1)))) = true then ((Q50.f k r9.2.2 x2 r9.1 x4).bind fun r10 => (Q50.l0 k r10 (w64 (r9.1 + 1)) x3 x4 (decide ((w64 (Int.tdiv (w64 (x3 - x2)) 8)) ≤ (w64 (r9.1 - x2)))) r9.2.1)) else ((Q50.f k r9.2.2 (w64 (r9.1 + 1)) x3 x4).bind fun r11 => (Q50.l0 k r11 x2 r9.1 x4 (decide ((w64 (Int.tdiv (w64 (x3 - x2)) 8)) ≤ (w64 (x3 - r9.1)))) r9.2.1))))))) else (if (decide (0 < x2)) = true then (if 0 ≤ (w64 (x2 - 1)) ∧ (w64 (x2 - 1)) < (r29.length : Int) then (if 0 ≤ (w64 ((w64 (x3 - 1)) - (w64 (r3.1 - x2)))) ∧ (w64 ((w64 (x3 - 1)) - (w64 (r3.1 - x2)))) < (r29.length : Int) then ((Q27.f (gt r29 (w64 (x2 - 1))) (gt r29 (w64 ((w64 (x3 - 1)) - (w64 (r3.1 - x2)))))).bind fun r4 => (if (!r4) = true then ((Q48.f k r29 x2 x3 (w64 ((w64 (x3 - 1)) - (w64 (r3.1 - x2))))).bind fun r5 => (Q50.l0 k r5.2 r5.1 x3 x4 x5 x6)) else ((Q49.f k r29 x2 x3 (w64 ((w64 (x3 - 1)) - (w64 (r3.1 - x2))))).bind fun r6 => (if (decide ((w64 (r6.1 - x2)) < (w64 (x3 - r6.1)))) = true then ((Q50.f k r6.2.2 x2 r6.1 x4).bind fun r7 => (Q50.l0 k r7 (w64 (r6.1 + 1)) x3 x4 (decide ((w64 (Int.tdiv (w64 (x3 - x2)) 8)) ≤ (w64 (r6.1 - x2)))) r6.2.1)) else ((Q50.f k r6.2.2 (w64 (r6.1 + 1)) x3 x4).bind fun r8 => (Q50.l0 k r8 x2 r6.1 x4 (decide ((w64 (Int.tdiv (w64 (x3 - x2)) 8)) ≤ (w64 (x3 - r6.1)))) r6.2.1)))))) else none) else none) else ((Q49.f k r29 x2 x3 (w64 ((w64 (x3 - 1)) - (w64 (r3.1 - x2))))).bind fun r9 => (if (decide ((w64 (r9.1 - x2)) < (w64 (x3 - r9.1)))) = true then ((Q50.f k r9.2.2 x2 r9.1 x4).bind fun r10 => (Q50.l0 k r10 (w64 (r9.1 + 1)) x3 x4 (decide ((w64 (Int.tdiv (w64 (x3 - x2)) 8)) ≤ (w64 (r9.1 - x2)))) r9.2.1)) else ((Q50.f k r9.2.2 (w64 (r9.1 + 1)) x3 x4).bind fun r11 => (Q50.l0 k r11 x2 r9.1 x4 (decide ((w64 (Int.tdiv (w64 (x3 - x2)) 8)) ≤ (w64 (x3 - r9.1)))) r9.2.1)))))) else (if (decide (0 < x2)) = true then (if 0 ≤ (w64 (x2 - 1)) ∧ (w64 (x2 - 1)) < (r29.length : Int) then (if 0 ≤ (w64 ((w64 (x3 - 1)) - (w64 (r3.1 - x2)))) ∧ (w64 ((w64 (x3 - 1)) - (w64 (r3.1 - x2)))) < (r29.length : Int) then ((Q27.f (gt r29 (w64 (x2 - 1))) (gt r29 (w64 ((w64 (x3 - 1)) - (w64 (r3.1 - x2)))))).bind fun r13 => (if (!r13) = true then ((Q48.f k r29 x2 x3 (w64 ((w64 (x3 - 1)) - (w64 (r3.1 - x2))))).bind fun r14 => (Q50.l0 k r14.2 r14.1 x3 x4 x5 x6)) else ((Q49.f k r29 x2 x3 (w64 ((w64 (x3 - 1)) - (w64 (r3.1 - x2))))).bind fun r15 => (if (decide ((w64 (r15.1 - x2)) < (w64 (x3 - r15.1)))) = true then ((Q50.f k r15.2.2 x2 r15.1 x4).bind fun r16 => (Q50.l0 k r16 (w64 (r15.1 + 1)) x3 x4 (decide ((w64 (Int.tdiv (w64 (x3 - x2)) 8)) ≤ (w64 (r15.1 - x2)))) r15.2.1)) else ((Q50.f k r15.2.2 (w64 (r15.1 + 1)) x3 x4).bind fun r17 => (Q50.l0 k r17 x2 r15.1 x4 (decide ((w64 (Int.tdiv (w64 (x3 - x2)) 8)) ≤ (w64 (x3 - r15.1)))) r15.2.1)))))) else none) else none) else ((Q49.f k r29 x2 x3 (w64 ((w64 (x3 - 1)) - (w64 (r3.1 - x2))))).bind fun r18 => (if (decide ((w64 (r18.1 - x2)) < (w64 (x3 - r18.1)))) = true then ((Q50.f k r18.2.2 x2 r18.1 x4).bind fun r19 => (Q50.l0 k r19 (w64 (r18.1 + 1)) x3 x4 (decide ((w64 (Int.tdiv (w64 (x3 - x2)) 8)) ≤ (w64 (r18.1 - x2)))) r18.2.1)) else ((Q50.f k r18.2.2 (w64 (r18.1 + 1)) x3 x4).bind fun r20 => (Q50.l0 k r20 x2 r18.1 x4 (decide ((w64 (Int.tdiv (w64 (x3 - x2)) 8)) ≤ (w64 (x3 - r18.1)))) r18.2.1)))))) else (if (decide (0 < x2)) = true then (if 0 ≤ (w64 (x2 - 1)) ∧ (w64 (x2 - 1)) < (r29.length : Int) then (if 0 ≤ (w64 ((w64 (x3 - 1)) - (w64 (r3.1 - x2)))) ∧ (w64 ((w64 (x3 - 1)) - (w64 (r3.1 - x2)))) < (r29.length : Int) then ((Q27.f (gt r29 (w64 (x2 - 1))) (gt r29 (w64 ((w64 (x3 - 1)) - (w64 (r3.1 - x2)))))).bind fun r21 => (if (!r21) = true then ((Q48.f k r29 x2 x3 (w64 ((w64 (x3 - 1)) - (w64 (r3.1 - x2))))).bind fun r22 => (Q50.l0 k r22.2 r22.1 x3 x4 x5 x6)) else ((Q49.f k r29 x2 x3 (w64 ((w64 (x3 - 1)) - (w64 (r3.1 - x2))))).bind fun r23 => (if (decide ((w64 (r23.1 - x2)) < (w64 (x3 - r23.1)))) = true then ((Q50.f k r23.2.2 x2 r23.1 x4).bind fun r24 => (Q50.l0 k r24 (w64 (r23.1 + 1)) x3 x4 (decide ((w64 (Int.tdiv (w64 (x3 - x2)) 8)) ≤ (w64 (r23.1 - x2)))) r23.2.1)) else ((Q50.f k r23.2.2 (w64 (r23.1 + 1)) x3 x4).bind fun r25 => (Q50.l0 k r25 x2 r23.1 x4 (decide ((w64 (Int.tdiv (w64 (x3 - x2)) 8)) ≤ (w64 (x3 - r23.1)))) r23.2.1)))))) else none) else none) else ((Q49.f k r29 x2 x3 (w64 ((w64 (x3 - 1)) - (w64 (r3.1 - x2))))).bind fun r26 => (if (decide ((w64 (r26.1 - x2)) < (w64 (x3 - r26.1)))) = true then ((Q50.f k r26.2.2 x2 r26.1 x4).bind fun r27 => (Q50.l0 k r27 (w64 (r26.1 + 1)) x3 x4 (decide ((w64 (Int.tdiv (w64 (x3 - x2)) 8)) ≤ (w64 (r26.1 - x2)))) r26.2.1)) else ((Q50.f k r26.2.2 (w64 (r26.1 + 1)) x3 x4).bind fun r28 => (Q50.l0 k r28 x2 r26.1 x4 (decide ((w64 (Int.tdiv (w64 (x3 - x2)) 8)) ≤ (w64 (x3 - r26.1)))) r26.2.1))))))) else (if x5 = true then (if x6 = true then (if (decide (r3.2 = 1)) = true then ((Q47.f k x1 x2 x3).bind fun r12 => (if r12.1 = true then (some r12.2) else (if (decide (0 < x2)) = true then (if 0 ≤ (w64 (x2 - 1)) ∧ (w64 (x2 - 1)) < (r12.2.length : Int) then (if 0 ≤ r3.1 ∧ r3.1 < (r12.2.length : Int) then ((Q27.f (gt r12.2 (w64 (x2 - 1))) (gt r12.2 r3.1)).bind fun r4 => (if (!r4) = true then ((Q48.f k r12.2 x2 x3 r3.1).bind fun r5 => (Q50.l0 k r5.2 r5.1 x3 x4 x5 x6)) else ((Q49.f k r12.2 x2 x3 r3.1).bind fun r6 => (if (decide ((w64 (r6.1 - x2)) < (w64 (x3 - r6.1)))) = true then ((Q50.f k r6.2.2 x2 r6.1 x4).bind fun r7 => (Q50.l0 k r7 (w64 (r6.1 + 1)) x3 x4 (decide ((w64 (Int.tdiv (w64 (x3 - x2)) 8)) ≤ (w64 (r6.1 - x2)))) r6.2.1)) else ((Q50.f k r6.2.2 (w64 (r6.1 + 1)) x3 x4).bind fun r8 => (Q50.l0 k r8 x2 r6.1 x4 (decide ((w64 (Int.tdiv (w64 (x3 - x2)) 8)) ≤ (w64 (x3 - r6.1)))) r6.2.1)))))) else none) else none) else ((Q49.f k r12.2 x2 x3 r3.1).bind fun r9 => (if (decide ((w64 (r9.1 - x2)) < (w64 (x3 - r9.1)))) = true then ((Q50.f k r9.2.2 x2 r9.1 x4).bind fun r10 => (Q50.l0 k r10 (w64 (r9.1 + 1)) x3 x4 (decide ((w64 (Int.tdiv (w64 (x3 - x2)) 8)) ≤ (w64 (r9.1 - x2)))) r9.2.1)) else ((Q50.f k r9.2.2 (w64 (r9.1 + 1)) x3 x4).bind fun r11 => (Q50.l0 k r11 x2 r9.1 x4 (decide ((w64 (Int.tdiv (w64 (x3 - x2)) 8)) ≤ (w64 (x3 - r9.1)))) r9.2.1))))))) else (if (decide (0 < x2)) = true then (if 0 ≤ (w64 (x2 - 1)) ∧ (w64 (x2 - 1)) < (x1.length : Int) then (if 0 ≤ r3.1 ∧ r3.1 < (x1.length : Int) then ((Q27.f (gt x1 (w64 (x2 - 1))) (gt x1 r3.1)).bind fun r4 => (if (!r4) = true then ((Q48.f k x1 x2 x3 r3.1).bind fun r5 => (Q50.l0 k r5.2 r5.1 x3 x4 x5 x6)) else ((Q49.f k x1 x2 x3 r3.1).bind fun r6 => (if (decide ((w64 (r6.1 - x2)) < (w64 (x3 - r6.1)))) = true then ((Q50.f k r6.2.2 x2 r6.1 x4).bind fun r7 => (Q50.l0 k r7 (w64 (r6.1 + 1)) x3 x4 (decide ((w64 (Int.tdiv (w64 (x3 - x2)) 8)) ≤ (w64 (r6.1 - x2)))) r6.2.1)) else ((Q50.f k r6.2.2 (w64 (r6.1 + 1)) x3 x4).bind fun r8 => (Q50.l0 k r8 x2 r6.1 x4 (decide ((w64 (Int.tdiv (w64 (x3 - x2)) 8)) ≤ (w64 (x3 - r6.1)))) r6.2.1)))))) else none) else none) else ((Q49.f k x1 x2 x3 r3.1).bind fun r9 => (if (decide ((w64 (r9.1 - x2)) < (w64 (x3 - r9.1)))) = true then ((Q50.f k r9.2.2 x2 r9.1 x4).bind fun r10 => (Q50.l0 k r10 (w64 (r9.1 + 1)) x3 x4 (decide ((w64 (Int.tdiv (w64 (x3 - x2)) 8)) ≤ (w64 (r9.1 - x2)))) r9.2.1)) else ((Q50.f k r9.2.2 (w64 (r9.1 + 1)) x3 x4).bind fun r11 => (Q50.l0 k r11 x2 r9.1 x4 (decide ((w64 (Int.tdiv (w64 (x3 - x2)) 8)) ≤ (w64 (x3 - r9.1)))) r9.2.1)))))) else (if (decide (0 < x2)) = true then (if 0 ≤ (w64 (x2 - 1)) ∧ (w64 (x2 - 1)) < (x1.length : Int) then (if 0 ≤ r3.1 ∧ r3.1 < (x1.length : Int) then ((Q27.f (gt x1 (w64 (x2 - 1))) (gt x1 r3.1)).bind fun r13 => (if (!r13) = true then ((Q48.f k x1 x2 x3 r3.1).bind fun r14 => (Q50.l0 k r14.2 r14.1 x3 x4 x5 x6)) else ((Q49.f k x1 x2 x3 r3.1).bind fun r15 => (if (decide ((w64 (r15.1 - x2)) < (w64 (x3 - r15.1)))) = true then ((Q50.f k r15.2.2 x2 r15.1 x4).bind fun r16 => (Q50.l0 k r16 (w64 (r15.1 + 1)) x3 x4 (decide ((w64 (Int.tdiv (w64 (x3 - x2)) 8)) ≤ (w64 (r15.1 - x2)))) r15.2.1)) else ((Q50.f k r15.2.2 (w64 (r15.1 + 1)) x3 x4).bind fun r17 => (Q50.l0 k r17 x2 r15.1 x4 (decide ((w64 (Int.tdiv (w64 (x3 - x2)) 8)) ≤ (w64 (x3 - r15.1)))) r15.2.1)))))) else none) else none) else ((Q49.f k x1 x2 x3 r3.1).bind fun r18 => (if (decide ((w64 (r18.1 - x2)) < (w64 (x3 - r18.1)))) = true then ((Q50.f k r18.2.2 x2 r18.1 x4).bind fun r19 => (Q50.l0 k r19 (w64 (r18.1 + 1)) x3 x4 (decide ((w64 (Int.tdiv (w64 (x3 - x2)) 8)) ≤ (w64 (r18.1 - x2)))) r18.2.1)) else ((Q50.f k r18.2.2 (w64 (r18.1 + 1)) x3 x4).bind fun r20 => (Q50.l0 k r20 x2 r18.1 x4 (decide ((w64 (Int.tdiv (w64 (x3 - x2)) 8)) ≤ (w64 (x3 - r18.1)))) r18.2.1)))))) else (if (decide (0 < x2)) = true then (if 0 ≤ (w64 (x2 - 1)) ∧ (w64 (x2 - 1)) < (x1.length : Int) then (if 0 ≤ r3.1 ∧ r3.1 < (x1.length : Int) then ((Q27.f (gt x1 (w64 (x2 - 1))) (gt x1 r3.1)).bind fun r21 => (if (!r21) = true then ((Q48.f k x1 x2 x3 r3.1).bind fun r22 => (Q50.l0 k r22.2 r22.1 x3 x4 x5 x6)) else ((Q49.f k x1 x2 x3 r3.1).bind fun r23 => (if (decide ((w64 (r23.1 - x2)) < (w64 (x3 - r23.1)))) = true then ((Q50.f k r23.2.2 x2 r23.1 x4).bind fun r24 => (Q50.l0 k r24 (w64 (r23.1 + 1)) x3 x4 (decide ((w64 (Int.tdiv (w64 (x3 - x2)) 8)) ≤ (w64 (r23.1 - x2)))) r23.2.1)) else ((Q50.f k r23.2.2 (w64 (r23.1 + 1)) x3 x4).bind fun r25 => (Q50.l0 k r25 x2 r23.1 x4 (decide ((w64 (Int.tdiv (w64 (x3 - x2)) 8)) ≤ (w64 (x3 - r23.1)))) r23.2.1)))))) else none) else none) else ((Q49.f k x1 x2 x3 r3.1).bind fun r26 => (if (decide ((w64 (r26.1 - x2)) < (w64 (x3 - r26.1)))) = true then ((Q50.f k r26.2.2 x2 r26.1 x4).bind fun r27 => (Q50.l0 k r27 (w64 (r26.1 + 1)) x3 x4 (decide ((w64 (Int.tdiv (w64 (x3 - x2)) 8)) ≤ (w64 (r26.1 - x2)))) r26.2.1)) else ((Q50.f k r26.2.2 (w64 (r26.1 + 1)) x3 x4).bind fun r28 => (Q50.l0 k r28 x2 r26.1 x4 (decide ((w64 (Int.tdiv (w64 (x3 - x2)) 8)) ≤ (w64 (x3 - r26.1)))) r26.2.1))))))))))
def Q50.f : Nat → (List (Int)) → (Int) → (Int) → (Int) → Option (List (Int))
 | 0, _, _, _, _ => none
 | k + 1, a0, a1, a2, a3 => Q50.l0 k a0 a1 a2 a3 true true
end
theorem Q50.spec : ∀ {k : Nat} {a0 : List (Int)} {a1 : Int} {a2 : Int} {a3 : Int} {A1 : Option Addr} {c_1 : Nat} {r : List (Int)}, Q50.f k a0 a1 a2 a3 = some r →
  Spec Try.prog 164 [.slice A1 a0.length c_1, .int .i64 a1, .int .i64 a2, .int .i64 a3] [O23 a0 A1 c_1] [] (fun v l => v = .tuple #[] ∧ l = [O23 r A1 c_1] ∧ r.length = a0.length) := by
 intro k
 induction k using Nat.strongRecOn with
 | _ k ih =>
 intro a0 a1 a2 a3 A1 c_1 r H
 cases k with
 | zero => rw [Q50.f] at H; cases H
 | succ kr =>
 refine Zr Try.func164 fun w0 F0 h0 => ?_
 rw [Q50.f] at H
 refine J.seq (Zb [0, 1, 2, 3, 8] ?_)
 refine J.seq (Zb [0, 1, 2, 3, 8, 9] ?_)
 refine J.block ?_
 have h59 := (sOR h0 [0] [])
 refine J.loop (fun kk env w => ∃ (x1 : List (Int)) (x2 : Int) (x3 : Int) (x4 : Int) (x5 : Bool) (x6 : Bool), env = [(0, .slice A1 x1.length c_1), (1, .int .i64 x2), (2, .int .i64 x3), (3, .int .i64 x4), (8, .bool x5), (9, .bool x6)] ∧ St w0 F0 [O23 x1 A1 c_1] [] w ∧ Q50.l0 kk x1 x2 x3 x4 x5 x6 = some r ∧ kk ≤ kr ∧ x1.length = a0.length) (k := kr) ⟨a0, a1, a2, a3, true, true, rfl, h59, H, Nat.le_refl _, (rfl : a0.length = a0.length)⟩ ?_
 rintro k1 env w1 ⟨x1, x2, x3, x4, x5, x6, rfl, h1, H, hk1, e1⟩
 rcases k1 with _ | k1
 ·exact z0 H
 rw [Q50.l0] at H
 refine J.block (J.seq (Zb [0, 1, 2, 3, 8, 9, 10] ?_))
 refine J.seq (J.seq (Zb [0, 1, 2, 3, 8, 9, 10, 23] ?_))
 refine jIf H (fun c1 H => ?_) fun c1 H => ?_
 ·refine J.seq (J.region ?_)
  refine Zl 3 ?_
  obtain ⟨r1, q1, H⟩ := Zp H
  refine Ze (Zk [0] (Q42.spec q1) h1 rfl Zu) ?_
  rintro _ w2 ⟨_, ⟨rfl, rfl, q2⟩, h2⟩
  replace h2 := nf h2
  have e2 : r1.length = a0.length := q2.trans e1
  refine Zm [] rfl ?_
  refine J.ret ?_
  cases H
  exact ⟨_, _, _, Zc, ⟨rfl, rfl, e2⟩, Zd h2 [0]⟩
 refine J.skip (J.seq (J.seq (Zb [0, 1, 2, 3, 8, 9, 10, 29] ?_)))
 refine jIf H (fun c2 H => ?_) fun c2 H => ?_
 ·refine J.seq (J.region ?_)
  refine Zl 3 ?_
  obtain ⟨r2, q3, H⟩ := Zp H
  refine Ze (Zk [0] (Q41.spec q3) h1 rfl Zu) ?_
  rintro _ w3 ⟨_, ⟨rfl, rfl, q4⟩, h3⟩
  replace h3 := nf h3
  have e3 : r2.length = a0.length := q4.trans e1
  refine Zm [] rfl ?_
  refine J.ret ?_
  cases H
  exact ⟨_, _, _, Zc, ⟨rfl, rfl, e3⟩, Zd h3 [0]⟩
 refine J.skip (J.seq (J.seq (Zb [0, 1, 2, 3, 8, 9, 10, 35] ?_)))
 refine J.midS (fun env w => ∃ (k2 : Nat) (x7 : List (Int)) (x8 : Int), env = [(0, .slice A1 x7.length c_1), (1, .int .i64 x2), (2, .int .i64 x3), (3, .int .i64 x8), (8, .bool x5), (9, .bool x6), (10, .int .i64 (w64 (x3 - x2)))] ∧ St w0 F0 [O23 x7 A1 c_1] [] w ∧ ((Q40.f x7 x2 x3).bind fun r3 => (if (decide (r3.2 = 2)) = true then ((Q51.f k2 x7 x2 x3).bind fun r29 => (if x5 = true then (if x6 = true then (if (decide (1 = 1)) = true then ((Q47.f k2 r29 x2 x3).bind fun r12 => (if r12.1 = true then (some r12.2) else (if (decide (0 < x2)) = true then (if 0 ≤ (w64 (x2 - 1)) ∧ (w64 (x2 - 1)) < (r12.2.length : Int) then (if 0 ≤ (w64 ((w64 (x3 - 1)) - (w64 (r3.1 - x2)))) ∧ (w64 ((w64 (x3 - 1)) - (w64 (r3.1 - x2)))) < (r12.2.length : Int) then ((Q27.f (gt r12.2 (w64 (x2 - 1))) (gt r12.2 (w64 ((w64 (x3 - 1)) - (w64 (r3.1 - x2)))))).bind fun r4 => (if (!r4) = true then ((Q48.f k2 r12.2 x2 x3 (w64 ((w64 (x3 - 1)) - (w64 (r3.1 - x2))))).bind fun r5 => (Q50.l0 k2 r5.2 r5.1 x3 x8 x5 x6)) else ((Q49.f k2 r12.2 x2 x3 (w64 ((w64 (x3 - 1)) - (w64 (r3.1 - x2))))).bind fun r6 => (if (decide ((w64 (r6.1 - x2)) < (w64 (x3 - r6.1)))) = true then ((Q50.f k2 r6.2.2 x2 r6.1 x8).bind fun r7 => (Q50.l0 k2 r7 (w64 (r6.1 + 1)) x3 x8 (decide ((w64 (Int.tdiv (w64 (x3 - x2)) 8)) ≤ (w64 (r6.1 - x2)))) r6.2.1)) else ((Q50.f k2 r6.2.2 (w64 (r6.1 + 1)) x3 x8).bind fun r8 => (Q50.l0 k2 r8 x2 r6.1 x8 (decide ((w64 (Int.tdiv (w64 (x3 - x2)) 8)) ≤ (w64 (x3 - r6.1)))) r6.2.1)))))) else none) else none) else ((Q49.f k2 r12.2 x2 x3 (w64 ((w64 (x3 - 1)) - (w64 (r3.1 - x2))))).bind fun r9 => (if (decide ((w64 (r9.1 - x2)) < (w64 (x3 - r9.1)))) = true then ((Q50.f k2 r9.2.2 x2 r9.1 x8).bind fun r10 => (Q50.l0 k2 r10 (w64 (r9.1 + 1)) x3 x8 (decide ((w64 (Int.tdiv (w64 (x3 - x2)) 8)) ≤ (w64 (r9.1 - x2)))) r9.2.1)) else ((Q50.f k2 r9.2.2 (w64 (r9.1 + 1)) x3 x8).bind fun r11 => (Q50.l0 k2 r11 x2 r9.1 x8 (decide ((w64 (Int.tdiv (w64 (x3 - x2)) 8)) ≤ (w64 (x3 - r9.1)))) r9.2.1))))))) else (if (decide (0 < x2)) = true then (if 0 ≤ (w64 (x2 - 1)) ∧ (w64 (x2 - 1)) < (r29.length : Int) then (if 0 ≤ (w64 ((w64 (x3 - 1)) - (w64 (r3.1 - x2)))) ∧ (w64 ((w64 (x3 - 1)) - (w64 (r3.1 - x2)))) < (r29.length : Int) then ((Q27.f (gt r29 (w64 (x2 - 1))) (gt r29 (w64 ((w64 (x3 - 1)) - (w64 (r3.1 - x2)))))).bind fun r4 => (if (!r4) = true then ((Q48.f k2 r29 x2 x3 (w64 ((w64 (x3 - 1)) - (w64 (r3.1 - x2))))).bind fun r5 => (Q50.l0 k2 r5.2 r5.1 x3 x8 x5 x6)) else ((Q49.f k2 r29 x2 x3 (w64 ((w64 (x3 - 1)) - (w64 (r3.1 - x2))))).bind fun r6 => (if (decide ((w64 (r6.1 - x2)) < (w64 (x3 - r6.1)))) = true then ((Q50.f k2 r6.2.2 x2 r6.1 x8).bind fun r7 => (Q50.l0 k2 r7 (w64 (r6.1 + 1)) x3 x8 (decide ((w64 (Int.tdiv (w64 (x3 - x2)) 8)) ≤ (w64 (r6.1 - x2)))) r6.2.1)) else ((Q50.f k2 r6.2.2 (w64 (r6.1 + 1)) x3 x8).bind fun r8 => (Q50.l0 k2 r8 x2 r6.1 x8 (decide ((w64 (Int.tdiv (w64 (x3 - x2)) 8)) ≤ (w64 (x3 - r6.1)))) r6.2.1)))))) else none) else none) else ((Q49.f k2 r29 x2 x3 (w64 ((w64 (x3 - 1)) - (w64 (r3.1 - x2))))).bind fun r9 => (if (decide ((w64 (r9.1 - x2)) < (w64 (x3 - r9.1)))) = true then ((Q50.f k2 r9.2.2 x2 r9.1 x8).bind fun r10 => (Q50.l0 k2 r10 (w64 (r9.1 + 1)) x3 x8 (decide ((w64 (Int.tdiv (w64 (x3 - x2)) 8)) ≤ (w64 (r9.1 - x2)))) r9.2.1)) else ((Q50.f k2 r9.2.2 (w64 (r9.1 + 1)) x3 x8).bind fun r11 => (Q50.l0 k2 r11 x2 r9.1 x8 (decide ((w64 (Int.tdiv (w64 (x3 - x2)) 8)) ≤ (w64 (x3 - r9.1)))) r9.2.1)))))) else (if (decide (0 < x2)) = true then (if 0 ≤ (w64 (x2 - 1)) ∧ (w64 (x2 - 1)) < (r29.length : Int) then (if 0 ≤ (w64 ((w64 (x3 - 1)) - (w64 (r3.1 - x2)))) ∧ (w64 ((w64 (x3 - 1)) - (w64 (r3.1 - x2)))) < (r29.length : Int) then ((Q27.f (gt r29 (w64 (x2 - 1))) (gt r29 (w64 ((w64 (x3 - 1)) - (w64 (r3.1 - x2)))))).bind fun r13 => (if (!r13) = true then ((Q48.f k2 r29 x2 x3 (w64 ((w64 (x3 - 1)) - (w64 (r3.1 - x2))))).bind fun r14 => (Q50.l0 k2 r14.2 r14.1 x3 x8 x5 x6)) else ((Q49.f k2 r29 x2 x3 (w64 ((w64 (x3 - 1)) - (w64 (r3.1 - x2))))).bind fun r15 => (if (decide ((w64 (r15.1 - x2)) < (w64 (x3 - r15.1)))) = true then ((Q50.f k2 r15.2.2 x2 r15.1 x8).bind fun r16 => (Q50.l0 k2 r16 (w64 (r15.1 + 1)) x3 x8 (decide ((w64 (Int.tdiv (w64 (x3 - x2)) 8)) ≤ (w64 (r15.1 - x2)))) r15.2.1)) else ((Q50.f k2 r15.2.2 (w64 (r15.1 + 1)) x3 x8).bind fun r17 => (Q50.l0 k2 r17 x2 r15.1 x8 (decide ((w64 (Int.tdiv (w64 (x3 - x2)) 8)) ≤ (w64 (x3 - r15.1)))) r15.2.1)))))) else none) else none) else ((Q49.f k2 r29 x2 x3 (w64 ((w64 (x3 - 1)) - (w64 (r3.1 - x2))))).bind fun r18 => (if (decide ((w64 (r18.1 - x2)) < (w64 (x3 - r18.1)))) = true then ((Q50.f k2 r18.2.2 x2 r18.1 x8).bind fun r19 => (Q50.l0 k2 r19 (w64 (r18.1 + 1)) x3 x8 (decide ((w64 (Int.tdiv (w64 (x3 - x2)) 8)) ≤ (w64 (r18.1 - x2)))) r18.2.1)) else ((Q50.f k2 r18.2.2 (w64 (r18.1 + 1)) x3 x8).bind fun r20 => (Q50.l0 k2 r20 x2 r18.1 x8 (decide ((w64 (Int.tdiv (w64 (x3 - x2)) 8)) ≤ (w64 (x3 - r18.1)))) r18.2.1)))))) else (if (decide (0 < x2)) = true then (if 0 ≤ (w64 (x2 - 1)) ∧ (w64 (x2 - 1)) < (r29.length : Int) then (if 0 ≤ (w64 ((w64 (x3 - 1)) - (w64 (r3.1 - x2)))) ∧ (w64 ((w64 (x3 - 1)) - (w64 (r3.1 - x2)))) < (r29.length : Int) then ((Q27.f (gt r29 (w64 (x2 - 1))) (gt r29 (w64 ((w64 (x3 - 1)) - (w64 (r3.1 - x2)))))).bind fun r21 => (if (!r21) = true then ((Q48.f k2 r29 x2 x3 (w64 ((w64 (x3 - 1)) - (w64 (r3.1 - x2))))).bind fun r22 => (Q50.l0 k2 r22.2 r22.1 x3 x8 x5 x6)) else ((Q49.f k2 r29 x2 x3 (w64 ((w64 (x3 - 1)) - (w64 (r3.1 - x2))))).bind fun r23 => (if (decide ((w64 (r23.1 - x2)) < (w64 (x3 - r23.1)))) = true then ((Q50.f k2 r23.2.2 x2 r23.1 x8).bind fun r24 => (Q50.l0 k2 r24 (w64 (r23.1 + 1)) x3 x8 (decide ((w64 (Int.tdiv (w64 (x3 - x2)) 8)) ≤ (w64 (r23.1 - x2)))) r23.2.1)) else ((Q50.f k2 r23.2.2 (w64 (r23.1 + 1)) x3 x8).bind fun r25 => (Q50.l0 k2 r25 x2 r23.1 x8 (decide ((w64 (Int.tdiv (w64 (x3 - x2)) 8)) ≤ (w64 (x3 - r23.1)))) r23.2.1)))))) else none) else none) else ((Q49.f k2 r29 x2 x3 (w64 ((w64 (x3 - 1)) - (w64 (r3.1 - x2))))).bind fun r26 => (if (decide ((w64 (r26.1 - x2)) < (w64 (x3 - r26.1)))) = true then ((Q50.f k2 r26.2.2 x2 r26.1 x8).bind fun r27 => (Q50.l0 k2 r27 (w64 (r26.1 + 1)) x3 x8 (decide ((w64 (Int.tdiv (w64 (x3 - x2)) 8)) ≤ (w64 (r26.1 - x2)))) r26.2.1)) else ((Q50.f k2 r26.2.2 (w64 (r26.1 + 1)) x3 x8).bind fun r28 => (Q50.l0 k2 r28 x2 r26.1 x8 (decide ((w64 (Int.tdiv (w64 (x3 - x2)) 8)) ≤ (w64 (x3 - r26.1)))) r26.2.1))))))) else (if x5 = true then (if x6 = true then (if (decide (r3.2 = 1)) = true then ((Q47.f k2 x7 x2 x3).bind fun r12 => (if r12.1 = true then (some r12.2) else (if (decide (0 < x2)) = true then (if 0 ≤ (w64 (x2 - 1)) ∧ (w64 (x2 - 1)) < (r12.2.length : Int) then (if 0 ≤ r3.1 ∧ r3.1 < (r12.2.length : Int) then ((Q27.f (gt r12.2 (w64 (x2 - 1))) (gt r12.2 r3.1)).bind fun r4 => (if (!r4) = true then ((Q48.f k2 r12.2 x2 x3 r3.1).bind fun r5 => (Q50.l0 k2 r5.2 r5.1 x3 x8 x5 x6)) else ((Q49.f k2 r12.2 x2 x3 r3.1).bind fun r6 => (if (decide ((w64 (r6.1 - x2)) < (w64 (x3 - r6.1)))) = true then ((Q50.f k2 r6.2.2 x2 r6.1 x8).bind fun r7 => (Q50.l0 k2 r7 (w64 (r6.1 + 1)) x3 x8 (decide ((w64 (Int.tdiv (w64 (x3 - x2)) 8)) ≤ (w64 (r6.1 - x2)))) r6.2.1)) else ((Q50.f k2 r6.2.2 (w64 (r6.1 + 1)) x3 x8).bind fun r8 => (Q50.l0 k2 r8 x2 r6.1 x8 (decide ((w64 (Int.tdiv (w64 (x3 - x2)) 8)) ≤ (w64 (x3 - r6.1)))) r6.2.1)))))) else none) else none) else ((Q49.f k2 r12.2 x2 x3 r3.1).bind fun r9 => (if (decide ((w64 (r9.1 - x2)) < (w64 (x3 - r9.1)))) = true then ((Q50.f k2 r9.2.2 x2 r9.1 x8).bind fun r10 => (Q50.l0 k2 r10 (w64 (r9.1 + 1)) x3 x8 (decide ((w64 (Int.tdiv (w64 (x3 - x2)) 8)) ≤ (w64 (r9.1 - x2)))) r9.2.1)) else ((Q50.f k2 r9.2.2 (w64 (r9.1 + 1)) x3 x8).bind fun r11 => (Q50.l0 k2 r11 x2 r9.1 x8 (decide ((w64 (Int.tdiv (w64 (x3 - x2)) 8)) ≤ (w64 (x3 - r9.1)))) r9.2.1))))))) else (if (decide (0 < x2)) = true then (if 0 ≤ (w64 (x2 - 1)) ∧ (w64 (x2 - 1)) < (x7.length : Int) then (if 0 ≤ r3.1 ∧ r3.1 < (x7.length : Int) then ((Q27.f (gt x7 (w64 (x2 - 1))) (gt x7 r3.1)).bind fun r4 => (if (!r4) = true then ((Q48.f k2 x7 x2 x3 r3.1).bind fun r5 => (Q50.l0 k2 r5.2 r5.1 x3 x8 x5 x6)) else ((Q49.f k2 x7 x2 x3 r3.1).bind fun r6 => (if (decide ((w64 (r6.1 - x2)) < (w64 (x3 - r6.1)))) = true then ((Q50.f k2 r6.2.2 x2 r6.1 x8).bind fun r7 => (Q50.l0 k2 r7 (w64 (r6.1 + 1)) x3 x8 (decide ((w64 (Int.tdiv (w64 (x3 - x2)) 8)) ≤ (w64 (r6.1 - x2)))) r6.2.1)) else ((Q50.f k2 r6.2.2 (w64 (r6.1 + 1)) x3 x8).bind fun r8 => (Q50.l0 k2 r8 x2 r6.1 x8 (decide ((w64 (Int.tdiv (w64 (x3 - x2)) 8)) ≤ (w64 (x3 - r6.1)))) r6.2.1)))))) else none) else none) else ((Q49.f k2 x7 x2 x3 r3.1).bind fun r9 => (if (decide ((w64 (r9.1 - x2)) < (w64 (x3 - r9.1)))) = true then ((Q50.f k2 r9.2.2 x2 r9.1 x8).bind fun r10 => (Q50.l0 k2 r10 (w64 (r9.1 + 1)) x3 x8 (decide ((w64 (Int.tdiv (w64 (x3 - x2)) 8)) ≤ (w64 (r9.1 - x2)))) r9.2.1)) else ((Q50.f k2 r9.2.2 (w64 (r9.1 + 1)) x3 x8).bind fun r11 => (Q50.l0 k2 r11 x2 r9.1 x8 (decide ((w64 (Int.tdiv (w64 (x3 - x2)) 8)) ≤ (w64 (x3 - r9.1)))) r9.2.1)))))) else (if (decide (0 < x2)) = true then (if 0 ≤ (w64 (x2 - 1)) ∧ (w64 (x2 - 1)) < (x7.length : Int) then (if 0 ≤ r3.1 ∧ r3.1 < (x7.length : Int) then ((Q27.f (gt x7 (w64 (x2 - 1))) (gt x7 r3.1)).bind fun r13 => (if (!r13) = true then ((Q48.f k2 x7 x2 x3 r3.1).bind fun r14 => (Q50.l0 k2 r14.2 r14.1 x3 x8 x5 x6)) else ((Q49.f k2 x7 x2 x3 r3.1).bind fun r15 => (if (decide ((w64 (r15.1 - x2)) < (w64 (x3 - r15.1)))) = true then ((Q50.f k2 r15.2.2 x2 r15.1 x8).bind fun r16 => (Q50.l0 k2 r16 (w64 (r15.1 + 1)) x3 x8 (decide ((w64 (Int.tdiv (w64 (x3 - x2)) 8)) ≤ (w64 (r15.1 - x2)))) r15.2.1)) else ((Q50.f k2 r15.2.2 (w64 (r15.1 + 1)) x3 x8).bind fun r17 => (Q50.l0 k2 r17 x2 r15.1 x8 (decide ((w64 (Int.tdiv (w64 (x3 - x2)) 8)) ≤ (w64 (x3 - r15.1)))) r15.2.1)))))) else none) else none) else ((Q49.f k2 x7 x2 x3 r3.1).bind fun r18 => (if (decide ((w64 (r18.1 - x2)) < (w64 (x3 - r18.1)))) = true then ((Q50.f k2 r18.2.2 x2 r18.1 x8).bind fun r19 => (Q50.l0 k2 r19 (w64 (r18.1 + 1)) x3 x8 (decide ((w64 (Int.tdiv (w64 (x3 - x2)) 8)) ≤ (w64 (r18.1 - x2)))) r18.2.1)) else ((Q50.f k2 r18.2.2 (w64 (r18.1 + 1)) x3 x8).bind fun r20 => (Q50.l0 k2 r20 x2 r18.1 x8 (decide ((w64 (Int.tdiv (w64 (x3 - x2)) 8)) ≤ (w64 (x3 - r18.1)))) r18.2.1)))))) else (if (decide (0 < x2)) = true then (if 0 ≤ (w64 (x2 - 1)) ∧ (w64 (x2 - 1)) < (x7.length : Int) then (if 0 ≤ r3.1 ∧ r3.1 < (x7.length : Int) then ((Q27.f (gt x7 (w64 (x2 - 1))) (gt x7 r3.1)).bind fun r21 => (if (!r21) = true then ((Q48.f k2 x7 x2 x3 r3.1).bind fun r22 => (Q50.l0 k2 r22.2 r22.1 x3 x8 x5 x6)) else ((Q49.f k2 x7 x2 x3 r3.1).bind fun r23 => (if (decide ((w64 (r23.1 - x2)) < (w64 (x3 - r23.1)))) = true then ((Q50.f k2 r23.2.2 x2 r23.1 x8).bind fun r24 => (Q50.l0 k2 r24 (w64 (r23.1 + 1)) x3 x8 (decide ((w64 (Int.tdiv (w64 (x3 - x2)) 8)) ≤ (w64 (r23.1 - x2)))) r23.2.1)) else ((Q50.f k2 r23.2.2 (w64 (r23.1 + 1)) x3 x8).bind fun r25 => (Q50.l0 k2 r25 x2 r23.1 x8 (decide ((w64 (Int.tdiv (w64 (x3 - x2)) 8)) ≤ (w64 (x3 - r23.1)))) r23.2.1)))))) else none) else none) else ((Q49.f k2 x7 x2 x3 r3.1).bind fun r26 => (if (decide ((w64 (r26.1 - x2)) < (w64 (x3 - r26.1)))) = true then ((Q50.f k2 r26.2.2 x2 r26.1 x8).bind fun r27 => (Q50.l0 k2 r27 (w64 (r26.1 + 1)) x3 x8 (decide ((w64 (Int.tdiv (w64 (x3 - x2)) 8)) ≤ (w64 (r26.1 - x2)))) r26.2.1)) else ((Q50.f k2 r26.2.2 (w64 (r26.1 + 1)) x3 x8).bind fun r28 => (Q50.l0 k2 r28 x2 r26.1 x8 (decide ((w64 (Int.tdiv (w64 (x3 - x2)) 8)) ≤ (w64 (x3 - r26.1)))) r26.2.1)))))))) = some r ∧ k2 ≤ k1 ∧ x7.length = a0.length) ?_ ?_
 ·refine jIf H (fun c20 H => ?_) fun c20 H => ?_
  ·refine J.seq (J.region ?_)
   refine Zl 3 ?_
   obtain ⟨r30, q55, H⟩ := Zp H
   refine Ze (Zk [0] (Q39.spec q55) h1 rfl Zu) ?_
   rintro _ w37 ⟨_, ⟨rfl, rfl, q56⟩, h56⟩
   replace h56 := nf h56
   have e33 : r30.length = a0.length := q56.trans e1
   refine Zm [0, 1, 2, 3, 8, 9, 10] rfl ?_
   refine J.envEq (env' := [(0, .slice A1 r30.length c_1), (1, .int .i64 x2), (2, .int .i64 x3), (3, .int .i64 x4), (8, .bool x5), (9, .bool x6), (10, .int .i64 (w64 (x3 - x2)))]) (by simp only [q56, List.length_nil] <;> rfl) ?_
   refine Zb [0, 1, 2, 3, 8, 9, 10] ?_
   have h57 := (sOR h56 [0] [])
   exact ⟨k1, r30, (w64 (x4 - 1)), rfl, h57, H, Nat.le_refl _, e33⟩
  refine W8 [0, 1, 2, 3, 8, 9, 10] ?_
  refine J.skip ?_
  have h58 := (sOR h1 [0] [])
  exact ⟨k1, x1, x4, rfl, h58, H, Nat.le_refl _, e1⟩
 rintro env w5 ⟨k2, x7, x8, rfl, h4, H, hk2, e4⟩
 refine J.seq (J.region ?_)
 refine Zl 3 ?_
 obtain ⟨r3, q5, H⟩ := Zp H
 refine Ze (Zk [] (Q40.spec q5) h4 rfl (Zv (gO 0) Zu)) ?_
 rintro _ w6 ⟨_, ⟨rfl, rfl⟩, h5⟩
 replace h5 := nf h5
 refine Zm [0, 1, 2, 3, 8, 9, 10, 11, 12] rfl ?_
 refine J.seq (J.seq (Zb [0, 1, 2, 3, 8, 9, 10, 11, 12, 50] ?_))
 refine J.midS (fun env w => ∃ (k3 : Nat) (x9 : List (Int)) (x10 : Int) (x11 : Int), env = [(0, .slice A1 x9.length c_1), (1, .int .i64 x2), (2, .int .i64 x3), (3, .int .i64 x8), (8, .bool x5), (9, .bool x6), (10, .int .i64 (w64 (x3 - x2))), (11, .int .i64 x10), (12, .int .i64 x11)] ∧ St w0 F0 [O23 x9 A1 c_1] [] w ∧ (if x5 = true then (if x6 = true then (if (decide (x11 = 1)) = true then ((Q47.f k3 x9 x2 x3).bind fun r12 => (if r12.1 = true then (some r12.2) else (if (decide (0 < x2)) = true then (if 0 ≤ (w64 (x2 - 1)) ∧ (w64 (x2 - 1)) < (r12.2.length : Int) then (if 0 ≤ x10 ∧ x10 < (r12.2.length : Int) then ((Q27.f (gt r12.2 (w64 (x2 - 1))) (gt r12.2 x10)).bind fun r4 => (if (!r4) = true then ((Q48.f k3 r12.2 x2 x3 x10).bind fun r5 => (Q50.l0 k3 r5.2 r5.1 x3 x8 x5 x6)) else ((Q49.f k3 r12.2 x2 x3 x10).bind fun r6 => (if (decide ((w64 (r6.1 - x2)) < (w64 (x3 - r6.1)))) = true then ((Q50.f k3 r6.2.2 x2 r6.1 x8).bind fun r7 => (Q50.l0 k3 r7 (w64 (r6.1 + 1)) x3 x8 (decide ((w64 (Int.tdiv (w64 (x3 - x2)) 8)) ≤ (w64 (r6.1 - x2)))) r6.2.1)) else ((Q50.f k3 r6.2.2 (w64 (r6.1 + 1)) x3 x8).bind fun r8 => (Q50.l0 k3 r8 x2 r6.1 x8 (decide ((w64 (Int.tdiv (w64 (x3 - x2)) 8)) ≤ (w64 (x3 - r6.1)))) r6.2.1)))))) else none) else none) else ((Q49.f k3 r12.2 x2 x3 x10).bind fun r9 => (if (decide ((w64 (r9.1 - x2)) < (w64 (x3 - r9.1)))) = true then ((Q50.f k3 r9.2.2 x2 r9.1 x8).bind fun r10 => (Q50.l0 k3 r10 (w64 (r9.1 + 1)) x3 x8 (decide ((w64 (Int.tdiv (w64 (x3 - x2)) 8)) ≤ (w64 (r9.1 - x2)))) r9.2.1)) else ((Q50.f k3 r9.2.2 (w64 (r9.1 + 1)) x3 x8).bind fun r11 => (Q50.l0 k3 r11 x2 r9.1 x8 (decide ((w64 (Int.tdiv (w64 (x3 - x2)) 8)) ≤ (w64 (x3 - r9.1)))) r9.2.1))))))) else (if (decide (0 < x2)) = true then (if 0 ≤ (w64 (x2 - 1)) ∧ (w64 (x2 - 1)) < (x9.length : Int) then (if 0 ≤ x10 ∧ x10 < (x9.length : Int) then ((Q27.f (gt x9 (w64 (x2 - 1))) (gt x9 x10)).bind fun r4 => (if (!r4) = true then ((Q48.f k3 x9 x2 x3 x10).bind fun r5 => (Q50.l0 k3 r5.2 r5.1 x3 x8 x5 x6)) else ((Q49.f k3 x9 x2 x3 x10).bind fun r6 => (if (decide ((w64 (r6.1 - x2)) < (w64 (x3 - r6.1)))) = true then ((Q50.f k3 r6.2.2 x2 r6.1 x8).bind fun r7 => (Q50.l0 k3 r7 (w64 (r6.1 + 1)) x3 x8 (decide ((w64 (Int.tdiv (w64 (x3 - x2)) 8)) ≤ (w64 (r6.1 - x2)))) r6.2.1)) else ((Q50.f k3 r6.2.2 (w64 (r6.1 + 1)) x3 x8).bind fun r8 => (Q50.l0 k3 r8 x2 r6.1 x8 (decide ((w64 (Int.tdiv (w64 (x3 - x2)) 8)) ≤ (w64 (x3 - r6.1)))) r6.2.1)))))) else none) else none) else ((Q49.f k3 x9 x2 x3 x10).bind fun r9 => (if (decide ((w64 (r9.1 - x2)) < (w64 (x3 - r9.1)))) = true then ((Q50.f k3 r9.2.2 x2 r9.1 x8).bind fun r10 => (Q50.l0 k3 r10 (w64 (r9.1 + 1)) x3 x8 (decide ((w64 (Int.tdiv (w64 (x3 - x2)) 8)) ≤ (w64 (r9.1 - x2)))) r9.2.1)) else ((Q50.f k3 r9.2.2 (w64 (r9.1 + 1)) x3 x8).bind fun r11 => (Q50.l0 k3 r11 x2 r9.1 x8 (decide ((w64 (Int.tdiv (w64 (x3 - x2)) 8)) ≤ (w64 (x3 - r9.1)))) r9.2.1)))))) else (if (decide (0 < x2)) = true then (if 0 ≤ (w64 (x2 - 1)) ∧ (w64 (x2 - 1)) < (x9.length : Int) then (if 0 ≤ x10 ∧ x10 < (x9.length : Int) then ((Q27.f (gt x9 (w64 (x2 - 1))) (gt x9 x10)).bind fun r13 => (if (!r13) = true then ((Q48.f k3 x9 x2 x3 x10).bind fun r14 => (Q50.l0 k3 r14.2 r14.1 x3 x8 x5 x6)) else ((Q49.f k3 x9 x2 x3 x10).bind fun r15 => (if (decide ((w64 (r15.1 - x2)) < (w64 (x3 - r15.1)))) = true then ((Q50.f k3 r15.2.2 x2 r15.1 x8).bind fun r16 => (Q50.l0 k3 r16 (w64 (r15.1 + 1)) x3 x8 (decide ((w64 (Int.tdiv (w64 (x3 - x2)) 8)) ≤ (w64 (r15.1 - x2)))) r15.2.1)) else ((Q50.f k3 r15.2.2 (w64 (r15.1 + 1)) x3 x8).bind fun r17 => (Q50.l0 k3 r17 x2 r15.1 x8 (decide ((w64 (Int.tdiv (w64 (x3 - x2)) 8)) ≤ (w64 (x3 - r15.1)))) r15.2.1)))))) else none) else none) else ((Q49.f k3 x9 x2 x3 x10).bind fun r18 => (if (decide ((w64 (r18.1 - x2)) < (w64 (x3 - r18.1)))) = true then ((Q50.f k3 r18.2.2 x2 r18.1 x8).bind fun r19 => (Q50.l0 k3 r19 (w64 (r18.1 + 1)) x3 x8 (decide ((w64 (Int.tdiv (w64 (x3 - x2)) 8)) ≤ (w64 (r18.1 - x2)))) r18.2.1)) else ((Q50.f k3 r18.2.2 (w64 (r18.1 + 1)) x3 x8).bind fun r20 => (Q50.l0 k3 r20 x2 r18.1 x8 (decide ((w64 (Int.tdiv (w64 (x3 - x2)) 8)) ≤ (w64 (x3 - r18.1)))) r18.2.1)))))) else (if (decide (0 < x2)) = true then (if 0 ≤ (w64 (x2 - 1)) ∧ (w64 (x2 - 1)) < (x9.length : Int) then (if 0 ≤ x10 ∧ x10 < (x9.length : Int) then ((Q27.f (gt x9 (w64 (x2 - 1))) (gt x9 x10)).bind fun r21 => (if (!r21) = true then ((Q48.f k3 x9 x2 x3 x10).bind fun r22 => (Q50.l0 k3 r22.2 r22.1 x3 x8 x5 x6)) else ((Q49.f k3 x9 x2 x3 x10).bind fun r23 => (if (decide ((w64 (r23.1 - x2)) < (w64 (x3 - r23.1)))) = true then ((Q50.f k3 r23.2.2 x2 r23.1 x8).bind fun r24 => (Q50.l0 k3 r24 (w64 (r23.1 + 1)) x3 x8 (decide ((w64 (Int.tdiv (w64 (x3 - x2)) 8)) ≤ (w64 (r23.1 - x2)))) r23.2.1)) else ((Q50.f k3 r23.2.2 (w64 (r23.1 + 1)) x3 x8).bind fun r25 => (Q50.l0 k3 r25 x2 r23.1 x8 (decide ((w64 (Int.tdiv (w64 (x3 - x2)) 8)) ≤ (w64 (x3 - r23.1)))) r23.2.1)))))) else none) else none) else ((Q49.f k3 x9 x2 x3 x10).bind fun r26 => (if (decide ((w64 (r26.1 - x2)) < (w64 (x3 - r26.1)))) = true then ((Q50.f k3 r26.2.2 x2 r26.1 x8).bind fun r27 => (Q50.l0 k3 r27 (w64 (r26.1 + 1)) x3 x8 (decide ((w64 (Int.tdiv (w64 (x3 - x2)) 8)) ≤ (w64 (r26.1 - x2)))) r26.2.1)) else ((Q50.f k3 r26.2.2 (w64 (r26.1 + 1)) x3 x8).bind fun r28 => (Q50.l0 k3 r28 x2 r26.1 x8 (decide ((w64 (Int.tdiv (w64 (x3 - x2)) 8)) ≤ (w64 (x3 - r26.1)))) r26.2.1)))))) = some r ∧ k3 ≤ k2 ∧ x9.length = a0.length) ?_ ?_
 ·refine jIf H (fun c19 H => ?_) fun c19 H => ?_
  ·refine J.seq (J.region ?_)
   refine Zl 3 ?_
   obtain ⟨r29, q53, H⟩ := Zp H
   refine Ze (Zk [0] (Q51.spec q53) h5 rfl Zu) ?_
   rintro _ w36 ⟨_, ⟨rfl, rfl, q54⟩, h53⟩
   replace h53 := nf h53
   have e32 : r29.length = a0.length := q54.trans e4
   refine Zm [0, 1, 2, 3, 8, 9, 10, 11] rfl ?_
   refine J.envEq (env' := [(0, .slice A1 r29.length c_1), (1, .int .i64 x2), (2, .int .i64 x3), (3, .int .i64 x8), (8, .bool x5), (9, .bool x6), (10, .int .i64 (w64 (x3 - x2))), (11, .int .i64 r3.1)]) (by simp only [q54, List.length_nil] <;> rfl) ?_
   refine J.seq (Zb [0, 1, 2, 3, 8, 9, 10, 11] ?_)
   refine Zb [0, 1, 2, 3, 8, 9, 10, 11, 12] ?_
   have h54 := (sOR h53 [0] [])
   exact ⟨k2, r29, (w64 ((w64 (x3 - 1)) - (w64 (r3.1 - x2)))), 1, rfl, h54, H, Nat.le_refl _, e32⟩
  refine W8 [0, 1, 2, 3, 8, 9, 10, 11, 12] ?_
  refine J.skip ?_
  have h55 := (sOR h5 [0] [])
  exact ⟨k2, x7, r3.1, r3.2, rfl, h55, H, Nat.le_refl _, e4⟩
 rintro env w8 ⟨k3, x9, x10, x11, rfl, h6, H, hk3, e5⟩
 refine J.seq (J.seq (J.region ?_))
 refine Zl 2 ?_
 refine Xq 62 H (fun c3 H => ?_) fun c3 H => ?_
 ·refine Zl 3 ?_
  refine Xq 65 H (fun c4 H => ?_) fun c4 H => ?_
  ·refine Zm [0, 1, 2, 3, 8, 9, 10, 11, 68] rfl ?_
   refine J.midS (fun env w => ∃ (k4 : Nat) (x12 : List (Int)), env = [(0, .slice A1 x12.length c_1), (1, .int .i64 x2), (2, .int .i64 x3), (3, .int .i64 x8), (8, .bool x5), (9, .bool x6), (10, .int .i64 (w64 (x3 - x2))), (11, .int .i64 x10)] ∧ St w0 F0 [O23 x12 A1 c_1] [] w ∧ (if (decide (0 < x2)) = true then (if 0 ≤ (w64 (x2 - 1)) ∧ (w64 (x2 - 1)) < (x12.length : Int) then (if 0 ≤ x10 ∧ x10 < (x12.length : Int) then ((Q27.f (gt x12 (w64 (x2 - 1))) (gt x12 x10)).bind fun r4 => (if (!r4) = true then ((Q48.f k4 x12 x2 x3 x10).bind fun r5 => (Q50.l0 k4 r5.2 r5.1 x3 x8 x5 x6)) else ((Q49.f k4 x12 x2 x3 x10).bind fun r6 => (if (decide ((w64 (r6.1 - x2)) < (w64 (x3 - r6.1)))) = true then ((Q50.f k4 r6.2.2 x2 r6.1 x8).bind fun r7 => (Q50.l0 k4 r7 (w64 (r6.1 + 1)) x3 x8 (decide ((w64 (Int.tdiv (w64 (x3 - x2)) 8)) ≤ (w64 (r6.1 - x2)))) r6.2.1)) else ((Q50.f k4 r6.2.2 (w64 (r6.1 + 1)) x3 x8).bind fun r8 => (Q50.l0 k4 r8 x2 r6.1 x8 (decide ((w64 (Int.tdiv (w64 (x3 - x2)) 8)) ≤ (w64 (x3 - r6.1)))) r6.2.1)))))) else none) else none) else ((Q49.f k4 x12 x2 x3 x10).bind fun r9 => (if (decide ((w64 (r9.1 - x2)) < (w64 (x3 - r9.1)))) = true then ((Q50.f k4 r9.2.2 x2 r9.1 x8).bind fun r10 => (Q50.l0 k4 r10 (w64 (r9.1 + 1)) x3 x8 (decide ((w64 (Int.tdiv (w64 (x3 - x2)) 8)) ≤ (w64 (r9.1 - x2)))) r9.2.1)) else ((Q50.f k4 r9.2.2 (w64 (r9.1 + 1)) x3 x8).bind fun r11 => (Q50.l0 k4 r11 x2 r9.1 x8 (decide ((w64 (Int.tdiv (w64 (x3 - x2)) 8)) ≤ (w64 (x3 - r9.1)))) r9.2.1))))) = some r ∧ k4 ≤ k3 ∧ x12.length = a0.length) ?_ ?_
   ·refine jIf H (fun c9 H => ?_) fun c9 H => ?_
    ·refine J.seq (J.region ?_)
     refine Zl 3 ?_
     obtain ⟨r12, q21, H⟩ := Zp H
     refine Ze (Zk [0] (Q47.spec q21) h6 rfl Zu) ?_
     rintro _ w19 ⟨_, ⟨rfl, rfl, q22⟩, h22⟩
     replace h22 := nf h22
     have e15 : r12.2.length = a0.length := q22.trans e5
     refine Zm [0, 1, 2, 3, 8, 9, 10, 11, 72] rfl ?_
     refine J.envEq (env' := [(0, .slice A1 r12.2.length c_1), (1, .int .i64 x2), (2, .int .i64 x3), (3, .int .i64 x8), (8, .bool x5), (9, .bool x6), (10, .int .i64 (w64 (x3 - x2))), (11, .int .i64 x10), (72, .bool r12.1)]) (by simp only [q22, List.length_nil] <;> rfl) ?_
     refine jIf H (fun c10 H => ?_) fun c10 H => ?_
     ·refine J.ret ?_
      cases H
      exact ⟨_, _, _, Zc, ⟨rfl, rfl, e15⟩, Zd h22 [0]⟩
     refine W8 [0, 1, 2, 3, 8, 9, 10, 11] ?_
     refine J.skip ?_
     have h23 := (sOR h22 [0] [])
     exact ⟨k3, r12.2, rfl, h23, H, Nat.le_refl _, e15⟩
    refine W8 [0, 1, 2, 3, 8, 9, 10, 11] ?_
    refine J.skip ?_
    have h24 := (sOR h6 [0] [])
    exact ⟨k3, x9, rfl, h24, H, Nat.le_refl _, e5⟩
   rintro env w10 ⟨k4, x12, rfl, h7, H, hk4, e6⟩
   refine J.seq (J.seq ?_)
   refine Zs h7 ?_
   have h8 := h7.drew
   refine Zx [0, 1, 2] ?_
   refine Wk 75 H (fun c5 H => ?_) fun c5 H => ?_
   ·refine Zx [3, 4, 5, 8, 9] ?_
    obtain ⟨⟨p1, p2⟩, H⟩ := Zq H
    have e7 := Z3 h8.wh (gO 0) p1 p2
    refine Zh 6 rfl (Zi e7 p1 p2) ?_
    refine Zh 7 rfl (Zj 0 wI (gO 0) p1 p2) ?_
    obtain ⟨⟨p3, p4⟩, H⟩ := Zq H
    refine Zh 10 rfl (Zi e7 p3 p4) ?_
    refine Zh 11 rfl (Zj 0 wI (gO 0) p3 p4) ?_
    obtain ⟨r4, q6, H⟩ := Zp H
    refine Zn 12 rfl (Zk [] (Q27.spec q6) h8 rfl Zu) ?_
    rintro _ w11 ⟨_, ⟨rfl, rfl⟩, h9⟩
    replace h9 := nf h9
    refine ⟨⟨[], h9⟩, ?_⟩
    refine Zx [13, 14] ?_
    refine Z2 [0, 1, 2, 3, 8, 9, 10, 11, 87] ?_
    refine jIf H (fun c6 H => ?_) fun c6 H => ?_
    ·refine J.seq (J.region ?_)
     refine Zl 4 ?_
     obtain ⟨r5, q7, H⟩ := Zp H
     refine Ze (Zk [0] (Q48.spec q7) h9 rfl Zu) ?_
     rintro _ w12 ⟨_, ⟨rfl, rfl, q8⟩, h10⟩
     replace h10 := nf h10
     have e8 : r5.2.length = a0.length := q8.trans e6
     refine Zm [0, 2, 3, 8, 9, 13] rfl ?_
     refine J.envEq (env' := [(0, .slice A1 r5.2.length c_1), (2, .int .i64 x3), (3, .int .i64 x8), (8, .bool x5), (9, .bool x6), (13, .int .i64 r5.1)]) (by simp only [q8, List.length_nil] <;> rfl) ?_
     refine J.seq (Zb [0, 1, 2, 3, 8, 9] ?_)
     refine J.exit ?_
     have h11 := (sOR h10 [0] [])
     exact ⟨k4, by omega, r5.2, r5.1, x3, x8, x5, x6, rfl, h11, H, by omega, e8⟩
    refine J.skip (J.seq (J.region ?_))
    refine Zl 4 ?_
    obtain ⟨r6, q9, H⟩ := Zp H
    refine Ze (Zk [0] (Q49.spec q9) h9 rfl Zu) ?_
    rintro _ w13 ⟨_, ⟨rfl, rfl, q10⟩, h12⟩
    replace h12 := nf h12
    have e9 : r6.2.2.length = a0.length := q10.trans e6
    refine Zm [0, 1, 2, 3, 10, 14, 15] rfl ?_
    refine J.envEq (env' := [(0, .slice A1 r6.2.2.length c_1), (1, .int .i64 x2), (2, .int .i64 x3), (3, .int .i64 x8), (10, .int .i64 (w64 (x3 - x2))), (14, .int .i64 r6.1), (15, .bool r6.2.1)]) (by simp only [q10, List.length_nil] <;> rfl) ?_
    refine J.seq (Zb [0, 1, 2, 3, 9, 10, 14] ?_)
    refine J.seq (Zb [0, 1, 2, 3, 9, 10, 14, 16, 17] ?_)
    refine J.seq (Zb [0, 1, 2, 3, 9, 14, 16, 17, 18] ?_)
    refine J.seq (Zb [0, 1, 2, 3, 9, 14, 16, 17, 18, 113] ?_)
    refine jIf H (fun c7 H => ?_) fun c7 H => ?_
    ·refine J.seq (Zb [0, 1, 2, 3, 8, 9, 14] ?_)
     refine J.seq (J.region ?_)
     refine Zl 4 ?_
     obtain ⟨r7, q11, H⟩ := Zp H
     refine Ze (Zk [0] (ih k4 (by omega) q11) h12 rfl Zu) ?_
     rintro _ w14 ⟨_, ⟨rfl, rfl, q12⟩, h13⟩
     replace h13 := nf h13
     have e10 : r7.length = a0.length := q12.trans e9
     refine Zm [0, 2, 3, 8, 9, 14] rfl ?_
     refine J.envEq (env' := [(0, .slice A1 r7.length c_1), (2, .int .i64 x3), (3, .int .i64 x8), (8, .bool (decide ((w64 (Int.tdiv (w64 (x3 - x2)) 8)) ≤ (w64 (r6.1 - x2))))), (9, .bool r6.2.1), (14, .int .i64 r6.1)]) (by simp only [q12, List.length_nil] <;> rfl) ?_
     refine Zb [0, 1, 2, 3, 8, 9] ?_
     have h14 := (sOR h13 [0] [])
     exact ⟨k4, by omega, r7, (w64 (r6.1 + 1)), x3, x8, (decide ((w64 (Int.tdiv (w64 (x3 - x2)) 8)) ≤ (w64 (r6.1 - x2)))), r6.2.1, rfl, h14, H, by omega, e10⟩
    refine J.seq (Zb [0, 1, 2, 3, 8, 9, 14] ?_)
    refine J.seq (J.region ?_)
    refine Zl 5 ?_
    obtain ⟨r8, q13, H⟩ := Zp H
    refine Ze (Zk [0] (ih k4 (by omega) q13) h12 rfl Zu) ?_
    rintro _ w15 ⟨_, ⟨rfl, rfl, q14⟩, h15⟩
    replace h15 := nf h15
    have e11 : r8.length = a0.length := q14.trans e9
    refine Zm [0, 1, 3, 8, 9, 14] rfl ?_
    refine J.envEq (env' := [(0, .slice A1 r8.length c_1), (1, .int .i64 x2), (3, .int .i64 x8), (8, .bool (decide ((w64 (Int.tdiv (w64 (x3 - x2)) 8)) ≤ (w64 (x3 - r6.1))))), (9, .bool r6.2.1), (14, .int .i64 r6.1)]) (by simp only [q14, List.length_nil] <;> rfl) ?_
    refine Zb [0, 1, 2, 3, 8, 9] ?_
    have h16 := (sOR h15 [0] [])
    exact ⟨k4, by omega, r8, x2, r6.1, x8, (decide ((w64 (Int.tdiv (w64 (x3 - x2)) 8)) ≤ (w64 (x3 - r6.1)))), r6.2.1, rfl, h16, H, by omega, e11⟩
   refine Zx [3, 4, 5, 6, 7, 8, 9, 10, 11, 12, 13, 14] ?_
   refine Z2 [0, 1, 2, 3, 8, 9, 10, 11, 87] ?_
   refine Z7 ?_
   refine J.skip (J.seq (J.region ?_))
   refine Zl 4 ?_
   obtain ⟨r9, q15, H⟩ := Zp H
   refine Ze (Zk [0] (Q49.spec q15) h8 rfl Zu) ?_
   rintro _ w16 ⟨_, ⟨rfl, rfl, q16⟩, h17⟩
   replace h17 := nf h17
   have e12 : r9.2.2.length = a0.length := q16.trans e6
   refine Zm [0, 1, 2, 3, 10, 14, 15] rfl ?_
   refine J.envEq (env' := [(0, .slice A1 r9.2.2.length c_1), (1, .int .i64 x2), (2, .int .i64 x3), (3, .int .i64 x8), (10, .int .i64 (w64 (x3 - x2))), (14, .int .i64 r9.1), (15, .bool r9.2.1)]) (by simp only [q16, List.length_nil] <;> rfl) ?_
   refine J.seq (Zb [0, 1, 2, 3, 9, 10, 14] ?_)
   refine J.seq (Zb [0, 1, 2, 3, 9, 10, 14, 16, 17] ?_)
   refine J.seq (Zb [0, 1, 2, 3, 9, 14, 16, 17, 18] ?_)
   refine J.seq (Zb [0, 1, 2, 3, 9, 14, 16, 17, 18, 113] ?_)
   refine jIf H (fun c8 H => ?_) fun c8 H => ?_
   ·refine J.seq (Zb [0, 1, 2, 3, 8, 9, 14] ?_)
    refine J.seq (J.region ?_)
    refine Zl 4 ?_
    obtain ⟨r10, q17, H⟩ := Zp H
    refine Ze (Zk [0] (ih k4 (by omega) q17) h17 rfl Zu) ?_
    rintro _ w17 ⟨_, ⟨rfl, rfl, q18⟩, h18⟩
    replace h18 := nf h18
    have e13 : r10.length = a0.length := q18.trans e12
    refine Zm [0, 2, 3, 8, 9, 14] rfl ?_
    refine J.envEq (env' := [(0, .slice A1 r10.length c_1), (2, .int .i64 x3), (3, .int .i64 x8), (8, .bool (decide ((w64 (Int.tdiv (w64 (x3 - x2)) 8)) ≤ (w64 (r9.1 - x2))))), (9, .bool r9.2.1), (14, .int .i64 r9.1)]) (by simp only [q18, List.length_nil] <;> rfl) ?_
    refine Zb [0, 1, 2, 3, 8, 9] ?_
    have h19 := (sOR h18 [0] [])
    exact ⟨k4, by omega, r10, (w64 (r9.1 + 1)), x3, x8, (decide ((w64 (Int.tdiv (w64 (x3 - x2)) 8)) ≤ (w64 (r9.1 - x2)))), r9.2.1, rfl, h19, H, by omega, e13⟩
   refine J.seq (Zb [0, 1, 2, 3, 8, 9, 14] ?_)
   refine J.seq (J.region ?_)
   refine Zl 5 ?_
   obtain ⟨r11, q19, H⟩ := Zp H
   refine Ze (Zk [0] (ih k4 (by omega) q19) h17 rfl Zu) ?_
   rintro _ w18 ⟨_, ⟨rfl, rfl, q20⟩, h20⟩
   replace h20 := nf h20
   have e14 : r11.length = a0.length := q20.trans e12
   refine Zm [0, 1, 3, 8, 9, 14] rfl ?_
   refine J.envEq (env' := [(0, .slice A1 r11.length c_1), (1, .int .i64 x2), (3, .int .i64 x8), (8, .bool (decide ((w64 (Int.tdiv (w64 (x3 - x2)) 8)) ≤ (w64 (x3 - r9.1))))), (9, .bool r9.2.1), (14, .int .i64 r9.1)]) (by simp only [q20, List.length_nil] <;> rfl) ?_
   refine Zb [0, 1, 2, 3, 8, 9] ?_
   have h21 := (sOR h20 [0] [])
   exact ⟨k4, by omega, r11, x2, r9.1, x8, (decide ((w64 (Int.tdiv (w64 (x3 - x2)) 8)) ≤ (w64 (x3 - r9.1)))), r9.2.1, rfl, h21, H, by omega, e14⟩
  refine Zm [0, 1, 2, 3, 8, 9, 10, 11, 68] rfl ?_
  refine Z7 ?_
  refine J.skip (J.seq (J.seq ?_))
  refine Zs h6 ?_
  have h25 := h6.drew
  refine Zx [0, 1, 2] ?_
  refine Wk 75 H (fun c11 H => ?_) fun c11 H => ?_
  ·refine Zx [3, 4, 5, 8, 9] ?_
   obtain ⟨⟨p5, p6⟩, H⟩ := Zq H
   have e16 := Z3 h25.wh (gO 0) p5 p6
   refine Zh 6 rfl (Zi e16 p5 p6) ?_
   refine Zh 7 rfl (Zj 0 wI (gO 0) p5 p6) ?_
   obtain ⟨⟨p7, p8⟩, H⟩ := Zq H
   refine Zh 10 rfl (Zi e16 p7 p8) ?_
   refine Zh 11 rfl (Zj 0 wI (gO 0) p7 p8) ?_
   obtain ⟨r13, q23, H⟩ := Zp H
   refine Zn 12 rfl (Zk [] (Q27.spec q23) h25 rfl Zu) ?_
   rintro _ w20 ⟨_, ⟨rfl, rfl⟩, h26⟩
   replace h26 := nf h26
   refine ⟨⟨[], h26⟩, ?_⟩
   refine Zx [13, 14] ?_
   refine Z2 [0, 1, 2, 3, 8, 9, 10, 11, 87] ?_
   refine jIf H (fun c12 H => ?_) fun c12 H => ?_
   ·refine J.seq (J.region ?_)
    refine Zl 4 ?_
    obtain ⟨r14, q24, H⟩ := Zp H
    refine Ze (Zk [0] (Q48.spec q24) h26 rfl Zu) ?_
    rintro _ w21 ⟨_, ⟨rfl, rfl, q25⟩, h27⟩
    replace h27 := nf h27
    have e17 : r14.2.length = a0.length := q25.trans e5
    refine Zm [0, 2, 3, 8, 9, 13] rfl ?_
    refine J.envEq (env' := [(0, .slice A1 r14.2.length c_1), (2, .int .i64 x3), (3, .int .i64 x8), (8, .bool x5), (9, .bool x6), (13, .int .i64 r14.1)]) (by simp only [q25, List.length_nil] <;> rfl) ?_
    refine J.seq (Zb [0, 1, 2, 3, 8, 9] ?_)
    refine J.exit ?_
    have h28 := (sOR h27 [0] [])
    exact ⟨k3, by omega, r14.2, r14.1, x3, x8, x5, x6, rfl, h28, H, by omega, e17⟩
   refine J.skip (J.seq (J.region ?_))
   refine Zl 4 ?_
   obtain ⟨r15, q26, H⟩ := Zp H
   refine Ze (Zk [0] (Q49.spec q26) h26 rfl Zu) ?_
   rintro _ w22 ⟨_, ⟨rfl, rfl, q27⟩, h29⟩
   replace h29 := nf h29
   have e18 : r15.2.2.length = a0.length := q27.trans e5
   refine Zm [0, 1, 2, 3, 10, 14, 15] rfl ?_
   refine J.envEq (env' := [(0, .slice A1 r15.2.2.length c_1), (1, .int .i64 x2), (2, .int .i64 x3), (3, .int .i64 x8), (10, .int .i64 (w64 (x3 - x2))), (14, .int .i64 r15.1), (15, .bool r15.2.1)]) (by simp only [q27, List.length_nil] <;> rfl) ?_
   refine J.seq (Zb [0, 1, 2, 3, 9, 10, 14] ?_)
   refine J.seq (Zb [0, 1, 2, 3, 9, 10, 14, 16, 17] ?_)
   refine J.seq (Zb [0, 1, 2, 3, 9, 14, 16, 17, 18] ?_)
   refine J.seq (Zb [0, 1, 2, 3, 9, 14, 16, 17, 18, 113] ?_)
   refine jIf H (fun c13 H => ?_) fun c13 H => ?_
   ·refine J.seq (Zb [0, 1, 2, 3, 8, 9, 14] ?_)
    refine J.seq (J.region ?_)
    refine Zl 4 ?_
    obtain ⟨r16, q28, H⟩ := Zp H
    refine Ze (Zk [0] (ih k3 (by omega) q28) h29 rfl Zu) ?_
    rintro _ w23 ⟨_, ⟨rfl, rfl, q29⟩, h30⟩
    replace h30 := nf h30
    have e19 : r16.length = a0.length := q29.trans e18
    refine Zm [0, 2, 3, 8, 9, 14] rfl ?_
    refine J.envEq (env' := [(0, .slice A1 r16.length c_1), (2, .int .i64 x3), (3, .int .i64 x8), (8, .bool (decide ((w64 (Int.tdiv (w64 (x3 - x2)) 8)) ≤ (w64 (r15.1 - x2))))), (9, .bool r15.2.1), (14, .int .i64 r15.1)]) (by simp only [q29, List.length_nil] <;> rfl) ?_
    refine Zb [0, 1, 2, 3, 8, 9] ?_
    have h31 := (sOR h30 [0] [])
    exact ⟨k3, by omega, r16, (w64 (r15.1 + 1)), x3, x8, (decide ((w64 (Int.tdiv (w64 (x3 - x2)) 8)) ≤ (w64 (r15.1 - x2)))), r15.2.1, rfl, h31, H, by omega, e19⟩
   refine J.seq (Zb [0, 1, 2, 3, 8, 9, 14] ?_)
   refine J.seq (J.region ?_)
   refine Zl 5 ?_
   obtain ⟨r17, q30, H⟩ := Zp H
   refine Ze (Zk [0] (ih k3 (by omega) q30) h29 rfl Zu) ?_
   rintro _ w24 ⟨_, ⟨rfl, rfl, q31⟩, h32⟩
   replace h32 := nf h32
   have e20 : r17.length = a0.length := q31.trans e18
   refine Zm [0, 1, 3, 8, 9, 14] rfl ?_
   refine J.envEq (env' := [(0, .slice A1 r17.length c_1), (1, .int .i64 x2), (3, .int .i64 x8), (8, .bool (decide ((w64 (Int.tdiv (w64 (x3 - x2)) 8)) ≤ (w64 (x3 - r15.1))))), (9, .bool r15.2.1), (14, .int .i64 r15.1)]) (by simp only [q31, List.length_nil] <;> rfl) ?_
   refine Zb [0, 1, 2, 3, 8, 9] ?_
   have h33 := (sOR h32 [0] [])
   exact ⟨k3, by omega, r17, x2, r15.1, x8, (decide ((w64 (Int.tdiv (w64 (x3 - x2)) 8)) ≤ (w64 (x3 - r15.1)))), r15.2.1, rfl, h33, H, by omega, e20⟩
  refine Zx [3, 4, 5, 6, 7, 8, 9, 10, 11, 12, 13, 14] ?_
  refine Z2 [0, 1, 2, 3, 8, 9, 10, 11, 87] ?_
  refine Z7 ?_
  refine J.skip (J.seq (J.region ?_))
  refine Zl 4 ?_
  obtain ⟨r18, q32, H⟩ := Zp H
  refine Ze (Zk [0] (Q49.spec q32) h25 rfl Zu) ?_
  rintro _ w25 ⟨_, ⟨rfl, rfl, q33⟩, h34⟩
  replace h34 := nf h34
  have e21 : r18.2.2.length = a0.length := q33.trans e5
  refine Zm [0, 1, 2, 3, 10, 14, 15] rfl ?_
  refine J.envEq (env' := [(0, .slice A1 r18.2.2.length c_1), (1, .int .i64 x2), (2, .int .i64 x3), (3, .int .i64 x8), (10, .int .i64 (w64 (x3 - x2))), (14, .int .i64 r18.1), (15, .bool r18.2.1)]) (by simp only [q33, List.length_nil] <;> rfl) ?_
  refine J.seq (Zb [0, 1, 2, 3, 9, 10, 14] ?_)
  refine J.seq (Zb [0, 1, 2, 3, 9, 10, 14, 16, 17] ?_)
  refine J.seq (Zb [0, 1, 2, 3, 9, 14, 16, 17, 18] ?_)
  refine J.seq (Zb [0, 1, 2, 3, 9, 14, 16, 17, 18, 113] ?_)
  refine jIf H (fun c14 H => ?_) fun c14 H => ?_
  ·refine J.seq (Zb [0, 1, 2, 3, 8, 9, 14] ?_)
   refine J.seq (J.region ?_)
   refine Zl 4 ?_
   obtain ⟨r19, q34, H⟩ := Zp H
   refine Ze (Zk [0] (ih k3 (by omega) q34) h34 rfl Zu) ?_
   rintro _ w26 ⟨_, ⟨rfl, rfl, q35⟩, h35⟩
   replace h35 := nf h35
   have e22 : r19.length = a0.length := q35.trans e21
   refine Zm [0, 2, 3, 8, 9, 14] rfl ?_
   refine J.envEq (env' := [(0, .slice A1 r19.length c_1), (2, .int .i64 x3), (3, .int .i64 x8), (8, .bool (decide ((w64 (Int.tdiv (w64 (x3 - x2)) 8)) ≤ (w64 (r18.1 - x2))))), (9, .bool r18.2.1), (14, .int .i64 r18.1)]) (by simp only [q35, List.length_nil] <;> rfl) ?_
   refine Zb [0, 1, 2, 3, 8, 9] ?_
   have h36 := (sOR h35 [0] [])
   exact ⟨k3, by omega, r19, (w64 (r18.1 + 1)), x3, x8, (decide ((w64 (Int.tdiv (w64 (x3 - x2)) 8)) ≤ (w64 (r18.1 - x2)))), r18.2.1, rfl, h36, H, by omega, e22⟩
  refine J.seq (Zb [0, 1, 2, 3, 8, 9, 14] ?_)
  refine J.seq (J.region ?_)
  refine Zl 5 ?_
  obtain ⟨r20, q36, H⟩ := Zp H
  refine Ze (Zk [0] (ih k3 (by omega) q36) h34 rfl Zu) ?_
  rintro _ w27 ⟨_, ⟨rfl, rfl, q37⟩, h37⟩
  replace h37 := nf h37
  have e23 : r20.length = a0.length := q37.trans e21
  refine Zm [0, 1, 3, 8, 9, 14] rfl ?_
  refine J.envEq (env' := [(0, .slice A1 r20.length c_1), (1, .int .i64 x2), (3, .int .i64 x8), (8, .bool (decide ((w64 (Int.tdiv (w64 (x3 - x2)) 8)) ≤ (w64 (x3 - r18.1))))), (9, .bool r18.2.1), (14, .int .i64 r18.1)]) (by simp only [q37, List.length_nil] <;> rfl) ?_
  refine Zb [0, 1, 2, 3, 8, 9] ?_
  have h38 := (sOR h37 [0] [])
  exact ⟨k3, by omega, r20, x2, r18.1, x8, (decide ((w64 (Int.tdiv (w64 (x3 - x2)) 8)) ≤ (w64 (x3 - r18.1)))), r18.2.1, rfl, h38, H, by omega, e23⟩
 refine Zm [0, 1, 2, 3, 8, 9, 10, 11, 68] rfl ?_
 refine Z7 ?_
 refine J.skip (J.seq (J.seq ?_))
 refine Zs h6 ?_
 have h39 := h6.drew
 refine Zx [0, 1, 2] ?_
 refine Wk 75 H (fun c15 H => ?_) fun c15 H => ?_
 ·refine Zx [3, 4, 5, 8, 9] ?_
  obtain ⟨⟨p9, p10⟩, H⟩ := Zq H
  have e24 := Z3 h39.wh (gO 0) p9 p10
  refine Zh 6 rfl (Zi e24 p9 p10) ?_
  refine Zh 7 rfl (Zj 0 wI (gO 0) p9 p10) ?_
  obtain ⟨⟨p11, p12⟩, H⟩ := Zq H
  refine Zh 10 rfl (Zi e24 p11 p12) ?_
  refine Zh 11 rfl (Zj 0 wI (gO 0) p11 p12) ?_
  obtain ⟨r21, q38, H⟩ := Zp H
  refine Zn 12 rfl (Zk [] (Q27.spec q38) h39 rfl Zu) ?_
  rintro _ w28 ⟨_, ⟨rfl, rfl⟩, h40⟩
  replace h40 := nf h40
  refine ⟨⟨[], h40⟩, ?_⟩
  refine Zx [13, 14] ?_
  refine Z2 [0, 1, 2, 3, 8, 9, 10, 11, 87] ?_
  refine jIf H (fun c16 H => ?_) fun c16 H => ?_
  ·refine J.seq (J.region ?_)
   refine Zl 4 ?_
   obtain ⟨r22, q39, H⟩ := Zp H
   refine Ze (Zk [0] (Q48.spec q39) h40 rfl Zu) ?_
   rintro _ w29 ⟨_, ⟨rfl, rfl, q40⟩, h41⟩
   replace h41 := nf h41
   have e25 : r22.2.length = a0.length := q40.trans e5
   refine Zm [0, 2, 3, 8, 9, 13] rfl ?_
   refine J.envEq (env' := [(0, .slice A1 r22.2.length c_1), (2, .int .i64 x3), (3, .int .i64 x8), (8, .bool x5), (9, .bool x6), (13, .int .i64 r22.1)]) (by simp only [q40, List.length_nil] <;> rfl) ?_
   refine J.seq (Zb [0, 1, 2, 3, 8, 9] ?_)
   refine J.exit ?_
   have h42 := (sOR h41 [0] [])
   exact ⟨k3, by omega, r22.2, r22.1, x3, x8, x5, x6, rfl, h42, H, by omega, e25⟩
  refine J.skip (J.seq (J.region ?_))
  refine Zl 4 ?_
  obtain ⟨r23, q41, H⟩ := Zp H
  refine Ze (Zk [0] (Q49.spec q41) h40 rfl Zu) ?_
  rintro _ w30 ⟨_, ⟨rfl, rfl, q42⟩, h43⟩
  replace h43 := nf h43
  have e26 : r23.2.2.length = a0.length := q42.trans e5
  refine Zm [0, 1, 2, 3, 10, 14, 15] rfl ?_
  refine J.envEq (env' := [(0, .slice A1 r23.2.2.length c_1), (1, .int .i64 x2), (2, .int .i64 x3), (3, .int .i64 x8), (10, .int .i64 (w64 (x3 - x2))), (14, .int .i64 r23.1), (15, .bool r23.2.1)]) (by simp only [q42, List.length_nil] <;> rfl) ?_
  refine J.seq (Zb [0, 1, 2, 3, 9, 10, 14] ?_)
  refine J.seq (Zb [0, 1, 2, 3, 9, 10, 14, 16, 17] ?_)
  refine J.seq (Zb [0, 1, 2, 3, 9, 14, 16, 17, 18] ?_)
  refine J.seq (Zb [0, 1, 2, 3, 9, 14, 16, 17, 18, 113] ?_)
  refine jIf H (fun c17 H => ?_) fun c17 H => ?_
  ·refine J.seq (Zb [0, 1, 2, 3, 8, 9, 14] ?_)
   refine J.seq (J.region ?_)
   refine Zl 4 ?_
   obtain ⟨r24, q43, H⟩ := Zp H
   refine Ze (Zk [0] (ih k3 (by omega) q43) h43 rfl Zu) ?_
   rintro _ w31 ⟨_, ⟨rfl, rfl, q44⟩, h44⟩
   replace h44 := nf h44
   have e27 : r24.length = a0.length := q44.trans e26
   refine Zm [0, 2, 3, 8, 9, 14] rfl ?_
   refine J.envEq (env' := [(0, .slice A1 r24.length c_1), (2, .int .i64 x3), (3, .int .i64 x8), (8, .bool (decide ((w64 (Int.tdiv (w64 (x3 - x2)) 8)) ≤ (w64 (r23.1 - x2))))), (9, .bool r23.2.1), (14, .int .i64 r23.1)]) (by simp only [q44, List.length_nil] <;> rfl) ?_
   refine Zb [0, 1, 2, 3, 8, 9] ?_
   have h45 := (sOR h44 [0] [])
   exact ⟨k3, by omega, r24, (w64 (r23.1 + 1)), x3, x8, (decide ((w64 (Int.tdiv (w64 (x3 - x2)) 8)) ≤ (w64 (r23.1 - x2)))), r23.2.1, rfl, h45, H, by omega, e27⟩
  refine J.seq (Zb [0, 1, 2, 3, 8, 9, 14] ?_)
  refine J.seq (J.region ?_)
  refine Zl 5 ?_
  obtain ⟨r25, q45, H⟩ := Zp H
  refine Ze (Zk [0] (ih k3 (by omega) q45) h43 rfl Zu) ?_
  rintro _ w32 ⟨_, ⟨rfl, rfl, q46⟩, h46⟩
  replace h46 := nf h46
  have e28 : r25.length = a0.length := q46.trans e26
  refine Zm [0, 1, 3, 8, 9, 14] rfl ?_
  refine J.envEq (env' := [(0, .slice A1 r25.length c_1), (1, .int .i64 x2), (3, .int .i64 x8), (8, .bool (decide ((w64 (Int.tdiv (w64 (x3 - x2)) 8)) ≤ (w64 (x3 - r23.1))))), (9, .bool r23.2.1), (14, .int .i64 r23.1)]) (by simp only [q46, List.length_nil] <;> rfl) ?_
  refine Zb [0, 1, 2, 3, 8, 9] ?_
  have h47 := (sOR h46 [0] [])
  exact ⟨k3, by omega, r25, x2, r23.1, x8, (decide ((w64 (Int.tdiv (w64 (x3 - x2)) 8)) ≤ (w64 (x3 - r23.1)))), r23.2.1, rfl, h47, H, by omega, e28⟩
 refine Zx [3, 4, 5, 6, 7, 8, 9, 10, 11, 12, 13, 14] ?_
 refine Z2 [0, 1, 2, 3, 8, 9, 10, 11, 87] ?_
 refine Z7 ?_
 refine J.skip (J.seq (J.region ?_))
 refine Zl 4 ?_
 obtain ⟨r26, q47, H⟩ := Zp H
 refine Ze (Zk [0] (Q49.spec q47) h39 rfl Zu) ?_
 rintro _ w33 ⟨_, ⟨rfl, rfl, q48⟩, h48⟩
 replace h48 := nf h48
 have e29 : r26.2.2.length = a0.length := q48.trans e5
 refine Zm [0, 1, 2, 3, 10, 14, 15] rfl ?_
 refine J.envEq (env' := [(0, .slice A1 r26.2.2.length c_1), (1, .int .i64 x2), (2, .int .i64 x3), (3, .int .i64 x8), (10, .int .i64 (w64 (x3 - x2))), (14, .int .i64 r26.1), (15, .bool r26.2.1)]) (by simp only [q48, List.length_nil] <;> rfl) ?_
 refine J.seq (Zb [0, 1, 2, 3, 9, 10, 14] ?_)
 refine J.seq (Zb [0, 1, 2, 3, 9, 10, 14, 16, 17] ?_)
 refine J.seq (Zb [0, 1, 2, 3, 9, 14, 16, 17, 18] ?_)
 refine J.seq (Zb [0, 1, 2, 3, 9, 14, 16, 17, 18, 113] ?_)
 refine jIf H (fun c18 H => ?_) fun c18 H => ?_
 ·refine J.seq (Zb [0, 1, 2, 3, 8, 9, 14] ?_)
  refine J.seq (J.region ?_)
  refine Zl 4 ?_
  obtain ⟨r27, q49, H⟩ := Zp H
  refine Ze (Zk [0] (ih k3 (by omega) q49) h48 rfl Zu) ?_
  rintro _ w34 ⟨_, ⟨rfl, rfl, q50⟩, h49⟩
  replace h49 := nf h49
  have e30 : r27.length = a0.length := q50.trans e29
  refine Zm [0, 2, 3, 8, 9, 14] rfl ?_
  refine J.envEq (env' := [(0, .slice A1 r27.length c_1), (2, .int .i64 x3), (3, .int .i64 x8), (8, .bool (decide ((w64 (Int.tdiv (w64 (x3 - x2)) 8)) ≤ (w64 (r26.1 - x2))))), (9, .bool r26.2.1), (14, .int .i64 r26.1)]) (by simp only [q50, List.length_nil] <;> rfl) ?_
  refine Zb [0, 1, 2, 3, 8, 9] ?_
  have h50 := (sOR h49 [0] [])
  exact ⟨k3, by omega, r27, (w64 (r26.1 + 1)), x3, x8, (decide ((w64 (Int.tdiv (w64 (x3 - x2)) 8)) ≤ (w64 (r26.1 - x2)))), r26.2.1, rfl, h50, H, by omega, e30⟩
 refine J.seq (Zb [0, 1, 2, 3, 8, 9, 14] ?_)
 refine J.seq (J.region ?_)
 refine Zl 5 ?_
 obtain ⟨r28, q51, H⟩ := Zp H
 refine Ze (Zk [0] (ih k3 (by omega) q51) h48 rfl Zu) ?_
 rintro _ w35 ⟨_, ⟨rfl, rfl, q52⟩, h51⟩
 replace h51 := nf h51
 have e31 : r28.length = a0.length := q52.trans e29
 refine Zm [0, 1, 3, 8, 9, 14] rfl ?_
 refine J.envEq (env' := [(0, .slice A1 r28.length c_1), (1, .int .i64 x2), (3, .int .i64 x8), (8, .bool (decide ((w64 (Int.tdiv (w64 (x3 - x2)) 8)) ≤ (w64 (x3 - r26.1))))), (9, .bool r26.2.1), (14, .int .i64 r26.1)]) (by simp only [q52, List.length_nil] <;> rfl) ?_
 refine Zb [0, 1, 2, 3, 8, 9] ?_
 have h52 := (sOR h51 [0] [])
 exact ⟨k3, by omega, r28, x2, r26.1, x8, (decide ((w64 (Int.tdiv (w64 (x3 - x2)) 8)) ≤ (w64 (x3 - r26.1)))), r26.2.1, rfl, h52, H, by omega, e31⟩

def Q38.f (k : Nat) (a0 : List (Int)) : Option (List (Int)) := (Q0.f (IntKind.u64.wrap ((a0.length : Int)))).bind fun r1 => ((Q50.f k a0 0 (a0.length : Int) r1).bind fun r2 => (some r2))
theorem Q38.spec {k : Nat} {a0 : List (Int)} {A1 : Option Addr} {c_1 : Nat} {r : List (Int)} (H : Q38.f k a0 = some r) :
  Spec Try.prog 144 [.slice A1 a0.length c_1] [O23 a0 A1 c_1] [] (fun v l => v = .tuple #[] ∧ l = [O23 r A1 c_1] ∧ r.length = a0.length) := by
 refine Zr Try.func144 fun w0 F0 h0 => ?_
 unfold Q38.f at H
 refine J.seq (Zb [0, 2] ?_)
 refine J.region (Zl 4 ?_)
 obtain ⟨r1, q1, H⟩ := Zp H
 refine Ze (Zk [] (Q0.spec q1) h0 rfl Zu) ?_
 rintro _ w1 ⟨_, ⟨rfl, rfl⟩, h1⟩
 replace h1 := nf h1
 obtain ⟨r2, q2, H⟩ := Zp H
 refine Ze (Zk [0] (Q50.spec q2) h1 rfl Zu) ?_
 rintro _ w2 ⟨_, ⟨rfl, rfl, q3⟩, h2⟩
 replace h2 := nf h2
 have e1 : r2.length = a0.length := q3.trans (rfl : a0.length = a0.length)
 refine Zm [] rfl ?_
 cases H
 exact ⟨_, _, _, Zc, ⟨rfl, rfl, e1⟩, Zd h2 [0]⟩

end Go.SK.T
