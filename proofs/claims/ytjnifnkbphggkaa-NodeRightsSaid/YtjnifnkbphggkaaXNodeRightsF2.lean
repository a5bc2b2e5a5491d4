/- The functions, further. -/
import Derived.Test.YtjnifnkbphggkaaXNodeRightsF1
set_option linter.unusedVariables false
set_option linter.unusedSimpArgs false
namespace Go.SK.T
open Go Go.SK Go.Proofs
/-! slices.pdqsortOrdered[uint32] -/
mutual
def slices_pdqsortOrdered_uint32.l0 : Nat → (List (Int)) → (Int) → (Int) → (Int) → (Bool) → (Bool) → Option (List (Int))
  | 0, _, _, _, _, _, _ => none
  | k + 1, x1, x2, x3, x4, x5, x6 => if (decide ((w64 (x3 - x2)) ≤ 12)) = true then ((slices_insertionSortOrdered_uint32.f k x1 x2 x3).bind fun r1 => (some r1)) else (if (decide (x4 = 0)) = true then ((slices_heapSortOrdered_uint32.f k x1 x2 x3).bind fun r2 => (some r2)) else (if (!x5) = true then ((slices_breakPatternsOrdered_uint32.f k x1 x2 x3).bind fun r30 => ((slices_choosePivotOrdered_uint32.f r30 x2 x3).bind fun r3 => (if (decide (r3.2 = 2)) = true then ((slices_reverseRangeOrdered_uint32.f k r30 x2 x3).bind fun r29 => (if x5 = true then (if x6 = true then (if (decide (1 = 1)) = true then ((slices_partialInsertionSortOrdered_uint32.f k r29 x2 x3).bind fun r12 => (if r12.1 = true then (some r12.2) else (if (decide (0 < x2)) = true then (if 0 ≤ (w64 (x2 - 1)) ∧ (w64 (x2 - 1)) < (r12.2.length : Int) then (if 0 ≤ (w64 ((w64 (x3 - 1)) - (w64 (r3.1 - x2)))) ∧ (w64 ((w64 (x3 - 1)) - (w64 (r3.1 - x2)))) < (r12.2.length : Int) then ((cmp_Less_uint32.f (gt r12.2 (w64 (x2 - 1))) (gt r12.2 (w64 ((w64 (x3 - 1)) - (w64 (r3.1 - x2)))))).bind fun r4 => (if (!r4) = true then ((slices_partitionEqualOrdered_uint32.f k r12.2 x2 x3 (w64 ((w64 (x3 - 1)) - (w64 (r3.1 - x2))))).bind fun r5 => (slices_pdqsortOrdered_uint32.l0 k r5.2 r5.1 x3 (w64 (x4 - 1)) x5 x6)) else ((slices_partitionOrdered_uint32.f k r12.2 x2 x3 (w64 ((w64 (x3 - 1)) - (w64 (r3.1 - x2))))).bind fun r6 => (if (decide ((w64 (r6.1 - x2)) < (w64 (x3 - r6.1)))) = true then ((slices_pdqsortOrdered_uint32.f k r6.2.2 x2 r6.1 (w64 (x4 - 1))).bind fun r7 => (slices_pdqsortOrdered_uint32.l0 k r7 (w64 (r6.1 + 1)) x3 (w64 (x4 - 1)) (decide ((w64 (Int.tdiv (w64 (x3 - x2)) 8)) ≤ (w64 (r6.1 - x2)))) r6.2.1)) else ((slices_pdqsortOrdered_uint32.f k r6.2.2 (w64 (r6.1 + 1)) x3 (w64 (x4 - 1))).bind fun r8 => (slices_pdqsortOrdered_uint32.l0 k r8 x2 r6.1 (w64 (x4 - 1)) (decide ((w64 (Int.tdiv (w64 (x3 - x2)) 8)) ≤ (w64 (x3 - r6.1)))) r6.2.1)))))) else none) else none) else ((slices_partitionOrdered_uint32.f k r12.2 x2 x3 (w64 ((w64 (x3 - 1)) - (w64 (r3.1 - x2))))).bind fun r9 => (if (decide ((w64 (r9.1 - x2)) < (w64 (x3 - r9.1)))) = true then ((slices_pdqsortOrdered_uint32.f k r9.2.2 x2 r9.1 (w64 (x4 - 1))).bind fun r10 => (slices_pdqsortOrdered_uint32.l0 k r10 (w64 (r9.1 + 1)) x3 (w64 (x4 - 1)) (decide ((w64 (Int.tdiv (w64 (x3 - x2)) 8)) ≤ (w64 (r9.1 - x2)))) r9.2.1)) else ((slices_pdqsortOrdered_uint32.f k r9.2.2 (w64 (r9.1 + 1)) x3 (w64 (x4 - 1))).bind fun r11 => (slices_pdqsortOrdered_uint32.l0 k r11 x2 r9.1 (w64 (x4 - 1)) (decide ((w64 (Int.tdiv (w64 (x3 - x2)) 8)) ≤ (w64 (x3 - r9.1)))) r9.2.1))))))) else (if (decide (0 < x2)) = true then (if 0 ≤ (w64 (x2 - 1)) ∧ (w64 (x2 - 1)) < (r29.length : Int) then (if 0 ≤ (w64 ((w64 (x3 - 1)) - (w64 (r3.1 - x2)))) ∧ (w64 ((w64 (x3 - 1)) - (w64 (r3.1 - x2)))) < (r29.length : Int) then ((cmp_Less_uint32.f (gt r29 (w64 (x2 - 1))) (gt r29 (w64 ((w64 (x3 - 1)) - (w64 (r3.1 - x2)))))).bind fun r4 => (if (!r4) = true then ((slices_partitionEqualOrdered_uint32.f k r29 x2 x3 (w64 ((w64 (x3 - 1)) - (w64 (r3.1 - x2))))).bind fun r5 => (slices_pdqsortOrdered_uint32.l0 k r5.2 r5.1 x3 (w64 (x4 - 1)) x5 x6)) else ((slices_partitionOrdered_uint32.f k r29 x2 x3 (w64 ((w64 (x3 - 1)) - (w64 (r3.1 - x2))))).bind fun r6 => (if (decide ((w64 (r6.1 - x2)) < (w64 (x3 - r6.1)))) = true then ((slices_pdqsortOrdered_uint32.f k r6.2.2 x2 r6.1 (w64 (x4 - 1))).bind fun r7 => (slices_pdqsortOrdered_uint32.l0 k r7 (w64 (r6.1 + 1)) x3 (w64 (x4 - 1)) (decide ((w64 (Int.tdiv (w64 (x3 - x2)) 8)) ≤ (w64 (r6.1 - x2)))) r6.2.1)) else ((slices_pdqsortOrdered_uint32.f k r6.2.2 (w64 (r6.1 + 1)) x3 (w64 (x4 - 1))).bind fun r8 => (slices_pdqsortOrdered_uint32.l0 k r8 x2 r6.1 (w64 (x4 - 1)) (decide ((w64 (Int.tdiv (w64 (x3 - x2)) 8)) ≤ (w64 (x3 - r6.1)))) r6.2.1)))))) else none) else none) else ((slices_partitionOrdered_uint32.f k r29 x2 x3 (w64 ((w64 (x3 - 1)) - (w64 (r3.1 - x2))))).bind fun r9 => (if (decide ((w64 (r9.1 - x2)) < (w64 (x3 - r9.1)))) = true then ((slices_pdqsortOrdered_uint32.f k r9.2.2 x2 r9.1 (w64 (x4 - 1))).bind fun r10 => (slices_pdqsortOrdered_uint32.l0 k r10 (w64 (r9.1 + 1)) x3 (w64 (x4 - 1)) (decide ((w64 (Int.tdiv (w64 (x3 - x2)) 8)) ≤ (w64 (r9.1 - x2)))) r9.2.1)) else ((slices_pdqsortOrdered_uint32.f k r9.2.2 (w64 (r9.1 + 1)) x3 (w64 (x4 - 1))).bind fun r11 => (slices_pdqsortOrdered_uint32.l0 k r11 x2 r9.1 (w64 (x4 - 1)) (decide ((w64 (Int.tdiv (w64 (x3 - x2)) 8)) ≤ (w64 (x3 - r9.1)))) r9.2.1)))))) else (if (decide (0 < x2)) = true then (if 0 ≤ (w64 (x2 - 1)) ∧ (w64 (x2 - 1)) < (r29.length : Int) then (if 0 ≤ (w64 ((w64 (x3 - 1)) - (w64 (r3.1 - x2)))) ∧ (w64 ((w64 (x3 - 1)) - (w64 (r3.1 - x2)))) < (r29.length : Int) then ((cmp_Less_uint32.f (gt r29 (w64 (x2 - 1))) (gt r29 (w64 ((w64 (x3 - 1)) - (w64 (r3.1 - x2)))))).bind fun r13 => (if (!r13) = true then ((slices_partitionEqualOrdered_uint32.f k r29 x2 x3 (w64 ((w64 (x3 - 1)) - (w64 (r3.1 - x2))))).bind fun r14 => (slices_pdqsortOrdered_uint32.l0 k r14.2 r14.1 x3 (w64 (x4 - 1)) x5 x6)) else ((slices_partitionOrdered_uint32.f k r29 x2 x3 (w64 ((w64 (x3 - 1)) - (w64 (r3.1 - x2))))).bind fun r15 => (if (decide ((w64 (r15.1 - x2)) < (w64 (x3 - r15.1)))) = true then ((slices_pdqsortOrdered_uint32.f k r15.2.2 x2 r15.1 (w64 (x4 - 1))).bind fun r16 => (slices_pdqsortOrdered_uint32.l0 k r16 (w64 (r15.1 + 1)) x3 (w64 (x4 - 1)) (decide ((w64 (Int.tdiv (w64 (x3 - x2)) 8)) ≤ (w64 (r15.1 - x2)))) r15.2.1)) else ((slices_pdqsortOrdered_uint32.f k r15.2.2 (w64 (r15.1 + 1)) x3 (w64 (x4 - 1))).bind fun r17 => (slices_pdqsortOrdered_uint32.l0 k r17 x2 r15.1 (w64 (x4 - 1)) (decide ((w64 (Int.tdiv (w64 (x3 - x2)) 8)) ≤ (w64 (x3 - r15.1)))) r15.2.1)))))) else none) else none) else ((slices_partitionOrdered_uint32.f k r29 x2 x3 (w64 ((w64 (x3 - 1)) - (w64 (r3.1 - x2))))).bind fun r18 => (if (decide ((w64 (r18.1 - x2)) < (w64 (x3 - r18.1)))) = true then ((slices_pdqsortOrdered_uint32.f k r18.2.2 x2 r18.1 (w64 (x4 - 1))).bind fun r19 => (slices_pdqsortOrdered_uint32.l0 k r19 (w64 (r18.1 + 1)) x3 (w64 (x4 - 1)) (decide ((w64 (Int.tdiv (w64 (x3 - x2)) 8)) ≤ (w64 (r18.1 - x2)))) r18.2.1)) else ((slices_pdqsortOrdered_uint32.f k r18.2.2 (w64 (r18.1 + 1)) x3 (w64 (x4 - 1))).bind fun r20 => (slices_pdqsortOrdered_uint32.l0 k r20 x2 r18.1 (w64 (x4 - 1)) (decide ((w64 (Int.tdiv (w64 (x3 - x2)) 8)) ≤ (w64 (x3 - r18.1)))) r18.2.1)))))) else (if (decide (0 < x2)) = true then (if 0 ≤ (w64 (x2 - 1)) ∧ (w64 (x2 - 1)) < (r29.length : Int) then (if 0 ≤ (w64 ((w64 (x3 - 1)) - (w64 (r3.1 - x2)))) ∧ (w64 ((w64 (x3 - 1)) - (w64 (r3.1 - x2)))) < (r29.length : Int) then ((cmp_Less_uint32.f (gt r29 (w64 (x2 - 1))) (gt r29 (w64 ((w64 (x3 - 1)) - (w64 (r3.1 - x2)))))).bind fun r21 => (if (!r21) = true then ((slices_partitionEqualOrdered_uint32.f k r29 x2 x3 (w64 ((w64 (x3 - 1)) - (w64 (r3.1 - x2))))).bind fun r22 => (slices_pdqsortOrdered_uint32.l0 k r22.2 r22.1 x3 (w64 (x4 - 1)) x5 x6)) else ((slices_partitionOrdered_uint32.f k r29 x2 x3 (w64 ((w64 (x3 - 1)) - (w64 (r3.1 - x2))))).bind fun r23 => (if (decide ((w64 (r23.1 - x2)) < (w64 (x3 - r23.1)))) = true then ((slices_pdqsortOrdered_uint32.f k r23.2.2 x2 r23.1 (w64 (x4 - 1))).bind fun r24 => (slices_pdqsortOrdered_uint32.l0 k r24 (w64 (r23.1 + 1)) x3 (w64 (x4 - 1)) (decide ((w64 (Int.tdiv (w64 (x3 - x2)) 8)) ≤ (w64 (r23.1 - x2)))) r23.2.1)) else ((slices_pdqsortOrdered_uint32.f k r23.2.2 (w64 (r23.1 + 1)) x3 (w64 (x4 - 1))).bind fun r25 => (slices_pdqsortOrdered_uint32.l0 k r25 x2 r23.1 (w64 (x4 - 1)) (decide ((w64 (Int.tdiv (w64 (x3 - x2)) 8)) ≤ (w64 (x3 - r23.1)))) r23.2.1)))))) else none) else none) else ((slices_partitionOrdered_uint32.f k r29 x2 x3 (w64 ((w64 (x3 - 1)) - (w64 (r3.1 - x2))))).bind fun r26 => (if (decide ((w64 (r26.1 - x2)) < (w64 (x3 - r26.1)))) = true then ((slices_pdqsortOrdered_uint32.f k r26.2.2 x2 r26.1 (w64 (x4 - 1))).bind fun r27 => (slices_pdqsortOrdered_uint32.l0 k r27 (w64 (r26.1 + 1)) x3 (w64 (x4 - 1)) (decide ((w64 (Int.tdiv (w64 (x3 - x2)) 8)) ≤ (w64 (r26.1 - x2)))) r26.2.1)) else ((slices_pdqsortOrdered_uint32.f k r26.2.2 (w64 (r26.1 + 1)) x3 (w64 (x4 - 1))).bind fun r28 => (slices_pdqsortOrdered_uint32.l0 k r28 x2 r26.1 (w64 (x4 - 1)) (decide ((w64 (Int.tdiv (w64 (x3 - x2)) 8)) ≤ (w64 (x3 - r26.1)))) r26.2.1))))))) else (if x5 = true then (if x6 = true then (if (decide (r3.2 = 1)) = true then ((slices_partialInsertionSortOrdered_uint32.f k r30 x2 x3).bind fun r12 => (if r12.1 = true then (some r12.2) else (if (decide (0 < x2)) = true then (if 0 ≤ (w64 (x2 - 1)) ∧ (w64 (x2 - 1)) < (r12.2.length : Int) then (if 0 ≤ r3.1 ∧ r3.1 < (r12.2.length : Int) then ((cmp_Less_uint32.f (gt r12.2 (w64 (x2 - 1))) (gt r12.2 r3.1)).bind fun r4 => (if (!r4) = true then ((slices_partitionEqualOrdered_uint32.f k r12.2 x2 x3 r3.1).bind fun r5 => (slices_pdqsortOrdered_uint32.l0 k r5.2 r5.1 x3 (w64 (x4 - 1)) x5 x6)) else ((slices_partitionOrdered_uint32.f k r12.2 x2 x3 r3.1).bind fun r6 => (if (decide ((w64 (r6.1 - x2)) < (w64 (x3 - r6.1)))) = true then ((slices_pdqsortOrdered_uint32.f k r6.2.2 x2 r6.1 (w64 (x4 - 1))).bind fun r7 => (slices_pdqsortOrdered_uint32.l0 k r7 (w64 (r6.1 + 1)) x3 (w64 (x4 - 1)) (decide ((w64 (Int.tdiv (w64 (x3 - x2)) 8)) ≤ (w64 (r6.1 - x2)))) r6.2.1)) else ((slices_pdqsortOrdered_uint32.f k r6.2.2 (w64 (r6.1 + 1)) x3 (w64 (x4 - 1))).bind fun r8 => (slices_pdqsortOrdered_uint32.l0 k r8 x2 r6.1 (w64 (x4 - 1)) (decide ((w64 (Int.tdiv (w64 (x3 - x2)) 8)) ≤ (w64 (x3 - r6.1)))) r6.2.1)))))) else none) else none) else ((slices_partitionOrdered_uint32.f k r12.2 x2 x3 r3.1).bind fun r9 => (if (decide ((w64 (r9.1 - x2)) < (w64 (x3 - r9.1)))) = true then ((slices_pdqsortOrdered_uint32.f k r9.2.2 x2 r9.1 (w64 (x4 - 1))).bind fun r10 => (slices_pdqsortOrdered_uint32.l0 k r10 (w64 (r9.1 + 1)) x3 (w64 (x4 - 1)) (decide ((w64 (Int.tdiv (w64 (x3 - x2)) 8)) ≤ (w64 (r9.1 - x2)))) r9.2.1)) else ((slices_pdqsortOrdered_uint32.f k r9.2.2 (w64 (r9.1 + 1)) x3 (w64 (x4 - 1))).bind fun r11 => (slices_pdqsortOrdered_uint32.l0 k r11 x2 r9.1 (w64 (x4 - 1)) (decide ((w64 (Int.tdiv (w64 (x3 - x2)) 8)) ≤ (w64 (x3 - r9.1)))) r9.2.1))))))) else (if (decide (0 < x2)) = true then (if 0 ≤ (w64 (x2 - 1)) ∧ (w64 (x2 - 1)) < (r30.length : Int) then (if 0 ≤ r3.1 ∧ r3.1 < (r30.length : Int) then ((cmp_Less_uint32.f (gt r30 (w64 (x2 - 1))) (gt r30 r3.1)).bind fun r4 => (if (!r4) = true then ((slices_partitionEqualOrdered_uint32.f k r30 x2 x3 r3.1).bind fun r5 => (slices_pdqsortOrdered_uint32.l0 k r5.2 r5.1 x3 (w64 (x4 - 1)) x5 x6)) else ((slices_partitionOrdered_uint32.f k r30 x2 x3 r3.1).bind fun r6 => (if (decide ((w64 (r6.1 - x2)) < (w64 (x3 - r6.1)))) = true then ((slices_pdqsortOrdered_uint32.f k r6.2.2 x2 r6.1 (w64 (x4 - 1))).bind fun r7 => (slices_pdqsortOrdered_uint32.l0 k r7 (w64 (r6.1 + 1)) x3 (w64 (x4 - 1)) (decide ((w64 (Int.tdiv (w64 (x3 - x2)) 8)) ≤ (w64 (r6.1 - x2)))) r6.2.1)) else ((slices_pdqsortOrdered_uint32.f k r6.2.2 (w64 (r6.1 + 1)) x3 (w64 (x4 - 1))).bind fun r8 => (slices_pdqsortOrdered_uint32.l0 k r8 x2 r6.1 (w64 (x4 - 1)) (decide ((w64 (Int.tdiv (w64 (x3 - x2)) 8)) ≤ (w64 (x3 - r6.1)))) r6.2.1)))))) else none) else none) else ((slices_partitionOrdered_uint32.f k r30 x2 x3 r3.1).bind fun r9 => (if (decide ((w64 (r9.1 - x2)) < (w64 (x3 - r9.1)))) = true then ((slices_pdqsortOrdered_uint32.f k r9.2.2 x2 r9.1 (w64 (x4 - 1))).bind fun r10 => (slices_pdqsortOrdered_uint32.l0 k r10 (w64 (r9.1 + 1)) x3 (w64 (x4 - 1)) (decide ((w64 (Int.tdiv (w64 (x3 - x2)) 8)) ≤ (w64 (r9.1 - x2)))) r9.2.1)) else ((slices_pdqsortOrdered_uint32.f k r9.2.2 (w64 (r9.1 + 1)) x3 (w64 (x4 - 1))).bind fun r11 => (slices_pdqsortOrdered_uint32.l0 k r11 x2 r9.1 (w64 (x4 - 1)) (decide ((w64 (Int.tdiv (w64 (x3 - x2)) 8)) ≤ (w64 (x3 - r9.1)))) r9.2.1)))))) else (if (decide (0 < x2)) = true then (if 0 ≤ (w64 (x2 - 1)) ∧ (w64 (x2 - 1)) < (r30.length : Int) then (if 0 ≤ r3.1 ∧ r3.1 < (r30.length : Int) then ((cmp_Less_uint32.f (gt r30 (w64 (x2 - 1))) (gt r30 r3.1)).bind fun r13 => (if (!r13) = true then ((slices_partitionEqualOrdered_uint32.f k r30 x2 x3 r3.1).bind fun r14 => (slices_pdqsortOrdered_uint32.l0 k r14.2 r14.1 x3 (w64 (x4 - 1)) x5 x6)) else ((slices_partitionOrdered_uint32.f k r30 x2 x3 r3.1).bind fun r15 => (if (decide ((w64 (r15.1 - x2)) < (w64 (x3 - r15.1)))) = true then ((slices_pdqsortOrdered_uint32.f k r15.2.2 x2 r15.1 (w64 (x4 - 1))).bind fun r16 => (slices_pdqsortOrdered_uint32.l0 k r16 (w64 (r15.1 + 1)) x3 (w64 (x4 - 1)) (decide ((w64 (Int.tdiv (w64 (x3 - x2)) 8)) ≤ (w64 (r15.1 - x2)))) r15.2.1)) else ((slices_pdqsortOrdered_uint32.f k r15.2.2 (w64 (r15.1 + 1)) x3 (w64 (x4 - 1))).bind fun r17 => (slices_pdqsortOrdered_uint32.l0 k r17 x2 r15.1 (w64 (x4 - 1)) (decide ((w64 (Int.tdiv (w64 (x3 - x2)) 8)) ≤ (w64 (x3 - r15.1)))) r15.2.1)))))) else none) else none) else ((slices_partitionOrdered_uint32.f k r30 x2 x3 r3.1).bind fun r18 => (if (decide ((w64 (r18.1 - x2)) < (w64 (x3 - r18.1)))) = true then ((slices_pdqsortOrdered_uint32.f k r18.2.2 x2 r18.1 (w64 (x4 - 1))).bind fun r19 => (slices_pdqsortOrdered_uint32.l0 k r19 (w64 (r18.1 + 1)) x3 (w64 (x4 - 1)) (decide ((w64 (Int.tdiv (w64 (x3 - x2)) 8)) ≤ (w64 (r18.1 - x2)))) r18.2.1)) else ((slices_pdqsortOrdered_uint32.f k r18.2.2 (w64 (r18.1 + 1)) x3 (w64 (x4 - 1))).bind fun r20 => (slices_pdqsortOrdered_uint32.l0 k r20 x2 r18.1 (w64 (x4 - 1)) (decide ((w64 (Int.tdiv (w64 (x3 - x2)) 8)) ≤ (w64 (x3 - r18.1)))) r18.2.1)))))) else (if (decide (0 < x2)) = true then (if 0 ≤ (w64 (x2 - 1)) ∧ (w64 (x2 - 1)) < (r30.length : Int) then (if 0 ≤ r3.1 ∧ r3.1 < (r30.length : Int) then ((cmp_Less_uint32.f (gt r30 (w64 (x2 - 1))) (gt r30 r3.1)).bind fun r21 => (if (!r21) = true then ((slices_partitionEqualOrdered_uint32.f k r30 x2 x3 r3.1).bind fun r22 => (slices_pdqsortOrdered_uint32.l0 k r22.2 r22.1 x3 (w64 (x4 - 1)) x5 x6)) else ((slices_partitionOrdered_uint32.f k r30 x2 x3 r3.1).bind fun r23 => (if (decide ((w64 (r23.1 - x2)) < (w64 (x3 - r23.1)))) = true then ((slices_pdqsortOrdered_uint32.f k r23.2.2 x2 r23.1 (w64 (x4 - 1))).bind fun r24 => (slices_pdqsortOrdered_uint32.l0 k r24 (w64 (r23.1 + 1)) x3 (w64 (x4 - 1)) (decide ((w64 (Int.tdiv (w64 (x3 - x2)) 8)) ≤ (w64 (r23.1 - x2)))) r23.2.1)) else ((slices_pdqsortOrdered_uint32.f k r23.2.2 (w64 (r23.1 + 1)) x3 (w64 (x4 - 1))).bind fun r25 => (slices_pdqsortOrdered_uint32.l0 k r25 x2 r23.1 (w64 (x4 - 1)) (decide ((w64 (Int.tdiv (w64 (x3 - x2)) 8)) ≤ (w64 (x3 - r23.1)))) r23.2.1)))))) else none) else none) else ((slices_partitionOrdered_uint32.f k r30 x2 x3 r3.1).bind fun r26 => (if (decide ((w64 (r26.1 - x2)) < (w64 (x3 - r26.1)))) = true then ((slices_pdqsortOrdered_uint32.f k r26.2.2 x2 r26.1 (w64 (x4 - 1))).bind fun r27 => (slices_pdqsortOrdered_uint32.l0 k r27 (w64 (r26.1 + 1)) x3 (w64 (x4 - 1)) (decide ((w64 (Int.tdiv (w64 (x3 - x2)) 8)) ≤ (w64 (r26.1 - x2)))) r26.2.1)) else ((slices_pdqsortOrdered_uint32.f k r26.2.2 (w64 (r26.1 + 1)) x3 (w64 (x4 - 1))).bind fun r28 => (slices_pdqsortOrdered_uint32.l0 k r28 x2 r26.1 (w64 (x4 - 1)) (decide ((w64 (Int.tdiv (w64 (x3 - x2)) 8)) ≤ (w64 (x3 - r26.1)))) r26.2.1))))))))) else ((slices_choosePivotOrdered_uint32.f x1 x2 x3).bind fun r3 => (if (decide (r3.2 = 2)) = true then ((slices_reverseRangeOrdered_uint32.f k x1 x2 x3).bind fun r29 => (if x5 = true then (if x6 = true then (if (decide (1 = 1)) = true then ((slices_partialInsertionSortOrdered_uint32.f k r29 x2 x3).bind fun r12 => (if r12.1 = true then (some r12.2) else (if (decide (0 < x2)) = true then (if 0 ≤ (w64 (x2 - 1)) ∧ (w64 (x2 - 1)) < (r12.2.length : Int) then (if 0 ≤ (w64 ((w64 (x3 - 1)) - (w64 (r3.1 - x2)))) ∧ (w64 ((w64 (x3 - 1)) - (w64 (r3.1 - x2)))) < (r12.2.length : Int) then ((cmp_Less_uint32.f (gt r12.2 (w64 (x2 - 1))) (gt r12.2 (w64 ((w64 (x3 - 1)) - (w64 (r3.1 - x2)))))).bind fun r4 => (if (!r4) = true then ((slices_partitionEqualOrdered_uint32.f k r12.2 x2 x3 (w64 ((w64 (x3 - 1)) - (w64 (r3.1 - x2))))).bind fun r5 => (slices_pdqsortOrdered_uint32.l0 k r5.2 r5.1 x3 x4 x5 x6)) else ((slices_partitionOrdered_uint32.f k r12.2 x2 x3 (w64 ((w64 (x3 - 1)) - (w64 (r3.1 - x2))))).bind fun r6 => (if (decide ((w64 (r6.1 - x2)) < (w64 (x3 - r6.1)))) = true then ((slices_pdqsortOrdered_uint32.f k r6.2.2 x2 r6.1 x4).bind fun r7 => (slices_pdqsortOrdered_uint32.l0 k r7 (w64 (r6.1 + 1)) x3 x4 (decide ((w64 (Int.tdiv (w64 (x3 - x2)) 8)) ≤ (w64 (r6.1 - x2)))) r6.2.1)) else ((slices_pdqsortOrdered_uint32.f k r6.2.2 (w64 (r6.1 + 1)) x3 x4).bind fun r8 => (slices_pdqsortOrdered_uint32.l0 k r8 x2 r6.1 x4 (decide ((w64 (Int.tdiv (w64 (x3 - x2)) 8)) ≤ (w64 (x3 - r6.1)))) r6.2.1)))))) else none) else none) else ((slices_partitionOrdered_uint32.f k r12.2 x2 x3 (w64 ((w64 (x3 - 1)) - (w64 (r3.1 - x2))))).bind fun r9 => (if (decide ((w64 (r9.1 - x2)) < (w64 (x3 - r9.1)))) = true then ((slices_pdqsortOrdered_uint32.f k r9.2.2 x2 r9.1 x4).bind fun r10 => (slices_pdqsortOrdered_uint32.l0 k r10 (w64 (r9.1 + 1)) x3 x4 (decide ((w64 (Int.tdiv (w64 (x3 - x2)) 8)) ≤ (w64 (r9.1 - x2)))) r9.2.1)) else ((slices_pdqsortOrdered_uint32.f k r9.2.2 (w64 (r9.1 + 1)) x3 x4).bind fun r11 => (slices_pdqsortOrdered_uint32.l0 k r11 x2 r9.1 x4 (decide ((w64 (Int.tdiv (w64 (x3 - x2)) 8)) ≤ (w64 (x3 - r9.1)))) r9.2.1))))))) else (if (decide (0 < x2)) = true then (if 0 ≤ (w64 (x2 - 1)) ∧ (w64 (x2 - 1)) < (r29.length : Int) then (if 0 ≤ (w64 ((w64 (x3 - 1)) - (w64 (r3.1 - x2)))) ∧ (w64 ((w64 (x3 - 1)) - (w64 (r3.1 - x2)))) < (r29.length : Int) then ((cmp_Less_uint32.f (gt r29 (w64 (x2 - 1))) (gt r29 (w64 ((w64 (x3 - 1)) - (w64 (r3.1 - x2)))))).bind fun r4 => (if (!r4) = true then ((slices_partitionEqualOrdered_uint32.f k r29 x2 x3 (w64 ((w64 (x3 - 1)) - (w64 (r3.1 - x2))))).bind fun r5 => (slices_pdqsortOrdered_uint32.l0 k r5.2 r5.1 x3 x4 x5 x6)) else ((slices_partitionOrdered_uint32.f k r29 x2 x3 (w64 ((w64 (x3 - 1)) - (w64 (r3.1 - x2))))).bind fun r6 => (if (decide ((w64 (r6.1 - x2)) < (w64 (x3 - r6.1)))) = true then ((slices_pdqsortOrdered_uint32.f k r6.2.2 x2 r6.1 x4).bind fun r7 => (slices_pdqsortOrdered_uint32.l0 k r7 (w64 (r6.1 + 1)) x3 x4 (decide ((w64 (Int.tdiv (w64 (x3 - x2)) 8)) ≤ (w64 (r6.1 - x2)))) r6.2.1)) else ((slices_pdqsortOrdered_uint32.f k r6.2.2 (w64 (r6.1 + 1)) x3 x4).bind fun r8 => (slices_pdqsortOrdered_uint32.l0 k r8 x2 r6.1 x4 (decide ((w64 (Int.tdiv (w64 (x3 - x2)) 8)) ≤ (w64 (x3 - r6.1)))) r6.2.1)))))) else none) else none) else ((slices_partitionOrdered_uint32.f k r29 x2 x3 (w64 ((w64 (x3 - 1)) - (w64 (r3.1 - x2))))).bind fun r9 => (if (decide ((w64 (r9.1 - x2)) < (w64 (x3 - r9.1)))) = true then ((slices_pdqsortOrdered_uint32.f k r9.2.2 x2 r9.1 x4).bind fun r10 => (slices_pdqsortOrdered_uint32.l0 k r10 (w64 (r9.1 + 1)) x3 x4 (decide ((w64 (Int.tdiv (w64 (x3 - x2)) 8)) ≤ (w64 (r9.1 - x2)))) r9.2.1)) else ((slices_pdqsortOrdered_uint32.f k r9.2.2 (w64 (r9.1 + 1)) x3 x4).bind fun r11 => (slices_pdqsortOrdered_uint32.l0 k r11 x2 r9.1 x4 (decide ((w64 (Int.tdiv (w64 (x3 - x2)) 8)) ≤ (w64 (x3 - r9.1)))) r9.2.1)))))) else (if (decide (0 < x2)) = true then (if 0 ≤ (w64 (x2 - 1)) ∧ (w64 (x2 - 1)) < (r29.length : Int) then (if 0 ≤ (w64 ((w64 (x3 - 1)) - (w64 (r3.1 - x2)))) ∧ (w64 ((w64 (x3 - 1)) - (w64 (r3.1 - x2)))) < (r29.length : Int) then ((cmp_Less_uint32.f (gt r29 (w64 (x2 - 1))) (gt r29 (w64 ((w64 (x3 - 1)) - (w64 (r3.1 - x2)))))).bind fun r13 => (if (!r13) = true then ((slices_partitionEqualOrdered_uint32.f k r29 x2 x3 (w64 ((w64 (x3 - 1)) - (w64 (r3.1 - x2))))).bind fun r14 => (slices_pdqsortOrdered_uint32.l0 k r14.2 r14.1 x3 x4 x5 x6)) else ((slices_partitionOrdered_uint32.f k r29 x2 x3 (w64 ((w64 (x3 - 1)) - (w64 (r3.1 - x2))))).bind fun r15 => (if (decide ((w64 (r15.1 - x2)) < (w64 (x3 - r15.1)))) = true then ((slices_pdqsortOrdered_uint32.f k r15.2.2 x2 r15.1 x4).bind fun r16 => (slices_pdqsortOrdered_uint32.l0 k r16 (w64 (r15.1 + 1)) x3 x4 (decide ((w64 (Int.tdiv (w64 (x3 - x2)) 8)) ≤ (w64 (r15.1 - x2)))) r15.2.1)) else ((slices_pdqsortOrdered_uint32.f k r15.2.2 (w64 (r15.1 + 1)) x3 x4).bind fun r17 => (slices_pdqsortOrdered_uint32.l0 k r17 x2 r15.1 x4 (decide ((w64 (Int.tdiv (w64 (x3 - x2)) 8)) ≤ (w64 (x3 - r15.1)))) r15.2.1)))))) else none) else none) else ((slices_partitionOrdered_uint32.f k r29 x2 x3 (w64 ((w64 (x3 - 1)) - (w64 (r3.1 - x2))))).bind fun r18 => (if (decide ((w64 (r18.1 - x2)) < (w64 (x3 - r18.1)))) = true then ((slices_pdqsortOrdered_uint32.f k r18.2.2 x2 r18.1 x4).bind fun r19 => (slices_pdqsortOrdered_uint32.l0 k r19 (w64 (r18.1 + 1)) x3 x4 (decide ((w64 (Int.tdiv (w64 (x3 - x2)) 8)) ≤ (w64 (r18.1 - x2)))) r18.2.1)) else ((slices_pdqsortOrdered_uint32.f k r18.2.2 (w64 (r18.1 + 1)) x3 x4).bind fun r20 => (slices_pdqsortOrdered_uint32.l0 k r20 x2 r18.1 x4 (decide ((w64 (Int.tdiv (w64 (x3 - x2)) 8)) ≤ (w64 (x3 - r18.1)))) r18.2.1)))))) else (if (decide (0 < x2)) = true then (if 0 ≤ (w64 (x2 - 1)) ∧ (w64 (x2 - 1)) < (r29.length : Int) then (if 0 ≤ (w64 ((w64 (x3 - 1)) - (w64 (r3.1 - x2)))) ∧ (w64 ((w64 (x3 - 1)) - (w64 (r3.1 - x2)))) < (r29.length : Int) then ((cmp_Less_uint32.f (gt r29 (w64 (x2 - 1))) (gt r29 (w64 ((w64 (x3 - 1)) - (w64 (r3.1 - x2)))))).bind fun r21 => (if (!r21) = true then ((slices_partitionEqualOrdered_uint32.f k r29 x2 x3 (w64 ((w64 (x3 - 1)) - (w64 (r3.1 - x2))))).bind fun r22 => (slices_pdqsortOrdered_uint32.l0 k r22.2 r22.1 x3 x4 x5 x6)) else ((slices_partitionOrdered_uint32.f k r29 x2 x3 (w64 ((w64 (x3 - 1)) - (w64 (r3.1 - x2))))).bind fun r23 => (if (decide ((w64 (r23.1 - x2)) < (w64 (x3 - r23.1)))) = true then ((slices_pdqsortOrdered_uint32.f k r23.2.2 x2 r23.1 x4).bind fun r24 => (slices_pdqsortOrdered_uint32.l0 k r24 (w64 (r23.1 + 1)) x3 x4 (decide ((w64 (Int.tdiv (w64 (x3 - x2)) 8)) ≤ (w64 (r23.1 - x2)))) r23.2.1)) else ((slices_pdqsortOrdered_uint32.f k r23.2.2 (w64 (r23.1 + 1)) x3 x4).bind fun r25 => (slices_pdqsortOrdered_uint32.l0 k r25 x2 r23.1 x4 (decide ((w64 (Int.tdiv (w64 (x3 - x2)) 8)) ≤ (w64 (x3 - r23.1)))) r23.2.1)))))) else none) else none) else ((slices_partitionOrdered_uint32.f k r29 x2 x3 (w64 ((w64 (x3 - 1)) - (w64 (r3.1 - x2))))).bind fun r26 => (if (decide ((w64 (r26.1 - x2)) < (w64 (x3 - r26.1)))) = true then ((slices_pdqsortOrdered_uint32.f k r26.2.2 x2 r26.1 x4).bind fun r27 => (slices_pdqsortOrdered_uint32.l0 k r27 (w64 (r26.1 + 1)) x3 x4 (decide ((w64 (Int.tdiv (w64 (x3 - x2)) 8)) ≤ (w64 (r26.1 - x2)))) r26.2.1)) else ((slices_pdqsortOrdered_uint32.f k r26.2.2 (w64 (r26.1 + 1)) x3 x4).bind fun r28 => (slices_pdqsortOrdered_uint32.l0 k r28 x2 r26.1 x4 (decide ((w64 (Int.tdiv (w64 (x3 - x2)) 8)) ≤ (w64 (x3 - r26.1)))) r26.2.1))))))) else (if x5 = true then (if x6 = true then (if (decide (r3.2 = 1)) = true then ((slices_partialInsertionSortOrdered_uint32.f k x1 x2 x3).bind fun r12 => (if r12.1 = true then (some r12.2) else (if (decide (0 < x2)) = true then (if 0 ≤ (w64 (x2 - 1)) ∧ (w64 (x2 - 1)) < (r12.2.length : Int) then (if 0 ≤ r3.1 ∧ r3.1 < (r12.2.length : Int) then ((cmp_Less_uint32.f (gt r12.2 (w64 (x2 - 1))) (gt r12.2 r3.1)).bind fun r4 => (if (!r4) = true then ((slices_partitionEqualOrdered_uint32.f k r12.2 x2 x3 r3.1).bind fun r5 => (slices_pdqsortOrdered_uint32.l0 k r5.2 r5.1 x3 x4 x5 x6)) else ((slices_partitionOrdered_uint32.f k r12.2 x2 x3 r3.1).bind fun r6 => (if (decide ((w64 (r6.1 - x2)) < (w64 (x3 - r6.1)))) = true then ((slices_pdqsortOrdered_uint32.f k r6.2.2 x2 r6.1 x4).bind fun r7 => (slices_pdqsortOrdered_uint32.l0 k r7 (w64 (r6.1 + 1)) x3 x4 (decide ((w64 (Int.tdiv (w64 (x3 - x2)) 8)) ≤ (w64 (r6.1 - x2)))) r6.2.1)) else ((slices_pdqsortOrdered_uint32.f k r6.2.2 (w64 (r6.1 + 1)) x3 x4).bind fun r8 => (slices_pdqsortOrdered_uint32.l0 k r8 x2 r6.1 x4 (decide ((w64 (Int.tdiv (w64 (x3 - x2)) 8)) ≤ (w64 (x3 - r6.1)))) r6.2.1)))))) else none) else none) else ((slices_partitionOrdered_uint32.f k r12.2 x2 x3 r3.1).bind fun r9 => (if (decide ((w64 (r9.1 - x2)) < (w64 (x3 - r9.1)))) = true then ((slices_pdqsortOrdered_uint32.f k r9.2.2 x2 r9.1 x4).bind fun r10 => (slices_pdqsortOrdered_uint32.l0 k r10 (w64 (r9.1 + 1)) x3 x4 (decide ((w64 (Int.tdiv (w64 (x3 - x2)) 8)) ≤ (w64 (r9.1 - x2)))) r9.2.1)) else ((slices_pdqsortOrdered_uint32.f k r9.2.2 (w64 (r9.1 + 1)) x3 x4).bind fun r11 => (slices_pdqsortOrdered_uint32.l0 k r11 x2 r9.1 x4 (decide ((w64 (Int.tdiv (w64 (x3 - x2)) 8)) ≤ (w64 (x3 - r9.1)))) r9.2.1))))))) else (if (decide (0 < x2)) = true then (if 0 ≤ (w64 (x2 - 1)) ∧ (w64 (x2 - 1)) < (x1.length : Int) then (if 0 ≤ r3.1 ∧ r3.1 < (x1.length : Int) then ((cmp_Less_uint32.f (gt x1 (w64 (x2 - 1))) (gt x1 r3.1)).bind fun r4 => (if (!r4) = true then ((slices_partitionEqualOrdered_uint32.f k x1 x2 x3 r3.1).bind fun r5 => (slices_pdqsortOrdered_uint32.l0 k r5.2 r5.1 x3 x4 x5 x6)) else ((slices_partitionOrdered_uint32.f k x1 x2 x3 r3.1).bind fun r6 => (if (decide ((w64 (r6.1 - x2)) < (w64 (x3 - r6.1)))) = true then ((slices_pdqsortOrdered_uint32.f k r6.2.2 x2 r6.1 x4).bind fun r7 => (slices_pdqsortOrdered_uint32.l0 k r7 (w64 (r6.1 + 1)) x3 x4 (decide ((w64 (Int.tdiv (w64 (x3 - x2)) 8)) ≤ (w64 (r6.1 - x2)))) r6.2.1)) else ((slices_pdqsortOrdered_uint32.f k r6.2.2 (w64 (r6.1 + 1)) x3 x4).bind fun r8 => (slices_pdqsortOrdered_uint32.l0 k r8 x2 r6.1 x4 (decide ((w64 (Int.tdiv (w64 (x3 - x2)) 8)) ≤ (w64 (x3 - r6.1)))) r6.2.1)))))) else none) else none) else ((slices_partitionOrdered_uint32.f k x1 x2 x3 r3.1).bind fun r9 => (if (decide ((w64 (r9.1 - x2)) < (w64 (x3 - r9.1)))) = true then ((slices_pdqsortOrdered_uint32.f k r9.2.2 x2 r9.1 x4).bind fun r10 => (slices_pdqsortOrdered_uint32.l0 k r10 (w64 (r9.1 + 1)) x3 x4 (decide ((w64 (Int.tdiv (w64 (x3 - x2)) 8)) ≤ (w64 (r9.1 - x2)))) r9.2.1)) else ((slices_pdqsortOrdered_uint32.f k r9.2.2 (w64 (r9.1 + 1)) x3 x4).bind fun r11 => (slices_pdqsortOrdered_uint32.l0 k r11 x2 r9.1 x4 (decide ((w64 (Int.tdiv (w64 (x3 - x2)) 8)) ≤ (w64 (x3 - r9.1)))) r9.2.1)))))) else (if (decide (0 < x2)) = true then (if 0 ≤ (w64 (x2 - 1)) ∧ (w64 (x2 - 1)) < (x1.length : Int) then (if 0 ≤ r3.1 ∧ r3.1 < (x1.length : Int) then ((cmp_Less_uint32.f (gt x1 (w64 (x2 - 1))) (gt x1 r3.1)).bind fun r13 => (if (!r13) = true then ((slices_partitionEqualOrdered_uint32.f k x1 x2 x3 r3.1).bind fun r14 => (slices_pdqsortOrdered_uint32.l0 k r14.2 r14.1 x3 x4 x5 x6)) else ((slices_partitionOrdered_uint32.f k x1 x2 x3 r3.1).bind fun r15 => (if (decide ((w64 (r15.1 - x2)) < (w64 (x3 - r15.1)))) = true then ((slices_pdqsortOrdered_uint32.f k r15.2.2 x2 r15.1 x4).bind fun r16 => (slices_pdqsortOrdered_uint32.l0 k r16 (w64 (r15.1 + 1)) x3 x4 (decide ((w64 (Int.tdiv (w64 (x3 - x2)) 8)) ≤ (w64 (r15.1 - x2)))) r15.2.1)) else ((slices_pdqsortOrdered_uint32.f k r15.2.2 (w64 (r15.1 + 1)) x3 x4).bind fun r17 => (slices_pdqsortOrdered_uint32.l0 k r17 x2 r15.1 x4 (decide ((w64 (Int.tdiv (w64 (x3 - x2)) 8)) ≤ (w64 (x3 - r15.1)))) r15.2.1)))))) else none) else none) else ((slices_partitionOrdered_uint32.f k x1 x2 x3 r3.1).bind fun r18 => (if (decide ((w64 (r18.1 - x2)) < (w64 (x3 - r18.1)))) = true then ((slices_pdqsortOrdered_uint32.f k r18.2.2 x2 r18.1 x4).bind fun r19 => (slices_pdqsortOrdered_uint32.l0 k r19 (w64 (r18.1 + 1)) x3 x4 (decide ((w64 (Int.tdiv (w64 (x3 - x2)) 8)) ≤ (w64 (r18.1 - x2)))) r18.2.1)) else ((slices_pdqsortOrdered_uint32.f k r18.2.2 (w64 (r18.1 + 1)) x3 x4).bind fun r20 => (slices_pdqsortOrdered_uint32.l0 k r20 x2 r18.1 x4 (decide ((w64 (Int.tdiv (w64 (x3 - x2)) 8)) ≤ (w64 (x3 - r18.1)))) r18.2.1)))))) else (if (decide (0 < x2)) = true then (if 0 ≤ (w64 (x2 - 1)) ∧ (w64 (x2 - 1)) < (x1.length : Int) then (if 0 ≤ r3.1 ∧ r3.1 < (x1.length : Int) then ((cmp_Less_uint32.f (gt x1 (w64 (x2 - 1))) (gt x1 r3.1)).bind fun r21 => (if (!r21) = true then ((slices_partitionEqualOrdered_uint32.f k x1 x2 x3 r3.1).bind fun r22 => (slices_pdqsortOrdered_uint32.l0 k r22.2 r22.1 x3 x4 x5 x6)) else ((slices_partitionOrdered_uint32.f k x1 x2 x3 r3.1).bind fun r23 => (if (decide ((w64 (r23.1 - x2)) < (w64 (x3 - r23.1)))) = true then ((slices_pdqsortOrdered_uint32.f k r23.2.2 x2 r23.1 x4).bind fun r24 => (slices_pdqsortOrdered_uint32.l0 k r24 (w64 (r23.1 + 1)) x3 x4 (decide ((w64 (Int.tdiv (w64 (x3 - x2)) 8)) ≤ (w64 (r23.1 - x2)))) r23.2.1)) else ((slices_pdqsortOrdered_uint32.f k r23.2.2 (w64 (r23.1 + 1)) x3 x4).bind fun r25 => (slices_pdqsortOrdered_uint32.l0 k r25 x2 r23.1 x4 (decide ((w64 (Int.tdiv (w64 (x3 - x2)) 8)) ≤ (w64 (x3 - r23.1)))) r23.2.1)))))) else none) else none) else ((slices_partitionOrdered_uint32.f k x1 x2 x3 r3.1).bind fun r26 => (if (decide ((w64 (r26.1 - x2)) < (w64 (x3 - r26.1)))) = true then ((slices_pdqsortOrdered_uint32.f k r26.2.2 x2 r26.1 x4).bind fun r27 => (slices_pdqsortOrdered_uint32.l0 k r27 (w64 (r26.1 + 1)) x3 x4 (decide ((w64 (Int.tdiv (w64 (x3 - x2)) 8)) ≤ (w64 (r26.1 - x2)))) r26.2.1)) else ((slices_pdqsortOrdered_uint32.f k r26.2.2 (w64 (r26.1 + 1)) x3 x4).bind fun r28 => (slices_pdqsortOrdered_uint32.l0 k r28 x2 r26.1 x4 (decide ((w64 (Int.tdiv (w64 (x3 - x2)) 8)) ≤ (w64 (x3 - r26.1)))) r26.2.1))))))))))
def slices_pdqsortOrdered_uint32.f : Nat → (List (Int)) → (Int) → (Int) → (Int) → Option (List (Int))
  | 0, _, _, _, _ => none
  | k + 1, a0, a1, a2, a3 => slices_pdqsortOrdered_uint32.l0 k a0 a1 a2 a3 true true
end
set_option maxRecDepth 20000 in
set_option maxHeartbeats 40000000 in
theorem slices_pdqsortOrdered_uint32.spec : ∀ {k : Nat} {a0 : List (Int)} {a1 : Int} {a2 : Int} {a3 : Int} {A1 : Option Addr} {c_1 : Nat} {r : List (Int)}, slices_pdqsortOrdered_uint32.f k a0 a1 a2 a3 = some r →
    Spec Try.prog 124 [.slice A1 a0.length c_1, .int .i64 a1, .int .i64 a2, .int .i64 a3] [ownC 46 (.int .u32) a0 (.slice A1 a0.length c_1)] [] (fun v l => v = .tuple #[] ∧ l = [ownC 46 (.int .u32) r (.slice A1 r.length c_1)] ∧ r.length = a0.length) := by
  intro k
  induction k using Nat.strongRecOn with
  | _ k ih =>
  intro a0 a1 a2 a3 A1 c_1 r H
  cases k with
  | zero => rw [slices_pdqsortOrdered_uint32.f] at H; cases H
  | succ kr =>
  refine Spec.enter Try.func124 rfl (by kernel_rfl) (by kernel_rfl) fun w0 F0 h0 => ?_
  rw [slices_pdqsortOrdered_uint32.f] at H
  refine J.seq (J.region ?_)
  refine RJ.run ttok 1 rfl ?_
  refine RJ.fin [(0, .slice A1 a0.length c_1), (1, .int .i64 a1), (2, .int .i64 a2), (3, .int .i64 a3), (8, .bool true)] rfl ?_
  refine J.seq (J.region ?_)
  refine RJ.run ttok 1 rfl ?_
  refine RJ.fin [(0, _), (1, _), (2, _), (3, _), (8, _), (9, .bool true)] rfl ?_
  refine J.block ?_
  have h59 := ((h0.only [0] rfl).rds [] rfl)
  refine J.loop (fun kk env w => ∃ (x1 : List (Int)) (x2 : Int) (x3 : Int) (x4 : Int) (x5 : Bool) (x6 : Bool), env = [(0, .slice A1 x1.length c_1), (1, .int .i64 x2), (2, .int .i64 x3), (3, .int .i64 x4), (8, .bool x5), (9, .bool x6)] ∧ St w0 F0 [ownC 46 (.int .u32) x1 (.slice A1 x1.length c_1)] [] w ∧ slices_pdqsortOrdered_uint32.l0 kk x1 x2 x3 x4 x5 x6 = some r ∧ kk ≤ kr ∧ x1.length = a0.length) (k := kr) ⟨a0, a1, a2, a3, true, true, rfl, h59, H, Nat.le_refl _, (rfl : a0.length = a0.length)⟩ ?_
  rintro k1 env w1 ⟨x1, x2, x3, x4, x5, x6, rfl, h1, H, hk1, e1⟩
  cases k1 with
  | zero => exact nomatch (show none = some r from H)
  | succ k1 =>
    rw [slices_pdqsortOrdered_uint32.l0] at H
    refine J.block (J.seq (J.region ?_))
    refine RJ.run ttok 4 rfl ?_
    refine RJ.fin [(0, _), (1, _), (2, _), (3, _), (8, _), (9, _), (10, .int .i64 (w64 (x3 - x2)))] rfl ?_
    refine J.seq (J.seq (J.region ?_))
    refine RJ.run ttok 2 rfl ?_
    refine RJ.fin [(0, _), (1, _), (2, _), (3, _), (8, _), (9, _), (10, _), (23, .bool (decide ((w64 (x3 - x2)) ≤ 12)))] rfl ?_
    refine J.cond rfl (fun c1 => ?_) (fun c1 => ?_)
    · replace H := ite_t c1 H
      refine J.seq (J.region ?_)
      refine RJ.run ttok 3 rfl ?_
      obtain ⟨r1, q1, H⟩ := bind_t H
      refine RJ.op rfl rfl (op_call [0] (slices_insertionSortOrdered_uint32.spec q1) rfl rfl rfl h1 rfl gnil) ?_
      rintro _ w2 ⟨_, ⟨rfl, rfl, q2⟩, h2⟩
      replace h2 : St w0 F0 [ownC 46 (.int .u32) r1 (.slice A1 r1.length c_1)] _ _ := h2
      have e2 : r1.length = a0.length := q2.trans e1
      refine RJ.fin [] rfl ?_
      refine J.ret ?_
      obtain rfl := Option.some.inj H
      exact ⟨_, _, _, (results_slots rfl), ⟨rfl, rfl, e2⟩, h2.only [0] rfl⟩
    replace H := ite_f c1 H
    refine J.skip ?_
    refine J.seq (J.seq (J.region ?_))
    refine RJ.run ttok 2 rfl ?_
    refine RJ.fin [(0, _), (1, _), (2, _), (3, _), (8, _), (9, _), (10, _), (29, .bool (decide (x4 = 0)))] rfl ?_
    refine J.cond rfl (fun c2 => ?_) (fun c2 => ?_)
    · replace H := ite_t c2 H
      refine J.seq (J.region ?_)
      refine RJ.run ttok 3 rfl ?_
      obtain ⟨r2, q3, H⟩ := bind_t H
      refine RJ.op rfl rfl (op_call [0] (slices_heapSortOrdered_uint32.spec q3) rfl rfl rfl h1 rfl gnil) ?_
      rintro _ w3 ⟨_, ⟨rfl, rfl, q4⟩, h3⟩
      replace h3 : St w0 F0 [ownC 46 (.int .u32) r2 (.slice A1 r2.length c_1)] _ _ := h3
      have e3 : r2.length = a0.length := q4.trans e1
      refine RJ.fin [] rfl ?_
      refine J.ret ?_
      obtain rfl := Option.some.inj H
      exact ⟨_, _, _, (results_slots rfl), ⟨rfl, rfl, e3⟩, h3.only [0] rfl⟩
    replace H := ite_f c2 H
    refine J.skip ?_
    refine J.seq (J.seq (J.region ?_))
    refine RJ.run ttok 2 rfl ?_
    refine RJ.fin [(0, _), (1, _), (2, _), (3, _), (8, _), (9, _), (10, _), (35, .bool (!x5))] rfl ?_
    refine J.midS (fun env w => ∃ (k2 : Nat) (x7 : List (Int)) (x8 : Int), env = [(0, .slice A1 x7.length c_1), (1, .int .i64 x2), (2, .int .i64 x3), (3, .int .i64 x8), (8, .bool x5), (9, .bool x6), (10, .int .i64 (w64 (x3 - x2)))] ∧ St w0 F0 [ownC 46 (.int .u32) x7 (.slice A1 x7.length c_1)] [] w ∧ ((slices_choosePivotOrdered_uint32.f x7 x2 x3).bind fun r3 => (if (decide (r3.2 = 2)) = true then ((slices_reverseRangeOrdered_uint32.f k2 x7 x2 x3).bind fun r29 => (if x5 = true then (if x6 = true then (if (decide (1 = 1)) = true then ((slices_partialInsertionSortOrdered_uint32.f k2 r29 x2 x3).bind fun r12 => (if r12.1 = true then (some r12.2) else (if (decide (0 < x2)) = true then (if 0 ≤ (w64 (x2 - 1)) ∧ (w64 (x2 - 1)) < (r12.2.length : Int) then (if 0 ≤ (w64 ((w64 (x3 - 1)) - (w64 (r3.1 - x2)))) ∧ (w64 ((w64 (x3 - 1)) - (w64 (r3.1 - x2)))) < (r12.2.length : Int) then ((cmp_Less_uint32.f (gt r12.2 (w64 (x2 - 1))) (gt r12.2 (w64 ((w64 (x3 - 1)) - (w64 (r3.1 - x2)))))).bind fun r4 => (if (!r4) = true then ((slices_partitionEqualOrdered_uint32.f k2 r12.2 x2 x3 (w64 ((w64 (x3 - 1)) - (w64 (r3.1 - x2))))).bind fun r5 => (slices_pdqsortOrdered_uint32.l0 k2 r5.2 r5.1 x3 x8 x5 x6)) else ((slices_partitionOrdered_uint32.f k2 r12.2 x2 x3 (w64 ((w64 (x3 - 1)) - (w64 (r3.1 - x2))))).bind fun r6 => (if (decide ((w64 (r6.1 - x2)) < (w64 (x3 - r6.1)))) = true then ((slices_pdqsortOrdered_uint32.f k2 r6.2.2 x2 r6.1 x8).bind fun r7 => (slices_pdqsortOrdered_uint32.l0 k2 r7 (w64 (r6.1 + 1)) x3 x8 (decide ((w64 (Int.tdiv (w64 (x3 - x2)) 8)) ≤ (w64 (r6.1 - x2)))) r6.2.1)) else ((slices_pdqsortOrdered_uint32.f k2 r6.2.2 (w64 (r6.1 + 1)) x3 x8).bind fun r8 => (slices_pdqsortOrdered_uint32.l0 k2 r8 x2 r6.1 x8 (decide ((w64 (Int.tdiv (w64 (x3 - x2)) 8)) ≤ (w64 (x3 - r6.1)))) r6.2.1)))))) else none) else none) else ((slices_partitionOrdered_uint32.f k2 r12.2 x2 x3 (w64 ((w64 (x3 - 1)) - (w64 (r3.1 - x2))))).bind fun r9 => (if (decide ((w64 (r9.1 - x2)) < (w64 (x3 - r9.1)))) = true then ((slices_pdqsortOrdered_uint32.f k2 r9.2.2 x2 r9.1 x8).bind fun r10 => (slices_pdqsortOrdered_uint32.l0 k2 r10 (w64 (r9.1 + 1)) x3 x8 (decide ((w64 (Int.tdiv (w64 (x3 - x2)) 8)) ≤ (w64 (r9.1 - x2)))) r9.2.1)) else ((slices_pdqsortOrdered_uint32.f k2 r9.2.2 (w64 (r9.1 + 1)) x3 x8).bind fun r11 => (slices_pdqsortOrdered_uint32.l0 k2 r11 x2 r9.1 x8 (decide ((w64 (Int.tdiv (w64 (x3 - x2)) 8)) ≤ (w64 (x3 - r9.1)))) r9.2.1))))))) else (if (decide (0 < x2)) = true then (if 0 ≤ (w64 (x2 - 1)) ∧ (w64 (x2 - 1)) < (r29.length : Int) then (if 0 ≤ (w64 ((w64 (x3 - 1)) - (w64 (r3.1 - x2)))) ∧ (w64 ((w64 (x3 - 1)) - (w64 (r3.1 - x2)))) < (r29.length : Int) then ((cmp_Less_uint32.f (gt r29 (w64 (x2 - 1))) (gt r29 (w64 ((w64 (x3 - 1)) - (w64 (r3.1 - x2)))))).bind fun r4 => (if (!r4) = true then ((slices_partitionEqualOrdered_uint32.f k2 r29 x2 x3 (w64 ((w64 (x3 - 1)) - (w64 (r3.1 - x2))))).bind fun r5 => (slices_pdqsortOrdered_uint32.l0 k2 r5.2 r5.1 x3 x8 x5 x6)) else ((slices_partitionOrdered_uint32.f k2 r29 x2 x3 (w64 ((w64 (x3 - 1)) - (w64 (r3.1 - x2))))).bind fun r6 => (if (decide ((w64 (r6.1 - x2)) < (w64 (x3 - r6.1)))) = true then ((slices_pdqsortOrdered_uint32.f k2 r6.2.2 x2 r6.1 x8).bind fun r7 => (slices_pdqsortOrdered_uint32.l0 k2 r7 (w64 (r6.1 + 1)) x3 x8 (decide ((w64 (Int.tdiv (w64 (x3 - x2)) 8)) ≤ (w64 (r6.1 - x2)))) r6.2.1)) else ((slices_pdqsortOrdered_uint32.f k2 r6.2.2 (w64 (r6.1 + 1)) x3 x8).bind fun r8 => (slices_pdqsortOrdered_uint32.l0 k2 r8 x2 r6.1 x8 (decide ((w64 (Int.tdiv (w64 (x3 - x2)) 8)) ≤ (w64 (x3 - r6.1)))) r6.2.1)))))) else none) else none) else ((slices_partitionOrdered_uint32.f k2 r29 x2 x3 (w64 ((w64 (x3 - 1)) - (w64 (r3.1 - x2))))).bind fun r9 => (if (decide ((w64 (r9.1 - x2)) < (w64 (x3 - r9.1)))) = true then ((slices_pdqsortOrdered_uint32.f k2 r9.2.2 x2 r9.1 x8).bind fun r10 => (slices_pdqsortOrdered_uint32.l0 k2 r10 (w64 (r9.1 + 1)) x3 x8 (decide ((w64 (Int.tdiv (w64 (x3 - x2)) 8)) ≤ (w64 (r9.1 - x2)))) r9.2.1)) else ((slices_pdqsortOrdered_uint32.f k2 r9.2.2 (w64 (r9.1 + 1)) x3 x8).bind fun r11 => (slices_pdqsortOrdered_uint32.l0 k2 r11 x2 r9.1 x8 (decide ((w64 (Int.tdiv (w64 (x3 - x2)) 8)) ≤ (w64 (x3 - r9.1)))) r9.2.1)))))) else (if (decide (0 < x2)) = true then (if 0 ≤ (w64 (x2 - 1)) ∧ (w64 (x2 - 1)) < (r29.length : Int) then (if 0 ≤ (w64 ((w64 (x3 - 1)) - (w64 (r3.1 - x2)))) ∧ (w64 ((w64 (x3 - 1)) - (w64 (r3.1 - x2)))) < (r29.length : Int) then ((cmp_Less_uint32.f (gt r29 (w64 (x2 - 1))) (gt r29 (w64 ((w64 (x3 - 1)) - (w64 (r3.1 - x2)))))).bind fun r13 => (if (!r13) = true then ((slices_partitionEqualOrdered_uint32.f k2 r29 x2 x3 (w64 ((w64 (x3 - 1)) - (w64 (r3.1 - x2))))).bind fun r14 => (slices_pdqsortOrdered_uint32.l0 k2 r14.2 r14.1 x3 x8 x5 x6)) else ((slices_partitionOrdered_uint32.f k2 r29 x2 x3 (w64 ((w64 (x3 - 1)) - (w64 (r3.1 - x2))))).bind fun r15 => (if (decide ((w64 (r15.1 - x2)) < (w64 (x3 - r15.1)))) = true then ((slices_pdqsortOrdered_uint32.f k2 r15.2.2 x2 r15.1 x8).bind fun r16 => (slices_pdqsortOrdered_uint32.l0 k2 r16 (w64 (r15.1 + 1)) x3 x8 (decide ((w64 (Int.tdiv (w64 (x3 - x2)) 8)) ≤ (w64 (r15.1 - x2)))) r15.2.1)) else ((slices_pdqsortOrdered_uint32.f k2 r15.2.2 (w64 (r15.1 + 1)) x3 x8).bind fun r17 => (slices_pdqsortOrdered_uint32.l0 k2 r17 x2 r15.1 x8 (decide ((w64 (Int.tdiv (w64 (x3 - x2)) 8)) ≤ (w64 (x3 - r15.1)))) r15.2.1)))))) else none) else none) else ((slices_partitionOrdered_uint32.f k2 r29 x2 x3 (w64 ((w64 (x3 - 1)) - (w64 (r3.1 - x2))))).bind fun r18 => (if (decide ((w64 (r18.1 - x2)) < (w64 (x3 - r18.1)))) = true then ((slices_pdqsortOrdered_uint32.f k2 r18.2.2 x2 r18.1 x8).bind fun r19 => (slices_pdqsortOrdered_uint32.l0 k2 r19 (w64 (r18.1 + 1)) x3 x8 (decide ((w64 (Int.tdiv (w64 (x3 - x2)) 8)) ≤ (w64 (r18.1 - x2)))) r18.2.1)) else ((slices_pdqsortOrdered_uint32.f k2 r18.2.2 (w64 (r18.1 + 1)) x3 x8).bind fun r20 => (slices_pdqsortOrdered_uint32.l0 k2 r20 x2 r18.1 x8 (decide ((w64 (Int.tdiv (w64 (x3 - x2)) 8)) ≤ (w64 (x3 - r18.1)))) r18.2.1)))))) else (if (decide (0 < x2)) = true then (if 0 ≤ (w64 (x2 - 1)) ∧ (w64 (x2 - 1)) < (r29.length : Int) then (if 0 ≤ (w64 ((w64 (x3 - 1)) - (w64 (r3.1 - x2)))) ∧ (w64 ((w64 (x3 - 1)) - (w64 (r3.1 - x2)))) < (r29.length : Int) then ((cmp_Less_uint32.f (gt r29 (w64 (x2 - 1))) (gt r29 (w64 ((w64 (x3 - 1)) - (w64 (r3.1 - x2)))))).bind fun r21 => (if (!r21) = true then ((slices_partitionEqualOrdered_uint32.f k2 r29 x2 x3 (w64 ((w64 (x3 - 1)) - (w64 (r3.1 - x2))))).bind fun r22 => (slices_pdqsortOrdered_uint32.l0 k2 r22.2 r22.1 x3 x8 x5 x6)) else ((slices_partitionOrdered_uint32.f k2 r29 x2 x3 (w64 ((w64 (x3 - 1)) - (w64 (r3.1 - x2))))).bind fun r23 => (if (decide ((w64 (r23.1 - x2)) < (w64 (x3 - r23.1)))) = true then ((slices_pdqsortOrdered_uint32.f k2 r23.2.2 x2 r23.1 x8).bind fun r24 => (slices_pdqsortOrdered_uint32.l0 k2 r24 (w64 (r23.1 + 1)) x3 x8 (decide ((w64 (Int.tdiv (w64 (x3 - x2)) 8)) ≤ (w64 (r23.1 - x2)))) r23.2.1)) else ((slices_pdqsortOrdered_uint32.f k2 r23.2.2 (w64 (r23.1 + 1)) x3 x8).bind fun r25 => (slices_pdqsortOrdered_uint32.l0 k2 r25 x2 r23.1 x8 (decide ((w64 (Int.tdiv (w64 (x3 - x2)) 8)) ≤ (w64 (x3 - r23.1)))) r23.2.1)))))) else none) else none) else ((slices_partitionOrdered_uint32.f k2 r29 x2 x3 (w64 ((w64 (x3 - 1)) - (w64 (r3.1 - x2))))).bind fun r26 => (if (decide ((w64 (r26.1 - x2)) < (w64 (x3 - r26.1)))) = true then ((slices_pdqsortOrdered_uint32.f k2 r26.2.2 x2 r26.1 x8).bind fun r27 => (slices_pdqsortOrdered_uint32.l0 k2 r27 (w64 (r26.1 + 1)) x3 x8 (decide ((w64 (Int.tdiv (w64 (x3 - x2)) 8)) ≤ (w64 (r26.1 - x2)))) r26.2.1)) else ((slices_pdqsortOrdered_uint32.f k2 r26.2.2 (w64 (r26.1 + 1)) x3 x8).bind fun r28 => (slices_pdqsortOrdered_uint32.l0 k2 r28 x2 r26.1 x8 (decide ((w64 (Int.tdiv (w64 (x3 - x2)) 8)) ≤ (w64 (x3 - r26.1)))) r26.2.1))))))) else (if x5 = true then (if x6 = true then (if (decide (r3.2 = 1)) = true then ((slices_partialInsertionSortOrdered_uint32.f k2 x7 x2 x3).bind fun r12 => (if r12.1 = true then (some r12.2) else (if (decide (0 < x2)) = true then (if 0 ≤ (w64 (x2 - 1)) ∧ (w64 (x2 - 1)) < (r12.2.length : Int) then (if 0 ≤ r3.1 ∧ r3.1 < (r12.2.length : Int) then ((cmp_Less_uint32.f (gt r12.2 (w64 (x2 - 1))) (gt r12.2 r3.1)).bind fun r4 => (if (!r4) = true then ((slices_partitionEqualOrdered_uint32.f k2 r12.2 x2 x3 r3.1).bind fun r5 => (slices_pdqsortOrdered_uint32.l0 k2 r5.2 r5.1 x3 x8 x5 x6)) else ((slices_partitionOrdered_uint32.f k2 r12.2 x2 x3 r3.1).bind fun r6 => (if (decide ((w64 (r6.1 - x2)) < (w64 (x3 - r6.1)))) = true then ((slices_pdqsortOrdered_uint32.f k2 r6.2.2 x2 r6.1 x8).bind fun r7 => (slices_pdqsortOrdered_uint32.l0 k2 r7 (w64 (r6.1 + 1)) x3 x8 (decide ((w64 (Int.tdiv (w64 (x3 - x2)) 8)) ≤ (w64 (r6.1 - x2)))) r6.2.1)) else ((slices_pdqsortOrdered_uint32.f k2 r6.2.2 (w64 (r6.1 + 1)) x3 x8).bind fun r8 => (slices_pdqsortOrdered_uint32.l0 k2 r8 x2 r6.1 x8 (decide ((w64 (Int.tdiv (w64 (x3 - x2)) 8)) ≤ (w64 (x3 - r6.1)))) r6.2.1)))))) else none) else none) else ((slices_partitionOrdered_uint32.f k2 r12.2 x2 x3 r3.1).bind fun r9 => (if (decide ((w64 (r9.1 - x2)) < (w64 (x3 - r9.1)))) = true then ((slices_pdqsortOrdered_uint32.f k2 r9.2.2 x2 r9.1 x8).bind fun r10 => (slices_pdqsortOrdered_uint32.l0 k2 r10 (w64 (r9.1 + 1)) x3 x8 (decide ((w64 (Int.tdiv (w64 (x3 - x2)) 8)) ≤ (w64 (r9.1 - x2)))) r9.2.1)) else ((slices_pdqsortOrdered_uint32.f k2 r9.2.2 (w64 (r9.1 + 1)) x3 x8).bind fun r11 => (slices_pdqsortOrdered_uint32.l0 k2 r11 x2 r9.1 x8 (decide ((w64 (Int.tdiv (w64 (x3 - x2)) 8)) ≤ (w64 (x3 - r9.1)))) r9.2.1))))))) else (if (decide (0 < x2)) = true then (if 0 ≤ (w64 (x2 - 1)) ∧ (w64 (x2 - 1)) < (x7.length : Int) then (if 0 ≤ r3.1 ∧ r3.1 < (x7.length : Int) then ((cmp_Less_uint32.f (gt x7 (w64 (x2 - 1))) (gt x7 r3.1)).bind fun r4 => (if (!r4) = true then ((slices_partitionEqualOrdered_uint32.f k2 x7 x2 x3 r3.1).bind fun r5 => (slices_pdqsortOrdered_uint32.l0 k2 r5.2 r5.1 x3 x8 x5 x6)) else ((slices_partitionOrdered_uint32.f k2 x7 x2 x3 r3.1).bind fun r6 => (if (decide ((w64 (r6.1 - x2)) < (w64 (x3 - r6.1)))) = true then ((slices_pdqsortOrdered_uint32.f k2 r6.2.2 x2 r6.1 x8).bind fun r7 => (slices_pdqsortOrdered_uint32.l0 k2 r7 (w64 (r6.1 + 1)) x3 x8 (decide ((w64 (Int.tdiv (w64 (x3 - x2)) 8)) ≤ (w64 (r6.1 - x2)))) r6.2.1)) else ((slices_pdqsortOrdered_uint32.f k2 r6.2.2 (w64 (r6.1 + 1)) x3 x8).bind fun r8 => (slices_pdqsortOrdered_uint32.l0 k2 r8 x2 r6.1 x8 (decide ((w64 (Int.tdiv (w64 (x3 - x2)) 8)) ≤ (w64 (x3 - r6.1)))) r6.2.1)))))) else none) else none) else ((slices_partitionOrdered_uint32.f k2 x7 x2 x3 r3.1).bind fun r9 => (if (decide ((w64 (r9.1 - x2)) < (w64 (x3 - r9.1)))) = true then ((slices_pdqsortOrdered_uint32.f k2 r9.2.2 x2 r9.1 x8).bind fun r10 => (slices_pdqsortOrdered_uint32.l0 k2 r10 (w64 (r9.1 + 1)) x3 x8 (decide ((w64 (Int.tdiv (w64 (x3 - x2)) 8)) ≤ (w64 (r9.1 - x2)))) r9.2.1)) else ((slices_pdqsortOrdered_uint32.f k2 r9.2.2 (w64 (r9.1 + 1)) x3 x8).bind fun r11 => (slices_pdqsortOrdered_uint32.l0 k2 r11 x2 r9.1 x8 (decide ((w64 (Int.tdiv (w64 (x3 - x2)) 8)) ≤ (w64 (x3 - r9.1)))) r9.2.1)))))) else (if (decide (0 < x2)) = true then (if 0 ≤ (w64 (x2 - 1)) ∧ (w64 (x2 - 1)) < (x7.length : Int) then (if 0 ≤ r3.1 ∧ r3.1 < (x7.length : Int) then ((cmp_Less_uint32.f (gt x7 (w64 (x2 - 1))) (gt x7 r3.1)).bind fun r13 => (if (!r13) = true then ((slices_partitionEqualOrdered_uint32.f k2 x7 x2 x3 r3.1).bind fun r14 => (slices_pdqsortOrdered_uint32.l0 k2 r14.2 r14.1 x3 x8 x5 x6)) else ((slices_partitionOrdered_uint32.f k2 x7 x2 x3 r3.1).bind fun r15 => (if (decide ((w64 (r15.1 - x2)) < (w64 (x3 - r15.1)))) = true then ((slices_pdqsortOrdered_uint32.f k2 r15.2.2 x2 r15.1 x8).bind fun r16 => (slices_pdqsortOrdered_uint32.l0 k2 r16 (w64 (r15.1 + 1)) x3 x8 (decide ((w64 (Int.tdiv (w64 (x3 - x2)) 8)) ≤ (w64 (r15.1 - x2)))) r15.2.1)) else ((slices_pdqsortOrdered_uint32.f k2 r15.2.2 (w64 (r15.1 + 1)) x3 x8).bind fun r17 => (slices_pdqsortOrdered_uint32.l0 k2 r17 x2 r15.1 x8 (decide ((w64 (Int.tdiv (w64 (x3 - x2)) 8)) ≤ (w64 (x3 - r15.1)))) r15.2.1)))))) else none) else none) else ((slices_partitionOrdered_uint32.f k2 x7 x2 x3 r3.1).bind fun r18 => (if (decide ((w64 (r18.1 - x2)) < (w64 (x3 - r18.1)))) = true then ((slices_pdqsortOrdered_uint32.f k2 r18.2.2 x2 r18.1 x8).bind fun r19 => (slices_pdqsortOrdered_uint32.l0 k2 r19 (w64 (r18.1 + 1)) x3 x8 (decide ((w64 (Int.tdiv (w64 (x3 - x2)) 8)) ≤ (w64 (r18.1 - x2)))) r18.2.1)) else ((slices_pdqsortOrdered_uint32.f k2 r18.2.2 (w64 (r18.1 + 1)) x3 x8).bind fun r20 => (slices_pdqsortOrdered_uint32.l0 k2 r20 x2 r18.1 x8 (decide ((w64 (Int.tdiv (w64 (x3 - x2)) 8)) ≤ (w64 (x3 - r18.1)))) r18.2.1)))))) else (if (decide (0 < x2)) = true then (if 0 ≤ (w64 (x2 - 1)) ∧ (w64 (x2 - 1)) < (x7.length : Int) then (if 0 ≤ r3.1 ∧ r3.1 < (x7.length : Int) then ((cmp_Less_uint32.f (gt x7 (w64 (x2 - 1))) (gt x7 r3.1)).bind fun r21 => (if (!r21) = true then ((slices_partitionEqualOrdered_uint32.f k2 x7 x2 x3 r3.1).bind fun r22 => (slices_pdqsortOrdered_uint32.l0 k2 r22.2 r22.1 x3 x8 x5 x6)) else ((slices_partitionOrdered_uint32.f k2 x7 x2 x3 r3.1).bind fun r23 => (if (decide ((w64 (r23.1 - x2)) < (w64 (x3 - r23.1)))) = true then ((slices_pdqsortOrdered_uint32.f k2 r23.2.2 x2 r23.1 x8).bind fun r24 => (slices_pdqsortOrdered_uint32.l0 k2 r24 (w64 (r23.1 + 1)) x3 x8 (decide ((w64 (Int.tdiv (w64 (x3 - x2)) 8)) ≤ (w64 (r23.1 - x2)))) r23.2.1)) else ((slices_pdqsortOrdered_uint32.f k2 r23.2.2 (w64 (r23.1 + 1)) x3 x8).bind fun r25 => (slices_pdqsortOrdered_uint32.l0 k2 r25 x2 r23.1 x8 (decide ((w64 (Int.tdiv (w64 (x3 - x2)) 8)) ≤ (w64 (x3 - r23.1)))) r23.2.1)))))) else none) else none) else ((slices_partitionOrdered_uint32.f k2 x7 x2 x3 r3.1).bind fun r26 => (if (decide ((w64 (r26.1 - x2)) < (w64 (x3 - r26.1)))) = true then ((slices_pdqsortOrdered_uint32.f k2 r26.2.2 x2 r26.1 x8).bind fun r27 => (slices_pdqsortOrdered_uint32.l0 k2 r27 (w64 (r26.1 + 1)) x3 x8 (decide ((w64 (Int.tdiv (w64 (x3 - x2)) 8)) ≤ (w64 (r26.1 - x2)))) r26.2.1)) else ((slices_pdqsortOrdered_uint32.f k2 r26.2.2 (w64 (r26.1 + 1)) x3 x8).bind fun r28 => (slices_pdqsortOrdered_uint32.l0 k2 r28 x2 r26.1 x8 (decide ((w64 (Int.tdiv (w64 (x3 - x2)) 8)) ≤ (w64 (x3 - r26.1)))) r26.2.1)))))))) = some r ∧ k2 ≤ k1 ∧ x7.length = a0.length) ?_ ?_
    · refine J.cond rfl (fun c20 => ?_) (fun c20 => ?_)
      · replace H := ite_t c20 H
        refine J.seq (J.region ?_)
        refine RJ.run ttok 3 rfl ?_
        obtain ⟨r30, q55, H⟩ := bind_t H
        refine RJ.op rfl rfl (op_call [0] (slices_breakPatternsOrdered_uint32.spec q55) rfl rfl rfl h1 rfl gnil) ?_
        rintro _ w37 ⟨_, ⟨rfl, rfl, q56⟩, h56⟩
        replace h56 : St w0 F0 [ownC 46 (.int .u32) r30 (.slice A1 r30.length c_1)] _ _ := h56
        have e33 : r30.length = a0.length := q56.trans e1
        refine RJ.fin [(0, _), (1, _), (2, _), (3, _), (8, _), (9, _), (10, _)] rfl ?_
        refine J.envEq (env' := [(0, .slice A1 r30.length c_1), (1, .int .i64 x2), (2, .int .i64 x3), (3, .int .i64 x4), (8, .bool x5), (9, .bool x6), (10, .int .i64 (w64 (x3 - x2)))]) (by simp only [q56]) ?_
        refine J.region ?_
        refine RJ.run ttok 3 rfl ?_
        refine RJ.fin [(0, _), (1, _), (2, _), (3, .int .i64 (w64 (x4 - 1))), (8, _), (9, _), (10, _)] rfl ?_
        have h57 := ((h56.only [0] rfl).rds [] rfl)
        exact ⟨k1, r30, (w64 (x4 - 1)), rfl, h57, H, Nat.le_refl _, e33⟩
      replace H := ite_f c20 H
      refine J.narrow [(0, _), (1, _), (2, _), (3, _), (8, _), (9, _), (10, _)] rfl ?_
      refine J.skip ?_
      have h58 := ((h1.only [0] rfl).rds [] rfl)
      exact ⟨k1, x1, x4, rfl, h58, H, Nat.le_refl _, e1⟩
    rintro env w5 ⟨k2, x7, x8, rfl, h4, H, hk2, e4⟩
    refine J.seq (J.region ?_)
    refine RJ.run ttok 3 rfl ?_
    obtain ⟨r3, q5, H⟩ := bind_t H
    refine RJ.op rfl rfl (op_call [] (slices_choosePivotOrdered_uint32.spec q5) rfl rfl rfl h4 rfl (gcons (Gives.of 0 rfl own_rd) gnil)) ?_
    rintro _ w6 ⟨_, ⟨rfl, rfl⟩, h5⟩
    replace h5 : St w0 F0 [_] _ _ := h5
    refine RJ.run ttok 5 rfl ?_
    refine RJ.fin [(0, _), (1, _), (2, _), (3, _), (8, _), (9, _), (10, _), (11, .int .i64 r3.1), (12, .int .i64 r3.2)] rfl ?_
    refine J.seq (J.seq (J.region ?_))
    refine RJ.run ttok 2 rfl ?_
    refine RJ.fin [(0, _), (1, _), (2, _), (3, _), (8, _), (9, _), (10, _), (11, _), (12, _), (50, .bool (decide (r3.2 = 2)))] rfl ?_
    refine J.midS (fun env w => ∃ (k3 : Nat) (x9 : List (Int)) (x10 : Int) (x11 : Int), env = [(0, .slice A1 x9.length c_1), (1, .int .i64 x2), (2, .int .i64 x3), (3, .int .i64 x8), (8, .bool x5), (9, .bool x6), (10, .int .i64 (w64 (x3 - x2))), (11, .int .i64 x10), (12, .int .i64 x11)] ∧ St w0 F0 [ownC 46 (.int .u32) x9 (.slice A1 x9.length c_1)] [] w ∧ (if x5 = true then (if x6 = true then (if (decide (x11 = 1)) = true then ((slices_partialInsertionSortOrdered_uint32.f k3 x9 x2 x3).bind fun r12 => (if r12.1 = true then (some r12.2) else (if (decide (0 < x2)) = true then (if 0 ≤ (w64 (x2 - 1)) ∧ (w64 (x2 - 1)) < (r12.2.length : Int) then (if 0 ≤ x10 ∧ x10 < (r12.2.length : Int) then ((cmp_Less_uint32.f (gt r12.2 (w64 (x2 - 1))) (gt r12.2 x10)).bind fun r4 => (if (!r4) = true then ((slices_partitionEqualOrdered_uint32.f k3 r12.2 x2 x3 x10).bind fun r5 => (slices_pdqsortOrdered_uint32.l0 k3 r5.2 r5.1 x3 x8 x5 x6)) else ((slices_partitionOrdered_uint32.f k3 r12.2 x2 x3 x10).bind fun r6 => (if (decide ((w64 (r6.1 - x2)) < (w64 (x3 - r6.1)))) = true then ((slices_pdqsortOrdered_uint32.f k3 r6.2.2 x2 r6.1 x8).bind fun r7 => (slices_pdqsortOrdered_uint32.l0 k3 r7 (w64 (r6.1 + 1)) x3 x8 (decide ((w64 (Int.tdiv (w64 (x3 - x2)) 8)) ≤ (w64 (r6.1 - x2)))) r6.2.1)) else ((slices_pdqsortOrdered_uint32.f k3 r6.2.2 (w64 (r6.1 + 1)) x3 x8).bind fun r8 => (slices_pdqsortOrdered_uint32.l0 k3 r8 x2 r6.1 x8 (decide ((w64 (Int.tdiv (w64 (x3 - x2)) 8)) ≤ (w64 (x3 - r6.1)))) r6.2.1)))))) else none) else none) else ((slices_partitionOrdered_uint32.f k3 r12.2 x2 x3 x10).bind fun r9 => (if (decide ((w64 (r9.1 - x2)) < (w64 (x3 - r9.1)))) = true then ((slices_pdqsortOrdered_uint32.f k3 r9.2.2 x2 r9.1 x8).bind fun r10 => (slices_pdqsortOrdered_uint32.l0 k3 r10 (w64 (r9.1 + 1)) x3 x8 (decide ((w64 (Int.tdiv (w64 (x3 - x2)) 8)) ≤ (w64 (r9.1 - x2)))) r9.2.1)) else ((slices_pdqsortOrdered_uint32.f k3 r9.2.2 (w64 (r9.1 + 1)) x3 x8).bind fun r11 => (slices_pdqsortOrdered_uint32.l0 k3 r11 x2 r9.1 x8 (decide ((w64 (Int.tdiv (w64 (x3 - x2)) 8)) ≤ (w64 (x3 - r9.1)))) r9.2.1))))))) else (if (decide (0 < x2)) = true then (if 0 ≤ (w64 (x2 - 1)) ∧ (w64 (x2 - 1)) < (x9.length : Int) then (if 0 ≤ x10 ∧ x10 < (x9.length : Int) then ((cmp_Less_uint32.f (gt x9 (w64 (x2 - 1))) (gt x9 x10)).bind fun r4 => (if (!r4) = true then ((slices_partitionEqualOrdered_uint32.f k3 x9 x2 x3 x10).bind fun r5 => (slices_pdqsortOrdered_uint32.l0 k3 r5.2 r5.1 x3 x8 x5 x6)) else ((slices_partitionOrdered_uint32.f k3 x9 x2 x3 x10).bind fun r6 => (if (decide ((w64 (r6.1 - x2)) < (w64 (x3 - r6.1)))) = true then ((slices_pdqsortOrdered_uint32.f k3 r6.2.2 x2 r6.1 x8).bind fun r7 => (slices_pdqsortOrdered_uint32.l0 k3 r7 (w64 (r6.1 + 1)) x3 x8 (decide ((w64 (Int.tdiv (w64 (x3 - x2)) 8)) ≤ (w64 (r6.1 - x2)))) r6.2.1)) else ((slices_pdqsortOrdered_uint32.f k3 r6.2.2 (w64 (r6.1 + 1)) x3 x8).bind fun r8 => (slices_pdqsortOrdered_uint32.l0 k3 r8 x2 r6.1 x8 (decide ((w64 (Int.tdiv (w64 (x3 - x2)) 8)) ≤ (w64 (x3 - r6.1)))) r6.2.1)))))) else none) else none) else ((slices_partitionOrdered_uint32.f k3 x9 x2 x3 x10).bind fun r9 => (if (decide ((w64 (r9.1 - x2)) < (w64 (x3 - r9.1)))) = true then ((slices_pdqsortOrdered_uint32.f k3 r9.2.2 x2 r9.1 x8).bind fun r10 => (slices_pdqsortOrdered_uint32.l0 k3 r10 (w64 (r9.1 + 1)) x3 x8 (decide ((w64 (Int.tdiv (w64 (x3 - x2)) 8)) ≤ (w64 (r9.1 - x2)))) r9.2.1)) else ((slices_pdqsortOrdered_uint32.f k3 r9.2.2 (w64 (r9.1 + 1)) x3 x8).bind fun r11 => (slices_pdqsortOrdered_uint32.l0 k3 r11 x2 r9.1 x8 (decide ((w64 (Int.tdiv (w64 (x3 - x2)) 8)) ≤ (w64 (x3 - r9.1)))) r9.2.1)))))) else (if (decide (0 < x2)) = true then (if 0 ≤ (w64 (x2 - 1)) ∧ (w64 (x2 - 1)) < (x9.length : Int) then (if 0 ≤ x10 ∧ x10 < (x9.length : Int) then ((cmp_Less_uint32.f (gt x9 (w64 (x2 - 1))) (gt x9 x10)).bind fun r13 => (if (!r13) = true then ((slices_partitionEqualOrdered_uint32.f k3 x9 x2 x3 x10).bind fun r14 => (slices_pdqsortOrdered_uint32.l0 k3 r14.2 r14.1 x3 x8 x5 x6)) else ((slices_partitionOrdered_uint32.f k3 x9 x2 x3 x10).bind fun r15 => (if (decide ((w64 (r15.1 - x2)) < (w64 (x3 - r15.1)))) = true then ((slices_pdqsortOrdered_uint32.f k3 r15.2.2 x2 r15.1 x8).bind fun r16 => (slices_pdqsortOrdered_uint32.l0 k3 r16 (w64 (r15.1 + 1)) x3 x8 (decide ((w64 (Int.tdiv (w64 (x3 - x2)) 8)) ≤ (w64 (r15.1 - x2)))) r15.2.1)) else ((slices_pdqsortOrdered_uint32.f k3 r15.2.2 (w64 (r15.1 + 1)) x3 x8).bind fun r17 => (slices_pdqsortOrdered_uint32.l0 k3 r17 x2 r15.1 x8 (decide ((w64 (Int.tdiv (w64 (x3 - x2)) 8)) ≤ (w64 (x3 - r15.1)))) r15.2.1)))))) else none) else none) else ((slices_partitionOrdered_uint32.f k3 x9 x2 x3 x10).bind fun r18 => (if (decide ((w64 (r18.1 - x2)) < (w64 (x3 - r18.1)))) = true then ((slices_pdqsortOrdered_uint32.f k3 r18.2.2 x2 r18.1 x8).bind fun r19 => (slices_pdqsortOrdered_uint32.l0 k3 r19 (w64 (r18.1 + 1)) x3 x8 (decide ((w64 (Int.tdiv (w64 (x3 - x2)) 8)) ≤ (w64 (r18.1 - x2)))) r18.2.1)) else ((slices_pdqsortOrdered_uint32.f k3 r18.2.2 (w64 (r18.1 + 1)) x3 x8).bind fun r20 => (slices_pdqsortOrdered_uint32.l0 k3 r20 x2 r18.1 x8 (decide ((w64 (Int.tdiv (w64 (x3 - x2)) 8)) ≤ (w64 (x3 - r18.1)))) r18.2.1)))))) else (if (decide (0 < x2)) = true then (if 0 ≤ (w64 (x2 - 1)) ∧ (w64 (x2 - 1)) < (x9.length : Int) then (if 0 ≤ x10 ∧ x10 < (x9.length : Int) then ((cmp_Less_uint32.f (gt x9 (w64 (x2 - 1))) (gt x9 x10)).bind fun r21 => (if (!r21) = true then ((slices_partitionEqualOrdered_uint32.f k3 x9 x2 x3 x10).bind fun r22 => (slices_pdqsortOrdered_uint32.l0 k3 r22.2 r22.1 x3 x8 x5 x6)) else ((slices_partitionOrdered_uint32.f k3 x9 x2 x3 x10).bind fun r23 => (if (decide ((w64 (r23.1 - x2)) < (w64 (x3 - r23.1)))) = true then ((slices_pdqsortOrdered_uint32.f k3 r23.2.2 x2 r23.1 x8).bind fun r24 => (slices_pdqsortOrdered_uint32.l0 k3 r24 (w64 (r23.1 + 1)) x3 x8 (decide ((w64 (Int.tdiv (w64 (x3 - x2)) 8)) ≤ (w64 (r23.1 - x2)))) r23.2.1)) else ((slices_pdqsortOrdered_uint32.f k3 r23.2.2 (w64 (r23.1 + 1)) x3 x8).bind fun r25 => (slices_pdqsortOrdered_uint32.l0 k3 r25 x2 r23.1 x8 (decide ((w64 (Int.tdiv (w64 (x3 - x2)) 8)) ≤ (w64 (x3 - r23.1)))) r23.2.1)))))) else none) else none) else ((slices_partitionOrdered_uint32.f k3 x9 x2 x3 x10).bind fun r26 => (if (decide ((w64 (r26.1 - x2)) < (w64 (x3 - r26.1)))) = true then ((slices_pdqsortOrdered_uint32.f k3 r26.2.2 x2 r26.1 x8).bind fun r27 => (slices_pdqsortOrdered_uint32.l0 k3 r27 (w64 (r26.1 + 1)) x3 x8 (decide ((w64 (Int.tdiv (w64 (x3 - x2)) 8)) ≤ (w64 (r26.1 - x2)))) r26.2.1)) else ((slices_pdqsortOrdered_uint32.f k3 r26.2.2 (w64 (r26.1 + 1)) x3 x8).bind fun r28 => (slices_pdqsortOrdered_uint32.l0 k3 r28 x2 r26.1 x8 (decide ((w64 (Int.tdiv (w64 (x3 - x2)) 8)) ≤ (w64 (x3 - r26.1)))) r26.2.1)))))) = some r ∧ k3 ≤ k2 ∧ x9.length = a0.length) ?_ ?_
    · refine J.cond rfl (fun c19 => ?_) (fun c19 => ?_)
      · replace H := ite_t c19 H
        refine J.seq (J.region ?_)
        refine RJ.run ttok 3 rfl ?_
        obtain ⟨r29, q53, H⟩ := bind_t H
        refine RJ.op rfl rfl (op_call [0] (slices_reverseRangeOrdered_uint32.spec q53) rfl rfl rfl h5 rfl gnil) ?_
        rintro _ w36 ⟨_, ⟨rfl, rfl, q54⟩, h53⟩
        replace h53 : St w0 F0 [ownC 46 (.int .u32) r29 (.slice A1 r29.length c_1)] _ _ := h53
        have e32 : r29.length = a0.length := q54.trans e4
        refine RJ.fin [(0, _), (1, _), (2, _), (3, _), (8, _), (9, _), (10, _), (11, _)] rfl ?_
        refine J.envEq (env' := [(0, .slice A1 r29.length c_1), (1, .int .i64 x2), (2, .int .i64 x3), (3, .int .i64 x8), (8, .bool x5), (9, .bool x6), (10, .int .i64 (w64 (x3 - x2))), (11, .int .i64 r3.1)]) (by simp only [q54]) ?_
        refine J.seq (J.region ?_)
        refine RJ.run ttok 7 rfl ?_
        refine RJ.fin [(0, _), (1, _), (2, _), (3, _), (8, _), (9, _), (10, _), (11, .int .i64 (w64 ((w64 (x3 - 1)) - (w64 (r3.1 - x2)))))] rfl ?_
        refine J.region ?_
        refine RJ.run ttok 1 rfl ?_
        refine RJ.fin [(0, _), (1, _), (2, _), (3, _), (8, _), (9, _), (10, _), (11, _), (12, .int .i64 1)] rfl ?_
        have h54 := ((h53.only [0] rfl).rds [] rfl)
        exact ⟨k2, r29, (w64 ((w64 (x3 - 1)) - (w64 (r3.1 - x2)))), 1, rfl, h54, H, Nat.le_refl _, e32⟩
      replace H := ite_f c19 H
      refine J.narrow [(0, _), (1, _), (2, _), (3, _), (8, _), (9, _), (10, _), (11, _), (12, _)] rfl ?_
      refine J.skip ?_
      have h55 := ((h5.only [0] rfl).rds [] rfl)
      exact ⟨k2, x7, r3.1, r3.2, rfl, h55, H, Nat.le_refl _, e4⟩
    rintro env w8 ⟨k3, x9, x10, x11, rfl, h6, H, hk3, e5⟩
    refine J.seq (J.seq (J.region ?_))
    refine RJ.run ttok 2 rfl ?_
    rcases Bool.eq_false_or_eq_true x5 with c3 | c3
    · replace H := ite_t c3 H
      refine RJ.know (t := 62) rfl (congrArg Value.bool c3) ?_
      refine RJ.run ttok 3 rfl ?_
      rcases Bool.eq_false_or_eq_true x6 with c4 | c4
      · replace H := ite_t c4 H
        refine RJ.know (t := 65) rfl (congrArg Value.bool c4) ?_
        refine RJ.run ttok 3 rfl ?_
        refine RJ.fin [(0, _), (1, _), (2, _), (3, _), (8, _), (9, _), (10, _), (11, _), (68, .bool (decide (x11 = 1)))] rfl ?_
        refine J.midS (fun env w => ∃ (k4 : Nat) (x12 : List (Int)), env = [(0, .slice A1 x12.length c_1), (1, .int .i64 x2), (2, .int .i64 x3), (3, .int .i64 x8), (8, .bool x5), (9, .bool x6), (10, .int .i64 (w64 (x3 - x2))), (11, .int .i64 x10)] ∧ St w0 F0 [ownC 46 (.int .u32) x12 (.slice A1 x12.length c_1)] [] w ∧ (if (decide (0 < x2)) = true then (if 0 ≤ (w64 (x2 - 1)) ∧ (w64 (x2 - 1)) < (x12.length : Int) then (if 0 ≤ x10 ∧ x10 < (x12.length : Int) then ((cmp_Less_uint32.f (gt x12 (w64 (x2 - 1))) (gt x12 x10)).bind fun r4 => (if (!r4) = true then ((slices_partitionEqualOrdered_uint32.f k4 x12 x2 x3 x10).bind fun r5 => (slices_pdqsortOrdered_uint32.l0 k4 r5.2 r5.1 x3 x8 x5 x6)) else ((slices_partitionOrdered_uint32.f k4 x12 x2 x3 x10).bind fun r6 => (if (decide ((w64 (r6.1 - x2)) < (w64 (x3 - r6.1)))) = true then ((slices_pdqsortOrdered_uint32.f k4 r6.2.2 x2 r6.1 x8).bind fun r7 => (slices_pdqsortOrdered_uint32.l0 k4 r7 (w64 (r6.1 + 1)) x3 x8 (decide ((w64 (Int.tdiv (w64 (x3 - x2)) 8)) ≤ (w64 (r6.1 - x2)))) r6.2.1)) else ((slices_pdqsortOrdered_uint32.f k4 r6.2.2 (w64 (r6.1 + 1)) x3 x8).bind fun r8 => (slices_pdqsortOrdered_uint32.l0 k4 r8 x2 r6.1 x8 (decide ((w64 (Int.tdiv (w64 (x3 - x2)) 8)) ≤ (w64 (x3 - r6.1)))) r6.2.1)))))) else none) else none) else ((slices_partitionOrdered_uint32.f k4 x12 x2 x3 x10).bind fun r9 => (if (decide ((w64 (r9.1 - x2)) < (w64 (x3 - r9.1)))) = true then ((slices_pdqsortOrdered_uint32.f k4 r9.2.2 x2 r9.1 x8).bind fun r10 => (slices_pdqsortOrdered_uint32.l0 k4 r10 (w64 (r9.1 + 1)) x3 x8 (decide ((w64 (Int.tdiv (w64 (x3 - x2)) 8)) ≤ (w64 (r9.1 - x2)))) r9.2.1)) else ((slices_pdqsortOrdered_uint32.f k4 r9.2.2 (w64 (r9.1 + 1)) x3 x8).bind fun r11 => (slices_pdqsortOrdered_uint32.l0 k4 r11 x2 r9.1 x8 (decide ((w64 (Int.tdiv (w64 (x3 - x2)) 8)) ≤ (w64 (x3 - r9.1)))) r9.2.1))))) = some r ∧ k4 ≤ k3 ∧ x12.length = a0.length) ?_ ?_
        · refine J.cond rfl (fun c9 => ?_) (fun c9 => ?_)
          · replace H := ite_t c9 H
            refine J.seq (J.region ?_)
            refine RJ.run ttok 3 rfl ?_
            obtain ⟨r12, q21, H⟩ := bind_t H
            refine RJ.op rfl rfl (op_call [0] (slices_partialInsertionSortOrdered_uint32.spec q21) rfl rfl rfl h6 rfl gnil) ?_
            rintro _ w19 ⟨_, ⟨rfl, rfl, q22⟩, h22⟩
            replace h22 : St w0 F0 [ownC 46 (.int .u32) r12.2 (.slice A1 r12.2.length c_1)] _ _ := h22
            have e15 : r12.2.length = a0.length := q22.trans e5
            refine RJ.fin [(0, _), (1, _), (2, _), (3, _), (8, _), (9, _), (10, _), (11, _), (72, .bool r12.1)] rfl ?_
            refine J.envEq (env' := [(0, .slice A1 r12.2.length c_1), (1, .int .i64 x2), (2, .int .i64 x3), (3, .int .i64 x8), (8, .bool x5), (9, .bool x6), (10, .int .i64 (w64 (x3 - x2))), (11, .int .i64 x10), (72, .bool r12.1)]) (by simp only [q22]) ?_
            refine J.cond rfl (fun c10 => ?_) (fun c10 => ?_)
            · replace H := ite_t c10 H
              refine J.ret ?_
              obtain rfl := Option.some.inj H
              exact ⟨_, _, _, (results_slots rfl), ⟨rfl, rfl, e15⟩, h22.only [0] rfl⟩
            replace H := ite_f c10 H
            refine J.narrow [(0, _), (1, _), (2, _), (3, _), (8, _), (9, _), (10, _), (11, _)] rfl ?_
            refine J.skip ?_
            have h23 := ((h22.only [0] rfl).rds [] rfl)
            exact ⟨k3, r12.2, rfl, h23, H, Nat.le_refl _, e15⟩
          replace H := ite_f c9 H
          refine J.narrow [(0, _), (1, _), (2, _), (3, _), (8, _), (9, _), (10, _), (11, _)] rfl ?_
          refine J.skip ?_
          have h24 := ((h6.only [0] rfl).rds [] rfl)
          exact ⟨k3, x9, rfl, h24, H, Nat.le_refl _, e5⟩
        rintro env w10 ⟨k4, x12, rfl, h7, H, hk4, e6⟩
        refine J.seq (J.seq ?_)
        refine J.heldSt mix h7 ?_
        have h8 := h7.drew
        refine HJ.run ttok rfl [0, 1, 2] rfl ?_
        rcases Bool.eq_false_or_eq_true (decide (0 < x2)) with c5 | c5
        · replace H := ite_t c5 H
          refine HJ.know (t := 75) rfl (congrArg Value.bool c5) ?_
          refine HJ.run ttok rfl [3, 4, 5, 8, 9] rfl ?_
          obtain ⟨⟨p1, p2⟩, H⟩ := guard_t H
          have e7 := elem_A h8.wh (Gives.of 0 rfl own_rd) p1 p2
          refine HJ.q (i := 6) rfl rfl rfl rfl rfl rfl (q_index ttok rfl rfl rfl rfl rfl e7 p1 p2) ?_
          refine HJ.q (i := 7) rfl rfl rfl rfl rfl rfl (q_load_elem (f := 0) ttok rfl (fun w e => e) (Gives.of 0 rfl own_rd) p1 p2 rfl rfl rfl rfl rfl) ?_
          obtain ⟨⟨p3, p4⟩, H⟩ := guard_t H
          refine HJ.q (i := 10) rfl rfl rfl rfl rfl rfl (q_index ttok rfl rfl rfl rfl rfl e7 p3 p4) ?_
          refine HJ.q (i := 11) rfl rfl rfl rfl rfl rfl (q_load_elem (f := 0) ttok rfl (fun w e => e) (Gives.of 0 rfl own_rd) p3 p4 rfl rfl rfl rfl rfl) ?_
          obtain ⟨r4, q6, H⟩ := bind_t H
          refine HJ.op (i := 12) rfl rfl rfl rfl rfl (op_call [] (cmp_Less_uint32.spec q6) rfl rfl rfl h8 rfl gnil) ?_
          rintro _ w11 ⟨_, ⟨rfl, rfl⟩, h9⟩
          replace h9 : St w0 F0 [_] _ _ := h9
          refine ⟨⟨[], h9⟩, ?_⟩
          refine HJ.run ttok rfl [13, 14] rfl ?_
          refine HJ.fin [(0, _), (1, _), (2, _), (3, _), (8, _), (9, _), (10, _), (11, _), (87, .bool (!r4))] rfl rfl ?_
          refine J.cond rfl (fun c6 => ?_) (fun c6 => ?_)
          · replace H := ite_t c6 H
            refine J.seq (J.region ?_)
            refine RJ.run ttok 4 rfl ?_
            obtain ⟨r5, q7, H⟩ := bind_t H
            refine RJ.op rfl rfl (op_call [0] (slices_partitionEqualOrdered_uint32.spec q7) rfl rfl rfl h9 rfl gnil) ?_
            rintro _ w12 ⟨_, ⟨rfl, rfl, q8⟩, h10⟩
            replace h10 : St w0 F0 [ownC 46 (.int .u32) r5.2 (.slice A1 r5.2.length c_1)] _ _ := h10
            have e8 : r5.2.length = a0.length := q8.trans e6
            refine RJ.run ttok 1 rfl ?_
            refine RJ.fin [(0, _), (2, _), (3, _), (8, _), (9, _), (13, .int .i64 r5.1)] rfl ?_
            refine J.envEq (env' := [(0, .slice A1 r5.2.length c_1), (2, .int .i64 x3), (3, .int .i64 x8), (8, .bool x5), (9, .bool x6), (13, .int .i64 r5.1)]) (by simp only [q8]) ?_
            refine J.seq (J.region ?_)
            refine RJ.run ttok 2 rfl ?_
            refine RJ.fin [(0, _), (1, .int .i64 r5.1), (2, _), (3, _), (8, _), (9, _)] rfl ?_
            refine J.exit ?_
            have h11 := ((h10.only [0] rfl).rds [] rfl)
            exact ⟨k4, by omega, r5.2, r5.1, x3, x8, x5, x6, rfl, h11, H, by omega, e8⟩
          replace H := ite_f c6 H
          refine J.skip ?_
          refine J.seq (J.region ?_)
          refine RJ.run ttok 4 rfl ?_
          obtain ⟨r6, q9, H⟩ := bind_t H
          refine RJ.op rfl rfl (op_call [0] (slices_partitionOrdered_uint32.spec q9) rfl rfl rfl h9 rfl gnil) ?_
          rintro _ w13 ⟨_, ⟨rfl, rfl, q10⟩, h12⟩
          replace h12 : St w0 F0 [ownC 46 (.int .u32) r6.2.2 (.slice A1 r6.2.2.length c_1)] _ _ := h12
          have e9 : r6.2.2.length = a0.length := q10.trans e6
          refine RJ.run ttok 5 rfl ?_
          refine RJ.fin [(0, _), (1, _), (2, _), (3, _), (10, _), (14, .int .i64 r6.1), (15, .bool r6.2.1)] rfl ?_
          refine J.envEq (env' := [(0, .slice A1 r6.2.2.length c_1), (1, .int .i64 x2), (2, .int .i64 x3), (3, .int .i64 x8), (10, .int .i64 (w64 (x3 - x2))), (14, .int .i64 r6.1), (15, .bool r6.2.1)]) (by simp only [q10]) ?_
          refine J.seq (J.region ?_)
          refine RJ.run ttok 2 rfl ?_
          refine RJ.fin [(0, _), (1, _), (2, _), (3, _), (9, .bool r6.2.1), (10, _), (14, _)] rfl ?_
          refine J.seq (J.region ?_)
          refine RJ.run ttok 8 rfl ?_
          refine RJ.fin [(0, _), (1, _), (2, _), (3, _), (9, _), (10, _), (14, _), (16, .int .i64 (w64 (r6.1 - x2))), (17, .int .i64 (w64 (x3 - r6.1)))] rfl ?_
          refine J.seq (J.region ?_)
          refine RJ.run ttok 3 rfl ?_
          refine RJ.fin [(0, _), (1, _), (2, _), (3, _), (9, _), (14, _), (16, _), (17, _), (18, .int .i64 (w64 (Int.tdiv (w64 (x3 - x2)) 8)))] rfl ?_
          refine J.seq (J.region ?_)
          refine RJ.run ttok 3 rfl ?_
          refine RJ.fin [(0, _), (1, _), (2, _), (3, _), (9, _), (14, _), (16, _), (17, _), (18, _), (113, .bool (decide ((w64 (r6.1 - x2)) < (w64 (x3 - r6.1)))))] rfl ?_
          refine J.cond rfl (fun c7 => ?_) (fun c7 => ?_)
          · replace H := ite_t c7 H
            refine J.seq (J.region ?_)
            refine RJ.run ttok 4 rfl ?_
            refine RJ.fin [(0, _), (1, _), (2, _), (3, _), (8, .bool (decide ((w64 (Int.tdiv (w64 (x3 - x2)) 8)) ≤ (w64 (r6.1 - x2))))), (9, _), (14, _)] rfl ?_
            refine J.seq (J.region ?_)
            refine RJ.run ttok 4 rfl ?_
            obtain ⟨r7, q11, H⟩ := bind_t H
            refine RJ.op rfl rfl (op_call [0] (ih k4 (by omega) q11) rfl rfl rfl h12 rfl gnil) ?_
            rintro _ w14 ⟨_, ⟨rfl, rfl, q12⟩, h13⟩
            replace h13 : St w0 F0 [ownC 46 (.int .u32) r7 (.slice A1 r7.length c_1)] _ _ := h13
            have e10 : r7.length = a0.length := q12.trans e9
            refine RJ.fin [(0, _), (2, _), (3, _), (8, _), (9, _), (14, _)] rfl ?_
            refine J.envEq (env' := [(0, .slice A1 r7.length c_1), (2, .int .i64 x3), (3, .int .i64 x8), (8, .bool (decide ((w64 (Int.tdiv (w64 (x3 - x2)) 8)) ≤ (w64 (r6.1 - x2))))), (9, .bool r6.2.1), (14, .int .i64 r6.1)]) (by simp only [q12]) ?_
            refine J.region ?_
            refine RJ.run ttok 3 rfl ?_
            refine RJ.fin [(0, _), (1, .int .i64 (w64 (r6.1 + 1))), (2, _), (3, _), (8, _), (9, _)] rfl ?_
            have h14 := ((h13.only [0] rfl).rds [] rfl)
            exact ⟨k4, by omega, r7, (w64 (r6.1 + 1)), x3, x8, (decide ((w64 (Int.tdiv (w64 (x3 - x2)) 8)) ≤ (w64 (r6.1 - x2)))), r6.2.1, rfl, h14, H, by omega, e10⟩
          replace H := ite_f c7 H
          refine J.seq (J.region ?_)
          refine RJ.run ttok 4 rfl ?_
          refine RJ.fin [(0, _), (1, _), (2, _), (3, _), (8, .bool (decide ((w64 (Int.tdiv (w64 (x3 - x2)) 8)) ≤ (w64 (x3 - r6.1))))), (9, _), (14, _)] rfl ?_
          refine J.seq (J.region ?_)
          refine RJ.run ttok 5 rfl ?_
          obtain ⟨r8, q13, H⟩ := bind_t H
          refine RJ.op rfl rfl (op_call [0] (ih k4 (by omega) q13) rfl rfl rfl h12 rfl gnil) ?_
          rintro _ w15 ⟨_, ⟨rfl, rfl, q14⟩, h15⟩
          replace h15 : St w0 F0 [ownC 46 (.int .u32) r8 (.slice A1 r8.length c_1)] _ _ := h15
          have e11 : r8.length = a0.length := q14.trans e9
          refine RJ.fin [(0, _), (1, _), (3, _), (8, _), (9, _), (14, _)] rfl ?_
          refine J.envEq (env' := [(0, .slice A1 r8.length c_1), (1, .int .i64 x2), (3, .int .i64 x8), (8, .bool (decide ((w64 (Int.tdiv (w64 (x3 - x2)) 8)) ≤ (w64 (x3 - r6.1))))), (9, .bool r6.2.1), (14, .int .i64 r6.1)]) (by simp only [q14]) ?_
          refine J.region ?_
          refine RJ.run ttok 2 rfl ?_
          refine RJ.fin [(0, _), (1, _), (2, .int .i64 r6.1), (3, _), (8, _), (9, _)] rfl ?_
          have h16 := ((h15.only [0] rfl).rds [] rfl)
          exact ⟨k4, by omega, r8, x2, r6.1, x8, (decide ((w64 (Int.tdiv (w64 (x3 - x2)) 8)) ≤ (w64 (x3 - r6.1)))), r6.2.1, rfl, h16, H, by omega, e11⟩
        replace H := ite_f c5 H
        refine HJ.know (t := 75) rfl (congrArg Value.bool c5) ?_
        refine HJ.run ttok rfl [3, 4, 5, 6, 7, 8, 9, 10, 11, 12, 13, 14] rfl ?_
        refine HJ.fin [(0, _), (1, _), (2, _), (3, _), (8, _), (9, _), (10, _), (11, _), (87, .bool false)] rfl rfl ?_
        refine J.condF rfl ?_
        refine J.skip ?_
        refine J.seq (J.region ?_)
        refine RJ.run ttok 4 rfl ?_
        obtain ⟨r9, q15, H⟩ := bind_t H
        refine RJ.op rfl rfl (op_call [0] (slices_partitionOrdered_uint32.spec q15) rfl rfl rfl h8 rfl gnil) ?_
        rintro _ w16 ⟨_, ⟨rfl, rfl, q16⟩, h17⟩
        replace h17 : St w0 F0 [ownC 46 (.int .u32) r9.2.2 (.slice A1 r9.2.2.length c_1)] _ _ := h17
        have e12 : r9.2.2.length = a0.length := q16.trans e6
        refine RJ.run ttok 5 rfl ?_
        refine RJ.fin [(0, _), (1, _), (2, _), (3, _), (10, _), (14, .int .i64 r9.1), (15, .bool r9.2.1)] rfl ?_
        refine J.envEq (env' := [(0, .slice A1 r9.2.2.length c_1), (1, .int .i64 x2), (2, .int .i64 x3), (3, .int .i64 x8), (10, .int .i64 (w64 (x3 - x2))), (14, .int .i64 r9.1), (15, .bool r9.2.1)]) (by simp only [q16]) ?_
        refine J.seq (J.region ?_)
        refine RJ.run ttok 2 rfl ?_
        refine RJ.fin [(0, _), (1, _), (2, _), (3, _), (9, .bool r9.2.1), (10, _), (14, _)] rfl ?_
        refine J.seq (J.region ?_)
        refine RJ.run ttok 8 rfl ?_
        refine RJ.fin [(0, _), (1, _), (2, _), (3, _), (9, _), (10, _), (14, _), (16, .int .i64 (w64 (r9.1 - x2))), (17, .int .i64 (w64 (x3 - r9.1)))] rfl ?_
        refine J.seq (J.region ?_)
        refine RJ.run ttok 3 rfl ?_
        refine RJ.fin [(0, _), (1, _), (2, _), (3, _), (9, _), (14, _), (16, _), (17, _), (18, .int .i64 (w64 (Int.tdiv (w64 (x3 - x2)) 8)))] rfl ?_
        refine J.seq (J.region ?_)
        refine RJ.run ttok 3 rfl ?_
        refine RJ.fin [(0, _), (1, _), (2, _), (3, _), (9, _), (14, _), (16, _), (17, _), (18, _), (113, .bool (decide ((w64 (r9.1 - x2)) < (w64 (x3 - r9.1)))))] rfl ?_
        refine J.cond rfl (fun c8 => ?_) (fun c8 => ?_)
        · replace H := ite_t c8 H
          refine J.seq (J.region ?_)
          refine RJ.run ttok 4 rfl ?_
          refine RJ.fin [(0, _), (1, _), (2, _), (3, _), (8, .bool (decide ((w64 (Int.tdiv (w64 (x3 - x2)) 8)) ≤ (w64 (r9.1 - x2))))), (9, _), (14, _)] rfl ?_
          refine J.seq (J.region ?_)
          refine RJ.run ttok 4 rfl ?_
          obtain ⟨r10, q17, H⟩ := bind_t H
          refine RJ.op rfl rfl (op_call [0] (ih k4 (by omega) q17) rfl rfl rfl h17 rfl gnil) ?_
          rintro _ w17 ⟨_, ⟨rfl, rfl, q18⟩, h18⟩
          replace h18 : St w0 F0 [ownC 46 (.int .u32) r10 (.slice A1 r10.length c_1)] _ _ := h18
          have e13 : r10.length = a0.length := q18.trans e12
          refine RJ.fin [(0, _), (2, _), (3, _), (8, _), (9, _), (14, _)] rfl ?_
          refine J.envEq (env' := [(0, .slice A1 r10.length c_1), (2, .int .i64 x3), (3, .int .i64 x8), (8, .bool (decide ((w64 (Int.tdiv (w64 (x3 - x2)) 8)) ≤ (w64 (r9.1 - x2))))), (9, .bool r9.2.1), (14, .int .i64 r9.1)]) (by simp only [q18]) ?_
          refine J.region ?_
          refine RJ.run ttok 3 rfl ?_
          refine RJ.fin [(0, _), (1, .int .i64 (w64 (r9.1 + 1))), (2, _), (3, _), (8, _), (9, _)] rfl ?_
          have h19 := ((h18.only [0] rfl).rds [] rfl)
          exact ⟨k4, by omega, r10, (w64 (r9.1 + 1)), x3, x8, (decide ((w64 (Int.tdiv (w64 (x3 - x2)) 8)) ≤ (w64 (r9.1 - x2)))), r9.2.1, rfl, h19, H, by omega, e13⟩
        replace H := ite_f c8 H
        refine J.seq (J.region ?_)
        refine RJ.run ttok 4 rfl ?_
        refine RJ.fin [(0, _), (1, _), (2, _), (3, _), (8, .bool (decide ((w64 (Int.tdiv (w64 (x3 - x2)) 8)) ≤ (w64 (x3 - r9.1))))), (9, _), (14, _)] rfl ?_
        refine J.seq (J.region ?_)
        refine RJ.run ttok 5 rfl ?_
        obtain ⟨r11, q19, H⟩ := bind_t H
        refine RJ.op rfl rfl (op_call [0] (ih k4 (by omega) q19) rfl rfl rfl h17 rfl gnil) ?_
        rintro _ w18 ⟨_, ⟨rfl, rfl, q20⟩, h20⟩
        replace h20 : St w0 F0 [ownC 46 (.int .u32) r11 (.slice A1 r11.length c_1)] _ _ := h20
        have e14 : r11.length = a0.length := q20.trans e12
        refine RJ.fin [(0, _), (1, _), (3, _), (8, _), (9, _), (14, _)] rfl ?_
        refine J.envEq (env' := [(0, .slice A1 r11.length c_1), (1, .int .i64 x2), (3, .int .i64 x8), (8, .bool (decide ((w64 (Int.tdiv (w64 (x3 - x2)) 8)) ≤ (w64 (x3 - r9.1))))), (9, .bool r9.2.1), (14, .int .i64 r9.1)]) (by simp only [q20]) ?_
        refine J.region ?_
        refine RJ.run ttok 2 rfl ?_
        refine RJ.fin [(0, _), (1, _), (2, .int .i64 r9.1), (3, _), (8, _), (9, _)] rfl ?_
        have h21 := ((h20.only [0] rfl).rds [] rfl)
        exact ⟨k4, by omega, r11, x2, r9.1, x8, (decide ((w64 (Int.tdiv (w64 (x3 - x2)) 8)) ≤ (w64 (x3 - r9.1)))), r9.2.1, rfl, h21, H, by omega, e14⟩
      replace H := ite_f c4 H
      refine RJ.know (t := 65) rfl (congrArg Value.bool c4) ?_
      refine RJ.run ttok 3 rfl ?_
      refine RJ.fin [(0, _), (1, _), (2, _), (3, _), (8, _), (9, _), (10, _), (11, _), (68, .bool false)] rfl ?_
      refine J.condF rfl ?_
      refine J.skip ?_
      refine J.seq (J.seq ?_)
      refine J.heldSt mix h6 ?_
      have h25 := h6.drew
      refine HJ.run ttok rfl [0, 1, 2] rfl ?_
      rcases Bool.eq_false_or_eq_true (decide (0 < x2)) with c11 | c11
      · replace H := ite_t c11 H
        refine HJ.know (t := 75) rfl (congrArg Value.bool c11) ?_
        refine HJ.run ttok rfl [3, 4, 5, 8, 9] rfl ?_
        obtain ⟨⟨p5, p6⟩, H⟩ := guard_t H
        have e16 := elem_A h25.wh (Gives.of 0 rfl own_rd) p5 p6
        refine HJ.q (i := 6) rfl rfl rfl rfl rfl rfl (q_index ttok rfl rfl rfl rfl rfl e16 p5 p6) ?_
        refine HJ.q (i := 7) rfl rfl rfl rfl rfl rfl (q_load_elem (f := 0) ttok rfl (fun w e => e) (Gives.of 0 rfl own_rd) p5 p6 rfl rfl rfl rfl rfl) ?_
        obtain ⟨⟨p7, p8⟩, H⟩ := guard_t H
        refine HJ.q (i := 10) rfl rfl rfl rfl rfl rfl (q_index ttok rfl rfl rfl rfl rfl e16 p7 p8) ?_
        refine HJ.q (i := 11) rfl rfl rfl rfl rfl rfl (q_load_elem (f := 0) ttok rfl (fun w e => e) (Gives.of 0 rfl own_rd) p7 p8 rfl rfl rfl rfl rfl) ?_
        obtain ⟨r13, q23, H⟩ := bind_t H
        refine HJ.op (i := 12) rfl rfl rfl rfl rfl (op_call [] (cmp_Less_uint32.spec q23) rfl rfl rfl h25 rfl gnil) ?_
        rintro _ w20 ⟨_, ⟨rfl, rfl⟩, h26⟩
        replace h26 : St w0 F0 [_] _ _ := h26
        refine ⟨⟨[], h26⟩, ?_⟩
        refine HJ.run ttok rfl [13, 14] rfl ?_
        refine HJ.fin [(0, _), (1, _), (2, _), (3, _), (8, _), (9, _), (10, _), (11, _), (87, .bool (!r13))] rfl rfl ?_
        refine J.cond rfl (fun c12 => ?_) (fun c12 => ?_)
        · replace H := ite_t c12 H
          refine J.seq (J.region ?_)
          refine RJ.run ttok 4 rfl ?_
          obtain ⟨r14, q24, H⟩ := bind_t H
          refine RJ.op rfl rfl (op_call [0] (slices_partitionEqualOrdered_uint32.spec q24) rfl rfl rfl h26 rfl gnil) ?_
          rintro _ w21 ⟨_, ⟨rfl, rfl, q25⟩, h27⟩
          replace h27 : St w0 F0 [ownC 46 (.int .u32) r14.2 (.slice A1 r14.2.length c_1)] _ _ := h27
          have e17 : r14.2.length = a0.length := q25.trans e5
          refine RJ.run ttok 1 rfl ?_
          refine RJ.fin [(0, _), (2, _), (3, _), (8, _), (9, _), (13, .int .i64 r14.1)] rfl ?_
          refine J.envEq (env' := [(0, .slice A1 r14.2.length c_1), (2, .int .i64 x3), (3, .int .i64 x8), (8, .bool x5), (9, .bool x6), (13, .int .i64 r14.1)]) (by simp only [q25]) ?_
          refine J.seq (J.region ?_)
          refine RJ.run ttok 2 rfl ?_
          refine RJ.fin [(0, _), (1, .int .i64 r14.1), (2, _), (3, _), (8, _), (9, _)] rfl ?_
          refine J.exit ?_
          have h28 := ((h27.only [0] rfl).rds [] rfl)
          exact ⟨k3, by omega, r14.2, r14.1, x3, x8, x5, x6, rfl, h28, H, by omega, e17⟩
        replace H := ite_f c12 H
        refine J.skip ?_
        refine J.seq (J.region ?_)
        refine RJ.run ttok 4 rfl ?_
        obtain ⟨r15, q26, H⟩ := bind_t H
        refine RJ.op rfl rfl (op_call [0] (slices_partitionOrdered_uint32.spec q26) rfl rfl rfl h26 rfl gnil) ?_
        rintro _ w22 ⟨_, ⟨rfl, rfl, q27⟩, h29⟩
        replace h29 : St w0 F0 [ownC 46 (.int .u32) r15.2.2 (.slice A1 r15.2.2.length c_1)] _ _ := h29
        have e18 : r15.2.2.length = a0.length := q27.trans e5
        refine RJ.run ttok 5 rfl ?_
        refine RJ.fin [(0, _), (1, _), (2, _), (3, _), (10, _), (14, .int .i64 r15.1), (15, .bool r15.2.1)] rfl ?_
        refine J.envEq (env' := [(0, .slice A1 r15.2.2.length c_1), (1, .int .i64 x2), (2, .int .i64 x3), (3, .int .i64 x8), (10, .int .i64 (w64 (x3 - x2))), (14, .int .i64 r15.1), (15, .bool r15.2.1)]) (by simp only [q27]) ?_
        refine J.seq (J.region ?_)
        refine RJ.run ttok 2 rfl ?_
        refine RJ.fin [(0, _), (1, _), (2, _), (3, _), (9, .bool r15.2.1), (10, _), (14, _)] rfl ?_
        refine J.seq (J.region ?_)
        refine RJ.run ttok 8 rfl ?_
        refine RJ.fin [(0, _), (1, _), (2, _), (3, _), (9, _), (10, _), (14, _), (16, .int .i64 (w64 (r15.1 - x2))), (17, .int .i64 (w64 (x3 - r15.1)))] rfl ?_
        refine J.seq (J.region ?_)
        refine RJ.run ttok 3 rfl ?_
        refine RJ.fin [(0, _), (1, _), (2, _), (3, _), (9, _), (14, _), (16, _), (17, _), (18, .int .i64 (w64 (Int.tdiv (w64 (x3 - x2)) 8)))] rfl ?_
        refine J.seq (J.region ?_)
        refine RJ.run ttok 3 rfl ?_
        refine RJ.fin [(0, _), (1, _), (2, _), (3, _), (9, _), (14, _), (16, _), (17, _), (18, _), (113, .bool (decide ((w64 (r15.1 - x2)) < (w64 (x3 - r15.1)))))] rfl ?_
        refine J.cond rfl (fun c13 => ?_) (fun c13 => ?_)
        · replace H := ite_t c13 H
          refine J.seq (J.region ?_)
          refine RJ.run ttok 4 rfl ?_
          refine RJ.fin [(0, _), (1, _), (2, _), (3, _), (8, .bool (decide ((w64 (Int.tdiv (w64 (x3 - x2)) 8)) ≤ (w64 (r15.1 - x2))))), (9, _), (14, _)] rfl ?_
          refine J.seq (J.region ?_)
          refine RJ.run ttok 4 rfl ?_
          obtain ⟨r16, q28, H⟩ := bind_t H
          refine RJ.op rfl rfl (op_call [0] (ih k3 (by omega) q28) rfl rfl rfl h29 rfl gnil) ?_
          rintro _ w23 ⟨_, ⟨rfl, rfl, q29⟩, h30⟩
          replace h30 : St w0 F0 [ownC 46 (.int .u32) r16 (.slice A1 r16.length c_1)] _ _ := h30
          have e19 : r16.length = a0.length := q29.trans e18
          refine RJ.fin [(0, _), (2, _), (3, _), (8, _), (9, _), (14, _)] rfl ?_
          refine J.envEq (env' := [(0, .slice A1 r16.length c_1), (2, .int .i64 x3), (3, .int .i64 x8), (8, .bool (decide ((w64 (Int.tdiv (w64 (x3 - x2)) 8)) ≤ (w64 (r15.1 - x2))))), (9, .bool r15.2.1), (14, .int .i64 r15.1)]) (by simp only [q29]) ?_
          refine J.region ?_
          refine RJ.run ttok 3 rfl ?_
          refine RJ.fin [(0, _), (1, .int .i64 (w64 (r15.1 + 1))), (2, _), (3, _), (8, _), (9, _)] rfl ?_
          have h31 := ((h30.only [0] rfl).rds [] rfl)
          exact ⟨k3, by omega, r16, (w64 (r15.1 + 1)), x3, x8, (decide ((w64 (Int.tdiv (w64 (x3 - x2)) 8)) ≤ (w64 (r15.1 - x2)))), r15.2.1, rfl, h31, H, by omega, e19⟩
        replace H := ite_f c13 H
        refine J.seq (J.region ?_)
        refine RJ.run ttok 4 rfl ?_
        refine RJ.fin [(0, _), (1, _), (2, _), (3, _), (8, .bool (decide ((w64 (Int.tdiv (w64 (x3 - x2)) 8)) ≤ (w64 (x3 - r15.1))))), (9, _), (14, _)] rfl ?_
        refine J.seq (J.region ?_)
        refine RJ.run ttok 5 rfl ?_
        obtain ⟨r17, q30, H⟩ := bind_t H
        refine RJ.op rfl rfl (op_call [0] (ih k3 (by omega) q30) rfl rfl rfl h29 rfl gnil) ?_
        rintro _ w24 ⟨_, ⟨rfl, rfl, q31⟩, h32⟩
        replace h32 : St w0 F0 [ownC 46 (.int .u32) r17 (.slice A1 r17.length c_1)] _ _ := h32
        have e20 : r17.length = a0.length := q31.trans e18
        refine RJ.fin [(0, _), (1, _), (3, _), (8, _), (9, _), (14, _)] rfl ?_
        refine J.envEq (env' := [(0, .slice A1 r17.length c_1), (1, .int .i64 x2), (3, .int .i64 x8), (8, .bool (decide ((w64 (Int.tdiv (w64 (x3 - x2)) 8)) ≤ (w64 (x3 - r15.1))))), (9, .bool r15.2.1), (14, .int .i64 r15.1)]) (by simp only [q31]) ?_
        refine J.region ?_
        refine RJ.run ttok 2 rfl ?_
        refine RJ.fin [(0, _), (1, _), (2, .int .i64 r15.1), (3, _), (8, _), (9, _)] rfl ?_
        have h33 := ((h32.only [0] rfl).rds [] rfl)
        exact ⟨k3, by omega, r17, x2, r15.1, x8, (decide ((w64 (Int.tdiv (w64 (x3 - x2)) 8)) ≤ (w64 (x3 - r15.1)))), r15.2.1, rfl, h33, H, by omega, e20⟩
      replace H := ite_f c11 H
      refine HJ.know (t := 75) rfl (congrArg Value.bool c11) ?_
      refine HJ.run ttok rfl [3, 4, 5, 6, 7, 8, 9, 10, 11, 12, 13, 14] rfl ?_
      refine HJ.fin [(0, _), (1, _), (2, _), (3, _), (8, _), (9, _), (10, _), (11, _), (87, .bool false)] rfl rfl ?_
      refine J.condF rfl ?_
      refine J.skip ?_
      refine J.seq (J.region ?_)
      refine RJ.run ttok 4 rfl ?_
      obtain ⟨r18, q32, H⟩ := bind_t H
      refine RJ.op rfl rfl (op_call [0] (slices_partitionOrdered_uint32.spec q32) rfl rfl rfl h25 rfl gnil) ?_
      rintro _ w25 ⟨_, ⟨rfl, rfl, q33⟩, h34⟩
      replace h34 : St w0 F0 [ownC 46 (.int .u32) r18.2.2 (.slice A1 r18.2.2.length c_1)] _ _ := h34
      have e21 : r18.2.2.length = a0.length := q33.trans e5
      refine RJ.run ttok 5 rfl ?_
      refine RJ.fin [(0, _), (1, _), (2, _), (3, _), (10, _), (14, .int .i64 r18.1), (15, .bool r18.2.1)] rfl ?_
      refine J.envEq (env' := [(0, .slice A1 r18.2.2.length c_1), (1, .int .i64 x2), (2, .int .i64 x3), (3, .int .i64 x8), (10, .int .i64 (w64 (x3 - x2))), (14, .int .i64 r18.1), (15, .bool r18.2.1)]) (by simp only [q33]) ?_
      refine J.seq (J.region ?_)
      refine RJ.run ttok 2 rfl ?_
      refine RJ.fin [(0, _), (1, _), (2, _), (3, _), (9, .bool r18.2.1), (10, _), (14, _)] rfl ?_
      refine J.seq (J.region ?_)
      refine RJ.run ttok 8 rfl ?_
      refine RJ.fin [(0, _), (1, _), (2, _), (3, _), (9, _), (10, _), (14, _), (16, .int .i64 (w64 (r18.1 - x2))), (17, .int .i64 (w64 (x3 - r18.1)))] rfl ?_
      refine J.seq (J.region ?_)
      refine RJ.run ttok 3 rfl ?_
      refine RJ.fin [(0, _), (1, _), (2, _), (3, _), (9, _), (14, _), (16, _), (17, _), (18, .int .i64 (w64 (Int.tdiv (w64 (x3 - x2)) 8)))] rfl ?_
      refine J.seq (J.region ?_)
      refine RJ.run ttok 3 rfl ?_
      refine RJ.fin [(0, _), (1, _), (2, _), (3, _), (9, _), (14, _), (16, _), (17, _), (18, _), (113, .bool (decide ((w64 (r18.1 - x2)) < (w64 (x3 - r18.1)))))] rfl ?_
      refine J.cond rfl (fun c14 => ?_) (fun c14 => ?_)
      · replace H := ite_t c14 H
        refine J.seq (J.region ?_)
        refine RJ.run ttok 4 rfl ?_
        refine RJ.fin [(0, _), (1, _), (2, _), (3, _), (8, .bool (decide ((w64 (Int.tdiv (w64 (x3 - x2)) 8)) ≤ (w64 (r18.1 - x2))))), (9, _), (14, _)] rfl ?_
        refine J.seq (J.region ?_)
        refine RJ.run ttok 4 rfl ?_
        obtain ⟨r19, q34, H⟩ := bind_t H
        refine RJ.op rfl rfl (op_call [0] (ih k3 (by omega) q34) rfl rfl rfl h34 rfl gnil) ?_
        rintro _ w26 ⟨_, ⟨rfl, rfl, q35⟩, h35⟩
        replace h35 : St w0 F0 [ownC 46 (.int .u32) r19 (.slice A1 r19.length c_1)] _ _ := h35
        have e22 : r19.length = a0.length := q35.trans e21
        refine RJ.fin [(0, _), (2, _), (3, _), (8, _), (9, _), (14, _)] rfl ?_
        refine J.envEq (env' := [(0, .slice A1 r19.length c_1), (2, .int .i64 x3), (3, .int .i64 x8), (8, .bool (decide ((w64 (Int.tdiv (w64 (x3 - x2)) 8)) ≤ (w64 (r18.1 - x2))))), (9, .bool r18.2.1), (14, .int .i64 r18.1)]) (by simp only [q35]) ?_
        refine J.region ?_
        refine RJ.run ttok 3 rfl ?_
        refine RJ.fin [(0, _), (1, .int .i64 (w64 (r18.1 + 1))), (2, _), (3, _), (8, _), (9, _)] rfl ?_
        have h36 := ((h35.only [0] rfl).rds [] rfl)
        exact ⟨k3, by omega, r19, (w64 (r18.1 + 1)), x3, x8, (decide ((w64 (Int.tdiv (w64 (x3 - x2)) 8)) ≤ (w64 (r18.1 - x2)))), r18.2.1, rfl, h36, H, by omega, e22⟩
      replace H := ite_f c14 H
      refine J.seq (J.region ?_)
      refine RJ.run ttok 4 rfl ?_
      refine RJ.fin [(0, _), (1, _), (2, _), (3, _), (8, .bool (decide ((w64 (Int.tdiv (w64 (x3 - x2)) 8)) ≤ (w64 (x3 - r18.1))))), (9, _), (14, _)] rfl ?_
      refine J.seq (J.region ?_)
      refine RJ.run ttok 5 rfl ?_
      obtain ⟨r20, q36, H⟩ := bind_t H
      refine RJ.op rfl rfl (op_call [0] (ih k3 (by omega) q36) rfl rfl rfl h34 rfl gnil) ?_
      rintro _ w27 ⟨_, ⟨rfl, rfl, q37⟩, h37⟩
      replace h37 : St w0 F0 [ownC 46 (.int .u32) r20 (.slice A1 r20.length c_1)] _ _ := h37
      have e23 : r20.length = a0.length := q37.trans e21
      refine RJ.fin [(0, _), (1, _), (3, _), (8, _), (9, _), (14, _)] rfl ?_
      refine J.envEq (env' := [(0, .slice A1 r20.length c_1), (1, .int .i64 x2), (3, .int .i64 x8), (8, .bool (decide ((w64 (Int.tdiv (w64 (x3 - x2)) 8)) ≤ (w64 (x3 - r18.1))))), (9, .bool r18.2.1), (14, .int .i64 r18.1)]) (by simp only [q37]) ?_
      refine J.region ?_
      refine RJ.run ttok 2 rfl ?_
      refine RJ.fin [(0, _), (1, _), (2, .int .i64 r18.1), (3, _), (8, _), (9, _)] rfl ?_
      have h38 := ((h37.only [0] rfl).rds [] rfl)
      exact ⟨k3, by omega, r20, x2, r18.1, x8, (decide ((w64 (Int.tdiv (w64 (x3 - x2)) 8)) ≤ (w64 (x3 - r18.1)))), r18.2.1, rfl, h38, H, by omega, e23⟩
    replace H := ite_f c3 H
    refine RJ.know (t := 62) rfl (congrArg Value.bool c3) ?_
    refine RJ.run ttok 6 rfl ?_
    refine RJ.fin [(0, _), (1, _), (2, _), (3, _), (8, _), (9, _), (10, _), (11, _), (68, .bool false)] rfl ?_
    refine J.condF rfl ?_
    refine J.skip ?_
    refine J.seq (J.seq ?_)
    refine J.heldSt mix h6 ?_
    have h39 := h6.drew
    refine HJ.run ttok rfl [0, 1, 2] rfl ?_
    rcases Bool.eq_false_or_eq_true (decide (0 < x2)) with c15 | c15
    · replace H := ite_t c15 H
      refine HJ.know (t := 75) rfl (congrArg Value.bool c15) ?_
      refine HJ.run ttok rfl [3, 4, 5, 8, 9] rfl ?_
      obtain ⟨⟨p9, p10⟩, H⟩ := guard_t H
      have e24 := elem_A h39.wh (Gives.of 0 rfl own_rd) p9 p10
      refine HJ.q (i := 6) rfl rfl rfl rfl rfl rfl (q_index ttok rfl rfl rfl rfl rfl e24 p9 p10) ?_
      refine HJ.q (i := 7) rfl rfl rfl rfl rfl rfl (q_load_elem (f := 0) ttok rfl (fun w e => e) (Gives.of 0 rfl own_rd) p9 p10 rfl rfl rfl rfl rfl) ?_
      obtain ⟨⟨p11, p12⟩, H⟩ := guard_t H
      refine HJ.q (i := 10) rfl rfl rfl rfl rfl rfl (q_index ttok rfl rfl rfl rfl rfl e24 p11 p12) ?_
      refine HJ.q (i := 11) rfl rfl rfl rfl rfl rfl (q_load_elem (f := 0) ttok rfl (fun w e => e) (Gives.of 0 rfl own_rd) p11 p12 rfl rfl rfl rfl rfl) ?_
      obtain ⟨r21, q38, H⟩ := bind_t H
      refine HJ.op (i := 12) rfl rfl rfl rfl rfl (op_call [] (cmp_Less_uint32.spec q38) rfl rfl rfl h39 rfl gnil) ?_
      rintro _ w28 ⟨_, ⟨rfl, rfl⟩, h40⟩
      replace h40 : St w0 F0 [_] _ _ := h40
      refine ⟨⟨[], h40⟩, ?_⟩
      refine HJ.run ttok rfl [13, 14] rfl ?_
      refine HJ.fin [(0, _), (1, _), (2, _), (3, _), (8, _), (9, _), (10, _), (11, _), (87, .bool (!r21))] rfl rfl ?_
      refine J.cond rfl (fun c16 => ?_) (fun c16 => ?_)
      · replace H := ite_t c16 H
        refine J.seq (J.region ?_)
        refine RJ.run ttok 4 rfl ?_
        obtain ⟨r22, q39, H⟩ := bind_t H
        refine RJ.op rfl rfl (op_call [0] (slices_partitionEqualOrdered_uint32.spec q39) rfl rfl rfl h40 rfl gnil) ?_
        rintro _ w29 ⟨_, ⟨rfl, rfl, q40⟩, h41⟩
        replace h41 : St w0 F0 [ownC 46 (.int .u32) r22.2 (.slice A1 r22.2.length c_1)] _ _ := h41
        have e25 : r22.2.length = a0.length := q40.trans e5
        refine RJ.run ttok 1 rfl ?_
        refine RJ.fin [(0, _), (2, _), (3, _), (8, _), (9, _), (13, .int .i64 r22.1)] rfl ?_
        refine J.envEq (env' := [(0, .slice A1 r22.2.length c_1), (2, .int .i64 x3), (3, .int .i64 x8), (8, .bool x5), (9, .bool x6), (13, .int .i64 r22.1)]) (by simp only [q40]) ?_
        refine J.seq (J.region ?_)
        refine RJ.run ttok 2 rfl ?_
        refine RJ.fin [(0, _), (1, .int .i64 r22.1), (2, _), (3, _), (8, _), (9, _)] rfl ?_
        refine J.exit ?_
        have h42 := ((h41.only [0] rfl).rds [] rfl)
        exact ⟨k3, by omega, r22.2, r22.1, x3, x8, x5, x6, rfl, h42, H, by omega, e25⟩
      replace H := ite_f c16 H
      refine J.skip ?_
      refine J.seq (J.region ?_)
      refine RJ.run ttok 4 rfl ?_
      obtain ⟨r23, q41, H⟩ := bind_t H
      refine RJ.op rfl rfl (op_call [0] (slices_partitionOrdered_uint32.spec q41) rfl rfl rfl h40 rfl gnil) ?_
      rintro _ w30 ⟨_, ⟨rfl, rfl, q42⟩, h43⟩
      replace h43 : St w0 F0 [ownC 46 (.int .u32) r23.2.2 (.slice A1 r23.2.2.length c_1)] _ _ := h43
      have e26 : r23.2.2.length = a0.length := q42.trans e5
      refine RJ.run ttok 5 rfl ?_
      refine RJ.fin [(0, _), (1, _), (2, _), (3, _), (10, _), (14, .int .i64 r23.1), (15, .bool r23.2.1)] rfl ?_
      refine J.envEq (env' := [(0, .slice A1 r23.2.2.length c_1), (1, .int .i64 x2), (2, .int .i64 x3), (3, .int .i64 x8), (10, .int .i64 (w64 (x3 - x2))), (14, .int .i64 r23.1), (15, .bool r23.2.1)]) (by simp only [q42]) ?_
      refine J.seq (J.region ?_)
      refine RJ.run ttok 2 rfl ?_
      refine RJ.fin [(0, _), (1, _), (2, _), (3, _), (9, .bool r23.2.1), (10, _), (14, _)] rfl ?_
      refine J.seq (J.region ?_)
      refine RJ.run ttok 8 rfl ?_
      refine RJ.fin [(0, _), (1, _), (2, _), (3, _), (9, _), (10, _), (14, _), (16, .int .i64 (w64 (r23.1 - x2))), (17, .int .i64 (w64 (x3 - r23.1)))] rfl ?_
      refine J.seq (J.region ?_)
      refine RJ.run ttok 3 rfl ?_
      refine RJ.fin [(0, _), (1, _), (2, _), (3, _), (9, _), (14, _), (16, _), (17, _), (18, .int .i64 (w64 (Int.tdiv (w64 (x3 - x2)) 8)))] rfl ?_
      refine J.seq (J.region ?_)
      refine RJ.run ttok 3 rfl ?_
      refine RJ.fin [(0, _), (1, _), (2, _), (3, _), (9, _), (14, _), (16, _), (17, _), (18, _), (113, .bool (decide ((w64 (r23.1 - x2)) < (w64 (x3 - r23.1)))))] rfl ?_
      refine J.cond rfl (fun c17 => ?_) (fun c17 => ?_)
      · replace H := ite_t c17 H
        refine J.seq (J.region ?_)
        refine RJ.run ttok 4 rfl ?_
        refine RJ.fin [(0, _), (1, _), (2, _), (3, _), (8, .bool (decide ((w64 (Int.tdiv (w64 (x3 - x2)) 8)) ≤ (w64 (r23.1 - x2))))), (9, _), (14, _)] rfl ?_
        refine J.seq (J.region ?_)
        refine RJ.run ttok 4 rfl ?_
        obtain ⟨r24, q43, H⟩ := bind_t H
        refine RJ.op rfl rfl (op_call [0] (ih k3 (by omega) q43) rfl rfl rfl h43 rfl gnil) ?_
        rintro _ w31 ⟨_, ⟨rfl, rfl, q44⟩, h44⟩
        replace h44 : St w0 F0 [ownC 46 (.int .u32) r24 (.slice A1 r24.length c_1)] _ _ := h44
        have e27 : r24.length = a0.length := q44.trans e26
        refine RJ.fin [(0, _), (2, _), (3, _), (8, _), (9, _), (14, _)] rfl ?_
        refine J.envEq (env' := [(0, .slice A1 r24.length c_1), (2, .int .i64 x3), (3, .int .i64 x8), (8, .bool (decide ((w64 (Int.tdiv (w64 (x3 - x2)) 8)) ≤ (w64 (r23.1 - x2))))), (9, .bool r23.2.1), (14, .int .i64 r23.1)]) (by simp only [q44]) ?_
        refine J.region ?_
        refine RJ.run ttok 3 rfl ?_
        refine RJ.fin [(0, _), (1, .int .i64 (w64 (r23.1 + 1))), (2, _), (3, _), (8, _), (9, _)] rfl ?_
        have h45 := ((h44.only [0] rfl).rds [] rfl)
        exact ⟨k3, by omega, r24, (w64 (r23.1 + 1)), x3, x8, (decide ((w64 (Int.tdiv (w64 (x3 - x2)) 8)) ≤ (w64 (r23.1 - x2)))), r23.2.1, rfl, h45, H, by omega, e27⟩
      replace H := ite_f c17 H
      refine J.seq (J.region ?_)
      refine RJ.run ttok 4 rfl ?_
      refine RJ.fin [(0, _), (1, _), (2, _), (3, _), (8, .bool (decide ((w64 (Int.tdiv (w64 (x3 - x2)) 8)) ≤ (w64 (x3 - r23.1))))), (9, _), (14, _)] rfl ?_
      refine J.seq (J.region ?_)
      refine RJ.run ttok 5 rfl ?_
      obtain ⟨r25, q45, H⟩ := bind_t H
      refine RJ.op rfl rfl (op_call [0] (ih k3 (by omega) q45) rfl rfl rfl h43 rfl gnil) ?_
      rintro _ w32 ⟨_, ⟨rfl, rfl, q46⟩, h46⟩
      replace h46 : St w0 F0 [ownC 46 (.int .u32) r25 (.slice A1 r25.length c_1)] _ _ := h46
      have e28 : r25.length = a0.length := q46.trans e26
      refine RJ.fin [(0, _), (1, _), (3, _), (8, _), (9, _), (14, _)] rfl ?_
      refine J.envEq (env' := [(0, .slice A1 r25.length c_1), (1, .int .i64 x2), (3, .int .i64 x8), (8, .bool (decide ((w64 (Int.tdiv (w64 (x3 - x2)) 8)) ≤ (w64 (x3 - r23.1))))), (9, .bool r23.2.1), (14, .int .i64 r23.1)]) (by simp only [q46]) ?_
      refine J.region ?_
      refine RJ.run ttok 2 rfl ?_
      refine RJ.fin [(0, _), (1, _), (2, .int .i64 r23.1), (3, _), (8, _), (9, _)] rfl ?_
      have h47 := ((h46.only [0] rfl).rds [] rfl)
      exact ⟨k3, by omega, r25, x2, r23.1, x8, (decide ((w64 (Int.tdiv (w64 (x3 - x2)) 8)) ≤ (w64 (x3 - r23.1)))), r23.2.1, rfl, h47, H, by omega, e28⟩
    replace H := ite_f c15 H
    refine HJ.know (t := 75) rfl (congrArg Value.bool c15) ?_
    refine HJ.run ttok rfl [3, 4, 5, 6, 7, 8, 9, 10, 11, 12, 13, 14] rfl ?_
    refine HJ.fin [(0, _), (1, _), (2, _), (3, _), (8, _), (9, _), (10, _), (11, _), (87, .bool false)] rfl rfl ?_
    refine J.condF rfl ?_
    refine J.skip ?_
    refine J.seq (J.region ?_)
    refine RJ.run ttok 4 rfl ?_
    obtain ⟨r26, q47, H⟩ := bind_t H
    refine RJ.op rfl rfl (op_call [0] (slices_partitionOrdered_uint32.spec q47) rfl rfl rfl h39 rfl gnil) ?_
    rintro _ w33 ⟨_, ⟨rfl, rfl, q48⟩, h48⟩
    replace h48 : St w0 F0 [ownC 46 (.int .u32) r26.2.2 (.slice A1 r26.2.2.length c_1)] _ _ := h48
    have e29 : r26.2.2.length = a0.length := q48.trans e5
    refine RJ.run ttok 5 rfl ?_
    refine RJ.fin [(0, _), (1, _), (2, _), (3, _), (10, _), (14, .int .i64 r26.1), (15, .bool r26.2.1)] rfl ?_
    refine J.envEq (env' := [(0, .slice A1 r26.2.2.length c_1), (1, .int .i64 x2), (2, .int .i64 x3), (3, .int .i64 x8), (10, .int .i64 (w64 (x3 - x2))), (14, .int .i64 r26.1), (15, .bool r26.2.1)]) (by simp only [q48]) ?_
    refine J.seq (J.region ?_)
    refine RJ.run ttok 2 rfl ?_
    refine RJ.fin [(0, _), (1, _), (2, _), (3, _), (9, .bool r26.2.1), (10, _), (14, _)] rfl ?_
    refine J.seq (J.region ?_)
    refine RJ.run ttok 8 rfl ?_
    refine RJ.fin [(0, _), (1, _), (2, _), (3, _), (9, _), (10, _), (14, _), (16, .int .i64 (w64 (r26.1 - x2))), (17, .int .i64 (w64 (x3 - r26.1)))] rfl ?_
    refine J.seq (J.region ?_)
    refine RJ.run ttok 3 rfl ?_
    refine RJ.fin [(0, _), (1, _), (2, _), (3, _), (9, _), (14, _), (16, _), (17, _), (18, .int .i64 (w64 (Int.tdiv (w64 (x3 - x2)) 8)))] rfl ?_
    refine J.seq (J.region ?_)
    refine RJ.run ttok 3 rfl ?_
    refine RJ.fin [(0, _), (1, _), (2, _), (3, _), (9, _), (14, _), (16, _), (17, _), (18, _), (113, .bool (decide ((w64 (r26.1 - x2)) < (w64 (x3 - r26.1)))))] rfl ?_
    refine J.cond rfl (fun c18 => ?_) (fun c18 => ?_)
    · replace H := ite_t c18 H
      refine J.seq (J.region ?_)
      refine RJ.run ttok 4 rfl ?_
      refine RJ.fin [(0, _), (1, _), (2, _), (3, _), (8, .bool (decide ((w64 (Int.tdiv (w64 (x3 - x2)) 8)) ≤ (w64 (r26.1 - x2))))), (9, _), (14, _)] rfl ?_
      refine J.seq (J.region ?_)
      refine RJ.run ttok 4 rfl ?_
      obtain ⟨r27, q49, H⟩ := bind_t H
      refine RJ.op rfl rfl (op_call [0] (ih k3 (by omega) q49) rfl rfl rfl h48 rfl gnil) ?_
      rintro _ w34 ⟨_, ⟨rfl, rfl, q50⟩, h49⟩
      replace h49 : St w0 F0 [ownC 46 (.int .u32) r27 (.slice A1 r27.length c_1)] _ _ := h49
      have e30 : r27.length = a0.length := q50.trans e29
      refine RJ.fin [(0, _), (2, _), (3, _), (8, _), (9, _), (14, _)] rfl ?_
      refine J.envEq (env' := [(0, .slice A1 r27.length c_1), (2, .int .i64 x3), (3, .int .i64 x8), (8, .bool (decide ((w64 (Int.tdiv (w64 (x3 - x2)) 8)) ≤ (w64 (r26.1 - x2))))), (9, .bool r26.2.1), (14, .int .i64 r26.1)]) (by simp only [q50]) ?_
      refine J.region ?_
      refine RJ.run ttok 3 rfl ?_
      refine RJ.fin [(0, _), (1, .int .i64 (w64 (r26.1 + 1))), (2, _), (3, _), (8, _), (9, _)] rfl ?_
      have h50 := ((h49.only [0] rfl).rds [] rfl)
      exact ⟨k3, by omega, r27, (w64 (r26.1 + 1)), x3, x8, (decide ((w64 (Int.tdiv (w64 (x3 - x2)) 8)) ≤ (w64 (r26.1 - x2)))), r26.2.1, rfl, h50, H, by omega, e30⟩
    replace H := ite_f c18 H
    refine J.seq (J.region ?_)
    refine RJ.run ttok 4 rfl ?_
    refine RJ.fin [(0, _), (1, _), (2, _), (3, _), (8, .bool (decide ((w64 (Int.tdiv (w64 (x3 - x2)) 8)) ≤ (w64 (x3 - r26.1))))), (9, _), (14, _)] rfl ?_
    refine J.seq (J.region ?_)
    refine RJ.run ttok 5 rfl ?_
    obtain ⟨r28, q51, H⟩ := bind_t H
    refine RJ.op rfl rfl (op_call [0] (ih k3 (by omega) q51) rfl rfl rfl h48 rfl gnil) ?_
    rintro _ w35 ⟨_, ⟨rfl, rfl, q52⟩, h51⟩
    replace h51 : St w0 F0 [ownC 46 (.int .u32) r28 (.slice A1 r28.length c_1)] _ _ := h51
    have e31 : r28.length = a0.length := q52.trans e29
    refine RJ.fin [(0, _), (1, _), (3, _), (8, _), (9, _), (14, _)] rfl ?_
    refine J.envEq (env' := [(0, .slice A1 r28.length c_1), (1, .int .i64 x2), (3, .int .i64 x8), (8, .bool (decide ((w64 (Int.tdiv (w64 (x3 - x2)) 8)) ≤ (w64 (x3 - r26.1))))), (9, .bool r26.2.1), (14, .int .i64 r26.1)]) (by simp only [q52]) ?_
    refine J.region ?_
    refine RJ.run ttok 2 rfl ?_
    refine RJ.fin [(0, _), (1, _), (2, .int .i64 r26.1), (3, _), (8, _), (9, _)] rfl ?_
    have h52 := ((h51.only [0] rfl).rds [] rfl)
    exact ⟨k3, by omega, r28, x2, r26.1, x8, (decide ((w64 (Int.tdiv (w64 (x3 - x2)) 8)) ≤ (w64 (x3 - r26.1)))), r26.2.1, rfl, h52, H, by omega, e31⟩

/-! slices.Sort[[]uint32,uint32] -/
def slices_Sort_uint32_uint32.f (k : Nat) (a0 : List (Int)) : Option (List (Int)) := (bits_Len.f (IntKind.u64.wrap ((a0.length : Int)))).bind fun r1 => ((slices_pdqsortOrdered_uint32.f k a0 0 (a0.length : Int) r1).bind fun r2 => (some r2))
set_option maxRecDepth 20000 in
set_option maxHeartbeats 40000000 in
theorem slices_Sort_uint32_uint32.spec {k : Nat} {a0 : List (Int)} {A1 : Option Addr} {c_1 : Nat} {r : List (Int)} (H : slices_Sort_uint32_uint32.f k a0 = some r) :
    Spec Try.prog 118 [.slice A1 a0.length c_1] [ownC 46 (.int .u32) a0 (.slice A1 a0.length c_1)] [] (fun v l => v = .tuple #[] ∧ l = [ownC 46 (.int .u32) r (.slice A1 r.length c_1)] ∧ r.length = a0.length) := by
  refine Spec.enter Try.func118 rfl (by kernel_rfl) (by kernel_rfl) fun w0 F0 h0 => ?_
  unfold slices_Sort_uint32_uint32.f at H
  refine J.seq (J.region ?_)
  refine RJ.run ttok 3 rfl ?_
  refine RJ.fin [(0, .slice A1 a0.length c_1), (2, .int .i64 (a0.length : Int))] rfl ?_
  refine J.region ?_
  refine RJ.run ttok 4 rfl ?_
  obtain ⟨r1, q1, H⟩ := bind_t H
  refine RJ.op rfl rfl (op_call [] (bits_Len.spec q1) rfl rfl rfl h0 rfl gnil) ?_
  rintro _ w1 ⟨_, ⟨rfl, rfl⟩, h1⟩
  replace h1 : St w0 F0 [ownC 46 (.int .u32) a0 (.slice A1 a0.length c_1)] _ _ := h1
  obtain ⟨r2, q2, H⟩ := bind_t H
  refine RJ.op rfl rfl (op_call [0] (slices_pdqsortOrdered_uint32.spec q2) rfl rfl rfl h1 rfl gnil) ?_
  rintro _ w2 ⟨_, ⟨rfl, rfl, q3⟩, h2⟩
  replace h2 : St w0 F0 [ownC 46 (.int .u32) r2 (.slice A1 r2.length c_1)] _ _ := h2
  have e1 : r2.length = a0.length := q3.trans (rfl : a0.length = a0.length)
  refine RJ.fin [] rfl ?_
  obtain rfl := Option.some.inj H
  exact ⟨_, _, _, (results_slots rfl), ⟨rfl, rfl, e1⟩, h2.only [0] rfl⟩

/-! slices.Compact[[]uint32,uint32] -/
def slices_Compact_uint32_uint32.l1 : Nat → (Int) → (List (Int)) → (Int) → (Int) → Option (List (Int))
  | 0, _, _, _, _ => none
  | k + 1, x1, x2, x3, x4 => if (decide (x4 < ((x2.drop x1.toNat).length : Int))) = true then (if 0 ≤ x4 ∧ x4 < ((x2.drop x1.toNat).length : Int) then (if 0 ≤ (w64 (x4 - 1)) ∧ (w64 (x4 - 1)) < ((x2.drop x1.toNat).length : Int) then (if (!decide ((gt (x2.drop x1.toNat) x4) = (gt (x2.drop x1.toNat) (w64 (x4 - 1))))) = true then (if 0 ≤ x3 ∧ x3 < (x2.length : Int) then (slices_Compact_uint32_uint32.l1 k x1 (x2.set x3.toNat (gt (x2.drop x1.toNat) x4)) (w64 (x3 + 1)) (w64 (x4 + 1))) else none) else (slices_Compact_uint32_uint32.l1 k x1 x2 x3 (w64 (x4 + 1)))) else none) else none) else (if 0 ≤ x3 ∧ x3 ≤ (x2.length : Int) then (if (0 : Int) ≤ x3 ∧ x3 ≤ ((patch x2 x3.toNat ((x2.drop x3.toNat).length) (List.replicate ((x2.drop x3.toNat).length) (0 : Int))).length : Int) then (some ((patch x2 x3.toNat ((x2.drop x3.toNat).length) (List.replicate ((x2.drop x3.toNat).length) (0 : Int))).take x3.toNat)) else none) else none)
def slices_Compact_uint32_uint32.l0 : Nat → (List (Int)) → (Int) → Option (List (Int))
  | 0, _, _ => none
  | k + 1, a0, x1 => if (decide (x1 < (a0.length : Int))) = true then (if 0 ≤ x1 ∧ x1 < (a0.length : Int) then (if 0 ≤ (w64 (x1 - 1)) ∧ (w64 (x1 - 1)) < (a0.length : Int) then (if (decide ((gt a0 x1) = (gt a0 (w64 (x1 - 1))))) = true then (if 0 ≤ x1 ∧ x1 ≤ (a0.length : Int) then (slices_Compact_uint32_uint32.l1 k x1 a0 x1 1) else none) else (slices_Compact_uint32_uint32.l0 k a0 (w64 (x1 + 1)))) else none) else none) else (some a0)
def slices_Compact_uint32_uint32.f (k : Nat) (a0 : List (Int)) : Option (List (Int)) := if (decide ((a0.length : Int) < 2)) = true then (some a0) else (slices_Compact_uint32_uint32.l0 k a0 1)
set_option maxRecDepth 20000 in
set_option maxHeartbeats 40000000 in
theorem slices_Compact_uint32_uint32.spec {k : Nat} {a0 : List (Int)} {A1 : Option Addr} {c_1 : Nat} {r : List (Int)} (H : slices_Compact_uint32_uint32.f k a0 = some r) :
    SpecA Try.prog 119 [.slice A1 a0.length c_1] [ownC 46 (.int .u32) a0 (.slice A1 a0.length c_1)] [] (fun v l lr => ∃ (A_0 : Option Addr) (c_0 : Nat), v = .slice A_0 r.length c_0 ∧ l = [] ∧ lr = [rdC 46 (.int .u32) r (.slice A_0 r.length c_0)]) := by
  refine SpecA.enter Try.func119 rfl (by kernel_rfl) (by kernel_rfl) fun w0 F0 h0 => ?_
  unfold slices_Compact_uint32_uint32.f at H
  refine J.seq (J.region ?_)
  refine RJ.run ttok 1 rfl ?_
  refine RJ.fin [(0, .slice A1 a0.length c_1)] rfl ?_
  refine J.seq (J.seq (J.region ?_))
  refine RJ.run ttok 3 rfl ?_
  refine RJ.fin [(0, _), (8, .bool (decide ((a0.length : Int) < 2)))] rfl ?_
  refine J.cond rfl (fun c1 => ?_) (fun c1 => ?_)
  · replace H := ite_t c1 H
    refine J.seq (J.region ?_)
    refine RJ.run ttok 2 rfl ?_
    refine RJ.fin [(2, .slice A1 a0.length c_1)] rfl ?_
    refine J.ret ?_
    have h1 := h0.freeze (k := 0) rfl own_rd
    obtain rfl := Option.some.inj H
    exact ⟨_, _, _, (results_slots rfl), ⟨_, _, rfl, rfl, rfl⟩, (h1.only [] rfl).rds [0] rfl⟩
  replace H := ite_f c1 H
  refine J.skip ?_
  refine J.seq (J.seq (J.region ?_))
  refine RJ.run ttok 1 rfl ?_
  refine RJ.fin [(0, _), (3, .int .i64 1)] rfl ?_
  refine J.block ?_
  have h15 := ((h0.only [0] rfl).rds [] rfl)
  refine J.loop (fun kk env w => ∃ (x1 : Int), env = [(0, .slice A1 a0.length c_1), (3, .int .i64 x1)] ∧ St w0 F0 [ownC 46 (.int .u32) a0 (.slice A1 a0.length c_1)] [] w ∧ slices_Compact_uint32_uint32.l0 kk a0 x1 = some r) (k := k) ⟨1, rfl, h15, H⟩ ?_
  rintro k1 env w1 ⟨x1, rfl, h2, H⟩
  cases k1 with
  | zero => exact nomatch (show none = some r from H)
  | succ k1 =>
    rw [slices_Compact_uint32_uint32.l0] at H
    refine J.seq (J.seq (J.region ?_))
    refine RJ.run ttok 4 rfl ?_
    refine RJ.fin [(0, _), (3, _), (13, .bool (decide (x1 < (a0.length : Int))))] rfl ?_
    refine J.cond rfl (fun c2 => ?_) (fun c2 => ?_)
    · replace H := ite_t c2 H
      refine J.skip ?_
      refine J.seq (J.block (J.seq ?_))
      refine J.heldSt mix h2 ?_
      have h3 := h2.drew
      refine HJ.run ttok rfl [0, 1, 4, 5, 6] rfl ?_
      obtain ⟨⟨p1, p2⟩, H⟩ := guard_t H
      have e1 := elem_A h3.wh (Gives.of 0 rfl own_rd) p1 p2
      refine HJ.q (i := 2) rfl rfl rfl rfl rfl rfl (q_index ttok rfl rfl rfl rfl rfl e1 p1 p2) ?_
      refine HJ.q (i := 3) rfl rfl rfl rfl rfl rfl (q_load_elem (f := 0) ttok rfl (fun w e => e) (Gives.of 0 rfl own_rd) p1 p2 rfl rfl rfl rfl rfl) ?_
      obtain ⟨⟨p3, p4⟩, H⟩ := guard_t H
      refine HJ.q (i := 7) rfl rfl rfl rfl rfl rfl (q_index ttok rfl rfl rfl rfl rfl e1 p3 p4) ?_
      refine HJ.q (i := 8) rfl rfl rfl rfl rfl rfl (q_load_elem (f := 0) ttok rfl (fun w e => e) (Gives.of 0 rfl own_rd) p3 p4 rfl rfl rfl rfl rfl) ?_
      refine HJ.run ttok rfl [9] rfl ?_
      refine HJ.fin [(0, _), (3, _), (25, .bool (decide ((gt a0 x1) = (gt a0 (w64 (x1 - 1))))))] rfl rfl ?_
      refine J.cond rfl (fun c3 => ?_) (fun c3 => ?_)
      · replace H := ite_t c3 H
        refine J.seq (J.region ?_)
        refine RJ.run ttok 2 rfl ?_
        obtain ⟨⟨p5, p6⟩, H⟩ := guard_t H
        have e2 := h3.cap (Gives.of 0 rfl own_rd)
        refine RJ.q rfl rfl (q_cut (l := x1) (h := (a0.length : Int)) (sub := (a0.drop x1.toNat)) ttok rfl rfl rfl rfl e2 ⟨_, rfl⟩ rfl p5 p6 (Int.le_refl _) (cut_from _ _)) ?_
        refine RJ.run ttok 1 rfl ?_
        refine RJ.fin [(0, _), (3, _), (4, .slice (cutA A1 c_1 x1.toNat 1) (a0.drop x1.toNat).length (c_1 - x1.toNat))] rfl ?_
        refine J.seq (J.seq (J.region ?_))
        refine RJ.run ttok 1 rfl ?_
        refine RJ.fin [(0, _), (3, _), (4, _), (5, .int .i64 1)] rfl ?_
        refine J.block ?_
        have h12 := ((h3.only [0] rfl).rds [] rfl)
        refine J.loop (fun kk env w => ∃ (x2 : List (Int)) (x3 : Int) (x4 : Int), env = [(0, .slice A1 x2.length c_1), (3, .int .i64 x3), (4, .slice (cutA A1 c_1 x1.toNat 1) (x2.drop x1.toNat).length (c_1 - x1.toNat)), (5, .int .i64 x4)] ∧ St w0 F0 [ownC 46 (.int .u32) x2 (.slice A1 x2.length c_1)] [] w ∧ slices_Compact_uint32_uint32.l1 kk x1 x2 x3 x4 = some r ∧ kk ≤ k1 ∧ x2.length = a0.length) (k := k1) ⟨a0, x1, 1, rfl, h12, H, Nat.le_refl _, (rfl : a0.length = a0.length)⟩ ?_
        rintro k2 env w2 ⟨x2, x3, x4, rfl, h4, H, hk2, e3⟩
        cases k2 with
        | zero => exact nomatch (show none = some r from H)
        | succ k2 =>
          rw [slices_Compact_uint32_uint32.l1] at H
          refine J.seq (J.seq (J.region ?_))
          refine RJ.run ttok 4 rfl ?_
          refine RJ.fin [(0, _), (3, _), (4, _), (5, _), (32, .bool (decide (x4 < ((x2.drop x1.toNat).length : Int))))] rfl ?_
          refine J.cond rfl (fun c4 => ?_) (fun c4 => ?_)
          · replace H := ite_t c4 H
            refine J.skip ?_
            refine J.seq (J.block (J.seq ?_))
            refine J.heldSt mix h4 ?_
            have h5 := h4.drew
            refine HJ.run ttok rfl [0, 1, 4, 5, 6] rfl ?_
            obtain ⟨⟨p7, p8⟩, H⟩ := guard_t H
            have e4 := elem_A h5.wh ((Gives.of 0 rfl own_rd).trans (rd_cut (ty := (.int .u32)) (l := x1) (h := (x2.length : Int)) (sub := (x2.drop x1.toNat)) rfl (by omega) (by omega) (by omega) (cut_from _ _))) p7 p8
            refine HJ.q (i := 2) rfl rfl rfl rfl rfl rfl (q_index ttok rfl rfl rfl rfl rfl e4 p7 p8) ?_
            refine HJ.q (i := 3) rfl rfl rfl rfl rfl rfl (q_load_elem (f := 0) ttok rfl (fun w e => e) ((Gives.of 0 rfl own_rd).trans (rd_cut (ty := (.int .u32)) (l := x1) (h := (x2.length : Int)) (sub := (x2.drop x1.toNat)) rfl (by omega) (by omega) (by omega) (cut_from _ _))) p7 p8 rfl rfl rfl rfl rfl) ?_
            obtain ⟨⟨p9, p10⟩, H⟩ := guard_t H
            refine HJ.q (i := 7) rfl rfl rfl rfl rfl rfl (q_index ttok rfl rfl rfl rfl rfl e4 p9 p10) ?_
            refine HJ.q (i := 8) rfl rfl rfl rfl rfl rfl (q_load_elem (f := 0) ttok rfl (fun w e => e) ((Gives.of 0 rfl own_rd).trans (rd_cut (ty := (.int .u32)) (l := x1) (h := (x2.length : Int)) (sub := (x2.drop x1.toNat)) rfl (by omega) (by omega) (by omega) (cut_from _ _))) p9 p10 rfl rfl rfl rfl rfl) ?_
            refine HJ.run ttok rfl [9] rfl ?_
            refine HJ.fin [(0, _), (3, _), (4, _), (5, _), (44, .bool (!decide ((gt (x2.drop x1.toNat) x4) = (gt (x2.drop x1.toNat) (w64 (x4 - 1))))))] rfl rfl ?_
            refine J.cond rfl (fun c5 => ?_) (fun c5 => ?_)
            · replace H := ite_t c5 H
              refine J.seq (J.region ?_)
              refine RJ.run ttok 4 rfl ?_
              refine RJ.q rfl rfl (q_index ttok rfl rfl rfl rfl rfl e4 p7 p8) ?_
              refine RJ.q rfl rfl (q_load_elem (f := 0) ttok rfl h5.wht ((Gives.of 0 rfl own_rd).trans (rd_cut (ty := (.int .u32)) (l := x1) (h := (x2.length : Int)) (sub := (x2.drop x1.toNat)) rfl (by omega) (by omega) (by omega) (cut_from _ _))) p7 p8 rfl rfl rfl rfl rfl) ?_
              obtain ⟨⟨p11, p12⟩, H⟩ := guard_t H
              refine RJ.q rfl rfl (q_index ttok rfl rfl rfl rfl rfl e1 p11 p12) ?_
              refine RJ.op rfl rfl (op_store_elem (ty := (.int .u32)) (f := 0) (ix := x3) ttok rfl (gt (x2.drop x1.toNat) x4) 0 rfl h5 rfl rfl p11 p12 rfl rfl rfl rfl rfl rfl rfl) ?_
              intro _ w3 h6
              replace h6 : St w0 F0 [ownC 46 (.int .u32) (x2.set x3.toNat (gt (x2.drop x1.toNat) x4)) (.slice A1 (x2.set x3.toNat (gt (x2.drop x1.toNat) x4)).length c_1)] _ _ := h6
              have e5 : (x2.set x3.toNat (gt (x2.drop x1.toNat) x4)).length = a0.length := List.length_set.trans e3
              refine RJ.fin [(0, _), (3, _), (4, _), (5, _)] rfl ?_
              refine J.envEq (env' := [(0, .slice A1 (x2.set x3.toNat (gt (x2.drop x1.toNat) x4)).length c_1), (3, .int .i64 x3), (4, .slice (cutA A1 c_1 x1.toNat 1) ((x2.set x3.toNat (gt (x2.drop x1.toNat) x4)).drop x1.toNat).length (c_1 - x1.toNat)), (5, .int .i64 x4)]) (by first | (simp only [List.length_set]; done) | (simp only [List.length_set] <;> simp only [List.length_drop]; done) | simp only [List.length_set, List.length_drop]) ?_
              refine J.region ?_
              refine RJ.run ttok 3 rfl ?_
              refine RJ.fin [(0, _), (3, .int .i64 (w64 (x3 + 1))), (4, _), (5, _)] rfl ?_
              refine J.region ?_
              refine RJ.run ttok 3 rfl ?_
              refine RJ.fin [(0, _), (3, _), (4, _), (5, .int .i64 (w64 (x4 + 1)))] rfl ?_
              have h7 := ((h6.only [0] rfl).rds [] rfl)
              exact ⟨k2, by omega, (x2.set x3.toNat (gt (x2.drop x1.toNat) x4)), (w64 (x3 + 1)), (w64 (x4 + 1)), rfl, h7, H, by omega, e5⟩
            replace H := ite_f c5 H
            refine J.skip ?_
            refine J.region ?_
            refine RJ.run ttok 3 rfl ?_
            refine RJ.fin [(0, _), (3, _), (4, _), (5, .int .i64 (w64 (x4 + 1)))] rfl ?_
            have h8 := ((h5.only [0] rfl).rds [] rfl)
            exact ⟨k2, by omega, x2, x3, (w64 (x4 + 1)), rfl, h8, H, by omega, e3⟩
          replace H := ite_f c4 H
          refine J.exit ?_
          refine J.seq (J.region ?_)
          refine RJ.run ttok 2 rfl ?_
          obtain ⟨⟨p13, p14⟩, H⟩ := guard_t H
          have e6 := h4.cap (Gives.of 0 rfl own_rd)
          refine RJ.q rfl rfl (q_cut (l := x3) (h := (x2.length : Int)) (sub := (x2.drop x3.toNat)) ttok rfl rfl rfl rfl e6 ⟨_, rfl⟩ rfl p13 p14 (Int.le_refl _) (cut_from _ _)) ?_
          have e7 : x3.toNat + (x2.drop x3.toNat).length ≤ x2.length := by simp only [List.length_drop]; omega
          refine RJ.op rfl rfl (op_clear_own ttok (ty := (.int .u32)) (xs := x2) rfl (0 : Int) 0 rfl h4 rfl rfl rfl rfl rfl rfl e7) ?_
          rintro _ w4 h9
          replace h9 : St w0 F0 [ownC 46 (.int .u32) (patch x2 x3.toNat ((x2.drop x3.toNat).length) (List.replicate ((x2.drop x3.toNat).length) (0 : Int))) (.slice A1 (patch x2 x3.toNat ((x2.drop x3.toNat).length) (List.replicate ((x2.drop x3.toNat).length) (0 : Int))).length c_1)] _ _ := h9
          have e8 : (patch x2 x3.toNat ((x2.drop x3.toNat).length) (List.replicate ((x2.drop x3.toNat).length) (0 : Int))).length = a0.length := (patch_length e7).trans e3
          refine RJ.fin [(0, _), (3, _)] rfl ?_
          refine J.envEq (env' := [(0, .slice A1 (patch x2 x3.toNat ((x2.drop x3.toNat).length) (List.replicate ((x2.drop x3.toNat).length) (0 : Int))).length c_1), (3, .int .i64 x3)]) (by first | (simp only [patch_length e7]; done) | (simp only [patch_length e7] <;> simp only [List.length_drop]; done) | simp only [patch_length e7, List.length_drop]) ?_
          refine J.seq (J.region ?_)
          refine RJ.run ttok 2 rfl ?_
          obtain ⟨⟨p15, p16⟩, H⟩ := guard_t H
          have e9 := h9.cap (Gives.of 0 rfl own_rd)
          refine RJ.q rfl rfl (q_cut0 (h := x3) (sub := ((patch x2 x3.toNat ((x2.drop x3.toNat).length) (List.replicate ((x2.drop x3.toNat).length) (0 : Int))).take x3.toNat)) ttok rfl rfl rfl rfl e9 ⟨_, rfl⟩ p15 p16 rfl) ?_
          refine RJ.run ttok 1 rfl ?_
          refine RJ.fin [(2, .slice A1 ((patch x2 x3.toNat ((x2.drop x3.toNat).length) (List.replicate ((x2.drop x3.toNat).length) (0 : Int))).take x3.toNat).length c_1)] rfl ?_
          refine J.ret ?_
          have h10 := h9.freeze (k := 0) rfl own_rd
          have h11 := h10.read (k := 0) rfl (rd_cut0 (ty := (.int .u32)) (h := x3) (sub := ((patch x2 x3.toNat ((x2.drop x3.toNat).length) (List.replicate ((x2.drop x3.toNat).length) (0 : Int))).take x3.toNat)) p15 p16 rfl)
          obtain rfl := Option.some.inj H
          exact ⟨_, _, _, (results_slots rfl), ⟨_, _, rfl, rfl, rfl⟩, (h11.only [] rfl).rds [0] rfl⟩
      replace H := ite_f c3 H
      refine J.skip ?_
      refine J.region ?_
      refine RJ.run ttok 3 rfl ?_
      refine RJ.fin [(0, _), (3, .int .i64 (w64 (x1 + 1)))] rfl ?_
      have h13 := ((h3.only [0] rfl).rds [] rfl)
      exact ⟨k1, by omega, (w64 (x1 + 1)), rfl, h13, H⟩
    replace H := ite_f c2 H
    refine J.exit ?_
    refine J.seq (J.region ?_)
    refine RJ.run ttok 2 rfl ?_
    refine RJ.fin [(2, .slice A1 a0.length c_1)] rfl ?_
    refine J.ret ?_
    have h14 := h2.freeze (k := 0) rfl own_rd
    obtain rfl := Option.some.inj H
    exact ⟨_, _, _, (results_slots rfl), ⟨_, _, rfl, rfl, rfl⟩, (h14.only [] rfl).rds [0] rfl⟩

/-! sluicegate/node.kids -/
def node_kids.f (k : Nat) (a0 : Int × Int × Int × Int × Int × Int × Int × Int) (a1 : List (Int)) : Option (Bool) := (slices_Clone_uint32_uint32.f a1).bind fun r1 => ((slices_Sort_uint32_uint32.f k r1).bind fun r2 => (if (decide ((a1.length : Int) < 1)) = true then (some false) else (if (decide (a0.2.2.2.1 < (a1.length : Int))) = true then (some false) else (if 0 < (r2.length : Int) then (if (decide ((gt r2 0) = 0)) = true then (some false) else (if 0 ≤ (w64 ((a1.length : Int) - 1)) ∧ (w64 ((a1.length : Int) - 1)) < (r2.length : Int) then (if (decide (a0.1 ≤ (w64 ((gt r2 (w64 ((a1.length : Int) - 1))))))) = true then (some false) else ((slices_Compact_uint32_uint32.f k r2).bind fun r3 => (some (decide ((r3.length : Int) = (a1.length : Int)))))) else none)) else none))))
set_option maxRecDepth 20000 in
set_option maxHeartbeats 40000000 in
theorem node_kids.spec {k : Nat} {a0 : Int × Int × Int × Int × Int × Int × Int × Int} {a1 : List (Int)} {A1 : Option Addr} {c_1 : Nat} {r : Bool} (H : node_kids.f k a0 a1 = some r) :
    Spec Try.prog 108 [.agg #[.int .i64 a0.1, .int .i64 a0.2.1, .int .i64 a0.2.2.1, .int .i64 a0.2.2.2.1, .int .i64 a0.2.2.2.2.1, .int .i64 a0.2.2.2.2.2.1, .int .i64 a0.2.2.2.2.2.2.1, .int .i64 a0.2.2.2.2.2.2.2], .slice A1 a1.length c_1] [] [rdC 46 (.int .u32) a1 (.slice A1 a1.length c_1)] (fun v l => v = .bool r ∧ l = []) := by
  refine Spec.enter Try.func108 rfl (by kernel_rfl) (by kernel_rfl) fun w0 F0 h0 => ?_
  unfold node_kids.f at H
  refine J.seq (J.region ?_)
  refine RJ.op rfl rfl (op_box rfl rfl h0) ?_
  rintro _ w1 ⟨b1, rfl, h1⟩
  replace h1 : St w0 F0 [boxC b1 23 [.int .i64 a0.1, .int .i64 a0.2.1, .int .i64 a0.2.2.1, .int .i64 a0.2.2.2.1, .int .i64 a0.2.2.2.2.1, .int .i64 a0.2.2.2.2.2.1, .int .i64 a0.2.2.2.2.2.2.1, .int .i64 a0.2.2.2.2.2.2.2]] _ _ := h1
  refine RJ.run ttok 1 rfl ?_
  refine RJ.fin [(1, .slice A1 a1.length c_1), (2, .pointer (some ⟨b1, 0, none⟩))] rfl ?_
  refine J.seq (J.region ?_)
  refine RJ.run ttok 1 rfl ?_
  obtain ⟨r1, q1, H⟩ := bind_t H
  refine RJ.op rfl rfl (op_call [] (slices_Clone_uint32_uint32.spec q1) rfl rfl rfl h1 rfl (gcons (Gives.self 1 rfl) gnil)) ?_
  rintro _ w2 ⟨_, ⟨A2, c_2, rfl, rfl⟩, h2⟩
  replace h2 : St w0 F0 [ownC 46 (.int .u32) r1 (.slice A2 r1.length c_2), _] _ _ := h2
  refine RJ.run ttok 1 rfl ?_
  refine RJ.fin [(1, _), (2, _), (5, .slice A2 r1.length c_2)] rfl ?_
  refine J.seq (J.region ?_)
  refine RJ.run ttok 1 rfl ?_
  obtain ⟨r2, q2, H⟩ := bind_t H
  refine RJ.op rfl rfl (op_call [0] (slices_Sort_uint32_uint32.spec q2) rfl rfl rfl h2 rfl gnil) ?_
  rintro _ w3 ⟨_, ⟨rfl, rfl, q3⟩, h3⟩
  replace h3 : St w0 F0 [ownC 46 (.int .u32) r2 (.slice A2 r2.length c_2), _] _ _ := h3
  refine RJ.fin [(1, _), (2, _), (5, _)] rfl ?_
  refine J.envEq (env' := [(1, .slice A1 a1.length c_1), (2, .pointer (some ⟨b1, 0, none⟩)), (5, .slice A2 r2.length c_2)]) (by simp only [q3]) ?_
  refine J.seq (J.seq ?_)
  refine J.heldSt mix h3 ?_
  have h4 := h3.drew
  refine HJ.run ttok rfl [0, 1, 2, 3] rfl ?_
  rcases Bool.eq_false_or_eq_true (decide ((a1.length : Int) < 1)) with c1 | c1
  · replace H := ite_t c1 H
    refine HJ.know (t := 13) rfl (congrArg Value.bool c1) ?_
    refine HJ.run ttok rfl [4, 5, 6, 7, 8, 9, 10, 11, 12, 13, 14, 15, 16, 17, 18, 19, 20, 21, 22, 23, 24, 25, 26, 27] rfl ?_
    refine HJ.fin [(1, _), (5, _), (37, .bool true)] rfl rfl ?_
    refine J.condT rfl ?_
    refine J.seq (J.region ?_)
    refine RJ.run ttok 1 rfl ?_
    refine RJ.fin [(4, .bool false)] rfl ?_
    have h5 := h4.only [] rfl
    replace h5 : St w0 F0 [] _ _ := h5
    refine J.ret ?_
    obtain rfl := Option.some.inj H
    exact ⟨_, _, _, (results_slots rfl), ⟨rfl, rfl⟩, h5.only [] rfl⟩
  replace H := ite_f c1 H
  refine HJ.know (t := 13) rfl (congrArg Value.bool c1) ?_
  refine HJ.run ttok rfl [4, 5, 6] rfl ?_
  refine HJ.q (i := 7) rfl rfl rfl rfl rfl rfl (q_load_box ttok 1 (fun w e => e) rfl rfl rfl rfl rfl) ?_
  refine HJ.run ttok rfl [8, 9, 10] rfl ?_
  rcases Bool.eq_false_or_eq_true (decide (a0.2.2.2.1 < (a1.length : Int))) with c2 | c2
  · replace H := ite_t c2 H
    refine HJ.know (t := 20) rfl (congrArg Value.bool c2) ?_
    refine HJ.run ttok rfl [11, 12, 13, 14, 15, 16, 17, 18, 19, 20, 21, 22, 23, 24, 25, 26, 27] rfl ?_
    refine HJ.fin [(1, _), (5, _), (37, .bool true)] rfl rfl ?_
    refine J.condT rfl ?_
    refine J.seq (J.region ?_)
    refine RJ.run ttok 1 rfl ?_
    refine RJ.fin [(4, .bool false)] rfl ?_
    have h6 := h4.only [] rfl
    replace h6 : St w0 F0 [] _ _ := h6
    refine J.ret ?_
    obtain rfl := Option.some.inj H
    exact ⟨_, _, _, (results_slots rfl), ⟨rfl, rfl⟩, h6.only [] rfl⟩
  replace H := ite_f c2 H
  refine HJ.know (t := 20) rfl (congrArg Value.bool c2) ?_
  refine HJ.run ttok rfl [11] rfl ?_
  obtain ⟨p1, H⟩ := guard_t H
  have e1 := elem_A h4.wh (Gives.of 0 rfl own_rd) (by decide) p1
  refine HJ.q (i := 12) rfl rfl rfl rfl rfl rfl (q_index ttok rfl rfl rfl rfl rfl e1 (by decide) p1) ?_
  refine HJ.q (i := 13) rfl rfl rfl rfl rfl rfl (q_load_elem (f := 0) ttok rfl (fun w e => e) (Gives.of 0 rfl own_rd) (by decide) p1 rfl rfl rfl rfl rfl) ?_
  refine HJ.run ttok rfl [14, 15, 16] rfl ?_
  rcases Bool.eq_false_or_eq_true (decide ((gt r2 0) = 0)) with c3 | c3
  · replace H := ite_t c3 H
    refine HJ.know (t := 26) rfl (congrArg Value.bool c3) ?_
    refine HJ.run ttok rfl [17, 18, 19, 20, 21, 22, 23, 24, 25, 26, 27] rfl ?_
    refine HJ.fin [(1, _), (5, _), (37, .bool true)] rfl rfl ?_
    refine J.condT rfl ?_
    refine J.seq (J.region ?_)
    refine RJ.run ttok 1 rfl ?_
    refine RJ.fin [(4, .bool false)] rfl ?_
    have h7 := h4.only [] rfl
    replace h7 : St w0 F0 [] _ _ := h7
    refine J.ret ?_
    obtain rfl := Option.some.inj H
    exact ⟨_, _, _, (results_slots rfl), ⟨rfl, rfl⟩, h7.only [] rfl⟩
  replace H := ite_f c3 H
  refine HJ.know (t := 26) rfl (congrArg Value.bool c3) ?_
  refine HJ.run ttok rfl [17, 18, 19, 20, 24] rfl ?_
  obtain ⟨⟨p2, p3⟩, H⟩ := guard_t H
  refine HJ.q (i := 21) rfl rfl rfl rfl rfl rfl (q_index ttok rfl rfl rfl rfl rfl e1 p2 p3) ?_
  refine HJ.q (i := 22) rfl rfl rfl rfl rfl rfl (q_load_elem (f := 0) ttok rfl (fun w e => e) (Gives.of 0 rfl own_rd) p2 p3 rfl rfl rfl rfl rfl) ?_
  refine HJ.run ttok rfl [23] rfl ?_
  refine HJ.q (i := 25) rfl rfl rfl rfl rfl rfl (q_load_box ttok 1 (fun w e => e) rfl rfl rfl rfl rfl) ?_
  refine HJ.run ttok rfl [26, 27] rfl ?_
  refine HJ.fin [(1, _), (5, _), (37, .bool (decide (a0.1 ≤ (w64 ((gt r2 (w64 ((a1.length : Int) - 1))))))))] rfl rfl ?_
  refine J.cond rfl (fun c4 => ?_) (fun c4 => ?_)
  · replace H := ite_t c4 H
    refine J.seq (J.region ?_)
    refine RJ.run ttok 1 rfl ?_
    refine RJ.fin [(4, .bool false)] rfl ?_
    have h8 := h4.only [] rfl
    replace h8 : St w0 F0 [] _ _ := h8
    refine J.ret ?_
    obtain rfl := Option.some.inj H
    exact ⟨_, _, _, (results_slots rfl), ⟨rfl, rfl⟩, h8.only [] rfl⟩
  replace H := ite_f c4 H
  refine J.skip ?_
  refine J.seq (J.region ?_)
  refine RJ.run ttok 1 rfl ?_
  obtain ⟨r3, q4, H⟩ := bind_t H
  refine RJ.op rfl rfl (op_callA [0] (slices_Compact_uint32_uint32.spec q4) rfl rfl rfl h4 rfl gnil) ?_
  rintro _ w4 ⟨_, _, ⟨A3, c_3, rfl, rfl, rfl⟩, h9⟩
  replace h9 : St w0 F0 [_] _ _ := h9
  refine RJ.run ttok 5 rfl ?_
  refine RJ.fin [(4, .bool (decide ((r3.length : Int) = (a1.length : Int))))] rfl ?_
  refine J.ret ?_
  obtain rfl := Option.some.inj H
  exact ⟨_, _, _, (results_slots rfl), ⟨rfl, rfl⟩, h9.only [] rfl⟩

/-! sluicegate/fan.Right -/
def fan_Right.l0 : Nat → (List (List UInt8)) → (List UInt8 × List UInt8 × Bool) → (Int) → Option (Bool)
  | 0, _, _, _ => none
  | k + 1, a0, a1, x1 => if (decide (x1 < (a0.length : Int))) = true then (if 0 ≤ x1 ∧ x1 < (a0.length : Int) then ((lex_In.f (a1.1, a1.2.1, a1.2.2) (gt a0 x1)).bind fun r1 => (if (!r1) = true then (some false) else (if (decide ((gt a0 x1) = a1.1)) = true then (some false) else (if (decide (0 < x1)) = true then (if 0 ≤ (w64 (x1 - 1)) ∧ (w64 (x1 - 1)) < (a0.length : Int) then ((lex_Compare.f (gt a0 (w64 (x1 - 1))) (gt a0 x1)).bind fun r2 => (if (decide (0 ≤ r2)) = true then (some false) else (fan_Right.l0 k a0 a1 (w64 (x1 + 1))))) else none) else (fan_Right.l0 k a0 a1 (w64 (x1 + 1))))))) else none) else (some true)
def fan_Right.f (k : Nat) (a0 : List (List UInt8)) (a1 : List UInt8 × List UInt8 × Bool) : Option (Bool) := fan_Right.l0 k a0 a1 0
set_option maxRecDepth 20000 in
set_option maxHeartbeats 40000000 in
theorem fan_Right.spec {k : Nat} {a0 : List (List UInt8)} {a1 : List UInt8 × List UInt8 × Bool} {A1 : Option Addr} {c_1 : Nat} {r : Bool} (H : fan_Right.f k a0 a1 = some r) :
    Spec Try.prog 109 [.slice A1 a0.length c_1, .agg #[.string ⟨⟨a1.1⟩⟩, .string ⟨⟨a1.2.1⟩⟩, .bool a1.2.2]] [] [rdC 9 .str a0 (.slice A1 a0.length c_1)] (fun v l => v = .bool r ∧ l = []) := by
  refine Spec.enter Try.func109 rfl (by kernel_rfl) (by kernel_rfl) fun w0 F0 h0 => ?_
  unfold fan_Right.f at H
  refine J.seq (J.region ?_)
  refine RJ.op rfl rfl (op_box rfl rfl h0) ?_
  rintro _ w1 ⟨b1, rfl, h1⟩
  replace h1 : St w0 F0 [boxC b1 25 [.string ⟨⟨a1.1⟩⟩, .string ⟨⟨a1.2.1⟩⟩, .bool a1.2.2]] _ _ := h1
  refine RJ.run ttok 1 rfl ?_
  refine RJ.fin [(0, .slice A1 a0.length c_1), (3, .pointer (some ⟨b1, 0, none⟩))] rfl ?_
  refine J.seq (J.seq (J.region ?_))
  refine RJ.run ttok 3 rfl ?_
  refine RJ.fin [(0, _), (3, _), (7, .slice A1 a0.length c_1), (8, .int .i64 (a0.length : Int)), (9, .int .i64 0)] rfl ?_
  refine J.block ?_
  have h7 := ((h1.only [0] rfl).rds [0] rfl)
  refine J.loop (fun kk env w => ∃ (x1 : Int), env = [(0, .slice A1 a0.length c_1), (3, .pointer (some ⟨b1, 0, none⟩)), (7, .slice A1 a0.length c_1), (8, .int .i64 (a0.length : Int)), (9, .int .i64 x1)] ∧ St w0 F0 [boxC b1 25 [.string ⟨⟨a1.1⟩⟩, .string ⟨⟨a1.2.1⟩⟩, .bool a1.2.2]] [rdC 9 .str a0 (.slice A1 a0.length c_1)] w ∧ fan_Right.l0 kk a0 a1 x1 = some r) (k := k) ⟨0, rfl, h7, H⟩ ?_
  rintro k1 env w2 ⟨x1, rfl, h2, H⟩
  cases k1 with
  | zero => exact nomatch (show none = some r from H)
  | succ k1 =>
    rw [fan_Right.l0] at H
    refine J.seq (J.region ?_)
    refine RJ.run ttok 1 rfl ?_
    refine RJ.fin [(0, _), (3, _), (7, _), (8, _), (9, _), (10, .bool (decide (x1 < (a0.length : Int))))] rfl ?_
    refine J.seq ?_
    refine J.cond rfl (fun c1 => ?_) (fun c1 => ?_)
    · replace H := ite_t c1 H
      refine J.skip ?_
      refine J.seq (J.block (J.seq (J.region ?_)))
      refine RJ.run ttok 1 rfl ?_
      obtain ⟨⟨p1, p2⟩, H⟩ := guard_t H
      have e1 := elem_A h2.wh (Gives.self 1 rfl) p1 p2
      refine RJ.q rfl rfl (q_index ttok rfl rfl rfl rfl rfl e1 p1 p2) ?_
      refine RJ.q rfl rfl (q_load_elem (f := 0) ttok rfl h2.wht (Gives.self 1 rfl) p1 p2 rfl rfl rfl rfl rfl) ?_
      refine RJ.run ttok 2 rfl ?_
      refine RJ.fin [(0, _), (3, _), (5, .int .i64 x1), (6, .string ⟨⟨(gt a0 x1)⟩⟩), (7, _), (8, _), (9, _)] rfl ?_
      refine J.seq (J.region ?_)
      refine RJ.q rfl rfl (q_load_box ttok 0 h2.wht rfl rfl rfl rfl rfl) ?_
      refine RJ.run ttok 1 rfl ?_
      obtain ⟨r1, q1, H⟩ := bind_t H
      refine RJ.op rfl rfl (op_call [] (lex_In.spec q1) rfl rfl rfl h2 rfl gnil) ?_
      rintro _ w3 ⟨_, ⟨rfl, rfl⟩, h3⟩
      replace h3 : St w0 F0 [_] _ _ := h3
      refine RJ.run ttok 2 rfl ?_
      rcases Bool.eq_false_or_eq_true (!r1) with c2 | c2
      · replace H := ite_t c2 H
        refine RJ.know (t := 18) rfl (congrArg Value.bool c2) ?_
        refine RJ.run ttok 19 rfl ?_
        refine RJ.fin [(0, _), (3, _), (7, _), (8, _), (9, _), (37, .bool true)] rfl ?_
        refine J.condT rfl ?_
        refine J.seq (J.region ?_)
        refine RJ.run ttok 1 rfl ?_
        refine RJ.fin [(4, .bool false)] rfl ?_
        refine J.ret ?_
        obtain rfl := Option.some.inj H
        exact ⟨_, _, _, (results_slots rfl), ⟨rfl, rfl⟩, h3.only [] rfl⟩
      replace H := ite_f c2 H
      refine RJ.know (t := 18) rfl (congrArg Value.bool c2) ?_
      refine RJ.run ttok 2 rfl ?_
      refine RJ.q rfl rfl (q_load_box ttok 0 h3.wht rfl rfl rfl rfl rfl) ?_
      refine RJ.run ttok 3 rfl ?_
      rcases Bool.eq_false_or_eq_true (decide ((gt a0 x1) = a1.1)) with c3 | c3
      · replace H := ite_t c3 H
        refine RJ.know (t := 24) rfl (congrArg Value.bool c3) ?_
        refine RJ.run ttok 13 rfl ?_
        refine RJ.fin [(0, _), (3, _), (7, _), (8, _), (9, _), (37, .bool true)] rfl ?_
        refine J.condT rfl ?_
        refine J.seq (J.region ?_)
        refine RJ.run ttok 1 rfl ?_
        refine RJ.fin [(4, .bool false)] rfl ?_
        refine J.ret ?_
        obtain rfl := Option.some.inj H
        exact ⟨_, _, _, (results_slots rfl), ⟨rfl, rfl⟩, h3.only [] rfl⟩
      replace H := ite_f c3 H
      refine RJ.know (t := 24) rfl (congrArg Value.bool c3) ?_
      refine RJ.run ttok 3 rfl ?_
      rcases Bool.eq_false_or_eq_true (decide (0 < x1)) with c4 | c4
      · replace H := ite_t c4 H
        refine RJ.know (t := 27) rfl (congrArg Value.bool c4) ?_
        refine RJ.run ttok 3 rfl ?_
        obtain ⟨⟨p3, p4⟩, H⟩ := guard_t H
        refine RJ.q rfl rfl (q_index ttok rfl rfl rfl rfl rfl e1 p3 p4) ?_
        refine RJ.q rfl rfl (q_load_elem (f := 0) ttok rfl h3.wht (Gives.self 1 rfl) p3 p4 rfl rfl rfl rfl rfl) ?_
        refine RJ.run ttok 1 rfl ?_
        obtain ⟨r2, q2, H⟩ := bind_t H
        refine RJ.op rfl rfl (op_call [] (lex_Compare.spec q2) rfl rfl rfl h3 rfl gnil) ?_
        rintro _ w4 ⟨_, ⟨rfl, rfl⟩, h4⟩
        replace h4 : St w0 F0 [_] _ _ := h4
        refine RJ.run ttok 3 rfl ?_
        refine RJ.fin [(0, _), (3, _), (7, _), (8, _), (9, _), (37, .bool (decide (0 ≤ r2)))] rfl ?_
        refine J.cond rfl (fun c5 => ?_) (fun c5 => ?_)
        · replace H := ite_t c5 H
          refine J.seq (J.region ?_)
          refine RJ.run ttok 1 rfl ?_
          refine RJ.fin [(4, .bool false)] rfl ?_
          refine J.ret ?_
          obtain rfl := Option.some.inj H
          exact ⟨_, _, _, (results_slots rfl), ⟨rfl, rfl⟩, h4.only [] rfl⟩
        replace H := ite_f c5 H
        refine J.skip ?_
        refine J.region ?_
        refine RJ.run ttok 2 rfl ?_
        refine RJ.fin [(0, _), (3, _), (7, _), (8, _), (9, .int .i64 (w64 (x1 + 1)))] rfl ?_
        have h5 := ((h4.only [0] rfl).rds [0] rfl)
        exact ⟨k1, by omega, (w64 (x1 + 1)), rfl, h5, H⟩
      replace H := ite_f c4 H
      refine RJ.know (t := 27) rfl (congrArg Value.bool c4) ?_
      refine RJ.run ttok 10 rfl ?_
      refine RJ.fin [(0, _), (3, _), (7, _), (8, _), (9, _), (37, .bool false)] rfl ?_
      refine J.condF rfl ?_
      refine J.skip ?_
      refine J.region ?_
      refine RJ.run ttok 2 rfl ?_
      refine RJ.fin [(0, _), (3, _), (7, _), (8, _), (9, .int .i64 (w64 (x1 + 1)))] rfl ?_
      have h6 := ((h3.only [0] rfl).rds [0] rfl)
      exact ⟨k1, by omega, (w64 (x1 + 1)), rfl, h6, H⟩
    replace H := ite_f c1 H
    refine J.exit ?_
    refine J.seq (J.region ?_)
    refine RJ.run ttok 1 rfl ?_
    refine RJ.fin [(4, .bool true)] rfl ?_
    refine J.ret ?_
    obtain rfl := Option.some.inj H
    exact ⟨_, _, _, (results_slots rfl), ⟨rfl, rfl⟩, h2.only [] rfl⟩

/-! sluicegate/node.inner$1 -/
def node_inner_1.f (a0 : List UInt8) (a1 : Int × Int × Int × Int × Int × Int × Int × Int) : Option (Bool) := (node_Key.f (a1.1, a1.2.1, a1.2.2.1, a1.2.2.2.1, a1.2.2.2.2.1, a1.2.2.2.2.2.1, a1.2.2.2.2.2.2.1, a1.2.2.2.2.2.2.2) a0).bind fun r1 => (some (!r1))
set_option maxRecDepth 20000 in
set_option maxHeartbeats 40000000 in
theorem node_inner_1.spec {a0 : List UInt8} {a1 : Int × Int × Int × Int × Int × Int × Int × Int} {b1 : Nat} {r : Bool} (H : node_inner_1.f a0 a1 = some r) :
    Spec Try.prog 111 [.string ⟨⟨a0⟩⟩, .pointer (some ⟨b1, 0, none⟩)] [boxC b1 23 [.int .i64 a1.1, .int .i64 a1.2.1, .int .i64 a1.2.2.1, .int .i64 a1.2.2.2.1, .int .i64 a1.2.2.2.2.1, .int .i64 a1.2.2.2.2.2.1, .int .i64 a1.2.2.2.2.2.2.1, .int .i64 a1.2.2.2.2.2.2.2]] [] (fun v l => v = .bool r ∧ l = [boxC b1 23 [.int .i64 a1.1, .int .i64 a1.2.1, .int .i64 a1.2.2.1, .int .i64 a1.2.2.2.1, .int .i64 a1.2.2.2.2.1, .int .i64 a1.2.2.2.2.2.1, .int .i64 a1.2.2.2.2.2.2.1, .int .i64 a1.2.2.2.2.2.2.2]]) := by
  refine Spec.enter Try.func111 rfl (by kernel_rfl) (by kernel_rfl) fun w0 F0 h0 => ?_
  unfold node_inner_1.f at H
  refine J.seq (J.region ?_)
  refine RJ.run ttok 1 rfl ?_
  refine RJ.fin [(0, .string ⟨⟨a0⟩⟩), (1, .pointer (some ⟨b1, 0, none⟩))] rfl ?_
  refine J.seq (J.region ?_)
  refine RJ.q rfl rfl (q_load_box ttok 0 h0.wht rfl rfl rfl rfl rfl) ?_
  refine RJ.run ttok 1 rfl ?_
  obtain ⟨r1, q1, H⟩ := bind_t H
  refine RJ.op rfl rfl (op_call [] (node_Key.spec q1) rfl rfl rfl h0 rfl gnil) ?_
  rintro _ w1 ⟨_, ⟨rfl, rfl⟩, h1⟩
  replace h1 : St w0 F0 [boxC b1 23 [.int .i64 a1.1, .int .i64 a1.2.1, .int .i64 a1.2.2.1, .int .i64 a1.2.2.2.1, .int .i64 a1.2.2.2.2.1, .int .i64 a1.2.2.2.2.2.1, .int .i64 a1.2.2.2.2.2.2.1, .int .i64 a1.2.2.2.2.2.2.2]] _ _ := h1
  refine RJ.run ttok 2 rfl ?_
  refine RJ.fin [(3, .bool (!r1))] rfl ?_
  refine J.ret ?_
  obtain rfl := Option.some.inj H
  exact ⟨_, _, _, (results_slots rfl), ⟨rfl, rfl⟩, h1.only [0] rfl⟩

/-! slices.IndexFunc[[]string,string] -/
def slices_IndexFunc_string_string_node_inner_1.l0 : Nat → (List (List UInt8)) → (Int × Int × Int × Int × Int × Int × Int × Int) → (Int) → Option (Int)
  | 0, _, _, _ => none
  | k + 1, a0, a2, x1 => if (decide (x1 < (a0.length : Int))) = true then (if 0 ≤ x1 ∧ x1 < (a0.length : Int) then ((node_inner_1.f (gt a0 x1) (a2.1, a2.2.1, a2.2.2.1, a2.2.2.2.1, a2.2.2.2.2.1, a2.2.2.2.2.2.1, a2.2.2.2.2.2.2.1, a2.2.2.2.2.2.2.2)).bind fun r1 => (if r1 = true then (some x1) else (slices_IndexFunc_string_string_node_inner_1.l0 k a0 a2 (w64 (x1 + 1))))) else none) else (some (-1))
def slices_IndexFunc_string_string_node_inner_1.f (k : Nat) (a0 : List (List UInt8)) (a2 : Int × Int × Int × Int × Int × Int × Int × Int) : Option (Int) := slices_IndexFunc_string_string_node_inner_1.l0 k a0 a2 0
set_option maxRecDepth 20000 in
set_option maxHeartbeats 40000000 in
theorem slices_IndexFunc_string_string_node_inner_1.spec {k : Nat} {a0 : List (List UInt8)} {a2 : Int × Int × Int × Int × Int × Int × Int × Int} {A1 : Option Addr} {c_1 : Nat} {b1 : Nat} {r : Int} (H : slices_IndexFunc_string_string_node_inner_1.f k a0 a2 = some r) :
    Spec Try.prog 120 [.slice A1 a0.length c_1, .func (.func 111) #[] #[.pointer (some ⟨b1, 0, none⟩)]] [boxC b1 23 [.int .i64 a2.1, .int .i64 a2.2.1, .int .i64 a2.2.2.1, .int .i64 a2.2.2.2.1, .int .i64 a2.2.2.2.2.1, .int .i64 a2.2.2.2.2.2.1, .int .i64 a2.2.2.2.2.2.2.1, .int .i64 a2.2.2.2.2.2.2.2]] [rdC 9 .str a0 (.slice A1 a0.length c_1)] (fun v l => v = .int .i64 r ∧ l = [boxC b1 23 [.int .i64 a2.1, .int .i64 a2.2.1, .int .i64 a2.2.2.1, .int .i64 a2.2.2.2.1, .int .i64 a2.2.2.2.2.1, .int .i64 a2.2.2.2.2.2.1, .int .i64 a2.2.2.2.2.2.2.1, .int .i64 a2.2.2.2.2.2.2.2]]) := by
  refine Spec.enter Try.func120 rfl (by kernel_rfl) (by kernel_rfl) fun w0 F0 h0 => ?_
  unfold slices_IndexFunc_string_string_node_inner_1.f at H
  refine J.seq (J.region ?_)
  refine RJ.run ttok 1 rfl ?_
  refine RJ.fin [(0, .slice A1 a0.length c_1), (1, .func (.func 111) #[] #[.pointer (some ⟨b1, 0, none⟩)])] rfl ?_
  refine J.seq (J.seq (J.region ?_))
  refine RJ.run ttok 3 rfl ?_
  refine RJ.fin [(0, _), (1, _), (7, .int .i64 (a0.length : Int)), (8, .int .i64 0)] rfl ?_
  refine J.block ?_
  have h4 := ((h0.only [0] rfl).rds [0] rfl)
  refine J.loop (fun kk env w => ∃ (x1 : Int), env = [(0, .slice A1 a0.length c_1), (1, .func (.func 111) #[] #[.pointer (some ⟨b1, 0, none⟩)]), (7, .int .i64 (a0.length : Int)), (8, .int .i64 x1)] ∧ St w0 F0 [boxC b1 23 [.int .i64 a2.1, .int .i64 a2.2.1, .int .i64 a2.2.2.1, .int .i64 a2.2.2.2.1, .int .i64 a2.2.2.2.2.1, .int .i64 a2.2.2.2.2.2.1, .int .i64 a2.2.2.2.2.2.2.1, .int .i64 a2.2.2.2.2.2.2.2]] [rdC 9 .str a0 (.slice A1 a0.length c_1)] w ∧ slices_IndexFunc_string_string_node_inner_1.l0 kk a0 a2 x1 = some r) (k := k) ⟨0, rfl, h4, H⟩ ?_
  rintro k1 env w1 ⟨x1, rfl, h1, H⟩
  cases k1 with
  | zero => exact nomatch (show none = some r from H)
  | succ k1 =>
    rw [slices_IndexFunc_string_string_node_inner_1.l0] at H
    refine J.seq (J.region ?_)
    refine RJ.run ttok 1 rfl ?_
    refine RJ.fin [(0, _), (1, _), (7, _), (8, _), (9, .bool (decide (x1 < (a0.length : Int))))] rfl ?_
    refine J.seq ?_
    refine J.cond rfl (fun c1 => ?_) (fun c1 => ?_)
    · replace H := ite_t c1 H
      refine J.skip ?_
      refine J.seq (J.block (J.seq (J.region ?_)))
      refine RJ.run ttok 2 rfl ?_
      refine RJ.fin [(0, _), (1, _), (5, .int .i64 x1), (7, _), (8, _)] rfl ?_
      refine J.seq (J.region ?_)
      refine RJ.run ttok 3 rfl ?_
      obtain ⟨⟨p1, p2⟩, H⟩ := guard_t H
      have e1 := elem_A h1.wh (Gives.self 1 rfl) p1 p2
      refine RJ.q rfl rfl (q_index ttok rfl rfl rfl rfl rfl e1 p1 p2) ?_
      refine RJ.q rfl rfl (q_load_elem (f := 0) ttok rfl h1.wht (Gives.self 1 rfl) p1 p2 rfl rfl rfl rfl rfl) ?_
      obtain ⟨r1, q1, H⟩ := bind_t H
      refine RJ.op rfl rfl (op_callC (vs := [.string ⟨⟨(gt a0 x1)⟩⟩]) (cs := [.pointer (some ⟨b1, 0, none⟩)]) [0] (node_inner_1.spec q1) rfl rfl rfl h1 rfl gnil) ?_
      rintro _ w2 ⟨_, ⟨rfl, rfl⟩, h2⟩
      replace h2 : St w0 F0 [_] _ _ := h2
      refine RJ.fin [(0, _), (1, _), (5, _), (7, _), (8, _), (16, .bool r1)] rfl ?_
      refine J.cond rfl (fun c2 => ?_) (fun c2 => ?_)
      · replace H := ite_t c2 H
        refine J.seq (J.region ?_)
        refine RJ.run ttok 2 rfl ?_
        refine RJ.fin [(4, .int .i64 x1)] rfl ?_
        refine J.ret ?_
        obtain rfl := Option.some.inj H
        exact ⟨_, _, _, (results_slots rfl), ⟨rfl, rfl⟩, h2.only [0] rfl⟩
      replace H := ite_f c2 H
      refine J.skip ?_
      refine J.region ?_
      refine RJ.run ttok 2 rfl ?_
      refine RJ.fin [(0, _), (1, _), (7, _), (8, .int .i64 (w64 (x1 + 1)))] rfl ?_
      have h3 := ((h2.only [0] rfl).rds [0] rfl)
      exact ⟨k1, by omega, (w64 (x1 + 1)), rfl, h3, H⟩
    replace H := ite_f c1 H
    refine J.exit ?_
    refine J.seq (J.region ?_)
    refine RJ.run ttok 1 rfl ?_
    refine RJ.fin [(4, .int .i64 (-1))] rfl ?_
    refine J.ret ?_
    obtain rfl := Option.some.inj H
    exact ⟨_, _, _, (results_slots rfl), ⟨rfl, rfl⟩, h1.only [0] rfl⟩

/-! slices.ContainsFunc[[]string,string] -/
def slices_ContainsFunc_string_string_node_inner_1.f (k : Nat) (a0 : List (List UInt8)) (a2 : Int × Int × Int × Int × Int × Int × Int × Int) : Option (Bool) := (slices_IndexFunc_string_string_node_inner_1.f k a0 (a2.1, a2.2.1, a2.2.2.1, a2.2.2.2.1, a2.2.2.2.2.1, a2.2.2.2.2.2.1, a2.2.2.2.2.2.2.1, a2.2.2.2.2.2.2.2)).bind fun r1 => (some (decide (0 ≤ r1)))
set_option maxRecDepth 20000 in
set_option maxHeartbeats 40000000 in
theorem slices_ContainsFunc_string_string_node_inner_1.spec {k : Nat} {a0 : List (List UInt8)} {a2 : Int × Int × Int × Int × Int × Int × Int × Int} {A1 : Option Addr} {c_1 : Nat} {b1 : Nat} {r : Bool} (H : slices_ContainsFunc_string_string_node_inner_1.f k a0 a2 = some r) :
    Spec Try.prog 110 [.slice A1 a0.length c_1, .func (.func 111) #[] #[.pointer (some ⟨b1, 0, none⟩)]] [boxC b1 23 [.int .i64 a2.1, .int .i64 a2.2.1, .int .i64 a2.2.2.1, .int .i64 a2.2.2.2.1, .int .i64 a2.2.2.2.2.1, .int .i64 a2.2.2.2.2.2.1, .int .i64 a2.2.2.2.2.2.2.1, .int .i64 a2.2.2.2.2.2.2.2]] [rdC 9 .str a0 (.slice A1 a0.length c_1)] (fun v l => v = .bool r ∧ l = [boxC b1 23 [.int .i64 a2.1, .int .i64 a2.2.1, .int .i64 a2.2.2.1, .int .i64 a2.2.2.2.1, .int .i64 a2.2.2.2.2.1, .int .i64 a2.2.2.2.2.2.1, .int .i64 a2.2.2.2.2.2.2.1, .int .i64 a2.2.2.2.2.2.2.2]]) := by
  refine Spec.enter Try.func110 rfl (by kernel_rfl) (by kernel_rfl) fun w0 F0 h0 => ?_
  unfold slices_ContainsFunc_string_string_node_inner_1.f at H
  refine J.seq (J.region ?_)
  refine RJ.run ttok 1 rfl ?_
  refine RJ.fin [(0, .slice A1 a0.length c_1), (1, .func (.func 111) #[] #[.pointer (some ⟨b1, 0, none⟩)])] rfl ?_
  refine J.seq (J.region ?_)
  refine RJ.run ttok 2 rfl ?_
  obtain ⟨r1, q1, H⟩ := bind_t H
  refine RJ.op rfl rfl (op_call [0] (slices_IndexFunc_string_string_node_inner_1.spec q1) rfl rfl rfl h0 rfl (gcons (Gives.self 0 rfl) gnil)) ?_
  rintro _ w1 ⟨_, ⟨rfl, rfl⟩, h1⟩
  replace h1 : St w0 F0 [boxC b1 23 [.int .i64 a2.1, .int .i64 a2.2.1, .int .i64 a2.2.2.1, .int .i64 a2.2.2.2.1, .int .i64 a2.2.2.2.2.1, .int .i64 a2.2.2.2.2.2.1, .int .i64 a2.2.2.2.2.2.2.1, .int .i64 a2.2.2.2.2.2.2.2]] _ _ := h1
  refine RJ.run ttok 2 rfl ?_
  refine RJ.fin [(4, .bool (decide (0 ≤ r1)))] rfl ?_
  refine J.ret ?_
  obtain rfl := Option.some.inj H
  exact ⟨_, _, _, (results_slots rfl), ⟨rfl, rfl⟩, h1.only [0] rfl⟩

/-! sluicegate/buf.Right -/
def buf_Right.l0 : Nat → (List (List UInt8 × Bool × List UInt8)) → (Int) → Option (Bool)
  | 0, _, _ => none
  | k + 1, a0, x1 => if (decide (x1 < (w64 ((a0.length : Int) - 1)))) = true then (if 0 ≤ x1 ∧ x1 < (a0.length : Int) then (if 0 ≤ (w64 (x1 + 1)) ∧ (w64 (x1 + 1)) < (a0.length : Int) then ((lex_Compare.f ((gt a0 x1).1) ((gt a0 (w64 (x1 + 1))).1)).bind fun r1 => (if (decide (0 ≤ r1)) = true then (some false) else (buf_Right.l0 k a0 (w64 (x1 + 1))))) else none) else none) else (some true)
def buf_Right.f (k : Nat) (a0 : List (List UInt8 × Bool × List UInt8)) : Option (Bool) := buf_Right.l0 k a0 0
set_option maxRecDepth 20000 in
set_option maxHeartbeats 40000000 in
theorem buf_Right.spec {k : Nat} {a0 : List (List UInt8 × Bool × List UInt8)} {A1 : Option Addr} {c_1 : Nat} {r : Bool} (H : buf_Right.f k a0 = some r) :
    Spec Try.prog 112 [.slice A1 a0.length c_1] [] [rdC 48 (.pair .str (.pair .bool .str)) a0 (.slice A1 a0.length c_1)] (fun v l => v = .bool r ∧ l = []) := by
  refine Spec.enter Try.func112 rfl (by kernel_rfl) (by kernel_rfl) fun w0 F0 h0 => ?_
  unfold buf_Right.f at H
  refine J.seq (J.region ?_)
  refine RJ.run ttok 1 rfl ?_
  refine RJ.fin [(0, .slice A1 a0.length c_1)] rfl ?_
  refine J.seq (J.seq (J.region ?_))
  refine RJ.run ttok 4 rfl ?_
  refine RJ.fin [(0, _), (6, .int .i64 (w64 ((a0.length : Int) - 1))), (7, .int .i64 0)] rfl ?_
  refine J.block ?_
  have h5 := ((h0.only [] rfl).rds [0] rfl)
  refine J.loop (fun kk env w => ∃ (x1 : Int), env = [(0, .slice A1 a0.length c_1), (6, .int .i64 (w64 ((a0.length : Int) - 1))), (7, .int .i64 x1)] ∧ St w0 F0 [] [rdC 48 (.pair .str (.pair .bool .str)) a0 (.slice A1 a0.length c_1)] w ∧ buf_Right.l0 kk a0 x1 = some r) (k := k) ⟨0, rfl, h5, H⟩ ?_
  rintro k1 env w1 ⟨x1, rfl, h1, H⟩
  cases k1 with
  | zero => exact nomatch (show none = some r from H)
  | succ k1 =>
    rw [buf_Right.l0] at H
    refine J.seq (J.region ?_)
    refine RJ.run ttok 1 rfl ?_
    refine RJ.fin [(0, _), (6, _), (7, _), (8, .bool (decide (x1 < (w64 ((a0.length : Int) - 1)))))] rfl ?_
    refine J.seq ?_
    refine J.cond rfl (fun c1 => ?_) (fun c1 => ?_)
    · replace H := ite_t c1 H
      refine J.skip ?_
      refine J.seq (J.block (J.seq (J.region ?_)))
      refine RJ.run ttok 2 rfl ?_
      refine RJ.fin [(0, _), (3, .int .i64 x1), (6, _), (7, _)] rfl ?_
      refine J.seq ?_
      refine J.heldSt mix h1 ?_
      have h2 := h1.drew
      refine HJ.run ttok rfl [0, 1, 5, 6, 7] rfl ?_
      obtain ⟨⟨p1, p2⟩, H⟩ := guard_t H
      have e1 := elem_A h2.wh (Gives.self 0 rfl) p1 p2
      refine HJ.q (i := 2) rfl rfl rfl rfl rfl rfl (q_index ttok rfl rfl rfl rfl rfl e1 p1 p2) ?_
      refine HJ.run ttok rfl [3] rfl ?_
      refine HJ.q (i := 4) rfl rfl rfl rfl rfl rfl (q_load_elem (f := 0) ttok rfl (fun w e => e) (Gives.self 0 rfl) p1 p2 rfl rfl rfl rfl rfl) ?_
      obtain ⟨⟨p3, p4⟩, H⟩ := guard_t H
      refine HJ.q (i := 8) rfl rfl rfl rfl rfl rfl (q_index ttok rfl rfl rfl rfl rfl e1 p3 p4) ?_
      refine HJ.run ttok rfl [9] rfl ?_
      refine HJ.q (i := 10) rfl rfl rfl rfl rfl rfl (q_load_elem (f := 0) ttok rfl (fun w e => e) (Gives.self 0 rfl) p3 p4 rfl rfl rfl rfl rfl) ?_
      obtain ⟨r1, q1, H⟩ := bind_t H
      refine HJ.op (i := 11) rfl rfl rfl rfl rfl (op_call [] (lex_Compare.spec q1) rfl rfl rfl h2 rfl gnil) ?_
      rintro _ w2 ⟨_, ⟨rfl, rfl⟩, h3⟩
      replace h3 : St w0 F0 [] _ _ := h3
      refine ⟨⟨[], h3⟩, ?_⟩
      refine HJ.run ttok rfl [12] rfl ?_
      refine HJ.fin [(0, _), (6, _), (7, _), (22, .bool (decide (0 ≤ r1)))] rfl rfl ?_
      refine J.cond rfl (fun c2 => ?_) (fun c2 => ?_)
      · replace H := ite_t c2 H
        refine J.seq (J.region ?_)
        refine RJ.run ttok 1 rfl ?_
        refine RJ.fin [(2, .bool false)] rfl ?_
        refine J.ret ?_
        obtain rfl := Option.some.inj H
        exact ⟨_, _, _, (results_slots rfl), ⟨rfl, rfl⟩, h3.only [] rfl⟩
      replace H := ite_f c2 H
      refine J.skip ?_
      refine J.region ?_
      refine RJ.run ttok 2 rfl ?_
      refine RJ.fin [(0, _), (6, _), (7, .int .i64 (w64 (x1 + 1)))] rfl ?_
      have h4 := ((h3.only [] rfl).rds [0] rfl)
      exact ⟨k1, by omega, (w64 (x1 + 1)), rfl, h4, H⟩
    replace H := ite_f c1 H
    refine J.exit ?_
    refine J.seq (J.region ?_)
    refine RJ.run ttok 1 rfl ?_
    refine RJ.fin [(2, .bool true)] rfl ?_
    refine J.ret ?_
    obtain rfl := Option.some.inj H
    exact ⟨_, _, _, (results_slots rfl), ⟨rfl, rfl⟩, h1.only [] rfl⟩

/-! sluicegate/node.inner$2 -/
def node_inner_2.f (a0 : List UInt8 × Bool × List UInt8) (a1 : Int × Int × Int × Int × Int × Int × Int × Int) (a2 : List UInt8 × List UInt8 × Bool) : Option (Bool) := (node_Key.f (a1.1, a1.2.1, a1.2.2.1, a1.2.2.2.1, a1.2.2.2.2.1, a1.2.2.2.2.2.1, a1.2.2.2.2.2.2.1, a1.2.2.2.2.2.2.2) a0.1).bind fun r1 => (if (!r1) = true then (some true) else ((lex_In.f (a2.1, a2.2.1, a2.2.2) a0.1).bind fun r2 => (if (!r2) = true then (some true) else (if (decide (a1.2.2.2.2.2.2.2 < (a0.2.2.length : Int))) = true then (some true) else (if a0.2.1 = true then (some (!decide (a0.2.2 = ([] : List UInt8)))) else (some false))))))
set_option maxRecDepth 20000 in
set_option maxHeartbeats 40000000 in
theorem node_inner_2.spec {a0 : List UInt8 × Bool × List UInt8} {a1 : Int × Int × Int × Int × Int × Int × Int × Int} {a2 : List UInt8 × List UInt8 × Bool} {b1 : Nat} {b2 : Nat} {r : Bool} (H : node_inner_2.f a0 a1 a2 = some r) :
    Spec Try.prog 114 [.agg #[.string ⟨⟨a0.1⟩⟩, .bool a0.2.1, .string ⟨⟨a0.2.2⟩⟩], .pointer (some ⟨b1, 0, none⟩), .pointer (some ⟨b2, 0, none⟩)] [boxC b1 23 [.int .i64 a1.1, .int .i64 a1.2.1, .int .i64 a1.2.2.1, .int .i64 a1.2.2.2.1, .int .i64 a1.2.2.2.2.1, .int .i64 a1.2.2.2.2.2.1, .int .i64 a1.2.2.2.2.2.2.1, .int .i64 a1.2.2.2.2.2.2.2], boxC b2 25 [.string ⟨⟨a2.1⟩⟩, .string ⟨⟨a2.2.1⟩⟩, .bool a2.2.2]] [] (fun v l => v = .bool r ∧ l = [boxC b1 23 [.int .i64 a1.1, .int .i64 a1.2.1, .int .i64 a1.2.2.1, .int .i64 a1.2.2.2.1, .int .i64 a1.2.2.2.2.1, .int .i64 a1.2.2.2.2.2.1, .int .i64 a1.2.2.2.2.2.2.1, .int .i64 a1.2.2.2.2.2.2.2], boxC b2 25 [.string ⟨⟨a2.1⟩⟩, .string ⟨⟨a2.2.1⟩⟩, .bool a2.2.2]]) := by
  refine Spec.enter Try.func114 rfl (by kernel_rfl) (by kernel_rfl) fun w0 F0 h0 => ?_
  unfold node_inner_2.f at H
  refine J.seq (J.region ?_)
  refine RJ.op rfl rfl (op_box rfl rfl h0) ?_
  rintro _ w1 ⟨b3, rfl, h1⟩
  replace h1 : St w0 F0 [boxC b3 48 [.string ⟨⟨a0.1⟩⟩, .bool a0.2.1, .string ⟨⟨a0.2.2⟩⟩], boxC b1 23 [.int .i64 a1.1, .int .i64 a1.2.1, .int .i64 a1.2.2.1, .int .i64 a1.2.2.2.1, .int .i64 a1.2.2.2.2.1, .int .i64 a1.2.2.2.2.2.1, .int .i64 a1.2.2.2.2.2.2.1, .int .i64 a1.2.2.2.2.2.2.2], boxC b2 25 [.string ⟨⟨a2.1⟩⟩, .string ⟨⟨a2.2.1⟩⟩, .bool a2.2.2]] _ _ := h1
  refine RJ.run ttok 1 rfl ?_
  refine RJ.fin [(1, .pointer (some ⟨b1, 0, none⟩)), (2, .pointer (some ⟨b2, 0, none⟩)), (3, .pointer (some ⟨b3, 0, none⟩))] rfl ?_
  refine J.seq (J.region ?_)
  refine RJ.q rfl rfl (q_load_box ttok 1 h1.wht rfl rfl rfl rfl rfl) ?_
  refine RJ.run ttok 1 rfl ?_
  refine RJ.q rfl rfl (q_load_box ttok 0 h1.wht rfl rfl rfl rfl rfl) ?_
  obtain ⟨r1, q1, H⟩ := bind_t H
  refine RJ.op rfl rfl (op_call [] (node_Key.spec q1) rfl rfl rfl h1 rfl gnil) ?_
  rintro _ w2 ⟨_, ⟨rfl, rfl⟩, h2⟩
  replace h2 : St w0 F0 [_, _, _] _ _ := h2
  refine RJ.run ttok 2 rfl ?_
  rcases Bool.eq_false_or_eq_true (!r1) with c1 | c1
  · replace H := ite_t c1 H
    refine RJ.know (t := 10) rfl (congrArg Value.bool c1) ?_
    refine RJ.run ttok 24 rfl ?_
    refine RJ.fin [(4, .bool true)] rfl ?_
    refine J.ret ?_
    obtain rfl := Option.some.inj H
    exact ⟨_, _, _, (results_slots rfl), ⟨rfl, rfl⟩, h2.only [1, 1] rfl⟩
  replace H := ite_f c1 H
  refine RJ.know (t := 10) rfl (congrArg Value.bool c1) ?_
  refine RJ.q rfl rfl (q_load_box ttok 2 h2.wht rfl rfl rfl rfl rfl) ?_
  refine RJ.run ttok 1 rfl ?_
  refine RJ.q rfl rfl (q_load_box ttok 0 h2.wht rfl rfl rfl rfl rfl) ?_
  obtain ⟨r2, q2, H⟩ := bind_t H
  refine RJ.op rfl rfl (op_call [] (lex_In.spec q2) rfl rfl rfl h2 rfl gnil) ?_
  rintro _ w3 ⟨_, ⟨rfl, rfl⟩, h3⟩
  replace h3 : St w0 F0 [_, _, _] _ _ := h3
  refine RJ.run ttok 3 rfl ?_
  rcases Bool.eq_false_or_eq_true (!r2) with c2 | c2
  · replace H := ite_t c2 H
    refine RJ.know (t := 17) rfl (congrArg Value.bool c2) ?_
    refine RJ.run ttok 17 rfl ?_
    refine RJ.fin [(4, .bool true)] rfl ?_
    refine J.ret ?_
    obtain rfl := Option.some.inj H
    exact ⟨_, _, _, (results_slots rfl), ⟨rfl, rfl⟩, h3.only [1, 1] rfl⟩
  replace H := ite_f c2 H
  refine RJ.know (t := 17) rfl (congrArg Value.bool c2) ?_
  refine RJ.run ttok 1 rfl ?_
  refine RJ.q rfl rfl (q_load_box ttok 0 h3.wht rfl rfl rfl rfl rfl) ?_
  refine RJ.run ttok 2 rfl ?_
  refine RJ.q rfl rfl (q_load_box ttok 1 h3.wht rfl rfl rfl rfl rfl) ?_
  refine RJ.run ttok 3 rfl ?_
  rcases Bool.eq_false_or_eq_true (decide (a1.2.2.2.2.2.2.2 < (a0.2.2.length : Int))) with c3 | c3
  · replace H := ite_t c3 H
    refine RJ.know (t := 25) rfl (congrArg Value.bool c3) ?_
    refine RJ.run ttok 9 rfl ?_
    refine RJ.fin [(4, .bool true)] rfl ?_
    refine J.ret ?_
    obtain rfl := Option.some.inj H
    exact ⟨_, _, _, (results_slots rfl), ⟨rfl, rfl⟩, h3.only [1, 1] rfl⟩
  replace H := ite_f c3 H
  refine RJ.know (t := 25) rfl (congrArg Value.bool c3) ?_
  refine RJ.run ttok 1 rfl ?_
  refine RJ.q rfl rfl (q_load_box ttok 0 h3.wht rfl rfl rfl rfl rfl) ?_
  refine RJ.run ttok 1 rfl ?_
  rcases Bool.eq_false_or_eq_true a0.2.1 with c4 | c4
  · replace H := ite_t c4 H
    refine RJ.know (t := 28) rfl (congrArg Value.bool c4) ?_
    refine RJ.run ttok 1 rfl ?_
    refine RJ.q rfl rfl (q_load_box ttok 0 h3.wht rfl rfl rfl rfl rfl) ?_
    refine RJ.run ttok 4 rfl ?_
    refine RJ.fin [(4, .bool (!decide (a0.2.2 = ([] : List UInt8))))] rfl ?_
    refine J.ret ?_
    obtain rfl := Option.some.inj H
    exact ⟨_, _, _, (results_slots rfl), ⟨rfl, rfl⟩, h3.only [1, 1] rfl⟩
  replace H := ite_f c4 H
  refine RJ.know (t := 28) rfl (congrArg Value.bool c4) ?_
  refine RJ.run ttok 6 rfl ?_
  refine RJ.fin [(4, .bool false)] rfl ?_
  refine J.ret ?_
  obtain rfl := Option.some.inj H
  exact ⟨_, _, _, (results_slots rfl), ⟨rfl, rfl⟩, h3.only [1, 1] rfl⟩

/-! slices.IndexFunc[[]sluicegate/api.Msg,sluicegate/api.Msg] -/
def slices_IndexFunc_api_Msg_api_Msg_node_inner_2.l0 : Nat → (List (List UInt8 × Bool × List UInt8)) → (Int × Int × Int × Int × Int × Int × Int × Int) → (List UInt8 × List UInt8 × Bool) → (Int) → Option (Int)
  | 0, _, _, _, _ => none
  | k + 1, a0, a2, a3, x1 => if (decide (x1 < (a0.length : Int))) = true then (if 0 ≤ x1 ∧ x1 < (a0.length : Int) then ((node_inner_2.f ((gt a0 x1).1, (gt a0 x1).2.1, (gt a0 x1).2.2) (a2.1, a2.2.1, a2.2.2.1, a2.2.2.2.1, a2.2.2.2.2.1, a2.2.2.2.2.2.1, a2.2.2.2.2.2.2.1, a2.2.2.2.2.2.2.2) (a3.1, a3.2.1, a3.2.2)).bind fun r1 => (if r1 = true then (some x1) else (slices_IndexFunc_api_Msg_api_Msg_node_inner_2.l0 k a0 a2 a3 (w64 (x1 + 1))))) else none) else (some (-1))
def slices_IndexFunc_api_Msg_api_Msg_node_inner_2.f (k : Nat) (a0 : List (List UInt8 × Bool × List UInt8)) (a2 : Int × Int × Int × Int × Int × Int × Int × Int) (a3 : List UInt8 × List UInt8 × Bool) : Option (Int) := slices_IndexFunc_api_Msg_api_Msg_node_inner_2.l0 k a0 a2 a3 0
set_option maxRecDepth 20000 in
set_option maxHeartbeats 40000000 in
theorem slices_IndexFunc_api_Msg_api_Msg_node_inner_2.spec {k : Nat} {a0 : List (List UInt8 × Bool × List UInt8)} {a2 : Int × Int × Int × Int × Int × Int × Int × Int} {a3 : List UInt8 × List UInt8 × Bool} {A1 : Option Addr} {c_1 : Nat} {b1 : Nat} {b2 : Nat} {r : Int} (H : slices_IndexFunc_api_Msg_api_Msg_node_inner_2.f k a0 a2 a3 = some r) :
    Spec Try.prog 121 [.slice A1 a0.length c_1, .func (.func 114) #[] #[.pointer (some ⟨b1, 0, none⟩), .pointer (some ⟨b2, 0, none⟩)]] [boxC b1 23 [.int .i64 a2.1, .int .i64 a2.2.1, .int .i64 a2.2.2.1, .int .i64 a2.2.2.2.1, .int .i64 a2.2.2.2.2.1, .int .i64 a2.2.2.2.2.2.1, .int .i64 a2.2.2.2.2.2.2.1, .int .i64 a2.2.2.2.2.2.2.2], boxC b2 25 [.string ⟨⟨a3.1⟩⟩, .string ⟨⟨a3.2.1⟩⟩, .bool a3.2.2]] [rdC 48 (.pair .str (.pair .bool .str)) a0 (.slice A1 a0.length c_1)] (fun v l => v = .int .i64 r ∧ l = [boxC b1 23 [.int .i64 a2.1, .int .i64 a2.2.1, .int .i64 a2.2.2.1, .int .i64 a2.2.2.2.1, .int .i64 a2.2.2.2.2.1, .int .i64 a2.2.2.2.2.2.1, .int .i64 a2.2.2.2.2.2.2.1, .int .i64 a2.2.2.2.2.2.2.2], boxC b2 25 [.string ⟨⟨a3.1⟩⟩, .string ⟨⟨a3.2.1⟩⟩, .bool a3.2.2]]) := by
  refine Spec.enter Try.func121 rfl (by kernel_rfl) (by kernel_rfl) fun w0 F0 h0 => ?_
  unfold slices_IndexFunc_api_Msg_api_Msg_node_inner_2.f at H
  refine J.seq (J.region ?_)
  refine RJ.run ttok 1 rfl ?_
  refine RJ.fin [(0, .slice A1 a0.length c_1), (1, .func (.func 114) #[] #[.pointer (some ⟨b1, 0, none⟩), .pointer (some ⟨b2, 0, none⟩)])] rfl ?_
  refine J.seq (J.seq (J.region ?_))
  refine RJ.run ttok 3 rfl ?_
  refine RJ.fin [(0, _), (1, _), (7, .int .i64 (a0.length : Int)), (8, .int .i64 0)] rfl ?_
  refine J.block ?_
  have h4 := ((h0.only [0, 0] rfl).rds [0] rfl)
  refine J.loop (fun kk env w => ∃ (x1 : Int), env = [(0, .slice A1 a0.length c_1), (1, .func (.func 114) #[] #[.pointer (some ⟨b1, 0, none⟩), .pointer (some ⟨b2, 0, none⟩)]), (7, .int .i64 (a0.length : Int)), (8, .int .i64 x1)] ∧ St w0 F0 [boxC b1 23 [.int .i64 a2.1, .int .i64 a2.2.1, .int .i64 a2.2.2.1, .int .i64 a2.2.2.2.1, .int .i64 a2.2.2.2.2.1, .int .i64 a2.2.2.2.2.2.1, .int .i64 a2.2.2.2.2.2.2.1, .int .i64 a2.2.2.2.2.2.2.2], boxC b2 25 [.string ⟨⟨a3.1⟩⟩, .string ⟨⟨a3.2.1⟩⟩, .bool a3.2.2]] [rdC 48 (.pair .str (.pair .bool .str)) a0 (.slice A1 a0.length c_1)] w ∧ slices_IndexFunc_api_Msg_api_Msg_node_inner_2.l0 kk a0 a2 a3 x1 = some r) (k := k) ⟨0, rfl, h4, H⟩ ?_
  rintro k1 env w1 ⟨x1, rfl, h1, H⟩
  cases k1 with
  | zero => exact nomatch (show none = some r from H)
  | succ k1 =>
    rw [slices_IndexFunc_api_Msg_api_Msg_node_inner_2.l0] at H
    refine J.seq (J.region ?_)
    refine RJ.run ttok 1 rfl ?_
    refine RJ.fin [(0, _), (1, _), (7, _), (8, _), (9, .bool (decide (x1 < (a0.length : Int))))] rfl ?_
    refine J.seq ?_
    refine J.cond rfl (fun c1 => ?_) (fun c1 => ?_)
    · replace H := ite_t c1 H
      refine J.skip ?_
      refine J.seq (J.block (J.seq (J.region ?_)))
      refine RJ.run ttok 2 rfl ?_
      refine RJ.fin [(0, _), (1, _), (5, .int .i64 x1), (7, _), (8, _)] rfl ?_
      refine J.seq (J.region ?_)
      refine RJ.run ttok 3 rfl ?_
      obtain ⟨⟨p1, p2⟩, H⟩ := guard_t H
      have e1 := elem_A h1.wh (Gives.self 2 rfl) p1 p2
      refine RJ.q rfl rfl (q_index ttok rfl rfl rfl rfl rfl e1 p1 p2) ?_
      refine RJ.q rfl rfl (q_load_elem (f := 0) ttok rfl h1.wht (Gives.self 2 rfl) p1 p2 rfl rfl rfl rfl rfl) ?_
      obtain ⟨r1, q1, H⟩ := bind_t H
      refine RJ.op rfl rfl (op_callC (vs := [.agg #[.string ⟨⟨(gt a0 x1).1⟩⟩, .bool ((gt a0 x1).2.1), .string ⟨⟨(gt a0 x1).2.2⟩⟩]]) (cs := [.pointer (some ⟨b1, 0, none⟩), .pointer (some ⟨b2, 0, none⟩)]) [0, 0] (node_inner_2.spec q1) rfl rfl rfl h1 rfl gnil) ?_
      rintro _ w2 ⟨_, ⟨rfl, rfl⟩, h2⟩
      replace h2 : St w0 F0 [_, _] _ _ := h2
      refine RJ.fin [(0, _), (1, _), (5, _), (7, _), (8, _), (16, .bool r1)] rfl ?_
      refine J.cond rfl (fun c2 => ?_) (fun c2 => ?_)
      · replace H := ite_t c2 H
        refine J.seq (J.region ?_)
        refine RJ.run ttok 2 rfl ?_
        refine RJ.fin [(4, .int .i64 x1)] rfl ?_
        refine J.ret ?_
        obtain rfl := Option.some.inj H
        exact ⟨_, _, _, (results_slots rfl), ⟨rfl, rfl⟩, h2.only [0, 0] rfl⟩
      replace H := ite_f c2 H
      refine J.skip ?_
      refine J.region ?_
      refine RJ.run ttok 2 rfl ?_
      refine RJ.fin [(0, _), (1, _), (7, _), (8, .int .i64 (w64 (x1 + 1)))] rfl ?_
      have h3 := ((h2.only [0, 0] rfl).rds [0] rfl)
      exact ⟨k1, by omega, (w64 (x1 + 1)), rfl, h3, H⟩
    replace H := ite_f c1 H
    refine J.exit ?_
    refine J.seq (J.region ?_)
    refine RJ.run ttok 1 rfl ?_
    refine RJ.fin [(4, .int .i64 (-1))] rfl ?_
    refine J.ret ?_
    obtain rfl := Option.some.inj H
    exact ⟨_, _, _, (results_slots rfl), ⟨rfl, rfl⟩, h1.only [0, 0] rfl⟩

/-! slices.ContainsFunc[[]sluicegate/api.Msg,sluicegate/api.Msg] -/
def slices_ContainsFunc_api_Msg_api_Msg_node_inner_2.f (k : Nat) (a0 : List (List UInt8 × Bool × List UInt8)) (a2 : Int × Int × Int × Int × Int × Int × Int × Int) (a3 : List UInt8 × List UInt8 × Bool) : Option (Bool) := (slices_IndexFunc_api_Msg_api_Msg_node_inner_2.f k a0 (a2.1, a2.2.1, a2.2.2.1, a2.2.2.2.1, a2.2.2.2.2.1, a2.2.2.2.2.2.1, a2.2.2.2.2.2.2.1, a2.2.2.2.2.2.2.2) (a3.1, a3.2.1, a3.2.2)).bind fun r1 => (some (decide (0 ≤ r1)))
set_option maxRecDepth 20000 in
set_option maxHeartbeats 40000000 in
theorem slices_ContainsFunc_api_Msg_api_Msg_node_inner_2.spec {k : Nat} {a0 : List (List UInt8 × Bool × List UInt8)} {a2 : Int × Int × Int × Int × Int × Int × Int × Int} {a3 : List UInt8 × List UInt8 × Bool} {A1 : Option Addr} {c_1 : Nat} {b1 : Nat} {b2 : Nat} {r : Bool} (H : slices_ContainsFunc_api_Msg_api_Msg_node_inner_2.f k a0 a2 a3 = some r) :
    Spec Try.prog 113 [.slice A1 a0.length c_1, .func (.func 114) #[] #[.pointer (some ⟨b1, 0, none⟩), .pointer (some ⟨b2, 0, none⟩)]] [boxC b1 23 [.int .i64 a2.1, .int .i64 a2.2.1, .int .i64 a2.2.2.1, .int .i64 a2.2.2.2.1, .int .i64 a2.2.2.2.2.1, .int .i64 a2.2.2.2.2.2.1, .int .i64 a2.2.2.2.2.2.2.1, .int .i64 a2.2.2.2.2.2.2.2], boxC b2 25 [.string ⟨⟨a3.1⟩⟩, .string ⟨⟨a3.2.1⟩⟩, .bool a3.2.2]] [rdC 48 (.pair .str (.pair .bool .str)) a0 (.slice A1 a0.length c_1)] (fun v l => v = .bool r ∧ l = [boxC b1 23 [.int .i64 a2.1, .int .i64 a2.2.1, .int .i64 a2.2.2.1, .int .i64 a2.2.2.2.1, .int .i64 a2.2.2.2.2.1, .int .i64 a2.2.2.2.2.2.1, .int .i64 a2.2.2.2.2.2.2.1, .int .i64 a2.2.2.2.2.2.2.2], boxC b2 25 [.string ⟨⟨a3.1⟩⟩, .string ⟨⟨a3.2.1⟩⟩, .bool a3.2.2]]) := by
  refine Spec.enter Try.func113 rfl (by kernel_rfl) (by kernel_rfl) fun w0 F0 h0 => ?_
  unfold slices_ContainsFunc_api_Msg_api_Msg_node_inner_2.f at H
  refine J.seq (J.region ?_)
  refine RJ.run ttok 1 rfl ?_
  refine RJ.fin [(0, .slice A1 a0.length c_1), (1, .func (.func 114) #[] #[.pointer (some ⟨b1, 0, none⟩), .pointer (some ⟨b2, 0, none⟩)])] rfl ?_
  refine J.seq (J.region ?_)
  refine RJ.run ttok 2 rfl ?_
  obtain ⟨r1, q1, H⟩ := bind_t H
  refine RJ.op rfl rfl (op_call [0, 0] (slices_IndexFunc_api_Msg_api_Msg_node_inner_2.spec q1) rfl rfl rfl h0 rfl (gcons (Gives.self 0 rfl) gnil)) ?_
  rintro _ w1 ⟨_, ⟨rfl, rfl⟩, h1⟩
  replace h1 : St w0 F0 [boxC b1 23 [.int .i64 a2.1, .int .i64 a2.2.1, .int .i64 a2.2.2.1, .int .i64 a2.2.2.2.1, .int .i64 a2.2.2.2.2.1, .int .i64 a2.2.2.2.2.2.1, .int .i64 a2.2.2.2.2.2.2.1, .int .i64 a2.2.2.2.2.2.2.2], boxC b2 25 [.string ⟨⟨a3.1⟩⟩, .string ⟨⟨a3.2.1⟩⟩, .bool a3.2.2]] _ _ := h1
  refine RJ.run ttok 2 rfl ?_
  refine RJ.fin [(4, .bool (decide (0 ≤ r1)))] rfl ?_
  refine J.ret ?_
  obtain rfl := Option.some.inj H
  exact ⟨_, _, _, (results_slots rfl), ⟨rfl, rfl⟩, h1.only [0, 0] rfl⟩

/-! sluicegate/node.inner -/
def node_inner.f (k : Nat) (a0 : Int × Int × Int × Int × Int × Int × Int × Int) (a1 : List UInt8 × List UInt8 × Bool) (a2 : Int × List (Int) × List (List UInt8) × (List (List UInt8 × Bool × List UInt8)) × (List (List UInt8 × List UInt8))) : Option (Bool) := if (decide (40 < a2.1)) = true then (some false) else (if (decide (0 < (a2.2.2.2.2.length : Int))) = true then (some false) else ((node_kids.f k (a0.1, a0.2.1, a0.2.2.1, a0.2.2.2.1, a0.2.2.2.2.1, a0.2.2.2.2.2.1, a0.2.2.2.2.2.2.1, a0.2.2.2.2.2.2.2) a2.2.1).bind fun r1 => (if (!r1) = true then (some false) else (if (!decide ((a2.2.2.1.length : Int) = (w64 ((a2.2.1.length : Int) - 1)))) = true then (some false) else ((fan_Right.f k a2.2.2.1 (a1.1, a1.2.1, a1.2.2)).bind fun r2 => (if (!r2) = true then (some false) else ((slices_ContainsFunc_string_string_node_inner_1.f k a2.2.2.1 (a0.1, a0.2.1, a0.2.2.1, a0.2.2.2.1, a0.2.2.2.2.1, a0.2.2.2.2.2.1, a0.2.2.2.2.2.2.1, a0.2.2.2.2.2.2.2)).bind fun r3 => (if r3 = true then (some false) else (if (decide (a0.2.2.2.2.1 < (a2.2.2.2.1.length : Int))) = true then (some false) else ((buf_Right.f k a2.2.2.2.1).bind fun r4 => (if (!r4) = true then (some false) else ((slices_ContainsFunc_api_Msg_api_Msg_node_inner_2.f k a2.2.2.2.1 (a0.1, a0.2.1, a0.2.2.1, a0.2.2.2.1, a0.2.2.2.2.1, a0.2.2.2.2.2.1, a0.2.2.2.2.2.2.1, a0.2.2.2.2.2.2.2) (a1.1, a1.2.1, a1.2.2)).bind fun r5 => (some (!r5))))))))))))))
set_option maxRecDepth 20000 in
set_option maxHeartbeats 40000000 in
theorem node_inner.spec {k : Nat} {a0 : Int × Int × Int × Int × Int × Int × Int × Int} {a1 : List UInt8 × List UInt8 × Bool} {a2 : Int × List (Int) × List (List UInt8) × (List (List UInt8 × Bool × List UInt8)) × (List (List UInt8 × List UInt8))} {A1 : Option Addr} {c_1 : Nat} {A2 : Option Addr} {c_2 : Nat} {A3 : Option Addr} {c_3 : Nat} {A4 : Option Addr} {c_4 : Nat} {r : Bool} (H : node_inner.f k a0 a1 a2 = some r) :
    Spec Try.prog 89 [.agg #[.int .i64 a0.1, .int .i64 a0.2.1, .int .i64 a0.2.2.1, .int .i64 a0.2.2.2.1, .int .i64 a0.2.2.2.2.1, .int .i64 a0.2.2.2.2.2.1, .int .i64 a0.2.2.2.2.2.2.1, .int .i64 a0.2.2.2.2.2.2.2], .agg #[.string ⟨⟨a1.1⟩⟩, .string ⟨⟨a1.2.1⟩⟩, .bool a1.2.2], .agg #[.int .i64 a2.1, .slice A1 a2.2.1.length c_1, .slice A2 a2.2.2.1.length c_2, .slice A3 a2.2.2.2.1.length c_3, .slice A4 a2.2.2.2.2.length c_4]] [] [rdC 46 (.int .u32) a2.2.1 (.slice A1 a2.2.1.length c_1), rdC 9 .str a2.2.2.1 (.slice A2 a2.2.2.1.length c_2), rdC 48 (.pair .str (.pair .bool .str)) a2.2.2.2.1 (.slice A3 a2.2.2.2.1.length c_3), rdC 50 (.pair .str .str) a2.2.2.2.2 (.slice A4 a2.2.2.2.2.length c_4)] (fun v l => v = .bool r ∧ l = []) := by
  refine Spec.enter Try.func89 rfl (by kernel_rfl) (by kernel_rfl) fun w0 F0 h0 => ?_
  unfold node_inner.f at H
  refine J.seq (J.region ?_)
  refine RJ.op rfl rfl (op_box rfl rfl h0) ?_
  rintro _ w1 ⟨b1, rfl, h1⟩
  replace h1 : St w0 F0 [boxC b1 23 [.int .i64 a0.1, .int .i64 a0.2.1, .int .i64 a0.2.2.1, .int .i64 a0.2.2.2.1, .int .i64 a0.2.2.2.2.1, .int .i64 a0.2.2.2.2.2.1, .int .i64 a0.2.2.2.2.2.2.1, .int .i64 a0.2.2.2.2.2.2.2]] _ _ := h1
  refine RJ.op rfl rfl (op_box rfl rfl h1) ?_
  rintro _ w2 ⟨b2, rfl, h2⟩
  replace h2 : St w0 F0 [boxC b2 25 [.string ⟨⟨a1.1⟩⟩, .string ⟨⟨a1.2.1⟩⟩, .bool a1.2.2], _] _ _ := h2
  refine RJ.op rfl rfl (op_box rfl rfl h2) ?_
  rintro _ w3 ⟨b3, rfl, h3⟩
  replace h3 : St w0 F0 [boxC b3 31 [.int .i64 a2.1, .slice A1 a2.2.1.length c_1, .slice A2 a2.2.2.1.length c_2, .slice A3 a2.2.2.2.1.length c_3, .slice A4 a2.2.2.2.2.length c_4], _, _] _ _ := h3
  refine RJ.run ttok 1 rfl ?_
  refine RJ.fin [(3, .pointer (some ⟨b1, 0, none⟩)), (4, .pointer (some ⟨b2, 0, none⟩)), (5, .pointer (some ⟨b3, 0, none⟩))] rfl ?_
  refine J.seq (J.seq (J.region ?_))
  refine RJ.run ttok 1 rfl ?_
  refine RJ.q rfl rfl (q_load_box ttok 0 h3.wht rfl rfl rfl rfl rfl) ?_
  refine RJ.run ttok 2 rfl ?_
  rcases Bool.eq_false_or_eq_true (decide (40 < a2.1)) with c1 | c1
  · replace H := ite_t c1 H
    refine RJ.know (t := 10) rfl (congrArg Value.bool c1) ?_
    refine RJ.run ttok 29 rfl ?_
    refine RJ.fin [(3, _), (4, _), (5, _), (39, .bool true)] rfl ?_
    refine J.condT rfl ?_
    refine J.seq (J.region ?_)
    refine RJ.run ttok 1 rfl ?_
    refine RJ.fin [(6, .bool false)] rfl ?_
    have h4 := h3.only [] rfl
    replace h4 : St w0 F0 [] _ _ := h4
    refine J.ret ?_
    obtain rfl := Option.some.inj H
    exact ⟨_, _, _, (results_slots rfl), ⟨rfl, rfl⟩, h4.only [] rfl⟩
  replace H := ite_f c1 H
  refine RJ.know (t := 10) rfl (congrArg Value.bool c1) ?_
  refine RJ.run ttok 1 rfl ?_
  refine RJ.q rfl rfl (q_load_box ttok 0 h3.wht rfl rfl rfl rfl rfl) ?_
  refine RJ.run ttok 4 rfl ?_
  rcases Bool.eq_false_or_eq_true (decide (0 < (a2.2.2.2.2.length : Int))) with c2 | c2
  · replace H := ite_t c2 H
    refine RJ.know (t := 16) rfl (congrArg Value.bool c2) ?_
    refine RJ.run ttok 23 rfl ?_
    refine RJ.fin [(3, _), (4, _), (5, _), (39, .bool true)] rfl ?_
    refine J.condT rfl ?_
    refine J.seq (J.region ?_)
    refine RJ.run ttok 1 rfl ?_
    refine RJ.fin [(6, .bool false)] rfl ?_
    have h5 := h3.only [] rfl
    replace h5 : St w0 F0 [] _ _ := h5
    refine J.ret ?_
    obtain rfl := Option.some.inj H
    exact ⟨_, _, _, (results_slots rfl), ⟨rfl, rfl⟩, h5.only [] rfl⟩
  replace H := ite_f c2 H
  refine RJ.know (t := 16) rfl (congrArg Value.bool c2) ?_
  refine RJ.q rfl rfl (q_load_box ttok 2 h3.wht rfl rfl rfl rfl rfl) ?_
  refine RJ.run ttok 1 rfl ?_
  refine RJ.q rfl rfl (q_load_box ttok 0 h3.wht rfl rfl rfl rfl rfl) ?_
  obtain ⟨r1, q1, H⟩ := bind_t H
  refine RJ.op rfl rfl (op_call [] (node_kids.spec q1) rfl rfl rfl h3 rfl (gcons (Gives.self 3 rfl) gnil)) ?_
  rintro _ w4 ⟨_, ⟨rfl, rfl⟩, h6⟩
  replace h6 : St w0 F0 [_, _, _] _ _ := h6
  refine RJ.run ttok 3 rfl ?_
  rcases Bool.eq_false_or_eq_true (!r1) with c3 | c3
  · replace H := ite_t c3 H
    refine RJ.know (t := 23) rfl (congrArg Value.bool c3) ?_
    refine RJ.run ttok 16 rfl ?_
    refine RJ.fin [(3, _), (4, _), (5, _), (39, .bool true)] rfl ?_
    refine J.condT rfl ?_
    refine J.seq (J.region ?_)
    refine RJ.run ttok 1 rfl ?_
    refine RJ.fin [(6, .bool false)] rfl ?_
    have h7 := h6.only [] rfl
    replace h7 : St w0 F0 [] _ _ := h7
    refine J.ret ?_
    obtain rfl := Option.some.inj H
    exact ⟨_, _, _, (results_slots rfl), ⟨rfl, rfl⟩, h7.only [] rfl⟩
  replace H := ite_f c3 H
  refine RJ.know (t := 23) rfl (congrArg Value.bool c3) ?_
  refine RJ.run ttok 1 rfl ?_
  refine RJ.q rfl rfl (q_load_box ttok 0 h6.wht rfl rfl rfl rfl rfl) ?_
  refine RJ.run ttok 2 rfl ?_
  refine RJ.q rfl rfl (q_load_box ttok 0 h6.wht rfl rfl rfl rfl rfl) ?_
  refine RJ.run ttok 5 rfl ?_
  rcases Bool.eq_false_or_eq_true (!decide ((a2.2.2.1.length : Int) = (w64 ((a2.2.1.length : Int) - 1)))) with c4 | c4
  · replace H := ite_t c4 H
    refine RJ.know (t := 33) rfl (congrArg Value.bool c4) ?_
    refine RJ.run ttok 6 rfl ?_
    refine RJ.fin [(3, _), (4, _), (5, _), (39, .bool true)] rfl ?_
    refine J.condT rfl ?_
    refine J.seq (J.region ?_)
    refine RJ.run ttok 1 rfl ?_
    refine RJ.fin [(6, .bool false)] rfl ?_
    have h8 := h6.only [] rfl
    replace h8 : St w0 F0 [] _ _ := h8
    refine J.ret ?_
    obtain rfl := Option.some.inj H
    exact ⟨_, _, _, (results_slots rfl), ⟨rfl, rfl⟩, h8.only [] rfl⟩
  replace H := ite_f c4 H
  refine RJ.know (t := 33) rfl (congrArg Value.bool c4) ?_
  refine RJ.run ttok 1 rfl ?_
  refine RJ.q rfl rfl (q_load_box ttok 0 h6.wht rfl rfl rfl rfl rfl) ?_
  refine RJ.q rfl rfl (q_load_box ttok 1 h6.wht rfl rfl rfl rfl rfl) ?_
  obtain ⟨r2, q2, H⟩ := bind_t H
  refine RJ.op rfl rfl (op_call [] (fan_Right.spec q2) rfl rfl rfl h6 rfl (gcons (Gives.self 4 rfl) gnil)) ?_
  rintro _ w5 ⟨_, ⟨rfl, rfl⟩, h9⟩
  replace h9 : St w0 F0 [_, _, _] _ _ := h9
  refine RJ.run ttok 2 rfl ?_
  refine RJ.fin [(3, _), (4, _), (5, _), (39, .bool (!r2))] rfl ?_
  refine J.cond rfl (fun c5 => ?_) (fun c5 => ?_)
  · replace H := ite_t c5 H
    refine J.seq (J.region ?_)
    refine RJ.run ttok 1 rfl ?_
    refine RJ.fin [(6, .bool false)] rfl ?_
    have h10 := h9.only [] rfl
    replace h10 : St w0 F0 [] _ _ := h10
    refine J.ret ?_
    obtain rfl := Option.some.inj H
    exact ⟨_, _, _, (results_slots rfl), ⟨rfl, rfl⟩, h10.only [] rfl⟩
  replace H := ite_f c5 H
  refine J.skip ?_
  refine J.seq (J.seq (J.region ?_))
  refine RJ.run ttok 1 rfl ?_
  refine RJ.q rfl rfl (q_load_box ttok 0 h9.wht rfl rfl rfl rfl rfl) ?_
  refine RJ.run ttok 1 rfl ?_
  obtain ⟨r3, q3, H⟩ := bind_t H
  refine RJ.op rfl rfl (op_call [2] (slices_ContainsFunc_string_string_node_inner_1.spec q3) rfl rfl rfl h9 rfl (gcons (Gives.self 3 rfl) gnil)) ?_
  rintro _ w6 ⟨_, ⟨rfl, rfl⟩, h11⟩
  replace h11 : St w0 F0 [_, _, _] _ _ := h11
  refine RJ.run ttok 1 rfl ?_
  rcases Bool.eq_false_or_eq_true r3 with c6 | c6
  · replace H := ite_t c6 H
    refine RJ.know (t := 44) rfl (congrArg Value.bool c6) ?_
    refine RJ.run ttok 13 rfl ?_
    refine RJ.fin [(3, _), (4, _), (5, _), (57, .bool true)] rfl ?_
    refine J.condT rfl ?_
    refine J.seq (J.region ?_)
    refine RJ.run ttok 1 rfl ?_
    refine RJ.fin [(6, .bool false)] rfl ?_
    have h12 := h11.only [] rfl
    replace h12 : St w0 F0 [] _ _ := h12
    refine J.ret ?_
    obtain rfl := Option.some.inj H
    exact ⟨_, _, _, (results_slots rfl), ⟨rfl, rfl⟩, h12.only [] rfl⟩
  replace H := ite_f c6 H
  refine RJ.know (t := 44) rfl (congrArg Value.bool c6) ?_
  refine RJ.run ttok 1 rfl ?_
  refine RJ.q rfl rfl (q_load_box ttok 1 h11.wht rfl rfl rfl rfl rfl) ?_
  refine RJ.run ttok 2 rfl ?_
  refine RJ.q rfl rfl (q_load_box ttok 0 h11.wht rfl rfl rfl rfl rfl) ?_
  refine RJ.run ttok 3 rfl ?_
  rcases Bool.eq_false_or_eq_true (decide (a0.2.2.2.2.1 < (a2.2.2.2.1.length : Int))) with c7 | c7
  · replace H := ite_t c7 H
    refine RJ.know (t := 52) rfl (congrArg Value.bool c7) ?_
    refine RJ.run ttok 5 rfl ?_
    refine RJ.fin [(3, _), (4, _), (5, _), (57, .bool true)] rfl ?_
    refine J.condT rfl ?_
    refine J.seq (J.region ?_)
    refine RJ.run ttok 1 rfl ?_
    refine RJ.fin [(6, .bool false)] rfl ?_
    have h13 := h11.only [] rfl
    replace h13 : St w0 F0 [] _ _ := h13
    refine J.ret ?_
    obtain rfl := Option.some.inj H
    exact ⟨_, _, _, (results_slots rfl), ⟨rfl, rfl⟩, h13.only [] rfl⟩
  replace H := ite_f c7 H
  refine RJ.know (t := 52) rfl (congrArg Value.bool c7) ?_
  refine RJ.run ttok 1 rfl ?_
  refine RJ.q rfl rfl (q_load_box ttok 1 h11.wht rfl rfl rfl rfl rfl) ?_
  obtain ⟨r4, q4, H⟩ := bind_t H
  refine RJ.op rfl rfl (op_call [] (buf_Right.spec q4) rfl rfl rfl h11 rfl (gcons (Gives.self 5 rfl) gnil)) ?_
  rintro _ w7 ⟨_, ⟨rfl, rfl⟩, h14⟩
  replace h14 : St w0 F0 [_, _, _] _ _ := h14
  refine RJ.run ttok 2 rfl ?_
  refine RJ.fin [(3, _), (4, _), (5, _), (57, .bool (!r4))] rfl ?_
  refine J.cond rfl (fun c8 => ?_) (fun c8 => ?_)
  · replace H := ite_t c8 H
    refine J.seq (J.region ?_)
    refine RJ.run ttok 1 rfl ?_
    refine RJ.fin [(6, .bool false)] rfl ?_
    have h15 := h14.only [] rfl
    replace h15 : St w0 F0 [] _ _ := h15
    refine J.ret ?_
    obtain rfl := Option.some.inj H
    exact ⟨_, _, _, (results_slots rfl), ⟨rfl, rfl⟩, h15.only [] rfl⟩
  replace H := ite_f c8 H
  refine J.skip ?_
  refine J.seq (J.region ?_)
  refine RJ.run ttok 1 rfl ?_
  refine RJ.q rfl rfl (q_load_box ttok 1 h14.wht rfl rfl rfl rfl rfl) ?_
  refine RJ.run ttok 1 rfl ?_
  obtain ⟨r5, q5, H⟩ := bind_t H
  refine RJ.op rfl rfl (op_call [0, 1] (slices_ContainsFunc_api_Msg_api_Msg_node_inner_2.spec q5) rfl rfl rfl h14 rfl (gcons (Gives.self 3 rfl) gnil)) ?_
  rintro _ w8 ⟨_, ⟨rfl, rfl⟩, h16⟩
  replace h16 : St w0 F0 [_, _, _] _ _ := h16
  refine RJ.run ttok 2 rfl ?_
  refine RJ.fin [(6, .bool (!r5))] rfl ?_
  have h17 := h16.only [] rfl
  replace h17 : St w0 F0 [] _ _ := h17
  refine J.ret ?_
  obtain rfl := Option.some.inj H
  exact ⟨_, _, _, (results_slots rfl), ⟨rfl, rfl⟩, h17.only [] rfl⟩

/-! sluicegate/node.Right -/
def node_Right.f (k : Nat) (a0 : Int × Int × Int × Int × Int × Int × Int × Int) (a1 : List UInt8 × List UInt8 × Bool) (a2 : Int × List (Int) × List (List UInt8) × (List (List UInt8 × Bool × List UInt8)) × (List (List UInt8 × List UInt8))) : Option (Bool) := if (decide (a2.1 < 0)) = true then (some false) else (if (decide (a2.1 = 0)) = true then ((node_outer.f k (a0.1, a0.2.1, a0.2.2.1, a0.2.2.2.1, a0.2.2.2.2.1, a0.2.2.2.2.2.1, a0.2.2.2.2.2.2.1, a0.2.2.2.2.2.2.2) (a1.1, a1.2.1, a1.2.2) (a2.1, a2.2.1, a2.2.2.1, a2.2.2.2.1, a2.2.2.2.2)).bind fun r1 => (some r1)) else ((node_inner.f k (a0.1, a0.2.1, a0.2.2.1, a0.2.2.2.1, a0.2.2.2.2.1, a0.2.2.2.2.2.1, a0.2.2.2.2.2.2.1, a0.2.2.2.2.2.2.2) (a1.1, a1.2.1, a1.2.2) (a2.1, a2.2.1, a2.2.2.1, a2.2.2.2.1, a2.2.2.2.2)).bind fun r2 => (some r2)))
set_option maxRecDepth 20000 in
set_option maxHeartbeats 40000000 in
theorem node_Right.spec {k : Nat} {a0 : Int × Int × Int × Int × Int × Int × Int × Int} {a1 : List UInt8 × List UInt8 × Bool} {a2 : Int × List (Int) × List (List UInt8) × (List (List UInt8 × Bool × List UInt8)) × (List (List UInt8 × List UInt8))} {A1 : Option Addr} {c_1 : Nat} {A2 : Option Addr} {c_2 : Nat} {A3 : Option Addr} {c_3 : Nat} {A4 : Option Addr} {c_4 : Nat} {r : Bool} (H : node_Right.f k a0 a1 a2 = some r) :
    Spec Try.prog 55 [.agg #[.int .i64 a0.1, .int .i64 a0.2.1, .int .i64 a0.2.2.1, .int .i64 a0.2.2.2.1, .int .i64 a0.2.2.2.2.1, .int .i64 a0.2.2.2.2.2.1, .int .i64 a0.2.2.2.2.2.2.1, .int .i64 a0.2.2.2.2.2.2.2], .agg #[.string ⟨⟨a1.1⟩⟩, .string ⟨⟨a1.2.1⟩⟩, .bool a1.2.2], .agg #[.int .i64 a2.1, .slice A1 a2.2.1.length c_1, .slice A2 a2.2.2.1.length c_2, .slice A3 a2.2.2.2.1.length c_3, .slice A4 a2.2.2.2.2.length c_4]] [] [rdC 46 (.int .u32) a2.2.1 (.slice A1 a2.2.1.length c_1), rdC 9 .str a2.2.2.1 (.slice A2 a2.2.2.1.length c_2), rdC 48 (.pair .str (.pair .bool .str)) a2.2.2.2.1 (.slice A3 a2.2.2.2.1.length c_3), rdC 50 (.pair .str .str) a2.2.2.2.2 (.slice A4 a2.2.2.2.2.length c_4)] (fun v l => v = .bool r ∧ l = []) := by
  refine Spec.enter Try.func55 rfl (by kernel_rfl) (by kernel_rfl) fun w0 F0 h0 => ?_
  unfold node_Right.f at H
  refine J.seq (J.region ?_)
  refine RJ.op rfl rfl (op_box rfl rfl h0) ?_
  rintro _ w1 ⟨b1, rfl, h1⟩
  replace h1 : St w0 F0 [boxC b1 23 [.int .i64 a0.1, .int .i64 a0.2.1, .int .i64 a0.2.2.1, .int .i64 a0.2.2.2.1, .int .i64 a0.2.2.2.2.1, .int .i64 a0.2.2.2.2.2.1, .int .i64 a0.2.2.2.2.2.2.1, .int .i64 a0.2.2.2.2.2.2.2]] _ _ := h1
  refine RJ.op rfl rfl (op_box rfl rfl h1) ?_
  rintro _ w2 ⟨b2, rfl, h2⟩
  replace h2 : St w0 F0 [boxC b2 25 [.string ⟨⟨a1.1⟩⟩, .string ⟨⟨a1.2.1⟩⟩, .bool a1.2.2], _] _ _ := h2
  refine RJ.op rfl rfl (op_box rfl rfl h2) ?_
  rintro _ w3 ⟨b3, rfl, h3⟩
  replace h3 : St w0 F0 [boxC b3 31 [.int .i64 a2.1, .slice A1 a2.2.1.length c_1, .slice A2 a2.2.2.1.length c_2, .slice A3 a2.2.2.2.1.length c_3, .slice A4 a2.2.2.2.2.length c_4], _, _] _ _ := h3
  refine RJ.run ttok 1 rfl ?_
  refine RJ.fin [(3, .pointer (some ⟨b1, 0, none⟩)), (4, .pointer (some ⟨b2, 0, none⟩)), (5, .pointer (some ⟨b3, 0, none⟩))] rfl ?_
  refine J.seq (J.block (J.seq (J.region ?_)))
  refine RJ.run ttok 1 rfl ?_
  refine RJ.q rfl rfl (q_load_box ttok 0 h3.wht rfl rfl rfl rfl rfl) ?_
  refine RJ.run ttok 2 rfl ?_
  refine RJ.fin [(3, _), (4, _), (5, _), (7, .bool (decide (a2.1 < 0)))] rfl ?_
  refine J.cond rfl (fun c1 => ?_) (fun c1 => ?_)
  · replace H := ite_t c1 H
    refine J.seq (J.region ?_)
    refine RJ.run ttok 1 rfl ?_
    refine RJ.fin [(6, .bool false)] rfl ?_
    have h4 := h3.only [] rfl
    replace h4 : St w0 F0 [] _ _ := h4
    refine J.ret ?_
    obtain rfl := Option.some.inj H
    exact ⟨_, _, _, (results_slots rfl), ⟨rfl, rfl⟩, h4.only [] rfl⟩
  replace H := ite_f c1 H
  refine J.seq (J.region ?_)
  refine RJ.run ttok 1 rfl ?_
  refine RJ.q rfl rfl (q_load_box ttok 0 h3.wht rfl rfl rfl rfl rfl) ?_
  refine RJ.run ttok 2 rfl ?_
  refine RJ.fin [(3, _), (4, _), (5, _), (11, .bool (decide (a2.1 = 0)))] rfl ?_
  refine J.cond rfl (fun c2 => ?_) (fun c2 => ?_)
  · replace H := ite_t c2 H
    refine J.seq (J.region ?_)
    refine RJ.q rfl rfl (q_load_box ttok 2 h3.wht rfl rfl rfl rfl rfl) ?_
    refine RJ.q rfl rfl (q_load_box ttok 1 h3.wht rfl rfl rfl rfl rfl) ?_
    refine RJ.q rfl rfl (q_load_box ttok 0 h3.wht rfl rfl rfl rfl rfl) ?_
    obtain ⟨r1, q1, H⟩ := bind_t H
    refine RJ.op rfl rfl (op_call [] (node_outer.spec q1) rfl rfl rfl h3 rfl (gcons (Gives.self 3 rfl) (gcons (Gives.self 4 rfl) (gcons (Gives.self 5 rfl) (gcons (Gives.self 6 rfl) gnil))))) ?_
    rintro _ w4 ⟨_, ⟨rfl, rfl⟩, h5⟩
    replace h5 : St w0 F0 [_, _, _] _ _ := h5
    refine RJ.run ttok 1 rfl ?_
    refine RJ.fin [(6, .bool r1)] rfl ?_
    have h6 := h5.only [] rfl
    replace h6 : St w0 F0 [] _ _ := h6
    refine J.ret ?_
    obtain rfl := Option.some.inj H
    exact ⟨_, _, _, (results_slots rfl), ⟨rfl, rfl⟩, h6.only [] rfl⟩
  replace H := ite_f c2 H
  refine J.skip ?_
  refine J.seq (J.region ?_)
  refine RJ.q rfl rfl (q_load_box ttok 2 h3.wht rfl rfl rfl rfl rfl) ?_
  refine RJ.q rfl rfl (q_load_box ttok 1 h3.wht rfl rfl rfl rfl rfl) ?_
  refine RJ.q rfl rfl (q_load_box ttok 0 h3.wht rfl rfl rfl rfl rfl) ?_
  obtain ⟨r2, q2, H⟩ := bind_t H
  refine RJ.op rfl rfl (op_call [] (node_inner.spec q2) rfl rfl rfl h3 rfl (gcons (Gives.self 3 rfl) (gcons (Gives.self 4 rfl) (gcons (Gives.self 5 rfl) (gcons (Gives.self 6 rfl) gnil))))) ?_
  rintro _ w5 ⟨_, ⟨rfl, rfl⟩, h7⟩
  replace h7 : St w0 F0 [_, _, _] _ _ := h7
  refine RJ.run ttok 1 rfl ?_
  refine RJ.fin [(6, .bool r2)] rfl ?_
  have h8 := h7.only [] rfl
  replace h8 : St w0 F0 [] _ _ := h8
  refine J.ret ?_
  obtain rfl := Option.some.inj H
  exact ⟨_, _, _, (results_slots rfl), ⟨rfl, rfl⟩, h8.only [] rfl⟩

/-! sluicegate/sluicegateref13.Key -/
def sluicegateref13_Key.f (a0 : Int × Int × Int × Int × Int × Int × Int × Int) (a1 : List UInt8) : Option (Bool) := if (decide (1 ≤ (a1.length : Int))) = true then (some (decide ((a1.length : Int) ≤ a0.2.2.2.2.2.2.1))) else (some false)
set_option maxRecDepth 20000 in
set_option maxHeartbeats 40000000 in
theorem sluicegateref13_Key.spec {a0 : Int × Int × Int × Int × Int × Int × Int × Int} {a1 : List UInt8}  {r : Bool} (H : sluicegateref13_Key.f a0 a1 = some r) :
    Spec Try.prog 26 [.agg #[.int .i64 a0.1, .int .i64 a0.2.1, .int .i64 a0.2.2.1, .int .i64 a0.2.2.2.1, .int .i64 a0.2.2.2.2.1, .int .i64 a0.2.2.2.2.2.1, .int .i64 a0.2.2.2.2.2.2.1, .int .i64 a0.2.2.2.2.2.2.2], .string ⟨⟨a1⟩⟩] [] [] (fun v l => v = .bool r ∧ l = []) := by
  refine Spec.enter Try.func26 rfl (by kernel_rfl) (by kernel_rfl) fun w0 F0 h0 => ?_
  unfold sluicegateref13_Key.f at H
  refine J.seq (J.region ?_)
  refine RJ.op rfl rfl (op_box rfl rfl h0) ?_
  rintro _ w1 ⟨b1, rfl, h1⟩
  replace h1 : St w0 F0 [boxC b1 23 [.int .i64 a0.1, .int .i64 a0.2.1, .int .i64 a0.2.2.1, .int .i64 a0.2.2.2.1, .int .i64 a0.2.2.2.2.1, .int .i64 a0.2.2.2.2.2.1, .int .i64 a0.2.2.2.2.2.2.1, .int .i64 a0.2.2.2.2.2.2.2]] _ _ := h1
  refine RJ.run ttok 1 rfl ?_
  refine RJ.fin [(1, .string ⟨⟨a1⟩⟩), (2, .pointer (some ⟨b1, 0, none⟩))] rfl ?_
  refine J.seq (J.region ?_)
  refine RJ.run ttok 4 rfl ?_
  rcases Bool.eq_false_or_eq_true (decide (1 ≤ (a1.length : Int))) with c1 | c1
  · replace H := ite_t c1 H
    refine RJ.know (t := 8) rfl (congrArg Value.bool c1) ?_
    refine RJ.run ttok 3 rfl ?_
    refine RJ.q rfl rfl (q_load_box ttok 0 h1.wht rfl rfl rfl rfl rfl) ?_
    refine RJ.run ttok 3 rfl ?_
    refine RJ.fin [(4, .bool (decide ((a1.length : Int) ≤ a0.2.2.2.2.2.2.1)))] rfl ?_
    refine J.ret ?_
    obtain rfl := Option.some.inj H
    exact ⟨_, _, _, (results_slots rfl), ⟨rfl, rfl⟩, h1.only [] rfl⟩
  replace H := ite_f c1 H
  refine RJ.know (t := 8) rfl (congrArg Value.bool c1) ?_
  refine RJ.run ttok 7 rfl ?_
  refine RJ.fin [(4, .bool false)] rfl ?_
  refine J.ret ?_
  obtain rfl := Option.some.inj H
  exact ⟨_, _, _, (results_slots rfl), ⟨rfl, rfl⟩, h1.only [] rfl⟩

/-! sluicegate/sluicegateref01.Compare -/
def sluicegateref01_Compare.l0 : Nat → (List UInt8) → (List UInt8) → (Int) → Option (Int)
  | 0, _, _, _ => none
  | k + 1, a0, a1, x1 => if (decide (x1 < (a0.length : Int))) = true then (if (decide (x1 < (a1.length : Int))) = true then (if 0 ≤ x1 ∧ x1 < (a0.length : Int) then (if 0 ≤ x1 ∧ x1 < (a1.length : Int) then (if (decide ((gtb a0 x1) < (gtb a1 x1))) = true then (some (-1)) else (if (decide ((gtb a1 x1) < (gtb a0 x1))) = true then (some 1) else (sluicegateref01_Compare.l0 k a0 a1 (w64 (x1 + 1))))) else none) else none) else (if (decide ((a0.length : Int) < (a1.length : Int))) = true then (some (-1)) else (if (decide ((a1.length : Int) < (a0.length : Int))) = true then (some 1) else (some 0)))) else (if (decide ((a0.length : Int) < (a1.length : Int))) = true then (some (-1)) else (if (decide ((a1.length : Int) < (a0.length : Int))) = true then (some 1) else (some 0)))
def sluicegateref01_Compare.f (k : Nat) (a0 : List UInt8) (a1 : List UInt8) : Option (Int) := sluicegateref01_Compare.l0 k a0 a1 0
set_option maxRecDepth 20000 in
set_option maxHeartbeats 40000000 in
theorem sluicegateref01_Compare.spec {k : Nat} {a0 : List UInt8} {a1 : List UInt8}  {r : Int} (H : sluicegateref01_Compare.f k a0 a1 = some r) :
    Spec Try.prog 52 [.string ⟨⟨a0⟩⟩, .string ⟨⟨a1⟩⟩] [] [] (fun v l => v = .int .i64 r ∧ l = []) := by
  refine Spec.enter Try.func52 rfl (by kernel_rfl) (by kernel_rfl) fun w0 F0 h0 => ?_
  unfold sluicegateref01_Compare.f at H
  refine J.seq (J.region ?_)
  refine RJ.run ttok 1 rfl ?_
  refine RJ.fin [(0, .string ⟨⟨a0⟩⟩), (1, .string ⟨⟨a1⟩⟩)] rfl ?_
  refine J.seq (J.seq (J.region ?_))
  refine RJ.run ttok 1 rfl ?_
  refine RJ.fin [(0, _), (1, _), (5, .int .i64 0)] rfl ?_
  refine J.block ?_
  have h5 := ((h0.only [] rfl).rds [] rfl)
  refine J.loop (fun kk env w => ∃ (x1 : Int), env = [(0, .string ⟨⟨a0⟩⟩), (1, .string ⟨⟨a1⟩⟩), (5, .int .i64 x1)] ∧ St w0 F0 [] [] w ∧ sluicegateref01_Compare.l0 kk a0 a1 x1 = some r) (k := k) ⟨0, rfl, h5, H⟩ ?_
  rintro k1 env w1 ⟨x1, rfl, h1, H⟩
  cases k1 with
  | zero => exact nomatch (show none = some r from H)
  | succ k1 =>
    rw [sluicegateref01_Compare.l0] at H
    refine J.seq (J.seq (J.region ?_))
    refine RJ.run ttok 5 rfl ?_
    rcases Bool.eq_false_or_eq_true (decide (x1 < (a0.length : Int))) with c1 | c1
    · replace H := ite_t c1 H
      refine RJ.know (t := 10) rfl (congrArg Value.bool c1) ?_
      refine RJ.run ttok 5 rfl ?_
      refine RJ.fin [(0, _), (1, _), (5, _), (15, .bool (decide (x1 < (a1.length : Int))))] rfl ?_
      refine J.cond rfl (fun c2 => ?_) (fun c2 => ?_)
      · replace H := ite_t c2 H
        refine J.skip ?_
        refine J.seq (J.block (J.seq (J.seq ?_)))
        refine J.heldSt mix h1 ?_
        have h2 := h1.drew
        refine HJ.run ttok rfl [0, 1, 3, 4] rfl ?_
        obtain ⟨⟨p1, p2⟩, H⟩ := guard_t H
        refine HJ.q (i := 2) rfl rfl rfl rfl rfl rfl (q_byte ttok rfl rfl rfl rfl p1 p2) ?_
        obtain ⟨⟨p3, p4⟩, H⟩ := guard_t H
        refine HJ.q (i := 5) rfl rfl rfl rfl rfl rfl (q_byte ttok rfl rfl rfl rfl p3 p4) ?_
        refine HJ.run ttok rfl [6] rfl ?_
        refine HJ.fin [(0, _), (1, _), (5, _), (24, .bool (decide ((gtb a0 x1) < (gtb a1 x1))))] rfl rfl ?_
        refine J.cond rfl (fun c3 => ?_) (fun c3 => ?_)
        · replace H := ite_t c3 H
          refine J.seq (J.region ?_)
          refine RJ.run ttok 1 rfl ?_
          refine RJ.fin [(4, .int .i64 (-1))] rfl ?_
          refine J.ret ?_
          obtain rfl := Option.some.inj H
          exact ⟨_, _, _, (results_slots rfl), ⟨rfl, rfl⟩, h2.only [] rfl⟩
        replace H := ite_f c3 H
        refine J.skip ?_
        refine J.seq ?_
        refine J.heldSt mix h2 ?_
        have h3 := h2.drew
        refine HJ.run ttok rfl [0, 1, 3, 4] rfl ?_
        refine HJ.q (i := 2) rfl rfl rfl rfl rfl rfl (q_byte ttok rfl rfl rfl rfl p1 p2) ?_
        refine HJ.q (i := 5) rfl rfl rfl rfl rfl rfl (q_byte ttok rfl rfl rfl rfl p3 p4) ?_
        refine HJ.run ttok rfl [6] rfl ?_
        refine HJ.fin [(0, _), (1, _), (5, _), (31, .bool (decide ((gtb a1 x1) < (gtb a0 x1))))] rfl rfl ?_
        refine J.cond rfl (fun c4 => ?_) (fun c4 => ?_)
        · replace H := ite_t c4 H
          refine J.seq (J.region ?_)
          refine RJ.run ttok 1 rfl ?_
          refine RJ.fin [(4, .int .i64 1)] rfl ?_
          refine J.ret ?_
          obtain rfl := Option.some.inj H
          exact ⟨_, _, _, (results_slots rfl), ⟨rfl, rfl⟩, h3.only [] rfl⟩
        replace H := ite_f c4 H
        refine J.skip ?_
        refine J.region ?_
        refine RJ.run ttok 3 rfl ?_
        refine RJ.fin [(0, _), (1, _), (5, .int .i64 (w64 (x1 + 1)))] rfl ?_
        have h4 := ((h3.only [] rfl).rds [] rfl)
        exact ⟨k1, by omega, (w64 (x1 + 1)), rfl, h4, H⟩
      replace H := ite_f c2 H
      refine J.exit ?_
      refine J.seq (J.seq (J.region ?_))
      refine RJ.run ttok 5 rfl ?_
      refine RJ.fin [(0, _), (1, _), (36, .bool (decide ((a0.length : Int) < (a1.length : Int))))] rfl ?_
      refine J.cond rfl (fun c5 => ?_) (fun c5 => ?_)
      · replace H := ite_t c5 H
        refine J.seq (J.region ?_)
        refine RJ.run ttok 1 rfl ?_
        refine RJ.fin [(4, .int .i64 (-1))] rfl ?_
        refine J.ret ?_
        obtain rfl := Option.some.inj H
        exact ⟨_, _, _, (results_slots rfl), ⟨rfl, rfl⟩, h1.only [] rfl⟩
      replace H := ite_f c5 H
      refine J.skip ?_
      refine J.seq (J.seq (J.region ?_))
      refine RJ.run ttok 5 rfl ?_
      refine RJ.fin [(41, .bool (decide ((a1.length : Int) < (a0.length : Int))))] rfl ?_
      refine J.cond rfl (fun c6 => ?_) (fun c6 => ?_)
      · replace H := ite_t c6 H
        refine J.seq (J.region ?_)
        refine RJ.run ttok 1 rfl ?_
        refine RJ.fin [(4, .int .i64 1)] rfl ?_
        refine J.ret ?_
        obtain rfl := Option.some.inj H
        exact ⟨_, _, _, (results_slots rfl), ⟨rfl, rfl⟩, h1.only [] rfl⟩
      replace H := ite_f c6 H
      refine J.skip ?_
      refine J.seq (J.region ?_)
      refine RJ.run ttok 1 rfl ?_
      refine RJ.fin [(4, .int .i64 0)] rfl ?_
      refine J.ret ?_
      obtain rfl := Option.some.inj H
      exact ⟨_, _, _, (results_slots rfl), ⟨rfl, rfl⟩, h1.only [] rfl⟩
    replace H := ite_f c1 H
    refine RJ.know (t := 10) rfl (congrArg Value.bool c1) ?_
    refine RJ.run ttok 5 rfl ?_
    refine RJ.fin [(0, _), (1, _), (5, _), (15, .bool false)] rfl ?_
    refine J.condF rfl ?_
    refine J.exit ?_
    refine J.seq (J.seq (J.region ?_))
    refine RJ.run ttok 5 rfl ?_
    refine RJ.fin [(0, _), (1, _), (36, .bool (decide ((a0.length : Int) < (a1.length : Int))))] rfl ?_
    refine J.cond rfl (fun c7 => ?_) (fun c7 => ?_)
    · replace H := ite_t c7 H
      refine J.seq (J.region ?_)
      refine RJ.run ttok 1 rfl ?_
      refine RJ.fin [(4, .int .i64 (-1))] rfl ?_
      refine J.ret ?_
      obtain rfl := Option.some.inj H
      exact ⟨_, _, _, (results_slots rfl), ⟨rfl, rfl⟩, h1.only [] rfl⟩
    replace H := ite_f c7 H
    refine J.skip ?_
    refine J.seq (J.seq (J.region ?_))
    refine RJ.run ttok 5 rfl ?_
    refine RJ.fin [(41, .bool (decide ((a1.length : Int) < (a0.length : Int))))] rfl ?_
    refine J.cond rfl (fun c8 => ?_) (fun c8 => ?_)
    · replace H := ite_t c8 H
      refine J.seq (J.region ?_)
      refine RJ.run ttok 1 rfl ?_
      refine RJ.fin [(4, .int .i64 1)] rfl ?_
      refine J.ret ?_
      obtain rfl := Option.some.inj H
      exact ⟨_, _, _, (results_slots rfl), ⟨rfl, rfl⟩, h1.only [] rfl⟩
    replace H := ite_f c8 H
    refine J.skip ?_
    refine J.seq (J.region ?_)
    refine RJ.run ttok 1 rfl ?_
    refine RJ.fin [(4, .int .i64 0)] rfl ?_
    refine J.ret ?_
    obtain rfl := Option.some.inj H
    exact ⟨_, _, _, (results_slots rfl), ⟨rfl, rfl⟩, h1.only [] rfl⟩

/-! sluicegate/sluicegateref01.In -/
def sluicegateref01_In.f (k : Nat) (a0 : List UInt8 × List UInt8 × Bool) (a1 : List UInt8) : Option (Bool) := (sluicegateref01_Compare.f k a0.1 a1).bind fun r1 => (if (decide (r1 ≤ 0)) = true then (if a0.2.2 = true then (some true) else ((sluicegateref01_Compare.f k a1 a0.2.1).bind fun r2 => (some (decide (r2 < 0))))) else (some false))
set_option maxRecDepth 20000 in
set_option maxHeartbeats 40000000 in
theorem sluicegateref01_In.spec {k : Nat} {a0 : List UInt8 × List UInt8 × Bool} {a1 : List UInt8}  {r : Bool} (H : sluicegateref01_In.f k a0 a1 = some r) :
    Spec Try.prog 25 [.agg #[.string ⟨⟨a0.1⟩⟩, .string ⟨⟨a0.2.1⟩⟩, .bool a0.2.2], .string ⟨⟨a1⟩⟩] [] [] (fun v l => v = .bool r ∧ l = []) := by
  refine Spec.enter Try.func25 rfl (by kernel_rfl) (by kernel_rfl) fun w0 F0 h0 => ?_
  unfold sluicegateref01_In.f at H
  refine J.seq (J.region ?_)
  refine RJ.op rfl rfl (op_box rfl rfl h0) ?_
  rintro _ w1 ⟨b1, rfl, h1⟩
  replace h1 : St w0 F0 [boxC b1 25 [.string ⟨⟨a0.1⟩⟩, .string ⟨⟨a0.2.1⟩⟩, .bool a0.2.2]] _ _ := h1
  refine RJ.run ttok 1 rfl ?_
  refine RJ.fin [(1, .string ⟨⟨a1⟩⟩), (2, .pointer (some ⟨b1, 0, none⟩))] rfl ?_
  refine J.seq (J.region ?_)
  refine RJ.run ttok 1 rfl ?_
  refine RJ.q rfl rfl (q_load_box ttok 0 h1.wht rfl rfl rfl rfl rfl) ?_
  refine RJ.run ttok 1 rfl ?_
  obtain ⟨r1, q1, H⟩ := bind_t H
  refine RJ.op rfl rfl (op_call [] (sluicegateref01_Compare.spec q1) rfl rfl rfl h1 rfl gnil) ?_
  rintro _ w2 ⟨_, ⟨rfl, rfl⟩, h2⟩
  replace h2 : St w0 F0 [_] _ _ := h2
  refine RJ.run ttok 2 rfl ?_
  rcases Bool.eq_false_or_eq_true (decide (r1 ≤ 0)) with c1 | c1
  · replace H := ite_t c1 H
    refine RJ.know (t := 10) rfl (congrArg Value.bool c1) ?_
    refine RJ.run ttok 1 rfl ?_
    refine RJ.q rfl rfl (q_load_box ttok 0 h2.wht rfl rfl rfl rfl rfl) ?_
    refine RJ.run ttok 1 rfl ?_
    rcases Bool.eq_false_or_eq_true a0.2.2 with c2 | c2
    · replace H := ite_t c2 H
      refine RJ.know (t := 13) rfl (congrArg Value.bool c2) ?_
      refine RJ.run ttok 8 rfl ?_
      refine RJ.fin [(4, .bool true)] rfl ?_
      refine J.ret ?_
      obtain rfl := Option.some.inj H
      exact ⟨_, _, _, (results_slots rfl), ⟨rfl, rfl⟩, h2.only [] rfl⟩
    replace H := ite_f c2 H
    refine RJ.know (t := 13) rfl (congrArg Value.bool c2) ?_
    refine RJ.run ttok 2 rfl ?_
    refine RJ.q rfl rfl (q_load_box ttok 0 h2.wht rfl rfl rfl rfl rfl) ?_
    obtain ⟨r2, q2, H⟩ := bind_t H
    refine RJ.op rfl rfl (op_call [] (sluicegateref01_Compare.spec q2) rfl rfl rfl h2 rfl gnil) ?_
    rintro _ w3 ⟨_, ⟨rfl, rfl⟩, h3⟩
    replace h3 : St w0 F0 [_] _ _ := h3
    refine RJ.run ttok 4 rfl ?_
    refine RJ.fin [(4, .bool (decide (r2 < 0)))] rfl ?_
    refine J.ret ?_
    obtain rfl := Option.some.inj H
    exact ⟨_, _, _, (results_slots rfl), ⟨rfl, rfl⟩, h3.only [] rfl⟩
  replace H := ite_f c1 H
  refine RJ.know (t := 10) rfl (congrArg Value.bool c1) ?_
  refine RJ.run ttok 11 rfl ?_
  refine RJ.fin [(4, .bool false)] rfl ?_
  refine J.ret ?_
  obtain rfl := Option.some.inj H
  exact ⟨_, _, _, (results_slots rfl), ⟨rfl, rfl⟩, h2.only [] rfl⟩

/-! sluicegate/sluicegateref11.Right -/
def sluicegateref11_Right.l0 : Nat → (List (List UInt8 × List UInt8)) → (Int) → Option (Bool)
  | 0, _, _ => none
  | k + 1, a0, x1 => if (decide (x1 < (a0.length : Int))) = true then (if 0 ≤ (w64 (x1 - 1)) ∧ (w64 (x1 - 1)) < (a0.length : Int) then (if 0 ≤ x1 ∧ x1 < (a0.length : Int) then ((sluicegateref01_Compare.f k ((gt a0 (w64 (x1 - 1))).1) ((gt a0 x1).1)).bind fun r1 => (if (decide (0 ≤ r1)) = true then (some false) else (sluicegateref11_Right.l0 k a0 (w64 (x1 + 1))))) else none) else none) else (some true)
def sluicegateref11_Right.f (k : Nat) (a0 : List (List UInt8 × List UInt8)) : Option (Bool) := sluicegateref11_Right.l0 k a0 1
set_option maxRecDepth 20000 in
set_option maxHeartbeats 40000000 in
theorem sluicegateref11_Right.spec {k : Nat} {a0 : List (List UInt8 × List UInt8)} {A1 : Option Addr} {c_1 : Nat} {r : Bool} (H : sluicegateref11_Right.f k a0 = some r) :
    Spec Try.prog 41 [.slice A1 a0.length c_1] [] [rdC 50 (.pair .str .str) a0 (.slice A1 a0.length c_1)] (fun v l => v = .bool r ∧ l = []) := by
  refine Spec.enter Try.func41 rfl (by kernel_rfl) (by kernel_rfl) fun w0 F0 h0 => ?_
  unfold sluicegateref11_Right.f at H
  refine J.seq (J.region ?_)
  refine RJ.run ttok 1 rfl ?_
  refine RJ.fin [(0, .slice A1 a0.length c_1)] rfl ?_
  refine J.seq (J.seq (J.region ?_))
  refine RJ.run ttok 1 rfl ?_
  refine RJ.fin [(0, _), (3, .int .i64 1)] rfl ?_
  refine J.block ?_
  have h5 := ((h0.only [] rfl).rds [0] rfl)
  refine J.loop (fun kk env w => ∃ (x1 : Int), env = [(0, .slice A1 a0.length c_1), (3, .int .i64 x1)] ∧ St w0 F0 [] [rdC 50 (.pair .str .str) a0 (.slice A1 a0.length c_1)] w ∧ sluicegateref11_Right.l0 kk a0 x1 = some r) (k := k) ⟨1, rfl, h5, H⟩ ?_
  rintro k1 env w1 ⟨x1, rfl, h1, H⟩
  cases k1 with
  | zero => exact nomatch (show none = some r from H)
  | succ k1 =>
    rw [sluicegateref11_Right.l0] at H
    refine J.seq (J.seq (J.region ?_))
    refine RJ.run ttok 4 rfl ?_
    refine RJ.fin [(0, _), (3, _), (7, .bool (decide (x1 < (a0.length : Int))))] rfl ?_
    refine J.cond rfl (fun c1 => ?_) (fun c1 => ?_)
    · replace H := ite_t c1 H
      refine J.skip ?_
      refine J.seq (J.block (J.seq ?_))
      refine J.heldSt mix h1 ?_
      have h2 := h1.drew
      refine HJ.run ttok rfl [0, 1, 2, 6, 7] rfl ?_
      obtain ⟨⟨p1, p2⟩, H⟩ := guard_t H
      have e1 := elem_A h2.wh (Gives.self 0 rfl) p1 p2
      refine HJ.q (i := 3) rfl rfl rfl rfl rfl rfl (q_index ttok rfl rfl rfl rfl rfl e1 p1 p2) ?_
      refine HJ.run ttok rfl [4] rfl ?_
      refine HJ.q (i := 5) rfl rfl rfl rfl rfl rfl (q_load_elem (f := 0) ttok rfl (fun w e => e) (Gives.self 0 rfl) p1 p2 rfl rfl rfl rfl rfl) ?_
      obtain ⟨⟨p3, p4⟩, H⟩ := guard_t H
      refine HJ.q (i := 8) rfl rfl rfl rfl rfl rfl (q_index ttok rfl rfl rfl rfl rfl e1 p3 p4) ?_
      refine HJ.run ttok rfl [9] rfl ?_
      refine HJ.q (i := 10) rfl rfl rfl rfl rfl rfl (q_load_elem (f := 0) ttok rfl (fun w e => e) (Gives.self 0 rfl) p3 p4 rfl rfl rfl rfl rfl) ?_
      obtain ⟨r1, q1, H⟩ := bind_t H
      refine HJ.op (i := 11) rfl rfl rfl rfl rfl (op_call [] (sluicegateref01_Compare.spec q1) rfl rfl rfl h2 rfl gnil) ?_
      rintro _ w2 ⟨_, ⟨rfl, rfl⟩, h3⟩
      replace h3 : St w0 F0 [] _ _ := h3
      refine ⟨⟨[], h3⟩, ?_⟩
      refine HJ.run ttok rfl [12] rfl ?_
      refine HJ.fin [(0, _), (3, _), (22, .bool (decide (0 ≤ r1)))] rfl rfl ?_
      refine J.cond rfl (fun c2 => ?_) (fun c2 => ?_)
      · replace H := ite_t c2 H
        refine J.seq (J.region ?_)
        refine RJ.run ttok 1 rfl ?_
        refine RJ.fin [(2, .bool false)] rfl ?_
        refine J.ret ?_
        obtain rfl := Option.some.inj H
        exact ⟨_, _, _, (results_slots rfl), ⟨rfl, rfl⟩, h3.only [] rfl⟩
      replace H := ite_f c2 H
      refine J.skip ?_
      refine J.region ?_
      refine RJ.run ttok 3 rfl ?_
      refine RJ.fin [(0, _), (3, .int .i64 (w64 (x1 + 1)))] rfl ?_
      have h4 := ((h3.only [] rfl).rds [0] rfl)
      exact ⟨k1, by omega, (w64 (x1 + 1)), rfl, h4, H⟩
    replace H := ite_f c1 H
    refine J.exit ?_
    refine J.seq (J.region ?_)
    refine RJ.run ttok 1 rfl ?_
    refine RJ.fin [(2, .bool true)] rfl ?_
    refine J.ret ?_
    obtain rfl := Option.some.inj H
    exact ⟨_, _, _, (results_slots rfl), ⟨rfl, rfl⟩, h1.only [] rfl⟩

/-! sluicegate/sluicegateref13.outer -/
def sluicegateref13_outer.l0 : Nat → (Int × Int × Int × Int × Int × Int × Int × Int) → (List UInt8 × List UInt8 × Bool) → (Int × List (Int) × List (List UInt8) × (List (List UInt8 × Bool × List UInt8)) × (List (List UInt8 × List UInt8))) → (Int) → Option (Bool)
  | 0, _, _, _, _ => none
  | k + 1, a0, a1, a2, x1 => if (decide (x1 < (a2.2.2.2.2.length : Int))) = true then (if 0 ≤ x1 ∧ x1 < (a2.2.2.2.2.length : Int) then ((sluicegateref13_Key.f (a0.1, a0.2.1, a0.2.2.1, a0.2.2.2.1, a0.2.2.2.2.1, a0.2.2.2.2.2.1, a0.2.2.2.2.2.2.1, a0.2.2.2.2.2.2.2) ((gt a2.2.2.2.2 x1).1)).bind fun r1 => (if (!r1) = true then (some false) else ((sluicegateref01_In.f k (a1.1, a1.2.1, a1.2.2) ((gt a2.2.2.2.2 x1).1)).bind fun r2 => (if (!r2) = true then (some false) else (if (decide (a0.2.2.2.2.2.2.2 < (((gt a2.2.2.2.2 x1).2).length : Int))) = true then (some false) else (sluicegateref13_outer.l0 k a0 a1 a2 (w64 (x1 + 1)))))))) else none) else (if (decide ((a2.2.1.length : Int) = 0)) = true then (if (decide ((a2.2.2.1.length : Int) = 0)) = true then (if (decide ((a2.2.2.2.1.length : Int) = 0)) = true then (if (decide ((a2.2.2.2.2.length : Int) ≤ a0.2.2.2.2.2.1)) = true then ((sluicegateref11_Right.f k a2.2.2.2.2).bind fun r3 => (some r3)) else (some false)) else (some false)) else (some false)) else (some false))
def sluicegateref13_outer.f (k : Nat) (a0 : Int × Int × Int × Int × Int × Int × Int × Int) (a1 : List UInt8 × List UInt8 × Bool) (a2 : Int × List (Int) × List (List UInt8) × (List (List UInt8 × Bool × List UInt8)) × (List (List UInt8 × List UInt8))) : Option (Bool) := sluicegateref13_outer.l0 k a0 a1 a2 0
set_option maxRecDepth 20000 in
set_option maxHeartbeats 40000000 in
theorem sluicegateref13_outer.spec {k : Nat} {a0 : Int × Int × Int × Int × Int × Int × Int × Int} {a1 : List UInt8 × List UInt8 × Bool} {a2 : Int × List (Int) × List (List UInt8) × (List (List UInt8 × Bool × List UInt8)) × (List (List UInt8 × List UInt8))} {A1 : Option Addr} {c_1 : Nat} {A2 : Option Addr} {c_2 : Nat} {A3 : Option Addr} {c_3 : Nat} {A4 : Option Addr} {c_4 : Nat} {r : Bool} (H : sluicegateref13_outer.f k a0 a1 a2 = some r) :
    Spec Try.prog 63 [.agg #[.int .i64 a0.1, .int .i64 a0.2.1, .int .i64 a0.2.2.1, .int .i64 a0.2.2.2.1, .int .i64 a0.2.2.2.2.1, .int .i64 a0.2.2.2.2.2.1, .int .i64 a0.2.2.2.2.2.2.1, .int .i64 a0.2.2.2.2.2.2.2], .agg #[.string ⟨⟨a1.1⟩⟩, .string ⟨⟨a1.2.1⟩⟩, .bool a1.2.2], .agg #[.int .i64 a2.1, .slice A1 a2.2.1.length c_1, .slice A2 a2.2.2.1.length c_2, .slice A3 a2.2.2.2.1.length c_3, .slice A4 a2.2.2.2.2.length c_4]] [] [rdC 46 (.int .u32) a2.2.1 (.slice A1 a2.2.1.length c_1), rdC 9 .str a2.2.2.1 (.slice A2 a2.2.2.1.length c_2), rdC 48 (.pair .str (.pair .bool .str)) a2.2.2.2.1 (.slice A3 a2.2.2.2.1.length c_3), rdC 50 (.pair .str .str) a2.2.2.2.2 (.slice A4 a2.2.2.2.2.length c_4)] (fun v l => v = .bool r ∧ l = []) := by
  refine Spec.enter Try.func63 rfl (by kernel_rfl) (by kernel_rfl) fun w0 F0 h0 => ?_
  unfold sluicegateref13_outer.f at H
  refine J.seq (J.region ?_)
  refine RJ.op rfl rfl (op_box rfl rfl h0) ?_
  rintro _ w1 ⟨b1, rfl, h1⟩
  replace h1 : St w0 F0 [boxC b1 23 [.int .i64 a0.1, .int .i64 a0.2.1, .int .i64 a0.2.2.1, .int .i64 a0.2.2.2.1, .int .i64 a0.2.2.2.2.1, .int .i64 a0.2.2.2.2.2.1, .int .i64 a0.2.2.2.2.2.2.1, .int .i64 a0.2.2.2.2.2.2.2]] _ _ := h1
  refine RJ.op rfl rfl (op_box rfl rfl h1) ?_
  rintro _ w2 ⟨b2, rfl, h2⟩
  replace h2 : St w0 F0 [boxC b2 25 [.string ⟨⟨a1.1⟩⟩, .string ⟨⟨a1.2.1⟩⟩, .bool a1.2.2], _] _ _ := h2
  refine RJ.op rfl rfl (op_box rfl rfl h2) ?_
  rintro _ w3 ⟨b3, rfl, h3⟩
  replace h3 : St w0 F0 [boxC b3 31 [.int .i64 a2.1, .slice A1 a2.2.1.length c_1, .slice A2 a2.2.2.1.length c_2, .slice A3 a2.2.2.2.1.length c_3, .slice A4 a2.2.2.2.2.length c_4], _, _] _ _ := h3
  refine RJ.run ttok 1 rfl ?_
  refine RJ.fin [(3, .pointer (some ⟨b1, 0, none⟩)), (4, .pointer (some ⟨b2, 0, none⟩)), (5, .pointer (some ⟨b3, 0, none⟩))] rfl ?_
  refine J.seq (J.seq (J.region ?_))
  refine RJ.run ttok 1 rfl ?_
  refine RJ.fin [(3, _), (4, _), (5, _), (7, .int .i64 0)] rfl ?_
  refine J.block ?_
  have h19 := ((h3.only [2, 1, 0] rfl).rds [0, 1, 2, 3] rfl)
  refine J.loop (fun kk env w => ∃ (x1 : Int), env = [(3, .pointer (some ⟨b1, 0, none⟩)), (4, .pointer (some ⟨b2, 0, none⟩)), (5, .pointer (some ⟨b3, 0, none⟩)), (7, .int .i64 x1)] ∧ St w0 F0 [boxC b1 23 [.int .i64 a0.1, .int .i64 a0.2.1, .int .i64 a0.2.2.1, .int .i64 a0.2.2.2.1, .int .i64 a0.2.2.2.2.1, .int .i64 a0.2.2.2.2.2.1, .int .i64 a0.2.2.2.2.2.2.1, .int .i64 a0.2.2.2.2.2.2.2], boxC b2 25 [.string ⟨⟨a1.1⟩⟩, .string ⟨⟨a1.2.1⟩⟩, .bool a1.2.2], boxC b3 31 [.int .i64 a2.1, .slice A1 a2.2.1.length c_1, .slice A2 a2.2.2.1.length c_2, .slice A3 a2.2.2.2.1.length c_3, .slice A4 a2.2.2.2.2.length c_4]] [rdC 46 (.int .u32) a2.2.1 (.slice A1 a2.2.1.length c_1), rdC 9 .str a2.2.2.1 (.slice A2 a2.2.2.1.length c_2), rdC 48 (.pair .str (.pair .bool .str)) a2.2.2.2.1 (.slice A3 a2.2.2.2.1.length c_3), rdC 50 (.pair .str .str) a2.2.2.2.2 (.slice A4 a2.2.2.2.2.length c_4)] w ∧ sluicegateref13_outer.l0 kk a0 a1 a2 x1 = some r) (k := k) ⟨0, rfl, h19, H⟩ ?_
  rintro k1 env w4 ⟨x1, rfl, h4, H⟩
  cases k1 with
  | zero => exact nomatch (show none = some r from H)
  | succ k1 =>
    rw [sluicegateref13_outer.l0] at H
    refine J.seq (J.seq (J.region ?_))
    refine RJ.run ttok 2 rfl ?_
    refine RJ.q rfl rfl (q_load_box ttok 2 h4.wht rfl rfl rfl rfl rfl) ?_
    refine RJ.run ttok 2 rfl ?_
    refine RJ.fin [(3, _), (4, _), (5, _), (7, _), (13, .bool (decide (x1 < (a2.2.2.2.2.length : Int))))] rfl ?_
    refine J.cond rfl (fun c1 => ?_) (fun c1 => ?_)
    · replace H := ite_t c1 H
      refine J.skip ?_
      refine J.seq (J.block (J.seq (J.region ?_)))
      refine RJ.run ttok 1 rfl ?_
      refine RJ.q rfl rfl (q_load_box ttok 2 h4.wht rfl rfl rfl rfl rfl) ?_
      refine RJ.run ttok 1 rfl ?_
      obtain ⟨⟨p1, p2⟩, H⟩ := guard_t H
      have e1 := elem_A h4.wh (Gives.self 6 rfl) p1 p2
      refine RJ.q rfl rfl (q_index ttok rfl rfl rfl rfl rfl e1 p1 p2) ?_
      refine RJ.q rfl rfl (q_load_elem (f := 0) ttok rfl h4.wht (Gives.self 6 rfl) p1 p2 rfl rfl rfl rfl rfl) ?_
      refine RJ.op rfl rfl (op_alloc ttok rfl rfl h4) ?_
      rintro _ w5 ⟨b4, rfl, h5⟩
      replace h5 : St w0 F0 [boxC b4 50 [.string ⟨⟨([] : List UInt8)⟩⟩, .string ⟨⟨([] : List UInt8)⟩⟩], _, _, _] _ _ := h5
      refine RJ.op rfl rfl (op_store ttok 0 rfl h5 rfl rfl rfl rfl rfl rfl rfl) ?_
      intro _ w6 h6
      replace h6 : St w0 F0 [boxC b4 50 [.string ⟨⟨(gt a2.2.2.2.2 x1).1⟩⟩, .string ⟨⟨(gt a2.2.2.2.2 x1).2⟩⟩], _, _, _] _ _ := h6
      refine RJ.fin [(3, _), (4, _), (5, _), (7, _), (8, .pointer (some ⟨b4, 0, none⟩))] rfl ?_
      refine J.seq (J.region ?_)
      refine RJ.q rfl rfl (q_load_box ttok 1 h6.wht rfl rfl rfl rfl rfl) ?_
      refine RJ.run ttok 1 rfl ?_
      refine RJ.q rfl rfl (q_load_box ttok 0 h6.wht rfl rfl rfl rfl rfl) ?_
      obtain ⟨r1, q1, H⟩ := bind_t H
      refine RJ.op rfl rfl (op_call [] (sluicegateref13_Key.spec q1) rfl rfl rfl h6 rfl gnil) ?_
      rintro _ w7 ⟨_, ⟨rfl, rfl⟩, h7⟩
      replace h7 : St w0 F0 [_, _, _, _] _ _ := h7
      refine RJ.run ttok 2 rfl ?_
      rcases Bool.eq_false_or_eq_true (!r1) with c2 | c2
      · replace H := ite_t c2 H
        refine RJ.know (t := 26) rfl (congrArg Value.bool c2) ?_
        refine RJ.run ttok 14 rfl ?_
        refine RJ.fin [(3, _), (4, _), (5, _), (7, _), (40, .bool true)] rfl ?_
        refine J.condT rfl ?_
        refine J.seq (J.region ?_)
        refine RJ.run ttok 1 rfl ?_
        refine RJ.fin [(6, .bool false)] rfl ?_
        have h8 := h7.only [] rfl
        replace h8 : St w0 F0 [] _ _ := h8
        refine J.ret ?_
        obtain rfl := Option.some.inj H
        exact ⟨_, _, _, (results_slots rfl), ⟨rfl, rfl⟩, h8.only [] rfl⟩
      replace H := ite_f c2 H
      refine RJ.know (t := 26) rfl (congrArg Value.bool c2) ?_
      refine RJ.q rfl rfl (q_load_box ttok 2 h7.wht rfl rfl rfl rfl rfl) ?_
      refine RJ.run ttok 1 rfl ?_
      refine RJ.q rfl rfl (q_load_box ttok 0 h7.wht rfl rfl rfl rfl rfl) ?_
      obtain ⟨r2, q2, H⟩ := bind_t H
      refine RJ.op rfl rfl (op_call [] (sluicegateref01_In.spec q2) rfl rfl rfl h7 rfl gnil) ?_
      rintro _ w8 ⟨_, ⟨rfl, rfl⟩, h9⟩
      replace h9 : St w0 F0 [_, _, _, _] _ _ := h9
      refine RJ.run ttok 3 rfl ?_
      rcases Bool.eq_false_or_eq_true (!r2) with c3 | c3
      · replace H := ite_t c3 H
        refine RJ.know (t := 33) rfl (congrArg Value.bool c3) ?_
        refine RJ.run ttok 7 rfl ?_
        refine RJ.fin [(3, _), (4, _), (5, _), (7, _), (40, .bool true)] rfl ?_
        refine J.condT rfl ?_
        refine J.seq (J.region ?_)
        refine RJ.run ttok 1 rfl ?_
        refine RJ.fin [(6, .bool false)] rfl ?_
        have h10 := h9.only [] rfl
        replace h10 : St w0 F0 [] _ _ := h10
        refine J.ret ?_
        obtain rfl := Option.some.inj H
        exact ⟨_, _, _, (results_slots rfl), ⟨rfl, rfl⟩, h10.only [] rfl⟩
      replace H := ite_f c3 H
      refine RJ.know (t := 33) rfl (congrArg Value.bool c3) ?_
      refine RJ.run ttok 1 rfl ?_
      refine RJ.q rfl rfl (q_load_box ttok 0 h9.wht rfl rfl rfl rfl rfl) ?_
      refine RJ.run ttok 2 rfl ?_
      refine RJ.q rfl rfl (q_load_box ttok 1 h9.wht rfl rfl rfl rfl rfl) ?_
      refine RJ.run ttok 2 rfl ?_
      refine RJ.fin [(3, _), (4, _), (5, _), (7, _), (40, .bool (decide (a0.2.2.2.2.2.2.2 < (((gt a2.2.2.2.2 x1).2).length : Int))))] rfl ?_
      refine J.cond rfl (fun c4 => ?_) (fun c4 => ?_)
      · replace H := ite_t c4 H
        refine J.seq (J.region ?_)
        refine RJ.run ttok 1 rfl ?_
        refine RJ.fin [(6, .bool false)] rfl ?_
        have h11 := h9.only [] rfl
        replace h11 : St w0 F0 [] _ _ := h11
        refine J.ret ?_
        obtain rfl := Option.some.inj H
        exact ⟨_, _, _, (results_slots rfl), ⟨rfl, rfl⟩, h11.only [] rfl⟩
      replace H := ite_f c4 H
      refine J.skip ?_
      refine J.region ?_
      refine RJ.run ttok 3 rfl ?_
      refine RJ.fin [(3, _), (4, _), (5, _), (7, .int .i64 (w64 (x1 + 1)))] rfl ?_
      have h12 := ((h9.only [1, 1, 1] rfl).rds [0, 1, 2, 3] rfl)
      exact ⟨k1, by omega, (w64 (x1 + 1)), rfl, h12, H⟩
    replace H := ite_f c1 H
    refine J.exit ?_
    refine J.seq (J.region ?_)
    refine RJ.run ttok 1 rfl ?_
    refine RJ.q rfl rfl (q_load_box ttok 2 h4.wht rfl rfl rfl rfl rfl) ?_
    refine RJ.run ttok 3 rfl ?_
    rcases Bool.eq_false_or_eq_true (decide ((a2.2.1.length : Int) = 0)) with c5 | c5
    · replace H := ite_t c5 H
      refine RJ.know (t := 45) rfl (congrArg Value.bool c5) ?_
      refine RJ.run ttok 1 rfl ?_
      refine RJ.q rfl rfl (q_load_box ttok 2 h4.wht rfl rfl rfl rfl rfl) ?_
      refine RJ.run ttok 4 rfl ?_
      rcases Bool.eq_false_or_eq_true (decide ((a2.2.2.1.length : Int) = 0)) with c6 | c6
      · replace H := ite_t c6 H
        refine RJ.know (t := 51) rfl (congrArg Value.bool c6) ?_
        refine RJ.run ttok 1 rfl ?_
        refine RJ.q rfl rfl (q_load_box ttok 2 h4.wht rfl rfl rfl rfl rfl) ?_
        refine RJ.run ttok 4 rfl ?_
        rcases Bool.eq_false_or_eq_true (decide ((a2.2.2.2.1.length : Int) = 0)) with c7 | c7
        · replace H := ite_t c7 H
          refine RJ.know (t := 57) rfl (congrArg Value.bool c7) ?_
          refine RJ.run ttok 1 rfl ?_
          refine RJ.q rfl rfl (q_load_box ttok 2 h4.wht rfl rfl rfl rfl rfl) ?_
          refine RJ.run ttok 2 rfl ?_
          refine RJ.q rfl rfl (q_load_box ttok 0 h4.wht rfl rfl rfl rfl rfl) ?_
          refine RJ.run ttok 3 rfl ?_
          rcases Bool.eq_false_or_eq_true (decide ((a2.2.2.2.2.length : Int) ≤ a0.2.2.2.2.2.1)) with c8 | c8
          · replace H := ite_t c8 H
            refine RJ.know (t := 65) rfl (congrArg Value.bool c8) ?_
            refine RJ.run ttok 1 rfl ?_
            refine RJ.q rfl rfl (q_load_box ttok 2 h4.wht rfl rfl rfl rfl rfl) ?_
            obtain ⟨r3, q3, H⟩ := bind_t H
            refine RJ.op rfl rfl (op_call [] (sluicegateref11_Right.spec q3) rfl rfl rfl h4 rfl (gcons (Gives.self 6 rfl) gnil)) ?_
            rintro _ w9 ⟨_, ⟨rfl, rfl⟩, h13⟩
            replace h13 : St w0 F0 [_, _, _] _ _ := h13
            refine RJ.run ttok 2 rfl ?_
            refine RJ.fin [(6, .bool r3)] rfl ?_
            have h14 := h13.only [] rfl
            replace h14 : St w0 F0 [] _ _ := h14
            refine J.ret ?_
            obtain rfl := Option.some.inj H
            exact ⟨_, _, _, (results_slots rfl), ⟨rfl, rfl⟩, h14.only [] rfl⟩
          replace H := ite_f c8 H
          refine RJ.know (t := 65) rfl (congrArg Value.bool c8) ?_
          refine RJ.run ttok 5 rfl ?_
          refine RJ.fin [(6, .bool false)] rfl ?_
          have h15 := h4.only [] rfl
          replace h15 : St w0 F0 [] _ _ := h15
          refine J.ret ?_
          obtain rfl := Option.some.inj H
          exact ⟨_, _, _, (results_slots rfl), ⟨rfl, rfl⟩, h15.only [] rfl⟩
        replace H := ite_f c7 H
        refine RJ.know (t := 57) rfl (congrArg Value.bool c7) ?_
        refine RJ.run ttok 13 rfl ?_
        refine RJ.fin [(6, .bool false)] rfl ?_
        have h16 := h4.only [] rfl
        replace h16 : St w0 F0 [] _ _ := h16
        refine J.ret ?_
        obtain rfl := Option.some.inj H
        exact ⟨_, _, _, (results_slots rfl), ⟨rfl, rfl⟩, h16.only [] rfl⟩
      replace H := ite_f c6 H
      refine RJ.know (t := 51) rfl (congrArg Value.bool c6) ?_
      refine RJ.run ttok 19 rfl ?_
      refine RJ.fin [(6, .bool false)] rfl ?_
      have h17 := h4.only [] rfl
      replace h17 : St w0 F0 [] _ _ := h17
      refine J.ret ?_
      obtain rfl := Option.some.inj H
      exact ⟨_, _, _, (results_slots rfl), ⟨rfl, rfl⟩, h17.only [] rfl⟩
    replace H := ite_f c5 H
    refine RJ.know (t := 45) rfl (congrArg Value.bool c5) ?_
    refine RJ.run ttok 25 rfl ?_
    refine RJ.fin [(6, .bool false)] rfl ?_
    have h18 := h4.only [] rfl
    replace h18 : St w0 F0 [] _ _ := h18
    refine J.ret ?_
    obtain rfl := Option.some.inj H
    exact ⟨_, _, _, (results_slots rfl), ⟨rfl, rfl⟩, h18.only [] rfl⟩

/-! sluicegate/sluicegateref12.Rise -/
def sluicegateref12_Rise.l0 : Nat → (List (List UInt8)) → (Int) → Option (Bool)
  | 0, _, _ => none
  | k + 1, a0, x1 => if (decide (x1 < (a0.length : Int))) = true then (if 0 ≤ (w64 (x1 - 1)) ∧ (w64 (x1 - 1)) < (a0.length : Int) then (if 0 ≤ x1 ∧ x1 < (a0.length : Int) then ((sluicegateref01_Compare.f k (gt a0 (w64 (x1 - 1))) (gt a0 x1)).bind fun r1 => (if (decide (0 ≤ r1)) = true then (some false) else (sluicegateref12_Rise.l0 k a0 (w64 (x1 + 1))))) else none) else none) else (some true)
def sluicegateref12_Rise.f (k : Nat) (a0 : List (List UInt8)) : Option (Bool) := sluicegateref12_Rise.l0 k a0 1
set_option maxRecDepth 20000 in
set_option maxHeartbeats 40000000 in
theorem sluicegateref12_Rise.spec {k : Nat} {a0 : List (List UInt8)} {A1 : Option Addr} {c_1 : Nat} {r : Bool} (H : sluicegateref12_Rise.f k a0 = some r) :
    Spec Try.prog 71 [.slice A1 a0.length c_1] [] [rdC 9 .str a0 (.slice A1 a0.length c_1)] (fun v l => v = .bool r ∧ l = []) := by
  refine Spec.enter Try.func71 rfl (by kernel_rfl) (by kernel_rfl) fun w0 F0 h0 => ?_
  unfold sluicegateref12_Rise.f at H
  refine J.seq (J.region ?_)
  refine RJ.run ttok 1 rfl ?_
  refine RJ.fin [(0, .slice A1 a0.length c_1)] rfl ?_
  refine J.seq (J.seq (J.region ?_))
  refine RJ.run ttok 1 rfl ?_
  refine RJ.fin [(0, _), (3, .int .i64 1)] rfl ?_
  refine J.block ?_
  have h5 := ((h0.only [] rfl).rds [0] rfl)
  refine J.loop (fun kk env w => ∃ (x1 : Int), env = [(0, .slice A1 a0.length c_1), (3, .int .i64 x1)] ∧ St w0 F0 [] [rdC 9 .str a0 (.slice A1 a0.length c_1)] w ∧ sluicegateref12_Rise.l0 kk a0 x1 = some r) (k := k) ⟨1, rfl, h5, H⟩ ?_
  rintro k1 env w1 ⟨x1, rfl, h1, H⟩
  cases k1 with
  | zero => exact nomatch (show none = some r from H)
  | succ k1 =>
    rw [sluicegateref12_Rise.l0] at H
    refine J.seq (J.seq (J.region ?_))
    refine RJ.run ttok 4 rfl ?_
    refine RJ.fin [(0, _), (3, _), (7, .bool (decide (x1 < (a0.length : Int))))] rfl ?_
    refine J.cond rfl (fun c1 => ?_) (fun c1 => ?_)
    · replace H := ite_t c1 H
      refine J.skip ?_
      refine J.seq (J.block (J.seq ?_))
      refine J.heldSt mix h1 ?_
      have h2 := h1.drew
      refine HJ.run ttok rfl [0, 1, 2, 5, 6] rfl ?_
      obtain ⟨⟨p1, p2⟩, H⟩ := guard_t H
      have e1 := elem_A h2.wh (Gives.self 0 rfl) p1 p2
      refine HJ.q (i := 3) rfl rfl rfl rfl rfl rfl (q_index ttok rfl rfl rfl rfl rfl e1 p1 p2) ?_
      refine HJ.q (i := 4) rfl rfl rfl rfl rfl rfl (q_load_elem (f := 0) ttok rfl (fun w e => e) (Gives.self 0 rfl) p1 p2 rfl rfl rfl rfl rfl) ?_
      obtain ⟨⟨p3, p4⟩, H⟩ := guard_t H
      refine HJ.q (i := 7) rfl rfl rfl rfl rfl rfl (q_index ttok rfl rfl rfl rfl rfl e1 p3 p4) ?_
      refine HJ.q (i := 8) rfl rfl rfl rfl rfl rfl (q_load_elem (f := 0) ttok rfl (fun w e => e) (Gives.self 0 rfl) p3 p4 rfl rfl rfl rfl rfl) ?_
      obtain ⟨r1, q1, H⟩ := bind_t H
      refine HJ.op (i := 9) rfl rfl rfl rfl rfl (op_call [] (sluicegateref01_Compare.spec q1) rfl rfl rfl h2 rfl gnil) ?_
      rintro _ w2 ⟨_, ⟨rfl, rfl⟩, h3⟩
      replace h3 : St w0 F0 [] _ _ := h3
      refine ⟨⟨[], h3⟩, ?_⟩
      refine HJ.run ttok rfl [10] rfl ?_
      refine HJ.fin [(0, _), (3, _), (20, .bool (decide (0 ≤ r1)))] rfl rfl ?_
      refine J.cond rfl (fun c2 => ?_) (fun c2 => ?_)
      · replace H := ite_t c2 H
        refine J.seq (J.region ?_)
        refine RJ.run ttok 1 rfl ?_
        refine RJ.fin [(2, .bool false)] rfl ?_
        refine J.ret ?_
        obtain rfl := Option.some.inj H
        exact ⟨_, _, _, (results_slots rfl), ⟨rfl, rfl⟩, h3.only [] rfl⟩
      replace H := ite_f c2 H
      refine J.skip ?_
      refine J.region ?_
      refine RJ.run ttok 3 rfl ?_
      refine RJ.fin [(0, _), (3, .int .i64 (w64 (x1 + 1)))] rfl ?_
      have h4 := ((h3.only [] rfl).rds [0] rfl)
      exact ⟨k1, by omega, (w64 (x1 + 1)), rfl, h4, H⟩
    replace H := ite_f c1 H
    refine J.exit ?_
    refine J.seq (J.region ?_)
    refine RJ.run ttok 1 rfl ?_
    refine RJ.fin [(2, .bool true)] rfl ?_
    refine J.ret ?_
    obtain rfl := Option.some.inj H
    exact ⟨_, _, _, (results_slots rfl), ⟨rfl, rfl⟩, h1.only [] rfl⟩

/-! sluicegate/sluicegateref12.Right -/
def sluicegateref12_Right.l0 : Nat → (List (List UInt8)) → (List UInt8 × List UInt8 × Bool) → (Int) → Option (Bool)
  | 0, _, _, _ => none
  | k + 1, a0, a1, x1 => if (decide (x1 < (a0.length : Int))) = true then (if 0 ≤ x1 ∧ x1 < (a0.length : Int) then ((sluicegateref01_In.f k (a1.1, a1.2.1, a1.2.2) (gt a0 x1)).bind fun r1 => (if (!r1) = true then (some false) else (if (decide ((gt a0 x1) = a1.1)) = true then (some false) else (sluicegateref12_Right.l0 k a0 a1 (w64 (x1 + 1)))))) else none) else ((sluicegateref12_Rise.f k a0).bind fun r2 => (some r2))
def sluicegateref12_Right.f (k : Nat) (a0 : List (List UInt8)) (a1 : List UInt8 × List UInt8 × Bool) : Option (Bool) := sluicegateref12_Right.l0 k a0 a1 0
set_option maxRecDepth 20000 in
set_option maxHeartbeats 40000000 in
theorem sluicegateref12_Right.spec {k : Nat} {a0 : List (List UInt8)} {a1 : List UInt8 × List UInt8 × Bool} {A1 : Option Addr} {c_1 : Nat} {r : Bool} (H : sluicegateref12_Right.f k a0 a1 = some r) :
    Spec Try.prog 96 [.slice A1 a0.length c_1, .agg #[.string ⟨⟨a1.1⟩⟩, .string ⟨⟨a1.2.1⟩⟩, .bool a1.2.2]] [] [rdC 9 .str a0 (.slice A1 a0.length c_1)] (fun v l => v = .bool r ∧ l = []) := by
  refine Spec.enter Try.func96 rfl (by kernel_rfl) (by kernel_rfl) fun w0 F0 h0 => ?_
  unfold sluicegateref12_Right.f at H
  refine J.seq (J.region ?_)
  refine RJ.op rfl rfl (op_box rfl rfl h0) ?_
  rintro _ w1 ⟨b1, rfl, h1⟩
  replace h1 : St w0 F0 [boxC b1 25 [.string ⟨⟨a1.1⟩⟩, .string ⟨⟨a1.2.1⟩⟩, .bool a1.2.2]] _ _ := h1
  refine RJ.run ttok 1 rfl ?_
  refine RJ.fin [(0, .slice A1 a0.length c_1), (3, .pointer (some ⟨b1, 0, none⟩))] rfl ?_
  refine J.seq (J.seq (J.region ?_))
  refine RJ.run ttok 1 rfl ?_
  refine RJ.fin [(0, _), (3, _), (5, .int .i64 0)] rfl ?_
  refine J.block ?_
  have h7 := ((h1.only [0] rfl).rds [0] rfl)
  refine J.loop (fun kk env w => ∃ (x1 : Int), env = [(0, .slice A1 a0.length c_1), (3, .pointer (some ⟨b1, 0, none⟩)), (5, .int .i64 x1)] ∧ St w0 F0 [boxC b1 25 [.string ⟨⟨a1.1⟩⟩, .string ⟨⟨a1.2.1⟩⟩, .bool a1.2.2]] [rdC 9 .str a0 (.slice A1 a0.length c_1)] w ∧ sluicegateref12_Right.l0 kk a0 a1 x1 = some r) (k := k) ⟨0, rfl, h7, H⟩ ?_
  rintro k1 env w2 ⟨x1, rfl, h2, H⟩
  cases k1 with
  | zero => exact nomatch (show none = some r from H)
  | succ k1 =>
    rw [sluicegateref12_Right.l0] at H
    refine J.seq (J.seq (J.region ?_))
    refine RJ.run ttok 4 rfl ?_
    refine RJ.fin [(0, _), (3, _), (5, _), (9, .bool (decide (x1 < (a0.length : Int))))] rfl ?_
    refine J.cond rfl (fun c1 => ?_) (fun c1 => ?_)
    · replace H := ite_t c1 H
      refine J.skip ?_
      refine J.seq (J.block (J.seq ?_))
      refine J.heldSt mix h2 ?_
      have h3 := h2.drew
      refine HJ.run ttok rfl [1, 2] rfl ?_
      refine HJ.q (i := 0) rfl rfl rfl rfl rfl rfl (q_load_box ttok 0 (fun w e => e) rfl rfl rfl rfl rfl) ?_
      obtain ⟨⟨p1, p2⟩, H⟩ := guard_t H
      have e1 := elem_A h3.wh (Gives.self 1 rfl) p1 p2
      refine HJ.q (i := 3) rfl rfl rfl rfl rfl rfl (q_index ttok rfl rfl rfl rfl rfl e1 p1 p2) ?_
      refine HJ.q (i := 4) rfl rfl rfl rfl rfl rfl (q_load_elem (f := 0) ttok rfl (fun w e => e) (Gives.self 1 rfl) p1 p2 rfl rfl rfl rfl rfl) ?_
      obtain ⟨r1, q1, H⟩ := bind_t H
      refine HJ.op (i := 5) rfl rfl rfl rfl rfl (op_call [] (sluicegateref01_In.spec q1) rfl rfl rfl h3 rfl gnil) ?_
      rintro _ w3 ⟨_, ⟨rfl, rfl⟩, h4⟩
      replace h4 : St w0 F0 [_] _ _ := h4
      refine ⟨⟨[], h4⟩, ?_⟩
      refine HJ.run ttok rfl [6, 7] rfl ?_
      rcases Bool.eq_false_or_eq_true (!r1) with c2 | c2
      · replace H := ite_t c2 H
        refine HJ.know (t := 19) rfl (congrArg Value.bool c2) ?_
        refine HJ.run ttok rfl [8, 9, 10, 11, 12, 13, 14, 15] rfl ?_
        refine HJ.fin [(0, _), (3, _), (5, _), (27, .bool true)] rfl rfl ?_
        refine J.condT rfl ?_
        refine J.seq (J.region ?_)
        refine RJ.run ttok 1 rfl ?_
        refine RJ.fin [(4, .bool false)] rfl ?_
        refine J.ret ?_
        obtain rfl := Option.some.inj H
        exact ⟨_, _, _, (results_slots rfl), ⟨rfl, rfl⟩, h4.only [] rfl⟩
      replace H := ite_f c2 H
      refine HJ.know (t := 19) rfl (congrArg Value.bool c2) ?_
      refine HJ.run ttok rfl [8, 9, 12] rfl ?_
      refine HJ.q (i := 10) rfl rfl rfl rfl rfl rfl (q_index ttok rfl rfl rfl rfl rfl e1 p1 p2) ?_
      refine HJ.q (i := 11) rfl rfl rfl rfl rfl rfl (q_load_elem (f := 0) ttok rfl (fun w e => e) (Gives.self 1 rfl) p1 p2 rfl rfl rfl rfl rfl) ?_
      refine HJ.q (i := 13) rfl rfl rfl rfl rfl rfl (q_load_box ttok 0 (fun w e => e) rfl rfl rfl rfl rfl) ?_
      refine HJ.run ttok rfl [14, 15] rfl ?_
      refine HJ.fin [(0, _), (3, _), (5, _), (27, .bool (decide ((gt a0 x1) = a1.1)))] rfl rfl ?_
      refine J.cond rfl (fun c3 => ?_) (fun c3 => ?_)
      · replace H := ite_t c3 H
        refine J.seq (J.region ?_)
        refine RJ.run ttok 1 rfl ?_
        refine RJ.fin [(4, .bool false)] rfl ?_
        refine J.ret ?_
        obtain rfl := Option.some.inj H
        exact ⟨_, _, _, (results_slots rfl), ⟨rfl, rfl⟩, h4.only [] rfl⟩
      replace H := ite_f c3 H
      refine J.skip ?_
      refine J.region ?_
      refine RJ.run ttok 3 rfl ?_
      refine RJ.fin [(0, _), (3, _), (5, .int .i64 (w64 (x1 + 1)))] rfl ?_
      have h5 := ((h4.only [0] rfl).rds [0] rfl)
      exact ⟨k1, by omega, (w64 (x1 + 1)), rfl, h5, H⟩
    replace H := ite_f c1 H
    refine J.exit ?_
    refine J.seq (J.region ?_)
    refine RJ.run ttok 1 rfl ?_
    obtain ⟨r2, q2, H⟩ := bind_t H
    refine RJ.op rfl rfl (op_call [] (sluicegateref12_Rise.spec q2) rfl rfl rfl h2 rfl (gcons (Gives.self 1 rfl) gnil)) ?_
    rintro _ w4 ⟨_, ⟨rfl, rfl⟩, h6⟩
    replace h6 : St w0 F0 [_] _ _ := h6
    refine RJ.run ttok 1 rfl ?_
    refine RJ.fin [(4, .bool r2)] rfl ?_
    refine J.ret ?_
    obtain rfl := Option.some.inj H
    exact ⟨_, _, _, (results_slots rfl), ⟨rfl, rfl⟩, h6.only [] rfl⟩

/-! sluicegate/sluicegateref10.Right -/
def sluicegateref10_Right.l0 : Nat → (List (List UInt8 × Bool × List UInt8)) → (Int) → Option (Bool)
  | 0, _, _ => none
  | k + 1, a0, x1 => if (decide (x1 < (a0.length : Int))) = true then (if 0 ≤ (w64 (x1 - 1)) ∧ (w64 (x1 - 1)) < (a0.length : Int) then (if 0 ≤ x1 ∧ x1 < (a0.length : Int) then ((sluicegateref01_Compare.f k ((gt a0 (w64 (x1 - 1))).1) ((gt a0 x1).1)).bind fun r1 => (if (decide (0 ≤ r1)) = true then (some false) else (sluicegateref10_Right.l0 k a0 (w64 (x1 + 1))))) else none) else none) else (some true)
def sluicegateref10_Right.f (k : Nat) (a0 : List (List UInt8 × Bool × List UInt8)) : Option (Bool) := sluicegateref10_Right.l0 k a0 1
set_option maxRecDepth 20000 in
set_option maxHeartbeats 40000000 in
theorem sluicegateref10_Right.spec {k : Nat} {a0 : List (List UInt8 × Bool × List UInt8)} {A1 : Option Addr} {c_1 : Nat} {r : Bool} (H : sluicegateref10_Right.f k a0 = some r) :
    Spec Try.prog 70 [.slice A1 a0.length c_1] [] [rdC 48 (.pair .str (.pair .bool .str)) a0 (.slice A1 a0.length c_1)] (fun v l => v = .bool r ∧ l = []) := by
  refine Spec.enter Try.func70 rfl (by kernel_rfl) (by kernel_rfl) fun w0 F0 h0 => ?_
  unfold sluicegateref10_Right.f at H
  refine J.seq (J.region ?_)
  refine RJ.run ttok 1 rfl ?_
  refine RJ.fin [(0, .slice A1 a0.length c_1)] rfl ?_
  refine J.seq (J.seq (J.region ?_))
  refine RJ.run ttok 1 rfl ?_
  refine RJ.fin [(0, _), (3, .int .i64 1)] rfl ?_
  refine J.block ?_
  have h5 := ((h0.only [] rfl).rds [0] rfl)
  refine J.loop (fun kk env w => ∃ (x1 : Int), env = [(0, .slice A1 a0.length c_1), (3, .int .i64 x1)] ∧ St w0 F0 [] [rdC 48 (.pair .str (.pair .bool .str)) a0 (.slice A1 a0.length c_1)] w ∧ sluicegateref10_Right.l0 kk a0 x1 = some r) (k := k) ⟨1, rfl, h5, H⟩ ?_
  rintro k1 env w1 ⟨x1, rfl, h1, H⟩
  cases k1 with
  | zero => exact nomatch (show none = some r from H)
  | succ k1 =>
    rw [sluicegateref10_Right.l0] at H
    refine J.seq (J.seq (J.region ?_))
    refine RJ.run ttok 4 rfl ?_
    refine RJ.fin [(0, _), (3, _), (7, .bool (decide (x1 < (a0.length : Int))))] rfl ?_
    refine J.cond rfl (fun c1 => ?_) (fun c1 => ?_)
    · replace H := ite_t c1 H
      refine J.skip ?_
      refine J.seq (J.block (J.seq ?_))
      refine J.heldSt mix h1 ?_
      have h2 := h1.drew
      refine HJ.run ttok rfl [0, 1, 2, 6, 7] rfl ?_
      obtain ⟨⟨p1, p2⟩, H⟩ := guard_t H
      have e1 := elem_A h2.wh (Gives.self 0 rfl) p1 p2
      refine HJ.q (i := 3) rfl rfl rfl rfl rfl rfl (q_index ttok rfl rfl rfl rfl rfl e1 p1 p2) ?_
      refine HJ.run ttok rfl [4] rfl ?_
      refine HJ.q (i := 5) rfl rfl rfl rfl rfl rfl (q_load_elem (f := 0) ttok rfl (fun w e => e) (Gives.self 0 rfl) p1 p2 rfl rfl rfl rfl rfl) ?_
      obtain ⟨⟨p3, p4⟩, H⟩ := guard_t H
      refine HJ.q (i := 8) rfl rfl rfl rfl rfl rfl (q_index ttok rfl rfl rfl rfl rfl e1 p3 p4) ?_
      refine HJ.run ttok rfl [9] rfl ?_
      refine HJ.q (i := 10) rfl rfl rfl rfl rfl rfl (q_load_elem (f := 0) ttok rfl (fun w e => e) (Gives.self 0 rfl) p3 p4 rfl rfl rfl rfl rfl) ?_
      obtain ⟨r1, q1, H⟩ := bind_t H
      refine HJ.op (i := 11) rfl rfl rfl rfl rfl (op_call [] (sluicegateref01_Compare.spec q1) rfl rfl rfl h2 rfl gnil) ?_
      rintro _ w2 ⟨_, ⟨rfl, rfl⟩, h3⟩
      replace h3 : St w0 F0 [] _ _ := h3
      refine ⟨⟨[], h3⟩, ?_⟩
      refine HJ.run ttok rfl [12] rfl ?_
      refine HJ.fin [(0, _), (3, _), (22, .bool (decide (0 ≤ r1)))] rfl rfl ?_
      refine J.cond rfl (fun c2 => ?_) (fun c2 => ?_)
      · replace H := ite_t c2 H
        refine J.seq (J.region ?_)
        refine RJ.run ttok 1 rfl ?_
        refine RJ.fin [(2, .bool false)] rfl ?_
        refine J.ret ?_
        obtain rfl := Option.some.inj H
        exact ⟨_, _, _, (results_slots rfl), ⟨rfl, rfl⟩, h3.only [] rfl⟩
      replace H := ite_f c2 H
      refine J.skip ?_
      refine J.region ?_
      refine RJ.run ttok 3 rfl ?_
      refine RJ.fin [(0, _), (3, .int .i64 (w64 (x1 + 1)))] rfl ?_
      have h4 := ((h3.only [] rfl).rds [0] rfl)
      exact ⟨k1, by omega, (w64 (x1 + 1)), rfl, h4, H⟩
    replace H := ite_f c1 H
    refine J.exit ?_
    refine J.seq (J.region ?_)
    refine RJ.run ttok 1 rfl ?_
    refine RJ.fin [(2, .bool true)] rfl ?_
    refine J.ret ?_
    obtain rfl := Option.some.inj H
    exact ⟨_, _, _, (results_slots rfl), ⟨rfl, rfl⟩, h1.only [] rfl⟩

/-! sluicegate/sluicegateref13.inner -/
def sluicegateref13_inner.l3 : Nat → (Int × Int × Int × Int × Int × Int × Int × Int) → (List UInt8 × List UInt8 × Bool) → (Int × List (Int) × List (List UInt8) × (List (List UInt8 × Bool × List UInt8)) × (List (List UInt8 × List UInt8))) → (Int) → Option (Bool)
  | 0, _, _, _, _ => none
  | k + 1, a0, a1, a2, x4 => if (decide (x4 < (a2.2.2.2.1.length : Int))) = true then (if 0 ≤ x4 ∧ x4 < (a2.2.2.2.1.length : Int) then ((sluicegateref13_Key.f (a0.1, a0.2.1, a0.2.2.1, a0.2.2.2.1, a0.2.2.2.2.1, a0.2.2.2.2.2.1, a0.2.2.2.2.2.2.1, a0.2.2.2.2.2.2.2) ((gt a2.2.2.2.1 x4).1)).bind fun r2 => (if (!r2) = true then (some false) else ((sluicegateref01_In.f k (a1.1, a1.2.1, a1.2.2) ((gt a2.2.2.2.1 x4).1)).bind fun r3 => (if (!r3) = true then (some false) else (if (decide (a0.2.2.2.2.2.2.2 < (((gt a2.2.2.2.1 x4).2.2).length : Int))) = true then (some false) else (if (gt a2.2.2.2.1 x4).2.1 = true then (if (!decide (((gt a2.2.2.2.1 x4).2.2) = ([] : List UInt8))) = true then (some false) else (sluicegateref13_inner.l3 k a0 a1 a2 (w64 (x4 + 1)))) else (sluicegateref13_inner.l3 k a0 a1 a2 (w64 (x4 + 1))))))))) else none) else (if (decide (40 < a2.1)) = true then (some false) else (if (decide (0 < (a2.2.2.2.2.length : Int))) = true then (some false) else (if (decide ((a2.2.1.length : Int) < 1)) = true then (some false) else (if (decide (a0.2.2.2.1 < (a2.2.1.length : Int))) = true then (some false) else (if (!decide ((w64 ((a2.2.2.1.length : Int) + 1)) = (a2.2.1.length : Int))) = true then (some false) else ((sluicegateref12_Right.f k a2.2.2.1 (a1.1, a1.2.1, a1.2.2)).bind fun r4 => (if r4 = true then (if (decide ((a2.2.2.2.1.length : Int) ≤ a0.2.2.2.2.1)) = true then ((sluicegateref10_Right.f k a2.2.2.2.1).bind fun r5 => (some r5)) else (some false)) else (some false))))))))
def sluicegateref13_inner.l2 : Nat → (Int × Int × Int × Int × Int × Int × Int × Int) → (List UInt8 × List UInt8 × Bool) → (Int × List (Int) × List (List UInt8) × (List (List UInt8 × Bool × List UInt8)) × (List (List UInt8 × List UInt8))) → (Int) → Option (Bool)
  | 0, _, _, _, _ => none
  | k + 1, a0, a1, a2, x3 => if (decide (x3 < (a2.2.2.1.length : Int))) = true then (if 0 ≤ x3 ∧ x3 < (a2.2.2.1.length : Int) then ((sluicegateref13_Key.f (a0.1, a0.2.1, a0.2.2.1, a0.2.2.2.1, a0.2.2.2.2.1, a0.2.2.2.2.2.1, a0.2.2.2.2.2.2.1, a0.2.2.2.2.2.2.2) (gt a2.2.2.1 x3)).bind fun r1 => (if (!r1) = true then (some false) else (sluicegateref13_inner.l2 k a0 a1 a2 (w64 (x3 + 1))))) else none) else (sluicegateref13_inner.l3 k a0 a1 a2 0)
mutual
def sluicegateref13_inner.l0 : Nat → (Int × Int × Int × Int × Int × Int × Int × Int) → (List UInt8 × List UInt8 × Bool) → (Int × List (Int) × List (List UInt8) × (List (List UInt8 × Bool × List UInt8)) × (List (List UInt8 × List UInt8))) → (Int) → Option (Bool)
  | 0, _, _, _, _ => none
  | k + 1, a0, a1, a2, x1 => if (decide (x1 < (a2.2.1.length : Int))) = true then (if 0 ≤ x1 ∧ x1 < (a2.2.1.length : Int) then (if (decide ((gt a2.2.1 x1) = 0)) = true then (some false) else (if (decide (a0.1 ≤ (w64 ((gt a2.2.1 x1))))) = true then (some false) else (sluicegateref13_inner.l1 k a0 a1 a2 x1 0))) else none) else (sluicegateref13_inner.l2 k a0 a1 a2 0)
def sluicegateref13_inner.l1 : Nat → (Int × Int × Int × Int × Int × Int × Int × Int) → (List UInt8 × List UInt8 × Bool) → (Int × List (Int) × List (List UInt8) × (List (List UInt8 × Bool × List UInt8)) × (List (List UInt8 × List UInt8))) → (Int) → (Int) → Option (Bool)
  | 0, _, _, _, _, _ => none
  | k + 1, a0, a1, a2, x1, x2 => if (decide (x2 < x1)) = true then (if 0 ≤ x2 ∧ x2 < (a2.2.1.length : Int) then (if (decide ((gt a2.2.1 x2) = (gt a2.2.1 x1))) = true then (some false) else (sluicegateref13_inner.l1 k a0 a1 a2 x1 (w64 (x2 + 1)))) else none) else (sluicegateref13_inner.l0 k a0 a1 a2 (w64 (x1 + 1)))
end
def sluicegateref13_inner.f (k : Nat) (a0 : Int × Int × Int × Int × Int × Int × Int × Int) (a1 : List UInt8 × List UInt8 × Bool) (a2 : Int × List (Int) × List (List UInt8) × (List (List UInt8 × Bool × List UInt8)) × (List (List UInt8 × List UInt8))) : Option (Bool) := sluicegateref13_inner.l0 k a0 a1 a2 0
set_option maxRecDepth 20000 in
set_option maxHeartbeats 40000000 in
theorem sluicegateref13_inner.spec {k : Nat} {a0 : Int × Int × Int × Int × Int × Int × Int × Int} {a1 : List UInt8 × List UInt8 × Bool} {a2 : Int × List (Int) × List (List UInt8) × (List (List UInt8 × Bool × List UInt8)) × (List (List UInt8 × List UInt8))} {A1 : Option Addr} {c_1 : Nat} {A2 : Option Addr} {c_2 : Nat} {A3 : Option Addr} {c_3 : Nat} {A4 : Option Addr} {c_4 : Nat} {r : Bool} (H : sluicegateref13_inner.f k a0 a1 a2 = some r) :
    Spec Try.prog 64 [.agg #[.int .i64 a0.1, .int .i64 a0.2.1, .int .i64 a0.2.2.1, .int .i64 a0.2.2.2.1, .int .i64 a0.2.2.2.2.1, .int .i64 a0.2.2.2.2.2.1, .int .i64 a0.2.2.2.2.2.2.1, .int .i64 a0.2.2.2.2.2.2.2], .agg #[.string ⟨⟨a1.1⟩⟩, .string ⟨⟨a1.2.1⟩⟩, .bool a1.2.2], .agg #[.int .i64 a2.1, .slice A1 a2.2.1.length c_1, .slice A2 a2.2.2.1.length c_2, .slice A3 a2.2.2.2.1.length c_3, .slice A4 a2.2.2.2.2.length c_4]] [] [rdC 46 (.int .u32) a2.2.1 (.slice A1 a2.2.1.length c_1), rdC 9 .str a2.2.2.1 (.slice A2 a2.2.2.1.length c_2), rdC 48 (.pair .str (.pair .bool .str)) a2.2.2.2.1 (.slice A3 a2.2.2.2.1.length c_3), rdC 50 (.pair .str .str) a2.2.2.2.2 (.slice A4 a2.2.2.2.2.length c_4)] (fun v l => v = .bool r ∧ l = []) := by
  refine Spec.enter Try.func64 rfl (by kernel_rfl) (by kernel_rfl) fun w0 F0 h0 => ?_
  unfold sluicegateref13_inner.f at H
  refine J.seq (J.region ?_)
  refine RJ.op rfl rfl (op_box rfl rfl h0) ?_
  rintro _ w1 ⟨b1, rfl, h1⟩
  replace h1 : St w0 F0 [boxC b1 23 [.int .i64 a0.1, .int .i64 a0.2.1, .int .i64 a0.2.2.1, .int .i64 a0.2.2.2.1, .int .i64 a0.2.2.2.2.1, .int .i64 a0.2.2.2.2.2.1, .int .i64 a0.2.2.2.2.2.2.1, .int .i64 a0.2.2.2.2.2.2.2]] _ _ := h1
  refine RJ.op rfl rfl (op_box rfl rfl h1) ?_
  rintro _ w2 ⟨b2, rfl, h2⟩
  replace h2 : St w0 F0 [boxC b2 25 [.string ⟨⟨a1.1⟩⟩, .string ⟨⟨a1.2.1⟩⟩, .bool a1.2.2], _] _ _ := h2
  refine RJ.op rfl rfl (op_box rfl rfl h2) ?_
  rintro _ w3 ⟨b3, rfl, h3⟩
  replace h3 : St w0 F0 [boxC b3 31 [.int .i64 a2.1, .slice A1 a2.2.1.length c_1, .slice A2 a2.2.2.1.length c_2, .slice A3 a2.2.2.2.1.length c_3, .slice A4 a2.2.2.2.2.length c_4], _, _] _ _ := h3
  refine RJ.run ttok 1 rfl ?_
  refine RJ.fin [(3, .pointer (some ⟨b1, 0, none⟩)), (4, .pointer (some ⟨b2, 0, none⟩)), (5, .pointer (some ⟨b3, 0, none⟩))] rfl ?_
  refine J.seq (J.seq (J.region ?_))
  refine RJ.run ttok 1 rfl ?_
  refine RJ.fin [(3, _), (4, _), (5, _), (7, .int .i64 0)] rfl ?_
  refine J.block ?_
  have h42 := ((h3.only [2, 1, 0] rfl).rds [0, 1, 2, 3] rfl)
  refine J.loop (fun kk env w => ∃ (x1 : Int), env = [(3, .pointer (some ⟨b1, 0, none⟩)), (4, .pointer (some ⟨b2, 0, none⟩)), (5, .pointer (some ⟨b3, 0, none⟩)), (7, .int .i64 x1)] ∧ St w0 F0 [boxC b1 23 [.int .i64 a0.1, .int .i64 a0.2.1, .int .i64 a0.2.2.1, .int .i64 a0.2.2.2.1, .int .i64 a0.2.2.2.2.1, .int .i64 a0.2.2.2.2.2.1, .int .i64 a0.2.2.2.2.2.2.1, .int .i64 a0.2.2.2.2.2.2.2], boxC b2 25 [.string ⟨⟨a1.1⟩⟩, .string ⟨⟨a1.2.1⟩⟩, .bool a1.2.2], boxC b3 31 [.int .i64 a2.1, .slice A1 a2.2.1.length c_1, .slice A2 a2.2.2.1.length c_2, .slice A3 a2.2.2.2.1.length c_3, .slice A4 a2.2.2.2.2.length c_4]] [rdC 46 (.int .u32) a2.2.1 (.slice A1 a2.2.1.length c_1), rdC 9 .str a2.2.2.1 (.slice A2 a2.2.2.1.length c_2), rdC 48 (.pair .str (.pair .bool .str)) a2.2.2.2.1 (.slice A3 a2.2.2.2.1.length c_3), rdC 50 (.pair .str .str) a2.2.2.2.2 (.slice A4 a2.2.2.2.2.length c_4)] w ∧ sluicegateref13_inner.l0 kk a0 a1 a2 x1 = some r) (k := k) ⟨0, rfl, h42, H⟩ ?_
  rintro k1 env w4 ⟨x1, rfl, h4, H⟩
  cases k1 with
  | zero => exact nomatch (show none = some r from H)
  | succ k1 =>
    rw [sluicegateref13_inner.l0] at H
    refine J.seq (J.seq (J.region ?_))
    refine RJ.run ttok 2 rfl ?_
    refine RJ.q rfl rfl (q_load_box ttok 2 h4.wht rfl rfl rfl rfl rfl) ?_
    refine RJ.run ttok 2 rfl ?_
    refine RJ.fin [(3, _), (4, _), (5, _), (7, _), (16, .bool (decide (x1 < (a2.2.1.length : Int))))] rfl ?_
    refine J.cond rfl (fun c1 => ?_) (fun c1 => ?_)
    · replace H := ite_t c1 H
      refine J.skip ?_
      refine J.seq (J.block (J.seq (J.seq ?_)))
      refine J.heldSt mix h4 ?_
      have h5 := h4.drew
      refine HJ.run ttok rfl [0, 2] rfl ?_
      refine HJ.q (i := 1) rfl rfl rfl rfl rfl rfl (q_load_box ttok 2 (fun w e => e) rfl rfl rfl rfl rfl) ?_
      obtain ⟨⟨p1, p2⟩, H⟩ := guard_t H
      have e1 := elem_A h5.wh (Gives.self 3 rfl) p1 p2
      refine HJ.q (i := 3) rfl rfl rfl rfl rfl rfl (q_index ttok rfl rfl rfl rfl rfl e1 p1 p2) ?_
      refine HJ.q (i := 4) rfl rfl rfl rfl rfl rfl (q_load_elem (f := 0) ttok rfl (fun w e => e) (Gives.self 3 rfl) p1 p2 rfl rfl rfl rfl rfl) ?_
      refine HJ.run ttok rfl [5, 6] rfl ?_
      rcases Bool.eq_false_or_eq_true (decide ((gt a2.2.1 x1) = 0)) with c2 | c2
      · replace H := ite_t c2 H
        refine HJ.know (t := 25) rfl (congrArg Value.bool c2) ?_
        refine HJ.run ttok rfl [7, 8, 9, 10, 11, 12, 13, 14, 15, 16] rfl ?_
        refine HJ.fin [(3, _), (4, _), (5, _), (7, _), (35, .bool true)] rfl rfl ?_
        refine J.condT rfl ?_
        refine J.seq (J.region ?_)
        refine RJ.run ttok 1 rfl ?_
        refine RJ.fin [(6, .bool false)] rfl ?_
        have h6 := h5.only [] rfl
        replace h6 : St w0 F0 [] _ _ := h6
        refine J.ret ?_
        obtain rfl := Option.some.inj H
        exact ⟨_, _, _, (results_slots rfl), ⟨rfl, rfl⟩, h6.only [] rfl⟩
      replace H := ite_f c2 H
      refine HJ.know (t := 25) rfl (congrArg Value.bool c2) ?_
      refine HJ.run ttok rfl [7, 9, 13] rfl ?_
      refine HJ.q (i := 8) rfl rfl rfl rfl rfl rfl (q_load_box ttok 2 (fun w e => e) rfl rfl rfl rfl rfl) ?_
      refine HJ.q (i := 10) rfl rfl rfl rfl rfl rfl (q_index ttok rfl rfl rfl rfl rfl e1 p1 p2) ?_
      refine HJ.q (i := 11) rfl rfl rfl rfl rfl rfl (q_load_elem (f := 0) ttok rfl (fun w e => e) (Gives.self 3 rfl) p1 p2 rfl rfl rfl rfl rfl) ?_
      refine HJ.run ttok rfl [12] rfl ?_
      refine HJ.q (i := 14) rfl rfl rfl rfl rfl rfl (q_load_box ttok 0 (fun w e => e) rfl rfl rfl rfl rfl) ?_
      refine HJ.run ttok rfl [15, 16] rfl ?_
      refine HJ.fin [(3, _), (4, _), (5, _), (7, _), (35, .bool (decide (a0.1 ≤ (w64 ((gt a2.2.1 x1))))))] rfl rfl ?_
      refine J.cond rfl (fun c3 => ?_) (fun c3 => ?_)
      · replace H := ite_t c3 H
        refine J.seq (J.region ?_)
        refine RJ.run ttok 1 rfl ?_
        refine RJ.fin [(6, .bool false)] rfl ?_
        have h7 := h5.only [] rfl
        replace h7 : St w0 F0 [] _ _ := h7
        refine J.ret ?_
        obtain rfl := Option.some.inj H
        exact ⟨_, _, _, (results_slots rfl), ⟨rfl, rfl⟩, h7.only [] rfl⟩
      replace H := ite_f c3 H
      refine J.skip ?_
      refine J.seq (J.region ?_)
      refine RJ.run ttok 1 rfl ?_
      refine RJ.fin [(3, _), (4, _), (5, _), (7, _), (8, .int .i64 0)] rfl ?_
      refine J.block ?_
      have h13 := ((h5.only [0, 0, 0] rfl).rds [0, 1, 2, 3] rfl)
      refine J.loop (fun kk env w => ∃ (x2 : Int), env = [(3, .pointer (some ⟨b1, 0, none⟩)), (4, .pointer (some ⟨b2, 0, none⟩)), (5, .pointer (some ⟨b3, 0, none⟩)), (7, .int .i64 x1), (8, .int .i64 x2)] ∧ St w0 F0 [boxC b1 23 [.int .i64 a0.1, .int .i64 a0.2.1, .int .i64 a0.2.2.1, .int .i64 a0.2.2.2.1, .int .i64 a0.2.2.2.2.1, .int .i64 a0.2.2.2.2.2.1, .int .i64 a0.2.2.2.2.2.2.1, .int .i64 a0.2.2.2.2.2.2.2], boxC b2 25 [.string ⟨⟨a1.1⟩⟩, .string ⟨⟨a1.2.1⟩⟩, .bool a1.2.2], boxC b3 31 [.int .i64 a2.1, .slice A1 a2.2.1.length c_1, .slice A2 a2.2.2.1.length c_2, .slice A3 a2.2.2.2.1.length c_3, .slice A4 a2.2.2.2.2.length c_4]] [rdC 46 (.int .u32) a2.2.1 (.slice A1 a2.2.1.length c_1), rdC 9 .str a2.2.2.1 (.slice A2 a2.2.2.1.length c_2), rdC 48 (.pair .str (.pair .bool .str)) a2.2.2.2.1 (.slice A3 a2.2.2.2.1.length c_3), rdC 50 (.pair .str .str) a2.2.2.2.2 (.slice A4 a2.2.2.2.2.length c_4)] w ∧ sluicegateref13_inner.l1 kk a0 a1 a2 x1 x2 = some r ∧ kk ≤ k1) (k := k1) ⟨0, rfl, h13, H, Nat.le_refl _⟩ ?_
      rintro k2 env w5 ⟨x2, rfl, h8, H, hk2⟩
      cases k2 with
      | zero => exact nomatch (show none = some r from H)
      | succ k2 =>
        rw [sluicegateref13_inner.l1] at H
        refine J.seq (J.seq (J.region ?_))
        refine RJ.run ttok 3 rfl ?_
        refine RJ.fin [(3, _), (4, _), (5, _), (7, _), (8, _), (38, .bool (decide (x2 < x1)))] rfl ?_
        refine J.cond rfl (fun c4 => ?_) (fun c4 => ?_)
        · replace H := ite_t c4 H
          refine J.skip ?_
          refine J.seq (J.block (J.seq ?_))
          refine J.heldSt mix h8 ?_
          have h9 := h8.drew
          refine HJ.run ttok rfl [0, 2, 5, 7] rfl ?_
          refine HJ.q (i := 1) rfl rfl rfl rfl rfl rfl (q_load_box ttok 2 (fun w e => e) rfl rfl rfl rfl rfl) ?_
          obtain ⟨⟨p3, p4⟩, H⟩ := guard_t H
          refine HJ.q (i := 3) rfl rfl rfl rfl rfl rfl (q_index ttok rfl rfl rfl rfl rfl e1 p3 p4) ?_
          refine HJ.q (i := 4) rfl rfl rfl rfl rfl rfl (q_load_elem (f := 0) ttok rfl (fun w e => e) (Gives.self 3 rfl) p3 p4 rfl rfl rfl rfl rfl) ?_
          refine HJ.q (i := 6) rfl rfl rfl rfl rfl rfl (q_load_box ttok 2 (fun w e => e) rfl rfl rfl rfl rfl) ?_
          refine HJ.q (i := 8) rfl rfl rfl rfl rfl rfl (q_index ttok rfl rfl rfl rfl rfl e1 p1 p2) ?_
          refine HJ.q (i := 9) rfl rfl rfl rfl rfl rfl (q_load_elem (f := 0) ttok rfl (fun w e => e) (Gives.self 3 rfl) p1 p2 rfl rfl rfl rfl rfl) ?_
          refine HJ.run ttok rfl [10] rfl ?_
          refine HJ.fin [(3, _), (4, _), (5, _), (7, _), (8, _), (51, .bool (decide ((gt a2.2.1 x2) = (gt a2.2.1 x1))))] rfl rfl ?_
          refine J.cond rfl (fun c5 => ?_) (fun c5 => ?_)
          · replace H := ite_t c5 H
            refine J.seq (J.region ?_)
            refine RJ.run ttok 1 rfl ?_
            refine RJ.fin [(6, .bool false)] rfl ?_
            have h10 := h9.only [] rfl
            replace h10 : St w0 F0 [] _ _ := h10
            refine J.ret ?_
            obtain rfl := Option.some.inj H
            exact ⟨_, _, _, (results_slots rfl), ⟨rfl, rfl⟩, h10.only [] rfl⟩
          replace H := ite_f c5 H
          refine J.skip ?_
          refine J.region ?_
          refine RJ.run ttok 3 rfl ?_
          refine RJ.fin [(3, _), (4, _), (5, _), (7, _), (8, .int .i64 (w64 (x2 + 1)))] rfl ?_
          have h11 := ((h9.only [0, 0, 0] rfl).rds [0, 1, 2, 3] rfl)
          exact ⟨k2, by omega, (w64 (x2 + 1)), rfl, h11, H, by omega⟩
        replace H := ite_f c4 H
        refine J.exit ?_
        refine J.region ?_
        refine RJ.run ttok 3 rfl ?_
        refine RJ.fin [(3, _), (4, _), (5, _), (7, .int .i64 (w64 (x1 + 1)))] rfl ?_
        have h12 := ((h8.only [0, 0, 0] rfl).rds [0, 1, 2, 3] rfl)
        exact ⟨k2, by omega, (w64 (x1 + 1)), rfl, h12, H⟩
    replace H := ite_f c1 H
    refine J.exit ?_
    refine J.seq (J.seq (J.region ?_))
    refine RJ.run ttok 1 rfl ?_
    refine RJ.fin [(3, _), (4, _), (5, _), (9, .int .i64 0)] rfl ?_
    refine J.block ?_
    have h41 := ((h4.only [0, 0, 0] rfl).rds [0, 1, 2, 3] rfl)
    refine J.loop (fun kk env w => ∃ (x3 : Int), env = [(3, .pointer (some ⟨b1, 0, none⟩)), (4, .pointer (some ⟨b2, 0, none⟩)), (5, .pointer (some ⟨b3, 0, none⟩)), (9, .int .i64 x3)] ∧ St w0 F0 [boxC b1 23 [.int .i64 a0.1, .int .i64 a0.2.1, .int .i64 a0.2.2.1, .int .i64 a0.2.2.2.1, .int .i64 a0.2.2.2.2.1, .int .i64 a0.2.2.2.2.2.1, .int .i64 a0.2.2.2.2.2.2.1, .int .i64 a0.2.2.2.2.2.2.2], boxC b2 25 [.string ⟨⟨a1.1⟩⟩, .string ⟨⟨a1.2.1⟩⟩, .bool a1.2.2], boxC b3 31 [.int .i64 a2.1, .slice A1 a2.2.1.length c_1, .slice A2 a2.2.2.1.length c_2, .slice A3 a2.2.2.2.1.length c_3, .slice A4 a2.2.2.2.2.length c_4]] [rdC 46 (.int .u32) a2.2.1 (.slice A1 a2.2.1.length c_1), rdC 9 .str a2.2.2.1 (.slice A2 a2.2.2.1.length c_2), rdC 48 (.pair .str (.pair .bool .str)) a2.2.2.2.1 (.slice A3 a2.2.2.2.1.length c_3), rdC 50 (.pair .str .str) a2.2.2.2.2 (.slice A4 a2.2.2.2.2.length c_4)] w ∧ sluicegateref13_inner.l2 kk a0 a1 a2 x3 = some r) (k := k1) ⟨0, rfl, h41, H⟩ ?_
    rintro k3 env w6 ⟨x3, rfl, h14, H⟩
    cases k3 with
    | zero => exact nomatch (show none = some r from H)
    | succ k3 =>
      rw [sluicegateref13_inner.l2] at H
      refine J.seq (J.seq (J.region ?_))
      refine RJ.run ttok 2 rfl ?_
      refine RJ.q rfl rfl (q_load_box ttok 2 h14.wht rfl rfl rfl rfl rfl) ?_
      refine RJ.run ttok 2 rfl ?_
      refine RJ.fin [(3, _), (4, _), (5, _), (9, _), (56, .bool (decide (x3 < (a2.2.2.1.length : Int))))] rfl ?_
      refine J.cond rfl (fun c6 => ?_) (fun c6 => ?_)
      · replace H := ite_t c6 H
        refine J.skip ?_
        refine J.seq (J.block (J.seq ?_))
        refine J.heldSt mix h14 ?_
        have h15 := h14.drew
        refine HJ.run ttok rfl [1, 3] rfl ?_
        refine HJ.q (i := 0) rfl rfl rfl rfl rfl rfl (q_load_box ttok 0 (fun w e => e) rfl rfl rfl rfl rfl) ?_
        refine HJ.q (i := 2) rfl rfl rfl rfl rfl rfl (q_load_box ttok 2 (fun w e => e) rfl rfl rfl rfl rfl) ?_
        obtain ⟨⟨p5, p6⟩, H⟩ := guard_t H
        have e2 := elem_A h15.wh (Gives.self 4 rfl) p5 p6
        refine HJ.q (i := 4) rfl rfl rfl rfl rfl rfl (q_index ttok rfl rfl rfl rfl rfl e2 p5 p6) ?_
        refine HJ.q (i := 5) rfl rfl rfl rfl rfl rfl (q_load_elem (f := 0) ttok rfl (fun w e => e) (Gives.self 4 rfl) p5 p6 rfl rfl rfl rfl rfl) ?_
        obtain ⟨r1, q1, H⟩ := bind_t H
        refine HJ.op (i := 6) rfl rfl rfl rfl rfl (op_call [] (sluicegateref13_Key.spec q1) rfl rfl rfl h15 rfl gnil) ?_
        rintro _ w7 ⟨_, ⟨rfl, rfl⟩, h16⟩
        replace h16 : St w0 F0 [_, _, _] _ _ := h16
        refine ⟨⟨[], h16⟩, ?_⟩
        refine HJ.run ttok rfl [7] rfl ?_
        refine HJ.fin [(3, _), (4, _), (5, _), (9, _), (66, .bool (!r1))] rfl rfl ?_
        refine J.cond rfl (fun c7 => ?_) (fun c7 => ?_)
        · replace H := ite_t c7 H
          refine J.seq (J.region ?_)
          refine RJ.run ttok 1 rfl ?_
          refine RJ.fin [(6, .bool false)] rfl ?_
          have h17 := h16.only [] rfl
          replace h17 : St w0 F0 [] _ _ := h17
          refine J.ret ?_
          obtain rfl := Option.some.inj H
          exact ⟨_, _, _, (results_slots rfl), ⟨rfl, rfl⟩, h17.only [] rfl⟩
        replace H := ite_f c7 H
        refine J.skip ?_
        refine J.region ?_
        refine RJ.run ttok 3 rfl ?_
        refine RJ.fin [(3, _), (4, _), (5, _), (9, .int .i64 (w64 (x3 + 1)))] rfl ?_
        have h18 := ((h16.only [0, 0, 0] rfl).rds [0, 1, 2, 3] rfl)
        exact ⟨k3, by omega, (w64 (x3 + 1)), rfl, h18, H⟩
      replace H := ite_f c6 H
      refine J.exit ?_
      refine J.seq (J.seq (J.region ?_))
      refine RJ.run ttok 1 rfl ?_
      refine RJ.fin [(3, _), (4, _), (5, _), (10, .int .i64 0)] rfl ?_
      refine J.block ?_
      have h40 := ((h14.only [0, 0, 0] rfl).rds [0, 1, 2, 3] rfl)
      refine J.loop (fun kk env w => ∃ (x4 : Int), env = [(3, .pointer (some ⟨b1, 0, none⟩)), (4, .pointer (some ⟨b2, 0, none⟩)), (5, .pointer (some ⟨b3, 0, none⟩)), (10, .int .i64 x4)] ∧ St w0 F0 [boxC b1 23 [.int .i64 a0.1, .int .i64 a0.2.1, .int .i64 a0.2.2.1, .int .i64 a0.2.2.2.1, .int .i64 a0.2.2.2.2.1, .int .i64 a0.2.2.2.2.2.1, .int .i64 a0.2.2.2.2.2.2.1, .int .i64 a0.2.2.2.2.2.2.2], boxC b2 25 [.string ⟨⟨a1.1⟩⟩, .string ⟨⟨a1.2.1⟩⟩, .bool a1.2.2], boxC b3 31 [.int .i64 a2.1, .slice A1 a2.2.1.length c_1, .slice A2 a2.2.2.1.length c_2, .slice A3 a2.2.2.2.1.length c_3, .slice A4 a2.2.2.2.2.length c_4]] [rdC 46 (.int .u32) a2.2.1 (.slice A1 a2.2.1.length c_1), rdC 9 .str a2.2.2.1 (.slice A2 a2.2.2.1.length c_2), rdC 48 (.pair .str (.pair .bool .str)) a2.2.2.2.1 (.slice A3 a2.2.2.2.1.length c_3), rdC 50 (.pair .str .str) a2.2.2.2.2 (.slice A4 a2.2.2.2.2.length c_4)] w ∧ sluicegateref13_inner.l3 kk a0 a1 a2 x4 = some r) (k := k3) ⟨0, rfl, h40, H⟩ ?_
      rintro k4 env w8 ⟨x4, rfl, h19, H⟩
      cases k4 with
      | zero => exact nomatch (show none = some r from H)
      | succ k4 =>
        rw [sluicegateref13_inner.l3] at H
        refine J.seq (J.seq (J.region ?_))
        refine RJ.run ttok 2 rfl ?_
        refine RJ.q rfl rfl (q_load_box ttok 2 h19.wht rfl rfl rfl rfl rfl) ?_
        refine RJ.run ttok 2 rfl ?_
        refine RJ.fin [(3, _), (4, _), (5, _), (10, _), (71, .bool (decide (x4 < (a2.2.2.2.1.length : Int))))] rfl ?_
        refine J.cond rfl (fun c8 => ?_) (fun c8 => ?_)
        · replace H := ite_t c8 H
          refine J.skip ?_
          refine J.seq (J.block (J.seq (J.region ?_)))
          refine RJ.run ttok 1 rfl ?_
          refine RJ.q rfl rfl (q_load_box ttok 2 h19.wht rfl rfl rfl rfl rfl) ?_
          refine RJ.run ttok 1 rfl ?_
          obtain ⟨⟨p7, p8⟩, H⟩ := guard_t H
          have e3 := elem_A h19.wh (Gives.self 5 rfl) p7 p8
          refine RJ.q rfl rfl (q_index ttok rfl rfl rfl rfl rfl e3 p7 p8) ?_
          refine RJ.q rfl rfl (q_load_elem (f := 0) ttok rfl h19.wht (Gives.self 5 rfl) p7 p8 rfl rfl rfl rfl rfl) ?_
          refine RJ.op rfl rfl (op_alloc ttok rfl rfl h19) ?_
          rintro _ w9 ⟨b4, rfl, h20⟩
          replace h20 : St w0 F0 [boxC b4 48 [.string ⟨⟨([] : List UInt8)⟩⟩, .bool false, .string ⟨⟨([] : List UInt8)⟩⟩], _, _, _] _ _ := h20
          refine RJ.op rfl rfl (op_store ttok 0 rfl h20 rfl rfl rfl rfl rfl rfl rfl) ?_
          intro _ w10 h21
          replace h21 : St w0 F0 [boxC b4 48 [.string ⟨⟨(gt a2.2.2.2.1 x4).1⟩⟩, .bool ((gt a2.2.2.2.1 x4).2.1), .string ⟨⟨(gt a2.2.2.2.1 x4).2.2⟩⟩], _, _, _] _ _ := h21
          refine RJ.fin [(3, _), (4, _), (5, _), (10, _), (11, .pointer (some ⟨b4, 0, none⟩))] rfl ?_
          refine J.seq (J.region ?_)
          refine RJ.q rfl rfl (q_load_box ttok 1 h21.wht rfl rfl rfl rfl rfl) ?_
          refine RJ.run ttok 1 rfl ?_
          refine RJ.q rfl rfl (q_load_box ttok 0 h21.wht rfl rfl rfl rfl rfl) ?_
          obtain ⟨r2, q2, H⟩ := bind_t H
          refine RJ.op rfl rfl (op_call [] (sluicegateref13_Key.spec q2) rfl rfl rfl h21 rfl gnil) ?_
          rintro _ w11 ⟨_, ⟨rfl, rfl⟩, h22⟩
          replace h22 : St w0 F0 [_, _, _, _] _ _ := h22
          refine RJ.run ttok 2 rfl ?_
          rcases Bool.eq_false_or_eq_true (!r2) with c9 | c9
          · replace H := ite_t c9 H
            refine RJ.know (t := 84) rfl (congrArg Value.bool c9) ?_
            refine RJ.run ttok 23 rfl ?_
            refine RJ.fin [(3, _), (4, _), (5, _), (10, _), (107, .bool true)] rfl ?_
            refine J.condT rfl ?_
            refine J.seq (J.region ?_)
            refine RJ.run ttok 1 rfl ?_
            refine RJ.fin [(6, .bool false)] rfl ?_
            have h23 := h22.only [] rfl
            replace h23 : St w0 F0 [] _ _ := h23
            refine J.ret ?_
            obtain rfl := Option.some.inj H
            exact ⟨_, _, _, (results_slots rfl), ⟨rfl, rfl⟩, h23.only [] rfl⟩
          replace H := ite_f c9 H
          refine RJ.know (t := 84) rfl (congrArg Value.bool c9) ?_
          refine RJ.q rfl rfl (q_load_box ttok 2 h22.wht rfl rfl rfl rfl rfl) ?_
          refine RJ.run ttok 1 rfl ?_
          refine RJ.q rfl rfl (q_load_box ttok 0 h22.wht rfl rfl rfl rfl rfl) ?_
          obtain ⟨r3, q3, H⟩ := bind_t H
          refine RJ.op rfl rfl (op_call [] (sluicegateref01_In.spec q3) rfl rfl rfl h22 rfl gnil) ?_
          rintro _ w12 ⟨_, ⟨rfl, rfl⟩, h24⟩
          replace h24 : St w0 F0 [_, _, _, _] _ _ := h24
          refine RJ.run ttok 3 rfl ?_
          rcases Bool.eq_false_or_eq_true (!r3) with c10 | c10
          · replace H := ite_t c10 H
            refine RJ.know (t := 91) rfl (congrArg Value.bool c10) ?_
            refine RJ.run ttok 16 rfl ?_
            refine RJ.fin [(3, _), (4, _), (5, _), (10, _), (107, .bool true)] rfl ?_
            refine J.condT rfl ?_
            refine J.seq (J.region ?_)
            refine RJ.run ttok 1 rfl ?_
            refine RJ.fin [(6, .bool false)] rfl ?_
            have h25 := h24.only [] rfl
            replace h25 : St w0 F0 [] _ _ := h25
            refine J.ret ?_
            obtain rfl := Option.some.inj H
            exact ⟨_, _, _, (results_slots rfl), ⟨rfl, rfl⟩, h25.only [] rfl⟩
          replace H := ite_f c10 H
          refine RJ.know (t := 91) rfl (congrArg Value.bool c10) ?_
          refine RJ.run ttok 1 rfl ?_
          refine RJ.q rfl rfl (q_load_box ttok 0 h24.wht rfl rfl rfl rfl rfl) ?_
          refine RJ.run ttok 2 rfl ?_
          refine RJ.q rfl rfl (q_load_box ttok 1 h24.wht rfl rfl rfl rfl rfl) ?_
          refine RJ.run ttok 3 rfl ?_
          rcases Bool.eq_false_or_eq_true (decide (a0.2.2.2.2.2.2.2 < (((gt a2.2.2.2.1 x4).2.2).length : Int))) with c11 | c11
          · replace H := ite_t c11 H
            refine RJ.know (t := 99) rfl (congrArg Value.bool c11) ?_
            refine RJ.run ttok 8 rfl ?_
            refine RJ.fin [(3, _), (4, _), (5, _), (10, _), (107, .bool true)] rfl ?_
            refine J.condT rfl ?_
            refine J.seq (J.region ?_)
            refine RJ.run ttok 1 rfl ?_
            refine RJ.fin [(6, .bool false)] rfl ?_
            have h26 := h24.only [] rfl
            replace h26 : St w0 F0 [] _ _ := h26
            refine J.ret ?_
            obtain rfl := Option.some.inj H
            exact ⟨_, _, _, (results_slots rfl), ⟨rfl, rfl⟩, h26.only [] rfl⟩
          replace H := ite_f c11 H
          refine RJ.know (t := 99) rfl (congrArg Value.bool c11) ?_
          refine RJ.run ttok 1 rfl ?_
          refine RJ.q rfl rfl (q_load_box ttok 0 h24.wht rfl rfl rfl rfl rfl) ?_
          refine RJ.run ttok 1 rfl ?_
          rcases Bool.eq_false_or_eq_true ((gt a2.2.2.2.1 x4).2.1) with c12 | c12
          · replace H := ite_t c12 H
            refine RJ.know (t := 102) rfl (congrArg Value.bool c12) ?_
            refine RJ.run ttok 1 rfl ?_
            refine RJ.q rfl rfl (q_load_box ttok 0 h24.wht rfl rfl rfl rfl rfl) ?_
            refine RJ.run ttok 3 rfl ?_
            refine RJ.fin [(3, _), (4, _), (5, _), (10, _), (107, .bool (!decide (((gt a2.2.2.2.1 x4).2.2) = ([] : List UInt8))))] rfl ?_
            refine J.cond rfl (fun c13 => ?_) (fun c13 => ?_)
            · replace H := ite_t c13 H
              refine J.seq (J.region ?_)
              refine RJ.run ttok 1 rfl ?_
              refine RJ.fin [(6, .bool false)] rfl ?_
              have h27 := h24.only [] rfl
              replace h27 : St w0 F0 [] _ _ := h27
              refine J.ret ?_
              obtain rfl := Option.some.inj H
              exact ⟨_, _, _, (results_slots rfl), ⟨rfl, rfl⟩, h27.only [] rfl⟩
            replace H := ite_f c13 H
            refine J.skip ?_
            refine J.region ?_
            refine RJ.run ttok 3 rfl ?_
            refine RJ.fin [(3, _), (4, _), (5, _), (10, .int .i64 (w64 (x4 + 1)))] rfl ?_
            have h28 := ((h24.only [1, 1, 1] rfl).rds [0, 1, 2, 3] rfl)
            exact ⟨k4, by omega, (w64 (x4 + 1)), rfl, h28, H⟩
          replace H := ite_f c12 H
          refine RJ.know (t := 102) rfl (congrArg Value.bool c12) ?_
          refine RJ.run ttok 5 rfl ?_
          refine RJ.fin [(3, _), (4, _), (5, _), (10, _), (107, .bool false)] rfl ?_
          refine J.condF rfl ?_
          refine J.skip ?_
          refine J.region ?_
          refine RJ.run ttok 3 rfl ?_
          refine RJ.fin [(3, _), (4, _), (5, _), (10, .int .i64 (w64 (x4 + 1)))] rfl ?_
          have h29 := ((h24.only [1, 1, 1] rfl).rds [0, 1, 2, 3] rfl)
          exact ⟨k4, by omega, (w64 (x4 + 1)), rfl, h29, H⟩
        replace H := ite_f c8 H
        refine J.exit ?_
        refine J.seq (J.seq (J.region ?_))
        refine RJ.run ttok 1 rfl ?_
        refine RJ.q rfl rfl (q_load_box ttok 2 h19.wht rfl rfl rfl rfl rfl) ?_
        refine RJ.run ttok 2 rfl ?_
        rcases Bool.eq_false_or_eq_true (decide (40 < a2.1)) with c14 | c14
        · replace H := ite_t c14 H
          refine RJ.know (t := 111) rfl (congrArg Value.bool c14) ?_
          refine RJ.run ttok 29 rfl ?_
          refine RJ.fin [(3, _), (4, _), (5, _), (140, .bool true)] rfl ?_
          refine J.condT rfl ?_
          refine J.seq (J.region ?_)
          refine RJ.run ttok 1 rfl ?_
          refine RJ.fin [(6, .bool false)] rfl ?_
          have h30 := h19.only [] rfl
          replace h30 : St w0 F0 [] _ _ := h30
          refine J.ret ?_
          obtain rfl := Option.some.inj H
          exact ⟨_, _, _, (results_slots rfl), ⟨rfl, rfl⟩, h30.only [] rfl⟩
        replace H := ite_f c14 H
        refine RJ.know (t := 111) rfl (congrArg Value.bool c14) ?_
        refine RJ.run ttok 1 rfl ?_
        refine RJ.q rfl rfl (q_load_box ttok 2 h19.wht rfl rfl rfl rfl rfl) ?_
        refine RJ.run ttok 4 rfl ?_
        rcases Bool.eq_false_or_eq_true (decide (0 < (a2.2.2.2.2.length : Int))) with c15 | c15
        · replace H := ite_t c15 H
          refine RJ.know (t := 117) rfl (congrArg Value.bool c15) ?_
          refine RJ.run ttok 23 rfl ?_
          refine RJ.fin [(3, _), (4, _), (5, _), (140, .bool true)] rfl ?_
          refine J.condT rfl ?_
          refine J.seq (J.region ?_)
          refine RJ.run ttok 1 rfl ?_
          refine RJ.fin [(6, .bool false)] rfl ?_
          have h31 := h19.only [] rfl
          replace h31 : St w0 F0 [] _ _ := h31
          refine J.ret ?_
          obtain rfl := Option.some.inj H
          exact ⟨_, _, _, (results_slots rfl), ⟨rfl, rfl⟩, h31.only [] rfl⟩
        replace H := ite_f c15 H
        refine RJ.know (t := 117) rfl (congrArg Value.bool c15) ?_
        refine RJ.run ttok 1 rfl ?_
        refine RJ.q rfl rfl (q_load_box ttok 2 h19.wht rfl rfl rfl rfl rfl) ?_
        refine RJ.run ttok 4 rfl ?_
        rcases Bool.eq_false_or_eq_true (decide ((a2.2.1.length : Int) < 1)) with c16 | c16
        · replace H := ite_t c16 H
          refine RJ.know (t := 123) rfl (congrArg Value.bool c16) ?_
          refine RJ.run ttok 17 rfl ?_
          refine RJ.fin [(3, _), (4, _), (5, _), (140, .bool true)] rfl ?_
          refine J.condT rfl ?_
          refine J.seq (J.region ?_)
          refine RJ.run ttok 1 rfl ?_
          refine RJ.fin [(6, .bool false)] rfl ?_
          have h32 := h19.only [] rfl
          replace h32 : St w0 F0 [] _ _ := h32
          refine J.ret ?_
          obtain rfl := Option.some.inj H
          exact ⟨_, _, _, (results_slots rfl), ⟨rfl, rfl⟩, h32.only [] rfl⟩
        replace H := ite_f c16 H
        refine RJ.know (t := 123) rfl (congrArg Value.bool c16) ?_
        refine RJ.run ttok 1 rfl ?_
        refine RJ.q rfl rfl (q_load_box ttok 2 h19.wht rfl rfl rfl rfl rfl) ?_
        refine RJ.run ttok 2 rfl ?_
        refine RJ.q rfl rfl (q_load_box ttok 0 h19.wht rfl rfl rfl rfl rfl) ?_
        refine RJ.run ttok 3 rfl ?_
        rcases Bool.eq_false_or_eq_true (decide (a0.2.2.2.1 < (a2.2.1.length : Int))) with c17 | c17
        · replace H := ite_t c17 H
          refine RJ.know (t := 131) rfl (congrArg Value.bool c17) ?_
          refine RJ.run ttok 9 rfl ?_
          refine RJ.fin [(3, _), (4, _), (5, _), (140, .bool true)] rfl ?_
          refine J.condT rfl ?_
          refine J.seq (J.region ?_)
          refine RJ.run ttok 1 rfl ?_
          refine RJ.fin [(6, .bool false)] rfl ?_
          have h33 := h19.only [] rfl
          replace h33 : St w0 F0 [] _ _ := h33
          refine J.ret ?_
          obtain rfl := Option.some.inj H
          exact ⟨_, _, _, (results_slots rfl), ⟨rfl, rfl⟩, h33.only [] rfl⟩
        replace H := ite_f c17 H
        refine RJ.know (t := 131) rfl (congrArg Value.bool c17) ?_
        refine RJ.run ttok 1 rfl ?_
        refine RJ.q rfl rfl (q_load_box ttok 2 h19.wht rfl rfl rfl rfl rfl) ?_
        refine RJ.run ttok 3 rfl ?_
        refine RJ.q rfl rfl (q_load_box ttok 2 h19.wht rfl rfl rfl rfl rfl) ?_
        refine RJ.run ttok 3 rfl ?_
        refine RJ.fin [(3, _), (4, _), (5, _), (140, .bool (!decide ((w64 ((a2.2.2.1.length : Int) + 1)) = (a2.2.1.length : Int))))] rfl ?_
        refine J.cond rfl (fun c18 => ?_) (fun c18 => ?_)
        · replace H := ite_t c18 H
          refine J.seq (J.region ?_)
          refine RJ.run ttok 1 rfl ?_
          refine RJ.fin [(6, .bool false)] rfl ?_
          have h34 := h19.only [] rfl
          replace h34 : St w0 F0 [] _ _ := h34
          refine J.ret ?_
          obtain rfl := Option.some.inj H
          exact ⟨_, _, _, (results_slots rfl), ⟨rfl, rfl⟩, h34.only [] rfl⟩
        replace H := ite_f c18 H
        refine J.skip ?_
        refine J.seq (J.region ?_)
        refine RJ.run ttok 1 rfl ?_
        refine RJ.q rfl rfl (q_load_box ttok 2 h19.wht rfl rfl rfl rfl rfl) ?_
        refine RJ.q rfl rfl (q_load_box ttok 1 h19.wht rfl rfl rfl rfl rfl) ?_
        obtain ⟨r4, q4, H⟩ := bind_t H
        refine RJ.op rfl rfl (op_call [] (sluicegateref12_Right.spec q4) rfl rfl rfl h19 rfl (gcons (Gives.self 4 rfl) gnil)) ?_
        rintro _ w13 ⟨_, ⟨rfl, rfl⟩, h35⟩
        replace h35 : St w0 F0 [_, _, _] _ _ := h35
        refine RJ.run ttok 1 rfl ?_
        rcases Bool.eq_false_or_eq_true r4 with c19 | c19
        · replace H := ite_t c19 H
          refine RJ.know (t := 145) rfl (congrArg Value.bool c19) ?_
          refine RJ.run ttok 1 rfl ?_
          refine RJ.q rfl rfl (q_load_box ttok 2 h35.wht rfl rfl rfl rfl rfl) ?_
          refine RJ.run ttok 2 rfl ?_
          refine RJ.q rfl rfl (q_load_box ttok 0 h35.wht rfl rfl rfl rfl rfl) ?_
          refine RJ.run ttok 3 rfl ?_
          rcases Bool.eq_false_or_eq_true (decide ((a2.2.2.2.1.length : Int) ≤ a0.2.2.2.2.1)) with c20 | c20
          · replace H := ite_t c20 H
            refine RJ.know (t := 153) rfl (congrArg Value.bool c20) ?_
            refine RJ.run ttok 1 rfl ?_
            refine RJ.q rfl rfl (q_load_box ttok 2 h35.wht rfl rfl rfl rfl rfl) ?_
            obtain ⟨r5, q5, H⟩ := bind_t H
            refine RJ.op rfl rfl (op_call [] (sluicegateref10_Right.spec q5) rfl rfl rfl h35 rfl (gcons (Gives.self 5 rfl) gnil)) ?_
            rintro _ w14 ⟨_, ⟨rfl, rfl⟩, h36⟩
            replace h36 : St w0 F0 [_, _, _] _ _ := h36
            refine RJ.run ttok 2 rfl ?_
            refine RJ.fin [(6, .bool r5)] rfl ?_
            have h37 := h36.only [] rfl
            replace h37 : St w0 F0 [] _ _ := h37
            refine J.ret ?_
            obtain rfl := Option.some.inj H
            exact ⟨_, _, _, (results_slots rfl), ⟨rfl, rfl⟩, h37.only [] rfl⟩
          replace H := ite_f c20 H
          refine RJ.know (t := 153) rfl (congrArg Value.bool c20) ?_
          refine RJ.run ttok 5 rfl ?_
          refine RJ.fin [(6, .bool false)] rfl ?_
          have h38 := h35.only [] rfl
          replace h38 : St w0 F0 [] _ _ := h38
          refine J.ret ?_
          obtain rfl := Option.some.inj H
          exact ⟨_, _, _, (results_slots rfl), ⟨rfl, rfl⟩, h38.only [] rfl⟩
        replace H := ite_f c19 H
        refine RJ.know (t := 145) rfl (congrArg Value.bool c19) ?_
        refine RJ.run ttok 13 rfl ?_
        refine RJ.fin [(6, .bool false)] rfl ?_
        have h39 := h35.only [] rfl
        replace h39 : St w0 F0 [] _ _ := h39
        refine J.ret ?_
        obtain rfl := Option.some.inj H
        exact ⟨_, _, _, (results_slots rfl), ⟨rfl, rfl⟩, h39.only [] rfl⟩

/-! sluicegate/sluicegateref13.Right -/
def sluicegateref13_Right.f (k : Nat) (a0 : Int × Int × Int × Int × Int × Int × Int × Int) (a1 : List UInt8 × List UInt8 × Bool) (a2 : Int × List (Int) × List (List UInt8) × (List (List UInt8 × Bool × List UInt8)) × (List (List UInt8 × List UInt8))) : Option (Bool) := if (decide (a2.1 = 0)) = true then ((sluicegateref13_outer.f k (a0.1, a0.2.1, a0.2.2.1, a0.2.2.2.1, a0.2.2.2.2.1, a0.2.2.2.2.2.1, a0.2.2.2.2.2.2.1, a0.2.2.2.2.2.2.2) (a1.1, a1.2.1, a1.2.2) (a2.1, a2.2.1, a2.2.2.1, a2.2.2.2.1, a2.2.2.2.2)).bind fun r1 => (some r1)) else (if (decide (0 < a2.1)) = true then ((sluicegateref13_inner.f k (a0.1, a0.2.1, a0.2.2.1, a0.2.2.2.1, a0.2.2.2.2.1, a0.2.2.2.2.2.1, a0.2.2.2.2.2.2.1, a0.2.2.2.2.2.2.2) (a1.1, a1.2.1, a1.2.2) (a2.1, a2.2.1, a2.2.2.1, a2.2.2.2.1, a2.2.2.2.2)).bind fun r2 => (some r2)) else (some false))
set_option maxRecDepth 20000 in
set_option maxHeartbeats 40000000 in
theorem sluicegateref13_Right.spec {k : Nat} {a0 : Int × Int × Int × Int × Int × Int × Int × Int} {a1 : List UInt8 × List UInt8 × Bool} {a2 : Int × List (Int) × List (List UInt8) × (List (List UInt8 × Bool × List UInt8)) × (List (List UInt8 × List UInt8))} {A1 : Option Addr} {c_1 : Nat} {A2 : Option Addr} {c_2 : Nat} {A3 : Option Addr} {c_3 : Nat} {A4 : Option Addr} {c_4 : Nat} {r : Bool} (H : sluicegateref13_Right.f k a0 a1 a2 = some r) :
    Spec Try.prog 27 [.agg #[.int .i64 a0.1, .int .i64 a0.2.1, .int .i64 a0.2.2.1, .int .i64 a0.2.2.2.1, .int .i64 a0.2.2.2.2.1, .int .i64 a0.2.2.2.2.2.1, .int .i64 a0.2.2.2.2.2.2.1, .int .i64 a0.2.2.2.2.2.2.2], .agg #[.string ⟨⟨a1.1⟩⟩, .string ⟨⟨a1.2.1⟩⟩, .bool a1.2.2], .agg #[.int .i64 a2.1, .slice A1 a2.2.1.length c_1, .slice A2 a2.2.2.1.length c_2, .slice A3 a2.2.2.2.1.length c_3, .slice A4 a2.2.2.2.2.length c_4]] [] [rdC 46 (.int .u32) a2.2.1 (.slice A1 a2.2.1.length c_1), rdC 9 .str a2.2.2.1 (.slice A2 a2.2.2.1.length c_2), rdC 48 (.pair .str (.pair .bool .str)) a2.2.2.2.1 (.slice A3 a2.2.2.2.1.length c_3), rdC 50 (.pair .str .str) a2.2.2.2.2 (.slice A4 a2.2.2.2.2.length c_4)] (fun v l => v = .bool r ∧ l = []) := by
  refine Spec.enter Try.func27 rfl (by kernel_rfl) (by kernel_rfl) fun w0 F0 h0 => ?_
  unfold sluicegateref13_Right.f at H
  refine J.seq (J.region ?_)
  refine RJ.op rfl rfl (op_box rfl rfl h0) ?_
  rintro _ w1 ⟨b1, rfl, h1⟩
  replace h1 : St w0 F0 [boxC b1 23 [.int .i64 a0.1, .int .i64 a0.2.1, .int .i64 a0.2.2.1, .int .i64 a0.2.2.2.1, .int .i64 a0.2.2.2.2.1, .int .i64 a0.2.2.2.2.2.1, .int .i64 a0.2.2.2.2.2.2.1, .int .i64 a0.2.2.2.2.2.2.2]] _ _ := h1
  refine RJ.op rfl rfl (op_box rfl rfl h1) ?_
  rintro _ w2 ⟨b2, rfl, h2⟩
  replace h2 : St w0 F0 [boxC b2 25 [.string ⟨⟨a1.1⟩⟩, .string ⟨⟨a1.2.1⟩⟩, .bool a1.2.2], _] _ _ := h2
  refine RJ.op rfl rfl (op_box rfl rfl h2) ?_
  rintro _ w3 ⟨b3, rfl, h3⟩
  replace h3 : St w0 F0 [boxC b3 31 [.int .i64 a2.1, .slice A1 a2.2.1.length c_1, .slice A2 a2.2.2.1.length c_2, .slice A3 a2.2.2.2.1.length c_3, .slice A4 a2.2.2.2.2.length c_4], _, _] _ _ := h3
  refine RJ.run ttok 1 rfl ?_
  refine RJ.fin [(3, .pointer (some ⟨b1, 0, none⟩)), (4, .pointer (some ⟨b2, 0, none⟩)), (5, .pointer (some ⟨b3, 0, none⟩))] rfl ?_
  refine J.seq (J.seq (J.region ?_))
  refine RJ.run ttok 1 rfl ?_
  refine RJ.q rfl rfl (q_load_box ttok 0 h3.wht rfl rfl rfl rfl rfl) ?_
  refine RJ.run ttok 1 rfl ?_
  refine RJ.fin [(3, _), (4, _), (5, _), (9, .bool (decide (a2.1 = 0)))] rfl ?_
  refine J.cond rfl (fun c1 => ?_) (fun c1 => ?_)
  · replace H := ite_t c1 H
    refine J.seq (J.region ?_)
    refine RJ.q rfl rfl (q_load_box ttok 2 h3.wht rfl rfl rfl rfl rfl) ?_
    refine RJ.q rfl rfl (q_load_box ttok 1 h3.wht rfl rfl rfl rfl rfl) ?_
    refine RJ.q rfl rfl (q_load_box ttok 0 h3.wht rfl rfl rfl rfl rfl) ?_
    obtain ⟨r1, q1, H⟩ := bind_t H
    refine RJ.op rfl rfl (op_call [] (sluicegateref13_outer.spec q1) rfl rfl rfl h3 rfl (gcons (Gives.self 3 rfl) (gcons (Gives.self 4 rfl) (gcons (Gives.self 5 rfl) (gcons (Gives.self 6 rfl) gnil))))) ?_
    rintro _ w4 ⟨_, ⟨rfl, rfl⟩, h4⟩
    replace h4 : St w0 F0 [_, _, _] _ _ := h4
    refine RJ.run ttok 1 rfl ?_
    refine RJ.fin [(6, .bool r1)] rfl ?_
    have h5 := h4.only [] rfl
    replace h5 : St w0 F0 [] _ _ := h5
    refine J.ret ?_
    obtain rfl := Option.some.inj H
    exact ⟨_, _, _, (results_slots rfl), ⟨rfl, rfl⟩, h5.only [] rfl⟩
  replace H := ite_f c1 H
  refine J.skip ?_
  refine J.seq (J.region ?_)
  refine RJ.run ttok 1 rfl ?_
  refine RJ.q rfl rfl (q_load_box ttok 0 h3.wht rfl rfl rfl rfl rfl) ?_
  refine RJ.run ttok 2 rfl ?_
  rcases Bool.eq_false_or_eq_true (decide (0 < a2.1)) with c2 | c2
  · replace H := ite_t c2 H
    refine RJ.know (t := 17) rfl (congrArg Value.bool c2) ?_
    refine RJ.q rfl rfl (q_load_box ttok 2 h3.wht rfl rfl rfl rfl rfl) ?_
    refine RJ.q rfl rfl (q_load_box ttok 1 h3.wht rfl rfl rfl rfl rfl) ?_
    refine RJ.q rfl rfl (q_load_box ttok 0 h3.wht rfl rfl rfl rfl rfl) ?_
    obtain ⟨r2, q2, H⟩ := bind_t H
    refine RJ.op rfl rfl (op_call [] (sluicegateref13_inner.spec q2) rfl rfl rfl h3 rfl (gcons (Gives.self 3 rfl) (gcons (Gives.self 4 rfl) (gcons (Gives.self 5 rfl) (gcons (Gives.self 6 rfl) gnil))))) ?_
    rintro _ w5 ⟨_, ⟨rfl, rfl⟩, h6⟩
    replace h6 : St w0 F0 [_, _, _] _ _ := h6
    refine RJ.run ttok 2 rfl ?_
    refine RJ.fin [(6, .bool r2)] rfl ?_
    have h7 := h6.only [] rfl
    replace h7 : St w0 F0 [] _ _ := h7
    refine J.ret ?_
    obtain rfl := Option.some.inj H
    exact ⟨_, _, _, (results_slots rfl), ⟨rfl, rfl⟩, h7.only [] rfl⟩
  replace H := ite_f c2 H
  refine RJ.know (t := 17) rfl (congrArg Value.bool c2) ?_
  refine RJ.run ttok 6 rfl ?_
  refine RJ.fin [(6, .bool false)] rfl ?_
  have h8 := h3.only [] rfl
  replace h8 : St w0 F0 [] _ _ := h8
  refine J.ret ?_
  obtain rfl := Option.some.inj H
  exact ⟨_, _, _, (results_slots rfl), ⟨rfl, rfl⟩, h8.only [] rfl⟩

end Go.SK.T
