/- The functions, further. -/
import Derived.Test.YtoemkinhdomnpaaXCacheCostsF0
set_option linter.unusedVariables false
set_option linter.unusedSimpArgs false
set_option maxRecDepth 20000
set_option maxHeartbeats 40000000
namespace Go.SK.T
open Go Go.SK Go.Proofs
def Q1.f (a0 : Int) : Option (Int) := if (decide (4294967296 ≤ a0)) = true then (if (decide (65536 ≤ (Int.fdiv a0 (2 ^ 32)))) = true then (if (decide (256 ≤ (Int.fdiv (Int.fdiv a0 (2 ^ 32)) (2 ^ 16)))) = true then (if 0 ≤ (IntKind.u8.wrap ((Int.fdiv (Int.fdiv (Int.fdiv a0 (2 ^ 32)) (2 ^ 16)) (2 ^ 8)))) ∧ (IntKind.u8.wrap ((Int.fdiv (Int.fdiv (Int.fdiv a0 (2 ^ 32)) (2 ^ 16)) (2 ^ 8)))) < (([0, 1, 2, 2, 3, 3, 3, 3, 4, 4, 4, 4, 4, 4, 4, 4, 5, 5, 5, 5, 5, 5, 5, 5, 5, 5, 5, 5, 5, 5, 5, 5, 6, 6, 6, 6, 6, 6, 6, 6, 6, 6, 6, 6, 6, 6, 6, 6, 6, 6, 6, 6, 6, 6, 6, 6, 6, 6, 6, 6, 6, 6, 6, 6, 7, 7, 7, 7, 7, 7, 7, 7, 7, 7, 7, 7, 7, 7, 7, 7, 7, 7, 7, 7, 7, 7, 7, 7, 7, 7, 7, 7, 7, 7, 7, 7, 7, 7, 7, 7, 7, 7, 7, 7, 7, 7, 7, 7, 7, 7, 7, 7, 7, 7, 7, 7, 7, 7, 7, 7, 7, 7, 7, 7, 7, 7, 7, 7, 8, 8, 8, 8, 8, 8, 8, 8, 8, 8, 8, 8, 8, 8, 8, 8, 8, 8, 8, 8, 8, 8, 8, 8, 8, 8, 8, 8, 8, 8, 8, 8, 8, 8, 8, 8, 8, 8, 8, 8, 8, 8, 8, 8, 8, 8, 8, 8, 8, 8, 8, 8, 8, 8, 8, 8, 8, 8, 8, 8, 8, 8, 8, 8, 8, 8, 8, 8, 8, 8, 8, 8, 8, 8, 8, 8, 8, 8, 8, 8, 8, 8, 8, 8, 8, 8, 8, 8, 8, 8, 8, 8, 8, 8, 8, 8, 8, 8, 8, 8, 8, 8, 8, 8, 8, 8, 8, 8, 8, 8, 8, 8, 8, 8, 8, 8, 8, 8, 8, 8, 8, 8, 8, 8, 8, 8, 8, 8] : List UInt8).length : Int) then (some (w64 (56 + (w64 ((gtb ([0, 1, 2, 2, 3, 3, 3, 3, 4, 4, 4, 4, 4, 4, 4, 4, 5, 5, 5, 5, 5, 5, 5, 5, 5, 5, 5, 5, 5, 5, 5, 5, 6, 6, 6, 6, 6, 6, 6, 6, 6, 6, 6, 6, 6, 6, 6, 6, 6, 6, 6, 6, 6, 6, 6, 6, 6, 6, 6, 6, 6, 6, 6, 6, 7, 7, 7, 7, 7, 7, 7, 7, 7, 7, 7, 7, 7, 7, 7, 7, 7, 7, 7, 7, 7, 7, 7, 7, 7, 7, 7, 7, 7, 7, 7, 7, 7, 7, 7, 7, 7, 7, 7, 7, 7, 7, 7, 7, 7, 7, 7, 7, 7, 7, 7, 7, 7, 7, 7, 7, 7, 7, 7, 7, 7, 7, 7, 7, 8, 8, 8, 8, 8, 8, 8, 8, 8, 8, 8, 8, 8, 8, 8, 8, 8, 8, 8, 8, 8, 8, 8, 8, 8, 8, 8, 8, 8, 8, 8, 8, 8, 8, 8, 8, 8, 8, 8, 8, 8, 8, 8, 8, 8, 8, 8, 8, 8, 8, 8, 8, 8, 8, 8, 8, 8, 8, 8, 8, 8, 8, 8, 8, 8, 8, 8, 8, 8, 8, 8, 8, 8, 8, 8, 8, 8, 8, 8, 8, 8, 8, 8, 8, 8, 8, 8, 8, 8, 8, 8, 8, 8, 8, 8, 8, 8, 8, 8, 8, 8, 8, 8, 8, 8, 8, 8, 8, 8, 8, 8, 8, 8, 8, 8, 8, 8, 8, 8, 8, 8, 8, 8, 8, 8, 8, 8, 8] : List UInt8) (IntKind.u8.wrap ((Int.fdiv (Int.fdiv (Int.fdiv a0 (2 ^ 32)) (2 ^ 16)) (2 ^ 8)))))))))) else none) else (if 0 ≤ (IntKind.u8.wrap ((Int.fdiv (Int.fdiv a0 (2 ^ 32)) (2 ^ 16)))) ∧ (IntKind.u8.wrap ((Int.fdiv (Int.fdiv a0 (2 ^ 32)) (2 ^ 16)))) < (([0, 1, 2, 2, 3, 3, 3, 3, 4, 4, 4, 4, 4, 4, 4, 4, 5, 5, 5, 5, 5, 5, 5, 5, 5, 5, 5, 5, 5, 5, 5, 5, 6, 6, 6, 6, 6, 6, 6, 6, 6, 6, 6, 6, 6, 6, 6, 6, 6, 6, 6, 6, 6, 6, 6, 6, 6, 6, 6, 6, 6, 6, 6, 6, 7, 7, 7, 7, 7, 7, 7, 7, 7, 7, 7, 7, 7, 7, 7, 7, 7, 7, 7, 7, 7, 7, 7, 7, 7, 7, 7, 7, 7, 7, 7, 7, 7, 7, 7, 7, 7, 7, 7, 7, 7, 7, 7, 7, 7, 7, 7, 7, 7, 7, 7, 7, 7, 7, 7, 7, 7, 7, 7, 7, 7, 7, 7, 7, 8, 8, 8, 8, 8, 8, 8, 8, 8, 8, 8, 8, 8, 8, 8, 8, 8, 8, 8, 8, 8, 8, 8, 8, 8, 8, 8, 8, 8, 8, 8, 8, 8, 8, 8, 8, 8, 8, 8, 8, 8, 8, 8, 8, 8, 8, 8, 8, 8, 8, 8, 8, 8, 8, 8, 8, 8, 8, 8, 8, 8, 8, 8, 8, 8, 8, 8, 8, 8, 8, 8, 8, 8, 8, 8, 8, 8, 8, 8, 8, 8, 8, 8, 8, 8, 8, 8, 8, 8, 8, 8, 8, 8, 8, 8, 8, 8, 8, 8, 8, 8, 8, 8, 8, 8, 8, 8, 8, 8, 8, 8, 8, 8, 8, 8, 8, 8, 8, 8, 8, 8, 8, 8, 8, 8, 8, 8, 8] : List UInt8).length : Int) then (some (w64 (48 + (w64 ((gtb ([0, 1, 2, 2, 3, 3, 3, 3, 4, 4, 4, 4, 4, 4, 4, 4, 5, 5, 5, 5, 5, 5, 5, 5, 5, 5, 5, 5, 5, 5, 5, 5, 6, 6, 6, 6, 6, 6, 6, 6, 6, 6, 6, 6, 6, 6, 6, 6, 6, 6, 6, 6, 6, 6, 6, 6, 6, 6, 6, 6, 6, 6, 6, 6, 7, 7, 7, 7, 7, 7, 7, 7, 7, 7, 7, 7, 7, 7, 7, 7, 7, 7, 7, 7, 7, 7, 7, 7, 7, 7, 7, 7, 7, 7, 7, 7, 7, 7, 7, 7, 7, 7, 7, 7, 7, 7, 7, 7, 7, 7, 7, 7, 7, 7, 7, 7, 7, 7, 7, 7, 7, 7, 7, 7, 7, 7, 7, 7, 8, 8, 8, 8, 8, 8, 8, 8, 8, 8, 8, 8, 8, 8, 8, 8, 8, 8, 8, 8, 8, 8, 8, 8, 8, 8, 8, 8, 8, 8, 8, 8, 8, 8, 8, 8, 8, 8, 8, 8, 8, 8, 8, 8, 8, 8, 8, 8, 8, 8, 8, 8, 8, 8, 8, 8, 8, 8, 8, 8, 8, 8, 8, 8, 8, 8, 8, 8, 8, 8, 8, 8, 8, 8, 8, 8, 8, 8, 8, 8, 8, 8, 8, 8, 8, 8, 8, 8, 8, 8, 8, 8, 8, 8, 8, 8, 8, 8, 8, 8, 8, 8, 8, 8, 8, 8, 8, 8, 8, 8, 8, 8, 8, 8, 8, 8, 8, 8, 8, 8, 8, 8, 8, 8, 8, 8, 8, 8] : List UInt8) (IntKind.u8.wrap ((Int.fdiv (Int.fdiv a0 (2 ^ 32)) (2 ^ 16)))))))))) else none)) else (if (decide (256 ≤ (Int.fdiv a0 (2 ^ 32)))) = true then (if 0 ≤ (IntKind.u8.wrap ((Int.fdiv (Int.fdiv a0 (2 ^ 32)) (2 ^ 8)))) ∧ (IntKind.u8.wrap ((Int.fdiv (Int.fdiv a0 (2 ^ 32)) (2 ^ 8)))) < (([0, 1, 2, 2, 3, 3, 3, 3, 4, 4, 4, 4, 4, 4, 4, 4, 5, 5, 5, 5, 5, 5, 5, 5, 5, 5, 5, 5, 5, 5, 5, 5, 6, 6, 6, 6, 6, 6, 6, 6, 6, 6, 6, 6, 6, 6, 6, 6, 6, 6, 6, 6, 6, 6, 6, 6, 6, 6, 6, 6, 6, 6, 6, 6, 7, 7, 7, 7, 7, 7, 7, 7, 7, 7, 7, 7, 7, 7, 7, 7, 7, 7, 7, 7, 7, 7, 7, 7, 7, 7, 7, 7, 7, 7, 7, 7, 7, 7, 7, 7, 7, 7, 7, 7, 7, 7, 7, 7, 7, 7, 7, 7, 7, 7, 7, 7, 7, 7, 7, 7, 7, 7, 7, 7, 7, 7, 7, 7, 8, 8, 8, 8, 8, 8, 8, 8, 8, 8, 8, 8, 8, 8, 8, 8, 8, 8, 8, 8, 8, 8, 8, 8, 8, 8, 8, 8, 8, 8, 8, 8, 8, 8, 8, 8, 8, 8, 8, 8, 8, 8, 8, 8, 8, 8, 8, 8, 8, 8, 8, 8, 8, 8, 8, 8, 8, 8, 8, 8, 8, 8, 8, 8, 8, 8, 8, 8, 8, 8, 8, 8, 8, 8, 8, 8, 8, 8, 8, 8, 8, 8, 8, 8, 8, 8, 8, 8, 8, 8, 8, 8, 8, 8, 8, 8, 8, 8, 8, 8, 8, 8, 8, 8, 8, 8, 8, 8, 8, 8, 8, 8, 8, 8, 8, 8, 8, 8, 8, 8, 8, 8, 8, 8, 8, 8, 8, 8] : List UInt8).length : Int) then (some (w64 (40 + (w64 ((gtb ([0, 1, 2, 2, 3, 3, 3, 3, 4, 4, 4, 4, 4, 4, 4, 4, 5, 5, 5, 5, 5, 5, 5, 5, 5, 5, 5, 5, 5, 5, 5, 5, 6, 6, 6, 6, 6, 6, 6, 6, 6, 6, 6, 6, 6, 6, 6, 6, 6, 6, 6, 6, 6, 6, 6, 6, 6, 6, 6, 6, 6, 6, 6, 6, 7, 7, 7, 7, 7, 7, 7, 7, 7, 7, 7, 7, 7, 7, 7, 7, 7, 7, 7, 7, 7, 7, 7, 7, 7, 7, 7, 7, 7, 7, 7, 7, 7, 7, 7, 7, 7, 7, 7, 7, 7, 7, 7, 7, 7, 7, 7, 7, 7, 7, 7, 7, 7, 7, 7, 7, 7, 7, 7, 7, 7, 7, 7, 7, 8, 8, 8, 8, 8, 8, 8, 8, 8, 8, 8, 8, 8, 8, 8, 8, 8, 8, 8, 8, 8, 8, 8, 8, 8, 8, 8, 8, 8, 8, 8, 8, 8, 8, 8, 8, 8, 8, 8, 8, 8, 8, 8, 8, 8, 8, 8, 8, 8, 8, 8, 8, 8, 8, 8, 8, 8, 8, 8, 8, 8, 8, 8, 8, 8, 8, 8, 8, 8, 8, 8, 8, 8, 8, 8, 8, 8, 8, 8, 8, 8, 8, 8, 8, 8, 8, 8, 8, 8, 8, 8, 8, 8, 8, 8, 8, 8, 8, 8, 8, 8, 8, 8, 8, 8, 8, 8, 8, 8, 8, 8, 8, 8, 8, 8, 8, 8, 8, 8, 8, 8, 8, 8, 8, 8, 8, 8, 8] : List UInt8) (IntKind.u8.wrap ((Int.fdiv (Int.fdiv a0 (2 ^ 32)) (2 ^ 8)))))))))) else none) else (if 0 ≤ (IntKind.u8.wrap ((Int.fdiv a0 (2 ^ 32)))) ∧ (IntKind.u8.wrap ((Int.fdiv a0 (2 ^ 32)))) < (([0, 1, 2, 2, 3, 3, 3, 3, 4, 4, 4, 4, 4, 4, 4, 4, 5, 5, 5, 5, 5, 5, 5, 5, 5, 5, 5, 5, 5, 5, 5, 5, 6, 6, 6, 6, 6, 6, 6, 6, 6, 6, 6, 6, 6, 6, 6, 6, 6, 6, 6, 6, 6, 6, 6, 6, 6, 6, 6, 6, 6, 6, 6, 6, 7, 7, 7, 7, 7, 7, 7, 7, 7, 7, 7, 7, 7, 7, 7, 7, 7, 7, 7, 7, 7, 7, 7, 7, 7, 7, 7, 7, 7, 7, 7, 7, 7, 7, 7, 7, 7, 7, 7, 7, 7, 7, 7, 7, 7, 7, 7, 7, 7, 7, 7, 7, 7, 7, 7, 7, 7, 7, 7, 7, 7, 7, 7, 7, 8, 8, 8, 8, 8, 8, 8, 8, 8, 8, 8, 8, 8, 8, 8, 8, 8, 8, 8, 8, 8, 8, 8, 8, 8, 8, 8, 8, 8, 8, 8, 8, 8, 8, 8, 8, 8, 8, 8, 8, 8, 8, 8, 8, 8, 8, 8, 8, 8, 8, 8, 8, 8, 8, 8, 8, 8, 8, 8, 8, 8, 8, 8, 8, 8, 8, 8, 8, 8, 8, 8, 8, 8, 8, 8, 8, 8, 8, 8, 8, 8, 8, 8, 8, 8, 8, 8, 8, 8, 8, 8, 8, 8, 8, 8, 8, 8, 8, 8, 8, 8, 8, 8, 8, 8, 8, 8, 8, 8, 8, 8, 8, 8, 8, 8, 8, 8, 8, 8, 8, 8, 8, 8, 8, 8, 8, 8, 8] : List UInt8).length : Int) then (some (w64 (32 + (w64 ((gtb ([0, 1, 2, 2, 3, 3, 3, 3, 4, 4, 4, 4, 4, 4, 4, 4, 5, 5, 5, 5, 5, 5, 5, 5, 5, 5, 5, 5, 5, 5, 5, 5, 6, 6, 6, 6, 6, 6, 6, 6, 6, 6, 6, 6, 6, 6, 6, 6, 6, 6, 6, 6, 6, 6, 6, 6, 6, 6, 6, 6, 6, 6, 6, 6, 7, 7, 7, 7, 7, 7, 7, 7, 7, 7, 7, 7, 7, 7, 7, 7, 7, 7, 7, 7, 7, 7, 7, 7, 7, 7, 7, 7, 7, 7, 7, 7, 7, 7, 7, 7, 7, 7, 7, 7, 7, 7, 7, 7, 7, 7, 7, 7, 7, 7, 7, 7, 7, 7, 7, 7, 7, 7, 7, 7, 7, 7, 7, 7, 8, 8, 8, 8, 8, 8, 8, 8, 8, 8, 8, 8, 8, 8, 8, 8, 8, 8, 8, 8, 8, 8, 8, 8, 8, 8, 8, 8, 8, 8, 8, 8, 8, 8, 8, 8, 8, 8, 8, 8, 8, 8, 8, 8, 8, 8, 8, 8, 8, 8, 8, 8, 8, 8, 8, 8, 8, 8, 8, 8, 8, 8, 8, 8, 8, 8, 8, 8, 8, 8, 8, 8, 8, 8, 8, 8, 8, 8, 8, 8, 8, 8, 8, 8, 8, 8, 8, 8, 8, 8, 8, 8, 8, 8, 8, 8, 8, 8, 8, 8, 8, 8, 8, 8, 8, 8, 8, 8, 8, 8, 8, 8, 8, 8, 8, 8, 8, 8, 8, 8, 8, 8, 8, 8, 8, 8, 8, 8] : List UInt8) (IntKind.u8.wrap ((Int.fdiv a0 (2 ^ 32)))))))))) else none))) else (if (decide (65536 ≤ a0)) = true then (if (decide (256 ≤ (Int.fdiv a0 (2 ^ 16)))) = true then (if 0 ≤ (IntKind.u8.wrap ((Int.fdiv (Int.fdiv a0 (2 ^ 16)) (2 ^ 8)))) ∧ (IntKind.u8.wrap ((Int.fdiv (Int.fdiv a0 (2 ^ 16)) (2 ^ 8)))) < (([0, 1, 2, 2, 3, 3, 3, 3, 4, 4, 4, 4, 4, 4, 4, 4, 5, 5, 5, 5, 5, 5, 5, 5, 5, 5, 5, 5, 5, 5, 5, 5, 6, 6, 6, 6, 6, 6, 6, 6, 6, 6, 6, 6, 6, 6, 6, 6, 6, 6, 6, 6, 6, 6, 6, 6, 6, 6, 6, 6, 6, 6, 6, 6, 7, 7, 7, 7, 7, 7, 7, 7, 7, 7, 7, 7, 7, 7, 7, 7, 7, 7, 7, 7, 7, 7, 7, 7, 7, 7, 7, 7, 7, 7, 7, 7, 7, 7, 7, 7, 7, 7, 7, 7, 7, 7, 7, 7, 7, 7, 7, 7, 7, 7, 7, 7, 7, 7, 7, 7, 7, 7, 7, 7, 7, 7, 7, 7, 8, 8, 8, 8, 8, 8, 8, 8, 8, 8, 8, 8, 8, 8, 8, 8, 8, 8, 8, 8, 8, 8, 8, 8, 8, 8, 8, 8, 8, 8, 8, 8, 8, 8, 8, 8, 8, 8, 8, 8, 8, 8, 8, 8, 8, 8, 8, 8, 8, 8, 8, 8, 8, 8, 8, 8, 8, 8, 8, 8, 8, 8, 8, 8, 8, 8, 8, 8, 8, 8, 8, 8, 8, 8, 8, 8, 8, 8, 8, 8, 8, 8, 8, 8, 8, 8, 8, 8, 8, 8, 8, 8, 8, 8, 8, 8, 8, 8, 8, 8, 8, 8, 8, 8, 8, 8, 8, 8, 8, 8, 8, 8, 8, 8, 8, 8, 8, 8, 8, 8, 8, 8, 8, 8, 8, 8, 8, 8] : List UInt8).length : Int) then (some (w64 (24 + (w64 ((gtb ([0, 1, 2, 2, 3, 3, 3, 3, 4, 4, 4, 4, 4, 4, 4, 4, 5, 5, 5, 5, 5, 5, 5, 5, 5, 5, 5, 5, 5, 5, 5, 5, 6, 6, 6, 6, 6, 6, 6, 6, 6, 6, 6, 6, 6, 6, 6, 6, 6, 6, 6, 6, 6, 6, 6, 6, 6, 6, 6, 6, 6, 6, 6, 6, 7, 7, 7, 7, 7, 7, 7, 7, 7, 7, 7, 7, 7, 7, 7, 7, 7, 7, 7, 7, 7, 7, 7, 7, 7, 7, 7, 7, 7, 7, 7, 7, 7, 7, 7, 7, 7, 7, 7, 7, 7, 7, 7, 7, 7, 7, 7, 7, 7, 7, 7, 7, 7, 7, 7, 7, 7, 7, 7, 7, 7, 7, 7, 7, 8, 8, 8, 8, 8, 8, 8, 8, 8, 8, 8, 8, 8, 8, 8, 8, 8, 8, 8, 8, 8, 8, 8, 8, 8, 8, 8, 8, 8, 8, 8, 8, 8, 8, 8, 8, 8, 8, 8, 8, 8, 8, 8, 8, 8, 8, 8, 8, 8, 8, 8, 8, 8, 8, 8, 8, 8, 8, 8, 8, 8, 8, 8, 8, 8, 8, 8, 8, 8, 8, 8, 8, 8, 8, 8, 8, 8, 8, 8, 8, 8, 8, 8, 8, 8, 8, 8, 8, 8, 8, 8, 8, 8, 8, 8, 8, 8, 8, 8, 8, 8, 8, 8, 8, 8, 8, 8, 8, 8, 8, 8, 8, 8, 8, 8, 8, 8, 8, 8, 8, 8, 8, 8, 8, 8, 8, 8, 8] : List UInt8) (IntKind.u8.wrap ((Int.fdiv (Int.fdiv a0 (2 ^ 16)) (2 ^ 8)))))))))) else none) else (if 0 ≤ (IntKind.u8.wrap ((Int.fdiv a0 (2 ^ 16)))) ∧ (IntKind.u8.wrap ((Int.fdiv a0 (2 ^ 16)))) < (([0, 1, 2, 2, 3, 3, 3, 3, 4, 4, 4, 4, 4, 4, 4, 4, 5, 5, 5, 5, 5, 5, 5, 5, 5, 5, 5, 5, 5, 5, 5, 5, 6, 6, 6, 6, 6, 6, 6, 6, 6, 6, 6, 6, 6, 6, 6, 6, 6, 6, 6, 6, 6, 6, 6, 6, 6, 6, 6, 6, 6, 6, 6, 6, 7, 7, 7, 7, 7, 7, 7, 7, 7, 7, 7, 7, 7, 7, 7, 7, 7, 7, 7, 7, 7, 7, 7, 7, 7, 7, 7, 7, 7, 7, 7, 7, 7, 7, 7, 7, 7, 7, 7, 7, 7, 7, 7, 7, 7, 7, 7, 7, 7, 7, 7, 7, 7, 7, 7, 7, 7, 7, 7, 7, 7, 7, 7, 7, 8, 8, 8, 8, 8, 8, 8, 8, 8, 8, 8, 8, 8, 8, 8, 8, 8, 8, 8, 8, 8, 8, 8, 8, 8, 8, 8, 8, 8, 8, 8, 8, 8, 8, 8, 8, 8, 8, 8, 8, 8, 8, 8, 8, 8, 8, 8, 8, 8, 8, 8, 8, 8, 8, 8, 8, 8, 8, 8, 8, 8, 8, 8, 8, 8, 8, 8, 8, 8, 8, 8, 8, 8, 8, 8, 8, 8, 8, 8, 8, 8, 8, 8, 8, 8, 8, 8, 8, 8, 8, 8, 8, 8, 8, 8, 8, 8, 8, 8, 8, 8, 8, 8, 8, 8, 8, 8, 8, 8, 8, 8, 8, 8, 8, 8, 8, 8, 8, 8, 8, 8, 8, 8, 8, 8, 8, 8, 8] : List UInt8).length : Int) then (some (w64 (16 + (w64 ((gtb ([0, 1, 2, 2, 3, 3, 3, 3, 4, 4, 4, 4, 4, 4, 4, 4, 5, 5, 5, 5, 5, 5, 5, 5, 5, 5, 5, 5, 5, 5, 5, 5, 6, 6, 6, 6, 6, 6, 6, 6, 6, 6, 6, 6, 6, 6, 6, 6, 6, 6, 6, 6, 6, 6, 6, 6, 6, 6, 6, 6, 6, 6, 6, 6, 7, 7, 7, 7, 7, 7, 7, 7, 7, 7, 7, 7, 7, 7, 7, 7, 7, 7, 7, 7, 7, 7, 7, 7, 7, 7, 7, 7, 7, 7, 7, 7, 7, 7, 7, 7, 7, 7, 7, 7, 7, 7, 7, 7, 7, 7, 7, 7, 7, 7, 7, 7, 7, 7, 7, 7, 7, 7, 7, 7, 7, 7, 7, 7, 8, 8, 8, 8, 8, 8, 8, 8, 8, 8, 8, 8, 8, 8, 8, 8, 8, 8, 8, 8, 8, 8, 8, 8, 8, 8, 8, 8, 8, 8, 8, 8, 8, 8, 8, 8, 8, 8, 8, 8, 8, 8, 8, 8, 8, 8, 8, 8, 8, 8, 8, 8, 8, 8, 8, 8, 8, 8, 8, 8, 8, 8, 8, 8, 8, 8, 8, 8, 8, 8, 8, 8, 8, 8, 8, 8, 8, 8, 8, 8, 8, 8, 8, 8, 8, 8, 8, 8, 8, 8, 8, 8, 8, 8, 8, 8, 8, 8, 8, 8, 8, 8, 8, 8, 8, 8, 8, 8, 8, 8, 8, 8, 8, 8, 8, 8, 8, 8, 8, 8, 8, 8, 8, 8, 8, 8, 8, 8] : List UInt8) (IntKind.u8.wrap ((Int.fdiv a0 (2 ^ 16)))))))))) else none)) else (if (decide (256 ≤ a0)) = true then (if 0 ≤ (IntKind.u8.wrap ((Int.fdiv a0 (2 ^ 8)))) ∧ (IntKind.u8.wrap ((Int.fdiv a0 (2 ^ 8)))) < (([0, 1, 2, 2, 3, 3, 3, 3, 4, 4, 4, 4, 4, 4, 4, 4, 5, 5, 5, 5, 5, 5, 5, 5, 5, 5, 5, 5, 5, 5, 5, 5, 6, 6, 6, 6, 6, 6, 6, 6, 6, 6, 6, 6, 6, 6, 6, 6, 6, 6, 6, 6, 6, 6, 6, 6, 6, 6, 6, 6, 6, 6, 6, 6, 7, 7, 7, 7, 7, 7, 7, 7, 7, 7, 7, 7, 7, 7, 7, 7, 7, 7, 7, 7, 7, 7, 7, 7, 7, 7, 7, 7, 7, 7, 7, 7, 7, 7, 7, 7, 7, 7, 7, 7, 7, 7, 7, 7, 7, 7, 7, 7, 7, 7, 7, 7, 7, 7, 7, 7, 7, 7, 7, 7, 7, 7, 7, 7, 8, 8, 8, 8, 8, 8, 8, 8, 8, 8, 8, 8, 8, 8, 8, 8, 8, 8, 8, 8, 8, 8, 8, 8, 8, 8, 8, 8, 8, 8, 8, 8, 8, 8, 8, 8, 8, 8, 8, 8, 8, 8, 8, 8, 8, 8, 8, 8, 8, 8, 8, 8, 8, 8, 8, 8, 8, 8, 8, 8, 8, 8, 8, 8, 8, 8, 8, 8, 8, 8, 8, 8, 8, 8, 8, 8, 8, 8, 8, 8, 8, 8, 8, 8, 8, 8, 8, 8, 8, 8, 8, 8, 8, 8, 8, 8, 8, 8, 8, 8, 8, 8, 8, 8, 8, 8, 8, 8, 8, 8, 8, 8, 8, 8, 8, 8, 8, 8, 8, 8, 8, 8, 8, 8, 8, 8, 8, 8] : List UInt8).length : Int) then (some (w64 (8 + (w64 ((gtb ([0, 1, 2, 2, 3, 3, 3, 3, 4, 4, 4, 4, 4, 4, 4, 4, 5, 5, 5, 5, 5, 5, 5, 5, 5, 5, 5, 5, 5, 5, 5, 5, 6, 6, 6, 6, 6, 6, 6, 6, 6, 6, 6, 6, 6, 6, 6, 6, 6, 6, 6, 6, 6, 6, 6, 6, 6, 6, 6, 6, 6, 6, 6, 6, 7, 7, 7, 7, 7, 7, 7, 7, 7, 7, 7, 7, 7, 7, 7, 7, 7, 7, 7, 7, 7, 7, 7, 7, 7, 7, 7, 7, 7, 7, 7, 7, 7, 7, 7, 7, 7, 7, 7, 7, 7, 7, 7, 7, 7, 7, 7, 7, 7, 7, 7, 7, 7, 7, 7, 7, 7, 7, 7, 7, 7, 7, 7, 7, 8, 8, 8, 8, 8, 8, 8, 8, 8, 8, 8, 8, 8, 8, 8, 8, 8, 8, 8, 8, 8, 8, 8, 8, 8, 8, 8, 8, 8, 8, 8, 8, 8, 8, 8, 8, 8, 8, 8, 8, 8, 8, 8, 8, 8, 8, 8, 8, 8, 8, 8, 8, 8, 8, 8, 8, 8, 8, 8, 8, 8, 8, 8, 8, 8, 8, 8, 8, 8, 8, 8, 8, 8, 8, 8, 8, 8, 8, 8, 8, 8, 8, 8, 8, 8, 8, 8, 8, 8, 8, 8, 8, 8, 8, 8, 8, 8, 8, 8, 8, 8, 8, 8, 8, 8, 8, 8, 8, 8, 8, 8, 8, 8, 8, 8, 8, 8, 8, 8, 8, 8, 8, 8, 8, 8, 8, 8, 8] : List UInt8) (IntKind.u8.wrap ((Int.fdiv a0 (2 ^ 8)))))))))) else none) else (if 0 ≤ (IntKind.u8.wrap (a0)) ∧ (IntKind.u8.wrap (a0)) < (([0, 1, 2, 2, 3, 3, 3, 3, 4, 4, 4, 4, 4, 4, 4, 4, 5, 5, 5, 5, 5, 5, 5, 5, 5, 5, 5, 5, 5, 5, 5, 5, 6, 6, 6, 6, 6, 6, 6, 6, 6, 6, 6, 6, 6, 6, 6, 6, 6, 6, 6, 6, 6, 6, 6, 6, 6, 6, 6, 6, 6, 6, 6, 6, 7, 7, 7, 7, 7, 7, 7, 7, 7, 7, 7, 7, 7, 7, 7, 7, 7, 7, 7, 7, 7, 7, 7, 7, 7, 7, 7, 7, 7, 7, 7, 7, 7, 7, 7, 7, 7, 7, 7, 7, 7, 7, 7, 7, 7, 7, 7, 7, 7, 7, 7, 7, 7, 7, 7, 7, 7, 7, 7, 7, 7, 7, 7, 7, 8, 8, 8, 8, 8, 8, 8, 8, 8, 8, 8, 8, 8, 8, 8, 8, 8, 8, 8, 8, 8, 8, 8, 8, 8, 8, 8, 8, 8, 8, 8, 8, 8, 8, 8, 8, 8, 8, 8, 8, 8, 8, 8, 8, 8, 8, 8, 8, 8, 8, 8, 8, 8, 8, 8, 8, 8, 8, 8, 8, 8, 8, 8, 8, 8, 8, 8, 8, 8, 8, 8, 8, 8, 8, 8, 8, 8, 8, 8, 8, 8, 8, 8, 8, 8, 8, 8, 8, 8, 8, 8, 8, 8, 8, 8, 8, 8, 8, 8, 8, 8, 8, 8, 8, 8, 8, 8, 8, 8, 8, 8, 8, 8, 8, 8, 8, 8, 8, 8, 8, 8, 8, 8, 8, 8, 8, 8, 8] : List UInt8).length : Int) then (some (w64 (0 + (w64 ((gtb ([0, 1, 2, 2, 3, 3, 3, 3, 4, 4, 4, 4, 4, 4, 4, 4, 5, 5, 5, 5, 5, 5, 5, 5, 5, 5, 5, 5, 5, 5, 5, 5, 6, 6, 6, 6, 6, 6, 6, 6, 6, 6, 6, 6, 6, 6, 6, 6, 6, 6, 6, 6, 6, 6, 6, 6, 6, 6, 6, 6, 6, 6, 6, 6, 7, 7, 7, 7, 7, 7, 7, 7, 7, 7, 7, 7, 7, 7, 7, 7, 7, 7, 7, 7, 7, 7, 7, 7, 7, 7, 7, 7, 7, 7, 7, 7, 7, 7, 7, 7, 7, 7, 7, 7, 7, 7, 7, 7, 7, 7, 7, 7, 7, 7, 7, 7, 7, 7, 7, 7, 7, 7, 7, 7, 7, 7, 7, 7, 8, 8, 8, 8, 8, 8, 8, 8, 8, 8, 8, 8, 8, 8, 8, 8, 8, 8, 8, 8, 8, 8, 8, 8, 8, 8, 8, 8, 8, 8, 8, 8, 8, 8, 8, 8, 8, 8, 8, 8, 8, 8, 8, 8, 8, 8, 8, 8, 8, 8, 8, 8, 8, 8, 8, 8, 8, 8, 8, 8, 8, 8, 8, 8, 8, 8, 8, 8, 8, 8, 8, 8, 8, 8, 8, 8, 8, 8, 8, 8, 8, 8, 8, 8, 8, 8, 8, 8, 8, 8, 8, 8, 8, 8, 8, 8, 8, 8, 8, 8, 8, 8, 8, 8, 8, 8, 8, 8, 8, 8, 8, 8, 8, 8, 8, 8, 8, 8, 8, 8, 8, 8, 8, 8, 8, 8, 8, 8] : List UInt8) (IntKind.u8.wrap (a0)))))))) else none)))
theorem Q1.spec {a0 : Int}  {r : Int} (H : Q1.f a0 = some r) :
    Spec Try.prog 178 [.int .u64 a0] [] [] (fun v l => v = .int .i64 r ∧ l = []) := by
  refine Spec.enter Try.func178 rfl (by kernel_rfl) (by kernel_rfl) fun w0 F0 h0 => ?_
  unfold Q1.f at H
  refine J.seq (J.region ?_)
  refine RJ.run ttok 1 rfl ?_
  refine RJ.fin [(0, .int .u64 a0), (2, .int .i64 0)] rfl ?_
  refine J.seq (J.seq (J.region ?_))
  refine RJ.run ttok 2 rfl ?_
  refine RJ.fin [(0, _), (2, _), (4, .bool (decide (4294967296 ≤ a0)))] rfl ?_
  refine J.cond rfl (fun c1 => ?_) (fun c1 => ?_)
  · replace H := ite_t c1 H
    refine J.seq (J.region ?_)
    refine RJ.run ttok 3 rfl ?_
    refine RJ.fin [(0, .int .u64 (Int.fdiv a0 (2 ^ 32)))] rfl ?_
    refine J.region ?_
    refine RJ.run ttok 1 rfl ?_
    refine RJ.fin [(0, _), (2, .int .i64 32)] rfl ?_
    refine J.seq (J.seq (J.region ?_))
    refine RJ.run ttok 2 rfl ?_
    refine RJ.fin [(0, _), (2, _), (8, .bool (decide (65536 ≤ (Int.fdiv a0 (2 ^ 32)))))] rfl ?_
    refine J.cond rfl (fun c2 => ?_) (fun c2 => ?_)
    · replace H := ite_t c2 H
      refine J.seq (J.region ?_)
      refine RJ.run ttok 3 rfl ?_
      refine RJ.fin [(0, .int .u64 (Int.fdiv (Int.fdiv a0 (2 ^ 32)) (2 ^ 16))), (2, _)] rfl ?_
      refine J.region ?_
      refine RJ.run ttok 3 rfl ?_
      refine RJ.fin [(0, _), (2, .int .i64 48)] rfl ?_
      refine J.seq (J.seq (J.region ?_))
      refine RJ.run ttok 2 rfl ?_
      refine RJ.fin [(0, _), (2, _), (14, .bool (decide (256 ≤ (Int.fdiv (Int.fdiv a0 (2 ^ 32)) (2 ^ 16)))))] rfl ?_
      refine J.cond rfl (fun c3 => ?_) (fun c3 => ?_)
      · replace H := ite_t c3 H
        refine J.seq (J.region ?_)
        refine RJ.run ttok 3 rfl ?_
        refine RJ.fin [(0, .int .u64 (Int.fdiv (Int.fdiv (Int.fdiv a0 (2 ^ 32)) (2 ^ 16)) (2 ^ 8))), (2, _)] rfl ?_
        refine J.region ?_
        refine RJ.run ttok 3 rfl ?_
        refine RJ.fin [(0, _), (2, .int .i64 56)] rfl ?_
        refine J.seq (J.region ?_)
        refine RJ.run ttok 3 rfl ?_
        obtain ⟨⟨p1, p2⟩, H⟩ := guard_t H
        refine RJ.q rfl rfl (q_byte ttok rfl rfl rfl rfl p1 p2) ?_
        refine RJ.run ttok 3 rfl ?_
        refine RJ.fin [(2, .int .i64 (w64 (56 + (w64 ((gtb ([0, 1, 2, 2, 3, 3, 3, 3, 4, 4, 4, 4, 4, 4, 4, 4, 5, 5, 5, 5, 5, 5, 5, 5, 5, 5, 5, 5, 5, 5, 5, 5, 6, 6, 6, 6, 6, 6, 6, 6, 6, 6, 6, 6, 6, 6, 6, 6, 6, 6, 6, 6, 6, 6, 6, 6, 6, 6, 6, 6, 6, 6, 6, 6, 7, 7, 7, 7, 7, 7, 7, 7, 7, 7, 7, 7, 7, 7, 7, 7, 7, 7, 7, 7, 7, 7, 7, 7, 7, 7, 7, 7, 7, 7, 7, 7, 7, 7, 7, 7, 7, 7, 7, 7, 7, 7, 7, 7, 7, 7, 7, 7, 7, 7, 7, 7, 7, 7, 7, 7, 7, 7, 7, 7, 7, 7, 7, 7, 8, 8, 8, 8, 8, 8, 8, 8, 8, 8, 8, 8, 8, 8, 8, 8, 8, 8, 8, 8, 8, 8, 8, 8, 8, 8, 8, 8, 8, 8, 8, 8, 8, 8, 8, 8, 8, 8, 8, 8, 8, 8, 8, 8, 8, 8, 8, 8, 8, 8, 8, 8, 8, 8, 8, 8, 8, 8, 8, 8, 8, 8, 8, 8, 8, 8, 8, 8, 8, 8, 8, 8, 8, 8, 8, 8, 8, 8, 8, 8, 8, 8, 8, 8, 8, 8, 8, 8, 8, 8, 8, 8, 8, 8, 8, 8, 8, 8, 8, 8, 8, 8, 8, 8, 8, 8, 8, 8, 8, 8, 8, 8, 8, 8, 8, 8, 8, 8, 8, 8, 8, 8, 8, 8, 8, 8, 8, 8] : List UInt8) (IntKind.u8.wrap ((Int.fdiv (Int.fdiv (Int.fdiv a0 (2 ^ 32)) (2 ^ 16)) (2 ^ 8))))))))))] rfl ?_
        refine J.ret ?_
        obtain rfl := Option.some.inj H
        exact ⟨_, _, _, (results_slots rfl), ⟨rfl, rfl⟩, h0.only [] rfl⟩
      replace H := ite_f c3 H
      refine J.skip ?_
      refine J.seq (J.region ?_)
      refine RJ.run ttok 3 rfl ?_
      obtain ⟨⟨p3, p4⟩, H⟩ := guard_t H
      refine RJ.q rfl rfl (q_byte ttok rfl rfl rfl rfl p3 p4) ?_
      refine RJ.run ttok 3 rfl ?_
      refine RJ.fin [(2, .int .i64 (w64 (48 + (w64 ((gtb ([0, 1, 2, 2, 3, 3, 3, 3, 4, 4, 4, 4, 4, 4, 4, 4, 5, 5, 5, 5, 5, 5, 5, 5, 5, 5, 5, 5, 5, 5, 5, 5, 6, 6, 6, 6, 6, 6, 6, 6, 6, 6, 6, 6, 6, 6, 6, 6, 6, 6, 6, 6, 6, 6, 6, 6, 6, 6, 6, 6, 6, 6, 6, 6, 7, 7, 7, 7, 7, 7, 7, 7, 7, 7, 7, 7, 7, 7, 7, 7, 7, 7, 7, 7, 7, 7, 7, 7, 7, 7, 7, 7, 7, 7, 7, 7, 7, 7, 7, 7, 7, 7, 7, 7, 7, 7, 7, 7, 7, 7, 7, 7, 7, 7, 7, 7, 7, 7, 7, 7, 7, 7, 7, 7, 7, 7, 7, 7, 8, 8, 8, 8, 8, 8, 8, 8, 8, 8, 8, 8, 8, 8, 8, 8, 8, 8, 8, 8, 8, 8, 8, 8, 8, 8, 8, 8, 8, 8, 8, 8, 8, 8, 8, 8, 8, 8, 8, 8, 8, 8, 8, 8, 8, 8, 8, 8, 8, 8, 8, 8, 8, 8, 8, 8, 8, 8, 8, 8, 8, 8, 8, 8, 8, 8, 8, 8, 8, 8, 8, 8, 8, 8, 8, 8, 8, 8, 8, 8, 8, 8, 8, 8, 8, 8, 8, 8, 8, 8, 8, 8, 8, 8, 8, 8, 8, 8, 8, 8, 8, 8, 8, 8, 8, 8, 8, 8, 8, 8, 8, 8, 8, 8, 8, 8, 8, 8, 8, 8, 8, 8, 8, 8, 8, 8, 8, 8] : List UInt8) (IntKind.u8.wrap ((Int.fdiv (Int.fdiv a0 (2 ^ 32)) (2 ^ 16))))))))))] rfl ?_
      refine J.ret ?_
      obtain rfl := Option.some.inj H
      exact ⟨_, _, _, (results_slots rfl), ⟨rfl, rfl⟩, h0.only [] rfl⟩
    replace H := ite_f c2 H
    refine J.skip ?_
    refine J.seq (J.seq (J.region ?_))
    refine RJ.run ttok 2 rfl ?_
    refine RJ.fin [(0, _), (2, _), (14, .bool (decide (256 ≤ (Int.fdiv a0 (2 ^ 32)))))] rfl ?_
    refine J.cond rfl (fun c4 => ?_) (fun c4 => ?_)
    · replace H := ite_t c4 H
      refine J.seq (J.region ?_)
      refine RJ.run ttok 3 rfl ?_
      refine RJ.fin [(0, .int .u64 (Int.fdiv (Int.fdiv a0 (2 ^ 32)) (2 ^ 8))), (2, _)] rfl ?_
      refine J.region ?_
      refine RJ.run ttok 3 rfl ?_
      refine RJ.fin [(0, _), (2, .int .i64 40)] rfl ?_
      refine J.seq (J.region ?_)
      refine RJ.run ttok 3 rfl ?_
      obtain ⟨⟨p5, p6⟩, H⟩ := guard_t H
      refine RJ.q rfl rfl (q_byte ttok rfl rfl rfl rfl p5 p6) ?_
      refine RJ.run ttok 3 rfl ?_
      refine RJ.fin [(2, .int .i64 (w64 (40 + (w64 ((gtb ([0, 1, 2, 2, 3, 3, 3, 3, 4, 4, 4, 4, 4, 4, 4, 4, 5, 5, 5, 5, 5, 5, 5, 5, 5, 5, 5, 5, 5, 5, 5, 5, 6, 6, 6, 6, 6, 6, 6, 6, 6, 6, 6, 6, 6, 6, 6, 6, 6, 6, 6, 6, 6, 6, 6, 6, 6, 6, 6, 6, 6, 6, 6, 6, 7, 7, 7, 7, 7, 7, 7, 7, 7, 7, 7, 7, 7, 7, 7, 7, 7, 7, 7, 7, 7, 7, 7, 7, 7, 7, 7, 7, 7, 7, 7, 7, 7, 7, 7, 7, 7, 7, 7, 7, 7, 7, 7, 7, 7, 7, 7, 7, 7, 7, 7, 7, 7, 7, 7, 7, 7, 7, 7, 7, 7, 7, 7, 7, 8, 8, 8, 8, 8, 8, 8, 8, 8, 8, 8, 8, 8, 8, 8, 8, 8, 8, 8, 8, 8, 8, 8, 8, 8, 8, 8, 8, 8, 8, 8, 8, 8, 8, 8, 8, 8, 8, 8, 8, 8, 8, 8, 8, 8, 8, 8, 8, 8, 8, 8, 8, 8, 8, 8, 8, 8, 8, 8, 8, 8, 8, 8, 8, 8, 8, 8, 8, 8, 8, 8, 8, 8, 8, 8, 8, 8, 8, 8, 8, 8, 8, 8, 8, 8, 8, 8, 8, 8, 8, 8, 8, 8, 8, 8, 8, 8, 8, 8, 8, 8, 8, 8, 8, 8, 8, 8, 8, 8, 8, 8, 8, 8, 8, 8, 8, 8, 8, 8, 8, 8, 8, 8, 8, 8, 8, 8, 8] : List UInt8) (IntKind.u8.wrap ((Int.fdiv (Int.fdiv a0 (2 ^ 32)) (2 ^ 8))))))))))] rfl ?_
      refine J.ret ?_
      obtain rfl := Option.some.inj H
      exact ⟨_, _, _, (results_slots rfl), ⟨rfl, rfl⟩, h0.only [] rfl⟩
    replace H := ite_f c4 H
    refine J.skip ?_
    refine J.seq (J.region ?_)
    refine RJ.run ttok 3 rfl ?_
    obtain ⟨⟨p7, p8⟩, H⟩ := guard_t H
    refine RJ.q rfl rfl (q_byte ttok rfl rfl rfl rfl p7 p8) ?_
    refine RJ.run ttok 3 rfl ?_
    refine RJ.fin [(2, .int .i64 (w64 (32 + (w64 ((gtb ([0, 1, 2, 2, 3, 3, 3, 3, 4, 4, 4, 4, 4, 4, 4, 4, 5, 5, 5, 5, 5, 5, 5, 5, 5, 5, 5, 5, 5, 5, 5, 5, 6, 6, 6, 6, 6, 6, 6, 6, 6, 6, 6, 6, 6, 6, 6, 6, 6, 6, 6, 6, 6, 6, 6, 6, 6, 6, 6, 6, 6, 6, 6, 6, 7, 7, 7, 7, 7, 7, 7, 7, 7, 7, 7, 7, 7, 7, 7, 7, 7, 7, 7, 7, 7, 7, 7, 7, 7, 7, 7, 7, 7, 7, 7, 7, 7, 7, 7, 7, 7, 7, 7, 7, 7, 7, 7, 7, 7, 7, 7, 7, 7, 7, 7, 7, 7, 7, 7, 7, 7, 7, 7, 7, 7, 7, 7, 7, 8, 8, 8, 8, 8, 8, 8, 8, 8, 8, 8, 8, 8, 8, 8, 8, 8, 8, 8, 8, 8, 8, 8, 8, 8, 8, 8, 8, 8, 8, 8, 8, 8, 8, 8, 8, 8, 8, 8, 8, 8, 8, 8, 8, 8, 8, 8, 8, 8, 8, 8, 8, 8, 8, 8, 8, 8, 8, 8, 8, 8, 8, 8, 8, 8, 8, 8, 8, 8, 8, 8, 8, 8, 8, 8, 8, 8, 8, 8, 8, 8, 8, 8, 8, 8, 8, 8, 8, 8, 8, 8, 8, 8, 8, 8, 8, 8, 8, 8, 8, 8, 8, 8, 8, 8, 8, 8, 8, 8, 8, 8, 8, 8, 8, 8, 8, 8, 8, 8, 8, 8, 8, 8, 8, 8, 8, 8, 8] : List UInt8) (IntKind.u8.wrap ((Int.fdiv a0 (2 ^ 32))))))))))] rfl ?_
    refine J.ret ?_
    obtain rfl := Option.some.inj H
    exact ⟨_, _, _, (results_slots rfl), ⟨rfl, rfl⟩, h0.only [] rfl⟩
  replace H := ite_f c1 H
  refine J.skip ?_
  refine J.seq (J.seq (J.region ?_))
  refine RJ.run ttok 2 rfl ?_
  refine RJ.fin [(0, _), (2, _), (8, .bool (decide (65536 ≤ a0)))] rfl ?_
  refine J.cond rfl (fun c5 => ?_) (fun c5 => ?_)
  · replace H := ite_t c5 H
    refine J.seq (J.region ?_)
    refine RJ.run ttok 3 rfl ?_
    refine RJ.fin [(0, .int .u64 (Int.fdiv a0 (2 ^ 16))), (2, _)] rfl ?_
    refine J.region ?_
    refine RJ.run ttok 3 rfl ?_
    refine RJ.fin [(0, _), (2, .int .i64 16)] rfl ?_
    refine J.seq (J.seq (J.region ?_))
    refine RJ.run ttok 2 rfl ?_
    refine RJ.fin [(0, _), (2, _), (14, .bool (decide (256 ≤ (Int.fdiv a0 (2 ^ 16)))))] rfl ?_
    refine J.cond rfl (fun c6 => ?_) (fun c6 => ?_)
    · replace H := ite_t c6 H
      refine J.seq (J.region ?_)
      refine RJ.run ttok 3 rfl ?_
      refine RJ.fin [(0, .int .u64 (Int.fdiv (Int.fdiv a0 (2 ^ 16)) (2 ^ 8))), (2, _)] rfl ?_
      refine J.region ?_
      refine RJ.run ttok 3 rfl ?_
      refine RJ.fin [(0, _), (2, .int .i64 24)] rfl ?_
      refine J.seq (J.region ?_)
      refine RJ.run ttok 3 rfl ?_
      obtain ⟨⟨p9, p10⟩, H⟩ := guard_t H
      refine RJ.q rfl rfl (q_byte ttok rfl rfl rfl rfl p9 p10) ?_
      refine RJ.run ttok 3 rfl ?_
      refine RJ.fin [(2, .int .i64 (w64 (24 + (w64 ((gtb ([0, 1, 2, 2, 3, 3, 3, 3, 4, 4, 4, 4, 4, 4, 4, 4, 5, 5, 5, 5, 5, 5, 5, 5, 5, 5, 5, 5, 5, 5, 5, 5, 6, 6, 6, 6, 6, 6, 6, 6, 6, 6, 6, 6, 6, 6, 6, 6, 6, 6, 6, 6, 6, 6, 6, 6, 6, 6, 6, 6, 6, 6, 6, 6, 7, 7, 7, 7, 7, 7, 7, 7, 7, 7, 7, 7, 7, 7, 7, 7, 7, 7, 7, 7, 7, 7, 7, 7, 7, 7, 7, 7, 7, 7, 7, 7, 7, 7, 7, 7, 7, 7, 7, 7, 7, 7, 7, 7, 7, 7, 7, 7, 7, 7, 7, 7, 7, 7, 7, 7, 7, 7, 7, 7, 7, 7, 7, 7, 8, 8, 8, 8, 8, 8, 8, 8, 8, 8, 8, 8, 8, 8, 8, 8, 8, 8, 8, 8, 8, 8, 8, 8, 8, 8, 8, 8, 8, 8, 8, 8, 8, 8, 8, 8, 8, 8, 8, 8, 8, 8, 8, 8, 8, 8, 8, 8, 8, 8, 8, 8, 8, 8, 8, 8, 8, 8, 8, 8, 8, 8, 8, 8, 8, 8, 8, 8, 8, 8, 8, 8, 8, 8, 8, 8, 8, 8, 8, 8, 8, 8, 8, 8, 8, 8, 8, 8, 8, 8, 8, 8, 8, 8, 8, 8, 8, 8, 8, 8, 8, 8, 8, 8, 8, 8, 8, 8, 8, 8, 8, 8, 8, 8, 8, 8, 8, 8, 8, 8, 8, 8, 8, 8, 8, 8, 8, 8] : List UInt8) (IntKind.u8.wrap ((Int.fdiv (Int.fdiv a0 (2 ^ 16)) (2 ^ 8))))))))))] rfl ?_
      refine J.ret ?_
      obtain rfl := Option.some.inj H
      exact ⟨_, _, _, (results_slots rfl), ⟨rfl, rfl⟩, h0.only [] rfl⟩
    replace H := ite_f c6 H
    refine J.skip ?_
    refine J.seq (J.region ?_)
    refine RJ.run ttok 3 rfl ?_
    obtain ⟨⟨p11, p12⟩, H⟩ := guard_t H
    refine RJ.q rfl rfl (q_byte ttok rfl rfl rfl rfl p11 p12) ?_
    refine RJ.run ttok 3 rfl ?_
    refine RJ.fin [(2, .int .i64 (w64 (16 + (w64 ((gtb ([0, 1, 2, 2, 3, 3, 3, 3, 4, 4, 4, 4, 4, 4, 4, 4, 5, 5, 5, 5, 5, 5, 5, 5, 5, 5, 5, 5, 5, 5, 5, 5, 6, 6, 6, 6, 6, 6, 6, 6, 6, 6, 6, 6, 6, 6, 6, 6, 6, 6, 6, 6, 6, 6, 6, 6, 6, 6, 6, 6, 6, 6, 6, 6, 7, 7, 7, 7, 7, 7, 7, 7, 7, 7, 7, 7, 7, 7, 7, 7, 7, 7, 7, 7, 7, 7, 7, 7, 7, 7, 7, 7, 7, 7, 7, 7, 7, 7, 7, 7, 7, 7, 7, 7, 7, 7, 7, 7, 7, 7, 7, 7, 7, 7, 7, 7, 7, 7, 7, 7, 7, 7, 7, 7, 7, 7, 7, 7, 8, 8, 8, 8, 8, 8, 8, 8, 8, 8, 8, 8, 8, 8, 8, 8, 8, 8, 8, 8, 8, 8, 8, 8, 8, 8, 8, 8, 8, 8, 8, 8, 8, 8, 8, 8, 8, 8, 8, 8, 8, 8, 8, 8, 8, 8, 8, 8, 8, 8, 8, 8, 8, 8, 8, 8, 8, 8, 8, 8, 8, 8, 8, 8, 8, 8, 8, 8, 8, 8, 8, 8, 8, 8, 8, 8, 8, 8, 8, 8, 8, 8, 8, 8, 8, 8, 8, 8, 8, 8, 8, 8, 8, 8, 8, 8, 8, 8, 8, 8, 8, 8, 8, 8, 8, 8, 8, 8, 8, 8, 8, 8, 8, 8, 8, 8, 8, 8, 8, 8, 8, 8, 8, 8, 8, 8, 8, 8] : List UInt8) (IntKind.u8.wrap ((Int.fdiv a0 (2 ^ 16))))))))))] rfl ?_
    refine J.ret ?_
    obtain rfl := Option.some.inj H
    exact ⟨_, _, _, (results_slots rfl), ⟨rfl, rfl⟩, h0.only [] rfl⟩
  replace H := ite_f c5 H
  refine J.skip ?_
  refine J.seq (J.seq (J.region ?_))
  refine RJ.run ttok 2 rfl ?_
  refine RJ.fin [(0, _), (2, _), (14, .bool (decide (256 ≤ a0)))] rfl ?_
  refine J.cond rfl (fun c7 => ?_) (fun c7 => ?_)
  · replace H := ite_t c7 H
    refine J.seq (J.region ?_)
    refine RJ.run ttok 3 rfl ?_
    refine RJ.fin [(0, .int .u64 (Int.fdiv a0 (2 ^ 8))), (2, _)] rfl ?_
    refine J.region ?_
    refine RJ.run ttok 3 rfl ?_
    refine RJ.fin [(0, _), (2, .int .i64 8)] rfl ?_
    refine J.seq (J.region ?_)
    refine RJ.run ttok 3 rfl ?_
    obtain ⟨⟨p13, p14⟩, H⟩ := guard_t H
    refine RJ.q rfl rfl (q_byte ttok rfl rfl rfl rfl p13 p14) ?_
    refine RJ.run ttok 3 rfl ?_
    refine RJ.fin [(2, .int .i64 (w64 (8 + (w64 ((gtb ([0, 1, 2, 2, 3, 3, 3, 3, 4, 4, 4, 4, 4, 4, 4, 4, 5, 5, 5, 5, 5, 5, 5, 5, 5, 5, 5, 5, 5, 5, 5, 5, 6, 6, 6, 6, 6, 6, 6, 6, 6, 6, 6, 6, 6, 6, 6, 6, 6, 6, 6, 6, 6, 6, 6, 6, 6, 6, 6, 6, 6, 6, 6, 6, 7, 7, 7, 7, 7, 7, 7, 7, 7, 7, 7, 7, 7, 7, 7, 7, 7, 7, 7, 7, 7, 7, 7, 7, 7, 7, 7, 7, 7, 7, 7, 7, 7, 7, 7, 7, 7, 7, 7, 7, 7, 7, 7, 7, 7, 7, 7, 7, 7, 7, 7, 7, 7, 7, 7, 7, 7, 7, 7, 7, 7, 7, 7, 7, 8, 8, 8, 8, 8, 8, 8, 8, 8, 8, 8, 8, 8, 8, 8, 8, 8, 8, 8, 8, 8, 8, 8, 8, 8, 8, 8, 8, 8, 8, 8, 8, 8, 8, 8, 8, 8, 8, 8, 8, 8, 8, 8, 8, 8, 8, 8, 8, 8, 8, 8, 8, 8, 8, 8, 8, 8, 8, 8, 8, 8, 8, 8, 8, 8, 8, 8, 8, 8, 8, 8, 8, 8, 8, 8, 8, 8, 8, 8, 8, 8, 8, 8, 8, 8, 8, 8, 8, 8, 8, 8, 8, 8, 8, 8, 8, 8, 8, 8, 8, 8, 8, 8, 8, 8, 8, 8, 8, 8, 8, 8, 8, 8, 8, 8, 8, 8, 8, 8, 8, 8, 8, 8, 8, 8, 8, 8, 8] : List UInt8) (IntKind.u8.wrap ((Int.fdiv a0 (2 ^ 8))))))))))] rfl ?_
    refine J.ret ?_
    obtain rfl := Option.some.inj H
    exact ⟨_, _, _, (results_slots rfl), ⟨rfl, rfl⟩, h0.only [] rfl⟩
  replace H := ite_f c7 H
  refine J.skip ?_
  refine J.seq (J.region ?_)
  refine RJ.run ttok 3 rfl ?_
  obtain ⟨⟨p15, p16⟩, H⟩ := guard_t H
  refine RJ.q rfl rfl (q_byte ttok rfl rfl rfl rfl p15 p16) ?_
  refine RJ.run ttok 3 rfl ?_
  refine RJ.fin [(2, .int .i64 (w64 (0 + (w64 ((gtb ([0, 1, 2, 2, 3, 3, 3, 3, 4, 4, 4, 4, 4, 4, 4, 4, 5, 5, 5, 5, 5, 5, 5, 5, 5, 5, 5, 5, 5, 5, 5, 5, 6, 6, 6, 6, 6, 6, 6, 6, 6, 6, 6, 6, 6, 6, 6, 6, 6, 6, 6, 6, 6, 6, 6, 6, 6, 6, 6, 6, 6, 6, 6, 6, 7, 7, 7, 7, 7, 7, 7, 7, 7, 7, 7, 7, 7, 7, 7, 7, 7, 7, 7, 7, 7, 7, 7, 7, 7, 7, 7, 7, 7, 7, 7, 7, 7, 7, 7, 7, 7, 7, 7, 7, 7, 7, 7, 7, 7, 7, 7, 7, 7, 7, 7, 7, 7, 7, 7, 7, 7, 7, 7, 7, 7, 7, 7, 7, 8, 8, 8, 8, 8, 8, 8, 8, 8, 8, 8, 8, 8, 8, 8, 8, 8, 8, 8, 8, 8, 8, 8, 8, 8, 8, 8, 8, 8, 8, 8, 8, 8, 8, 8, 8, 8, 8, 8, 8, 8, 8, 8, 8, 8, 8, 8, 8, 8, 8, 8, 8, 8, 8, 8, 8, 8, 8, 8, 8, 8, 8, 8, 8, 8, 8, 8, 8, 8, 8, 8, 8, 8, 8, 8, 8, 8, 8, 8, 8, 8, 8, 8, 8, 8, 8, 8, 8, 8, 8, 8, 8, 8, 8, 8, 8, 8, 8, 8, 8, 8, 8, 8, 8, 8, 8, 8, 8, 8, 8, 8, 8, 8, 8, 8, 8, 8, 8, 8, 8, 8, 8, 8, 8, 8, 8, 8, 8] : List UInt8) (IntKind.u8.wrap (a0))))))))] rfl ?_
  refine J.ret ?_
  obtain rfl := Option.some.inj H
  exact ⟨_, _, _, (results_slots rfl), ⟨rfl, rfl⟩, h0.only [] rfl⟩

def Q0.f (a0 : Int) : Option (Int) := (Q1.f a0).bind fun r1 => (some r1)
theorem Q0.spec {a0 : Int}  {r : Int} (H : Q0.f a0 = some r) :
    Spec Try.prog 165 [.int .u64 a0] [] [] (fun v l => v = .int .i64 r ∧ l = []) := by
  refine Spec.enter Try.func165 rfl (by kernel_rfl) (by kernel_rfl) fun w0 F0 h0 => ?_
  unfold Q0.f at H
  refine J.seq (J.region ?_)
  refine RJ.run ttok 1 rfl ?_
  refine RJ.fin [(0, .int .u64 a0)] rfl ?_
  refine J.seq ?_
  refine J.condF rfl ?_
  refine J.skip ?_
  refine J.seq (J.region ?_)
  refine RJ.run ttok 1 rfl ?_
  obtain ⟨r1, q1, H⟩ := bind_t H
  refine RJ.op rfl rfl (op_call [] (Q1.spec q1) rfl rfl rfl h0 rfl gnil) ?_
  rintro _ w1 ⟨_, ⟨rfl, rfl⟩, h1⟩
  replace h1 : St w0 F0 [] _ _ := h1
  refine RJ.run ttok 1 rfl ?_
  refine RJ.fin [(2, .int .i64 r1)] rfl ?_
  refine J.ret ?_
  obtain rfl := Option.some.inj H
  exact ⟨_, _, _, (results_slots rfl), ⟨rfl, rfl⟩, h1.only [] rfl⟩

def Q25.f (a0 : Int) : Option (Bool) := some (!decide (a0 = a0))
theorem Q25.spec {a0 : Int}  {r : Bool} (H : Q25.f a0 = some r) :
    Spec Try.prog 185 [.int .u32 a0] [] [] (fun v l => v = .bool r ∧ l = []) := by
  refine Spec.enter Try.func185 rfl (by kernel_rfl) (by kernel_rfl) fun w0 F0 h0 => ?_
  unfold Q25.f at H
  refine J.seq (J.region ?_)
  refine RJ.run ttok 1 rfl ?_
  refine RJ.fin [(0, .int .u32 a0)] rfl ?_
  refine J.seq (J.region ?_)
  refine RJ.run ttok 4 rfl ?_
  refine RJ.fin [(2, .bool (!decide (a0 = a0)))] rfl ?_
  refine J.ret ?_
  obtain rfl := Option.some.inj H
  exact ⟨_, _, _, (results_slots rfl), ⟨rfl, rfl⟩, h0.only [] rfl⟩

def Q24.f (a0 : Int) (a1 : Int) : Option (Bool) := (Q25.f a0).bind fun r1 => (if r1 = true then ((Q25.f a1).bind fun r2 => (if (!r2) = true then (some true) else (some (decide (a0 < a1))))) else (some (decide (a0 < a1))))
theorem Q24.spec {a0 : Int} {a1 : Int}  {r : Bool} (H : Q24.f a0 a1 = some r) :
    Spec Try.prog 174 [.int .u32 a0, .int .u32 a1] [] [] (fun v l => v = .bool r ∧ l = []) := by
  refine Spec.enter Try.func174 rfl (by kernel_rfl) (by kernel_rfl) fun w0 F0 h0 => ?_
  unfold Q24.f at H
  refine J.seq (J.region ?_)
  refine RJ.run ttok 1 rfl ?_
  refine RJ.fin [(0, .int .u32 a0), (1, .int .u32 a1)] rfl ?_
  refine J.seq (J.region ?_)
  refine RJ.run ttok 1 rfl ?_
  obtain ⟨r1, q1, H⟩ := bind_t H
  refine RJ.op rfl rfl (op_call [] (Q25.spec q1) rfl rfl rfl h0 rfl gnil) ?_
  rintro _ w1 ⟨_, ⟨rfl, rfl⟩, h1⟩
  replace h1 : St w0 F0 [] _ _ := h1
  refine RJ.run ttok 1 rfl ?_
  rcases Bool.eq_false_or_eq_true r1 with c1 | c1
  · replace H := ite_t c1 H
    refine RJ.know (t := 7) rfl (congrArg Value.bool c1) ?_
    refine RJ.run ttok 1 rfl ?_
    obtain ⟨r2, q2, H⟩ := bind_t H
    refine RJ.op rfl rfl (op_call [] (Q25.spec q2) rfl rfl rfl h1 rfl gnil) ?_
    rintro _ w2 ⟨_, ⟨rfl, rfl⟩, h2⟩
    replace h2 : St w0 F0 [] _ _ := h2
    refine RJ.run ttok 3 rfl ?_
    rcases Bool.eq_false_or_eq_true (!r2) with c2 | c2
    · replace H := ite_t c2 H
      refine RJ.know (t := 12) rfl (congrArg Value.bool c2) ?_
      refine RJ.run ttok 5 rfl ?_
      refine RJ.fin [(4, .bool true)] rfl ?_
      refine J.ret ?_
      obtain rfl := Option.some.inj H
      exact ⟨_, _, _, (results_slots rfl), ⟨rfl, rfl⟩, h2.only [] rfl⟩
    replace H := ite_f c2 H
    refine RJ.know (t := 12) rfl (congrArg Value.bool c2) ?_
    refine RJ.run ttok 5 rfl ?_
    refine RJ.fin [(4, .bool (decide (a0 < a1)))] rfl ?_
    refine J.ret ?_
    obtain rfl := Option.some.inj H
    exact ⟨_, _, _, (results_slots rfl), ⟨rfl, rfl⟩, h2.only [] rfl⟩
  replace H := ite_f c1 H
  refine RJ.know (t := 7) rfl (congrArg Value.bool c1) ?_
  refine RJ.run ttok 10 rfl ?_
  refine RJ.fin [(4, .bool (decide (a0 < a1)))] rfl ?_
  refine J.ret ?_
  obtain rfl := Option.some.inj H
  exact ⟨_, _, _, (results_slots rfl), ⟨rfl, rfl⟩, h1.only [] rfl⟩

mutual
def Q38.l0 : Nat → (Int) → (Int) → (List (Int)) → (Int) → Option (List (Int))
  | 0, _, _, _, _ => none
  | k + 1, a1, a2, x1, x2 => if (decide (x2 < a2)) = true then (Q38.l1 k a1 a2 x2 x1 x2) else (some x1)
def Q38.l1 : Nat → (Int) → (Int) → (Int) → (List (Int)) → (Int) → Option (List (Int))
  | 0, _, _, _, _, _ => none
  | k + 1, a1, a2, x2, x3, x4 => if (decide (a1 < x4)) = true then (if 0 ≤ x4 ∧ x4 < (x3.length : Int) then (if 0 ≤ (w64 (x4 - 1)) ∧ (w64 (x4 - 1)) < (x3.length : Int) then ((Q24.f (gt x3 x4) (gt x3 (w64 (x4 - 1)))).bind fun r1 => (if r1 = true then (Q38.l1 k a1 a2 x2 ((x3.set x4.toNat (gt x3 (w64 (x4 - 1)))).set (w64 (x4 - 1)).toNat (gt x3 x4)) (w64 (x4 - 1))) else (Q38.l0 k a1 a2 x3 (w64 (x2 + 1))))) else none) else none) else (Q38.l0 k a1 a2 x3 (w64 (x2 + 1)))
end
def Q38.f (k : Nat) (a0 : List (Int)) (a1 : Int) (a2 : Int) : Option (List (Int)) := Q38.l0 k a1 a2 a0 (w64 (a1 + 1))
theorem Q38.spec {k : Nat} {a0 : List (Int)} {a1 : Int} {a2 : Int} {A1 : Option Addr} {c_1 : Nat} {r : List (Int)} (H : Q38.f k a0 a1 a2 = some r) :
    Spec Try.prog 168 [.slice A1 a0.length c_1, .int .i64 a1, .int .i64 a2] [ownC 23 (.int .u32) a0 (.slice A1 a0.length c_1)] [] (fun v l => v = .tuple #[] ∧ l = [ownC 23 (.int .u32) r (.slice A1 r.length c_1)] ∧ r.length = a0.length) := by
  refine Spec.enter Try.func168 rfl (by kernel_rfl) (by kernel_rfl) fun w0 F0 h0 => ?_
  unfold Q38.f at H
  refine J.seq (J.region ?_)
  refine RJ.run ttok 3 rfl ?_
  refine RJ.fin [(0, .slice A1 a0.length c_1), (1, .int .i64 a1), (2, .int .i64 a2), (6, .int .i64 (w64 (a1 + 1)))] rfl ?_
  refine J.block ?_
  have h17 := ((h0.only [0] rfl).rds [] rfl)
  refine J.loop (fun kk env w => ∃ (x1 : List (Int)) (x2 : Int), env = [(0, .slice A1 x1.length c_1), (1, .int .i64 a1), (2, .int .i64 a2), (6, .int .i64 x2)] ∧ St w0 F0 [ownC 23 (.int .u32) x1 (.slice A1 x1.length c_1)] [] w ∧ Q38.l0 kk a1 a2 x1 x2 = some r ∧ x1.length = a0.length) (k := k) ⟨a0, (w64 (a1 + 1)), rfl, h17, H, (rfl : a0.length = a0.length)⟩ ?_
  rintro k1 env w1 ⟨x1, x2, rfl, h1, H, e1⟩
  cases k1 with
  | zero => exact nomatch (show none = some r from H)
  | succ k1 =>
    rw [Q38.l0] at H
    refine J.seq (J.seq (J.region ?_))
    refine RJ.run ttok 3 rfl ?_
    refine RJ.fin [(0, _), (1, _), (2, _), (6, _), (12, .bool (decide (x2 < a2)))] rfl ?_
    refine J.cond rfl (fun c1 => ?_) (fun c1 => ?_)
    · replace H := ite_t c1 H
      refine J.skip ?_
      refine J.seq (J.block (J.seq (J.region ?_)))
      refine RJ.run ttok 2 rfl ?_
      refine RJ.fin [(0, _), (1, _), (2, _), (6, _), (7, .int .i64 x2)] rfl ?_
      refine J.block ?_
      have h16 := ((h1.only [0] rfl).rds [] rfl)
      refine J.loop (fun kk env w => ∃ (x3 : List (Int)) (x4 : Int), env = [(0, .slice A1 x3.length c_1), (1, .int .i64 a1), (2, .int .i64 a2), (6, .int .i64 x2), (7, .int .i64 x4)] ∧ St w0 F0 [ownC 23 (.int .u32) x3 (.slice A1 x3.length c_1)] [] w ∧ Q38.l1 kk a1 a2 x2 x3 x4 = some r ∧ kk ≤ k1 ∧ x3.length = a0.length) (k := k1) ⟨x1, x2, rfl, h16, H, Nat.le_refl _, e1⟩ ?_
      rintro k2 env w2 ⟨x3, x4, rfl, h2, H, hk2, e2⟩
      cases k2 with
      | zero => exact nomatch (show none = some r from H)
      | succ k2 =>
        rw [Q38.l1] at H
        refine J.seq (J.seq ?_)
        refine J.heldSt mix h2 ?_
        have h3 := h2.drew
        refine HJ.run ttok rfl [0, 1, 2, 3] rfl ?_
        rcases Bool.eq_false_or_eq_true (decide (a1 < x4)) with c2 | c2
        · replace H := ite_t c2 H
          refine HJ.know (t := 19) rfl (congrArg Value.bool c2) ?_
          refine HJ.run ttok rfl [4, 5, 8, 9, 10] rfl ?_
          obtain ⟨⟨p1, p2⟩, H⟩ := guard_t H
          have e3 := elem_A h3.wh (Gives.of 0 rfl own_rd) p1 p2
          refine HJ.q (i := 6) rfl rfl rfl rfl rfl rfl (q_index ttok rfl rfl rfl rfl rfl e3 p1 p2) ?_
          refine HJ.q (i := 7) rfl rfl rfl rfl rfl rfl (q_load_elem (f := 0) ttok rfl (fun w e => e) (Gives.of 0 rfl own_rd) p1 p2 rfl rfl rfl rfl rfl) ?_
          obtain ⟨⟨p3, p4⟩, H⟩ := guard_t H
          refine HJ.q (i := 11) rfl rfl rfl rfl rfl rfl (q_index ttok rfl rfl rfl rfl rfl e3 p3 p4) ?_
          refine HJ.q (i := 12) rfl rfl rfl rfl rfl rfl (q_load_elem (f := 0) ttok rfl (fun w e => e) (Gives.of 0 rfl own_rd) p3 p4 rfl rfl rfl rfl rfl) ?_
          obtain ⟨r1, q1, H⟩ := bind_t H
          refine HJ.op (i := 13) rfl rfl rfl rfl rfl (op_call [] (Q24.spec q1) rfl rfl rfl h3 rfl gnil) ?_
          rintro _ w3 ⟨_, ⟨rfl, rfl⟩, h4⟩
          replace h4 : St w0 F0 [_] _ _ := h4
          refine ⟨⟨[], h4⟩, ?_⟩
          refine HJ.run ttok rfl [14] rfl ?_
          refine HJ.fin [(0, _), (1, _), (2, _), (6, _), (7, _), (30, .bool r1)] rfl rfl ?_
          refine J.cond rfl (fun c3 => ?_) (fun c3 => ?_)
          · replace H := ite_t c3 H
            refine J.skip ?_
            refine J.seq (J.block ?_)
            refine J.mid (fun env w => env = [(0, .slice A1 ((x3.set x4.toNat (gt x3 (w64 (x4 - 1)))).set (w64 (x4 - 1)).toNat (gt x3 x4)).length c_1), (1, .int .i64 a1), (2, .int .i64 a2), (6, .int .i64 x2), (7, .int .i64 x4)] ∧ St w0 F0 [ownC 23 (.int .u32) ((x3.set x4.toNat (gt x3 (w64 (x4 - 1)))).set (w64 (x4 - 1)).toNat (gt x3 x4)) (.slice A1 ((x3.set x4.toNat (gt x3 (w64 (x4 - 1)))).set (w64 (x4 - 1)).toNat (gt x3 x4)).length c_1)] [] w) ?_ ?_
            · refine J.heldSt mix (h4.only [] rfl) ?_
              have h7 := h4.drew
              refine HJ.run ttok rfl [0, 1, 2, 3, 4, 5, 6, 7, 10, 11] rfl ?_
              refine HJ.q (i := 8) rfl rfl rfl rfl rfl rfl (q_index ttok rfl rfl rfl rfl rfl e3 p3 p4) ?_
              refine HJ.q (i := 12) rfl rfl rfl rfl rfl rfl (q_index ttok rfl rfl rfl rfl rfl e3 p1 p2) ?_
              refine HJ.pick [9, 13] (i := 9) rfl rfl rfl rfl ?_
              refine (hscons ?_ (hscons ?_ hsnil))
              · refine HS.op (i := 9) rfl rfl rfl (OpT.ofq (q_load_elem (f := 0) ttok rfl h7.wht (Gives.of 0 rfl own_rd) p3 p4 rfl rfl rfl rfl rfl)) ?_
                rintro _ _ ⟨rfl, rfl⟩
                replace h7 : St w0 F0 [_] _ _ := h7
                refine ⟨⟨[_], h7⟩, ?_⟩
                refine HJ.op (i := 13) rfl rfl rfl rfl rfl (OpT.ofq (q_load_elem (f := 0) ttok rfl h7.wht (Gives.of 0 rfl own_rd) p1 p2 rfl rfl rfl rfl rfl)) ?_
                rintro _ _ ⟨rfl, rfl⟩
                replace h7 : St w0 F0 [_] _ _ := h7
                refine ⟨⟨[_], h7⟩, ?_⟩
                refine HJ.q (i := 14) rfl rfl rfl rfl rfl rfl (q_index ttok rfl rfl rfl rfl rfl e3 p1 p2) ?_
                refine HJ.op (i := 15) rfl rfl rfl rfl rfl (op_store_elem (ty := (.int .u32)) (f := 0) (ix := x4) ttok rfl (gt x3 (w64 (x4 - 1))) 0 rfl h7 rfl rfl p1 p2 rfl rfl rfl rfl rfl rfl rfl) ?_
                intro _ w6 h8
                replace h8 : St w0 F0 [ownC 23 (.int .u32) (x3.set x4.toNat (gt x3 (w64 (x4 - 1)))) (.slice A1 (x3.set x4.toNat (gt x3 (w64 (x4 - 1)))).length c_1)] _ _ := h8
                refine ⟨⟨[_], h8⟩, ?_⟩
                have e6 : (x3.set x4.toNat (gt x3 (w64 (x4 - 1)))).length = a0.length := List.length_set.trans e2
                refine HJ.q (i := 16) rfl rfl rfl rfl rfl rfl (q_index ttok rfl rfl rfl rfl rfl e3 p3 p4) ?_
                refine HJ.op (i := 17) rfl rfl rfl rfl rfl (op_store_elem (ty := (.int .u32)) (f := 0) (ix := (w64 (x4 - 1))) ttok rfl (gt x3 x4) 0 rfl h8 rfl rfl p3 (by simpa only [List.length_set] using p4) rfl rfl rfl rfl rfl rfl rfl) ?_
                intro _ w7 h9
                replace h9 : St w0 F0 [ownC 23 (.int .u32) ((x3.set x4.toNat (gt x3 (w64 (x4 - 1)))).set (w64 (x4 - 1)).toNat (gt x3 x4)) (.slice A1 ((x3.set x4.toNat (gt x3 (w64 (x4 - 1)))).set (w64 (x4 - 1)).toNat (gt x3 x4)).length c_1)] _ _ := h9
                refine ⟨⟨[_], h9⟩, ?_⟩
                have e7 : ((x3.set x4.toNat (gt x3 (w64 (x4 - 1)))).set (w64 (x4 - 1)).toNat (gt x3 x4)).length = a0.length := List.length_set.trans e6
                refine HJ.fin [(0, .slice A1 x3.length c_1), (1, .int .i64 a1), (2, .int .i64 a2), (6, .int .i64 x2), (7, .int .i64 x4)] rfl rfl ?_
                exact thenP_intro ⟨(by simp only [List.length_set]), ((h9.only [0] rfl).rds [] rfl)⟩
              · refine HS.op (i := 13) rfl rfl rfl (OpT.ofq (q_load_elem (f := 0) ttok rfl h7.wht (Gives.of 0 rfl own_rd) p1 p2 rfl rfl rfl rfl rfl)) ?_
                rintro _ _ ⟨rfl, rfl⟩
                replace h7 : St w0 F0 [_] _ _ := h7
                refine ⟨⟨[_], h7⟩, ?_⟩
                refine HJ.op (i := 9) rfl rfl rfl rfl rfl (OpT.ofq (q_load_elem (f := 0) ttok rfl h7.wht (Gives.of 0 rfl own_rd) p3 p4 rfl rfl rfl rfl rfl)) ?_
                rintro _ _ ⟨rfl, rfl⟩
                replace h7 : St w0 F0 [_] _ _ := h7
                refine ⟨⟨[_], h7⟩, ?_⟩
                refine HJ.q (i := 14) rfl rfl rfl rfl rfl rfl (q_index ttok rfl rfl rfl rfl rfl e3 p1 p2) ?_
                refine HJ.op (i := 15) rfl rfl rfl rfl rfl (op_store_elem (ty := (.int .u32)) (f := 0) (ix := x4) ttok rfl (gt x3 (w64 (x4 - 1))) 0 rfl h7 rfl rfl p1 p2 rfl rfl rfl rfl rfl rfl rfl) ?_
                intro _ w8 h10
                replace h10 : St w0 F0 [ownC 23 (.int .u32) (x3.set x4.toNat (gt x3 (w64 (x4 - 1)))) (.slice A1 (x3.set x4.toNat (gt x3 (w64 (x4 - 1)))).length c_1)] _ _ := h10
                refine ⟨⟨[_], h10⟩, ?_⟩
                have e8 : (x3.set x4.toNat (gt x3 (w64 (x4 - 1)))).length = a0.length := List.length_set.trans e2
                refine HJ.q (i := 16) rfl rfl rfl rfl rfl rfl (q_index ttok rfl rfl rfl rfl rfl e3 p3 p4) ?_
                refine HJ.op (i := 17) rfl rfl rfl rfl rfl (op_store_elem (ty := (.int .u32)) (f := 0) (ix := (w64 (x4 - 1))) ttok rfl (gt x3 x4) 0 rfl h10 rfl rfl p3 (by simpa only [List.length_set] using p4) rfl rfl rfl rfl rfl rfl rfl) ?_
                intro _ w9 h11
                replace h11 : St w0 F0 [ownC 23 (.int .u32) ((x3.set x4.toNat (gt x3 (w64 (x4 - 1)))).set (w64 (x4 - 1)).toNat (gt x3 x4)) (.slice A1 ((x3.set x4.toNat (gt x3 (w64 (x4 - 1)))).set (w64 (x4 - 1)).toNat (gt x3 x4)).length c_1)] _ _ := h11
                refine ⟨⟨[_], h11⟩, ?_⟩
                have e9 : ((x3.set x4.toNat (gt x3 (w64 (x4 - 1)))).set (w64 (x4 - 1)).toNat (gt x3 x4)).length = a0.length := List.length_set.trans e8
                refine HJ.fin [(0, .slice A1 x3.length c_1), (1, .int .i64 a1), (2, .int .i64 a2), (6, .int .i64 x2), (7, .int .i64 x4)] rfl rfl ?_
                exact thenP_intro ⟨(by simp only [List.length_set]), ((h11.only [0] rfl).rds [] rfl)⟩
            rintro env w10 ⟨rfl, h12⟩
            have e10 : ((x3.set x4.toNat (gt x3 (w64 (x4 - 1)))).set (w64 (x4 - 1)).toNat (gt x3 x4)).length = a0.length := by first | (simp only [List.length_set]; done) | (simp only [List.length_set]; exact e2)
            refine J.region ?_
            refine RJ.run ttok 3 rfl ?_
            refine RJ.fin [(0, .slice A1 ((x3.set x4.toNat (gt x3 (w64 (x4 - 1)))).set (w64 (x4 - 1)).toNat (gt x3 x4)).length c_1), (1, _), (2, _), (6, _), (7, .int .i64 (w64 (x4 - 1)))] rfl ?_
            have h13 := ((h12.only [0] rfl).rds [] rfl)
            exact ⟨k2, by omega, ((x3.set x4.toNat (gt x3 (w64 (x4 - 1)))).set (w64 (x4 - 1)).toNat (gt x3 x4)), (w64 (x4 - 1)), rfl, h13, H, by omega, e10⟩
          replace H := ite_f c3 H
          refine J.exit ?_
          refine J.region ?_
          refine RJ.run ttok 3 rfl ?_
          refine RJ.fin [(0, _), (1, _), (2, _), (6, .int .i64 (w64 (x2 + 1)))] rfl ?_
          have h14 := ((h4.only [0] rfl).rds [] rfl)
          exact ⟨k2, by omega, x3, (w64 (x2 + 1)), rfl, h14, H, e2⟩
        replace H := ite_f c2 H
        refine HJ.know (t := 19) rfl (congrArg Value.bool c2) ?_
        refine HJ.run ttok rfl [4, 5, 6, 7, 8, 9, 10, 11, 12, 13, 14] rfl ?_
        refine HJ.fin [(0, _), (1, _), (2, _), (6, _), (7, _), (30, .bool false)] rfl rfl ?_
        refine J.condF rfl ?_
        refine J.exit ?_
        refine J.region ?_
        refine RJ.run ttok 3 rfl ?_
        refine RJ.fin [(0, _), (1, _), (2, _), (6, .int .i64 (w64 (x2 + 1)))] rfl ?_
        have h15 := ((h3.only [0] rfl).rds [] rfl)
        exact ⟨k2, by omega, x3, (w64 (x2 + 1)), rfl, h15, H, e2⟩
    replace H := ite_f c1 H
    refine J.exit ?_
    obtain rfl := Option.some.inj H
    exact ⟨_, _, _, (results_slots rfl), ⟨rfl, rfl, e1⟩, h1.only [0] rfl⟩

def Q48.l0 : Nat → (Int) → (Int) → (List (Int)) → (Int) → Option (List (Int))
  | 0, _, _, _, _ => none
  | k + 1, a2, a3, x1, x2 => if (decide (a2 ≤ (w64 ((w64 (2 * x2)) + 1)))) = true then (some x1) else (if (decide ((w64 ((w64 ((w64 (2 * x2)) + 1)) + 1)) < a2)) = true then (if 0 ≤ (w64 (a3 + (w64 ((w64 (2 * x2)) + 1)))) ∧ (w64 (a3 + (w64 ((w64 (2 * x2)) + 1)))) < (x1.length : Int) then (if 0 ≤ (w64 ((w64 (a3 + (w64 ((w64 (2 * x2)) + 1)))) + 1)) ∧ (w64 ((w64 (a3 + (w64 ((w64 (2 * x2)) + 1)))) + 1)) < (x1.length : Int) then ((Q24.f (gt x1 (w64 (a3 + (w64 ((w64 (2 * x2)) + 1))))) (gt x1 (w64 ((w64 (a3 + (w64 ((w64 (2 * x2)) + 1)))) + 1)))).bind fun r1 => (if r1 = true then (if 0 ≤ (w64 (a3 + x2)) ∧ (w64 (a3 + x2)) < (x1.length : Int) then (if 0 ≤ (w64 (a3 + (w64 ((w64 ((w64 (2 * x2)) + 1)) + 1)))) ∧ (w64 (a3 + (w64 ((w64 ((w64 (2 * x2)) + 1)) + 1)))) < (x1.length : Int) then ((Q24.f (gt x1 (w64 (a3 + x2))) (gt x1 (w64 (a3 + (w64 ((w64 ((w64 (2 * x2)) + 1)) + 1)))))).bind fun r2 => (if (!r2) = true then (some x1) else (Q48.l0 k a2 a3 ((x1.set (w64 (a3 + x2)).toNat (gt x1 (w64 (a3 + (w64 ((w64 ((w64 (2 * x2)) + 1)) + 1)))))).set (w64 (a3 + (w64 ((w64 ((w64 (2 * x2)) + 1)) + 1)))).toNat (gt x1 (w64 (a3 + x2)))) (w64 ((w64 ((w64 (2 * x2)) + 1)) + 1))))) else none) else none) else (if 0 ≤ (w64 (a3 + x2)) ∧ (w64 (a3 + x2)) < (x1.length : Int) then ((Q24.f (gt x1 (w64 (a3 + x2))) (gt x1 (w64 (a3 + (w64 ((w64 (2 * x2)) + 1)))))).bind fun r3 => (if (!r3) = true then (some x1) else (Q48.l0 k a2 a3 ((x1.set (w64 (a3 + x2)).toNat (gt x1 (w64 (a3 + (w64 ((w64 (2 * x2)) + 1)))))).set (w64 (a3 + (w64 ((w64 (2 * x2)) + 1)))).toNat (gt x1 (w64 (a3 + x2)))) (w64 ((w64 (2 * x2)) + 1))))) else none))) else none) else none) else (if 0 ≤ (w64 (a3 + x2)) ∧ (w64 (a3 + x2)) < (x1.length : Int) then (if 0 ≤ (w64 (a3 + (w64 ((w64 (2 * x2)) + 1)))) ∧ (w64 (a3 + (w64 ((w64 (2 * x2)) + 1)))) < (x1.length : Int) then ((Q24.f (gt x1 (w64 (a3 + x2))) (gt x1 (w64 (a3 + (w64 ((w64 (2 * x2)) + 1)))))).bind fun r4 => (if (!r4) = true then (some x1) else (Q48.l0 k a2 a3 ((x1.set (w64 (a3 + x2)).toNat (gt x1 (w64 (a3 + (w64 ((w64 (2 * x2)) + 1)))))).set (w64 (a3 + (w64 ((w64 (2 * x2)) + 1)))).toNat (gt x1 (w64 (a3 + x2)))) (w64 ((w64 (2 * x2)) + 1))))) else none) else none))
def Q48.f (k : Nat) (a0 : List (Int)) (a1 : Int) (a2 : Int) (a3 : Int) : Option (List (Int)) := Q48.l0 k a2 a3 a0 a1
theorem Q48.spec {k : Nat} {a0 : List (Int)} {a1 : Int} {a2 : Int} {a3 : Int} {A1 : Option Addr} {c_1 : Nat} {r : List (Int)} (H : Q48.f k a0 a1 a2 a3 = some r) :
    Spec Try.prog 180 [.slice A1 a0.length c_1, .int .i64 a1, .int .i64 a2, .int .i64 a3] [ownC 23 (.int .u32) a0 (.slice A1 a0.length c_1)] [] (fun v l => v = .tuple #[] ∧ l = [ownC 23 (.int .u32) r (.slice A1 r.length c_1)] ∧ r.length = a0.length) := by
  refine Spec.enter Try.func180 rfl (by kernel_rfl) (by kernel_rfl) fun w0 F0 h0 => ?_
  unfold Q48.f at H
  refine J.seq (J.region ?_)
  refine RJ.run ttok 2 rfl ?_
  refine RJ.fin [(0, .slice A1 a0.length c_1), (2, .int .i64 a2), (3, .int .i64 a3), (8, .int .i64 a1)] rfl ?_
  refine J.block ?_
  have h37 := ((h0.only [0] rfl).rds [] rfl)
  refine J.loop (fun kk env w => ∃ (x1 : List (Int)) (x2 : Int), env = [(0, .slice A1 x1.length c_1), (2, .int .i64 a2), (3, .int .i64 a3), (8, .int .i64 x2)] ∧ St w0 F0 [ownC 23 (.int .u32) x1 (.slice A1 x1.length c_1)] [] w ∧ Q48.l0 kk a2 a3 x1 x2 = some r ∧ x1.length = a0.length) (k := k) ⟨a0, a1, rfl, h37, H, (rfl : a0.length = a0.length)⟩ ?_
  rintro k1 env w1 ⟨x1, x2, rfl, h1, H, e1⟩
  cases k1 with
  | zero => exact nomatch (show none = some r from H)
  | succ k1 =>
    rw [Q48.l0] at H
    refine J.block (J.seq (J.region ?_))
    refine RJ.run ttok 4 rfl ?_
    refine RJ.fin [(0, _), (2, _), (3, _), (8, _), (9, .int .i64 (w64 ((w64 (2 * x2)) + 1)))] rfl ?_
    refine J.seq (J.seq (J.region ?_))
    refine RJ.run ttok 3 rfl ?_
    refine RJ.fin [(0, _), (2, _), (3, _), (8, _), (9, _), (16, .bool (decide (a2 ≤ (w64 ((w64 (2 * x2)) + 1)))))] rfl ?_
    refine J.cond rfl (fun c1 => ?_) (fun c1 => ?_)
    · replace H := ite_t c1 H
      refine J.exit ?_
      obtain rfl := Option.some.inj H
      exact ⟨_, _, _, (results_slots rfl), ⟨rfl, rfl, e1⟩, h1.only [0] rfl⟩
    replace H := ite_f c1 H
    refine J.skip ?_
    refine J.seq (J.seq ?_)
    refine J.heldSt mix h1 ?_
    have h2 := h1.drew
    refine HJ.run ttok rfl [0, 1, 2, 3, 4] rfl ?_
    rcases Bool.eq_false_or_eq_true (decide ((w64 ((w64 ((w64 (2 * x2)) + 1)) + 1)) < a2)) with c2 | c2
    · replace H := ite_t c2 H
      refine HJ.know (t := 21) rfl (congrArg Value.bool c2) ?_
      refine HJ.run ttok rfl [5, 6, 7, 8, 11, 12, 13, 14, 15] rfl ?_
      obtain ⟨⟨p1, p2⟩, H⟩ := guard_t H
      have e2 := elem_A h2.wh (Gives.of 0 rfl own_rd) p1 p2
      refine HJ.q (i := 9) rfl rfl rfl rfl rfl rfl (q_index ttok rfl rfl rfl rfl rfl e2 p1 p2) ?_
      refine HJ.q (i := 10) rfl rfl rfl rfl rfl rfl (q_load_elem (f := 0) ttok rfl (fun w e => e) (Gives.of 0 rfl own_rd) p1 p2 rfl rfl rfl rfl rfl) ?_
      obtain ⟨⟨p3, p4⟩, H⟩ := guard_t H
      refine HJ.q (i := 16) rfl rfl rfl rfl rfl rfl (q_index ttok rfl rfl rfl rfl rfl e2 p3 p4) ?_
      refine HJ.q (i := 17) rfl rfl rfl rfl rfl rfl (q_load_elem (f := 0) ttok rfl (fun w e => e) (Gives.of 0 rfl own_rd) p3 p4 rfl rfl rfl rfl rfl) ?_
      obtain ⟨r1, q1, H⟩ := bind_t H
      refine HJ.op (i := 18) rfl rfl rfl rfl rfl (op_call [] (Q24.spec q1) rfl rfl rfl h2 rfl gnil) ?_
      rintro _ w2 ⟨_, ⟨rfl, rfl⟩, h3⟩
      replace h3 : St w0 F0 [_] _ _ := h3
      refine ⟨⟨[], h3⟩, ?_⟩
      refine HJ.run ttok rfl [19] rfl ?_
      refine HJ.fin [(0, _), (2, _), (3, _), (8, _), (9, _), (36, .bool r1)] rfl rfl ?_
      refine J.cond rfl (fun c3 => ?_) (fun c3 => ?_)
      · replace H := ite_t c3 H
        refine J.region ?_
        refine RJ.run ttok 3 rfl ?_
        refine RJ.fin [(0, _), (2, _), (3, _), (8, _), (9, .int .i64 (w64 ((w64 ((w64 (2 * x2)) + 1)) + 1)))] rfl ?_
        refine J.seq (J.seq ?_)
        refine J.heldSt mix h3 ?_
        have h4 := h3.drew
        refine HJ.run ttok rfl [0, 1, 2, 3, 6, 7, 8, 9] rfl ?_
        obtain ⟨⟨p5, p6⟩, H⟩ := guard_t H
        refine HJ.q (i := 4) rfl rfl rfl rfl rfl rfl (q_index ttok rfl rfl rfl rfl rfl e2 p5 p6) ?_
        refine HJ.q (i := 5) rfl rfl rfl rfl rfl rfl (q_load_elem (f := 0) ttok rfl (fun w e => e) (Gives.of 0 rfl own_rd) p5 p6 rfl rfl rfl rfl rfl) ?_
        obtain ⟨⟨p7, p8⟩, H⟩ := guard_t H
        refine HJ.q (i := 10) rfl rfl rfl rfl rfl rfl (q_index ttok rfl rfl rfl rfl rfl e2 p7 p8) ?_
        refine HJ.q (i := 11) rfl rfl rfl rfl rfl rfl (q_load_elem (f := 0) ttok rfl (fun w e => e) (Gives.of 0 rfl own_rd) p7 p8 rfl rfl rfl rfl rfl) ?_
        obtain ⟨r2, q2, H⟩ := bind_t H
        refine HJ.op (i := 12) rfl rfl rfl rfl rfl (op_call [] (Q24.spec q2) rfl rfl rfl h4 rfl gnil) ?_
        rintro _ w3 ⟨_, ⟨rfl, rfl⟩, h5⟩
        replace h5 : St w0 F0 [_] _ _ := h5
        refine ⟨⟨[], h5⟩, ?_⟩
        refine HJ.run ttok rfl [13] rfl ?_
        refine HJ.fin [(0, _), (2, _), (3, _), (8, _), (9, _), (52, .bool (!r2))] rfl rfl ?_
        refine J.cond rfl (fun c4 => ?_) (fun c4 => ?_)
        · replace H := ite_t c4 H
          refine J.ret ?_
          obtain rfl := Option.some.inj H
          exact ⟨_, _, _, (results_slots rfl), ⟨rfl, rfl, e1⟩, h5.only [0] rfl⟩
        replace H := ite_f c4 H
        refine J.skip ?_
        refine J.seq ?_
        refine J.midS (fun env w => env = [(0, .slice A1 ((x1.set (w64 (a3 + x2)).toNat (gt x1 (w64 (a3 + (w64 ((w64 ((w64 (2 * x2)) + 1)) + 1)))))).set (w64 (a3 + (w64 ((w64 ((w64 (2 * x2)) + 1)) + 1)))).toNat (gt x1 (w64 (a3 + x2)))).length c_1), (2, .int .i64 a2), (3, .int .i64 a3), (9, .int .i64 (w64 ((w64 ((w64 (2 * x2)) + 1)) + 1)))] ∧ St w0 F0 [ownC 23 (.int .u32) ((x1.set (w64 (a3 + x2)).toNat (gt x1 (w64 (a3 + (w64 ((w64 ((w64 (2 * x2)) + 1)) + 1)))))).set (w64 (a3 + (w64 ((w64 ((w64 (2 * x2)) + 1)) + 1)))).toNat (gt x1 (w64 (a3 + x2)))) (.slice A1 ((x1.set (w64 (a3 + x2)).toNat (gt x1 (w64 (a3 + (w64 ((w64 ((w64 (2 * x2)) + 1)) + 1)))))).set (w64 (a3 + (w64 ((w64 ((w64 (2 * x2)) + 1)) + 1)))).toNat (gt x1 (w64 (a3 + x2)))).length c_1)] [] w) ?_ ?_
        · refine J.heldSt mix (h5.only [] rfl) ?_
          have h8 := h5.drew
          refine HJ.run ttok rfl [0, 1, 2, 3, 4, 5, 6, 7, 8, 9, 10, 11, 14, 15, 16, 17] rfl ?_
          refine HJ.q (i := 12) rfl rfl rfl rfl rfl rfl (q_index ttok rfl rfl rfl rfl rfl e2 p7 p8) ?_
          refine HJ.q (i := 18) rfl rfl rfl rfl rfl rfl (q_index ttok rfl rfl rfl rfl rfl e2 p5 p6) ?_
          refine HJ.pick [13, 19] (i := 13) rfl rfl rfl rfl ?_
          refine (hscons ?_ (hscons ?_ hsnil))
          · refine HS.op (i := 13) rfl rfl rfl (OpT.ofq (q_load_elem (f := 0) ttok rfl h8.wht (Gives.of 0 rfl own_rd) p7 p8 rfl rfl rfl rfl rfl)) ?_
            rintro _ _ ⟨rfl, rfl⟩
            replace h8 : St w0 F0 [_] _ _ := h8
            refine ⟨⟨[_], h8⟩, ?_⟩
            refine HJ.op (i := 19) rfl rfl rfl rfl rfl (OpT.ofq (q_load_elem (f := 0) ttok rfl h8.wht (Gives.of 0 rfl own_rd) p5 p6 rfl rfl rfl rfl rfl)) ?_
            rintro _ _ ⟨rfl, rfl⟩
            replace h8 : St w0 F0 [_] _ _ := h8
            refine ⟨⟨[_], h8⟩, ?_⟩
            refine HJ.q (i := 20) rfl rfl rfl rfl rfl rfl (q_index ttok rfl rfl rfl rfl rfl e2 p5 p6) ?_
            refine HJ.op (i := 21) rfl rfl rfl rfl rfl (op_store_elem (ty := (.int .u32)) (f := 0) (ix := (w64 (a3 + x2))) ttok rfl (gt x1 (w64 (a3 + (w64 ((w64 ((w64 (2 * x2)) + 1)) + 1))))) 0 rfl h8 rfl rfl p5 p6 rfl rfl rfl rfl rfl rfl rfl) ?_
            intro _ w6 h9
            replace h9 : St w0 F0 [ownC 23 (.int .u32) (x1.set (w64 (a3 + x2)).toNat (gt x1 (w64 (a3 + (w64 ((w64 ((w64 (2 * x2)) + 1)) + 1)))))) (.slice A1 (x1.set (w64 (a3 + x2)).toNat (gt x1 (w64 (a3 + (w64 ((w64 ((w64 (2 * x2)) + 1)) + 1)))))).length c_1)] _ _ := h9
            refine ⟨⟨[_], h9⟩, ?_⟩
            have e5 : (x1.set (w64 (a3 + x2)).toNat (gt x1 (w64 (a3 + (w64 ((w64 ((w64 (2 * x2)) + 1)) + 1)))))).length = a0.length := List.length_set.trans e1
            refine HJ.q (i := 22) rfl rfl rfl rfl rfl rfl (q_index ttok rfl rfl rfl rfl rfl e2 p7 p8) ?_
            refine HJ.op (i := 23) rfl rfl rfl rfl rfl (op_store_elem (ty := (.int .u32)) (f := 0) (ix := (w64 (a3 + (w64 ((w64 ((w64 (2 * x2)) + 1)) + 1))))) ttok rfl (gt x1 (w64 (a3 + x2))) 0 rfl h9 rfl rfl p7 (by simpa only [List.length_set] using p8) rfl rfl rfl rfl rfl rfl rfl) ?_
            intro _ w7 h10
            replace h10 : St w0 F0 [ownC 23 (.int .u32) ((x1.set (w64 (a3 + x2)).toNat (gt x1 (w64 (a3 + (w64 ((w64 ((w64 (2 * x2)) + 1)) + 1)))))).set (w64 (a3 + (w64 ((w64 ((w64 (2 * x2)) + 1)) + 1)))).toNat (gt x1 (w64 (a3 + x2)))) (.slice A1 ((x1.set (w64 (a3 + x2)).toNat (gt x1 (w64 (a3 + (w64 ((w64 ((w64 (2 * x2)) + 1)) + 1)))))).set (w64 (a3 + (w64 ((w64 ((w64 (2 * x2)) + 1)) + 1)))).toNat (gt x1 (w64 (a3 + x2)))).length c_1)] _ _ := h10
            refine ⟨⟨[_], h10⟩, ?_⟩
            have e6 : ((x1.set (w64 (a3 + x2)).toNat (gt x1 (w64 (a3 + (w64 ((w64 ((w64 (2 * x2)) + 1)) + 1)))))).set (w64 (a3 + (w64 ((w64 ((w64 (2 * x2)) + 1)) + 1)))).toNat (gt x1 (w64 (a3 + x2)))).length = a0.length := List.length_set.trans e5
            refine HJ.fin [(0, .slice A1 x1.length c_1), (2, .int .i64 a2), (3, .int .i64 a3), (9, .int .i64 (w64 ((w64 ((w64 (2 * x2)) + 1)) + 1)))] rfl rfl ?_
            exact thenP_intro ⟨(by simp only [List.length_set]), ((h10.only [0] rfl).rds [] rfl)⟩
          · refine HS.op (i := 19) rfl rfl rfl (OpT.ofq (q_load_elem (f := 0) ttok rfl h8.wht (Gives.of 0 rfl own_rd) p5 p6 rfl rfl rfl rfl rfl)) ?_
            rintro _ _ ⟨rfl, rfl⟩
            replace h8 : St w0 F0 [_] _ _ := h8
            refine ⟨⟨[_], h8⟩, ?_⟩
            refine HJ.op (i := 13) rfl rfl rfl rfl rfl (OpT.ofq (q_load_elem (f := 0) ttok rfl h8.wht (Gives.of 0 rfl own_rd) p7 p8 rfl rfl rfl rfl rfl)) ?_
            rintro _ _ ⟨rfl, rfl⟩
            replace h8 : St w0 F0 [_] _ _ := h8
            refine ⟨⟨[_], h8⟩, ?_⟩
            refine HJ.q (i := 20) rfl rfl rfl rfl rfl rfl (q_index ttok rfl rfl rfl rfl rfl e2 p5 p6) ?_
            refine HJ.op (i := 21) rfl rfl rfl rfl rfl (op_store_elem (ty := (.int .u32)) (f := 0) (ix := (w64 (a3 + x2))) ttok rfl (gt x1 (w64 (a3 + (w64 ((w64 ((w64 (2 * x2)) + 1)) + 1))))) 0 rfl h8 rfl rfl p5 p6 rfl rfl rfl rfl rfl rfl rfl) ?_
            intro _ w8 h11
            replace h11 : St w0 F0 [ownC 23 (.int .u32) (x1.set (w64 (a3 + x2)).toNat (gt x1 (w64 (a3 + (w64 ((w64 ((w64 (2 * x2)) + 1)) + 1)))))) (.slice A1 (x1.set (w64 (a3 + x2)).toNat (gt x1 (w64 (a3 + (w64 ((w64 ((w64 (2 * x2)) + 1)) + 1)))))).length c_1)] _ _ := h11
            refine ⟨⟨[_], h11⟩, ?_⟩
            have e7 : (x1.set (w64 (a3 + x2)).toNat (gt x1 (w64 (a3 + (w64 ((w64 ((w64 (2 * x2)) + 1)) + 1)))))).length = a0.length := List.length_set.trans e1
            refine HJ.q (i := 22) rfl rfl rfl rfl rfl rfl (q_index ttok rfl rfl rfl rfl rfl e2 p7 p8) ?_
            refine HJ.op (i := 23) rfl rfl rfl rfl rfl (op_store_elem (ty := (.int .u32)) (f := 0) (ix := (w64 (a3 + (w64 ((w64 ((w64 (2 * x2)) + 1)) + 1))))) ttok rfl (gt x1 (w64 (a3 + x2))) 0 rfl h11 rfl rfl p7 (by simpa only [List.length_set] using p8) rfl rfl rfl rfl rfl rfl rfl) ?_
            intro _ w9 h12
            replace h12 : St w0 F0 [ownC 23 (.int .u32) ((x1.set (w64 (a3 + x2)).toNat (gt x1 (w64 (a3 + (w64 ((w64 ((w64 (2 * x2)) + 1)) + 1)))))).set (w64 (a3 + (w64 ((w64 ((w64 (2 * x2)) + 1)) + 1)))).toNat (gt x1 (w64 (a3 + x2)))) (.slice A1 ((x1.set (w64 (a3 + x2)).toNat (gt x1 (w64 (a3 + (w64 ((w64 ((w64 (2 * x2)) + 1)) + 1)))))).set (w64 (a3 + (w64 ((w64 ((w64 (2 * x2)) + 1)) + 1)))).toNat (gt x1 (w64 (a3 + x2)))).length c_1)] _ _ := h12
            refine ⟨⟨[_], h12⟩, ?_⟩
            have e8 : ((x1.set (w64 (a3 + x2)).toNat (gt x1 (w64 (a3 + (w64 ((w64 ((w64 (2 * x2)) + 1)) + 1)))))).set (w64 (a3 + (w64 ((w64 ((w64 (2 * x2)) + 1)) + 1)))).toNat (gt x1 (w64 (a3 + x2)))).length = a0.length := List.length_set.trans e7
            refine HJ.fin [(0, .slice A1 x1.length c_1), (2, .int .i64 a2), (3, .int .i64 a3), (9, .int .i64 (w64 ((w64 ((w64 (2 * x2)) + 1)) + 1)))] rfl rfl ?_
            exact thenP_intro ⟨(by simp only [List.length_set]), ((h12.only [0] rfl).rds [] rfl)⟩
        rintro env w10 ⟨rfl, h13⟩
        have e9 : ((x1.set (w64 (a3 + x2)).toNat (gt x1 (w64 (a3 + (w64 ((w64 ((w64 (2 * x2)) + 1)) + 1)))))).set (w64 (a3 + (w64 ((w64 ((w64 (2 * x2)) + 1)) + 1)))).toNat (gt x1 (w64 (a3 + x2)))).length = a0.length := by first | (simp only [List.length_set]; done) | (simp only [List.length_set]; exact e1)
        refine J.region ?_
        refine RJ.run ttok 2 rfl ?_
        refine RJ.fin [(0, .slice A1 ((x1.set (w64 (a3 + x2)).toNat (gt x1 (w64 (a3 + (w64 ((w64 ((w64 (2 * x2)) + 1)) + 1)))))).set (w64 (a3 + (w64 ((w64 ((w64 (2 * x2)) + 1)) + 1)))).toNat (gt x1 (w64 (a3 + x2)))).length c_1), (2, _), (3, _), (8, .int .i64 (w64 ((w64 ((w64 (2 * x2)) + 1)) + 1)))] rfl ?_
        have h14 := ((h13.only [0] rfl).rds [] rfl)
        exact ⟨k1, by omega, ((x1.set (w64 (a3 + x2)).toNat (gt x1 (w64 (a3 + (w64 ((w64 ((w64 (2 * x2)) + 1)) + 1)))))).set (w64 (a3 + (w64 ((w64 ((w64 (2 * x2)) + 1)) + 1)))).toNat (gt x1 (w64 (a3 + x2)))), (w64 ((w64 ((w64 (2 * x2)) + 1)) + 1)), rfl, h14, H, e9⟩
      replace H := ite_f c3 H
      refine J.skip ?_
      refine J.seq (J.seq ?_)
      refine J.heldSt mix h3 ?_
      have h15 := h3.drew
      refine HJ.run ttok rfl [0, 1, 2, 3, 6, 7, 8, 9] rfl ?_
      obtain ⟨⟨p9, p10⟩, H⟩ := guard_t H
      refine HJ.q (i := 4) rfl rfl rfl rfl rfl rfl (q_index ttok rfl rfl rfl rfl rfl e2 p9 p10) ?_
      refine HJ.q (i := 5) rfl rfl rfl rfl rfl rfl (q_load_elem (f := 0) ttok rfl (fun w e => e) (Gives.of 0 rfl own_rd) p9 p10 rfl rfl rfl rfl rfl) ?_
      refine HJ.q (i := 10) rfl rfl rfl rfl rfl rfl (q_index ttok rfl rfl rfl rfl rfl e2 p1 p2) ?_
      refine HJ.q (i := 11) rfl rfl rfl rfl rfl rfl (q_load_elem (f := 0) ttok rfl (fun w e => e) (Gives.of 0 rfl own_rd) p1 p2 rfl rfl rfl rfl rfl) ?_
      obtain ⟨r3, q3, H⟩ := bind_t H
      refine HJ.op (i := 12) rfl rfl rfl rfl rfl (op_call [] (Q24.spec q3) rfl rfl rfl h15 rfl gnil) ?_
      rintro _ w11 ⟨_, ⟨rfl, rfl⟩, h16⟩
      replace h16 : St w0 F0 [_] _ _ := h16
      refine ⟨⟨[], h16⟩, ?_⟩
      refine HJ.run ttok rfl [13] rfl ?_
      refine HJ.fin [(0, _), (2, _), (3, _), (8, _), (9, _), (52, .bool (!r3))] rfl rfl ?_
      refine J.cond rfl (fun c5 => ?_) (fun c5 => ?_)
      · replace H := ite_t c5 H
        refine J.ret ?_
        obtain rfl := Option.some.inj H
        exact ⟨_, _, _, (results_slots rfl), ⟨rfl, rfl, e1⟩, h16.only [0] rfl⟩
      replace H := ite_f c5 H
      refine J.skip ?_
      refine J.seq ?_
      refine J.midS (fun env w => env = [(0, .slice A1 ((x1.set (w64 (a3 + x2)).toNat (gt x1 (w64 (a3 + (w64 ((w64 (2 * x2)) + 1)))))).set (w64 (a3 + (w64 ((w64 (2 * x2)) + 1)))).toNat (gt x1 (w64 (a3 + x2)))).length c_1), (2, .int .i64 a2), (3, .int .i64 a3), (9, .int .i64 (w64 ((w64 (2 * x2)) + 1)))] ∧ St w0 F0 [ownC 23 (.int .u32) ((x1.set (w64 (a3 + x2)).toNat (gt x1 (w64 (a3 + (w64 ((w64 (2 * x2)) + 1)))))).set (w64 (a3 + (w64 ((w64 (2 * x2)) + 1)))).toNat (gt x1 (w64 (a3 + x2)))) (.slice A1 ((x1.set (w64 (a3 + x2)).toNat (gt x1 (w64 (a3 + (w64 ((w64 (2 * x2)) + 1)))))).set (w64 (a3 + (w64 ((w64 (2 * x2)) + 1)))).toNat (gt x1 (w64 (a3 + x2)))).length c_1)] [] w) ?_ ?_
      · refine J.heldSt mix (h16.only [] rfl) ?_
        have h19 := h16.drew
        refine HJ.run ttok rfl [0, 1, 2, 3, 4, 5, 6, 7, 8, 9, 10, 11, 14, 15, 16, 17] rfl ?_
        refine HJ.q (i := 12) rfl rfl rfl rfl rfl rfl (q_index ttok rfl rfl rfl rfl rfl e2 p1 p2) ?_
        refine HJ.q (i := 18) rfl rfl rfl rfl rfl rfl (q_index ttok rfl rfl rfl rfl rfl e2 p9 p10) ?_
        refine HJ.pick [13, 19] (i := 13) rfl rfl rfl rfl ?_
        refine (hscons ?_ (hscons ?_ hsnil))
        · refine HS.op (i := 13) rfl rfl rfl (OpT.ofq (q_load_elem (f := 0) ttok rfl h19.wht (Gives.of 0 rfl own_rd) p1 p2 rfl rfl rfl rfl rfl)) ?_
          rintro _ _ ⟨rfl, rfl⟩
          replace h19 : St w0 F0 [_] _ _ := h19
          refine ⟨⟨[_], h19⟩, ?_⟩
          refine HJ.op (i := 19) rfl rfl rfl rfl rfl (OpT.ofq (q_load_elem (f := 0) ttok rfl h19.wht (Gives.of 0 rfl own_rd) p9 p10 rfl rfl rfl rfl rfl)) ?_
          rintro _ _ ⟨rfl, rfl⟩
          replace h19 : St w0 F0 [_] _ _ := h19
          refine ⟨⟨[_], h19⟩, ?_⟩
          refine HJ.q (i := 20) rfl rfl rfl rfl rfl rfl (q_index ttok rfl rfl rfl rfl rfl e2 p9 p10) ?_
          refine HJ.op (i := 21) rfl rfl rfl rfl rfl (op_store_elem (ty := (.int .u32)) (f := 0) (ix := (w64 (a3 + x2))) ttok rfl (gt x1 (w64 (a3 + (w64 ((w64 (2 * x2)) + 1))))) 0 rfl h19 rfl rfl p9 p10 rfl rfl rfl rfl rfl rfl rfl) ?_
          intro _ w14 h20
          replace h20 : St w0 F0 [ownC 23 (.int .u32) (x1.set (w64 (a3 + x2)).toNat (gt x1 (w64 (a3 + (w64 ((w64 (2 * x2)) + 1)))))) (.slice A1 (x1.set (w64 (a3 + x2)).toNat (gt x1 (w64 (a3 + (w64 ((w64 (2 * x2)) + 1)))))).length c_1)] _ _ := h20
          refine ⟨⟨[_], h20⟩, ?_⟩
          have e12 : (x1.set (w64 (a3 + x2)).toNat (gt x1 (w64 (a3 + (w64 ((w64 (2 * x2)) + 1)))))).length = a0.length := List.length_set.trans e1
          refine HJ.q (i := 22) rfl rfl rfl rfl rfl rfl (q_index ttok rfl rfl rfl rfl rfl e2 p1 p2) ?_
          refine HJ.op (i := 23) rfl rfl rfl rfl rfl (op_store_elem (ty := (.int .u32)) (f := 0) (ix := (w64 (a3 + (w64 ((w64 (2 * x2)) + 1))))) ttok rfl (gt x1 (w64 (a3 + x2))) 0 rfl h20 rfl rfl p1 (by simpa only [List.length_set] using p2) rfl rfl rfl rfl rfl rfl rfl) ?_
          intro _ w15 h21
          replace h21 : St w0 F0 [ownC 23 (.int .u32) ((x1.set (w64 (a3 + x2)).toNat (gt x1 (w64 (a3 + (w64 ((w64 (2 * x2)) + 1)))))).set (w64 (a3 + (w64 ((w64 (2 * x2)) + 1)))).toNat (gt x1 (w64 (a3 + x2)))) (.slice A1 ((x1.set (w64 (a3 + x2)).toNat (gt x1 (w64 (a3 + (w64 ((w64 (2 * x2)) + 1)))))).set (w64 (a3 + (w64 ((w64 (2 * x2)) + 1)))).toNat (gt x1 (w64 (a3 + x2)))).length c_1)] _ _ := h21
          refine ⟨⟨[_], h21⟩, ?_⟩
          have e13 : ((x1.set (w64 (a3 + x2)).toNat (gt x1 (w64 (a3 + (w64 ((w64 (2 * x2)) + 1)))))).set (w64 (a3 + (w64 ((w64 (2 * x2)) + 1)))).toNat (gt x1 (w64 (a3 + x2)))).length = a0.length := List.length_set.trans e12
          refine HJ.fin [(0, .slice A1 x1.length c_1), (2, .int .i64 a2), (3, .int .i64 a3), (9, .int .i64 (w64 ((w64 (2 * x2)) + 1)))] rfl rfl ?_
          exact thenP_intro ⟨(by simp only [List.length_set]), ((h21.only [0] rfl).rds [] rfl)⟩
        · refine HS.op (i := 19) rfl rfl rfl (OpT.ofq (q_load_elem (f := 0) ttok rfl h19.wht (Gives.of 0 rfl own_rd) p9 p10 rfl rfl rfl rfl rfl)) ?_
          rintro _ _ ⟨rfl, rfl⟩
          replace h19 : St w0 F0 [_] _ _ := h19
          refine ⟨⟨[_], h19⟩, ?_⟩
          refine HJ.op (i := 13) rfl rfl rfl rfl rfl (OpT.ofq (q_load_elem (f := 0) ttok rfl h19.wht (Gives.of 0 rfl own_rd) p1 p2 rfl rfl rfl rfl rfl)) ?_
          rintro _ _ ⟨rfl, rfl⟩
          replace h19 : St w0 F0 [_] _ _ := h19
          refine ⟨⟨[_], h19⟩, ?_⟩
          refine HJ.q (i := 20) rfl rfl rfl rfl rfl rfl (q_index ttok rfl rfl rfl rfl rfl e2 p9 p10) ?_
          refine HJ.op (i := 21) rfl rfl rfl rfl rfl (op_store_elem (ty := (.int .u32)) (f := 0) (ix := (w64 (a3 + x2))) ttok rfl (gt x1 (w64 (a3 + (w64 ((w64 (2 * x2)) + 1))))) 0 rfl h19 rfl rfl p9 p10 rfl rfl rfl rfl rfl rfl rfl) ?_
          intro _ w16 h22
          replace h22 : St w0 F0 [ownC 23 (.int .u32) (x1.set (w64 (a3 + x2)).toNat (gt x1 (w64 (a3 + (w64 ((w64 (2 * x2)) + 1)))))) (.slice A1 (x1.set (w64 (a3 + x2)).toNat (gt x1 (w64 (a3 + (w64 ((w64 (2 * x2)) + 1)))))).length c_1)] _ _ := h22
          refine ⟨⟨[_], h22⟩, ?_⟩
          have e14 : (x1.set (w64 (a3 + x2)).toNat (gt x1 (w64 (a3 + (w64 ((w64 (2 * x2)) + 1)))))).length = a0.length := List.length_set.trans e1
          refine HJ.q (i := 22) rfl rfl rfl rfl rfl rfl (q_index ttok rfl rfl rfl rfl rfl e2 p1 p2) ?_
          refine HJ.op (i := 23) rfl rfl rfl rfl rfl (op_store_elem (ty := (.int .u32)) (f := 0) (ix := (w64 (a3 + (w64 ((w64 (2 * x2)) + 1))))) ttok rfl (gt x1 (w64 (a3 + x2))) 0 rfl h22 rfl rfl p1 (by simpa only [List.length_set] using p2) rfl rfl rfl rfl rfl rfl rfl) ?_
          intro _ w17 h23
          replace h23 : St w0 F0 [ownC 23 (.int .u32) ((x1.set (w64 (a3 + x2)).toNat (gt x1 (w64 (a3 + (w64 ((w64 (2 * x2)) + 1)))))).set (w64 (a3 + (w64 ((w64 (2 * x2)) + 1)))).toNat (gt x1 (w64 (a3 + x2)))) (.slice A1 ((x1.set (w64 (a3 + x2)).toNat (gt x1 (w64 (a3 + (w64 ((w64 (2 * x2)) + 1)))))).set (w64 (a3 + (w64 ((w64 (2 * x2)) + 1)))).toNat (gt x1 (w64 (a3 + x2)))).length c_1)] _ _ := h23
          refine ⟨⟨[_], h23⟩, ?_⟩
          have e15 : ((x1.set (w64 (a3 + x2)).toNat (gt x1 (w64 (a3 + (w64 ((w64 (2 * x2)) + 1)))))).set (w64 (a3 + (w64 ((w64 (2 * x2)) + 1)))).toNat (gt x1 (w64 (a3 + x2)))).length = a0.length := List.length_set.trans e14
          refine HJ.fin [(0, .slice A1 x1.length c_1), (2, .int .i64 a2), (3, .int .i64 a3), (9, .int .i64 (w64 ((w64 (2 * x2)) + 1)))] rfl rfl ?_
          exact thenP_intro ⟨(by simp only [List.length_set]), ((h23.only [0] rfl).rds [] rfl)⟩
      rintro env w18 ⟨rfl, h24⟩
      have e16 : ((x1.set (w64 (a3 + x2)).toNat (gt x1 (w64 (a3 + (w64 ((w64 (2 * x2)) + 1)))))).set (w64 (a3 + (w64 ((w64 (2 * x2)) + 1)))).toNat (gt x1 (w64 (a3 + x2)))).length = a0.length := by first | (simp only [List.length_set]; done) | (simp only [List.length_set]; exact e1)
      refine J.region ?_
      refine RJ.run ttok 2 rfl ?_
      refine RJ.fin [(0, .slice A1 ((x1.set (w64 (a3 + x2)).toNat (gt x1 (w64 (a3 + (w64 ((w64 (2 * x2)) + 1)))))).set (w64 (a3 + (w64 ((w64 (2 * x2)) + 1)))).toNat (gt x1 (w64 (a3 + x2)))).length c_1), (2, _), (3, _), (8, .int .i64 (w64 ((w64 (2 * x2)) + 1)))] rfl ?_
      have h25 := ((h24.only [0] rfl).rds [] rfl)
      exact ⟨k1, by omega, ((x1.set (w64 (a3 + x2)).toNat (gt x1 (w64 (a3 + (w64 ((w64 (2 * x2)) + 1)))))).set (w64 (a3 + (w64 ((w64 (2 * x2)) + 1)))).toNat (gt x1 (w64 (a3 + x2)))), (w64 ((w64 (2 * x2)) + 1)), rfl, h25, H, e16⟩
    replace H := ite_f c2 H
    refine HJ.know (t := 21) rfl (congrArg Value.bool c2) ?_
    refine HJ.run ttok rfl [5, 6, 7, 8, 9, 10, 11, 12, 13, 14, 15, 16, 17, 18, 19] rfl ?_
    refine HJ.fin [(0, _), (2, _), (3, _), (8, _), (9, _), (36, .bool false)] rfl rfl ?_
    refine J.condF rfl ?_
    refine J.skip ?_
    refine J.seq (J.seq ?_)
    refine J.heldSt mix h2 ?_
    have h26 := h2.drew
    refine HJ.run ttok rfl [0, 1, 2, 3, 6, 7, 8, 9] rfl ?_
    obtain ⟨⟨p11, p12⟩, H⟩ := guard_t H
    have e17 := elem_A h26.wh (Gives.of 0 rfl own_rd) p11 p12
    refine HJ.q (i := 4) rfl rfl rfl rfl rfl rfl (q_index ttok rfl rfl rfl rfl rfl e17 p11 p12) ?_
    refine HJ.q (i := 5) rfl rfl rfl rfl rfl rfl (q_load_elem (f := 0) ttok rfl (fun w e => e) (Gives.of 0 rfl own_rd) p11 p12 rfl rfl rfl rfl rfl) ?_
    obtain ⟨⟨p13, p14⟩, H⟩ := guard_t H
    refine HJ.q (i := 10) rfl rfl rfl rfl rfl rfl (q_index ttok rfl rfl rfl rfl rfl e17 p13 p14) ?_
    refine HJ.q (i := 11) rfl rfl rfl rfl rfl rfl (q_load_elem (f := 0) ttok rfl (fun w e => e) (Gives.of 0 rfl own_rd) p13 p14 rfl rfl rfl rfl rfl) ?_
    obtain ⟨r4, q4, H⟩ := bind_t H
    refine HJ.op (i := 12) rfl rfl rfl rfl rfl (op_call [] (Q24.spec q4) rfl rfl rfl h26 rfl gnil) ?_
    rintro _ w19 ⟨_, ⟨rfl, rfl⟩, h27⟩
    replace h27 : St w0 F0 [_] _ _ := h27
    refine ⟨⟨[], h27⟩, ?_⟩
    refine HJ.run ttok rfl [13] rfl ?_
    refine HJ.fin [(0, _), (2, _), (3, _), (8, _), (9, _), (52, .bool (!r4))] rfl rfl ?_
    refine J.cond rfl (fun c6 => ?_) (fun c6 => ?_)
    · replace H := ite_t c6 H
      refine J.ret ?_
      obtain rfl := Option.some.inj H
      exact ⟨_, _, _, (results_slots rfl), ⟨rfl, rfl, e1⟩, h27.only [0] rfl⟩
    replace H := ite_f c6 H
    refine J.skip ?_
    refine J.seq ?_
    refine J.midS (fun env w => env = [(0, .slice A1 ((x1.set (w64 (a3 + x2)).toNat (gt x1 (w64 (a3 + (w64 ((w64 (2 * x2)) + 1)))))).set (w64 (a3 + (w64 ((w64 (2 * x2)) + 1)))).toNat (gt x1 (w64 (a3 + x2)))).length c_1), (2, .int .i64 a2), (3, .int .i64 a3), (9, .int .i64 (w64 ((w64 (2 * x2)) + 1)))] ∧ St w0 F0 [ownC 23 (.int .u32) ((x1.set (w64 (a3 + x2)).toNat (gt x1 (w64 (a3 + (w64 ((w64 (2 * x2)) + 1)))))).set (w64 (a3 + (w64 ((w64 (2 * x2)) + 1)))).toNat (gt x1 (w64 (a3 + x2)))) (.slice A1 ((x1.set (w64 (a3 + x2)).toNat (gt x1 (w64 (a3 + (w64 ((w64 (2 * x2)) + 1)))))).set (w64 (a3 + (w64 ((w64 (2 * x2)) + 1)))).toNat (gt x1 (w64 (a3 + x2)))).length c_1)] [] w) ?_ ?_
    · refine J.heldSt mix (h27.only [] rfl) ?_
      have h30 := h27.drew
      refine HJ.run ttok rfl [0, 1, 2, 3, 4, 5, 6, 7, 8, 9, 10, 11, 14, 15, 16, 17] rfl ?_
      refine HJ.q (i := 12) rfl rfl rfl rfl rfl rfl (q_index ttok rfl rfl rfl rfl rfl e17 p13 p14) ?_
      refine HJ.q (i := 18) rfl rfl rfl rfl rfl rfl (q_index ttok rfl rfl rfl rfl rfl e17 p11 p12) ?_
      refine HJ.pick [13, 19] (i := 13) rfl rfl rfl rfl ?_
      refine (hscons ?_ (hscons ?_ hsnil))
      · refine HS.op (i := 13) rfl rfl rfl (OpT.ofq (q_load_elem (f := 0) ttok rfl h30.wht (Gives.of 0 rfl own_rd) p13 p14 rfl rfl rfl rfl rfl)) ?_
        rintro _ _ ⟨rfl, rfl⟩
        replace h30 : St w0 F0 [_] _ _ := h30
        refine ⟨⟨[_], h30⟩, ?_⟩
        refine HJ.op (i := 19) rfl rfl rfl rfl rfl (OpT.ofq (q_load_elem (f := 0) ttok rfl h30.wht (Gives.of 0 rfl own_rd) p11 p12 rfl rfl rfl rfl rfl)) ?_
        rintro _ _ ⟨rfl, rfl⟩
        replace h30 : St w0 F0 [_] _ _ := h30
        refine ⟨⟨[_], h30⟩, ?_⟩
        refine HJ.q (i := 20) rfl rfl rfl rfl rfl rfl (q_index ttok rfl rfl rfl rfl rfl e17 p11 p12) ?_
        refine HJ.op (i := 21) rfl rfl rfl rfl rfl (op_store_elem (ty := (.int .u32)) (f := 0) (ix := (w64 (a3 + x2))) ttok rfl (gt x1 (w64 (a3 + (w64 ((w64 (2 * x2)) + 1))))) 0 rfl h30 rfl rfl p11 p12 rfl rfl rfl rfl rfl rfl rfl) ?_
        intro _ w22 h31
        replace h31 : St w0 F0 [ownC 23 (.int .u32) (x1.set (w64 (a3 + x2)).toNat (gt x1 (w64 (a3 + (w64 ((w64 (2 * x2)) + 1)))))) (.slice A1 (x1.set (w64 (a3 + x2)).toNat (gt x1 (w64 (a3 + (w64 ((w64 (2 * x2)) + 1)))))).length c_1)] _ _ := h31
        refine ⟨⟨[_], h31⟩, ?_⟩
        have e20 : (x1.set (w64 (a3 + x2)).toNat (gt x1 (w64 (a3 + (w64 ((w64 (2 * x2)) + 1)))))).length = a0.length := List.length_set.trans e1
        refine HJ.q (i := 22) rfl rfl rfl rfl rfl rfl (q_index ttok rfl rfl rfl rfl rfl e17 p13 p14) ?_
        refine HJ.op (i := 23) rfl rfl rfl rfl rfl (op_store_elem (ty := (.int .u32)) (f := 0) (ix := (w64 (a3 + (w64 ((w64 (2 * x2)) + 1))))) ttok rfl (gt x1 (w64 (a3 + x2))) 0 rfl h31 rfl rfl p13 (by simpa only [List.length_set] using p14) rfl rfl rfl rfl rfl rfl rfl) ?_
        intro _ w23 h32
        replace h32 : St w0 F0 [ownC 23 (.int .u32) ((x1.set (w64 (a3 + x2)).toNat (gt x1 (w64 (a3 + (w64 ((w64 (2 * x2)) + 1)))))).set (w64 (a3 + (w64 ((w64 (2 * x2)) + 1)))).toNat (gt x1 (w64 (a3 + x2)))) (.slice A1 ((x1.set (w64 (a3 + x2)).toNat (gt x1 (w64 (a3 + (w64 ((w64 (2 * x2)) + 1)))))).set (w64 (a3 + (w64 ((w64 (2 * x2)) + 1)))).toNat (gt x1 (w64 (a3 + x2)))).length c_1)] _ _ := h32
        refine ⟨⟨[_], h32⟩, ?_⟩
        have e21 : ((x1.set (w64 (a3 + x2)).toNat (gt x1 (w64 (a3 + (w64 ((w64 (2 * x2)) + 1)))))).set (w64 (a3 + (w64 ((w64 (2 * x2)) + 1)))).toNat (gt x1 (w64 (a3 + x2)))).length = a0.length := List.length_set.trans e20
        refine HJ.fin [(0, .slice A1 x1.length c_1), (2, .int .i64 a2), (3, .int .i64 a3), (9, .int .i64 (w64 ((w64 (2 * x2)) + 1)))] rfl rfl ?_
        exact thenP_intro ⟨(by simp only [List.length_set]), ((h32.only [0] rfl).rds [] rfl)⟩
      · refine HS.op (i := 19) rfl rfl rfl (OpT.ofq (q_load_elem (f := 0) ttok rfl h30.wht (Gives.of 0 rfl own_rd) p11 p12 rfl rfl rfl rfl rfl)) ?_
        rintro _ _ ⟨rfl, rfl⟩
        replace h30 : St w0 F0 [_] _ _ := h30
        refine ⟨⟨[_], h30⟩, ?_⟩
        refine HJ.op (i := 13) rfl rfl rfl rfl rfl (OpT.ofq (q_load_elem (f := 0) ttok rfl h30.wht (Gives.of 0 rfl own_rd) p13 p14 rfl rfl rfl rfl rfl)) ?_
        rintro _ _ ⟨rfl, rfl⟩
        replace h30 : St w0 F0 [_] _ _ := h30
        refine ⟨⟨[_], h30⟩, ?_⟩
        refine HJ.q (i := 20) rfl rfl rfl rfl rfl rfl (q_index ttok rfl rfl rfl rfl rfl e17 p11 p12) ?_
        refine HJ.op (i := 21) rfl rfl rfl rfl rfl (op_store_elem (ty := (.int .u32)) (f := 0) (ix := (w64 (a3 + x2))) ttok rfl (gt x1 (w64 (a3 + (w64 ((w64 (2 * x2)) + 1))))) 0 rfl h30 rfl rfl p11 p12 rfl rfl rfl rfl rfl rfl rfl) ?_
        intro _ w24 h33
        replace h33 : St w0 F0 [ownC 23 (.int .u32) (x1.set (w64 (a3 + x2)).toNat (gt x1 (w64 (a3 + (w64 ((w64 (2 * x2)) + 1)))))) (.slice A1 (x1.set (w64 (a3 + x2)).toNat (gt x1 (w64 (a3 + (w64 ((w64 (2 * x2)) + 1)))))).length c_1)] _ _ := h33
        refine ⟨⟨[_], h33⟩, ?_⟩
        have e22 : (x1.set (w64 (a3 + x2)).toNat (gt x1 (w64 (a3 + (w64 ((w64 (2 * x2)) + 1)))))).length = a0.length := List.length_set.trans e1
        refine HJ.q (i := 22) rfl rfl rfl rfl rfl rfl (q_index ttok rfl rfl rfl rfl rfl e17 p13 p14) ?_
        refine HJ.op (i := 23) rfl rfl rfl rfl rfl (op_store_elem (ty := (.int .u32)) (f := 0) (ix := (w64 (a3 + (w64 ((w64 (2 * x2)) + 1))))) ttok rfl (gt x1 (w64 (a3 + x2))) 0 rfl h33 rfl rfl p13 (by simpa only [List.length_set] using p14) rfl rfl rfl rfl rfl rfl rfl) ?_
        intro _ w25 h34
        replace h34 : St w0 F0 [ownC 23 (.int .u32) ((x1.set (w64 (a3 + x2)).toNat (gt x1 (w64 (a3 + (w64 ((w64 (2 * x2)) + 1)))))).set (w64 (a3 + (w64 ((w64 (2 * x2)) + 1)))).toNat (gt x1 (w64 (a3 + x2)))) (.slice A1 ((x1.set (w64 (a3 + x2)).toNat (gt x1 (w64 (a3 + (w64 ((w64 (2 * x2)) + 1)))))).set (w64 (a3 + (w64 ((w64 (2 * x2)) + 1)))).toNat (gt x1 (w64 (a3 + x2)))).length c_1)] _ _ := h34
        refine ⟨⟨[_], h34⟩, ?_⟩
        have e23 : ((x1.set (w64 (a3 + x2)).toNat (gt x1 (w64 (a3 + (w64 ((w64 (2 * x2)) + 1)))))).set (w64 (a3 + (w64 ((w64 (2 * x2)) + 1)))).toNat (gt x1 (w64 (a3 + x2)))).length = a0.length := List.length_set.trans e22
        refine HJ.fin [(0, .slice A1 x1.length c_1), (2, .int .i64 a2), (3, .int .i64 a3), (9, .int .i64 (w64 ((w64 (2 * x2)) + 1)))] rfl rfl ?_
        exact thenP_intro ⟨(by simp only [List.length_set]), ((h34.only [0] rfl).rds [] rfl)⟩
    rintro env w26 ⟨rfl, h35⟩
    have e24 : ((x1.set (w64 (a3 + x2)).toNat (gt x1 (w64 (a3 + (w64 ((w64 (2 * x2)) + 1)))))).set (w64 (a3 + (w64 ((w64 (2 * x2)) + 1)))).toNat (gt x1 (w64 (a3 + x2)))).length = a0.length := by first | (simp only [List.length_set]; done) | (simp only [List.length_set]; exact e1)
    refine J.region ?_
    refine RJ.run ttok 2 rfl ?_
    refine RJ.fin [(0, .slice A1 ((x1.set (w64 (a3 + x2)).toNat (gt x1 (w64 (a3 + (w64 ((w64 (2 * x2)) + 1)))))).set (w64 (a3 + (w64 ((w64 (2 * x2)) + 1)))).toNat (gt x1 (w64 (a3 + x2)))).length c_1), (2, _), (3, _), (8, .int .i64 (w64 ((w64 (2 * x2)) + 1)))] rfl ?_
    have h36 := ((h35.only [0] rfl).rds [] rfl)
    exact ⟨k1, by omega, ((x1.set (w64 (a3 + x2)).toNat (gt x1 (w64 (a3 + (w64 ((w64 (2 * x2)) + 1)))))).set (w64 (a3 + (w64 ((w64 (2 * x2)) + 1)))).toNat (gt x1 (w64 (a3 + x2)))), (w64 ((w64 (2 * x2)) + 1)), rfl, h36, H, e24⟩

def Q37.l1 : Nat → (Int) → (List (Int)) → (Int) → Option (List (Int))
  | 0, _, _, _ => none
  | k + 1, a1, x3, x4 => if (decide (0 ≤ x4)) = true then (if 0 ≤ (w64 (a1 + x4)) ∧ (w64 (a1 + x4)) < (x3.length : Int) then (if 0 ≤ a1 ∧ a1 < (x3.length : Int) then ((Q48.f k ((x3.set a1.toNat (gt x3 (w64 (a1 + x4)))).set (w64 (a1 + x4)).toNat (gt x3 a1)) 0 x4 a1).bind fun r2 => (Q37.l1 k a1 r2 (w64 (x4 - 1)))) else none) else none) else (some x3)
def Q37.l0 : Nat → (Int) → (Int) → (List (Int)) → (Int) → Option (List (Int))
  | 0, _, _, _, _ => none
  | k + 1, a1, a2, x1, x2 => if (decide (0 ≤ x2)) = true then ((Q48.f k x1 x2 (w64 (a2 - a1)) a1).bind fun r1 => (Q37.l0 k a1 a2 r1 (w64 (x2 - 1)))) else (Q37.l1 k a1 x1 (w64 ((w64 (a2 - a1)) - 1)))
def Q37.f (k : Nat) (a0 : List (Int)) (a1 : Int) (a2 : Int) : Option (List (Int)) := Q37.l0 k a1 a2 a0 (w64 (Int.tdiv (w64 ((w64 (a2 - a1)) - 1)) 2))
theorem Q37.spec {k : Nat} {a0 : List (Int)} {a1 : Int} {a2 : Int} {A1 : Option Addr} {c_1 : Nat} {r : List (Int)} (H : Q37.f k a0 a1 a2 = some r) :
    Spec Try.prog 169 [.slice A1 a0.length c_1, .int .i64 a1, .int .i64 a2] [ownC 23 (.int .u32) a0 (.slice A1 a0.length c_1)] [] (fun v l => v = .tuple #[] ∧ l = [ownC 23 (.int .u32) r (.slice A1 r.length c_1)] ∧ r.length = a0.length) := by
  refine Spec.enter Try.func169 rfl (by kernel_rfl) (by kernel_rfl) fun w0 F0 h0 => ?_
  unfold Q37.f at H
  refine J.seq (J.region ?_)
  refine RJ.run ttok 2 rfl ?_
  refine RJ.fin [(0, .slice A1 a0.length c_1), (1, .int .i64 a1), (2, .int .i64 a2), (6, .int .i64 a1)] rfl ?_
  refine J.seq (J.region ?_)
  refine RJ.run ttok 1 rfl ?_
  refine RJ.fin [(0, _), (1, _), (2, _), (6, _), (7, .int .i64 0)] rfl ?_
  refine J.seq (J.region ?_)
  refine RJ.run ttok 4 rfl ?_
  refine RJ.fin [(0, _), (6, _), (7, _), (8, .int .i64 (w64 (a2 - a1)))] rfl ?_
  refine J.seq (J.seq (J.region ?_))
  refine RJ.run ttok 4 rfl ?_
  refine RJ.fin [(0, _), (6, _), (7, _), (8, _), (9, .int .i64 (w64 (Int.tdiv (w64 ((w64 (a2 - a1)) - 1)) 2)))] rfl ?_
  refine J.block ?_
  have h16 := ((h0.only [0] rfl).rds [] rfl)
  refine J.loop (fun kk env w => ∃ (x1 : List (Int)) (x2 : Int), env = [(0, .slice A1 x1.length c_1), (6, .int .i64 a1), (7, .int .i64 0), (8, .int .i64 (w64 (a2 - a1))), (9, .int .i64 x2)] ∧ St w0 F0 [ownC 23 (.int .u32) x1 (.slice A1 x1.length c_1)] [] w ∧ Q37.l0 kk a1 a2 x1 x2 = some r ∧ x1.length = a0.length) (k := k) ⟨a0, (w64 (Int.tdiv (w64 ((w64 (a2 - a1)) - 1)) 2)), rfl, h16, H, (rfl : a0.length = a0.length)⟩ ?_
  rintro k1 env w1 ⟨x1, x2, rfl, h1, H, e1⟩
  cases k1 with
  | zero => exact nomatch (show none = some r from H)
  | succ k1 =>
    rw [Q37.l0] at H
    refine J.seq (J.seq (J.region ?_))
    refine RJ.run ttok 2 rfl ?_
    refine RJ.fin [(0, _), (6, _), (7, _), (8, _), (9, _), (19, .bool (decide (0 ≤ x2)))] rfl ?_
    refine J.cond rfl (fun c1 => ?_) (fun c1 => ?_)
    · replace H := ite_t c1 H
      refine J.skip ?_
      refine J.seq (J.block (J.region ?_))
      refine RJ.run ttok 4 rfl ?_
      obtain ⟨r1, q1, H⟩ := bind_t H
      refine RJ.op rfl rfl (op_call [0] (Q48.spec q1) rfl rfl rfl h1 rfl gnil) ?_
      rintro _ w2 ⟨_, ⟨rfl, rfl, q2⟩, h2⟩
      replace h2 : St w0 F0 [ownC 23 (.int .u32) r1 (.slice A1 r1.length c_1)] _ _ := h2
      have e2 : r1.length = a0.length := q2.trans e1
      refine RJ.fin [(0, _), (6, _), (7, _), (8, _), (9, _)] rfl ?_
      refine J.envEq (env' := [(0, .slice A1 r1.length c_1), (6, .int .i64 a1), (7, .int .i64 0), (8, .int .i64 (w64 (a2 - a1))), (9, .int .i64 x2)]) (by simp only [q2]) ?_
      refine J.region ?_
      refine RJ.run ttok 3 rfl ?_
      refine RJ.fin [(0, _), (6, _), (7, _), (8, _), (9, .int .i64 (w64 (x2 - 1)))] rfl ?_
      have h3 := ((h2.only [0] rfl).rds [] rfl)
      exact ⟨k1, by omega, r1, (w64 (x2 - 1)), rfl, h3, H, e2⟩
    replace H := ite_f c1 H
    refine J.exit ?_
    refine J.seq (J.region ?_)
    refine RJ.run ttok 3 rfl ?_
    refine RJ.fin [(0, _), (6, _), (7, _), (10, .int .i64 (w64 ((w64 (a2 - a1)) - 1)))] rfl ?_
    refine J.block ?_
    have h15 := ((h1.only [0] rfl).rds [] rfl)
    refine J.loop (fun kk env w => ∃ (x3 : List (Int)) (x4 : Int), env = [(0, .slice A1 x3.length c_1), (6, .int .i64 a1), (7, .int .i64 0), (10, .int .i64 x4)] ∧ St w0 F0 [ownC 23 (.int .u32) x3 (.slice A1 x3.length c_1)] [] w ∧ Q37.l1 kk a1 x3 x4 = some r ∧ x3.length = a0.length) (k := k1) ⟨x1, (w64 ((w64 (a2 - a1)) - 1)), rfl, h15, H, e1⟩ ?_
    rintro k2 env w3 ⟨x3, x4, rfl, h4, H, e3⟩
    cases k2 with
    | zero => exact nomatch (show none = some r from H)
    | succ k2 =>
      rw [Q37.l1] at H
      refine J.seq (J.seq (J.region ?_))
      refine RJ.run ttok 2 rfl ?_
      refine RJ.fin [(0, _), (6, _), (7, _), (10, _), (30, .bool (decide (0 ≤ x4)))] rfl ?_
      refine J.cond rfl (fun c2 => ?_) (fun c2 => ?_)
      · replace H := ite_t c2 H
        refine J.skip ?_
        refine J.seq (J.block (J.seq ?_))
        obtain ⟨⟨p1, p2⟩, H⟩ := guard_t H
        obtain ⟨⟨p3, p4⟩, H⟩ := guard_t H
        refine J.midS (fun env w => env = [(0, .slice A1 ((x3.set a1.toNat (gt x3 (w64 (a1 + x4)))).set (w64 (a1 + x4)).toNat (gt x3 a1)).length c_1), (6, .int .i64 a1), (7, .int .i64 0), (10, .int .i64 x4)] ∧ St w0 F0 [ownC 23 (.int .u32) ((x3.set a1.toNat (gt x3 (w64 (a1 + x4)))).set (w64 (a1 + x4)).toNat (gt x3 a1)) (.slice A1 ((x3.set a1.toNat (gt x3 (w64 (a1 + x4)))).set (w64 (a1 + x4)).toNat (gt x3 a1)).length c_1)] [] w) ?_ ?_
        · refine J.heldSt mix (h4.only [] rfl) ?_
          have h7 := h4.drew
          refine HJ.run ttok rfl [0, 1, 2, 3, 4, 5, 6, 7, 8, 9, 12, 13] rfl ?_
          have e7 := elem_A h7.wh (Gives.of 0 rfl own_rd) p1 p2
          refine HJ.q (i := 10) rfl rfl rfl rfl rfl rfl (q_index ttok rfl rfl rfl rfl rfl e7 p1 p2) ?_
          refine HJ.q (i := 14) rfl rfl rfl rfl rfl rfl (q_index ttok rfl rfl rfl rfl rfl e7 p3 p4) ?_
          refine HJ.pick [11, 15] (i := 11) rfl rfl rfl rfl ?_
          refine (hscons ?_ (hscons ?_ hsnil))
          · refine HS.op (i := 11) rfl rfl rfl (OpT.ofq (q_load_elem (f := 0) ttok rfl h7.wht (Gives.of 0 rfl own_rd) p1 p2 rfl rfl rfl rfl rfl)) ?_
            rintro _ _ ⟨rfl, rfl⟩
            replace h7 : St w0 F0 [_] _ _ := h7
            refine ⟨⟨[_], h7⟩, ?_⟩
            refine HJ.op (i := 15) rfl rfl rfl rfl rfl (OpT.ofq (q_load_elem (f := 0) ttok rfl h7.wht (Gives.of 0 rfl own_rd) p3 p4 rfl rfl rfl rfl rfl)) ?_
            rintro _ _ ⟨rfl, rfl⟩
            replace h7 : St w0 F0 [_] _ _ := h7
            refine ⟨⟨[_], h7⟩, ?_⟩
            refine HJ.q (i := 16) rfl rfl rfl rfl rfl rfl (q_index ttok rfl rfl rfl rfl rfl e7 p3 p4) ?_
            refine HJ.op (i := 17) rfl rfl rfl rfl rfl (op_store_elem (ty := (.int .u32)) (f := 0) (ix := a1) ttok rfl (gt x3 (w64 (a1 + x4))) 0 rfl h7 rfl rfl p3 p4 rfl rfl rfl rfl rfl rfl rfl) ?_
            intro _ w6 h8
            replace h8 : St w0 F0 [ownC 23 (.int .u32) (x3.set a1.toNat (gt x3 (w64 (a1 + x4)))) (.slice A1 (x3.set a1.toNat (gt x3 (w64 (a1 + x4)))).length c_1)] _ _ := h8
            refine ⟨⟨[_], h8⟩, ?_⟩
            have e8 : (x3.set a1.toNat (gt x3 (w64 (a1 + x4)))).length = a0.length := List.length_set.trans e3
            refine HJ.q (i := 18) rfl rfl rfl rfl rfl rfl (q_index ttok rfl rfl rfl rfl rfl e7 p1 p2) ?_
            refine HJ.op (i := 19) rfl rfl rfl rfl rfl (op_store_elem (ty := (.int .u32)) (f := 0) (ix := (w64 (a1 + x4))) ttok rfl (gt x3 a1) 0 rfl h8 rfl rfl p1 (by simpa only [List.length_set] using p2) rfl rfl rfl rfl rfl rfl rfl) ?_
            intro _ w7 h9
            replace h9 : St w0 F0 [ownC 23 (.int .u32) ((x3.set a1.toNat (gt x3 (w64 (a1 + x4)))).set (w64 (a1 + x4)).toNat (gt x3 a1)) (.slice A1 ((x3.set a1.toNat (gt x3 (w64 (a1 + x4)))).set (w64 (a1 + x4)).toNat (gt x3 a1)).length c_1)] _ _ := h9
            refine ⟨⟨[_], h9⟩, ?_⟩
            have e9 : ((x3.set a1.toNat (gt x3 (w64 (a1 + x4)))).set (w64 (a1 + x4)).toNat (gt x3 a1)).length = a0.length := List.length_set.trans e8
            refine HJ.fin [(0, .slice A1 x3.length c_1), (6, .int .i64 a1), (7, .int .i64 0), (10, .int .i64 x4)] rfl rfl ?_
            exact thenP_intro ⟨(by simp only [List.length_set]), ((h9.only [0] rfl).rds [] rfl)⟩
          · refine HS.op (i := 15) rfl rfl rfl (OpT.ofq (q_load_elem (f := 0) ttok rfl h7.wht (Gives.of 0 rfl own_rd) p3 p4 rfl rfl rfl rfl rfl)) ?_
            rintro _ _ ⟨rfl, rfl⟩
            replace h7 : St w0 F0 [_] _ _ := h7
            refine ⟨⟨[_], h7⟩, ?_⟩
            refine HJ.op (i := 11) rfl rfl rfl rfl rfl (OpT.ofq (q_load_elem (f := 0) ttok rfl h7.wht (Gives.of 0 rfl own_rd) p1 p2 rfl rfl rfl rfl rfl)) ?_
            rintro _ _ ⟨rfl, rfl⟩
            replace h7 : St w0 F0 [_] _ _ := h7
            refine ⟨⟨[_], h7⟩, ?_⟩
            refine HJ.q (i := 16) rfl rfl rfl rfl rfl rfl (q_index ttok rfl rfl rfl rfl rfl e7 p3 p4) ?_
            refine HJ.op (i := 17) rfl rfl rfl rfl rfl (op_store_elem (ty := (.int .u32)) (f := 0) (ix := a1) ttok rfl (gt x3 (w64 (a1 + x4))) 0 rfl h7 rfl rfl p3 p4 rfl rfl rfl rfl rfl rfl rfl) ?_
            intro _ w8 h10
            replace h10 : St w0 F0 [ownC 23 (.int .u32) (x3.set a1.toNat (gt x3 (w64 (a1 + x4)))) (.slice A1 (x3.set a1.toNat (gt x3 (w64 (a1 + x4)))).length c_1)] _ _ := h10
            refine ⟨⟨[_], h10⟩, ?_⟩
            have e10 : (x3.set a1.toNat (gt x3 (w64 (a1 + x4)))).length = a0.length := List.length_set.trans e3
            refine HJ.q (i := 18) rfl rfl rfl rfl rfl rfl (q_index ttok rfl rfl rfl rfl rfl e7 p1 p2) ?_
            refine HJ.op (i := 19) rfl rfl rfl rfl rfl (op_store_elem (ty := (.int .u32)) (f := 0) (ix := (w64 (a1 + x4))) ttok rfl (gt x3 a1) 0 rfl h10 rfl rfl p1 (by simpa only [List.length_set] using p2) rfl rfl rfl rfl rfl rfl rfl) ?_
            intro _ w9 h11
            replace h11 : St w0 F0 [ownC 23 (.int .u32) ((x3.set a1.toNat (gt x3 (w64 (a1 + x4)))).set (w64 (a1 + x4)).toNat (gt x3 a1)) (.slice A1 ((x3.set a1.toNat (gt x3 (w64 (a1 + x4)))).set (w64 (a1 + x4)).toNat (gt x3 a1)).length c_1)] _ _ := h11
            refine ⟨⟨[_], h11⟩, ?_⟩
            have e11 : ((x3.set a1.toNat (gt x3 (w64 (a1 + x4)))).set (w64 (a1 + x4)).toNat (gt x3 a1)).length = a0.length := List.length_set.trans e10
            refine HJ.fin [(0, .slice A1 x3.length c_1), (6, .int .i64 a1), (7, .int .i64 0), (10, .int .i64 x4)] rfl rfl ?_
            exact thenP_intro ⟨(by simp only [List.length_set]), ((h11.only [0] rfl).rds [] rfl)⟩
        rintro env w10 ⟨rfl, h12⟩
        have e12 : ((x3.set a1.toNat (gt x3 (w64 (a1 + x4)))).set (w64 (a1 + x4)).toNat (gt x3 a1)).length = a0.length := by first | (simp only [List.length_set]; done) | (simp only [List.length_set]; exact e3)
        refine J.region ?_
        refine RJ.run ttok 4 rfl ?_
        obtain ⟨r2, q3, H⟩ := bind_t H
        refine RJ.op rfl rfl (op_call [0] (Q48.spec q3) rfl rfl rfl h12 rfl gnil) ?_
        rintro _ w11 ⟨_, ⟨rfl, rfl, q4⟩, h13⟩
        replace h13 : St w0 F0 [ownC 23 (.int .u32) r2 (.slice A1 r2.length c_1)] _ _ := h13
        have e13 : r2.length = a0.length := q4.trans e12
        refine RJ.fin [(0, .slice A1 ((x3.set a1.toNat (gt x3 (w64 (a1 + x4)))).set (w64 (a1 + x4)).toNat (gt x3 a1)).length c_1), (6, _), (7, _), (10, _)] rfl ?_
        refine J.envEq (env' := [(0, .slice A1 r2.length c_1), (6, .int .i64 a1), (7, .int .i64 0), (10, .int .i64 x4)]) (by simp only [q4]) ?_
        refine J.region ?_
        refine RJ.run ttok 3 rfl ?_
        refine RJ.fin [(0, _), (6, _), (7, _), (10, .int .i64 (w64 (x4 - 1)))] rfl ?_
        have h14 := ((h13.only [0] rfl).rds [] rfl)
        exact ⟨k2, by omega, r2, (w64 (x4 - 1)), rfl, h14, H, e13⟩
      replace H := ite_f c2 H
      refine J.exit ?_
      obtain rfl := Option.some.inj H
      exact ⟨_, _, _, (results_slots rfl), ⟨rfl, rfl, e3⟩, h4.only [0] rfl⟩

def Q42.f (a0 : List (Int)) (a1 : Int) (a2 : Int) (a3 : Int) : Option (Int × Int × Int) := if 0 ≤ a2 ∧ a2 < (a0.length : Int) then (if 0 ≤ a1 ∧ a1 < (a0.length : Int) then ((Q24.f (gt a0 a2) (gt a0 a1)).bind fun r1 => (if r1 = true then (some (a2, a1, (w64 (a3 + 1)))) else (some (a1, a2, a3)))) else none) else none
theorem Q42.spec {a0 : List (Int)} {a1 : Int} {a2 : Int} {a3 : Int} {A1 : Option Addr} {c_1 : Nat} {b1 : Nat} {r : Int × Int × Int} (H : Q42.f a0 a1 a2 a3 = some r) :
    Spec Try.prog 186 [.slice A1 a0.length c_1, .int .i64 a1, .int .i64 a2, .pointer (some ⟨b1, 0, none⟩)] [boxC b1 3 [.int .i64 a3]] [rdC 23 (.int .u32) a0 (.slice A1 a0.length c_1)] (fun v l => v = .tuple #[.int .i64 r.1, .int .i64 r.2.1] ∧ l = [boxC b1 3 [.int .i64 r.2.2]]) := by
  refine Spec.enter Try.func186 rfl (by kernel_rfl) (by kernel_rfl) fun w0 F0 h0 => ?_
  unfold Q42.f at H
  refine J.seq (J.region ?_)
  refine RJ.run ttok 2 rfl ?_
  refine RJ.fin [(0, .slice A1 a0.length c_1), (1, .int .i64 a1), (2, .int .i64 a2), (3, .pointer (some ⟨b1, 0, none⟩))] rfl ?_
  refine J.seq (J.seq ?_)
  refine J.heldSt mix h0 ?_
  have h1 := h0.drew
  refine HJ.run ttok rfl [0, 1, 4, 5] rfl ?_
  obtain ⟨⟨p1, p2⟩, H⟩ := guard_t H
  have e1 := elem_A h1.wh (Gives.self 1 rfl) p1 p2
  refine HJ.q (i := 2) rfl rfl rfl rfl rfl rfl (q_index ttok rfl rfl rfl rfl rfl e1 p1 p2) ?_
  refine HJ.q (i := 3) rfl rfl rfl rfl rfl rfl (q_load_elem (f := 0) ttok rfl (fun w e => e) (Gives.self 1 rfl) p1 p2 rfl rfl rfl rfl rfl) ?_
  obtain ⟨⟨p3, p4⟩, H⟩ := guard_t H
  refine HJ.q (i := 6) rfl rfl rfl rfl rfl rfl (q_index ttok rfl rfl rfl rfl rfl e1 p3 p4) ?_
  refine HJ.q (i := 7) rfl rfl rfl rfl rfl rfl (q_load_elem (f := 0) ttok rfl (fun w e => e) (Gives.self 1 rfl) p3 p4 rfl rfl rfl rfl rfl) ?_
  obtain ⟨r1, q1, H⟩ := bind_t H
  refine HJ.op (i := 8) rfl rfl rfl rfl rfl (op_call [] (Q24.spec q1) rfl rfl rfl h1 rfl gnil) ?_
  rintro _ w1 ⟨_, ⟨rfl, rfl⟩, h2⟩
  replace h2 : St w0 F0 [boxC b1 3 [.int .i64 a3]] _ _ := h2
  refine ⟨⟨[], h2⟩, ?_⟩
  refine HJ.fin [(1, _), (2, _), (3, _), (18, .bool r1)] rfl rfl ?_
  refine J.cond rfl (fun c1 => ?_) (fun c1 => ?_)
  · replace H := ite_t c1 H
    refine J.seq (J.region ?_)
    refine RJ.run ttok 2 rfl ?_
    refine RJ.q rfl rfl (q_load_box ttok 0 h2.wht rfl rfl rfl rfl rfl) ?_
    refine RJ.run ttok 2 rfl ?_
    refine RJ.op rfl rfl (op_store ttok 0 rfl h2 rfl rfl rfl rfl rfl rfl rfl) ?_
    intro _ w2 h3
    replace h3 : St w0 F0 [boxC b1 3 [.int .i64 (w64 (a3 + 1))]] _ _ := h3
    refine RJ.fin [(1, _), (2, _)] rfl ?_
    refine J.seq (J.region ?_)
    refine RJ.run ttok 4 rfl ?_
    refine RJ.fin [(8, .int .i64 a2), (9, .int .i64 a1)] rfl ?_
    refine J.ret ?_
    obtain rfl := Option.some.inj H
    exact ⟨_, _, _, (results_slots rfl), ⟨rfl, rfl⟩, h3.only [0] rfl⟩
  replace H := ite_f c1 H
  refine J.skip ?_
  refine J.seq (J.region ?_)
  refine RJ.run ttok 4 rfl ?_
  refine RJ.fin [(8, .int .i64 a1), (9, .int .i64 a2)] rfl ?_
  refine J.ret ?_
  obtain rfl := Option.some.inj H
  exact ⟨_, _, _, (results_slots rfl), ⟨rfl, rfl⟩, h2.only [0] rfl⟩

def Q40.f (a0 : List (Int)) (a1 : Int) (a2 : Int) (a3 : Int) (a4 : Int) : Option (Int × Int) := (Q42.f a0 a1 a2 a4).bind fun r1 => ((Q42.f a0 r1.2.1 a3 r1.2.2).bind fun r2 => ((Q42.f a0 r1.1 r2.1 r2.2.2).bind fun r3 => (some (r3.2.1, r3.2.2))))
theorem Q40.spec {a0 : List (Int)} {a1 : Int} {a2 : Int} {a3 : Int} {a4 : Int} {A1 : Option Addr} {c_1 : Nat} {b1 : Nat} {r : Int × Int} (H : Q40.f a0 a1 a2 a3 a4 = some r) :
    Spec Try.prog 184 [.slice A1 a0.length c_1, .int .i64 a1, .int .i64 a2, .int .i64 a3, .pointer (some ⟨b1, 0, none⟩)] [boxC b1 3 [.int .i64 a4]] [rdC 23 (.int .u32) a0 (.slice A1 a0.length c_1)] (fun v l => v = .int .i64 r.1 ∧ l = [boxC b1 3 [.int .i64 r.2]]) := by
  refine Spec.enter Try.func184 rfl (by kernel_rfl) (by kernel_rfl) fun w0 F0 h0 => ?_
  unfold Q40.f at H
  refine J.seq (J.region ?_)
  refine RJ.run ttok 1 rfl ?_
  refine RJ.fin [(0, .slice A1 a0.length c_1), (1, .int .i64 a1), (2, .int .i64 a2), (3, .int .i64 a3), (4, .pointer (some ⟨b1, 0, none⟩))] rfl ?_
  refine J.seq (J.region ?_)
  refine RJ.run ttok 4 rfl ?_
  obtain ⟨r1, q1, H⟩ := bind_t H
  refine RJ.op rfl rfl (op_call [0] (Q42.spec q1) rfl rfl rfl h0 rfl (gcons (Gives.self 0 rfl) gnil)) ?_
  rintro _ w1 ⟨_, ⟨rfl, rfl⟩, h1⟩
  replace h1 : St w0 F0 [boxC b1 3 [.int .i64 r1.2.2]] _ _ := h1
  refine RJ.run ttok 5 rfl ?_
  refine RJ.fin [(0, _), (1, .int .i64 r1.1), (2, .int .i64 r1.2.1), (3, _), (4, _)] rfl ?_
  refine J.seq (J.region ?_)
  refine RJ.run ttok 4 rfl ?_
  obtain ⟨r2, q2, H⟩ := bind_t H
  refine RJ.op rfl rfl (op_call [0] (Q42.spec q2) rfl rfl rfl h1 rfl (gcons (Gives.self 0 rfl) gnil)) ?_
  rintro _ w2 ⟨_, ⟨rfl, rfl⟩, h2⟩
  replace h2 : St w0 F0 [boxC b1 3 [.int .i64 r2.2.2]] _ _ := h2
  refine RJ.run ttok 5 rfl ?_
  refine RJ.fin [(0, _), (1, _), (2, .int .i64 r2.1), (4, _)] rfl ?_
  refine J.seq (J.region ?_)
  refine RJ.run ttok 4 rfl ?_
  obtain ⟨r3, q3, H⟩ := bind_t H
  refine RJ.op rfl rfl (op_call [0] (Q42.spec q3) rfl rfl rfl h2 rfl (gcons (Gives.self 0 rfl) gnil)) ?_
  rintro _ w3 ⟨_, ⟨rfl, rfl⟩, h3⟩
  replace h3 : St w0 F0 [boxC b1 3 [.int .i64 r3.2.2]] _ _ := h3
  refine RJ.run ttok 5 rfl ?_
  refine RJ.fin [(2, .int .i64 r3.2.1)] rfl ?_
  refine J.seq (J.region ?_)
  refine RJ.run ttok 2 rfl ?_
  refine RJ.fin [(10, .int .i64 r3.2.1)] rfl ?_
  refine J.ret ?_
  obtain rfl := Option.some.inj H
  exact ⟨_, _, _, (results_slots rfl), ⟨rfl, rfl⟩, h3.only [0] rfl⟩

def Q39.f (a0 : List (Int)) (a1 : Int) (a2 : Int) : Option (Int × Int) := (Q40.f a0 (w64 (a1 - 1)) a1 (w64 (a1 + 1)) a2).bind fun r1 => (some (r1.1, r1.2))
theorem Q39.spec {a0 : List (Int)} {a1 : Int} {a2 : Int} {A1 : Option Addr} {c_1 : Nat} {b1 : Nat} {r : Int × Int} (H : Q39.f a0 a1 a2 = some r) :
    Spec Try.prog 183 [.slice A1 a0.length c_1, .int .i64 a1, .pointer (some ⟨b1, 0, none⟩)] [boxC b1 3 [.int .i64 a2]] [rdC 23 (.int .u32) a0 (.slice A1 a0.length c_1)] (fun v l => v = .int .i64 r.1 ∧ l = [boxC b1 3 [.int .i64 r.2]]) := by
  refine Spec.enter Try.func183 rfl (by kernel_rfl) (by kernel_rfl) fun w0 F0 h0 => ?_
  unfold Q39.f at H
  refine J.seq (J.region ?_)
  refine RJ.run ttok 1 rfl ?_
  refine RJ.fin [(0, .slice A1 a0.length c_1), (1, .int .i64 a1), (2, .pointer (some ⟨b1, 0, none⟩))] rfl ?_
  refine J.seq (J.region ?_)
  refine RJ.run ttok 7 rfl ?_
  obtain ⟨r1, q1, H⟩ := bind_t H
  refine RJ.op rfl rfl (op_call [0] (Q40.spec q1) rfl rfl rfl h0 rfl (gcons (Gives.self 0 rfl) gnil)) ?_
  rintro _ w1 ⟨_, ⟨rfl, rfl⟩, h1⟩
  replace h1 : St w0 F0 [boxC b1 3 [.int .i64 r1.2]] _ _ := h1
  refine RJ.run ttok 1 rfl ?_
  refine RJ.fin [(6, .int .i64 r1.1)] rfl ?_
  refine J.ret ?_
  obtain rfl := Option.some.inj H
  exact ⟨_, _, _, (results_slots rfl), ⟨rfl, rfl⟩, h1.only [0] rfl⟩

def Q36.f (a0 : List (Int)) (a1 : Int) (a2 : Int) : Option (Int × Int) := if (decide (8 ≤ (w64 (a2 - a1)))) = true then (if (decide (50 ≤ (w64 (a2 - a1)))) = true then ((Q39.f a0 (w64 (a1 + (w64 ((w64 (Int.tdiv (w64 (a2 - a1)) 4)) * 1)))) 0).bind fun r1 => ((Q39.f a0 (w64 (a1 + (w64 ((w64 (Int.tdiv (w64 (a2 - a1)) 4)) * 2)))) r1.2).bind fun r2 => ((Q39.f a0 (w64 (a1 + (w64 ((w64 (Int.tdiv (w64 (a2 - a1)) 4)) * 3)))) r2.2).bind fun r3 => ((Q40.f a0 r1.1 r2.1 r3.1 r3.2).bind fun r4 => (if (decide (r4.2 = 0)) = true then (some (r4.1, 1)) else (if (decide (r4.2 = 12)) = true then (some (r4.1, 2)) else (some (r4.1, 0)))))))) else ((Q40.f a0 (w64 (a1 + (w64 ((w64 (Int.tdiv (w64 (a2 - a1)) 4)) * 1)))) (w64 (a1 + (w64 ((w64 (Int.tdiv (w64 (a2 - a1)) 4)) * 2)))) (w64 (a1 + (w64 ((w64 (Int.tdiv (w64 (a2 - a1)) 4)) * 3)))) 0).bind fun r5 => (if (decide (r5.2 = 0)) = true then (some (r5.1, 1)) else (if (decide (r5.2 = 12)) = true then (some (r5.1, 2)) else (some (r5.1, 0)))))) else (some ((w64 (a1 + (w64 ((w64 (Int.tdiv (w64 (a2 - a1)) 4)) * 2)))), 1))
theorem Q36.spec {a0 : List (Int)} {a1 : Int} {a2 : Int} {A1 : Option Addr} {c_1 : Nat} {r : Int × Int} (H : Q36.f a0 a1 a2 = some r) :
    Spec Try.prog 171 [.slice A1 a0.length c_1, .int .i64 a1, .int .i64 a2] [] [rdC 23 (.int .u32) a0 (.slice A1 a0.length c_1)] (fun v l => v = .tuple #[.int .i64 r.1, .int .i64 r.2] ∧ l = []) := by
  refine Spec.enter Try.func171 rfl (by kernel_rfl) (by kernel_rfl) fun w0 F0 h0 => ?_
  unfold Q36.f at H
  refine J.seq (J.region ?_)
  refine RJ.run ttok 2 rfl ?_
  refine RJ.fin [(0, .slice A1 a0.length c_1), (1, .int .i64 a1), (2, .int .i64 a2)] rfl ?_
  refine J.seq (J.region ?_)
  refine RJ.run ttok 4 rfl ?_
  refine RJ.fin [(0, _), (1, _), (8, .int .i64 (w64 (a2 - a1)))] rfl ?_
  refine J.seq (J.region ?_)
  refine RJ.op rfl rfl (op_alloc ttok rfl rfl h0) ?_
  rintro _ w1 ⟨b1, rfl, h1⟩
  replace h1 : St w0 F0 [boxC b1 3 [.int .i64 0]] _ _ := h1
  refine RJ.fin [(0, _), (1, _), (8, _), (9, .pointer (some ⟨b1, 0, none⟩))] rfl ?_
  refine J.seq (J.region ?_)
  refine RJ.run ttok 6 rfl ?_
  refine RJ.fin [(0, _), (1, _), (8, _), (9, _), (10, .int .i64 (w64 (a1 + (w64 ((w64 (Int.tdiv (w64 (a2 - a1)) 4)) * 1)))))] rfl ?_
  refine J.seq (J.region ?_)
  refine RJ.run ttok 6 rfl ?_
  refine RJ.fin [(0, _), (1, _), (8, _), (9, _), (10, _), (11, .int .i64 (w64 (a1 + (w64 ((w64 (Int.tdiv (w64 (a2 - a1)) 4)) * 2)))))] rfl ?_
  refine J.seq (J.region ?_)
  refine RJ.run ttok 6 rfl ?_
  refine RJ.fin [(0, _), (8, _), (9, _), (10, _), (11, _), (12, .int .i64 (w64 (a1 + (w64 ((w64 (Int.tdiv (w64 (a2 - a1)) 4)) * 3)))))] rfl ?_
  refine J.seq (J.seq (J.region ?_))
  refine RJ.run ttok 2 rfl ?_
  refine RJ.fin [(0, _), (8, _), (9, _), (10, _), (11, _), (12, _), (32, .bool (decide (8 ≤ (w64 (a2 - a1)))))] rfl ?_
  refine J.cond rfl (fun c1 => ?_) (fun c1 => ?_)
  · replace H := ite_t c1 H
    refine J.seq (J.seq (J.region ?_))
    refine RJ.run ttok 2 rfl ?_
    refine RJ.fin [(0, _), (9, _), (10, _), (11, _), (12, _), (34, .bool (decide (50 ≤ (w64 (a2 - a1)))))] rfl ?_
    refine J.cond rfl (fun c2 => ?_) (fun c2 => ?_)
    · replace H := ite_t c2 H
      refine J.seq (J.region ?_)
      refine RJ.run ttok 2 rfl ?_
      obtain ⟨r1, q1, H⟩ := bind_t H
      refine RJ.op rfl rfl (op_call [0] (Q39.spec q1) rfl rfl rfl h1 rfl (gcons (Gives.self 0 rfl) gnil)) ?_
      rintro _ w2 ⟨_, ⟨rfl, rfl⟩, h2⟩
      replace h2 : St w0 F0 [boxC b1 3 [.int .i64 r1.2]] _ _ := h2
      refine RJ.run ttok 1 rfl ?_
      refine RJ.fin [(0, _), (9, _), (10, .int .i64 r1.1), (11, _), (12, _)] rfl ?_
      refine J.seq (J.region ?_)
      refine RJ.run ttok 2 rfl ?_
      obtain ⟨r2, q2, H⟩ := bind_t H
      refine RJ.op rfl rfl (op_call [0] (Q39.spec q2) rfl rfl rfl h2 rfl (gcons (Gives.self 0 rfl) gnil)) ?_
      rintro _ w3 ⟨_, ⟨rfl, rfl⟩, h3⟩
      replace h3 : St w0 F0 [boxC b1 3 [.int .i64 r2.2]] _ _ := h3
      refine RJ.run ttok 1 rfl ?_
      refine RJ.fin [(0, _), (9, _), (10, _), (11, .int .i64 r2.1), (12, _)] rfl ?_
      refine J.region ?_
      refine RJ.run ttok 2 rfl ?_
      obtain ⟨r3, q3, H⟩ := bind_t H
      refine RJ.op rfl rfl (op_call [0] (Q39.spec q3) rfl rfl rfl h3 rfl (gcons (Gives.self 0 rfl) gnil)) ?_
      rintro _ w4 ⟨_, ⟨rfl, rfl⟩, h4⟩
      replace h4 : St w0 F0 [boxC b1 3 [.int .i64 r3.2]] _ _ := h4
      refine RJ.run ttok 1 rfl ?_
      refine RJ.fin [(0, _), (9, _), (10, _), (11, _), (12, .int .i64 r3.1)] rfl ?_
      refine J.region ?_
      refine RJ.run ttok 4 rfl ?_
      obtain ⟨r4, q4, H⟩ := bind_t H
      refine RJ.op rfl rfl (op_call [0] (Q40.spec q4) rfl rfl rfl h4 rfl (gcons (Gives.self 0 rfl) gnil)) ?_
      rintro _ w5 ⟨_, ⟨rfl, rfl⟩, h5⟩
      replace h5 : St w0 F0 [boxC b1 3 [.int .i64 r4.2]] _ _ := h5
      refine RJ.run ttok 1 rfl ?_
      refine RJ.fin [(9, _), (11, .int .i64 r4.1)] rfl ?_
      refine J.seq (J.region ?_)
      refine RJ.q rfl rfl (q_load_box ttok 0 h5.wht rfl rfl rfl rfl rfl) ?_
      refine RJ.fin [(11, _), (49, .int .i64 r4.2)] rfl ?_
      refine J.block (J.seq (J.region ?_))
      refine RJ.run ttok 2 rfl ?_
      refine RJ.fin [(11, _), (49, _), (51, .bool (decide (r4.2 = 0)))] rfl ?_
      refine J.cond rfl (fun c3 => ?_) (fun c3 => ?_)
      · replace H := ite_t c3 H
        refine J.seq (J.region ?_)
        refine RJ.run ttok 3 rfl ?_
        refine RJ.fin [(6, .int .i64 r4.1), (7, .int .i64 1)] rfl ?_
        refine J.ret ?_
        obtain rfl := Option.some.inj H
        exact ⟨_, _, _, (results_slots rfl), ⟨rfl, rfl⟩, h5.only [] rfl⟩
      replace H := ite_f c3 H
      refine J.seq (J.region ?_)
      refine RJ.run ttok 2 rfl ?_
      refine RJ.fin [(11, _), (54, .bool (decide (r4.2 = 12)))] rfl ?_
      refine J.cond rfl (fun c4 => ?_) (fun c4 => ?_)
      · replace H := ite_t c4 H
        refine J.seq (J.region ?_)
        refine RJ.run ttok 3 rfl ?_
        refine RJ.fin [(6, .int .i64 r4.1), (7, .int .i64 2)] rfl ?_
        refine J.ret ?_
        obtain rfl := Option.some.inj H
        exact ⟨_, _, _, (results_slots rfl), ⟨rfl, rfl⟩, h5.only [] rfl⟩
      replace H := ite_f c4 H
      refine J.seq (J.region ?_)
      refine RJ.run ttok 3 rfl ?_
      refine RJ.fin [(6, .int .i64 r4.1), (7, .int .i64 0)] rfl ?_
      refine J.ret ?_
      obtain rfl := Option.some.inj H
      exact ⟨_, _, _, (results_slots rfl), ⟨rfl, rfl⟩, h5.only [] rfl⟩
    replace H := ite_f c2 H
    refine J.skip ?_
    refine J.region ?_
    refine RJ.run ttok 4 rfl ?_
    obtain ⟨r5, q5, H⟩ := bind_t H
    refine RJ.op rfl rfl (op_call [0] (Q40.spec q5) rfl rfl rfl h1 rfl (gcons (Gives.self 0 rfl) gnil)) ?_
    rintro _ w6 ⟨_, ⟨rfl, rfl⟩, h6⟩
    replace h6 : St w0 F0 [boxC b1 3 [.int .i64 r5.2]] _ _ := h6
    refine RJ.run ttok 1 rfl ?_
    refine RJ.fin [(9, _), (11, .int .i64 r5.1)] rfl ?_
    refine J.seq (J.region ?_)
    refine RJ.q rfl rfl (q_load_box ttok 0 h6.wht rfl rfl rfl rfl rfl) ?_
    refine RJ.fin [(11, _), (49, .int .i64 r5.2)] rfl ?_
    refine J.block (J.seq (J.region ?_))
    refine RJ.run ttok 2 rfl ?_
    refine RJ.fin [(11, _), (49, _), (51, .bool (decide (r5.2 = 0)))] rfl ?_
    refine J.cond rfl (fun c5 => ?_) (fun c5 => ?_)
    · replace H := ite_t c5 H
      refine J.seq (J.region ?_)
      refine RJ.run ttok 3 rfl ?_
      refine RJ.fin [(6, .int .i64 r5.1), (7, .int .i64 1)] rfl ?_
      refine J.ret ?_
      obtain rfl := Option.some.inj H
      exact ⟨_, _, _, (results_slots rfl), ⟨rfl, rfl⟩, h6.only [] rfl⟩
    replace H := ite_f c5 H
    refine J.seq (J.region ?_)
    refine RJ.run ttok 2 rfl ?_
    refine RJ.fin [(11, _), (54, .bool (decide (r5.2 = 12)))] rfl ?_
    refine J.cond rfl (fun c6 => ?_) (fun c6 => ?_)
    · replace H := ite_t c6 H
      refine J.seq (J.region ?_)
      refine RJ.run ttok 3 rfl ?_
      refine RJ.fin [(6, .int .i64 r5.1), (7, .int .i64 2)] rfl ?_
      refine J.ret ?_
      obtain rfl := Option.some.inj H
      exact ⟨_, _, _, (results_slots rfl), ⟨rfl, rfl⟩, h6.only [] rfl⟩
    replace H := ite_f c6 H
    refine J.seq (J.region ?_)
    refine RJ.run ttok 3 rfl ?_
    refine RJ.fin [(6, .int .i64 r5.1), (7, .int .i64 0)] rfl ?_
    refine J.ret ?_
    obtain rfl := Option.some.inj H
    exact ⟨_, _, _, (results_slots rfl), ⟨rfl, rfl⟩, h6.only [] rfl⟩
  replace H := ite_f c1 H
  refine J.skip ?_
  refine J.seq (J.region ?_)
  refine RJ.q rfl rfl (q_load_box ttok 0 h1.wht rfl rfl rfl rfl rfl) ?_
  refine RJ.fin [(11, _), (49, .int .i64 0)] rfl ?_
  refine J.block (J.seq (J.region ?_))
  refine RJ.run ttok 2 rfl ?_
  refine RJ.fin [(11, _), (49, _), (51, .bool true)] rfl ?_
  refine J.condT rfl ?_
  refine J.seq (J.region ?_)
  refine RJ.run ttok 3 rfl ?_
  refine RJ.fin [(6, .int .i64 (w64 (a1 + (w64 ((w64 (Int.tdiv (w64 (a2 - a1)) 4)) * 2))))), (7, .int .i64 1)] rfl ?_
  refine J.ret ?_
  obtain rfl := Option.some.inj H
  exact ⟨_, _, _, (results_slots rfl), ⟨rfl, rfl⟩, h1.only [] rfl⟩

def Q47.l0 : Nat → (List (Int)) → (Int) → (Int) → Option (List (Int))
  | 0, _, _, _ => none
  | k + 1, x1, x2, x3 => if (decide (x2 < x3)) = true then (if 0 ≤ x3 ∧ x3 < (x1.length : Int) then (if 0 ≤ x2 ∧ x2 < (x1.length : Int) then (Q47.l0 k ((x1.set x2.toNat (gt x1 x3)).set x3.toNat (gt x1 x2)) (w64 (x2 + 1)) (w64 (x3 - 1))) else none) else none) else (some x1)
def Q47.f (k : Nat) (a0 : List (Int)) (a1 : Int) (a2 : Int) : Option (List (Int)) := Q47.l0 k a0 a1 (w64 (a2 - 1))
theorem Q47.spec {k : Nat} {a0 : List (Int)} {a1 : Int} {a2 : Int} {A1 : Option Addr} {c_1 : Nat} {r : List (Int)} (H : Q47.f k a0 a1 a2 = some r) :
    Spec Try.prog 172 [.slice A1 a0.length c_1, .int .i64 a1, .int .i64 a2] [ownC 23 (.int .u32) a0 (.slice A1 a0.length c_1)] [] (fun v l => v = .tuple #[] ∧ l = [ownC 23 (.int .u32) r (.slice A1 r.length c_1)] ∧ r.length = a0.length) := by
  refine Spec.enter Try.func172 rfl (by kernel_rfl) (by kernel_rfl) fun w0 F0 h0 => ?_
  unfold Q47.f at H
  refine J.seq (J.region ?_)
  refine RJ.run ttok 2 rfl ?_
  refine RJ.fin [(0, .slice A1 a0.length c_1), (2, .int .i64 a2), (6, .int .i64 a1)] rfl ?_
  refine J.seq (J.region ?_)
  refine RJ.run ttok 3 rfl ?_
  refine RJ.fin [(0, _), (6, _), (7, .int .i64 (w64 (a2 - 1)))] rfl ?_
  refine J.block ?_
  have h11 := ((h0.only [0] rfl).rds [] rfl)
  refine J.loop (fun kk env w => ∃ (x1 : List (Int)) (x2 : Int) (x3 : Int), env = [(0, .slice A1 x1.length c_1), (6, .int .i64 x2), (7, .int .i64 x3)] ∧ St w0 F0 [ownC 23 (.int .u32) x1 (.slice A1 x1.length c_1)] [] w ∧ Q47.l0 kk x1 x2 x3 = some r ∧ x1.length = a0.length) (k := k) ⟨a0, a1, (w64 (a2 - 1)), rfl, h11, H, (rfl : a0.length = a0.length)⟩ ?_
  rintro k1 env w1 ⟨x1, x2, x3, rfl, h1, H, e1⟩
  cases k1 with
  | zero => exact nomatch (show none = some r from H)
  | succ k1 =>
    rw [Q47.l0] at H
    refine J.seq (J.seq (J.region ?_))
    refine RJ.run ttok 3 rfl ?_
    refine RJ.fin [(0, _), (6, _), (7, _), (13, .bool (decide (x2 < x3)))] rfl ?_
    refine J.cond rfl (fun c1 => ?_) (fun c1 => ?_)
    · replace H := ite_t c1 H
      refine J.skip ?_
      refine J.block (J.seq ?_)
      obtain ⟨⟨p1, p2⟩, H⟩ := guard_t H
      obtain ⟨⟨p3, p4⟩, H⟩ := guard_t H
      refine J.midS (fun env w => env = [(0, .slice A1 ((x1.set x2.toNat (gt x1 x3)).set x3.toNat (gt x1 x2)).length c_1), (6, .int .i64 x2), (7, .int .i64 x3)] ∧ St w0 F0 [ownC 23 (.int .u32) ((x1.set x2.toNat (gt x1 x3)).set x3.toNat (gt x1 x2)) (.slice A1 ((x1.set x2.toNat (gt x1 x3)).set x3.toNat (gt x1 x2)).length c_1)] [] w) ?_ ?_
      · refine J.heldSt mix (h1.only [] rfl) ?_
        have h4 := h1.drew
        refine HJ.run ttok rfl [0, 1, 2, 3, 4, 5, 8, 9] rfl ?_
        have e5 := elem_A h4.wh (Gives.of 0 rfl own_rd) p1 p2
        refine HJ.q (i := 6) rfl rfl rfl rfl rfl rfl (q_index ttok rfl rfl rfl rfl rfl e5 p1 p2) ?_
        refine HJ.q (i := 10) rfl rfl rfl rfl rfl rfl (q_index ttok rfl rfl rfl rfl rfl e5 p3 p4) ?_
        refine HJ.pick [7, 11] (i := 7) rfl rfl rfl rfl ?_
        refine (hscons ?_ (hscons ?_ hsnil))
        · refine HS.op (i := 7) rfl rfl rfl (OpT.ofq (q_load_elem (f := 0) ttok rfl h4.wht (Gives.of 0 rfl own_rd) p1 p2 rfl rfl rfl rfl rfl)) ?_
          rintro _ _ ⟨rfl, rfl⟩
          replace h4 : St w0 F0 [_] _ _ := h4
          refine ⟨⟨[_], h4⟩, ?_⟩
          refine HJ.op (i := 11) rfl rfl rfl rfl rfl (OpT.ofq (q_load_elem (f := 0) ttok rfl h4.wht (Gives.of 0 rfl own_rd) p3 p4 rfl rfl rfl rfl rfl)) ?_
          rintro _ _ ⟨rfl, rfl⟩
          replace h4 : St w0 F0 [_] _ _ := h4
          refine ⟨⟨[_], h4⟩, ?_⟩
          refine HJ.q (i := 12) rfl rfl rfl rfl rfl rfl (q_index ttok rfl rfl rfl rfl rfl e5 p3 p4) ?_
          refine HJ.op (i := 13) rfl rfl rfl rfl rfl (op_store_elem (ty := (.int .u32)) (f := 0) (ix := x2) ttok rfl (gt x1 x3) 0 rfl h4 rfl rfl p3 p4 rfl rfl rfl rfl rfl rfl rfl) ?_
          intro _ w4 h5
          replace h5 : St w0 F0 [ownC 23 (.int .u32) (x1.set x2.toNat (gt x1 x3)) (.slice A1 (x1.set x2.toNat (gt x1 x3)).length c_1)] _ _ := h5
          refine ⟨⟨[_], h5⟩, ?_⟩
          have e6 : (x1.set x2.toNat (gt x1 x3)).length = a0.length := List.length_set.trans e1
          refine HJ.q (i := 14) rfl rfl rfl rfl rfl rfl (q_index ttok rfl rfl rfl rfl rfl e5 p1 p2) ?_
          refine HJ.op (i := 15) rfl rfl rfl rfl rfl (op_store_elem (ty := (.int .u32)) (f := 0) (ix := x3) ttok rfl (gt x1 x2) 0 rfl h5 rfl rfl p1 (by simpa only [List.length_set] using p2) rfl rfl rfl rfl rfl rfl rfl) ?_
          intro _ w5 h6
          replace h6 : St w0 F0 [ownC 23 (.int .u32) ((x1.set x2.toNat (gt x1 x3)).set x3.toNat (gt x1 x2)) (.slice A1 ((x1.set x2.toNat (gt x1 x3)).set x3.toNat (gt x1 x2)).length c_1)] _ _ := h6
          refine ⟨⟨[_], h6⟩, ?_⟩
          have e7 : ((x1.set x2.toNat (gt x1 x3)).set x3.toNat (gt x1 x2)).length = a0.length := List.length_set.trans e6
          refine HJ.fin [(0, .slice A1 x1.length c_1), (6, .int .i64 x2), (7, .int .i64 x3)] rfl rfl ?_
          exact thenP_intro ⟨(by simp only [List.length_set]), ((h6.only [0] rfl).rds [] rfl)⟩
        · refine HS.op (i := 11) rfl rfl rfl (OpT.ofq (q_load_elem (f := 0) ttok rfl h4.wht (Gives.of 0 rfl own_rd) p3 p4 rfl rfl rfl rfl rfl)) ?_
          rintro _ _ ⟨rfl, rfl⟩
          replace h4 : St w0 F0 [_] _ _ := h4
          refine ⟨⟨[_], h4⟩, ?_⟩
          refine HJ.op (i := 7) rfl rfl rfl rfl rfl (OpT.ofq (q_load_elem (f := 0) ttok rfl h4.wht (Gives.of 0 rfl own_rd) p1 p2 rfl rfl rfl rfl rfl)) ?_
          rintro _ _ ⟨rfl, rfl⟩
          replace h4 : St w0 F0 [_] _ _ := h4
          refine ⟨⟨[_], h4⟩, ?_⟩
          refine HJ.q (i := 12) rfl rfl rfl rfl rfl rfl (q_index ttok rfl rfl rfl rfl rfl e5 p3 p4) ?_
          refine HJ.op (i := 13) rfl rfl rfl rfl rfl (op_store_elem (ty := (.int .u32)) (f := 0) (ix := x2) ttok rfl (gt x1 x3) 0 rfl h4 rfl rfl p3 p4 rfl rfl rfl rfl rfl rfl rfl) ?_
          intro _ w6 h7
          replace h7 : St w0 F0 [ownC 23 (.int .u32) (x1.set x2.toNat (gt x1 x3)) (.slice A1 (x1.set x2.toNat (gt x1 x3)).length c_1)] _ _ := h7
          refine ⟨⟨[_], h7⟩, ?_⟩
          have e8 : (x1.set x2.toNat (gt x1 x3)).length = a0.length := List.length_set.trans e1
          refine HJ.q (i := 14) rfl rfl rfl rfl rfl rfl (q_index ttok rfl rfl rfl rfl rfl e5 p1 p2) ?_
          refine HJ.op (i := 15) rfl rfl rfl rfl rfl (op_store_elem (ty := (.int .u32)) (f := 0) (ix := x3) ttok rfl (gt x1 x2) 0 rfl h7 rfl rfl p1 (by simpa only [List.length_set] using p2) rfl rfl rfl rfl rfl rfl rfl) ?_
          intro _ w7 h8
          replace h8 : St w0 F0 [ownC 23 (.int .u32) ((x1.set x2.toNat (gt x1 x3)).set x3.toNat (gt x1 x2)) (.slice A1 ((x1.set x2.toNat (gt x1 x3)).set x3.toNat (gt x1 x2)).length c_1)] _ _ := h8
          refine ⟨⟨[_], h8⟩, ?_⟩
          have e9 : ((x1.set x2.toNat (gt x1 x3)).set x3.toNat (gt x1 x2)).length = a0.length := List.length_set.trans e8
          refine HJ.fin [(0, .slice A1 x1.length c_1), (6, .int .i64 x2), (7, .int .i64 x3)] rfl rfl ?_
          exact thenP_intro ⟨(by simp only [List.length_set]), ((h8.only [0] rfl).rds [] rfl)⟩
      rintro env w8 ⟨rfl, h9⟩
      have e10 : ((x1.set x2.toNat (gt x1 x3)).set x3.toNat (gt x1 x2)).length = a0.length := by first | (simp only [List.length_set]; done) | (simp only [List.length_set]; exact e1)
      refine J.seq (J.region ?_)
      refine RJ.run ttok 3 rfl ?_
      refine RJ.fin [(0, .slice A1 ((x1.set x2.toNat (gt x1 x3)).set x3.toNat (gt x1 x2)).length c_1), (6, .int .i64 (w64 (x2 + 1))), (7, _)] rfl ?_
      refine J.region ?_
      refine RJ.run ttok 3 rfl ?_
      refine RJ.fin [(0, _), (6, _), (7, .int .i64 (w64 (x3 - 1)))] rfl ?_
      have h10 := ((h9.only [0] rfl).rds [] rfl)
      exact ⟨k1, by omega, ((x1.set x2.toNat (gt x1 x3)).set x3.toNat (gt x1 x2)), (w64 (x2 + 1)), (w64 (x3 - 1)), rfl, h10, H, e10⟩
    replace H := ite_f c1 H
    refine J.exit ?_
    obtain rfl := Option.some.inj H
    exact ⟨_, _, _, (results_slots rfl), ⟨rfl, rfl, e1⟩, h1.only [0] rfl⟩

mutual
def Q43.l0 : Nat → (Int) → (Int) → (List (Int)) → (Int) → (Int) → Option (Bool × List (Int))
  | 0, _, _, _, _, _ => none
  | k + 1, a1, a2, x1, x2, x3 => if (decide (x3 < 5)) = true then (Q43.l3 k a1 a2 x1 x3 x2) else (some (false, x1))
def Q43.l1 : Nat → (Int) → (Int) → (Int) → (Int) → (List (Int)) → (Int) → Option (Bool × List (Int))
  | 0, _, _, _, _, _, _ => none
  | k + 1, a1, a2, x3, x6, x9, x10 => if (decide (x10 < a2)) = true then (if 0 ≤ x10 ∧ x10 < (x9.length : Int) then (if 0 ≤ (w64 (x10 - 1)) ∧ (w64 (x10 - 1)) < (x9.length : Int) then ((Q24.f (gt x9 x10) (gt x9 (w64 (x10 - 1)))).bind fun r1 => (if (!r1) = true then (Q43.l0 k a1 a2 x9 x6 (w64 (x3 + 1))) else (Q43.l1 k a1 a2 x3 x6 ((x9.set x10.toNat (gt x9 (w64 (x10 - 1)))).set (w64 (x10 - 1)).toNat (gt x9 x10)) (w64 (x10 + 1))))) else none) else none) else (Q43.l0 k a1 a2 x9 x6 (w64 (x3 + 1)))
def Q43.l2 : Nat → (Int) → (Int) → (Int) → (Int) → (List (Int)) → (Int) → Option (Bool × List (Int))
  | 0, _, _, _, _, _, _ => none
  | k + 1, a1, a2, x3, x6, x11, x12 => if (decide (1 ≤ x12)) = true then (if 0 ≤ x12 ∧ x12 < (x11.length : Int) then (if 0 ≤ (w64 (x12 - 1)) ∧ (w64 (x12 - 1)) < (x11.length : Int) then ((Q24.f (gt x11 x12) (gt x11 (w64 (x12 - 1)))).bind fun r2 => (if (!r2) = true then (if (decide (2 ≤ (w64 (a2 - x6)))) = true then (Q43.l1 k a1 a2 x3 x6 x11 (w64 (x6 + 1))) else (Q43.l0 k a1 a2 x11 x6 (w64 (x3 + 1)))) else (Q43.l2 k a1 a2 x3 x6 ((x11.set x12.toNat (gt x11 (w64 (x12 - 1)))).set (w64 (x12 - 1)).toNat (gt x11 x12)) (w64 (x12 - 1))))) else none) else none) else (if (decide (2 ≤ (w64 (a2 - x6)))) = true then (Q43.l1 k a1 a2 x3 x6 x11 (w64 (x6 + 1))) else (Q43.l0 k a1 a2 x11 x6 (w64 (x3 + 1))))
def Q43.l3 : Nat → (Int) → (Int) → (List (Int)) → (Int) → (Int) → Option (Bool × List (Int))
  | 0, _, _, _, _, _ => none
  | k + 1, a1, a2, x1, x3, x13 => if (decide (x13 < a2)) = true then (if 0 ≤ x13 ∧ x13 < (x1.length : Int) then (if 0 ≤ (w64 (x13 - 1)) ∧ (w64 (x13 - 1)) < (x1.length : Int) then ((Q24.f (gt x1 x13) (gt x1 (w64 (x13 - 1)))).bind fun r3 => (if (!r3) = true then (Q43.l3 k a1 a2 x1 x3 (w64 (x13 + 1))) else (if (decide (x13 = a2)) = true then (some (true, x1)) else (if (decide ((w64 (a2 - a1)) < 50)) = true then (some (false, x1)) else (if 0 ≤ (w64 (x13 - 1)) ∧ (w64 (x13 - 1)) < (x1.length : Int) then (if 0 ≤ x13 ∧ x13 < (x1.length : Int) then (if (decide (2 ≤ (w64 (x13 - a1)))) = true then (Q43.l2 k a1 a2 x3 x13 ((x1.set x13.toNat (gt x1 (w64 (x13 - 1)))).set (w64 (x13 - 1)).toNat (gt x1 x13)) (w64 (x13 - 1))) else (if (decide (2 ≤ (w64 (a2 - x13)))) = true then (Q43.l1 k a1 a2 x3 x13 ((x1.set x13.toNat (gt x1 (w64 (x13 - 1)))).set (w64 (x13 - 1)).toNat (gt x1 x13)) (w64 (x13 + 1))) else (Q43.l0 k a1 a2 ((x1.set x13.toNat (gt x1 (w64 (x13 - 1)))).set (w64 (x13 - 1)).toNat (gt x1 x13)) x13 (w64 (x3 + 1))))) else none) else none))))) else none) else none) else (if (decide (x13 = a2)) = true then (some (true, x1)) else (if (decide ((w64 (a2 - a1)) < 50)) = true then (some (false, x1)) else (if 0 ≤ (w64 (x13 - 1)) ∧ (w64 (x13 - 1)) < (x1.length : Int) then (if 0 ≤ x13 ∧ x13 < (x1.length : Int) then (if (decide (2 ≤ (w64 (x13 - a1)))) = true then (Q43.l2 k a1 a2 x3 x13 ((x1.set x13.toNat (gt x1 (w64 (x13 - 1)))).set (w64 (x13 - 1)).toNat (gt x1 x13)) (w64 (x13 - 1))) else (if (decide (2 ≤ (w64 (a2 - x13)))) = true then (Q43.l1 k a1 a2 x3 x13 ((x1.set x13.toNat (gt x1 (w64 (x13 - 1)))).set (w64 (x13 - 1)).toNat (gt x1 x13)) (w64 (x13 + 1))) else (Q43.l0 k a1 a2 ((x1.set x13.toNat (gt x1 (w64 (x13 - 1)))).set (w64 (x13 - 1)).toNat (gt x1 x13)) x13 (w64 (x3 + 1))))) else none) else none)))
end
def Q43.f (k : Nat) (a0 : List (Int)) (a1 : Int) (a2 : Int) : Option (Bool × List (Int)) := Q43.l0 k a1 a2 a0 (w64 (a1 + 1)) 0
theorem Q43.spec {k : Nat} {a0 : List (Int)} {a1 : Int} {a2 : Int} {A1 : Option Addr} {c_1 : Nat} {r : Bool × List (Int)} (H : Q43.f k a0 a1 a2 = some r) :
    Spec Try.prog 173 [.slice A1 a0.length c_1, .int .i64 a1, .int .i64 a2] [ownC 23 (.int .u32) a0 (.slice A1 a0.length c_1)] [] (fun v l => v = .bool r.1 ∧ l = [ownC 23 (.int .u32) r.2 (.slice A1 r.2.length c_1)] ∧ r.2.length = a0.length) := by
  refine Spec.enter Try.func173 rfl (by kernel_rfl) (by kernel_rfl) fun w0 F0 h0 => ?_
  unfold Q43.f at H
  refine J.seq (J.region ?_)
  refine RJ.run ttok 1 rfl ?_
  refine RJ.fin [(0, .slice A1 a0.length c_1), (1, .int .i64 a1), (2, .int .i64 a2)] rfl ?_
  refine J.seq (J.region ?_)
  refine RJ.run ttok 3 rfl ?_
  refine RJ.fin [(0, _), (1, _), (2, _), (7, .int .i64 (w64 (a1 + 1)))] rfl ?_
  refine J.seq (J.seq (J.region ?_))
  refine RJ.run ttok 1 rfl ?_
  refine RJ.fin [(0, _), (1, _), (2, _), (7, _), (8, .int .i64 0)] rfl ?_
  refine J.block ?_
  have h53 := ((h0.only [0] rfl).rds [] rfl)
  refine J.loop (fun kk env w => ∃ (x1 : List (Int)) (x2 : Int) (x3 : Int), env = [(0, .slice A1 x1.length c_1), (1, .int .i64 a1), (2, .int .i64 a2), (7, .int .i64 x2), (8, .int .i64 x3)] ∧ St w0 F0 [ownC 23 (.int .u32) x1 (.slice A1 x1.length c_1)] [] w ∧ Q43.l0 kk a1 a2 x1 x2 x3 = some r ∧ x1.length = a0.length) (k := k) ⟨a0, (w64 (a1 + 1)), 0, rfl, h53, H, (rfl : a0.length = a0.length)⟩ ?_
  rintro k1 env w1 ⟨x1, x2, x3, rfl, h1, H, e1⟩
  cases k1 with
  | zero => exact nomatch (show none = some r from H)
  | succ k1 =>
    rw [Q43.l0] at H
    refine J.seq (J.seq (J.region ?_))
    refine RJ.run ttok 2 rfl ?_
    refine RJ.fin [(0, _), (1, _), (2, _), (7, _), (8, _), (14, .bool (decide (x3 < 5)))] rfl ?_
    refine J.cond rfl (fun c1 => ?_) (fun c1 => ?_)
    · replace H := ite_t c1 H
      refine J.skip ?_
      refine J.seq ?_
      refine J.midS (fun env w => ∃ (k2 : Nat) (x4 : List (Int)) (x5 : Int), env = [(0, .slice A1 x4.length c_1), (1, .int .i64 a1), (2, .int .i64 a2), (7, .int .i64 x5), (8, .int .i64 x3)] ∧ St w0 F0 [ownC 23 (.int .u32) x4 (.slice A1 x4.length c_1)] [] w ∧ (Q43.l0 k2 a1 a2 x4 x5 (w64 (x3 + 1))) = some r ∧ k2 ≤ k1 ∧ x4.length = a0.length) ?_ ?_
      · refine J.block (J.seq ?_)
        refine J.midS (fun env w => ∃ (k3 : Nat) (x6 : Int) (x7 : Bool), env = [(0, .slice A1 x1.length c_1), (1, .int .i64 a1), (2, .int .i64 a2), (7, .int .i64 x6), (8, .int .i64 x3), (32, .bool x7)] ∧ St w0 F0 [ownC 23 (.int .u32) x1 (.slice A1 x1.length c_1)] [] w ∧ (if (decide (x6 = a2)) = true then (some (true, x1)) else (if (decide ((w64 (a2 - a1)) < 50)) = true then (some (false, x1)) else (if 0 ≤ (w64 (x6 - 1)) ∧ (w64 (x6 - 1)) < (x1.length : Int) then (if 0 ≤ x6 ∧ x6 < (x1.length : Int) then (if (decide (2 ≤ (w64 (x6 - a1)))) = true then (Q43.l2 k3 a1 a2 x3 x6 ((x1.set x6.toNat (gt x1 (w64 (x6 - 1)))).set (w64 (x6 - 1)).toNat (gt x1 x6)) (w64 (x6 - 1))) else (if (decide (2 ≤ (w64 (a2 - x6)))) = true then (Q43.l1 k3 a1 a2 x3 x6 ((x1.set x6.toNat (gt x1 (w64 (x6 - 1)))).set (w64 (x6 - 1)).toNat (gt x1 x6)) (w64 (x6 + 1))) else (Q43.l0 k3 a1 a2 ((x1.set x6.toNat (gt x1 (w64 (x6 - 1)))).set (w64 (x6 - 1)).toNat (gt x1 x6)) x6 (w64 (x3 + 1))))) else none) else none))) = some r ∧ k3 ≤ k1) ?_ ?_
        · refine J.block ?_
          refine J.narrow [(0, _), (1, _), (2, _), (7, _), (8, _)] rfl ?_
          have h52 := ((h1.only [0] rfl).rds [] rfl)
          refine J.loop (fun kk env w => ∃ (x13 : Int), env = [(0, .slice A1 x1.length c_1), (1, .int .i64 a1), (2, .int .i64 a2), (7, .int .i64 x13), (8, .int .i64 x3)] ∧ St w0 F0 [ownC 23 (.int .u32) x1 (.slice A1 x1.length c_1)] [] w ∧ Q43.l3 kk a1 a2 x1 x3 x13 = some r ∧ kk ≤ k1) (k := k1) ⟨x2, rfl, h52, H, Nat.le_refl _⟩ ?_
          rintro k7 env w33 ⟨x13, rfl, h46, H, hk7⟩
          cases k7 with
          | zero => exact nomatch (show none = some r from H)
          | succ k7 =>
            rw [Q43.l3] at H
            refine J.seq (J.seq ?_)
            refine J.heldSt mix h46 ?_
            have h47 := h46.drew
            refine HJ.run ttok rfl [0, 1, 2, 3] rfl ?_
            rcases Bool.eq_false_or_eq_true (decide (x13 < a2)) with c10 | c10
            · replace H := ite_t c10 H
              refine HJ.know (t := 20) rfl (congrArg Value.bool c10) ?_
              refine HJ.run ttok rfl [4, 5, 8, 9, 10] rfl ?_
              obtain ⟨⟨p13, p14⟩, H⟩ := guard_t H
              have e31 := elem_A h47.wh (Gives.of 0 rfl own_rd) p13 p14
              refine HJ.q (i := 6) rfl rfl rfl rfl rfl rfl (q_index ttok rfl rfl rfl rfl rfl e31 p13 p14) ?_
              refine HJ.q (i := 7) rfl rfl rfl rfl rfl rfl (q_load_elem (f := 0) ttok rfl (fun w e => e) (Gives.of 0 rfl own_rd) p13 p14 rfl rfl rfl rfl rfl) ?_
              obtain ⟨⟨p15, p16⟩, H⟩ := guard_t H
              refine HJ.q (i := 11) rfl rfl rfl rfl rfl rfl (q_index ttok rfl rfl rfl rfl rfl e31 p15 p16) ?_
              refine HJ.q (i := 12) rfl rfl rfl rfl rfl rfl (q_load_elem (f := 0) ttok rfl (fun w e => e) (Gives.of 0 rfl own_rd) p15 p16 rfl rfl rfl rfl rfl) ?_
              obtain ⟨r3, q3, H⟩ := bind_t H
              refine HJ.op (i := 13) rfl rfl rfl rfl rfl (op_call [] (Q24.spec q3) rfl rfl rfl h47 rfl gnil) ?_
              rintro _ w34 ⟨_, ⟨rfl, rfl⟩, h48⟩
              replace h48 : St w0 F0 [_] _ _ := h48
              refine ⟨⟨[], h48⟩, ?_⟩
              refine HJ.run ttok rfl [14, 15] rfl ?_
              refine HJ.fin [(0, _), (1, _), (2, _), (7, _), (8, _), (32, .bool (!r3))] rfl rfl ?_
              refine J.cond rfl (fun c11 => ?_) (fun c11 => ?_)
              · replace H := ite_t c11 H
                refine J.skip ?_
                refine J.block (J.region ?_)
                refine RJ.run ttok 3 rfl ?_
                refine RJ.fin [(0, _), (1, _), (2, _), (7, .int .i64 (w64 (x13 + 1))), (8, _)] rfl ?_
                have h49 := ((h48.only [0] rfl).rds [] rfl)
                exact ⟨k7, by omega, (w64 (x13 + 1)), rfl, h49, H, by omega⟩
              replace H := ite_f c11 H
              refine J.exit ?_
              have h50 := ((h48.only [0] rfl).rds [] rfl)
              exact ⟨k7, x13, (!r3), rfl, h50, H, by omega⟩
            replace H := ite_f c10 H
            refine HJ.know (t := 20) rfl (congrArg Value.bool c10) ?_
            refine HJ.run ttok rfl [4, 5, 6, 7, 8, 9, 10, 11, 12, 13, 14, 15] rfl ?_
            refine HJ.fin [(0, _), (1, _), (2, _), (7, _), (8, _), (32, .bool false)] rfl rfl ?_
            refine J.condF rfl ?_
            refine J.exit ?_
            have h51 := ((h47.only [0] rfl).rds [] rfl)
            exact ⟨k7, x13, false, rfl, h51, H, by omega⟩
        rintro env w5 ⟨k3, x6, x7, rfl, h4, H, hk3⟩
        refine J.seq (J.seq (J.region ?_))
        refine RJ.run ttok 3 rfl ?_
        refine RJ.fin [(0, _), (1, _), (2, _), (7, _), (8, _), (37, .bool (decide (x6 = a2)))] rfl ?_
        refine J.cond rfl (fun c2 => ?_) (fun c2 => ?_)
        · replace H := ite_t c2 H
          refine J.seq (J.region ?_)
          refine RJ.run ttok 1 rfl ?_
          refine RJ.fin [(6, .bool true)] rfl ?_
          refine J.ret ?_
          obtain rfl := Option.some.inj H
          exact ⟨_, _, _, (results_slots rfl), ⟨rfl, rfl, e1⟩, h4.only [0] rfl⟩
        replace H := ite_f c2 H
        refine J.skip ?_
        refine J.seq (J.seq (J.region ?_))
        refine RJ.run ttok 4 rfl ?_
        refine RJ.fin [(0, _), (1, _), (2, _), (7, _), (8, _), (41, .bool (decide ((w64 (a2 - a1)) < 50)))] rfl ?_
        refine J.cond rfl (fun c3 => ?_) (fun c3 => ?_)
        · replace H := ite_t c3 H
          refine J.seq (J.region ?_)
          refine RJ.run ttok 1 rfl ?_
          refine RJ.fin [(6, .bool false)] rfl ?_
          refine J.ret ?_
          obtain rfl := Option.some.inj H
          exact ⟨_, _, _, (results_slots rfl), ⟨rfl, rfl, e1⟩, h4.only [0] rfl⟩
        replace H := ite_f c3 H
        refine J.skip ?_
        refine J.seq ?_
        obtain ⟨⟨p1, p2⟩, H⟩ := guard_t H
        obtain ⟨⟨p3, p4⟩, H⟩ := guard_t H
        refine J.midS (fun env w => env = [(0, .slice A1 ((x1.set x6.toNat (gt x1 (w64 (x6 - 1)))).set (w64 (x6 - 1)).toNat (gt x1 x6)).length c_1), (1, .int .i64 a1), (2, .int .i64 a2), (7, .int .i64 x6), (8, .int .i64 x3)] ∧ St w0 F0 [ownC 23 (.int .u32) ((x1.set x6.toNat (gt x1 (w64 (x6 - 1)))).set (w64 (x6 - 1)).toNat (gt x1 x6)) (.slice A1 ((x1.set x6.toNat (gt x1 (w64 (x6 - 1)))).set (w64 (x6 - 1)).toNat (gt x1 x6)).length c_1)] [] w) ?_ ?_
        · refine J.heldSt mix (h4.only [] rfl) ?_
          have h7 := h4.drew
          refine HJ.run ttok rfl [0, 1, 2, 3, 4, 5, 6, 7, 10, 11] rfl ?_
          have e6 := elem_A h7.wh (Gives.of 0 rfl own_rd) p1 p2
          refine HJ.q (i := 8) rfl rfl rfl rfl rfl rfl (q_index ttok rfl rfl rfl rfl rfl e6 p1 p2) ?_
          refine HJ.q (i := 12) rfl rfl rfl rfl rfl rfl (q_index ttok rfl rfl rfl rfl rfl e6 p3 p4) ?_
          refine HJ.pick [9, 13] (i := 9) rfl rfl rfl rfl ?_
          refine (hscons ?_ (hscons ?_ hsnil))
          · refine HS.op (i := 9) rfl rfl rfl (OpT.ofq (q_load_elem (f := 0) ttok rfl h7.wht (Gives.of 0 rfl own_rd) p1 p2 rfl rfl rfl rfl rfl)) ?_
            rintro _ _ ⟨rfl, rfl⟩
            replace h7 : St w0 F0 [_] _ _ := h7
            refine ⟨⟨[_], h7⟩, ?_⟩
            refine HJ.op (i := 13) rfl rfl rfl rfl rfl (OpT.ofq (q_load_elem (f := 0) ttok rfl h7.wht (Gives.of 0 rfl own_rd) p3 p4 rfl rfl rfl rfl rfl)) ?_
            rintro _ _ ⟨rfl, rfl⟩
            replace h7 : St w0 F0 [_] _ _ := h7
            refine ⟨⟨[_], h7⟩, ?_⟩
            refine HJ.q (i := 14) rfl rfl rfl rfl rfl rfl (q_index ttok rfl rfl rfl rfl rfl e6 p3 p4) ?_
            refine HJ.op (i := 15) rfl rfl rfl rfl rfl (op_store_elem (ty := (.int .u32)) (f := 0) (ix := x6) ttok rfl (gt x1 (w64 (x6 - 1))) 0 rfl h7 rfl rfl p3 p4 rfl rfl rfl rfl rfl rfl rfl) ?_
            intro _ w8 h8
            replace h8 : St w0 F0 [ownC 23 (.int .u32) (x1.set x6.toNat (gt x1 (w64 (x6 - 1)))) (.slice A1 (x1.set x6.toNat (gt x1 (w64 (x6 - 1)))).length c_1)] _ _ := h8
            refine ⟨⟨[_], h8⟩, ?_⟩
            have e7 : (x1.set x6.toNat (gt x1 (w64 (x6 - 1)))).length = a0.length := List.length_set.trans e1
            refine HJ.q (i := 16) rfl rfl rfl rfl rfl rfl (q_index ttok rfl rfl rfl rfl rfl e6 p1 p2) ?_
            refine HJ.op (i := 17) rfl rfl rfl rfl rfl (op_store_elem (ty := (.int .u32)) (f := 0) (ix := (w64 (x6 - 1))) ttok rfl (gt x1 x6) 0 rfl h8 rfl rfl p1 (by simpa only [List.length_set] using p2) rfl rfl rfl rfl rfl rfl rfl) ?_
            intro _ w9 h9
            replace h9 : St w0 F0 [ownC 23 (.int .u32) ((x1.set x6.toNat (gt x1 (w64 (x6 - 1)))).set (w64 (x6 - 1)).toNat (gt x1 x6)) (.slice A1 ((x1.set x6.toNat (gt x1 (w64 (x6 - 1)))).set (w64 (x6 - 1)).toNat (gt x1 x6)).length c_1)] _ _ := h9
            refine ⟨⟨[_], h9⟩, ?_⟩
            have e8 : ((x1.set x6.toNat (gt x1 (w64 (x6 - 1)))).set (w64 (x6 - 1)).toNat (gt x1 x6)).length = a0.length := List.length_set.trans e7
            refine HJ.fin [(0, .slice A1 x1.length c_1), (1, .int .i64 a1), (2, .int .i64 a2), (7, .int .i64 x6), (8, .int .i64 x3)] rfl rfl ?_
            exact thenP_intro ⟨(by simp only [List.length_set]), ((h9.only [0] rfl).rds [] rfl)⟩
          · refine HS.op (i := 13) rfl rfl rfl (OpT.ofq (q_load_elem (f := 0) ttok rfl h7.wht (Gives.of 0 rfl own_rd) p3 p4 rfl rfl rfl rfl rfl)) ?_
            rintro _ _ ⟨rfl, rfl⟩
            replace h7 : St w0 F0 [_] _ _ := h7
            refine ⟨⟨[_], h7⟩, ?_⟩
            refine HJ.op (i := 9) rfl rfl rfl rfl rfl (OpT.ofq (q_load_elem (f := 0) ttok rfl h7.wht (Gives.of 0 rfl own_rd) p1 p2 rfl rfl rfl rfl rfl)) ?_
            rintro _ _ ⟨rfl, rfl⟩
            replace h7 : St w0 F0 [_] _ _ := h7
            refine ⟨⟨[_], h7⟩, ?_⟩
            refine HJ.q (i := 14) rfl rfl rfl rfl rfl rfl (q_index ttok rfl rfl rfl rfl rfl e6 p3 p4) ?_
            refine HJ.op (i := 15) rfl rfl rfl rfl rfl (op_store_elem (ty := (.int .u32)) (f := 0) (ix := x6) ttok rfl (gt x1 (w64 (x6 - 1))) 0 rfl h7 rfl rfl p3 p4 rfl rfl rfl rfl rfl rfl rfl) ?_
            intro _ w10 h10
            replace h10 : St w0 F0 [ownC 23 (.int .u32) (x1.set x6.toNat (gt x1 (w64 (x6 - 1)))) (.slice A1 (x1.set x6.toNat (gt x1 (w64 (x6 - 1)))).length c_1)] _ _ := h10
            refine ⟨⟨[_], h10⟩, ?_⟩
            have e9 : (x1.set x6.toNat (gt x1 (w64 (x6 - 1)))).length = a0.length := List.length_set.trans e1
            refine HJ.q (i := 16) rfl rfl rfl rfl rfl rfl (q_index ttok rfl rfl rfl rfl rfl e6 p1 p2) ?_
            refine HJ.op (i := 17) rfl rfl rfl rfl rfl (op_store_elem (ty := (.int .u32)) (f := 0) (ix := (w64 (x6 - 1))) ttok rfl (gt x1 x6) 0 rfl h10 rfl rfl p1 (by simpa only [List.length_set] using p2) rfl rfl rfl rfl rfl rfl rfl) ?_
            intro _ w11 h11
            replace h11 : St w0 F0 [ownC 23 (.int .u32) ((x1.set x6.toNat (gt x1 (w64 (x6 - 1)))).set (w64 (x6 - 1)).toNat (gt x1 x6)) (.slice A1 ((x1.set x6.toNat (gt x1 (w64 (x6 - 1)))).set (w64 (x6 - 1)).toNat (gt x1 x6)).length c_1)] _ _ := h11
            refine ⟨⟨[_], h11⟩, ?_⟩
            have e10 : ((x1.set x6.toNat (gt x1 (w64 (x6 - 1)))).set (w64 (x6 - 1)).toNat (gt x1 x6)).length = a0.length := List.length_set.trans e9
            refine HJ.fin [(0, .slice A1 x1.length c_1), (1, .int .i64 a1), (2, .int .i64 a2), (7, .int .i64 x6), (8, .int .i64 x3)] rfl rfl ?_
            exact thenP_intro ⟨(by simp only [List.length_set]), ((h11.only [0] rfl).rds [] rfl)⟩
        rintro env w12 ⟨rfl, h12⟩
        have e11 : ((x1.set x6.toNat (gt x1 (w64 (x6 - 1)))).set (w64 (x6 - 1)).toNat (gt x1 x6)).length = a0.length := by first | (simp only [List.length_set]; done) | (simp only [List.length_set]; exact e1)
        refine J.seq (J.seq (J.region ?_))
        refine RJ.run ttok 4 rfl ?_
        refine RJ.fin [(0, .slice A1 ((x1.set x6.toNat (gt x1 (w64 (x6 - 1)))).set (w64 (x6 - 1)).toNat (gt x1 x6)).length c_1), (1, _), (2, _), (7, _), (8, _), (61, .bool (decide (2 ≤ (w64 (x6 - a1)))))] rfl ?_
        refine J.midS (fun env w => ∃ (k4 : Nat) (x8 : List (Int)), env = [(0, .slice A1 x8.length c_1), (1, .int .i64 a1), (2, .int .i64 a2), (7, .int .i64 x6), (8, .int .i64 x3)] ∧ St w0 F0 [ownC 23 (.int .u32) x8 (.slice A1 x8.length c_1)] [] w ∧ (if (decide (2 ≤ (w64 (a2 - x6)))) = true then (Q43.l1 k4 a1 a2 x3 x6 x8 (w64 (x6 + 1))) else (Q43.l0 k4 a1 a2 x8 x6 (w64 (x3 + 1)))) = some r ∧ k4 ≤ k3 ∧ x8.length = a0.length) ?_ ?_
        · refine J.cond rfl (fun c7 => ?_) (fun c7 => ?_)
          · replace H := ite_t c7 H
            refine J.seq (J.region ?_)
            refine RJ.run ttok 3 rfl ?_
            refine RJ.fin [(0, _), (1, _), (2, _), (7, _), (8, _), (9, .int .i64 (w64 (x6 - 1)))] rfl ?_
            refine J.block ?_
            have h44 := ((h12.only [0] rfl).rds [] rfl)
            refine J.loop (fun kk env w => ∃ (x11 : List (Int)) (x12 : Int), env = [(0, .slice A1 x11.length c_1), (1, .int .i64 a1), (2, .int .i64 a2), (7, .int .i64 x6), (8, .int .i64 x3), (9, .int .i64 x12)] ∧ St w0 F0 [ownC 23 (.int .u32) x11 (.slice A1 x11.length c_1)] [] w ∧ Q43.l2 kk a1 a2 x3 x6 x11 x12 = some r ∧ kk ≤ k3 ∧ x11.length = a0.length) (k := k3) ⟨((x1.set x6.toNat (gt x1 (w64 (x6 - 1)))).set (w64 (x6 - 1)).toNat (gt x1 x6)), (w64 (x6 - 1)), rfl, h44, H, Nat.le_refl _, e11⟩ ?_
            rintro k6 env w24 ⟨x11, x12, rfl, h30, H, hk6, e22⟩
            cases k6 with
            | zero => exact nomatch (show none = some r from H)
            | succ k6 =>
              rw [Q43.l2] at H
              refine J.seq (J.seq (J.region ?_))
              refine RJ.run ttok 2 rfl ?_
              refine RJ.fin [(0, _), (1, _), (2, _), (7, _), (8, _), (9, _), (65, .bool (decide (1 ≤ x12)))] rfl ?_
              refine J.cond rfl (fun c8 => ?_) (fun c8 => ?_)
              · replace H := ite_t c8 H
                refine J.skip ?_
                refine J.seq (J.block (J.seq (J.seq ?_)))
                refine J.heldSt mix h30 ?_
                have h31 := h30.drew
                refine HJ.run ttok rfl [0, 1, 4, 5, 6] rfl ?_
                obtain ⟨⟨p9, p10⟩, H⟩ := guard_t H
                have e23 := elem_A h31.wh (Gives.of 0 rfl own_rd) p9 p10
                refine HJ.q (i := 2) rfl rfl rfl rfl rfl rfl (q_index ttok rfl rfl rfl rfl rfl e23 p9 p10) ?_
                refine HJ.q (i := 3) rfl rfl rfl rfl rfl rfl (q_load_elem (f := 0) ttok rfl (fun w e => e) (Gives.of 0 rfl own_rd) p9 p10 rfl rfl rfl rfl rfl) ?_
                obtain ⟨⟨p11, p12⟩, H⟩ := guard_t H
                refine HJ.q (i := 7) rfl rfl rfl rfl rfl rfl (q_index ttok rfl rfl rfl rfl rfl e23 p11 p12) ?_
                refine HJ.q (i := 8) rfl rfl rfl rfl rfl rfl (q_load_elem (f := 0) ttok rfl (fun w e => e) (Gives.of 0 rfl own_rd) p11 p12 rfl rfl rfl rfl rfl) ?_
                obtain ⟨r2, q2, H⟩ := bind_t H
                refine HJ.op (i := 9) rfl rfl rfl rfl rfl (op_call [] (Q24.spec q2) rfl rfl rfl h31 rfl gnil) ?_
                rintro _ w25 ⟨_, ⟨rfl, rfl⟩, h32⟩
                replace h32 : St w0 F0 [_] _ _ := h32
                refine ⟨⟨[], h32⟩, ?_⟩
                refine HJ.run ttok rfl [10] rfl ?_
                refine HJ.fin [(0, _), (1, _), (2, _), (7, _), (8, _), (9, _), (78, .bool (!r2))] rfl rfl ?_
                refine J.cond rfl (fun c9 => ?_) (fun c9 => ?_)
                · replace H := ite_t c9 H
                  refine J.narrow [(0, _), (1, _), (2, _), (7, _), (8, _)] rfl ?_
                  refine J.exit ?_
                  have h33 := ((h32.only [0] rfl).rds [] rfl)
                  exact ⟨k6, x11, rfl, h33, H, by omega, e22⟩
                replace H := ite_f c9 H
                refine J.skip ?_
                refine J.mid (fun env w => env = [(0, .slice A1 ((x11.set x12.toNat (gt x11 (w64 (x12 - 1)))).set (w64 (x12 - 1)).toNat (gt x11 x12)).length c_1), (1, .int .i64 a1), (2, .int .i64 a2), (7, .int .i64 x6), (8, .int .i64 x3), (9, .int .i64 x12)] ∧ St w0 F0 [ownC 23 (.int .u32) ((x11.set x12.toNat (gt x11 (w64 (x12 - 1)))).set (w64 (x12 - 1)).toNat (gt x11 x12)) (.slice A1 ((x11.set x12.toNat (gt x11 (w64 (x12 - 1)))).set (w64 (x12 - 1)).toNat (gt x11 x12)).length c_1)] [] w) ?_ ?_
                · refine J.heldSt mix (h32.only [] rfl) ?_
                  have h36 := h32.drew
                  refine HJ.run ttok rfl [0, 1, 2, 3, 4, 5, 6, 7, 10, 11] rfl ?_
                  refine HJ.q (i := 8) rfl rfl rfl rfl rfl rfl (q_index ttok rfl rfl rfl rfl rfl e23 p11 p12) ?_
                  refine HJ.q (i := 12) rfl rfl rfl rfl rfl rfl (q_index ttok rfl rfl rfl rfl rfl e23 p9 p10) ?_
                  refine HJ.pick [9, 13] (i := 9) rfl rfl rfl rfl ?_
                  refine (hscons ?_ (hscons ?_ hsnil))
                  · refine HS.op (i := 9) rfl rfl rfl (OpT.ofq (q_load_elem (f := 0) ttok rfl h36.wht (Gives.of 0 rfl own_rd) p11 p12 rfl rfl rfl rfl rfl)) ?_
                    rintro _ _ ⟨rfl, rfl⟩
                    replace h36 : St w0 F0 [_] _ _ := h36
                    refine ⟨⟨[_], h36⟩, ?_⟩
                    refine HJ.op (i := 13) rfl rfl rfl rfl rfl (OpT.ofq (q_load_elem (f := 0) ttok rfl h36.wht (Gives.of 0 rfl own_rd) p9 p10 rfl rfl rfl rfl rfl)) ?_
                    rintro _ _ ⟨rfl, rfl⟩
                    replace h36 : St w0 F0 [_] _ _ := h36
                    refine ⟨⟨[_], h36⟩, ?_⟩
                    refine HJ.q (i := 14) rfl rfl rfl rfl rfl rfl (q_index ttok rfl rfl rfl rfl rfl e23 p9 p10) ?_
                    refine HJ.op (i := 15) rfl rfl rfl rfl rfl (op_store_elem (ty := (.int .u32)) (f := 0) (ix := x12) ttok rfl (gt x11 (w64 (x12 - 1))) 0 rfl h36 rfl rfl p9 p10 rfl rfl rfl rfl rfl rfl rfl) ?_
                    intro _ w28 h37
                    replace h37 : St w0 F0 [ownC 23 (.int .u32) (x11.set x12.toNat (gt x11 (w64 (x12 - 1)))) (.slice A1 (x11.set x12.toNat (gt x11 (w64 (x12 - 1)))).length c_1)] _ _ := h37
                    refine ⟨⟨[_], h37⟩, ?_⟩
                    have e26 : (x11.set x12.toNat (gt x11 (w64 (x12 - 1)))).length = a0.length := List.length_set.trans e22
                    refine HJ.q (i := 16) rfl rfl rfl rfl rfl rfl (q_index ttok rfl rfl rfl rfl rfl e23 p11 p12) ?_
                    refine HJ.op (i := 17) rfl rfl rfl rfl rfl (op_store_elem (ty := (.int .u32)) (f := 0) (ix := (w64 (x12 - 1))) ttok rfl (gt x11 x12) 0 rfl h37 rfl rfl p11 (by simpa only [List.length_set] using p12) rfl rfl rfl rfl rfl rfl rfl) ?_
                    intro _ w29 h38
                    replace h38 : St w0 F0 [ownC 23 (.int .u32) ((x11.set x12.toNat (gt x11 (w64 (x12 - 1)))).set (w64 (x12 - 1)).toNat (gt x11 x12)) (.slice A1 ((x11.set x12.toNat (gt x11 (w64 (x12 - 1)))).set (w64 (x12 - 1)).toNat (gt x11 x12)).length c_1)] _ _ := h38
                    refine ⟨⟨[_], h38⟩, ?_⟩
                    have e27 : ((x11.set x12.toNat (gt x11 (w64 (x12 - 1)))).set (w64 (x12 - 1)).toNat (gt x11 x12)).length = a0.length := List.length_set.trans e26
                    refine HJ.fin [(0, .slice A1 x11.length c_1), (1, .int .i64 a1), (2, .int .i64 a2), (7, .int .i64 x6), (8, .int .i64 x3), (9, .int .i64 x12)] rfl rfl ?_
                    exact thenP_intro ⟨(by simp only [List.length_set]), ((h38.only [0] rfl).rds [] rfl)⟩
                  · refine HS.op (i := 13) rfl rfl rfl (OpT.ofq (q_load_elem (f := 0) ttok rfl h36.wht (Gives.of 0 rfl own_rd) p9 p10 rfl rfl rfl rfl rfl)) ?_
                    rintro _ _ ⟨rfl, rfl⟩
                    replace h36 : St w0 F0 [_] _ _ := h36
                    refine ⟨⟨[_], h36⟩, ?_⟩
                    refine HJ.op (i := 9) rfl rfl rfl rfl rfl (OpT.ofq (q_load_elem (f := 0) ttok rfl h36.wht (Gives.of 0 rfl own_rd) p11 p12 rfl rfl rfl rfl rfl)) ?_
                    rintro _ _ ⟨rfl, rfl⟩
                    replace h36 : St w0 F0 [_] _ _ := h36
                    refine ⟨⟨[_], h36⟩, ?_⟩
                    refine HJ.q (i := 14) rfl rfl rfl rfl rfl rfl (q_index ttok rfl rfl rfl rfl rfl e23 p9 p10) ?_
                    refine HJ.op (i := 15) rfl rfl rfl rfl rfl (op_store_elem (ty := (.int .u32)) (f := 0) (ix := x12) ttok rfl (gt x11 (w64 (x12 - 1))) 0 rfl h36 rfl rfl p9 p10 rfl rfl rfl rfl rfl rfl rfl) ?_
                    intro _ w30 h39
                    replace h39 : St w0 F0 [ownC 23 (.int .u32) (x11.set x12.toNat (gt x11 (w64 (x12 - 1)))) (.slice A1 (x11.set x12.toNat (gt x11 (w64 (x12 - 1)))).length c_1)] _ _ := h39
                    refine ⟨⟨[_], h39⟩, ?_⟩
                    have e28 : (x11.set x12.toNat (gt x11 (w64 (x12 - 1)))).length = a0.length := List.length_set.trans e22
                    refine HJ.q (i := 16) rfl rfl rfl rfl rfl rfl (q_index ttok rfl rfl rfl rfl rfl e23 p11 p12) ?_
                    refine HJ.op (i := 17) rfl rfl rfl rfl rfl (op_store_elem (ty := (.int .u32)) (f := 0) (ix := (w64 (x12 - 1))) ttok rfl (gt x11 x12) 0 rfl h39 rfl rfl p11 (by simpa only [List.length_set] using p12) rfl rfl rfl rfl rfl rfl rfl) ?_
                    intro _ w31 h40
                    replace h40 : St w0 F0 [ownC 23 (.int .u32) ((x11.set x12.toNat (gt x11 (w64 (x12 - 1)))).set (w64 (x12 - 1)).toNat (gt x11 x12)) (.slice A1 ((x11.set x12.toNat (gt x11 (w64 (x12 - 1)))).set (w64 (x12 - 1)).toNat (gt x11 x12)).length c_1)] _ _ := h40
                    refine ⟨⟨[_], h40⟩, ?_⟩
                    have e29 : ((x11.set x12.toNat (gt x11 (w64 (x12 - 1)))).set (w64 (x12 - 1)).toNat (gt x11 x12)).length = a0.length := List.length_set.trans e28
                    refine HJ.fin [(0, .slice A1 x11.length c_1), (1, .int .i64 a1), (2, .int .i64 a2), (7, .int .i64 x6), (8, .int .i64 x3), (9, .int .i64 x12)] rfl rfl ?_
                    exact thenP_intro ⟨(by simp only [List.length_set]), ((h40.only [0] rfl).rds [] rfl)⟩
                rintro env w32 ⟨rfl, h41⟩
                have e30 : ((x11.set x12.toNat (gt x11 (w64 (x12 - 1)))).set (w64 (x12 - 1)).toNat (gt x11 x12)).length = a0.length := by first | (simp only [List.length_set]; done) | (simp only [List.length_set]; exact e22)
                refine J.region ?_
                refine RJ.run ttok 3 rfl ?_
                refine RJ.fin [(0, .slice A1 ((x11.set x12.toNat (gt x11 (w64 (x12 - 1)))).set (w64 (x12 - 1)).toNat (gt x11 x12)).length c_1), (1, _), (2, _), (7, _), (8, _), (9, .int .i64 (w64 (x12 - 1)))] rfl ?_
                have h42 := ((h41.only [0] rfl).rds [] rfl)
                exact ⟨k6, by omega, ((x11.set x12.toNat (gt x11 (w64 (x12 - 1)))).set (w64 (x12 - 1)).toNat (gt x11 x12)), (w64 (x12 - 1)), rfl, h42, H, by omega, e30⟩
              replace H := ite_f c8 H
              refine J.narrow [(0, _), (1, _), (2, _), (7, _), (8, _)] rfl ?_
              refine J.exit ?_
              have h43 := ((h30.only [0] rfl).rds [] rfl)
              exact ⟨k6, x11, rfl, h43, H, by omega, e22⟩
          replace H := ite_f c7 H
          refine J.narrow [(0, _), (1, _), (2, _), (7, _), (8, _)] rfl ?_
          refine J.skip ?_
          have h45 := ((h12.only [0] rfl).rds [] rfl)
          exact ⟨k3, ((x1.set x6.toNat (gt x1 (w64 (x6 - 1)))).set (w64 (x6 - 1)).toNat (gt x1 x6)), rfl, h45, H, Nat.le_refl _, e11⟩
        rintro env w14 ⟨k4, x8, rfl, h13, H, hk4, e12⟩
        refine J.seq (J.region ?_)
        refine RJ.run ttok 4 rfl ?_
        refine RJ.fin [(0, _), (1, _), (2, _), (7, _), (8, _), (98, .bool (decide (2 ≤ (w64 (a2 - x6)))))] rfl ?_
        refine J.cond rfl (fun c4 => ?_) (fun c4 => ?_)
        · replace H := ite_t c4 H
          refine J.seq (J.region ?_)
          refine RJ.run ttok 3 rfl ?_
          refine RJ.fin [(0, _), (1, _), (2, _), (7, _), (8, _), (10, .int .i64 (w64 (x6 + 1)))] rfl ?_
          refine J.block ?_
          have h28 := ((h13.only [0] rfl).rds [] rfl)
          refine J.loop (fun kk env w => ∃ (x9 : List (Int)) (x10 : Int), env = [(0, .slice A1 x9.length c_1), (1, .int .i64 a1), (2, .int .i64 a2), (7, .int .i64 x6), (8, .int .i64 x3), (10, .int .i64 x10)] ∧ St w0 F0 [ownC 23 (.int .u32) x9 (.slice A1 x9.length c_1)] [] w ∧ Q43.l1 kk a1 a2 x3 x6 x9 x10 = some r ∧ kk ≤ k4 ∧ x9.length = a0.length) (k := k4) ⟨x8, (w64 (x6 + 1)), rfl, h28, H, Nat.le_refl _, e12⟩ ?_
          rintro k5 env w15 ⟨x9, x10, rfl, h14, H, hk5, e13⟩
          cases k5 with
          | zero => exact nomatch (show none = some r from H)
          | succ k5 =>
            rw [Q43.l1] at H
            refine J.seq (J.seq (J.region ?_))
            refine RJ.run ttok 3 rfl ?_
            refine RJ.fin [(0, _), (1, _), (2, _), (7, _), (8, _), (10, _), (103, .bool (decide (x10 < a2)))] rfl ?_
            refine J.cond rfl (fun c5 => ?_) (fun c5 => ?_)
            · replace H := ite_t c5 H
              refine J.skip ?_
              refine J.seq (J.block (J.seq (J.seq ?_)))
              refine J.heldSt mix h14 ?_
              have h15 := h14.drew
              refine HJ.run ttok rfl [0, 1, 4, 5, 6] rfl ?_
              obtain ⟨⟨p5, p6⟩, H⟩ := guard_t H
              have e14 := elem_A h15.wh (Gives.of 0 rfl own_rd) p5 p6
              refine HJ.q (i := 2) rfl rfl rfl rfl rfl rfl (q_index ttok rfl rfl rfl rfl rfl e14 p5 p6) ?_
              refine HJ.q (i := 3) rfl rfl rfl rfl rfl rfl (q_load_elem (f := 0) ttok rfl (fun w e => e) (Gives.of 0 rfl own_rd) p5 p6 rfl rfl rfl rfl rfl) ?_
              obtain ⟨⟨p7, p8⟩, H⟩ := guard_t H
              refine HJ.q (i := 7) rfl rfl rfl rfl rfl rfl (q_index ttok rfl rfl rfl rfl rfl e14 p7 p8) ?_
              refine HJ.q (i := 8) rfl rfl rfl rfl rfl rfl (q_load_elem (f := 0) ttok rfl (fun w e => e) (Gives.of 0 rfl own_rd) p7 p8 rfl rfl rfl rfl rfl) ?_
              obtain ⟨r1, q1, H⟩ := bind_t H
              refine HJ.op (i := 9) rfl rfl rfl rfl rfl (op_call [] (Q24.spec q1) rfl rfl rfl h15 rfl gnil) ?_
              rintro _ w16 ⟨_, ⟨rfl, rfl⟩, h16⟩
              replace h16 : St w0 F0 [_] _ _ := h16
              refine ⟨⟨[], h16⟩, ?_⟩
              refine HJ.run ttok rfl [10] rfl ?_
              refine HJ.fin [(0, _), (1, _), (2, _), (7, _), (8, _), (10, _), (116, .bool (!r1))] rfl rfl ?_
              refine J.cond rfl (fun c6 => ?_) (fun c6 => ?_)
              · replace H := ite_t c6 H
                refine J.narrow [(0, _), (1, _), (2, _), (7, _), (8, _)] rfl ?_
                refine J.exit ?_
                have h17 := ((h16.only [0] rfl).rds [] rfl)
                exact ⟨k5, x9, x6, rfl, h17, H, by omega, e13⟩
              replace H := ite_f c6 H
              refine J.skip ?_
              refine J.mid (fun env w => env = [(0, .slice A1 ((x9.set x10.toNat (gt x9 (w64 (x10 - 1)))).set (w64 (x10 - 1)).toNat (gt x9 x10)).length c_1), (1, .int .i64 a1), (2, .int .i64 a2), (7, .int .i64 x6), (8, .int .i64 x3), (10, .int .i64 x10)] ∧ St w0 F0 [ownC 23 (.int .u32) ((x9.set x10.toNat (gt x9 (w64 (x10 - 1)))).set (w64 (x10 - 1)).toNat (gt x9 x10)) (.slice A1 ((x9.set x10.toNat (gt x9 (w64 (x10 - 1)))).set (w64 (x10 - 1)).toNat (gt x9 x10)).length c_1)] [] w) ?_ ?_
              · refine J.heldSt mix (h16.only [] rfl) ?_
                have h20 := h16.drew
                refine HJ.run ttok rfl [0, 1, 2, 3, 4, 5, 6, 7, 10, 11] rfl ?_
                refine HJ.q (i := 8) rfl rfl rfl rfl rfl rfl (q_index ttok rfl rfl rfl rfl rfl e14 p7 p8) ?_
                refine HJ.q (i := 12) rfl rfl rfl rfl rfl rfl (q_index ttok rfl rfl rfl rfl rfl e14 p5 p6) ?_
                refine HJ.pick [9, 13] (i := 9) rfl rfl rfl rfl ?_
                refine (hscons ?_ (hscons ?_ hsnil))
                · refine HS.op (i := 9) rfl rfl rfl (OpT.ofq (q_load_elem (f := 0) ttok rfl h20.wht (Gives.of 0 rfl own_rd) p7 p8 rfl rfl rfl rfl rfl)) ?_
                  rintro _ _ ⟨rfl, rfl⟩
                  replace h20 : St w0 F0 [_] _ _ := h20
                  refine ⟨⟨[_], h20⟩, ?_⟩
                  refine HJ.op (i := 13) rfl rfl rfl rfl rfl (OpT.ofq (q_load_elem (f := 0) ttok rfl h20.wht (Gives.of 0 rfl own_rd) p5 p6 rfl rfl rfl rfl rfl)) ?_
                  rintro _ _ ⟨rfl, rfl⟩
                  replace h20 : St w0 F0 [_] _ _ := h20
                  refine ⟨⟨[_], h20⟩, ?_⟩
                  refine HJ.q (i := 14) rfl rfl rfl rfl rfl rfl (q_index ttok rfl rfl rfl rfl rfl e14 p5 p6) ?_
                  refine HJ.op (i := 15) rfl rfl rfl rfl rfl (op_store_elem (ty := (.int .u32)) (f := 0) (ix := x10) ttok rfl (gt x9 (w64 (x10 - 1))) 0 rfl h20 rfl rfl p5 p6 rfl rfl rfl rfl rfl rfl rfl) ?_
                  intro _ w19 h21
                  replace h21 : St w0 F0 [ownC 23 (.int .u32) (x9.set x10.toNat (gt x9 (w64 (x10 - 1)))) (.slice A1 (x9.set x10.toNat (gt x9 (w64 (x10 - 1)))).length c_1)] _ _ := h21
                  refine ⟨⟨[_], h21⟩, ?_⟩
                  have e17 : (x9.set x10.toNat (gt x9 (w64 (x10 - 1)))).length = a0.length := List.length_set.trans e13
                  refine HJ.q (i := 16) rfl rfl rfl rfl rfl rfl (q_index ttok rfl rfl rfl rfl rfl e14 p7 p8) ?_
                  refine HJ.op (i := 17) rfl rfl rfl rfl rfl (op_store_elem (ty := (.int .u32)) (f := 0) (ix := (w64 (x10 - 1))) ttok rfl (gt x9 x10) 0 rfl h21 rfl rfl p7 (by simpa only [List.length_set] using p8) rfl rfl rfl rfl rfl rfl rfl) ?_
                  intro _ w20 h22
                  replace h22 : St w0 F0 [ownC 23 (.int .u32) ((x9.set x10.toNat (gt x9 (w64 (x10 - 1)))).set (w64 (x10 - 1)).toNat (gt x9 x10)) (.slice A1 ((x9.set x10.toNat (gt x9 (w64 (x10 - 1)))).set (w64 (x10 - 1)).toNat (gt x9 x10)).length c_1)] _ _ := h22
                  refine ⟨⟨[_], h22⟩, ?_⟩
                  have e18 : ((x9.set x10.toNat (gt x9 (w64 (x10 - 1)))).set (w64 (x10 - 1)).toNat (gt x9 x10)).length = a0.length := List.length_set.trans e17
                  refine HJ.fin [(0, .slice A1 x9.length c_1), (1, .int .i64 a1), (2, .int .i64 a2), (7, .int .i64 x6), (8, .int .i64 x3), (10, .int .i64 x10)] rfl rfl ?_
                  exact thenP_intro ⟨(by simp only [List.length_set]), ((h22.only [0] rfl).rds [] rfl)⟩
                · refine HS.op (i := 13) rfl rfl rfl (OpT.ofq (q_load_elem (f := 0) ttok rfl h20.wht (Gives.of 0 rfl own_rd) p5 p6 rfl rfl rfl rfl rfl)) ?_
                  rintro _ _ ⟨rfl, rfl⟩
                  replace h20 : St w0 F0 [_] _ _ := h20
                  refine ⟨⟨[_], h20⟩, ?_⟩
                  refine HJ.op (i := 9) rfl rfl rfl rfl rfl (OpT.ofq (q_load_elem (f := 0) ttok rfl h20.wht (Gives.of 0 rfl own_rd) p7 p8 rfl rfl rfl rfl rfl)) ?_
                  rintro _ _ ⟨rfl, rfl⟩
                  replace h20 : St w0 F0 [_] _ _ := h20
                  refine ⟨⟨[_], h20⟩, ?_⟩
                  refine HJ.q (i := 14) rfl rfl rfl rfl rfl rfl (q_index ttok rfl rfl rfl rfl rfl e14 p5 p6) ?_
                  refine HJ.op (i := 15) rfl rfl rfl rfl rfl (op_store_elem (ty := (.int .u32)) (f := 0) (ix := x10) ttok rfl (gt x9 (w64 (x10 - 1))) 0 rfl h20 rfl rfl p5 p6 rfl rfl rfl rfl rfl rfl rfl) ?_
                  intro _ w21 h23
                  replace h23 : St w0 F0 [ownC 23 (.int .u32) (x9.set x10.toNat (gt x9 (w64 (x10 - 1)))) (.slice A1 (x9.set x10.toNat (gt x9 (w64 (x10 - 1)))).length c_1)] _ _ := h23
                  refine ⟨⟨[_], h23⟩, ?_⟩
                  have e19 : (x9.set x10.toNat (gt x9 (w64 (x10 - 1)))).length = a0.length := List.length_set.trans e13
                  refine HJ.q (i := 16) rfl rfl rfl rfl rfl rfl (q_index ttok rfl rfl rfl rfl rfl e14 p7 p8) ?_
                  refine HJ.op (i := 17) rfl rfl rfl rfl rfl (op_store_elem (ty := (.int .u32)) (f := 0) (ix := (w64 (x10 - 1))) ttok rfl (gt x9 x10) 0 rfl h23 rfl rfl p7 (by simpa only [List.length_set] using p8) rfl rfl rfl rfl rfl rfl rfl) ?_
                  intro _ w22 h24
                  replace h24 : St w0 F0 [ownC 23 (.int .u32) ((x9.set x10.toNat (gt x9 (w64 (x10 - 1)))).set (w64 (x10 - 1)).toNat (gt x9 x10)) (.slice A1 ((x9.set x10.toNat (gt x9 (w64 (x10 - 1)))).set (w64 (x10 - 1)).toNat (gt x9 x10)).length c_1)] _ _ := h24
                  refine ⟨⟨[_], h24⟩, ?_⟩
                  have e20 : ((x9.set x10.toNat (gt x9 (w64 (x10 - 1)))).set (w64 (x10 - 1)).toNat (gt x9 x10)).length = a0.length := List.length_set.trans e19
                  refine HJ.fin [(0, .slice A1 x9.length c_1), (1, .int .i64 a1), (2, .int .i64 a2), (7, .int .i64 x6), (8, .int .i64 x3), (10, .int .i64 x10)] rfl rfl ?_
                  exact thenP_intro ⟨(by simp only [List.length_set]), ((h24.only [0] rfl).rds [] rfl)⟩
              rintro env w23 ⟨rfl, h25⟩
              have e21 : ((x9.set x10.toNat (gt x9 (w64 (x10 - 1)))).set (w64 (x10 - 1)).toNat (gt x9 x10)).length = a0.length := by first | (simp only [List.length_set]; done) | (simp only [List.length_set]; exact e13)
              refine J.region ?_
              refine RJ.run ttok 3 rfl ?_
              refine RJ.fin [(0, .slice A1 ((x9.set x10.toNat (gt x9 (w64 (x10 - 1)))).set (w64 (x10 - 1)).toNat (gt x9 x10)).length c_1), (1, _), (2, _), (7, _), (8, _), (10, .int .i64 (w64 (x10 + 1)))] rfl ?_
              have h26 := ((h25.only [0] rfl).rds [] rfl)
              exact ⟨k5, by omega, ((x9.set x10.toNat (gt x9 (w64 (x10 - 1)))).set (w64 (x10 - 1)).toNat (gt x9 x10)), (w64 (x10 + 1)), rfl, h26, H, by omega, e21⟩
            replace H := ite_f c5 H
            refine J.narrow [(0, _), (1, _), (2, _), (7, _), (8, _)] rfl ?_
            refine J.exit ?_
            have h27 := ((h14.only [0] rfl).rds [] rfl)
            exact ⟨k5, x9, x6, rfl, h27, H, by omega, e13⟩
        replace H := ite_f c4 H
        refine J.narrow [(0, _), (1, _), (2, _), (7, _), (8, _)] rfl ?_
        refine J.skip ?_
        have h29 := ((h13.only [0] rfl).rds [] rfl)
        exact ⟨k4, x8, x6, rfl, h29, H, by omega, e12⟩
      rintro env w3 ⟨k2, x4, x5, rfl, h2, H, hk2, e2⟩
      refine J.region ?_
      refine RJ.run ttok 3 rfl ?_
      refine RJ.fin [(0, _), (1, _), (2, _), (7, _), (8, .int .i64 (w64 (x3 + 1)))] rfl ?_
      have h3 := ((h2.only [0] rfl).rds [] rfl)
      exact ⟨k2, by omega, x4, x5, (w64 (x3 + 1)), rfl, h3, H, e2⟩
    replace H := ite_f c1 H
    refine J.exit ?_
    refine J.seq (J.region ?_)
    refine RJ.run ttok 1 rfl ?_
    refine RJ.fin [(6, .bool false)] rfl ?_
    refine J.ret ?_
    obtain rfl := Option.some.inj H
    exact ⟨_, _, _, (results_slots rfl), ⟨rfl, rfl, e1⟩, h1.only [0] rfl⟩

mutual
def Q44.l0 : Nat → (Int) → (List (Int)) → (Int) → (Int) → Option (Int × List (Int))
  | 0, _, _, _, _ => none
  | k + 1, a1, x1, x2, x3 => Q44.l1 k a1 x1 x3 x2
def Q44.l1 : Nat → (Int) → (List (Int)) → (Int) → (Int) → Option (Int × List (Int))
  | 0, _, _, _, _ => none
  | k + 1, a1, x1, x3, x4 => if (decide (x4 ≤ x3)) = true then (if 0 ≤ a1 ∧ a1 < (x1.length : Int) then (if 0 ≤ x4 ∧ x4 < (x1.length : Int) then ((Q24.f (gt x1 a1) (gt x1 x4)).bind fun r1 => (if (!r1) = true then (Q44.l1 k a1 x1 x3 (w64 (x4 + 1))) else (Q44.l2 k a1 x1 x4 x3))) else none) else none) else (Q44.l3 k a1 x1 x3 x4)
def Q44.l2 : Nat → (Int) → (List (Int)) → (Int) → (Int) → Option (Int × List (Int))
  | 0, _, _, _, _ => none
  | k + 1, a1, x1, x4, x5 => if (decide (x4 ≤ x5)) = true then (if 0 ≤ x5 ∧ x5 < (x1.length : Int) then ((Q24.f (gt x1 a1) (gt x1 x5)).bind fun r2 => (if r2 = true then (Q44.l2 k a1 x1 x4 (w64 (x5 - 1))) else (if (decide (x5 < x4)) = true then (some (x4, x1)) else (Q44.l0 k a1 ((x1.set x4.toNat (gt x1 x5)).set x5.toNat (gt x1 x4)) (w64 (x4 + 1)) (w64 (x5 - 1)))))) else none) else (if (decide (x5 < x4)) = true then (some (x4, x1)) else (if 0 ≤ x5 ∧ x5 < (x1.length : Int) then (Q44.l0 k a1 ((x1.set x4.toNat (gt x1 x5)).set x5.toNat (gt x1 x4)) (w64 (x4 + 1)) (w64 (x5 - 1))) else none))
def Q44.l3 : Nat → (Int) → (List (Int)) → (Int) → (Int) → Option (Int × List (Int))
  | 0, _, _, _, _ => none
  | k + 1, a1, x1, x3, x4 => if (decide (x3 < x4)) = true then (some (x4, x1)) else (if 0 ≤ x3 ∧ x3 < (x1.length : Int) then (if 0 ≤ x4 ∧ x4 < (x1.length : Int) then (Q44.l0 k a1 ((x1.set x4.toNat (gt x1 x3)).set x3.toNat (gt x1 x4)) (w64 (x4 + 1)) (w64 (x3 - 1))) else none) else none)
end
def Q44.f (k : Nat) (a0 : List (Int)) (a1 : Int) (a2 : Int) (a3 : Int) : Option (Int × List (Int)) := if 0 ≤ a3 ∧ a3 < (a0.length : Int) then (if 0 ≤ a1 ∧ a1 < (a0.length : Int) then (Q44.l0 k a1 ((a0.set a1.toNat (gt a0 a3)).set a3.toNat (gt a0 a1)) (w64 (a1 + 1)) (w64 (a2 - 1))) else none) else none
theorem Q44.spec {k : Nat} {a0 : List (Int)} {a1 : Int} {a2 : Int} {a3 : Int} {A1 : Option Addr} {c_1 : Nat} {r : Int × List (Int)} (H : Q44.f k a0 a1 a2 a3 = some r) :
    Spec Try.prog 175 [.slice A1 a0.length c_1, .int .i64 a1, .int .i64 a2, .int .i64 a3] [ownC 23 (.int .u32) a0 (.slice A1 a0.length c_1)] [] (fun v l => v = .int .i64 r.1 ∧ l = [ownC 23 (.int .u32) r.2 (.slice A1 r.2.length c_1)] ∧ r.2.length = a0.length) := by
  refine Spec.enter Try.func175 rfl (by kernel_rfl) (by kernel_rfl) fun w0 F0 h0 => ?_
  unfold Q44.f at H
  refine J.seq (J.region ?_)
  refine RJ.run ttok 1 rfl ?_
  refine RJ.fin [(0, .slice A1 a0.length c_1), (1, .int .i64 a1), (2, .int .i64 a2), (3, .int .i64 a3)] rfl ?_
  refine J.seq ?_
  obtain ⟨⟨p1, p2⟩, H⟩ := guard_t H
  obtain ⟨⟨p3, p4⟩, H⟩ := guard_t H
  refine J.midS (fun env w => env = [(0, .slice A1 ((a0.set a1.toNat (gt a0 a3)).set a3.toNat (gt a0 a1)).length c_1), (1, .int .i64 a1), (2, .int .i64 a2)] ∧ St w0 F0 [ownC 23 (.int .u32) ((a0.set a1.toNat (gt a0 a3)).set a3.toNat (gt a0 a1)) (.slice A1 ((a0.set a1.toNat (gt a0 a3)).set a3.toNat (gt a0 a1)).length c_1)] [] w) ?_ ?_
  · refine J.heldSt mix (h0.only [] rfl) ?_
    have h3 := h0.drew
    refine HJ.run ttok rfl [0, 1, 2, 3, 4, 5, 8, 9] rfl ?_
    have e4 := elem_A h3.wh (Gives.of 0 rfl own_rd) p1 p2
    refine HJ.q (i := 6) rfl rfl rfl rfl rfl rfl (q_index ttok rfl rfl rfl rfl rfl e4 p1 p2) ?_
    refine HJ.q (i := 10) rfl rfl rfl rfl rfl rfl (q_index ttok rfl rfl rfl rfl rfl e4 p3 p4) ?_
    refine HJ.pick [7, 11] (i := 7) rfl rfl rfl rfl ?_
    refine (hscons ?_ (hscons ?_ hsnil))
    · refine HS.op (i := 7) rfl rfl rfl (OpT.ofq (q_load_elem (f := 0) ttok rfl h3.wht (Gives.of 0 rfl own_rd) p1 p2 rfl rfl rfl rfl rfl)) ?_
      rintro _ _ ⟨rfl, rfl⟩
      replace h3 : St w0 F0 [ownC 23 (.int .u32) a0 (.slice A1 a0.length c_1)] _ _ := h3
      refine ⟨⟨[_], h3⟩, ?_⟩
      refine HJ.op (i := 11) rfl rfl rfl rfl rfl (OpT.ofq (q_load_elem (f := 0) ttok rfl h3.wht (Gives.of 0 rfl own_rd) p3 p4 rfl rfl rfl rfl rfl)) ?_
      rintro _ _ ⟨rfl, rfl⟩
      replace h3 : St w0 F0 [_] _ _ := h3
      refine ⟨⟨[_], h3⟩, ?_⟩
      refine HJ.q (i := 12) rfl rfl rfl rfl rfl rfl (q_index ttok rfl rfl rfl rfl rfl e4 p3 p4) ?_
      refine HJ.op (i := 13) rfl rfl rfl rfl rfl (op_store_elem (ty := (.int .u32)) (f := 0) (ix := a1) ttok rfl (gt a0 a3) 0 rfl h3 rfl rfl p3 p4 rfl rfl rfl rfl rfl rfl rfl) ?_
      intro _ w3 h4
      replace h4 : St w0 F0 [ownC 23 (.int .u32) (a0.set a1.toNat (gt a0 a3)) (.slice A1 (a0.set a1.toNat (gt a0 a3)).length c_1)] _ _ := h4
      refine ⟨⟨[_], h4⟩, ?_⟩
      have e5 : (a0.set a1.toNat (gt a0 a3)).length = a0.length := List.length_set.trans (rfl : a0.length = a0.length)
      refine HJ.q (i := 14) rfl rfl rfl rfl rfl rfl (q_index ttok rfl rfl rfl rfl rfl e4 p1 p2) ?_
      refine HJ.op (i := 15) rfl rfl rfl rfl rfl (op_store_elem (ty := (.int .u32)) (f := 0) (ix := a3) ttok rfl (gt a0 a1) 0 rfl h4 rfl rfl p1 (by simpa only [List.length_set] using p2) rfl rfl rfl rfl rfl rfl rfl) ?_
      intro _ w4 h5
      replace h5 : St w0 F0 [ownC 23 (.int .u32) ((a0.set a1.toNat (gt a0 a3)).set a3.toNat (gt a0 a1)) (.slice A1 ((a0.set a1.toNat (gt a0 a3)).set a3.toNat (gt a0 a1)).length c_1)] _ _ := h5
      refine ⟨⟨[_], h5⟩, ?_⟩
      have e6 : ((a0.set a1.toNat (gt a0 a3)).set a3.toNat (gt a0 a1)).length = a0.length := List.length_set.trans e5
      refine HJ.fin [(0, .slice A1 a0.length c_1), (1, .int .i64 a1), (2, .int .i64 a2)] rfl rfl ?_
      exact thenP_intro ⟨(by simp only [List.length_set]), ((h5.only [0] rfl).rds [] rfl)⟩
    · refine HS.op (i := 11) rfl rfl rfl (OpT.ofq (q_load_elem (f := 0) ttok rfl h3.wht (Gives.of 0 rfl own_rd) p3 p4 rfl rfl rfl rfl rfl)) ?_
      rintro _ _ ⟨rfl, rfl⟩
      replace h3 : St w0 F0 [ownC 23 (.int .u32) a0 (.slice A1 a0.length c_1)] _ _ := h3
      refine ⟨⟨[_], h3⟩, ?_⟩
      refine HJ.op (i := 7) rfl rfl rfl rfl rfl (OpT.ofq (q_load_elem (f := 0) ttok rfl h3.wht (Gives.of 0 rfl own_rd) p1 p2 rfl rfl rfl rfl rfl)) ?_
      rintro _ _ ⟨rfl, rfl⟩
      replace h3 : St w0 F0 [_] _ _ := h3
      refine ⟨⟨[_], h3⟩, ?_⟩
      refine HJ.q (i := 12) rfl rfl rfl rfl rfl rfl (q_index ttok rfl rfl rfl rfl rfl e4 p3 p4) ?_
      refine HJ.op (i := 13) rfl rfl rfl rfl rfl (op_store_elem (ty := (.int .u32)) (f := 0) (ix := a1) ttok rfl (gt a0 a3) 0 rfl h3 rfl rfl p3 p4 rfl rfl rfl rfl rfl rfl rfl) ?_
      intro _ w5 h6
      replace h6 : St w0 F0 [ownC 23 (.int .u32) (a0.set a1.toNat (gt a0 a3)) (.slice A1 (a0.set a1.toNat (gt a0 a3)).length c_1)] _ _ := h6
      refine ⟨⟨[_], h6⟩, ?_⟩
      have e7 : (a0.set a1.toNat (gt a0 a3)).length = a0.length := List.length_set.trans (rfl : a0.length = a0.length)
      refine HJ.q (i := 14) rfl rfl rfl rfl rfl rfl (q_index ttok rfl rfl rfl rfl rfl e4 p1 p2) ?_
      refine HJ.op (i := 15) rfl rfl rfl rfl rfl (op_store_elem (ty := (.int .u32)) (f := 0) (ix := a3) ttok rfl (gt a0 a1) 0 rfl h6 rfl rfl p1 (by simpa only [List.length_set] using p2) rfl rfl rfl rfl rfl rfl rfl) ?_
      intro _ w6 h7
      replace h7 : St w0 F0 [ownC 23 (.int .u32) ((a0.set a1.toNat (gt a0 a3)).set a3.toNat (gt a0 a1)) (.slice A1 ((a0.set a1.toNat (gt a0 a3)).set a3.toNat (gt a0 a1)).length c_1)] _ _ := h7
      refine ⟨⟨[_], h7⟩, ?_⟩
      have e8 : ((a0.set a1.toNat (gt a0 a3)).set a3.toNat (gt a0 a1)).length = a0.length := List.length_set.trans e7
      refine HJ.fin [(0, .slice A1 a0.length c_1), (1, .int .i64 a1), (2, .int .i64 a2)] rfl rfl ?_
      exact thenP_intro ⟨(by simp only [List.length_set]), ((h7.only [0] rfl).rds [] rfl)⟩
  rintro env w7 ⟨rfl, h8⟩
  have e9 : ((a0.set a1.toNat (gt a0 a3)).set a3.toNat (gt a0 a1)).length = a0.length := by first | (simp only [List.length_set]; done) | (simp only [List.length_set]; exact (rfl : a0.length = a0.length))
  refine J.seq (J.region ?_)
  refine RJ.run ttok 6 rfl ?_
  refine RJ.fin [(0, .slice A1 ((a0.set a1.toNat (gt a0 a3)).set a3.toNat (gt a0 a1)).length c_1), (1, _), (9, .int .i64 (w64 (a1 + 1))), (10, .int .i64 (w64 (a2 - 1)))] rfl ?_
  refine J.seq (J.block ?_)
  have h50 := ((h8.only [0] rfl).rds [] rfl)
  refine J.loop (fun kk env w => ∃ (x1 : List (Int)) (x2 : Int) (x3 : Int), env = [(0, .slice A1 x1.length c_1), (1, .int .i64 a1), (9, .int .i64 x2), (10, .int .i64 x3)] ∧ St w0 F0 [ownC 23 (.int .u32) x1 (.slice A1 x1.length c_1)] [] w ∧ Q44.l0 kk a1 x1 x2 x3 = some r ∧ x1.length = a0.length) (k := k) ⟨((a0.set a1.toNat (gt a0 a3)).set a3.toNat (gt a0 a1)), (w64 (a1 + 1)), (w64 (a2 - 1)), rfl, h50, H, e9⟩ ?_
  rintro k1 env w8 ⟨x1, x2, x3, rfl, h9, H, e10⟩
  cases k1 with
  | zero => exact nomatch (show none = some r from H)
  | succ k1 =>
    rw [Q44.l0] at H
    refine J.block (J.seq (J.block ?_))
    have h49 := ((h9.only [0] rfl).rds [] rfl)
    refine J.loop (fun kk env w => ∃ (x4 : Int), env = [(0, .slice A1 x1.length c_1), (1, .int .i64 a1), (9, .int .i64 x4), (10, .int .i64 x3)] ∧ St w0 F0 [ownC 23 (.int .u32) x1 (.slice A1 x1.length c_1)] [] w ∧ Q44.l1 kk a1 x1 x3 x4 = some r ∧ kk ≤ k1) (k := k1) ⟨x2, rfl, h49, H, Nat.le_refl _⟩ ?_
    rintro k2 env w9 ⟨x4, rfl, h10, H, hk2⟩
    cases k2 with
    | zero => exact nomatch (show none = some r from H)
    | succ k2 =>
      rw [Q44.l1] at H
      refine J.seq (J.seq ?_)
      refine J.heldSt mix h10 ?_
      have h11 := h10.drew
      refine HJ.run ttok rfl [0, 1, 2, 3] rfl ?_
      rcases Bool.eq_false_or_eq_true (decide (x4 ≤ x3)) with c1 | c1
      · replace H := ite_t c1 H
        refine HJ.know (t := 32) rfl (congrArg Value.bool c1) ?_
        refine HJ.run ttok rfl [4, 5, 8, 9] rfl ?_
        obtain ⟨⟨p5, p6⟩, H⟩ := guard_t H
        have e11 := elem_A h11.wh (Gives.of 0 rfl own_rd) p5 p6
        refine HJ.q (i := 6) rfl rfl rfl rfl rfl rfl (q_index ttok rfl rfl rfl rfl rfl e11 p5 p6) ?_
        refine HJ.q (i := 7) rfl rfl rfl rfl rfl rfl (q_load_elem (f := 0) ttok rfl (fun w e => e) (Gives.of 0 rfl own_rd) p5 p6 rfl rfl rfl rfl rfl) ?_
        obtain ⟨⟨p7, p8⟩, H⟩ := guard_t H
        refine HJ.q (i := 10) rfl rfl rfl rfl rfl rfl (q_index ttok rfl rfl rfl rfl rfl e11 p7 p8) ?_
        refine HJ.q (i := 11) rfl rfl rfl rfl rfl rfl (q_load_elem (f := 0) ttok rfl (fun w e => e) (Gives.of 0 rfl own_rd) p7 p8 rfl rfl rfl rfl rfl) ?_
        obtain ⟨r1, q1, H⟩ := bind_t H
        refine HJ.op (i := 12) rfl rfl rfl rfl rfl (op_call [] (Q24.spec q1) rfl rfl rfl h11 rfl gnil) ?_
        rintro _ w10 ⟨_, ⟨rfl, rfl⟩, h12⟩
        replace h12 : St w0 F0 [_] _ _ := h12
        refine ⟨⟨[], h12⟩, ?_⟩
        refine HJ.run ttok rfl [13, 14] rfl ?_
        refine HJ.fin [(0, _), (1, _), (9, _), (10, _), (43, .bool (!r1))] rfl rfl ?_
        refine J.cond rfl (fun c2 => ?_) (fun c2 => ?_)
        · replace H := ite_t c2 H
          refine J.skip ?_
          refine J.block (J.region ?_)
          refine RJ.run ttok 3 rfl ?_
          refine RJ.fin [(0, _), (1, _), (9, .int .i64 (w64 (x4 + 1))), (10, _)] rfl ?_
          have h13 := ((h12.only [0] rfl).rds [] rfl)
          exact ⟨k2, by omega, (w64 (x4 + 1)), rfl, h13, H, by omega⟩
        replace H := ite_f c2 H
        refine J.exit ?_
        refine J.seq (J.block ?_)
        refine J.narrow [(0, _), (1, _), (9, _), (10, _)] rfl ?_
        have h36 := ((h12.only [0] rfl).rds [] rfl)
        refine J.loop (fun kk env w => ∃ (x5 : Int), env = [(0, .slice A1 x1.length c_1), (1, .int .i64 a1), (9, .int .i64 x4), (10, .int .i64 x5)] ∧ St w0 F0 [ownC 23 (.int .u32) x1 (.slice A1 x1.length c_1)] [] w ∧ Q44.l2 kk a1 x1 x4 x5 = some r ∧ kk ≤ k2) (k := k2) ⟨x3, rfl, h36, H, Nat.le_refl _⟩ ?_
        rintro k3 env w11 ⟨x5, rfl, h14, H, hk3⟩
        cases k3 with
        | zero => exact nomatch (show none = some r from H)
        | succ k3 =>
          rw [Q44.l2] at H
          refine J.seq (J.seq ?_)
          refine J.heldSt mix h14 ?_
          have h15 := h14.drew
          refine HJ.run ttok rfl [0, 1, 2, 3] rfl ?_
          rcases Bool.eq_false_or_eq_true (decide (x4 ≤ x5)) with c3 | c3
          · replace H := ite_t c3 H
            refine HJ.know (t := 49) rfl (congrArg Value.bool c3) ?_
            refine HJ.run ttok rfl [4, 5, 8, 9] rfl ?_
            refine HJ.q (i := 6) rfl rfl rfl rfl rfl rfl (q_index ttok rfl rfl rfl rfl rfl e11 p5 p6) ?_
            refine HJ.q (i := 7) rfl rfl rfl rfl rfl rfl (q_load_elem (f := 0) ttok rfl (fun w e => e) (Gives.of 0 rfl own_rd) p5 p6 rfl rfl rfl rfl rfl) ?_
            obtain ⟨⟨p9, p10⟩, H⟩ := guard_t H
            refine HJ.q (i := 10) rfl rfl rfl rfl rfl rfl (q_index ttok rfl rfl rfl rfl rfl e11 p9 p10) ?_
            refine HJ.q (i := 11) rfl rfl rfl rfl rfl rfl (q_load_elem (f := 0) ttok rfl (fun w e => e) (Gives.of 0 rfl own_rd) p9 p10 rfl rfl rfl rfl rfl) ?_
            obtain ⟨r2, q2, H⟩ := bind_t H
            refine HJ.op (i := 12) rfl rfl rfl rfl rfl (op_call [] (Q24.spec q2) rfl rfl rfl h15 rfl gnil) ?_
            rintro _ w12 ⟨_, ⟨rfl, rfl⟩, h16⟩
            replace h16 : St w0 F0 [_] _ _ := h16
            refine ⟨⟨[], h16⟩, ?_⟩
            refine HJ.run ttok rfl [13] rfl ?_
            refine HJ.fin [(0, _), (1, _), (9, _), (10, _), (59, .bool r2)] rfl rfl ?_
            refine J.cond rfl (fun c4 => ?_) (fun c4 => ?_)
            · replace H := ite_t c4 H
              refine J.skip ?_
              refine J.block (J.region ?_)
              refine RJ.run ttok 3 rfl ?_
              refine RJ.fin [(0, _), (1, _), (9, _), (10, .int .i64 (w64 (x5 - 1)))] rfl ?_
              have h17 := ((h16.only [0] rfl).rds [] rfl)
              exact ⟨k3, by omega, (w64 (x5 - 1)), rfl, h17, H, by omega⟩
            replace H := ite_f c4 H
            refine J.exit ?_
            refine J.seq (J.seq (J.region ?_))
            refine RJ.run ttok 3 rfl ?_
            refine RJ.fin [(0, _), (1, _), (9, _), (10, _), (64, .bool (decide (x5 < x4)))] rfl ?_
            refine J.cond rfl (fun c5 => ?_) (fun c5 => ?_)
            · replace H := ite_t c5 H
              refine J.exit ?_
              refine J.seq (J.region ?_)
              refine RJ.run ttok 2 rfl ?_
              refine RJ.fin [(8, .int .i64 x4)] rfl ?_
              refine J.ret ?_
              obtain rfl := Option.some.inj H
              exact ⟨_, _, _, (results_slots rfl), ⟨rfl, rfl, e10⟩, h16.only [0] rfl⟩
            replace H := ite_f c5 H
            refine J.skip ?_
            refine J.seq ?_
            refine J.midS (fun env w => env = [(0, .slice A1 ((x1.set x4.toNat (gt x1 x5)).set x5.toNat (gt x1 x4)).length c_1), (1, .int .i64 a1), (9, .int .i64 x4), (10, .int .i64 x5)] ∧ St w0 F0 [ownC 23 (.int .u32) ((x1.set x4.toNat (gt x1 x5)).set x5.toNat (gt x1 x4)) (.slice A1 ((x1.set x4.toNat (gt x1 x5)).set x5.toNat (gt x1 x4)).length c_1)] [] w) ?_ ?_
            · refine J.heldSt mix (h16.only [] rfl) ?_
              have h20 := h16.drew
              refine HJ.run ttok rfl [0, 1, 2, 3, 4, 5, 8, 9] rfl ?_
              refine HJ.q (i := 6) rfl rfl rfl rfl rfl rfl (q_index ttok rfl rfl rfl rfl rfl e11 p9 p10) ?_
              refine HJ.q (i := 10) rfl rfl rfl rfl rfl rfl (q_index ttok rfl rfl rfl rfl rfl e11 p7 p8) ?_
              refine HJ.pick [7, 11] (i := 7) rfl rfl rfl rfl ?_
              refine (hscons ?_ (hscons ?_ hsnil))
              · refine HS.op (i := 7) rfl rfl rfl (OpT.ofq (q_load_elem (f := 0) ttok rfl h20.wht (Gives.of 0 rfl own_rd) p9 p10 rfl rfl rfl rfl rfl)) ?_
                rintro _ _ ⟨rfl, rfl⟩
                replace h20 : St w0 F0 [_] _ _ := h20
                refine ⟨⟨[_], h20⟩, ?_⟩
                refine HJ.op (i := 11) rfl rfl rfl rfl rfl (OpT.ofq (q_load_elem (f := 0) ttok rfl h20.wht (Gives.of 0 rfl own_rd) p7 p8 rfl rfl rfl rfl rfl)) ?_
                rintro _ _ ⟨rfl, rfl⟩
                replace h20 : St w0 F0 [_] _ _ := h20
                refine ⟨⟨[_], h20⟩, ?_⟩
                refine HJ.q (i := 12) rfl rfl rfl rfl rfl rfl (q_index ttok rfl rfl rfl rfl rfl e11 p7 p8) ?_
                refine HJ.op (i := 13) rfl rfl rfl rfl rfl (op_store_elem (ty := (.int .u32)) (f := 0) (ix := x4) ttok rfl (gt x1 x5) 0 rfl h20 rfl rfl p7 p8 rfl rfl rfl rfl rfl rfl rfl) ?_
                intro _ w15 h21
                replace h21 : St w0 F0 [ownC 23 (.int .u32) (x1.set x4.toNat (gt x1 x5)) (.slice A1 (x1.set x4.toNat (gt x1 x5)).length c_1)] _ _ := h21
                refine ⟨⟨[_], h21⟩, ?_⟩
                have e14 : (x1.set x4.toNat (gt x1 x5)).length = a0.length := List.length_set.trans e10
                refine HJ.q (i := 14) rfl rfl rfl rfl rfl rfl (q_index ttok rfl rfl rfl rfl rfl e11 p9 p10) ?_
                refine HJ.op (i := 15) rfl rfl rfl rfl rfl (op_store_elem (ty := (.int .u32)) (f := 0) (ix := x5) ttok rfl (gt x1 x4) 0 rfl h21 rfl rfl p9 (by simpa only [List.length_set] using p10) rfl rfl rfl rfl rfl rfl rfl) ?_
                intro _ w16 h22
                replace h22 : St w0 F0 [ownC 23 (.int .u32) ((x1.set x4.toNat (gt x1 x5)).set x5.toNat (gt x1 x4)) (.slice A1 ((x1.set x4.toNat (gt x1 x5)).set x5.toNat (gt x1 x4)).length c_1)] _ _ := h22
                refine ⟨⟨[_], h22⟩, ?_⟩
                have e15 : ((x1.set x4.toNat (gt x1 x5)).set x5.toNat (gt x1 x4)).length = a0.length := List.length_set.trans e14
                refine HJ.fin [(0, .slice A1 x1.length c_1), (1, .int .i64 a1), (9, .int .i64 x4), (10, .int .i64 x5)] rfl rfl ?_
                exact thenP_intro ⟨(by simp only [List.length_set]), ((h22.only [0] rfl).rds [] rfl)⟩
              · refine HS.op (i := 11) rfl rfl rfl (OpT.ofq (q_load_elem (f := 0) ttok rfl h20.wht (Gives.of 0 rfl own_rd) p7 p8 rfl rfl rfl rfl rfl)) ?_
                rintro _ _ ⟨rfl, rfl⟩
                replace h20 : St w0 F0 [_] _ _ := h20
                refine ⟨⟨[_], h20⟩, ?_⟩
                refine HJ.op (i := 7) rfl rfl rfl rfl rfl (OpT.ofq (q_load_elem (f := 0) ttok rfl h20.wht (Gives.of 0 rfl own_rd) p9 p10 rfl rfl rfl rfl rfl)) ?_
                rintro _ _ ⟨rfl, rfl⟩
                replace h20 : St w0 F0 [_] _ _ := h20
                refine ⟨⟨[_], h20⟩, ?_⟩
                refine HJ.q (i := 12) rfl rfl rfl rfl rfl rfl (q_index ttok rfl rfl rfl rfl rfl e11 p7 p8) ?_
                refine HJ.op (i := 13) rfl rfl rfl rfl rfl (op_store_elem (ty := (.int .u32)) (f := 0) (ix := x4) ttok rfl (gt x1 x5) 0 rfl h20 rfl rfl p7 p8 rfl rfl rfl rfl rfl rfl rfl) ?_
                intro _ w17 h23
                replace h23 : St w0 F0 [ownC 23 (.int .u32) (x1.set x4.toNat (gt x1 x5)) (.slice A1 (x1.set x4.toNat (gt x1 x5)).length c_1)] _ _ := h23
                refine ⟨⟨[_], h23⟩, ?_⟩
                have e16 : (x1.set x4.toNat (gt x1 x5)).length = a0.length := List.length_set.trans e10
                refine HJ.q (i := 14) rfl rfl rfl rfl rfl rfl (q_index ttok rfl rfl rfl rfl rfl e11 p9 p10) ?_
                refine HJ.op (i := 15) rfl rfl rfl rfl rfl (op_store_elem (ty := (.int .u32)) (f := 0) (ix := x5) ttok rfl (gt x1 x4) 0 rfl h23 rfl rfl p9 (by simpa only [List.length_set] using p10) rfl rfl rfl rfl rfl rfl rfl) ?_
                intro _ w18 h24
                replace h24 : St w0 F0 [ownC 23 (.int .u32) ((x1.set x4.toNat (gt x1 x5)).set x5.toNat (gt x1 x4)) (.slice A1 ((x1.set x4.toNat (gt x1 x5)).set x5.toNat (gt x1 x4)).length c_1)] _ _ := h24
                refine ⟨⟨[_], h24⟩, ?_⟩
                have e17 : ((x1.set x4.toNat (gt x1 x5)).set x5.toNat (gt x1 x4)).length = a0.length := List.length_set.trans e16
                refine HJ.fin [(0, .slice A1 x1.length c_1), (1, .int .i64 a1), (9, .int .i64 x4), (10, .int .i64 x5)] rfl rfl ?_
                exact thenP_intro ⟨(by simp only [List.length_set]), ((h24.only [0] rfl).rds [] rfl)⟩
            rintro env w19 ⟨rfl, h25⟩
            have e18 : ((x1.set x4.toNat (gt x1 x5)).set x5.toNat (gt x1 x4)).length = a0.length := by first | (simp only [List.length_set]; done) | (simp only [List.length_set]; exact e10)
            refine J.seq (J.region ?_)
            refine RJ.run ttok 3 rfl ?_
            refine RJ.fin [(0, .slice A1 ((x1.set x4.toNat (gt x1 x5)).set x5.toNat (gt x1 x4)).length c_1), (1, _), (9, .int .i64 (w64 (x4 + 1))), (10, _)] rfl ?_
            refine J.region ?_
            refine RJ.run ttok 3 rfl ?_
            refine RJ.fin [(0, _), (1, _), (9, _), (10, .int .i64 (w64 (x5 - 1)))] rfl ?_
            have h26 := ((h25.only [0] rfl).rds [] rfl)
            exact ⟨k3, by omega, ((x1.set x4.toNat (gt x1 x5)).set x5.toNat (gt x1 x4)), (w64 (x4 + 1)), (w64 (x5 - 1)), rfl, h26, H, e18⟩
          replace H := ite_f c3 H
          refine HJ.know (t := 49) rfl (congrArg Value.bool c3) ?_
          refine HJ.run ttok rfl [4, 5, 6, 7, 8, 9, 10, 11, 12, 13] rfl ?_
          refine HJ.fin [(0, _), (1, _), (9, _), (10, _), (59, .bool false)] rfl rfl ?_
          refine J.condF rfl ?_
          refine J.exit ?_
          refine J.seq (J.seq (J.region ?_))
          refine RJ.run ttok 3 rfl ?_
          refine RJ.fin [(0, _), (1, _), (9, _), (10, _), (64, .bool (decide (x5 < x4)))] rfl ?_
          refine J.cond rfl (fun c6 => ?_) (fun c6 => ?_)
          · replace H := ite_t c6 H
            refine J.exit ?_
            refine J.seq (J.region ?_)
            refine RJ.run ttok 2 rfl ?_
            refine RJ.fin [(8, .int .i64 x4)] rfl ?_
            refine J.ret ?_
            obtain rfl := Option.some.inj H
            exact ⟨_, _, _, (results_slots rfl), ⟨rfl, rfl, e10⟩, h15.only [0] rfl⟩
          replace H := ite_f c6 H
          refine J.skip ?_
          refine J.seq ?_
          obtain ⟨⟨p11, p12⟩, H⟩ := guard_t H
          refine J.midS (fun env w => env = [(0, .slice A1 ((x1.set x4.toNat (gt x1 x5)).set x5.toNat (gt x1 x4)).length c_1), (1, .int .i64 a1), (9, .int .i64 x4), (10, .int .i64 x5)] ∧ St w0 F0 [ownC 23 (.int .u32) ((x1.set x4.toNat (gt x1 x5)).set x5.toNat (gt x1 x4)) (.slice A1 ((x1.set x4.toNat (gt x1 x5)).set x5.toNat (gt x1 x4)).length c_1)] [] w) ?_ ?_
          · refine J.heldSt mix (h15.only [] rfl) ?_
            have h29 := h15.drew
            refine HJ.run ttok rfl [0, 1, 2, 3, 4, 5, 8, 9] rfl ?_
            refine HJ.q (i := 6) rfl rfl rfl rfl rfl rfl (q_index ttok rfl rfl rfl rfl rfl e11 p11 p12) ?_
            refine HJ.q (i := 10) rfl rfl rfl rfl rfl rfl (q_index ttok rfl rfl rfl rfl rfl e11 p7 p8) ?_
            refine HJ.pick [7, 11] (i := 7) rfl rfl rfl rfl ?_
            refine (hscons ?_ (hscons ?_ hsnil))
            · refine HS.op (i := 7) rfl rfl rfl (OpT.ofq (q_load_elem (f := 0) ttok rfl h29.wht (Gives.of 0 rfl own_rd) p11 p12 rfl rfl rfl rfl rfl)) ?_
              rintro _ _ ⟨rfl, rfl⟩
              replace h29 : St w0 F0 [_] _ _ := h29
              refine ⟨⟨[_], h29⟩, ?_⟩
              refine HJ.op (i := 11) rfl rfl rfl rfl rfl (OpT.ofq (q_load_elem (f := 0) ttok rfl h29.wht (Gives.of 0 rfl own_rd) p7 p8 rfl rfl rfl rfl rfl)) ?_
              rintro _ _ ⟨rfl, rfl⟩
              replace h29 : St w0 F0 [_] _ _ := h29
              refine ⟨⟨[_], h29⟩, ?_⟩
              refine HJ.q (i := 12) rfl rfl rfl rfl rfl rfl (q_index ttok rfl rfl rfl rfl rfl e11 p7 p8) ?_
              refine HJ.op (i := 13) rfl rfl rfl rfl rfl (op_store_elem (ty := (.int .u32)) (f := 0) (ix := x4) ttok rfl (gt x1 x5) 0 rfl h29 rfl rfl p7 p8 rfl rfl rfl rfl rfl rfl rfl) ?_
              intro _ w22 h30
              replace h30 : St w0 F0 [ownC 23 (.int .u32) (x1.set x4.toNat (gt x1 x5)) (.slice A1 (x1.set x4.toNat (gt x1 x5)).length c_1)] _ _ := h30
              refine ⟨⟨[_], h30⟩, ?_⟩
              have e21 : (x1.set x4.toNat (gt x1 x5)).length = a0.length := List.length_set.trans e10
              refine HJ.q (i := 14) rfl rfl rfl rfl rfl rfl (q_index ttok rfl rfl rfl rfl rfl e11 p11 p12) ?_
              refine HJ.op (i := 15) rfl rfl rfl rfl rfl (op_store_elem (ty := (.int .u32)) (f := 0) (ix := x5) ttok rfl (gt x1 x4) 0 rfl h30 rfl rfl p11 (by simpa only [List.length_set] using p12) rfl rfl rfl rfl rfl rfl rfl) ?_
              intro _ w23 h31
              replace h31 : St w0 F0 [ownC 23 (.int .u32) ((x1.set x4.toNat (gt x1 x5)).set x5.toNat (gt x1 x4)) (.slice A1 ((x1.set x4.toNat (gt x1 x5)).set x5.toNat (gt x1 x4)).length c_1)] _ _ := h31
              refine ⟨⟨[_], h31⟩, ?_⟩
              have e22 : ((x1.set x4.toNat (gt x1 x5)).set x5.toNat (gt x1 x4)).length = a0.length := List.length_set.trans e21
              refine HJ.fin [(0, .slice A1 x1.length c_1), (1, .int .i64 a1), (9, .int .i64 x4), (10, .int .i64 x5)] rfl rfl ?_
              exact thenP_intro ⟨(by simp only [List.length_set]), ((h31.only [0] rfl).rds [] rfl)⟩
            · refine HS.op (i := 11) rfl rfl rfl (OpT.ofq (q_load_elem (f := 0) ttok rfl h29.wht (Gives.of 0 rfl own_rd) p7 p8 rfl rfl rfl rfl rfl)) ?_
              rintro _ _ ⟨rfl, rfl⟩
              replace h29 : St w0 F0 [_] _ _ := h29
              refine ⟨⟨[_], h29⟩, ?_⟩
              refine HJ.op (i := 7) rfl rfl rfl rfl rfl (OpT.ofq (q_load_elem (f := 0) ttok rfl h29.wht (Gives.of 0 rfl own_rd) p11 p12 rfl rfl rfl rfl rfl)) ?_
              rintro _ _ ⟨rfl, rfl⟩
              replace h29 : St w0 F0 [_] _ _ := h29
              refine ⟨⟨[_], h29⟩, ?_⟩
              refine HJ.q (i := 12) rfl rfl rfl rfl rfl rfl (q_index ttok rfl rfl rfl rfl rfl e11 p7 p8) ?_
              refine HJ.op (i := 13) rfl rfl rfl rfl rfl (op_store_elem (ty := (.int .u32)) (f := 0) (ix := x4) ttok rfl (gt x1 x5) 0 rfl h29 rfl rfl p7 p8 rfl rfl rfl rfl rfl rfl rfl) ?_
              intro _ w24 h32
              replace h32 : St w0 F0 [ownC 23 (.int .u32) (x1.set x4.toNat (gt x1 x5)) (.slice A1 (x1.set x4.toNat (gt x1 x5)).length c_1)] _ _ := h32
              refine ⟨⟨[_], h32⟩, ?_⟩
              have e23 : (x1.set x4.toNat (gt x1 x5)).length = a0.length := List.length_set.trans e10
              refine HJ.q (i := 14) rfl rfl rfl rfl rfl rfl (q_index ttok rfl rfl rfl rfl rfl e11 p11 p12) ?_
              refine HJ.op (i := 15) rfl rfl rfl rfl rfl (op_store_elem (ty := (.int .u32)) (f := 0) (ix := x5) ttok rfl (gt x1 x4) 0 rfl h32 rfl rfl p11 (by simpa only [List.length_set] using p12) rfl rfl rfl rfl rfl rfl rfl) ?_
              intro _ w25 h33
              replace h33 : St w0 F0 [ownC 23 (.int .u32) ((x1.set x4.toNat (gt x1 x5)).set x5.toNat (gt x1 x4)) (.slice A1 ((x1.set x4.toNat (gt x1 x5)).set x5.toNat (gt x1 x4)).length c_1)] _ _ := h33
              refine ⟨⟨[_], h33⟩, ?_⟩
              have e24 : ((x1.set x4.toNat (gt x1 x5)).set x5.toNat (gt x1 x4)).length = a0.length := List.length_set.trans e23
              refine HJ.fin [(0, .slice A1 x1.length c_1), (1, .int .i64 a1), (9, .int .i64 x4), (10, .int .i64 x5)] rfl rfl ?_
              exact thenP_intro ⟨(by simp only [List.length_set]), ((h33.only [0] rfl).rds [] rfl)⟩
          rintro env w26 ⟨rfl, h34⟩
          have e25 : ((x1.set x4.toNat (gt x1 x5)).set x5.toNat (gt x1 x4)).length = a0.length := by first | (simp only [List.length_set]; done) | (simp only [List.length_set]; exact e10)
          refine J.seq (J.region ?_)
          refine RJ.run ttok 3 rfl ?_
          refine RJ.fin [(0, .slice A1 ((x1.set x4.toNat (gt x1 x5)).set x5.toNat (gt x1 x4)).length c_1), (1, _), (9, .int .i64 (w64 (x4 + 1))), (10, _)] rfl ?_
          refine J.region ?_
          refine RJ.run ttok 3 rfl ?_
          refine RJ.fin [(0, _), (1, _), (9, _), (10, .int .i64 (w64 (x5 - 1)))] rfl ?_
          have h35 := ((h34.only [0] rfl).rds [] rfl)
          exact ⟨k3, by omega, ((x1.set x4.toNat (gt x1 x5)).set x5.toNat (gt x1 x4)), (w64 (x4 + 1)), (w64 (x5 - 1)), rfl, h35, H, e25⟩
      replace H := ite_f c1 H
      refine HJ.know (t := 32) rfl (congrArg Value.bool c1) ?_
      refine HJ.run ttok rfl [4, 5, 6, 7, 8, 9, 10, 11, 12, 13, 14] rfl ?_
      refine HJ.fin [(0, _), (1, _), (9, _), (10, _), (43, .bool false)] rfl rfl ?_
      refine J.condF rfl ?_
      refine J.exit ?_
      refine J.seq (J.block ?_)
      refine J.narrow [(0, _), (1, _), (9, _), (10, _)] rfl ?_
      have h48 := ((h11.only [0] rfl).rds [] rfl)
      refine J.loop (fun kk env w => env = [(0, .slice A1 x1.length c_1), (1, .int .i64 a1), (9, .int .i64 x4), (10, .int .i64 x3)] ∧ St w0 F0 [ownC 23 (.int .u32) x1 (.slice A1 x1.length c_1)] [] w ∧ Q44.l3 kk a1 x1 x3 x4 = some r ∧ kk ≤ k2) (k := k2) ⟨rfl, h48, H, Nat.le_refl _⟩ ?_
      rintro k4 env w27 ⟨rfl, h37, H, hk4⟩
      cases k4 with
      | zero => exact nomatch (show none = some r from H)
      | succ k4 =>
        rw [Q44.l3] at H
        refine J.seq (J.seq ?_)
        refine J.heldSt mix h37 ?_
        have h38 := h37.drew
        refine HJ.run ttok rfl [0, 1, 2, 3] rfl ?_
        refine HJ.know (t := 49) rfl (congrArg Value.bool c1) ?_
        refine HJ.run ttok rfl [4, 5, 6, 7, 8, 9, 10, 11, 12, 13] rfl ?_
        refine HJ.fin [(0, _), (1, _), (9, _), (10, _), (59, .bool false)] rfl rfl ?_
        refine J.condF rfl ?_
        refine J.exit ?_
        refine J.seq (J.seq (J.region ?_))
        refine RJ.run ttok 3 rfl ?_
        refine RJ.fin [(0, _), (1, _), (9, _), (10, _), (64, .bool (decide (x3 < x4)))] rfl ?_
        refine J.cond rfl (fun c7 => ?_) (fun c7 => ?_)
        · replace H := ite_t c7 H
          refine J.exit ?_
          refine J.seq (J.region ?_)
          refine RJ.run ttok 2 rfl ?_
          refine RJ.fin [(8, .int .i64 x4)] rfl ?_
          refine J.ret ?_
          obtain rfl := Option.some.inj H
          exact ⟨_, _, _, (results_slots rfl), ⟨rfl, rfl, e10⟩, h38.only [0] rfl⟩
        replace H := ite_f c7 H
        refine J.skip ?_
        refine J.seq ?_
        obtain ⟨⟨p13, p14⟩, H⟩ := guard_t H
        obtain ⟨⟨p15, p16⟩, H⟩ := guard_t H
        refine J.midS (fun env w => env = [(0, .slice A1 ((x1.set x4.toNat (gt x1 x3)).set x3.toNat (gt x1 x4)).length c_1), (1, .int .i64 a1), (9, .int .i64 x4), (10, .int .i64 x3)] ∧ St w0 F0 [ownC 23 (.int .u32) ((x1.set x4.toNat (gt x1 x3)).set x3.toNat (gt x1 x4)) (.slice A1 ((x1.set x4.toNat (gt x1 x3)).set x3.toNat (gt x1 x4)).length c_1)] [] w) ?_ ?_
        · refine J.heldSt mix (h38.only [] rfl) ?_
          have h41 := h38.drew
          refine HJ.run ttok rfl [0, 1, 2, 3, 4, 5, 8, 9] rfl ?_
          have e29 := elem_A h41.wh (Gives.of 0 rfl own_rd) p13 p14
          refine HJ.q (i := 6) rfl rfl rfl rfl rfl rfl (q_index ttok rfl rfl rfl rfl rfl e29 p13 p14) ?_
          refine HJ.q (i := 10) rfl rfl rfl rfl rfl rfl (q_index ttok rfl rfl rfl rfl rfl e29 p15 p16) ?_
          refine HJ.pick [7, 11] (i := 7) rfl rfl rfl rfl ?_
          refine (hscons ?_ (hscons ?_ hsnil))
          · refine HS.op (i := 7) rfl rfl rfl (OpT.ofq (q_load_elem (f := 0) ttok rfl h41.wht (Gives.of 0 rfl own_rd) p13 p14 rfl rfl rfl rfl rfl)) ?_
            rintro _ _ ⟨rfl, rfl⟩
            replace h41 : St w0 F0 [_] _ _ := h41
            refine ⟨⟨[_], h41⟩, ?_⟩
            refine HJ.op (i := 11) rfl rfl rfl rfl rfl (OpT.ofq (q_load_elem (f := 0) ttok rfl h41.wht (Gives.of 0 rfl own_rd) p15 p16 rfl rfl rfl rfl rfl)) ?_
            rintro _ _ ⟨rfl, rfl⟩
            replace h41 : St w0 F0 [_] _ _ := h41
            refine ⟨⟨[_], h41⟩, ?_⟩
            refine HJ.q (i := 12) rfl rfl rfl rfl rfl rfl (q_index ttok rfl rfl rfl rfl rfl e29 p15 p16) ?_
            refine HJ.op (i := 13) rfl rfl rfl rfl rfl (op_store_elem (ty := (.int .u32)) (f := 0) (ix := x4) ttok rfl (gt x1 x3) 0 rfl h41 rfl rfl p15 p16 rfl rfl rfl rfl rfl rfl rfl) ?_
            intro _ w30 h42
            replace h42 : St w0 F0 [ownC 23 (.int .u32) (x1.set x4.toNat (gt x1 x3)) (.slice A1 (x1.set x4.toNat (gt x1 x3)).length c_1)] _ _ := h42
            refine ⟨⟨[_], h42⟩, ?_⟩
            have e30 : (x1.set x4.toNat (gt x1 x3)).length = a0.length := List.length_set.trans e10
            refine HJ.q (i := 14) rfl rfl rfl rfl rfl rfl (q_index ttok rfl rfl rfl rfl rfl e29 p13 p14) ?_
            refine HJ.op (i := 15) rfl rfl rfl rfl rfl (op_store_elem (ty := (.int .u32)) (f := 0) (ix := x3) ttok rfl (gt x1 x4) 0 rfl h42 rfl rfl p13 (by simpa only [List.length_set] using p14) rfl rfl rfl rfl rfl rfl rfl) ?_
            intro _ w31 h43
            replace h43 : St w0 F0 [ownC 23 (.int .u32) ((x1.set x4.toNat (gt x1 x3)).set x3.toNat (gt x1 x4)) (.slice A1 ((x1.set x4.toNat (gt x1 x3)).set x3.toNat (gt x1 x4)).length c_1)] _ _ := h43
            refine ⟨⟨[_], h43⟩, ?_⟩
            have e31 : ((x1.set x4.toNat (gt x1 x3)).set x3.toNat (gt x1 x4)).length = a0.length := List.length_set.trans e30
            refine HJ.fin [(0, .slice A1 x1.length c_1), (1, .int .i64 a1), (9, .int .i64 x4), (10, .int .i64 x3)] rfl rfl ?_
            exact thenP_intro ⟨(by simp only [List.length_set]), ((h43.only [0] rfl).rds [] rfl)⟩
          · refine HS.op (i := 11) rfl rfl rfl (OpT.ofq (q_load_elem (f := 0) ttok rfl h41.wht (Gives.of 0 rfl own_rd) p15 p16 rfl rfl rfl rfl rfl)) ?_
            rintro _ _ ⟨rfl, rfl⟩
            replace h41 : St w0 F0 [_] _ _ := h41
            refine ⟨⟨[_], h41⟩, ?_⟩
            refine HJ.op (i := 7) rfl rfl rfl rfl rfl (OpT.ofq (q_load_elem (f := 0) ttok rfl h41.wht (Gives.of 0 rfl own_rd) p13 p14 rfl rfl rfl rfl rfl)) ?_
            rintro _ _ ⟨rfl, rfl⟩
            replace h41 : St w0 F0 [_] _ _ := h41
            refine ⟨⟨[_], h41⟩, ?_⟩
            refine HJ.q (i := 12) rfl rfl rfl rfl rfl rfl (q_index ttok rfl rfl rfl rfl rfl e29 p15 p16) ?_
            refine HJ.op (i := 13) rfl rfl rfl rfl rfl (op_store_elem (ty := (.int .u32)) (f := 0) (ix := x4) ttok rfl (gt x1 x3) 0 rfl h41 rfl rfl p15 p16 rfl rfl rfl rfl rfl rfl rfl) ?_
            intro _ w32 h44
            replace h44 : St w0 F0 [ownC 23 (.int .u32) (x1.set x4.toNat (gt x1 x3)) (.slice A1 (x1.set x4.toNat (gt x1 x3)).length c_1)] _ _ := h44
            refine ⟨⟨[_], h44⟩, ?_⟩
            have e32 : (x1.set x4.toNat (gt x1 x3)).length = a0.length := List.length_set.trans e10
            refine HJ.q (i := 14) rfl rfl rfl rfl rfl rfl (q_index ttok rfl rfl rfl rfl rfl e29 p13 p14) ?_
            refine HJ.op (i := 15) rfl rfl rfl rfl rfl (op_store_elem (ty := (.int .u32)) (f := 0) (ix := x3) ttok rfl (gt x1 x4) 0 rfl h44 rfl rfl p13 (by simpa only [List.length_set] using p14) rfl rfl rfl rfl rfl rfl rfl) ?_
            intro _ w33 h45
            replace h45 : St w0 F0 [ownC 23 (.int .u32) ((x1.set x4.toNat (gt x1 x3)).set x3.toNat (gt x1 x4)) (.slice A1 ((x1.set x4.toNat (gt x1 x3)).set x3.toNat (gt x1 x4)).length c_1)] _ _ := h45
            refine ⟨⟨[_], h45⟩, ?_⟩
            have e33 : ((x1.set x4.toNat (gt x1 x3)).set x3.toNat (gt x1 x4)).length = a0.length := List.length_set.trans e32
            refine HJ.fin [(0, .slice A1 x1.length c_1), (1, .int .i64 a1), (9, .int .i64 x4), (10, .int .i64 x3)] rfl rfl ?_
            exact thenP_intro ⟨(by simp only [List.length_set]), ((h45.only [0] rfl).rds [] rfl)⟩
        rintro env w34 ⟨rfl, h46⟩
        have e34 : ((x1.set x4.toNat (gt x1 x3)).set x3.toNat (gt x1 x4)).length = a0.length := by first | (simp only [List.length_set]; done) | (simp only [List.length_set]; exact e10)
        refine J.seq (J.region ?_)
        refine RJ.run ttok 3 rfl ?_
        refine RJ.fin [(0, .slice A1 ((x1.set x4.toNat (gt x1 x3)).set x3.toNat (gt x1 x4)).length c_1), (1, _), (9, .int .i64 (w64 (x4 + 1))), (10, _)] rfl ?_
        refine J.region ?_
        refine RJ.run ttok 3 rfl ?_
        refine RJ.fin [(0, _), (1, _), (9, _), (10, .int .i64 (w64 (x3 - 1)))] rfl ?_
        have h47 := ((h46.only [0] rfl).rds [] rfl)
        exact ⟨k4, by omega, ((x1.set x4.toNat (gt x1 x3)).set x3.toNat (gt x1 x4)), (w64 (x4 + 1)), (w64 (x3 - 1)), rfl, h47, H, e34⟩

mutual
def Q45.l0 : Nat → (Int) → (List (Int)) → (Int) → (Int) → Option (Int × Bool × List (Int))
  | 0, _, _, _, _ => none
  | k + 1, a1, x9, x10, x11 => Q45.l2 k a1 x9 x11 x10
def Q45.l1 : Nat → (Int) → (List (Int)) → (Int) → (Int) → Option (Int × Bool × List (Int))
  | 0, _, _, _, _ => none
  | k + 1, a1, x9, x12, x16 => if (decide (x12 ≤ x16)) = true then (if 0 ≤ x16 ∧ x16 < (x9.length : Int) then (if 0 ≤ a1 ∧ a1 < (x9.length : Int) then ((Q24.f (gt x9 x16) (gt x9 a1)).bind fun r1 => (if (!r1) = true then (Q45.l1 k a1 x9 x12 (w64 (x16 - 1))) else (if (decide (x16 < x12)) = true then (if 0 ≤ a1 ∧ a1 < (x9.length : Int) then (if 0 ≤ x16 ∧ x16 < (x9.length : Int) then (some (x16, false, ((x9.set x16.toNat (gt x9 a1)).set a1.toNat (gt x9 x16)))) else none) else none) else (if 0 ≤ x16 ∧ x16 < (x9.length : Int) then (if 0 ≤ x12 ∧ x12 < (x9.length : Int) then (Q45.l0 k a1 ((x9.set x12.toNat (gt x9 x16)).set x16.toNat (gt x9 x12)) (w64 (x12 + 1)) (w64 (x16 - 1))) else none) else none)))) else none) else none) else (if (decide (x16 < x12)) = true then (if 0 ≤ a1 ∧ a1 < (x9.length : Int) then (if 0 ≤ x16 ∧ x16 < (x9.length : Int) then (some (x16, false, ((x9.set x16.toNat (gt x9 a1)).set a1.toNat (gt x9 x16)))) else none) else none) else (if 0 ≤ x16 ∧ x16 < (x9.length : Int) then (if 0 ≤ x12 ∧ x12 < (x9.length : Int) then (Q45.l0 k a1 ((x9.set x12.toNat (gt x9 x16)).set x16.toNat (gt x9 x12)) (w64 (x12 + 1)) (w64 (x16 - 1))) else none) else none))
def Q45.l2 : Nat → (Int) → (List (Int)) → (Int) → (Int) → Option (Int × Bool × List (Int))
  | 0, _, _, _, _ => none
  | k + 1, a1, x9, x11, x17 => if (decide (x17 ≤ x11)) = true then (if 0 ≤ x17 ∧ x17 < (x9.length : Int) then (if 0 ≤ a1 ∧ a1 < (x9.length : Int) then ((Q24.f (gt x9 x17) (gt x9 a1)).bind fun r2 => (if r2 = true then (Q45.l2 k a1 x9 x11 (w64 (x17 + 1))) else (Q45.l1 k a1 x9 x17 x11))) else none) else none) else (Q45.l1 k a1 x9 x17 x11)
end
def Q45.l3 : Nat → (List (Int)) → (Int) → (Int) → (Int) → (Int) → Option (Int × Bool × List (Int))
  | 0, _, _, _, _, _ => none
  | k + 1, a0, a1, a3, x1, x18 => if (decide (x1 ≤ x18)) = true then (if 0 ≤ x18 ∧ x18 < (((a0.set a1.toNat (gt a0 a3)).set a3.toNat (gt a0 a1)).length : Int) then (if 0 ≤ a1 ∧ a1 < (((a0.set a1.toNat (gt a0 a3)).set a3.toNat (gt a0 a1)).length : Int) then ((Q24.f (gt ((a0.set a1.toNat (gt a0 a3)).set a3.toNat (gt a0 a1)) x18) (gt ((a0.set a1.toNat (gt a0 a3)).set a3.toNat (gt a0 a1)) a1)).bind fun r3 => (if (!r3) = true then (Q45.l3 k a0 a1 a3 x1 (w64 (x18 - 1))) else (if (decide (x18 < x1)) = true then (if 0 ≤ a1 ∧ a1 < (((a0.set a1.toNat (gt a0 a3)).set a3.toNat (gt a0 a1)).length : Int) then (if 0 ≤ x18 ∧ x18 < (((a0.set a1.toNat (gt a0 a3)).set a3.toNat (gt a0 a1)).length : Int) then (some (x18, true, ((((a0.set a1.toNat (gt a0 a3)).set a3.toNat (gt a0 a1)).set x18.toNat (gt ((a0.set a1.toNat (gt a0 a3)).set a3.toNat (gt a0 a1)) a1)).set a1.toNat (gt ((a0.set a1.toNat (gt a0 a3)).set a3.toNat (gt a0 a1)) x18)))) else none) else none) else (if 0 ≤ x18 ∧ x18 < (((a0.set a1.toNat (gt a0 a3)).set a3.toNat (gt a0 a1)).length : Int) then (if 0 ≤ x1 ∧ x1 < (((a0.set a1.toNat (gt a0 a3)).set a3.toNat (gt a0 a1)).length : Int) then (Q45.l0 k a1 ((((a0.set a1.toNat (gt a0 a3)).set a3.toNat (gt a0 a1)).set x1.toNat (gt ((a0.set a1.toNat (gt a0 a3)).set a3.toNat (gt a0 a1)) x18)).set x18.toNat (gt ((a0.set a1.toNat (gt a0 a3)).set a3.toNat (gt a0 a1)) x1)) (w64 (x1 + 1)) (w64 (x18 - 1))) else none) else none)))) else none) else none) else (if (decide (x18 < x1)) = true then (if 0 ≤ a1 ∧ a1 < (((a0.set a1.toNat (gt a0 a3)).set a3.toNat (gt a0 a1)).length : Int) then (if 0 ≤ x18 ∧ x18 < (((a0.set a1.toNat (gt a0 a3)).set a3.toNat (gt a0 a1)).length : Int) then (some (x18, true, ((((a0.set a1.toNat (gt a0 a3)).set a3.toNat (gt a0 a1)).set x18.toNat (gt ((a0.set a1.toNat (gt a0 a3)).set a3.toNat (gt a0 a1)) a1)).set a1.toNat (gt ((a0.set a1.toNat (gt a0 a3)).set a3.toNat (gt a0 a1)) x18)))) else none) else none) else (if 0 ≤ x18 ∧ x18 < (((a0.set a1.toNat (gt a0 a3)).set a3.toNat (gt a0 a1)).length : Int) then (if 0 ≤ x1 ∧ x1 < (((a0.set a1.toNat (gt a0 a3)).set a3.toNat (gt a0 a1)).length : Int) then (Q45.l0 k a1 ((((a0.set a1.toNat (gt a0 a3)).set a3.toNat (gt a0 a1)).set x1.toNat (gt ((a0.set a1.toNat (gt a0 a3)).set a3.toNat (gt a0 a1)) x18)).set x18.toNat (gt ((a0.set a1.toNat (gt a0 a3)).set a3.toNat (gt a0 a1)) x1)) (w64 (x1 + 1)) (w64 (x18 - 1))) else none) else none))
def Q45.l4 : Nat → (List (Int)) → (Int) → (Int) → (Int) → (Int) → Option (Int × Bool × List (Int))
  | 0, _, _, _, _, _ => none
  | k + 1, a0, a1, a2, a3, x19 => if (decide (x19 ≤ (w64 (a2 - 1)))) = true then (if 0 ≤ x19 ∧ x19 < (((a0.set a1.toNat (gt a0 a3)).set a3.toNat (gt a0 a1)).length : Int) then (if 0 ≤ a1 ∧ a1 < (((a0.set a1.toNat (gt a0 a3)).set a3.toNat (gt a0 a1)).length : Int) then ((Q24.f (gt ((a0.set a1.toNat (gt a0 a3)).set a3.toNat (gt a0 a1)) x19) (gt ((a0.set a1.toNat (gt a0 a3)).set a3.toNat (gt a0 a1)) a1)).bind fun r4 => (if r4 = true then (Q45.l4 k a0 a1 a2 a3 (w64 (x19 + 1))) else (Q45.l3 k a0 a1 a3 x19 (w64 (a2 - 1))))) else none) else none) else (Q45.l3 k a0 a1 a3 x19 (w64 (a2 - 1)))
def Q45.f (k : Nat) (a0 : List (Int)) (a1 : Int) (a2 : Int) (a3 : Int) : Option (Int × Bool × List (Int)) := if 0 ≤ a3 ∧ a3 < (a0.length : Int) then (if 0 ≤ a1 ∧ a1 < (a0.length : Int) then (Q45.l4 k a0 a1 a2 a3 (w64 (a1 + 1))) else none) else none
theorem Q45.spec {k : Nat} {a0 : List (Int)} {a1 : Int} {a2 : Int} {a3 : Int} {A1 : Option Addr} {c_1 : Nat} {r : Int × Bool × List (Int)} (H : Q45.f k a0 a1 a2 a3 = some r) :
    Spec Try.prog 176 [.slice A1 a0.length c_1, .int .i64 a1, .int .i64 a2, .int .i64 a3] [ownC 23 (.int .u32) a0 (.slice A1 a0.length c_1)] [] (fun v l => v = .tuple #[.int .i64 r.1, .bool r.2.1] ∧ l = [ownC 23 (.int .u32) r.2.2 (.slice A1 r.2.2.length c_1)] ∧ r.2.2.length = a0.length) := by
  refine Spec.enter Try.func176 rfl (by kernel_rfl) (by kernel_rfl) fun w0 F0 h0 => ?_
  unfold Q45.f at H
  refine J.seq (J.region ?_)
  refine RJ.run ttok 2 rfl ?_
  refine RJ.fin [(0, .slice A1 a0.length c_1), (1, .int .i64 a1), (2, .int .i64 a2), (3, .int .i64 a3)] rfl ?_
  refine J.seq ?_
  obtain ⟨⟨p1, p2⟩, H⟩ := guard_t H
  obtain ⟨⟨p3, p4⟩, H⟩ := guard_t H
  refine J.midS (fun env w => env = [(0, .slice A1 ((a0.set a1.toNat (gt a0 a3)).set a3.toNat (gt a0 a1)).length c_1), (1, .int .i64 a1), (2, .int .i64 a2)] ∧ St w0 F0 [ownC 23 (.int .u32) ((a0.set a1.toNat (gt a0 a3)).set a3.toNat (gt a0 a1)) (.slice A1 ((a0.set a1.toNat (gt a0 a3)).set a3.toNat (gt a0 a1)).length c_1)] [] w) ?_ ?_
  · refine J.heldSt mix (h0.only [] rfl) ?_
    have h3 := h0.drew
    refine HJ.run ttok rfl [0, 1, 2, 3, 4, 5, 8, 9] rfl ?_
    have e4 := elem_A h3.wh (Gives.of 0 rfl own_rd) p1 p2
    refine HJ.q (i := 6) rfl rfl rfl rfl rfl rfl (q_index ttok rfl rfl rfl rfl rfl e4 p1 p2) ?_
    refine HJ.q (i := 10) rfl rfl rfl rfl rfl rfl (q_index ttok rfl rfl rfl rfl rfl e4 p3 p4) ?_
    refine HJ.pick [7, 11] (i := 7) rfl rfl rfl rfl ?_
    refine (hscons ?_ (hscons ?_ hsnil))
    · refine HS.op (i := 7) rfl rfl rfl (OpT.ofq (q_load_elem (f := 0) ttok rfl h3.wht (Gives.of 0 rfl own_rd) p1 p2 rfl rfl rfl rfl rfl)) ?_
      rintro _ _ ⟨rfl, rfl⟩
      replace h3 : St w0 F0 [ownC 23 (.int .u32) a0 (.slice A1 a0.length c_1)] _ _ := h3
      refine ⟨⟨[_], h3⟩, ?_⟩
      refine HJ.op (i := 11) rfl rfl rfl rfl rfl (OpT.ofq (q_load_elem (f := 0) ttok rfl h3.wht (Gives.of 0 rfl own_rd) p3 p4 rfl rfl rfl rfl rfl)) ?_
      rintro _ _ ⟨rfl, rfl⟩
      replace h3 : St w0 F0 [_] _ _ := h3
      refine ⟨⟨[_], h3⟩, ?_⟩
      refine HJ.q (i := 12) rfl rfl rfl rfl rfl rfl (q_index ttok rfl rfl rfl rfl rfl e4 p3 p4) ?_
      refine HJ.op (i := 13) rfl rfl rfl rfl rfl (op_store_elem (ty := (.int .u32)) (f := 0) (ix := a1) ttok rfl (gt a0 a3) 0 rfl h3 rfl rfl p3 p4 rfl rfl rfl rfl rfl rfl rfl) ?_
      intro _ w3 h4
      replace h4 : St w0 F0 [ownC 23 (.int .u32) (a0.set a1.toNat (gt a0 a3)) (.slice A1 (a0.set a1.toNat (gt a0 a3)).length c_1)] _ _ := h4
      refine ⟨⟨[_], h4⟩, ?_⟩
      have e5 : (a0.set a1.toNat (gt a0 a3)).length = a0.length := List.length_set.trans (rfl : a0.length = a0.length)
      refine HJ.q (i := 14) rfl rfl rfl rfl rfl rfl (q_index ttok rfl rfl rfl rfl rfl e4 p1 p2) ?_
      refine HJ.op (i := 15) rfl rfl rfl rfl rfl (op_store_elem (ty := (.int .u32)) (f := 0) (ix := a3) ttok rfl (gt a0 a1) 0 rfl h4 rfl rfl p1 (by simpa only [List.length_set] using p2) rfl rfl rfl rfl rfl rfl rfl) ?_
      intro _ w4 h5
      replace h5 : St w0 F0 [ownC 23 (.int .u32) ((a0.set a1.toNat (gt a0 a3)).set a3.toNat (gt a0 a1)) (.slice A1 ((a0.set a1.toNat (gt a0 a3)).set a3.toNat (gt a0 a1)).length c_1)] _ _ := h5
      refine ⟨⟨[_], h5⟩, ?_⟩
      have e6 : ((a0.set a1.toNat (gt a0 a3)).set a3.toNat (gt a0 a1)).length = a0.length := List.length_set.trans e5
      refine HJ.fin [(0, .slice A1 a0.length c_1), (1, .int .i64 a1), (2, .int .i64 a2)] rfl rfl ?_
      exact thenP_intro ⟨(by simp only [List.length_set]), ((h5.only [0] rfl).rds [] rfl)⟩
    · refine HS.op (i := 11) rfl rfl rfl (OpT.ofq (q_load_elem (f := 0) ttok rfl h3.wht (Gives.of 0 rfl own_rd) p3 p4 rfl rfl rfl rfl rfl)) ?_
      rintro _ _ ⟨rfl, rfl⟩
      replace h3 : St w0 F0 [ownC 23 (.int .u32) a0 (.slice A1 a0.length c_1)] _ _ := h3
      refine ⟨⟨[_], h3⟩, ?_⟩
      refine HJ.op (i := 7) rfl rfl rfl rfl rfl (OpT.ofq (q_load_elem (f := 0) ttok rfl h3.wht (Gives.of 0 rfl own_rd) p1 p2 rfl rfl rfl rfl rfl)) ?_
      rintro _ _ ⟨rfl, rfl⟩
      replace h3 : St w0 F0 [_] _ _ := h3
      refine ⟨⟨[_], h3⟩, ?_⟩
      refine HJ.q (i := 12) rfl rfl rfl rfl rfl rfl (q_index ttok rfl rfl rfl rfl rfl e4 p3 p4) ?_
      refine HJ.op (i := 13) rfl rfl rfl rfl rfl (op_store_elem (ty := (.int .u32)) (f := 0) (ix := a1) ttok rfl (gt a0 a3) 0 rfl h3 rfl rfl p3 p4 rfl rfl rfl rfl rfl rfl rfl) ?_
      intro _ w5 h6
      replace h6 : St w0 F0 [ownC 23 (.int .u32) (a0.set a1.toNat (gt a0 a3)) (.slice A1 (a0.set a1.toNat (gt a0 a3)).length c_1)] _ _ := h6
      refine ⟨⟨[_], h6⟩, ?_⟩
      have e7 : (a0.set a1.toNat (gt a0 a3)).length = a0.length := List.length_set.trans (rfl : a0.length = a0.length)
      refine HJ.q (i := 14) rfl rfl rfl rfl rfl rfl (q_index ttok rfl rfl rfl rfl rfl e4 p1 p2) ?_
      refine HJ.op (i := 15) rfl rfl rfl rfl rfl (op_store_elem (ty := (.int .u32)) (f := 0) (ix := a3) ttok rfl (gt a0 a1) 0 rfl h6 rfl rfl p1 (by simpa only [List.length_set] using p2) rfl rfl rfl rfl rfl rfl rfl) ?_
      intro _ w6 h7
      replace h7 : St w0 F0 [ownC 23 (.int .u32) ((a0.set a1.toNat (gt a0 a3)).set a3.toNat (gt a0 a1)) (.slice A1 ((a0.set a1.toNat (gt a0 a3)).set a3.toNat (gt a0 a1)).length c_1)] _ _ := h7
      refine ⟨⟨[_], h7⟩, ?_⟩
      have e8 : ((a0.set a1.toNat (gt a0 a3)).set a3.toNat (gt a0 a1)).length = a0.length := List.length_set.trans e7
      refine HJ.fin [(0, .slice A1 a0.length c_1), (1, .int .i64 a1), (2, .int .i64 a2)] rfl rfl ?_
      exact thenP_intro ⟨(by simp only [List.length_set]), ((h7.only [0] rfl).rds [] rfl)⟩
  rintro env w7 ⟨rfl, h8⟩
  have e9 : ((a0.set a1.toNat (gt a0 a3)).set a3.toNat (gt a0 a1)).length = a0.length := by first | (simp only [List.length_set]; done) | (simp only [List.length_set]; exact (rfl : a0.length = a0.length))
  refine J.seq (J.region ?_)
  refine RJ.run ttok 6 rfl ?_
  refine RJ.fin [(0, .slice A1 ((a0.set a1.toNat (gt a0 a3)).set a3.toNat (gt a0 a1)).length c_1), (1, _), (10, .int .i64 (w64 (a1 + 1))), (11, .int .i64 (w64 (a2 - 1)))] rfl ?_
  refine J.seq ?_
  refine J.midS (fun env w => ∃ (k1 : Nat) (x1 : Int) (x2 : Bool), env = [(0, .slice A1 ((a0.set a1.toNat (gt a0 a3)).set a3.toNat (gt a0 a1)).length c_1), (1, .int .i64 a1), (10, .int .i64 x1), (11, .int .i64 (w64 (a2 - 1))), (43, .bool x2)] ∧ St w0 F0 [ownC 23 (.int .u32) ((a0.set a1.toNat (gt a0 a3)).set a3.toNat (gt a0 a1)) (.slice A1 ((a0.set a1.toNat (gt a0 a3)).set a3.toNat (gt a0 a1)).length c_1)] [] w ∧ (Q45.l3 k1 a0 a1 a3 x1 (w64 (a2 - 1))) = some r ∧ k1 ≤ k) ?_ ?_
  · refine J.block ?_
    have h77 := ((h8.only [0] rfl).rds [] rfl)
    refine J.loop (fun kk env w => ∃ (x19 : Int), env = [(0, .slice A1 ((a0.set a1.toNat (gt a0 a3)).set a3.toNat (gt a0 a1)).length c_1), (1, .int .i64 a1), (10, .int .i64 x19), (11, .int .i64 (w64 (a2 - 1)))] ∧ St w0 F0 [ownC 23 (.int .u32) ((a0.set a1.toNat (gt a0 a3)).set a3.toNat (gt a0 a1)) (.slice A1 ((a0.set a1.toNat (gt a0 a3)).set a3.toNat (gt a0 a1)).length c_1)] [] w ∧ Q45.l4 kk a0 a1 a2 a3 x19 = some r ∧ kk ≤ k) (k := k) ⟨(w64 (a1 + 1)), rfl, h77, H, Nat.le_refl _⟩ ?_
    rintro k10 env w53 ⟨x19, rfl, h71, H, hk10⟩
    cases k10 with
    | zero => exact nomatch (show none = some r from H)
    | succ k10 =>
      rw [Q45.l4] at H
      refine J.seq (J.seq ?_)
      refine J.heldSt mix h71 ?_
      have h72 := h71.drew
      refine HJ.run ttok rfl [0, 1, 2, 3] rfl ?_
      rcases Bool.eq_false_or_eq_true (decide (x19 ≤ (w64 (a2 - 1)))) with c9 | c9
      · replace H := ite_t c9 H
        refine HJ.know (t := 33) rfl (congrArg Value.bool c9) ?_
        refine HJ.run ttok rfl [4, 5, 8, 9] rfl ?_
        obtain ⟨⟨p33, p34⟩, H⟩ := guard_t H
        have e51 := elem_A h72.wh (Gives.of 0 rfl own_rd) p33 p34
        refine HJ.q (i := 6) rfl rfl rfl rfl rfl rfl (q_index ttok rfl rfl rfl rfl rfl e51 p33 p34) ?_
        refine HJ.q (i := 7) rfl rfl rfl rfl rfl rfl (q_load_elem (f := 0) ttok rfl (fun w e => e) (Gives.of 0 rfl own_rd) p33 p34 rfl rfl rfl rfl rfl) ?_
        obtain ⟨⟨p35, p36⟩, H⟩ := guard_t H
        refine HJ.q (i := 10) rfl rfl rfl rfl rfl rfl (q_index ttok rfl rfl rfl rfl rfl e51 p35 p36) ?_
        refine HJ.q (i := 11) rfl rfl rfl rfl rfl rfl (q_load_elem (f := 0) ttok rfl (fun w e => e) (Gives.of 0 rfl own_rd) p35 p36 rfl rfl rfl rfl rfl) ?_
        obtain ⟨r4, q4, H⟩ := bind_t H
        refine HJ.op (i := 12) rfl rfl rfl rfl rfl (op_call [] (Q24.spec q4) rfl rfl rfl h72 rfl gnil) ?_
        rintro _ w54 ⟨_, ⟨rfl, rfl⟩, h73⟩
        replace h73 : St w0 F0 [_] _ _ := h73
        refine ⟨⟨[], h73⟩, ?_⟩
        refine HJ.run ttok rfl [13] rfl ?_
        refine HJ.fin [(0, _), (1, _), (10, _), (11, _), (43, .bool r4)] rfl rfl ?_
        refine J.cond rfl (fun c10 => ?_) (fun c10 => ?_)
        · replace H := ite_t c10 H
          refine J.skip ?_
          refine J.block (J.region ?_)
          refine RJ.run ttok 3 rfl ?_
          refine RJ.fin [(0, _), (1, _), (10, .int .i64 (w64 (x19 + 1))), (11, _)] rfl ?_
          have h74 := ((h73.only [0] rfl).rds [] rfl)
          exact ⟨k10, by omega, (w64 (x19 + 1)), rfl, h74, H, by omega⟩
        replace H := ite_f c10 H
        refine J.exit ?_
        have h75 := ((h73.only [0] rfl).rds [] rfl)
        exact ⟨k10, x19, r4, rfl, h75, H, by omega⟩
      replace H := ite_f c9 H
      refine HJ.know (t := 33) rfl (congrArg Value.bool c9) ?_
      refine HJ.run ttok rfl [4, 5, 6, 7, 8, 9, 10, 11, 12, 13] rfl ?_
      refine HJ.fin [(0, _), (1, _), (10, _), (11, _), (43, .bool false)] rfl rfl ?_
      refine J.condF rfl ?_
      refine J.exit ?_
      have h76 := ((h72.only [0] rfl).rds [] rfl)
      exact ⟨k10, x19, false, rfl, h76, H, by omega⟩
  rintro env w9 ⟨k1, x1, x2, rfl, h9, H, hk1⟩
  refine J.seq ?_
  refine J.midS (fun env w => ∃ (k2 : Nat) (x3 : Int) (x4 : Bool), env = [(0, .slice A1 ((a0.set a1.toNat (gt a0 a3)).set a3.toNat (gt a0 a1)).length c_1), (1, .int .i64 a1), (10, .int .i64 x1), (11, .int .i64 x3), (60, .bool x4)] ∧ St w0 F0 [ownC 23 (.int .u32) ((a0.set a1.toNat (gt a0 a3)).set a3.toNat (gt a0 a1)) (.slice A1 ((a0.set a1.toNat (gt a0 a3)).set a3.toNat (gt a0 a1)).length c_1)] [] w ∧ (if (decide (x3 < x1)) = true then (if 0 ≤ a1 ∧ a1 < (((a0.set a1.toNat (gt a0 a3)).set a3.toNat (gt a0 a1)).length : Int) then (if 0 ≤ x3 ∧ x3 < (((a0.set a1.toNat (gt a0 a3)).set a3.toNat (gt a0 a1)).length : Int) then (some (x3, true, ((((a0.set a1.toNat (gt a0 a3)).set a3.toNat (gt a0 a1)).set x3.toNat (gt ((a0.set a1.toNat (gt a0 a3)).set a3.toNat (gt a0 a1)) a1)).set a1.toNat (gt ((a0.set a1.toNat (gt a0 a3)).set a3.toNat (gt a0 a1)) x3)))) else none) else none) else (if 0 ≤ x3 ∧ x3 < (((a0.set a1.toNat (gt a0 a3)).set a3.toNat (gt a0 a1)).length : Int) then (if 0 ≤ x1 ∧ x1 < (((a0.set a1.toNat (gt a0 a3)).set a3.toNat (gt a0 a1)).length : Int) then (Q45.l0 k2 a1 ((((a0.set a1.toNat (gt a0 a3)).set a3.toNat (gt a0 a1)).set x1.toNat (gt ((a0.set a1.toNat (gt a0 a3)).set a3.toNat (gt a0 a1)) x3)).set x3.toNat (gt ((a0.set a1.toNat (gt a0 a3)).set a3.toNat (gt a0 a1)) x1)) (w64 (x1 + 1)) (w64 (x3 - 1))) else none) else none)) = some r ∧ k2 ≤ k1) ?_ ?_
  · refine J.block ?_
    refine J.narrow [(0, _), (1, _), (10, _), (11, _)] rfl ?_
    have h70 := ((h9.only [0] rfl).rds [] rfl)
    refine J.loop (fun kk env w => ∃ (x18 : Int), env = [(0, .slice A1 ((a0.set a1.toNat (gt a0 a3)).set a3.toNat (gt a0 a1)).length c_1), (1, .int .i64 a1), (10, .int .i64 x1), (11, .int .i64 x18)] ∧ St w0 F0 [ownC 23 (.int .u32) ((a0.set a1.toNat (gt a0 a3)).set a3.toNat (gt a0 a1)) (.slice A1 ((a0.set a1.toNat (gt a0 a3)).set a3.toNat (gt a0 a1)).length c_1)] [] w ∧ Q45.l3 kk a0 a1 a3 x1 x18 = some r ∧ kk ≤ k1) (k := k1) ⟨(w64 (a2 - 1)), rfl, h70, H, Nat.le_refl _⟩ ?_
    rintro k9 env w51 ⟨x18, rfl, h64, H, hk9⟩
    cases k9 with
    | zero => exact nomatch (show none = some r from H)
    | succ k9 =>
      rw [Q45.l3] at H
      refine J.seq (J.seq ?_)
      refine J.heldSt mix h64 ?_
      have h65 := h64.drew
      refine HJ.run ttok rfl [0, 1, 2, 3] rfl ?_
      rcases Bool.eq_false_or_eq_true (decide (x1 ≤ x18)) with c7 | c7
      · replace H := ite_t c7 H
        refine HJ.know (t := 49) rfl (congrArg Value.bool c7) ?_
        refine HJ.run ttok rfl [4, 5, 8, 9] rfl ?_
        obtain ⟨⟨p29, p30⟩, H⟩ := guard_t H
        have e50 := elem_A h65.wh (Gives.of 0 rfl own_rd) p29 p30
        refine HJ.q (i := 6) rfl rfl rfl rfl rfl rfl (q_index ttok rfl rfl rfl rfl rfl e50 p29 p30) ?_
        refine HJ.q (i := 7) rfl rfl rfl rfl rfl rfl (q_load_elem (f := 0) ttok rfl (fun w e => e) (Gives.of 0 rfl own_rd) p29 p30 rfl rfl rfl rfl rfl) ?_
        obtain ⟨⟨p31, p32⟩, H⟩ := guard_t H
        refine HJ.q (i := 10) rfl rfl rfl rfl rfl rfl (q_index ttok rfl rfl rfl rfl rfl e50 p31 p32) ?_
        refine HJ.q (i := 11) rfl rfl rfl rfl rfl rfl (q_load_elem (f := 0) ttok rfl (fun w e => e) (Gives.of 0 rfl own_rd) p31 p32 rfl rfl rfl rfl rfl) ?_
        obtain ⟨r3, q3, H⟩ := bind_t H
        refine HJ.op (i := 12) rfl rfl rfl rfl rfl (op_call [] (Q24.spec q3) rfl rfl rfl h65 rfl gnil) ?_
        rintro _ w52 ⟨_, ⟨rfl, rfl⟩, h66⟩
        replace h66 : St w0 F0 [_] _ _ := h66
        refine ⟨⟨[], h66⟩, ?_⟩
        refine HJ.run ttok rfl [13, 14] rfl ?_
        refine HJ.fin [(0, _), (1, _), (10, _), (11, _), (60, .bool (!r3))] rfl rfl ?_
        refine J.cond rfl (fun c8 => ?_) (fun c8 => ?_)
        · replace H := ite_t c8 H
          refine J.skip ?_
          refine J.block (J.region ?_)
          refine RJ.run ttok 3 rfl ?_
          refine RJ.fin [(0, _), (1, _), (10, _), (11, .int .i64 (w64 (x18 - 1)))] rfl ?_
          have h67 := ((h66.only [0] rfl).rds [] rfl)
          exact ⟨k9, by omega, (w64 (x18 - 1)), rfl, h67, H, by omega⟩
        replace H := ite_f c8 H
        refine J.exit ?_
        have h68 := ((h66.only [0] rfl).rds [] rfl)
        exact ⟨k9, x18, (!r3), rfl, h68, H, by omega⟩
      replace H := ite_f c7 H
      refine HJ.know (t := 49) rfl (congrArg Value.bool c7) ?_
      refine HJ.run ttok rfl [4, 5, 6, 7, 8, 9, 10, 11, 12, 13, 14] rfl ?_
      refine HJ.fin [(0, _), (1, _), (10, _), (11, _), (60, .bool false)] rfl rfl ?_
      refine J.condF rfl ?_
      refine J.exit ?_
      have h69 := ((h65.only [0] rfl).rds [] rfl)
      exact ⟨k9, x18, false, rfl, h69, H, by omega⟩
  rintro env w11 ⟨k2, x3, x4, rfl, h10, H, hk2⟩
  refine J.seq (J.seq (J.region ?_))
  refine RJ.run ttok 3 rfl ?_
  refine RJ.fin [(0, _), (1, _), (10, _), (11, _), (65, .bool (decide (x3 < x1)))] rfl ?_
  refine J.cond rfl (fun c1 => ?_) (fun c1 => ?_)
  · replace H := ite_t c1 H
    refine J.seq ?_
    obtain ⟨⟨p5, p6⟩, H⟩ := guard_t H
    obtain ⟨⟨p7, p8⟩, H⟩ := guard_t H
    refine J.midS (fun env w => env = [(11, .int .i64 x3)] ∧ St w0 F0 [ownC 23 (.int .u32) ((((a0.set a1.toNat (gt a0 a3)).set a3.toNat (gt a0 a1)).set x3.toNat (gt ((a0.set a1.toNat (gt a0 a3)).set a3.toNat (gt a0 a1)) a1)).set a1.toNat (gt ((a0.set a1.toNat (gt a0 a3)).set a3.toNat (gt a0 a1)) x3)) (.slice A1 ((((a0.set a1.toNat (gt a0 a3)).set a3.toNat (gt a0 a1)).set x3.toNat (gt ((a0.set a1.toNat (gt a0 a3)).set a3.toNat (gt a0 a1)) a1)).set a1.toNat (gt ((a0.set a1.toNat (gt a0 a3)).set a3.toNat (gt a0 a1)) x3)).length c_1)] [] w) ?_ ?_
    · refine J.heldSt mix (h10.only [] rfl) ?_
      have h13 := h10.drew
      refine HJ.run ttok rfl [0, 1, 2, 3, 4, 5, 8, 9] rfl ?_
      have e13 := elem_A h13.wh (Gives.of 0 rfl own_rd) p5 p6
      refine HJ.q (i := 6) rfl rfl rfl rfl rfl rfl (q_index ttok rfl rfl rfl rfl rfl e13 p5 p6) ?_
      refine HJ.q (i := 10) rfl rfl rfl rfl rfl rfl (q_index ttok rfl rfl rfl rfl rfl e13 p7 p8) ?_
      refine HJ.pick [7, 11] (i := 7) rfl rfl rfl rfl ?_
      refine (hscons ?_ (hscons ?_ hsnil))
      · refine HS.op (i := 7) rfl rfl rfl (OpT.ofq (q_load_elem (f := 0) ttok rfl h13.wht (Gives.of 0 rfl own_rd) p5 p6 rfl rfl rfl rfl rfl)) ?_
        rintro _ _ ⟨rfl, rfl⟩
        replace h13 : St w0 F0 [_] _ _ := h13
        refine ⟨⟨[_], h13⟩, ?_⟩
        refine HJ.op (i := 11) rfl rfl rfl rfl rfl (OpT.ofq (q_load_elem (f := 0) ttok rfl h13.wht (Gives.of 0 rfl own_rd) p7 p8 rfl rfl rfl rfl rfl)) ?_
        rintro _ _ ⟨rfl, rfl⟩
        replace h13 : St w0 F0 [_] _ _ := h13
        refine ⟨⟨[_], h13⟩, ?_⟩
        refine HJ.q (i := 12) rfl rfl rfl rfl rfl rfl (q_index ttok rfl rfl rfl rfl rfl e13 p7 p8) ?_
        refine HJ.op (i := 13) rfl rfl rfl rfl rfl (op_store_elem (ty := (.int .u32)) (f := 0) (ix := x3) ttok rfl (gt ((a0.set a1.toNat (gt a0 a3)).set a3.toNat (gt a0 a1)) a1) 0 rfl h13 rfl rfl p7 p8 rfl rfl rfl rfl rfl rfl rfl) ?_
        intro _ w14 h14
        replace h14 : St w0 F0 [ownC 23 (.int .u32) (((a0.set a1.toNat (gt a0 a3)).set a3.toNat (gt a0 a1)).set x3.toNat (gt ((a0.set a1.toNat (gt a0 a3)).set a3.toNat (gt a0 a1)) a1)) (.slice A1 (((a0.set a1.toNat (gt a0 a3)).set a3.toNat (gt a0 a1)).set x3.toNat (gt ((a0.set a1.toNat (gt a0 a3)).set a3.toNat (gt a0 a1)) a1)).length c_1)] _ _ := h14
        refine ⟨⟨[_], h14⟩, ?_⟩
        have e14 : (((a0.set a1.toNat (gt a0 a3)).set a3.toNat (gt a0 a1)).set x3.toNat (gt ((a0.set a1.toNat (gt a0 a3)).set a3.toNat (gt a0 a1)) a1)).length = a0.length := List.length_set.trans e9
        refine HJ.q (i := 14) rfl rfl rfl rfl rfl rfl (q_index ttok rfl rfl rfl rfl rfl e13 p5 p6) ?_
        refine HJ.op (i := 15) rfl rfl rfl rfl rfl (op_store_elem (ty := (.int .u32)) (f := 0) (ix := a1) ttok rfl (gt ((a0.set a1.toNat (gt a0 a3)).set a3.toNat (gt a0 a1)) x3) 0 rfl h14 rfl rfl p5 (by simpa only [List.length_set] using p6) rfl rfl rfl rfl rfl rfl rfl) ?_
        intro _ w15 h15
        replace h15 : St w0 F0 [ownC 23 (.int .u32) ((((a0.set a1.toNat (gt a0 a3)).set a3.toNat (gt a0 a1)).set x3.toNat (gt ((a0.set a1.toNat (gt a0 a3)).set a3.toNat (gt a0 a1)) a1)).set a1.toNat (gt ((a0.set a1.toNat (gt a0 a3)).set a3.toNat (gt a0 a1)) x3)) (.slice A1 ((((a0.set a1.toNat (gt a0 a3)).set a3.toNat (gt a0 a1)).set x3.toNat (gt ((a0.set a1.toNat (gt a0 a3)).set a3.toNat (gt a0 a1)) a1)).set a1.toNat (gt ((a0.set a1.toNat (gt a0 a3)).set a3.toNat (gt a0 a1)) x3)).length c_1)] _ _ := h15
        refine ⟨⟨[_], h15⟩, ?_⟩
        have e15 : ((((a0.set a1.toNat (gt a0 a3)).set a3.toNat (gt a0 a1)).set x3.toNat (gt ((a0.set a1.toNat (gt a0 a3)).set a3.toNat (gt a0 a1)) a1)).set a1.toNat (gt ((a0.set a1.toNat (gt a0 a3)).set a3.toNat (gt a0 a1)) x3)).length = a0.length := List.length_set.trans e14
        refine HJ.fin [(11, .int .i64 x3)] rfl rfl ?_
        exact thenP_intro ⟨(by simp only [List.length_set]), ((h15.only [0] rfl).rds [] rfl)⟩
      · refine HS.op (i := 11) rfl rfl rfl (OpT.ofq (q_load_elem (f := 0) ttok rfl h13.wht (Gives.of 0 rfl own_rd) p7 p8 rfl rfl rfl rfl rfl)) ?_
        rintro _ _ ⟨rfl, rfl⟩
        replace h13 : St w0 F0 [_] _ _ := h13
        refine ⟨⟨[_], h13⟩, ?_⟩
        refine HJ.op (i := 7) rfl rfl rfl rfl rfl (OpT.ofq (q_load_elem (f := 0) ttok rfl h13.wht (Gives.of 0 rfl own_rd) p5 p6 rfl rfl rfl rfl rfl)) ?_
        rintro _ _ ⟨rfl, rfl⟩
        replace h13 : St w0 F0 [_] _ _ := h13
        refine ⟨⟨[_], h13⟩, ?_⟩
        refine HJ.q (i := 12) rfl rfl rfl rfl rfl rfl (q_index ttok rfl rfl rfl rfl rfl e13 p7 p8) ?_
        refine HJ.op (i := 13) rfl rfl rfl rfl rfl (op_store_elem (ty := (.int .u32)) (f := 0) (ix := x3) ttok rfl (gt ((a0.set a1.toNat (gt a0 a3)).set a3.toNat (gt a0 a1)) a1) 0 rfl h13 rfl rfl p7 p8 rfl rfl rfl rfl rfl rfl rfl) ?_
        intro _ w16 h16
        replace h16 : St w0 F0 [ownC 23 (.int .u32) (((a0.set a1.toNat (gt a0 a3)).set a3.toNat (gt a0 a1)).set x3.toNat (gt ((a0.set a1.toNat (gt a0 a3)).set a3.toNat (gt a0 a1)) a1)) (.slice A1 (((a0.set a1.toNat (gt a0 a3)).set a3.toNat (gt a0 a1)).set x3.toNat (gt ((a0.set a1.toNat (gt a0 a3)).set a3.toNat (gt a0 a1)) a1)).length c_1)] _ _ := h16
        refine ⟨⟨[_], h16⟩, ?_⟩
        have e16 : (((a0.set a1.toNat (gt a0 a3)).set a3.toNat (gt a0 a1)).set x3.toNat (gt ((a0.set a1.toNat (gt a0 a3)).set a3.toNat (gt a0 a1)) a1)).length = a0.length := List.length_set.trans e9
        refine HJ.q (i := 14) rfl rfl rfl rfl rfl rfl (q_index ttok rfl rfl rfl rfl rfl e13 p5 p6) ?_
        refine HJ.op (i := 15) rfl rfl rfl rfl rfl (op_store_elem (ty := (.int .u32)) (f := 0) (ix := a1) ttok rfl (gt ((a0.set a1.toNat (gt a0 a3)).set a3.toNat (gt a0 a1)) x3) 0 rfl h16 rfl rfl p5 (by simpa only [List.length_set] using p6) rfl rfl rfl rfl rfl rfl rfl) ?_
        intro _ w17 h17
        replace h17 : St w0 F0 [ownC 23 (.int .u32) ((((a0.set a1.toNat (gt a0 a3)).set a3.toNat (gt a0 a1)).set x3.toNat (gt ((a0.set a1.toNat (gt a0 a3)).set a3.toNat (gt a0 a1)) a1)).set a1.toNat (gt ((a0.set a1.toNat (gt a0 a3)).set a3.toNat (gt a0 a1)) x3)) (.slice A1 ((((a0.set a1.toNat (gt a0 a3)).set a3.toNat (gt a0 a1)).set x3.toNat (gt ((a0.set a1.toNat (gt a0 a3)).set a3.toNat (gt a0 a1)) a1)).set a1.toNat (gt ((a0.set a1.toNat (gt a0 a3)).set a3.toNat (gt a0 a1)) x3)).length c_1)] _ _ := h17
        refine ⟨⟨[_], h17⟩, ?_⟩
        have e17 : ((((a0.set a1.toNat (gt a0 a3)).set a3.toNat (gt a0 a1)).set x3.toNat (gt ((a0.set a1.toNat (gt a0 a3)).set a3.toNat (gt a0 a1)) a1)).set a1.toNat (gt ((a0.set a1.toNat (gt a0 a3)).set a3.toNat (gt a0 a1)) x3)).length = a0.length := List.length_set.trans e16
        refine HJ.fin [(11, .int .i64 x3)] rfl rfl ?_
        exact thenP_intro ⟨(by simp only [List.length_set]), ((h17.only [0] rfl).rds [] rfl)⟩
    rintro env w18 ⟨rfl, h18⟩
    have e18 : ((((a0.set a1.toNat (gt a0 a3)).set a3.toNat (gt a0 a1)).set x3.toNat (gt ((a0.set a1.toNat (gt a0 a3)).set a3.toNat (gt a0 a1)) a1)).set a1.toNat (gt ((a0.set a1.toNat (gt a0 a3)).set a3.toNat (gt a0 a1)) x3)).length = a0.length := by first | (simp only [List.length_set]; done) | (simp only [List.length_set]; exact e9)
    refine J.seq (J.region ?_)
    refine RJ.run ttok 3 rfl ?_
    refine RJ.fin [(8, .int .i64 x3), (9, .bool true)] rfl ?_
    refine J.ret ?_
    obtain rfl := Option.some.inj H
    exact ⟨_, _, _, (results_slots rfl), ⟨rfl, rfl, e18⟩, h18.only [0] rfl⟩
  replace H := ite_f c1 H
  refine J.skip ?_
  refine J.seq ?_
  obtain ⟨⟨p9, p10⟩, H⟩ := guard_t H
  obtain ⟨⟨p11, p12⟩, H⟩ := guard_t H
  refine J.midS (fun env w => env = [(0, .slice A1 ((((a0.set a1.toNat (gt a0 a3)).set a3.toNat (gt a0 a1)).set x1.toNat (gt ((a0.set a1.toNat (gt a0 a3)).set a3.toNat (gt a0 a1)) x3)).set x3.toNat (gt ((a0.set a1.toNat (gt a0 a3)).set a3.toNat (gt a0 a1)) x1)).length c_1), (1, .int .i64 a1), (10, .int .i64 x1), (11, .int .i64 x3)] ∧ St w0 F0 [ownC 23 (.int .u32) ((((a0.set a1.toNat (gt a0 a3)).set a3.toNat (gt a0 a1)).set x1.toNat (gt ((a0.set a1.toNat (gt a0 a3)).set a3.toNat (gt a0 a1)) x3)).set x3.toNat (gt ((a0.set a1.toNat (gt a0 a3)).set a3.toNat (gt a0 a1)) x1)) (.slice A1 ((((a0.set a1.toNat (gt a0 a3)).set a3.toNat (gt a0 a1)).set x1.toNat (gt ((a0.set a1.toNat (gt a0 a3)).set a3.toNat (gt a0 a1)) x3)).set x3.toNat (gt ((a0.set a1.toNat (gt a0 a3)).set a3.toNat (gt a0 a1)) x1)).length c_1)] [] w) ?_ ?_
  · refine J.heldSt mix (h10.only [] rfl) ?_
    have h21 := h10.drew
    refine HJ.run ttok rfl [0, 1, 2, 3, 4, 5, 8, 9] rfl ?_
    have e22 := elem_A h21.wh (Gives.of 0 rfl own_rd) p9 p10
    refine HJ.q (i := 6) rfl rfl rfl rfl rfl rfl (q_index ttok rfl rfl rfl rfl rfl e22 p9 p10) ?_
    refine HJ.q (i := 10) rfl rfl rfl rfl rfl rfl (q_index ttok rfl rfl rfl rfl rfl e22 p11 p12) ?_
    refine HJ.pick [7, 11] (i := 7) rfl rfl rfl rfl ?_
    refine (hscons ?_ (hscons ?_ hsnil))
    · refine HS.op (i := 7) rfl rfl rfl (OpT.ofq (q_load_elem (f := 0) ttok rfl h21.wht (Gives.of 0 rfl own_rd) p9 p10 rfl rfl rfl rfl rfl)) ?_
      rintro _ _ ⟨rfl, rfl⟩
      replace h21 : St w0 F0 [_] _ _ := h21
      refine ⟨⟨[_], h21⟩, ?_⟩
      refine HJ.op (i := 11) rfl rfl rfl rfl rfl (OpT.ofq (q_load_elem (f := 0) ttok rfl h21.wht (Gives.of 0 rfl own_rd) p11 p12 rfl rfl rfl rfl rfl)) ?_
      rintro _ _ ⟨rfl, rfl⟩
      replace h21 : St w0 F0 [_] _ _ := h21
      refine ⟨⟨[_], h21⟩, ?_⟩
      refine HJ.q (i := 12) rfl rfl rfl rfl rfl rfl (q_index ttok rfl rfl rfl rfl rfl e22 p11 p12) ?_
      refine HJ.op (i := 13) rfl rfl rfl rfl rfl (op_store_elem (ty := (.int .u32)) (f := 0) (ix := x1) ttok rfl (gt ((a0.set a1.toNat (gt a0 a3)).set a3.toNat (gt a0 a1)) x3) 0 rfl h21 rfl rfl p11 p12 rfl rfl rfl rfl rfl rfl rfl) ?_
      intro _ w21 h22
      replace h22 : St w0 F0 [ownC 23 (.int .u32) (((a0.set a1.toNat (gt a0 a3)).set a3.toNat (gt a0 a1)).set x1.toNat (gt ((a0.set a1.toNat (gt a0 a3)).set a3.toNat (gt a0 a1)) x3)) (.slice A1 (((a0.set a1.toNat (gt a0 a3)).set a3.toNat (gt a0 a1)).set x1.toNat (gt ((a0.set a1.toNat (gt a0 a3)).set a3.toNat (gt a0 a1)) x3)).length c_1)] _ _ := h22
      refine ⟨⟨[_], h22⟩, ?_⟩
      have e23 : (((a0.set a1.toNat (gt a0 a3)).set a3.toNat (gt a0 a1)).set x1.toNat (gt ((a0.set a1.toNat (gt a0 a3)).set a3.toNat (gt a0 a1)) x3)).length = a0.length := List.length_set.trans e9
      refine HJ.q (i := 14) rfl rfl rfl rfl rfl rfl (q_index ttok rfl rfl rfl rfl rfl e22 p9 p10) ?_
      refine HJ.op (i := 15) rfl rfl rfl rfl rfl (op_store_elem (ty := (.int .u32)) (f := 0) (ix := x3) ttok rfl (gt ((a0.set a1.toNat (gt a0 a3)).set a3.toNat (gt a0 a1)) x1) 0 rfl h22 rfl rfl p9 (by simpa only [List.length_set] using p10) rfl rfl rfl rfl rfl rfl rfl) ?_
      intro _ w22 h23
      replace h23 : St w0 F0 [ownC 23 (.int .u32) ((((a0.set a1.toNat (gt a0 a3)).set a3.toNat (gt a0 a1)).set x1.toNat (gt ((a0.set a1.toNat (gt a0 a3)).set a3.toNat (gt a0 a1)) x3)).set x3.toNat (gt ((a0.set a1.toNat (gt a0 a3)).set a3.toNat (gt a0 a1)) x1)) (.slice A1 ((((a0.set a1.toNat (gt a0 a3)).set a3.toNat (gt a0 a1)).set x1.toNat (gt ((a0.set a1.toNat (gt a0 a3)).set a3.toNat (gt a0 a1)) x3)).set x3.toNat (gt ((a0.set a1.toNat (gt a0 a3)).set a3.toNat (gt a0 a1)) x1)).length c_1)] _ _ := h23
      refine ⟨⟨[_], h23⟩, ?_⟩
      have e24 : ((((a0.set a1.toNat (gt a0 a3)).set a3.toNat (gt a0 a1)).set x1.toNat (gt ((a0.set a1.toNat (gt a0 a3)).set a3.toNat (gt a0 a1)) x3)).set x3.toNat (gt ((a0.set a1.toNat (gt a0 a3)).set a3.toNat (gt a0 a1)) x1)).length = a0.length := List.length_set.trans e23
      refine HJ.fin [(0, .slice A1 ((a0.set a1.toNat (gt a0 a3)).set a3.toNat (gt a0 a1)).length c_1), (1, .int .i64 a1), (10, .int .i64 x1), (11, .int .i64 x3)] rfl rfl ?_
      exact thenP_intro ⟨(by simp only [List.length_set]), ((h23.only [0] rfl).rds [] rfl)⟩
    · refine HS.op (i := 11) rfl rfl rfl (OpT.ofq (q_load_elem (f := 0) ttok rfl h21.wht (Gives.of 0 rfl own_rd) p11 p12 rfl rfl rfl rfl rfl)) ?_
      rintro _ _ ⟨rfl, rfl⟩
      replace h21 : St w0 F0 [_] _ _ := h21
      refine ⟨⟨[_], h21⟩, ?_⟩
      refine HJ.op (i := 7) rfl rfl rfl rfl rfl (OpT.ofq (q_load_elem (f := 0) ttok rfl h21.wht (Gives.of 0 rfl own_rd) p9 p10 rfl rfl rfl rfl rfl)) ?_
      rintro _ _ ⟨rfl, rfl⟩
      replace h21 : St w0 F0 [_] _ _ := h21
      refine ⟨⟨[_], h21⟩, ?_⟩
      refine HJ.q (i := 12) rfl rfl rfl rfl rfl rfl (q_index ttok rfl rfl rfl rfl rfl e22 p11 p12) ?_
      refine HJ.op (i := 13) rfl rfl rfl rfl rfl (op_store_elem (ty := (.int .u32)) (f := 0) (ix := x1) ttok rfl (gt ((a0.set a1.toNat (gt a0 a3)).set a3.toNat (gt a0 a1)) x3) 0 rfl h21 rfl rfl p11 p12 rfl rfl rfl rfl rfl rfl rfl) ?_
      intro _ w23 h24
      replace h24 : St w0 F0 [ownC 23 (.int .u32) (((a0.set a1.toNat (gt a0 a3)).set a3.toNat (gt a0 a1)).set x1.toNat (gt ((a0.set a1.toNat (gt a0 a3)).set a3.toNat (gt a0 a1)) x3)) (.slice A1 (((a0.set a1.toNat (gt a0 a3)).set a3.toNat (gt a0 a1)).set x1.toNat (gt ((a0.set a1.toNat (gt a0 a3)).set a3.toNat (gt a0 a1)) x3)).length c_1)] _ _ := h24
      refine ⟨⟨[_], h24⟩, ?_⟩
      have e25 : (((a0.set a1.toNat (gt a0 a3)).set a3.toNat (gt a0 a1)).set x1.toNat (gt ((a0.set a1.toNat (gt a0 a3)).set a3.toNat (gt a0 a1)) x3)).length = a0.length := List.length_set.trans e9
      refine HJ.q (i := 14) rfl rfl rfl rfl rfl rfl (q_index ttok rfl rfl rfl rfl rfl e22 p9 p10) ?_
      refine HJ.op (i := 15) rfl rfl rfl rfl rfl (op_store_elem (ty := (.int .u32)) (f := 0) (ix := x3) ttok rfl (gt ((a0.set a1.toNat (gt a0 a3)).set a3.toNat (gt a0 a1)) x1) 0 rfl h24 rfl rfl p9 (by simpa only [List.length_set] using p10) rfl rfl rfl rfl rfl rfl rfl) ?_
      intro _ w24 h25
      replace h25 : St w0 F0 [ownC 23 (.int .u32) ((((a0.set a1.toNat (gt a0 a3)).set a3.toNat (gt a0 a1)).set x1.toNat (gt ((a0.set a1.toNat (gt a0 a3)).set a3.toNat (gt a0 a1)) x3)).set x3.toNat (gt ((a0.set a1.toNat (gt a0 a3)).set a3.toNat (gt a0 a1)) x1)) (.slice A1 ((((a0.set a1.toNat (gt a0 a3)).set a3.toNat (gt a0 a1)).set x1.toNat (gt ((a0.set a1.toNat (gt a0 a3)).set a3.toNat (gt a0 a1)) x3)).set x3.toNat (gt ((a0.set a1.toNat (gt a0 a3)).set a3.toNat (gt a0 a1)) x1)).length c_1)] _ _ := h25
      refine ⟨⟨[_], h25⟩, ?_⟩
      have e26 : ((((a0.set a1.toNat (gt a0 a3)).set a3.toNat (gt a0 a1)).set x1.toNat (gt ((a0.set a1.toNat (gt a0 a3)).set a3.toNat (gt a0 a1)) x3)).set x3.toNat (gt ((a0.set a1.toNat (gt a0 a3)).set a3.toNat (gt a0 a1)) x1)).length = a0.length := List.length_set.trans e25
      refine HJ.fin [(0, .slice A1 ((a0.set a1.toNat (gt a0 a3)).set a3.toNat (gt a0 a1)).length c_1), (1, .int .i64 a1), (10, .int .i64 x1), (11, .int .i64 x3)] rfl rfl ?_
      exact thenP_intro ⟨(by simp only [List.length_set]), ((h25.only [0] rfl).rds [] rfl)⟩
  rintro env w25 ⟨rfl, h26⟩
  have e27 : ((((a0.set a1.toNat (gt a0 a3)).set a3.toNat (gt a0 a1)).set x1.toNat (gt ((a0.set a1.toNat (gt a0 a3)).set a3.toNat (gt a0 a1)) x3)).set x3.toNat (gt ((a0.set a1.toNat (gt a0 a3)).set a3.toNat (gt a0 a1)) x1)).length = a0.length := by first | (simp only [List.length_set]; done) | (simp only [List.length_set]; exact e9)
  refine J.seq (J.region ?_)
  refine RJ.run ttok 3 rfl ?_
  refine RJ.fin [(0, .slice A1 ((((a0.set a1.toNat (gt a0 a3)).set a3.toNat (gt a0 a1)).set x1.toNat (gt ((a0.set a1.toNat (gt a0 a3)).set a3.toNat (gt a0 a1)) x3)).set x3.toNat (gt ((a0.set a1.toNat (gt a0 a3)).set a3.toNat (gt a0 a1)) x1)).length c_1), (1, _), (10, .int .i64 (w64 (x1 + 1))), (11, _)] rfl ?_
  refine J.seq (J.region ?_)
  refine RJ.run ttok 3 rfl ?_
  refine RJ.fin [(0, _), (1, _), (10, _), (11, .int .i64 (w64 (x3 - 1)))] rfl ?_
  refine J.seq ?_
  refine J.midS (fun env w => ∃ (x5 : List (Int)) (x6 : Int) (x7 : Int) (x8 : Bool), env = [(0, .slice A1 x5.length c_1), (1, .int .i64 a1), (10, .int .i64 x6), (11, .int .i64 x7), (134, .bool x8)] ∧ St w0 F0 [ownC 23 (.int .u32) x5 (.slice A1 x5.length c_1)] [] w ∧ (if 0 ≤ a1 ∧ a1 < (x5.length : Int) then (if 0 ≤ x7 ∧ x7 < (x5.length : Int) then (some (x7, false, ((x5.set x7.toNat (gt x5 a1)).set a1.toNat (gt x5 x7)))) else none) else none) = some r ∧ x5.length = a0.length) ?_ ?_
  · refine J.block ?_
    have h63 := ((h26.only [0] rfl).rds [] rfl)
    refine J.loop (fun kk env w => ∃ (x9 : List (Int)) (x10 : Int) (x11 : Int), env = [(0, .slice A1 x9.length c_1), (1, .int .i64 a1), (10, .int .i64 x10), (11, .int .i64 x11)] ∧ St w0 F0 [ownC 23 (.int .u32) x9 (.slice A1 x9.length c_1)] [] w ∧ Q45.l0 kk a1 x9 x10 x11 = some r ∧ kk ≤ k2 ∧ x9.length = a0.length) (k := k2) ⟨((((a0.set a1.toNat (gt a0 a3)).set a3.toNat (gt a0 a1)).set x1.toNat (gt ((a0.set a1.toNat (gt a0 a3)).set a3.toNat (gt a0 a1)) x3)).set x3.toNat (gt ((a0.set a1.toNat (gt a0 a3)).set a3.toNat (gt a0 a1)) x1)), (w64 (x1 + 1)), (w64 (x3 - 1)), rfl, h63, H, Nat.le_refl _, e27⟩ ?_
    rintro k4 env w35 ⟨x9, x10, x11, rfl, h36, H, hk4, e38⟩
    cases k4 with
    | zero => exact nomatch (show none = some r from H)
    | succ k4 =>
      rw [Q45.l0] at H
      refine J.block (J.seq ?_)
      refine J.midS (fun env w => ∃ (k5 : Nat) (x12 : Int) (x13 : Bool), env = [(0, .slice A1 x9.length c_1), (1, .int .i64 a1), (10, .int .i64 x12), (11, .int .i64 x11), (112, .bool x13)] ∧ St w0 F0 [ownC 23 (.int .u32) x9 (.slice A1 x9.length c_1)] [] w ∧ (Q45.l1 k5 a1 x9 x12 x11) = some r ∧ k5 ≤ k4) ?_ ?_
      · refine J.block ?_
        have h62 := ((h36.only [0] rfl).rds [] rfl)
        refine J.loop (fun kk env w => ∃ (x17 : Int), env = [(0, .slice A1 x9.length c_1), (1, .int .i64 a1), (10, .int .i64 x17), (11, .int .i64 x11)] ∧ St w0 F0 [ownC 23 (.int .u32) x9 (.slice A1 x9.length c_1)] [] w ∧ Q45.l2 kk a1 x9 x11 x17 = some r ∧ kk ≤ k4) (k := k4) ⟨x10, rfl, h62, H, Nat.le_refl _⟩ ?_
        rintro k8 env w49 ⟨x17, rfl, h56, H, hk8⟩
        cases k8 with
        | zero => exact nomatch (show none = some r from H)
        | succ k8 =>
          rw [Q45.l2] at H
          refine J.seq (J.seq ?_)
          refine J.heldSt mix h56 ?_
          have h57 := h56.drew
          refine HJ.run ttok rfl [0, 1, 2, 3] rfl ?_
          rcases Bool.eq_false_or_eq_true (decide (x17 ≤ x11)) with c5 | c5
          · replace H := ite_t c5 H
            refine HJ.know (t := 102) rfl (congrArg Value.bool c5) ?_
            refine HJ.run ttok rfl [4, 5, 8, 9] rfl ?_
            obtain ⟨⟨p25, p26⟩, H⟩ := guard_t H
            have e49 := elem_A h57.wh (Gives.of 0 rfl own_rd) p25 p26
            refine HJ.q (i := 6) rfl rfl rfl rfl rfl rfl (q_index ttok rfl rfl rfl rfl rfl e49 p25 p26) ?_
            refine HJ.q (i := 7) rfl rfl rfl rfl rfl rfl (q_load_elem (f := 0) ttok rfl (fun w e => e) (Gives.of 0 rfl own_rd) p25 p26 rfl rfl rfl rfl rfl) ?_
            obtain ⟨⟨p27, p28⟩, H⟩ := guard_t H
            refine HJ.q (i := 10) rfl rfl rfl rfl rfl rfl (q_index ttok rfl rfl rfl rfl rfl e49 p27 p28) ?_
            refine HJ.q (i := 11) rfl rfl rfl rfl rfl rfl (q_load_elem (f := 0) ttok rfl (fun w e => e) (Gives.of 0 rfl own_rd) p27 p28 rfl rfl rfl rfl rfl) ?_
            obtain ⟨r2, q2, H⟩ := bind_t H
            refine HJ.op (i := 12) rfl rfl rfl rfl rfl (op_call [] (Q24.spec q2) rfl rfl rfl h57 rfl gnil) ?_
            rintro _ w50 ⟨_, ⟨rfl, rfl⟩, h58⟩
            replace h58 : St w0 F0 [_] _ _ := h58
            refine ⟨⟨[], h58⟩, ?_⟩
            refine HJ.run ttok rfl [13] rfl ?_
            refine HJ.fin [(0, _), (1, _), (10, _), (11, _), (112, .bool r2)] rfl rfl ?_
            refine J.cond rfl (fun c6 => ?_) (fun c6 => ?_)
            · replace H := ite_t c6 H
              refine J.skip ?_
              refine J.block (J.region ?_)
              refine RJ.run ttok 3 rfl ?_
              refine RJ.fin [(0, _), (1, _), (10, .int .i64 (w64 (x17 + 1))), (11, _)] rfl ?_
              have h59 := ((h58.only [0] rfl).rds [] rfl)
              exact ⟨k8, by omega, (w64 (x17 + 1)), rfl, h59, H, by omega⟩
            replace H := ite_f c6 H
            refine J.exit ?_
            have h60 := ((h58.only [0] rfl).rds [] rfl)
            exact ⟨k8, x17, r2, rfl, h60, H, by omega⟩
          replace H := ite_f c5 H
          refine HJ.know (t := 102) rfl (congrArg Value.bool c5) ?_
          refine HJ.run ttok rfl [4, 5, 6, 7, 8, 9, 10, 11, 12, 13] rfl ?_
          refine HJ.fin [(0, _), (1, _), (10, _), (11, _), (112, .bool false)] rfl rfl ?_
          refine J.condF rfl ?_
          refine J.exit ?_
          have h61 := ((h57.only [0] rfl).rds [] rfl)
          exact ⟨k8, x17, false, rfl, h61, H, by omega⟩
      rintro env w37 ⟨k5, x12, x13, rfl, h37, H, hk5⟩
      refine J.seq ?_
      refine J.midS (fun env w => ∃ (k6 : Nat) (x14 : Int) (x15 : Bool), env = [(0, .slice A1 x9.length c_1), (1, .int .i64 a1), (10, .int .i64 x12), (11, .int .i64 x14), (129, .bool x15)] ∧ St w0 F0 [ownC 23 (.int .u32) x9 (.slice A1 x9.length c_1)] [] w ∧ (if (decide (x14 < x12)) = true then (if 0 ≤ a1 ∧ a1 < (x9.length : Int) then (if 0 ≤ x14 ∧ x14 < (x9.length : Int) then (some (x14, false, ((x9.set x14.toNat (gt x9 a1)).set a1.toNat (gt x9 x14)))) else none) else none) else (if 0 ≤ x14 ∧ x14 < (x9.length : Int) then (if 0 ≤ x12 ∧ x12 < (x9.length : Int) then (Q45.l0 k6 a1 ((x9.set x12.toNat (gt x9 x14)).set x14.toNat (gt x9 x12)) (w64 (x12 + 1)) (w64 (x14 - 1))) else none) else none)) = some r ∧ k6 ≤ k5) ?_ ?_
      · refine J.block ?_
        refine J.narrow [(0, _), (1, _), (10, _), (11, _)] rfl ?_
        have h55 := ((h37.only [0] rfl).rds [] rfl)
        refine J.loop (fun kk env w => ∃ (x16 : Int), env = [(0, .slice A1 x9.length c_1), (1, .int .i64 a1), (10, .int .i64 x12), (11, .int .i64 x16)] ∧ St w0 F0 [ownC 23 (.int .u32) x9 (.slice A1 x9.length c_1)] [] w ∧ Q45.l1 kk a1 x9 x12 x16 = some r ∧ kk ≤ k5) (k := k5) ⟨x11, rfl, h55, H, Nat.le_refl _⟩ ?_
        rintro k7 env w47 ⟨x16, rfl, h49, H, hk7⟩
        cases k7 with
        | zero => exact nomatch (show none = some r from H)
        | succ k7 =>
          rw [Q45.l1] at H
          refine J.seq (J.seq ?_)
          refine J.heldSt mix h49 ?_
          have h50 := h49.drew
          refine HJ.run ttok rfl [0, 1, 2, 3] rfl ?_
          rcases Bool.eq_false_or_eq_true (decide (x12 ≤ x16)) with c3 | c3
          · replace H := ite_t c3 H
            refine HJ.know (t := 118) rfl (congrArg Value.bool c3) ?_
            refine HJ.run ttok rfl [4, 5, 8, 9] rfl ?_
            obtain ⟨⟨p21, p22⟩, H⟩ := guard_t H
            have e48 := elem_A h50.wh (Gives.of 0 rfl own_rd) p21 p22
            refine HJ.q (i := 6) rfl rfl rfl rfl rfl rfl (q_index ttok rfl rfl rfl rfl rfl e48 p21 p22) ?_
            refine HJ.q (i := 7) rfl rfl rfl rfl rfl rfl (q_load_elem (f := 0) ttok rfl (fun w e => e) (Gives.of 0 rfl own_rd) p21 p22 rfl rfl rfl rfl rfl) ?_
            obtain ⟨⟨p23, p24⟩, H⟩ := guard_t H
            refine HJ.q (i := 10) rfl rfl rfl rfl rfl rfl (q_index ttok rfl rfl rfl rfl rfl e48 p23 p24) ?_
            refine HJ.q (i := 11) rfl rfl rfl rfl rfl rfl (q_load_elem (f := 0) ttok rfl (fun w e => e) (Gives.of 0 rfl own_rd) p23 p24 rfl rfl rfl rfl rfl) ?_
            obtain ⟨r1, q1, H⟩ := bind_t H
            refine HJ.op (i := 12) rfl rfl rfl rfl rfl (op_call [] (Q24.spec q1) rfl rfl rfl h50 rfl gnil) ?_
            rintro _ w48 ⟨_, ⟨rfl, rfl⟩, h51⟩
            replace h51 : St w0 F0 [_] _ _ := h51
            refine ⟨⟨[], h51⟩, ?_⟩
            refine HJ.run ttok rfl [13, 14] rfl ?_
            refine HJ.fin [(0, _), (1, _), (10, _), (11, _), (129, .bool (!r1))] rfl rfl ?_
            refine J.cond rfl (fun c4 => ?_) (fun c4 => ?_)
            · replace H := ite_t c4 H
              refine J.skip ?_
              refine J.block (J.region ?_)
              refine RJ.run ttok 3 rfl ?_
              refine RJ.fin [(0, _), (1, _), (10, _), (11, .int .i64 (w64 (x16 - 1)))] rfl ?_
              have h52 := ((h51.only [0] rfl).rds [] rfl)
              exact ⟨k7, by omega, (w64 (x16 - 1)), rfl, h52, H, by omega⟩
            replace H := ite_f c4 H
            refine J.exit ?_
            have h53 := ((h51.only [0] rfl).rds [] rfl)
            exact ⟨k7, x16, (!r1), rfl, h53, H, by omega⟩
          replace H := ite_f c3 H
          refine HJ.know (t := 118) rfl (congrArg Value.bool c3) ?_
          refine HJ.run ttok rfl [4, 5, 6, 7, 8, 9, 10, 11, 12, 13, 14] rfl ?_
          refine HJ.fin [(0, _), (1, _), (10, _), (11, _), (129, .bool false)] rfl rfl ?_
          refine J.condF rfl ?_
          refine J.exit ?_
          have h54 := ((h50.only [0] rfl).rds [] rfl)
          exact ⟨k7, x16, false, rfl, h54, H, by omega⟩
      rintro env w39 ⟨k6, x14, x15, rfl, h38, H, hk6⟩
      refine J.seq (J.seq (J.region ?_))
      refine RJ.run ttok 3 rfl ?_
      refine RJ.fin [(0, _), (1, _), (10, _), (11, _), (134, .bool (decide (x14 < x12)))] rfl ?_
      refine J.cond rfl (fun c2 => ?_) (fun c2 => ?_)
      · replace H := ite_t c2 H
        refine J.exit ?_
        have h39 := ((h38.only [0] rfl).rds [] rfl)
        exact ⟨x9, x12, x14, (decide (x14 < x12)), rfl, h39, H, e38⟩
      replace H := ite_f c2 H
      refine J.skip ?_
      refine J.seq ?_
      obtain ⟨⟨p17, p18⟩, H⟩ := guard_t H
      obtain ⟨⟨p19, p20⟩, H⟩ := guard_t H
      refine J.midS (fun env w => env = [(0, .slice A1 ((x9.set x12.toNat (gt x9 x14)).set x14.toNat (gt x9 x12)).length c_1), (1, .int .i64 a1), (10, .int .i64 x12), (11, .int .i64 x14)] ∧ St w0 F0 [ownC 23 (.int .u32) ((x9.set x12.toNat (gt x9 x14)).set x14.toNat (gt x9 x12)) (.slice A1 ((x9.set x12.toNat (gt x9 x14)).set x14.toNat (gt x9 x12)).length c_1)] [] w) ?_ ?_
      · refine J.heldSt mix (h38.only [] rfl) ?_
        have h42 := h38.drew
        refine HJ.run ttok rfl [0, 1, 2, 3, 4, 5, 8, 9] rfl ?_
        have e42 := elem_A h42.wh (Gives.of 0 rfl own_rd) p17 p18
        refine HJ.q (i := 6) rfl rfl rfl rfl rfl rfl (q_index ttok rfl rfl rfl rfl rfl e42 p17 p18) ?_
        refine HJ.q (i := 10) rfl rfl rfl rfl rfl rfl (q_index ttok rfl rfl rfl rfl rfl e42 p19 p20) ?_
        refine HJ.pick [7, 11] (i := 7) rfl rfl rfl rfl ?_
        refine (hscons ?_ (hscons ?_ hsnil))
        · refine HS.op (i := 7) rfl rfl rfl (OpT.ofq (q_load_elem (f := 0) ttok rfl h42.wht (Gives.of 0 rfl own_rd) p17 p18 rfl rfl rfl rfl rfl)) ?_
          rintro _ _ ⟨rfl, rfl⟩
          replace h42 : St w0 F0 [_] _ _ := h42
          refine ⟨⟨[_], h42⟩, ?_⟩
          refine HJ.op (i := 11) rfl rfl rfl rfl rfl (OpT.ofq (q_load_elem (f := 0) ttok rfl h42.wht (Gives.of 0 rfl own_rd) p19 p20 rfl rfl rfl rfl rfl)) ?_
          rintro _ _ ⟨rfl, rfl⟩
          replace h42 : St w0 F0 [_] _ _ := h42
          refine ⟨⟨[_], h42⟩, ?_⟩
          refine HJ.q (i := 12) rfl rfl rfl rfl rfl rfl (q_index ttok rfl rfl rfl rfl rfl e42 p19 p20) ?_
          refine HJ.op (i := 13) rfl rfl rfl rfl rfl (op_store_elem (ty := (.int .u32)) (f := 0) (ix := x12) ttok rfl (gt x9 x14) 0 rfl h42 rfl rfl p19 p20 rfl rfl rfl rfl rfl rfl rfl) ?_
          intro _ w42 h43
          replace h43 : St w0 F0 [ownC 23 (.int .u32) (x9.set x12.toNat (gt x9 x14)) (.slice A1 (x9.set x12.toNat (gt x9 x14)).length c_1)] _ _ := h43
          refine ⟨⟨[_], h43⟩, ?_⟩
          have e43 : (x9.set x12.toNat (gt x9 x14)).length = a0.length := List.length_set.trans e38
          refine HJ.q (i := 14) rfl rfl rfl rfl rfl rfl (q_index ttok rfl rfl rfl rfl rfl e42 p17 p18) ?_
          refine HJ.op (i := 15) rfl rfl rfl rfl rfl (op_store_elem (ty := (.int .u32)) (f := 0) (ix := x14) ttok rfl (gt x9 x12) 0 rfl h43 rfl rfl p17 (by simpa only [List.length_set] using p18) rfl rfl rfl rfl rfl rfl rfl) ?_
          intro _ w43 h44
          replace h44 : St w0 F0 [ownC 23 (.int .u32) ((x9.set x12.toNat (gt x9 x14)).set x14.toNat (gt x9 x12)) (.slice A1 ((x9.set x12.toNat (gt x9 x14)).set x14.toNat (gt x9 x12)).length c_1)] _ _ := h44
          refine ⟨⟨[_], h44⟩, ?_⟩
          have e44 : ((x9.set x12.toNat (gt x9 x14)).set x14.toNat (gt x9 x12)).length = a0.length := List.length_set.trans e43
          refine HJ.fin [(0, .slice A1 x9.length c_1), (1, .int .i64 a1), (10, .int .i64 x12), (11, .int .i64 x14)] rfl rfl ?_
          exact thenP_intro ⟨(by simp only [List.length_set]), ((h44.only [0] rfl).rds [] rfl)⟩
        · refine HS.op (i := 11) rfl rfl rfl (OpT.ofq (q_load_elem (f := 0) ttok rfl h42.wht (Gives.of 0 rfl own_rd) p19 p20 rfl rfl rfl rfl rfl)) ?_
          rintro _ _ ⟨rfl, rfl⟩
          replace h42 : St w0 F0 [_] _ _ := h42
          refine ⟨⟨[_], h42⟩, ?_⟩
          refine HJ.op (i := 7) rfl rfl rfl rfl rfl (OpT.ofq (q_load_elem (f := 0) ttok rfl h42.wht (Gives.of 0 rfl own_rd) p17 p18 rfl rfl rfl rfl rfl)) ?_
          rintro _ _ ⟨rfl, rfl⟩
          replace h42 : St w0 F0 [_] _ _ := h42
          refine ⟨⟨[_], h42⟩, ?_⟩
          refine HJ.q (i := 12) rfl rfl rfl rfl rfl rfl (q_index ttok rfl rfl rfl rfl rfl e42 p19 p20) ?_
          refine HJ.op (i := 13) rfl rfl rfl rfl rfl (op_store_elem (ty := (.int .u32)) (f := 0) (ix := x12) ttok rfl (gt x9 x14) 0 rfl h42 rfl rfl p19 p20 rfl rfl rfl rfl rfl rfl rfl) ?_
          intro _ w44 h45
          replace h45 : St w0 F0 [ownC 23 (.int .u32) (x9.set x12.toNat (gt x9 x14)) (.slice A1 (x9.set x12.toNat (gt x9 x14)).length c_1)] _ _ := h45
          refine ⟨⟨[_], h45⟩, ?_⟩
          have e45 : (x9.set x12.toNat (gt x9 x14)).length = a0.length := List.length_set.trans e38
          refine HJ.q (i := 14) rfl rfl rfl rfl rfl rfl (q_index ttok rfl rfl rfl rfl rfl e42 p17 p18) ?_
          refine HJ.op (i := 15) rfl rfl rfl rfl rfl (op_store_elem (ty := (.int .u32)) (f := 0) (ix := x14) ttok rfl (gt x9 x12) 0 rfl h45 rfl rfl p17 (by simpa only [List.length_set] using p18) rfl rfl rfl rfl rfl rfl rfl) ?_
          intro _ w45 h46
          replace h46 : St w0 F0 [ownC 23 (.int .u32) ((x9.set x12.toNat (gt x9 x14)).set x14.toNat (gt x9 x12)) (.slice A1 ((x9.set x12.toNat (gt x9 x14)).set x14.toNat (gt x9 x12)).length c_1)] _ _ := h46
          refine ⟨⟨[_], h46⟩, ?_⟩
          have e46 : ((x9.set x12.toNat (gt x9 x14)).set x14.toNat (gt x9 x12)).length = a0.length := List.length_set.trans e45
          refine HJ.fin [(0, .slice A1 x9.length c_1), (1, .int .i64 a1), (10, .int .i64 x12), (11, .int .i64 x14)] rfl rfl ?_
          exact thenP_intro ⟨(by simp only [List.length_set]), ((h46.only [0] rfl).rds [] rfl)⟩
      rintro env w46 ⟨rfl, h47⟩
      have e47 : ((x9.set x12.toNat (gt x9 x14)).set x14.toNat (gt x9 x12)).length = a0.length := by first | (simp only [List.length_set]; done) | (simp only [List.length_set]; exact e38)
      refine J.seq (J.region ?_)
      refine RJ.run ttok 3 rfl ?_
      refine RJ.fin [(0, .slice A1 ((x9.set x12.toNat (gt x9 x14)).set x14.toNat (gt x9 x12)).length c_1), (1, _), (10, .int .i64 (w64 (x12 + 1))), (11, _)] rfl ?_
      refine J.region ?_
      refine RJ.run ttok 3 rfl ?_
      refine RJ.fin [(0, _), (1, _), (10, _), (11, .int .i64 (w64 (x14 - 1)))] rfl ?_
      have h48 := ((h47.only [0] rfl).rds [] rfl)
      exact ⟨k6, by omega, ((x9.set x12.toNat (gt x9 x14)).set x14.toNat (gt x9 x12)), (w64 (x12 + 1)), (w64 (x14 - 1)), rfl, h48, H, by omega, e47⟩
  rintro env w27 ⟨x5, x6, x7, x8, rfl, h27, H, e28⟩
  refine J.seq ?_
  obtain ⟨⟨p13, p14⟩, H⟩ := guard_t H
  obtain ⟨⟨p15, p16⟩, H⟩ := guard_t H
  refine J.midS (fun env w => env = [(11, .int .i64 x7)] ∧ St w0 F0 [ownC 23 (.int .u32) ((x5.set x7.toNat (gt x5 a1)).set a1.toNat (gt x5 x7)) (.slice A1 ((x5.set x7.toNat (gt x5 a1)).set a1.toNat (gt x5 x7)).length c_1)] [] w) ?_ ?_
  · refine J.heldSt mix (h27.only [] rfl) ?_
    have h30 := h27.drew
    refine HJ.run ttok rfl [0, 1, 2, 3, 4, 5, 8, 9] rfl ?_
    have e32 := elem_A h30.wh (Gives.of 0 rfl own_rd) p13 p14
    refine HJ.q (i := 6) rfl rfl rfl rfl rfl rfl (q_index ttok rfl rfl rfl rfl rfl e32 p13 p14) ?_
    refine HJ.q (i := 10) rfl rfl rfl rfl rfl rfl (q_index ttok rfl rfl rfl rfl rfl e32 p15 p16) ?_
    refine HJ.pick [7, 11] (i := 7) rfl rfl rfl rfl ?_
    refine (hscons ?_ (hscons ?_ hsnil))
    · refine HS.op (i := 7) rfl rfl rfl (OpT.ofq (q_load_elem (f := 0) ttok rfl h30.wht (Gives.of 0 rfl own_rd) p13 p14 rfl rfl rfl rfl rfl)) ?_
      rintro _ _ ⟨rfl, rfl⟩
      replace h30 : St w0 F0 [_] _ _ := h30
      refine ⟨⟨[_], h30⟩, ?_⟩
      refine HJ.op (i := 11) rfl rfl rfl rfl rfl (OpT.ofq (q_load_elem (f := 0) ttok rfl h30.wht (Gives.of 0 rfl own_rd) p15 p16 rfl rfl rfl rfl rfl)) ?_
      rintro _ _ ⟨rfl, rfl⟩
      replace h30 : St w0 F0 [_] _ _ := h30
      refine ⟨⟨[_], h30⟩, ?_⟩
      refine HJ.q (i := 12) rfl rfl rfl rfl rfl rfl (q_index ttok rfl rfl rfl rfl rfl e32 p15 p16) ?_
      refine HJ.op (i := 13) rfl rfl rfl rfl rfl (op_store_elem (ty := (.int .u32)) (f := 0) (ix := x7) ttok rfl (gt x5 a1) 0 rfl h30 rfl rfl p15 p16 rfl rfl rfl rfl rfl rfl rfl) ?_
      intro _ w30 h31
      replace h31 : St w0 F0 [ownC 23 (.int .u32) (x5.set x7.toNat (gt x5 a1)) (.slice A1 (x5.set x7.toNat (gt x5 a1)).length c_1)] _ _ := h31
      refine ⟨⟨[_], h31⟩, ?_⟩
      have e33 : (x5.set x7.toNat (gt x5 a1)).length = a0.length := List.length_set.trans e28
      refine HJ.q (i := 14) rfl rfl rfl rfl rfl rfl (q_index ttok rfl rfl rfl rfl rfl e32 p13 p14) ?_
      refine HJ.op (i := 15) rfl rfl rfl rfl rfl (op_store_elem (ty := (.int .u32)) (f := 0) (ix := a1) ttok rfl (gt x5 x7) 0 rfl h31 rfl rfl p13 (by simpa only [List.length_set] using p14) rfl rfl rfl rfl rfl rfl rfl) ?_
      intro _ w31 h32
      replace h32 : St w0 F0 [ownC 23 (.int .u32) ((x5.set x7.toNat (gt x5 a1)).set a1.toNat (gt x5 x7)) (.slice A1 ((x5.set x7.toNat (gt x5 a1)).set a1.toNat (gt x5 x7)).length c_1)] _ _ := h32
      refine ⟨⟨[_], h32⟩, ?_⟩
      have e34 : ((x5.set x7.toNat (gt x5 a1)).set a1.toNat (gt x5 x7)).length = a0.length := List.length_set.trans e33
      refine HJ.fin [(11, .int .i64 x7)] rfl rfl ?_
      exact thenP_intro ⟨(by simp only [List.length_set]), ((h32.only [0] rfl).rds [] rfl)⟩
    · refine HS.op (i := 11) rfl rfl rfl (OpT.ofq (q_load_elem (f := 0) ttok rfl h30.wht (Gives.of 0 rfl own_rd) p15 p16 rfl rfl rfl rfl rfl)) ?_
      rintro _ _ ⟨rfl, rfl⟩
      replace h30 : St w0 F0 [_] _ _ := h30
      refine ⟨⟨[_], h30⟩, ?_⟩
      refine HJ.op (i := 7) rfl rfl rfl rfl rfl (OpT.ofq (q_load_elem (f := 0) ttok rfl h30.wht (Gives.of 0 rfl own_rd) p13 p14 rfl rfl rfl rfl rfl)) ?_
      rintro _ _ ⟨rfl, rfl⟩
      replace h30 : St w0 F0 [_] _ _ := h30
      refine ⟨⟨[_], h30⟩, ?_⟩
      refine HJ.q (i := 12) rfl rfl rfl rfl rfl rfl (q_index ttok rfl rfl rfl rfl rfl e32 p15 p16) ?_
      refine HJ.op (i := 13) rfl rfl rfl rfl rfl (op_store_elem (ty := (.int .u32)) (f := 0) (ix := x7) ttok rfl (gt x5 a1) 0 rfl h30 rfl rfl p15 p16 rfl rfl rfl rfl rfl rfl rfl) ?_
      intro _ w32 h33
      replace h33 : St w0 F0 [ownC 23 (.int .u32) (x5.set x7.toNat (gt x5 a1)) (.slice A1 (x5.set x7.toNat (gt x5 a1)).length c_1)] _ _ := h33
      refine ⟨⟨[_], h33⟩, ?_⟩
      have e35 : (x5.set x7.toNat (gt x5 a1)).length = a0.length := List.length_set.trans e28
      refine HJ.q (i := 14) rfl rfl rfl rfl rfl rfl (q_index ttok rfl rfl rfl rfl rfl e32 p13 p14) ?_
      refine HJ.op (i := 15) rfl rfl rfl rfl rfl (op_store_elem (ty := (.int .u32)) (f := 0) (ix := a1) ttok rfl (gt x5 x7) 0 rfl h33 rfl rfl p13 (by simpa only [List.length_set] using p14) rfl rfl rfl rfl rfl rfl rfl) ?_
      intro _ w33 h34
      replace h34 : St w0 F0 [ownC 23 (.int .u32) ((x5.set x7.toNat (gt x5 a1)).set a1.toNat (gt x5 x7)) (.slice A1 ((x5.set x7.toNat (gt x5 a1)).set a1.toNat (gt x5 x7)).length c_1)] _ _ := h34
      refine ⟨⟨[_], h34⟩, ?_⟩
      have e36 : ((x5.set x7.toNat (gt x5 a1)).set a1.toNat (gt x5 x7)).length = a0.length := List.length_set.trans e35
      refine HJ.fin [(11, .int .i64 x7)] rfl rfl ?_
      exact thenP_intro ⟨(by simp only [List.length_set]), ((h34.only [0] rfl).rds [] rfl)⟩
  rintro env w34 ⟨rfl, h35⟩
  have e37 : ((x5.set x7.toNat (gt x5 a1)).set a1.toNat (gt x5 x7)).length = a0.length := by first | (simp only [List.length_set]; done) | (simp only [List.length_set]; exact e28)
  refine J.seq (J.region ?_)
  refine RJ.run ttok 3 rfl ?_
  refine RJ.fin [(8, .int .i64 x7), (9, .bool false)] rfl ?_
  refine J.ret ?_
  obtain rfl := Option.some.inj H
  exact ⟨_, _, _, (results_slots rfl), ⟨rfl, rfl, e37⟩, h35.only [0] rfl⟩

def Q41.f (a0 : Int) : Option (Int) := (Q0.f (IntKind.u64.wrap (a0))).bind fun r1 => (if 0 ≤ r1 then (some (IntKind.u64.wrap ((1 : Int) * 2 ^ (min r1.toNat 64)))) else none)
theorem Q41.spec {a0 : Int}  {r : Int} (H : Q41.f a0 = some r) :
    Spec Try.prog 181 [.int .i64 a0] [] [] (fun v l => v = .int .u64 r ∧ l = []) := by
  refine Spec.enter Try.func181 rfl (by kernel_rfl) (by kernel_rfl) fun w0 F0 h0 => ?_
  unfold Q41.f at H
  refine J.seq (J.region ?_)
  refine RJ.run ttok 1 rfl ?_
  refine RJ.fin [(0, .int .i64 a0)] rfl ?_
  refine J.seq (J.region ?_)
  refine RJ.run ttok 2 rfl ?_
  obtain ⟨r1, q1, H⟩ := bind_t H
  refine RJ.op rfl rfl (op_call [] (Q0.spec q1) rfl rfl rfl h0 rfl gnil) ?_
  rintro _ w1 ⟨_, ⟨rfl, rfl⟩, h1⟩
  replace h1 : St w0 F0 [] _ _ := h1
  obtain ⟨p1, H⟩ := guard_t H
  refine RJ.q rfl rfl (q_shl rfl rfl rfl p1) ?_
  refine RJ.run ttok 1 rfl ?_
  refine RJ.fin [(2, .int .u64 (IntKind.u64.wrap ((1 : Int) * 2 ^ (min r1.toNat 64))))] rfl ?_
  refine J.ret ?_
  obtain rfl := Option.some.inj H
  exact ⟨_, _, _, (results_slots rfl), ⟨rfl, rfl⟩, h1.only [] rfl⟩

end Go.SK.T
