/- The plain law behind LexCompares: what its code computes is true for every two strings. -/
import Derived.Test.YtelieidgolfboaaXLexComparesF0
set_option linter.unusedVariables false
set_option linter.unusedSimpArgs false
namespace Go.SK.T
open Go Go.SK
theorem awake_pure (k : Nat) : sluicegatelaw01_awake.f (k + 10) = some true := by rfl
theorem compare_l0 : ∀ (k : Nat) (a b : List UInt8) (i : Nat), a.length ≤ 4611686018427387904 → b.length ≤ 4611686018427387904 → i ≤ a.length → i ≤ b.length → a.length - i < k →
    sluicegateref01_Compare.l0 k a b (i : Int) = some (scmp (a.drop i) (b.drop i))
  | 0, a, b, i, _, _, _, _, h => by omega
  | k + 1, a, b, i, ha, hb, hia, hib, hk => by
    unfold sluicegateref01_Compare.l0
    by_cases h1 : i < a.length
    · by_cases h2 : i < b.length
      · have g1 : (0 : Int) ≤ (i : Int) ∧ (i : Int) < (a.length : Int) := by omega
        have g2 : (0 : Int) ≤ (i : Int) ∧ (i : Int) < (b.length : Int) := by omega
        have w : w64 ((i : Int) + 1) = ((i + 1 : Nat) : Int) := by rw [w64_id (by omega) (by omega)]; omega
        have ih := compare_l0 k a b (i + 1) ha hb (by omega) (by omega) (by omega)
        simp only [g1.2, g2.2, g1, g2, decide_true, if_true, and_self, w, ih, gtb_lt, Int.toNat_natCast, drop_byte h1, drop_byte h2, scmp_cons, decide_eq_true_eq]
        split
        · rfl
        · split <;> rfl
      · have g1 : (i : Int) < (a.length : Int) := by omega
        have g2 : ¬ (i : Int) < (b.length : Int) := by omega
        have e : b.drop i = [] := List.drop_eq_nil_of_le (by omega)
        have z1 : ¬ (a.length : Int) < (b.length : Int) := by omega
        have z2 : (b.length : Int) < (a.length : Int) := by omega
        have z3 : ¬ (a.drop i).length = 0 := by rw [List.length_drop]; omega
        simp [g1, g2, e, z1, z2, scmp_nil_right, z3]
        omega
    · have g1 : ¬ (i : Int) < (a.length : Int) := by omega
      have e : a.drop i = [] := List.drop_eq_nil_of_le (by omega)
      have z : (b.drop i).length = b.length - i := List.length_drop ..
      simp only [g1, e, scmp_nil_left, z, decide_false, Bool.false_eq_true, if_false, decide_eq_true_eq]
      by_cases h2 : b.length = i
      · have z1 : ¬ (a.length : Int) < (b.length : Int) := by omega
        have z2 : ¬ (b.length : Int) < (a.length : Int) := by omega
        have h3 : a.length = i := by omega
        simp [h2, h3]
      · have z1 : (a.length : Int) < (b.length : Int) := by omega
        have z2 : ¬ b.length - i = 0 := by omega
        simp [z1, z2]
theorem compare_pure {k : Nat} {a b : List UInt8} (ha : a.length ≤ 2000) (hb : b.length ≤ 2000) (hk : 2000 < k) : sluicegateref01_Compare.f k a b = some (scmp a b) := by
  have := compare_l0 k a b 0 (by omega) (by omega) (by omega) (by omega) (by omega)
  simpa [sluicegateref01_Compare.f] using this
theorem shared_l0 : ∀ (k : Nat) (a b : List UInt8) (i : Nat), a.length ≤ 4611686018427387904 → b.length ≤ 4611686018427387904 → i ≤ a.length → i ≤ b.length → a.length - i < k →
    lex_Shared.l0 k a b (i : Int) = some ((i + shd (a.drop i) (b.drop i) : Nat) : Int)
  | 0, a, b, i, _, _, _, _, h => by omega
  | k + 1, a, b, i, ha, hb, hia, hib, hk => by
    unfold lex_Shared.l0
    by_cases h1 : i < a.length ∧ i < b.length
    · have g0 : (i : Int) < (if (b.length : Int) < (a.length : Int) then (b.length : Int) else (a.length : Int)) := by split <;> omega
      have g1 : (0 : Int) ≤ (i : Int) ∧ (i : Int) < (a.length : Int) := by omega
      have g2 : (0 : Int) ≤ (i : Int) ∧ (i : Int) < (b.length : Int) := by omega
      have w : w64 ((i : Int) + 1) = ((i + 1 : Nat) : Int) := by rw [w64_id (by omega) (by omega)]; omega
      have ih := shared_l0 k a b (i + 1) ha hb (by omega) (by omega) (by omega)
      rw [if_pos (decide_eq_true g0), if_pos g1, if_pos g2, w, ih, drop_byte h1.1, drop_byte h1.2]
      simp only [gtb_eq, Int.toNat_natCast, shd, Bool.not_eq_true', decide_eq_false_iff_not]
      by_cases e : a.getD i 0 = b.getD i 0
      · rw [if_neg (fun h => h e), if_pos e]
        congr 2
        omega
      · rw [if_pos e, if_neg e]
        rfl
    · have g0 : ¬ (i : Int) < (if (b.length : Int) < (a.length : Int) then (b.length : Int) else (a.length : Int)) := by split <;> omega
      rw [if_neg (by simpa using g0)]
      have z : shd (a.drop i) (b.drop i) = 0 := by
        rcases Nat.lt_or_ge i a.length with h | h
        · rw [List.drop_eq_nil_of_le (show b.length ≤ i by omega)]; cases a.drop i <;> rfl
        · rw [List.drop_eq_nil_of_le (show a.length ≤ i by omega)]; rfl
      rw [z]
      congr 1
      split <;> omega
theorem shared_pure {k : Nat} {a b : List UInt8} (ha : a.length ≤ 2000) (hb : b.length ≤ 2000) (hk : 2000 < k) : lex_Shared.f k a b = some (shd a b : Int) := by
  have := shared_l0 k a b 0 (by omega) (by omega) (by omega) (by omega) (by omega)
  simpa [lex_Shared.f] using this
theorem cut_pure {k : Nat} {a b : List UInt8} (ha : a.length ≤ 2000) (hb : b.length ≤ 2000) (hk : 2000 < k) :
    lex_Cut.f k a b = some (if Op.bytesLess a b = true then (b.take (shd a b + 1), true) else ([], false)) := by
  unfold lex_Cut.f
  rw [shared_pure ha hb hk]
  cases h : Op.bytesLess a b with
  | false => rfl
  | true =>
    have := shd_lt h
    have w : w64 ((shd a b : Int) + 1) = ((shd a b + 1 : Nat) : Int) := by rw [w64_id (by omega) (by omega)]; omega
    have g : (0 : Int) ≤ ((shd a b + 1 : Nat) : Int) ∧ ((shd a b + 1 : Nat) : Int) ≤ (b.length : Int) := by omega
    simp only [Bool.not_true, Bool.false_eq_true, if_false, Option.bind_some, w, if_pos g, Int.toNat_natCast, if_true]
theorem refshared_l0 : ∀ (k : Nat) (a b : List UInt8) (i : Nat), a.length ≤ 4611686018427387904 → b.length ≤ 4611686018427387904 → i ≤ a.length → i ≤ b.length → a.length - i < k →
    sluicegateref01_Shared.l0 k a b (i : Int) = some ((i + shd (a.drop i) (b.drop i) : Nat) : Int)
  | 0, a, b, i, _, _, _, _, h => by omega
  | k + 1, a, b, i, ha, hb, hia, hib, hk => by
    unfold sluicegateref01_Shared.l0
    by_cases h1 : i < a.length
    · have g1 : (0 : Int) ≤ (i : Int) ∧ (i : Int) < (a.length : Int) := by omega
      rw [if_pos (decide_eq_true g1.2)]
      by_cases h2 : i < b.length
      · have g2 : (0 : Int) ≤ (i : Int) ∧ (i : Int) < (b.length : Int) := by omega
        have w : w64 ((i : Int) + 1) = ((i + 1 : Nat) : Int) := by rw [w64_id (by omega) (by omega)]; omega
        have ih := refshared_l0 k a b (i + 1) ha hb (by omega) (by omega) (by omega)
        rw [if_pos (decide_eq_true g2.2), if_pos g1, if_pos g2, w, ih, drop_byte h1, drop_byte h2]
        simp only [gtb_eq, Int.toNat_natCast, shd, decide_eq_true_eq]
        by_cases e : a.getD i 0 = b.getD i 0
        · rw [if_pos e, if_pos e]
          congr 2
          omega
        · rw [if_neg e, if_neg e]
          rfl
      · rw [if_neg (by simp; omega), List.drop_eq_nil_of_le (show b.length ≤ i by omega)]
        cases a.drop i <;> rfl
    · rw [if_neg (by simp; omega), List.drop_eq_nil_of_le (show a.length ≤ i by omega)]
      rfl
theorem refshared_pure {k : Nat} {a b : List UInt8} (ha : a.length ≤ 2000) (hb : b.length ≤ 2000) (hk : 2000 < k) : sluicegateref01_Shared.f k a b = some (shd a b : Int) := by
  have := refshared_l0 k a b 0 (by omega) (by omega) (by omega) (by omega) (by omega)
  simpa [sluicegateref01_Shared.f] using this
theorem refcut_l0 (a b : List UInt8) (ha : a.length ≤ 2000) (hb : b.length ≤ 2000) (hlt : Op.bytesLess a b = true) (K : Nat) : ∀ (k i : Nat), i ≤ shd a b + 1 → shd a b + 1 - i < k → 2001 + (shd a b + 1 - i) < k →
    sluicegateref01_Cut.l0 k a b (i : Int) = some (b.take (shd a b + 1), true)
  | 0, i, _, h, _ => by omega
  | k + 1, i, hi, hk, hK => by
    have hs := shd_lt hlt
    unfold sluicegateref01_Cut.l0
    have g0 : (i : Int) ≤ (b.length : Int) := by omega
    have g1 : (0 : Int) ≤ (i : Int) ∧ (i : Int) ≤ (b.length : Int) := by omega
    rw [if_pos (decide_eq_true g0), if_pos g1, Int.toNat_natCast, compare_pure ha (by rw [List.length_take]; omega) (by omega), Option.bind_some]
    by_cases e : i = shd a b + 1
    · subst e
      rw [if_pos (decide_eq_true (scmp_lt.2 (bl_take_next hlt)))]
    · have := bl_take_shd (a := a) (b := b) (n := i) (by omega)
      have w : w64 ((i : Int) + 1) = ((i + 1 : Nat) : Int) := by rw [w64_id (by omega) (by omega)]; omega
      rw [if_neg (by simp only [decide_eq_true_eq, scmp_lt, this]; simp), w, refcut_l0 a b ha hb hlt K k (i + 1) (by omega) (by omega) (by omega)]
theorem refcut_pure {k : Nat} {a b : List UInt8} (ha : a.length ≤ 2000) (hb : b.length ≤ 2000) (hk : 5000 < k) :
    sluicegateref01_Cut.f k a b = some (if Op.bytesLess a b = true then (b.take (shd a b + 1), true) else ([], false)) := by
  unfold sluicegateref01_Cut.f
  rw [compare_pure ha hb (by omega), Option.bind_some]
  cases h : Op.bytesLess a b with
  | false =>
    rw [if_pos]
    · rfl
    · have := mt scmp_lt.1 (by simp [h] : ¬ Op.bytesLess a b = true)
      simp only [decide_eq_true_eq]
      omega
  | true =>
    have := scmp_lt.2 h
    have hs := shd_lt h
    rw [if_neg (by simp only [decide_eq_true_eq]; omega)]
    have := refcut_l0 a b ha hb h k k 0 (by omega) (by omega) (by omega)
    simpa using this
theorem lexCompare_pure (a b : List UInt8) : lex_Compare.f a b = some (scmp a b) := rfl
theorem long2 (k : Nat) (a b : List UInt8) : sluicegatelaw01_long.f (k + 10) [a, b] = some (decide (2000 < a.length) || decide (2000 < b.length)) := by
  unfold sluicegatelaw01_long.f
  rw [sluicegatelaw01_long.l0]
  have w1 : w64 (0 + 1) = 1 := rfl
  have w2 : w64 (1 + 1) = 2 := rfl
  by_cases h1 : 2000 < a.length
  · have : (2000 : Int) < (a.length : Int) := by omega
    simp [gt, h1, this]
  · have n1 : ¬ (2000 : Int) < (a.length : Int) := by omega
    simp only [w1]
    rw [sluicegatelaw01_long.l0]
    by_cases h2 : 2000 < b.length
    · have : (2000 : Int) < (b.length : Int) := by omega
      simp [gt, h1, h2, n1, this]
    · have n2 : ¬ (2000 : Int) < (b.length : Int) := by omega
      simp only [w2]
      rw [sluicegatelaw01_long.l0]
      simp [gt, h1, h2, n1, n2]
theorem LexCompares_pure (a b : List UInt8) (ha : Ty.fit (bytesIn tt) .str a) (hb : Ty.fit (bytesIn tt) .str b) : ∃ k, sluicegatelaw01_LexCompares.f k a b = some true := by
  refine ⟨5000 + 10, ?_⟩
  unfold sluicegatelaw01_LexCompares.f
  rw [long2, Option.bind_some, awake_pure]
  by_cases h : (decide (2000 < a.length) || decide (2000 < b.length)) = true
  · rw [if_pos h]; rfl
  · simp only [Bool.or_eq_true, decide_eq_true_eq, not_or] at h
    have h1 : a.length ≤ 2000 := by omega
    have h2 : b.length ≤ 2000 := by omega
    rw [if_neg (by simp [h1, h2]), cut_pure h1 h2 (by omega), refcut_pure h1 h2 (by omega), lexCompare_pure, compare_pure h1 h2 (by omega), shared_pure h1 h2 (by omega), refshared_pure h1 h2 (by omega)]
    have g : a.length + ([0] : List UInt8).length ≤ 9223372036854775807 := by simp; omega
    have n : lex_Next.f a = some (a ++ [0]) := by unfold lex_Next.f; rw [if_pos g]
    simp [n, g]
    omega
end Go.SK.T
