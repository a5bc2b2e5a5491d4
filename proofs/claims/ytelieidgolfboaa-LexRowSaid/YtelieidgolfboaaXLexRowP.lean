/- The plain law behind LexRow: what its code computes is true for every three strings. -/
import Derived.Test.YtelieidgolfboaaXLexRowF0
set_option linter.unusedVariables false
set_option linter.unusedSimpArgs false
namespace Go.SK.T
open Go Go.SK
theorem awake_pure (k : Nat) : sluicegatelaw01_awake.f (k + 10) = some true := by rfl
theorem shared_l0 : ∀ (k : Nat) (a b : List UInt8) (i : Nat), a.length ≤ 4611686018427387904 → b.length ≤ 4611686018427387904 → i ≤ a.length → i ≤ b.length → a.length - i < k →
    lex_Shared.l0 k a b (i : Int) = some ((i + shd (a.drop i) (b.drop i) : Nat) : Int)
  | 0, a, b, i, _, _, _, _, h => by omega
  | k + 1, a, b, i, ha, hb, hia, hib, hk => by
    unfold lex_Shared.l0
    by_cases h1 : i < a.length ∧ i < b.length
    · have g0 : (i : Int) < (if (b.length : Int) < (a.length : Int) then (b.length : Int) else (a.length : Int)) := by split <;> omega
      have g1 : (0 : Int) ≤ (i : Int) ∧ (i : Int) < (a.length : Int) := by omega
      have g2 : (0 : Int) ≤ (i : Int) ∧ (i : Int) < (b.length : Int) := by omega
      have w : w64 ((i : Int) + 1) = ((i + 1 : Nat) : Int) := by rw [w64_id (by omega) (by omega)]; omega
      have ih := shared_l0 k a b (i + 1) ha hb (by omega) (by omega) (by omega)
      rw [if_pos (decide_eq_true g0), if_pos g1, if_pos g2, w, ih, drop_byte h1.1, drop_byte h1.2]
      simp only [gtb_eq, Int.toNat_natCast, shd, Bool.not_eq_true', decide_eq_false_iff_not]
      by_cases e : a.getD i 0 = b.getD i 0
      · rw [if_neg (fun h => h e), if_pos e]
        congr 2
        omega
      · rw [if_pos e, if_neg e]
        rfl
    · have g0 : ¬ (i : Int) < (if (b.length : Int) < (a.length : Int) then (b.length : Int) else (a.length : Int)) := by split <;> omega
      rw [if_neg (by simpa using g0)]
      have z : shd (a.drop i) (b.drop i) = 0 := by
        rcases Nat.lt_or_ge i a.length with h | h
        · rw [List.drop_eq_nil_of_le (show b.length ≤ i by omega)]; cases a.drop i <;> rfl
        · rw [List.drop_eq_nil_of_le (show a.length ≤ i by omega)]; rfl
      rw [z]
      congr 1
      split <;> omega
theorem shared_big {k : Nat} {a b : List UInt8} (ha : a.length ≤ 4611686018427387904) (hb : b.length ≤ 4611686018427387904) (hk : a.length < k) : lex_Shared.f k a b = some (shd a b : Int) := by
  have := shared_l0 k a b 0 ha hb (by omega) (by omega) (by omega)
  simpa [lex_Shared.f] using this
theorem cut_big {k : Nat} {a b : List UInt8} (ha : a.length ≤ 4611686018427387904) (hb : b.length ≤ 4611686018427387904) (hk : a.length < k) :
    lex_Cut.f k a b = some (if Op.bytesLess a b = true then (b.take (shd a b + 1), true) else ([], false)) := by
  unfold lex_Cut.f
  rw [shared_big ha hb hk]
  cases h : Op.bytesLess a b with
  | false => rfl
  | true =>
    have := shd_lt h
    have w : w64 ((shd a b : Int) + 1) = ((shd a b + 1 : Nat) : Int) := by rw [w64_id (by omega) (by omega)]; omega
    have g : (0 : Int) ≤ ((shd a b + 1 : Nat) : Int) ∧ ((shd a b + 1 : Nat) : Int) ≤ (b.length : Int) := by omega
    simp only [Bool.not_true, Bool.false_eq_true, if_false, Option.bind_some, w, if_pos g, Int.toNat_natCast, if_true]
theorem shared_pure {k : Nat} {a b : List UInt8} (ha : a.length ≤ 2000) (hb : b.length ≤ 2000) (hk : 2000 < k) : lex_Shared.f k a b = some (shd a b : Int) := shared_big (by omega) (by omega) (by omega)
theorem cut_pure {k : Nat} {a b : List UInt8} (ha : a.length ≤ 2000) (hb : b.length ≤ 2000) (hk : 2000 < k) :
    lex_Cut.f k a b = some (if Op.bytesLess a b = true then (b.take (shd a b + 1), true) else ([], false)) := cut_big (by omega) (by omega) (by omega)
theorem lexCompare_pure (a b : List UInt8) : lex_Compare.f a b = some (scmp a b) := rfl
theorem LexRow_pure (a b c : List UInt8) (ha : Ty.fit (bytesIn tt) .str a) (hb : Ty.fit (bytesIn tt) .str b) (hc : Ty.fit (bytesIn tt) .str c) : ∃ k, sluicegatelaw01_LexRow.f k a b c = some true := by
  refine ⟨a.length + 10, ?_⟩
  have ha : a.length ≤ 140737488351232 := ha
  have hb : b.length ≤ 140737488351232 := hb
  have g : a.length + ([0] : List UInt8).length ≤ 9223372036854775807 := by simp; omega
  have n : lex_Next.f a = some (a ++ [0]) := by unfold lex_Next.f; rw [if_pos g]
  unfold sluicegatelaw01_LexRow.f
  have hn : scmp a (a ++ [0]) = -1 := by simp [scmp, bl_next]
  have hw : w64 (0 - scmp b a) = scmp a b := by
    rw [scmp_neg, Int.zero_sub, Int.neg_neg, w64_id] <;> (rcases scmp_vals a b with h | h | h <;> omega)
  have hcut : Op.bytesLess a b = true → Op.bytesLess a (b.take (shd a b + 1)) = true ∧ Op.bytesLess b (b.take (shd a b + 1)) = false ∧ (b.take (shd a b + 1)).length ≤ b.length := fun h => ⟨bl_take_next h, bl_take_le _ _, by rw [List.length_take]; omega⟩
  simp only [lexCompare_pure, Option.bind_some, cut_big (show a.length ≤ 4611686018427387904 by omega) (show b.length ≤ 4611686018427387904 by omega) (show a.length < a.length + 10 by omega), awake_pure, n, hn]
  have H1 : scmp a b ≤ 0 → scmp b c ≤ 0 → ¬ 0 < scmp a c := fun h k e => by
    rw [scmp_le] at h k
    rw [scmp_gt, bl_le_trans h k] at e
    cases e
  have H2 : scmp a b < 0 → scmp b c < 0 → ¬ 0 ≤ scmp a c := fun h k e => by
    rw [scmp_lt] at h k
    have := scmp_lt.2 (bl_trans h k)
    omega
  have H3 : Op.bytesLess a b = true → ¬ scmp b (a ++ [0]) < 0 := fun h e => by
    rw [scmp_lt, bl_next_le h] at e
    cases e
  rcases scmp_vals a b with ⟨e1, f1⟩ | ⟨e1, f1⟩ | ⟨e1, f1⟩
  · obtain ⟨c1, c2, c3⟩ := hcut f1
    have c4 := scmp_lt.2 c1
    have c5 : scmp (b.take (shd a b + 1)) b ≤ 0 := scmp_le.2 c2
    have H3 := H3 f1
    have c6 : ¬ a = b := bl_ne f1
    have c3' : ((b.take (shd a b + 1)).length : Int) ≤ (b.length : Int) := by omega
    rcases scmp_vals b c with ⟨e2, f2⟩ | ⟨e2, f2⟩ | ⟨e2, f2⟩ <;> rcases scmp_vals a c with ⟨e3, f3⟩ | ⟨e3, f3⟩ | ⟨e3, f3⟩ <;> rw [e1, e2, e3] at H1 H2 <;> simp at H1 H2 <;>
      simp only [hw, e1, e2, e3, f1, c4, c5, c6, H3, c3', if_true, decide_true, decide_false] <;> rfl
  · subst f1
    rcases scmp_vals a c with ⟨e2, f2⟩ | ⟨e2, f2⟩ | ⟨e2, f2⟩ <;>
      simp only [hw, e1, e2, bl_irr] <;> rfl
  · have c6 : ¬ a = b := fun e => bl_ne f1 e.symm
    rcases scmp_vals b c with ⟨e2, f2⟩ | ⟨e2, f2⟩ | ⟨e2, f2⟩ <;> rcases scmp_vals a c with ⟨e3, f3⟩ | ⟨e3, f3⟩ | ⟨e3, f3⟩ <;> rw [e1, e2, e3] at H1 H2 <;> simp at H1 H2 <;>
      simp only [hw, e1, e2, e3, bl_asymm f1, c6] <;> rfl
end Go.SK.T
