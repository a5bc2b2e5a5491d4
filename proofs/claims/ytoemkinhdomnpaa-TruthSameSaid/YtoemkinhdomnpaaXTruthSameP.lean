/- The plain law behind TruthSame: what its code computes is true for all answers and ops. -/
import Derived.Test.YtoemkinhdomnpaaXTruthSameF1
set_option linter.unusedVariables false
set_option linter.unusedSimpArgs false
namespace Go.SK.T
open Go Go.SK
abbrev Msg := List UInt8 × Bool × List UInt8
theorem msg_eq (x y : Msg) : (decide (x.1 = y.1) && ((x.2.1 == y.2.1) && (decide (x.2.2 = y.2.2) && true))) = decide (x = y) := by
  obtain ⟨a, b, c⟩ := x
  obtain ⟨d, e, f⟩ := y
  by_cases h1 : a = d <;> by_cases h2 : b = e <;> by_cases h3 : c = f <;> simp [h1, h2, h3]
abbrev Pr := List UInt8 × List UInt8
abbrev An := Int × List UInt8 × List Pr
theorem pr_eq (x y : Pr) : (decide (x.1 = y.1) && (decide (x.2 = y.2) && true)) = decide (x = y) := by
  obtain ⟨a, b⟩ := x
  obtain ⟨d, e⟩ := y
  by_cases h1 : a = d <;> by_cases h2 : b = e <;> simp [h1, h2]
theorem same_big {α : Type} [Inhabited α] [DecidableEq α] {F : Nat → Int → Option Bool} {a b : List α} {eqb : α → α → Bool} (he : ∀ x y, eqb x y = decide (x = y)) (hab : a.length = b.length) (ha : a.length ≤ 4611686018427387904)
    (hF : ∀ k i, F (k + 1) i = if (decide (i < (a.length : Int))) = true then (if 0 ≤ i ∧ i < (a.length : Int) then (if 0 ≤ i ∧ i < (b.length : Int) then (if (!(eqb (gt a i) (gt b i))) = true then (some false) else (F k (w64 (i + 1)))) else none) else none) else (some true)) :
    ∀ (k i : Nat), i ≤ a.length → a.length - i < k → F k (i : Int) = some (decide (a.drop i = b.drop i))
  | 0, i, _, h => by omega
  | k + 1, i, hi, hk => by
    rw [hF]
    by_cases h : i < a.length
    · have g1 : (0 : Int) ≤ (i : Int) ∧ (i : Int) < (a.length : Int) := by omega
      have g2 : (0 : Int) ≤ (i : Int) ∧ (i : Int) < (b.length : Int) := by omega
      have wi : w64 ((i : Int) + 1) = ((i + 1 : Nat) : Int) := w64_id (by omega) (by omega)
      rw [if_pos (decide_eq_true g1.2), if_pos g1, if_pos g2, he, wi, same_big he hab ha hF k (i + 1) (by omega) (by omega), drop_cons h, drop_cons (show i < b.length by omega), gt_nat, gt_nat]
      generalize a.getD i default = x
      generalize b.getD i default = y
      by_cases e : x = y
      · simp [e]
      · simp [e]
    · rw [if_neg (by simp; omega), List.drop_eq_nil_of_le (by omega), List.drop_eq_nil_of_le (by omega)]
      rfl
theorem same11_big {k : Nat} {a b : List Pr} (ha : a.length ≤ 4611686018427387904) (hk : a.length < k) : sluicegateref11_Same.f k a b = some (decide (a = b)) := by
  unfold sluicegateref11_Same.f
  by_cases h : a.length = b.length
  · rw [if_neg (by simp [h])]
    have := same_big (F := fun k i => sluicegateref11_Same.l0 k a b i) (eqb := fun x y => decide (x.1 = y.1) && (decide (x.2 = y.2) && true)) pr_eq h ha (fun k i => rfl) k 0 (by omega) (by omega)
    simpa using this
  · rw [if_pos (by simp; omega)]
    have : a ≠ b := fun e => h (by rw [e])
    simp [this]
theorem equal_big {k : Nat} {a b : List Pr} (ha : a.length ≤ 4611686018427387904) (hk : a.length < k) : slices_Equal_api_Pair_api_Pair.f k a b = some (decide (a = b)) := by
  unfold slices_Equal_api_Pair_api_Pair.f
  by_cases h : a.length = b.length
  · rw [if_neg (by simp [h])]
    have := same_big (F := fun k i => slices_Equal_api_Pair_api_Pair.l0 k a b i) (eqb := fun x y => decide (x.1 = y.1) && (decide (x.2 = y.2) && true)) pr_eq h ha (fun k i => rfl) k 0 (by omega) (by omega)
    simpa using this
  · rw [if_pos (by simp; omega)]
    have : a ≠ b := fun e => h (by rw [e])
    simp [this]
def alike (a b : An) : Bool := decide (a.1 = b.1 ∧ a.2.1 = b.2.1 ∧ a.2.2 = b.2.2)
theorem alike_eq {a b : An} {X : Option Bool} (hX : X = some (decide (a.2.2 = b.2.2))) : (if (decide (a.1 = b.1)) = true then (if (decide (a.2.1 = b.2.1)) = true then (X.bind fun r => some r) else some false) else some false) = some (alike a b) := by
  unfold alike
  by_cases h1 : a.1 = b.1
  · by_cases h2 : a.2.1 = b.2.1
    · rw [if_pos (decide_eq_true h1), if_pos (decide_eq_true h2), hX]
      simp [h1, h2]
    · rw [if_pos (decide_eq_true h1), if_neg (by simpa using h2)]
      simp [h2]
  · rw [if_neg (by simpa using h1)]
    simp [h1]
theorem truthSame {k : Nat} {a b : An} (ha : a.2.2.length ≤ 4611686018427387904) (hk : a.2.2.length < k) : truth_Same.f k a b = some (alike a b) := alike_eq (equal_big ha hk)
theorem refSame27 {k : Nat} {a b : An} (ha : a.2.2.length ≤ 4611686018427387904) (hk : a.2.2.length < k) : sluicegateref27_Same.f k a b = some (alike a b) := alike_eq (same11_big ha hk)
theorem awake28_pure (k : Nat) : sluicegatelaw28_awake.f (k + 30) = some true := by rfl
theorem TruthSame_pure {p q : Prop} (a b : An) (o : Int × List UInt8 × List UInt8 × Int) (ha : Ty.fit (bytesIn tt) (.pair (.int .i64) (.pair .str (.slice 75 (.pair .str .str)))) a) (_ : p) (_ : q) : ∃ k, sluicegatelaw28_TruthSame.f k a b o = some true := by
  have h : a.2.2.length * bytesIn tt 75 ≤ 140737488351232 := ha.2.2.2.1
  rw [show bytesIn tt 75 = 32 from rfl] at h
  refine ⟨a.2.2.length + 20 + 30, ?_⟩
  unfold sluicegatelaw28_TruthSame.f
  rw [show truth_Truth_Do_nil.f (o.1, o.2.1, o.2.2.1, o.2.2.2) = some (1, [], []) from rfl, show truth_Truth_Would_nil.f (o.1, o.2.1, o.2.2.1, o.2.2.2) = some (1, [], []) from rfl, Option.bind_some, Option.bind_some, truthSame (by simp) (by simp), Option.bind_some]
  have w1 : alike (1, [], []) (1, [], []) = true := by decide
  rw [w1, if_neg (by decide), Option.bind_some, if_neg (by decide), show truth_Truth_Pairs_nil.f = some [] from rfl, Option.bind_some, if_neg (by decide), show truth_Truth_Len_nil.f = some 0 from rfl, Option.bind_some, if_neg (by decide)]
  have w2 : alike a a = true := by simp [alike]
  rw [show truth_Same.f _ (a.1, a.2.1, a.2.2) (b.1, b.2.1, b.2.2) = _ from truthSame (a := a) (b := b) (by omega) (by omega), Option.bind_some]
  simp only [sluicegatelaw28_as.f, Option.bind_some]
  rw [show sluicegateref27_Same.f _ (a.1, a.2.1, a.2.2) (b.1, b.2.1, b.2.2) = _ from refSame27 (a := a) (b := b) (by omega) (by omega), Option.bind_some, if_pos (by simp), show truth_Same.f _ (a.1, a.2.1, a.2.2) (a.1, a.2.1, a.2.2) = _ from truthSame (a := a) (b := a) (by omega) (by omega), Option.bind_some, w2, if_pos rfl, awake28_pure]
  rfl
end Go.SK.T
