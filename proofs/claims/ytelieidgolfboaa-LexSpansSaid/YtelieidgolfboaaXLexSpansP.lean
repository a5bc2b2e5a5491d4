/- The plain law behind LexSpans: what its code computes is true for every span and every key. -/
import Derived.Test.YtelieidgolfboaaXLexSpansF0
set_option linter.unusedVariables false
set_option linter.unusedSimpArgs false
namespace Go.SK.T
open Go Go.SK
theorem awake_pure (k : Nat) : sluicegatelaw01_awake.f (k + 10) = some true := by rfl
theorem compare_l0 : ∀ (k : Nat) (a b : List UInt8) (i : Nat), a.length ≤ 4611686018427387904 → b.length ≤ 4611686018427387904 → i ≤ a.length → i ≤ b.length → a.length - i < k →
    sluicegateref01_Compare.l0 k a b (i : Int) = some (scmp (a.drop i) (b.drop i))
  | 0, a, b, i, _, _, _, _, h => by omega
  | k + 1, a, b, i, ha, hb, hia, hib, hk => by
    unfold sluicegateref01_Compare.l0
    by_cases h1 : i < a.length
    · by_cases h2 : i < b.length
      · have g1 : (0 : Int) ≤ (i : Int) ∧ (i : Int) < (a.length : Int) := by omega
        have g2 : (0 : Int) ≤ (i : Int) ∧ (i : Int) < (b.length : Int) := by omega
        have w : w64 ((i : Int) + 1) = ((i + 1 : Nat) : Int) := by rw [w64_id (by omega) (by omega)]; omega
        have ih := compare_l0 k a b (i + 1) ha hb (by omega) (by omega) (by omega)
        simp only [g1.2, g2.2, g1, g2, decide_true, if_true, and_self, w, ih, gtb_lt, Int.toNat_natCast, drop_byte h1, drop_byte h2, scmp_cons, decide_eq_true_eq]
        split
        · rfl
        · split <;> rfl
      · have g1 : (i : Int) < (a.length : Int) := by omega
        have g2 : ¬ (i : Int) < (b.length : Int) := by omega
        have e : b.drop i = [] := List.drop_eq_nil_of_le (by omega)
        have z1 : ¬ (a.length : Int) < (b.length : Int) := by omega
        have z2 : (b.length : Int) < (a.length : Int) := by omega
        have z3 : ¬ (a.drop i).length = 0 := by rw [List.length_drop]; omega
        simp [g1, g2, e, z1, z2, scmp_nil_right, z3]
        omega
    · have g1 : ¬ (i : Int) < (a.length : Int) := by omega
      have e : a.drop i = [] := List.drop_eq_nil_of_le (by omega)
      have z : (b.drop i).length = b.length - i := List.length_drop ..
      simp only [g1, e, scmp_nil_left, z, decide_false, Bool.false_eq_true, if_false, decide_eq_true_eq]
      by_cases h2 : b.length = i
      · have z1 : ¬ (a.length : Int) < (b.length : Int) := by omega
        have z2 : ¬ (b.length : Int) < (a.length : Int) := by omega
        have h3 : a.length = i := by omega
        simp [h2, h3]
      · have z1 : (a.length : Int) < (b.length : Int) := by omega
        have z2 : ¬ b.length - i = 0 := by omega
        simp [z1, z2]
theorem compare_pure {k : Nat} {a b : List UInt8} (ha : a.length ≤ 2000) (hb : b.length ≤ 2000) (hk : 2000 < k) : sluicegateref01_Compare.f k a b = some (scmp a b) := by
  have := compare_l0 k a b 0 (by omega) (by omega) (by omega) (by omega) (by omega)
  simpa [sluicegateref01_Compare.f] using this
abbrev Sp := List UInt8 × List UInt8 × Bool
def inS (s : Sp) (x : List UInt8) : Bool := !Op.bytesLess x s.1 && (s.2.2 || Op.bytesLess x s.2.1)
def emS (s : Sp) : Bool := !s.2.2 && !Op.bytesLess s.1 s.2.1
theorem lexIn_pure (s : Sp) (x : List UInt8) : lex_In.f s x = some (inS s x) := by
  unfold lex_In.f inS
  cases Op.bytesLess x s.1 <;> cases s.2.2 <;> rfl
theorem lexEmpty_pure (s : Sp) : lex_Empty.f s = some (emS s) := by
  unfold lex_Empty.f emS
  rw [bl_le_iff]
  cases s.2.2 <;> rfl
theorem refIn_pure {k : Nat} {s : Sp} {x : List UInt8} (h1 : s.1.length ≤ 2000) (h2 : s.2.1.length ≤ 2000) (hx : x.length ≤ 2000) (hk : 2000 < k) : sluicegateref01_In.f k s x = some (inS s x) := by
  unfold sluicegateref01_In.f inS
  rw [compare_pure h1 hx hk, compare_pure hx h2 hk]
  simp only [Option.bind_some, scmp_le, scmp_lt, decide_eq_true_eq]
  cases h : Op.bytesLess x s.1 <;> cases s.2.2 <;> simp
theorem long_step {k : Nat} {ss : List (List UInt8)} {i : Nat} (h : ss.length ≤ 100) : sluicegatelaw01_long.l0 (k + 1) ss (i : Int) = if i < ss.length then (if 2000 < (ss.getD i []).length then some true else sluicegatelaw01_long.l0 k ss ((i + 1 : Nat) : Int)) else some false := by
  rw [sluicegatelaw01_long.l0]
  by_cases h1 : i < ss.length
  · have g1 : (0 : Int) ≤ (i : Int) ∧ (i : Int) < (ss.length : Int) := by omega
    have w : w64 ((i : Int) + 1) = ((i + 1 : Nat) : Int) := by rw [w64_id (by omega) (by omega)]; omega
    rw [if_pos (decide_eq_true g1.2), if_pos g1, if_pos h1, w, gt_nat]
    by_cases h2 : 2000 < (ss.getD i []).length
    · rw [if_pos (by simp only [decide_eq_true_eq]; show (2000 : Int) < ((ss.getD i []).length : Int); omega), if_pos h2]
    · rw [if_neg (by simp only [decide_eq_true_eq]; show ¬ (2000 : Int) < ((ss.getD i []).length : Int); omega), if_neg h2]
  · rw [if_neg (by simp only [decide_eq_true_eq]; omega), if_neg h1]
theorem long_drop : ∀ (k : Nat) (ss : List (List UInt8)) (i : Nat), ss.length ≤ 100 → i ≤ ss.length → ss.length - i < k → sluicegatelaw01_long.l0 k ss (i : Int) = some ((ss.drop i).any fun s => decide (2000 < s.length))
  | 0, ss, i, _, _, h => by omega
  | k + 1, ss, i, h, hi, hk => by
    rw [long_step h]
    by_cases h1 : i < ss.length
    · have e : ss.drop i = ss.getD i [] :: ss.drop (i + 1) := drop_cons (α := List UInt8) h1
      rw [if_pos h1, e, List.any_cons]
      by_cases h2 : 2000 < (ss.getD i []).length
      · rw [if_pos h2, decide_eq_true h2, Bool.true_or]
      · rw [if_neg h2, long_drop k ss (i + 1) h (by omega) (by omega), decide_eq_false h2, Bool.false_or]
    · rw [if_neg h1, List.drop_eq_nil_of_le (by omega)]
      rfl
theorem long_pure {k : Nat} {ss : List (List UInt8)} (h : ss.length ≤ 100) (hk : 100 < k) : sluicegatelaw01_long.f k ss = some (ss.any fun s => decide (2000 < s.length)) := by
  have := long_drop k ss 0 h (by omega) (by omega)
  simpa [sluicegatelaw01_long.f] using this
theorem refEmpty_pure {k : Nat} {s : Sp} (h1 : s.1.length ≤ 2000) (h2 : s.2.1.length ≤ 2000) (hk : 2000 < k) : sluicegateref01_Empty.f k s = some (emS s) := by
  unfold sluicegateref01_Empty.f
  rw [refIn_pure h1 h2 h1 hk]
  simp only [Option.bind_some, inS, emS, bl_irr]
  simp
theorem inS_empty {s : Sp} {x : List UInt8} (h : emS s = true) : inS s x = false := by
  simp only [emS, Bool.and_eq_true, Bool.not_eq_true'] at h
  cases k : Op.bytesLess x s.1 with
  | true => simp [inS, k]
  | false =>
    simp only [inS, k, h.1, Bool.not_false, Bool.true_and, Bool.false_or]
    exact bl_le_trans h.2 k
theorem LexSpans_pure (s : Sp) (x : List UInt8) (hs : Ty.fit (bytesIn tt) (.pair .str (.pair .str .bool)) s) (hx : Ty.fit (bytesIn tt) .str x) : ∃ k, sluicegatelaw01_LexSpans.f k s x = some true := by
  refine ⟨5000 + 10, ?_⟩
  unfold sluicegatelaw01_LexSpans.f
  rw [long_pure (by simp) (by omega), Option.bind_some, awake_pure]
  by_cases h : ([s.1, s.2.1, x].any fun s => decide (2000 < s.length)) = true
  · rw [if_pos h]; rfl
  · rw [if_neg h]
    simp only [List.any_cons, List.any_nil, Bool.or_false, Bool.or_eq_true, decide_eq_true_eq, not_or] at h
    have h1 : s.1.length ≤ 2000 := by omega
    have h2 : s.2.1.length ≤ 2000 := by omega
    have h3 : x.length ≤ 2000 := by omega
    have ha : lex_All.f = some ([], [], true) := rfl
    have hi : inS ([], [], true) x = true := by simp [inS, bl_nil_right]
    have hq : sluicegateref01_In.f (5000 + 10) (s.1, s.2.1, s.2.2) x = _ := refIn_pure h1 h2 h3 (by omega)
    have hr : sluicegateref01_Empty.f (5000 + 10) (s.1, s.2.1, s.2.2) = _ := refEmpty_pure h1 h2 (by omega)
    simp only [lexIn_pure, hq, hr, lexEmpty_pure, ha, Option.bind_some, beq_self_eq_true, if_true, hi]
    cases he : emS (s.1, s.2.1, s.2.2) with
    | false => rfl
    | true => rw [inS_empty he]; rfl
end Go.SK.T
