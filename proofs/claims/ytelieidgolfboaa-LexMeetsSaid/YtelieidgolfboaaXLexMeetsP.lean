/- The plain law behind LexMeets: what its code computes is true for every two spans and every key. -/
import Derived.Test.YtelieidgolfboaaXLexMeetsF0
set_option linter.unusedVariables false
set_option linter.unusedSimpArgs false
namespace Go.SK.T
open Go Go.SK
theorem awake_pure (k : Nat) : sluicegatelaw01_awake.f (k + 10) = some true := by rfl
theorem compare_l0 : ∀ (k : Nat) (a b : List UInt8) (i : Nat), a.length ≤ 4611686018427387904 → b.length ≤ 4611686018427387904 → i ≤ a.length → i ≤ b.length → a.length - i < k →
    sluicegateref01_Compare.l0 k a b (i : Int) = some (scmp (a.drop i) (b.drop i))
  | 0, a, b, i, _, _, _, _, h => by omega
  | k + 1, a, b, i, ha, hb, hia, hib, hk => by
    unfold sluicegateref01_Compare.l0
    by_cases h1 : i < a.length
    · by_cases h2 : i < b.length
      · have g1 : (0 : Int) ≤ (i : Int) ∧ (i : Int) < (a.length : Int) := by omega
        have g2 : (0 : Int) ≤ (i : Int) ∧ (i : Int) < (b.length : Int) := by omega
        have w : w64 ((i : Int) + 1) = ((i + 1 : Nat) : Int) := by rw [w64_id (by omega) (by omega)]; omega
        have ih := compare_l0 k a b (i + 1) ha hb (by omega) (by omega) (by omega)
        simp only [g1.2, g2.2, g1, g2, decide_true, if_true, and_self, w, ih, gtb_lt, Int.toNat_natCast, drop_byte h1, drop_byte h2, scmp_cons, decide_eq_true_eq]
        split
        · rfl
        · split <;> rfl
      · have g1 : (i : Int) < (a.length : Int) := by omega
        have g2 : ¬ (i : Int) < (b.length : Int) := by omega
        have e : b.drop i = [] := List.drop_eq_nil_of_le (by omega)
        have z1 : ¬ (a.length : Int) < (b.length : Int) := by omega
        have z2 : (b.length : Int) < (a.length : Int) := by omega
        have z3 : ¬ (a.drop i).length = 0 := by rw [List.length_drop]; omega
        simp [g1, g2, e, z1, z2, scmp_nil_right, z3]
        omega
    · have g1 : ¬ (i : Int) < (a.length : Int) := by omega
      have e : a.drop i = [] := List.drop_eq_nil_of_le (by omega)
      have z : (b.drop i).length = b.length - i := List.length_drop ..
      simp only [g1, e, scmp_nil_left, z, decide_false, Bool.false_eq_true, if_false, decide_eq_true_eq]
      by_cases h2 : b.length = i
      · have z1 : ¬ (a.length : Int) < (b.length : Int) := by omega
        have z2 : ¬ (b.length : Int) < (a.length : Int) := by omega
        have h3 : a.length = i := by omega
        simp [h2, h3]
      · have z1 : (a.length : Int) < (b.length : Int) := by omega
        have z2 : ¬ b.length - i = 0 := by omega
        simp [z1, z2]
theorem compare_pure {k : Nat} {a b : List UInt8} (ha : a.length ≤ 2000) (hb : b.length ≤ 2000) (hk : 2000 < k) : sluicegateref01_Compare.f k a b = some (scmp a b) := by
  have := compare_l0 k a b 0 (by omega) (by omega) (by omega) (by omega) (by omega)
  simpa [sluicegateref01_Compare.f] using this
abbrev Sp := List UInt8 × List UInt8 × Bool
def inS (s : Sp) (x : List UInt8) : Bool := !Op.bytesLess x s.1 && (s.2.2 || Op.bytesLess x s.2.1)
def emS (s : Sp) : Bool := !s.2.2 && !Op.bytesLess s.1 s.2.1
theorem lexIn_pure (s : Sp) (x : List UInt8) : lex_In.f s x = some (inS s x) := by
  unfold lex_In.f inS
  cases Op.bytesLess x s.1 <;> cases s.2.2 <;> rfl
theorem lexEmpty_pure (s : Sp) : lex_Empty.f s = some (emS s) := by
  unfold lex_Empty.f emS
  rw [bl_le_iff]
  cases s.2.2 <;> rfl
theorem refIn_pure {k : Nat} {s : Sp} {x : List UInt8} (h1 : s.1.length ≤ 2000) (h2 : s.2.1.length ≤ 2000) (hx : x.length ≤ 2000) (hk : 2000 < k) : sluicegateref01_In.f k s x = some (inS s x) := by
  unfold sluicegateref01_In.f inS
  rw [compare_pure h1 hx hk, compare_pure hx h2 hk]
  simp only [Option.bind_some, scmp_le, scmp_lt, decide_eq_true_eq]
  cases h : Op.bytesLess x s.1 <;> cases s.2.2 <;> simp
theorem long_step {k : Nat} {ss : List (List UInt8)} {i : Nat} (h : ss.length ≤ 100) : sluicegatelaw01_long.l0 (k + 1) ss (i : Int) = if i < ss.length then (if 2000 < (ss.getD i []).length then some true else sluicegatelaw01_long.l0 k ss ((i + 1 : Nat) : Int)) else some false := by
  rw [sluicegatelaw01_long.l0]
  by_cases h1 : i < ss.length
  · have g1 : (0 : Int) ≤ (i : Int) ∧ (i : Int) < (ss.length : Int) := by omega
    have w : w64 ((i : Int) + 1) = ((i + 1 : Nat) : Int) := by rw [w64_id (by omega) (by omega)]; omega
    rw [if_pos (decide_eq_true g1.2), if_pos g1, if_pos h1, w, gt_nat]
    by_cases h2 : 2000 < (ss.getD i []).length
    · rw [if_pos (by simp only [decide_eq_true_eq]; show (2000 : Int) < ((ss.getD i []).length : Int); omega), if_pos h2]
    · rw [if_neg (by simp only [decide_eq_true_eq]; show ¬ (2000 : Int) < ((ss.getD i []).length : Int); omega), if_neg h2]
  · rw [if_neg (by simp only [decide_eq_true_eq]; omega), if_neg h1]
theorem long_drop : ∀ (k : Nat) (ss : List (List UInt8)) (i : Nat), ss.length ≤ 100 → i ≤ ss.length → ss.length - i < k → sluicegatelaw01_long.l0 k ss (i : Int) = some ((ss.drop i).any fun s => decide (2000 < s.length))
  | 0, ss, i, _, _, h => by omega
  | k + 1, ss, i, h, hi, hk => by
    rw [long_step h]
    by_cases h1 : i < ss.length
    · have e : ss.drop i = ss.getD i [] :: ss.drop (i + 1) := drop_cons (α := List UInt8) h1
      rw [if_pos h1, e, List.any_cons]
      by_cases h2 : 2000 < (ss.getD i []).length
      · rw [if_pos h2, decide_eq_true h2, Bool.true_or]
      · rw [if_neg h2, long_drop k ss (i + 1) h (by omega) (by omega), decide_eq_false h2, Bool.false_or]
    · rw [if_neg h1, List.drop_eq_nil_of_le (by omega)]
      rfl
theorem long_pure {k : Nat} {ss : List (List UInt8)} (h : ss.length ≤ 100) (hk : 100 < k) : sluicegatelaw01_long.f k ss = some (ss.any fun s => decide (2000 < s.length)) := by
  have := long_drop k ss 0 h (by omega) (by omega)
  simpa [sluicegatelaw01_long.f] using this
def cutS (a b : Sp) : Sp := (if Op.bytesLess a.1 b.1 = true then b.1 else a.1, if a.2.2 = true then (if b.2.2 = true then [] else b.2.1) else if b.2.2 = true then a.2.1 else if Op.bytesLess b.2.1 a.2.1 = true then b.2.1 else a.2.1, a.2.2 && b.2.2)
def meetS (a b : Sp) : Sp × Bool := if emS (cutS a b) = true then (([], [], false), false) else (cutS a b, true)
theorem meet_pure (a b : Sp) : lex_Meet.f a b = some (meetS a b) := by
  obtain ⟨l, h, p⟩ := a
  obtain ⟨m, i, q⟩ := b
  have e : (if (!Op.bytesLess l m) = true then l else m) = if Op.bytesLess l m = true then m else l := by cases Op.bytesLess l m <;> rfl
  have f : (if (Op.bytesLess h i || decide (h = i)) = true then h else i) = if Op.bytesLess i h = true then i else h := by rw [bl_le_iff]; cases Op.bytesLess i h <;> rfl
  cases p <;> cases q <;> simp only [lex_Meet.f, meetS, cutS, lexEmpty_pure, Option.bind_some, e, f, Bool.not_true, Bool.not_false, Bool.false_eq_true, if_false, if_true, Bool.and_true, Bool.true_and, Bool.and_false, Bool.false_and] <;> exact (apply_ite some _ _ _).symm
theorem in_cut (a b : Sp) (x : List UInt8) : inS (cutS a b) x = (inS a x && inS b x) := by
  obtain ⟨l, h, p⟩ := a
  obtain ⟨m, i, q⟩ := b
  have e : Op.bytesLess x (if Op.bytesLess l m = true then m else l) = (Op.bytesLess x l || Op.bytesLess x m) := by
    cases c : Op.bytesLess l m with
    | true =>
      simp only [if_true]
      cases d : Op.bytesLess x l with
      | false => simp
      | true => simp [bl_trans d c]
    | false =>
      simp only [Bool.false_eq_true, if_false]
      cases d : Op.bytesLess x m with
      | false => simp
      | true => simp [bl_lt_le d c]
  have f : Op.bytesLess x (if Op.bytesLess i h = true then i else h) = (Op.bytesLess x h && Op.bytesLess x i) := by
    cases c : Op.bytesLess i h with
    | true =>
      simp only [if_true]
      cases d : Op.bytesLess x i with
      | false => simp
      | true => simp [bl_trans d c]
    | false =>
      simp only [Bool.false_eq_true, if_false]
      cases d : Op.bytesLess x h with
      | false => simp
      | true => simp [bl_lt_le d c]
  cases p <;> cases q <;> simp only [inS, cutS, e, f, Bool.and_true, Bool.true_and, Bool.and_false, Bool.false_and, Bool.false_eq_true, if_false, if_true, Bool.true_or, Bool.false_or, Bool.not_or] <;> (cases Op.bytesLess x l <;> cases Op.bytesLess x m <;> cases Op.bytesLess x h <;> cases Op.bytesLess x i <;> rfl)
theorem in_low (s : Sp) : inS s s.1 = !emS s := by
  simp only [inS, emS, bl_irr]
  cases s.2.2 <;> cases Op.bytesLess s.1 s.2.1 <;> rfl
theorem in_empty {s : Sp} {x : List UInt8} (h : emS s = true) : inS s x = false := by
  simp only [emS, Bool.and_eq_true, Bool.not_eq_true'] at h
  cases k : Op.bytesLess x s.1 with
  | true => simp [inS, k]
  | false =>
    simp only [inS, k, h.1, Bool.not_false, Bool.true_and, Bool.false_or]
    exact bl_le_trans h.2 k
theorem LexMeets_pure (a b : Sp) (x : List UInt8) (hfa : Ty.fit (bytesIn tt) (.pair .str (.pair .str .bool)) a) (hfb : Ty.fit (bytesIn tt) (.pair .str (.pair .str .bool)) b) (hx : Ty.fit (bytesIn tt) .str x) : ∃ k, sluicegatelaw01_LexMeets.f k a b x = some true := by
  refine ⟨5000 + 10, ?_⟩
  unfold sluicegatelaw01_LexMeets.f
  rw [long_pure (by simp) (by omega), Option.bind_some, awake_pure]
  by_cases h : ([a.1, a.2.1, b.1, b.2.1, x].any fun s => decide (2000 < s.length)) = true
  · rw [if_pos h]; rfl
  · rw [if_neg h]
    simp only [List.any_cons, List.any_nil, Bool.or_false, Bool.or_eq_true, decide_eq_true_eq, not_or] at h
    obtain ⟨h1, h2, h3, h4, h5⟩ := h
    have h1 : a.1.length ≤ 2000 := by omega
    have h2 : a.2.1.length ≤ 2000 := by omega
    have h3 : b.1.length ≤ 2000 := by omega
    have h4 : b.2.1.length ≤ 2000 := by omega
    have h5 : x.length ≤ 2000 := by omega
    have m1 : (cutS a b).1.length ≤ 2000 := by unfold cutS; dsimp only; split <;> assumption
    have m2 : (cutS a b).2.1.length ≤ 2000 := by
      unfold cutS; dsimp only
      split
      · split
        · simp
        · assumption
      · split
        · assumption
        · split <;> assumption
    have ea : (a.1, a.2.1, a.2.2) = a := rfl
    have eta : ∀ s : Sp, (s.1, s.2.1, s.2.2) = s := fun _ => rfl
    have eb : (b.1, b.2.1, b.2.2) = b := rfl
    have q : ∀ (s : Sp), s.1.length ≤ 2000 → s.2.1.length ≤ 2000 → ∀ y : List UInt8, y.length ≤ 2000 → sluicegateref01_In.f (5000 + 10) s y = some (inS s y) := fun s e1 e2 y e3 => refIn_pure e1 e2 e3 (by omega)
    simp only [ea, eb, meet_pure, Option.bind_some, q a h1 h2 x h5, q b h3 h4 x h5, q a h1 h2 b.1 h3, q b h3 h4 b.1 h3, q a h1 h2 a.1 h1, q b h3 h4 a.1 h1, compare_pure h1 h3 (show 2000 < 5000 + 10 by omega), scmp_lt, decide_eq_true_eq]
    have lo : Op.bytesLess a.1 b.1 = true → (cutS a b).1 = b.1 := fun e => by simp [cutS, e]
    have lo' : Op.bytesLess a.1 b.1 = false → (cutS a b).1 = a.1 := fun e => by simp [cutS, e]
    have hi := in_cut a b
    have hlow := in_low (cutS a b)
    have hop : (cutS a b).2.2 = (a.2.2 && b.2.2) := rfl
    have htop : a.2.2 = true → b.2.2 = true → (cutS a b).2.1 = [] := fun e f => by simp [cutS, e, f]
    have hq := q (cutS a b) m1 m2 x h5
    cases c : Op.bytesLess a.1 b.1 with
    | true =>
      have hl := lo c
      rw [hi, hl] at hlow
      cases he : emS (cutS a b) with
      | true =>
        have hx0 := in_empty (x := x) he
        rw [hi] at hx0
        rw [he] at hlow
        simp only [meetS, he, if_true]
        revert hlow hx0
        cases inS a b.1 <;> cases inS b b.1 <;> cases inS a x <;> cases inS b x <;> intro hlow hx0 <;> first | rfl | simp at hlow hx0
      | false =>
        rw [he] at hlow
        simp only [meetS, he, Bool.false_eq_true, if_false, eta, hq, hi, Option.bind_some]
        simp only [hl, hop]
        revert hlow
        cases inS a b.1 <;> cases inS b b.1 <;> intro hlow <;> simp at hlow
        cases inS a x <;> cases inS b x <;> cases ha : a.2.2 <;> cases hb : b.2.2 <;> simp [ha, hb, htop]
    | false =>
      have hl := lo' c
      rw [hi, hl] at hlow
      cases he : emS (cutS a b) with
      | true =>
        have hx0 := in_empty (x := x) he
        rw [hi] at hx0
        rw [he] at hlow
        simp only [meetS, he, if_true]
        revert hlow hx0
        cases inS a a.1 <;> cases inS b a.1 <;> cases inS a x <;> cases inS b x <;> intro hlow hx0 <;> first | rfl | simp at hlow hx0
      | false =>
        rw [he] at hlow
        simp only [meetS, he, Bool.false_eq_true, if_false, eta, hq, hi, Option.bind_some]
        simp only [hl, hop]
        revert hlow
        cases inS a a.1 <;> cases inS b a.1 <;> intro hlow <;> simp at hlow
        cases inS a x <;> cases inS b x <;> cases ha : a.2.2 <;> cases hb : b.2.2 <;> simp [ha, hb, htop]
end Go.SK.T
