/- The plain law behind BufRights: what its code computes is true for every two lists of messages. -/
import Derived.Test.YtelieidgolfboaaXBufRightsF0
set_option linter.unusedVariables false
set_option linter.unusedSimpArgs false
namespace Go.SK.T
open Go Go.SK
theorem awake_pure (k : Nat) : sluicegatelaw10_awake.f (k + 20) = some true := by rfl
theorem compare_l0 : ∀ (k : Nat) (a b : List UInt8) (i : Nat), a.length ≤ 4611686018427387904 → b.length ≤ 4611686018427387904 → i ≤ a.length → i ≤ b.length → a.length - i < k →
    sluicegateref01_Compare.l0 k a b (i : Int) = some (scmp (a.drop i) (b.drop i))
  | 0, a, b, i, _, _, _, _, h => by omega
  | k + 1, a, b, i, ha, hb, hia, hib, hk => by
    unfold sluicegateref01_Compare.l0
    by_cases h1 : i < a.length
    · by_cases h2 : i < b.length
      · have g1 : (0 : Int) ≤ (i : Int) ∧ (i : Int) < (a.length : Int) := by omega
        have g2 : (0 : Int) ≤ (i : Int) ∧ (i : Int) < (b.length : Int) := by omega
        have w : w64 ((i : Int) + 1) = ((i + 1 : Nat) : Int) := by rw [w64_id (by omega) (by omega)]; omega
        have ih := compare_l0 k a b (i + 1) ha hb (by omega) (by omega) (by omega)
        simp only [g1.2, g2.2, g1, g2, decide_true, if_true, and_self, w, ih, gtb_lt, Int.toNat_natCast, drop_byte h1, drop_byte h2, scmp_cons, decide_eq_true_eq]
        split
        · rfl
        · split <;> rfl
      · have g1 : (i : Int) < (a.length : Int) := by omega
        have g2 : ¬ (i : Int) < (b.length : Int) := by omega
        have e : b.drop i = [] := List.drop_eq_nil_of_le (by omega)
        have z1 : ¬ (a.length : Int) < (b.length : Int) := by omega
        have z2 : (b.length : Int) < (a.length : Int) := by omega
        have z3 : ¬ (a.drop i).length = 0 := by rw [List.length_drop]; omega
        simp [g1, g2, e, z1, z2, scmp_nil_right, z3]
        omega
    · have g1 : ¬ (i : Int) < (a.length : Int) := by omega
      have e : a.drop i = [] := List.drop_eq_nil_of_le (by omega)
      have z : (b.drop i).length = b.length - i := List.length_drop ..
      simp only [g1, e, scmp_nil_left, z, decide_false, Bool.false_eq_true, if_false, decide_eq_true_eq]
      by_cases h2 : b.length = i
      · have z1 : ¬ (a.length : Int) < (b.length : Int) := by omega
        have z2 : ¬ (b.length : Int) < (a.length : Int) := by omega
        have h3 : a.length = i := by omega
        simp [h2, h3]
      · have z1 : (a.length : Int) < (b.length : Int) := by omega
        have z2 : ¬ b.length - i = 0 := by omega
        simp [z1, z2]
theorem compare_pure {k : Nat} {a b : List UInt8} (ha : a.length ≤ 2000) (hb : b.length ≤ 2000) (hk : 2000 < k) : sluicegateref01_Compare.f k a b = some (scmp a b) := by
  have := compare_l0 k a b 0 (by omega) (by omega) (by omega) (by omega) (by omega)
  simpa [sluicegateref01_Compare.f] using this
abbrev Msg := List UInt8 × Bool × List UInt8
theorem msg_eq (x y : Msg) : (decide (x.1 = y.1) && ((x.2.1 == y.2.1) && (decide (x.2.2 = y.2.2) && true))) = decide (x = y) := by
  obtain ⟨a, b, c⟩ := x
  obtain ⟨d, e, f⟩ := y
  by_cases h1 : a = d <;> by_cases h2 : b = e <;> by_cases h3 : c = f <;> simp [h1, h2, h3]
theorem refSame_l0 : ∀ (k : Nat) (a b : List Msg) (i : Nat), a.length ≤ 1000000 → a.length = b.length → i ≤ a.length → a.length - i < k → sluicegateref10_Same.l0 k a b (i : Int) = some (decide (a.drop i = b.drop i))
  | 0, a, b, i, _, _, _, h => by omega
  | k + 1, a, b, i, ha, hab, hi, hk => by
    rw [sluicegateref10_Same.l0]
    by_cases h : i < a.length
    · have g1 : (0 : Int) ≤ (i : Int) ∧ (i : Int) < (a.length : Int) := by omega
      have g2 : (0 : Int) ≤ (i : Int) ∧ (i : Int) < (b.length : Int) := by omega
      rw [if_pos (decide_eq_true g1.2), if_pos g1, if_pos g2, msg_eq, w64_succ (by omega), refSame_l0 k a b (i + 1) ha hab (by omega) (by omega), drop_cons h, drop_cons (show i < b.length by omega), gt_nat, gt_nat]
      generalize a.getD i default = x
      generalize b.getD i default = y
      by_cases e : x = y
      · simp [e]
      · simp [e]
    · rw [if_neg (by simp; omega), List.drop_eq_nil_of_le (by omega), List.drop_eq_nil_of_le (by omega)]
      rfl
theorem refSame_pure {k : Nat} {a b : List Msg} (ha : a.length ≤ 1000000) (hk : a.length < k) : sluicegateref10_Same.f k a b = some (decide (a = b)) := by
  unfold sluicegateref10_Same.f
  by_cases h : a.length = b.length
  · rw [if_neg (by simp [h])]
    have := refSame_l0 k a b 0 ha h (by omega) (by omega)
    simpa using this
  · rw [if_pos (by simp; omega)]
    have : a ≠ b := fun e => h (by rw [e])
    simp [this]
def okL (l : List Msg) : Prop := l.length ≤ 150 ∧ ∀ m ∈ l, m.1.length ≤ 300
theorem great_both : ∀ (k : Nat) (ss : List (List Msg)), ss.length ≤ 10 →
    (∀ i : Nat, i ≤ ss.length → (ss.length - i) * 210 < k → ∃ g, sluicegatelaw10_great.l0 k ss (i : Int) = some g ∧ (g = false → ∀ j, i ≤ j → j < ss.length → okL (ss.getD j []))) ∧
    (∀ i j : Nat, i < ss.length → j ≤ 200 → (ss.length - i - 1) * 210 + (205 - j) < k → j ≤ (ss.getD i []).length → (∀ m ∈ (ss.getD i []).take j, m.1.length ≤ 300) →
      ∃ g, sluicegatelaw10_great.l1 k ss (i : Int) (j : Int) = some g ∧ (g = false → ∀ j, i ≤ j → j < ss.length → okL (ss.getD j [])))
  | 0, ss, _ => ⟨fun i _ h => by omega, fun i j _ _ h => by omega⟩
  | k + 1, ss, hs => by
    obtain ⟨ih0, ih1⟩ := great_both k ss hs
    refine ⟨fun i hi hk => ?_, fun i j hi hj hk hjl hm => ?_⟩
    · rw [sluicegatelaw10_great.l0]
      by_cases h : i < ss.length
      · rw [if_pos (decide_eq_true (by omega))]
        have := ih1 i 0 h (by omega) (by omega) (by omega) (by simp)
        simpa using this
      · rw [if_neg (by simp; omega)]
        exact ⟨false, rfl, fun _ j h1 h2 => by omega⟩
    · rw [sluicegatelaw10_great.l1]
      have g1 : (0 : Int) ≤ (i : Int) ∧ (i : Int) < (ss.length : Int) := by omega
      have e : gt ss (i : Int) = ss.getD i [] := gt_nat ss i
      have tail : (ss.getD i []).length ≤ j ∨ j = 200 → ∃ g, (if (decide (150 < (((ss.getD i []).length : Nat) : Int))) = true then some true else sluicegatelaw10_great.l0 k ss (w64 ((i : Int) + 1))) = some g ∧ (g = false → ∀ j, i ≤ j → j < ss.length → okL (ss.getD j [])) := fun ht => by
        by_cases h : 150 < (ss.getD i []).length
        · rw [if_pos (decide_eq_true (by omega))]
          exact ⟨true, rfl, fun h => by cases h⟩
        · rw [if_neg (by simp only [decide_eq_true_eq]; omega), w64_succ (by omega)]
          obtain ⟨g, hg, hg2⟩ := ih0 (i + 1) (by omega) (by omega)
          refine ⟨g, hg, fun e' q h1 h2 => ?_⟩
          by_cases hq : q = i
          · subst hq
            refine ⟨by omega, fun m hm' => hm m ?_⟩
            rwa [List.take_of_length_le (by omega)]
          · exact hg2 e' q (by omega) h2
      rw [if_pos g1, e]
      by_cases h1 : j < (ss.getD i []).length
      · rw [if_pos (decide_eq_true (by omega))]
        by_cases h2 : j < 200
        · have g2 : (0 : Int) ≤ (j : Int) ∧ (j : Int) < (((ss.getD i []).length : Nat) : Int) := by omega
          rw [if_pos (decide_eq_true (by omega)), if_pos g2, gt_nat]
          by_cases h3 : 300 < ((ss.getD i []).getD j default).1.length
          · rw [if_pos (decide_eq_true (by omega))]
            exact ⟨true, rfl, fun h => by cases h⟩
          · rw [if_neg (by simp only [decide_eq_true_eq]; omega), w64_succ (by omega)]
            refine ih1 i (j + 1) hi (by omega) (by omega) (by omega) fun m hm' => ?_
            rw [List.take_add_one, List.mem_append] at hm'
            rcases hm' with hm' | hm'
            · exact hm m hm'
            · rw [List.getElem?_eq_getElem h1] at hm'
              simp only [Option.toList_some, List.mem_singleton] at hm'
              subst hm'
              rw [List.getD_eq_getElem?_getD, List.getElem?_eq_getElem h1] at h3
              simp only [Option.getD_some] at h3
              omega
        · rw [if_neg (by simp only [decide_eq_true_eq]; omega)]
          exact tail (.inr (by omega))
      · rw [if_neg (by simp only [decide_eq_true_eq]; omega)]
        exact tail (.inl (by omega))
theorem great_pure {k : Nat} {ss : List (List Msg)} (hs : ss.length ≤ 10) (hk : 2100 < k) : ∃ g, sluicegatelaw10_great.f k ss = some g ∧ (g = false → ∀ l ∈ ss, okL l) := by
  obtain ⟨g, h1, h2⟩ := (great_both k ss hs).1 0 (by omega) (by omega)
  refine ⟨g, by simpa [sluicegatelaw10_great.f] using h1, fun e l hl => ?_⟩
  obtain ⟨i, hi, rfl⟩ := List.getElem_of_mem hl
  have := h2 e i (by omega) hi
  rwa [List.getD_eq_getElem?_getD, List.getElem?_eq_getElem hi] at this
theorem same_l0 : ∀ (k : Nat) (a b : List Msg) (i : Nat), a.length ≤ 1000000 → a.length = b.length → i ≤ a.length → a.length - i < k → api_Msg_55.l0 k a b (i : Int) = some (decide (a.drop i = b.drop i))
  | 0, a, b, i, _, _, _, h => by omega
  | k + 1, a, b, i, ha, hab, hi, hk => by
    rw [api_Msg_55.l0]
    by_cases h : i < a.length
    · have g1 : (0 : Int) ≤ (i : Int) ∧ (i : Int) < (a.length : Int) := by omega
      have g2 : (0 : Int) ≤ (i : Int) ∧ (i : Int) < (b.length : Int) := by omega
      rw [if_pos (decide_eq_true g1.2), if_pos g1, if_pos g2, msg_eq, w64_succ (by omega), same_l0 k a b (i + 1) ha hab (by omega) (by omega), drop_cons h, drop_cons (show i < b.length by omega), gt_nat, gt_nat]
      generalize a.getD i default = x
      generalize b.getD i default = y
      by_cases e : x = y
      · simp [e]
      · simp [e]
    · rw [if_neg (by simp; omega), List.drop_eq_nil_of_le (by omega), List.drop_eq_nil_of_le (by omega)]
      rfl
theorem same_pure {k : Nat} {a b : List Msg} (ha : a.length ≤ 1000000) (hk : a.length < k) : buf_Same.f k a b = some (decide (a = b)) := by
  unfold buf_Same.f api_Msg_55.f
  by_cases h : a.length = b.length
  · rw [if_neg (by simp [h])]
    have := same_l0 k a b 0 ha h (by omega) (by omega)
    simp only [Int.ofNat_eq_natCast, Int.natCast_zero, List.drop_zero] at this
    rw [this]
    rfl
  · rw [if_pos (by simp; omega)]
    have : a ≠ b := fun e => h (by rw [e])
    simp [this]
/-- do the keys rise? -/
def riseM : List Msg → Bool
  | a :: b :: r => Op.bytesLess a.1 b.1 && riseM (b :: r)
  | _ => true
theorem lexCompare_pure (a b : List UInt8) : lex_Compare.f a b = some (scmp a b) := rfl
theorem scmp_ge (a b : List UInt8) : decide (0 ≤ scmp a b) = !Op.bytesLess a b := by
  rcases scmp_vals a b with ⟨e, h⟩ | ⟨e, rfl⟩ | ⟨e, h⟩
  · simp [e, h]
  · simp [e, bl_irr]
  · simp [e, bl_asymm h]
theorem riseM_drop {l : List Msg} {i : Nat} (h : i + 1 < l.length) : riseM (l.drop i) = (Op.bytesLess (l.getD i default).1 (l.getD (i + 1) default).1 && riseM (l.drop (i + 1))) := by
  rw [drop_cons (show i < l.length by omega), drop_cons h]
  rfl
theorem riseM_end {l : List Msg} {i : Nat} (h : l.length ≤ i + 1) : riseM (l.drop i) = true := by
  by_cases h' : i < l.length
  · rw [drop_cons h', List.drop_eq_nil_of_le (by omega)]
    rfl
  · rw [List.drop_eq_nil_of_le (by omega)]
    rfl
theorem right_l0 : ∀ (k : Nat) (l : List Msg) (i : Nat), l.length ≤ 1000000 → i ≤ l.length → l.length - i < k → buf_Right.l0 k l (i : Int) = some (riseM (l.drop i))
  | 0, l, i, _, _, h => by omega
  | k + 1, l, i, hl, hi, hk => by
    rw [buf_Right.l0]
    have w : w64 ((l.length : Int) - 1) = (l.length : Int) - 1 := w64_id (by omega) (by omega)
    by_cases h : i + 1 < l.length
    · have g1 : (0 : Int) ≤ (i : Int) ∧ (i : Int) < (l.length : Int) := by omega
      have g2 : (0 : Int) ≤ ((i + 1 : Nat) : Int) ∧ ((i + 1 : Nat) : Int) < (l.length : Int) := by omega
      rw [w, if_pos (decide_eq_true (by omega)), if_pos g1, w64_succ (by omega), if_pos g2, lexCompare_pure, Option.bind_some, scmp_ge, gt_nat, gt_nat, right_l0 k l (i + 1) hl (by omega) (by omega), riseM_drop h]
      cases Op.bytesLess (l.getD i default).1 (l.getD (i + 1) default).1 <;> rfl
    · rw [w, if_neg (by simp only [decide_eq_true_eq]; omega), riseM_end (by omega)]
theorem refright_l0 : ∀ (k : Nat) (l : List Msg) (i : Nat), okL l → i ≤ l.length → 2001 + (l.length - i) < k → sluicegateref10_Right.l0 k l ((i + 1 : Nat) : Int) = some (riseM (l.drop i))
  | 0, l, i, _, _, h => by omega
  | k + 1, l, i, hl, hi, hk => by
    have h150 := hl.1
    rw [sluicegateref10_Right.l0]
    by_cases h : i + 1 < l.length
    · have g1 : (0 : Int) ≤ (i : Int) ∧ (i : Int) < (l.length : Int) := by omega
      have g2 : (0 : Int) ≤ ((i + 1 : Nat) : Int) ∧ ((i + 1 : Nat) : Int) < (l.length : Int) := by omega
      have k1 := hl.2 _ (getD_mem (d := default) (show i < l.length by omega))
      have k2 := hl.2 _ (getD_mem (d := default) h)
      rw [if_pos (decide_eq_true g2.2), w64_pred (by omega) (by omega), Nat.add_sub_cancel, if_pos g1, if_pos g2, gt_nat, gt_nat, compare_pure (by omega) (by omega) (by omega), Option.bind_some, scmp_ge, w64_succ (by omega), refright_l0 k l (i + 1) hl (by omega) (by omega), riseM_drop h]
      cases Op.bytesLess (l.getD i default).1 (l.getD (i + 1) default).1 <;> rfl
    · rw [if_neg (by simp only [decide_eq_true_eq]; omega), riseM_end (by omega)]
theorem BufRights_pure {p q : Prop} (a b : List Msg) (ha : p) (hb : q) : ∃ k, sluicegatelaw10_BufRights.f k a b = some true := by
  refine ⟨5000 + 20, ?_⟩
  unfold sluicegatelaw10_BufRights.f
  obtain ⟨g, h1, h2⟩ := great_pure (k := 5000 + 20) (ss := [a, b]) (by simp) (by omega)
  rw [h1, Option.bind_some, awake_pure]
  cases g with
  | true => rfl
  | false =>
    have ka := h2 rfl a (by simp)
    have kb := h2 rfl b (by simp)
    have r1 : buf_Right.f (5000 + 20) a = some (riseM a) := by
      have := right_l0 (5000 + 20) a 0 (by have := ka.1; omega) (by omega) (by have := ka.1; omega)
      simpa [buf_Right.f] using this
    have r2 : sluicegateref10_Right.f (5000 + 20) a = some (riseM a) := by
      have := refright_l0 (5000 + 20) a 0 ka (by omega) (by have := ka.1; omega)
      simpa [sluicegateref10_Right.f] using this
    rw [if_neg (by simp), r1, r2, same_pure (by have := ka.1; omega) (by have := ka.1; omega), refSame_pure (by have := ka.1; omega) (by have := ka.1; omega), same_pure (by have := ka.1; omega) (by have := ka.1; omega)]
    simp
end Go.SK.T
