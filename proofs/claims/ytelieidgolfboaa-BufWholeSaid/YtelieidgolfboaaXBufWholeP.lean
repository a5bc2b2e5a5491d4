/- The plain law behind BufWhole: what its code computes is true for every list, span, number and message. -/
import Derived.Test.YtelieidgolfboaaXBufWholeF0
set_option linter.unusedVariables false
set_option linter.unusedSimpArgs false
namespace Go.SK.T
open Go Go.SK
theorem awake_pure (k : Nat) : sluicegatelaw10_awake.f (k + 20) = some true := by rfl
theorem compare_l0 : ∀ (k : Nat) (a b : List UInt8) (i : Nat), a.length ≤ 4611686018427387904 → b.length ≤ 4611686018427387904 → i ≤ a.length → i ≤ b.length → a.length - i < k →
    sluicegateref01_Compare.l0 k a b (i : Int) = some (scmp (a.drop i) (b.drop i))
  | 0, a, b, i, _, _, _, _, h => by omega
  | k + 1, a, b, i, ha, hb, hia, hib, hk => by
    unfold sluicegateref01_Compare.l0
    by_cases h1 : i < a.length
    · by_cases h2 : i < b.length
      · have g1 : (0 : Int) ≤ (i : Int) ∧ (i : Int) < (a.length : Int) := by omega
        have g2 : (0 : Int) ≤ (i : Int) ∧ (i : Int) < (b.length : Int) := by omega
        have w : w64 ((i : Int) + 1) = ((i + 1 : Nat) : Int) := by rw [w64_id (by omega) (by omega)]; omega
        have ih := compare_l0 k a b (i + 1) ha hb (by omega) (by omega) (by omega)
        simp only [g1.2, g2.2, g1, g2, decide_true, if_true, and_self, w, ih, gtb_lt, Int.toNat_natCast, drop_byte h1, drop_byte h2, scmp_cons, decide_eq_true_eq]
        split
        · rfl
        · split <;> rfl
      · have g1 : (i : Int) < (a.length : Int) := by omega
        have g2 : ¬ (i : Int) < (b.length : Int) := by omega
        have e : b.drop i = [] := List.drop_eq_nil_of_le (by omega)
        have z1 : ¬ (a.length : Int) < (b.length : Int) := by omega
        have z2 : (b.length : Int) < (a.length : Int) := by omega
        have z3 : ¬ (a.drop i).length = 0 := by rw [List.length_drop]; omega
        simp [g1, g2, e, z1, z2, scmp_nil_right, z3]
        omega
    · have g1 : ¬ (i : Int) < (a.length : Int) := by omega
      have e : a.drop i = [] := List.drop_eq_nil_of_le (by omega)
      have z : (b.drop i).length = b.length - i := List.length_drop ..
      simp only [g1, e, scmp_nil_left, z, decide_false, Bool.false_eq_true, if_false, decide_eq_true_eq]
      by_cases h2 : b.length = i
      · have z1 : ¬ (a.length : Int) < (b.length : Int) := by omega
        have z2 : ¬ (b.length : Int) < (a.length : Int) := by omega
        have h3 : a.length = i := by omega
        simp [h2, h3]
      · have z1 : (a.length : Int) < (b.length : Int) := by omega
        have z2 : ¬ b.length - i = 0 := by omega
        simp [z1, z2]
theorem compare_pure {k : Nat} {a b : List UInt8} (ha : a.length ≤ 2000) (hb : b.length ≤ 2000) (hk : 2000 < k) : sluicegateref01_Compare.f k a b = some (scmp a b) := by
  have := compare_l0 k a b 0 (by omega) (by omega) (by omega) (by omega) (by omega)
  simpa [sluicegateref01_Compare.f] using this
abbrev Msg := List UInt8 × Bool × List UInt8
theorem msg_eq (x y : Msg) : (decide (x.1 = y.1) && ((x.2.1 == y.2.1) && (decide (x.2.2 = y.2.2) && true))) = decide (x = y) := by
  obtain ⟨a, b, c⟩ := x
  obtain ⟨d, e, f⟩ := y
  by_cases h1 : a = d <;> by_cases h2 : b = e <;> by_cases h3 : c = f <;> simp [h1, h2, h3]
theorem refSame_l0 : ∀ (k : Nat) (a b : List Msg) (i : Nat), a.length ≤ 1000000 → a.length = b.length → i ≤ a.length → a.length - i < k → sluicegateref10_Same.l0 k a b (i : Int) = some (decide (a.drop i = b.drop i))
  | 0, a, b, i, _, _, _, h => by omega
  | k + 1, a, b, i, ha, hab, hi, hk => by
    rw [sluicegateref10_Same.l0]
    by_cases h : i < a.length
    · have g1 : (0 : Int) ≤ (i : Int) ∧ (i : Int) < (a.length : Int) := by omega
      have g2 : (0 : Int) ≤ (i : Int) ∧ (i : Int) < (b.length : Int) := by omega
      rw [if_pos (decide_eq_true g1.2), if_pos g1, if_pos g2, msg_eq, w64_succ (by omega), refSame_l0 k a b (i + 1) ha hab (by omega) (by omega), drop_cons h, drop_cons (show i < b.length by omega), gt_nat, gt_nat]
      generalize a.getD i default = x
      generalize b.getD i default = y
      by_cases e : x = y
      · simp [e]
      · simp [e]
    · rw [if_neg (by simp; omega), List.drop_eq_nil_of_le (by omega), List.drop_eq_nil_of_le (by omega)]
      rfl
theorem refSame_pure {k : Nat} {a b : List Msg} (ha : a.length ≤ 1000000) (hk : a.length < k) : sluicegateref10_Same.f k a b = some (decide (a = b)) := by
  unfold sluicegateref10_Same.f
  by_cases h : a.length = b.length
  · rw [if_neg (by simp [h])]
    have := refSame_l0 k a b 0 ha h (by omega) (by omega)
    simpa using this
  · rw [if_pos (by simp; omega)]
    have : a ≠ b := fun e => h (by rw [e])
    simp [this]
def okL (l : List Msg) : Prop := l.length ≤ 150 ∧ ∀ m ∈ l, m.1.length ≤ 300
theorem great_both : ∀ (k : Nat) (ss : List (List Msg)), ss.length ≤ 10 →
    (∀ i : Nat, i ≤ ss.length → (ss.length - i) * 210 < k → ∃ g, sluicegatelaw10_great.l0 k ss (i : Int) = some g ∧ (g = false → ∀ j, i ≤ j → j < ss.length → okL (ss.getD j []))) ∧
    (∀ i j : Nat, i < ss.length → j ≤ 200 → (ss.length - i - 1) * 210 + (205 - j) < k → j ≤ (ss.getD i []).length → (∀ m ∈ (ss.getD i []).take j, m.1.length ≤ 300) →
      ∃ g, sluicegatelaw10_great.l1 k ss (i : Int) (j : Int) = some g ∧ (g = false → ∀ j, i ≤ j → j < ss.length → okL (ss.getD j [])))
  | 0, ss, _ => ⟨fun i _ h => by omega, fun i j _ _ h => by omega⟩
  | k + 1, ss, hs => by
    obtain ⟨ih0, ih1⟩ := great_both k ss hs
    refine ⟨fun i hi hk => ?_, fun i j hi hj hk hjl hm => ?_⟩
    · rw [sluicegatelaw10_great.l0]
      by_cases h : i < ss.length
      · rw [if_pos (decide_eq_true (by omega))]
        have := ih1 i 0 h (by omega) (by omega) (by omega) (by simp)
        simpa using this
      · rw [if_neg (by simp; omega)]
        exact ⟨false, rfl, fun _ j h1 h2 => by omega⟩
    · rw [sluicegatelaw10_great.l1]
      have g1 : (0 : Int) ≤ (i : Int) ∧ (i : Int) < (ss.length : Int) := by omega
      have e : gt ss (i : Int) = ss.getD i [] := gt_nat ss i
      have tail : (ss.getD i []).length ≤ j ∨ j = 200 → ∃ g, (if (decide (150 < (((ss.getD i []).length : Nat) : Int))) = true then some true else sluicegatelaw10_great.l0 k ss (w64 ((i : Int) + 1))) = some g ∧ (g = false → ∀ j, i ≤ j → j < ss.length → okL (ss.getD j [])) := fun ht => by
        by_cases h : 150 < (ss.getD i []).length
        · rw [if_pos (decide_eq_true (by omega))]
          exact ⟨true, rfl, fun h => by cases h⟩
        · rw [if_neg (by simp only [decide_eq_true_eq]; omega), w64_succ (by omega)]
          obtain ⟨g, hg, hg2⟩ := ih0 (i + 1) (by omega) (by omega)
          refine ⟨g, hg, fun e' q h1 h2 => ?_⟩
          by_cases hq : q = i
          · subst hq
            refine ⟨by omega, fun m hm' => hm m ?_⟩
            rwa [List.take_of_length_le (by omega)]
          · exact hg2 e' q (by omega) h2
      rw [if_pos g1, e]
      by_cases h1 : j < (ss.getD i []).length
      · rw [if_pos (decide_eq_true (by omega))]
        by_cases h2 : j < 200
        · have g2 : (0 : Int) ≤ (j : Int) ∧ (j : Int) < (((ss.getD i []).length : Nat) : Int) := by omega
          rw [if_pos (decide_eq_true (by omega)), if_pos g2, gt_nat]
          by_cases h3 : 300 < ((ss.getD i []).getD j default).1.length
          · rw [if_pos (decide_eq_true (by omega))]
            exact ⟨true, rfl, fun h => by cases h⟩
          · rw [if_neg (by simp only [decide_eq_true_eq]; omega), w64_succ (by omega)]
            refine ih1 i (j + 1) hi (by omega) (by omega) (by omega) fun m hm' => ?_
            rw [List.take_add_one, List.mem_append] at hm'
            rcases hm' with hm' | hm'
            · exact hm m hm'
            · rw [List.getElem?_eq_getElem h1] at hm'
              simp only [Option.toList_some, List.mem_singleton] at hm'
              subst hm'
              rw [List.getD_eq_getElem?_getD, List.getElem?_eq_getElem h1] at h3
              simp only [Option.getD_some] at h3
              omega
        · rw [if_neg (by simp only [decide_eq_true_eq]; omega)]
          exact tail (.inr (by omega))
      · rw [if_neg (by simp only [decide_eq_true_eq]; omega)]
        exact tail (.inl (by omega))
theorem great_pure {k : Nat} {ss : List (List Msg)} (hs : ss.length ≤ 10) (hk : 2100 < k) : ∃ g, sluicegatelaw10_great.f k ss = some g ∧ (g = false → ∀ l ∈ ss, okL l) := by
  obtain ⟨g, h1, h2⟩ := (great_both k ss hs).1 0 (by omega) (by omega)
  refine ⟨g, by simpa [sluicegatelaw10_great.f] using h1, fun e l hl => ?_⟩
  obtain ⟨i, hi, rfl⟩ := List.getElem_of_mem hl
  have := h2 e i (by omega) hi
  rwa [List.getD_eq_getElem?_getD, List.getElem?_eq_getElem hi] at this
/-- do the keys rise? -/
def riseM : List Msg → Bool
  | a :: b :: r => Op.bytesLess a.1 b.1 && riseM (b :: r)
  | _ => true
theorem lexCompare_pure (a b : List UInt8) : lex_Compare.f a b = some (scmp a b) := rfl
theorem scmp_ge (a b : List UInt8) : decide (0 ≤ scmp a b) = !Op.bytesLess a b := by
  rcases scmp_vals a b with ⟨e, h⟩ | ⟨e, rfl⟩ | ⟨e, h⟩
  · simp [e, h]
  · simp [e, bl_irr]
  · simp [e, bl_asymm h]
theorem riseM_drop {l : List Msg} {i : Nat} (h : i + 1 < l.length) : riseM (l.drop i) = (Op.bytesLess (l.getD i default).1 (l.getD (i + 1) default).1 && riseM (l.drop (i + 1))) := by
  rw [drop_cons (show i < l.length by omega), drop_cons h]
  rfl
theorem riseM_end {l : List Msg} {i : Nat} (h : l.length ≤ i + 1) : riseM (l.drop i) = true := by
  by_cases h' : i < l.length
  · rw [drop_cons h', List.drop_eq_nil_of_le (by omega)]
    rfl
  · rw [List.drop_eq_nil_of_le (by omega)]
    rfl
theorem refright_l0 : ∀ (k : Nat) (l : List Msg) (i : Nat), okL l → i ≤ l.length → 2001 + (l.length - i) < k → sluicegateref10_Right.l0 k l ((i + 1 : Nat) : Int) = some (riseM (l.drop i))
  | 0, l, i, _, _, h => by omega
  | k + 1, l, i, hl, hi, hk => by
    have h150 := hl.1
    rw [sluicegateref10_Right.l0]
    by_cases h : i + 1 < l.length
    · have g1 : (0 : Int) ≤ (i : Int) ∧ (i : Int) < (l.length : Int) := by omega
      have g2 : (0 : Int) ≤ ((i + 1 : Nat) : Int) ∧ ((i + 1 : Nat) : Int) < (l.length : Int) := by omega
      have k1 := hl.2 _ (getD_mem (d := default) (show i < l.length by omega))
      have k2 := hl.2 _ (getD_mem (d := default) h)
      rw [if_pos (decide_eq_true g2.2), w64_pred (by omega) (by omega), Nat.add_sub_cancel, if_pos g1, if_pos g2, gt_nat, gt_nat, compare_pure (by omega) (by omega) (by omega), Option.bind_some, scmp_ge, w64_succ (by omega), refright_l0 k l (i + 1) hl (by omega) (by omega), riseM_drop h]
      cases Op.bytesLess (l.getD i default).1 (l.getD (i + 1) default).1 <;> rfl
    · rw [if_neg (by simp only [decide_eq_true_eq]; omega), riseM_end (by omega)]
abbrev Sp := List UInt8 × List UInt8 × Bool
def inS (s : Sp) (x : List UInt8) : Bool := !Op.bytesLess x s.1 && (s.2.2 || Op.bytesLess x s.2.1)
def emS (s : Sp) : Bool := !s.2.2 && !Op.bytesLess s.1 s.2.1
theorem lexEmpty_pure (s : Sp) : lex_Empty.f s = some (emS s) := by
  unfold lex_Empty.f emS
  rw [bl_le_iff]
  cases s.2.2 <;> rfl
theorem in_empty {s : Sp} {x : List UInt8} (h : emS s = true) : inS s x = false := by
  simp only [emS, Bool.and_eq_true, Bool.not_eq_true'] at h
  cases k : Op.bytesLess x s.1 with
  | true => simp [inS, k]
  | false =>
    simp only [inS, k, h.1, Bool.not_false, Bool.true_and, Bool.false_or]
    exact bl_le_trans h.2 k
theorem rise_get {l : List Msg} (h : riseM l = true) : ∀ {i j : Nat}, i < j → j < l.length → Op.bytesLess (l.getD i default).1 (l.getD j default).1 = true := by
  have step : ∀ i, i + 1 < l.length → riseM (l.drop i) = true → Op.bytesLess (l.getD i default).1 (l.getD (i + 1) default).1 = true ∧ riseM (l.drop (i + 1)) = true := fun i hi hr => by
    rw [riseM_drop hi, Bool.and_eq_true] at hr
    exact hr
  have all : ∀ i, i < l.length → riseM (l.drop i) = true := fun i => by
    induction i with
    | zero => intro _; simpa using h
    | succ i ih => intro hi; exact (step i hi (ih (by omega))).2
  intro i j hij hj
  induction j with
  | zero => omega
  | succ j ih =>
    have one := (step j hj (all j (by omega))).1
    by_cases e : i = j
    · subst e; exact one
    · exact bl_trans (ih (by omega) (by omega)) one
/-- the first that is not below -/
def AtLow (l : List Msg) (x : List UInt8) (c : Nat) : Prop := c ≤ l.length ∧ (∀ j, j < c → Op.bytesLess (l.getD j default).1 x = true) ∧ ∀ j, c ≤ j → j < l.length → Op.bytesLess (l.getD j default).1 x = false
theorem bufcompare_pure (m : Msg) (x : List UInt8) : buf_compare.f (m.1, m.2.1, m.2.2) x = some (scmp m.1 x) := rfl
theorem search_l0 {l : List Msg} {x : List UInt8} (hl : l.length ≤ 150) : ∀ (k a b : Nat), a ≤ b → b ≤ l.length → b - a < k → (∀ i j, i < j → j < l.length → Op.bytesLess (l.getD i default).1 (l.getD j default).1 = true) → (∀ j, j < a → Op.bytesLess (l.getD j default).1 x = true) → (∀ j, b ≤ j → j < l.length → Op.bytesLess (l.getD j default).1 x = false) →
    ∃ c : Nat, slices_BinarySearchFunc_api_Msg_api_Msg_string_buf_compare.l0 k l x (a : Int) (b : Int) = some ((c : Int), decide (c < l.length ∧ (l.getD c default).1 = x)) ∧ AtLow l x c
  | 0, a, b, _, _, h, _, _, _ => by omega
  | k + 1, a, b, hab, hb, hk, hr, h1, h2 => by
    rw [slices_BinarySearchFunc_api_Msg_api_Msg_string_buf_compare.l0]
    by_cases h : a < b
    · have w : w64 ((Int.fdiv (IntKind.u64.wrap ((w64 ((a : Int) + (b : Int))))) (2 ^ 1))) = (((a + b) / 2 : Nat) : Int) := by
        rw [w64_id (x := (a : Int) + (b : Int)) (by omega) (by omega)]
        have u : IntKind.u64.wrap ((a : Int) + (b : Int)) = (a : Int) + (b : Int) := by
          simp only [IntKind.wrap, IntKind.signed, IntKind.bits]
          simp
          omega
        rw [u, Int.fdiv_eq_ediv_of_nonneg _ (by decide)]
        rw [w64_id (by omega) (by omega)]
        omega
      have g1 : (0 : Int) ≤ (((a + b) / 2 : Nat) : Int) ∧ (((a + b) / 2 : Nat) : Int) < (l.length : Int) := by omega
      rw [if_pos (decide_eq_true (by omega)), w, if_pos g1, gt_nat, bufcompare_pure, Option.bind_some, w64_succ (by omega)]
      cases e : Op.bytesLess (l.getD ((a + b) / 2) default).1 x with
      | true =>
        rw [if_pos (decide_eq_true (scmp_lt.2 e))]
        refine search_l0 hl k _ b (by omega) hb (by omega) hr (fun j hj => ?_) h2
        by_cases q : j = (a + b) / 2
        · subst q; exact e
        · exact bl_trans (hr j ((a + b) / 2) (by omega) (by omega)) e
      | false =>
        rw [if_neg (by simp only [decide_eq_true_eq, scmp_lt, e]; simp)]
        refine search_l0 hl k a _ (by omega) (by omega) (by omega) hr h1 fun j hj hjl => ?_
        by_cases q : j = (a + b) / 2
        · subst q; exact e
        · exact bl_le_trans e (bl_asymm (hr ((a + b) / 2) j (by omega) hjl))
    · obtain rfl : a = b := by omega
      rw [if_neg (by simp only [decide_eq_true_eq]; omega)]
      refine ⟨a, ?_, hb, h1, h2⟩
      by_cases q : a < l.length
      · have g1 : (0 : Int) ≤ (a : Int) ∧ (a : Int) < (l.length : Int) := by omega
        rw [if_pos (decide_eq_true (by omega)), if_pos g1, gt_nat, bufcompare_pure, Option.bind_some]
        simp only [scmp_eq, q, true_and]
      · rw [if_neg (by simp only [decide_eq_true_eq]; omega)]
        simp [q]
theorem search_pure {l : List Msg} (x : List UInt8) (hl : l.length ≤ 150) (hr : riseM l = true) {k : Nat} (hk : 200 < k) : ∃ c : Nat, slices_BinarySearchFunc_api_Msg_api_Msg_string_buf_compare.f k l x = some ((c : Int), decide (c < l.length ∧ (l.getD c default).1 = x)) ∧ AtLow l x c :=
  search_l0 hl k 0 l.length (by omega) (by omega) (by omega) (fun i j => rise_get hr) (fun j hj => by omega) (fun j hj hjl => by omega)
theorem clone_pure {l : List Msg} (hl : l.length ≤ 1000000) : slices_Clone_api_Msg_api_Msg.f l = some l := by
  unfold slices_Clone_api_Msg_api_Msg.f
  rw [if_pos (by simp; omega)]
  rfl
/-- which part of a rising row is in a span -/
def AtPart (l : List Msg) (s : Sp) (f t : Nat) : Prop := f ≤ t ∧ t ≤ l.length ∧ ∀ j, j < l.length → inS s (l.getD j default).1 = decide (f ≤ j ∧ j < t)
theorem low_part {l : List Msg} {s : Sp} {f t : Nat} (hs : emS s = false) (h1 : AtLow l s.1 f) (h2 : if s.2.2 = true then t = l.length else AtLow l s.2.1 t) : AtPart l s f t := by
  obtain ⟨f1, f2, f3⟩ := h1
  cases ht : s.2.2 with
  | true =>
    rw [ht, if_pos rfl] at h2
    subst h2
    refine ⟨f1, Nat.le_refl _, fun j hj => ?_⟩
    by_cases q : j < f
    · rw [decide_eq_false (by omega)]; simp only [inS, f2 j q, Bool.not_true, Bool.false_and]
    · rw [decide_eq_true (by omega)]; simp only [inS, ht, f3 j (by omega) hj, Bool.not_false, Bool.true_and, Bool.true_or]
  | false =>
    rw [ht, if_neg (by simp)] at h2
    obtain ⟨t1, t2, t3⟩ := h2
    have hlt : Op.bytesLess s.1 s.2.1 = true := by simpa [emS, ht] using hs
    refine ⟨?_, t1, fun j hj => ?_⟩
    · rcases Nat.lt_or_ge t f with h | h
      · have a := f2 t h
        have b := t3 t (Nat.le_refl _) (by omega)
        rw [bl_trans a hlt] at b
        cases b
      · exact h
    · by_cases q : j < f
      · rw [decide_eq_false (by omega)]; simp only [inS, f2 j q, Bool.not_true, Bool.false_and]
      · by_cases q2 : j < t
        · rw [decide_eq_true (by omega)]; simp only [inS, ht, f3 j (by omega) hj, t2 j q2, Bool.not_false, Bool.true_and, Bool.false_or]
        · rw [decide_eq_false (by omega)]; simp only [inS, ht, f3 j (by omega) hj, t3 j (by omega) hj, Bool.not_false, Bool.true_and, Bool.false_or]
theorem part_pure {l : List Msg} {s : Sp} (hl : l.length ≤ 150) (hr : riseM l = true) {k : Nat} (hk : 200 < k) : ∃ f t : Nat, buf_part.f k l s = some ((f : Int), (t : Int)) ∧ AtPart l s f t := by
  have eta : (s.1, s.2.1, s.2.2) = s := rfl
  unfold buf_part.f
  rw [eta, lexEmpty_pure, Option.bind_some]
  cases he : emS s with
  | true => exact ⟨0, 0, rfl, Nat.le_refl _, Nat.zero_le _, fun j hj => by rw [in_empty he]; simp⟩
  | false =>
    obtain ⟨f, e1, e2⟩ := search_pure s.1 hl hr hk
    rw [if_neg (by simp), e1, Option.bind_some]
    cases ht : s.2.2 with
    | true => exact ⟨f, l.length, rfl, low_part he e2 (by rw [ht, if_pos rfl])⟩
    | false =>
      obtain ⟨t, e3, e4⟩ := search_pure s.2.1 hl hr hk
      rw [if_pos (show (!false) = true from rfl), e3]
      exact ⟨f, t, rfl, low_part he e2 (by rw [ht, if_neg (by simp)]; exact e4)⟩
/-- how far it is taken -/
def upto (f t : Nat) (most : Int) : Nat := f + min (t - f) most.toNat
theorem take_one {l : List Msg} {i : Nat} (h : i < l.length) : l.take (i + 1) = l.take i ++ [l.getD i default] := by
  rw [List.take_add_one, List.getElem?_eq_getElem h, List.getD_eq_getElem?_getD, List.getElem?_eq_getElem h]
  rfl
theorem take_drop_one {l : List Msg} {u n : Nat} (h : u + n < l.length) : (l.drop u).take (n + 1) = (l.drop u).take n ++ [l.getD (u + n) default] := by
  rw [List.take_add_one, List.getElem?_drop, List.getElem?_eq_getElem h, List.getD_eq_getElem?_getD, List.getElem?_eq_getElem h]
  rfl
theorem grow_pure {n : Nat} (h : n ≤ 3000000) : slices_Grow_api_Msg_api_Msg_nil.f (n : Int) = some [] := by
  unfold slices_Grow_api_Msg_api_Msg_nil.f
  have w0 : w64 ((0 : Int) - (([] : List Msg).length : Int)) = 0 := rfl
  have w1 : w64 ((n : Int) - 0) = (n : Int) := by rw [w64_id (by omega) (by omega)]; omega
  rw [w0, w1, if_neg (by simp only [decide_eq_true_eq]; omega)]
  by_cases h0 : 0 < n
  · rw [if_pos (decide_eq_true (by omega)), if_pos (by decide), if_pos (by simp; omega), if_pos (by simp)]
    rfl
  · rw [if_neg (by simp only [decide_eq_true_eq]; omega)]
theorem concat_pure {k : Nat} {x y : List Msg} (hx : x.length ≤ 1000000) (hy : y.length ≤ 1000000) : slices_Concat_api_Msg_api_Msg.f (k + 10) [x, y] = some (x ++ y) := by
  have g0 : gt [x, y] 0 = x := rfl
  have g1 : gt [x, y] 1 = y := rfl
  have w1 : w64 (0 + (x.length : Int)) = (x.length : Int) := by rw [w64_id (by omega) (by omega)]; omega
  have w2 : w64 ((x.length : Int) + (y.length : Int)) = ((x.length + y.length : Nat) : Int) := by rw [w64_id (by omega) (by omega)]; omega
  have w3 : w64 (0 + 1) = 1 := rfl
  have w4 : w64 (1 + 1) = 2 := rfl
  have l2 : (([x, y] : List (List Msg)).length : Int) = 2 := rfl
  unfold slices_Concat_api_Msg_api_Msg.f
  rw [slices_Concat_api_Msg_api_Msg.l0, l2, if_pos (by decide), if_pos (by decide), g0, w1, if_neg (by simp only [decide_eq_true_eq]; omega), w3]
  rw [slices_Concat_api_Msg_api_Msg.l0, l2, if_pos (by decide), if_pos (by decide), g1, w2, if_neg (by simp only [decide_eq_true_eq]; omega), w4]
  rw [slices_Concat_api_Msg_api_Msg.l0, l2, if_neg (by decide), grow_pure (by omega), Option.bind_some]
  rw [slices_Concat_api_Msg_api_Msg.l1, l2, if_pos (by decide), if_pos (by decide), g0, if_pos (by simp; omega), w3, List.nil_append]
  rw [slices_Concat_api_Msg_api_Msg.l1, l2, if_pos (by decide), if_pos (by decide), g1, if_pos (by omega), w4]
  rw [slices_Concat_api_Msg_api_Msg.l1, l2, if_neg (by decide)]
theorem take_pure {l : List Msg} {s : Sp} {f t k : Nat} {most : Int} (hm : (Lit.int .i64 most).wf = true) (hl : okL l) (hp : AtPart l s f t) (h : buf_part.f (k + 10) l s = some ((f : Int), (t : Int))) :
    buf_Take.f (k + 10) l s most = some ((l.drop f).take (upto f t most - f), l.take f ++ l.drop (upto f t most)) := by
  obtain ⟨p1, p2, _⟩ := hp
  have h150 := hl.1
  have eta : (s.1, s.2.1, s.2.2) = s := rfl
  have hb : -9223372036854775808 ≤ most ∧ most ≤ 9223372036854775807 := by
    simp [Lit.wf, IntKind.min, IntKind.max, IntKind.signed, IntKind.bits] at hm
    omega
  unfold buf_Take.f
  rw [eta, h, Option.bind_some]
  have wd : w64 ((t : Int) - (f : Int)) = (t : Int) - (f : Int) := w64_id (by omega) (by omega)
  have wu : w64 ((f : Int) + (if (if most < (t : Int) - (f : Int) then most else (t : Int) - (f : Int)) > 0 then (if most < (t : Int) - (f : Int) then most else (t : Int) - (f : Int)) else 0)) = ((upto f t most : Nat) : Int) := by
    have e : (f : Int) + (if (if most < (t : Int) - (f : Int) then most else (t : Int) - (f : Int)) > 0 then (if most < (t : Int) - (f : Int) then most else (t : Int) - (f : Int)) else 0) = ((upto f t most : Nat) : Int) := by
      unfold upto
      split <;> split <;> omega
    rw [e, w64_id (by unfold upto; omega) (by unfold upto; omega)]
  have hu : f ≤ upto f t most ∧ upto f t most ≤ t := by unfold upto; omega
  simp only [wd, wu, Int.toNat_natCast]
  rw [if_pos (by omega), if_pos (by omega), if_pos (by omega), clone_pure (by rw [List.length_take, List.length_drop]; omega), Option.bind_some, concat_pure (by rw [List.length_take]; omega) (by rw [List.length_drop]; omega)]
  rfl
abbrev mk (m : Msg) : List UInt8 := m.1
/-- no longer than this, and the keys too -/
def okN (N : Nat) (l : List Msg) : Prop := l.length ≤ N ∧ ∀ m ∈ l, m.1.length ≤ 300
theorem bs10_pure {l : List Msg} (x : List UInt8) (hl : l.length ≤ 1000000) (hr : RiseK mk l) {k : Nat} (hk : l.length < k) :
    ∃ c : Nat, slices_BinarySearchFunc_api_Msg_api_Msg_string_buf_compare.f k l x = some ((c : Int), decide (c < l.length ∧ (l.getD c default).1 = x)) ∧ AtK mk l x c :=
  search_loop (key := mk) (F := fun k a b => slices_BinarySearchFunc_api_Msg_api_Msg_string_buf_compare.l0 k l x a b) hl hr (fun k a b => rfl) k 0 l.length (by omega) (by omega) (by omega) (fun j hj => by omega) (fun j hj hjl => by omega)
def fm (o : Option Msg) : Msg × Bool := o.elim (([], false, []), false) fun m => (m, true)
theorem clone10_pure {l : List Msg} (hl : l.length ≤ 1000000) : slices_Clone_api_Msg_api_Msg.f l = some l := by
  unfold slices_Clone_api_Msg_api_Msg.f
  rw [if_pos (by simp; omega)]
  rfl
theorem put10_pure {l : List Msg} (m : Msg) (hl : l.length ≤ 100000) (hr : RiseK mk l) {k : Nat} (hk : l.length < k) : buf_Put.f k l m = some (putK mk m l) := by
  obtain ⟨c, e1, e2⟩ := bs10_pure m.1 (by omega) hr hk
  have hf := AtK.put (m := m) hr e2
  have hc := e2.1
  unfold buf_Put.f
  rw [e1, Option.bind_some, clone10_pure (by omega), Option.bind_some, hf]
  by_cases q : c < l.length ∧ (l.getD c default).1 = m.1
  · rw [if_pos (show c < l.length ∧ mk (l.getD c default) = mk m from q), if_pos (decide_eq_true q), if_pos (by omega)]
    rfl
  · rw [if_neg (show ¬ (c < l.length ∧ mk (l.getD c default) = mk m) from q), if_neg (by simpa using q)]
    unfold slices_Insert_api_Msg_api_Msg.f
    rw [if_pos (by simp; omega), if_pos (by simp; omega), Option.bind_some, Int.toNat_natCast]
    simp
theorem scmp_one (a b : List UInt8) : decide (scmp a b = 1) = Op.bytesLess b a := by
  rcases scmp_vals a b with ⟨e, h⟩ | ⟨e, rfl⟩ | ⟨e, h⟩
  · simp [e, bl_asymm h]
  · simp [e, bl_irr]
  · simp [e, h]
theorem lexCompare10 (a b : List UInt8) : lex_Compare.f a b = some (scmp a b) := rfl
theorem merge_l0 : ∀ (k : Nat) (n o out : List Msg), n.length + o.length < k → out.length + (n.length + o.length) ≤ 1000000 → buf_Merge.l0 k n o out = some (out ++ mergeK mk k n o)
  | 0, n, o, out, h, _ => by omega
  | k + 1, [], o, out, h, hs => by
    rw [buf_Merge.l0, if_neg (by simp), if_pos (by first | (simp; done) | (simp; omega)), if_pos (by simp at hs ⊢; omega)]
    simp [mergeK]
  | k + 1, a :: n, [], out, h, hs => by
    rw [buf_Merge.l0, if_pos (by first | (simp; done) | (simp; omega)), if_neg (by simp), if_pos (by simp at hs ⊢; omega), if_pos (by simp at hs ⊢; omega)]
    simp [mergeK]
  | k + 1, a :: n, b :: o, out, h, hs => by
    have ga : gt (a :: n) 0 = a := rfl
    have gb : gt (b :: o) 0 = b := rfl
    have eta : ∀ a : Msg, (a.1, a.2.1, a.2.2) = a := fun _ => rfl
    simp only [List.length_cons] at h hs
    rw [buf_Merge.l0, if_pos (by first | (simp; done) | (simp; omega)), if_pos (by first | (simp; done) | (simp; omega)), if_pos (by first | (simp; done) | (simp; omega)), if_pos (by first | (simp; done) | (simp; omega)), ga, gb, lexCompare10, Option.bind_some, eta, eta, scmp_one]
    unfold mergeK
    have d1 : List.drop 1 (a :: n) = n := rfl
    have d2 : List.drop 1 (b :: o) = o := rfl
    rw [d1, d2]
    cases q : Op.bytesLess b.1 a.1 with
    | true =>
      rw [if_pos rfl, if_pos (by first | (simp; done) | (simp; omega)), if_pos (by first | (simp; done) | (simp; omega)), merge_l0 k (a :: n) o _ (by first | (simp; done) | (simp; omega)) (by first | (simp; done) | (simp; omega)), if_neg (by rw [show Op.bytesLess (mk a) (mk b) = false from bl_asymm q]; simp), if_neg (show ¬ mk a = mk b from (bl_ne q).symm)]
      simp
    | false =>
      rw [if_neg (by simp)]
      by_cases e : a.1 = b.1
      · rw [if_pos (decide_eq_true (scmp_eq.2 e)), if_pos (by first | (simp; done) | (simp; omega)), if_pos (by first | (simp; done) | (simp; omega)), if_pos (by first | (simp; done) | (simp; omega)), merge_l0 k n o _ (by omega) (by first | (simp; done) | (simp; omega)), if_neg (by rw [show mk a = mk b from e, bl_irr]; simp), if_pos (show mk a = mk b from e)]
        simp
      · have lt : Op.bytesLess a.1 b.1 = true := by
          rcases bl_ge q with t | t
          · exact absurd t.symm e
          · exact t
        rw [if_neg (by simpa [scmp_eq] using e), if_pos (by first | (simp; done) | (simp; omega)), if_pos (by first | (simp; done) | (simp; omega)), merge_l0 k n (b :: o) _ (by first | (simp; done) | (simp; omega)) (by first | (simp; done) | (simp; omega)), if_pos (show Op.bytesLess (mk a) (mk b) = true from lt)]
        simp
theorem merge10_pure {n o : List Msg} (hn : n.length ≤ 100000) (ho : o.length ≤ 100000) {k : Nat} (hk : n.length + o.length < k) : buf_Merge.f k n o = some (mergeK mk k n o) := by
  unfold buf_Merge.f
  rw [w64_id (by omega) (by omega), if_pos (by omega), merge_l0 k n o [] hk (by simp; omega)]
  rfl
theorem okN_put {N : Nat} {l : List Msg} {m : Msg} (hl : okN N l) (hm : m.1.length ≤ 300) : okN (N + 1) (putK mk m l) := by
  refine ⟨by have := putK_length mk m l; have := hl.1; omega, fun x hx => ?_⟩
  rcases mem_putK mk hx with rfl | hx
  · exact hm
  · exact hl.2 x hx
theorem right10_pure {l : List Msg} (hl : okN 100000 l) {k : Nat} (hk : 2001 + l.length < k) : sluicegateref10_Right.f k l = some (riseK mk l) := by
  have := right_loop (key := mk) (F := fun k i => sluicegateref10_Right.l0 k l i) (cmp := sluicegateref01_Compare.f) (K := 2000) (by have := hl.1; omega) (fun k hk a b ha hb => compare_pure (Nat.le_trans (hl.2 a ha) (by decide)) (Nat.le_trans (hl.2 b hb) (by decide)) hk) (fun k i => rfl) k 0 (by omega) (by omega)
  simpa [sluicegateref10_Right.f] using this
theorem okN_merge {f : Nat} {n o : List Msg} {N M : Nat} (hn : okN N n) (ho : okN M o) : okN (N + M) (mergeK mk f n o) := by
  refine ⟨?_, fun x hx => ?_⟩
  · have : ∀ (f : Nat) (n o : List Msg), (mergeK mk f n o).length ≤ n.length + o.length := by
      intro f
      induction f with
      | zero => intro n o; simp [mergeK]
      | succ f ih =>
        intro n o
        match n, o with
        | [], o => simp [mergeK]
        | a :: n, [] => simp [mergeK]
        | a :: n, b :: o =>
          unfold mergeK
          have h1 := ih n (b :: o)
          have h2 := ih n o
          have h3 := ih (a :: n) o
          simp only [List.length_cons] at h1 h2 h3
          split
          · simp; omega
          · split <;> simp <;> omega
    have h1 := this f n o
    have := hn.1
    have := ho.1
    omega
  · exact (mergeK_mem mk hx).elim (hn.2 x) (ho.2 x)
theorem riseM_K : ∀ l : List Msg, riseM l = riseK mk l
  | [] => rfl
  | [_] => rfl
  | a :: b :: r => by rw [riseM, riseK, riseM_K (b :: r)]
theorem split10_pure {l : List Msg} (x : List UInt8) (h150 : l.length ≤ 150) (hr : riseM l = true) {k : Nat} (hk : 200 < k) : ∃ c, c ≤ l.length ∧ buf_Split.f k l x = some (l.take c, l.drop c) := by
  obtain ⟨c, c1, c2⟩ := search_pure x h150 hr hk
  have c3 := c2.1
  refine ⟨c, c3, ?_⟩
  unfold buf_Split.f
  rw [c1, Option.bind_some, if_pos (by omega), if_pos (by omega), Int.toNat_natCast, clone_pure (by rw [List.length_take]; omega), Option.bind_some, clone_pure (by rw [List.length_drop]; omega), Option.bind_some]
theorem BufWhole_pure {p q r : Prop} (l : List Msg) (s : Sp) (most : Int) (m : Msg) (_ : p) (_ : q) (hm : Ty.fit (bytesIn tt) (.int .i64) most) (_ : r) : ∃ k, sluicegatelaw10_BufWhole.f k l s most m = some true := by
  refine ⟨10000 + 20, ?_⟩
  unfold sluicegatelaw10_BufWhole.f
  obtain ⟨g, h1, h2⟩ := great_pure (k := 10000 + 20) (ss := [l]) (by simp) (by omega)
  rw [h1, Option.bind_some, awake_pure]
  cases g with
  | true => rfl
  | false =>
    have hl := h2 rfl l (by simp)
    have h150 := hl.1
    rw [if_neg (by simp)]
    by_cases h3 : 300 < s.1.length
    · rw [if_pos (decide_eq_true (by omega))]; rfl
    · rw [if_neg (by simp only [decide_eq_true_eq]; omega)]
      by_cases h4 : 300 < s.2.1.length
      · rw [if_pos (decide_eq_true (by omega))]; rfl
      · rw [if_neg (by simp only [decide_eq_true_eq]; omega)]
        by_cases h5 : 300 < m.1.length
        · rw [if_pos (decide_eq_true (by omega))]; rfl
        · have nl : okN 100000 l := ⟨by omega, hl.2⟩
          rw [if_neg (by simp only [decide_eq_true_eq]; omega), right10_pure nl (by omega), Option.bind_some]
          cases hr : riseK mk l with
          | false => rfl
          | true =>
            have hrM : riseM l = true := by rw [riseM_K, hr]
            have hR := (riseK_iff mk l).1 hr
            have eta : (s.1, s.2.1, s.2.2) = s := rfl
            have etm : (m.1, m.2.1, m.2.2) = m := rfl
            obtain ⟨f, t, e1, hp⟩ := part_pure (s := s) (by omega) hrM (k := 10010 + 10) (by omega)
            have k1 := take_pure (k := 10010) hm hl hp e1
            obtain ⟨c, c1, c2⟩ := split10_pure m.1 (by omega) hrM (k := 10000 + 20) (by omega)
            have p1 := hp.1
            have p2 := hp.2.1
            have u1 : f ≤ upto f t most := by unfold upto; omega
            have u2 : upto f t most ≤ l.length := by unfold upto; omega
            have eL : l.take f ++ (l.drop f).take (upto f t most - f) ++ l.drop (upto f t most) = l := by
              rw [List.append_assoc]
              have : (l.drop f).take (upto f t most - f) ++ l.drop (upto f t most) = l.drop f := by
                have := List.take_append_drop (upto f t most - f) (l.drop f)
                rwa [List.drop_drop, show f + (upto f t most - f) = upto f t most by omega] at this
              rw [this, List.take_append_drop]
            have eC : ([] : List Msg) ++ l.take c ++ l.drop c = l := by rw [List.nil_append, List.take_append_drop]
            have m1 := merge_parts mk (f := 10000 + 20) (A := l.take f) (T := (l.drop f).take (upto f t most - f)) (C := l.drop (upto f t most)) (by simp only [List.length_append, List.length_take, List.length_drop]; omega) (by rw [eL]; exact hR)
            have m2 := merge_parts mk (f := 10000 + 20) (A := []) (T := l.take c) (C := l.drop c) (by simp only [List.length_append, List.length_take, List.length_drop, List.length_nil]; omega) (by rw [eC]; exact hR)
            rw [eL] at m1
            rw [eC, List.nil_append] at m2
            have sl : sluicegateref10_Same.f (10000 + 20) l l = some true := by rw [refSame_pure (by omega) (by omega)]; simp
            rw [if_neg (by simp), if_pos (by simp; omega), List.nil_append, eta, k1, Option.bind_some, c2, Option.bind_some, merge10_pure (by simp only [List.length_append, List.length_take, List.length_drop]; omega) (by simp only [List.length_append, List.length_take, List.length_drop]; omega) (by simp only [List.length_append, List.length_take, List.length_drop]; omega), m1, Option.bind_some,
              merge10_pure (by simp only [List.length_take]; omega) (by simp only [List.length_drop]; omega) (by simp only [List.length_take, List.length_drop]; omega), m2, Option.bind_some, etm, put10_pure m (by omega) hR (by omega), Option.bind_some, sl]
            dsimp only
            by_cases z : 0 < ((l.drop f).take (upto f t most - f)).length
            · rw [if_pos (decide_eq_true (by omega)), if_pos (by omega)]; rfl
            · rw [if_neg (by simp only [decide_eq_true_eq]; omega)]; rfl
end Go.SK.T
