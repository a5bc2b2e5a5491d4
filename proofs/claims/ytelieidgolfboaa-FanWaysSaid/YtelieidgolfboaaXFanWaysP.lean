/- The plain law behind FanWays: what its code computes is true for all pivots, every key, span and number. -/
import Derived.Test.YtelieidgolfboaaXFanWaysF0
set_option linter.unusedVariables false
set_option linter.unusedSimpArgs false
namespace Go.SK.T
open Go Go.SK
theorem awake_pure (k : Nat) : sluicegatelaw12_awake.f (k + 20) = some true := by rfl
theorem compare_l0 : ∀ (k : Nat) (a b : List UInt8) (i : Nat), a.length ≤ 4611686018427387904 → b.length ≤ 4611686018427387904 → i ≤ a.length → i ≤ b.length → a.length - i < k →
    sluicegateref01_Compare.l0 k a b (i : Int) = some (scmp (a.drop i) (b.drop i))
  | 0, a, b, i, _, _, _, _, h => by omega
  | k + 1, a, b, i, ha, hb, hia, hib, hk => by
    unfold sluicegateref01_Compare.l0
    by_cases h1 : i < a.length
    · by_cases h2 : i < b.length
      · have g1 : (0 : Int) ≤ (i : Int) ∧ (i : Int) < (a.length : Int) := by omega
        have g2 : (0 : Int) ≤ (i : Int) ∧ (i : Int) < (b.length : Int) := by omega
        have w : w64 ((i : Int) + 1) = ((i + 1 : Nat) : Int) := by rw [w64_id (by omega) (by omega)]; omega
        have ih := compare_l0 k a b (i + 1) ha hb (by omega) (by omega) (by omega)
        simp only [g1.2, g2.2, g1, g2, decide_true, if_true, and_self, w, ih, gtb_lt, Int.toNat_natCast, drop_byte h1, drop_byte h2, scmp_cons, decide_eq_true_eq]
        split
        · rfl
        · split <;> rfl
      · have g1 : (i : Int) < (a.length : Int) := by omega
        have g2 : ¬ (i : Int) < (b.length : Int) := by omega
        have e : b.drop i = [] := List.drop_eq_nil_of_le (by omega)
        have z1 : ¬ (a.length : Int) < (b.length : Int) := by omega
        have z2 : (b.length : Int) < (a.length : Int) := by omega
        have z3 : ¬ (a.drop i).length = 0 := by rw [List.length_drop]; omega
        simp [g1, g2, e, z1, z2, scmp_nil_right, z3]
        omega
    · have g1 : ¬ (i : Int) < (a.length : Int) := by omega
      have e : a.drop i = [] := List.drop_eq_nil_of_le (by omega)
      have z : (b.drop i).length = b.length - i := List.length_drop ..
      simp only [g1, e, scmp_nil_left, z, decide_false, Bool.false_eq_true, if_false, decide_eq_true_eq]
      by_cases h2 : b.length = i
      · have z1 : ¬ (a.length : Int) < (b.length : Int) := by omega
        have z2 : ¬ (b.length : Int) < (a.length : Int) := by omega
        have h3 : a.length = i := by omega
        simp [h2, h3]
      · have z1 : (a.length : Int) < (b.length : Int) := by omega
        have z2 : ¬ b.length - i = 0 := by omega
        simp [z1, z2]
theorem compare_pure {k : Nat} {a b : List UInt8} (ha : a.length ≤ 2000) (hb : b.length ≤ 2000) (hk : 2000 < k) : sluicegateref01_Compare.f k a b = some (scmp a b) := by
  have := compare_l0 k a b 0 (by omega) (by omega) (by omega) (by omega) (by omega)
  simpa [sluicegateref01_Compare.f] using this
abbrev Sp := List UInt8 × List UInt8 × Bool
def inS (s : Sp) (x : List UInt8) : Bool := !Op.bytesLess x s.1 && (s.2.2 || Op.bytesLess x s.2.1)
def emS (s : Sp) : Bool := !s.2.2 && !Op.bytesLess s.1 s.2.1
theorem lexIn_pure (s : Sp) (x : List UInt8) : lex_In.f s x = some (inS s x) := by
  unfold lex_In.f inS
  cases Op.bytesLess x s.1 <;> cases s.2.2 <;> rfl
theorem lexEmpty_pure (s : Sp) : lex_Empty.f s = some (emS s) := by
  unfold lex_Empty.f emS
  rw [bl_le_iff]
  cases s.2.2 <;> rfl
theorem refIn_pure {k : Nat} {s : Sp} {x : List UInt8} (h1 : s.1.length ≤ 2000) (h2 : s.2.1.length ≤ 2000) (hx : x.length ≤ 2000) (hk : 2000 < k) : sluicegateref01_In.f k s x = some (inS s x) := by
  unfold sluicegateref01_In.f inS
  rw [compare_pure h1 hx hk, compare_pure hx h2 hk]
  simp only [Option.bind_some, scmp_le, scmp_lt, decide_eq_true_eq]
  cases h : Op.bytesLess x s.1 <;> cases s.2.2 <;> simp
def cutS (a b : Sp) : Sp := (if Op.bytesLess a.1 b.1 = true then b.1 else a.1, if a.2.2 = true then (if b.2.2 = true then [] else b.2.1) else if b.2.2 = true then a.2.1 else if Op.bytesLess b.2.1 a.2.1 = true then b.2.1 else a.2.1, a.2.2 && b.2.2)
def meetS (a b : Sp) : Sp × Bool := if emS (cutS a b) = true then (([], [], false), false) else (cutS a b, true)
theorem meet_pure (a b : Sp) : lex_Meet.f a b = some (meetS a b) := by
  obtain ⟨l, h, p⟩ := a
  obtain ⟨m, i, q⟩ := b
  have e : (if (!Op.bytesLess l m) = true then l else m) = if Op.bytesLess l m = true then m else l := by cases Op.bytesLess l m <;> rfl
  have f : (if (Op.bytesLess h i || decide (h = i)) = true then h else i) = if Op.bytesLess i h = true then i else h := by rw [bl_le_iff]; cases Op.bytesLess i h <;> rfl
  cases p <;> cases q <;> simp only [lex_Meet.f, meetS, cutS, lexEmpty_pure, Option.bind_some, e, f, Bool.not_true, Bool.not_false, Bool.false_eq_true, if_false, if_true, Bool.and_true, Bool.true_and, Bool.and_false, Bool.false_and] <;> exact (apply_ite some _ _ _).symm
theorem in_cut (a b : Sp) (x : List UInt8) : inS (cutS a b) x = (inS a x && inS b x) := by
  obtain ⟨l, h, p⟩ := a
  obtain ⟨m, i, q⟩ := b
  have e : Op.bytesLess x (if Op.bytesLess l m = true then m else l) = (Op.bytesLess x l || Op.bytesLess x m) := by
    cases c : Op.bytesLess l m with
    | true =>
      simp only [if_true]
      cases d : Op.bytesLess x l with
      | false => simp
      | true => simp [bl_trans d c]
    | false =>
      simp only [Bool.false_eq_true, if_false]
      cases d : Op.bytesLess x m with
      | false => simp
      | true => simp [bl_lt_le d c]
  have f : Op.bytesLess x (if Op.bytesLess i h = true then i else h) = (Op.bytesLess x h && Op.bytesLess x i) := by
    cases c : Op.bytesLess i h with
    | true =>
      simp only [if_true]
      cases d : Op.bytesLess x i with
      | false => simp
      | true => simp [bl_trans d c]
    | false =>
      simp only [Bool.false_eq_true, if_false]
      cases d : Op.bytesLess x h with
      | false => simp
      | true => simp [bl_lt_le d c]
  cases p <;> cases q <;> simp only [inS, cutS, e, f, Bool.and_true, Bool.true_and, Bool.and_false, Bool.false_and, Bool.false_eq_true, if_false, if_true, Bool.true_or, Bool.false_or, Bool.not_or] <;> (cases Op.bytesLess x l <;> cases Op.bytesLess x m <;> cases Op.bytesLess x h <;> cases Op.bytesLess x i <;> rfl)
theorem in_empty {s : Sp} {x : List UInt8} (h : emS s = true) : inS s x = false := by
  simp only [emS, Bool.and_eq_true, Bool.not_eq_true'] at h
  cases k : Op.bytesLess x s.1 with
  | true => simp [inS, k]
  | false =>
    simp only [inS, k, h.1, Bool.not_false, Bool.true_and, Bool.false_or]
    exact bl_le_trans h.2 k
theorem scmp_ge (a b : List UInt8) : decide (0 ≤ scmp a b) = !Op.bytesLess a b := by
  rcases scmp_vals a b with ⟨e, h⟩ | ⟨e, rfl⟩ | ⟨e, h⟩
  · simp [e, h]
  · simp [e, bl_irr]
  · simp [e, bl_asymm h]
theorem lexCompare_pure (a b : List UInt8) : lex_Compare.f a b = some (scmp a b) := rfl
theorem refEmpty_pure {k : Nat} {s : Sp} (h1 : s.1.length ≤ 2000) (h2 : s.2.1.length ≤ 2000) (hk : 2000 < k) : sluicegateref01_Empty.f k s = some (emS s) := by
  unfold sluicegateref01_Empty.f
  rw [refIn_pure h1 h2 h1 hk]
  simp only [Option.bind_some, inS, emS, bl_irr]
  simp
/-- what is not great -/
structure Small (l : List (List UInt8)) (x : List UInt8) (s : Sp) : Prop where
  len : l.length ≤ 80
  all : ∀ p ∈ l, p.length ≤ 300
  x : x.length ≤ 300
  lo : s.1.length ≤ 300
  hi : s.2.1.length ≤ 300
theorem Small.get {l : List (List UInt8)} {x : List UInt8} {s : Sp} (h : Small l x s) (i : Nat) : (l.getD i []).length ≤ 300 := by
  by_cases hi : i < l.length
  · exact h.all _ (getD_mem hi)
  · rw [List.getD_eq_getElem?_getD, List.getElem?_eq_none (by omega)]
    exact Nat.zero_le _
theorem great_l0 (l : List (List UInt8)) (x : List UInt8) (s : Sp) : ∀ (k i : Nat), i ≤ 100 → i ≤ l.length → 101 - i < k → (∀ p ∈ l.take i, p.length ≤ 300) → ∃ g, sluicegatelaw12_great.l0 k l x s (i : Int) = some g ∧ (g = false → Small l x s)
  | 0, i, _, _, h, _ => by omega
  | k + 1, i, hi, hil, hk, hp => by
    rw [sluicegatelaw12_great.l0]
    have tail : l.length ≤ i ∨ i = 100 → ∃ g, (if (decide (80 < (l.length : Int))) = true then (some true) else (if (decide (300 < (x.length : Int))) = true then (some true) else (if (decide (300 < (s.1.length : Int))) = true then (some true) else (some (decide (300 < (s.2.1.length : Int))))))) = some g ∧ (g = false → Small l x s) := fun ht => by
      by_cases h1 : 80 < l.length
      · exact ⟨true, by rw [if_pos (decide_eq_true (by omega))], fun h => by cases h⟩
      · rw [if_neg (by simp only [decide_eq_true_eq]; omega)]
        by_cases h2 : 300 < x.length
        · exact ⟨true, by rw [if_pos (decide_eq_true (by omega))], fun h => by cases h⟩
        · rw [if_neg (by simp only [decide_eq_true_eq]; omega)]
          by_cases h3 : 300 < s.1.length
          · exact ⟨true, by rw [if_pos (decide_eq_true (by omega))], fun h => by cases h⟩
          · rw [if_neg (by simp only [decide_eq_true_eq]; omega)]
            refine ⟨_, rfl, fun h => ⟨by omega, fun p hpm => hp p ?_, by omega, by omega, by simp only [decide_eq_false_iff_not] at h; omega⟩⟩
            rwa [List.take_of_length_le (by omega)]
    by_cases h : i < l.length
    · rw [if_pos (decide_eq_true (by omega))]
      by_cases h2 : i < 100
      · have g1 : (0 : Int) ≤ (i : Int) ∧ (i : Int) < (l.length : Int) := by omega
        rw [if_pos (decide_eq_true (by omega)), if_pos g1, gt_nat]
        by_cases h3 : 300 < (l.getD i default).length
        · rw [if_pos (decide_eq_true (by omega))]
          exact ⟨true, rfl, fun h => by cases h⟩
        · rw [if_neg (by simp only [decide_eq_true_eq]; omega), w64_succ (by omega)]
          refine great_l0 l x s k (i + 1) (by omega) (by omega) (by omega) fun p hpm => ?_
          rw [List.take_add_one, List.mem_append] at hpm
          rcases hpm with hpm | hpm
          · exact hp p hpm
          · rw [List.getElem?_eq_getElem h] at hpm
            simp only [Option.toList_some, List.mem_singleton] at hpm
            subst hpm
            rw [List.getD_eq_getElem?_getD, List.getElem?_eq_getElem h] at h3
            simp only [Option.getD_some] at h3
            omega
      · rw [if_neg (by simp only [decide_eq_true_eq]; omega)]
        exact tail (.inr (by omega))
    · rw [if_neg (by simp only [decide_eq_true_eq]; omega)]
      exact tail (.inl (by omega))
theorem great_pure (l : List (List UInt8)) (x : List UInt8) (s : Sp) {k : Nat} (hk : 200 < k) : ∃ g, sluicegatelaw12_great.f k l x s = some g ∧ (g = false → Small l x s) :=
  great_l0 l x s k 0 (by omega) (by omega) (by omega) (by simp)
theorem rises_drop {l : List (List UInt8)} {i : Nat} (h : i + 1 < l.length) : rises (l.drop i) = (Op.bytesLess (l.getD i []) (l.getD (i + 1) []) && rises (l.drop (i + 1))) := by
  rw [drop_cons (show i < l.length by omega), drop_cons h]
  rfl
theorem rises_end {l : List (List UInt8)} {i : Nat} (h : l.length ≤ i + 1) : rises (l.drop i) = true := by
  by_cases h' : i < l.length
  · rw [drop_cons h', List.drop_eq_nil_of_le (by omega)]
    rfl
  · rw [List.drop_eq_nil_of_le (by omega)]
    rfl
theorem rise_l0 {x : List UInt8} {s : Sp} {l : List (List UInt8)} (hs : Small l x s) : ∀ (k i : Nat), i ≤ l.length → 2001 + (l.length - i) < k → sluicegateref12_Rise.l0 k l ((i + 1 : Nat) : Int) = some (rises (l.drop i))
  | 0, i, _, h => by omega
  | k + 1, i, hi, hk => by
    have h80 := hs.len
    rw [sluicegateref12_Rise.l0]
    by_cases h : i + 1 < l.length
    · have g1 : (0 : Int) ≤ (i : Int) ∧ (i : Int) < (l.length : Int) := by omega
      have g2 : (0 : Int) ≤ ((i + 1 : Nat) : Int) ∧ ((i + 1 : Nat) : Int) < (l.length : Int) := by omega
      have k1 : (l.getD i default).length ≤ 300 := hs.get i
      have k2 : (l.getD (i + 1) default).length ≤ 300 := hs.get (i + 1)
      rw [if_pos (decide_eq_true g2.2), w64_pred (by omega) (by omega), Nat.add_sub_cancel, if_pos g1, if_pos g2, gt_nat, gt_nat, compare_pure (by omega) (by omega) (by omega), Option.bind_some, scmp_ge, w64_succ (by omega), rise_l0 hs k (i + 1) (by omega) (by omega), rises_drop h]
      show (if (!Op.bytesLess (l.getD i []) (l.getD (i + 1) [])) = true then some false else some (rises (l.drop (i + 1)))) = _
      cases Op.bytesLess (l.getD i []) (l.getD (i + 1) []) <;> rfl
    · rw [if_neg (by simp only [decide_eq_true_eq]; omega), rises_end (by omega)]
theorem rise_pure {x : List UInt8} {s : Sp} {l : List (List UInt8)} (hs : Small l x s) {k : Nat} (hk : 3000 < k) : sluicegateref12_Rise.f k l = some (rises l) := by
  have := rise_l0 hs k 0 (by omega) (by have := hs.len; omega)
  simpa [sluicegateref12_Rise.f] using this
def piv (s : Sp) (p : List UInt8) : Bool := inS s p && !decide (p = s.1)
theorem refRight_l0 {x : List UInt8} {s : Sp} {l : List (List UInt8)} (hs : Small l x s) : ∀ (k i : Nat), i ≤ l.length → 3001 + (l.length - i) < k → sluicegateref12_Right.l0 k l s (i : Int) = some ((l.drop i).all (piv s) && rises l)
  | 0, i, _, h => by omega
  | k + 1, i, hi, hk => by
    have h80 := hs.len
    rw [sluicegateref12_Right.l0]
    by_cases h : i < l.length
    · have g1 : (0 : Int) ≤ (i : Int) ∧ (i : Int) < (l.length : Int) := by omega
      have k1 : (l.getD i default).length ≤ 300 := hs.get i
      have hlo := hs.lo
      have hhi := hs.hi
      have eta : (s.1, s.2.1, s.2.2) = s := rfl
      rw [if_pos (decide_eq_true g1.2), if_pos g1, gt_nat, eta, refIn_pure (by omega) (by omega) (by omega) (by omega), Option.bind_some, w64_succ (by omega), refRight_l0 hs k (i + 1) (by omega) (by omega), drop_cons h, List.all_cons]
      simp only [piv]
      cases inS s (l.getD i default) <;> by_cases e : l.getD i default = s.1 <;> simp only [e, decide_true, decide_false] <;> rfl
    · rw [if_neg (by simp only [decide_eq_true_eq]; omega), rise_pure hs (by omega), List.drop_eq_nil_of_le (by omega)]
      rfl
theorem refRight_pure {x : List UInt8} {s : Sp} {l : List (List UInt8)} (hs : Small l x s) {k : Nat} (hk : 4000 < k) : sluicegateref12_Right.f k l s = some (l.all (piv s) && rises l) := by
  have := refRight_l0 hs k 0 (by omega) (by have := hs.len; omega)
  simpa [sluicegateref12_Right.f] using this
/-! the way -/
def AtWay (l : List (List UInt8)) (x : List UInt8) (w : Nat) : Prop := w ≤ l.length ∧ (∀ j, j < w → Op.bytesLess x (l.getD j []) = false) ∧ ∀ j, w ≤ j → j < l.length → Op.bytesLess x (l.getD j []) = true
theorem rises_get {l : List (List UInt8)} (h : rises l = true) : ∀ {i j : Nat}, i < j → j < l.length → Op.bytesLess (l.getD i []) (l.getD j []) = true := by
  have step : ∀ i, i + 1 < l.length → rises (l.drop i) = true → Op.bytesLess (l.getD i []) (l.getD (i + 1) []) = true ∧ rises (l.drop (i + 1)) = true := fun i hi hr => by
    rw [rises_drop hi, Bool.and_eq_true] at hr
    exact hr
  have all : ∀ i, i < l.length → rises (l.drop i) = true := fun i => by
    induction i with
    | zero => intro _; simpa using h
    | succ i ih => intro hi; exact (step i hi (ih (by omega))).2
  intro i j hij hj
  induction j with
  | zero => omega
  | succ j ih =>
    have one := (step j hj (all j (by omega))).1
    by_cases e : i = j
    · subst e; exact one
    · exact bl_trans (ih (by omega) (by omega)) one
theorem search_l0 {l : List (List UInt8)} {x : List UInt8} (hl : l.length ≤ 80) : ∀ (k a b : Nat), a ≤ b → b ≤ l.length → b - a < k → (∀ i j, i < j → j < l.length → Op.bytesLess (l.getD i []) (l.getD j []) = true) → (∀ j, j < a → Op.bytesLess (l.getD j []) x = true) → (∀ j, b ≤ j → j < l.length → Op.bytesLess (l.getD j []) x = false) →
    ∃ c : Nat, slices_BinarySearchFunc_string_string_string_lex_Compare.l0 k l x (a : Int) (b : Int) = some ((c : Int), decide (c < l.length ∧ l.getD c [] = x)) ∧ c ≤ l.length ∧ (∀ j, j < c → Op.bytesLess (l.getD j []) x = true) ∧ (∀ j, c ≤ j → j < l.length → Op.bytesLess (l.getD j []) x = false)
  | 0, a, b, _, _, h, _, _, _ => by omega
  | k + 1, a, b, hab, hb, hk, hr, h1, h2 => by
    rw [slices_BinarySearchFunc_string_string_string_lex_Compare.l0]
    by_cases h : a < b
    · have w : w64 ((Int.fdiv (IntKind.u64.wrap ((w64 ((a : Int) + (b : Int))))) (2 ^ 1))) = (((a + b) / 2 : Nat) : Int) := by
        rw [w64_id (x := (a : Int) + (b : Int)) (by omega) (by omega)]
        have u : IntKind.u64.wrap ((a : Int) + (b : Int)) = (a : Int) + (b : Int) := by
          simp only [IntKind.wrap, IntKind.signed, IntKind.bits]
          simp
          omega
        rw [u, Int.fdiv_eq_ediv_of_nonneg _ (by decide)]
        rw [w64_id (by omega) (by omega)]
        omega
      have g1 : (0 : Int) ≤ (((a + b) / 2 : Nat) : Int) ∧ (((a + b) / 2 : Nat) : Int) < (l.length : Int) := by omega
      rw [if_pos (decide_eq_true (by omega)), w, if_pos g1, gt_nat, lexCompare_pure, Option.bind_some, w64_succ (by omega)]
      show ∃ c : Nat, (if decide (scmp (l.getD ((a + b) / 2) []) x < 0) = true then _ else _) = _ ∧ _
      cases e : Op.bytesLess (l.getD ((a + b) / 2) []) x with
      | true =>
        rw [if_pos (decide_eq_true (scmp_lt.2 e))]
        refine search_l0 hl k _ b (by omega) hb (by omega) hr (fun j hj => ?_) h2
        by_cases q : j = (a + b) / 2
        · subst q; exact e
        · exact bl_trans (hr j ((a + b) / 2) (by omega) (by omega)) e
      | false =>
        rw [if_neg (by simp only [decide_eq_true_eq, scmp_lt, e]; simp)]
        refine search_l0 hl k a _ (by omega) (by omega) (by omega) hr h1 fun j hj hjl => ?_
        by_cases q : j = (a + b) / 2
        · subst q; exact e
        · exact bl_le_trans e (bl_asymm (hr ((a + b) / 2) j (by omega) hjl))
    · obtain rfl : a = b := by omega
      rw [if_neg (by simp only [decide_eq_true_eq]; omega)]
      refine ⟨a, ?_, hb, h1, h2⟩
      by_cases q : a < l.length
      · have g1 : (0 : Int) ≤ (a : Int) ∧ (a : Int) < (l.length : Int) := by omega
        rw [if_pos (decide_eq_true (by omega)), if_pos g1, gt_nat, lexCompare_pure, Option.bind_some]
        show some ((a : Int), decide (scmp (l.getD a []) x = 0)) = _
        simp only [scmp_eq, q, true_and]
      · rw [if_neg (by simp only [decide_eq_true_eq]; omega)]
        simp [q]
theorem way_pure {l : List (List UInt8)} {x : List UInt8} (hl : l.length ≤ 80) (hr : rises l = true) {k : Nat} (hk : 100 < k) : ∃ w : Nat, fan_Way.f k l x = some (w : Int) ∧ AtWay l x w := by
  obtain ⟨c, h1, h2, h3, h4⟩ := search_l0 (x := x) hl k 0 l.length (by omega) (by omega) (by omega) (fun i j => rises_get hr) (fun j hj => by omega) (fun j hj hjl => by omega)
  have h1' : slices_BinarySearchFunc_string_string_string_lex_Compare.f k l x = _ := h1
  unfold fan_Way.f
  rw [h1', Option.bind_some]
  by_cases e : c < l.length ∧ l.getD c [] = x
  · rw [if_pos (by simp only [e, and_self, decide_true]), w64_succ (by omega)]
    refine ⟨c + 1, rfl, by omega, fun j hj => ?_, fun j hj hjl => ?_⟩
    · by_cases q : j = c
      · subst q; rw [e.2, bl_irr]
      · exact bl_asymm (h3 j (by omega))
    · have := rises_get hr (i := c) (j := j) (by omega) hjl
      rwa [e.2] at this
  · rw [if_neg (by simp only [e, decide_false]; simp)]
    refine ⟨c, rfl, h2, fun j hj => bl_asymm (h3 j hj), fun j hj hjl => ?_⟩
    have h5 := h4 j hj hjl
    rcases bl_ge h5 with q | q
    · exfalso
      by_cases z : j = c
      · subst z; exact e ⟨hjl, q⟩
      · have := rises_get hr (i := c) (j := j) (by omega) hjl
        rw [q, h4 c (by omega) (by omega)] at this
        cases this
    · exact q
/-! what a kid has -/
def ownS (l : List (List UInt8)) (i : Nat) : Sp := (if 0 < i then l.getD (i - 1) [] else [], if i = l.length then [] else l.getD i [], decide (i = l.length))
theorem span_pure {l : List (List UInt8)} (hl : l.length ≤ 80) (s : Sp) (i : Nat) (hi : i ≤ l.length) : fan_Span.f l (i : Int) s = some (meetS (ownS l i) s) := by
  unfold fan_Span.f
  have d : ∀ (m : Sp × Bool), some (((m.1.1, m.1.2.1, m.1.2.2), m.2) : Sp × Bool) = some m := fun m => rfl
  have eta : (s.1, s.2.1, s.2.2) = s := rfl
  rw [if_neg (by simp only [decide_eq_true_eq]; omega), if_neg (by simp only [decide_eq_true_eq]; omega)]
  have de : decide ((i : Int) = (l.length : Int)) = decide (i = l.length) := by congr 1; exact propext (by omega)
  simp only [meet_pure, Option.bind_some, d, eta, de]
  by_cases h0 : 0 < i
  · have g0 : (0 : Int) ≤ ((i - 1 : Nat) : Int) ∧ ((i - 1 : Nat) : Int) < (l.length : Int) := by omega
    rw [if_pos (decide_eq_true (by omega)), w64_pred h0 (by omega), if_pos g0, gt_nat]
    by_cases h1 : i = l.length
    · simp only [h1, decide_true, Bool.not_true, Bool.false_eq_true, if_false, ownS, if_true, show 0 < l.length by omega]
      rfl
    · have g1 : (0 : Int) ≤ (i : Int) ∧ (i : Int) < (l.length : Int) := by omega
      simp only [h1, decide_false, Bool.not_false, if_true, g1, and_self, gt_nat, ownS, h0, if_false]
      rfl
  · obtain rfl : i = 0 := by omega
    rw [if_neg (by simp)]
    by_cases h1 : 0 = l.length
    · simp only [← h1, decide_true, Bool.not_true, Bool.false_eq_true, if_false, ownS, if_true, Nat.lt_irrefl]
    · have g1 : (0 : Int) ≤ ((0 : Nat) : Int) ∧ ((0 : Nat) : Int) < (l.length : Int) := by omega
      simp only [h1, decide_false, Bool.not_false, if_true, g1, and_self, gt_nat, ownS, Nat.lt_irrefl, if_false]
      rfl
theorem fanRight_l0 {l : List (List UInt8)} (s : Sp) (hl : l.length ≤ 80) : ∀ (k i : Nat), i ≤ l.length → l.length - i < k → fan_Right.l0 k l s (i : Int) = some ((l.drop i).all (piv s) && rises (l.drop (i - 1)))
  | 0, i, _, h => by omega
  | k + 1, i, hi, hk => by
    rw [fan_Right.l0]
    by_cases h : i < l.length
    · have g1 : (0 : Int) ≤ (i : Int) ∧ (i : Int) < (l.length : Int) := by omega
      have eta : (s.1, s.2.1, s.2.2) = s := rfl
      have ih := fanRight_l0 s hl k (i + 1) (by omega) (by omega)
      rw [if_pos (decide_eq_true g1.2), if_pos g1, gt_nat, eta, lexIn_pure, Option.bind_some, w64_succ (by omega), ih, drop_cons h, List.all_cons, Nat.add_sub_cancel]
      simp only [piv]
      cases h1 : inS s (l.getD i default) with
      | false => rfl
      | true =>
        by_cases e : l.getD i default = s.1
        · rw [if_neg (by simp), if_pos (decide_eq_true e), decide_eq_true e]; rfl
        · rw [if_neg (by simp), if_neg (by simp only [e, decide_false]; simp)]
          by_cases h0 : 0 < i
          · have g2 : (0 : Int) ≤ ((i - 1 : Nat) : Int) ∧ ((i - 1 : Nat) : Int) < (l.length : Int) := by omega
            rw [if_pos (decide_eq_true (by omega)), w64_pred h0 (by omega), if_pos g2, gt_nat, lexCompare_pure, Option.bind_some, scmp_ge]
            have := rises_drop (l := l) (i := i - 1) (by omega)
            rw [Nat.sub_add_cancel h0] at this
            rw [this, decide_eq_false e]
            show (if (!Op.bytesLess (l.getD (i - 1) []) (l.getD i [])) = true then _ else _) = _
            cases Op.bytesLess (l.getD (i - 1) []) (l.getD i []) <;> simp
          · obtain rfl : i = 0 := by omega
            rw [if_neg (by simp), decide_eq_false e]
            simp
    · rw [if_neg (by simp only [decide_eq_true_eq]; omega), List.drop_eq_nil_of_le (by omega), rises_end (by omega)]
      rfl
theorem fanRight_pure {l : List (List UInt8)} (s : Sp) (hl : l.length ≤ 80) {k : Nat} (hk : 100 < k) : fan_Right.f k l s = some (l.all (piv s) && rises l) := by
  have := fanRight_l0 s hl k 0 (by omega) (by omega)
  simpa [fan_Right.f] using this
theorem refWay_l0 {l : List (List UInt8)} {x : List UInt8} {s : Sp} {w : Nat} (hs : Small l x s) (hw : AtWay l x w) : ∀ (k i : Nat), i ≤ l.length → 2001 + (l.length - i) < k → sluicegateref12_Way.l0 k l x ((min i w : Nat) : Int) (i : Int) = some (w : Int)
  | 0, i, _, h => by omega
  | k + 1, i, hi, hk => by
    have h80 := hs.len
    have hx := hs.x
    obtain ⟨w1, w2, w3⟩ := hw
    rw [sluicegateref12_Way.l0]
    by_cases h : i < l.length
    · have g1 : (0 : Int) ≤ (i : Int) ∧ (i : Int) < (l.length : Int) := by omega
      have k1 : (l.getD i default).length ≤ 300 := hs.get i
      rw [if_pos (decide_eq_true g1.2), if_pos g1, gt_nat, compare_pure (by omega) (by omega) (by omega), Option.bind_some, w64_succ (i := i) (by omega)]
      have ih := refWay_l0 hs ⟨w1, w2, w3⟩ k (i + 1) (by omega) (by omega)
      by_cases q : i < w
      · have e : Op.bytesLess x (l.getD i default) = false := w2 i q
        rw [if_pos (decide_eq_true (scmp_le.2 e)), w64_succ (by omega), show min i w + 1 = min (i + 1) w by omega, ih]
      · have e : Op.bytesLess x (l.getD i default) = true := w3 i (by omega) h
        rw [if_neg (by simp only [decide_eq_true_eq, scmp_le]; rw [e]; simp), show min i w = min (i + 1) w by omega, ih]
    · rw [if_neg (by simp only [decide_eq_true_eq]; omega), show min i w = w by omega]
theorem refWay_pure {l : List (List UInt8)} {x : List UInt8} {s : Sp} {w : Nat} (hs : Small l x s) (hw : AtWay l x w) {k : Nat} (hk : 3000 < k) : sluicegateref12_Way.f k l x = some (w : Int) := by
  have := refWay_l0 hs hw k 0 (by omega) (by have := hs.len; omega)
  simpa [sluicegateref12_Way.f] using this
theorem refSpan_pure {l : List (List UInt8)} {x : List UInt8} {s : Sp} (hs : Small l x s) (i : Nat) (hi : i ≤ l.length) {k : Nat} (hk : 3000 < k) : sluicegateref12_Span.f k l (i : Int) s = some (meetS (ownS l i) s) := by
  have h80 := hs.len
  have hlo := hs.lo
  have hhi := hs.hi
  have hi1 := hs.get i
  have hi0 := hs.get (i - 1)
  have fin : ∀ (c : Sp), c.1.length ≤ 2000 → c.2.1.length ≤ 2000 → cutS (ownS l i) s = c →
      ((sluicegateref01_Empty.f k c).bind fun r => (if r = true then some ((([] : List UInt8), ([] : List UInt8), false), false) else some (c, true))) = some (meetS (ownS l i) s) := fun c e1 e2 e3 => by
    rw [refEmpty_pure e1 e2 (by omega), Option.bind_some, meetS, e3]
    exact (apply_ite some _ _ _).symm
  unfold sluicegateref12_Span.f
  rw [if_neg (by simp only [decide_eq_true_eq]; omega), if_neg (by simp only [decide_eq_true_eq]; omega)]
  have c1 : sluicegateref01_Compare.f k (l.getD (i - 1) default) s.1 = some (scmp (l.getD (i - 1) []) s.1) := compare_pure (a := l.getD (i - 1) []) (by omega) (by omega) (by omega)
  have c2 : sluicegateref01_Compare.f k (l.getD i default) s.2.1 = some (scmp (l.getD i []) s.2.1) := compare_pure (a := l.getD i []) (by omega) (by omega) (by omega)
  have n0 : ([] : List UInt8).length ≤ 2000 := Nat.zero_le _
  -- the upper end, at a lower end that is right
  have up : ∀ (lo : List UInt8), lo.length ≤ 2000 → (cutS (ownS l i) s).1 = lo → ∀ (X : Option (Sp × Bool)), X = (if (decide ((i : Int) < (l.length : Int))) = true then (if s.2.2 = true then (if 0 ≤ (i : Int) ∧ (i : Int) < (l.length : Int) then ((sluicegateref01_Empty.f k (lo, (gt l (i : Int)), false)).bind fun r2 => (if r2 = true then (some ((([] : List UInt8), ([] : List UInt8), false), false)) else (some ((lo, (gt l (i : Int)), false), true)))) else none) else (if 0 ≤ (i : Int) ∧ (i : Int) < (l.length : Int) then ((sluicegateref01_Compare.f k (gt l (i : Int)) s.2.1).bind fun r3 => (if (decide (r3 < 0)) = true then ((sluicegateref01_Empty.f k (lo, (gt l (i : Int)), false)).bind fun r4 => (if r4 = true then (some ((([] : List UInt8), ([] : List UInt8), false), false)) else (some ((lo, (gt l (i : Int)), false), true)))) else ((sluicegateref01_Empty.f k (lo, s.2.1, s.2.2)).bind fun r5 => (if r5 = true then (some ((([] : List UInt8), ([] : List UInt8), false), false)) else (some ((lo, s.2.1, s.2.2), true)))))) else none)) else (if s.2.2 = true then ((sluicegateref01_Empty.f k (lo, ([] : List UInt8), s.2.2)).bind fun r6 => (if r6 = true then (some ((([] : List UInt8), ([] : List UInt8), false), false)) else (some ((lo, ([] : List UInt8), s.2.2), true)))) else ((sluicegateref01_Empty.f k (lo, s.2.1, s.2.2)).bind fun r7 => (if r7 = true then (some ((([] : List UInt8), ([] : List UInt8), false), false)) else (some ((lo, s.2.1, s.2.2), true)))))) → X = some (meetS (ownS l i) s) := fun lo hl he X hX => by
    rw [hX]
    have split3 : cutS (ownS l i) s = ((cutS (ownS l i) s).1, (cutS (ownS l i) s).2.1, (cutS (ownS l i) s).2.2) := rfl
    by_cases h : i < l.length
    · have hn : ¬ i = l.length := by omega
      have g1 : (0 : Int) ≤ (i : Int) ∧ (i : Int) < (l.length : Int) := by omega
      have ot : (ownS l i).2.2 = false := decide_eq_false hn
      have oh : (ownS l i).2.1 = l.getD i [] := if_neg hn
      rw [if_pos (decide_eq_true (by omega)), if_pos g1, if_pos g1, gt_nat, c2, Option.bind_some]
      cases ht : s.2.2 with
      | true =>
        rw [if_pos rfl]
        refine fin (lo, l.getD i [], false) hl (by show (l.getD i []).length ≤ 2000; omega) ?_
        rw [split3, he]
        simp only [cutS, ot, oh, ht, Bool.false_eq_true, if_false, if_true, Bool.false_and]
      | false =>
        rw [if_neg (by simp)]
        cases e : Op.bytesLess (l.getD i []) s.2.1 with
        | true =>
          rw [if_pos (decide_eq_true (scmp_lt.2 e))]
          refine fin (lo, l.getD i [], false) hl (by show (l.getD i []).length ≤ 2000; omega) ?_
          rw [split3, he]
          simp only [cutS, ot, oh, ht, Bool.false_eq_true, if_false, bl_asymm e, Bool.false_and]
        | false =>
          rw [if_neg (by simp only [decide_eq_true_eq, scmp_lt, e]; simp)]
          refine fin (lo, s.2.1, false) hl (by show s.2.1.length ≤ 2000; omega) ?_
          rw [split3, he]
          have : (if Op.bytesLess s.2.1 (l.getD i []) = true then s.2.1 else l.getD i []) = s.2.1 := by
            rcases bl_ge e with q | q
            · rw [q, bl_irr]; rfl
            · rw [q]; rfl
          simp only [cutS, ot, oh, ht, Bool.false_eq_true, if_false, this, Bool.false_and]
    · have hn : i = l.length := by omega
      have ot : (ownS l i).2.2 = true := decide_eq_true hn
      rw [if_neg (by simp only [decide_eq_true_eq]; omega)]
      cases ht : s.2.2 with
      | true =>
        rw [if_pos rfl]
        refine fin (lo, [], true) hl n0 ?_
        rw [split3, he]
        simp only [cutS, ot, ht, if_true, Bool.true_and]
      | false =>
        rw [if_neg (by simp)]
        refine fin (lo, s.2.1, false) hl (by show s.2.1.length ≤ 2000; omega) ?_
        rw [split3, he]
        simp only [cutS, ot, ht, if_true, Bool.true_and, Bool.false_eq_true, if_false]
  by_cases h0 : 0 < i
  · have g2 : (0 : Int) ≤ ((i - 1 : Nat) : Int) ∧ ((i - 1 : Nat) : Int) < (l.length : Int) := by omega
    have ol : (ownS l i).1 = l.getD (i - 1) [] := if_pos h0
    rw [if_pos (decide_eq_true (by omega)), w64_pred h0 (by omega), if_pos g2, gt_nat l (i - 1), c1, Option.bind_some]
    rcases scmp_vals (l.getD (i - 1) []) s.1 with ⟨e1, e2⟩ | ⟨e1, e2⟩ | ⟨e1, e2⟩
    · rw [e1, if_neg (by decide)]
      refine up s.1 (by omega) ?_ _ rfl
      show (if Op.bytesLess (ownS l i).1 s.1 = true then s.1 else (ownS l i).1) = _
      rw [ol, e2]; rfl
    · rw [e1, if_neg (by decide)]
      refine up s.1 (by omega) ?_ _ rfl
      show (if Op.bytesLess (ownS l i).1 s.1 = true then s.1 else (ownS l i).1) = _
      rw [ol, e2, bl_irr]; rfl
    · rw [e1, if_pos (by decide)]
      refine up (l.getD (i - 1) []) (by omega) ?_ _ rfl
      show (if Op.bytesLess (ownS l i).1 s.1 = true then s.1 else (ownS l i).1) = _
      rw [ol, bl_asymm e2]; rfl
  · have ol : (ownS l i).1 = [] := if_neg h0
    rw [if_neg (by simp only [decide_eq_true_eq]; omega)]
    refine up s.1 (by omega) ?_ _ rfl
    show (if Op.bytesLess (ownS l i).1 s.1 = true then s.1 else (ownS l i).1) = _
    rw [ol]
    cases s.1 <;> rfl
theorem FanWays_pure {p q r t : Prop} (l : List (List UInt8)) (x : List UInt8) (s : Sp) (i : Int) (_ : p) (_ : q) (_ : r) (_ : t) : ∃ k, sluicegatelaw12_FanWays.f k l x s i = some true := by
  refine ⟨6000 + 20, ?_⟩
  unfold sluicegatelaw12_FanWays.f
  have eta : (s.1, s.2.1, s.2.2) = s := rfl
  obtain ⟨g, h1, h2⟩ := great_pure l x s (k := 6000 + 20) (by omega)
  rw [eta, h1, Option.bind_some, awake_pure]
  cases g with
  | true => rfl
  | false =>
    have hs := h2 rfl
    have hl := hs.len
    rw [if_neg (by simp), fanRight_pure s hl (by omega), refRight_pure hs (by omega), Option.bind_some, Option.bind_some, rise_pure hs (by omega), Option.bind_some, if_neg (by simp)]
    cases hr : rises l with
    | false => rfl
    | true =>
      obtain ⟨w, hw1, hw2⟩ := way_pure (x := x) hl hr (k := 6000 + 20) (by omega)
      have hw3 := refWay_pure hs hw2 (k := 6000 + 20) (by omega)
      have both : ∃ m : Sp × Bool, fan_Span.f l i s = some m ∧ sluicegateref12_Span.f (6000 + 20) l i s = some m := by
        by_cases a : i < 0
        · exact ⟨(([], [], false), false), by rw [fan_Span.f, if_pos (decide_eq_true a)], by rw [sluicegateref12_Span.f, if_pos (decide_eq_true a)]⟩
        · by_cases b : (l.length : Int) < i
          · exact ⟨(([], [], false), false), by rw [fan_Span.f, if_neg (by simpa using a), if_pos (decide_eq_true b)], by rw [sluicegateref12_Span.f, if_neg (by simpa using a), if_pos (decide_eq_true b)]⟩
          · obtain ⟨n, rfl⟩ : ∃ n : Nat, i = (n : Int) := ⟨i.toNat, by omega⟩
            exact ⟨_, span_pure hl s n (by omega), refSpan_pure hs n (by omega) (by omega)⟩
      obtain ⟨m, m1, m2⟩ := both
      rw [if_neg (by simp), m1, m2, hw1, hw3]
      simp
end Go.SK.T
