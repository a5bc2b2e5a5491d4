/- The plain law behind FanOne: what its code computes is true for all pivots, every key and every span. -/
import Derived.Test.YtelieidgolfboaaXFanOneF0
set_option linter.unusedVariables false
set_option linter.unusedSimpArgs false
namespace Go.SK.T
open Go Go.SK
theorem awake_pure (k : Nat) : sluicegatelaw12_awake.f (k + 20) = some true := by rfl
theorem compare_l0 : ∀ (k : Nat) (a b : List UInt8) (i : Nat), a.length ≤ 4611686018427387904 → b.length ≤ 4611686018427387904 → i ≤ a.length → i ≤ b.length → a.length - i < k →
    sluicegateref01_Compare.l0 k a b (i : Int) = some (scmp (a.drop i) (b.drop i))
  | 0, a, b, i, _, _, _, _, h => by omega
  | k + 1, a, b, i, ha, hb, hia, hib, hk => by
    unfold sluicegateref01_Compare.l0
    by_cases h1 : i < a.length
    · by_cases h2 : i < b.length
      · have g1 : (0 : Int) ≤ (i : Int) ∧ (i : Int) < (a.length : Int) := by omega
        have g2 : (0 : Int) ≤ (i : Int) ∧ (i : Int) < (b.length : Int) := by omega
        have w : w64 ((i : Int) + 1) = ((i + 1 : Nat) : Int) := by rw [w64_id (by omega) (by omega)]; omega
        have ih := compare_l0 k a b (i + 1) ha hb (by omega) (by omega) (by omega)
        simp only [g1.2, g2.2, g1, g2, decide_true, if_true, and_self, w, ih, gtb_lt, Int.toNat_natCast, drop_byte h1, drop_byte h2, scmp_cons, decide_eq_true_eq]
        split
        · rfl
        · split <;> rfl
      · have g1 : (i : Int) < (a.length : Int) := by omega
        have g2 : ¬ (i : Int) < (b.length : Int) := by omega
        have e : b.drop i = [] := List.drop_eq_nil_of_le (by omega)
        have z1 : ¬ (a.length : Int) < (b.length : Int) := by omega
        have z2 : (b.length : Int) < (a.length : Int) := by omega
        have z3 : ¬ (a.drop i).length = 0 := by rw [List.length_drop]; omega
        simp [g1, g2, e, z1, z2, scmp_nil_right, z3]
        omega
    · have g1 : ¬ (i : Int) < (a.length : Int) := by omega
      have e : a.drop i = [] := List.drop_eq_nil_of_le (by omega)
      have z : (b.drop i).length = b.length - i := List.length_drop ..
      simp only [g1, e, scmp_nil_left, z, decide_false, Bool.false_eq_true, if_false, decide_eq_true_eq]
      by_cases h2 : b.length = i
      · have z1 : ¬ (a.length : Int) < (b.length : Int) := by omega
        have z2 : ¬ (b.length : Int) < (a.length : Int) := by omega
        have h3 : a.length = i := by omega
        simp [h2, h3]
      · have z1 : (a.length : Int) < (b.length : Int) := by omega
        have z2 : ¬ b.length - i = 0 := by omega
        simp [z1, z2]
theorem compare_pure {k : Nat} {a b : List UInt8} (ha : a.length ≤ 2000) (hb : b.length ≤ 2000) (hk : 2000 < k) : sluicegateref01_Compare.f k a b = some (scmp a b) := by
  have := compare_l0 k a b 0 (by omega) (by omega) (by omega) (by omega) (by omega)
  simpa [sluicegateref01_Compare.f] using this
abbrev Sp := List UInt8 × List UInt8 × Bool
def inS (s : Sp) (x : List UInt8) : Bool := !Op.bytesLess x s.1 && (s.2.2 || Op.bytesLess x s.2.1)
def emS (s : Sp) : Bool := !s.2.2 && !Op.bytesLess s.1 s.2.1
theorem lexIn_pure (s : Sp) (x : List UInt8) : lex_In.f s x = some (inS s x) := by
  unfold lex_In.f inS
  cases Op.bytesLess x s.1 <;> cases s.2.2 <;> rfl
theorem lexEmpty_pure (s : Sp) : lex_Empty.f s = some (emS s) := by
  unfold lex_Empty.f emS
  rw [bl_le_iff]
  cases s.2.2 <;> rfl
theorem refIn_pure {k : Nat} {s : Sp} {x : List UInt8} (h1 : s.1.length ≤ 2000) (h2 : s.2.1.length ≤ 2000) (hx : x.length ≤ 2000) (hk : 2000 < k) : sluicegateref01_In.f k s x = some (inS s x) := by
  unfold sluicegateref01_In.f inS
  rw [compare_pure h1 hx hk, compare_pure hx h2 hk]
  simp only [Option.bind_some, scmp_le, scmp_lt, decide_eq_true_eq]
  cases h : Op.bytesLess x s.1 <;> cases s.2.2 <;> simp
def cutS (a b : Sp) : Sp := (if Op.bytesLess a.1 b.1 = true then b.1 else a.1, if a.2.2 = true then (if b.2.2 = true then [] else b.2.1) else if b.2.2 = true then a.2.1 else if Op.bytesLess b.2.1 a.2.1 = true then b.2.1 else a.2.1, a.2.2 && b.2.2)
def meetS (a b : Sp) : Sp × Bool := if emS (cutS a b) = true then (([], [], false), false) else (cutS a b, true)
theorem meet_pure (a b : Sp) : lex_Meet.f a b = some (meetS a b) := by
  obtain ⟨l, h, p⟩ := a
  obtain ⟨m, i, q⟩ := b
  have e : (if (!Op.bytesLess l m) = true then l else m) = if Op.bytesLess l m = true then m else l := by cases Op.bytesLess l m <;> rfl
  have f : (if (Op.bytesLess h i || decide (h = i)) = true then h else i) = if Op.bytesLess i h = true then i else h := by rw [bl_le_iff]; cases Op.bytesLess i h <;> rfl
  cases p <;> cases q <;> simp only [lex_Meet.f, meetS, cutS, lexEmpty_pure, Option.bind_some, e, f, Bool.not_true, Bool.not_false, Bool.false_eq_true, if_false, if_true, Bool.and_true, Bool.true_and, Bool.and_false, Bool.false_and] <;> exact (apply_ite some _ _ _).symm
theorem in_cut (a b : Sp) (x : List UInt8) : inS (cutS a b) x = (inS a x && inS b x) := by
  obtain ⟨l, h, p⟩ := a
  obtain ⟨m, i, q⟩ := b
  have e : Op.bytesLess x (if Op.bytesLess l m = true then m else l) = (Op.bytesLess x l || Op.bytesLess x m) := by
    cases c : Op.bytesLess l m with
    | true =>
      simp only [if_true]
      cases d : Op.bytesLess x l with
      | false => simp
      | true => simp [bl_trans d c]
    | false =>
      simp only [Bool.false_eq_true, if_false]
      cases d : Op.bytesLess x m with
      | false => simp
      | true => simp [bl_lt_le d c]
  have f : Op.bytesLess x (if Op.bytesLess i h = true then i else h) = (Op.bytesLess x h && Op.bytesLess x i) := by
    cases c : Op.bytesLess i h with
    | true =>
      simp only [if_true]
      cases d : Op.bytesLess x i with
      | false => simp
      | true => simp [bl_trans d c]
    | false =>
      simp only [Bool.false_eq_true, if_false]
      cases d : Op.bytesLess x h with
      | false => simp
      | true => simp [bl_lt_le d c]
  cases p <;> cases q <;> simp only [inS, cutS, e, f, Bool.and_true, Bool.true_and, Bool.and_false, Bool.false_and, Bool.false_eq_true, if_false, if_true, Bool.true_or, Bool.false_or, Bool.not_or] <;> (cases Op.bytesLess x l <;> cases Op.bytesLess x m <;> cases Op.bytesLess x h <;> cases Op.bytesLess x i <;> rfl)
theorem in_empty {s : Sp} {x : List UInt8} (h : emS s = true) : inS s x = false := by
  simp only [emS, Bool.and_eq_true, Bool.not_eq_true'] at h
  cases k : Op.bytesLess x s.1 with
  | true => simp [inS, k]
  | false =>
    simp only [inS, k, h.1, Bool.not_false, Bool.true_and, Bool.false_or]
    exact bl_le_trans h.2 k
theorem scmp_ge (a b : List UInt8) : decide (0 ≤ scmp a b) = !Op.bytesLess a b := by
  rcases scmp_vals a b with ⟨e, h⟩ | ⟨e, rfl⟩ | ⟨e, h⟩
  · simp [e, h]
  · simp [e, bl_irr]
  · simp [e, bl_asymm h]
theorem lexCompare_pure (a b : List UInt8) : lex_Compare.f a b = some (scmp a b) := rfl
theorem refEmpty_pure {k : Nat} {s : Sp} (h1 : s.1.length ≤ 2000) (h2 : s.2.1.length ≤ 2000) (hk : 2000 < k) : sluicegateref01_Empty.f k s = some (emS s) := by
  unfold sluicegateref01_Empty.f
  rw [refIn_pure h1 h2 h1 hk]
  simp only [Option.bind_some, inS, emS, bl_irr]
  simp
/-- what is not great -/
structure Small (l : List (List UInt8)) (x : List UInt8) (s : Sp) : Prop where
  len : l.length ≤ 80
  all : ∀ p ∈ l, p.length ≤ 300
  x : x.length ≤ 300
  lo : s.1.length ≤ 300
  hi : s.2.1.length ≤ 300
theorem Small.get {l : List (List UInt8)} {x : List UInt8} {s : Sp} (h : Small l x s) (i : Nat) : (l.getD i []).length ≤ 300 := by
  by_cases hi : i < l.length
  · exact h.all _ (getD_mem hi)
  · rw [List.getD_eq_getElem?_getD, List.getElem?_eq_none (by omega)]
    exact Nat.zero_le _
theorem great_l0 (l : List (List UInt8)) (x : List UInt8) (s : Sp) : ∀ (k i : Nat), i ≤ 100 → i ≤ l.length → 101 - i < k → (∀ p ∈ l.take i, p.length ≤ 300) → ∃ g, sluicegatelaw12_great.l0 k l x s (i : Int) = some g ∧ (g = false → Small l x s)
  | 0, i, _, _, h, _ => by omega
  | k + 1, i, hi, hil, hk, hp => by
    rw [sluicegatelaw12_great.l0]
    have tail : l.length ≤ i ∨ i = 100 → ∃ g, (if (decide (80 < (l.length : Int))) = true then (some true) else (if (decide (300 < (x.length : Int))) = true then (some true) else (if (decide (300 < (s.1.length : Int))) = true then (some true) else (some (decide (300 < (s.2.1.length : Int))))))) = some g ∧ (g = false → Small l x s) := fun ht => by
      by_cases h1 : 80 < l.length
      · exact ⟨true, by rw [if_pos (decide_eq_true (by omega))], fun h => by cases h⟩
      · rw [if_neg (by simp only [decide_eq_true_eq]; omega)]
        by_cases h2 : 300 < x.length
        · exact ⟨true, by rw [if_pos (decide_eq_true (by omega))], fun h => by cases h⟩
        · rw [if_neg (by simp only [decide_eq_true_eq]; omega)]
          by_cases h3 : 300 < s.1.length
          · exact ⟨true, by rw [if_pos (decide_eq_true (by omega))], fun h => by cases h⟩
          · rw [if_neg (by simp only [decide_eq_true_eq]; omega)]
            refine ⟨_, rfl, fun h => ⟨by omega, fun p hpm => hp p ?_, by omega, by omega, by simp only [decide_eq_false_iff_not] at h; omega⟩⟩
            rwa [List.take_of_length_le (by omega)]
    by_cases h : i < l.length
    · rw [if_pos (decide_eq_true (by omega))]
      by_cases h2 : i < 100
      · have g1 : (0 : Int) ≤ (i : Int) ∧ (i : Int) < (l.length : Int) := by omega
        rw [if_pos (decide_eq_true (by omega)), if_pos g1, gt_nat]
        by_cases h3 : 300 < (l.getD i default).length
        · rw [if_pos (decide_eq_true (by omega))]
          exact ⟨true, rfl, fun h => by cases h⟩
        · rw [if_neg (by simp only [decide_eq_true_eq]; omega), w64_succ (by omega)]
          refine great_l0 l x s k (i + 1) (by omega) (by omega) (by omega) fun p hpm => ?_
          rw [List.take_add_one, List.mem_append] at hpm
          rcases hpm with hpm | hpm
          · exact hp p hpm
          · rw [List.getElem?_eq_getElem h] at hpm
            simp only [Option.toList_some, List.mem_singleton] at hpm
            subst hpm
            rw [List.getD_eq_getElem?_getD, List.getElem?_eq_getElem h] at h3
            simp only [Option.getD_some] at h3
            omega
      · rw [if_neg (by simp only [decide_eq_true_eq]; omega)]
        exact tail (.inr (by omega))
    · rw [if_neg (by simp only [decide_eq_true_eq]; omega)]
      exact tail (.inl (by omega))
theorem great_pure (l : List (List UInt8)) (x : List UInt8) (s : Sp) {k : Nat} (hk : 200 < k) : ∃ g, sluicegatelaw12_great.f k l x s = some g ∧ (g = false → Small l x s) :=
  great_l0 l x s k 0 (by omega) (by omega) (by omega) (by simp)
theorem rises_drop {l : List (List UInt8)} {i : Nat} (h : i + 1 < l.length) : rises (l.drop i) = (Op.bytesLess (l.getD i []) (l.getD (i + 1) []) && rises (l.drop (i + 1))) := by
  rw [drop_cons (show i < l.length by omega), drop_cons h]
  rfl
theorem rises_end {l : List (List UInt8)} {i : Nat} (h : l.length ≤ i + 1) : rises (l.drop i) = true := by
  by_cases h' : i < l.length
  · rw [drop_cons h', List.drop_eq_nil_of_le (by omega)]
    rfl
  · rw [List.drop_eq_nil_of_le (by omega)]
    rfl
theorem rise_l0 {x : List UInt8} {s : Sp} {l : List (List UInt8)} (hs : Small l x s) : ∀ (k i : Nat), i ≤ l.length → 2001 + (l.length - i) < k → sluicegateref12_Rise.l0 k l ((i + 1 : Nat) : Int) = some (rises (l.drop i))
  | 0, i, _, h => by omega
  | k + 1, i, hi, hk => by
    have h80 := hs.len
    rw [sluicegateref12_Rise.l0]
    by_cases h : i + 1 < l.length
    · have g1 : (0 : Int) ≤ (i : Int) ∧ (i : Int) < (l.length : Int) := by omega
      have g2 : (0 : Int) ≤ ((i + 1 : Nat) : Int) ∧ ((i + 1 : Nat) : Int) < (l.length : Int) := by omega
      have k1 : (l.getD i default).length ≤ 300 := hs.get i
      have k2 : (l.getD (i + 1) default).length ≤ 300 := hs.get (i + 1)
      rw [if_pos (decide_eq_true g2.2), w64_pred (by omega) (by omega), Nat.add_sub_cancel, if_pos g1, if_pos g2, gt_nat, gt_nat, compare_pure (by omega) (by omega) (by omega), Option.bind_some, scmp_ge, w64_succ (by omega), rise_l0 hs k (i + 1) (by omega) (by omega), rises_drop h]
      show (if (!Op.bytesLess (l.getD i []) (l.getD (i + 1) [])) = true then some false else some (rises (l.drop (i + 1)))) = _
      cases Op.bytesLess (l.getD i []) (l.getD (i + 1) []) <;> rfl
    · rw [if_neg (by simp only [decide_eq_true_eq]; omega), rises_end (by omega)]
theorem rise_pure {x : List UInt8} {s : Sp} {l : List (List UInt8)} (hs : Small l x s) {k : Nat} (hk : 3000 < k) : sluicegateref12_Rise.f k l = some (rises l) := by
  have := rise_l0 hs k 0 (by omega) (by have := hs.len; omega)
  simpa [sluicegateref12_Rise.f] using this
def piv (s : Sp) (p : List UInt8) : Bool := inS s p && !decide (p = s.1)
theorem refRight_l0 {x : List UInt8} {s : Sp} {l : List (List UInt8)} (hs : Small l x s) : ∀ (k i : Nat), i ≤ l.length → 3001 + (l.length - i) < k → sluicegateref12_Right.l0 k l s (i : Int) = some ((l.drop i).all (piv s) && rises l)
  | 0, i, _, h => by omega
  | k + 1, i, hi, hk => by
    have h80 := hs.len
    rw [sluicegateref12_Right.l0]
    by_cases h : i < l.length
    · have g1 : (0 : Int) ≤ (i : Int) ∧ (i : Int) < (l.length : Int) := by omega
      have k1 : (l.getD i default).length ≤ 300 := hs.get i
      have hlo := hs.lo
      have hhi := hs.hi
      have eta : (s.1, s.2.1, s.2.2) = s := rfl
      rw [if_pos (decide_eq_true g1.2), if_pos g1, gt_nat, eta, refIn_pure (by omega) (by omega) (by omega) (by omega), Option.bind_some, w64_succ (by omega), refRight_l0 hs k (i + 1) (by omega) (by omega), drop_cons h, List.all_cons]
      simp only [piv]
      cases inS s (l.getD i default) <;> by_cases e : l.getD i default = s.1 <;> simp only [e, decide_true, decide_false] <;> rfl
    · rw [if_neg (by simp only [decide_eq_true_eq]; omega), rise_pure hs (by omega), List.drop_eq_nil_of_le (by omega)]
      rfl
theorem refRight_pure {x : List UInt8} {s : Sp} {l : List (List UInt8)} (hs : Small l x s) {k : Nat} (hk : 4000 < k) : sluicegateref12_Right.f k l s = some (l.all (piv s) && rises l) := by
  have := refRight_l0 hs k 0 (by omega) (by have := hs.len; omega)
  simpa [sluicegateref12_Right.f] using this
/-! the way -/
def AtWay (l : List (List UInt8)) (x : List UInt8) (w : Nat) : Prop := w ≤ l.length ∧ (∀ j, j < w → Op.bytesLess x (l.getD j []) = false) ∧ ∀ j, w ≤ j → j < l.length → Op.bytesLess x (l.getD j []) = true
theorem rises_get {l : List (List UInt8)} (h : rises l = true) : ∀ {i j : Nat}, i < j → j < l.length → Op.bytesLess (l.getD i []) (l.getD j []) = true := by
  have step : ∀ i, i + 1 < l.length → rises (l.drop i) = true → Op.bytesLess (l.getD i []) (l.getD (i + 1) []) = true ∧ rises (l.drop (i + 1)) = true := fun i hi hr => by
    rw [rises_drop hi, Bool.and_eq_true] at hr
    exact hr
  have all : ∀ i, i < l.length → rises (l.drop i) = true := fun i => by
    induction i with
    | zero => intro _; simpa using h
    | succ i ih => intro hi; exact (step i hi (ih (by omega))).2
  intro i j hij hj
  induction j with
  | zero => omega
  | succ j ih =>
    have one := (step j hj (all j (by omega))).1
    by_cases e : i = j
    · subst e; exact one
    · exact bl_trans (ih (by omega) (by omega)) one
theorem search_l0 {l : List (List UInt8)} {x : List UInt8} (hl : l.length ≤ 80) : ∀ (k a b : Nat), a ≤ b → b ≤ l.length → b - a < k → (∀ i j, i < j → j < l.length → Op.bytesLess (l.getD i []) (l.getD j []) = true) → (∀ j, j < a → Op.bytesLess (l.getD j []) x = true) → (∀ j, b ≤ j → j < l.length → Op.bytesLess (l.getD j []) x = false) →
    ∃ c : Nat, slices_BinarySearchFunc_string_string_string_lex_Compare.l0 k l x (a : Int) (b : Int) = some ((c : Int), decide (c < l.length ∧ l.getD c [] = x)) ∧ c ≤ l.length ∧ (∀ j, j < c → Op.bytesLess (l.getD j []) x = true) ∧ (∀ j, c ≤ j → j < l.length → Op.bytesLess (l.getD j []) x = false)
  | 0, a, b, _, _, h, _, _, _ => by omega
  | k + 1, a, b, hab, hb, hk, hr, h1, h2 => by
    rw [slices_BinarySearchFunc_string_string_string_lex_Compare.l0]
    by_cases h : a < b
    · have w : w64 ((Int.fdiv (IntKind.u64.wrap ((w64 ((a : Int) + (b : Int))))) (2 ^ 1))) = (((a + b) / 2 : Nat) : Int) := by
        rw [w64_id (x := (a : Int) + (b : Int)) (by omega) (by omega)]
        have u : IntKind.u64.wrap ((a : Int) + (b : Int)) = (a : Int) + (b : Int) := by
          simp only [IntKind.wrap, IntKind.signed, IntKind.bits]
          simp
          omega
        rw [u, Int.fdiv_eq_ediv_of_nonneg _ (by decide)]
        rw [w64_id (by omega) (by omega)]
        omega
      have g1 : (0 : Int) ≤ (((a + b) / 2 : Nat) : Int) ∧ (((a + b) / 2 : Nat) : Int) < (l.length : Int) := by omega
      rw [if_pos (decide_eq_true (by omega)), w, if_pos g1, gt_nat, lexCompare_pure, Option.bind_some, w64_succ (by omega)]
      show ∃ c : Nat, (if decide (scmp (l.getD ((a + b) / 2) []) x < 0) = true then _ else _) = _ ∧ _
      cases e : Op.bytesLess (l.getD ((a + b) / 2) []) x with
      | true =>
        rw [if_pos (decide_eq_true (scmp_lt.2 e))]
        refine search_l0 hl k _ b (by omega) hb (by omega) hr (fun j hj => ?_) h2
        by_cases q : j = (a + b) / 2
        · subst q; exact e
        · exact bl_trans (hr j ((a + b) / 2) (by omega) (by omega)) e
      | false =>
        rw [if_neg (by simp only [decide_eq_true_eq, scmp_lt, e]; simp)]
        refine search_l0 hl k a _ (by omega) (by omega) (by omega) hr h1 fun j hj hjl => ?_
        by_cases q : j = (a + b) / 2
        · subst q; exact e
        · exact bl_le_trans e (bl_asymm (hr ((a + b) / 2) j (by omega) hjl))
    · obtain rfl : a = b := by omega
      rw [if_neg (by simp only [decide_eq_true_eq]; omega)]
      refine ⟨a, ?_, hb, h1, h2⟩
      by_cases q : a < l.length
      · have g1 : (0 : Int) ≤ (a : Int) ∧ (a : Int) < (l.length : Int) := by omega
        rw [if_pos (decide_eq_true (by omega)), if_pos g1, gt_nat, lexCompare_pure, Option.bind_some]
        show some ((a : Int), decide (scmp (l.getD a []) x = 0)) = _
        simp only [scmp_eq, q, true_and]
      · rw [if_neg (by simp only [decide_eq_true_eq]; omega)]
        simp [q]
theorem way_pure {l : List (List UInt8)} {x : List UInt8} (hl : l.length ≤ 80) (hr : rises l = true) {k : Nat} (hk : 100 < k) : ∃ w : Nat, fan_Way.f k l x = some (w : Int) ∧ AtWay l x w := by
  obtain ⟨c, h1, h2, h3, h4⟩ := search_l0 (x := x) hl k 0 l.length (by omega) (by omega) (by omega) (fun i j => rises_get hr) (fun j hj => by omega) (fun j hj hjl => by omega)
  have h1' : slices_BinarySearchFunc_string_string_string_lex_Compare.f k l x = _ := h1
  unfold fan_Way.f
  rw [h1', Option.bind_some]
  by_cases e : c < l.length ∧ l.getD c [] = x
  · rw [if_pos (by simp only [e, and_self, decide_true]), w64_succ (by omega)]
    refine ⟨c + 1, rfl, by omega, fun j hj => ?_, fun j hj hjl => ?_⟩
    · by_cases q : j = c
      · subst q; rw [e.2, bl_irr]
      · exact bl_asymm (h3 j (by omega))
    · have := rises_get hr (i := c) (j := j) (by omega) hjl
      rwa [e.2] at this
  · rw [if_neg (by simp only [e, decide_false]; simp)]
    refine ⟨c, rfl, h2, fun j hj => bl_asymm (h3 j hj), fun j hj hjl => ?_⟩
    have h5 := h4 j hj hjl
    rcases bl_ge h5 with q | q
    · exfalso
      by_cases z : j = c
      · subst z; exact e ⟨hjl, q⟩
      · have := rises_get hr (i := c) (j := j) (by omega) hjl
        rw [q, h4 c (by omega) (by omega)] at this
        cases this
    · exact q
/-! what a kid has -/
def ownS (l : List (List UInt8)) (i : Nat) : Sp := (if 0 < i then l.getD (i - 1) [] else [], if i = l.length then [] else l.getD i [], decide (i = l.length))
theorem span_pure {l : List (List UInt8)} (hl : l.length ≤ 80) (s : Sp) (i : Nat) (hi : i ≤ l.length) : fan_Span.f l (i : Int) s = some (meetS (ownS l i) s) := by
  unfold fan_Span.f
  have d : ∀ (m : Sp × Bool), some (((m.1.1, m.1.2.1, m.1.2.2), m.2) : Sp × Bool) = some m := fun m => rfl
  have eta : (s.1, s.2.1, s.2.2) = s := rfl
  rw [if_neg (by simp only [decide_eq_true_eq]; omega), if_neg (by simp only [decide_eq_true_eq]; omega)]
  have de : decide ((i : Int) = (l.length : Int)) = decide (i = l.length) := by congr 1; exact propext (by omega)
  simp only [meet_pure, Option.bind_some, d, eta, de]
  by_cases h0 : 0 < i
  · have g0 : (0 : Int) ≤ ((i - 1 : Nat) : Int) ∧ ((i - 1 : Nat) : Int) < (l.length : Int) := by omega
    rw [if_pos (decide_eq_true (by omega)), w64_pred h0 (by omega), if_pos g0, gt_nat]
    by_cases h1 : i = l.length
    · simp only [h1, decide_true, Bool.not_true, Bool.false_eq_true, if_false, ownS, if_true, show 0 < l.length by omega]
      rfl
    · have g1 : (0 : Int) ≤ (i : Int) ∧ (i : Int) < (l.length : Int) := by omega
      simp only [h1, decide_false, Bool.not_false, if_true, g1, and_self, gt_nat, ownS, h0, if_false]
      rfl
  · obtain rfl : i = 0 := by omega
    rw [if_neg (by simp)]
    by_cases h1 : 0 = l.length
    · simp only [← h1, decide_true, Bool.not_true, Bool.false_eq_true, if_false, ownS, if_true, Nat.lt_irrefl]
    · have g1 : (0 : Int) ≤ ((0 : Nat) : Int) ∧ ((0 : Nat) : Int) < (l.length : Int) := by omega
      simp only [h1, decide_false, Bool.not_false, if_true, g1, and_self, gt_nat, ownS, Nat.lt_irrefl, if_false]
      rfl
theorem in_own {l : List (List UInt8)} {x : List UInt8} {w i : Nat} (hw : AtWay l x w) (hi : i ≤ l.length) (hr : rises l = true) : inS (ownS l i) x = decide (i = w) := by
  obtain ⟨h1, h2, h3⟩ := hw
  have e1 : Op.bytesLess x (if 0 < i then l.getD (i - 1) [] else []) = decide (w < i) := by
    by_cases h0 : 0 < i
    · rw [if_pos h0]
      by_cases q : w < i
      · rw [h3 (i - 1) (by omega) (by omega), decide_eq_true q]
      · rw [h2 (i - 1) (by omega), decide_eq_false q]
    · rw [if_neg h0, bl_nil_right, decide_eq_false (by omega)]
  have e2 : (decide (i = l.length) || Op.bytesLess x (if i = l.length then [] else l.getD i [])) = decide (w ≤ i) := by
    by_cases h0 : i = l.length
    · rw [decide_eq_true h0, Bool.true_or, decide_eq_true (by omega)]
    · rw [if_neg h0, decide_eq_false h0, Bool.false_or]
      by_cases q : w ≤ i
      · rw [h3 i q (by omega), decide_eq_true q]
      · rw [h2 i (by omega), decide_eq_false q]
  simp only [inS, ownS, e1, e2]
  by_cases a : w < i
  · simp [a]; omega
  · by_cases b : w ≤ i
    · simp [show i = w by omega]
    · simp [b]; omega
theorem own_full {l : List (List UInt8)} {s : Sp} {i : Nat} (hi : i ≤ l.length) (hr : rises l = true) (hp : l.all (piv s) = true) (hs : emS s = false) : emS (cutS (ownS l i) s) = false := by
  have pv : ∀ j, j < l.length → inS s (l.getD j []) = true ∧ l.getD j [] ≠ s.1 := fun j hj => by
    have := List.all_eq_true.1 hp _ (getD_mem (d := []) hj)
    simp only [piv, Bool.and_eq_true, Bool.not_eq_true', decide_eq_false_iff_not] at this
    exact this
  have lo : ∀ j, j < l.length → Op.bytesLess s.1 (l.getD j []) = true := fun j hj => by
    have := (pv j hj).1
    simp only [inS, Bool.and_eq_true, Bool.not_eq_true'] at this
    rcases bl_ge this.1 with e | e
    · exact absurd e (pv j hj).2
    · exact e
  have hi' : ∀ j, j < l.length → s.2.2 = false → Op.bytesLess (l.getD j []) s.2.1 = true := fun j hj ht => by
    have := (pv j hj).1
    simp only [inS, ht, Bool.and_eq_true, Bool.false_or] at this
    exact this.2
  have elo : (cutS (ownS l i) s).1 = if 0 < i then l.getD (i - 1) [] else s.1 := by
    show (if Op.bytesLess (ownS l i).1 s.1 = true then s.1 else (ownS l i).1) = _
    by_cases h0 : 0 < i
    · have e : (ownS l i).1 = l.getD (i - 1) [] := if_pos h0
      rw [if_pos h0, e, bl_asymm (lo (i - 1) (by omega))]
      rfl
    · have e : (ownS l i).1 = [] := if_neg h0
      rw [if_neg h0, e]
      cases hsl : s.1 with
      | nil => rfl
      | cons a b => rfl
  have ehi : i < l.length → (cutS (ownS l i) s).2 = (l.getD i [], false) := fun h => by
    have hn : ¬ i = l.length := by omega
    simp only [cutS, ownS, hn, decide_false, Bool.false_eq_true, if_false, Bool.false_and]
    cases ht : s.2.2 with
    | true => rfl
    | false =>
      rw [bl_asymm (hi' i h ht)]
      rfl
  have ehi' : i = l.length → (cutS (ownS l i) s).2.2 = s.2.2 ∧ (s.2.2 = false → (cutS (ownS l i) s).2.1 = s.2.1) := fun h => by
    simp only [cutS, ownS, h, decide_true, if_true, Bool.true_and]
    refine ⟨trivial, fun ht => ?_⟩
    rw [ht]
    rfl
  by_cases h : i < l.length
  · have e := ehi h
    simp only [emS, e, elo, Bool.not_false, Bool.true_and]
    by_cases h0 : 0 < i
    · rw [if_pos h0, rises_get hr (i := i - 1) (j := i) (by omega) h]
      rfl
    · rw [if_neg h0, lo i h]
      rfl
  · obtain ⟨e1, e2⟩ := ehi' (by omega)
    simp only [emS, e1, elo]
    cases ht : s.2.2 with
    | true => rfl
    | false =>
      rw [e2 ht]
      by_cases h0 : 0 < i
      · rw [if_pos h0, hi' (i - 1) (by omega) ht]
        rfl
      · rw [if_neg h0]
        simp only [emS, ht] at hs
        simpa using hs
theorem one_l0 {l : List (List UInt8)} {x : List UInt8} {s : Sp} {w : Nat} (hsm : Small l x s) (hr : rises l = true) (hw : AtWay l x w) : ∀ (k i : Nat), i ≤ l.length + 1 → 5100 + (l.length + 1 - i) < k → sluicegatelaw12_FanOne.l0 k l x s (w : Int) (i : Int) = some true
  | 0, i, _, h => by omega
  | k + 1, i, hi, hk => by
    have h80 := hsm.len
    have hx := hsm.x
    have hlo := hsm.lo
    have hhi := hsm.hi
    rw [sluicegatelaw12_FanOne.l0]
    by_cases h : i ≤ l.length
    · have eta : (s.1, s.2.1, s.2.2) = s := rfl
      have ih := one_l0 hsm hr hw k (i + 1) (by omega) (by omega)
      have dw : decide ((i : Int) = (w : Int)) = decide (i = w) := by congr 1; exact propext (by omega)
      have oi := in_own hw h hr
      have fl := own_full (s := s) h hr
      have o1 : (ownS l i).1.length ≤ 300 := by
        have := hsm.get (i - 1)
        show (if 0 < i then l.getD (i - 1) [] else []).length ≤ 300
        split
        · exact this
        · exact Nat.zero_le _
      have o2 : (ownS l i).2.1.length ≤ 300 := by
        have := hsm.get i
        show (if i = l.length then [] else l.getD i []).length ≤ 300
        split
        · exact Nat.zero_le _
        · exact this
      have l1 : (cutS (ownS l i) s).1.length ≤ 2000 := by
        show (if Op.bytesLess (ownS l i).1 s.1 = true then s.1 else (ownS l i).1).length ≤ 2000
        split <;> omega
      have l2 : (cutS (ownS l i) s).2.1.length ≤ 2000 := by
        show (if (ownS l i).2.2 = true then (if s.2.2 = true then [] else s.2.1) else if s.2.2 = true then (ownS l i).2.1 else if Op.bytesLess s.2.1 (ownS l i).2.1 = true then s.2.1 else (ownS l i).2.1).length ≤ 2000
        split
        · split
          · exact Nat.zero_le _
          · omega
        · split
          · omega
          · split <;> omega
      rw [if_pos (decide_eq_true (by omega)), eta, span_pure (by omega) s i h, Option.bind_some, w64_succ (by omega)]
      have q1 : sluicegateref01_In.f k s x = some (inS s x) := refIn_pure (by omega) (by omega) (by omega) (by omega)
      have q2 : sluicegateref01_In.f k (cutS (ownS l i) s) x = some (inS (cutS (ownS l i) s) x) := refIn_pure l1 l2 (by omega) (by omega)
      have q3 : sluicegateref12_Right.f k l s = some (l.all (piv s) && rises l) := refRight_pure hsm (by omega)
      have q4 : sluicegateref01_Empty.f k s = some (emS s) := refEmpty_pure (by omega) (by omega) (by omega)
      have etac : ((cutS (ownS l i) s).1, (cutS (ownS l i) s).2.1, (cutS (ownS l i) s).2.2) = cutS (ownS l i) s := rfl
      have hc := in_cut (ownS l i) s x
      rw [oi] at hc
      cases he : emS (cutS (ownS l i) s) with
      | false =>
        simp only [meetS, he, Bool.false_eq_true, if_false, if_true, etac, q1, q2, Option.bind_some, dw, hc, ih, Bool.not_true]
        by_cases hiw : i = w
        · simp [hiw]
        · simp [hiw]
      | true =>
        have hne : l.all (piv s) = true → emS s = true := fun e => by
          cases q : emS s with
          | true => rfl
          | false => rw [fl e q] at he; cases he
        have h0 := in_empty (x := x) he
        rw [hc] at h0
        simp only [meetS, he, if_true, Bool.false_eq_true, if_false, q1, q3, q4, hr, Option.bind_some, dw, ih, Bool.not_false, Bool.and_true]
        by_cases hiw : i = w
        · rw [decide_eq_true hiw, Bool.true_and] at h0
          rw [decide_eq_true hiw, if_pos rfl, h0]
          cases hp : l.all (piv s) with
          | false => simp
          | true => simp [hne hp]
        · rw [decide_eq_false hiw]
          cases hp : l.all (piv s) with
          | false => simp
          | true => simp [hne hp]
    · have hw1 := hw.1
      have e := awake_pure (k - 20)
      rw [show k - 20 + 20 = k by omega] at e
      rw [if_neg (by simp only [decide_eq_true_eq]; omega), if_pos (decide_eq_true (by omega)), if_pos (decide_eq_true (by omega)), e]
      rfl
theorem FanOne_pure {p q r : Prop} (l : List (List UInt8)) (x : List UInt8) (s : Sp) (_ : p) (_ : q) (_ : r) : ∃ k, sluicegatelaw12_FanOne.f k l x s = some true := by
  refine ⟨6000 + 20, ?_⟩
  unfold sluicegatelaw12_FanOne.f
  have eta : (s.1, s.2.1, s.2.2) = s := rfl
  obtain ⟨g, h1, h2⟩ := great_pure l x s (k := 6000 + 20) (by omega)
  rw [eta, h1, Option.bind_some, awake_pure]
  cases g with
  | true => rfl
  | false =>
    have hs := h2 rfl
    rw [if_neg (by simp), rise_pure hs (by omega), Option.bind_some]
    cases hr : rises l with
    | false => rfl
    | true =>
      obtain ⟨w, hw1, hw2⟩ := way_pure (x := x) hs.len hr (k := 6000 + 20) (by omega)
      rw [if_neg (by simp), hw1, Option.bind_some]
      have := one_l0 hs hr hw2 (6000 + 20) 0 (by omega) (by have := hs.len; omega)
      simpa using this
end Go.SK.T
