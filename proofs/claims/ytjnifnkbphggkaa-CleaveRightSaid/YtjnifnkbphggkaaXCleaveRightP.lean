/- The plain law behind CleaveRight: what its code computes is true for all settings, spans and nodes. -/
import Derived.Test.YtjnifnkbphggkaaXCleaveRightF1
set_option linter.unusedVariables false
set_option linter.unusedSimpArgs false
namespace Go.SK.T
open Go Go.SK
theorem compare_l0 : ∀ (k : Nat) (a b : List UInt8) (i : Nat), a.length ≤ 4611686018427387904 → b.length ≤ 4611686018427387904 → i ≤ a.length → i ≤ b.length → a.length - i < k →
    sluicegateref01_Compare.l0 k a b (i : Int) = some (scmp (a.drop i) (b.drop i))
  | 0, a, b, i, _, _, _, _, h => by omega
  | k + 1, a, b, i, ha, hb, hia, hib, hk => by
    unfold sluicegateref01_Compare.l0
    by_cases h1 : i < a.length
    · by_cases h2 : i < b.length
      · have g1 : (0 : Int) ≤ (i : Int) ∧ (i : Int) < (a.length : Int) := by omega
        have g2 : (0 : Int) ≤ (i : Int) ∧ (i : Int) < (b.length : Int) := by omega
        have w : w64 ((i : Int) + 1) = ((i + 1 : Nat) : Int) := by rw [w64_id (by omega) (by omega)]; omega
        have ih := compare_l0 k a b (i + 1) ha hb (by omega) (by omega) (by omega)
        simp only [g1.2, g2.2, g1, g2, decide_true, if_true, and_self, w, ih, gtb_lt, Int.toNat_natCast, drop_byte h1, drop_byte h2, scmp_cons, decide_eq_true_eq]
        split
        · rfl
        · split <;> rfl
      · have g1 : (i : Int) < (a.length : Int) := by omega
        have g2 : ¬ (i : Int) < (b.length : Int) := by omega
        have e : b.drop i = [] := List.drop_eq_nil_of_le (by omega)
        have z1 : ¬ (a.length : Int) < (b.length : Int) := by omega
        have z2 : (b.length : Int) < (a.length : Int) := by omega
        have z3 : ¬ (a.drop i).length = 0 := by rw [List.length_drop]; omega
        simp [g1, g2, e, z1, z2, scmp_nil_right, z3]
        omega
    · have g1 : ¬ (i : Int) < (a.length : Int) := by omega
      have e : a.drop i = [] := List.drop_eq_nil_of_le (by omega)
      have z : (b.drop i).length = b.length - i := List.length_drop ..
      simp only [g1, e, scmp_nil_left, z, decide_false, Bool.false_eq_true, if_false, decide_eq_true_eq]
      by_cases h2 : b.length = i
      · have z1 : ¬ (a.length : Int) < (b.length : Int) := by omega
        have z2 : ¬ (b.length : Int) < (a.length : Int) := by omega
        have h3 : a.length = i := by omega
        simp [h2, h3]
      · have z1 : (a.length : Int) < (b.length : Int) := by omega
        have z2 : ¬ b.length - i = 0 := by omega
        simp [z1, z2]
theorem compare_pure {k : Nat} {a b : List UInt8} (ha : a.length ≤ 2000) (hb : b.length ≤ 2000) (hk : 2000 < k) : sluicegateref01_Compare.f k a b = some (scmp a b) := by
  have := compare_l0 k a b 0 (by omega) (by omega) (by omega) (by omega) (by omega)
  simpa [sluicegateref01_Compare.f] using this
abbrev Msg := List UInt8 × Bool × List UInt8
theorem msg_eq (x y : Msg) : (decide (x.1 = y.1) && ((x.2.1 == y.2.1) && (decide (x.2.2 = y.2.2) && true))) = decide (x = y) := by
  obtain ⟨a, b, c⟩ := x
  obtain ⟨d, e, f⟩ := y
  by_cases h1 : a = d <;> by_cases h2 : b = e <;> by_cases h3 : c = f <;> simp [h1, h2, h3]
theorem refSame_l0 : ∀ (k : Nat) (a b : List Msg) (i : Nat), a.length ≤ 1000000 → a.length = b.length → i ≤ a.length → a.length - i < k → sluicegateref10_Same.l0 k a b (i : Int) = some (decide (a.drop i = b.drop i))
  | 0, a, b, i, _, _, _, h => by omega
  | k + 1, a, b, i, ha, hab, hi, hk => by
    rw [sluicegateref10_Same.l0]
    by_cases h : i < a.length
    · have g1 : (0 : Int) ≤ (i : Int) ∧ (i : Int) < (a.length : Int) := by omega
      have g2 : (0 : Int) ≤ (i : Int) ∧ (i : Int) < (b.length : Int) := by omega
      rw [if_pos (decide_eq_true g1.2), if_pos g1, if_pos g2, msg_eq, w64_succ (by omega), refSame_l0 k a b (i + 1) ha hab (by omega) (by omega), drop_cons h, drop_cons (show i < b.length by omega), gt_nat, gt_nat]
      generalize a.getD i default = x
      generalize b.getD i default = y
      by_cases e : x = y
      · simp [e]
      · simp [e]
    · rw [if_neg (by simp; omega), List.drop_eq_nil_of_le (by omega), List.drop_eq_nil_of_le (by omega)]
      rfl
theorem refSame_pure {k : Nat} {a b : List Msg} (ha : a.length ≤ 1000000) (hk : a.length < k) : sluicegateref10_Same.f k a b = some (decide (a = b)) := by
  unfold sluicegateref10_Same.f
  by_cases h : a.length = b.length
  · rw [if_neg (by simp [h])]
    have := refSame_l0 k a b 0 ha h (by omega) (by omega)
    simpa using this
  · rw [if_pos (by simp; omega)]
    have : a ≠ b := fun e => h (by rw [e])
    simp [this]
abbrev Cfg := Int × Int × Int × Int × Int × Int × Int × Int
abbrev Pr := List UInt8 × List UInt8
abbrev Nd := Int × List Int × List (List UInt8) × List Msg × List Pr
/-- what is not great -/
structure SmallN (n : Nd) : Prop where
  kids : n.2.1.length ≤ 80
  pivs : n.2.2.1.length ≤ 80
  buf : n.2.2.2.1.length ≤ 150
  prs : n.2.2.2.2.length ≤ 150
  pk : ∀ p ∈ n.2.2.1, p.length ≤ 200
  bk : ∀ m ∈ n.2.2.2.1, m.1.length ≤ 200
  rk : ∀ m ∈ n.2.2.2.2, m.1.length ≤ 200
theorem great_l2 (n : Nd) (hb : n.2.2.2.2.length ≤ 150) : ∀ (k i : Nat), i ≤ n.2.2.2.2.length → n.2.2.2.2.length - i < k → (∀ m ∈ n.2.2.2.2.take i, m.1.length ≤ 200) →
    ∃ g, sluicegatelaw13_Great.l2 k n (i : Int) = some g ∧ (g = false → ∀ m ∈ n.2.2.2.2, m.1.length ≤ 200)
  | 0, i, _, h, _ => by omega
  | k + 1, i, hi, hk, hm => by
    rw [sluicegatelaw13_Great.l2]
    by_cases h : i < n.2.2.2.2.length
    · have g1 : (0 : Int) ≤ (i : Int) ∧ (i : Int) < (n.2.2.2.2.length : Int) := by omega
      rw [if_pos (decide_eq_true g1.2), if_pos g1, gt_nat]
      by_cases h2 : 200 < (n.2.2.2.2.getD i default).1.length
      · exact ⟨true, by rw [if_pos (decide_eq_true (by omega))], fun h => by cases h⟩
      · rw [if_neg (by simp only [decide_eq_true_eq]; omega), w64_succ (by omega)]
        refine great_l2 n hb k (i + 1) (by omega) (by omega) fun m hm' => ?_
        rw [List.take_add_one, List.mem_append] at hm'
        rcases hm' with hm' | hm'
        · exact hm m hm'
        · rw [List.getElem?_eq_getElem h] at hm'
          simp only [Option.toList_some, List.mem_singleton] at hm'
          subst hm'
          rw [List.getD_eq_getElem?_getD, List.getElem?_eq_getElem h] at h2
          simp only [Option.getD_some] at h2
          omega
    · rw [if_neg (by simp only [decide_eq_true_eq]; omega)]
      exact ⟨false, rfl, fun _ => by rwa [List.take_of_length_le (by omega)] at hm⟩
theorem great_l1 (n : Nd) (hb : n.2.2.2.2.length ≤ 150) (hc : n.2.2.2.1.length ≤ 150) : ∀ (k i : Nat), i ≤ n.2.2.2.1.length → 200 + (n.2.2.2.1.length - i) < k → (∀ m ∈ n.2.2.2.1.take i, m.1.length ≤ 200) →
    ∃ g, sluicegatelaw13_Great.l1 k n (i : Int) = some g ∧ (g = false → (∀ m ∈ n.2.2.2.1, m.1.length ≤ 200) ∧ ∀ m ∈ n.2.2.2.2, m.1.length ≤ 200)
  | 0, i, _, h, _ => by omega
  | k + 1, i, hi, hk, hm => by
    rw [sluicegatelaw13_Great.l1]
    by_cases h : i < n.2.2.2.1.length
    · have g1 : (0 : Int) ≤ (i : Int) ∧ (i : Int) < (n.2.2.2.1.length : Int) := by omega
      rw [if_pos (decide_eq_true g1.2), if_pos g1, gt_nat]
      by_cases h2 : 200 < (n.2.2.2.1.getD i default).1.length
      · exact ⟨true, by rw [if_pos (decide_eq_true (by omega))], fun h => by cases h⟩
      · rw [if_neg (by simp only [decide_eq_true_eq]; omega), w64_succ (by omega)]
        refine great_l1 n hb hc k (i + 1) (by omega) (by omega) fun m hm' => ?_
        rw [List.take_add_one, List.mem_append] at hm'
        rcases hm' with hm' | hm'
        · exact hm m hm'
        · rw [List.getElem?_eq_getElem h] at hm'
          simp only [Option.toList_some, List.mem_singleton] at hm'
          subst hm'
          rw [List.getD_eq_getElem?_getD, List.getElem?_eq_getElem h] at h2
          simp only [Option.getD_some] at h2
          omega
    · rw [if_neg (by simp only [decide_eq_true_eq]; omega)]
      obtain ⟨g, e1, e2⟩ := great_l2 n hb k 0 (by omega) (by omega) (by simp)
      rw [List.take_of_length_le (by omega)] at hm
      exact ⟨g, e1, fun e => ⟨hm, e2 e⟩⟩
theorem great_l0 (n : Nd) (hb : n.2.2.2.2.length ≤ 150) (hc : n.2.2.2.1.length ≤ 150) (hd : n.2.2.1.length ≤ 80) : ∀ (k i : Nat), i ≤ n.2.2.1.length → 400 + (n.2.2.1.length - i) < k → (∀ m ∈ n.2.2.1.take i, m.length ≤ 200) →
    ∃ g, sluicegatelaw13_Great.l0 k n (i : Int) = some g ∧ (g = false → (∀ m ∈ n.2.2.1, m.length ≤ 200) ∧ (∀ m ∈ n.2.2.2.1, m.1.length ≤ 200) ∧ ∀ m ∈ n.2.2.2.2, m.1.length ≤ 200)
  | 0, i, _, h, _ => by omega
  | k + 1, i, hi, hk, hm => by
    rw [sluicegatelaw13_Great.l0]
    by_cases h : i < n.2.2.1.length
    · have g1 : (0 : Int) ≤ (i : Int) ∧ (i : Int) < (n.2.2.1.length : Int) := by omega
      rw [if_pos (decide_eq_true g1.2), if_pos g1, gt_nat]
      by_cases h2 : 200 < (n.2.2.1.getD i default).length
      · exact ⟨true, by rw [if_pos (decide_eq_true (by omega))], fun h => by cases h⟩
      · rw [if_neg (by simp only [decide_eq_true_eq]; omega), w64_succ (by omega)]
        refine great_l0 n hb hc hd k (i + 1) (by omega) (by omega) fun m hm' => ?_
        rw [List.take_add_one, List.mem_append] at hm'
        rcases hm' with hm' | hm'
        · exact hm m hm'
        · rw [List.getElem?_eq_getElem h] at hm'
          simp only [Option.toList_some, List.mem_singleton] at hm'
          subst hm'
          rw [List.getD_eq_getElem?_getD, List.getElem?_eq_getElem h] at h2
          simp only [Option.getD_some] at h2
          omega
    · rw [if_neg (by simp only [decide_eq_true_eq]; omega)]
      obtain ⟨g, e1, e2⟩ := great_l1 n hb hc k 0 (by omega) (by omega) (by simp)
      rw [List.take_of_length_le (by omega)] at hm
      exact ⟨g, e1, fun e => ⟨hm, e2 e⟩⟩
theorem greatN_pure (n : Nd) {k : Nat} (hk : 1000 < k) : ∃ g, sluicegatelaw13_Great.f k n = some g ∧ (g = false → SmallN n) := by
  unfold sluicegatelaw13_Great.f
  by_cases h1 : 80 < n.2.1.length
  · exact ⟨true, by rw [if_pos (decide_eq_true (by omega))], fun h => by cases h⟩
  · rw [if_neg (by simp only [decide_eq_true_eq]; omega)]
    by_cases h2 : 80 < n.2.2.1.length
    · exact ⟨true, by rw [if_pos (decide_eq_true (by omega))], fun h => by cases h⟩
    · rw [if_neg (by simp only [decide_eq_true_eq]; omega)]
      by_cases h3 : 150 < n.2.2.2.1.length
      · exact ⟨true, by rw [if_pos (decide_eq_true (by omega))], fun h => by cases h⟩
      · rw [if_neg (by simp only [decide_eq_true_eq]; omega)]
        by_cases h4 : 150 < n.2.2.2.2.length
        · exact ⟨true, by rw [if_pos (decide_eq_true (by omega))], fun h => by cases h⟩
        · rw [if_neg (by simp only [decide_eq_true_eq]; omega)]
          obtain ⟨g, e1, e2⟩ := great_l0 n (by omega) (by omega) (by omega) k 0 (by omega) (by omega) (by simp)
          exact ⟨g, e1, fun e => ⟨by omega, by omega, by omega, by omega, (e2 e).1, (e2 e).2.1, (e2 e).2.2⟩⟩
/-- settings that are right, as far as it is asked -/
structure OkC (c : Cfg) : Prop where
  fan : 8 ≤ c.2.2.2.1 ∧ c.2.2.2.1 ≤ 64
  key : 1 ≤ c.2.2.2.2.2.2.1 ∧ c.2.2.2.2.2.2.1 ≤ 64
  val : 0 ≤ c.2.2.2.2.2.2.2 ∧ c.2.2.2.2.2.2.2 ≤ 256
  buf : 16 ≤ c.2.2.2.2.1 ∧ c.2.2.2.2.1 ≤ 512
  leaf : c.2.2.2.2.1 ≤ c.2.2.2.2.2.1 ∧ c.2.2.2.2.2.1 ≤ 1024
theorem in9_pure (a b c : Int) : sluicegateref09_in.f a b c = some (decide (b ≤ a ∧ a ≤ c)) := by
  unfold sluicegateref09_in.f
  by_cases h : b ≤ a <;> simp [h]
theorem sized_pure (c : Cfg) : ∃ g, sluicegateref09_Sized.f c = some g ∧ (g = true → OkC c) := by
  unfold sluicegateref09_Sized.f
  simp only [in9_pure, Option.bind_some]
  by_cases h1 : 8 ≤ c.2.2.2.1 ∧ c.2.2.2.1 ≤ 64
  · rw [if_neg (by simp [h1])]
    by_cases h2 : 1 ≤ c.2.2.2.2.2.2.1 ∧ c.2.2.2.2.2.2.1 ≤ 64
    · rw [if_neg (by simp [h2])]
      by_cases h3 : 0 ≤ c.2.2.2.2.2.2.2 ∧ c.2.2.2.2.2.2.2 ≤ 256
      · rw [if_neg (by simp [h3])]
        have w : w64 (2 * c.2.2.2.1) = 2 * c.2.2.2.1 := w64_id (by omega) (by omega)
        rw [w]
        by_cases h4 : 2 * c.2.2.2.1 ≤ c.2.2.2.2.1 ∧ c.2.2.2.2.1 ≤ 512
        · rw [if_pos (decide_eq_true h4)]
          refine ⟨_, rfl, fun h => ?_⟩
          have h5 := of_decide_eq_true h
          exact ⟨h1, h2, h3, by omega, h5⟩
        · exact ⟨false, by rw [if_neg (by simp only [decide_eq_true_eq]; exact h4)], fun h => by cases h⟩
      · exact ⟨false, by rw [if_pos (by simp only [decide_eq_false h3]; rfl)], fun h => by cases h⟩
    · exact ⟨false, by rw [if_pos (by simp only [decide_eq_false h2]; rfl)], fun h => by cases h⟩
  · exact ⟨false, by rw [if_pos (by simp only [decide_eq_false h1]; rfl)], fun h => by cases h⟩
theorem inner9_l1 {c : Cfg} (hc : OkC c) : ∀ (k i : Nat) (x : Int), i ≤ 512 → 512 - i < k → ∃ r, sluicegateref09_Inner.l1 k c x (i : Int) = some r
  | 0, i, _, _, h => by omega
  | k + 1, i, x, hi, hk => by
    have hb := hc.buf
    rw [sluicegateref09_Inner.l1]
    by_cases h : (i : Int) < c.2.2.2.2.1
    · rw [if_pos (decide_eq_true h), w64_succ (by omega)]
      exact inner9_l1 hc k (i + 1) _ (by omega) (by omega)
    · exact ⟨x, by rw [if_neg (by simp only [decide_eq_true_eq]; exact h)]⟩
theorem inner9_l0 {c : Cfg} (hc : OkC c) : ∀ (k i : Nat) (x : Int), i ≤ 64 → 520 + (64 - i) < k → ∃ r, sluicegateref09_Inner.l0 k c x (i : Int) = some r
  | 0, i, _, _, h => by omega
  | k + 1, i, x, hi, hk => by
    have hb := hc.fan
    rw [sluicegateref09_Inner.l0]
    by_cases h : (i : Int) < c.2.2.2.1
    · rw [if_pos (decide_eq_true h), w64_succ (by omega)]
      by_cases h0 : (0 : Int) < (i : Int)
      · rw [if_pos (decide_eq_true h0)]
        exact inner9_l0 hc k (i + 1) _ (by omega) (by omega)
      · rw [if_neg (by simp only [decide_eq_true_eq]; exact h0)]
        exact inner9_l0 hc k (i + 1) _ (by omega) (by omega)
    · rw [if_neg (by simp only [decide_eq_true_eq]; exact h)]
      exact inner9_l1 hc k 0 x (by omega) (by omega)
theorem outer9_l0 {c : Cfg} (hc : OkC c) : ∀ (k i : Nat) (x : Int), i ≤ 1024 → 1024 - i < k → ∃ r, sluicegateref09_Outer.l0 k c x (i : Int) = some r
  | 0, i, _, _, h => by omega
  | k + 1, i, x, hi, hk => by
    have hb := hc.leaf
    rw [sluicegateref09_Outer.l0]
    by_cases h : (i : Int) < c.2.2.2.2.2.1
    · rw [if_pos (decide_eq_true h), w64_succ (by omega)]
      exact outer9_l0 hc k (i + 1) _ (by omega) (by omega)
    · exact ⟨x, by rw [if_neg (by simp only [decide_eq_true_eq]; exact h)]⟩
theorem right9_pure (c : Cfg) {k : Nat} (hk : 2000 < k) : ∃ g, sluicegateref09_Right.f k c = some g ∧ (g = true → OkC c) := by
  obtain ⟨g, e1, e2⟩ := sized_pure c
  have e1' : sluicegateref09_Sized.f (c.1, c.2.1, c.2.2.1, c.2.2.2.1, c.2.2.2.2.1, c.2.2.2.2.2.1, c.2.2.2.2.2.2.1, c.2.2.2.2.2.2.2) = some g := e1
  unfold sluicegateref09_Right.f
  rw [e1', Option.bind_some]
  cases g with
  | false => exact ⟨false, rfl, fun h => by cases h⟩
  | true =>
    have hc := e2 rfl
    obtain ⟨a, ha⟩ := inner9_l0 hc k 0 8 (by omega) (by omega)
    obtain ⟨b, hb⟩ := outer9_l0 hc k 0 8 (by omega) (by omega)
    have ha' : sluicegateref09_Inner.f k (c.1, c.2.1, c.2.2.1, c.2.2.2.1, c.2.2.2.2.1, c.2.2.2.2.2.1, c.2.2.2.2.2.2.1, c.2.2.2.2.2.2.2) = some a := by
      unfold sluicegateref09_Inner.f
      rw [e1', Option.bind_some, if_neg (by simp)]
      exact ha
    have hb' : sluicegateref09_Outer.f k (c.1, c.2.1, c.2.2.1, c.2.2.2.1, c.2.2.2.2.1, c.2.2.2.2.2.1, c.2.2.2.2.2.2.1, c.2.2.2.2.2.2.2) = some b := by
      unfold sluicegateref09_Outer.f
      rw [e1', Option.bind_some, if_neg (by simp)]
      exact hb
    simp only [in9_pure, ha', hb', Option.bind_some, if_true]
    have tot : ∀ (p q r t : Bool), ∃ g : Bool, (if p = true then (if q = true then (if r = true then (if t = true then some (decide (b ≤ c.2.1)) else some false) else some false) else some false) else some false) = some g := fun p q r t => by
      cases p <;> cases q <;> cases r <;> cases t <;> exact ⟨_, rfl⟩
    obtain ⟨g, hg⟩ := tot (decide (5 ≤ c.1 ∧ c.1 ≤ 65536)) (decide (8 ≤ c.2.2.1 ∧ c.2.2.1 ≤ 64)) (decide (64 ≤ c.2.1 ∧ c.2.1 ≤ 65536)) (decide (a ≤ c.2.1))
    exact ⟨g, hg, fun _ => hc⟩
abbrev Sp := List UInt8 × List UInt8 × Bool
def inS (s : Sp) (x : List UInt8) : Bool := !Op.bytesLess x s.1 && (s.2.2 || Op.bytesLess x s.2.1)
theorem refIn_pure {k : Nat} {s : Sp} {x : List UInt8} (h1 : s.1.length ≤ 2000) (h2 : s.2.1.length ≤ 2000) (hx : x.length ≤ 2000) (hk : 2000 < k) : sluicegateref01_In.f k s x = some (inS s x) := by
  unfold sluicegateref01_In.f inS
  rw [compare_pure h1 hx hk, compare_pure hx h2 hk]
  simp only [Option.bind_some, scmp_le, scmp_lt, decide_eq_true_eq]
  cases h : Op.bytesLess x s.1 <;> cases s.2.2 <;> simp
theorem scmp_ge (a b : List UInt8) : decide (0 ≤ scmp a b) = !Op.bytesLess a b := by
  rcases scmp_vals a b with ⟨e, h⟩ | ⟨e, rfl⟩ | ⟨e, h⟩
  · simp [e, h]
  · simp [e, bl_irr]
  · simp [e, bl_asymm h]
/-- do the keys of pairs rise? -/
def riseP : List Pr → Bool
  | a :: b :: r => Op.bytesLess a.1 b.1 && riseP (b :: r)
  | _ => true
theorem riseP_drop {l : List Pr} {i : Nat} (h : i + 1 < l.length) : riseP (l.drop i) = (Op.bytesLess (l.getD i default).1 (l.getD (i + 1) default).1 && riseP (l.drop (i + 1))) := by
  rw [drop_cons (show i < l.length by omega), drop_cons h]
  rfl
theorem riseP_end {l : List Pr} {i : Nat} (h : l.length ≤ i + 1) : riseP (l.drop i) = true := by
  by_cases h' : i < l.length
  · rw [drop_cons h', List.drop_eq_nil_of_le (by omega)]
    rfl
  · rw [List.drop_eq_nil_of_le (by omega)]
    rfl
theorem right11_l0 {l : List Pr} (h150 : l.length ≤ 150) (hl : ∀ m ∈ l, m.1.length ≤ 200) : ∀ (k i : Nat), i ≤ l.length → 2001 + (l.length - i) < k → sluicegateref11_Right.l0 k l ((i + 1 : Nat) : Int) = some (riseP (l.drop i))
  | 0, i, _, h => by omega
  | k + 1, i, hi, hk => by
    rw [sluicegateref11_Right.l0]
    by_cases h : i + 1 < l.length
    · have g1 : (0 : Int) ≤ (i : Int) ∧ (i : Int) < (l.length : Int) := by omega
      have g2 : (0 : Int) ≤ ((i + 1 : Nat) : Int) ∧ ((i + 1 : Nat) : Int) < (l.length : Int) := by omega
      have k1 := hl _ (getD_mem (d := default) (show i < l.length by omega))
      have k2 := hl _ (getD_mem (d := default) h)
      rw [if_pos (decide_eq_true g2.2), w64_pred (by omega) (by omega), Nat.add_sub_cancel, if_pos g1, if_pos g2, gt_nat, gt_nat, compare_pure (by omega) (by omega) (by omega), Option.bind_some, scmp_ge, w64_succ (by omega), right11_l0 h150 hl k (i + 1) (by omega) (by omega), riseP_drop h]
      cases Op.bytesLess (l.getD i default).1 (l.getD (i + 1) default).1 <;> rfl
    · rw [if_neg (by simp only [decide_eq_true_eq]; omega), riseP_end (by omega)]
theorem right11_pure {l : List Pr} (h150 : l.length ≤ 150) (hl : ∀ m ∈ l, m.1.length ≤ 200) {k : Nat} (hk : 3000 < k) : sluicegateref11_Right.f k l = some (riseP l) := by
  have := right11_l0 h150 hl k 0 (by omega) (by omega)
  simpa [sluicegateref11_Right.f] using this
def keyB (c : Cfg) (x : List UInt8) : Bool := decide (1 ≤ (x.length : Int) ∧ (x.length : Int) ≤ c.2.2.2.2.2.2.1)
theorem key13_pure (c : Cfg) (x : List UInt8) : sluicegateref13_Key.f c x = some (keyB c x) := by
  unfold sluicegateref13_Key.f keyB
  by_cases h : 1 ≤ (x.length : Int) <;> simp [h]
def prB (c : Cfg) (s : Sp) (p : Pr) : Bool := keyB c p.1 && (inS s p.1 && decide ((p.2.length : Int) ≤ c.2.2.2.2.2.2.2))
def outB (c : Cfg) (s : Sp) (n : Nd) : Bool := n.2.2.2.2.all (prB c s) && (decide (n.2.1 = []) && (decide (n.2.2.1 = []) && (decide (n.2.2.2.1 = []) && (decide ((n.2.2.2.2.length : Int) ≤ c.2.2.2.2.2.1) && riseP n.2.2.2.2))))
theorem outer13_l0 {c : Cfg} {s : Sp} {n : Nd} (hn : SmallN n) (h1 : s.1.length ≤ 2000) (h2 : s.2.1.length ≤ 2000) : ∀ (k i : Nat), i ≤ n.2.2.2.2.length → 3001 + (n.2.2.2.2.length - i) < k →
    sluicegateref13_outer.l0 k c s n (i : Int) = some ((n.2.2.2.2.drop i).all (prB c s) && (decide (n.2.1 = []) && (decide (n.2.2.1 = []) && (decide (n.2.2.2.1 = []) && (decide ((n.2.2.2.2.length : Int) ≤ c.2.2.2.2.2.1) && riseP n.2.2.2.2)))))
  | 0, i, _, h => by omega
  | k + 1, i, hi, hk => by
    have h150 := hn.prs
    rw [sluicegateref13_outer.l0]
    by_cases h : i < n.2.2.2.2.length
    · have g1 : (0 : Int) ≤ (i : Int) ∧ (i : Int) < (n.2.2.2.2.length : Int) := by omega
      have k1 := hn.rk _ (getD_mem (d := default) h)
      have etc : (c.1, c.2.1, c.2.2.1, c.2.2.2.1, c.2.2.2.2.1, c.2.2.2.2.2.1, c.2.2.2.2.2.2.1, c.2.2.2.2.2.2.2) = c := rfl
      have eta : (s.1, s.2.1, s.2.2) = s := rfl
      rw [if_pos (decide_eq_true g1.2), if_pos g1, gt_nat, etc, key13_pure, Option.bind_some, eta, refIn_pure h1 h2 (by omega) (by omega), Option.bind_some, w64_succ (by omega), outer13_l0 hn h1 h2 k (i + 1) (by omega) (by omega), drop_cons h, List.all_cons]
      simp only [prB]
      generalize n.2.2.2.2.getD i default = p
      by_cases e : c.2.2.2.2.2.2.2 < (p.2.length : Int)
      · rw [decide_eq_true e, decide_eq_false (show ¬ ((p.2.length : Int) ≤ c.2.2.2.2.2.2.2) by omega)]
        cases keyB c p.1 <;> cases inS s p.1 <;> rfl
      · rw [decide_eq_false e, decide_eq_true (show ((p.2.length : Int) ≤ c.2.2.2.2.2.2.2) by omega)]
        cases keyB c p.1 <;> cases inS s p.1 <;> simp
    · have z : ∀ {α : Type} [DecidableEq α] (l : List α), decide ((l.length : Int) = 0) = decide (l = []) := fun l => by
        cases l <;> simp
        omega
      rw [if_neg (by simp only [decide_eq_true_eq]; omega), right11_pure h150 hn.rk (by omega), Option.bind_some, List.drop_eq_nil_of_le (by omega), z, z, z]
      cases decide (n.2.1 = []) <;> cases decide (n.2.2.1 = []) <;> cases decide (n.2.2.2.1 = []) <;> cases decide ((n.2.2.2.2.length : Int) ≤ c.2.2.2.2.2.1) <;> rfl
theorem outer13_pure {c : Cfg} {s : Sp} {n : Nd} (hn : SmallN n) (h1 : s.1.length ≤ 2000) (h2 : s.2.1.length ≤ 2000) {k : Nat} (hk : 4000 < k) : sluicegateref13_outer.f k c s n = some (outB c s n) := by
  have := outer13_l0 (c := c) hn h1 h2 k 0 (by omega) (by have := hn.prs; omega)
  simpa [sluicegateref13_outer.f, outB] using this
theorem rises_drop {l : List (List UInt8)} {i : Nat} (h : i + 1 < l.length) : rises (l.drop i) = (Op.bytesLess (l.getD i []) (l.getD (i + 1) []) && rises (l.drop (i + 1))) := by
  rw [drop_cons (show i < l.length by omega), drop_cons h]
  rfl
theorem rises_end {l : List (List UInt8)} {i : Nat} (h : l.length ≤ i + 1) : rises (l.drop i) = true := by
  by_cases h' : i < l.length
  · rw [drop_cons h', List.drop_eq_nil_of_le (by omega)]
    rfl
  · rw [List.drop_eq_nil_of_le (by omega)]
    rfl
structure SmallL (l : List (List UInt8)) (s : Sp) : Prop where
  len : l.length ≤ 80
  all : ∀ p ∈ l, p.length ≤ 300
  lo : s.1.length ≤ 300
  hi : s.2.1.length ≤ 300
theorem SmallL.get {l : List (List UInt8)} {s : Sp} (h : SmallL l s) (i : Nat) : (l.getD i []).length ≤ 300 := by
  by_cases hi : i < l.length
  · exact h.all _ (getD_mem hi)
  · rw [List.getD_eq_getElem?_getD, List.getElem?_eq_none (by omega)]
    exact Nat.zero_le _
theorem rise_l0 {s : Sp} {l : List (List UInt8)} (hs : SmallL l s) : ∀ (k i : Nat), i ≤ l.length → 2001 + (l.length - i) < k → sluicegateref12_Rise.l0 k l ((i + 1 : Nat) : Int) = some (rises (l.drop i))
  | 0, i, _, h => by omega
  | k + 1, i, hi, hk => by
    have h80 := hs.len
    rw [sluicegateref12_Rise.l0]
    by_cases h : i + 1 < l.length
    · have g1 : (0 : Int) ≤ (i : Int) ∧ (i : Int) < (l.length : Int) := by omega
      have g2 : (0 : Int) ≤ ((i + 1 : Nat) : Int) ∧ ((i + 1 : Nat) : Int) < (l.length : Int) := by omega
      have k1 : (l.getD i default).length ≤ 300 := hs.get i
      have k2 : (l.getD (i + 1) default).length ≤ 300 := hs.get (i + 1)
      rw [if_pos (decide_eq_true g2.2), w64_pred (by omega) (by omega), Nat.add_sub_cancel, if_pos g1, if_pos g2, gt_nat, gt_nat, compare_pure (by omega) (by omega) (by omega), Option.bind_some, scmp_ge, w64_succ (by omega), rise_l0 hs k (i + 1) (by omega) (by omega), rises_drop h]
      show (if (!Op.bytesLess (l.getD i []) (l.getD (i + 1) [])) = true then some false else some (rises (l.drop (i + 1)))) = _
      cases Op.bytesLess (l.getD i []) (l.getD (i + 1) []) <;> rfl
    · rw [if_neg (by simp only [decide_eq_true_eq]; omega), rises_end (by omega)]
theorem rise_pure {s : Sp} {l : List (List UInt8)} (hs : SmallL l s) {k : Nat} (hk : 3000 < k) : sluicegateref12_Rise.f k l = some (rises l) := by
  have := rise_l0 hs k 0 (by omega) (by have := hs.len; omega)
  simpa [sluicegateref12_Rise.f] using this
def piv (s : Sp) (p : List UInt8) : Bool := inS s p && !decide (p = s.1)
theorem refRight_l0 {s : Sp} {l : List (List UInt8)} (hs : SmallL l s) : ∀ (k i : Nat), i ≤ l.length → 3001 + (l.length - i) < k → sluicegateref12_Right.l0 k l s (i : Int) = some ((l.drop i).all (piv s) && rises l)
  | 0, i, _, h => by omega
  | k + 1, i, hi, hk => by
    have h80 := hs.len
    rw [sluicegateref12_Right.l0]
    by_cases h : i < l.length
    · have g1 : (0 : Int) ≤ (i : Int) ∧ (i : Int) < (l.length : Int) := by omega
      have k1 : (l.getD i default).length ≤ 300 := hs.get i
      have hlo := hs.lo
      have hhi := hs.hi
      have eta : (s.1, s.2.1, s.2.2) = s := rfl
      rw [if_pos (decide_eq_true g1.2), if_pos g1, gt_nat, eta, refIn_pure (by omega) (by omega) (by omega) (by omega), Option.bind_some, w64_succ (by omega), refRight_l0 hs k (i + 1) (by omega) (by omega), drop_cons h, List.all_cons]
      simp only [piv]
      cases inS s (l.getD i default) <;> by_cases e : l.getD i default = s.1 <;> simp only [e, decide_true, decide_false] <;> rfl
    · rw [if_neg (by simp only [decide_eq_true_eq]; omega), rise_pure hs (by omega), List.drop_eq_nil_of_le (by omega)]
      rfl
theorem refRight_pure {s : Sp} {l : List (List UInt8)} (hs : SmallL l s) {k : Nat} (hk : 4000 < k) : sluicegateref12_Right.f k l s = some (l.all (piv s) && rises l) := by
  have := refRight_l0 hs k 0 (by omega) (by have := hs.len; omega)
  simpa [sluicegateref12_Right.f] using this
/-- do the keys rise? -/
def riseM : List Msg → Bool
  | a :: b :: r => Op.bytesLess a.1 b.1 && riseM (b :: r)
  | _ => true
theorem riseM_drop {l : List Msg} {i : Nat} (h : i + 1 < l.length) : riseM (l.drop i) = (Op.bytesLess (l.getD i default).1 (l.getD (i + 1) default).1 && riseM (l.drop (i + 1))) := by
  rw [drop_cons (show i < l.length by omega), drop_cons h]
  rfl
theorem riseM_end {l : List Msg} {i : Nat} (h : l.length ≤ i + 1) : riseM (l.drop i) = true := by
  by_cases h' : i < l.length
  · rw [drop_cons h', List.drop_eq_nil_of_le (by omega)]
    rfl
  · rw [List.drop_eq_nil_of_le (by omega)]
    rfl
theorem refright_l0 : ∀ (k : Nat) (l : List Msg) (i : Nat), (l.length ≤ 150 ∧ ∀ m ∈ l, m.1.length ≤ 300) → i ≤ l.length → 2001 + (l.length - i) < k → sluicegateref10_Right.l0 k l ((i + 1 : Nat) : Int) = some (riseM (l.drop i))
  | 0, l, i, _, _, h => by omega
  | k + 1, l, i, hl, hi, hk => by
    have h150 := hl.1
    rw [sluicegateref10_Right.l0]
    by_cases h : i + 1 < l.length
    · have g1 : (0 : Int) ≤ (i : Int) ∧ (i : Int) < (l.length : Int) := by omega
      have g2 : (0 : Int) ≤ ((i + 1 : Nat) : Int) ∧ ((i + 1 : Nat) : Int) < (l.length : Int) := by omega
      have k1 := hl.2 _ (getD_mem (d := default) (show i < l.length by omega))
      have k2 := hl.2 _ (getD_mem (d := default) h)
      rw [if_pos (decide_eq_true g2.2), w64_pred (by omega) (by omega), Nat.add_sub_cancel, if_pos g1, if_pos g2, gt_nat, gt_nat, compare_pure (by omega) (by omega) (by omega), Option.bind_some, scmp_ge, w64_succ (by omega), refright_l0 k l (i + 1) hl (by omega) (by omega), riseM_drop h]
      cases Op.bytesLess (l.getD i default).1 (l.getD (i + 1) default).1 <;> rfl
    · rw [if_neg (by simp only [decide_eq_true_eq]; omega), riseM_end (by omega)]
def msgB (c : Cfg) (s : Sp) (m : Msg) : Bool := keyB c m.1 && (inS s m.1 && (decide ((m.2.2.length : Int) ≤ c.2.2.2.2.2.2.2) && (!m.2.1 || decide (m.2.2 = []))))
def tailB (c : Cfg) (s : Sp) (n : Nd) : Bool := decide (n.1 ≤ 40) && (decide (n.2.2.2.2 = []) && (decide (1 ≤ n.2.1.length) && (decide ((n.2.1.length : Int) ≤ c.2.2.2.1) && (decide (n.2.2.1.length + 1 = n.2.1.length) && ((n.2.2.1.all (piv s) && rises n.2.2.1) && (decide ((n.2.2.2.1.length : Int) ≤ c.2.2.2.2.1) && riseM n.2.2.2.1))))))
theorem SmallN.l {n : Nd} (hn : SmallN n) {s : Sp} (h1 : s.1.length ≤ 300) (h2 : s.2.1.length ≤ 300) : SmallL n.2.2.1 s := ⟨hn.pivs, fun p hp => by have := hn.pk p hp; omega, h1, h2⟩
theorem refright_pure {n : Nd} (hn : SmallN n) {k : Nat} (hk : 3000 < k) : sluicegateref10_Right.f k n.2.2.2.1 = some (riseM n.2.2.2.1) := by
  have := refright_l0 k n.2.2.2.1 0 ⟨hn.buf, fun m hm => by have := hn.bk m hm; omega⟩ (by omega) (by have := hn.buf; omega)
  simpa [sluicegateref10_Right.f] using this
theorem inner13_l3 {c : Cfg} {s : Sp} {n : Nd} (hn : SmallN n) (h1 : s.1.length ≤ 300) (h2 : s.2.1.length ≤ 300) : ∀ (k i : Nat), i ≤ n.2.2.2.1.length → 5001 + (n.2.2.2.1.length - i) < k →
    sluicegateref13_inner.l3 k c s n (i : Int) = some ((n.2.2.2.1.drop i).all (msgB c s) && tailB c s n)
  | 0, i, _, h => by omega
  | k + 1, i, hi, hk => by
    have h150 := hn.buf
    have h80 := hn.pivs
    have hk80 := hn.kids
    have eta : (s.1, s.2.1, s.2.2) = s := rfl
    rw [sluicegateref13_inner.l3]
    by_cases h : i < n.2.2.2.1.length
    · have g1 : (0 : Int) ≤ (i : Int) ∧ (i : Int) < (n.2.2.2.1.length : Int) := by omega
      have k1 := hn.bk _ (getD_mem (d := default) h)
      have etc : (c.1, c.2.1, c.2.2.1, c.2.2.2.1, c.2.2.2.2.1, c.2.2.2.2.2.1, c.2.2.2.2.2.2.1, c.2.2.2.2.2.2.2) = c := rfl
      rw [if_pos (decide_eq_true g1.2), if_pos g1, gt_nat, etc, key13_pure, Option.bind_some, eta, refIn_pure (by omega) (by omega) (by omega) (by omega), Option.bind_some, w64_succ (by omega), inner13_l3 hn h1 h2 k (i + 1) (by omega) (by omega), drop_cons h, List.all_cons]
      simp only [msgB]
      generalize n.2.2.2.1.getD i default = p
      by_cases e : c.2.2.2.2.2.2.2 < (p.2.2.length : Int)
      · rw [decide_eq_true e, decide_eq_false (show ¬ ((p.2.2.length : Int) ≤ c.2.2.2.2.2.2.2) by omega)]
        cases keyB c p.1 <;> cases inS s p.1 <;> rfl
      · rw [decide_eq_false e, decide_eq_true (show ((p.2.2.length : Int) ≤ c.2.2.2.2.2.2.2) by omega)]
        cases keyB c p.1 <;> cases inS s p.1 <;> cases p.2.1 <;> cases decide (p.2.2 = []) <;> simp
    · have z : decide (0 < (n.2.2.2.2.length : Int)) = !decide (n.2.2.2.2 = []) := by
        cases n.2.2.2.2 <;> simp
      have y1 : decide (40 < n.1) = !decide (n.1 ≤ 40) := by by_cases q : n.1 ≤ 40 <;> simp [q] <;> omega
      have y2 : decide ((n.2.1.length : Int) < 1) = !decide (1 ≤ n.2.1.length) := by by_cases q : 1 ≤ n.2.1.length <;> simp [q] <;> omega
      have y3 : decide (c.2.2.2.1 < (n.2.1.length : Int)) = !decide ((n.2.1.length : Int) ≤ c.2.2.2.1) := by by_cases q : (n.2.1.length : Int) ≤ c.2.2.2.1 <;> simp [q] <;> omega
      have y4 : decide (w64 ((n.2.2.1.length : Int) + 1) = (n.2.1.length : Int)) = decide (n.2.2.1.length + 1 = n.2.1.length) := by
        rw [w64_succ (by omega)]
        congr 1
        exact propext (by omega)
      rw [if_neg (by simp only [decide_eq_true_eq]; omega), eta, refRight_pure (hn.l h1 h2) (by omega), refright_pure hn (by omega), List.drop_eq_nil_of_le (by omega), z, y1, y2, y3, y4]
      simp only [tailB, Option.bind_some, List.all_nil, Bool.true_and]
      cases decide (n.1 ≤ 40) <;> cases decide (n.2.2.2.2 = []) <;> cases decide (1 ≤ n.2.1.length) <;> cases decide ((n.2.1.length : Int) ≤ c.2.2.2.1) <;> cases decide (n.2.2.1.length + 1 = n.2.1.length) <;> cases (n.2.2.1.all (piv s) && rises n.2.2.1) <;> cases decide ((n.2.2.2.1.length : Int) ≤ c.2.2.2.2.1) <;> rfl
theorem inner13_l2 {c : Cfg} {s : Sp} {n : Nd} (hn : SmallN n) (h1 : s.1.length ≤ 300) (h2 : s.2.1.length ≤ 300) : ∀ (k i : Nat), i ≤ n.2.2.1.length → 5201 + (n.2.2.1.length - i) < k →
    sluicegateref13_inner.l2 k c s n (i : Int) = some ((n.2.2.1.drop i).all (keyB c) && (n.2.2.2.1.all (msgB c s) && tailB c s n))
  | 0, i, _, h => by omega
  | k + 1, i, hi, hk => by
    have h80 := hn.pivs
    have h150 := hn.buf
    rw [sluicegateref13_inner.l2]
    by_cases h : i < n.2.2.1.length
    · have g1 : (0 : Int) ≤ (i : Int) ∧ (i : Int) < (n.2.2.1.length : Int) := by omega
      have etc : (c.1, c.2.1, c.2.2.1, c.2.2.2.1, c.2.2.2.2.1, c.2.2.2.2.2.1, c.2.2.2.2.2.2.1, c.2.2.2.2.2.2.2) = c := rfl
      rw [if_pos (decide_eq_true g1.2), if_pos g1, gt_nat, etc, key13_pure, Option.bind_some, w64_succ (by omega), inner13_l2 hn h1 h2 k (i + 1) (by omega) (by omega), drop_cons h, List.all_cons]
      cases keyB c (n.2.2.1.getD i default) <;> rfl
    · rw [if_neg (by simp only [decide_eq_true_eq]; omega), List.drop_eq_nil_of_le (by omega)]
      have := inner13_l3 (c := c) hn h1 h2 k 0 (by omega) (by omega)
      simpa using this
def neB (l : List Int) (i q : Nat) : Bool := !decide (l.getD q 0 = l.getD i 0)
def kidB (c : Cfg) (l : List Int) (i : Nat) : Bool := !decide (l.getD i 0 = 0) && (!decide (c.1 ≤ w64 (l.getD i 0)) && (List.range' 0 i).all (neB l i))
def restB (c : Cfg) (s : Sp) (n : Nd) : Bool := n.2.2.1.all (keyB c) && (n.2.2.2.1.all (msgB c s) && tailB c s n)
theorem inner13_kids {c : Cfg} {s : Sp} {n : Nd} (hn : SmallN n) (h1 : s.1.length ≤ 300) (h2 : s.2.1.length ≤ 300) : ∀ (k : Nat),
    (∀ i : Nat, i ≤ n.2.1.length → 5400 + (n.2.1.length - i) * 100 < k → sluicegateref13_inner.l0 k c s n (i : Int) = some ((List.range' i (n.2.1.length - i)).all (kidB c n.2.1) && restB c s n)) ∧
    (∀ i q : Nat, i < n.2.1.length → q ≤ i → 5400 + (n.2.1.length - i - 1) * 100 + (i - q) + 1 < k → sluicegateref13_inner.l1 k c s n (i : Int) (q : Int) = some ((List.range' q (i - q)).all (neB n.2.1 i) && ((List.range' (i + 1) (n.2.1.length - i - 1)).all (kidB c n.2.1) && restB c s n)))
  | 0 => ⟨fun i _ h => by omega, fun i q _ _ h => by omega⟩
  | k + 1 => by
    have h80 := hn.kids
    have h80' := hn.pivs
    obtain ⟨ih0, ih1⟩ := inner13_kids (c := c) hn h1 h2 k
    refine ⟨fun i hi hk => ?_, fun i q hi hq hk => ?_⟩
    · rw [sluicegateref13_inner.l0]
      by_cases h : i < n.2.1.length
      · have g1 : (0 : Int) ≤ (i : Int) ∧ (i : Int) < (n.2.1.length : Int) := by omega
        have := ih1 i 0 h (by omega) (by omega)
        simp only [Int.natCast_zero, Int.ofNat_eq_natCast, Nat.sub_zero] at this
        have e0 : gt n.2.1 (i : Int) = n.2.1.getD i 0 := gt_nat n.2.1 i
        rw [if_pos (decide_eq_true g1.2), if_pos g1, e0, show sluicegateref13_inner.l1 k c s n (i : Int) 0 = _ from this, show n.2.1.length - i = (n.2.1.length - i - 1) + 1 by omega, List.range'_succ, List.all_cons]
        simp only [kidB, Nat.add_sub_cancel]
        cases decide (n.2.1.getD i 0 = 0) <;> cases decide (c.1 ≤ w64 (n.2.1.getD i 0)) <;> simp [Bool.and_assoc]
      · rw [if_neg (by simp only [decide_eq_true_eq]; omega), show n.2.1.length - i = 0 by omega]
        have := inner13_l2 (c := c) hn h1 h2 k 0 (by omega) (by omega)
        simpa [restB] using this
    · rw [sluicegateref13_inner.l1]
      by_cases h : q < i
      · have g1 : (0 : Int) ≤ (q : Int) ∧ (q : Int) < (n.2.1.length : Int) := by omega
        have e0 : gt n.2.1 (i : Int) = n.2.1.getD i 0 := gt_nat n.2.1 i
        have e1 : gt n.2.1 (q : Int) = n.2.1.getD q 0 := gt_nat n.2.1 q
        rw [if_pos (decide_eq_true (by omega)), if_pos g1, e0, e1, w64_succ (by omega), ih1 i (q + 1) hi (by omega) (by omega), show i - q = (i - (q + 1)) + 1 by omega, List.range'_succ, List.all_cons]
        simp only [neB]
        cases decide (n.2.1.getD q 0 = n.2.1.getD i 0) <;> rfl
      · rw [if_neg (by simp only [decide_eq_true_eq]; omega), w64_succ (by omega), ih0 (i + 1) (by omega) (by omega), show i - q = 0 by omega, show n.2.1.length - (i + 1) = n.2.1.length - i - 1 by omega]
        rfl
def innB (c : Cfg) (s : Sp) (n : Nd) : Bool := (List.range' 0 n.2.1.length).all (kidB c n.2.1) && restB c s n
theorem inner13_pure {c : Cfg} {s : Sp} {n : Nd} (hn : SmallN n) (h1 : s.1.length ≤ 300) (h2 : s.2.1.length ≤ 300) {k : Nat} (hk : 15000 < k) : sluicegateref13_inner.f k c s n = some (innB c s n) := by
  have h80 := hn.kids
  have := (inner13_kids (c := c) hn h1 h2 k).1 0 (by omega) (by omega)
  simpa [sluicegateref13_inner.f, innB] using this
/-- a node that is right -/
structure RightN (c : Cfg) (s : Sp) (n : Nd) : Prop where
  small : SmallN n
  cfg : OkC c
  lo : s.1.length ≤ 200
  hi : s.2.1.length ≤ 200
  leaf : n.1 = 0 → outB c s n = true
  node : n.1 ≠ 0 → 0 < n.1 ∧ innB c s n = true
theorem right13_pure {c : Cfg} {s : Sp} {n : Nd} (hn : SmallN n) (h1 : s.1.length ≤ 300) (h2 : s.2.1.length ≤ 300) {k : Nat} (hk : 15000 < k) :
    sluicegateref13_Right.f k c s n = some (if n.1 = 0 then outB c s n else decide (0 < n.1) && innB c s n) := by
  unfold sluicegateref13_Right.f
  by_cases h : n.1 = 0
  · rw [if_pos (decide_eq_true h), if_pos h]
    rw [show sluicegateref13_outer.f k _ _ _ = _ from outer13_pure (c := c) (s := s) hn (by omega) (by omega) (by omega)]
    rfl
  · rw [if_neg (by simp only [decide_eq_true_eq]; exact h), if_neg h]
    by_cases h0 : 0 < n.1
    · rw [if_pos (decide_eq_true h0), show sluicegateref13_inner.f k _ _ _ = _ from inner13_pure (c := c) (s := s) hn h1 h2 hk, decide_eq_true h0]
      rfl
    · rw [if_neg (by simp only [decide_eq_true_eq]; exact h0), decide_eq_false h0]
      rfl
theorem rise_get {l : List Msg} (h : riseM l = true) : ∀ {i j : Nat}, i < j → j < l.length → Op.bytesLess (l.getD i default).1 (l.getD j default).1 = true := by
  have step : ∀ i, i + 1 < l.length → riseM (l.drop i) = true → Op.bytesLess (l.getD i default).1 (l.getD (i + 1) default).1 = true ∧ riseM (l.drop (i + 1)) = true := fun i hi hr => by
    rw [riseM_drop hi, Bool.and_eq_true] at hr
    exact hr
  have all : ∀ i, i < l.length → riseM (l.drop i) = true := fun i => by
    induction i with
    | zero => intro _; simpa using h
    | succ i ih => intro hi; exact (step i hi (ih (by omega))).2
  intro i j hij hj
  induction j with
  | zero => omega
  | succ j ih =>
    have one := (step j hj (all j (by omega))).1
    by_cases e : i = j
    · subst e; exact one
    · exact bl_trans (ih (by omega) (by omega)) one
/-- the first that is not below -/
def AtLow (l : List Msg) (x : List UInt8) (c : Nat) : Prop := c ≤ l.length ∧ (∀ j, j < c → Op.bytesLess (l.getD j default).1 x = true) ∧ ∀ j, c ≤ j → j < l.length → Op.bytesLess (l.getD j default).1 x = false
theorem bufcompare_pure (m : Msg) (x : List UInt8) : buf_compare.f (m.1, m.2.1, m.2.2) x = some (scmp m.1 x) := rfl
theorem search_l0 {l : List Msg} {x : List UInt8} (hl : l.length ≤ 150) : ∀ (k a b : Nat), a ≤ b → b ≤ l.length → b - a < k → (∀ i j, i < j → j < l.length → Op.bytesLess (l.getD i default).1 (l.getD j default).1 = true) → (∀ j, j < a → Op.bytesLess (l.getD j default).1 x = true) → (∀ j, b ≤ j → j < l.length → Op.bytesLess (l.getD j default).1 x = false) →
    ∃ c : Nat, slices_BinarySearchFunc_api_Msg_api_Msg_string_buf_compare.l0 k l x (a : Int) (b : Int) = some ((c : Int), decide (c < l.length ∧ (l.getD c default).1 = x)) ∧ AtLow l x c
  | 0, a, b, _, _, h, _, _, _ => by omega
  | k + 1, a, b, hab, hb, hk, hr, h1, h2 => by
    rw [slices_BinarySearchFunc_api_Msg_api_Msg_string_buf_compare.l0]
    by_cases h : a < b
    · have w : w64 ((Int.fdiv (IntKind.u64.wrap ((w64 ((a : Int) + (b : Int))))) (2 ^ 1))) = (((a + b) / 2 : Nat) : Int) := by
        rw [w64_id (x := (a : Int) + (b : Int)) (by omega) (by omega)]
        have u : IntKind.u64.wrap ((a : Int) + (b : Int)) = (a : Int) + (b : Int) := by
          simp only [IntKind.wrap, IntKind.signed, IntKind.bits]
          simp
          omega
        rw [u, Int.fdiv_eq_ediv_of_nonneg _ (by decide)]
        rw [w64_id (by omega) (by omega)]
        omega
      have g1 : (0 : Int) ≤ (((a + b) / 2 : Nat) : Int) ∧ (((a + b) / 2 : Nat) : Int) < (l.length : Int) := by omega
      rw [if_pos (decide_eq_true (by omega)), w, if_pos g1, gt_nat, bufcompare_pure, Option.bind_some, w64_succ (by omega)]
      cases e : Op.bytesLess (l.getD ((a + b) / 2) default).1 x with
      | true =>
        rw [if_pos (decide_eq_true (scmp_lt.2 e))]
        refine search_l0 hl k _ b (by omega) hb (by omega) hr (fun j hj => ?_) h2
        by_cases q : j = (a + b) / 2
        · subst q; exact e
        · exact bl_trans (hr j ((a + b) / 2) (by omega) (by omega)) e
      | false =>
        rw [if_neg (by simp only [decide_eq_true_eq, scmp_lt, e]; simp)]
        refine search_l0 hl k a _ (by omega) (by omega) (by omega) hr h1 fun j hj hjl => ?_
        by_cases q : j = (a + b) / 2
        · subst q; exact e
        · exact bl_le_trans e (bl_asymm (hr ((a + b) / 2) j (by omega) hjl))
    · obtain rfl : a = b := by omega
      rw [if_neg (by simp only [decide_eq_true_eq]; omega)]
      refine ⟨a, ?_, hb, h1, h2⟩
      by_cases q : a < l.length
      · have g1 : (0 : Int) ≤ (a : Int) ∧ (a : Int) < (l.length : Int) := by omega
        rw [if_pos (decide_eq_true (by omega)), if_pos g1, gt_nat, bufcompare_pure, Option.bind_some]
        simp only [scmp_eq, q, true_and]
      · rw [if_neg (by simp only [decide_eq_true_eq]; omega)]
        simp [q]
theorem search_pure {l : List Msg} (x : List UInt8) (hl : l.length ≤ 150) (hr : riseM l = true) {k : Nat} (hk : 200 < k) : ∃ c : Nat, slices_BinarySearchFunc_api_Msg_api_Msg_string_buf_compare.f k l x = some ((c : Int), decide (c < l.length ∧ (l.getD c default).1 = x)) ∧ AtLow l x c :=
  search_l0 hl k 0 l.length (by omega) (by omega) (by omega) (fun i j => rise_get hr) (fun j hj => by omega) (fun j hj hjl => by omega)
theorem clone_pure {l : List Msg} (hl : l.length ≤ 1000000) : slices_Clone_api_Msg_api_Msg.f l = some l := by
  unfold slices_Clone_api_Msg_api_Msg.f
  rw [if_pos (by simp; omega)]
  rfl
theorem shared_l0 : ∀ (k : Nat) (a b : List UInt8) (i : Nat), a.length ≤ 4611686018427387904 → b.length ≤ 4611686018427387904 → i ≤ a.length → i ≤ b.length → a.length - i < k →
    lex_Shared.l0 k a b (i : Int) = some ((i + shd (a.drop i) (b.drop i) : Nat) : Int)
  | 0, a, b, i, _, _, _, _, h => by omega
  | k + 1, a, b, i, ha, hb, hia, hib, hk => by
    unfold lex_Shared.l0
    by_cases h1 : i < a.length ∧ i < b.length
    · have g0 : (i : Int) < (if (b.length : Int) < (a.length : Int) then (b.length : Int) else (a.length : Int)) := by split <;> omega
      have g1 : (0 : Int) ≤ (i : Int) ∧ (i : Int) < (a.length : Int) := by omega
      have g2 : (0 : Int) ≤ (i : Int) ∧ (i : Int) < (b.length : Int) := by omega
      have w : w64 ((i : Int) + 1) = ((i + 1 : Nat) : Int) := by rw [w64_id (by omega) (by omega)]; omega
      have ih := shared_l0 k a b (i + 1) ha hb (by omega) (by omega) (by omega)
      rw [if_pos (decide_eq_true g0), if_pos g1, if_pos g2, w, ih, drop_byte h1.1, drop_byte h1.2]
      simp only [gtb_eq, Int.toNat_natCast, shd, Bool.not_eq_true', decide_eq_false_iff_not]
      by_cases e : a.getD i 0 = b.getD i 0
      · rw [if_neg (fun h => h e), if_pos e]
        congr 2
        omega
      · rw [if_pos e, if_neg e]
        rfl
    · have g0 : ¬ (i : Int) < (if (b.length : Int) < (a.length : Int) then (b.length : Int) else (a.length : Int)) := by split <;> omega
      rw [if_neg (by simpa using g0)]
      have z : shd (a.drop i) (b.drop i) = 0 := by
        rcases Nat.lt_or_ge i a.length with h | h
        · rw [List.drop_eq_nil_of_le (show b.length ≤ i by omega)]; cases a.drop i <;> rfl
        · rw [List.drop_eq_nil_of_le (show a.length ≤ i by omega)]; rfl
      rw [z]
      congr 1
      split <;> omega
theorem shared_big {k : Nat} {a b : List UInt8} (ha : a.length ≤ 4611686018427387904) (hb : b.length ≤ 4611686018427387904) (hk : a.length < k) : lex_Shared.f k a b = some (shd a b : Int) := by
  have := shared_l0 k a b 0 ha hb (by omega) (by omega) (by omega)
  simpa [lex_Shared.f] using this
theorem cut_big {k : Nat} {a b : List UInt8} (ha : a.length ≤ 4611686018427387904) (hb : b.length ≤ 4611686018427387904) (hk : a.length < k) :
    lex_Cut.f k a b = some (if Op.bytesLess a b = true then (b.take (shd a b + 1), true) else ([], false)) := by
  unfold lex_Cut.f
  rw [shared_big ha hb hk]
  cases h : Op.bytesLess a b with
  | false => rfl
  | true =>
    have := shd_lt h
    have w : w64 ((shd a b : Int) + 1) = ((shd a b + 1 : Nat) : Int) := by rw [w64_id (by omega) (by omega)]; omega
    have g : (0 : Int) ≤ ((shd a b + 1 : Nat) : Int) ∧ ((shd a b + 1 : Nat) : Int) ≤ (b.length : Int) := by omega
    simp only [Bool.not_true, Bool.false_eq_true, if_false, Option.bind_some, w, if_pos g, Int.toNat_natCast, if_true]
theorem shared_pure {k : Nat} {a b : List UInt8} (ha : a.length ≤ 2000) (hb : b.length ≤ 2000) (hk : 2000 < k) : lex_Shared.f k a b = some (shd a b : Int) := shared_big (by omega) (by omega) (by omega)
theorem cut_pure {k : Nat} {a b : List UInt8} (ha : a.length ≤ 2000) (hb : b.length ≤ 2000) (hk : 2000 < k) :
    lex_Cut.f k a b = some (if Op.bytesLess a b = true then (b.take (shd a b + 1), true) else ([], false)) := cut_big (by omega) (by omega) (by omega)
theorem right14_pure (c : Cfg) (s : Sp) (n : Nd) {k : Nat} (hk : 20000 < k) : ∃ g, sluicegatelaw14_right.f k c s n = some g ∧ (g = true → RightN c s n) := by
  obtain ⟨g1, e1, d1⟩ := greatN_pure n (k := k) (by omega)
  obtain ⟨g2, e2, d2⟩ := right9_pure c (k := k) (by omega)
  unfold sluicegatelaw14_right.f
  rw [show sluicegatelaw13_Great.f k _ = _ from e1, Option.bind_some]
  cases g1 with
  | true => exact ⟨false, rfl, fun h => by cases h⟩
  | false =>
    have hn := d1 rfl
    rw [if_pos (by rfl)]
    by_cases h1 : s.1.length ≤ 200
    · rw [if_pos (decide_eq_true (by omega))]
      by_cases h2 : s.2.1.length ≤ 200
      · rw [if_pos (decide_eq_true (by omega)), show sluicegateref09_Right.f k _ = _ from e2, Option.bind_some]
        cases g2 with
        | false => exact ⟨false, rfl, fun h => by cases h⟩
        | true =>
          rw [if_pos rfl, show sluicegateref13_Right.f k _ _ _ = _ from right13_pure (c := c) (s := s) hn (by omega) (by omega) (by omega), Option.bind_some]
          refine ⟨_, rfl, fun h => ⟨hn, d2 rfl, h1, h2, fun h0 => ?_, fun h0 => ?_⟩⟩
          · rwa [if_pos h0] at h
          · rw [if_neg h0, Bool.and_eq_true] at h
            exact ⟨of_decide_eq_true h.1, h.2⟩
      · exact ⟨false, by rw [if_neg (by simp only [decide_eq_true_eq]; omega)], fun h => by cases h⟩
    · exact ⟨false, by rw [if_neg (by simp only [decide_eq_true_eq]; omega)], fun h => by cases h⟩
/-- where rows are alike -/
theorem same_loop {α : Type} [Inhabited α] [DecidableEq α] {F : Nat → Int → Option Bool} {a b : List α} {eqb : α → α → Bool} (he : ∀ x y, eqb x y = decide (x = y)) (hab : a.length = b.length) (ha : a.length ≤ 1000000)
    (hF : ∀ k i, F (k + 1) i = if (decide (i < (a.length : Int))) = true then (if 0 ≤ i ∧ i < (a.length : Int) then (if 0 ≤ i ∧ i < (b.length : Int) then (if (!(eqb (gt a i) (gt b i))) = true then (some false) else (F k (w64 (i + 1)))) else none) else none) else (some true)) :
    ∀ (k i : Nat), i ≤ a.length → a.length - i < k → F k (i : Int) = some (decide (a.drop i = b.drop i))
  | 0, i, _, h => by omega
  | k + 1, i, hi, hk => by
    rw [hF]
    by_cases h : i < a.length
    · have g1 : (0 : Int) ≤ (i : Int) ∧ (i : Int) < (a.length : Int) := by omega
      have g2 : (0 : Int) ≤ (i : Int) ∧ (i : Int) < (b.length : Int) := by omega
      rw [if_pos (decide_eq_true g1.2), if_pos g1, if_pos g2, he, w64_succ (by omega), same_loop he hab ha hF k (i + 1) (by omega) (by omega), drop_cons h, drop_cons (show i < b.length by omega), gt_nat, gt_nat]
      generalize a.getD i default = x
      generalize b.getD i default = y
      by_cases e : x = y
      · simp [e]
      · simp [e]
    · rw [if_neg (by simp; omega), List.drop_eq_nil_of_le (by omega), List.drop_eq_nil_of_le (by omega)]
      rfl
theorem blocks_pure {k : Nat} {a b : List Int} (ha : a.length ≤ 1000000) (hk : a.length < k) : sluicegateref13_Blocks.f k a b = some (decide (a = b)) := by
  unfold sluicegateref13_Blocks.f
  by_cases h : a.length = b.length
  · rw [if_neg (by simp [h])]
    have := same_loop (F := fun k i => sluicegateref13_Blocks.l0 k a b i) (eqb := fun x y => decide (x = y)) (fun x y => rfl) h ha (fun k i => rfl) k 0 (by omega) (by omega)
    simpa using this
  · rw [if_pos (by simp; omega)]
    have : a ≠ b := fun e => h (by rw [e])
    simp [this]
theorem same12_pure {k : Nat} {a b : List (List UInt8)} (ha : a.length ≤ 1000000) (hk : a.length < k) : sluicegateref12_Same.f k a b = some (decide (a = b)) := by
  unfold sluicegateref12_Same.f
  by_cases h : a.length = b.length
  · rw [if_neg (by simp [h])]
    have := same_loop (F := fun k i => sluicegateref12_Same.l0 k a b i) (eqb := fun x y => decide (x = y)) (fun x y => rfl) h ha (fun k i => rfl) k 0 (by omega) (by omega)
    simpa using this
  · rw [if_pos (by simp; omega)]
    have : a ≠ b := fun e => h (by rw [e])
    simp [this]
theorem pr_eq (x y : Pr) : (decide (x.1 = y.1) && (decide (x.2 = y.2) && true)) = decide (x = y) := by
  obtain ⟨a, b⟩ := x
  obtain ⟨d, e⟩ := y
  by_cases h1 : a = d <;> by_cases h2 : b = e <;> simp [h1, h2]
theorem same11_pure {k : Nat} {a b : List Pr} (ha : a.length ≤ 1000000) (hk : a.length < k) : sluicegateref11_Same.f k a b = some (decide (a = b)) := by
  unfold sluicegateref11_Same.f
  by_cases h : a.length = b.length
  · rw [if_neg (by simp [h])]
    have := same_loop (F := fun k i => sluicegateref11_Same.l0 k a b i) (eqb := fun x y => decide (x.1 = y.1) && (decide (x.2 = y.2) && true)) pr_eq h ha (fun k i => rfl) k 0 (by omega) (by omega)
    simpa using this
  · rw [if_pos (by simp; omega)]
    have : a ≠ b := fun e => h (by rw [e])
    simp [this]
/-- the rows are no longer than this -/
structure Short (n : Nd) : Prop where
  kids : n.2.1.length ≤ 1000
  pivs : n.2.2.1.length ≤ 1000
  buf : n.2.2.2.1.length ≤ 1000
  prs : n.2.2.2.2.length ≤ 1000
theorem SmallN.short {n : Nd} (h : SmallN n) : Short n := ⟨by have := h.kids; omega, by have := h.pivs; omega, by have := h.buf; omega, by have := h.prs; omega⟩
instance decNd4 : DecidableEq (List Msg × List Pr) := instDecidableEqProd
instance decNd3 : DecidableEq (List (List UInt8) × List Msg × List Pr) := instDecidableEqProd
instance decNd2 : DecidableEq (List Int × List (List UInt8) × List Msg × List Pr) := instDecidableEqProd
instance decNd1 : DecidableEq Nd := instDecidableEqProd
theorem same13_pure {a b : Nd} (h : Short a) {k : Nat} (hk : 2000 < k) : sluicegateref13_Same.f k a b = some (decide (a = b)) := by
  have h1 := h.kids
  have h2 := h.pivs
  have h3 := h.buf
  have h4 := h.prs
  unfold sluicegateref13_Same.f
  rw [blocks_pure (by omega) (by omega), same12_pure (by omega) (by omega), refSame_pure (by omega) (by omega), same11_pure (by omega) (by omega)]
  obtain ⟨a1, a2, a3, a4, a5⟩ := a
  obtain ⟨b1, b2, b3, b4, b5⟩ := b
  simp only [Option.bind_some, decide_eq_true_eq, Prod.mk.injEq]
  by_cases e1 : a1 = b1 <;> by_cases e2 : a2 = b2 <;> by_cases e3 : a3 = b3 <;> by_cases e4 : a4 = b4 <;> by_cases e5 : a5 = b5 <;> simp [e1, e2, e3, e4, e5]
theorem clone32_pure {l : List Int} (hl : l.length ≤ 1000000) : slices_Clone_uint32_uint32.f l = some l := by
  unfold slices_Clone_uint32_uint32.f
  rw [if_pos (by simp; omega)]
  rfl
theorem cloneS_pure {l : List (List UInt8)} (hl : l.length ≤ 1000000) : slices_Clone_string_string.f l = some l := by
  unfold slices_Clone_string_string.f
  rw [if_pos (by simp; omega)]
  rfl
theorem cloneP_pure {l : List Pr} (hl : l.length ≤ 1000000) : slices_Clone_api_Pair_api_Pair.f l = some l := by
  unfold slices_Clone_api_Pair_api_Pair.f
  rw [if_pos (by simp; omega)]
  rfl
theorem nodeClone_pure {a : Nd} (ha : Short a) : node_Clone.f a = some a := by
  have h1 := ha.kids
  have h2 := ha.pivs
  have h3 := ha.buf
  have h4 := ha.prs
  unfold node_Clone.f
  rw [clone32_pure (by omega), cloneS_pure (by omega), clone_pure (by omega), cloneP_pure (by omega)]
  rfl
/-- joined -/
def joinN (a : Nd) (p : List UInt8) (b : Nd) : Nd × Bool :=
  if a.1 = b.1 then ((a.1, a.2.1 ++ b.2.1, if 0 < a.1 then a.2.2.1 ++ [p] ++ b.2.2.1 else a.2.2.1, a.2.2.2.1 ++ b.2.2.2.1, a.2.2.2.2 ++ b.2.2.2.2), true) else ((0, [], [], [], []), false)
theorem join_pure {a b : Nd} (p : List UInt8) (ha : Short a) (hb : Short b) : cleave_Join.f a p b = some (joinN a p b) := by
  have h1 := ha.kids
  have h2 := ha.pivs
  have h3 := ha.buf
  have h4 := ha.prs
  have g1 := hb.kids
  have g2 := hb.pivs
  have g3 := hb.buf
  have g4 := hb.prs
  unfold cleave_Join.f joinN
  rw [show node_Clone.f (a.1, a.2.1, a.2.2.1, a.2.2.2.1, a.2.2.2.2) = _ from nodeClone_pure ha]
  simp only [Option.bind_some]
  by_cases e : a.1 = b.1
  · rw [if_neg (by simp [e]), if_pos e, if_pos (by omega), if_pos (by omega), if_pos (by omega)]
    by_cases e0 : 0 < a.1
    · rw [if_pos (decide_eq_true e0), if_pos (by simp; omega), if_pos (by simp; omega), if_pos e0]
    · rw [if_neg (by simpa using e0), if_neg e0]
  · rw [if_pos (by simp [e]), if_neg e]
theorem short_join {a b : Nd} (p : List UInt8) (ha : SmallN a) (hb : SmallN b) : Short (joinN a p b).1 := by
  have h1 := ha.kids
  have h2 := ha.pivs
  have h3 := ha.buf
  have h4 := ha.prs
  have g1 := hb.kids
  have g2 := hb.pivs
  have g3 := hb.buf
  have g4 := hb.prs
  unfold joinN
  by_cases e : a.1 = b.1
  · rw [if_pos e]
    refine ⟨?_, ?_, ?_, ?_⟩
    · simp; omega
    · by_cases e0 : 0 < a.1
      · simp [e0]; omega
      · simp [e0]; omega
    · simp; omega
    · simp; omega
  · rw [if_neg e]
    exact ⟨by simp, by simp, by simp, by simp⟩
def fitsN (c : Cfg) (a b : Nd) : Bool := decide (a.1 = b.1) && (if a.1 = 0 then decide (2 * ((a.2.2.2.2.length + b.2.2.2.2.length : Nat) : Int) ≤ c.2.2.2.2.2.1) else decide (2 * ((a.2.1.length + b.2.1.length : Nat) : Int) ≤ c.2.2.2.1) && decide (((a.2.2.2.1.length + b.2.2.2.1.length : Nat) : Int) ≤ c.2.2.2.2.1))
theorem fits_pure {c : Cfg} {a b : Nd} (hc : OkC c) (ha : Short a) (hb : Short b) : cleave_Fits.f c a b = some (fitsN c a b) := by
  have h1 := ha.kids
  have h3 := ha.buf
  have h4 := ha.prs
  have g1 := hb.kids
  have g3 := hb.buf
  have g4 := hb.prs
  have c1 := hc.leaf
  have c2 := hc.fan
  have c3 := hc.buf
  unfold cleave_Fits.f fitsN
  have q1 : Int.tdiv c.2.2.2.2.2.1 2 = c.2.2.2.2.2.1 / 2 := Int.tdiv_eq_ediv_of_nonneg (by omega)
  have q2 : Int.tdiv c.2.2.2.1 2 = c.2.2.2.1 / 2 := Int.tdiv_eq_ediv_of_nonneg (by omega)
  rw [q1, q2, w64_id (x := c.2.2.2.2.2.1 / 2) (by omega) (by omega), w64_id (x := c.2.2.2.1 / 2) (by omega) (by omega), w64_id (by omega) (by omega), w64_id (by omega) (by omega), w64_id (by omega) (by omega)]
  by_cases e : a.1 = b.1
  · rw [if_neg (by simp [e]), decide_eq_true e, Bool.true_and]
    by_cases e0 : a.1 = 0
    · rw [if_pos (decide_eq_true e0), if_pos e0]
      congr 2
      exact propext (by omega)
    · rw [if_neg (by simpa using e0), if_neg e0]
      by_cases e2 : 2 * ((a.2.1.length + b.2.1.length : Nat) : Int) ≤ c.2.2.2.1
      · rw [if_pos (decide_eq_true (by omega)), decide_eq_true e2, Bool.true_and]
        congr 2
      · rw [if_neg (by simp only [decide_eq_true_eq]; omega), decide_eq_false e2]
        rfl
  · rw [if_pos (by simp [e]), decide_eq_false e]
    rfl
theorem awake14_pure (k : Nat) : sluicegatelaw14_awake.f (k + 40) = some true := by rfl
def cutK (a b : List UInt8) : List UInt8 := if Op.bytesLess a b = true then b.take (shd a b + 1) else []
def pivN (n : Nd) : List UInt8 := n.2.2.1.getD ((n.2.1.length + 1) / 2 - 1) []
def zeroN : Nd := (0, [], [], [], [])
/-- halved, where the messages' first one that is not below the pivot is the c-th -/
def halveN (n : Nd) (c : Nat) : Nd × Nd × List UInt8 × Bool :=
  if n.1 = 0 then
    if n.2.2.2.2.length < 2 then (zeroN, zeroN, [], false)
    else ((0, [], [], [], n.2.2.2.2.take ((n.2.2.2.2.length + 1) / 2)), (0, [], [], [], n.2.2.2.2.drop ((n.2.2.2.2.length + 1) / 2)),
      cutK (n.2.2.2.2.getD ((n.2.2.2.2.length + 1) / 2 - 1) default).1 (n.2.2.2.2.getD ((n.2.2.2.2.length + 1) / 2) default).1, true)
  else if n.2.1.length < 2 then (zeroN, zeroN, [], false)
  else ((n.1, n.2.1.take ((n.2.1.length + 1) / 2), n.2.2.1.take ((n.2.1.length + 1) / 2 - 1), n.2.2.2.1.take c, []), (n.1, n.2.1.drop ((n.2.1.length + 1) / 2), n.2.2.1.drop ((n.2.1.length + 1) / 2), n.2.2.2.1.drop c, []),
      pivN n, true)
theorem leafhalve_pure {l : List Pr} (h150 : l.length ≤ 150) (hl : ∀ m ∈ l, m.1.length ≤ 200) {k : Nat} (hk : 3000 < k) : leaf_Halve.f k l = some (if l.length < 2 then ([], [], [], false) else (l.take ((l.length + 1) / 2), l.drop ((l.length + 1) / 2), cutK (l.getD ((l.length + 1) / 2 - 1) default).1 (l.getD ((l.length + 1) / 2) default).1, true)) := by
  unfold leaf_Halve.f
  by_cases h : l.length < 2
  · rw [if_pos (decide_eq_true (by omega)), if_pos h]
  · have k1 := hl _ (getD_mem (d := default) (show (l.length + 1) / 2 - 1 < l.length by omega))
    have k2 := hl _ (getD_mem (d := default) (show (l.length + 1) / 2 < l.length by omega))
    rw [if_neg (by simp only [decide_eq_true_eq]; omega), if_neg h, tdiv2 (by omega), w64_pred (by omega) (by omega), if_pos (by omega), if_pos (by omega), gt_nat, gt_nat, cut_pure (by omega) (by omega) (by omega), Option.bind_some, if_pos (by omega), if_pos (by omega), Int.toNat_natCast,
      cloneP_pure (by rw [List.length_take]; omega), Option.bind_some, cloneP_pure (by rw [List.length_drop]; omega), Option.bind_some]
    unfold cutK
    split <;> rfl
/-- a node as halving wants it -/
structure HalfN (n : Nd) : Prop where
  small : SmallN n
  node : n.1 ≠ 0 → n.2.2.1.length + 1 = n.2.1.length ∧ riseM n.2.2.2.1 = true
theorem split_pure {l : List Msg} (x : List UInt8) (h150 : l.length ≤ 150) (hr : riseM l = true) {k : Nat} (hk : 200 < k) : ∃ c, AtLow l x c ∧ buf_Split.f k l x = some (l.take c, l.drop c) := by
  obtain ⟨c, c1, c2⟩ := search_pure x h150 hr hk
  have c3 := c2.1
  refine ⟨c, c2, ?_⟩
  unfold buf_Split.f
  rw [c1, Option.bind_some, if_pos (by omega), if_pos (by omega), Int.toNat_natCast, clone_pure (by rw [List.length_take]; omega), Option.bind_some, clone_pure (by rw [List.length_drop]; omega), Option.bind_some]
theorem halve_pure {n : Nd} (hn : HalfN n) {k : Nat} (hk : 3000 < k) : ∃ c, (n.1 ≠ 0 → AtLow n.2.2.2.1 (pivN n) c) ∧ cleave_Halve.f k n = some (halveN n c) := by
  have hs := hn.small
  have h1 := hs.kids
  have h3 := hs.buf
  unfold cleave_Halve.f halveN
  by_cases e : n.1 = 0
  · refine ⟨0, fun h => absurd e h, ?_⟩
    rw [if_pos (decide_eq_true e), if_pos e, leafhalve_pure hs.prs hs.rk hk, Option.bind_some]
    by_cases h : n.2.2.2.2.length < 2
    · rw [if_pos h, if_pos h]
      rfl
    · rw [if_neg h, if_neg h]
  · obtain ⟨e1, e2⟩ := hn.node e
    rw [if_neg (by simpa using e)]
    obtain ⟨c, c1, c2⟩ := split_pure (pivN n) h3 e2 (k := k) (by omega)
    refine ⟨c, fun _ => c1, ?_⟩
    rw [if_neg e]
    by_cases h : n.2.1.length < 2
    · rw [if_pos (decide_eq_true (by omega)), if_pos h]
      rfl
    · have e0 : gt n.2.2.1 (((n.2.1.length + 1) / 2 - 1 : Nat) : Int) = pivN n := gt_nat _ _
      rw [if_neg (by simp only [decide_eq_true_eq]; omega), if_neg h, tdiv2 (by omega), w64_pred (by omega) (by omega), if_pos (by omega), e0, c2, Option.bind_some, if_pos (by omega), if_pos (by omega), Int.toNat_natCast, Int.toNat_natCast, clone32_pure (by rw [List.length_take]; omega), Option.bind_some, cloneS_pure (by rw [List.length_take]; omega), Option.bind_some,
        if_pos (by omega), if_pos (by omega), clone32_pure (by rw [List.length_drop]; omega), Option.bind_some, cloneS_pure (by rw [List.length_drop]; omega), Option.bind_some]
theorem RightN.flat {c : Cfg} {s : Sp} {n : Nd} (h : RightN c s n) : ¬ 0 < n.1 → n.2.2.1 = [] := fun h0 => by
  by_cases e : n.1 = 0
  · have := h.leaf e
    simp only [outB, Bool.and_eq_true, decide_eq_true_eq] at this
    exact this.2.2.1
  · exact absurd (h.node e).1 h0
theorem RightN.half {c : Cfg} {s : Sp} {n : Nd} (h : RightN c s n) : HalfN n := ⟨h.small, fun e => by
  have := (h.node e).2
  simp only [innB, restB, tailB, Bool.and_eq_true, decide_eq_true_eq] at this
  exact ⟨this.2.2.2.2.2.2.2.1, this.2.2.2.2.2.2.2.2.2.2⟩⟩
theorem short_halve {n : Nd} (h : SmallN n) (c : Nat) : Short (halveN n c).1 ∧ Short (halveN n c).2.1 := by
  have h1 := h.kids
  have h2 := h.pivs
  have h3 := h.buf
  have h4 := h.prs
  unfold halveN
  split
  · split
    · exact ⟨⟨by simp [zeroN], by simp [zeroN], by simp [zeroN], by simp [zeroN]⟩, ⟨by simp [zeroN], by simp [zeroN], by simp [zeroN], by simp [zeroN]⟩⟩
    · exact ⟨⟨by simp, by simp, by simp, by simp; omega⟩, ⟨by simp, by simp, by simp, by simp; omega⟩⟩
  · split
    · exact ⟨⟨by simp [zeroN], by simp [zeroN], by simp [zeroN], by simp [zeroN]⟩, ⟨by simp [zeroN], by simp [zeroN], by simp [zeroN], by simp [zeroN]⟩⟩
    · exact ⟨⟨by simp; omega, by simp; omega, by simp; omega, by simp⟩, ⟨by simp; omega, by simp; omega, by simp; omega, by simp⟩⟩
theorem RightN.nopairs {c : Cfg} {s : Sp} {n : Nd} (h : RightN c s n) (e : n.1 ≠ 0) : n.2.2.2.2 = [] := by
  have := (h.node e).2
  simp only [innB, restB, tailB, Bool.and_eq_true, decide_eq_true_eq] at this
  exact this.2.2.2.2.1
theorem RightN.leafs {c : Cfg} {s : Sp} {n : Nd} (h : RightN c s n) (e : n.1 = 0) : n.2.1 = [] ∧ n.2.2.1 = [] ∧ n.2.2.2.1 = [] := by
  have := h.leaf e
  simp only [outB, Bool.and_eq_true, decide_eq_true_eq] at this
  exact ⟨this.2.1, this.2.2.1, this.2.2.2.1⟩
theorem join_halve {c : Cfg} {s : Sp} {n : Nd} (h : RightN c s n) (i : Nat) (ok : (halveN n i).2.2.2 = true) : joinN (halveN n i).1 (halveN n i).2.2.1 (halveN n i).2.1 = (n, true) := by
  unfold halveN at ok ⊢
  by_cases e : n.1 = 0
  · obtain ⟨e1, e2, e3⟩ := h.leafs e
    rw [if_pos e] at ok ⊢
    by_cases h2 : n.2.2.2.2.length < 2
    · rw [if_pos h2] at ok; cases ok
    · rw [if_neg h2]
      obtain ⟨n1, n2, n3, n4, n5⟩ := n
      simp only at e e1 e2 e3
      subst e e1 e2 e3
      simp [joinN]
  · have e0 := (h.node e).1
    have e5 := h.nopairs e
    have hh := (h.half.node e).1
    rw [if_neg e] at ok ⊢
    by_cases h2 : n.2.1.length < 2
    · rw [if_pos h2] at ok; cases ok
    · rw [if_neg h2]
      have q : n.2.2.1.take ((n.2.1.length + 1) / 2 - 1) ++ [pivN n] ++ n.2.2.1.drop ((n.2.1.length + 1) / 2) = n.2.2.1 := by
        have := take_get (l := n.2.2.1) (i := (n.2.1.length + 1) / 2 - 1) (by omega)
        have e1 : (n.2.1.length + 1) / 2 - 1 + 1 = (n.2.1.length + 1) / 2 := by omega
        rw [e1] at this
        have e2 : n.2.2.1.getD ((n.2.1.length + 1) / 2 - 1) default = pivN n := rfl
        rw [e2] at this
        rw [← this, List.take_append_drop]
      have e1 : (n.2.1.take ((n.2.1.length + 1) / 2)) ++ (n.2.1.drop ((n.2.1.length + 1) / 2)) = n.2.1 := List.take_append_drop _ _
      have e2 : (n.2.2.2.1.take i) ++ (n.2.2.2.1.drop i) = n.2.2.2.1 := List.take_append_drop _ _
      unfold joinN
      simp only [if_true, e0, e1, e2, q, List.nil_append]
      obtain ⟨n1, n2, n3, n4, n5⟩ := n
      simp only at e5
      rw [e5]
theorem halve_ok {c : Cfg} {s : Sp} {n : Nd} (h : RightN c s n) (i : Nat) : (halveN n i).2.2.2 = false → (n.1 = 0 ∧ n.2.2.2.2.length < 2 ∨ 0 < n.1 ∧ n.2.1.length < 2) := fun ok => by
  unfold halveN at ok
  by_cases e : n.1 = 0
  · rw [if_pos e] at ok
    by_cases h2 : n.2.2.2.2.length < 2
    · exact .inl ⟨e, h2⟩
    · rw [if_neg h2] at ok; cases ok
  · rw [if_neg e] at ok
    by_cases h2 : n.2.1.length < 2
    · exact .inr ⟨(h.node e).1, h2⟩
    · rw [if_neg h2] at ok; cases ok
theorem rises_K : ∀ l, rises l = riseK (fun x => x) l
  | [] => rfl
  | [_] => rfl
  | a :: b :: r => by rw [rises, riseK, rises_K (b :: r)]
theorem riseM_K : ∀ l : List Msg, riseM l = riseK (fun x => x.1) l
  | [] => rfl
  | [_] => rfl
  | a :: b :: r => by rw [riseM, riseK, riseM_K (b :: r)]
theorem riseP_K : ∀ l : List Pr, riseP l = riseK (fun x => x.1) l
  | [] => rfl
  | [_] => rfl
  | a :: b :: r => by rw [riseP, riseK, riseP_K (b :: r)]
theorem riseK_take {α : Type} {key : α → List UInt8} {l : List α} (h : riseK key l = true) (n : Nat) : riseK key (l.take n) = true := (riseK_iff key _).2 (((riseK_iff key l).1 h).sublist (List.take_sublist n l))
theorem riseK_drop {α : Type} {key : α → List UInt8} {l : List α} (h : riseK key l = true) (n : Nat) : riseK key (l.drop n) = true := (riseK_iff key _).2 (((riseK_iff key l).1 h).sublist (List.drop_sublist n l))
theorem inS_iff {s : Sp} {x : List UInt8} : inS s x = true ↔ Op.bytesLess x s.1 = false ∧ (s.2.2 = true ∨ Op.bytesLess x s.2.1 = true) := by
  simp [inS]
theorem SmallN.sub {n m : Nd} (h : SmallN n) (h1 : m.2.1.length ≤ n.2.1.length) (h2 : m.2.2.1.Sublist n.2.2.1) (h3 : m.2.2.2.1.Sublist n.2.2.2.1) (h4 : m.2.2.2.2.Sublist n.2.2.2.2) : SmallN m :=
  ⟨by have := h.kids; omega, by have := h.pivs; have := h2.length_le; omega, by have := h.buf; have := h3.length_le; omega, by have := h.prs; have := h4.length_le; omega, fun p hp => h.pk p (h2.subset hp), fun p hp => h.bk p (h3.subset hp), fun p hp => h.rk p (h4.subset hp)⟩
/-- what is shown of halves -/
structure CutOk (c : Cfg) (s : Sp) (a b : Nd) (p : List UInt8) : Prop where
  inn : inS s p = true
  ne : p ≠ s.1
  key : keyB c p = true
  plen : p.length ≤ 200
  sa : SmallN a
  sb : SmallN b
  ra : (if a.1 = 0 then outB c (s.1, p, false) a else decide (0 < a.1) && innB c (s.1, p, false) a) = true
  rb : (if b.1 = 0 then outB c (p, s.2.1, s.2.2) b else decide (0 < b.1) && innB c (p, s.2.1, s.2.2) b) = true
theorem cut_leaf {c : Cfg} {s : Sp} {n : Nd} (h : RightN c s n) (e : n.1 = 0) (h2 : ¬ n.2.2.2.2.length < 2) : CutOk c s (0, [], [], [], n.2.2.2.2.take ((n.2.2.2.2.length + 1) / 2)) (0, [], [], [], n.2.2.2.2.drop ((n.2.2.2.2.length + 1) / 2))
    (cutK (n.2.2.2.2.getD ((n.2.2.2.2.length + 1) / 2 - 1) default).1 (n.2.2.2.2.getD ((n.2.2.2.2.length + 1) / 2) default).1) := by
  have ho := h.leaf e
  simp only [outB, Bool.and_eq_true, decide_eq_true_eq, List.all_eq_true] at ho
  obtain ⟨hp, h3, h4, h5, h6, h7⟩ := ho
  rw [riseP_K] at h7
  have hr := (riseK_iff _ _).1 h7
  have hh : (n.2.2.2.2.length + 1) / 2 < n.2.2.2.2.length := by omega
  generalize hH : (n.2.2.2.2.length + 1) / 2 = H at hh ⊢
  have hH1 : 1 ≤ H := by omega
  have lt : Op.bytesLess (n.2.2.2.2.getD (H - 1) default).1 (n.2.2.2.2.getD H default).1 = true := RiseK.get _ hr (by omega) hh default
  have m1 : n.2.2.2.2.getD (H - 1) default ∈ n.2.2.2.2 := getD_mem (by omega)
  have m2 : n.2.2.2.2.getD H default ∈ n.2.2.2.2 := getD_mem hh
  have all : ∀ i, i < n.2.2.2.2.length → prB c s (n.2.2.2.2.getD i default) = true := fun i hi => hp _ (getD_mem hi)
  have ri : ∀ i j, i < j → j < n.2.2.2.2.length → Op.bytesLess (n.2.2.2.2.getD i default).1 (n.2.2.2.2.getD j default).1 = true := fun i j hij hj => RiseK.get _ hr hij hj default
  have p1 := hp _ m1
  have p2 := hp _ m2
  have l2 := h.small.rk _ m2
  simp only [prB, Bool.and_eq_true, decide_eq_true_eq, inS_iff] at p1 p2
  generalize hk1 : (n.2.2.2.2.getD (H - 1) default).1 = k1 at lt p1
  generalize hk2 : (n.2.2.2.2.getD H default).1 = k2 at lt p2 l2
  have hs := shd_lt lt
  have eP : cutK k1 k2 = k2.take (shd k1 k2 + 1) := by unfold cutK; rw [if_pos lt]
  have lo : Op.bytesLess k1 (cutK k1 k2) = true := by rw [eP]; exact bl_take_next lt
  have hi : Op.bytesLess k2 (cutK k1 k2) = false := by rw [eP]; exact bl_take_le _ _
  have len : (cutK k1 k2).length = shd k1 k2 + 1 := by rw [eP, List.length_take]; omega
  generalize cutK k1 k2 = p at lo hi len
  have kl := p2.1
  simp only [keyB, decide_eq_true_eq] at kl
  have nlo : Op.bytesLess s.1 p = true := bl_le_lt p1.2.1.1 lo
  have phi : s.2.2 = true ∨ Op.bytesLess p s.2.1 = true := by
    rcases p2.2.1.2 with t | t
    · exact .inl t
    · exact .inr (bl_le_lt hi t)
  refine ⟨inS_iff.2 ⟨bl_asymm nlo, phi⟩, (fun q => by rw [q, bl_irr] at nlo; cases nlo), by simp only [keyB, decide_eq_true_eq]; omega, by omega,
    h.small.sub (by simp) (by simp) (by simp) (List.take_sublist _ _), h.small.sub (by simp) (by simp) (by simp) (List.drop_sublist _ _), ?_, ?_⟩
  · simp only [if_true, outB, Bool.and_eq_true, decide_eq_true_eq, List.all_eq_true, riseP_K]
    refine ⟨fun x hx => ?_, trivial, trivial, trivial, by rw [List.length_take]; omega, riseK_take h7 _⟩
    obtain ⟨i, hi', rfl⟩ := mem_getD hx default
    rw [List.length_take] at hi'
    rw [getD_take (by omega)]
    have a := all i (by omega)
    simp only [prB, Bool.and_eq_true, decide_eq_true_eq, inS_iff] at a ⊢
    refine ⟨a.1, ⟨a.2.1.1, .inr ?_⟩, a.2.2⟩
    by_cases q : i = H - 1
    · subst q; rw [hk1]; exact lo
    · exact bl_trans (by rw [← hk1]; exact ri i (H - 1) (by omega) (by omega)) lo
  · simp only [if_true, outB, Bool.and_eq_true, decide_eq_true_eq, List.all_eq_true, riseP_K]
    refine ⟨fun x hx => ?_, trivial, trivial, trivial, by rw [List.length_drop]; omega, riseK_drop h7 _⟩
    obtain ⟨i, hi', rfl⟩ := mem_getD hx default
    rw [List.length_drop] at hi'
    rw [getD_drop]
    have a := all (H + i) (by omega)
    simp only [prB, Bool.and_eq_true, decide_eq_true_eq, inS_iff] at a ⊢
    refine ⟨a.1, ⟨?_, a.2.1.2⟩, a.2.2⟩
    by_cases q : i = 0
    · subst q; rw [Nat.add_zero, hk2]; exact hi
    · exact bl_le_trans hi (bl_asymm (by rw [← hk2]; exact ri H (H + i) (by omega) (by omega)))
theorem cut_node {c : Cfg} {s : Sp} {n : Nd} (h : RightN c s n) (e : n.1 ≠ 0) (h2 : ¬ n.2.1.length < 2) {i : Nat} (hi : AtLow n.2.2.2.1 (pivN n) i) :
    CutOk c s (n.1, n.2.1.take ((n.2.1.length + 1) / 2), n.2.2.1.take ((n.2.1.length + 1) / 2 - 1), n.2.2.2.1.take i, []) (n.1, n.2.1.drop ((n.2.1.length + 1) / 2), n.2.2.1.drop ((n.2.1.length + 1) / 2), n.2.2.2.1.drop i, []) (pivN n) := by
  obtain ⟨e0, ho⟩ := h.node e
  simp only [innB, restB, tailB, Bool.and_eq_true, decide_eq_true_eq, List.all_eq_true] at ho
  obtain ⟨kd, pk, bm, t1, t2, t3, t4, t5, ⟨t6, t7⟩, t8, t9⟩ := ho
  obtain ⟨i1, i2, i3⟩ := hi
  rw [rises_K] at t7
  rw [riseM_K] at t9
  have hr := (riseK_iff _ _).1 t7
  have hh : (n.2.1.length + 1) / 2 < n.2.1.length := by omega
  have eP : pivN n = n.2.2.1.getD ((n.2.1.length + 1) / 2 - 1) [] := rfl
  generalize hH : (n.2.1.length + 1) / 2 = H at hh eP ⊢
  have hH1 : 1 ≤ H := by omega
  have mp : pivN n ∈ n.2.2.1 := by rw [eP]; exact getD_mem (by omega)
  have ri : ∀ i j, i < j → j < n.2.2.1.length → Op.bytesLess (n.2.2.1.getD i []) (n.2.2.1.getD j []) = true := fun i j hij hj => RiseK.get _ hr hij hj []
  generalize pivN n = p at eP mp i2 i3
  have pp := t6 p mp
  simp only [piv, Bool.and_eq_true, Bool.not_eq_true', decide_eq_false_iff_not, inS_iff] at pp
  have kp := pk p mp
  have l2 := h.small.pk p mp
  refine ⟨inS_iff.2 pp.1, pp.2, kp, l2, h.small.sub (by simp; omega) (List.take_sublist _ _) (List.take_sublist _ _) (by simp), h.small.sub (by simp) (List.drop_sublist _ _) (List.drop_sublist _ _) (by simp), ?_, ?_⟩
  · rw [if_neg e]
    simp only [innB, restB, tailB, Bool.and_eq_true, decide_eq_true_eq, List.all_eq_true, rises_K, riseM_K]
    refine ⟨e0, fun j hj => ?_, fun x hx => pk x (List.mem_of_mem_take hx), fun x hx => ?_, t1, trivial, by rw [List.length_take]; omega, by rw [List.length_take]; omega, by rw [List.length_take, List.length_take]; omega, ⟨fun x hx => ?_, riseK_take t7 _⟩, by rw [List.length_take]; omega, riseK_take t9 _⟩
    · have hj' := List.mem_range'_1.1 hj
      rw [List.length_take] at hj'
      have a := kd j (List.mem_range'_1.2 (by omega))
      simp only [kidB, neB, Bool.and_eq_true, List.all_eq_true, getD_take (l := n.2.1) (d := 0) (show j < H by omega)] at a ⊢
      refine ⟨a.1, a.2.1, fun q hq => ?_⟩
      have hq' := List.mem_range'_1.1 hq
      rw [getD_take (by omega)]
      exact a.2.2 q hq
    · obtain ⟨j, hj, rfl⟩ := mem_getD hx default
      rw [List.length_take] at hj
      rw [getD_take (by omega)]
      have a := bm _ (getD_mem (d := default) (show j < n.2.2.2.1.length by omega))
      simp only [msgB, Bool.and_eq_true, inS_iff] at a ⊢
      exact ⟨a.1, ⟨a.2.1.1, .inr (i2 j (by omega))⟩, a.2.2⟩
    · obtain ⟨j, hj, rfl⟩ := mem_getD hx []
      rw [List.length_take] at hj
      rw [getD_take (by omega)]
      have a := t6 _ (getD_mem (d := []) (show j < n.2.2.1.length by omega))
      simp only [piv, Bool.and_eq_true, inS_iff] at a ⊢
      exact ⟨⟨a.1.1, .inr (by rw [eP]; exact ri j (H - 1) (by omega) (by omega))⟩, a.2⟩
  · rw [if_neg e]
    simp only [innB, restB, tailB, Bool.and_eq_true, decide_eq_true_eq, List.all_eq_true, rises_K, riseM_K]
    refine ⟨e0, fun j hj => ?_, fun x hx => pk x (List.mem_of_mem_drop hx), fun x hx => ?_, t1, trivial, by rw [List.length_drop]; omega, by rw [List.length_drop]; omega, by rw [List.length_drop, List.length_drop]; omega, ⟨fun x hx => ?_, riseK_drop t7 _⟩, by rw [List.length_drop]; omega, riseK_drop t9 _⟩
    · have hj' := List.mem_range'_1.1 hj
      rw [List.length_drop] at hj'
      have a := kd (H + j) (List.mem_range'_1.2 (by omega))
      simp only [kidB, neB, Bool.and_eq_true, List.all_eq_true, getD_drop] at a ⊢
      refine ⟨a.1, a.2.1, fun q hq => ?_⟩
      have hq' := List.mem_range'_1.1 hq
      exact a.2.2 (H + q) (List.mem_range'_1.2 (by omega))
    · obtain ⟨j, hj, rfl⟩ := mem_getD hx default
      rw [List.length_drop] at hj
      rw [getD_drop]
      have a := bm _ (getD_mem (d := default) (show i + j < n.2.2.2.1.length by omega))
      simp only [msgB, Bool.and_eq_true, inS_iff] at a ⊢
      exact ⟨a.1, ⟨i3 (i + j) (by omega) (by omega), a.2.1.2⟩, a.2.2⟩
    · obtain ⟨j, hj, rfl⟩ := mem_getD hx []
      rw [List.length_drop] at hj
      rw [getD_drop]
      have a := t6 _ (getD_mem (d := []) (show H + j < n.2.2.1.length by omega))
      have b := ri (H - 1) (H + j) (by omega) (by omega)
      rw [← eP] at b
      simp only [piv, Bool.and_eq_true, Bool.not_eq_true', decide_eq_false_iff_not, inS_iff] at a ⊢
      exact ⟨⟨bl_asymm b, a.1.2⟩, fun q => by rw [q, bl_irr] at b; cases b⟩
theorem cut_ok {c : Cfg} {s : Sp} {n : Nd} (h : RightN c s n) {i : Nat} (hi : n.1 ≠ 0 → AtLow n.2.2.2.1 (pivN n) i) (ok : (halveN n i).2.2.2 = true) : CutOk c s (halveN n i).1 (halveN n i).2.1 (halveN n i).2.2.1 := by
  unfold halveN at ok ⊢
  by_cases e : n.1 = 0
  · rw [if_pos e] at ok ⊢
    by_cases h2 : n.2.2.2.2.length < 2
    · rw [if_pos h2] at ok; cases ok
    · rw [if_neg h2]
      exact cut_leaf h e h2
  · rw [if_neg e] at ok ⊢
    by_cases h2 : n.2.1.length < 2
    · rw [if_pos h2] at ok; cases ok
    · rw [if_neg h2]
      exact cut_node h e h2 (hi e)
theorem CleaveRight_pure {p0 p1 p2 : Prop} (c : Cfg) (s : Sp) (n : Nd) (_ : p0) (_ : p1) (_ : p2) : ∃ k, sluicegatelaw14_CleaveRight.f k c s n = some true := by
  refine ⟨30000 + 40, ?_⟩
  unfold sluicegatelaw14_CleaveRight.f
  obtain ⟨g1, e1, d1⟩ := right14_pure c s n (k := 30000 + 40) (by omega)
  rw [show sluicegatelaw14_right.f (30000 + 40) _ _ _ = _ from e1, awake14_pure]
  cases g1 with
  | false => rfl
  | true =>
    have hn := d1 rfl
    obtain ⟨i, i1, i2⟩ := halve_pure hn.half (k := 30000 + 40) (by omega)
    obtain ⟨z1, z2⟩ := short_halve hn.small i
    simp only [Option.bind_some, Bool.not_true, Bool.false_eq_true, if_false]
    rw [show cleave_Halve.f (30000 + 40) _ = _ from i2, Option.bind_some]
    cases ok : (halveN n i).2.2.2 with
    | false => rfl
    | true =>
      have hc := cut_ok hn i1 ok
      have hlo := hn.lo
      have hhi := hn.hi
      have hpl := hc.plen
      have q1 : sluicegateref01_In.f (30000 + 40) (s.1, s.2.1, s.2.2) (halveN n i).2.2.1 = some (inS s (halveN n i).2.2.1) := refIn_pure (s := s) (by omega) (by omega) (by omega) (by omega)
      rw [if_neg (by simp), q1, hc.inn, Option.bind_some, if_neg (by simp), if_neg (by simpa using hc.ne), show sluicegateref13_Key.f _ _ = _ from key13_pure c _, hc.key, Option.bind_some, if_neg (by simp),
        show sluicegateref13_Right.f (30000 + 40) _ (s.1, (halveN n i).2.2.1, false) _ = _ from right13_pure (c := c) (s := (s.1, (halveN n i).2.2.1, false)) hc.sa (by show s.1.length ≤ 300; omega) (by show (halveN n i).2.2.1.length ≤ 300; omega) (by omega), hc.ra, Option.bind_some, if_neg (by simp),
        show sluicegateref13_Right.f (30000 + 40) _ ((halveN n i).2.2.1, s.2.1, s.2.2) _ = _ from right13_pure (c := c) (s := ((halveN n i).2.2.1, s.2.1, s.2.2)) hc.sb (by show (halveN n i).2.2.1.length ≤ 300; omega) (by show s.2.1.length ≤ 300; omega) (by omega), hc.rb, Option.bind_some, if_neg (by simp),
        show cleave_Join.f ((halveN n i).1.1, _) _ _ = _ from join_pure (halveN n i).2.2.1 z1 z2, join_halve hn i ok, Option.bind_some,
        show cleave_Fits.f _ ((halveN n i).1.1, _) _ = _ from fits_pure (c := c) hn.cfg z1 z2, Option.bind_some]
      have q2 : sluicegateref13_Right.f (30000 + 40) (c.1, c.2.1, c.2.2.1, c.2.2.2.1, c.2.2.2.2.1, c.2.2.2.2.2.1, c.2.2.2.2.2.2.1, c.2.2.2.2.2.2.2) (s.1, s.2.1, s.2.2) ((n, true).1.1, (n, true).1.2.1, (n, true).1.2.2.1, (n, true).1.2.2.2.1, (n, true).1.2.2.2.2) = some true := by
        have := right13_pure (c := c) (s := s) hn.small (by omega) (by omega) (k := 30000 + 40) (by omega)
        refine (show sluicegateref13_Right.f (30000 + 40) _ _ _ = _ from this).trans ?_
        by_cases e : n.1 = 0
        · rw [if_pos e, hn.leaf e]
        · obtain ⟨e0, e1⟩ := hn.node e
          rw [if_neg e, e1, decide_eq_true e0]
          rfl
      rw [q2]
      cases fitsN c (halveN n i).1 (halveN n i).2.1 <;> rfl
end Go.SK.T
