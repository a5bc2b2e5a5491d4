/- The plain law behind CleaveHalves: what its code computes is true for all settings, spans and nodes. -/
import Derived.Test.YtjnifnkbphggkaaXCleaveHalvesF1
set_option linter.unusedVariables false
set_option linter.unusedSimpArgs false
namespace Go.SK.T
open Go Go.SK
theorem compare_l0 : ∀ (k : Nat) (a b : List UInt8) (i : Nat), a.length ≤ 4611686018427387904 → b.length ≤ 4611686018427387904 → i ≤ a.length → i ≤ b.length → a.length - i < k →
    sluicegateref01_Compare.l0 k a b (i : Int) = some (scmp (a.drop i) (b.drop i))
  | 0, a, b, i, _, _, _, _, h => by omega
  | k + 1, a, b, i, ha, hb, hia, hib, hk => by
    unfold sluicegateref01_Compare.l0
    by_cases h1 : i < a.length
    · by_cases h2 : i < b.length
      · have g1 : (0 : Int) ≤ (i : Int) ∧ (i : Int) < (a.length : Int) := by omega
        have g2 : (0 : Int) ≤ (i : Int) ∧ (i : Int) < (b.length : Int) := by omega
        have w : w64 ((i : Int) + 1) = ((i + 1 : Nat) : Int) := by rw [w64_id (by omega) (by omega)]; omega
        have ih := compare_l0 k a b (i + 1) ha hb (by omega) (by omega) (by omega)
        simp only [g1.2, g2.2, g1, g2, decide_true, if_true, and_self, w, ih, gtb_lt, Int.toNat_natCast, drop_byte h1, drop_byte h2, scmp_cons, decide_eq_true_eq]
        split
        · rfl
        · split <;> rfl
      · have g1 : (i : Int) < (a.length : Int) := by omega
        have g2 : ¬ (i : Int) < (b.length : Int) := by omega
        have e : b.drop i = [] := List.drop_eq_nil_of_le (by omega)
        have z1 : ¬ (a.length : Int) < (b.length : Int) := by omega
        have z2 : (b.length : Int) < (a.length : Int) := by omega
        have z3 : ¬ (a.drop i).length = 0 := by rw [List.length_drop]; omega
        simp [g1, g2, e, z1, z2, scmp_nil_right, z3]
        omega
    · have g1 : ¬ (i : Int) < (a.length : Int) := by omega
      have e : a.drop i = [] := List.drop_eq_nil_of_le (by omega)
      have z : (b.drop i).length = b.length - i := List.length_drop ..
      simp only [g1, e, scmp_nil_left, z, decide_false, Bool.false_eq_true, if_false, decide_eq_true_eq]
      by_cases h2 : b.length = i
      · have z1 : ¬ (a.length : Int) < (b.length : Int) := by omega
        have z2 : ¬ (b.length : Int) < (a.length : Int) := by omega
        have h3 : a.length = i := by omega
        simp [h2, h3]
      · have z1 : (a.length : Int) < (b.length : Int) := by omega
        have z2 : ¬ b.length - i = 0 := by omega
        simp [z1, z2]
theorem compare_pure {k : Nat} {a b : List UInt8} (ha : a.length ≤ 2000) (hb : b.length ≤ 2000) (hk : 2000 < k) : sluicegateref01_Compare.f k a b = some (scmp a b) := by
  have := compare_l0 k a b 0 (by omega) (by omega) (by omega) (by omega) (by omega)
  simpa [sluicegateref01_Compare.f] using this
abbrev Msg := List UInt8 × Bool × List UInt8
theorem msg_eq (x y : Msg) : (decide (x.1 = y.1) && ((x.2.1 == y.2.1) && (decide (x.2.2 = y.2.2) && true))) = decide (x = y) := by
  obtain ⟨a, b, c⟩ := x
  obtain ⟨d, e, f⟩ := y
  by_cases h1 : a = d <;> by_cases h2 : b = e <;> by_cases h3 : c = f <;> simp [h1, h2, h3]
theorem refSame_l0 : ∀ (k : Nat) (a b : List Msg) (i : Nat), a.length ≤ 1000000 → a.length = b.length → i ≤ a.length → a.length - i < k → sluicegateref10_Same.l0 k a b (i : Int) = some (decide (a.drop i = b.drop i))
  | 0, a, b, i, _, _, _, h => by omega
  | k + 1, a, b, i, ha, hab, hi, hk => by
    rw [sluicegateref10_Same.l0]
    by_cases h : i < a.length
    · have g1 : (0 : Int) ≤ (i : Int) ∧ (i : Int) < (a.length : Int) := by omega
      have g2 : (0 : Int) ≤ (i : Int) ∧ (i : Int) < (b.length : Int) := by omega
      rw [if_pos (decide_eq_true g1.2), if_pos g1, if_pos g2, msg_eq, w64_succ (by omega), refSame_l0 k a b (i + 1) ha hab (by omega) (by omega), drop_cons h, drop_cons (show i < b.length by omega), gt_nat, gt_nat]
      generalize a.getD i default = x
      generalize b.getD i default = y
      by_cases e : x = y
      · simp [e]
      · simp [e]
    · rw [if_neg (by simp; omega), List.drop_eq_nil_of_le (by omega), List.drop_eq_nil_of_le (by omega)]
      rfl
theorem refSame_pure {k : Nat} {a b : List Msg} (ha : a.length ≤ 1000000) (hk : a.length < k) : sluicegateref10_Same.f k a b = some (decide (a = b)) := by
  unfold sluicegateref10_Same.f
  by_cases h : a.length = b.length
  · rw [if_neg (by simp [h])]
    have := refSame_l0 k a b 0 ha h (by omega) (by omega)
    simpa using this
  · rw [if_pos (by simp; omega)]
    have : a ≠ b := fun e => h (by rw [e])
    simp [this]
abbrev Cfg := Int × Int × Int × Int × Int × Int × Int × Int
abbrev Pr := List UInt8 × List UInt8
abbrev Nd := Int × List Int × List (List UInt8) × List Msg × List Pr
/-- what is not great -/
structure SmallN (n : Nd) : Prop where
  kids : n.2.1.length ≤ 80
  pivs : n.2.2.1.length ≤ 80
  buf : n.2.2.2.1.length ≤ 150
  prs : n.2.2.2.2.length ≤ 150
  pk : ∀ p ∈ n.2.2.1, p.length ≤ 200
  bk : ∀ m ∈ n.2.2.2.1, m.1.length ≤ 200
  rk : ∀ m ∈ n.2.2.2.2, m.1.length ≤ 200
theorem great_l2 (n : Nd) (hb : n.2.2.2.2.length ≤ 150) : ∀ (k i : Nat), i ≤ n.2.2.2.2.length → n.2.2.2.2.length - i < k → (∀ m ∈ n.2.2.2.2.take i, m.1.length ≤ 200) →
    ∃ g, sluicegatelaw13_Great.l2 k n (i : Int) = some g ∧ (g = false → ∀ m ∈ n.2.2.2.2, m.1.length ≤ 200)
  | 0, i, _, h, _ => by omega
  | k + 1, i, hi, hk, hm => by
    rw [sluicegatelaw13_Great.l2]
    by_cases h : i < n.2.2.2.2.length
    · have g1 : (0 : Int) ≤ (i : Int) ∧ (i : Int) < (n.2.2.2.2.length : Int) := by omega
      rw [if_pos (decide_eq_true g1.2), if_pos g1, gt_nat]
      by_cases h2 : 200 < (n.2.2.2.2.getD i default).1.length
      · exact ⟨true, by rw [if_pos (decide_eq_true (by omega))], fun h => by cases h⟩
      · rw [if_neg (by simp only [decide_eq_true_eq]; omega), w64_succ (by omega)]
        refine great_l2 n hb k (i + 1) (by omega) (by omega) fun m hm' => ?_
        rw [List.take_add_one, List.mem_append] at hm'
        rcases hm' with hm' | hm'
        · exact hm m hm'
        · rw [List.getElem?_eq_getElem h] at hm'
          simp only [Option.toList_some, List.mem_singleton] at hm'
          subst hm'
          rw [List.getD_eq_getElem?_getD, List.getElem?_eq_getElem h] at h2
          simp only [Option.getD_some] at h2
          omega
    · rw [if_neg (by simp only [decide_eq_true_eq]; omega)]
      exact ⟨false, rfl, fun _ => by rwa [List.take_of_length_le (by omega)] at hm⟩
theorem great_l1 (n : Nd) (hb : n.2.2.2.2.length ≤ 150) (hc : n.2.2.2.1.length ≤ 150) : ∀ (k i : Nat), i ≤ n.2.2.2.1.length → 200 + (n.2.2.2.1.length - i) < k → (∀ m ∈ n.2.2.2.1.take i, m.1.length ≤ 200) →
    ∃ g, sluicegatelaw13_Great.l1 k n (i : Int) = some g ∧ (g = false → (∀ m ∈ n.2.2.2.1, m.1.length ≤ 200) ∧ ∀ m ∈ n.2.2.2.2, m.1.length ≤ 200)
  | 0, i, _, h, _ => by omega
  | k + 1, i, hi, hk, hm => by
    rw [sluicegatelaw13_Great.l1]
    by_cases h : i < n.2.2.2.1.length
    · have g1 : (0 : Int) ≤ (i : Int) ∧ (i : Int) < (n.2.2.2.1.length : Int) := by omega
      rw [if_pos (decide_eq_true g1.2), if_pos g1, gt_nat]
      by_cases h2 : 200 < (n.2.2.2.1.getD i default).1.length
      · exact ⟨true, by rw [if_pos (decide_eq_true (by omega))], fun h => by cases h⟩
      · rw [if_neg (by simp only [decide_eq_true_eq]; omega), w64_succ (by omega)]
        refine great_l1 n hb hc k (i + 1) (by omega) (by omega) fun m hm' => ?_
        rw [List.take_add_one, List.mem_append] at hm'
        rcases hm' with hm' | hm'
        · exact hm m hm'
        · rw [List.getElem?_eq_getElem h] at hm'
          simp only [Option.toList_some, List.mem_singleton] at hm'
          subst hm'
          rw [List.getD_eq_getElem?_getD, List.getElem?_eq_getElem h] at h2
          simp only [Option.getD_some] at h2
          omega
    · rw [if_neg (by simp only [decide_eq_true_eq]; omega)]
      obtain ⟨g, e1, e2⟩ := great_l2 n hb k 0 (by omega) (by omega) (by simp)
      rw [List.take_of_length_le (by omega)] at hm
      exact ⟨g, e1, fun e => ⟨hm, e2 e⟩⟩
theorem great_l0 (n : Nd) (hb : n.2.2.2.2.length ≤ 150) (hc : n.2.2.2.1.length ≤ 150) (hd : n.2.2.1.length ≤ 80) : ∀ (k i : Nat), i ≤ n.2.2.1.length → 400 + (n.2.2.1.length - i) < k → (∀ m ∈ n.2.2.1.take i, m.length ≤ 200) →
    ∃ g, sluicegatelaw13_Great.l0 k n (i : Int) = some g ∧ (g = false → (∀ m ∈ n.2.2.1, m.length ≤ 200) ∧ (∀ m ∈ n.2.2.2.1, m.1.length ≤ 200) ∧ ∀ m ∈ n.2.2.2.2, m.1.length ≤ 200)
  | 0, i, _, h, _ => by omega
  | k + 1, i, hi, hk, hm => by
    rw [sluicegatelaw13_Great.l0]
    by_cases h : i < n.2.2.1.length
    · have g1 : (0 : Int) ≤ (i : Int) ∧ (i : Int) < (n.2.2.1.length : Int) := by omega
      rw [if_pos (decide_eq_true g1.2), if_pos g1, gt_nat]
      by_cases h2 : 200 < (n.2.2.1.getD i default).length
      · exact ⟨true, by rw [if_pos (decide_eq_true (by omega))], fun h => by cases h⟩
      · rw [if_neg (by simp only [decide_eq_true_eq]; omega), w64_succ (by omega)]
        refine great_l0 n hb hc hd k (i + 1) (by omega) (by omega) fun m hm' => ?_
        rw [List.take_add_one, List.mem_append] at hm'
        rcases hm' with hm' | hm'
        · exact hm m hm'
        · rw [List.getElem?_eq_getElem h] at hm'
          simp only [Option.toList_some, List.mem_singleton] at hm'
          subst hm'
          rw [List.getD_eq_getElem?_getD, List.getElem?_eq_getElem h] at h2
          simp only [Option.getD_some] at h2
          omega
    · rw [if_neg (by simp only [decide_eq_true_eq]; omega)]
      obtain ⟨g, e1, e2⟩ := great_l1 n hb hc k 0 (by omega) (by omega) (by simp)
      rw [List.take_of_length_le (by omega)] at hm
      exact ⟨g, e1, fun e => ⟨hm, e2 e⟩⟩
theorem greatN_pure (n : Nd) {k : Nat} (hk : 1000 < k) : ∃ g, sluicegatelaw13_Great.f k n = some g ∧ (g = false → SmallN n) := by
  unfold sluicegatelaw13_Great.f
  by_cases h1 : 80 < n.2.1.length
  · exact ⟨true, by rw [if_pos (decide_eq_true (by omega))], fun h => by cases h⟩
  · rw [if_neg (by simp only [decide_eq_true_eq]; omega)]
    by_cases h2 : 80 < n.2.2.1.length
    · exact ⟨true, by rw [if_pos (decide_eq_true (by omega))], fun h => by cases h⟩
    · rw [if_neg (by simp only [decide_eq_true_eq]; omega)]
      by_cases h3 : 150 < n.2.2.2.1.length
      · exact ⟨true, by rw [if_pos (decide_eq_true (by omega))], fun h => by cases h⟩
      · rw [if_neg (by simp only [decide_eq_true_eq]; omega)]
        by_cases h4 : 150 < n.2.2.2.2.length
        · exact ⟨true, by rw [if_pos (decide_eq_true (by omega))], fun h => by cases h⟩
        · rw [if_neg (by simp only [decide_eq_true_eq]; omega)]
          obtain ⟨g, e1, e2⟩ := great_l0 n (by omega) (by omega) (by omega) k 0 (by omega) (by omega) (by simp)
          exact ⟨g, e1, fun e => ⟨by omega, by omega, by omega, by omega, (e2 e).1, (e2 e).2.1, (e2 e).2.2⟩⟩
/-- settings that are right, as far as it is asked -/
structure OkC (c : Cfg) : Prop where
  fan : 8 ≤ c.2.2.2.1 ∧ c.2.2.2.1 ≤ 64
  key : 1 ≤ c.2.2.2.2.2.2.1 ∧ c.2.2.2.2.2.2.1 ≤ 64
  val : 0 ≤ c.2.2.2.2.2.2.2 ∧ c.2.2.2.2.2.2.2 ≤ 256
  buf : 16 ≤ c.2.2.2.2.1 ∧ c.2.2.2.2.1 ≤ 512
  leaf : c.2.2.2.2.1 ≤ c.2.2.2.2.2.1 ∧ c.2.2.2.2.2.1 ≤ 1024
theorem in9_pure (a b c : Int) : sluicegateref09_in.f a b c = some (decide (b ≤ a ∧ a ≤ c)) := by
  unfold sluicegateref09_in.f
  by_cases h : b ≤ a <;> simp [h]
theorem sized_pure (c : Cfg) : ∃ g, sluicegateref09_Sized.f c = some g ∧ (g = true → OkC c) := by
  unfold sluicegateref09_Sized.f
  simp only [in9_pure, Option.bind_some]
  by_cases h1 : 8 ≤ c.2.2.2.1 ∧ c.2.2.2.1 ≤ 64
  · rw [if_neg (by simp [h1])]
    by_cases h2 : 1 ≤ c.2.2.2.2.2.2.1 ∧ c.2.2.2.2.2.2.1 ≤ 64
    · rw [if_neg (by simp [h2])]
      by_cases h3 : 0 ≤ c.2.2.2.2.2.2.2 ∧ c.2.2.2.2.2.2.2 ≤ 256
      · rw [if_neg (by simp [h3])]
        have w : w64 (2 * c.2.2.2.1) = 2 * c.2.2.2.1 := w64_id (by omega) (by omega)
        rw [w]
        by_cases h4 : 2 * c.2.2.2.1 ≤ c.2.2.2.2.1 ∧ c.2.2.2.2.1 ≤ 512
        · rw [if_pos (decide_eq_true h4)]
          refine ⟨_, rfl, fun h => ?_⟩
          have h5 := of_decide_eq_true h
          exact ⟨h1, h2, h3, by omega, h5⟩
        · exact ⟨false, by rw [if_neg (by simp only [decide_eq_true_eq]; exact h4)], fun h => by cases h⟩
      · exact ⟨false, by rw [if_pos (by simp only [decide_eq_false h3]; rfl)], fun h => by cases h⟩
    · exact ⟨false, by rw [if_pos (by simp only [decide_eq_false h2]; rfl)], fun h => by cases h⟩
  · exact ⟨false, by rw [if_pos (by simp only [decide_eq_false h1]; rfl)], fun h => by cases h⟩
theorem inner9_l1 {c : Cfg} (hc : OkC c) : ∀ (k i : Nat) (x : Int), i ≤ 512 → 512 - i < k → ∃ r, sluicegateref09_Inner.l1 k c x (i : Int) = some r
  | 0, i, _, _, h => by omega
  | k + 1, i, x, hi, hk => by
    have hb := hc.buf
    rw [sluicegateref09_Inner.l1]
    by_cases h : (i : Int) < c.2.2.2.2.1
    · rw [if_pos (decide_eq_true h), w64_succ (by omega)]
      exact inner9_l1 hc k (i + 1) _ (by omega) (by omega)
    · exact ⟨x, by rw [if_neg (by simp only [decide_eq_true_eq]; exact h)]⟩
theorem inner9_l0 {c : Cfg} (hc : OkC c) : ∀ (k i : Nat) (x : Int), i ≤ 64 → 520 + (64 - i) < k → ∃ r, sluicegateref09_Inner.l0 k c x (i : Int) = some r
  | 0, i, _, _, h => by omega
  | k + 1, i, x, hi, hk => by
    have hb := hc.fan
    rw [sluicegateref09_Inner.l0]
    by_cases h : (i : Int) < c.2.2.2.1
    · rw [if_pos (decide_eq_true h), w64_succ (by omega)]
      by_cases h0 : (0 : Int) < (i : Int)
      · rw [if_pos (decide_eq_true h0)]
        exact inner9_l0 hc k (i + 1) _ (by omega) (by omega)
      · rw [if_neg (by simp only [decide_eq_true_eq]; exact h0)]
        exact inner9_l0 hc k (i + 1) _ (by omega) (by omega)
    · rw [if_neg (by simp only [decide_eq_true_eq]; exact h)]
      exact inner9_l1 hc k 0 x (by omega) (by omega)
theorem outer9_l0 {c : Cfg} (hc : OkC c) : ∀ (k i : Nat) (x : Int), i ≤ 1024 → 1024 - i < k → ∃ r, sluicegateref09_Outer.l0 k c x (i : Int) = some r
  | 0, i, _, _, h => by omega
  | k + 1, i, x, hi, hk => by
    have hb := hc.leaf
    rw [sluicegateref09_Outer.l0]
    by_cases h : (i : Int) < c.2.2.2.2.2.1
    · rw [if_pos (decide_eq_true h), w64_succ (by omega)]
      exact outer9_l0 hc k (i + 1) _ (by omega) (by omega)
    · exact ⟨x, by rw [if_neg (by simp only [decide_eq_true_eq]; exact h)]⟩
theorem right9_pure (c : Cfg) {k : Nat} (hk : 2000 < k) : ∃ g, sluicegateref09_Right.f k c = some g ∧ (g = true → OkC c) := by
  obtain ⟨g, e1, e2⟩ := sized_pure c
  have e1' : sluicegateref09_Sized.f (c.1, c.2.1, c.2.2.1, c.2.2.2.1, c.2.2.2.2.1, c.2.2.2.2.2.1, c.2.2.2.2.2.2.1, c.2.2.2.2.2.2.2) = some g := e1
  unfold sluicegateref09_Right.f
  rw [e1', Option.bind_some]
  cases g with
  | false => exact ⟨false, rfl, fun h => by cases h⟩
  | true =>
    have hc := e2 rfl
    obtain ⟨a, ha⟩ := inner9_l0 hc k 0 8 (by omega) (by omega)
    obtain ⟨b, hb⟩ := outer9_l0 hc k 0 8 (by omega) (by omega)
    have ha' : sluicegateref09_Inner.f k (c.1, c.2.1, c.2.2.1, c.2.2.2.1, c.2.2.2.2.1, c.2.2.2.2.2.1, c.2.2.2.2.2.2.1, c.2.2.2.2.2.2.2) = some a := by
      unfold sluicegateref09_Inner.f
      rw [e1', Option.bind_some, if_neg (by simp)]
      exact ha
    have hb' : sluicegateref09_Outer.f k (c.1, c.2.1, c.2.2.1, c.2.2.2.1, c.2.2.2.2.1, c.2.2.2.2.2.1, c.2.2.2.2.2.2.1, c.2.2.2.2.2.2.2) = some b := by
      unfold sluicegateref09_Outer.f
      rw [e1', Option.bind_some, if_neg (by simp)]
      exact hb
    simp only [in9_pure, ha', hb', Option.bind_some, if_true]
    have tot : ∀ (p q r t : Bool), ∃ g : Bool, (if p = true then (if q = true then (if r = true then (if t = true then some (decide (b ≤ c.2.1)) else some false) else some false) else some false) else some false) = some g := fun p q r t => by
      cases p <;> cases q <;> cases r <;> cases t <;> exact ⟨_, rfl⟩
    obtain ⟨g, hg⟩ := tot (decide (5 ≤ c.1 ∧ c.1 ≤ 65536)) (decide (8 ≤ c.2.2.1 ∧ c.2.2.1 ≤ 64)) (decide (64 ≤ c.2.1 ∧ c.2.1 ≤ 65536)) (decide (a ≤ c.2.1))
    exact ⟨g, hg, fun _ => hc⟩
abbrev Sp := List UInt8 × List UInt8 × Bool
def inS (s : Sp) (x : List UInt8) : Bool := !Op.bytesLess x s.1 && (s.2.2 || Op.bytesLess x s.2.1)
theorem refIn_pure {k : Nat} {s : Sp} {x : List UInt8} (h1 : s.1.length ≤ 2000) (h2 : s.2.1.length ≤ 2000) (hx : x.length ≤ 2000) (hk : 2000 < k) : sluicegateref01_In.f k s x = some (inS s x) := by
  unfold sluicegateref01_In.f inS
  rw [compare_pure h1 hx hk, compare_pure hx h2 hk]
  simp only [Option.bind_some, scmp_le, scmp_lt, decide_eq_true_eq]
  cases h : Op.bytesLess x s.1 <;> cases s.2.2 <;> simp
theorem scmp_ge (a b : List UInt8) : decide (0 ≤ scmp a b) = !Op.bytesLess a b := by
  rcases scmp_vals a b with ⟨e, h⟩ | ⟨e, rfl⟩ | ⟨e, h⟩
  · simp [e, h]
  · simp [e, bl_irr]
  · simp [e, bl_asymm h]
/-- do the keys of pairs rise? -/
def riseP : List Pr → Bool
  | a :: b :: r => Op.bytesLess a.1 b.1 && riseP (b :: r)
  | _ => true
theorem riseP_drop {l : List Pr} {i : Nat} (h : i + 1 < l.length) : riseP (l.drop i) = (Op.bytesLess (l.getD i default).1 (l.getD (i + 1) default).1 && riseP (l.drop (i + 1))) := by
  rw [drop_cons (show i < l.length by omega), drop_cons h]
  rfl
theorem riseP_end {l : List Pr} {i : Nat} (h : l.length ≤ i + 1) : riseP (l.drop i) = true := by
  by_cases h' : i < l.length
  · rw [drop_cons h', List.drop_eq_nil_of_le (by omega)]
    rfl
  · rw [List.drop_eq_nil_of_le (by omega)]
    rfl
theorem right11_l0 {l : List Pr} (h150 : l.length ≤ 150) (hl : ∀ m ∈ l, m.1.length ≤ 200) : ∀ (k i : Nat), i ≤ l.length → 2001 + (l.length - i) < k → sluicegateref11_Right.l0 k l ((i + 1 : Nat) : Int) = some (riseP (l.drop i))
  | 0, i, _, h => by omega
  | k + 1, i, hi, hk => by
    rw [sluicegateref11_Right.l0]
    by_cases h : i + 1 < l.length
    · have g1 : (0 : Int) ≤ (i : Int) ∧ (i : Int) < (l.length : Int) := by omega
      have g2 : (0 : Int) ≤ ((i + 1 : Nat) : Int) ∧ ((i + 1 : Nat) : Int) < (l.length : Int) := by omega
      have k1 := hl _ (getD_mem (d := default) (show i < l.length by omega))
      have k2 := hl _ (getD_mem (d := default) h)
      rw [if_pos (decide_eq_true g2.2), w64_pred (by omega) (by omega), Nat.add_sub_cancel, if_pos g1, if_pos g2, gt_nat, gt_nat, compare_pure (by omega) (by omega) (by omega), Option.bind_some, scmp_ge, w64_succ (by omega), right11_l0 h150 hl k (i + 1) (by omega) (by omega), riseP_drop h]
      cases Op.bytesLess (l.getD i default).1 (l.getD (i + 1) default).1 <;> rfl
    · rw [if_neg (by simp only [decide_eq_true_eq]; omega), riseP_end (by omega)]
theorem right11_pure {l : List Pr} (h150 : l.length ≤ 150) (hl : ∀ m ∈ l, m.1.length ≤ 200) {k : Nat} (hk : 3000 < k) : sluicegateref11_Right.f k l = some (riseP l) := by
  have := right11_l0 h150 hl k 0 (by omega) (by omega)
  simpa [sluicegateref11_Right.f] using this
def keyB (c : Cfg) (x : List UInt8) : Bool := decide (1 ≤ (x.length : Int) ∧ (x.length : Int) ≤ c.2.2.2.2.2.2.1)
theorem key13_pure (c : Cfg) (x : List UInt8) : sluicegateref13_Key.f c x = some (keyB c x) := by
  unfold sluicegateref13_Key.f keyB
  by_cases h : 1 ≤ (x.length : Int) <;> simp [h]
def prB (c : Cfg) (s : Sp) (p : Pr) : Bool := keyB c p.1 && (inS s p.1 && decide ((p.2.length : Int) ≤ c.2.2.2.2.2.2.2))
def outB (c : Cfg) (s : Sp) (n : Nd) : Bool := n.2.2.2.2.all (prB c s) && (decide (n.2.1 = []) && (decide (n.2.2.1 = []) && (decide (n.2.2.2.1 = []) && (decide ((n.2.2.2.2.length : Int) ≤ c.2.2.2.2.2.1) && riseP n.2.2.2.2))))
theorem outer13_l0 {c : Cfg} {s : Sp} {n : Nd} (hn : SmallN n) (h1 : s.1.length ≤ 2000) (h2 : s.2.1.length ≤ 2000) : ∀ (k i : Nat), i ≤ n.2.2.2.2.length → 3001 + (n.2.2.2.2.length - i) < k →
    sluicegateref13_outer.l0 k c s n (i : Int) = some ((n.2.2.2.2.drop i).all (prB c s) && (decide (n.2.1 = []) && (decide (n.2.2.1 = []) && (decide (n.2.2.2.1 = []) && (decide ((n.2.2.2.2.length : Int) ≤ c.2.2.2.2.2.1) && riseP n.2.2.2.2)))))
  | 0, i, _, h => by omega
  | k + 1, i, hi, hk => by
    have h150 := hn.prs
    rw [sluicegateref13_outer.l0]
    by_cases h : i < n.2.2.2.2.length
    · have g1 : (0 : Int) ≤ (i : Int) ∧ (i : Int) < (n.2.2.2.2.length : Int) := by omega
      have k1 := hn.rk _ (getD_mem (d := default) h)
      have etc : (c.1, c.2.1, c.2.2.1, c.2.2.2.1, c.2.2.2.2.1, c.2.2.2.2.2.1, c.2.2.2.2.2.2.1, c.2.2.2.2.2.2.2) = c := rfl
      have eta : (s.1, s.2.1, s.2.2) = s := rfl
      rw [if_pos (decide_eq_true g1.2), if_pos g1, gt_nat, etc, key13_pure, Option.bind_some, eta, refIn_pure h1 h2 (by omega) (by omega), Option.bind_some, w64_succ (by omega), outer13_l0 hn h1 h2 k (i + 1) (by omega) (by omega), drop_cons h, List.all_cons]
      simp only [prB]
      generalize n.2.2.2.2.getD i default = p
      by_cases e : c.2.2.2.2.2.2.2 < (p.2.length : Int)
      · rw [decide_eq_true e, decide_eq_false (show ¬ ((p.2.length : Int) ≤ c.2.2.2.2.2.2.2) by omega)]
        cases keyB c p.1 <;> cases inS s p.1 <;> rfl
      · rw [decide_eq_false e, decide_eq_true (show ((p.2.length : Int) ≤ c.2.2.2.2.2.2.2) by omega)]
        cases keyB c p.1 <;> cases inS s p.1 <;> simp
    · have z : ∀ {α : Type} [DecidableEq α] (l : List α), decide ((l.length : Int) = 0) = decide (l = []) := fun l => by
        cases l <;> simp
        omega
      rw [if_neg (by simp only [decide_eq_true_eq]; omega), right11_pure h150 hn.rk (by omega), Option.bind_some, List.drop_eq_nil_of_le (by omega), z, z, z]
      cases decide (n.2.1 = []) <;> cases decide (n.2.2.1 = []) <;> cases decide (n.2.2.2.1 = []) <;> cases decide ((n.2.2.2.2.length : Int) ≤ c.2.2.2.2.2.1) <;> rfl
theorem outer13_pure {c : Cfg} {s : Sp} {n : Nd} (hn : SmallN n) (h1 : s.1.length ≤ 2000) (h2 : s.2.1.length ≤ 2000) {k : Nat} (hk : 4000 < k) : sluicegateref13_outer.f k c s n = some (outB c s n) := by
  have := outer13_l0 (c := c) hn h1 h2 k 0 (by omega) (by have := hn.prs; omega)
  simpa [sluicegateref13_outer.f, outB] using this
theorem rises_drop {l : List (List UInt8)} {i : Nat} (h : i + 1 < l.length) : rises (l.drop i) = (Op.bytesLess (l.getD i []) (l.getD (i + 1) []) && rises (l.drop (i + 1))) := by
  rw [drop_cons (show i < l.length by omega), drop_cons h]
  rfl
theorem rises_end {l : List (List UInt8)} {i : Nat} (h : l.length ≤ i + 1) : rises (l.drop i) = true := by
  by_cases h' : i < l.length
  · rw [drop_cons h', List.drop_eq_nil_of_le (by omega)]
    rfl
  · rw [List.drop_eq_nil_of_le (by omega)]
    rfl
structure SmallL (l : List (List UInt8)) (s : Sp) : Prop where
  len : l.length ≤ 80
  all : ∀ p ∈ l, p.length ≤ 300
  lo : s.1.length ≤ 300
  hi : s.2.1.length ≤ 300
theorem SmallL.get {l : List (List UInt8)} {s : Sp} (h : SmallL l s) (i : Nat) : (l.getD i []).length ≤ 300 := by
  by_cases hi : i < l.length
  · exact h.all _ (getD_mem hi)
  · rw [List.getD_eq_getElem?_getD, List.getElem?_eq_none (by omega)]
    exact Nat.zero_le _
theorem rise_l0 {s : Sp} {l : List (List UInt8)} (hs : SmallL l s) : ∀ (k i : Nat), i ≤ l.length → 2001 + (l.length - i) < k → sluicegateref12_Rise.l0 k l ((i + 1 : Nat) : Int) = some (rises (l.drop i))
  | 0, i, _, h => by omega
  | k + 1, i, hi, hk => by
    have h80 := hs.len
    rw [sluicegateref12_Rise.l0]
    by_cases h : i + 1 < l.length
    · have g1 : (0 : Int) ≤ (i : Int) ∧ (i : Int) < (l.length : Int) := by omega
      have g2 : (0 : Int) ≤ ((i + 1 : Nat) : Int) ∧ ((i + 1 : Nat) : Int) < (l.length : Int) := by omega
      have k1 : (l.getD i default).length ≤ 300 := hs.get i
      have k2 : (l.getD (i + 1) default).length ≤ 300 := hs.get (i + 1)
      rw [if_pos (decide_eq_true g2.2), w64_pred (by omega) (by omega), Nat.add_sub_cancel, if_pos g1, if_pos g2, gt_nat, gt_nat, compare_pure (by omega) (by omega) (by omega), Option.bind_some, scmp_ge, w64_succ (by omega), rise_l0 hs k (i + 1) (by omega) (by omega), rises_drop h]
      show (if (!Op.bytesLess (l.getD i []) (l.getD (i + 1) [])) = true then some false else some (rises (l.drop (i + 1)))) = _
      cases Op.bytesLess (l.getD i []) (l.getD (i + 1) []) <;> rfl
    · rw [if_neg (by simp only [decide_eq_true_eq]; omega), rises_end (by omega)]
theorem rise_pure {s : Sp} {l : List (List UInt8)} (hs : SmallL l s) {k : Nat} (hk : 3000 < k) : sluicegateref12_Rise.f k l = some (rises l) := by
  have := rise_l0 hs k 0 (by omega) (by have := hs.len; omega)
  simpa [sluicegateref12_Rise.f] using this
def piv (s : Sp) (p : List UInt8) : Bool := inS s p && !decide (p = s.1)
theorem refRight_l0 {s : Sp} {l : List (List UInt8)} (hs : SmallL l s) : ∀ (k i : Nat), i ≤ l.length → 3001 + (l.length - i) < k → sluicegateref12_Right.l0 k l s (i : Int) = some ((l.drop i).all (piv s) && rises l)
  | 0, i, _, h => by omega
  | k + 1, i, hi, hk => by
    have h80 := hs.len
    rw [sluicegateref12_Right.l0]
    by_cases h : i < l.length
    · have g1 : (0 : Int) ≤ (i : Int) ∧ (i : Int) < (l.length : Int) := by omega
      have k1 : (l.getD i default).length ≤ 300 := hs.get i
      have hlo := hs.lo
      have hhi := hs.hi
      have eta : (s.1, s.2.1, s.2.2) = s := rfl
      rw [if_pos (decide_eq_true g1.2), if_pos g1, gt_nat, eta, refIn_pure (by omega) (by omega) (by omega) (by omega), Option.bind_some, w64_succ (by omega), refRight_l0 hs k (i + 1) (by omega) (by omega), drop_cons h, List.all_cons]
      simp only [piv]
      cases inS s (l.getD i default) <;> by_cases e : l.getD i default = s.1 <;> simp only [e, decide_true, decide_false] <;> rfl
    · rw [if_neg (by simp only [decide_eq_true_eq]; omega), rise_pure hs (by omega), List.drop_eq_nil_of_le (by omega)]
      rfl
theorem refRight_pure {s : Sp} {l : List (List UInt8)} (hs : SmallL l s) {k : Nat} (hk : 4000 < k) : sluicegateref12_Right.f k l s = some (l.all (piv s) && rises l) := by
  have := refRight_l0 hs k 0 (by omega) (by have := hs.len; omega)
  simpa [sluicegateref12_Right.f] using this
/-- do the keys rise? -/
def riseM : List Msg → Bool
  | a :: b :: r => Op.bytesLess a.1 b.1 && riseM (b :: r)
  | _ => true
theorem riseM_drop {l : List Msg} {i : Nat} (h : i + 1 < l.length) : riseM (l.drop i) = (Op.bytesLess (l.getD i default).1 (l.getD (i + 1) default).1 && riseM (l.drop (i + 1))) := by
  rw [drop_cons (show i < l.length by omega), drop_cons h]
  rfl
theorem riseM_end {l : List Msg} {i : Nat} (h : l.length ≤ i + 1) : riseM (l.drop i) = true := by
  by_cases h' : i < l.length
  · rw [drop_cons h', List.drop_eq_nil_of_le (by omega)]
    rfl
  · rw [List.drop_eq_nil_of_le (by omega)]
    rfl
theorem refright_l0 : ∀ (k : Nat) (l : List Msg) (i : Nat), (l.length ≤ 150 ∧ ∀ m ∈ l, m.1.length ≤ 300) → i ≤ l.length → 2001 + (l.length - i) < k → sluicegateref10_Right.l0 k l ((i + 1 : Nat) : Int) = some (riseM (l.drop i))
  | 0, l, i, _, _, h => by omega
  | k + 1, l, i, hl, hi, hk => by
    have h150 := hl.1
    rw [sluicegateref10_Right.l0]
    by_cases h : i + 1 < l.length
    · have g1 : (0 : Int) ≤ (i : Int) ∧ (i : Int) < (l.length : Int) := by omega
      have g2 : (0 : Int) ≤ ((i + 1 : Nat) : Int) ∧ ((i + 1 : Nat) : Int) < (l.length : Int) := by omega
      have k1 := hl.2 _ (getD_mem (d := default) (show i < l.length by omega))
      have k2 := hl.2 _ (getD_mem (d := default) h)
      rw [if_pos (decide_eq_true g2.2), w64_pred (by omega) (by omega), Nat.add_sub_cancel, if_pos g1, if_pos g2, gt_nat, gt_nat, compare_pure (by omega) (by omega) (by omega), Option.bind_some, scmp_ge, w64_succ (by omega), refright_l0 k l (i + 1) hl (by omega) (by omega), riseM_drop h]
      cases Op.bytesLess (l.getD i default).1 (l.getD (i + 1) default).1 <;> rfl
    · rw [if_neg (by simp only [decide_eq_true_eq]; omega), riseM_end (by omega)]
def msgB (c : Cfg) (s : Sp) (m : Msg) : Bool := keyB c m.1 && (inS s m.1 && (decide ((m.2.2.length : Int) ≤ c.2.2.2.2.2.2.2) && (!m.2.1 || decide (m.2.2 = []))))
def tailB (c : Cfg) (s : Sp) (n : Nd) : Bool := decide (n.1 ≤ 40) && (decide (n.2.2.2.2 = []) && (decide (1 ≤ n.2.1.length) && (decide ((n.2.1.length : Int) ≤ c.2.2.2.1) && (decide (n.2.2.1.length + 1 = n.2.1.length) && ((n.2.2.1.all (piv s) && rises n.2.2.1) && (decide ((n.2.2.2.1.length : Int) ≤ c.2.2.2.2.1) && riseM n.2.2.2.1))))))
theorem SmallN.l {n : Nd} (hn : SmallN n) {s : Sp} (h1 : s.1.length ≤ 300) (h2 : s.2.1.length ≤ 300) : SmallL n.2.2.1 s := ⟨hn.pivs, fun p hp => by have := hn.pk p hp; omega, h1, h2⟩
theorem refright_pure {n : Nd} (hn : SmallN n) {k : Nat} (hk : 3000 < k) : sluicegateref10_Right.f k n.2.2.2.1 = some (riseM n.2.2.2.1) := by
  have := refright_l0 k n.2.2.2.1 0 ⟨hn.buf, fun m hm => by have := hn.bk m hm; omega⟩ (by omega) (by have := hn.buf; omega)
  simpa [sluicegateref10_Right.f] using this
theorem inner13_l3 {c : Cfg} {s : Sp} {n : Nd} (hn : SmallN n) (h1 : s.1.length ≤ 300) (h2 : s.2.1.length ≤ 300) : ∀ (k i : Nat), i ≤ n.2.2.2.1.length → 5001 + (n.2.2.2.1.length - i) < k →
    sluicegateref13_inner.l3 k c s n (i : Int) = some ((n.2.2.2.1.drop i).all (msgB c s) && tailB c s n)
  | 0, i, _, h => by omega
  | k + 1, i, hi, hk => by
    have h150 := hn.buf
    have h80 := hn.pivs
    have hk80 := hn.kids
    have eta : (s.1, s.2.1, s.2.2) = s := rfl
    rw [sluicegateref13_inner.l3]
    by_cases h : i < n.2.2.2.1.length
    · have g1 : (0 : Int) ≤ (i : Int) ∧ (i : Int) < (n.2.2.2.1.length : Int) := by omega
      have k1 := hn.bk _ (getD_mem (d := default) h)
      have etc : (c.1, c.2.1, c.2.2.1, c.2.2.2.1, c.2.2.2.2.1, c.2.2.2.2.2.1, c.2.2.2.2.2.2.1, c.2.2.2.2.2.2.2) = c := rfl
      rw [if_pos (decide_eq_true g1.2), if_pos g1, gt_nat, etc, key13_pure, Option.bind_some, eta, refIn_pure (by omega) (by omega) (by omega) (by omega), Option.bind_some, w64_succ (by omega), inner13_l3 hn h1 h2 k (i + 1) (by omega) (by omega), drop_cons h, List.all_cons]
      simp only [msgB]
      generalize n.2.2.2.1.getD i default = p
      by_cases e : c.2.2.2.2.2.2.2 < (p.2.2.length : Int)
      · rw [decide_eq_true e, decide_eq_false (show ¬ ((p.2.2.length : Int) ≤ c.2.2.2.2.2.2.2) by omega)]
        cases keyB c p.1 <;> cases inS s p.1 <;> rfl
      · rw [decide_eq_false e, decide_eq_true (show ((p.2.2.length : Int) ≤ c.2.2.2.2.2.2.2) by omega)]
        cases keyB c p.1 <;> cases inS s p.1 <;> cases p.2.1 <;> cases decide (p.2.2 = []) <;> simp
    · have z : decide (0 < (n.2.2.2.2.length : Int)) = !decide (n.2.2.2.2 = []) := by
        cases n.2.2.2.2 <;> simp
      have y1 : decide (40 < n.1) = !decide (n.1 ≤ 40) := by by_cases q : n.1 ≤ 40 <;> simp [q] <;> omega
      have y2 : decide ((n.2.1.length : Int) < 1) = !decide (1 ≤ n.2.1.length) := by by_cases q : 1 ≤ n.2.1.length <;> simp [q] <;> omega
      have y3 : decide (c.2.2.2.1 < (n.2.1.length : Int)) = !decide ((n.2.1.length : Int) ≤ c.2.2.2.1) := by by_cases q : (n.2.1.length : Int) ≤ c.2.2.2.1 <;> simp [q] <;> omega
      have y4 : decide (w64 ((n.2.2.1.length : Int) + 1) = (n.2.1.length : Int)) = decide (n.2.2.1.length + 1 = n.2.1.length) := by
        rw [w64_succ (by omega)]
        congr 1
        exact propext (by omega)
      rw [if_neg (by simp only [decide_eq_true_eq]; omega), eta, refRight_pure (hn.l h1 h2) (by omega), refright_pure hn (by omega), List.drop_eq_nil_of_le (by omega), z, y1, y2, y3, y4]
      simp only [tailB, Option.bind_some, List.all_nil, Bool.true_and]
      cases decide (n.1 ≤ 40) <;> cases decide (n.2.2.2.2 = []) <;> cases decide (1 ≤ n.2.1.length) <;> cases decide ((n.2.1.length : Int) ≤ c.2.2.2.1) <;> cases decide (n.2.2.1.length + 1 = n.2.1.length) <;> cases (n.2.2.1.all (piv s) && rises n.2.2.1) <;> cases decide ((n.2.2.2.1.length : Int) ≤ c.2.2.2.2.1) <;> rfl
theorem inner13_l2 {c : Cfg} {s : Sp} {n : Nd} (hn : SmallN n) (h1 : s.1.length ≤ 300) (h2 : s.2.1.length ≤ 300) : ∀ (k i : Nat), i ≤ n.2.2.1.length → 5201 + (n.2.2.1.length - i) < k →
    sluicegateref13_inner.l2 k c s n (i : Int) = some ((n.2.2.1.drop i).all (keyB c) && (n.2.2.2.1.all (msgB c s) && tailB c s n))
  | 0, i, _, h => by omega
  | k + 1, i, hi, hk => by
    have h80 := hn.pivs
    have h150 := hn.buf
    rw [sluicegateref13_inner.l2]
    by_cases h : i < n.2.2.1.length
    · have g1 : (0 : Int) ≤ (i : Int) ∧ (i : Int) < (n.2.2.1.length : Int) := by omega
      have etc : (c.1, c.2.1, c.2.2.1, c.2.2.2.1, c.2.2.2.2.1, c.2.2.2.2.2.1, c.2.2.2.2.2.2.1, c.2.2.2.2.2.2.2) = c := rfl
      rw [if_pos (decide_eq_true g1.2), if_pos g1, gt_nat, etc, key13_pure, Option.bind_some, w64_succ (by omega), inner13_l2 hn h1 h2 k (i + 1) (by omega) (by omega), drop_cons h, List.all_cons]
      cases keyB c (n.2.2.1.getD i default) <;> rfl
    · rw [if_neg (by simp only [decide_eq_true_eq]; omega), List.drop_eq_nil_of_le (by omega)]
      have := inner13_l3 (c := c) hn h1 h2 k 0 (by omega) (by omega)
      simpa using this
def neB (l : List Int) (i q : Nat) : Bool := !decide (l.getD q 0 = l.getD i 0)
def kidB (c : Cfg) (l : List Int) (i : Nat) : Bool := !decide (l.getD i 0 = 0) && (!decide (c.1 ≤ w64 (l.getD i 0)) && (List.range' 0 i).all (neB l i))
def restB (c : Cfg) (s : Sp) (n : Nd) : Bool := n.2.2.1.all (keyB c) && (n.2.2.2.1.all (msgB c s) && tailB c s n)
theorem inner13_kids {c : Cfg} {s : Sp} {n : Nd} (hn : SmallN n) (h1 : s.1.length ≤ 300) (h2 : s.2.1.length ≤ 300) : ∀ (k : Nat),
    (∀ i : Nat, i ≤ n.2.1.length → 5400 + (n.2.1.length - i) * 100 < k → sluicegateref13_inner.l0 k c s n (i : Int) = some ((List.range' i (n.2.1.length - i)).all (kidB c n.2.1) && restB c s n)) ∧
    (∀ i q : Nat, i < n.2.1.length → q ≤ i → 5400 + (n.2.1.length - i - 1) * 100 + (i - q) + 1 < k → sluicegateref13_inner.l1 k c s n (i : Int) (q : Int) = some ((List.range' q (i - q)).all (neB n.2.1 i) && ((List.range' (i + 1) (n.2.1.length - i - 1)).all (kidB c n.2.1) && restB c s n)))
  | 0 => ⟨fun i _ h => by omega, fun i q _ _ h => by omega⟩
  | k + 1 => by
    have h80 := hn.kids
    have h80' := hn.pivs
    obtain ⟨ih0, ih1⟩ := inner13_kids (c := c) hn h1 h2 k
    refine ⟨fun i hi hk => ?_, fun i q hi hq hk => ?_⟩
    · rw [sluicegateref13_inner.l0]
      by_cases h : i < n.2.1.length
      · have g1 : (0 : Int) ≤ (i : Int) ∧ (i : Int) < (n.2.1.length : Int) := by omega
        have := ih1 i 0 h (by omega) (by omega)
        simp only [Int.natCast_zero, Int.ofNat_eq_natCast, Nat.sub_zero] at this
        have e0 : gt n.2.1 (i : Int) = n.2.1.getD i 0 := gt_nat n.2.1 i
        rw [if_pos (decide_eq_true g1.2), if_pos g1, e0, show sluicegateref13_inner.l1 k c s n (i : Int) 0 = _ from this, show n.2.1.length - i = (n.2.1.length - i - 1) + 1 by omega, List.range'_succ, List.all_cons]
        simp only [kidB, Nat.add_sub_cancel]
        cases decide (n.2.1.getD i 0 = 0) <;> cases decide (c.1 ≤ w64 (n.2.1.getD i 0)) <;> simp [Bool.and_assoc]
      · rw [if_neg (by simp only [decide_eq_true_eq]; omega), show n.2.1.length - i = 0 by omega]
        have := inner13_l2 (c := c) hn h1 h2 k 0 (by omega) (by omega)
        simpa [restB] using this
    · rw [sluicegateref13_inner.l1]
      by_cases h : q < i
      · have g1 : (0 : Int) ≤ (q : Int) ∧ (q : Int) < (n.2.1.length : Int) := by omega
        have e0 : gt n.2.1 (i : Int) = n.2.1.getD i 0 := gt_nat n.2.1 i
        have e1 : gt n.2.1 (q : Int) = n.2.1.getD q 0 := gt_nat n.2.1 q
        rw [if_pos (decide_eq_true (by omega)), if_pos g1, e0, e1, w64_succ (by omega), ih1 i (q + 1) hi (by omega) (by omega), show i - q = (i - (q + 1)) + 1 by omega, List.range'_succ, List.all_cons]
        simp only [neB]
        cases decide (n.2.1.getD q 0 = n.2.1.getD i 0) <;> rfl
      · rw [if_neg (by simp only [decide_eq_true_eq]; omega), w64_succ (by omega), ih0 (i + 1) (by omega) (by omega), show i - q = 0 by omega, show n.2.1.length - (i + 1) = n.2.1.length - i - 1 by omega]
        rfl
def innB (c : Cfg) (s : Sp) (n : Nd) : Bool := (List.range' 0 n.2.1.length).all (kidB c n.2.1) && restB c s n
theorem inner13_pure {c : Cfg} {s : Sp} {n : Nd} (hn : SmallN n) (h1 : s.1.length ≤ 300) (h2 : s.2.1.length ≤ 300) {k : Nat} (hk : 15000 < k) : sluicegateref13_inner.f k c s n = some (innB c s n) := by
  have h80 := hn.kids
  have := (inner13_kids (c := c) hn h1 h2 k).1 0 (by omega) (by omega)
  simpa [sluicegateref13_inner.f, innB] using this
/-- a node that is right -/
structure RightN (c : Cfg) (s : Sp) (n : Nd) : Prop where
  small : SmallN n
  cfg : OkC c
  lo : s.1.length ≤ 200
  hi : s.2.1.length ≤ 200
  leaf : n.1 = 0 → outB c s n = true
  node : n.1 ≠ 0 → 0 < n.1 ∧ innB c s n = true
theorem right13_pure {c : Cfg} {s : Sp} {n : Nd} (hn : SmallN n) (h1 : s.1.length ≤ 300) (h2 : s.2.1.length ≤ 300) {k : Nat} (hk : 15000 < k) :
    sluicegateref13_Right.f k c s n = some (if n.1 = 0 then outB c s n else decide (0 < n.1) && innB c s n) := by
  unfold sluicegateref13_Right.f
  by_cases h : n.1 = 0
  · rw [if_pos (decide_eq_true h), if_pos h]
    rw [show sluicegateref13_outer.f k _ _ _ = _ from outer13_pure (c := c) (s := s) hn (by omega) (by omega) (by omega)]
    rfl
  · rw [if_neg (by simp only [decide_eq_true_eq]; exact h), if_neg h]
    by_cases h0 : 0 < n.1
    · rw [if_pos (decide_eq_true h0), show sluicegateref13_inner.f k _ _ _ = _ from inner13_pure (c := c) (s := s) hn h1 h2 hk, decide_eq_true h0]
      rfl
    · rw [if_neg (by simp only [decide_eq_true_eq]; exact h0), decide_eq_false h0]
      rfl
theorem rise_get {l : List Msg} (h : riseM l = true) : ∀ {i j : Nat}, i < j → j < l.length → Op.bytesLess (l.getD i default).1 (l.getD j default).1 = true := by
  have step : ∀ i, i + 1 < l.length → riseM (l.drop i) = true → Op.bytesLess (l.getD i default).1 (l.getD (i + 1) default).1 = true ∧ riseM (l.drop (i + 1)) = true := fun i hi hr => by
    rw [riseM_drop hi, Bool.and_eq_true] at hr
    exact hr
  have all : ∀ i, i < l.length → riseM (l.drop i) = true := fun i => by
    induction i with
    | zero => intro _; simpa using h
    | succ i ih => intro hi; exact (step i hi (ih (by omega))).2
  intro i j hij hj
  induction j with
  | zero => omega
  | succ j ih =>
    have one := (step j hj (all j (by omega))).1
    by_cases e : i = j
    · subst e; exact one
    · exact bl_trans (ih (by omega) (by omega)) one
/-- the first that is not below -/
def AtLow (l : List Msg) (x : List UInt8) (c : Nat) : Prop := c ≤ l.length ∧ (∀ j, j < c → Op.bytesLess (l.getD j default).1 x = true) ∧ ∀ j, c ≤ j → j < l.length → Op.bytesLess (l.getD j default).1 x = false
theorem bufcompare_pure (m : Msg) (x : List UInt8) : buf_compare.f (m.1, m.2.1, m.2.2) x = some (scmp m.1 x) := rfl
theorem search_l0 {l : List Msg} {x : List UInt8} (hl : l.length ≤ 150) : ∀ (k a b : Nat), a ≤ b → b ≤ l.length → b - a < k → (∀ i j, i < j → j < l.length → Op.bytesLess (l.getD i default).1 (l.getD j default).1 = true) → (∀ j, j < a → Op.bytesLess (l.getD j default).1 x = true) → (∀ j, b ≤ j → j < l.length → Op.bytesLess (l.getD j default).1 x = false) →
    ∃ c : Nat, slices_BinarySearchFunc_api_Msg_api_Msg_string_buf_compare.l0 k l x (a : Int) (b : Int) = some ((c : Int), decide (c < l.length ∧ (l.getD c default).1 = x)) ∧ AtLow l x c
  | 0, a, b, _, _, h, _, _, _ => by omega
  | k + 1, a, b, hab, hb, hk, hr, h1, h2 => by
    rw [slices_BinarySearchFunc_api_Msg_api_Msg_string_buf_compare.l0]
    by_cases h : a < b
    · have w : w64 ((Int.fdiv (IntKind.u64.wrap ((w64 ((a : Int) + (b : Int))))) (2 ^ 1))) = (((a + b) / 2 : Nat) : Int) := by
        rw [w64_id (x := (a : Int) + (b : Int)) (by omega) (by omega)]
        have u : IntKind.u64.wrap ((a : Int) + (b : Int)) = (a : Int) + (b : Int) := by
          simp only [IntKind.wrap, IntKind.signed, IntKind.bits]
          simp
          omega
        rw [u, Int.fdiv_eq_ediv_of_nonneg _ (by decide)]
        rw [w64_id (by omega) (by omega)]
        omega
      have g1 : (0 : Int) ≤ (((a + b) / 2 : Nat) : Int) ∧ (((a + b) / 2 : Nat) : Int) < (l.length : Int) := by omega
      rw [if_pos (decide_eq_true (by omega)), w, if_pos g1, gt_nat, bufcompare_pure, Option.bind_some, w64_succ (by omega)]
      cases e : Op.bytesLess (l.getD ((a + b) / 2) default).1 x with
      | true =>
        rw [if_pos (decide_eq_true (scmp_lt.2 e))]
        refine search_l0 hl k _ b (by omega) hb (by omega) hr (fun j hj => ?_) h2
        by_cases q : j = (a + b) / 2
        · subst q; exact e
        · exact bl_trans (hr j ((a + b) / 2) (by omega) (by omega)) e
      | false =>
        rw [if_neg (by simp only [decide_eq_true_eq, scmp_lt, e]; simp)]
        refine search_l0 hl k a _ (by omega) (by omega) (by omega) hr h1 fun j hj hjl => ?_
        by_cases q : j = (a + b) / 2
        · subst q; exact e
        · exact bl_le_trans e (bl_asymm (hr ((a + b) / 2) j (by omega) hjl))
    · obtain rfl : a = b := by omega
      rw [if_neg (by simp only [decide_eq_true_eq]; omega)]
      refine ⟨a, ?_, hb, h1, h2⟩
      by_cases q : a < l.length
      · have g1 : (0 : Int) ≤ (a : Int) ∧ (a : Int) < (l.length : Int) := by omega
        rw [if_pos (decide_eq_true (by omega)), if_pos g1, gt_nat, bufcompare_pure, Option.bind_some]
        simp only [scmp_eq, q, true_and]
      · rw [if_neg (by simp only [decide_eq_true_eq]; omega)]
        simp [q]
theorem search_pure {l : List Msg} (x : List UInt8) (hl : l.length ≤ 150) (hr : riseM l = true) {k : Nat} (hk : 200 < k) : ∃ c : Nat, slices_BinarySearchFunc_api_Msg_api_Msg_string_buf_compare.f k l x = some ((c : Int), decide (c < l.length ∧ (l.getD c default).1 = x)) ∧ AtLow l x c :=
  search_l0 hl k 0 l.length (by omega) (by omega) (by omega) (fun i j => rise_get hr) (fun j hj => by omega) (fun j hj hjl => by omega)
theorem clone_pure {l : List Msg} (hl : l.length ≤ 1000000) : slices_Clone_api_Msg_api_Msg.f l = some l := by
  unfold slices_Clone_api_Msg_api_Msg.f
  rw [if_pos (by simp; omega)]
  rfl
theorem shared_l0 : ∀ (k : Nat) (a b : List UInt8) (i : Nat), a.length ≤ 4611686018427387904 → b.length ≤ 4611686018427387904 → i ≤ a.length → i ≤ b.length → a.length - i < k →
    lex_Shared.l0 k a b (i : Int) = some ((i + shd (a.drop i) (b.drop i) : Nat) : Int)
  | 0, a, b, i, _, _, _, _, h => by omega
  | k + 1, a, b, i, ha, hb, hia, hib, hk => by
    unfold lex_Shared.l0
    by_cases h1 : i < a.length ∧ i < b.length
    · have g0 : (i : Int) < (if (b.length : Int) < (a.length : Int) then (b.length : Int) else (a.length : Int)) := by split <;> omega
      have g1 : (0 : Int) ≤ (i : Int) ∧ (i : Int) < (a.length : Int) := by omega
      have g2 : (0 : Int) ≤ (i : Int) ∧ (i : Int) < (b.length : Int) := by omega
      have w : w64 ((i : Int) + 1) = ((i + 1 : Nat) : Int) := by rw [w64_id (by omega) (by omega)]; omega
      have ih := shared_l0 k a b (i + 1) ha hb (by omega) (by omega) (by omega)
      rw [if_pos (decide_eq_true g0), if_pos g1, if_pos g2, w, ih, drop_byte h1.1, drop_byte h1.2]
      simp only [gtb_eq, Int.toNat_natCast, shd, Bool.not_eq_true', decide_eq_false_iff_not]
      by_cases e : a.getD i 0 = b.getD i 0
      · rw [if_neg (fun h => h e), if_pos e]
        congr 2
        omega
      · rw [if_pos e, if_neg e]
        rfl
    · have g0 : ¬ (i : Int) < (if (b.length : Int) < (a.length : Int) then (b.length : Int) else (a.length : Int)) := by split <;> omega
      rw [if_neg (by simpa using g0)]
      have z : shd (a.drop i) (b.drop i) = 0 := by
        rcases Nat.lt_or_ge i a.length with h | h
        · rw [List.drop_eq_nil_of_le (show b.length ≤ i by omega)]; cases a.drop i <;> rfl
        · rw [List.drop_eq_nil_of_le (show a.length ≤ i by omega)]; rfl
      rw [z]
      congr 1
      split <;> omega
theorem shared_big {k : Nat} {a b : List UInt8} (ha : a.length ≤ 4611686018427387904) (hb : b.length ≤ 4611686018427387904) (hk : a.length < k) : lex_Shared.f k a b = some (shd a b : Int) := by
  have := shared_l0 k a b 0 ha hb (by omega) (by omega) (by omega)
  simpa [lex_Shared.f] using this
theorem cut_big {k : Nat} {a b : List UInt8} (ha : a.length ≤ 4611686018427387904) (hb : b.length ≤ 4611686018427387904) (hk : a.length < k) :
    lex_Cut.f k a b = some (if Op.bytesLess a b = true then (b.take (shd a b + 1), true) else ([], false)) := by
  unfold lex_Cut.f
  rw [shared_big ha hb hk]
  cases h : Op.bytesLess a b with
  | false => rfl
  | true =>
    have := shd_lt h
    have w : w64 ((shd a b : Int) + 1) = ((shd a b + 1 : Nat) : Int) := by rw [w64_id (by omega) (by omega)]; omega
    have g : (0 : Int) ≤ ((shd a b + 1 : Nat) : Int) ∧ ((shd a b + 1 : Nat) : Int) ≤ (b.length : Int) := by omega
    simp only [Bool.not_true, Bool.false_eq_true, if_false, Option.bind_some, w, if_pos g, Int.toNat_natCast, if_true]
theorem shared_pure {k : Nat} {a b : List UInt8} (ha : a.length ≤ 2000) (hb : b.length ≤ 2000) (hk : 2000 < k) : lex_Shared.f k a b = some (shd a b : Int) := shared_big (by omega) (by omega) (by omega)
theorem cut_pure {k : Nat} {a b : List UInt8} (ha : a.length ≤ 2000) (hb : b.length ≤ 2000) (hk : 2000 < k) :
    lex_Cut.f k a b = some (if Op.bytesLess a b = true then (b.take (shd a b + 1), true) else ([], false)) := cut_big (by omega) (by omega) (by omega)
theorem refcut_l0 (a b : List UInt8) (ha : a.length ≤ 2000) (hb : b.length ≤ 2000) (hlt : Op.bytesLess a b = true) (K : Nat) : ∀ (k i : Nat), i ≤ shd a b + 1 → shd a b + 1 - i < k → 2001 + (shd a b + 1 - i) < k →
    sluicegateref01_Cut.l0 k a b (i : Int) = some (b.take (shd a b + 1), true)
  | 0, i, _, h, _ => by omega
  | k + 1, i, hi, hk, hK => by
    have hs := shd_lt hlt
    unfold sluicegateref01_Cut.l0
    have g0 : (i : Int) ≤ (b.length : Int) := by omega
    have g1 : (0 : Int) ≤ (i : Int) ∧ (i : Int) ≤ (b.length : Int) := by omega
    rw [if_pos (decide_eq_true g0), if_pos g1, Int.toNat_natCast, compare_pure ha (by rw [List.length_take]; omega) (by omega), Option.bind_some]
    by_cases e : i = shd a b + 1
    · subst e
      rw [if_pos (decide_eq_true (scmp_lt.2 (bl_take_next hlt)))]
    · have := bl_take_shd (a := a) (b := b) (n := i) (by omega)
      have w : w64 ((i : Int) + 1) = ((i + 1 : Nat) : Int) := by rw [w64_id (by omega) (by omega)]; omega
      rw [if_neg (by simp only [decide_eq_true_eq, scmp_lt, this]; simp), w, refcut_l0 a b ha hb hlt K k (i + 1) (by omega) (by omega) (by omega)]
theorem refcut_pure {k : Nat} {a b : List UInt8} (ha : a.length ≤ 2000) (hb : b.length ≤ 2000) (hk : 5000 < k) :
    sluicegateref01_Cut.f k a b = some (if Op.bytesLess a b = true then (b.take (shd a b + 1), true) else ([], false)) := by
  unfold sluicegateref01_Cut.f
  rw [compare_pure ha hb (by omega), Option.bind_some]
  cases h : Op.bytesLess a b with
  | false =>
    rw [if_pos]
    · rfl
    · have := mt scmp_lt.1 (by simp [h] : ¬ Op.bytesLess a b = true)
      simp only [decide_eq_true_eq]
      omega
  | true =>
    have := scmp_lt.2 h
    have hs := shd_lt h
    rw [if_neg (by simp only [decide_eq_true_eq]; omega)]
    have := refcut_l0 a b ha hb h k k 0 (by omega) (by omega) (by omega)
    simpa using this
theorem right14_pure (c : Cfg) (s : Sp) (n : Nd) {k : Nat} (hk : 20000 < k) : ∃ g, sluicegatelaw14_right.f k c s n = some g ∧ (g = true → RightN c s n) := by
  obtain ⟨g1, e1, d1⟩ := greatN_pure n (k := k) (by omega)
  obtain ⟨g2, e2, d2⟩ := right9_pure c (k := k) (by omega)
  unfold sluicegatelaw14_right.f
  rw [show sluicegatelaw13_Great.f k _ = _ from e1, Option.bind_some]
  cases g1 with
  | true => exact ⟨false, rfl, fun h => by cases h⟩
  | false =>
    have hn := d1 rfl
    rw [if_pos (by rfl)]
    by_cases h1 : s.1.length ≤ 200
    · rw [if_pos (decide_eq_true (by omega))]
      by_cases h2 : s.2.1.length ≤ 200
      · rw [if_pos (decide_eq_true (by omega)), show sluicegateref09_Right.f k _ = _ from e2, Option.bind_some]
        cases g2 with
        | false => exact ⟨false, rfl, fun h => by cases h⟩
        | true =>
          rw [if_pos rfl, show sluicegateref13_Right.f k _ _ _ = _ from right13_pure (c := c) (s := s) hn (by omega) (by omega) (by omega), Option.bind_some]
          refine ⟨_, rfl, fun h => ⟨hn, d2 rfl, h1, h2, fun h0 => ?_, fun h0 => ?_⟩⟩
          · rwa [if_pos h0] at h
          · rw [if_neg h0, Bool.and_eq_true] at h
            exact ⟨of_decide_eq_true h.1, h.2⟩
      · exact ⟨false, by rw [if_neg (by simp only [decide_eq_true_eq]; omega)], fun h => by cases h⟩
    · exact ⟨false, by rw [if_neg (by simp only [decide_eq_true_eq]; omega)], fun h => by cases h⟩
/-- where rows are alike -/
theorem same_loop {α : Type} [Inhabited α] [DecidableEq α] {F : Nat → Int → Option Bool} {a b : List α} {eqb : α → α → Bool} (he : ∀ x y, eqb x y = decide (x = y)) (hab : a.length = b.length) (ha : a.length ≤ 1000000)
    (hF : ∀ k i, F (k + 1) i = if (decide (i < (a.length : Int))) = true then (if 0 ≤ i ∧ i < (a.length : Int) then (if 0 ≤ i ∧ i < (b.length : Int) then (if (!(eqb (gt a i) (gt b i))) = true then (some false) else (F k (w64 (i + 1)))) else none) else none) else (some true)) :
    ∀ (k i : Nat), i ≤ a.length → a.length - i < k → F k (i : Int) = some (decide (a.drop i = b.drop i))
  | 0, i, _, h => by omega
  | k + 1, i, hi, hk => by
    rw [hF]
    by_cases h : i < a.length
    · have g1 : (0 : Int) ≤ (i : Int) ∧ (i : Int) < (a.length : Int) := by omega
      have g2 : (0 : Int) ≤ (i : Int) ∧ (i : Int) < (b.length : Int) := by omega
      rw [if_pos (decide_eq_true g1.2), if_pos g1, if_pos g2, he, w64_succ (by omega), same_loop he hab ha hF k (i + 1) (by omega) (by omega), drop_cons h, drop_cons (show i < b.length by omega), gt_nat, gt_nat]
      generalize a.getD i default = x
      generalize b.getD i default = y
      by_cases e : x = y
      · simp [e]
      · simp [e]
    · rw [if_neg (by simp; omega), List.drop_eq_nil_of_le (by omega), List.drop_eq_nil_of_le (by omega)]
      rfl
theorem blocks_pure {k : Nat} {a b : List Int} (ha : a.length ≤ 1000000) (hk : a.length < k) : sluicegateref13_Blocks.f k a b = some (decide (a = b)) := by
  unfold sluicegateref13_Blocks.f
  by_cases h : a.length = b.length
  · rw [if_neg (by simp [h])]
    have := same_loop (F := fun k i => sluicegateref13_Blocks.l0 k a b i) (eqb := fun x y => decide (x = y)) (fun x y => rfl) h ha (fun k i => rfl) k 0 (by omega) (by omega)
    simpa using this
  · rw [if_pos (by simp; omega)]
    have : a ≠ b := fun e => h (by rw [e])
    simp [this]
theorem same12_pure {k : Nat} {a b : List (List UInt8)} (ha : a.length ≤ 1000000) (hk : a.length < k) : sluicegateref12_Same.f k a b = some (decide (a = b)) := by
  unfold sluicegateref12_Same.f
  by_cases h : a.length = b.length
  · rw [if_neg (by simp [h])]
    have := same_loop (F := fun k i => sluicegateref12_Same.l0 k a b i) (eqb := fun x y => decide (x = y)) (fun x y => rfl) h ha (fun k i => rfl) k 0 (by omega) (by omega)
    simpa using this
  · rw [if_pos (by simp; omega)]
    have : a ≠ b := fun e => h (by rw [e])
    simp [this]
theorem pr_eq (x y : Pr) : (decide (x.1 = y.1) && (decide (x.2 = y.2) && true)) = decide (x = y) := by
  obtain ⟨a, b⟩ := x
  obtain ⟨d, e⟩ := y
  by_cases h1 : a = d <;> by_cases h2 : b = e <;> simp [h1, h2]
theorem same11_pure {k : Nat} {a b : List Pr} (ha : a.length ≤ 1000000) (hk : a.length < k) : sluicegateref11_Same.f k a b = some (decide (a = b)) := by
  unfold sluicegateref11_Same.f
  by_cases h : a.length = b.length
  · rw [if_neg (by simp [h])]
    have := same_loop (F := fun k i => sluicegateref11_Same.l0 k a b i) (eqb := fun x y => decide (x.1 = y.1) && (decide (x.2 = y.2) && true)) pr_eq h ha (fun k i => rfl) k 0 (by omega) (by omega)
    simpa using this
  · rw [if_pos (by simp; omega)]
    have : a ≠ b := fun e => h (by rw [e])
    simp [this]
/-- the rows are no longer than this -/
structure Short (n : Nd) : Prop where
  kids : n.2.1.length ≤ 1000
  pivs : n.2.2.1.length ≤ 1000
  buf : n.2.2.2.1.length ≤ 1000
  prs : n.2.2.2.2.length ≤ 1000
theorem SmallN.short {n : Nd} (h : SmallN n) : Short n := ⟨by have := h.kids; omega, by have := h.pivs; omega, by have := h.buf; omega, by have := h.prs; omega⟩
instance decNd4 : DecidableEq (List Msg × List Pr) := instDecidableEqProd
instance decNd3 : DecidableEq (List (List UInt8) × List Msg × List Pr) := instDecidableEqProd
instance decNd2 : DecidableEq (List Int × List (List UInt8) × List Msg × List Pr) := instDecidableEqProd
instance decNd1 : DecidableEq Nd := instDecidableEqProd
theorem same13_pure {a b : Nd} (h : Short a) {k : Nat} (hk : 2000 < k) : sluicegateref13_Same.f k a b = some (decide (a = b)) := by
  have h1 := h.kids
  have h2 := h.pivs
  have h3 := h.buf
  have h4 := h.prs
  unfold sluicegateref13_Same.f
  rw [blocks_pure (by omega) (by omega), same12_pure (by omega) (by omega), refSame_pure (by omega) (by omega), same11_pure (by omega) (by omega)]
  obtain ⟨a1, a2, a3, a4, a5⟩ := a
  obtain ⟨b1, b2, b3, b4, b5⟩ := b
  simp only [Option.bind_some, decide_eq_true_eq, Prod.mk.injEq]
  by_cases e1 : a1 = b1 <;> by_cases e2 : a2 = b2 <;> by_cases e3 : a3 = b3 <;> by_cases e4 : a4 = b4 <;> by_cases e5 : a5 = b5 <;> simp [e1, e2, e3, e4, e5]
theorem clone32_pure {l : List Int} (hl : l.length ≤ 1000000) : slices_Clone_uint32_uint32.f l = some l := by
  unfold slices_Clone_uint32_uint32.f
  rw [if_pos (by simp; omega)]
  rfl
theorem cloneS_pure {l : List (List UInt8)} (hl : l.length ≤ 1000000) : slices_Clone_string_string.f l = some l := by
  unfold slices_Clone_string_string.f
  rw [if_pos (by simp; omega)]
  rfl
theorem cloneP_pure {l : List Pr} (hl : l.length ≤ 1000000) : slices_Clone_api_Pair_api_Pair.f l = some l := by
  unfold slices_Clone_api_Pair_api_Pair.f
  rw [if_pos (by simp; omega)]
  rfl
theorem nodeClone_pure {a : Nd} (ha : Short a) : node_Clone.f a = some a := by
  have h1 := ha.kids
  have h2 := ha.pivs
  have h3 := ha.buf
  have h4 := ha.prs
  unfold node_Clone.f
  rw [clone32_pure (by omega), cloneS_pure (by omega), clone_pure (by omega), cloneP_pure (by omega)]
  rfl
/-- joined -/
def joinN (a : Nd) (p : List UInt8) (b : Nd) : Nd × Bool :=
  if a.1 = b.1 then ((a.1, a.2.1 ++ b.2.1, if 0 < a.1 then a.2.2.1 ++ [p] ++ b.2.2.1 else a.2.2.1, a.2.2.2.1 ++ b.2.2.2.1, a.2.2.2.2 ++ b.2.2.2.2), true) else ((0, [], [], [], []), false)
theorem join_pure {a b : Nd} (p : List UInt8) (ha : Short a) (hb : Short b) : cleave_Join.f a p b = some (joinN a p b) := by
  have h1 := ha.kids
  have h2 := ha.pivs
  have h3 := ha.buf
  have h4 := ha.prs
  have g1 := hb.kids
  have g2 := hb.pivs
  have g3 := hb.buf
  have g4 := hb.prs
  unfold cleave_Join.f joinN
  rw [show node_Clone.f (a.1, a.2.1, a.2.2.1, a.2.2.2.1, a.2.2.2.2) = _ from nodeClone_pure ha]
  simp only [Option.bind_some]
  by_cases e : a.1 = b.1
  · rw [if_neg (by simp [e]), if_pos e, if_pos (by omega), if_pos (by omega), if_pos (by omega)]
    by_cases e0 : 0 < a.1
    · rw [if_pos (decide_eq_true e0), if_pos (by simp; omega), if_pos (by simp; omega), if_pos e0]
    · rw [if_neg (by simpa using e0), if_neg e0]
  · rw [if_pos (by simp [e]), if_neg e]
theorem short_join {a b : Nd} (p : List UInt8) (ha : SmallN a) (hb : SmallN b) : Short (joinN a p b).1 := by
  have h1 := ha.kids
  have h2 := ha.pivs
  have h3 := ha.buf
  have h4 := ha.prs
  have g1 := hb.kids
  have g2 := hb.pivs
  have g3 := hb.buf
  have g4 := hb.prs
  unfold joinN
  by_cases e : a.1 = b.1
  · rw [if_pos e]
    refine ⟨?_, ?_, ?_, ?_⟩
    · simp; omega
    · by_cases e0 : 0 < a.1
      · simp [e0]; omega
      · simp [e0]; omega
    · simp; omega
    · simp; omega
  · rw [if_neg e]
    exact ⟨by simp, by simp, by simp, by simp⟩
def fitsN (c : Cfg) (a b : Nd) : Bool := decide (a.1 = b.1) && (if a.1 = 0 then decide (2 * ((a.2.2.2.2.length + b.2.2.2.2.length : Nat) : Int) ≤ c.2.2.2.2.2.1) else decide (2 * ((a.2.1.length + b.2.1.length : Nat) : Int) ≤ c.2.2.2.1) && decide (((a.2.2.2.1.length + b.2.2.2.1.length : Nat) : Int) ≤ c.2.2.2.2.1))
theorem fits_pure {c : Cfg} {a b : Nd} (hc : OkC c) (ha : Short a) (hb : Short b) : cleave_Fits.f c a b = some (fitsN c a b) := by
  have h1 := ha.kids
  have h3 := ha.buf
  have h4 := ha.prs
  have g1 := hb.kids
  have g3 := hb.buf
  have g4 := hb.prs
  have c1 := hc.leaf
  have c2 := hc.fan
  have c3 := hc.buf
  unfold cleave_Fits.f fitsN
  have q1 : Int.tdiv c.2.2.2.2.2.1 2 = c.2.2.2.2.2.1 / 2 := Int.tdiv_eq_ediv_of_nonneg (by omega)
  have q2 : Int.tdiv c.2.2.2.1 2 = c.2.2.2.1 / 2 := Int.tdiv_eq_ediv_of_nonneg (by omega)
  rw [q1, q2, w64_id (x := c.2.2.2.2.2.1 / 2) (by omega) (by omega), w64_id (x := c.2.2.2.1 / 2) (by omega) (by omega), w64_id (by omega) (by omega), w64_id (by omega) (by omega), w64_id (by omega) (by omega)]
  by_cases e : a.1 = b.1
  · rw [if_neg (by simp [e]), decide_eq_true e, Bool.true_and]
    by_cases e0 : a.1 = 0
    · rw [if_pos (decide_eq_true e0), if_pos e0]
      congr 2
      exact propext (by omega)
    · rw [if_neg (by simpa using e0), if_neg e0]
      by_cases e2 : 2 * ((a.2.1.length + b.2.1.length : Nat) : Int) ≤ c.2.2.2.1
      · rw [if_pos (decide_eq_true (by omega)), decide_eq_true e2, Bool.true_and]
        congr 2
      · rw [if_neg (by simp only [decide_eq_true_eq]; omega), decide_eq_false e2]
        rfl
  · rw [if_pos (by simp [e]), decide_eq_false e]
    rfl
theorem awake14_pure (k : Nat) : sluicegatelaw14_awake.f (k + 40) = some true := by rfl
theorem refjoin_pure {a b : Nd} (p : List UInt8) (ha : Short a) (hb : Short b) (h0 : ¬ 0 < a.1 → a.2.2.1 = []) : sluicegateref14_Join.f a p b = some (joinN a p b) := by
  have h1 := ha.kids
  have h2 := ha.pivs
  have h3 := ha.buf
  have h4 := ha.prs
  have g1 := hb.kids
  have g2 := hb.pivs
  have g3 := hb.buf
  have g4 := hb.prs
  unfold sluicegateref14_Join.f joinN
  by_cases e : a.1 = b.1
  · rw [if_neg (by simp [e]), if_pos e]
    simp only [List.nil_append, List.length_append, List.length_nil, List.length_cons]
    rw [if_pos (by omega), if_pos (by omega), if_pos (by omega), if_pos (by omega), if_pos (by omega), if_pos (by omega)]
    by_cases e0 : 0 < a.1
    · rw [if_pos (decide_eq_true e0), if_pos (by omega), if_pos (by omega), if_pos (by omega), if_pos e0]
    · rw [if_neg (by simpa using e0), if_neg e0, h0 e0]
  · rw [if_pos (by simp [e]), if_neg e]
def cutK (a b : List UInt8) : List UInt8 := if Op.bytesLess a b = true then b.take (shd a b + 1) else []
def pivN (n : Nd) : List UInt8 := n.2.2.1.getD ((n.2.1.length + 1) / 2 - 1) []
def zeroN : Nd := (0, [], [], [], [])
/-- halved, where the messages' first one that is not below the pivot is the c-th -/
def halveN (n : Nd) (c : Nat) : Nd × Nd × List UInt8 × Bool :=
  if n.1 = 0 then
    if n.2.2.2.2.length < 2 then (zeroN, zeroN, [], false)
    else ((0, [], [], [], n.2.2.2.2.take ((n.2.2.2.2.length + 1) / 2)), (0, [], [], [], n.2.2.2.2.drop ((n.2.2.2.2.length + 1) / 2)),
      cutK (n.2.2.2.2.getD ((n.2.2.2.2.length + 1) / 2 - 1) default).1 (n.2.2.2.2.getD ((n.2.2.2.2.length + 1) / 2) default).1, true)
  else if n.2.1.length < 2 then (zeroN, zeroN, [], false)
  else ((n.1, n.2.1.take ((n.2.1.length + 1) / 2), n.2.2.1.take ((n.2.1.length + 1) / 2 - 1), n.2.2.2.1.take c, []), (n.1, n.2.1.drop ((n.2.1.length + 1) / 2), n.2.2.1.drop ((n.2.1.length + 1) / 2), n.2.2.2.1.drop c, []),
      pivN n, true)
theorem leafhalve_pure {l : List Pr} (h150 : l.length ≤ 150) (hl : ∀ m ∈ l, m.1.length ≤ 200) {k : Nat} (hk : 3000 < k) : leaf_Halve.f k l = some (if l.length < 2 then ([], [], [], false) else (l.take ((l.length + 1) / 2), l.drop ((l.length + 1) / 2), cutK (l.getD ((l.length + 1) / 2 - 1) default).1 (l.getD ((l.length + 1) / 2) default).1, true)) := by
  unfold leaf_Halve.f
  by_cases h : l.length < 2
  · rw [if_pos (decide_eq_true (by omega)), if_pos h]
  · have k1 := hl _ (getD_mem (d := default) (show (l.length + 1) / 2 - 1 < l.length by omega))
    have k2 := hl _ (getD_mem (d := default) (show (l.length + 1) / 2 < l.length by omega))
    rw [if_neg (by simp only [decide_eq_true_eq]; omega), if_neg h, tdiv2 (by omega), w64_pred (by omega) (by omega), if_pos (by omega), if_pos (by omega), gt_nat, gt_nat, cut_pure (by omega) (by omega) (by omega), Option.bind_some, if_pos (by omega), if_pos (by omega), Int.toNat_natCast,
      cloneP_pure (by rw [List.length_take]; omega), Option.bind_some, cloneP_pure (by rw [List.length_drop]; omega), Option.bind_some]
    unfold cutK
    split <;> rfl
/-- a node as halving wants it -/
structure HalfN (n : Nd) : Prop where
  small : SmallN n
  node : n.1 ≠ 0 → n.2.2.1.length + 1 = n.2.1.length ∧ riseM n.2.2.2.1 = true
theorem split_pure {l : List Msg} (x : List UInt8) (h150 : l.length ≤ 150) (hr : riseM l = true) {k : Nat} (hk : 200 < k) : ∃ c, AtLow l x c ∧ buf_Split.f k l x = some (l.take c, l.drop c) := by
  obtain ⟨c, c1, c2⟩ := search_pure x h150 hr hk
  have c3 := c2.1
  refine ⟨c, c2, ?_⟩
  unfold buf_Split.f
  rw [c1, Option.bind_some, if_pos (by omega), if_pos (by omega), Int.toNat_natCast, clone_pure (by rw [List.length_take]; omega), Option.bind_some, clone_pure (by rw [List.length_drop]; omega), Option.bind_some]
theorem halve_pure {n : Nd} (hn : HalfN n) {k : Nat} (hk : 3000 < k) : ∃ c, (n.1 ≠ 0 → AtLow n.2.2.2.1 (pivN n) c) ∧ cleave_Halve.f k n = some (halveN n c) := by
  have hs := hn.small
  have h1 := hs.kids
  have h3 := hs.buf
  unfold cleave_Halve.f halveN
  by_cases e : n.1 = 0
  · refine ⟨0, fun h => absurd e h, ?_⟩
    rw [if_pos (decide_eq_true e), if_pos e, leafhalve_pure hs.prs hs.rk hk, Option.bind_some]
    by_cases h : n.2.2.2.2.length < 2
    · rw [if_pos h, if_pos h]
      rfl
    · rw [if_neg h, if_neg h]
  · obtain ⟨e1, e2⟩ := hn.node e
    rw [if_neg (by simpa using e)]
    obtain ⟨c, c1, c2⟩ := split_pure (pivN n) h3 e2 (k := k) (by omega)
    refine ⟨c, fun _ => c1, ?_⟩
    rw [if_neg e]
    by_cases h : n.2.1.length < 2
    · rw [if_pos (decide_eq_true (by omega)), if_pos h]
      rfl
    · have e0 : gt n.2.2.1 (((n.2.1.length + 1) / 2 - 1 : Nat) : Int) = pivN n := gt_nat _ _
      rw [if_neg (by simp only [decide_eq_true_eq]; omega), if_neg h, tdiv2 (by omega), w64_pred (by omega) (by omega), if_pos (by omega), e0, c2, Option.bind_some, if_pos (by omega), if_pos (by omega), Int.toNat_natCast, Int.toNat_natCast, clone32_pure (by rw [List.length_take]; omega), Option.bind_some, cloneS_pure (by rw [List.length_take]; omega), Option.bind_some,
        if_pos (by omega), if_pos (by omega), clone32_pure (by rw [List.length_drop]; omega), Option.bind_some, cloneS_pure (by rw [List.length_drop]; omega), Option.bind_some]
theorem refhalve_l0 {n : Nd} (hn : SmallN n) (h2 : ¬ n.2.2.2.2.length < 2) : ∀ (k i : Nat), i ≤ n.2.2.2.2.length → 6000 + (n.2.2.2.2.length - i) < k →
    sluicegateref14_Halve.l0 k n (n.2.2.2.2.take (min i ((n.2.2.2.2.length + 1) / 2))) ((n.2.2.2.2.drop ((n.2.2.2.2.length + 1) / 2)).take (i - (n.2.2.2.2.length + 1) / 2)) (i : Int)
      = some ((n.1, [], [], [], n.2.2.2.2.take ((n.2.2.2.2.length + 1) / 2)), (n.1, [], [], [], n.2.2.2.2.drop ((n.2.2.2.2.length + 1) / 2)), cutK (n.2.2.2.2.getD ((n.2.2.2.2.length + 1) / 2 - 1) default).1 (n.2.2.2.2.getD ((n.2.2.2.2.length + 1) / 2) default).1, true)
  | 0, i, _, h => by omega
  | k + 1, i, hi, hk => by
    have h150 := hn.prs
    have ih := refhalve_l0 hn h2 k (i + 1)
    rw [sluicegateref14_Halve.l0]
    by_cases h : i < n.2.2.2.2.length
    · have ih := ih (by omega) (by omega)
      have g1 : (0 : Int) ≤ (i : Int) ∧ (i : Int) < (n.2.2.2.2.length : Int) := by omega
      have etp : ∀ m : Pr, (m.1, m.2) = m := fun _ => rfl
      have len1 : ([n.2.2.2.2.getD i default] : List Pr).length = 1 := rfl
      rw [if_pos (decide_eq_true g1.2), if_pos g1, if_pos g1, gt_nat, etp, len1, w64_succ (by omega), w64_id (x := 2 * (i : Int)) (by omega) (by omega)]
      by_cases c : i < (n.2.2.2.2.length + 1) / 2
      · rw [if_pos (decide_eq_true (by omega)), if_pos (by rw [List.length_take]; omega)]
        rw [show min (i + 1) ((n.2.2.2.2.length + 1) / 2) = i + 1 by omega, show i + 1 - (n.2.2.2.2.length + 1) / 2 = 0 by omega, take_get h] at ih
        rw [show min i ((n.2.2.2.2.length + 1) / 2) = i by omega, show i - (n.2.2.2.2.length + 1) / 2 = 0 by omega]
        exact ih
      · rw [if_neg (by simp only [decide_eq_true_eq]; omega), if_pos (by rw [List.length_take, List.length_drop]; omega)]
        rw [show min (i + 1) ((n.2.2.2.2.length + 1) / 2) = (n.2.2.2.2.length + 1) / 2 by omega, show i + 1 - (n.2.2.2.2.length + 1) / 2 = (i - (n.2.2.2.2.length + 1) / 2) + 1 by omega, drop_take_get (by omega), show (n.2.2.2.2.length + 1) / 2 + (i - (n.2.2.2.2.length + 1) / 2) = i by omega] at ih
        rw [show min i ((n.2.2.2.2.length + 1) / 2) = (n.2.2.2.2.length + 1) / 2 by omega]
        exact ih
    · have k1 := hn.rk _ (getD_mem (d := default) (show (n.2.2.2.2.length + 1) / 2 - 1 < n.2.2.2.2.length by omega))
      have k2 := hn.rk _ (getD_mem (d := default) (show (n.2.2.2.2.length + 1) / 2 < n.2.2.2.2.length by omega))
      have l1 : (n.2.2.2.2.take ((n.2.2.2.2.length + 1) / 2)).length = (n.2.2.2.2.length + 1) / 2 := by rw [List.length_take]; omega
      have l2 : (n.2.2.2.2.drop ((n.2.2.2.2.length + 1) / 2)).length = n.2.2.2.2.length - (n.2.2.2.2.length + 1) / 2 := by rw [List.length_drop]
      have e0 : gt (n.2.2.2.2.drop ((n.2.2.2.2.length + 1) / 2)) 0 = n.2.2.2.2.getD ((n.2.2.2.2.length + 1) / 2) default := by
        rw [show (0 : Int) = ((0 : Nat) : Int) from rfl, gt_nat, getD_drop]; rfl
      rw [if_neg (by simp only [decide_eq_true_eq]; omega), show min i ((n.2.2.2.2.length + 1) / 2) = (n.2.2.2.2.length + 1) / 2 by omega, List.take_of_length_le (l := n.2.2.2.2.drop ((n.2.2.2.2.length + 1) / 2)) (by rw [l2]; omega), l1, l2, w64_pred (by omega) (by omega), if_pos (by omega), if_pos (by omega), gt_nat, getD_take (by omega), e0,
        refcut_pure (by omega) (by omega) (by omega), Option.bind_some]
      unfold cutK
      split <;> rfl
theorem refhalve_l3 {n : Nd} (hn : SmallN n) {c : Nat} {p : List UInt8} (hp : p.length ≤ 200) (hc : AtLow n.2.2.2.1 p c) (x4 x5 : List Int) (x7 x8 : List (List UInt8)) : ∀ (k i : Nat), i ≤ n.2.2.2.1.length → 2100 + (n.2.2.2.1.length - i) < k →
    sluicegateref14_Halve.l3 k n x4 x5 x7 x8 p (n.2.2.2.1.take (min i c)) ((n.2.2.2.1.drop c).take (i - c)) (i : Int)
      = some ((n.1, x4, x7, n.2.2.2.1.take c, []), (n.1, x5, x8, n.2.2.2.1.drop c, []), p, true)
  | 0, i, _, h => by omega
  | k + 1, i, hi, hk => by
    have h150 := hn.buf
    have ih := refhalve_l3 hn hp hc x4 x5 x7 x8 k (i + 1)
    obtain ⟨c1, c2, c3⟩ := hc
    rw [sluicegateref14_Halve.l3]
    by_cases h : i < n.2.2.2.1.length
    · have ih := ih (by omega) (by omega)
      have g1 : (0 : Int) ≤ (i : Int) ∧ (i : Int) < (n.2.2.2.1.length : Int) := by omega
      have k1 := hn.bk _ (getD_mem (d := default) h)
      have etm : ∀ m : Msg, (m.1, m.2.1, m.2.2) = m := fun _ => rfl
      have len1 : ([n.2.2.2.1.getD i default] : List Msg).length = 1 := rfl
      rw [if_pos (decide_eq_true g1.2), if_pos g1, gt_nat, etm, len1, compare_pure (by omega) (by omega) (by omega), Option.bind_some, w64_succ (by omega)]
      by_cases q : i < c
      · rw [if_pos (decide_eq_true (scmp_lt.2 (c2 i q))), if_pos (by rw [List.length_take]; omega)]
        rw [show min (i + 1) c = i + 1 by omega, show i + 1 - c = 0 by omega, take_get h] at ih
        rw [show min i c = i by omega, show i - c = 0 by omega]
        exact ih
      · rw [if_neg (by simp only [decide_eq_true_eq, scmp_lt, c3 i (by omega) h]; simp), if_pos (by rw [List.length_take, List.length_drop]; omega)]
        rw [show min (i + 1) c = c by omega, show i + 1 - c = (i - c) + 1 by omega, drop_take_get (by omega), show c + (i - c) = i by omega] at ih
        rw [show min i c = c by omega]
        exact ih
    · rw [if_neg (by simp only [decide_eq_true_eq]; omega), show min i c = c by omega, List.take_of_length_le (l := n.2.2.2.1.drop c) (by rw [List.length_drop]; omega)]
theorem refhalve_l2 {n : Nd} (hn : SmallN n) {c : Nat} (hp : (pivN n).length ≤ 200) (hc : AtLow n.2.2.2.1 (pivN n) c) (h2 : ¬ n.2.1.length < 2) (hl : n.2.2.1.length + 1 = n.2.1.length) : ∀ (k i : Nat), i ≤ n.2.2.1.length → 2500 + (n.2.2.1.length - i) < k →
    sluicegateref14_Halve.l2 k n (n.2.1.take ((n.2.1.length + 1) / 2)) (n.2.1.drop ((n.2.1.length + 1) / 2)) (n.2.2.1.take (min i ((n.2.1.length + 1) / 2 - 1))) ((n.2.2.1.drop ((n.2.1.length + 1) / 2)).take (i - (n.2.1.length + 1) / 2)) (if i < (n.2.1.length + 1) / 2 then [] else pivN n) (i : Int)
      = some ((n.1, n.2.1.take ((n.2.1.length + 1) / 2), n.2.2.1.take ((n.2.1.length + 1) / 2 - 1), n.2.2.2.1.take c, []), (n.1, n.2.1.drop ((n.2.1.length + 1) / 2), n.2.2.1.drop ((n.2.1.length + 1) / 2), n.2.2.2.1.drop c, []), pivN n, true)
  | 0, i, _, h => by omega
  | k + 1, i, hi, hk => by
    have h150 := hn.buf
    have h80 := hn.kids
    have ih := refhalve_l2 hn hp hc h2 hl k (i + 1)
    have l1 : (n.2.1.take ((n.2.1.length + 1) / 2)).length = (n.2.1.length + 1) / 2 := by rw [List.length_take]; omega
    rw [sluicegateref14_Halve.l2]
    by_cases h : i < n.2.2.1.length
    · have ih := ih (by omega) (by omega)
      have g1 : (0 : Int) ≤ (i : Int) ∧ (i : Int) < (n.2.2.1.length : Int) := by omega
      have len1 : ([gt n.2.2.1 (i : Int)] : List (List UInt8)).length = 1 := rfl
      have e0 : gt n.2.2.1 (i : Int) = n.2.2.1.getD i default := gt_nat _ _
      rw [if_pos (decide_eq_true g1.2), w64_succ (by omega), l1, len1]
      by_cases q : i + 1 < (n.2.1.length + 1) / 2
      · rw [if_pos (decide_eq_true (by omega)), if_pos g1, if_pos (by rw [List.length_take]; omega)]
        rw [show min (i + 1) ((n.2.1.length + 1) / 2 - 1) = i + 1 by omega, show i + 1 - (n.2.1.length + 1) / 2 = 0 by omega, take_get h, ← e0, if_pos (by omega)] at ih
        rw [show min i ((n.2.1.length + 1) / 2 - 1) = i by omega, show i - (n.2.1.length + 1) / 2 = 0 by omega, if_pos (by omega)]
        exact ih
      · rw [if_neg (by simp only [decide_eq_true_eq]; omega)]
        by_cases q2 : i + 1 = (n.2.1.length + 1) / 2
        · have e1 : gt n.2.2.1 (i : Int) = pivN n := by unfold pivN; rw [← q2, Nat.add_sub_cancel]; exact e0
          rw [if_pos (decide_eq_true (by omega)), if_pos g1, e1]
          rw [show min (i + 1) ((n.2.1.length + 1) / 2 - 1) = i by omega, show i + 1 - (n.2.1.length + 1) / 2 = 0 by omega, if_neg (by omega)] at ih
          rw [show min i ((n.2.1.length + 1) / 2 - 1) = i by omega, show i - (n.2.1.length + 1) / 2 = 0 by omega]
          exact ih
        · rw [if_neg (by simp only [decide_eq_true_eq]; omega), if_pos g1, if_pos (by rw [List.length_take, List.length_drop]; omega)]
          rw [show min (i + 1) ((n.2.1.length + 1) / 2 - 1) = (n.2.1.length + 1) / 2 - 1 by omega, show i + 1 - (n.2.1.length + 1) / 2 = (i - (n.2.1.length + 1) / 2) + 1 by omega, drop_take_get (by omega), show (n.2.1.length + 1) / 2 + (i - (n.2.1.length + 1) / 2) = i by omega, if_neg (by omega), ← e0] at ih
          rw [show min i ((n.2.1.length + 1) / 2 - 1) = (n.2.1.length + 1) / 2 - 1 by omega, if_neg (by omega)]
          exact ih
    · have := refhalve_l3 hn hp hc (n.2.1.take ((n.2.1.length + 1) / 2)) (n.2.1.drop ((n.2.1.length + 1) / 2)) (n.2.2.1.take ((n.2.1.length + 1) / 2 - 1)) (n.2.2.1.drop ((n.2.1.length + 1) / 2)) k 0 (by omega) (by omega)
      rw [if_neg (by simp only [decide_eq_true_eq]; omega), show min i ((n.2.1.length + 1) / 2 - 1) = (n.2.1.length + 1) / 2 - 1 by omega, List.take_of_length_le (l := n.2.2.1.drop ((n.2.1.length + 1) / 2)) (by rw [List.length_drop]; omega), if_neg (by omega)]
      simpa using this
theorem refhalve_l1 {n : Nd} (hn : SmallN n) {c : Nat} (hp : (pivN n).length ≤ 200) (hc : AtLow n.2.2.2.1 (pivN n) c) (h2 : ¬ n.2.1.length < 2) (hl : n.2.2.1.length + 1 = n.2.1.length) : ∀ (k i : Nat), i ≤ n.2.1.length → 2700 + (n.2.1.length - i) < k →
    sluicegateref14_Halve.l1 k n (n.2.1.take (min i ((n.2.1.length + 1) / 2))) ((n.2.1.drop ((n.2.1.length + 1) / 2)).take (i - (n.2.1.length + 1) / 2)) (i : Int)
      = some ((n.1, n.2.1.take ((n.2.1.length + 1) / 2), n.2.2.1.take ((n.2.1.length + 1) / 2 - 1), n.2.2.2.1.take c, []), (n.1, n.2.1.drop ((n.2.1.length + 1) / 2), n.2.2.1.drop ((n.2.1.length + 1) / 2), n.2.2.2.1.drop c, []), pivN n, true)
  | 0, i, _, h => by omega
  | k + 1, i, hi, hk => by
    have h80 := hn.kids
    have ih := refhalve_l1 hn hp hc h2 hl k (i + 1)
    rw [sluicegateref14_Halve.l1]
    by_cases h : i < n.2.1.length
    · have ih := ih (by omega) (by omega)
      have g1 : (0 : Int) ≤ (i : Int) ∧ (i : Int) < (n.2.1.length : Int) := by omega
      have len1 : ([gt n.2.1 (i : Int)] : List Int).length = 1 := rfl
      have e0 : gt n.2.1 (i : Int) = n.2.1.getD i default := gt_nat _ _
      rw [if_pos (decide_eq_true g1.2), if_pos g1, if_pos g1, len1, w64_succ (by omega), w64_id (x := 2 * (i : Int)) (by omega) (by omega)]
      by_cases q : i < (n.2.1.length + 1) / 2
      · rw [if_pos (decide_eq_true (by omega)), if_pos (by rw [List.length_take]; omega)]
        rw [show min (i + 1) ((n.2.1.length + 1) / 2) = i + 1 by omega, show i + 1 - (n.2.1.length + 1) / 2 = 0 by omega, take_get h, ← e0] at ih
        rw [show min i ((n.2.1.length + 1) / 2) = i by omega, show i - (n.2.1.length + 1) / 2 = 0 by omega]
        exact ih
      · rw [if_neg (by simp only [decide_eq_true_eq]; omega), if_pos (by rw [List.length_take, List.length_drop]; omega)]
        rw [show min (i + 1) ((n.2.1.length + 1) / 2) = (n.2.1.length + 1) / 2 by omega, show i + 1 - (n.2.1.length + 1) / 2 = (i - (n.2.1.length + 1) / 2) + 1 by omega, drop_take_get (by omega), show (n.2.1.length + 1) / 2 + (i - (n.2.1.length + 1) / 2) = i by omega, ← e0] at ih
        rw [show min i ((n.2.1.length + 1) / 2) = (n.2.1.length + 1) / 2 by omega]
        exact ih
    · have := refhalve_l2 hn hp hc h2 hl k 0 (by omega) (by omega)
      rw [if_neg (by simp only [decide_eq_true_eq]; omega), show min i ((n.2.1.length + 1) / 2) = (n.2.1.length + 1) / 2 by omega, List.take_of_length_le (l := n.2.1.drop ((n.2.1.length + 1) / 2)) (by rw [List.length_drop]; omega)]
      rw [if_pos (by omega)] at this
      simpa using this
theorem refhalve_pure {n : Nd} (hn : HalfN n) {c : Nat} (hc : n.1 ≠ 0 → AtLow n.2.2.2.1 (pivN n) c) {k : Nat} (hk : 10000 < k) : sluicegateref14_Halve.f k n = some (halveN n c) := by
  have hs := hn.small
  have h1 := hs.kids
  have h4 := hs.prs
  unfold sluicegateref14_Halve.f halveN
  by_cases e : n.1 = 0
  · rw [if_pos (decide_eq_true e), if_pos e]
    by_cases h : n.2.2.2.2.length < 2
    · rw [if_pos (decide_eq_true (by omega)), if_pos h]
      rfl
    · have := refhalve_l0 hs h k 0 (by omega) (by omega)
      rw [if_neg (by simp only [decide_eq_true_eq]; omega), if_neg h]
      rw [e] at this
      simpa using this
  · obtain ⟨e1, e2⟩ := hn.node e
    rw [if_neg (by simpa using e), if_neg e]
    by_cases h : n.2.1.length < 2
    · rw [if_pos (decide_eq_true (by omega)), if_pos h]
      rfl
    · have hp : (pivN n).length ≤ 200 := hs.pk _ (getD_mem (by omega))
      have := refhalve_l1 hs hp (hc e) h e1 k 0 (by omega) (by omega)
      rw [if_neg (by simp only [decide_eq_true_eq]; omega), if_neg h]
      simpa using this
theorem RightN.flat {c : Cfg} {s : Sp} {n : Nd} (h : RightN c s n) : ¬ 0 < n.1 → n.2.2.1 = [] := fun h0 => by
  by_cases e : n.1 = 0
  · have := h.leaf e
    simp only [outB, Bool.and_eq_true, decide_eq_true_eq] at this
    exact this.2.2.1
  · exact absurd (h.node e).1 h0
theorem RightN.half {c : Cfg} {s : Sp} {n : Nd} (h : RightN c s n) : HalfN n := ⟨h.small, fun e => by
  have := (h.node e).2
  simp only [innB, restB, tailB, Bool.and_eq_true, decide_eq_true_eq] at this
  exact ⟨this.2.2.2.2.2.2.2.1, this.2.2.2.2.2.2.2.2.2.2⟩⟩
theorem short_halve {n : Nd} (h : SmallN n) (c : Nat) : Short (halveN n c).1 ∧ Short (halveN n c).2.1 := by
  have h1 := h.kids
  have h2 := h.pivs
  have h3 := h.buf
  have h4 := h.prs
  unfold halveN
  split
  · split
    · exact ⟨⟨by simp [zeroN], by simp [zeroN], by simp [zeroN], by simp [zeroN]⟩, ⟨by simp [zeroN], by simp [zeroN], by simp [zeroN], by simp [zeroN]⟩⟩
    · exact ⟨⟨by simp, by simp, by simp, by simp; omega⟩, ⟨by simp, by simp, by simp, by simp; omega⟩⟩
  · split
    · exact ⟨⟨by simp [zeroN], by simp [zeroN], by simp [zeroN], by simp [zeroN]⟩, ⟨by simp [zeroN], by simp [zeroN], by simp [zeroN], by simp [zeroN]⟩⟩
    · exact ⟨⟨by simp; omega, by simp; omega, by simp; omega, by simp⟩, ⟨by simp; omega, by simp; omega, by simp; omega, by simp⟩⟩
theorem CleaveHalves_pure {p0 p1 p2 : Prop} (c : Cfg) (s : Sp) (n : Nd) (_ : p0) (_ : p1) (_ : p2) : ∃ k, sluicegatelaw14_CleaveHalves.f k c s n = some true := by
  refine ⟨30000 + 40, ?_⟩
  unfold sluicegatelaw14_CleaveHalves.f
  obtain ⟨g1, e1, d1⟩ := right14_pure c s n (k := 30000 + 40) (by omega)
  rw [show sluicegatelaw14_right.f (30000 + 40) _ _ _ = _ from e1, awake14_pure]
  cases g1 with
  | false => rfl
  | true =>
    have hn := d1 rfl
    have hh := hn.half
    have sn := hn.small.short
    obtain ⟨i, i1, i2⟩ := halve_pure hh (k := 30000 + 40) (by omega)
    have i3 := refhalve_pure hh i1 (k := 30000 + 40) (by omega)
    have z : Short (n.1, [], [], [], []) := ⟨by simp, by simp, by simp, by simp⟩
    obtain ⟨z1, z2⟩ := short_halve hn.small i
    simp only [Option.bind_some, Bool.not_true, Bool.false_eq_true, if_false]
    rw [show sluicegateref14_Join.f (n.1, _) _ _ = _ from refjoin_pure [] sn z hn.flat, show cleave_Halve.f (30000 + 40) _ = _ from i2, show sluicegateref14_Halve.f (30000 + 40) _ = _ from i3, Option.bind_some, Option.bind_some, Option.bind_some,
      show sluicegateref13_Same.f (30000 + 40) (_, (halveN n i).1.2.1, _) _ = _ from same13_pure (a := (halveN n i).1) (b := (halveN n i).1) z1 (by omega),
      show sluicegateref13_Same.f (30000 + 40) (_, (halveN n i).2.1.2.1, _) _ = _ from same13_pure (a := (halveN n i).2.1) (b := (halveN n i).2.1) z2 (by omega)]
    have j : (joinN n [] (n.1, [], [], [], [])).1.2.1 = n.2.1 := by simp [joinN]
    simp [j, blocks_pure (k := 30040) (a := n.2.1) (b := n.2.1) (by have := sn.kids; omega) (by have := sn.kids; omega)]
end Go.SK.T
