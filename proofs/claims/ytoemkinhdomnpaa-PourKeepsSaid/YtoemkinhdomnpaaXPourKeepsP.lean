/- The plain law behind PourKeeps: what its code computes is true for all settings, nodes, places and numbers. -/
import Derived.Test.YtoemkinhdomnpaaXPourKeepsF3
set_option linter.unusedVariables false
set_option linter.unusedSimpArgs false
namespace Go.SK.T
open Go Go.SK
theorem compare_l0 : ∀ (k : Nat) (a b : List UInt8) (i : Nat), a.length ≤ 4611686018427387904 → b.length ≤ 4611686018427387904 → i ≤ a.length → i ≤ b.length → a.length - i < k →
    sluicegateref01_Compare.l0 k a b (i : Int) = some (scmp (a.drop i) (b.drop i))
  | 0, a, b, i, _, _, _, _, h => by omega
  | k + 1, a, b, i, ha, hb, hia, hib, hk => by
    unfold sluicegateref01_Compare.l0
    by_cases h1 : i < a.length
    · by_cases h2 : i < b.length
      · have g1 : (0 : Int) ≤ (i : Int) ∧ (i : Int) < (a.length : Int) := by omega
        have g2 : (0 : Int) ≤ (i : Int) ∧ (i : Int) < (b.length : Int) := by omega
        have w : w64 ((i : Int) + 1) = ((i + 1 : Nat) : Int) := by rw [w64_id (by omega) (by omega)]; omega
        have ih := compare_l0 k a b (i + 1) ha hb (by omega) (by omega) (by omega)
        simp only [g1.2, g2.2, g1, g2, decide_true, if_true, and_self, w, ih, gtb_lt, Int.toNat_natCast, drop_byte h1, drop_byte h2, scmp_cons, decide_eq_true_eq]
        split
        · rfl
        · split <;> rfl
      · have g1 : (i : Int) < (a.length : Int) := by omega
        have g2 : ¬ (i : Int) < (b.length : Int) := by omega
        have e : b.drop i = [] := List.drop_eq_nil_of_le (by omega)
        have z1 : ¬ (a.length : Int) < (b.length : Int) := by omega
        have z2 : (b.length : Int) < (a.length : Int) := by omega
        have z3 : ¬ (a.drop i).length = 0 := by rw [List.length_drop]; omega
        simp [g1, g2, e, z1, z2, scmp_nil_right, z3]
        omega
    · have g1 : ¬ (i : Int) < (a.length : Int) := by omega
      have e : a.drop i = [] := List.drop_eq_nil_of_le (by omega)
      have z : (b.drop i).length = b.length - i := List.length_drop ..
      simp only [g1, e, scmp_nil_left, z, decide_false, Bool.false_eq_true, if_false, decide_eq_true_eq]
      by_cases h2 : b.length = i
      · have z1 : ¬ (a.length : Int) < (b.length : Int) := by omega
        have z2 : ¬ (b.length : Int) < (a.length : Int) := by omega
        have h3 : a.length = i := by omega
        simp [h2, h3]
      · have z1 : (a.length : Int) < (b.length : Int) := by omega
        have z2 : ¬ b.length - i = 0 := by omega
        simp [z1, z2]
theorem compare_pure {k : Nat} {a b : List UInt8} (ha : a.length ≤ 2000) (hb : b.length ≤ 2000) (hk : 2000 < k) : sluicegateref01_Compare.f k a b = some (scmp a b) := by
  have := compare_l0 k a b 0 (by omega) (by omega) (by omega) (by omega) (by omega)
  simpa [sluicegateref01_Compare.f] using this
abbrev Msg := List UInt8 × Bool × List UInt8
theorem msg_eq (x y : Msg) : (decide (x.1 = y.1) && ((x.2.1 == y.2.1) && (decide (x.2.2 = y.2.2) && true))) = decide (x = y) := by
  obtain ⟨a, b, c⟩ := x
  obtain ⟨d, e, f⟩ := y
  by_cases h1 : a = d <;> by_cases h2 : b = e <;> by_cases h3 : c = f <;> simp [h1, h2, h3]
abbrev Cfg := Int × Int × Int × Int × Int × Int × Int × Int
abbrev Pr := List UInt8 × List UInt8
abbrev Nd := Int × List Int × List (List UInt8) × List Msg × List Pr
/-- what is not great -/
structure SmallN (n : Nd) : Prop where
  kids : n.2.1.length ≤ 80
  pivs : n.2.2.1.length ≤ 80
  buf : n.2.2.2.1.length ≤ 150
  prs : n.2.2.2.2.length ≤ 150
  pk : ∀ p ∈ n.2.2.1, p.length ≤ 200
  bk : ∀ m ∈ n.2.2.2.1, m.1.length ≤ 200
  rk : ∀ m ∈ n.2.2.2.2, m.1.length ≤ 200
/-- what may be asked whether it is right -/
structure MidN (n : Nd) : Prop where
  kids : n.2.1.length ≤ 80
  pivs : n.2.2.1.length ≤ 80
  buf : n.2.2.2.1.length ≤ 400
  prs : n.2.2.2.2.length ≤ 400
  pk : ∀ p ∈ n.2.2.1, p.length ≤ 300
  bk : ∀ m ∈ n.2.2.2.1, m.1.length ≤ 300
  rk : ∀ m ∈ n.2.2.2.2, m.1.length ≤ 300
theorem SmallN.mid {n : Nd} (h : SmallN n) : MidN n := ⟨h.kids, h.pivs, by have := h.buf; omega, by have := h.prs; omega, fun p hp => by have := h.pk p hp; omega, fun p hp => by have := h.bk p hp; omega, fun p hp => by have := h.rk p hp; omega⟩
theorem great_l2 (n : Nd) (hb : n.2.2.2.2.length ≤ 150) : ∀ (k i : Nat), i ≤ n.2.2.2.2.length → n.2.2.2.2.length - i < k → (∀ m ∈ n.2.2.2.2.take i, m.1.length ≤ 200) →
    ∃ g, sluicegatelaw13_Great.l2 k n (i : Int) = some g ∧ (g = false → ∀ m ∈ n.2.2.2.2, m.1.length ≤ 200)
  | 0, i, _, h, _ => by omega
  | k + 1, i, hi, hk, hm => by
    rw [sluicegatelaw13_Great.l2]
    by_cases h : i < n.2.2.2.2.length
    · have g1 : (0 : Int) ≤ (i : Int) ∧ (i : Int) < (n.2.2.2.2.length : Int) := by omega
      rw [if_pos (decide_eq_true g1.2), if_pos g1, gt_nat]
      by_cases h2 : 200 < (n.2.2.2.2.getD i default).1.length
      · exact ⟨true, by rw [if_pos (decide_eq_true (by omega))], fun h => by cases h⟩
      · rw [if_neg (by simp only [decide_eq_true_eq]; omega), w64_succ (by omega)]
        refine great_l2 n hb k (i + 1) (by omega) (by omega) fun m hm' => ?_
        rw [List.take_add_one, List.mem_append] at hm'
        rcases hm' with hm' | hm'
        · exact hm m hm'
        · rw [List.getElem?_eq_getElem h] at hm'
          simp only [Option.toList_some, List.mem_singleton] at hm'
          subst hm'
          rw [List.getD_eq_getElem?_getD, List.getElem?_eq_getElem h] at h2
          simp only [Option.getD_some] at h2
          omega
    · rw [if_neg (by simp only [decide_eq_true_eq]; omega)]
      exact ⟨false, rfl, fun _ => by rwa [List.take_of_length_le (by omega)] at hm⟩
theorem great_l1 (n : Nd) (hb : n.2.2.2.2.length ≤ 150) (hc : n.2.2.2.1.length ≤ 150) : ∀ (k i : Nat), i ≤ n.2.2.2.1.length → 200 + (n.2.2.2.1.length - i) < k → (∀ m ∈ n.2.2.2.1.take i, m.1.length ≤ 200) →
    ∃ g, sluicegatelaw13_Great.l1 k n (i : Int) = some g ∧ (g = false → (∀ m ∈ n.2.2.2.1, m.1.length ≤ 200) ∧ ∀ m ∈ n.2.2.2.2, m.1.length ≤ 200)
  | 0, i, _, h, _ => by omega
  | k + 1, i, hi, hk, hm => by
    rw [sluicegatelaw13_Great.l1]
    by_cases h : i < n.2.2.2.1.length
    · have g1 : (0 : Int) ≤ (i : Int) ∧ (i : Int) < (n.2.2.2.1.length : Int) := by omega
      rw [if_pos (decide_eq_true g1.2), if_pos g1, gt_nat]
      by_cases h2 : 200 < (n.2.2.2.1.getD i default).1.length
      · exact ⟨true, by rw [if_pos (decide_eq_true (by omega))], fun h => by cases h⟩
      · rw [if_neg (by simp only [decide_eq_true_eq]; omega), w64_succ (by omega)]
        refine great_l1 n hb hc k (i + 1) (by omega) (by omega) fun m hm' => ?_
        rw [List.take_add_one, List.mem_append] at hm'
        rcases hm' with hm' | hm'
        · exact hm m hm'
        · rw [List.getElem?_eq_getElem h] at hm'
          simp only [Option.toList_some, List.mem_singleton] at hm'
          subst hm'
          rw [List.getD_eq_getElem?_getD, List.getElem?_eq_getElem h] at h2
          simp only [Option.getD_some] at h2
          omega
    · rw [if_neg (by simp only [decide_eq_true_eq]; omega)]
      obtain ⟨g, e1, e2⟩ := great_l2 n hb k 0 (by omega) (by omega) (by simp)
      rw [List.take_of_length_le (by omega)] at hm
      exact ⟨g, e1, fun e => ⟨hm, e2 e⟩⟩
theorem great_l0 (n : Nd) (hb : n.2.2.2.2.length ≤ 150) (hc : n.2.2.2.1.length ≤ 150) (hd : n.2.2.1.length ≤ 80) : ∀ (k i : Nat), i ≤ n.2.2.1.length → 400 + (n.2.2.1.length - i) < k → (∀ m ∈ n.2.2.1.take i, m.length ≤ 200) →
    ∃ g, sluicegatelaw13_Great.l0 k n (i : Int) = some g ∧ (g = false → (∀ m ∈ n.2.2.1, m.length ≤ 200) ∧ (∀ m ∈ n.2.2.2.1, m.1.length ≤ 200) ∧ ∀ m ∈ n.2.2.2.2, m.1.length ≤ 200)
  | 0, i, _, h, _ => by omega
  | k + 1, i, hi, hk, hm => by
    rw [sluicegatelaw13_Great.l0]
    by_cases h : i < n.2.2.1.length
    · have g1 : (0 : Int) ≤ (i : Int) ∧ (i : Int) < (n.2.2.1.length : Int) := by omega
      rw [if_pos (decide_eq_true g1.2), if_pos g1, gt_nat]
      by_cases h2 : 200 < (n.2.2.1.getD i default).length
      · exact ⟨true, by rw [if_pos (decide_eq_true (by omega))], fun h => by cases h⟩
      · rw [if_neg (by simp only [decide_eq_true_eq]; omega), w64_succ (by omega)]
        refine great_l0 n hb hc hd k (i + 1) (by omega) (by omega) fun m hm' => ?_
        rw [List.take_add_one, List.mem_append] at hm'
        rcases hm' with hm' | hm'
        · exact hm m hm'
        · rw [List.getElem?_eq_getElem h] at hm'
          simp only [Option.toList_some, List.mem_singleton] at hm'
          subst hm'
          rw [List.getD_eq_getElem?_getD, List.getElem?_eq_getElem h] at h2
          simp only [Option.getD_some] at h2
          omega
    · rw [if_neg (by simp only [decide_eq_true_eq]; omega)]
      obtain ⟨g, e1, e2⟩ := great_l1 n hb hc k 0 (by omega) (by omega) (by simp)
      rw [List.take_of_length_le (by omega)] at hm
      exact ⟨g, e1, fun e => ⟨hm, e2 e⟩⟩
theorem greatN_pure (n : Nd) {k : Nat} (hk : 1000 < k) : ∃ g, sluicegatelaw13_Great.f k n = some g ∧ (g = false → SmallN n) := by
  unfold sluicegatelaw13_Great.f
  by_cases h1 : 80 < n.2.1.length
  · exact ⟨true, by rw [if_pos (decide_eq_true (by omega))], fun h => by cases h⟩
  · rw [if_neg (by simp only [decide_eq_true_eq]; omega)]
    by_cases h2 : 80 < n.2.2.1.length
    · exact ⟨true, by rw [if_pos (decide_eq_true (by omega))], fun h => by cases h⟩
    · rw [if_neg (by simp only [decide_eq_true_eq]; omega)]
      by_cases h3 : 150 < n.2.2.2.1.length
      · exact ⟨true, by rw [if_pos (decide_eq_true (by omega))], fun h => by cases h⟩
      · rw [if_neg (by simp only [decide_eq_true_eq]; omega)]
        by_cases h4 : 150 < n.2.2.2.2.length
        · exact ⟨true, by rw [if_pos (decide_eq_true (by omega))], fun h => by cases h⟩
        · rw [if_neg (by simp only [decide_eq_true_eq]; omega)]
          obtain ⟨g, e1, e2⟩ := great_l0 n (by omega) (by omega) (by omega) k 0 (by omega) (by omega) (by simp)
          exact ⟨g, e1, fun e => ⟨by omega, by omega, by omega, by omega, (e2 e).1, (e2 e).2.1, (e2 e).2.2⟩⟩
/-- settings that are right, as far as it is asked -/
structure OkC (c : Cfg) : Prop where
  fan : 8 ≤ c.2.2.2.1 ∧ c.2.2.2.1 ≤ 64
  key : 1 ≤ c.2.2.2.2.2.2.1 ∧ c.2.2.2.2.2.2.1 ≤ 64
  val : 0 ≤ c.2.2.2.2.2.2.2 ∧ c.2.2.2.2.2.2.2 ≤ 256
  buf : 16 ≤ c.2.2.2.2.1 ∧ c.2.2.2.2.1 ≤ 512
  leaf : c.2.2.2.2.1 ≤ c.2.2.2.2.2.1 ∧ c.2.2.2.2.2.1 ≤ 1024
theorem in9_pure (a b c : Int) : sluicegateref09_in.f a b c = some (decide (b ≤ a ∧ a ≤ c)) := by
  unfold sluicegateref09_in.f
  by_cases h : b ≤ a <;> simp [h]
theorem sized_pure (c : Cfg) : ∃ g, sluicegateref09_Sized.f c = some g ∧ (g = true → OkC c) := by
  unfold sluicegateref09_Sized.f
  simp only [in9_pure, Option.bind_some]
  by_cases h1 : 8 ≤ c.2.2.2.1 ∧ c.2.2.2.1 ≤ 64
  · rw [if_neg (by simp [h1])]
    by_cases h2 : 1 ≤ c.2.2.2.2.2.2.1 ∧ c.2.2.2.2.2.2.1 ≤ 64
    · rw [if_neg (by simp [h2])]
      by_cases h3 : 0 ≤ c.2.2.2.2.2.2.2 ∧ c.2.2.2.2.2.2.2 ≤ 256
      · rw [if_neg (by simp [h3])]
        have w : w64 (2 * c.2.2.2.1) = 2 * c.2.2.2.1 := w64_id (by omega) (by omega)
        rw [w]
        by_cases h4 : 2 * c.2.2.2.1 ≤ c.2.2.2.2.1 ∧ c.2.2.2.2.1 ≤ 512
        · rw [if_pos (decide_eq_true h4)]
          refine ⟨_, rfl, fun h => ?_⟩
          have h5 := of_decide_eq_true h
          exact ⟨h1, h2, h3, by omega, h5⟩
        · exact ⟨false, by rw [if_neg (by simp only [decide_eq_true_eq]; exact h4)], fun h => by cases h⟩
      · exact ⟨false, by rw [if_pos (by simp only [decide_eq_false h3]; rfl)], fun h => by cases h⟩
    · exact ⟨false, by rw [if_pos (by simp only [decide_eq_false h2]; rfl)], fun h => by cases h⟩
  · exact ⟨false, by rw [if_pos (by simp only [decide_eq_false h1]; rfl)], fun h => by cases h⟩
theorem inner9_l1 {c : Cfg} (hc : OkC c) : ∀ (k i : Nat) (x : Int), i ≤ 512 → 512 - i < k → ∃ r, sluicegateref09_Inner.l1 k c x (i : Int) = some r
  | 0, i, _, _, h => by omega
  | k + 1, i, x, hi, hk => by
    have hb := hc.buf
    rw [sluicegateref09_Inner.l1]
    by_cases h : (i : Int) < c.2.2.2.2.1
    · rw [if_pos (decide_eq_true h), w64_succ (by omega)]
      exact inner9_l1 hc k (i + 1) _ (by omega) (by omega)
    · exact ⟨x, by rw [if_neg (by simp only [decide_eq_true_eq]; exact h)]⟩
theorem inner9_l0 {c : Cfg} (hc : OkC c) : ∀ (k i : Nat) (x : Int), i ≤ 64 → 520 + (64 - i) < k → ∃ r, sluicegateref09_Inner.l0 k c x (i : Int) = some r
  | 0, i, _, _, h => by omega
  | k + 1, i, x, hi, hk => by
    have hb := hc.fan
    rw [sluicegateref09_Inner.l0]
    by_cases h : (i : Int) < c.2.2.2.1
    · rw [if_pos (decide_eq_true h), w64_succ (by omega)]
      by_cases h0 : (0 : Int) < (i : Int)
      · rw [if_pos (decide_eq_true h0)]
        exact inner9_l0 hc k (i + 1) _ (by omega) (by omega)
      · rw [if_neg (by simp only [decide_eq_true_eq]; exact h0)]
        exact inner9_l0 hc k (i + 1) _ (by omega) (by omega)
    · rw [if_neg (by simp only [decide_eq_true_eq]; exact h)]
      exact inner9_l1 hc k 0 x (by omega) (by omega)
theorem outer9_l0 {c : Cfg} (hc : OkC c) : ∀ (k i : Nat) (x : Int), i ≤ 1024 → 1024 - i < k → ∃ r, sluicegateref09_Outer.l0 k c x (i : Int) = some r
  | 0, i, _, _, h => by omega
  | k + 1, i, x, hi, hk => by
    have hb := hc.leaf
    rw [sluicegateref09_Outer.l0]
    by_cases h : (i : Int) < c.2.2.2.2.2.1
    · rw [if_pos (decide_eq_true h), w64_succ (by omega)]
      exact outer9_l0 hc k (i + 1) _ (by omega) (by omega)
    · exact ⟨x, by rw [if_neg (by simp only [decide_eq_true_eq]; exact h)]⟩
theorem right9_pure (c : Cfg) {k : Nat} (hk : 2000 < k) : ∃ g, sluicegateref09_Right.f k c = some g ∧ (g = true → OkC c) := by
  obtain ⟨g, e1, e2⟩ := sized_pure c
  have e1' : sluicegateref09_Sized.f (c.1, c.2.1, c.2.2.1, c.2.2.2.1, c.2.2.2.2.1, c.2.2.2.2.2.1, c.2.2.2.2.2.2.1, c.2.2.2.2.2.2.2) = some g := e1
  unfold sluicegateref09_Right.f
  rw [e1', Option.bind_some]
  cases g with
  | false => exact ⟨false, rfl, fun h => by cases h⟩
  | true =>
    have hc := e2 rfl
    obtain ⟨a, ha⟩ := inner9_l0 hc k 0 8 (by omega) (by omega)
    obtain ⟨b, hb⟩ := outer9_l0 hc k 0 8 (by omega) (by omega)
    have ha' : sluicegateref09_Inner.f k (c.1, c.2.1, c.2.2.1, c.2.2.2.1, c.2.2.2.2.1, c.2.2.2.2.2.1, c.2.2.2.2.2.2.1, c.2.2.2.2.2.2.2) = some a := by
      unfold sluicegateref09_Inner.f
      rw [e1', Option.bind_some, if_neg (by simp)]
      exact ha
    have hb' : sluicegateref09_Outer.f k (c.1, c.2.1, c.2.2.1, c.2.2.2.1, c.2.2.2.2.1, c.2.2.2.2.2.1, c.2.2.2.2.2.2.1, c.2.2.2.2.2.2.2) = some b := by
      unfold sluicegateref09_Outer.f
      rw [e1', Option.bind_some, if_neg (by simp)]
      exact hb
    simp only [in9_pure, ha', hb', Option.bind_some, if_true]
    have tot : ∀ (p q r t : Bool), ∃ g : Bool, (if p = true then (if q = true then (if r = true then (if t = true then some (decide (b ≤ c.2.1)) else some false) else some false) else some false) else some false) = some g := fun p q r t => by
      cases p <;> cases q <;> cases r <;> cases t <;> exact ⟨_, rfl⟩
    obtain ⟨g, hg⟩ := tot (decide (5 ≤ c.1 ∧ c.1 ≤ 65536)) (decide (8 ≤ c.2.2.1 ∧ c.2.2.1 ≤ 64)) (decide (64 ≤ c.2.1 ∧ c.2.1 ≤ 65536)) (decide (a ≤ c.2.1))
    exact ⟨g, hg, fun _ => hc⟩
abbrev Sp := List UInt8 × List UInt8 × Bool
def inS (s : Sp) (x : List UInt8) : Bool := !Op.bytesLess x s.1 && (s.2.2 || Op.bytesLess x s.2.1)
theorem refIn_pure {k : Nat} {s : Sp} {x : List UInt8} (h1 : s.1.length ≤ 2000) (h2 : s.2.1.length ≤ 2000) (hx : x.length ≤ 2000) (hk : 2000 < k) : sluicegateref01_In.f k s x = some (inS s x) := by
  unfold sluicegateref01_In.f inS
  rw [compare_pure h1 hx hk, compare_pure hx h2 hk]
  simp only [Option.bind_some, scmp_le, scmp_lt, decide_eq_true_eq]
  cases h : Op.bytesLess x s.1 <;> cases s.2.2 <;> simp
theorem scmp_ge (a b : List UInt8) : decide (0 ≤ scmp a b) = !Op.bytesLess a b := by
  rcases scmp_vals a b with ⟨e, h⟩ | ⟨e, rfl⟩ | ⟨e, h⟩
  · simp [e, h]
  · simp [e, bl_irr]
  · simp [e, bl_asymm h]
/-- do the keys of pairs rise? -/
def riseP : List Pr → Bool
  | a :: b :: r => Op.bytesLess a.1 b.1 && riseP (b :: r)
  | _ => true
theorem riseP_drop {l : List Pr} {i : Nat} (h : i + 1 < l.length) : riseP (l.drop i) = (Op.bytesLess (l.getD i default).1 (l.getD (i + 1) default).1 && riseP (l.drop (i + 1))) := by
  rw [drop_cons (show i < l.length by omega), drop_cons h]
  rfl
theorem riseP_end {l : List Pr} {i : Nat} (h : l.length ≤ i + 1) : riseP (l.drop i) = true := by
  by_cases h' : i < l.length
  · rw [drop_cons h', List.drop_eq_nil_of_le (by omega)]
    rfl
  · rw [List.drop_eq_nil_of_le (by omega)]
    rfl
theorem right11_l0 {l : List Pr} (h150 : l.length ≤ 400) (hl : ∀ m ∈ l, m.1.length ≤ 300) : ∀ (k i : Nat), i ≤ l.length → 2001 + (l.length - i) < k → sluicegateref11_Right.l0 k l ((i + 1 : Nat) : Int) = some (riseP (l.drop i))
  | 0, i, _, h => by omega
  | k + 1, i, hi, hk => by
    rw [sluicegateref11_Right.l0]
    by_cases h : i + 1 < l.length
    · have g1 : (0 : Int) ≤ (i : Int) ∧ (i : Int) < (l.length : Int) := by omega
      have g2 : (0 : Int) ≤ ((i + 1 : Nat) : Int) ∧ ((i + 1 : Nat) : Int) < (l.length : Int) := by omega
      have k1 := hl _ (getD_mem (d := default) (show i < l.length by omega))
      have k2 := hl _ (getD_mem (d := default) h)
      rw [if_pos (decide_eq_true g2.2), w64_pred (by omega) (by omega), Nat.add_sub_cancel, if_pos g1, if_pos g2, gt_nat, gt_nat, compare_pure (by omega) (by omega) (by omega), Option.bind_some, scmp_ge, w64_succ (by omega), right11_l0 h150 hl k (i + 1) (by omega) (by omega), riseP_drop h]
      cases Op.bytesLess (l.getD i default).1 (l.getD (i + 1) default).1 <;> rfl
    · rw [if_neg (by simp only [decide_eq_true_eq]; omega), riseP_end (by omega)]
theorem right11_pure {l : List Pr} (h150 : l.length ≤ 400) (hl : ∀ m ∈ l, m.1.length ≤ 300) {k : Nat} (hk : 3000 < k) : sluicegateref11_Right.f k l = some (riseP l) := by
  have := right11_l0 h150 hl k 0 (by omega) (by omega)
  simpa [sluicegateref11_Right.f] using this
def keyB (c : Cfg) (x : List UInt8) : Bool := decide (1 ≤ (x.length : Int) ∧ (x.length : Int) ≤ c.2.2.2.2.2.2.1)
theorem key13_pure (c : Cfg) (x : List UInt8) : sluicegateref13_Key.f c x = some (keyB c x) := by
  unfold sluicegateref13_Key.f keyB
  by_cases h : 1 ≤ (x.length : Int) <;> simp [h]
def prB (c : Cfg) (s : Sp) (p : Pr) : Bool := keyB c p.1 && (inS s p.1 && decide ((p.2.length : Int) ≤ c.2.2.2.2.2.2.2))
def outB (c : Cfg) (s : Sp) (n : Nd) : Bool := n.2.2.2.2.all (prB c s) && (decide (n.2.1 = []) && (decide (n.2.2.1 = []) && (decide (n.2.2.2.1 = []) && (decide ((n.2.2.2.2.length : Int) ≤ c.2.2.2.2.2.1) && riseP n.2.2.2.2))))
theorem outer13_l0 {c : Cfg} {s : Sp} {n : Nd} (hn : MidN n) (h1 : s.1.length ≤ 2000) (h2 : s.2.1.length ≤ 2000) : ∀ (k i : Nat), i ≤ n.2.2.2.2.length → 3001 + (n.2.2.2.2.length - i) < k →
    sluicegateref13_outer.l0 k c s n (i : Int) = some ((n.2.2.2.2.drop i).all (prB c s) && (decide (n.2.1 = []) && (decide (n.2.2.1 = []) && (decide (n.2.2.2.1 = []) && (decide ((n.2.2.2.2.length : Int) ≤ c.2.2.2.2.2.1) && riseP n.2.2.2.2)))))
  | 0, i, _, h => by omega
  | k + 1, i, hi, hk => by
    have h150 := hn.prs
    rw [sluicegateref13_outer.l0]
    by_cases h : i < n.2.2.2.2.length
    · have g1 : (0 : Int) ≤ (i : Int) ∧ (i : Int) < (n.2.2.2.2.length : Int) := by omega
      have k1 := hn.rk _ (getD_mem (d := default) h)
      have etc : (c.1, c.2.1, c.2.2.1, c.2.2.2.1, c.2.2.2.2.1, c.2.2.2.2.2.1, c.2.2.2.2.2.2.1, c.2.2.2.2.2.2.2) = c := rfl
      have eta : (s.1, s.2.1, s.2.2) = s := rfl
      rw [if_pos (decide_eq_true g1.2), if_pos g1, gt_nat, etc, key13_pure, Option.bind_some, eta, refIn_pure h1 h2 (by omega) (by omega), Option.bind_some, w64_succ (by omega), outer13_l0 hn h1 h2 k (i + 1) (by omega) (by omega), drop_cons h, List.all_cons]
      simp only [prB]
      generalize n.2.2.2.2.getD i default = p
      by_cases e : c.2.2.2.2.2.2.2 < (p.2.length : Int)
      · rw [decide_eq_true e, decide_eq_false (show ¬ ((p.2.length : Int) ≤ c.2.2.2.2.2.2.2) by omega)]
        cases keyB c p.1 <;> cases inS s p.1 <;> rfl
      · rw [decide_eq_false e, decide_eq_true (show ((p.2.length : Int) ≤ c.2.2.2.2.2.2.2) by omega)]
        cases keyB c p.1 <;> cases inS s p.1 <;> simp
    · have z : ∀ {α : Type} [DecidableEq α] (l : List α), decide ((l.length : Int) = 0) = decide (l = []) := fun l => by
        cases l <;> simp
        omega
      rw [if_neg (by simp only [decide_eq_true_eq]; omega), right11_pure h150 hn.rk (by omega), Option.bind_some, List.drop_eq_nil_of_le (by omega), z, z, z]
      cases decide (n.2.1 = []) <;> cases decide (n.2.2.1 = []) <;> cases decide (n.2.2.2.1 = []) <;> cases decide ((n.2.2.2.2.length : Int) ≤ c.2.2.2.2.2.1) <;> rfl
theorem outer13_pure {c : Cfg} {s : Sp} {n : Nd} (hn : MidN n) (h1 : s.1.length ≤ 2000) (h2 : s.2.1.length ≤ 2000) {k : Nat} (hk : 4000 < k) : sluicegateref13_outer.f k c s n = some (outB c s n) := by
  have := outer13_l0 (c := c) hn h1 h2 k 0 (by omega) (by have := hn.prs; omega)
  simpa [sluicegateref13_outer.f, outB] using this
theorem rises_drop {l : List (List UInt8)} {i : Nat} (h : i + 1 < l.length) : rises (l.drop i) = (Op.bytesLess (l.getD i []) (l.getD (i + 1) []) && rises (l.drop (i + 1))) := by
  rw [drop_cons (show i < l.length by omega), drop_cons h]
  rfl
theorem rises_end {l : List (List UInt8)} {i : Nat} (h : l.length ≤ i + 1) : rises (l.drop i) = true := by
  by_cases h' : i < l.length
  · rw [drop_cons h', List.drop_eq_nil_of_le (by omega)]
    rfl
  · rw [List.drop_eq_nil_of_le (by omega)]
    rfl
structure SmallL (l : List (List UInt8)) (s : Sp) : Prop where
  len : l.length ≤ 80
  all : ∀ p ∈ l, p.length ≤ 300
  lo : s.1.length ≤ 300
  hi : s.2.1.length ≤ 300
theorem SmallL.get {l : List (List UInt8)} {s : Sp} (h : SmallL l s) (i : Nat) : (l.getD i []).length ≤ 300 := by
  by_cases hi : i < l.length
  · exact h.all _ (getD_mem hi)
  · rw [List.getD_eq_getElem?_getD, List.getElem?_eq_none (by omega)]
    exact Nat.zero_le _
theorem rise_l0 {s : Sp} {l : List (List UInt8)} (hs : SmallL l s) : ∀ (k i : Nat), i ≤ l.length → 2001 + (l.length - i) < k → sluicegateref12_Rise.l0 k l ((i + 1 : Nat) : Int) = some (rises (l.drop i))
  | 0, i, _, h => by omega
  | k + 1, i, hi, hk => by
    have h80 := hs.len
    rw [sluicegateref12_Rise.l0]
    by_cases h : i + 1 < l.length
    · have g1 : (0 : Int) ≤ (i : Int) ∧ (i : Int) < (l.length : Int) := by omega
      have g2 : (0 : Int) ≤ ((i + 1 : Nat) : Int) ∧ ((i + 1 : Nat) : Int) < (l.length : Int) := by omega
      have k1 : (l.getD i default).length ≤ 300 := hs.get i
      have k2 : (l.getD (i + 1) default).length ≤ 300 := hs.get (i + 1)
      rw [if_pos (decide_eq_true g2.2), w64_pred (by omega) (by omega), Nat.add_sub_cancel, if_pos g1, if_pos g2, gt_nat, gt_nat, compare_pure (by omega) (by omega) (by omega), Option.bind_some, scmp_ge, w64_succ (by omega), rise_l0 hs k (i + 1) (by omega) (by omega), rises_drop h]
      show (if (!Op.bytesLess (l.getD i []) (l.getD (i + 1) [])) = true then some false else some (rises (l.drop (i + 1)))) = _
      cases Op.bytesLess (l.getD i []) (l.getD (i + 1) []) <;> rfl
    · rw [if_neg (by simp only [decide_eq_true_eq]; omega), rises_end (by omega)]
theorem rise_pure {s : Sp} {l : List (List UInt8)} (hs : SmallL l s) {k : Nat} (hk : 3000 < k) : sluicegateref12_Rise.f k l = some (rises l) := by
  have := rise_l0 hs k 0 (by omega) (by have := hs.len; omega)
  simpa [sluicegateref12_Rise.f] using this
def piv (s : Sp) (p : List UInt8) : Bool := inS s p && !decide (p = s.1)
theorem refRight_l0 {s : Sp} {l : List (List UInt8)} (hs : SmallL l s) : ∀ (k i : Nat), i ≤ l.length → 3001 + (l.length - i) < k → sluicegateref12_Right.l0 k l s (i : Int) = some ((l.drop i).all (piv s) && rises l)
  | 0, i, _, h => by omega
  | k + 1, i, hi, hk => by
    have h80 := hs.len
    rw [sluicegateref12_Right.l0]
    by_cases h : i < l.length
    · have g1 : (0 : Int) ≤ (i : Int) ∧ (i : Int) < (l.length : Int) := by omega
      have k1 : (l.getD i default).length ≤ 300 := hs.get i
      have hlo := hs.lo
      have hhi := hs.hi
      have eta : (s.1, s.2.1, s.2.2) = s := rfl
      rw [if_pos (decide_eq_true g1.2), if_pos g1, gt_nat, eta, refIn_pure (by omega) (by omega) (by omega) (by omega), Option.bind_some, w64_succ (by omega), refRight_l0 hs k (i + 1) (by omega) (by omega), drop_cons h, List.all_cons]
      simp only [piv]
      cases inS s (l.getD i default) <;> by_cases e : l.getD i default = s.1 <;> simp only [e, decide_true, decide_false] <;> rfl
    · rw [if_neg (by simp only [decide_eq_true_eq]; omega), rise_pure hs (by omega), List.drop_eq_nil_of_le (by omega)]
      rfl
theorem refRight_pure {s : Sp} {l : List (List UInt8)} (hs : SmallL l s) {k : Nat} (hk : 4000 < k) : sluicegateref12_Right.f k l s = some (l.all (piv s) && rises l) := by
  have := refRight_l0 hs k 0 (by omega) (by have := hs.len; omega)
  simpa [sluicegateref12_Right.f] using this
/-- do the keys rise? -/
def riseM : List Msg → Bool
  | a :: b :: r => Op.bytesLess a.1 b.1 && riseM (b :: r)
  | _ => true
theorem riseM_drop {l : List Msg} {i : Nat} (h : i + 1 < l.length) : riseM (l.drop i) = (Op.bytesLess (l.getD i default).1 (l.getD (i + 1) default).1 && riseM (l.drop (i + 1))) := by
  rw [drop_cons (show i < l.length by omega), drop_cons h]
  rfl
theorem riseM_end {l : List Msg} {i : Nat} (h : l.length ≤ i + 1) : riseM (l.drop i) = true := by
  by_cases h' : i < l.length
  · rw [drop_cons h', List.drop_eq_nil_of_le (by omega)]
    rfl
  · rw [List.drop_eq_nil_of_le (by omega)]
    rfl
theorem refright_l0 : ∀ (k : Nat) (l : List Msg) (i : Nat), (l.length ≤ 400 ∧ ∀ m ∈ l, m.1.length ≤ 300) → i ≤ l.length → 2001 + (l.length - i) < k → sluicegateref10_Right.l0 k l ((i + 1 : Nat) : Int) = some (riseM (l.drop i))
  | 0, l, i, _, _, h => by omega
  | k + 1, l, i, hl, hi, hk => by
    have h150 := hl.1
    rw [sluicegateref10_Right.l0]
    by_cases h : i + 1 < l.length
    · have g1 : (0 : Int) ≤ (i : Int) ∧ (i : Int) < (l.length : Int) := by omega
      have g2 : (0 : Int) ≤ ((i + 1 : Nat) : Int) ∧ ((i + 1 : Nat) : Int) < (l.length : Int) := by omega
      have k1 := hl.2 _ (getD_mem (d := default) (show i < l.length by omega))
      have k2 := hl.2 _ (getD_mem (d := default) h)
      rw [if_pos (decide_eq_true g2.2), w64_pred (by omega) (by omega), Nat.add_sub_cancel, if_pos g1, if_pos g2, gt_nat, gt_nat, compare_pure (by omega) (by omega) (by omega), Option.bind_some, scmp_ge, w64_succ (by omega), refright_l0 k l (i + 1) hl (by omega) (by omega), riseM_drop h]
      cases Op.bytesLess (l.getD i default).1 (l.getD (i + 1) default).1 <;> rfl
    · rw [if_neg (by simp only [decide_eq_true_eq]; omega), riseM_end (by omega)]
def msgB (c : Cfg) (s : Sp) (m : Msg) : Bool := keyB c m.1 && (inS s m.1 && (decide ((m.2.2.length : Int) ≤ c.2.2.2.2.2.2.2) && (!m.2.1 || decide (m.2.2 = []))))
def tailB (c : Cfg) (s : Sp) (n : Nd) : Bool := decide (n.1 ≤ 40) && (decide (n.2.2.2.2 = []) && (decide (1 ≤ n.2.1.length) && (decide ((n.2.1.length : Int) ≤ c.2.2.2.1) && (decide (n.2.2.1.length + 1 = n.2.1.length) && ((n.2.2.1.all (piv s) && rises n.2.2.1) && (decide ((n.2.2.2.1.length : Int) ≤ c.2.2.2.2.1) && riseM n.2.2.2.1))))))
theorem MidN.l {n : Nd} (hn : MidN n) {s : Sp} (h1 : s.1.length ≤ 300) (h2 : s.2.1.length ≤ 300) : SmallL n.2.2.1 s := ⟨hn.pivs, fun p hp => by have := hn.pk p hp; omega, h1, h2⟩
theorem refright_pure {n : Nd} (hn : MidN n) {k : Nat} (hk : 3000 < k) : sluicegateref10_Right.f k n.2.2.2.1 = some (riseM n.2.2.2.1) := by
  have := refright_l0 k n.2.2.2.1 0 ⟨hn.buf, fun m hm => by have := hn.bk m hm; omega⟩ (by omega) (by have := hn.buf; omega)
  simpa [sluicegateref10_Right.f] using this
theorem inner13_l3 {c : Cfg} {s : Sp} {n : Nd} (hn : MidN n) (h1 : s.1.length ≤ 300) (h2 : s.2.1.length ≤ 300) : ∀ (k i : Nat), i ≤ n.2.2.2.1.length → 5001 + (n.2.2.2.1.length - i) < k →
    sluicegateref13_inner.l3 k c s n (i : Int) = some ((n.2.2.2.1.drop i).all (msgB c s) && tailB c s n)
  | 0, i, _, h => by omega
  | k + 1, i, hi, hk => by
    have h150 := hn.buf
    have h80 := hn.pivs
    have hk80 := hn.kids
    have eta : (s.1, s.2.1, s.2.2) = s := rfl
    rw [sluicegateref13_inner.l3]
    by_cases h : i < n.2.2.2.1.length
    · have g1 : (0 : Int) ≤ (i : Int) ∧ (i : Int) < (n.2.2.2.1.length : Int) := by omega
      have k1 := hn.bk _ (getD_mem (d := default) h)
      have etc : (c.1, c.2.1, c.2.2.1, c.2.2.2.1, c.2.2.2.2.1, c.2.2.2.2.2.1, c.2.2.2.2.2.2.1, c.2.2.2.2.2.2.2) = c := rfl
      rw [if_pos (decide_eq_true g1.2), if_pos g1, gt_nat, etc, key13_pure, Option.bind_some, eta, refIn_pure (by omega) (by omega) (by omega) (by omega), Option.bind_some, w64_succ (by omega), inner13_l3 hn h1 h2 k (i + 1) (by omega) (by omega), drop_cons h, List.all_cons]
      simp only [msgB]
      generalize n.2.2.2.1.getD i default = p
      by_cases e : c.2.2.2.2.2.2.2 < (p.2.2.length : Int)
      · rw [decide_eq_true e, decide_eq_false (show ¬ ((p.2.2.length : Int) ≤ c.2.2.2.2.2.2.2) by omega)]
        cases keyB c p.1 <;> cases inS s p.1 <;> rfl
      · rw [decide_eq_false e, decide_eq_true (show ((p.2.2.length : Int) ≤ c.2.2.2.2.2.2.2) by omega)]
        cases keyB c p.1 <;> cases inS s p.1 <;> cases p.2.1 <;> cases decide (p.2.2 = []) <;> simp
    · have z : decide (0 < (n.2.2.2.2.length : Int)) = !decide (n.2.2.2.2 = []) := by
        cases n.2.2.2.2 <;> simp
      have y1 : decide (40 < n.1) = !decide (n.1 ≤ 40) := by by_cases q : n.1 ≤ 40 <;> simp [q] <;> omega
      have y2 : decide ((n.2.1.length : Int) < 1) = !decide (1 ≤ n.2.1.length) := by by_cases q : 1 ≤ n.2.1.length <;> simp [q] <;> omega
      have y3 : decide (c.2.2.2.1 < (n.2.1.length : Int)) = !decide ((n.2.1.length : Int) ≤ c.2.2.2.1) := by by_cases q : (n.2.1.length : Int) ≤ c.2.2.2.1 <;> simp [q] <;> omega
      have y4 : decide (w64 ((n.2.2.1.length : Int) + 1) = (n.2.1.length : Int)) = decide (n.2.2.1.length + 1 = n.2.1.length) := by
        rw [w64_succ (by omega)]
        congr 1
        exact propext (by omega)
      rw [if_neg (by simp only [decide_eq_true_eq]; omega), eta, refRight_pure (hn.l h1 h2) (by omega), refright_pure hn (by omega), List.drop_eq_nil_of_le (by omega), z, y1, y2, y3, y4]
      simp only [tailB, Option.bind_some, List.all_nil, Bool.true_and]
      cases decide (n.1 ≤ 40) <;> cases decide (n.2.2.2.2 = []) <;> cases decide (1 ≤ n.2.1.length) <;> cases decide ((n.2.1.length : Int) ≤ c.2.2.2.1) <;> cases decide (n.2.2.1.length + 1 = n.2.1.length) <;> cases (n.2.2.1.all (piv s) && rises n.2.2.1) <;> cases decide ((n.2.2.2.1.length : Int) ≤ c.2.2.2.2.1) <;> rfl
theorem inner13_l2 {c : Cfg} {s : Sp} {n : Nd} (hn : MidN n) (h1 : s.1.length ≤ 300) (h2 : s.2.1.length ≤ 300) : ∀ (k i : Nat), i ≤ n.2.2.1.length → 5501 + (n.2.2.1.length - i) < k →
    sluicegateref13_inner.l2 k c s n (i : Int) = some ((n.2.2.1.drop i).all (keyB c) && (n.2.2.2.1.all (msgB c s) && tailB c s n))
  | 0, i, _, h => by omega
  | k + 1, i, hi, hk => by
    have h80 := hn.pivs
    have h150 := hn.buf
    rw [sluicegateref13_inner.l2]
    by_cases h : i < n.2.2.1.length
    · have g1 : (0 : Int) ≤ (i : Int) ∧ (i : Int) < (n.2.2.1.length : Int) := by omega
      have etc : (c.1, c.2.1, c.2.2.1, c.2.2.2.1, c.2.2.2.2.1, c.2.2.2.2.2.1, c.2.2.2.2.2.2.1, c.2.2.2.2.2.2.2) = c := rfl
      rw [if_pos (decide_eq_true g1.2), if_pos g1, gt_nat, etc, key13_pure, Option.bind_some, w64_succ (by omega), inner13_l2 hn h1 h2 k (i + 1) (by omega) (by omega), drop_cons h, List.all_cons]
      cases keyB c (n.2.2.1.getD i default) <;> rfl
    · rw [if_neg (by simp only [decide_eq_true_eq]; omega), List.drop_eq_nil_of_le (by omega)]
      have := inner13_l3 (c := c) hn h1 h2 k 0 (by omega) (by omega)
      simpa using this
def neB (l : List Int) (i q : Nat) : Bool := !decide (l.getD q 0 = l.getD i 0)
def kidB (c : Cfg) (l : List Int) (i : Nat) : Bool := !decide (l.getD i 0 = 0) && (!decide (c.1 ≤ w64 (l.getD i 0)) && (List.range' 0 i).all (neB l i))
def restB (c : Cfg) (s : Sp) (n : Nd) : Bool := n.2.2.1.all (keyB c) && (n.2.2.2.1.all (msgB c s) && tailB c s n)
theorem inner13_kids {c : Cfg} {s : Sp} {n : Nd} (hn : MidN n) (h1 : s.1.length ≤ 300) (h2 : s.2.1.length ≤ 300) : ∀ (k : Nat),
    (∀ i : Nat, i ≤ n.2.1.length → 5700 + (n.2.1.length - i) * 100 < k → sluicegateref13_inner.l0 k c s n (i : Int) = some ((List.range' i (n.2.1.length - i)).all (kidB c n.2.1) && restB c s n)) ∧
    (∀ i q : Nat, i < n.2.1.length → q ≤ i → 5700 + (n.2.1.length - i - 1) * 100 + (i - q) + 1 < k → sluicegateref13_inner.l1 k c s n (i : Int) (q : Int) = some ((List.range' q (i - q)).all (neB n.2.1 i) && ((List.range' (i + 1) (n.2.1.length - i - 1)).all (kidB c n.2.1) && restB c s n)))
  | 0 => ⟨fun i _ h => by omega, fun i q _ _ h => by omega⟩
  | k + 1 => by
    have h80 := hn.kids
    have h80' := hn.pivs
    obtain ⟨ih0, ih1⟩ := inner13_kids (c := c) hn h1 h2 k
    refine ⟨fun i hi hk => ?_, fun i q hi hq hk => ?_⟩
    · rw [sluicegateref13_inner.l0]
      by_cases h : i < n.2.1.length
      · have g1 : (0 : Int) ≤ (i : Int) ∧ (i : Int) < (n.2.1.length : Int) := by omega
        have := ih1 i 0 h (by omega) (by omega)
        simp only [Int.natCast_zero, Int.ofNat_eq_natCast, Nat.sub_zero] at this
        have e0 : gt n.2.1 (i : Int) = n.2.1.getD i 0 := gt_nat n.2.1 i
        rw [if_pos (decide_eq_true g1.2), if_pos g1, e0, show sluicegateref13_inner.l1 k c s n (i : Int) 0 = _ from this, show n.2.1.length - i = (n.2.1.length - i - 1) + 1 by omega, List.range'_succ, List.all_cons]
        simp only [kidB, Nat.add_sub_cancel]
        cases decide (n.2.1.getD i 0 = 0) <;> cases decide (c.1 ≤ w64 (n.2.1.getD i 0)) <;> simp [Bool.and_assoc]
      · rw [if_neg (by simp only [decide_eq_true_eq]; omega), show n.2.1.length - i = 0 by omega]
        have := inner13_l2 (c := c) hn h1 h2 k 0 (by omega) (by omega)
        simpa [restB] using this
    · rw [sluicegateref13_inner.l1]
      by_cases h : q < i
      · have g1 : (0 : Int) ≤ (q : Int) ∧ (q : Int) < (n.2.1.length : Int) := by omega
        have e0 : gt n.2.1 (i : Int) = n.2.1.getD i 0 := gt_nat n.2.1 i
        have e1 : gt n.2.1 (q : Int) = n.2.1.getD q 0 := gt_nat n.2.1 q
        rw [if_pos (decide_eq_true (by omega)), if_pos g1, e0, e1, w64_succ (by omega), ih1 i (q + 1) hi (by omega) (by omega), show i - q = (i - (q + 1)) + 1 by omega, List.range'_succ, List.all_cons]
        simp only [neB]
        cases decide (n.2.1.getD q 0 = n.2.1.getD i 0) <;> rfl
      · rw [if_neg (by simp only [decide_eq_true_eq]; omega), w64_succ (by omega), ih0 (i + 1) (by omega) (by omega), show i - q = 0 by omega, show n.2.1.length - (i + 1) = n.2.1.length - i - 1 by omega]
        rfl
def innB (c : Cfg) (s : Sp) (n : Nd) : Bool := (List.range' 0 n.2.1.length).all (kidB c n.2.1) && restB c s n
theorem inner13_pure {c : Cfg} {s : Sp} {n : Nd} (hn : MidN n) (h1 : s.1.length ≤ 300) (h2 : s.2.1.length ≤ 300) {k : Nat} (hk : 15000 < k) : sluicegateref13_inner.f k c s n = some (innB c s n) := by
  have h80 := hn.kids
  have := (inner13_kids (c := c) hn h1 h2 k).1 0 (by omega) (by omega)
  simpa [sluicegateref13_inner.f, innB] using this
/-- a node that is right -/
structure RightN (c : Cfg) (s : Sp) (n : Nd) : Prop where
  small : SmallN n
  cfg : OkC c
  lo : s.1.length ≤ 200
  hi : s.2.1.length ≤ 200
  leaf : n.1 = 0 → outB c s n = true
  node : n.1 ≠ 0 → 0 < n.1 ∧ innB c s n = true
theorem right13_pure {c : Cfg} {s : Sp} {n : Nd} (hn : MidN n) (h1 : s.1.length ≤ 300) (h2 : s.2.1.length ≤ 300) {k : Nat} (hk : 15000 < k) :
    sluicegateref13_Right.f k c s n = some (if n.1 = 0 then outB c s n else decide (0 < n.1) && innB c s n) := by
  unfold sluicegateref13_Right.f
  by_cases h : n.1 = 0
  · rw [if_pos (decide_eq_true h), if_pos h]
    rw [show sluicegateref13_outer.f k _ _ _ = _ from outer13_pure (c := c) (s := s) hn (by omega) (by omega) (by omega)]
    rfl
  · rw [if_neg (by simp only [decide_eq_true_eq]; exact h), if_neg h]
    by_cases h0 : 0 < n.1
    · rw [if_pos (decide_eq_true h0), show sluicegateref13_inner.f k _ _ _ = _ from inner13_pure (c := c) (s := s) hn h1 h2 hk, decide_eq_true h0]
      rfl
    · rw [if_neg (by simp only [decide_eq_true_eq]; exact h0), decide_eq_false h0]
      rfl
theorem rise_get {l : List Msg} (h : riseM l = true) : ∀ {i j : Nat}, i < j → j < l.length → Op.bytesLess (l.getD i default).1 (l.getD j default).1 = true := by
  have step : ∀ i, i + 1 < l.length → riseM (l.drop i) = true → Op.bytesLess (l.getD i default).1 (l.getD (i + 1) default).1 = true ∧ riseM (l.drop (i + 1)) = true := fun i hi hr => by
    rw [riseM_drop hi, Bool.and_eq_true] at hr
    exact hr
  have all : ∀ i, i < l.length → riseM (l.drop i) = true := fun i => by
    induction i with
    | zero => intro _; simpa using h
    | succ i ih => intro hi; exact (step i hi (ih (by omega))).2
  intro i j hij hj
  induction j with
  | zero => omega
  | succ j ih =>
    have one := (step j hj (all j (by omega))).1
    by_cases e : i = j
    · subst e; exact one
    · exact bl_trans (ih (by omega) (by omega)) one
/-- the first that is not below -/
def AtLow (l : List Msg) (x : List UInt8) (c : Nat) : Prop := c ≤ l.length ∧ (∀ j, j < c → Op.bytesLess (l.getD j default).1 x = true) ∧ ∀ j, c ≤ j → j < l.length → Op.bytesLess (l.getD j default).1 x = false
theorem bufcompare_pure (m : Msg) (x : List UInt8) : buf_compare.f (m.1, m.2.1, m.2.2) x = some (scmp m.1 x) := rfl
theorem search_l0 {l : List Msg} {x : List UInt8} (hl : l.length ≤ 150) : ∀ (k a b : Nat), a ≤ b → b ≤ l.length → b - a < k → (∀ i j, i < j → j < l.length → Op.bytesLess (l.getD i default).1 (l.getD j default).1 = true) → (∀ j, j < a → Op.bytesLess (l.getD j default).1 x = true) → (∀ j, b ≤ j → j < l.length → Op.bytesLess (l.getD j default).1 x = false) →
    ∃ c : Nat, slices_BinarySearchFunc_api_Msg_api_Msg_string_buf_compare.l0 k l x (a : Int) (b : Int) = some ((c : Int), decide (c < l.length ∧ (l.getD c default).1 = x)) ∧ AtLow l x c
  | 0, a, b, _, _, h, _, _, _ => by omega
  | k + 1, a, b, hab, hb, hk, hr, h1, h2 => by
    rw [slices_BinarySearchFunc_api_Msg_api_Msg_string_buf_compare.l0]
    by_cases h : a < b
    · have w : w64 ((Int.fdiv (IntKind.u64.wrap ((w64 ((a : Int) + (b : Int))))) (2 ^ 1))) = (((a + b) / 2 : Nat) : Int) := by
        rw [w64_id (x := (a : Int) + (b : Int)) (by omega) (by omega)]
        have u : IntKind.u64.wrap ((a : Int) + (b : Int)) = (a : Int) + (b : Int) := by
          simp only [IntKind.wrap, IntKind.signed, IntKind.bits]
          simp
          omega
        rw [u, Int.fdiv_eq_ediv_of_nonneg _ (by decide)]
        rw [w64_id (by omega) (by omega)]
        omega
      have g1 : (0 : Int) ≤ (((a + b) / 2 : Nat) : Int) ∧ (((a + b) / 2 : Nat) : Int) < (l.length : Int) := by omega
      rw [if_pos (decide_eq_true (by omega)), w, if_pos g1, gt_nat, bufcompare_pure, Option.bind_some, w64_succ (by omega)]
      cases e : Op.bytesLess (l.getD ((a + b) / 2) default).1 x with
      | true =>
        rw [if_pos (decide_eq_true (scmp_lt.2 e))]
        refine search_l0 hl k _ b (by omega) hb (by omega) hr (fun j hj => ?_) h2
        by_cases q : j = (a + b) / 2
        · subst q; exact e
        · exact bl_trans (hr j ((a + b) / 2) (by omega) (by omega)) e
      | false =>
        rw [if_neg (by simp only [decide_eq_true_eq, scmp_lt, e]; simp)]
        refine search_l0 hl k a _ (by omega) (by omega) (by omega) hr h1 fun j hj hjl => ?_
        by_cases q : j = (a + b) / 2
        · subst q; exact e
        · exact bl_le_trans e (bl_asymm (hr ((a + b) / 2) j (by omega) hjl))
    · obtain rfl : a = b := by omega
      rw [if_neg (by simp only [decide_eq_true_eq]; omega)]
      refine ⟨a, ?_, hb, h1, h2⟩
      by_cases q : a < l.length
      · have g1 : (0 : Int) ≤ (a : Int) ∧ (a : Int) < (l.length : Int) := by omega
        rw [if_pos (decide_eq_true (by omega)), if_pos g1, gt_nat, bufcompare_pure, Option.bind_some]
        simp only [scmp_eq, q, true_and]
      · rw [if_neg (by simp only [decide_eq_true_eq]; omega)]
        simp [q]
theorem search_pure {l : List Msg} (x : List UInt8) (hl : l.length ≤ 150) (hr : riseM l = true) {k : Nat} (hk : 200 < k) : ∃ c : Nat, slices_BinarySearchFunc_api_Msg_api_Msg_string_buf_compare.f k l x = some ((c : Int), decide (c < l.length ∧ (l.getD c default).1 = x)) ∧ AtLow l x c :=
  search_l0 hl k 0 l.length (by omega) (by omega) (by omega) (fun i j => rise_get hr) (fun j hj => by omega) (fun j hj hjl => by omega)
theorem clone_pure {l : List Msg} (hl : l.length ≤ 1000000) : slices_Clone_api_Msg_api_Msg.f l = some l := by
  unfold slices_Clone_api_Msg_api_Msg.f
  rw [if_pos (by simp; omega)]
  rfl
/-- where rows are alike -/
theorem same_loop {α : Type} [Inhabited α] [DecidableEq α] {F : Nat → Int → Option Bool} {a b : List α} {eqb : α → α → Bool} (he : ∀ x y, eqb x y = decide (x = y)) (hab : a.length = b.length) (ha : a.length ≤ 1000000)
    (hF : ∀ k i, F (k + 1) i = if (decide (i < (a.length : Int))) = true then (if 0 ≤ i ∧ i < (a.length : Int) then (if 0 ≤ i ∧ i < (b.length : Int) then (if (!(eqb (gt a i) (gt b i))) = true then (some false) else (F k (w64 (i + 1)))) else none) else none) else (some true)) :
    ∀ (k i : Nat), i ≤ a.length → a.length - i < k → F k (i : Int) = some (decide (a.drop i = b.drop i))
  | 0, i, _, h => by omega
  | k + 1, i, hi, hk => by
    rw [hF]
    by_cases h : i < a.length
    · have g1 : (0 : Int) ≤ (i : Int) ∧ (i : Int) < (a.length : Int) := by omega
      have g2 : (0 : Int) ≤ (i : Int) ∧ (i : Int) < (b.length : Int) := by omega
      rw [if_pos (decide_eq_true g1.2), if_pos g1, if_pos g2, he, w64_succ (by omega), same_loop he hab ha hF k (i + 1) (by omega) (by omega), drop_cons h, drop_cons (show i < b.length by omega), gt_nat, gt_nat]
      generalize a.getD i default = x
      generalize b.getD i default = y
      by_cases e : x = y
      · simp [e]
      · simp [e]
    · rw [if_neg (by simp; omega), List.drop_eq_nil_of_le (by omega), List.drop_eq_nil_of_le (by omega)]
      rfl
theorem pr_eq (x y : Pr) : (decide (x.1 = y.1) && (decide (x.2 = y.2) && true)) = decide (x = y) := by
  obtain ⟨a, b⟩ := x
  obtain ⟨d, e⟩ := y
  by_cases h1 : a = d <;> by_cases h2 : b = e <;> simp [h1, h2]
/-- the rows are no longer than this -/
structure Short (n : Nd) : Prop where
  kids : n.2.1.length ≤ 1000
  pivs : n.2.2.1.length ≤ 1000
  buf : n.2.2.2.1.length ≤ 1000
  prs : n.2.2.2.2.length ≤ 1000
theorem SmallN.short {n : Nd} (h : SmallN n) : Short n := ⟨by have := h.kids; omega, by have := h.pivs; omega, by have := h.buf; omega, by have := h.prs; omega⟩
instance decNd4 : DecidableEq (List Msg × List Pr) := instDecidableEqProd
instance decNd3 : DecidableEq (List (List UInt8) × List Msg × List Pr) := instDecidableEqProd
instance decNd2 : DecidableEq (List Int × List (List UInt8) × List Msg × List Pr) := instDecidableEqProd
instance decNd1 : DecidableEq Nd := instDecidableEqProd
theorem clone32_pure {l : List Int} (hl : l.length ≤ 1000000) : slices_Clone_uint32_uint32.f l = some l := by
  unfold slices_Clone_uint32_uint32.f
  rw [if_pos (by simp; omega)]
  rfl
theorem cloneS_pure {l : List (List UInt8)} (hl : l.length ≤ 1000000) : slices_Clone_string_string.f l = some l := by
  unfold slices_Clone_string_string.f
  rw [if_pos (by simp; omega)]
  rfl
theorem cloneP_pure {l : List Pr} (hl : l.length ≤ 1000000) : slices_Clone_api_Pair_api_Pair.f l = some l := by
  unfold slices_Clone_api_Pair_api_Pair.f
  rw [if_pos (by simp; omega)]
  rfl
theorem nodeClone_pure {a : Nd} (ha : Short a) : node_Clone.f a = some a := by
  have h1 := ha.kids
  have h2 := ha.pivs
  have h3 := ha.buf
  have h4 := ha.prs
  unfold node_Clone.f
  rw [clone32_pure (by omega), cloneS_pure (by omega), clone_pure (by omega), cloneP_pure (by omega)]
  rfl
/-- joined -/
def joinN (a : Nd) (p : List UInt8) (b : Nd) : Nd × Bool :=
  if a.1 = b.1 then ((a.1, a.2.1 ++ b.2.1, if 0 < a.1 then a.2.2.1 ++ [p] ++ b.2.2.1 else a.2.2.1, a.2.2.2.1 ++ b.2.2.2.1, a.2.2.2.2 ++ b.2.2.2.2), true) else ((0, [], [], [], []), false)
theorem short_join {a b : Nd} (p : List UInt8) (ha : SmallN a) (hb : SmallN b) : Short (joinN a p b).1 := by
  have h1 := ha.kids
  have h2 := ha.pivs
  have h3 := ha.buf
  have h4 := ha.prs
  have g1 := hb.kids
  have g2 := hb.pivs
  have g3 := hb.buf
  have g4 := hb.prs
  unfold joinN
  by_cases e : a.1 = b.1
  · rw [if_pos e]
    refine ⟨?_, ?_, ?_, ?_⟩
    · simp; omega
    · by_cases e0 : 0 < a.1
      · simp [e0]; omega
      · simp [e0]; omega
    · simp; omega
    · simp; omega
  · rw [if_neg e]
    exact ⟨by simp, by simp, by simp, by simp⟩
def fitsN (c : Cfg) (a b : Nd) : Bool := decide (a.1 = b.1) && (if a.1 = 0 then decide (2 * ((a.2.2.2.2.length + b.2.2.2.2.length : Nat) : Int) ≤ c.2.2.2.2.2.1) else decide (2 * ((a.2.1.length + b.2.1.length : Nat) : Int) ≤ c.2.2.2.1) && decide (((a.2.2.2.1.length + b.2.2.2.1.length : Nat) : Int) ≤ c.2.2.2.2.1))
theorem rises_K : ∀ l, rises l = riseK (fun x => x) l
  | [] => rfl
  | [_] => rfl
  | a :: b :: r => by rw [rises, riseK, rises_K (b :: r)]
theorem riseM_K : ∀ l : List Msg, riseM l = riseK (fun x => x.1) l
  | [] => rfl
  | [_] => rfl
  | a :: b :: r => by rw [riseM, riseK, riseM_K (b :: r)]
theorem riseP_K : ∀ l : List Pr, riseP l = riseK (fun x => x.1) l
  | [] => rfl
  | [_] => rfl
  | a :: b :: r => by rw [riseP, riseK, riseP_K (b :: r)]
theorem riseK_take {α : Type} {key : α → List UInt8} {l : List α} (h : riseK key l = true) (n : Nat) : riseK key (l.take n) = true := (riseK_iff key _).2 (((riseK_iff key l).1 h).sublist (List.take_sublist n l))
theorem riseK_drop {α : Type} {key : α → List UInt8} {l : List α} (h : riseK key l = true) (n : Nat) : riseK key (l.drop n) = true := (riseK_iff key _).2 (((riseK_iff key l).1 h).sublist (List.drop_sublist n l))
theorem inS_iff {s : Sp} {x : List UInt8} : inS s x = true ↔ Op.bytesLess x s.1 = false ∧ (s.2.2 = true ∨ Op.bytesLess x s.2.1 = true) := by
  simp [inS]
theorem SmallN.sub {n m : Nd} (h : SmallN n) (h1 : m.2.1.length ≤ n.2.1.length) (h2 : m.2.2.1.Sublist n.2.2.1) (h3 : m.2.2.2.1.Sublist n.2.2.2.1) (h4 : m.2.2.2.2.Sublist n.2.2.2.2) : SmallN m :=
  ⟨by have := h.kids; omega, by have := h.pivs; have := h2.length_le; omega, by have := h.buf; have := h3.length_le; omega, by have := h.prs; have := h4.length_le; omega, fun p hp => h.pk p (h2.subset hp), fun p hp => h.bk p (h3.subset hp), fun p hp => h.rk p (h4.subset hp)⟩
abbrev pk (p : Pr) : List UInt8 := p.1
def okP (l : List Pr) : Prop := l.length ≤ 120 ∧ ∀ m ∈ l, m.1.length ≤ 300
def okM (l : List Msg) : Prop := l.length ≤ 120 ∧ ∀ m ∈ l, m.1.length ≤ 300
theorem mem_take_one {α : Type} [Inhabited α] {l : List α} {i : Nat} {m : α} (h : i < l.length) (hm : m ∈ l.take (i + 1)) : m ∈ l.take i ∨ m = l.getD i default := by
  rw [take_get h, List.mem_append] at hm
  exact hm.imp id (by simp)
theorem bs11_pure {l : List Pr} (x : List UInt8) (hl : l.length ≤ 1000000) (hr : RiseK pk l) {k : Nat} (hk : l.length < k) :
    ∃ c : Nat, slices_BinarySearchFunc_api_Pair_api_Pair_string_leaf_compare.f k l x = some ((c : Int), decide (c < l.length ∧ (l.getD c default).1 = x)) ∧ AtK pk l x c :=
  search_loop (key := pk) (F := fun k a b => slices_BinarySearchFunc_api_Pair_api_Pair_string_leaf_compare.l0 k l x a b) hl hr (fun k a b => rfl) k 0 l.length (by omega) (by omega) (by omega) (fun j hj => by omega) (fun j hj hjl => by omega)
def gm (o : Option Pr) : List UInt8 × Bool := o.elim ([], false) fun p => (p.2, true)
theorem get11_pure {l : List Pr} (x : List UInt8) (hl : l.length ≤ 1000000) (hr : RiseK pk l) {k : Nat} (hk : l.length < k) : leaf_Get.f k l x = some (gm (fndK pk l x)) := by
  obtain ⟨c, e1, e2⟩ := bs11_pure x hl hr hk
  have hf := e2.find hr
  unfold leaf_Get.f
  rw [e1, Option.bind_some, hf]
  by_cases q : c < l.length ∧ (l.getD c default).1 = x
  · rw [if_pos (show c < l.length ∧ pk (l.getD c default) = x from q), decide_eq_true q, if_neg (by simp), if_pos (by omega), gt_nat]
    rfl
  · rw [if_neg (show ¬ (c < l.length ∧ pk (l.getD c default) = x) from q), decide_eq_false q, if_pos (by rfl)]
    rfl
theorem clone11_pure {l : List Pr} (hl : l.length ≤ 1000000) : slices_Clone_api_Pair_api_Pair.f l = some l := by
  unfold slices_Clone_api_Pair_api_Pair.f
  rw [if_pos (by simp; omega)]
  rfl
/-- what a message does -/
def app1 (l : List Pr) (x : Msg) : List Pr := if x.2.1 = true then cutOut pk x.1 l else putK pk (x.1, x.2.2) l
theorem rise_app {l : List Pr} (x : Msg) (h : RiseK pk l) : RiseK pk (app1 l x) := by
  unfold app1
  split
  · exact riseK_cut pk h
  · exact riseK_put pk h
theorem app_length (l : List Pr) (x : Msg) : (app1 l x).length ≤ l.length + 1 := by
  unfold app1
  split
  · exact Nat.le_trans (List.length_filter_le _ _) (by omega)
  · exact putK_length pk _ l
theorem app_keys {l : List Pr} {x : Msg} (h : ∀ p ∈ l, p.1.length ≤ 300) (hx : x.1.length ≤ 300) : ∀ p ∈ app1 l x, p.1.length ≤ 300 := fun p hp => by
  unfold app1 at hp
  split at hp
  · exact h p (List.mem_filter.1 hp).1
  · rcases mem_putK pk hp with rfl | hp
    · exact hx
    · exact h p hp
theorem apply_l0 {m : List Msg} (hm : m.length ≤ 1000) : ∀ (k i : Nat) (x1 : List Pr), i ≤ m.length → 5000 + (m.length - i) < k → x1.length ≤ 2000 + i → RiseK pk x1 → leaf_Apply.l0 k m x1 (i : Int) = some ((m.drop i).foldl app1 x1)
  | 0, i, x1, _, h, _, _ => by omega
  | k + 1, i, x1, hi, hk, hx, hr => by
    rw [leaf_Apply.l0]
    by_cases h : i < m.length
    · obtain ⟨c, e1, e2⟩ := bs11_pure (m.getD i default).1 (l := x1) (k := k) (by omega) hr (by omega)
      have c1 := e2.1
      have ih := apply_l0 hm k (i + 1) (app1 x1 (m.getD i default)) (by omega) (by omega) (by have := app_length x1 (m.getD i default); omega) (rise_app _ hr)
      have wi : w64 ((i : Int) + 1) = ((i + 1 : Nat) : Int) := w64_succ (by omega)
      rw [if_pos (decide_eq_true (by omega)), if_pos (by omega), gt_nat, e1, Option.bind_some, wi, drop_cons h, List.foldl_cons, ← ih]
      generalize m.getD i default = x at e1 e2
      by_cases q : c < x1.length ∧ (x1.getD c default).1 = x.1
      · rw [if_pos (decide_eq_true q)]
        cases d : x.2.1 with
        | true =>
          have hc := e2.cut hr
          rw [if_pos (show c < x1.length ∧ pk (x1.getD c default) = x.1 from q)] at hc
          rw [if_pos rfl, w64_succ (by omega)]
          unfold slices_Delete_api_Pair_api_Pair.f
          rw [if_pos (by omega), Option.bind_some, Int.toNat_natCast, Int.toNat_natCast, ← hc]
          unfold app1
          rw [if_pos d]
        | false =>
          have hc := AtK.put (key := pk) (m := (x.1, x.2.2)) hr e2
          rw [if_pos (show c < x1.length ∧ pk (x1.getD c default) = pk (x.1, x.2.2) from q)] at hc
          rw [if_neg (by simp), if_pos (by omega), gt_nat, Int.toNat_natCast, q.2, ← hc]
          unfold app1
          rw [if_neg (by rw [d]; simp)]
      · rw [if_neg (by simpa using q)]
        cases d : x.2.1 with
        | true =>
          have hc := e2.cut hr
          rw [if_neg (show ¬ (c < x1.length ∧ pk (x1.getD c default) = x.1) from q)] at hc
          rw [if_neg (by simp)]
          unfold app1
          rw [if_pos d, hc]
        | false =>
          have hc := AtK.put (key := pk) (m := (x.1, x.2.2)) hr e2
          rw [if_neg (show ¬ (c < x1.length ∧ pk (x1.getD c default) = pk (x.1, x.2.2)) from q)] at hc
          rw [if_pos (by rfl)]
          unfold slices_Insert_api_Pair_api_Pair.f
          rw [if_pos (by omega), if_pos (by simp; omega), Option.bind_some, Int.toNat_natCast]
          unfold app1
          rw [if_neg (by rw [d]; simp), hc]
          simp
    · rw [if_neg (by simp; omega), List.drop_eq_nil_of_le (by omega)]
      rfl
theorem apply_pure {l : List Pr} {m : List Msg} (hl : l.length ≤ 1000) (hm : m.length ≤ 1000) (hr : RiseK pk l) {k : Nat} (hk : 7000 < k) : leaf_Apply.f k l m = some (m.foldl app1 l) := by
  unfold leaf_Apply.f
  rw [clone11_pure (by omega), Option.bind_some]
  have := apply_l0 hm k 0 l (by omega) (by omega) (by omega) hr
  simpa using this
theorem refCut_l0 {l : List Pr} (x : List UInt8) (hl : l.length ≤ 5000) : ∀ (k i : Nat) (x1 : List Pr), i ≤ l.length → x1.length ≤ i → l.length - i < k → sluicegateref11_Cut.l0 k l x x1 (i : Int) = some (x1 ++ cutOut pk x (l.drop i))
  | 0, i, x1, _, _, h => by omega
  | k + 1, i, x1, hi, hx, hk => by
    rw [sluicegateref11_Cut.l0]
    by_cases h : i < l.length
    · have etp : ((l.getD i default).1, (l.getD i default).2) = l.getD i default := rfl
      rw [if_pos (decide_eq_true (by omega)), if_pos (by omega), gt_nat, etp, w64_succ (by omega), drop_cons h]
      unfold cutOut
      rw [List.filter_cons]
      by_cases e : (l.getD i default).1 = x
      · rw [if_neg (by rw [decide_eq_true e]; simp), refCut_l0 x hl k (i + 1) x1 (by omega) (by omega) (by omega), if_neg (by rw [show pk (l.getD i default) = x from e]; simp)]
        rfl
      · rw [if_pos (by rw [decide_eq_false e]; rfl), if_pos (by simp; omega), refCut_l0 x hl k (i + 1) _ (by omega) (by simp; omega) (by omega), if_pos (by rw [decide_eq_false (show ¬ pk (l.getD i default) = x from e)]; rfl)]
        simp [cutOut]
    · rw [if_neg (by simp; omega), List.drop_eq_nil_of_le (by omega)]
      simp [cutOut]
theorem refCut11_pure {l : List Pr} (x : List UInt8) (hl : l.length ≤ 5000) {k : Nat} (hk : l.length < k) : sluicegateref11_Cut.f k l x = some (cutOut pk x l) := by
  have := refCut_l0 x hl k 0 [] (by omega) (by simp) (by omega)
  simpa [sluicegateref11_Cut.f] using this
theorem refPut11_l0 {r : List Pr} {key val : List UInt8} (hl : r.length ≤ 5000) (hk300 : key.length ≤ 300) (hr300 : ∀ p ∈ r, p.1.length ≤ 300) (hr : RiseK pk r) (hne : ∀ p ∈ r, p.1 ≠ key) : ∀ (k i : Nat), i ≤ r.length → 2001 + (r.length - i) < k → (∀ j, j < i → Op.bytesLess (r.getD j default).1 key = true) →
    sluicegateref11_Put.l0 k key val r (i : Int) = some (putK pk (key, val) r)
  | 0, i, _, h, _ => by omega
  | k + 1, i, hi, hk, hb => by
    rw [sluicegateref11_Put.l0]
    have fin : (∀ j, i ≤ j → j < r.length → Op.bytesLess (r.getD j default).1 key = false) → r.take i ++ [(key, val)] ++ r.drop i = putK pk (key, val) r := fun h => by
      have hat : AtK pk r (pk (key, val)) i := ⟨hi, hb, h⟩
      rw [hat.put hr, if_neg (fun t => hne _ (getD_mem t.1) t.2)]
      simp
    have rest : (if (0 : Int) ≤ (i : Int) ∧ (i : Int) ≤ (r.length : Int) then (if (([] : List Pr).length + (r.take (i : Int).toNat).length) * 32 ≤ 140737488355328 then (if ((([] : List Pr) ++ (r.take (i : Int).toNat)).length + ([(key, val)] : List Pr).length) * 32 ≤ 140737488355328 then (if 0 ≤ (i : Int) ∧ (i : Int) ≤ (r.length : Int) then (if (((([] : List Pr) ++ (r.take (i : Int).toNat)) ++ ([(key, val)] : List Pr)).length + (r.drop (i : Int).toNat).length) * 32 ≤ 140737488355328 then (some (((([] : List Pr) ++ (r.take (i : Int).toNat)) ++ ([(key, val)] : List Pr)) ++ (r.drop (i : Int).toNat))) else none) else none) else none) else none) else none) = some (r.take i ++ [(key, val)] ++ r.drop i) := by
      rw [if_pos (by omega), if_pos (by simp; omega), if_pos (by simp; omega), if_pos (by omega), if_pos (by simp; omega)]
      simp
    by_cases h : i < r.length
    · rw [if_pos (decide_eq_true (by omega)), if_pos (by omega), gt_nat, compare_pure (by have := hr300 _ (getD_mem (d := default) h); omega) (by omega) (by omega), Option.bind_some]
      cases q : Op.bytesLess (r.getD i default).1 key with
      | true =>
        rw [if_pos (decide_eq_true (scmp_lt.2 q)), w64_succ (by omega)]
        refine refPut11_l0 hl hk300 hr300 hr hne k (i + 1) (by omega) (by omega) fun j hj => ?_
        by_cases e : j = i
        · subst e; exact q
        · exact hb j (by omega)
      | false =>
        rw [if_neg (by simp only [decide_eq_true_eq, scmp_lt, q]; simp), rest, fin]
        intro j hj hjl
        by_cases e : j = i
        · subst e; exact q
        · exact bl_le_trans q (bl_asymm (RiseK.get pk hr (show i < j by omega) hjl default))
    · rw [if_neg (by simp; omega), rest, fin]
      intro j hj hjl
      omega
theorem put_cut {l : List Pr} {key val : List UInt8} (hr : RiseK pk l) : putK pk (key, val) (cutOut pk key l) = putK pk (key, val) l :=
  riseK_ext pk (riseK_put pk (riseK_cut pk hr)) (riseK_put pk hr) fun k => by
    rw [fndK_put, fndK_put, fndK_cut]
    by_cases e : pk (key, val) = k
    · rw [if_pos e, if_pos e]
    · rw [if_neg e, if_neg e, if_neg (show ¬ key = k from e)]
theorem refPut11_pure {l : List Pr} {key val : List UInt8} (hl : l.length ≤ 5000) (hk300 : key.length ≤ 300) (hr300 : ∀ p ∈ l, p.1.length ≤ 300) (hr : RiseK pk l) {k : Nat} (hk : 8000 < k) : sluicegateref11_Put.f k l key val = some (putK pk (key, val) l) := by
  have hl2 : (cutOut pk key l).length ≤ l.length := List.length_filter_le _ _
  unfold sluicegateref11_Put.f
  rw [refCut11_pure key (by omega) (by omega), Option.bind_some]
  have := refPut11_l0 (r := cutOut pk key l) (key := key) (val := val) (by omega) hk300 (fun p hp => hr300 p (List.mem_filter.1 hp).1) (riseK_cut pk hr) (fun p hp e => by have := (List.mem_filter.1 hp).2; simp [show pk p = key from e] at this) k 0 (by omega) (by omega) (fun j hj => by omega)
  rw [← put_cut hr]
  exact this
theorem refApply_l0 {m : List Msg} (hm : m.length ≤ 1000) (hm300 : ∀ x ∈ m, x.1.length ≤ 300) : ∀ (k i : Nat) (x1 : List Pr), i ≤ m.length → 8000 + (m.length - i) < k → x1.length ≤ 2000 + i → (∀ p ∈ x1, p.1.length ≤ 300) → RiseK pk x1 → sluicegateref11_Apply.l0 k m x1 (i : Int) = some ((m.drop i).foldl app1 x1)
  | 0, i, x1, _, h, _, _, _ => by omega
  | k + 1, i, x1, hi, hk, hx, h300, hr => by
    rw [sluicegateref11_Apply.l0]
    by_cases h : i < m.length
    · have kx := hm300 _ (getD_mem (d := default) h)
      have ih := refApply_l0 hm hm300 k (i + 1) (app1 x1 (m.getD i default)) (by omega) (by omega) (by have := app_length x1 (m.getD i default); omega) (app_keys h300 kx) (rise_app _ hr)
      rw [if_pos (decide_eq_true (by omega)), if_pos (by omega), gt_nat, w64_succ (by omega), drop_cons h, List.foldl_cons, ← ih]
      generalize m.getD i default = x at kx
      cases d : x.2.1 with
      | true =>
        rw [if_pos rfl, refCut11_pure x.1 (by omega) (by omega), Option.bind_some]
        unfold app1
        rw [if_pos d]
      | false =>
        rw [if_neg (by simp), refPut11_pure (by omega) kx h300 hr (by omega), Option.bind_some]
        unfold app1
        rw [if_neg (by rw [d]; simp)]
    · rw [if_neg (by simp; omega), List.drop_eq_nil_of_le (by omega)]
      rfl
theorem refApply_pure {l : List Pr} {m : List Msg} (hl : l.length ≤ 1000) (hm : m.length ≤ 1000) (hm300 : ∀ x ∈ m, x.1.length ≤ 300) (h300 : ∀ p ∈ l, p.1.length ≤ 300) (hr : RiseK pk l) {k : Nat} (hk : 10000 < k) : sluicegateref11_Apply.f k l m = some (m.foldl app1 l) := by
  have := refApply_l0 hm hm300 k 0 l (by omega) (by omega) (by omega) h300 hr
  simpa [sluicegateref11_Apply.f] using this
theorem fold_rise : ∀ (m : List Msg) (l : List Pr), RiseK pk l → RiseK pk (m.foldl app1 l)
  | [], l, h => h
  | x :: m, l, h => fold_rise m _ (rise_app x h)
theorem fold_length : ∀ (m : List Msg) (l : List Pr), (m.foldl app1 l).length ≤ l.length + m.length
  | [], l => by simp
  | x :: m, l => by
    have h1 := fold_length m (app1 l x)
    have h2 := app_length l x
    simp only [List.foldl_cons, List.length_cons]
    omega
theorem fold_keys : ∀ (m : List Msg) (l : List Pr), (∀ p ∈ l, p.1.length ≤ 300) → (∀ x ∈ m, x.1.length ≤ 300) → ∀ p ∈ m.foldl app1 l, p.1.length ≤ 300
  | [], l, h, _ => h
  | x :: m, l, h, hm => fold_keys m _ (app_keys h (hm x (by simp))) fun y hy => hm y (by simp [hy])
theorem right11_rise {l : List Pr} (hl : l.length ≤ 100000) (h300 : ∀ p ∈ l, p.1.length ≤ 300) {k : Nat} (hk : 2001 + l.length < k) : sluicegateref11_Right.f k l = some (riseK pk l) := by
  have := right_loop (key := pk) (F := fun k i => sluicegateref11_Right.l0 k l i) (cmp := sluicegateref01_Compare.f) (K := 2000) (by omega) (fun k hk a b ha hb => compare_pure (Nat.le_trans (h300 a ha) (by decide)) (Nat.le_trans (h300 b hb) (by decide)) hk) (fun k i => rfl) k 0 (by omega) (by omega)
  simpa [sluicegateref11_Right.f] using this
def okL (l : List Msg) : Prop := l.length ≤ 150 ∧ ∀ m ∈ l, m.1.length ≤ 300
abbrev mk (m : Msg) : List UInt8 := m.1
/-- no longer than this, and the keys too -/
def okN (N : Nat) (l : List Msg) : Prop := l.length ≤ N ∧ ∀ m ∈ l, m.1.length ≤ 300
theorem bs10_pure {l : List Msg} (x : List UInt8) (hl : l.length ≤ 1000000) (hr : RiseK mk l) {k : Nat} (hk : l.length < k) :
    ∃ c : Nat, slices_BinarySearchFunc_api_Msg_api_Msg_string_buf_compare.f k l x = some ((c : Int), decide (c < l.length ∧ (l.getD c default).1 = x)) ∧ AtK mk l x c :=
  search_loop (key := mk) (F := fun k a b => slices_BinarySearchFunc_api_Msg_api_Msg_string_buf_compare.l0 k l x a b) hl hr (fun k a b => rfl) k 0 l.length (by omega) (by omega) (by omega) (fun j hj => by omega) (fun j hj hjl => by omega)
def fm (o : Option Msg) : Msg × Bool := o.elim (([], false, []), false) fun m => (m, true)
theorem find10_pure {l : List Msg} (x : List UInt8) (hl : l.length ≤ 1000000) (hr : RiseK mk l) {k : Nat} (hk : l.length < k) : buf_Find.f k l x = some (fm (fndK mk l x)) := by
  obtain ⟨c, e1, e2⟩ := bs10_pure x hl hr hk
  have hf := e2.find hr
  unfold buf_Find.f
  rw [e1, Option.bind_some, hf]
  by_cases q : c < l.length ∧ (l.getD c default).1 = x
  · rw [if_pos (show c < l.length ∧ mk (l.getD c default) = x from q), decide_eq_true q, if_neg (by simp), if_pos (by omega), gt_nat]
    rfl
  · rw [if_neg (show ¬ (c < l.length ∧ mk (l.getD c default) = x) from q), decide_eq_false q, if_pos (by rfl)]
    rfl
theorem clone10_pure {l : List Msg} (hl : l.length ≤ 1000000) : slices_Clone_api_Msg_api_Msg.f l = some l := by
  unfold slices_Clone_api_Msg_api_Msg.f
  rw [if_pos (by simp; omega)]
  rfl
theorem refPut_done {l : List Msg} {m : Msg} (hl : okN 1000 l) (hm : m.1.length ≤ 300) : ∀ (k i : Nat) (x1 : List Msg), i ≤ l.length → x1.length ≤ 2000 + i → l.length - i < k → (∀ b ∈ l.drop i, b.1 ≠ m.1) → sluicegateref10_Put.l0 k l m x1 true (i : Int) = some (x1 ++ l.drop i)
  | 0, i, x1, _, _, h, _ => by omega
  | k + 1, i, x1, hi, hx, hk, hn => by
    have h1000 := hl.1
    rw [sluicegateref10_Put.l0]
    by_cases h : i < l.length
    · have etm : ((l.getD i default).1, (l.getD i default).2.1, (l.getD i default).2.2) = l.getD i default := rfl
      have ne : (l.getD i default).1 ≠ m.1 := hn _ (by rw [drop_cons h]; simp)
      have ih := refPut_done hl hm k (i + 1) (x1 ++ [l.getD i default]) (by omega) (by simp; omega) (by omega) (fun b hb => hn b (by rw [drop_cons h]; simp [hb]))
      rw [if_pos (decide_eq_true (by omega)), if_neg (by simp), if_pos (by omega), gt_nat, if_pos (by simp only [ne, decide_false]; rfl), etm, if_pos (by simp; omega), w64_succ (by omega), ih, drop_cons h]
      simp
    · rw [if_neg (by simp; omega), if_neg (by simp), List.drop_eq_nil_of_le (by omega)]
      simp
theorem refPut_l0 {l : List Msg} {m : Msg} (hl : okN 1000 l) (hm : m.1.length ≤ 300) : ∀ (k i : Nat) (x1 : List Msg), i ≤ l.length → x1.length ≤ 1000 + i → 2001 + (l.length - i) < k → RiseK mk (l.drop i) → sluicegateref10_Put.l0 k l m x1 false (i : Int) = some (x1 ++ putK mk m (l.drop i))
  | 0, i, x1, _, _, h, _ => by omega
  | k + 1, i, x1, hi, hx, hk, hr => by
    have h1000 := hl.1
    have etm' : (m.1, m.2.1, m.2.2) = m := rfl
    rw [sluicegateref10_Put.l0]
    by_cases h : i < l.length
    · have etm : ((l.getD i default).1, (l.getD i default).2.1, (l.getD i default).2.2) = l.getD i default := rfl
      have kl := hl.2 _ (getD_mem (d := default) h)
      rw [drop_cons h] at hr ⊢
      obtain ⟨r1, r2⟩ := List.pairwise_cons.1 hr
      rw [if_pos (decide_eq_true (by omega)), if_pos (by rfl), if_pos (by omega), gt_nat, compare_pure (by omega) (by omega) (by omega), Option.bind_some, etm, etm', w64_succ (by omega)]
      unfold putK
      cases q : Op.bytesLess (l.getD i default).1 m.1 with
      | true =>
        have ne : (l.getD i default).1 ≠ m.1 := bl_ne q
        rw [if_neg (by simp only [decide_eq_true_eq, scmp_le, q]; simp), if_pos (by simp only [ne, decide_false]; rfl), if_pos (by simp; omega), refPut_l0 hl hm k (i + 1) _ (by omega) (by simp; omega) (by omega) r2,
          if_neg (by rw [show Op.bytesLess (mk m) (mk (l.getD i default)) = false from bl_asymm q]; simp), if_neg (show ¬ mk m = mk (l.getD i default) from fun e => ne e.symm)]
        simp
      | false =>
        rw [if_pos (decide_eq_true (scmp_le.2 q)), if_pos (by simp; omega)]
        by_cases e : (l.getD i default).1 = m.1
        · have hn : ∀ b ∈ l.drop (i + 1), b.1 ≠ m.1 := fun b hb => by rw [← e]; exact (bl_ne (r1 b hb)).symm
          rw [if_neg (by rw [decide_eq_true e]; simp), refPut_done hl hm k (i + 1) _ (by omega) (by simp; omega) (by omega) hn, if_neg (by rw [show mk m = mk (l.getD i default) from e.symm, bl_irr]; simp), if_pos (show mk m = mk (l.getD i default) from e.symm)]
          simp
        · have lt : Op.bytesLess m.1 (l.getD i default).1 = true := (bl_ge q).resolve_left e
          have hn : ∀ b ∈ l.drop (i + 1), b.1 ≠ m.1 := fun b hb => (bl_ne (bl_trans lt (r1 b hb))).symm
          rw [if_pos (by simp only [e, decide_false]; rfl), if_pos (by simp; omega), refPut_done hl hm k (i + 1) _ (by omega) (by simp; omega) (by omega) hn, if_pos (show Op.bytesLess (mk m) (mk (l.getD i default)) = true from lt)]
          simp
    · rw [if_neg (by simp; omega), if_pos (by rfl), if_pos (by simp; omega), List.drop_eq_nil_of_le (by omega)]
      rfl
theorem refPut_pure {l : List Msg} {m : Msg} (hl : okN 1000 l) (hm : m.1.length ≤ 300) (hr : RiseK mk l) {k : Nat} (hk : 4000 < k) : sluicegateref10_Put.f k l m = some (putK mk m l) := by
  have := refPut_l0 hl hm k 0 [] (by omega) (by simp) (by have := hl.1; omega) (by simpa using hr)
  simpa [sluicegateref10_Put.f] using this
theorem scmp_one (a b : List UInt8) : decide (scmp a b = 1) = Op.bytesLess b a := by
  rcases scmp_vals a b with ⟨e, h⟩ | ⟨e, rfl⟩ | ⟨e, h⟩
  · simp [e, bl_asymm h]
  · simp [e, bl_irr]
  · simp [e, h]
theorem lexCompare10 (a b : List UInt8) : lex_Compare.f a b = some (scmp a b) := rfl
theorem merge_l0 : ∀ (k : Nat) (n o out : List Msg), n.length + o.length < k → out.length + (n.length + o.length) ≤ 1000000 → buf_Merge.l0 k n o out = some (out ++ mergeK mk k n o)
  | 0, n, o, out, h, _ => by omega
  | k + 1, [], o, out, h, hs => by
    rw [buf_Merge.l0, if_neg (by simp), if_pos (by first | (simp; done) | (simp; omega)), if_pos (by simp at hs ⊢; omega)]
    simp [mergeK]
  | k + 1, a :: n, [], out, h, hs => by
    rw [buf_Merge.l0, if_pos (by first | (simp; done) | (simp; omega)), if_neg (by simp), if_pos (by simp at hs ⊢; omega), if_pos (by simp at hs ⊢; omega)]
    simp [mergeK]
  | k + 1, a :: n, b :: o, out, h, hs => by
    have ga : gt (a :: n) 0 = a := rfl
    have gb : gt (b :: o) 0 = b := rfl
    have eta : ∀ a : Msg, (a.1, a.2.1, a.2.2) = a := fun _ => rfl
    simp only [List.length_cons] at h hs
    rw [buf_Merge.l0, if_pos (by first | (simp; done) | (simp; omega)), if_pos (by first | (simp; done) | (simp; omega)), if_pos (by first | (simp; done) | (simp; omega)), if_pos (by first | (simp; done) | (simp; omega)), ga, gb, lexCompare10, Option.bind_some, eta, eta, scmp_one]
    unfold mergeK
    have d1 : List.drop 1 (a :: n) = n := rfl
    have d2 : List.drop 1 (b :: o) = o := rfl
    rw [d1, d2]
    cases q : Op.bytesLess b.1 a.1 with
    | true =>
      rw [if_pos rfl, if_pos (by first | (simp; done) | (simp; omega)), if_pos (by first | (simp; done) | (simp; omega)), merge_l0 k (a :: n) o _ (by first | (simp; done) | (simp; omega)) (by first | (simp; done) | (simp; omega)), if_neg (by rw [show Op.bytesLess (mk a) (mk b) = false from bl_asymm q]; simp), if_neg (show ¬ mk a = mk b from (bl_ne q).symm)]
      simp
    | false =>
      rw [if_neg (by simp)]
      by_cases e : a.1 = b.1
      · rw [if_pos (decide_eq_true (scmp_eq.2 e)), if_pos (by first | (simp; done) | (simp; omega)), if_pos (by first | (simp; done) | (simp; omega)), if_pos (by first | (simp; done) | (simp; omega)), merge_l0 k n o _ (by omega) (by first | (simp; done) | (simp; omega)), if_neg (by rw [show mk a = mk b from e, bl_irr]; simp), if_pos (show mk a = mk b from e)]
        simp
      · have lt : Op.bytesLess a.1 b.1 = true := by
          rcases bl_ge q with t | t
          · exact absurd t.symm e
          · exact t
        rw [if_neg (by simpa [scmp_eq] using e), if_pos (by first | (simp; done) | (simp; omega)), if_pos (by first | (simp; done) | (simp; omega)), merge_l0 k n (b :: o) _ (by first | (simp; done) | (simp; omega)) (by first | (simp; done) | (simp; omega)), if_pos (show Op.bytesLess (mk a) (mk b) = true from lt)]
        simp
theorem merge10_pure {n o : List Msg} (hn : n.length ≤ 100000) (ho : o.length ≤ 100000) {k : Nat} (hk : n.length + o.length < k) : buf_Merge.f k n o = some (mergeK mk k n o) := by
  unfold buf_Merge.f
  rw [w64_id (by omega) (by omega), if_pos (by omega), merge_l0 k n o [] hk (by simp; omega)]
  rfl
theorem okN_put {N : Nat} {l : List Msg} {m : Msg} (hl : okN N l) (hm : m.1.length ≤ 300) : okN (N + 1) (putK mk m l) := by
  refine ⟨by have := putK_length mk m l; have := hl.1; omega, fun x hx => ?_⟩
  rcases mem_putK mk hx with rfl | hx
  · exact hm
  · exact hl.2 x hx
theorem right10_pure {l : List Msg} (hl : okN 100000 l) {k : Nat} (hk : 2001 + l.length < k) : sluicegateref10_Right.f k l = some (riseK mk l) := by
  have := right_loop (key := mk) (F := fun k i => sluicegateref10_Right.l0 k l i) (cmp := sluicegateref01_Compare.f) (K := 2000) (by have := hl.1; omega) (fun k hk a b ha hb => compare_pure (Nat.le_trans (hl.2 a ha) (by decide)) (Nat.le_trans (hl.2 b hb) (by decide)) hk) (fun k i => rfl) k 0 (by omega) (by omega)
  simpa [sluicegateref10_Right.f] using this
theorem okN_merge {f : Nat} {n o : List Msg} {N M : Nat} (hn : okN N n) (ho : okN M o) : okN (N + M) (mergeK mk f n o) := by
  refine ⟨?_, fun x hx => ?_⟩
  · have : ∀ (f : Nat) (n o : List Msg), (mergeK mk f n o).length ≤ n.length + o.length := by
      intro f
      induction f with
      | zero => intro n o; simp [mergeK]
      | succ f ih =>
        intro n o
        match n, o with
        | [], o => simp [mergeK]
        | a :: n, [] => simp [mergeK]
        | a :: n, b :: o =>
          unfold mergeK
          have h1 := ih n (b :: o)
          have h2 := ih n o
          have h3 := ih (a :: n) o
          simp only [List.length_cons] at h1 h2 h3
          split
          · simp; omega
          · split <;> simp <;> omega
    have h1 := this f n o
    have := hn.1
    have := ho.1
    omega
  · exact (mergeK_mem mk hx).elim (hn.2 x) (ho.2 x)
def emS (s : Sp) : Bool := !s.2.2 && !Op.bytesLess s.1 s.2.1
theorem lexEmpty_pure (s : Sp) : lex_Empty.f s = some (emS s) := by
  unfold lex_Empty.f emS
  rw [bl_le_iff]
  cases s.2.2 <;> rfl
theorem in_empty {s : Sp} {x : List UInt8} (h : emS s = true) : inS s x = false := by
  simp only [emS, Bool.and_eq_true, Bool.not_eq_true'] at h
  cases k : Op.bytesLess x s.1 with
  | true => simp [inS, k]
  | false =>
    simp only [inS, k, h.1, Bool.not_false, Bool.true_and, Bool.false_or]
    exact bl_le_trans h.2 k
def cutS (a b : Sp) : Sp := (if Op.bytesLess a.1 b.1 = true then b.1 else a.1, if a.2.2 = true then (if b.2.2 = true then [] else b.2.1) else if b.2.2 = true then a.2.1 else if Op.bytesLess b.2.1 a.2.1 = true then b.2.1 else a.2.1, a.2.2 && b.2.2)
def meetS (a b : Sp) : Sp × Bool := if emS (cutS a b) = true then (([], [], false), false) else (cutS a b, true)
theorem meet_pure (a b : Sp) : lex_Meet.f a b = some (meetS a b) := by
  obtain ⟨l, h, p⟩ := a
  obtain ⟨m, i, q⟩ := b
  have e : (if (!Op.bytesLess l m) = true then l else m) = if Op.bytesLess l m = true then m else l := by cases Op.bytesLess l m <;> rfl
  have f : (if (Op.bytesLess h i || decide (h = i)) = true then h else i) = if Op.bytesLess i h = true then i else h := by rw [bl_le_iff]; cases Op.bytesLess i h <;> rfl
  cases p <;> cases q <;> simp only [lex_Meet.f, meetS, cutS, lexEmpty_pure, Option.bind_some, e, f, Bool.not_true, Bool.not_false, Bool.false_eq_true, if_false, if_true, Bool.and_true, Bool.true_and, Bool.and_false, Bool.false_and] <;> exact (apply_ite some _ _ _).symm
theorem in_cut (a b : Sp) (x : List UInt8) : inS (cutS a b) x = (inS a x && inS b x) := by
  obtain ⟨l, h, p⟩ := a
  obtain ⟨m, i, q⟩ := b
  have e : Op.bytesLess x (if Op.bytesLess l m = true then m else l) = (Op.bytesLess x l || Op.bytesLess x m) := by
    cases c : Op.bytesLess l m with
    | true =>
      simp only [if_true]
      cases d : Op.bytesLess x l with
      | false => simp
      | true => simp [bl_trans d c]
    | false =>
      simp only [Bool.false_eq_true, if_false]
      cases d : Op.bytesLess x m with
      | false => simp
      | true => simp [bl_lt_le d c]
  have f : Op.bytesLess x (if Op.bytesLess i h = true then i else h) = (Op.bytesLess x h && Op.bytesLess x i) := by
    cases c : Op.bytesLess i h with
    | true =>
      simp only [if_true]
      cases d : Op.bytesLess x i with
      | false => simp
      | true => simp [bl_trans d c]
    | false =>
      simp only [Bool.false_eq_true, if_false]
      cases d : Op.bytesLess x h with
      | false => simp
      | true => simp [bl_lt_le d c]
  cases p <;> cases q <;> simp only [inS, cutS, e, f, Bool.and_true, Bool.true_and, Bool.and_false, Bool.false_and, Bool.false_eq_true, if_false, if_true, Bool.true_or, Bool.false_or, Bool.not_or] <;> (cases Op.bytesLess x l <;> cases Op.bytesLess x m <;> cases Op.bytesLess x h <;> cases Op.bytesLess x i <;> rfl)
theorem lexCompare_pure (a b : List UInt8) : lex_Compare.f a b = some (scmp a b) := rfl
theorem refEmpty_pure {k : Nat} {s : Sp} (h1 : s.1.length ≤ 2000) (h2 : s.2.1.length ≤ 2000) (hk : 2000 < k) : sluicegateref01_Empty.f k s = some (emS s) := by
  unfold sluicegateref01_Empty.f
  rw [refIn_pure h1 h2 h1 hk]
  simp only [Option.bind_some, inS, emS, bl_irr]
  simp
/-- what is not great -/
structure Small (l : List (List UInt8)) (x : List UInt8) (s : Sp) : Prop where
  len : l.length ≤ 80
  all : ∀ p ∈ l, p.length ≤ 300
  x : x.length ≤ 300
  lo : s.1.length ≤ 300
  hi : s.2.1.length ≤ 300
theorem Small.get {l : List (List UInt8)} {x : List UInt8} {s : Sp} (h : Small l x s) (i : Nat) : (l.getD i []).length ≤ 300 := by
  by_cases hi : i < l.length
  · exact h.all _ (getD_mem hi)
  · rw [List.getD_eq_getElem?_getD, List.getElem?_eq_none (by omega)]
    exact Nat.zero_le _
theorem frise_l0 {x : List UInt8} {s : Sp} {l : List (List UInt8)} (hs : Small l x s) : ∀ (k i : Nat), i ≤ l.length → 2001 + (l.length - i) < k → sluicegateref12_Rise.l0 k l ((i + 1 : Nat) : Int) = some (rises (l.drop i))
  | 0, i, _, h => by omega
  | k + 1, i, hi, hk => by
    have h80 := hs.len
    rw [sluicegateref12_Rise.l0]
    by_cases h : i + 1 < l.length
    · have g1 : (0 : Int) ≤ (i : Int) ∧ (i : Int) < (l.length : Int) := by omega
      have g2 : (0 : Int) ≤ ((i + 1 : Nat) : Int) ∧ ((i + 1 : Nat) : Int) < (l.length : Int) := by omega
      have k1 : (l.getD i default).length ≤ 300 := hs.get i
      have k2 : (l.getD (i + 1) default).length ≤ 300 := hs.get (i + 1)
      rw [if_pos (decide_eq_true g2.2), w64_pred (by omega) (by omega), Nat.add_sub_cancel, if_pos g1, if_pos g2, gt_nat, gt_nat, compare_pure (by omega) (by omega) (by omega), Option.bind_some, scmp_ge, w64_succ (by omega), frise_l0 hs k (i + 1) (by omega) (by omega), rises_drop h]
      show (if (!Op.bytesLess (l.getD i []) (l.getD (i + 1) [])) = true then some false else some (rises (l.drop (i + 1)))) = _
      cases Op.bytesLess (l.getD i []) (l.getD (i + 1) []) <;> rfl
    · rw [if_neg (by simp only [decide_eq_true_eq]; omega), rises_end (by omega)]
theorem frise_pure {x : List UInt8} {s : Sp} {l : List (List UInt8)} (hs : Small l x s) {k : Nat} (hk : 3000 < k) : sluicegateref12_Rise.f k l = some (rises l) := by
  have := frise_l0 hs k 0 (by omega) (by have := hs.len; omega)
  simpa [sluicegateref12_Rise.f] using this
theorem frefRight_l0 {x : List UInt8} {s : Sp} {l : List (List UInt8)} (hs : Small l x s) : ∀ (k i : Nat), i ≤ l.length → 3001 + (l.length - i) < k → sluicegateref12_Right.l0 k l s (i : Int) = some ((l.drop i).all (piv s) && rises l)
  | 0, i, _, h => by omega
  | k + 1, i, hi, hk => by
    have h80 := hs.len
    rw [sluicegateref12_Right.l0]
    by_cases h : i < l.length
    · have g1 : (0 : Int) ≤ (i : Int) ∧ (i : Int) < (l.length : Int) := by omega
      have k1 : (l.getD i default).length ≤ 300 := hs.get i
      have hlo := hs.lo
      have hhi := hs.hi
      have eta : (s.1, s.2.1, s.2.2) = s := rfl
      rw [if_pos (decide_eq_true g1.2), if_pos g1, gt_nat, eta, refIn_pure (by omega) (by omega) (by omega) (by omega), Option.bind_some, w64_succ (by omega), frefRight_l0 hs k (i + 1) (by omega) (by omega), drop_cons h, List.all_cons]
      simp only [piv]
      cases inS s (l.getD i default) <;> by_cases e : l.getD i default = s.1 <;> simp only [e, decide_true, decide_false] <;> rfl
    · rw [if_neg (by simp only [decide_eq_true_eq]; omega), frise_pure hs (by omega), List.drop_eq_nil_of_le (by omega)]
      rfl
theorem frefRight_pure {x : List UInt8} {s : Sp} {l : List (List UInt8)} (hs : Small l x s) {k : Nat} (hk : 4000 < k) : sluicegateref12_Right.f k l s = some (l.all (piv s) && rises l) := by
  have := frefRight_l0 hs k 0 (by omega) (by have := hs.len; omega)
  simpa [sluicegateref12_Right.f] using this
/-! the way -/
def AtWay (l : List (List UInt8)) (x : List UInt8) (w : Nat) : Prop := w ≤ l.length ∧ (∀ j, j < w → Op.bytesLess x (l.getD j []) = false) ∧ ∀ j, w ≤ j → j < l.length → Op.bytesLess x (l.getD j []) = true
theorem rises_get {l : List (List UInt8)} (h : rises l = true) : ∀ {i j : Nat}, i < j → j < l.length → Op.bytesLess (l.getD i []) (l.getD j []) = true := by
  have step : ∀ i, i + 1 < l.length → rises (l.drop i) = true → Op.bytesLess (l.getD i []) (l.getD (i + 1) []) = true ∧ rises (l.drop (i + 1)) = true := fun i hi hr => by
    rw [rises_drop hi, Bool.and_eq_true] at hr
    exact hr
  have all : ∀ i, i < l.length → rises (l.drop i) = true := fun i => by
    induction i with
    | zero => intro _; simpa using h
    | succ i ih => intro hi; exact (step i hi (ih (by omega))).2
  intro i j hij hj
  induction j with
  | zero => omega
  | succ j ih =>
    have one := (step j hj (all j (by omega))).1
    by_cases e : i = j
    · subst e; exact one
    · exact bl_trans (ih (by omega) (by omega)) one
/-! what a kid has -/
def ownS (l : List (List UInt8)) (i : Nat) : Sp := (if 0 < i then l.getD (i - 1) [] else [], if i = l.length then [] else l.getD i [], decide (i = l.length))
theorem span_pure {l : List (List UInt8)} (hl : l.length ≤ 80) (s : Sp) (i : Nat) (hi : i ≤ l.length) : fan_Span.f l (i : Int) s = some (meetS (ownS l i) s) := by
  unfold fan_Span.f
  have d : ∀ (m : Sp × Bool), some (((m.1.1, m.1.2.1, m.1.2.2), m.2) : Sp × Bool) = some m := fun m => rfl
  have eta : (s.1, s.2.1, s.2.2) = s := rfl
  rw [if_neg (by simp only [decide_eq_true_eq]; omega), if_neg (by simp only [decide_eq_true_eq]; omega)]
  have de : decide ((i : Int) = (l.length : Int)) = decide (i = l.length) := by congr 1; exact propext (by omega)
  simp only [meet_pure, Option.bind_some, d, eta, de]
  by_cases h0 : 0 < i
  · have g0 : (0 : Int) ≤ ((i - 1 : Nat) : Int) ∧ ((i - 1 : Nat) : Int) < (l.length : Int) := by omega
    rw [if_pos (decide_eq_true (by omega)), w64_pred h0 (by omega), if_pos g0, gt_nat]
    by_cases h1 : i = l.length
    · simp only [h1, decide_true, Bool.not_true, Bool.false_eq_true, if_false, ownS, if_true, show 0 < l.length by omega]
      rfl
    · have g1 : (0 : Int) ≤ (i : Int) ∧ (i : Int) < (l.length : Int) := by omega
      simp only [h1, decide_false, Bool.not_false, if_true, g1, and_self, gt_nat, ownS, h0, if_false]
      rfl
  · obtain rfl : i = 0 := by omega
    rw [if_neg (by simp)]
    by_cases h1 : 0 = l.length
    · simp only [← h1, decide_true, Bool.not_true, Bool.false_eq_true, if_false, ownS, if_true, Nat.lt_irrefl]
    · have g1 : (0 : Int) ≤ ((0 : Nat) : Int) ∧ ((0 : Nat) : Int) < (l.length : Int) := by omega
      simp only [h1, decide_false, Bool.not_false, if_true, g1, and_self, gt_nat, ownS, Nat.lt_irrefl, if_false]
      rfl
theorem refWay_l0 {l : List (List UInt8)} {x : List UInt8} {s : Sp} {w : Nat} (hs : Small l x s) (hw : AtWay l x w) : ∀ (k i : Nat), i ≤ l.length → 2001 + (l.length - i) < k → sluicegateref12_Way.l0 k l x ((min i w : Nat) : Int) (i : Int) = some (w : Int)
  | 0, i, _, h => by omega
  | k + 1, i, hi, hk => by
    have h80 := hs.len
    have hx := hs.x
    obtain ⟨w1, w2, w3⟩ := hw
    rw [sluicegateref12_Way.l0]
    by_cases h : i < l.length
    · have g1 : (0 : Int) ≤ (i : Int) ∧ (i : Int) < (l.length : Int) := by omega
      have k1 : (l.getD i default).length ≤ 300 := hs.get i
      rw [if_pos (decide_eq_true g1.2), if_pos g1, gt_nat, compare_pure (by omega) (by omega) (by omega), Option.bind_some, w64_succ (i := i) (by omega)]
      have ih := refWay_l0 hs ⟨w1, w2, w3⟩ k (i + 1) (by omega) (by omega)
      by_cases q : i < w
      · have e : Op.bytesLess x (l.getD i default) = false := w2 i q
        rw [if_pos (decide_eq_true (scmp_le.2 e)), w64_succ (by omega), show min i w + 1 = min (i + 1) w by omega, ih]
      · have e : Op.bytesLess x (l.getD i default) = true := w3 i (by omega) h
        rw [if_neg (by simp only [decide_eq_true_eq, scmp_le]; rw [e]; simp), show min i w = min (i + 1) w by omega, ih]
    · rw [if_neg (by simp only [decide_eq_true_eq]; omega), show min i w = w by omega]
theorem refWay_pure {l : List (List UInt8)} {x : List UInt8} {s : Sp} {w : Nat} (hs : Small l x s) (hw : AtWay l x w) {k : Nat} (hk : 3000 < k) : sluicegateref12_Way.f k l x = some (w : Int) := by
  have := refWay_l0 hs hw k 0 (by omega) (by have := hs.len; omega)
  simpa [sluicegateref12_Way.f] using this
theorem refSpan_pure {l : List (List UInt8)} {x : List UInt8} {s : Sp} (hs : Small l x s) (i : Nat) (hi : i ≤ l.length) {k : Nat} (hk : 3000 < k) : sluicegateref12_Span.f k l (i : Int) s = some (meetS (ownS l i) s) := by
  have h80 := hs.len
  have hlo := hs.lo
  have hhi := hs.hi
  have hi1 := hs.get i
  have hi0 := hs.get (i - 1)
  have fin : ∀ (c : Sp), c.1.length ≤ 2000 → c.2.1.length ≤ 2000 → cutS (ownS l i) s = c →
      ((sluicegateref01_Empty.f k c).bind fun r => (if r = true then some ((([] : List UInt8), ([] : List UInt8), false), false) else some (c, true))) = some (meetS (ownS l i) s) := fun c e1 e2 e3 => by
    rw [refEmpty_pure e1 e2 (by omega), Option.bind_some, meetS, e3]
    exact (apply_ite some _ _ _).symm
  unfold sluicegateref12_Span.f
  rw [if_neg (by simp only [decide_eq_true_eq]; omega), if_neg (by simp only [decide_eq_true_eq]; omega)]
  have c1 : sluicegateref01_Compare.f k (l.getD (i - 1) default) s.1 = some (scmp (l.getD (i - 1) []) s.1) := compare_pure (a := l.getD (i - 1) []) (by omega) (by omega) (by omega)
  have c2 : sluicegateref01_Compare.f k (l.getD i default) s.2.1 = some (scmp (l.getD i []) s.2.1) := compare_pure (a := l.getD i []) (by omega) (by omega) (by omega)
  have n0 : ([] : List UInt8).length ≤ 2000 := Nat.zero_le _
  -- the upper end, at a lower end that is right
  have up : ∀ (lo : List UInt8), lo.length ≤ 2000 → (cutS (ownS l i) s).1 = lo → ∀ (X : Option (Sp × Bool)), X = (if (decide ((i : Int) < (l.length : Int))) = true then (if s.2.2 = true then (if 0 ≤ (i : Int) ∧ (i : Int) < (l.length : Int) then ((sluicegateref01_Empty.f k (lo, (gt l (i : Int)), false)).bind fun r2 => (if r2 = true then (some ((([] : List UInt8), ([] : List UInt8), false), false)) else (some ((lo, (gt l (i : Int)), false), true)))) else none) else (if 0 ≤ (i : Int) ∧ (i : Int) < (l.length : Int) then ((sluicegateref01_Compare.f k (gt l (i : Int)) s.2.1).bind fun r3 => (if (decide (r3 < 0)) = true then ((sluicegateref01_Empty.f k (lo, (gt l (i : Int)), false)).bind fun r4 => (if r4 = true then (some ((([] : List UInt8), ([] : List UInt8), false), false)) else (some ((lo, (gt l (i : Int)), false), true)))) else ((sluicegateref01_Empty.f k (lo, s.2.1, s.2.2)).bind fun r5 => (if r5 = true then (some ((([] : List UInt8), ([] : List UInt8), false), false)) else (some ((lo, s.2.1, s.2.2), true)))))) else none)) else (if s.2.2 = true then ((sluicegateref01_Empty.f k (lo, ([] : List UInt8), s.2.2)).bind fun r6 => (if r6 = true then (some ((([] : List UInt8), ([] : List UInt8), false), false)) else (some ((lo, ([] : List UInt8), s.2.2), true)))) else ((sluicegateref01_Empty.f k (lo, s.2.1, s.2.2)).bind fun r7 => (if r7 = true then (some ((([] : List UInt8), ([] : List UInt8), false), false)) else (some ((lo, s.2.1, s.2.2), true)))))) → X = some (meetS (ownS l i) s) := fun lo hl he X hX => by
    rw [hX]
    have split3 : cutS (ownS l i) s = ((cutS (ownS l i) s).1, (cutS (ownS l i) s).2.1, (cutS (ownS l i) s).2.2) := rfl
    by_cases h : i < l.length
    · have hn : ¬ i = l.length := by omega
      have g1 : (0 : Int) ≤ (i : Int) ∧ (i : Int) < (l.length : Int) := by omega
      have ot : (ownS l i).2.2 = false := decide_eq_false hn
      have oh : (ownS l i).2.1 = l.getD i [] := if_neg hn
      rw [if_pos (decide_eq_true (by omega)), if_pos g1, if_pos g1, gt_nat, c2, Option.bind_some]
      cases ht : s.2.2 with
      | true =>
        rw [if_pos rfl]
        refine fin (lo, l.getD i [], false) hl (by show (l.getD i []).length ≤ 2000; omega) ?_
        rw [split3, he]
        simp only [cutS, ot, oh, ht, Bool.false_eq_true, if_false, if_true, Bool.false_and]
      | false =>
        rw [if_neg (by simp)]
        cases e : Op.bytesLess (l.getD i []) s.2.1 with
        | true =>
          rw [if_pos (decide_eq_true (scmp_lt.2 e))]
          refine fin (lo, l.getD i [], false) hl (by show (l.getD i []).length ≤ 2000; omega) ?_
          rw [split3, he]
          simp only [cutS, ot, oh, ht, Bool.false_eq_true, if_false, bl_asymm e, Bool.false_and]
        | false =>
          rw [if_neg (by simp only [decide_eq_true_eq, scmp_lt, e]; simp)]
          refine fin (lo, s.2.1, false) hl (by show s.2.1.length ≤ 2000; omega) ?_
          rw [split3, he]
          have : (if Op.bytesLess s.2.1 (l.getD i []) = true then s.2.1 else l.getD i []) = s.2.1 := by
            rcases bl_ge e with q | q
            · rw [q, bl_irr]; rfl
            · rw [q]; rfl
          simp only [cutS, ot, oh, ht, Bool.false_eq_true, if_false, this, Bool.false_and]
    · have hn : i = l.length := by omega
      have ot : (ownS l i).2.2 = true := decide_eq_true hn
      rw [if_neg (by simp only [decide_eq_true_eq]; omega)]
      cases ht : s.2.2 with
      | true =>
        rw [if_pos rfl]
        refine fin (lo, [], true) hl n0 ?_
        rw [split3, he]
        simp only [cutS, ot, ht, if_true, Bool.true_and]
      | false =>
        rw [if_neg (by simp)]
        refine fin (lo, s.2.1, false) hl (by show s.2.1.length ≤ 2000; omega) ?_
        rw [split3, he]
        simp only [cutS, ot, ht, if_true, Bool.true_and, Bool.false_eq_true, if_false]
  by_cases h0 : 0 < i
  · have g2 : (0 : Int) ≤ ((i - 1 : Nat) : Int) ∧ ((i - 1 : Nat) : Int) < (l.length : Int) := by omega
    have ol : (ownS l i).1 = l.getD (i - 1) [] := if_pos h0
    rw [if_pos (decide_eq_true (by omega)), w64_pred h0 (by omega), if_pos g2, gt_nat l (i - 1), c1, Option.bind_some]
    rcases scmp_vals (l.getD (i - 1) []) s.1 with ⟨e1, e2⟩ | ⟨e1, e2⟩ | ⟨e1, e2⟩
    · rw [e1, if_neg (by decide)]
      refine up s.1 (by omega) ?_ _ rfl
      show (if Op.bytesLess (ownS l i).1 s.1 = true then s.1 else (ownS l i).1) = _
      rw [ol, e2]; rfl
    · rw [e1, if_neg (by decide)]
      refine up s.1 (by omega) ?_ _ rfl
      show (if Op.bytesLess (ownS l i).1 s.1 = true then s.1 else (ownS l i).1) = _
      rw [ol, e2, bl_irr]; rfl
    · rw [e1, if_pos (by decide)]
      refine up (l.getD (i - 1) []) (by omega) ?_ _ rfl
      show (if Op.bytesLess (ownS l i).1 s.1 = true then s.1 else (ownS l i).1) = _
      rw [ol, bl_asymm e2]; rfl
  · have ol : (ownS l i).1 = [] := if_neg h0
    rw [if_neg (by simp only [decide_eq_true_eq]; omega)]
    refine up s.1 (by omega) ?_ _ rfl
    show (if Op.bytesLess (ownS l i).1 s.1 = true then s.1 else (ownS l i).1) = _
    rw [ol]
    cases s.1 <;> rfl
theorem in_own {l : List (List UInt8)} {x : List UInt8} {w i : Nat} (hw : AtWay l x w) (hi : i ≤ l.length) (hr : rises l = true) : inS (ownS l i) x = decide (i = w) := by
  obtain ⟨h1, h2, h3⟩ := hw
  have e1 : Op.bytesLess x (if 0 < i then l.getD (i - 1) [] else []) = decide (w < i) := by
    by_cases h0 : 0 < i
    · rw [if_pos h0]
      by_cases q : w < i
      · rw [h3 (i - 1) (by omega) (by omega), decide_eq_true q]
      · rw [h2 (i - 1) (by omega), decide_eq_false q]
    · rw [if_neg h0, bl_nil_right, decide_eq_false (by omega)]
  have e2 : (decide (i = l.length) || Op.bytesLess x (if i = l.length then [] else l.getD i [])) = decide (w ≤ i) := by
    by_cases h0 : i = l.length
    · rw [decide_eq_true h0, Bool.true_or, decide_eq_true (by omega)]
    · rw [if_neg h0, decide_eq_false h0, Bool.false_or]
      by_cases q : w ≤ i
      · rw [h3 i q (by omega), decide_eq_true q]
      · rw [h2 i (by omega), decide_eq_false q]
  simp only [inS, ownS, e1, e2]
  by_cases a : w < i
  · simp [a]; omega
  · by_cases b : w ≤ i
    · simp [show i = w by omega]
    · simp [b]; omega
theorem own_full {l : List (List UInt8)} {s : Sp} {i : Nat} (hi : i ≤ l.length) (hr : rises l = true) (hp : l.all (piv s) = true) (hs : emS s = false) : emS (cutS (ownS l i) s) = false := by
  have pv : ∀ j, j < l.length → inS s (l.getD j []) = true ∧ l.getD j [] ≠ s.1 := fun j hj => by
    have := List.all_eq_true.1 hp _ (getD_mem (d := []) hj)
    simp only [piv, Bool.and_eq_true, Bool.not_eq_true', decide_eq_false_iff_not] at this
    exact this
  have lo : ∀ j, j < l.length → Op.bytesLess s.1 (l.getD j []) = true := fun j hj => by
    have := (pv j hj).1
    simp only [inS, Bool.and_eq_true, Bool.not_eq_true'] at this
    rcases bl_ge this.1 with e | e
    · exact absurd e (pv j hj).2
    · exact e
  have hi' : ∀ j, j < l.length → s.2.2 = false → Op.bytesLess (l.getD j []) s.2.1 = true := fun j hj ht => by
    have := (pv j hj).1
    simp only [inS, ht, Bool.and_eq_true, Bool.false_or] at this
    exact this.2
  have elo : (cutS (ownS l i) s).1 = if 0 < i then l.getD (i - 1) [] else s.1 := by
    show (if Op.bytesLess (ownS l i).1 s.1 = true then s.1 else (ownS l i).1) = _
    by_cases h0 : 0 < i
    · have e : (ownS l i).1 = l.getD (i - 1) [] := if_pos h0
      rw [if_pos h0, e, bl_asymm (lo (i - 1) (by omega))]
      rfl
    · have e : (ownS l i).1 = [] := if_neg h0
      rw [if_neg h0, e]
      cases hsl : s.1 with
      | nil => rfl
      | cons a b => rfl
  have ehi : i < l.length → (cutS (ownS l i) s).2 = (l.getD i [], false) := fun h => by
    have hn : ¬ i = l.length := by omega
    simp only [cutS, ownS, hn, decide_false, Bool.false_eq_true, if_false, Bool.false_and]
    cases ht : s.2.2 with
    | true => rfl
    | false =>
      rw [bl_asymm (hi' i h ht)]
      rfl
  have ehi' : i = l.length → (cutS (ownS l i) s).2.2 = s.2.2 ∧ (s.2.2 = false → (cutS (ownS l i) s).2.1 = s.2.1) := fun h => by
    simp only [cutS, ownS, h, decide_true, if_true, Bool.true_and]
    refine ⟨trivial, fun ht => ?_⟩
    rw [ht]
    rfl
  by_cases h : i < l.length
  · have e := ehi h
    simp only [emS, e, elo, Bool.not_false, Bool.true_and]
    by_cases h0 : 0 < i
    · rw [if_pos h0, rises_get hr (i := i - 1) (j := i) (by omega) h]
      rfl
    · rw [if_neg h0, lo i h]
      rfl
  · obtain ⟨e1, e2⟩ := ehi' (by omega)
    simp only [emS, e1, elo]
    cases ht : s.2.2 with
    | true => rfl
    | false =>
      rw [e2 ht]
      by_cases h0 : 0 < i
      · rw [if_pos h0, hi' (i - 1) (by omega) ht]
        rfl
      · rw [if_neg h0]
        simp only [emS, ht] at hs
        simpa using hs
/-- which part of a rising row is in a span -/
def AtPart (l : List Msg) (s : Sp) (f t : Nat) : Prop := f ≤ t ∧ t ≤ l.length ∧ ∀ j, j < l.length → inS s (l.getD j default).1 = decide (f ≤ j ∧ j < t)
theorem low_part {l : List Msg} {s : Sp} {f t : Nat} (hs : emS s = false) (h1 : AtLow l s.1 f) (h2 : if s.2.2 = true then t = l.length else AtLow l s.2.1 t) : AtPart l s f t := by
  obtain ⟨f1, f2, f3⟩ := h1
  cases ht : s.2.2 with
  | true =>
    rw [ht, if_pos rfl] at h2
    subst h2
    refine ⟨f1, Nat.le_refl _, fun j hj => ?_⟩
    by_cases q : j < f
    · rw [decide_eq_false (by omega)]; simp only [inS, f2 j q, Bool.not_true, Bool.false_and]
    · rw [decide_eq_true (by omega)]; simp only [inS, ht, f3 j (by omega) hj, Bool.not_false, Bool.true_and, Bool.true_or]
  | false =>
    rw [ht, if_neg (by simp)] at h2
    obtain ⟨t1, t2, t3⟩ := h2
    have hlt : Op.bytesLess s.1 s.2.1 = true := by simpa [emS, ht] using hs
    refine ⟨?_, t1, fun j hj => ?_⟩
    · rcases Nat.lt_or_ge t f with h | h
      · have a := f2 t h
        have b := t3 t (Nat.le_refl _) (by omega)
        rw [bl_trans a hlt] at b
        cases b
      · exact h
    · by_cases q : j < f
      · rw [decide_eq_false (by omega)]; simp only [inS, f2 j q, Bool.not_true, Bool.false_and]
      · by_cases q2 : j < t
        · rw [decide_eq_true (by omega)]; simp only [inS, ht, f3 j (by omega) hj, t2 j q2, Bool.not_false, Bool.true_and, Bool.false_or]
        · rw [decide_eq_false (by omega)]; simp only [inS, ht, f3 j (by omega) hj, t3 j (by omega) hj, Bool.not_false, Bool.true_and, Bool.false_or]
theorem part_pure {l : List Msg} {s : Sp} (hl : l.length ≤ 150) (hr : riseM l = true) {k : Nat} (hk : 200 < k) : ∃ f t : Nat, buf_part.f k l s = some ((f : Int), (t : Int)) ∧ AtPart l s f t := by
  have eta : (s.1, s.2.1, s.2.2) = s := rfl
  unfold buf_part.f
  rw [eta, lexEmpty_pure, Option.bind_some]
  cases he : emS s with
  | true => exact ⟨0, 0, rfl, Nat.le_refl _, Nat.zero_le _, fun j hj => by rw [in_empty he]; simp⟩
  | false =>
    obtain ⟨f, e1, e2⟩ := search_pure s.1 hl hr hk
    rw [if_neg (by simp), e1, Option.bind_some]
    cases ht : s.2.2 with
    | true => exact ⟨f, l.length, rfl, low_part he e2 (by rw [ht, if_pos rfl])⟩
    | false =>
      obtain ⟨t, e3, e4⟩ := search_pure s.2.1 hl hr hk
      rw [if_pos (show (!false) = true from rfl), e3]
      exact ⟨f, t, rfl, low_part he e2 (by rw [ht, if_neg (by simp)]; exact e4)⟩
/-- how far it is taken -/
def upto (f t : Nat) (most : Int) : Nat := f + min (t - f) most.toNat
theorem take_one {l : List Msg} {i : Nat} (h : i < l.length) : l.take (i + 1) = l.take i ++ [l.getD i default] := by
  rw [List.take_add_one, List.getElem?_eq_getElem h, List.getD_eq_getElem?_getD, List.getElem?_eq_getElem h]
  rfl
theorem take_drop_one {l : List Msg} {u n : Nat} (h : u + n < l.length) : (l.drop u).take (n + 1) = (l.drop u).take n ++ [l.getD (u + n) default] := by
  rw [List.take_add_one, List.getElem?_drop, List.getElem?_eq_getElem h, List.getD_eq_getElem?_getD, List.getElem?_eq_getElem h]
  rfl
theorem grow_pure {n : Nat} (h : n ≤ 3000000) : slices_Grow_api_Msg_api_Msg_nil.f (n : Int) = some [] := by
  unfold slices_Grow_api_Msg_api_Msg_nil.f
  have w0 : w64 ((0 : Int) - (([] : List Msg).length : Int)) = 0 := rfl
  have w1 : w64 ((n : Int) - 0) = (n : Int) := by rw [w64_id (by omega) (by omega)]; omega
  rw [w0, w1, if_neg (by simp only [decide_eq_true_eq]; omega)]
  by_cases h0 : 0 < n
  · rw [if_pos (decide_eq_true (by omega)), if_pos (by decide), if_pos (by simp; omega), if_pos (by simp)]
    rfl
  · rw [if_neg (by simp only [decide_eq_true_eq]; omega)]
theorem concat_pure {k : Nat} {x y : List Msg} (hx : x.length ≤ 1000000) (hy : y.length ≤ 1000000) : slices_Concat_api_Msg_api_Msg.f (k + 10) [x, y] = some (x ++ y) := by
  have g0 : gt [x, y] 0 = x := rfl
  have g1 : gt [x, y] 1 = y := rfl
  have w1 : w64 (0 + (x.length : Int)) = (x.length : Int) := by rw [w64_id (by omega) (by omega)]; omega
  have w2 : w64 ((x.length : Int) + (y.length : Int)) = ((x.length + y.length : Nat) : Int) := by rw [w64_id (by omega) (by omega)]; omega
  have w3 : w64 (0 + 1) = 1 := rfl
  have w4 : w64 (1 + 1) = 2 := rfl
  have l2 : (([x, y] : List (List Msg)).length : Int) = 2 := rfl
  unfold slices_Concat_api_Msg_api_Msg.f
  rw [slices_Concat_api_Msg_api_Msg.l0, l2, if_pos (by decide), if_pos (by decide), g0, w1, if_neg (by simp only [decide_eq_true_eq]; omega), w3]
  rw [slices_Concat_api_Msg_api_Msg.l0, l2, if_pos (by decide), if_pos (by decide), g1, w2, if_neg (by simp only [decide_eq_true_eq]; omega), w4]
  rw [slices_Concat_api_Msg_api_Msg.l0, l2, if_neg (by decide), grow_pure (by omega), Option.bind_some]
  rw [slices_Concat_api_Msg_api_Msg.l1, l2, if_pos (by decide), if_pos (by decide), g0, if_pos (by simp; omega), w3, List.nil_append]
  rw [slices_Concat_api_Msg_api_Msg.l1, l2, if_pos (by decide), if_pos (by decide), g1, if_pos (by omega), w4]
  rw [slices_Concat_api_Msg_api_Msg.l1, l2, if_neg (by decide)]
theorem take_pure {l : List Msg} {s : Sp} {f t k : Nat} {most : Int} (hm : (Lit.int .i64 most).wf = true) (hl : okL l) (hp : AtPart l s f t) (h : buf_part.f (k + 10) l s = some ((f : Int), (t : Int))) :
    buf_Take.f (k + 10) l s most = some ((l.drop f).take (upto f t most - f), l.take f ++ l.drop (upto f t most)) := by
  obtain ⟨p1, p2, _⟩ := hp
  have h150 := hl.1
  have eta : (s.1, s.2.1, s.2.2) = s := rfl
  have hb : -9223372036854775808 ≤ most ∧ most ≤ 9223372036854775807 := by
    simp [Lit.wf, IntKind.min, IntKind.max, IntKind.signed, IntKind.bits] at hm
    omega
  unfold buf_Take.f
  rw [eta, h, Option.bind_some]
  have wd : w64 ((t : Int) - (f : Int)) = (t : Int) - (f : Int) := w64_id (by omega) (by omega)
  have wu : w64 ((f : Int) + (if (if most < (t : Int) - (f : Int) then most else (t : Int) - (f : Int)) > 0 then (if most < (t : Int) - (f : Int) then most else (t : Int) - (f : Int)) else 0)) = ((upto f t most : Nat) : Int) := by
    have e : (f : Int) + (if (if most < (t : Int) - (f : Int) then most else (t : Int) - (f : Int)) > 0 then (if most < (t : Int) - (f : Int) then most else (t : Int) - (f : Int)) else 0) = ((upto f t most : Nat) : Int) := by
      unfold upto
      split <;> split <;> omega
    rw [e, w64_id (by unfold upto; omega) (by unfold upto; omega)]
  have hu : f ≤ upto f t most ∧ upto f t most ≤ t := by unfold upto; omega
  simp only [wd, wu, Int.toNat_natCast]
  rw [if_pos (by omega), if_pos (by omega), if_pos (by omega), clone_pure (by rw [List.length_take, List.length_drop]; omega), Option.bind_some, concat_pure (by rw [List.length_take]; omega) (by rw [List.length_drop]; omega)]
  rfl
abbrev allS : Sp := ([], [], true)
theorem in_all (x : List UInt8) : inS allS x = true := by simp [inS, bl_nil_right]
theorem cut_own_all (l : List (List UInt8)) (i : Nat) : cutS (ownS l i) allS = ownS l i := by
  unfold cutS ownS
  simp only [bl_nil_right, Bool.false_eq_true, if_false, if_true, Bool.and_true]
  by_cases h : i = l.length
  · simp [h]
  · simp [h]
theorem own_all {l : List (List UInt8)} {i : Nat} (hi : i ≤ l.length) (hr : rises l = true) (hp : l.all (piv allS) = true) : meetS (ownS l i) allS = (ownS l i, true) := by
  have h := own_full (s := allS) hi hr hp (by rfl)
  unfold meetS
  rw [h, cut_own_all]
  rfl
theorem atWay_exists (x : List UInt8) : ∀ {l : List (List UInt8)}, RiseK (fun p => p) l → ∃ w, AtWay l x w
  | [], _ => ⟨0, Nat.le_refl _, fun j hj => by omega, fun j _ hj => by simp at hj⟩
  | a :: r, h => by
    obtain ⟨h1, h2⟩ := List.pairwise_cons.1 h
    cases q : Op.bytesLess x a with
    | true =>
      refine ⟨0, Nat.zero_le _, fun j hj => by omega, fun j _ hj => ?_⟩
      cases j with
      | zero => exact q
      | succ j =>
        have hj' : j < r.length := by simpa using hj
        have : (a :: r).getD (j + 1) [] = r.getD j [] := rfl
        rw [this]
        exact bl_trans q (h1 _ (getD_mem hj'))
    | false =>
      obtain ⟨w, w1, w2, w3⟩ := atWay_exists x h2
      refine ⟨w + 1, by simp; exact w1, fun j hj => ?_, fun j hj hl => ?_⟩
      · cases j with
        | zero => exact q
        | succ j => exact w2 j (by omega)
      · cases j with
        | zero => omega
        | succ j => exact w3 j (by omega) (by simpa using hl)
/-- is a kid right? -/
def kidOk (c : Cfg) (l : List (List UInt8)) (i : Nat) (kd : Nd) : Bool := if kd.1 = 0 then outB c (ownS l i) kd else decide (0 < kd.1) && innB c (ownS l i) kd
structure RightP (c : Cfg) (p : Nd) (t : Int) (kd : Nd) : Prop where
  par : RightN c allS p
  lev : 1 ≤ p.1
  sk : SmallN kd
  kid : ∀ i : Nat, t = (i : Int) → i ≤ p.2.2.1.length → kidOk c p.2.2.1 i kd = true
theorem RightN.parts {c : Cfg} {s : Sp} {n : Nd} (h : RightN c s n) (e : n.1 ≠ 0) : n.2.2.1.length + 1 = n.2.1.length ∧ n.2.2.1.all (piv s) = true ∧ rises n.2.2.1 = true ∧ n.2.2.2.1.all (msgB c s) = true ∧ riseM n.2.2.2.1 = true := by
  have := (h.node e).2
  simp only [innB, restB, tailB, Bool.and_eq_true, decide_eq_true_eq] at this
  obtain ⟨_, _, bm, _, _, _, _, t5, ⟨t6, t7⟩, t8, t9⟩ := this
  exact ⟨t5, t6, t7, bm, t9⟩
theorem small_piv {n : Nd} (h : SmallN n) : Small n.2.2.1 [] allS := ⟨h.pivs, fun p hp => by have := h.pk p hp; omega, by simp, by simp, by simp⟩
theorem right15_pure (c : Cfg) (p : Nd) (t : Int) (kd : Nd) {k : Nat} (hk : 30000 < k) : ∃ g, sluicegatelaw15_right.f k c p t kd = some g ∧ (g = true → RightP c p t kd) := by
  obtain ⟨g1, e1, d1⟩ := greatN_pure p (k := k) (by omega)
  obtain ⟨g2, e2, d2⟩ := greatN_pure kd (k := k) (by omega)
  obtain ⟨g3, e3, d3⟩ := right9_pure c (k := k) (by omega)
  unfold sluicegatelaw15_right.f
  rw [show sluicegatelaw13_Great.f k (p.1, _) = _ from e1, Option.bind_some]
  cases g1 with
  | true => exact ⟨false, rfl, fun h => by cases h⟩
  | false =>
    rw [if_neg (by simp), show sluicegatelaw13_Great.f k (kd.1, _) = _ from e2, Option.bind_some]
    cases g2 with
    | true => exact ⟨false, rfl, fun h => by cases h⟩
    | false =>
      rw [if_neg (by simp), show sluicegateref09_Right.f k _ = _ from e3, Option.bind_some]
      cases g3 with
      | false => exact ⟨false, rfl, fun h => by cases h⟩
      | true =>
        have hp := d1 rfl
        have hkd := d2 rfl
        have hc := d3 rfl
        rw [if_neg (by simp)]
        by_cases hl : p.1 < 1
        · exact ⟨false, by rw [if_pos (decide_eq_true hl)], fun h => by cases h⟩
        · rw [if_neg (by simpa using hl), show sluicegateref13_Right.f k _ _ (p.1, _) = _ from right13_pure (c := c) (s := allS) hp.mid (by simp) (by simp) (by omega), Option.bind_some]
          have e0 : ¬ p.1 = 0 := by omega
          rw [if_neg e0]
          cases hr : decide (0 < p.1) && innB c allS p with
          | false => exact ⟨false, rfl, fun h => by cases h⟩
          | true =>
            have hr' := hr
            rw [Bool.and_eq_true] at hr'
            have hP : RightN c allS p := ⟨hp, hc, by simp, by simp, fun h => absurd h e0, fun _ => ⟨of_decide_eq_true hr'.1, hr'.2⟩⟩
            rw [if_neg (by simp)]
            by_cases ht : 0 ≤ t ∧ t ≤ (p.2.2.1.length : Int)
            · obtain ⟨i, rfl⟩ := Int.eq_ofNat_of_zero_le ht.1
              obtain ⟨q1, q2, q3, q4, q5⟩ := hP.parts e0
              have hil : i ≤ p.2.2.1.length := by omega
              have hol : (ownS p.2.2.1 i).1.length ≤ 300 := by
                unfold ownS
                split
                · exact (small_piv hp).get _
                · simp
              have hoh : (ownS p.2.2.1 i).2.1.length ≤ 300 := by
                unfold ownS
                dsimp only
                split
                · simp
                · exact (small_piv hp).get _
              have q6 : sluicegateref13_Right.f k (c.1, c.2.1, c.2.2.1, c.2.2.2.1, c.2.2.2.2.1, c.2.2.2.2.2.1, c.2.2.2.2.2.2.1, c.2.2.2.2.2.2.2) ((ownS p.2.2.1 i, true).1.1, (ownS p.2.2.1 i, true).1.2.1, (ownS p.2.2.1 i, true).1.2.2) (kd.1, kd.2.1, kd.2.2.1, kd.2.2.2.1, kd.2.2.2.2) = some (kidOk c p.2.2.1 i kd) :=
                right13_pure (c := c) (s := ownS p.2.2.1 i) hkd.mid hol hoh (by omega)
              rw [refSpan_pure (small_piv hp) i hil (by omega), own_all hil q3 q2, Option.bind_some, if_neg (by simp), q6, Option.bind_some]
              refine ⟨_, rfl, fun h => ⟨hP, by omega, hkd, fun j hj _ => ?_⟩⟩
              obtain rfl : i = j := by omega
              exact h
            · have : sluicegateref12_Span.f k p.2.2.1 t ([], [], true) = some (([], [], false), false) := by
                unfold sluicegateref12_Span.f
                by_cases h0 : t < 0
                · rw [if_pos (decide_eq_true h0)]
                · rw [if_neg (by simpa using h0), if_pos (decide_eq_true (by omega))]
              rw [this, Option.bind_some]
              exact ⟨true, rfl, fun _ => ⟨hP, by omega, hkd, fun i hi hl => absurd ⟨by omega, by omega⟩ ht⟩⟩
/-- the kid behind some messages -/
def given (kd : Nd) (T : List Msg) : Nd := (kd.1, kd.2.1, kd.2.2.1, if kd.1 = 0 then kd.2.2.2.1 else T.foldl (fun l m => putK mk m l) kd.2.2.2.1, if kd.1 = 0 then T.foldl app1 kd.2.2.2.2 else kd.2.2.2.2)
def left (p : Nd) (f u : Nat) : Nd := (p.1, p.2.1, p.2.2.1, p.2.2.2.1.take f ++ p.2.2.2.1.drop u, p.2.2.2.2)
theorem okN_fold : ∀ (T : List Msg) (l : List Msg) (N : Nat), okN N l → (∀ m ∈ T, m.1.length ≤ 300) → okN (N + T.length) (T.foldl (fun l m => putK mk m l) l)
  | [], l, N, h, _ => h
  | m :: T, l, N, h, hT => by
    have := okN_fold T (putK mk m l) (N + 1) (okN_put h (hT m (by simp))) fun x hx => hT x (by simp [hx])
    rw [List.foldl_cons, List.length_cons, show N + (T.length + 1) = N + 1 + T.length by omega]
    exact this
theorem refPour_l0 {c : Cfg} {p kd : Nd} {i f t u : Nat} {most : Int} (hc : OkC c) (hp : SmallN p) (hkd : SmallN kd) (hw : ∀ j, j < p.2.2.2.1.length → ∃ w, AtWay p.2.2.1 (p.2.2.2.1.getD j default).1 w ∧ (w = i ↔ f ≤ j ∧ j < t))
    (hu : f ≤ u ∧ u ≤ t ∧ t ≤ p.2.2.2.1.length) (hstop : u < t → most ≤ ((u - f : Nat) : Int) ∨ (0 < kd.1 ∧ c.2.2.2.2.1 - (kd.2.2.2.1.length : Int) ≤ ((u - f : Nat) : Int)))
    (hgo : ∀ j, f ≤ j → j < u → ((j - f : Nat) : Int) < most ∧ (0 < kd.1 → ((j - f : Nat) : Int) < c.2.2.2.2.1 - (kd.2.2.2.1.length : Int))) (hlev : kd.1 = 0 ∨ 0 < kd.1)
    (hb : 0 < kd.1 → RiseK mk kd.2.2.2.1) (hq : kd.1 = 0 → RiseK pk kd.2.2.2.2) : ∀ (k j : Nat), j ≤ p.2.2.2.1.length → 12000 + (p.2.2.2.1.length - j) < k →
    sluicegateref15_Pour.l0 k c p (i : Int) kd most (given kd ((p.2.2.2.1.drop f).take (min j u - f))).2.2.2.1 (given kd ((p.2.2.2.1.drop f).take (min j u - f))).2.2.2.2 ((min j u - f : Nat) : Int) (p.2.2.2.1.take (min j f) ++ (p.2.2.2.1.drop u).take (j - u)) (j : Int)
      = some (left p f u, given kd ((p.2.2.2.1.drop f).take (u - f)), ((u - f : Nat) : Int))
  | 0, j, _, h => by omega
  | k + 1, j, hj, hk => by
    have h150 := hp.buf
    have kb150 := hkd.buf
    have kp150 := hkd.prs
    have cb := hc.buf
    have ih := refPour_l0 hc hp hkd hw hu hstop hgo hlev hb hq k (j + 1)
    rw [sluicegateref15_Pour.l0]
    by_cases h : j < p.2.2.2.1.length
    · have ih := ih (by omega) (by omega)
      obtain ⟨w, w1, w2⟩ := hw j h
      have etm : ((p.2.2.2.1.getD j default).1, (p.2.2.2.1.getD j default).2.1, (p.2.2.2.1.getD j default).2.2) = p.2.2.2.1.getD j default := rfl
      have kl := hp.bk _ (getD_mem (d := default) h)
      have wr : w64 (c.2.2.2.2.1 - (kd.2.2.2.1.length : Int)) = c.2.2.2.2.1 - (kd.2.2.2.1.length : Int) := w64_id (by omega) (by omega)
      have wj : w64 ((j : Int) + 1) = ((j + 1 : Nat) : Int) := w64_succ (by omega)
      have wn : w64 (((min j u - f : Nat) : Int) + 1) = ((min j u - f + 1 : Nat) : Int) := w64_succ (by omega)
      have hsm : Small p.2.2.1 (p.2.2.2.1.getD j default).1 allS := ⟨hp.pivs, fun q hq => by have := hp.pk q hq; omega, by omega, by simp, by simp⟩
      have len1 : ([p.2.2.2.1.getD j default] : List Msg).length = 1 := rfl
      have lr : (p.2.2.2.1.take (min j f) ++ (p.2.2.2.1.drop u).take (j - u)).length = min j f + (j - u) := by rw [List.length_append, List.length_take, List.length_take, List.length_drop]; omega
      rw [if_pos (decide_eq_true (by omega)), if_pos (by omega), gt_nat, refWay_pure hsm w1 (by omega), Option.bind_some, etm, wr, wj, wn, len1, lr]
      -- it is left
      have stay : ¬ (f ≤ j ∧ j < u) → (if (min j f + (j - u) + 1) * 40 ≤ 140737488355328 then (sluicegateref15_Pour.l0 k c p (i : Int) kd most (given kd ((p.2.2.2.1.drop f).take (min j u - f))).2.2.2.1 (given kd ((p.2.2.2.1.drop f).take (min j u - f))).2.2.2.2 ((min j u - f : Nat) : Int) (p.2.2.2.1.take (min j f) ++ (p.2.2.2.1.drop u).take (j - u) ++ [p.2.2.2.1.getD j default]) ((j + 1 : Nat) : Int)) else none) = some (left p f u, given kd ((p.2.2.2.1.drop f).take (u - f)), ((u - f : Nat) : Int)) := fun hn => by
        have eR : p.2.2.2.1.take (min (j + 1) f) ++ (p.2.2.2.1.drop u).take (j + 1 - u) = (p.2.2.2.1.take (min j f) ++ (p.2.2.2.1.drop u).take (j - u)) ++ [p.2.2.2.1.getD j default] := by
          by_cases q : j < f
          · rw [show min (j + 1) f = j + 1 by omega, show min j f = j by omega, show j + 1 - u = 0 by omega, show j - u = 0 by omega, take_get h]
            simp
          · rw [show min (j + 1) f = min j f by omega, show j + 1 - u = (j - u) + 1 by omega, drop_take_get (by omega), show u + (j - u) = j by omega, List.append_assoc]
        rw [if_pos (by omega), ← eR, show min j u - f = min (j + 1) u - f by omega]
        exact ih
      -- it goes
      have go : f ≤ j → j < u → ((p.2.2.2.1.drop f).take (min (j + 1) u - f)) = ((p.2.2.2.1.drop f).take (min j u - f)) ++ [p.2.2.2.1.getD j default] := fun h1 h2 => by
        rw [show min (j + 1) u - f = (j - f) + 1 by omega, show min j u - f = j - f by omega, drop_take_get (by omega), show f + (j - f) = j by omega]
      have lT : ((p.2.2.2.1.drop f).take (min j u - f)).length ≤ 150 := by rw [List.length_take, List.length_drop]; omega
      have kT : ∀ x ∈ (p.2.2.2.1.drop f).take (min j u - f), x.1.length ≤ 300 := fun x hx => by have := hp.bk x (List.mem_of_mem_drop (List.mem_of_mem_take hx)); omega
      by_cases q : w = i
      · have hft := w2.1 q
        rw [if_neg (by simp [q])]
        by_cases q2 : j < u
        · obtain ⟨g1, g2⟩ := hgo j hft.1 q2
          rw [if_neg (by simp only [decide_eq_true_eq]; omega)]
          rw [go hft.1 q2, show min (j + 1) u - f = (min j u - f) + 1 by omega, show min (j + 1) f = min j f by omega, show j + 1 - u = j - u by omega] at ih
          rcases hlev with e0 | e0
          · have e0' : ¬ 0 < kd.1 := by omega
            have hF := fold_length ((p.2.2.2.1.drop f).take (min j u - f)) kd.2.2.2.2
            have ap := refApply_pure (l := ((p.2.2.2.1.drop f).take (min j u - f)).foldl app1 kd.2.2.2.2) (m := [p.2.2.2.1.getD j default]) (by omega) (by simp) (fun x hx => by rw [List.mem_singleton.1 hx]; omega) (fold_keys _ _ (fun q hq => by have := hkd.rk q hq; omega) kT) (fold_rise _ _ (hq e0)) (k := k) (by omega)
            rw [if_neg (by simpa using e0'), if_pos (decide_eq_true e0)]
            simp only [given, e0, if_true] at ih ⊢
            rw [ap, Option.bind_some]
            rw [List.foldl_append] at ih
            exact ih
          · have e0' : ¬ kd.1 = 0 := by omega
            have okb : okN 300 (((p.2.2.2.1.drop f).take (min j u - f)).foldl (fun l m => putK mk m l) kd.2.2.2.1) := by
              have := okN_fold ((p.2.2.2.1.drop f).take (min j u - f)) kd.2.2.2.1 150 ⟨kb150, fun x hx => by have := hkd.bk x hx; omega⟩ kT
              exact ⟨by have := this.1; omega, this.2⟩
            have pp := refPut_pure (m := p.2.2.2.1.getD j default) (l := ((p.2.2.2.1.drop f).take (min j u - f)).foldl (fun l m => putK mk m l) kd.2.2.2.1) ⟨by have := okb.1; omega, okb.2⟩ (by omega) (foldl_put mk _ _ (hb e0)) (k := k) (by omega)
            have g3 := g2 e0
            rw [if_pos (decide_eq_true e0), if_neg (by simp only [decide_eq_true_eq]; omega), if_neg (by simpa using e0')]
            simp only [given, e0', if_false] at ih ⊢
            rw [pp, Option.bind_some]
            rw [List.foldl_append] at ih
            exact ih
        · have hs := hstop (by omega)
          have em : min j u - f = u - f := by omega
          have st := stay (fun e => q2 e.2)
          by_cases m1 : most ≤ ((min j u - f : Nat) : Int)
          · rw [if_pos (decide_eq_true m1)]
            exact st
          · obtain ⟨e0, e1⟩ := hs.resolve_left (by rw [em] at m1; exact m1)
            rw [if_neg (by simpa using m1), if_pos (decide_eq_true e0), if_pos (decide_eq_true (by rw [em]; exact e1))]
            exact st
      · rw [if_pos (by simp only [Bool.not_eq_true', decide_eq_false_iff_not]; omega)]
        exact stay fun e => q (w2.2 ⟨e.1, by omega⟩)
    · rw [if_neg (by simp only [decide_eq_true_eq]; omega), show min j u - f = u - f by omega, show min j f = f by omega, List.take_of_length_le (l := p.2.2.2.1.drop u) (by rw [List.length_drop]; omega)]
      rfl
/-- what pouring comes to -/
def Poured (c : Cfg) (p : Nd) (t : Int) (kd : Nd) (most : Int) (r : Nd × Nd × Int) : Prop :=
  r = (p, kd, 0) ∨ ∃ i f u : Nat, t = (i : Int) ∧ i ≤ p.2.2.1.length ∧ f ≤ u ∧ u ≤ p.2.2.2.1.length ∧ (∀ j, f ≤ j → j < u → inS (ownS p.2.2.1 i) (p.2.2.2.1.getD j default).1 = true) ∧ 1 ≤ most ∧ ((u - f : Nat) : Int) ≤ most ∧
    (0 < kd.1 → ((u - f : Nat) : Int) + (kd.2.2.2.1.length : Int) ≤ c.2.2.2.2.1) ∧ r = (left p f u, given kd ((p.2.2.2.1.drop f).take (u - f)), ((u - f : Nat) : Int))
theorem pour_pure {c : Cfg} {p : Nd} {t : Int} {kd : Nd} {most : Int} (hm : (Lit.int .i64 most).wf = true) (h : RightP c p t kd) (k : Nat) : ∃ r, pour_Pour.f (k + 20000) c p t kd most = some r ∧ sluicegateref15_Pour.f (k + 20000) c p t kd most = some r ∧ Poured c p t kd most r := by
  have hb : -9223372036854775808 ≤ most ∧ most ≤ 9223372036854775807 := by
    simp [Lit.wf, IntKind.min, IntKind.max, IntKind.signed, IntKind.bits] at hm
    omega
  have hp := h.par.small
  have hc := h.par.cfg
  have cb := hc.buf
  have kb150 := h.sk.buf
  have e0 : p.1 ≠ 0 := by have := h.lev; omega
  obtain ⟨q1, q2, q3, q4, q5⟩ := h.par.parts e0
  have sp : node_Clone.f (p.1, p.2.1, p.2.2.1, p.2.2.2.1, p.2.2.2.2) = some p := nodeClone_pure hp.short
  have sk : node_Clone.f (kd.1, kd.2.1, kd.2.2.1, kd.2.2.2.1, kd.2.2.2.2) = some kd := nodeClone_pure h.sk.short
  unfold pour_Pour.f sluicegateref15_Pour.f
  rw [sp, Option.bind_some, sk, Option.bind_some]
  by_cases h1 : t < 0
  · rw [if_pos (decide_eq_true h1), if_pos (decide_eq_true h1)]
    exact ⟨_, rfl, rfl, .inl rfl⟩
  · have h1' : ¬ decide (t < 0) = true := by simpa using h1
    rw [if_neg h1', if_neg h1']
    by_cases h2 : (p.2.1.length : Int) ≤ t
    · rw [if_pos (decide_eq_true h2), if_pos (decide_eq_true h2)]
      exact ⟨_, rfl, rfl, .inl rfl⟩
    · have h2' : ¬ decide ((p.2.1.length : Int) ≤ t) = true := by simpa using h2
      rw [if_neg h2', if_neg h2']
      by_cases h3 : p.1 = w64 (kd.1 + 1)
      · have h3' : ¬ (!decide (p.1 = w64 (kd.1 + 1))) = true := by simp [← h3]
        rw [if_neg h3', if_neg h3']
        obtain ⟨i, rfl⟩ := Int.eq_ofNat_of_zero_le (show 0 ≤ t by omega)
        have hil : i ≤ p.2.2.1.length := by omega
        have hkid := h.kid i rfl hil
        have hlev : kd.1 = 0 ∨ 0 < kd.1 := by
          unfold kidOk at hkid
          by_cases z : kd.1 = 0
          · exact .inl z
          · rw [if_neg z, Bool.and_eq_true] at hkid
            exact .inr (of_decide_eq_true hkid.1)
        have hkb : 0 < kd.1 → RiseK mk kd.2.2.2.1 ∧ (kd.2.2.2.1.length : Int) ≤ c.2.2.2.2.1 := fun z => by
          unfold kidOk at hkid
          rw [if_neg (by omega), Bool.and_eq_true] at hkid
          have := hkid.2
          simp only [innB, restB, tailB, Bool.and_eq_true, decide_eq_true_eq] at this
          refine ⟨(riseK_iff mk _).1 ?_, this.2.2.2.2.2.2.2.2.2.1⟩
          rw [← riseM_K]
          exact this.2.2.2.2.2.2.2.2.2.2
        have hkq : kd.1 = 0 → RiseK pk kd.2.2.2.2 := fun z => by
          unfold kidOk at hkid
          rw [if_pos z] at hkid
          simp only [outB, Bool.and_eq_true, decide_eq_true_eq] at hkid
          refine (riseK_iff pk _).1 ?_
          rw [← riseP_K]
          exact hkid.2.2.2.2.2
        have okl : okL p.2.2.2.1 := ⟨hp.buf, fun m hm => by have := hp.bk m hm; omega⟩
        have h150 := hp.buf
        obtain ⟨f, tt', pe, pp⟩ := part_pure (s := ownS p.2.2.1 i) hp.buf q5 (k := k + 19990 + 10) (by omega)
        have rK : RiseK (fun x => x) p.2.2.1 := (riseK_iff _ _).1 (by rw [← rises_K]; exact q3)
        have hw : ∀ j, j < p.2.2.2.1.length → ∃ w, AtWay p.2.2.1 (p.2.2.2.1.getD j default).1 w ∧ (w = i ↔ f ≤ j ∧ j < tt') := fun j hj => by
          obtain ⟨w, hw⟩ := atWay_exists (p.2.2.2.1.getD j default).1 rK
          have a := in_own hw hil q3
          rw [pp.2.2 j hj] at a
          exact ⟨w, hw, by rw [decide_eq_decide] at a; omega⟩
        have pin : ∀ j, f ≤ j → j < tt' → inS (ownS p.2.2.1 i) (p.2.2.2.1.getD j default).1 = true := fun j hj1 hj2 => by
          rw [pp.2.2 j (by have := pp.2.1; omega)]
          exact decide_eq_true ⟨hj1, hj2⟩
        have pp1 := pp.1
        have pp2 := pp.2.1
        have ref : ∀ u, f ≤ u → u ≤ tt' → (u < tt' → most ≤ ((u - f : Nat) : Int) ∨ (0 < kd.1 ∧ c.2.2.2.2.1 - (kd.2.2.2.1.length : Int) ≤ ((u - f : Nat) : Int))) → (∀ j, f ≤ j → j < u → ((j - f : Nat) : Int) < most ∧ (0 < kd.1 → ((j - f : Nat) : Int) < c.2.2.2.2.1 - (kd.2.2.2.1.length : Int))) →
            sluicegateref15_Pour.l0 (k + 20000) c p (i : Int) kd most kd.2.2.2.1 kd.2.2.2.2 0 [] 0 = some (left p f u, given kd ((p.2.2.2.1.drop f).take (u - f)), ((u - f : Nat) : Int)) := fun u a1 a2 a3 a4 => by
          have := refPour_l0 (u := u) (most := most) hc hp h.sk hw ⟨a1, a2, pp2⟩ a3 a4 hlev (fun z => (hkb z).1) hkq (k + 20000) 0 (by omega) (by omega)
          simpa [given] using this
        by_cases h4 : most < 1
        · rw [if_pos (decide_eq_true h4)]
          have r := ref f (Nat.le_refl _) pp1 (fun _ => .inl (by omega)) (fun j a b => by omega)
          refine ⟨(p, kd, 0), rfl, ?_, .inl rfl⟩
          rw [show sluicegateref15_Pour.l0 (k + 20000) c p (i : Int) kd most kd.2.2.2.1 kd.2.2.2.2 0 [] 0 = _ from r]
          have e1 : left p f f = p := by unfold left; rw [List.take_append_drop]
          have e2 : given kd ((p.2.2.2.1.drop f).take (f - f)) = kd := by simp [given]
          rw [e1, e2]
          simp
        · have allp : lex_All.f = some ([], [], true) := rfl
          have hsp : fan_Span.f p.2.2.1 (i : Int) ([], [], true) = some (ownS p.2.2.1 i, true) := by
            rw [span_pure hp.pivs allS i hil, own_all hil q3 q2]
          rw [if_neg (by simpa using h4), allp, Option.bind_some, hsp, Option.bind_some, if_neg (by simp)]
          have wr : w64 (c.2.2.2.2.1 - (kd.2.2.2.1.length : Int)) = c.2.2.2.2.1 - (kd.2.2.2.1.length : Int) := w64_id (by omega) (by omega)
          rcases hlev with z | z
          · have z' : ¬ 0 < kd.1 := by omega
            have tk := take_pure (k := k + 19990) hm okl pp pe
            have u1 : f ≤ upto f tt' most ∧ upto f tt' most ≤ tt' := by unfold upto; omega
            have lT : ((p.2.2.2.1.drop f).take (upto f tt' most - f)).length = upto f tt' most - f := by rw [List.length_take, List.length_drop]; omega
            have ap := apply_pure (l := kd.2.2.2.2) (m := (p.2.2.2.1.drop f).take (upto f tt' most - f)) (by have := h.sk.prs; omega) (by omega) (hkq z) (k := k + 20000) (by omega)
            have r := ref (upto f tt' most) u1.1 u1.2 (fun _ => .inl (by unfold upto at *; omega)) (fun j a b => ⟨by unfold upto at *; omega, fun e => absurd e z'⟩)
            refine ⟨_, ?_, r, .inr ⟨i, f, upto f tt' most, rfl, hil, u1.1, by omega, fun j a b => pin j a (by omega), by omega, by unfold upto; omega, fun e => absurd e z', rfl⟩⟩
            rw [if_neg (by simpa using z'), show buf_Take.f (k + 20000) p.2.2.2.1 _ most = _ from tk, Option.bind_some, if_pos (decide_eq_true z), ap, Option.bind_some]
            simp only [given, left, z, if_true, lT]
          · have z' : ¬ kd.1 = 0 := by omega
            obtain ⟨rb, lb⟩ := hkb z
            obtain ⟨m', hm'⟩ : ∃ m', m' = (if c.2.2.2.2.1 - (kd.2.2.2.1.length : Int) < most then c.2.2.2.2.1 - (kd.2.2.2.1.length : Int) else most) := ⟨_, rfl⟩
            have hm2 : m' ≤ most ∧ m' ≤ c.2.2.2.2.1 - (kd.2.2.2.1.length : Int) ∧ 0 ≤ m' ∧ (m' = most ∨ m' = c.2.2.2.2.1 - (kd.2.2.2.1.length : Int)) := by rw [hm']; split <;> omega
            have hmw : (Lit.int .i64 m').wf = true := by
              simp [Lit.wf, IntKind.min, IntKind.max, IntKind.signed, IntKind.bits]
              omega
            have tk := take_pure (k := k + 19990) hmw okl pp pe
            have u1 : f ≤ upto f tt' m' ∧ upto f tt' m' ≤ tt' := by unfold upto; omega
            have lT : ((p.2.2.2.1.drop f).take (upto f tt' m' - f)).length = upto f tt' m' - f := by rw [List.length_take, List.length_drop]; omega
            have rT : RiseK mk ((p.2.2.2.1.drop f).take (upto f tt' m' - f)) := by
              have : RiseK mk p.2.2.2.1 := (riseK_iff mk _).1 (by rw [← riseM_K]; exact q5)
              exact this.sublist ((List.take_sublist _ _).trans (List.drop_sublist _ _))
            have mg := merge10_pure (n := (p.2.2.2.1.drop f).take (upto f tt' m' - f)) (o := kd.2.2.2.1) (by omega) (by omega) (k := k + 20000) (by omega)
            have mf := merge_foldl mk (f := k + 20000) (n := (p.2.2.2.1.drop f).take (upto f tt' m' - f)) (o := kd.2.2.2.1) (by omega) rT rb
            have r := ref (upto f tt' m') u1.1 u1.2 (fun _ => by unfold upto at *; omega) (fun j a b => ⟨by unfold upto at *; omega, fun _ => by unfold upto at *; omega⟩)
            refine ⟨_, ?_, r, .inr ⟨i, f, upto f tt' m', rfl, hil, u1.1, by omega, fun j a b => pin j a (by omega), by omega, by unfold upto; omega, fun _ => by unfold upto; omega, rfl⟩⟩
            rw [if_pos (decide_eq_true z), wr, ← hm', show buf_Take.f (k + 20000) p.2.2.2.1 _ m' = _ from tk, Option.bind_some, if_neg (by simpa using z'), mg, mf, Option.bind_some]
            simp only [given, left, z', if_false, lT]
      · have h3' : (!decide (p.1 = w64 (kd.1 + 1))) = true := by simpa using h3
        rw [if_pos h3', if_pos h3']
        exact ⟨_, rfl, rfl, .inl rfl⟩
theorem short_left {p : Nd} (h : SmallN p) (f u : Nat) : Short (left p f u) := by
  have h1 := h.kids
  have h2 := h.pivs
  have h3 := h.buf
  have h4 := h.prs
  exact ⟨by show p.2.1.length ≤ _; omega, by show p.2.2.1.length ≤ _; omega, by show (p.2.2.2.1.take f ++ p.2.2.2.1.drop u).length ≤ _; rw [List.length_append, List.length_take, List.length_drop]; omega, by show p.2.2.2.2.length ≤ _; omega⟩
theorem short_given {kd : Nd} (h : SmallN kd) {T : List Msg} (hT : T.length ≤ 150) (kT : ∀ x ∈ T, x.1.length ≤ 300) : Short (given kd T) := by
  have h1 := h.kids
  have h2 := h.pivs
  have h3 := h.buf
  have h4 := h.prs
  have h5 := fold_length T kd.2.2.2.2
  have h6 := (okN_fold T kd.2.2.2.1 150 ⟨h3, fun x hx => by have := h.bk x hx; omega⟩ kT).1
  refine ⟨by show kd.2.1.length ≤ _; omega, by show kd.2.2.1.length ≤ _; omega, ?_, ?_⟩
  · unfold given
    dsimp only
    split <;> omega
  · unfold given
    dsimp only
    split <;> omega
theorem poured_short {c : Cfg} {p : Nd} {t : Int} {kd : Nd} {most : Int} {r : Nd × Nd × Int} (hp : SmallN p) (hk : SmallN kd) (h : Poured c p t kd most r) : Short r.1 ∧ Short r.2.1 := by
  rcases h with rfl | ⟨i, f, u, _, _, h1, h2, _, _, _, _, rfl⟩
  · exact ⟨hp.short, hk.short⟩
  · have := hp.buf
    exact ⟨short_left hp f u, short_given hk (by rw [List.length_take, List.length_drop]; omega) fun x hx => by have := hp.bk x (List.mem_of_mem_drop (List.mem_of_mem_take hx)); omega⟩
theorem awake15_pure (k : Nat) : sluicegatelaw15_awake.f (k + 40) = some true := by rfl
theorem left_mem {p : Nd} {f u : Nat} {m : Msg} (hm : m ∈ (left p f u).2.2.2.1) : m ∈ p.2.2.2.1 := by
  rcases List.mem_append.1 hm with hm | hm
  · exact List.mem_of_mem_take hm
  · exact List.mem_of_mem_drop hm
theorem left_len {p : Nd} {f u : Nat} (hu : f ≤ u) (hl : u ≤ p.2.2.2.1.length) : (left p f u).2.2.2.1.length + (u - f) = p.2.2.2.1.length := by
  show (p.2.2.2.1.take f ++ p.2.2.2.1.drop u).length + _ = _
  rw [List.length_append, List.length_take, List.length_drop]
  omega
theorem sub_left (l : List Msg) {f u : Nat} (hu : f ≤ u) : (l.take f ++ l.drop u).Sublist l := by
  have h1 : (l.drop u).Sublist (l.drop f) := by
    have : l.drop u = (l.drop f).drop (u - f) := by rw [List.drop_drop]; congr 1; omega
    rw [this]
    exact List.drop_sublist _ _
  have := (List.Sublist.refl (l.take f)).append h1
  rwa [List.take_append_drop] at this
theorem keep_node {c : Cfg} {p : Nd} {f u : Nat} (h : RightN c allS p) (e0 : p.1 ≠ 0) (hu : f ≤ u) (hl : u ≤ p.2.2.2.1.length) : innB c allS (left p f u) = true := by
  have ho := (h.node e0).2
  have hlen := left_len hu hl
  simp only [innB, restB, tailB, Bool.and_eq_true, decide_eq_true_eq, List.all_eq_true] at ho ⊢
  obtain ⟨kd, pk', bm, t1, t2, t3, t4, t5, t67, t8, t9⟩ := ho
  refine ⟨kd, pk', fun m hm => bm m (left_mem hm), t1, t2, t3, t4, t5, t67, by omega, ?_⟩
  rw [riseM_K] at t9 ⊢
  exact (riseK_iff _ _).2 (((riseK_iff _ _).1 t9).sublist (sub_left _ hu))
theorem mid_left {p : Nd} (h : SmallN p) (f u : Nat) : MidN (left p f u) := by
  have h3 := h.buf
  have h4 := h.prs
  refine ⟨h.kids, h.pivs, ?_, by show p.2.2.2.2.length ≤ _; omega, fun q hq => by have := h.pk q hq; omega, fun m hm => by have := h.bk m (left_mem hm); omega, fun m hm => by have := h.rk m hm; omega⟩
  show (p.2.2.2.1.take f ++ p.2.2.2.1.drop u).length ≤ _
  rw [List.length_append, List.length_take, List.length_drop]
  omega
theorem mem_fold : ∀ (T : List Msg) (l : List Pr) {q : Pr}, q ∈ T.foldl app1 l → q ∈ l ∨ ∃ m ∈ T, q = (m.1, m.2.2)
  | [], l, q, h => .inl h
  | m :: T, l, q, h => by
    rcases mem_fold T (app1 l m) h with h | ⟨m', hm', e⟩
    · unfold app1 at h
      split at h
      · exact .inl (List.mem_filter.1 h).1
      · rcases mem_putK pk h with h | h
        · exact .inr ⟨m, by simp, h⟩
        · exact .inl h
    · exact .inr ⟨m', by simp [hm'], e⟩
theorem mem_foldM : ∀ (T : List Msg) (l : List Msg) {q : Msg}, q ∈ T.foldl (fun l m => putK mk m l) l → q ∈ l ∨ q ∈ T
  | [], l, q, h => .inl h
  | m :: T, l, q, h => by
    rcases mem_foldM T (putK mk m l) h with h | h
    · rcases mem_putK mk h with h | h
      · exact .inr (by simp [h])
      · exact .inl h
    · exact .inr (by simp [h])
theorem cutOut_length {x : List UInt8} : ∀ {l : List Pr}, RiseK pk l → l.length ≤ (cutOut pk x l).length + 1
  | [], _ => by simp
  | a :: r, h => by
    obtain ⟨h1, h2⟩ := List.pairwise_cons.1 h
    have ih := cutOut_length (x := x) h2
    unfold cutOut at ih ⊢
    rw [List.filter_cons]
    by_cases e : pk a = x
    · have : r.filter (fun y => !decide (pk y = x)) = r := List.filter_eq_self.2 fun b hb => by
        have := bl_ne (h1 b hb)
        simp only [Bool.not_eq_true', decide_eq_false_iff_not]
        rw [← e]
        exact fun q => this q.symm
      rw [if_neg (by simp [e]), this]
      simp
    · rw [if_pos (by simp [e])]
      simp
      exact ih
theorem putK_ge (m : Pr) : ∀ l : List Pr, l.length ≤ (putK pk m l).length
  | [] => by simp
  | a :: r => by
    have := putK_ge m r
    unfold putK
    split
    · simp
    · split <;> simp
      exact this
theorem fold_ge : ∀ (T : List Msg) (l : List Pr), RiseK pk l → l.length ≤ (T.foldl app1 l).length + T.length
  | [], l, _ => by simp
  | m :: T, l, h => by
    have h1 := fold_ge T (app1 l m) (rise_app m h)
    have h2 : l.length ≤ (app1 l m).length + 1 := by
      unfold app1
      split
      · exact cutOut_length h
      · have := putK_ge (m.1, m.2.2) l; omega
    simp only [List.foldl_cons, List.length_cons]
    omega
/-- settings with some pairs more to a leaf -/
def more (c : Cfg) (n : Int) : Cfg := (c.1, c.2.1, c.2.2.1, c.2.2.2.1, c.2.2.2.2.1, w64 (c.2.2.2.2.2.1 + n), c.2.2.2.2.2.2.1, c.2.2.2.2.2.2.2)
theorem more_zero {c : Cfg} (h : OkC c) : more c 0 = c := by
  have := h.leaf
  have := h.buf
  unfold more
  rw [w64_id (by omega) (by omega), Int.add_zero]
theorem keep_kid {c : Cfg} {p kd : Nd} {i f u : Nat} (hP : RightN c allS p) (e0 : p.1 ≠ 0) (hsk : SmallN kd) (hkid : kidOk c p.2.2.1 i kd = true) (hl : u ≤ p.2.2.2.1.length) (hin : ∀ j, f ≤ j → j < u → inS (ownS p.2.2.1 i) (p.2.2.2.1.getD j default).1 = true)
    (hroom : 0 < kd.1 → ((u - f : Nat) : Int) + (kd.2.2.2.1.length : Int) ≤ c.2.2.2.2.1) : kidOk (more c ((u - f : Nat) : Int)) p.2.2.1 i (given kd ((p.2.2.2.1.drop f).take (u - f))) = true := by
  have hc := hP.cfg
  have cl := hc.leaf
  have cb := hc.buf
  have h150 := hP.small.buf
  have lT : ((p.2.2.2.1.drop f).take (u - f)).length ≤ u - f := by rw [List.length_take]; omega
  have lT' : ((p.2.2.2.1.drop f).take (u - f)).length ≤ 150 := by rw [List.length_take, List.length_drop]; omega
  have hT : ∀ m ∈ (p.2.2.2.1.drop f).take (u - f), inS (ownS p.2.2.1 i) m.1 = true ∧ msgB c allS m = true ∧ m.1.length ≤ 300 := fun m hm => by
    obtain ⟨j, hj, rfl⟩ := mem_getD hm default
    rw [List.length_take, List.length_drop] at hj
    have hmem := List.mem_of_mem_drop (List.mem_of_mem_take hm)
    refine ⟨?_, List.all_eq_true.1 (hP.parts e0).2.2.2.1 _ hmem, by have := hP.small.bk _ hmem; omega⟩
    rw [getD_take (by omega), getD_drop]
    exact hin (f + j) (by omega) (by omega)
  generalize (p.2.2.2.1.drop f).take (u - f) = T at lT lT' hT
  have wl : w64 (c.2.2.2.2.2.1 + ((u - f : Nat) : Int)) = c.2.2.2.2.2.1 + ((u - f : Nat) : Int) := w64_id (by omega) (by omega)
  unfold kidOk at hkid ⊢
  by_cases z : kd.1 = 0
  · rw [if_pos z] at hkid
    rw [if_pos (show (given kd T).1 = 0 from z)]
    simp only [outB, Bool.and_eq_true, decide_eq_true_eq, List.all_eq_true] at hkid ⊢
    obtain ⟨a1, a2, a3, a4, a5, a6⟩ := hkid
    have hfl := fold_length T kd.2.2.2.2
    simp only [given, z, if_true]
    refine ⟨fun q hq => ?_, a2, a3, a4, ?_, ?_⟩
    · rcases mem_fold T kd.2.2.2.2 hq with hq | ⟨m, hm, rfl⟩
      · exact a1 q hq
      · obtain ⟨b1, b2, b3⟩ := hT m hm
        simp only [msgB, Bool.and_eq_true] at b2
        simp only [prB, Bool.and_eq_true]
        exact ⟨b2.1, b1, b2.2.2.1⟩
    · show _ ≤ w64 (c.2.2.2.2.2.1 + ((u - f : Nat) : Int))
      rw [wl]
      omega
    · rw [riseP_K] at a6 ⊢
      exact (riseK_iff pk _).2 (fold_rise T _ ((riseK_iff pk _).1 a6))
  · rw [if_neg z, Bool.and_eq_true] at hkid
    rw [if_neg (show ¬ (given kd T).1 = 0 from z), Bool.and_eq_true]
    refine ⟨hkid.1, ?_⟩
    have z' := of_decide_eq_true hkid.1
    have hi := hkid.2
    simp only [innB, restB, tailB, Bool.and_eq_true, decide_eq_true_eq, List.all_eq_true] at hi ⊢
    obtain ⟨kq, pk', bm, t1, t2, t3, t4, t5, t67, t8, t9⟩ := hi
    have hof := (okN_fold T kd.2.2.2.1 kd.2.2.2.1.length ⟨Nat.le_refl _, fun x hx => by have := hsk.bk x hx; omega⟩ fun x hx => (hT x hx).2.2).1
    have hr := hroom z'
    simp only [given, z, if_false]
    refine ⟨kq, pk', fun m hm => ?_, t1, t2, t3, t4, t5, t67, ?_, ?_⟩
    · rcases mem_foldM T kd.2.2.2.1 hm with hm | hm
      · exact bm m hm
      · obtain ⟨b1, b2, b3⟩ := hT m hm
        simp only [msgB, Bool.and_eq_true] at b2 ⊢
        exact ⟨b2.1, b1, b2.2.2⟩
    · show _ ≤ c.2.2.2.2.1
      omega
    · rw [riseM_K] at t9 ⊢
      exact (riseK_iff mk _).2 (foldl_put mk T _ ((riseK_iff mk _).1 t9))
theorem mid_given {kd : Nd} (h : SmallN kd) {T : List Msg} (hT : T.length ≤ 150) (kT : ∀ x ∈ T, x.1.length ≤ 300) : MidN (given kd T) := by
  have h3 := h.buf
  have h4 := h.prs
  have h5 := fold_length T kd.2.2.2.2
  have h6 := okN_fold T kd.2.2.2.1 150 ⟨h3, fun x hx => by have := h.bk x hx; omega⟩ kT
  have h7 := h6.1
  refine ⟨h.kids, h.pivs, ?_, ?_, fun q hq => by have := h.pk q hq; omega, ?_, ?_⟩
  · unfold given; dsimp only; split <;> omega
  · unfold given; dsimp only; split <;> omega
  · unfold given; dsimp only
    split
    · intro m hm; have := h.bk m hm; omega
    · exact h6.2
  · unfold given; dsimp only
    split
    · exact fold_keys T _ (fun q hq => by have := h.rk q hq; omega) kT
    · intro m hm; have := h.rk m hm; omega
/-- what is kept -/
structure Kept (c : Cfg) (p : Nd) (t : Int) (kd : Nd) (most : Int) (r : Nd × Nd × Int) : Prop where
  out : (p.2.2.2.1.length : Int) - (r.1.2.2.2.1.length : Int) = r.2.2
  pos : 0 ≤ r.2.2 ∧ r.2.2 ≤ 150
  most : r.2.2 = 0 ∨ 1 ≤ most ∧ r.2.2 ≤ most
  buf : (r.2.1.2.2.2.1.length : Int) ≤ (kd.2.2.2.1.length : Int) + r.2.2
  prs : (r.2.1.2.2.2.2.length : Int) ≤ (kd.2.2.2.2.length : Int) + r.2.2
  prs' : (kd.2.2.2.2.length : Int) - r.2.2 ≤ (r.2.1.2.2.2.2.length : Int)
  mq : MidN r.1
  mx : MidN r.2.1
  lev : r.1.1 = p.1
  q : innB c allS r.1 = true
  x : ∀ i : Nat, t = (i : Int) → i ≤ p.2.2.1.length → kidOk (more c r.2.2) p.2.2.1 i r.2.1 = true
theorem kept {c : Cfg} {p : Nd} {t : Int} {kd : Nd} {most : Int} {r : Nd × Nd × Int} (h : RightP c p t kd) (hr : Poured c p t kd most r) : Kept c p t kd most r := by
  have e0 : p.1 ≠ 0 := by have := h.lev; omega
  have hp := h.par.small
  rcases hr with rfl | ⟨i, f, u, rfl, hi, hfu, hul, hin, hm1, hm2, hroom, rfl⟩
  · refine ⟨by simp, by simp, .inl rfl, by simp, by simp, by simp, hp.mid, h.sk.mid, rfl, (h.par.node e0).2, fun i hi hil => ?_⟩
    rw [more_zero h.par.cfg]
    exact h.kid i hi hil
  · have h150 := hp.buf
    have kT : ∀ x ∈ (p.2.2.2.1.drop f).take (u - f), x.1.length ≤ 300 := fun x hx => by have := hp.bk x (List.mem_of_mem_drop (List.mem_of_mem_take hx)); omega
    have lT : ((p.2.2.2.1.drop f).take (u - f)).length = u - f := by rw [List.length_take, List.length_drop]; omega
    have hlen := left_len hfu hul
    have f1 := fold_length ((p.2.2.2.1.drop f).take (u - f)) kd.2.2.2.2
    have f2 := (okN_fold ((p.2.2.2.1.drop f).take (u - f)) kd.2.2.2.1 kd.2.2.2.1.length ⟨Nat.le_refl _, fun x hx => by have := h.sk.bk x hx; omega⟩ kT).1
    have f3 : kd.1 = 0 → kd.2.2.2.2.length ≤ (((p.2.2.2.1.drop f).take (u - f)).foldl app1 kd.2.2.2.2).length + ((p.2.2.2.1.drop f).take (u - f)).length := fun z => by
      have hk := h.kid i rfl hi
      unfold kidOk at hk
      rw [if_pos z] at hk
      simp only [outB, Bool.and_eq_true] at hk
      have := hk.2.2.2.2.2
      rw [riseP_K] at this
      exact fold_ge _ _ ((riseK_iff pk _).1 this)
    have g1 : (given kd ((p.2.2.2.1.drop f).take (u - f))).2.2.2.1.length ≤ kd.2.2.2.1.length + (u - f) := by
      unfold given; dsimp only; split <;> omega
    have g2 : (given kd ((p.2.2.2.1.drop f).take (u - f))).2.2.2.2.length ≤ kd.2.2.2.2.length + (u - f) := by
      unfold given; dsimp only; split <;> omega
    have g3 : kd.2.2.2.2.length ≤ (given kd ((p.2.2.2.1.drop f).take (u - f))).2.2.2.2.length + (u - f) := by
      unfold given; dsimp only
      split
      · rename_i z; have := f3 z; omega
      · omega
    refine ⟨by dsimp only; omega, by dsimp only; omega, .inr ⟨hm1, hm2⟩, by dsimp only; omega, by dsimp only; omega, by dsimp only; omega, mid_left hp f u, mid_given h.sk (by omega) kT, rfl, keep_node h.par e0 hfu hul, fun i' hi' hil => ?_⟩
    obtain rfl : i = i' := by omega
    exact keep_kid h.par e0 h.sk (h.kid i rfl hi) hul hin hroom
theorem PourKeeps_pure {p0 p1 p2 p3 : Prop} (c : Cfg) (p : Nd) (t : Int) (kd : Nd) (most : Int) (_ : p0) (_ : p1) (_ : p2) (_ : p3) (hm : Ty.fit (bytesIn tt) (.int .i64) most) : ∃ k, sluicegatelaw15_PourKeeps.f k c p t kd most = some true := by
  refine ⟨20000 + 20000, ?_⟩
  unfold sluicegatelaw15_PourKeeps.f
  obtain ⟨g, e1, e2⟩ := right15_pure c p t kd (k := 20000 + 20000) (by omega)
  have aw : sluicegatelaw15_awake.f (20000 + 20000) = some true := awake15_pure 39960
  rw [show sluicegatelaw15_right.f (20000 + 20000) _ _ _ _ = _ from e1, aw]
  cases g with
  | false => rfl
  | true =>
    have h := e2 rfl
    obtain ⟨r, r1, r2, r3⟩ := pour_pure hm h 20000
    have hk := kept h r3
    have k1 := hk.out
    have k2 := hk.pos
    have k3 := hk.most
    have k4 := hk.buf
    have k5 := hk.prs
    have k6 := hk.prs'
    have b1 := h.par.small.buf
    have b2 := h.sk.buf
    have b3 := h.sk.prs
    have b4 := hk.mq.buf
    have e0 : ¬ p.1 = 0 := by have := h.lev; omega
    obtain ⟨q1, q2, q3, q4, q5⟩ := h.par.parts e0
    have hmx : r.2.2 ≤ (if most > 0 then most else 0) := by split <;> omega
    rw [Option.bind_some, if_neg (by simp), show pour_Pour.f (20000 + 20000) _ _ _ _ _ = _ from r1, Option.bind_some, w64_id (by omega) (by omega), if_neg (by simp [k1]), if_neg (by simp only [decide_eq_true_eq]; omega), if_neg (by simp only [decide_eq_true_eq]; omega),
      w64_id (x := (kd.2.2.2.1.length : Int) + r.2.2) (by omega) (by omega), if_neg (by simp only [decide_eq_true_eq]; omega), w64_id (x := (kd.2.2.2.2.length : Int) + r.2.2) (by omega) (by omega), if_neg (by simp only [decide_eq_true_eq]; omega), w64_id (x := (kd.2.2.2.2.length : Int) - r.2.2) (by omega) (by omega), if_neg (by simp only [decide_eq_true_eq]; omega)]
    have rq : sluicegateref13_Right.f (20000 + 20000) (c.1, c.2.1, c.2.2.1, c.2.2.2.1, c.2.2.2.2.1, c.2.2.2.2.2.1, c.2.2.2.2.2.2.1, c.2.2.2.2.2.2.2) ([], [], true) (r.1.1, r.1.2.1, r.1.2.2.1, r.1.2.2.2.1, r.1.2.2.2.2) = some true := by
      have := right13_pure (c := c) (s := allS) hk.mq (by simp) (by simp) (k := 20000 + 20000) (by omega)
      rw [hk.lev, if_neg e0, hk.q, decide_eq_true (show 0 < p.1 by have := h.lev; omega)] at this
      exact this
    by_cases ht : 0 ≤ t ∧ t ≤ (p.2.2.1.length : Int)
    · obtain ⟨i, rfl⟩ := Int.eq_ofNat_of_zero_le ht.1
      have hil : i ≤ p.2.2.1.length := by omega
      have hp := h.par.small
      have hol : (ownS p.2.2.1 i).1.length ≤ 300 := by
        unfold ownS
        split
        · exact (small_piv hp).get _
        · simp
      have hoh : (ownS p.2.2.1 i).2.1.length ≤ 300 := by
        unfold ownS
        dsimp only
        split
        · simp
        · exact (small_piv hp).get _
      have rx : sluicegateref13_Right.f (20000 + 20000) (c.1, c.2.1, c.2.2.1, c.2.2.2.1, c.2.2.2.2.1, w64 (c.2.2.2.2.2.1 + r.2.2), c.2.2.2.2.2.2.1, c.2.2.2.2.2.2.2) ((ownS p.2.2.1 i, true).1.1, (ownS p.2.2.1 i, true).1.2.1, (ownS p.2.2.1 i, true).1.2.2) (r.2.1.1, r.2.1.2.1, r.2.1.2.2.1, r.2.1.2.2.2.1, r.2.1.2.2.2.2) = some true := by
        have := right13_pure (c := more c r.2.2) (s := ownS p.2.2.1 i) hk.mx hol hoh (k := 20000 + 20000) (by omega)
        rw [show (if r.2.1.1 = 0 then outB (more c r.2.2) (ownS p.2.2.1 i) r.2.1 else decide (0 < r.2.1.1) && innB (more c r.2.2) (ownS p.2.2.1 i) r.2.1) = true from hk.x i rfl hil] at this
        exact this
      rw [refSpan_pure (small_piv hp) i hil (by omega), own_all hil q3 q2, Option.bind_some, rq, Option.bind_some, if_pos rfl, if_neg (by simp), rx]
      rfl
    · have : sluicegateref12_Span.f (20000 + 20000) p.2.2.1 t ([], [], true) = some (([], [], false), false) := by
        unfold sluicegateref12_Span.f
        by_cases h0 : t < 0
        · rw [if_pos (decide_eq_true h0)]
        · rw [if_neg (by simpa using h0), if_pos (decide_eq_true (by omega))]
      rw [this, Option.bind_some, rq]
      rfl
end Go.SK.T
