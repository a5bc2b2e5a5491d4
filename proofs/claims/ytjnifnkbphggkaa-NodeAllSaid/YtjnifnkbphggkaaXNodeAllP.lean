/- The plain law behind NodeAll: what its code computes is true for all nodes and blocks. -/
import Derived.Test.YtjnifnkbphggkaaXNodeAllF1
set_option linter.unusedVariables false
set_option linter.unusedSimpArgs false
namespace Go.SK.T
open Go Go.SK
theorem compare_l0 : ∀ (k : Nat) (a b : List UInt8) (i : Nat), a.length ≤ 4611686018427387904 → b.length ≤ 4611686018427387904 → i ≤ a.length → i ≤ b.length → a.length - i < k →
    sluicegateref01_Compare.l0 k a b (i : Int) = some (scmp (a.drop i) (b.drop i))
  | 0, a, b, i, _, _, _, _, h => by omega
  | k + 1, a, b, i, ha, hb, hia, hib, hk => by
    unfold sluicegateref01_Compare.l0
    by_cases h1 : i < a.length
    · by_cases h2 : i < b.length
      · have g1 : (0 : Int) ≤ (i : Int) ∧ (i : Int) < (a.length : Int) := by omega
        have g2 : (0 : Int) ≤ (i : Int) ∧ (i : Int) < (b.length : Int) := by omega
        have w : w64 ((i : Int) + 1) = ((i + 1 : Nat) : Int) := by rw [w64_id (by omega) (by omega)]; omega
        have ih := compare_l0 k a b (i + 1) ha hb (by omega) (by omega) (by omega)
        simp only [g1.2, g2.2, g1, g2, decide_true, if_true, and_self, w, ih, gtb_lt, Int.toNat_natCast, drop_byte h1, drop_byte h2, scmp_cons, decide_eq_true_eq]
        split
        · rfl
        · split <;> rfl
      · have g1 : (i : Int) < (a.length : Int) := by omega
        have g2 : ¬ (i : Int) < (b.length : Int) := by omega
        have e : b.drop i = [] := List.drop_eq_nil_of_le (by omega)
        have z1 : ¬ (a.length : Int) < (b.length : Int) := by omega
        have z2 : (b.length : Int) < (a.length : Int) := by omega
        have z3 : ¬ (a.drop i).length = 0 := by rw [List.length_drop]; omega
        simp [g1, g2, e, z1, z2, scmp_nil_right, z3]
        omega
    · have g1 : ¬ (i : Int) < (a.length : Int) := by omega
      have e : a.drop i = [] := List.drop_eq_nil_of_le (by omega)
      have z : (b.drop i).length = b.length - i := List.length_drop ..
      simp only [g1, e, scmp_nil_left, z, decide_false, Bool.false_eq_true, if_false, decide_eq_true_eq]
      by_cases h2 : b.length = i
      · have z1 : ¬ (a.length : Int) < (b.length : Int) := by omega
        have z2 : ¬ (b.length : Int) < (a.length : Int) := by omega
        have h3 : a.length = i := by omega
        simp [h2, h3]
      · have z1 : (a.length : Int) < (b.length : Int) := by omega
        have z2 : ¬ b.length - i = 0 := by omega
        simp [z1, z2]
theorem compare_pure {k : Nat} {a b : List UInt8} (ha : a.length ≤ 2000) (hb : b.length ≤ 2000) (hk : 2000 < k) : sluicegateref01_Compare.f k a b = some (scmp a b) := by
  have := compare_l0 k a b 0 (by omega) (by omega) (by omega) (by omega) (by omega)
  simpa [sluicegateref01_Compare.f] using this
abbrev Msg := List UInt8 × Bool × List UInt8
theorem msg_eq (x y : Msg) : (decide (x.1 = y.1) && ((x.2.1 == y.2.1) && (decide (x.2.2 = y.2.2) && true))) = decide (x = y) := by
  obtain ⟨a, b, c⟩ := x
  obtain ⟨d, e, f⟩ := y
  by_cases h1 : a = d <;> by_cases h2 : b = e <;> by_cases h3 : c = f <;> simp [h1, h2, h3]
abbrev Cfg := Int × Int × Int × Int × Int × Int × Int × Int
abbrev Pr := List UInt8 × List UInt8
abbrev Nd := Int × List Int × List (List UInt8) × List Msg × List Pr
/-- what is not great -/
structure SmallN (n : Nd) : Prop where
  kids : n.2.1.length ≤ 80
  pivs : n.2.2.1.length ≤ 80
  buf : n.2.2.2.1.length ≤ 150
  prs : n.2.2.2.2.length ≤ 150
  pk : ∀ p ∈ n.2.2.1, p.length ≤ 200
  bk : ∀ m ∈ n.2.2.2.1, m.1.length ≤ 200
  rk : ∀ m ∈ n.2.2.2.2, m.1.length ≤ 200
/-- what may be asked whether it is right -/
structure MidN (n : Nd) : Prop where
  kids : n.2.1.length ≤ 80
  pivs : n.2.2.1.length ≤ 80
  buf : n.2.2.2.1.length ≤ 400
  prs : n.2.2.2.2.length ≤ 400
  pk : ∀ p ∈ n.2.2.1, p.length ≤ 300
  bk : ∀ m ∈ n.2.2.2.1, m.1.length ≤ 300
  rk : ∀ m ∈ n.2.2.2.2, m.1.length ≤ 300
theorem SmallN.mid {n : Nd} (h : SmallN n) : MidN n := ⟨h.kids, h.pivs, by have := h.buf; omega, by have := h.prs; omega, fun p hp => by have := h.pk p hp; omega, fun p hp => by have := h.bk p hp; omega, fun p hp => by have := h.rk p hp; omega⟩
theorem great_l2 (n : Nd) (hb : n.2.2.2.2.length ≤ 150) : ∀ (k i : Nat), i ≤ n.2.2.2.2.length → n.2.2.2.2.length - i < k → (∀ m ∈ n.2.2.2.2.take i, m.1.length ≤ 200) →
    ∃ g, sluicegatelaw13_Great.l2 k n (i : Int) = some g ∧ (g = false → ∀ m ∈ n.2.2.2.2, m.1.length ≤ 200)
  | 0, i, _, h, _ => by omega
  | k + 1, i, hi, hk, hm => by
    rw [sluicegatelaw13_Great.l2]
    by_cases h : i < n.2.2.2.2.length
    · have g1 : (0 : Int) ≤ (i : Int) ∧ (i : Int) < (n.2.2.2.2.length : Int) := by omega
      rw [if_pos (decide_eq_true g1.2), if_pos g1, gt_nat]
      by_cases h2 : 200 < (n.2.2.2.2.getD i default).1.length
      · exact ⟨true, by rw [if_pos (decide_eq_true (by omega))], fun h => by cases h⟩
      · rw [if_neg (by simp only [decide_eq_true_eq]; omega), w64_succ (by omega)]
        refine great_l2 n hb k (i + 1) (by omega) (by omega) fun m hm' => ?_
        rw [List.take_add_one, List.mem_append] at hm'
        rcases hm' with hm' | hm'
        · exact hm m hm'
        · rw [List.getElem?_eq_getElem h] at hm'
          simp only [Option.toList_some, List.mem_singleton] at hm'
          subst hm'
          rw [List.getD_eq_getElem?_getD, List.getElem?_eq_getElem h] at h2
          simp only [Option.getD_some] at h2
          omega
    · rw [if_neg (by simp only [decide_eq_true_eq]; omega)]
      exact ⟨false, rfl, fun _ => by rwa [List.take_of_length_le (by omega)] at hm⟩
theorem great_l1 (n : Nd) (hb : n.2.2.2.2.length ≤ 150) (hc : n.2.2.2.1.length ≤ 150) : ∀ (k i : Nat), i ≤ n.2.2.2.1.length → 200 + (n.2.2.2.1.length - i) < k → (∀ m ∈ n.2.2.2.1.take i, m.1.length ≤ 200) →
    ∃ g, sluicegatelaw13_Great.l1 k n (i : Int) = some g ∧ (g = false → (∀ m ∈ n.2.2.2.1, m.1.length ≤ 200) ∧ ∀ m ∈ n.2.2.2.2, m.1.length ≤ 200)
  | 0, i, _, h, _ => by omega
  | k + 1, i, hi, hk, hm => by
    rw [sluicegatelaw13_Great.l1]
    by_cases h : i < n.2.2.2.1.length
    · have g1 : (0 : Int) ≤ (i : Int) ∧ (i : Int) < (n.2.2.2.1.length : Int) := by omega
      rw [if_pos (decide_eq_true g1.2), if_pos g1, gt_nat]
      by_cases h2 : 200 < (n.2.2.2.1.getD i default).1.length
      · exact ⟨true, by rw [if_pos (decide_eq_true (by omega))], fun h => by cases h⟩
      · rw [if_neg (by simp only [decide_eq_true_eq]; omega), w64_succ (by omega)]
        refine great_l1 n hb hc k (i + 1) (by omega) (by omega) fun m hm' => ?_
        rw [List.take_add_one, List.mem_append] at hm'
        rcases hm' with hm' | hm'
        · exact hm m hm'
        · rw [List.getElem?_eq_getElem h] at hm'
          simp only [Option.toList_some, List.mem_singleton] at hm'
          subst hm'
          rw [List.getD_eq_getElem?_getD, List.getElem?_eq_getElem h] at h2
          simp only [Option.getD_some] at h2
          omega
    · rw [if_neg (by simp only [decide_eq_true_eq]; omega)]
      obtain ⟨g, e1, e2⟩ := great_l2 n hb k 0 (by omega) (by omega) (by simp)
      rw [List.take_of_length_le (by omega)] at hm
      exact ⟨g, e1, fun e => ⟨hm, e2 e⟩⟩
theorem great_l0 (n : Nd) (hb : n.2.2.2.2.length ≤ 150) (hc : n.2.2.2.1.length ≤ 150) (hd : n.2.2.1.length ≤ 80) : ∀ (k i : Nat), i ≤ n.2.2.1.length → 400 + (n.2.2.1.length - i) < k → (∀ m ∈ n.2.2.1.take i, m.length ≤ 200) →
    ∃ g, sluicegatelaw13_Great.l0 k n (i : Int) = some g ∧ (g = false → (∀ m ∈ n.2.2.1, m.length ≤ 200) ∧ (∀ m ∈ n.2.2.2.1, m.1.length ≤ 200) ∧ ∀ m ∈ n.2.2.2.2, m.1.length ≤ 200)
  | 0, i, _, h, _ => by omega
  | k + 1, i, hi, hk, hm => by
    rw [sluicegatelaw13_Great.l0]
    by_cases h : i < n.2.2.1.length
    · have g1 : (0 : Int) ≤ (i : Int) ∧ (i : Int) < (n.2.2.1.length : Int) := by omega
      rw [if_pos (decide_eq_true g1.2), if_pos g1, gt_nat]
      by_cases h2 : 200 < (n.2.2.1.getD i default).length
      · exact ⟨true, by rw [if_pos (decide_eq_true (by omega))], fun h => by cases h⟩
      · rw [if_neg (by simp only [decide_eq_true_eq]; omega), w64_succ (by omega)]
        refine great_l0 n hb hc hd k (i + 1) (by omega) (by omega) fun m hm' => ?_
        rw [List.take_add_one, List.mem_append] at hm'
        rcases hm' with hm' | hm'
        · exact hm m hm'
        · rw [List.getElem?_eq_getElem h] at hm'
          simp only [Option.toList_some, List.mem_singleton] at hm'
          subst hm'
          rw [List.getD_eq_getElem?_getD, List.getElem?_eq_getElem h] at h2
          simp only [Option.getD_some] at h2
          omega
    · rw [if_neg (by simp only [decide_eq_true_eq]; omega)]
      obtain ⟨g, e1, e2⟩ := great_l1 n hb hc k 0 (by omega) (by omega) (by simp)
      rw [List.take_of_length_le (by omega)] at hm
      exact ⟨g, e1, fun e => ⟨hm, e2 e⟩⟩
theorem greatN_pure (n : Nd) {k : Nat} (hk : 1000 < k) : ∃ g, sluicegatelaw13_Great.f k n = some g ∧ (g = false → SmallN n) := by
  unfold sluicegatelaw13_Great.f
  by_cases h1 : 80 < n.2.1.length
  · exact ⟨true, by rw [if_pos (decide_eq_true (by omega))], fun h => by cases h⟩
  · rw [if_neg (by simp only [decide_eq_true_eq]; omega)]
    by_cases h2 : 80 < n.2.2.1.length
    · exact ⟨true, by rw [if_pos (decide_eq_true (by omega))], fun h => by cases h⟩
    · rw [if_neg (by simp only [decide_eq_true_eq]; omega)]
      by_cases h3 : 150 < n.2.2.2.1.length
      · exact ⟨true, by rw [if_pos (decide_eq_true (by omega))], fun h => by cases h⟩
      · rw [if_neg (by simp only [decide_eq_true_eq]; omega)]
        by_cases h4 : 150 < n.2.2.2.2.length
        · exact ⟨true, by rw [if_pos (decide_eq_true (by omega))], fun h => by cases h⟩
        · rw [if_neg (by simp only [decide_eq_true_eq]; omega)]
          obtain ⟨g, e1, e2⟩ := great_l0 n (by omega) (by omega) (by omega) k 0 (by omega) (by omega) (by simp)
          exact ⟨g, e1, fun e => ⟨by omega, by omega, by omega, by omega, (e2 e).1, (e2 e).2.1, (e2 e).2.2⟩⟩
/-- settings that are right, as far as it is asked -/
structure OkC (c : Cfg) : Prop where
  fan : 8 ≤ c.2.2.2.1 ∧ c.2.2.2.1 ≤ 64
  key : 1 ≤ c.2.2.2.2.2.2.1 ∧ c.2.2.2.2.2.2.1 ≤ 64
  val : 0 ≤ c.2.2.2.2.2.2.2 ∧ c.2.2.2.2.2.2.2 ≤ 256
  buf : 16 ≤ c.2.2.2.2.1 ∧ c.2.2.2.2.1 ≤ 512
  leaf : c.2.2.2.2.1 ≤ c.2.2.2.2.2.1 ∧ c.2.2.2.2.2.1 ≤ 1024
abbrev Sp := List UInt8 × List UInt8 × Bool
def inS (s : Sp) (x : List UInt8) : Bool := !Op.bytesLess x s.1 && (s.2.2 || Op.bytesLess x s.2.1)
theorem scmp_ge (a b : List UInt8) : decide (0 ≤ scmp a b) = !Op.bytesLess a b := by
  rcases scmp_vals a b with ⟨e, h⟩ | ⟨e, rfl⟩ | ⟨e, h⟩
  · simp [e, h]
  · simp [e, bl_irr]
  · simp [e, bl_asymm h]
/-- do the keys of pairs rise? -/
def riseP : List Pr → Bool
  | a :: b :: r => Op.bytesLess a.1 b.1 && riseP (b :: r)
  | _ => true
theorem riseP_drop {l : List Pr} {i : Nat} (h : i + 1 < l.length) : riseP (l.drop i) = (Op.bytesLess (l.getD i default).1 (l.getD (i + 1) default).1 && riseP (l.drop (i + 1))) := by
  rw [drop_cons (show i < l.length by omega), drop_cons h]
  rfl
theorem riseP_end {l : List Pr} {i : Nat} (h : l.length ≤ i + 1) : riseP (l.drop i) = true := by
  by_cases h' : i < l.length
  · rw [drop_cons h', List.drop_eq_nil_of_le (by omega)]
    rfl
  · rw [List.drop_eq_nil_of_le (by omega)]
    rfl
def keyB (c : Cfg) (x : List UInt8) : Bool := decide (1 ≤ (x.length : Int) ∧ (x.length : Int) ≤ c.2.2.2.2.2.2.1)
def prB (c : Cfg) (s : Sp) (p : Pr) : Bool := keyB c p.1 && (inS s p.1 && decide ((p.2.length : Int) ≤ c.2.2.2.2.2.2.2))
def outB (c : Cfg) (s : Sp) (n : Nd) : Bool := n.2.2.2.2.all (prB c s) && (decide (n.2.1 = []) && (decide (n.2.2.1 = []) && (decide (n.2.2.2.1 = []) && (decide ((n.2.2.2.2.length : Int) ≤ c.2.2.2.2.2.1) && riseP n.2.2.2.2))))
theorem rises_drop {l : List (List UInt8)} {i : Nat} (h : i + 1 < l.length) : rises (l.drop i) = (Op.bytesLess (l.getD i []) (l.getD (i + 1) []) && rises (l.drop (i + 1))) := by
  rw [drop_cons (show i < l.length by omega), drop_cons h]
  rfl
theorem rises_end {l : List (List UInt8)} {i : Nat} (h : l.length ≤ i + 1) : rises (l.drop i) = true := by
  by_cases h' : i < l.length
  · rw [drop_cons h', List.drop_eq_nil_of_le (by omega)]
    rfl
  · rw [List.drop_eq_nil_of_le (by omega)]
    rfl
structure SmallL (l : List (List UInt8)) (s : Sp) : Prop where
  len : l.length ≤ 80
  all : ∀ p ∈ l, p.length ≤ 300
  lo : s.1.length ≤ 300
  hi : s.2.1.length ≤ 300
theorem SmallL.get {l : List (List UInt8)} {s : Sp} (h : SmallL l s) (i : Nat) : (l.getD i []).length ≤ 300 := by
  by_cases hi : i < l.length
  · exact h.all _ (getD_mem hi)
  · rw [List.getD_eq_getElem?_getD, List.getElem?_eq_none (by omega)]
    exact Nat.zero_le _
theorem rise_l0 {s : Sp} {l : List (List UInt8)} (hs : SmallL l s) : ∀ (k i : Nat), i ≤ l.length → 2001 + (l.length - i) < k → sluicegateref12_Rise.l0 k l ((i + 1 : Nat) : Int) = some (rises (l.drop i))
  | 0, i, _, h => by omega
  | k + 1, i, hi, hk => by
    have h80 := hs.len
    rw [sluicegateref12_Rise.l0]
    by_cases h : i + 1 < l.length
    · have g1 : (0 : Int) ≤ (i : Int) ∧ (i : Int) < (l.length : Int) := by omega
      have g2 : (0 : Int) ≤ ((i + 1 : Nat) : Int) ∧ ((i + 1 : Nat) : Int) < (l.length : Int) := by omega
      have k1 : (l.getD i default).length ≤ 300 := hs.get i
      have k2 : (l.getD (i + 1) default).length ≤ 300 := hs.get (i + 1)
      rw [if_pos (decide_eq_true g2.2), w64_pred (by omega) (by omega), Nat.add_sub_cancel, if_pos g1, if_pos g2, gt_nat, gt_nat, compare_pure (by omega) (by omega) (by omega), Option.bind_some, scmp_ge, w64_succ (by omega), rise_l0 hs k (i + 1) (by omega) (by omega), rises_drop h]
      show (if (!Op.bytesLess (l.getD i []) (l.getD (i + 1) [])) = true then some false else some (rises (l.drop (i + 1)))) = _
      cases Op.bytesLess (l.getD i []) (l.getD (i + 1) []) <;> rfl
    · rw [if_neg (by simp only [decide_eq_true_eq]; omega), rises_end (by omega)]
theorem rise_pure {s : Sp} {l : List (List UInt8)} (hs : SmallL l s) {k : Nat} (hk : 3000 < k) : sluicegateref12_Rise.f k l = some (rises l) := by
  have := rise_l0 hs k 0 (by omega) (by have := hs.len; omega)
  simpa [sluicegateref12_Rise.f] using this
def piv (s : Sp) (p : List UInt8) : Bool := inS s p && !decide (p = s.1)
/-- do the keys rise? -/
def riseM : List Msg → Bool
  | a :: b :: r => Op.bytesLess a.1 b.1 && riseM (b :: r)
  | _ => true
theorem riseM_drop {l : List Msg} {i : Nat} (h : i + 1 < l.length) : riseM (l.drop i) = (Op.bytesLess (l.getD i default).1 (l.getD (i + 1) default).1 && riseM (l.drop (i + 1))) := by
  rw [drop_cons (show i < l.length by omega), drop_cons h]
  rfl
theorem riseM_end {l : List Msg} {i : Nat} (h : l.length ≤ i + 1) : riseM (l.drop i) = true := by
  by_cases h' : i < l.length
  · rw [drop_cons h', List.drop_eq_nil_of_le (by omega)]
    rfl
  · rw [List.drop_eq_nil_of_le (by omega)]
    rfl
theorem refright_l0 : ∀ (k : Nat) (l : List Msg) (i : Nat), (l.length ≤ 400 ∧ ∀ m ∈ l, m.1.length ≤ 300) → i ≤ l.length → 2001 + (l.length - i) < k → sluicegateref10_Right.l0 k l ((i + 1 : Nat) : Int) = some (riseM (l.drop i))
  | 0, l, i, _, _, h => by omega
  | k + 1, l, i, hl, hi, hk => by
    have h150 := hl.1
    rw [sluicegateref10_Right.l0]
    by_cases h : i + 1 < l.length
    · have g1 : (0 : Int) ≤ (i : Int) ∧ (i : Int) < (l.length : Int) := by omega
      have g2 : (0 : Int) ≤ ((i + 1 : Nat) : Int) ∧ ((i + 1 : Nat) : Int) < (l.length : Int) := by omega
      have k1 := hl.2 _ (getD_mem (d := default) (show i < l.length by omega))
      have k2 := hl.2 _ (getD_mem (d := default) h)
      rw [if_pos (decide_eq_true g2.2), w64_pred (by omega) (by omega), Nat.add_sub_cancel, if_pos g1, if_pos g2, gt_nat, gt_nat, compare_pure (by omega) (by omega) (by omega), Option.bind_some, scmp_ge, w64_succ (by omega), refright_l0 k l (i + 1) hl (by omega) (by omega), riseM_drop h]
      cases Op.bytesLess (l.getD i default).1 (l.getD (i + 1) default).1 <;> rfl
    · rw [if_neg (by simp only [decide_eq_true_eq]; omega), riseM_end (by omega)]
def msgB (c : Cfg) (s : Sp) (m : Msg) : Bool := keyB c m.1 && (inS s m.1 && (decide ((m.2.2.length : Int) ≤ c.2.2.2.2.2.2.2) && (!m.2.1 || decide (m.2.2 = []))))
def tailB (c : Cfg) (s : Sp) (n : Nd) : Bool := decide (n.1 ≤ 40) && (decide (n.2.2.2.2 = []) && (decide (1 ≤ n.2.1.length) && (decide ((n.2.1.length : Int) ≤ c.2.2.2.1) && (decide (n.2.2.1.length + 1 = n.2.1.length) && ((n.2.2.1.all (piv s) && rises n.2.2.1) && (decide ((n.2.2.2.1.length : Int) ≤ c.2.2.2.2.1) && riseM n.2.2.2.1))))))
theorem MidN.l {n : Nd} (hn : MidN n) {s : Sp} (h1 : s.1.length ≤ 300) (h2 : s.2.1.length ≤ 300) : SmallL n.2.2.1 s := ⟨hn.pivs, fun p hp => by have := hn.pk p hp; omega, h1, h2⟩
theorem refright_pure {n : Nd} (hn : MidN n) {k : Nat} (hk : 3000 < k) : sluicegateref10_Right.f k n.2.2.2.1 = some (riseM n.2.2.2.1) := by
  have := refright_l0 k n.2.2.2.1 0 ⟨hn.buf, fun m hm => by have := hn.bk m hm; omega⟩ (by omega) (by have := hn.buf; omega)
  simpa [sluicegateref10_Right.f] using this
theorem lexCompare_pure (a b : List UInt8) : lex_Compare.f a b = some (scmp a b) := rfl
/-- what is not great -/
structure Small (l : List (List UInt8)) (x : List UInt8) (s : Sp) : Prop where
  len : l.length ≤ 80
  all : ∀ p ∈ l, p.length ≤ 300
  x : x.length ≤ 300
  lo : s.1.length ≤ 300
  hi : s.2.1.length ≤ 300
theorem Small.get {l : List (List UInt8)} {x : List UInt8} {s : Sp} (h : Small l x s) (i : Nat) : (l.getD i []).length ≤ 300 := by
  by_cases hi : i < l.length
  · exact h.all _ (getD_mem hi)
  · rw [List.getD_eq_getElem?_getD, List.getElem?_eq_none (by omega)]
    exact Nat.zero_le _
theorem frise_l0 {x : List UInt8} {s : Sp} {l : List (List UInt8)} (hs : Small l x s) : ∀ (k i : Nat), i ≤ l.length → 2001 + (l.length - i) < k → sluicegateref12_Rise.l0 k l ((i + 1 : Nat) : Int) = some (rises (l.drop i))
  | 0, i, _, h => by omega
  | k + 1, i, hi, hk => by
    have h80 := hs.len
    rw [sluicegateref12_Rise.l0]
    by_cases h : i + 1 < l.length
    · have g1 : (0 : Int) ≤ (i : Int) ∧ (i : Int) < (l.length : Int) := by omega
      have g2 : (0 : Int) ≤ ((i + 1 : Nat) : Int) ∧ ((i + 1 : Nat) : Int) < (l.length : Int) := by omega
      have k1 : (l.getD i default).length ≤ 300 := hs.get i
      have k2 : (l.getD (i + 1) default).length ≤ 300 := hs.get (i + 1)
      rw [if_pos (decide_eq_true g2.2), w64_pred (by omega) (by omega), Nat.add_sub_cancel, if_pos g1, if_pos g2, gt_nat, gt_nat, compare_pure (by omega) (by omega) (by omega), Option.bind_some, scmp_ge, w64_succ (by omega), frise_l0 hs k (i + 1) (by omega) (by omega), rises_drop h]
      show (if (!Op.bytesLess (l.getD i []) (l.getD (i + 1) [])) = true then some false else some (rises (l.drop (i + 1)))) = _
      cases Op.bytesLess (l.getD i []) (l.getD (i + 1) []) <;> rfl
    · rw [if_neg (by simp only [decide_eq_true_eq]; omega), rises_end (by omega)]
theorem frise_pure {x : List UInt8} {s : Sp} {l : List (List UInt8)} (hs : Small l x s) {k : Nat} (hk : 3000 < k) : sluicegateref12_Rise.f k l = some (rises l) := by
  have := frise_l0 hs k 0 (by omega) (by have := hs.len; omega)
  simpa [sluicegateref12_Rise.f] using this
/-! the way -/
def AtWay (l : List (List UInt8)) (x : List UInt8) (w : Nat) : Prop := w ≤ l.length ∧ (∀ j, j < w → Op.bytesLess x (l.getD j []) = false) ∧ ∀ j, w ≤ j → j < l.length → Op.bytesLess x (l.getD j []) = true
theorem rises_get {l : List (List UInt8)} (h : rises l = true) : ∀ {i j : Nat}, i < j → j < l.length → Op.bytesLess (l.getD i []) (l.getD j []) = true := by
  have step : ∀ i, i + 1 < l.length → rises (l.drop i) = true → Op.bytesLess (l.getD i []) (l.getD (i + 1) []) = true ∧ rises (l.drop (i + 1)) = true := fun i hi hr => by
    rw [rises_drop hi, Bool.and_eq_true] at hr
    exact hr
  have all : ∀ i, i < l.length → rises (l.drop i) = true := fun i => by
    induction i with
    | zero => intro _; simpa using h
    | succ i ih => intro hi; exact (step i hi (ih (by omega))).2
  intro i j hij hj
  induction j with
  | zero => omega
  | succ j ih =>
    have one := (step j hj (all j (by omega))).1
    by_cases e : i = j
    · subst e; exact one
    · exact bl_trans (ih (by omega) (by omega)) one
theorem fsearch_l0 {l : List (List UInt8)} {x : List UInt8} (hl : l.length ≤ 80) : ∀ (k a b : Nat), a ≤ b → b ≤ l.length → b - a < k → (∀ i j, i < j → j < l.length → Op.bytesLess (l.getD i []) (l.getD j []) = true) → (∀ j, j < a → Op.bytesLess (l.getD j []) x = true) → (∀ j, b ≤ j → j < l.length → Op.bytesLess (l.getD j []) x = false) →
    ∃ c : Nat, slices_BinarySearchFunc_string_string_string_lex_Compare.l0 k l x (a : Int) (b : Int) = some ((c : Int), decide (c < l.length ∧ l.getD c [] = x)) ∧ c ≤ l.length ∧ (∀ j, j < c → Op.bytesLess (l.getD j []) x = true) ∧ (∀ j, c ≤ j → j < l.length → Op.bytesLess (l.getD j []) x = false)
  | 0, a, b, _, _, h, _, _, _ => by omega
  | k + 1, a, b, hab, hb, hk, hr, h1, h2 => by
    rw [slices_BinarySearchFunc_string_string_string_lex_Compare.l0]
    by_cases h : a < b
    · have w : w64 ((Int.fdiv (IntKind.u64.wrap ((w64 ((a : Int) + (b : Int))))) (2 ^ 1))) = (((a + b) / 2 : Nat) : Int) := by
        rw [w64_id (x := (a : Int) + (b : Int)) (by omega) (by omega)]
        have u : IntKind.u64.wrap ((a : Int) + (b : Int)) = (a : Int) + (b : Int) := by
          simp only [IntKind.wrap, IntKind.signed, IntKind.bits]
          simp
          omega
        rw [u, Int.fdiv_eq_ediv_of_nonneg _ (by decide)]
        rw [w64_id (by omega) (by omega)]
        omega
      have g1 : (0 : Int) ≤ (((a + b) / 2 : Nat) : Int) ∧ (((a + b) / 2 : Nat) : Int) < (l.length : Int) := by omega
      rw [if_pos (decide_eq_true (by omega)), w, if_pos g1, gt_nat, lexCompare_pure, Option.bind_some, w64_succ (by omega)]
      show ∃ c : Nat, (if decide (scmp (l.getD ((a + b) / 2) []) x < 0) = true then _ else _) = _ ∧ _
      cases e : Op.bytesLess (l.getD ((a + b) / 2) []) x with
      | true =>
        rw [if_pos (decide_eq_true (scmp_lt.2 e))]
        refine fsearch_l0 hl k _ b (by omega) hb (by omega) hr (fun j hj => ?_) h2
        by_cases q : j = (a + b) / 2
        · subst q; exact e
        · exact bl_trans (hr j ((a + b) / 2) (by omega) (by omega)) e
      | false =>
        rw [if_neg (by simp only [decide_eq_true_eq, scmp_lt, e]; simp)]
        refine fsearch_l0 hl k a _ (by omega) (by omega) (by omega) hr h1 fun j hj hjl => ?_
        by_cases q : j = (a + b) / 2
        · subst q; exact e
        · exact bl_le_trans e (bl_asymm (hr ((a + b) / 2) j (by omega) hjl))
    · obtain rfl : a = b := by omega
      rw [if_neg (by simp only [decide_eq_true_eq]; omega)]
      refine ⟨a, ?_, hb, h1, h2⟩
      by_cases q : a < l.length
      · have g1 : (0 : Int) ≤ (a : Int) ∧ (a : Int) < (l.length : Int) := by omega
        rw [if_pos (decide_eq_true (by omega)), if_pos g1, gt_nat, lexCompare_pure, Option.bind_some]
        show some ((a : Int), decide (scmp (l.getD a []) x = 0)) = _
        simp only [scmp_eq, q, true_and]
      · rw [if_neg (by simp only [decide_eq_true_eq]; omega)]
        simp [q]
theorem way_pure {l : List (List UInt8)} {x : List UInt8} (hl : l.length ≤ 80) (hr : rises l = true) {k : Nat} (hk : 100 < k) : ∃ w : Nat, fan_Way.f k l x = some (w : Int) ∧ AtWay l x w := by
  obtain ⟨c, h1, h2, h3, h4⟩ := fsearch_l0 (x := x) hl k 0 l.length (by omega) (by omega) (by omega) (fun i j => rises_get hr) (fun j hj => by omega) (fun j hj hjl => by omega)
  have h1' : slices_BinarySearchFunc_string_string_string_lex_Compare.f k l x = _ := h1
  unfold fan_Way.f
  rw [h1', Option.bind_some]
  by_cases e : c < l.length ∧ l.getD c [] = x
  · rw [if_pos (by simp only [e, and_self, decide_true]), w64_succ (by omega)]
    refine ⟨c + 1, rfl, by omega, fun j hj => ?_, fun j hj hjl => ?_⟩
    · by_cases q : j = c
      · subst q; rw [e.2, bl_irr]
      · exact bl_asymm (h3 j (by omega))
    · have := rises_get hr (i := c) (j := j) (by omega) hjl
      rwa [e.2] at this
  · rw [if_neg (by simp only [e, decide_false]; simp)]
    refine ⟨c, rfl, h2, fun j hj => bl_asymm (h3 j hj), fun j hj hjl => ?_⟩
    have h5 := h4 j hj hjl
    rcases bl_ge h5 with q | q
    · exfalso
      by_cases z : j = c
      · subst z; exact e ⟨hjl, q⟩
      · have := rises_get hr (i := c) (j := j) (by omega) hjl
        rw [q, h4 c (by omega) (by omega)] at this
        cases this
    · exact q
/-! what a kid has -/
def ownS (l : List (List UInt8)) (i : Nat) : Sp := (if 0 < i then l.getD (i - 1) [] else [], if i = l.length then [] else l.getD i [], decide (i = l.length))
theorem sum_set : ∀ (l : List Int) (i : Nat) (v : Int), i < l.length → (l.set i v).sum = l.sum - l.getD i default + v
  | [], i, v, h => by simp at h
  | a :: r, 0, v, _ => by simp [List.sum_cons]; omega
  | a :: r, i + 1, v, h => by
    have := sum_set r i v (by simpa using h)
    simp only [List.set_cons_succ, List.sum_cons, this, List.getD_cons_succ]
    omega
theorem sum_zeros : ∀ n : Nat, (List.replicate n (0 : Int)).sum = 0
  | 0 => rfl
  | n + 1 => by rw [List.replicate_succ, List.sum_cons, sum_zeros n]; rfl
theorem sum_most {M : Int} : ∀ (l : List Int), (∀ x ∈ l, x ≤ M) → l.sum ≤ M * l.length
  | [], _ => by simp
  | a :: r, h => by
    have h1 := h a (by simp)
    have h2 := sum_most r (fun x hx => h x (by simp [hx]))
    rw [List.sum_cons, List.length_cons]
    have : M * ((r.length + 1 : Nat) : Int) = M * (r.length : Int) + M := by
      rw [Int.natCast_add, Int.mul_add]
      simp
    omega
structure OkLd (n t : Nat) (l : List Int) : Prop where
  len : l.length = n
  sum : l.sum = t
  low : ∀ x ∈ l, 0 ≤ x ∧ x ≤ t
theorem OkLd.step {n t i : Nat} {l : List Int} (h : OkLd n t l) (hi : i < n) : OkLd n (t + 1) (l.set i (l.getD i default + 1)) := by
  have hl := h.len
  have hm := h.low _ (getD_mem (d := default) (show i < l.length by omega))
  refine ⟨by rw [List.length_set, hl], ?_, fun x hx => ?_⟩
  · rw [sum_set _ _ _ (by omega), h.sum]
    omega
  · rcases List.mem_or_eq_of_mem_set hx with hx | rfl
    · have := h.low x hx
      omega
    · omega
theorem loads_l0 {n : Nd} (hn : SmallN n) (hr : rises n.2.2.1 = true) (he : n.2.2.1.length + 1 = n.2.1.length) : ∀ (m i k : Nat) (x : List Int), n.2.2.2.1.length = i + m → 200 + m < k → OkLd n.2.1.length i x → ∃ L, node_Loads.l0 k n x (i : Int) = some L ∧ OkLd n.2.1.length n.2.2.2.1.length L
  | 0, i, k + 1, x, h, hk, hx => by
    rw [node_Loads.l0, if_neg (by simp only [decide_eq_true_eq]; omega)]
    exact ⟨x, rfl, by rw [h]; exact hx⟩
  | m + 1, i, k + 1, x, h, hk, hx => by
    have hb := hn.buf
    have hp := hn.pivs
    obtain ⟨w, e1, e2⟩ := way_pure (x := (n.2.2.2.1.getD i default).1) hp hr (k := k) (by omega)
    have w1 := e2.1
    have hl := hx.len
    have hm := hx.low _ (getD_mem (d := default) (show w < x.length by omega))
    obtain ⟨L, l1, l2⟩ := loads_l0 hn hr he m (i + 1) k (x.set w (x.getD w default + 1)) (by omega) (by omega) (hx.step (by omega))
    refine ⟨L, ?_, l2⟩
    rw [node_Loads.l0, if_pos (decide_eq_true (by omega)), if_pos (by omega), gt_nat, e1, Option.bind_some, if_pos (decide_eq_true (by omega)), if_pos (by omega), gt_nat, Int.toNat_natCast, w64_id (x := x.getD w default + 1) (by omega) (by omega), w64_id (by omega) (by omega)]
    exact l1
theorem loads_pure {n : Nd} (hn : SmallN n) (hr : rises n.2.2.1 = true) (he : n.2.2.1.length + 1 = n.2.1.length) {k : Nat} (hk : 400 < k) : ∃ L, node_Loads.f k n = some L ∧ OkLd n.2.1.length n.2.2.2.1.length L := by
  have hb := hn.buf
  have hp := hn.kids
  obtain ⟨L, l1, l2⟩ := loads_l0 hn hr he n.2.2.2.1.length 0 k (List.replicate n.2.1.length 0) (by omega) (by omega) ⟨by simp, by rw [sum_zeros]; rfl, fun x hx => by rw [List.mem_replicate] at hx; omega⟩
  refine ⟨L, ?_, l2⟩
  unfold node_Loads.f
  rw [if_pos (by omega), Int.toNat_natCast]
  exact l1
theorem heaviest_l0 {L : List Int} (hL : L.length ≤ 100) : ∀ (m i a k : Nat), L.length = i + m → m < k → a < L.length → (∀ j, j < i → L.getD j default ≤ L.getD a default) → ∃ a' : Nat, node_Heaviest.l0 k L (a : Int) (i : Int) = some ((a' : Int), L.getD a' default) ∧ a' < L.length ∧ ∀ j, j < L.length → L.getD j default ≤ L.getD a' default
  | 0, i, a, k + 1, h, _, ha, hj => by
    rw [node_Heaviest.l0, if_neg (by simp only [decide_eq_true_eq]; omega), if_pos (by omega), gt_nat]
    exact ⟨a, rfl, ha, fun j h' => hj j (by omega)⟩
  | m + 1, i, a, k + 1, h, hk, ha, hj => by
    rw [node_Heaviest.l0, if_pos (decide_eq_true (by omega)), if_pos (by omega), if_pos (by omega), gt_nat, gt_nat, w64_id (by omega) (by omega)]
    by_cases c : L.getD a default < L.getD i default
    · rw [if_pos (decide_eq_true c)]
      exact heaviest_l0 hL m (i + 1) i k (by omega) (by omega) (by omega) fun j h' => by
        by_cases e : j = i
        · subst e; exact Int.le_refl _
        · have := hj j (by omega); omega
    · rw [if_neg (by simpa using c)]
      exact heaviest_l0 hL m (i + 1) a k (by omega) (by omega) ha fun j h' => by
        by_cases e : j = i
        · subst e; omega
        · exact hj j (by omega)
theorem heaviest_pure {n : Nd} {L : List Int} (hn : SmallN n) (he : n.2.2.1.length + 1 = n.2.1.length) {k : Nat} (hk : 400 < k) (e : node_Loads.f k n = some L) (h : OkLd n.2.1.length n.2.2.2.1.length L) :
    ∃ a : Nat, node_Heaviest.f k n = some ((a : Int), L.getD a default) ∧ a < L.length ∧ ∀ j, j < L.length → L.getD j default ≤ L.getD a default := by
  have hl := h.len
  have hp := hn.kids
  unfold node_Heaviest.f
  rw [show node_Loads.f k (n.1, n.2.1, n.2.2.1, n.2.2.2.1, n.2.2.2.2) = _ from e, Option.bind_some, if_neg (by simp only [decide_eq_true_eq]; omega)]
  exact heaviest_l0 (L := L) (by omega) L.length 0 0 k (by omega) (by omega) (by omega) fun j h' => by omega
/-- whether it is plain -/
theorem plain_pure {n : Nd} (hn : SmallN n) {k : Nat} (hk : 3000 < k) : ∃ b, sluicegateref13_Plain.f k n = some b ∧ (b = true → rises n.2.2.1 = true ∧ n.2.2.1.length + 1 = n.2.1.length) := by
  have h1 := refright_pure (n := n) hn.mid hk
  have h2 := rise_pure (s := ([], [], true)) (l := n.2.2.1) ⟨by have := hn.pivs; omega, fun p hp => by have := hn.pk p hp; omega, by simp, by simp⟩ hk
  have hp := hn.pivs
  unfold sluicegateref13_Plain.f
  rw [h1, Option.bind_some, h2]
  cases riseM n.2.2.2.1 with
  | false => exact ⟨false, rfl, fun h => by cases h⟩
  | true =>
    rw [if_pos rfl, Option.bind_some]
    cases hq : rises n.2.2.1 with
    | false => exact ⟨false, rfl, fun h => by cases h⟩
    | true =>
      rw [if_pos rfl, w64_id (by omega) (by omega)]
      exact ⟨_, rfl, fun h => ⟨rfl, by have := of_decide_eq_true h; omega⟩⟩
theorem awake13_pure (k : Nat) : sluicegatelaw13_awake.f (k + 40) = some true := by rfl
/-- the first place of a block -/
def Ix (l : List Int) (b r : Int) : Prop := (r = -1 ∧ ∀ j, j < l.length → l.getD j default ≠ b) ∨ ∃ i : Nat, r = i ∧ i < l.length ∧ l.getD i default = b ∧ ∀ j, j < i → l.getD j default ≠ b
theorem Ix.uniq {l : List Int} {b r s : Int} (h1 : Ix l b r) (h2 : Ix l b s) : r = s := by
  rcases h1 with ⟨rfl, h1⟩ | ⟨i, rfl, hi, ei, fi⟩
  · rcases h2 with ⟨rfl, h2⟩ | ⟨j, rfl, hj, ej, fj⟩
    · rfl
    · exact absurd ej (h1 j hj)
  · rcases h2 with ⟨rfl, h2⟩ | ⟨j, rfl, hj, ej, fj⟩
    · exact absurd ei (h2 i hi)
    · have a : ¬ i < j := fun h => fj i h ei
      have b : ¬ j < i := fun h => fi j h ej
      omega
theorem index_l0 {l : List Int} {b : Int} (hl : l.length ≤ 100) : ∀ (m i k : Nat), l.length = i + m → m < k → (∀ j, j < i → l.getD j default ≠ b) → ∃ r, slices_Index_uint32_uint32.l0 k l b (i : Int) = some r ∧ Ix l b r
  | 0, i, k + 1, h, _, hj => by
    rw [slices_Index_uint32_uint32.l0, if_neg (by simp only [decide_eq_true_eq]; omega)]
    exact ⟨-1, rfl, .inl ⟨rfl, fun j h' => hj j (by omega)⟩⟩
  | m + 1, i, k + 1, h, hk, hj => by
    rw [slices_Index_uint32_uint32.l0, if_pos (decide_eq_true (by omega)), if_pos (by omega), gt_nat]
    by_cases c : b = l.getD i default
    · rw [if_pos (decide_eq_true c)]
      exact ⟨_, rfl, .inr ⟨i, rfl, by omega, c.symm, hj⟩⟩
    · rw [if_neg (by simpa using c), w64_id (by omega) (by omega)]
      exact index_l0 hl m (i + 1) k (by omega) (by omega) fun j h' => by
        by_cases e : j = i
        · subst e; exact fun z => c z.symm
        · exact hj j (by omega)
theorem all_l1 {n : Nd} {b : Int} {r6 : Int × Int} {r : Int} {sum : Int} (hl : n.2.1.length ≤ 80) (hix : Ix n.2.1 b r) (hs : sum = n.2.2.2.1.length) (hr : (n.2.2.2.1.length : Int) ≤ r6.2 * n.2.1.length) (h6 : 0 ≤ r6.2 ∧ r6.2 ≤ 150) :
    ∀ (m k : Nat) (x : Int), m ≤ n.2.1.length → m + 100 < k → ((x = -1 ∧ ∀ j, m ≤ j → j < n.2.1.length → n.2.1.getD j default ≠ b) ∨ ∃ i : Nat, x = i ∧ m ≤ i ∧ i < n.2.1.length ∧ n.2.1.getD i default = b ∧ ∀ j, m ≤ j → j < i → n.2.1.getD j default ≠ b) →
      sluicegatelaw13_NodeAll.l1 k n b r6 ((if r > 0 then r else 0), decide (0 ≤ r)) sum x ((m : Int) - 1) = some true
  | 0, k + 1, x, hm, hk, hx => by
    have e : x = r := Ix.uniq (l := n.2.1) (b := b) (by
      rcases hx with ⟨rfl, h⟩ | ⟨i, rfl, _, h1, h2, h3⟩
      · exact .inl ⟨rfl, fun j hj => h j (by omega) hj⟩
      · exact .inr ⟨i, rfl, h1, h2, fun j hj => h3 j (by omega) hj⟩) hix
    obtain ⟨k', rfl⟩ : ∃ k', k = k' + 40 := ⟨k - 40, by omega⟩
    have hb : r6.2 * (n.2.1.length : Int) ≤ 150 * 80 := Int.mul_le_mul h6.2 (by omega) (by omega) (by omega)
    rw [sluicegatelaw13_NodeAll.l1, if_neg (by simp), if_pos (decide_eq_true hs), w64_id (x := r6.2 * (n.2.1.length : Int)) (by omega) (by omega), if_pos (decide_eq_true hr), awake13_pure, e]
    by_cases c : 0 ≤ r
    · rw [if_pos (by simp), if_pos (by simp [c]), if_pos (decide_eq_true (by dsimp only; split <;> omega))]
      rfl
    · rw [if_pos (by simp), if_neg (by simp [c]), if_pos (by simp [c]), if_pos (decide_eq_true (by dsimp only; split <;> omega))]
      rfl
  | m + 1, k + 1, x, hm, hk, hx => by
    rw [sluicegatelaw13_NodeAll.l1, show (((m + 1 : Nat) : Int) - 1) = (m : Int) by omega, if_pos (decide_eq_true (by omega)), if_pos (by omega), gt_nat, w64_id (by omega) (by omega)]
    by_cases c : n.2.1.getD m default = b
    · rw [if_pos (decide_eq_true c)]
      exact all_l1 hl hix hs hr h6 m k _ (by omega) (by omega) (.inr ⟨m, rfl, Nat.le_refl _, by omega, c, fun j h1 h2 => by omega⟩)
    · rw [if_neg (by simpa using c)]
      refine all_l1 hl hix hs hr h6 m k _ (by omega) (by omega) ?_
      have next : ∀ j, m ≤ j → (m + 1 ≤ j → n.2.1.getD j default ≠ b) → n.2.1.getD j default ≠ b := fun j h1 h2 => by
        by_cases e : j = m
        · subst e; exact c
        · exact h2 (by omega)
      rcases hx with ⟨rfl, h⟩ | ⟨i, rfl, h0, h1, h2, h3⟩
      · exact .inl ⟨rfl, fun j hj hl => next j hj fun z => h j z hl⟩
      · exact .inr ⟨i, rfl, by omega, h1, h2, fun j hj hl => next j hj fun z => h3 j z hl⟩
theorem all_l0 {n : Nd} {b : Int} {L : List Int} (hn : SmallN n) (hr : rises n.2.2.1 = true) (he : n.2.2.1.length + 1 = n.2.1.length) (hL : OkLd n.2.1.length n.2.2.2.1.length L) :
    ∀ (m i k : Nat), L.length = i + m → 500 + m < k → sluicegatelaw13_NodeAll.l0 k n b L (L.take i).sum (i : Int) = some true
  | 0, i, k + 1, h, hk => by
    have hl := hL.len
    have hp := hn.kids
    have hb := hn.buf
    obtain ⟨L', l1, l2⟩ := loads_pure hn hr he (k := k) (by omega)
    obtain ⟨a, h1, h2, h3⟩ := heaviest_pure hn he (k := k) (by omega) l1 l2
    obtain ⟨r, h4, h5⟩ := index_l0 (b := b) (show n.2.1.length ≤ 100 by omega) n.2.1.length 0 k (by omega) (by omega) (fun j h => by omega)
    have hl' := l2.len
    have ha := l2.low _ (getD_mem (d := default) h2)
    have hm : L'.sum ≤ L'.getD a default * L'.length := sum_most L' fun x hx => by
      obtain ⟨j, hj, rfl⟩ := List.getElem_of_mem hx
      have := h3 j hj
      rwa [List.getD_eq_getElem?_getD, List.getElem?_eq_getElem hj] at this
    rw [sluicegatelaw13_NodeAll.l0, if_neg (by simp only [decide_eq_true_eq]; omega), show node_Heaviest.f k (n.1, n.2.1, n.2.2.1, n.2.2.2.1, n.2.2.2.2) = _ from h1, Option.bind_some]
    unfold node_Find.f
    rw [show slices_Index_uint32_uint32.f k n.2.1 b = _ from h4, Option.bind_some, Option.bind_some, w64_id (by omega) (by omega), List.take_of_length_le (by omega)]
    rw [l2.sum, hl'] at hm
    exact all_l1 (r6 := ((a : Int), L'.getD a default)) hp h5 hL.sum hm ⟨ha.1, by dsimp only; omega⟩ n.2.1.length k (-1) (Nat.le_refl _) (by omega) (.inl ⟨rfl, fun j a b => by omega⟩)
  | m + 1, i, k + 1, h, hk => by
    have hl := hL.len
    have hp := hn.kids
    have hb := hn.buf
    have hx : 0 ≤ (L.take i).sum ∧ (L.take i).sum ≤ 1000000 := by
      have up : ∀ l : List Int, (∀ x ∈ l, 0 ≤ x ∧ x ≤ 150) → 0 ≤ l.sum ∧ l.sum ≤ 150 * l.length := fun l hl => by
        induction l with
        | nil => simp
        | cons a r ih =>
          have := hl a (by simp)
          have := ih fun x hx => hl x (by simp [hx])
          rw [List.sum_cons, List.length_cons]
          omega
      have := up (L.take i) fun x hx => by have := hL.low x (List.mem_of_mem_take hx); omega
      rw [List.length_take] at this
      omega
    have hv := hL.low _ (getD_mem (d := default) (show i < L.length by omega))
    rw [sluicegatelaw13_NodeAll.l0, if_pos (decide_eq_true (by omega)), if_pos (by omega), gt_nat, w64_id (x := (L.take i).sum + L.getD i default) (by omega) (by omega), w64_id (by omega) (by omega)]
    have e : (L.take i).sum + L.getD i default = (L.take (i + 1)).sum := by rw [take_get (by omega), List.sum_append]; simp
    rw [e]
    exact all_l0 hn hr he hL m (i + 1) k (by omega) (by omega)
theorem NodeAll_pure {p q : Prop} (n : Nd) (b : Int) (_ : p) (_ : q) : ∃ k, sluicegatelaw13_NodeAll.f k n b = some true := by
  refine ⟨20000 + 40, ?_⟩
  obtain ⟨g, e1, d1⟩ := greatN_pure n (k := 20000 + 40) (by omega)
  unfold sluicegatelaw13_NodeAll.f
  rw [show sluicegatelaw13_Great.f (20000 + 40) (n.1, n.2.1, n.2.2.1, n.2.2.2.1, n.2.2.2.2) = _ from e1, Option.bind_some, awake13_pure]
  cases g with
  | true => rfl
  | false =>
    have hn := d1 rfl
    obtain ⟨g2, e2, d2⟩ := plain_pure hn (k := 20000 + 40) (by omega)
    rw [if_neg (by simp), show sluicegateref13_Plain.f (20000 + 40) (n.1, n.2.1, n.2.2.1, n.2.2.2.1, n.2.2.2.2) = _ from e2, Option.bind_some]
    cases g2 with
    | false => rfl
    | true =>
      obtain ⟨hr, he⟩ := d2 rfl
      have hp := hn.kids
      obtain ⟨L, l1, l2⟩ := loads_pure hn hr he (k := 20000 + 40) (by omega)
      have hl := l2.len
      rw [if_neg (by simp), show node_Loads.f (20000 + 40) (n.1, n.2.1, n.2.2.1, n.2.2.2.1, n.2.2.2.2) = _ from l1, Option.bind_some]
      exact all_l0 hn hr he l2 L.length 0 (20000 + 40) (by omega) (by omega)
end Go.SK.T
