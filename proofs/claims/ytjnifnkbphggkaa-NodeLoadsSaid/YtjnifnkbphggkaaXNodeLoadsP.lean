/- The plain law behind NodeLoads: what its code computes is true for all nodes. -/
import Derived.Test.YtjnifnkbphggkaaXNodeLoadsF1
import Derived.Sort.Lot0
set_option linter.unusedVariables false
set_option linter.unusedSimpArgs false
namespace Go.SK.T
open Go Go.SK
theorem compare_l0 : ∀ (k : Nat) (a b : List UInt8) (i : Nat), a.length ≤ 4611686018427387904 → b.length ≤ 4611686018427387904 → i ≤ a.length → i ≤ b.length → a.length - i < k →
    sluicegateref01_Compare.l0 k a b (i : Int) = some (scmp (a.drop i) (b.drop i))
  | 0, a, b, i, _, _, _, _, h => by omega
  | k + 1, a, b, i, ha, hb, hia, hib, hk => by
    unfold sluicegateref01_Compare.l0
    by_cases h1 : i < a.length
    · by_cases h2 : i < b.length
      · have g1 : (0 : Int) ≤ (i : Int) ∧ (i : Int) < (a.length : Int) := by omega
        have g2 : (0 : Int) ≤ (i : Int) ∧ (i : Int) < (b.length : Int) := by omega
        have w : w64 ((i : Int) + 1) = ((i + 1 : Nat) : Int) := by rw [w64_id (by omega) (by omega)]; omega
        have ih := compare_l0 k a b (i + 1) ha hb (by omega) (by omega) (by omega)
        simp only [g1.2, g2.2, g1, g2, decide_true, if_true, and_self, w, ih, gtb_lt, Int.toNat_natCast, drop_byte h1, drop_byte h2, scmp_cons, decide_eq_true_eq]
        split
        · rfl
        · split <;> rfl
      · have g1 : (i : Int) < (a.length : Int) := by omega
        have g2 : ¬ (i : Int) < (b.length : Int) := by omega
        have e : b.drop i = [] := List.drop_eq_nil_of_le (by omega)
        have z1 : ¬ (a.length : Int) < (b.length : Int) := by omega
        have z2 : (b.length : Int) < (a.length : Int) := by omega
        have z3 : ¬ (a.drop i).length = 0 := by rw [List.length_drop]; omega
        simp [g1, g2, e, z1, z2, scmp_nil_right, z3]
        omega
    · have g1 : ¬ (i : Int) < (a.length : Int) := by omega
      have e : a.drop i = [] := List.drop_eq_nil_of_le (by omega)
      have z : (b.drop i).length = b.length - i := List.length_drop ..
      simp only [g1, e, scmp_nil_left, z, decide_false, Bool.false_eq_true, if_false, decide_eq_true_eq]
      by_cases h2 : b.length = i
      · have z1 : ¬ (a.length : Int) < (b.length : Int) := by omega
        have z2 : ¬ (b.length : Int) < (a.length : Int) := by omega
        have h3 : a.length = i := by omega
        simp [h2, h3]
      · have z1 : (a.length : Int) < (b.length : Int) := by omega
        have z2 : ¬ b.length - i = 0 := by omega
        simp [z1, z2]
theorem compare_pure {k : Nat} {a b : List UInt8} (ha : a.length ≤ 2000) (hb : b.length ≤ 2000) (hk : 2000 < k) : sluicegateref01_Compare.f k a b = some (scmp a b) := by
  have := compare_l0 k a b 0 (by omega) (by omega) (by omega) (by omega) (by omega)
  simpa [sluicegateref01_Compare.f] using this
abbrev Msg := List UInt8 × Bool × List UInt8
theorem msg_eq (x y : Msg) : (decide (x.1 = y.1) && ((x.2.1 == y.2.1) && (decide (x.2.2 = y.2.2) && true))) = decide (x = y) := by
  obtain ⟨a, b, c⟩ := x
  obtain ⟨d, e, f⟩ := y
  by_cases h1 : a = d <;> by_cases h2 : b = e <;> by_cases h3 : c = f <;> simp [h1, h2, h3]
abbrev Cfg := Int × Int × Int × Int × Int × Int × Int × Int
abbrev Pr := List UInt8 × List UInt8
abbrev Nd := Int × List Int × List (List UInt8) × List Msg × List Pr
/-- what is not great -/
structure SmallN (n : Nd) : Prop where
  kids : n.2.1.length ≤ 80
  pivs : n.2.2.1.length ≤ 80
  buf : n.2.2.2.1.length ≤ 150
  prs : n.2.2.2.2.length ≤ 150
  pk : ∀ p ∈ n.2.2.1, p.length ≤ 200
  bk : ∀ m ∈ n.2.2.2.1, m.1.length ≤ 200
  rk : ∀ m ∈ n.2.2.2.2, m.1.length ≤ 200
/-- what may be asked whether it is right -/
structure MidN (n : Nd) : Prop where
  kids : n.2.1.length ≤ 80
  pivs : n.2.2.1.length ≤ 80
  buf : n.2.2.2.1.length ≤ 400
  prs : n.2.2.2.2.length ≤ 400
  pk : ∀ p ∈ n.2.2.1, p.length ≤ 300
  bk : ∀ m ∈ n.2.2.2.1, m.1.length ≤ 300
  rk : ∀ m ∈ n.2.2.2.2, m.1.length ≤ 300
theorem SmallN.mid {n : Nd} (h : SmallN n) : MidN n := ⟨h.kids, h.pivs, by have := h.buf; omega, by have := h.prs; omega, fun p hp => by have := h.pk p hp; omega, fun p hp => by have := h.bk p hp; omega, fun p hp => by have := h.rk p hp; omega⟩
theorem great_l2 (n : Nd) (hb : n.2.2.2.2.length ≤ 150) : ∀ (k i : Nat), i ≤ n.2.2.2.2.length → n.2.2.2.2.length - i < k → (∀ m ∈ n.2.2.2.2.take i, m.1.length ≤ 200) →
    ∃ g, sluicegatelaw13_Great.l2 k n (i : Int) = some g ∧ (g = false → ∀ m ∈ n.2.2.2.2, m.1.length ≤ 200)
  | 0, i, _, h, _ => by omega
  | k + 1, i, hi, hk, hm => by
    rw [sluicegatelaw13_Great.l2]
    by_cases h : i < n.2.2.2.2.length
    · have g1 : (0 : Int) ≤ (i : Int) ∧ (i : Int) < (n.2.2.2.2.length : Int) := by omega
      rw [if_pos (decide_eq_true g1.2), if_pos g1, gt_nat]
      by_cases h2 : 200 < (n.2.2.2.2.getD i default).1.length
      · exact ⟨true, by rw [if_pos (decide_eq_true (by omega))], fun h => by cases h⟩
      · rw [if_neg (by simp only [decide_eq_true_eq]; omega), w64_succ (by omega)]
        refine great_l2 n hb k (i + 1) (by omega) (by omega) fun m hm' => ?_
        rw [List.take_add_one, List.mem_append] at hm'
        rcases hm' with hm' | hm'
        · exact hm m hm'
        · rw [List.getElem?_eq_getElem h] at hm'
          simp only [Option.toList_some, List.mem_singleton] at hm'
          subst hm'
          rw [List.getD_eq_getElem?_getD, List.getElem?_eq_getElem h] at h2
          simp only [Option.getD_some] at h2
          omega
    · rw [if_neg (by simp only [decide_eq_true_eq]; omega)]
      exact ⟨false, rfl, fun _ => by rwa [List.take_of_length_le (by omega)] at hm⟩
theorem great_l1 (n : Nd) (hb : n.2.2.2.2.length ≤ 150) (hc : n.2.2.2.1.length ≤ 150) : ∀ (k i : Nat), i ≤ n.2.2.2.1.length → 200 + (n.2.2.2.1.length - i) < k → (∀ m ∈ n.2.2.2.1.take i, m.1.length ≤ 200) →
    ∃ g, sluicegatelaw13_Great.l1 k n (i : Int) = some g ∧ (g = false → (∀ m ∈ n.2.2.2.1, m.1.length ≤ 200) ∧ ∀ m ∈ n.2.2.2.2, m.1.length ≤ 200)
  | 0, i, _, h, _ => by omega
  | k + 1, i, hi, hk, hm => by
    rw [sluicegatelaw13_Great.l1]
    by_cases h : i < n.2.2.2.1.length
    · have g1 : (0 : Int) ≤ (i : Int) ∧ (i : Int) < (n.2.2.2.1.length : Int) := by omega
      rw [if_pos (decide_eq_true g1.2), if_pos g1, gt_nat]
      by_cases h2 : 200 < (n.2.2.2.1.getD i default).1.length
      · exact ⟨true, by rw [if_pos (decide_eq_true (by omega))], fun h => by cases h⟩
      · rw [if_neg (by simp only [decide_eq_true_eq]; omega), w64_succ (by omega)]
        refine great_l1 n hb hc k (i + 1) (by omega) (by omega) fun m hm' => ?_
        rw [List.take_add_one, List.mem_append] at hm'
        rcases hm' with hm' | hm'
        · exact hm m hm'
        · rw [List.getElem?_eq_getElem h] at hm'
          simp only [Option.toList_some, List.mem_singleton] at hm'
          subst hm'
          rw [List.getD_eq_getElem?_getD, List.getElem?_eq_getElem h] at h2
          simp only [Option.getD_some] at h2
          omega
    · rw [if_neg (by simp only [decide_eq_true_eq]; omega)]
      obtain ⟨g, e1, e2⟩ := great_l2 n hb k 0 (by omega) (by omega) (by simp)
      rw [List.take_of_length_le (by omega)] at hm
      exact ⟨g, e1, fun e => ⟨hm, e2 e⟩⟩
theorem great_l0 (n : Nd) (hb : n.2.2.2.2.length ≤ 150) (hc : n.2.2.2.1.length ≤ 150) (hd : n.2.2.1.length ≤ 80) : ∀ (k i : Nat), i ≤ n.2.2.1.length → 400 + (n.2.2.1.length - i) < k → (∀ m ∈ n.2.2.1.take i, m.length ≤ 200) →
    ∃ g, sluicegatelaw13_Great.l0 k n (i : Int) = some g ∧ (g = false → (∀ m ∈ n.2.2.1, m.length ≤ 200) ∧ (∀ m ∈ n.2.2.2.1, m.1.length ≤ 200) ∧ ∀ m ∈ n.2.2.2.2, m.1.length ≤ 200)
  | 0, i, _, h, _ => by omega
  | k + 1, i, hi, hk, hm => by
    rw [sluicegatelaw13_Great.l0]
    by_cases h : i < n.2.2.1.length
    · have g1 : (0 : Int) ≤ (i : Int) ∧ (i : Int) < (n.2.2.1.length : Int) := by omega
      rw [if_pos (decide_eq_true g1.2), if_pos g1, gt_nat]
      by_cases h2 : 200 < (n.2.2.1.getD i default).length
      · exact ⟨true, by rw [if_pos (decide_eq_true (by omega))], fun h => by cases h⟩
      · rw [if_neg (by simp only [decide_eq_true_eq]; omega), w64_succ (by omega)]
        refine great_l0 n hb hc hd k (i + 1) (by omega) (by omega) fun m hm' => ?_
        rw [List.take_add_one, List.mem_append] at hm'
        rcases hm' with hm' | hm'
        · exact hm m hm'
        · rw [List.getElem?_eq_getElem h] at hm'
          simp only [Option.toList_some, List.mem_singleton] at hm'
          subst hm'
          rw [List.getD_eq_getElem?_getD, List.getElem?_eq_getElem h] at h2
          simp only [Option.getD_some] at h2
          omega
    · rw [if_neg (by simp only [decide_eq_true_eq]; omega)]
      obtain ⟨g, e1, e2⟩ := great_l1 n hb hc k 0 (by omega) (by omega) (by simp)
      rw [List.take_of_length_le (by omega)] at hm
      exact ⟨g, e1, fun e => ⟨hm, e2 e⟩⟩
theorem greatN_pure (n : Nd) {k : Nat} (hk : 1000 < k) : ∃ g, sluicegatelaw13_Great.f k n = some g ∧ (g = false → SmallN n) := by
  unfold sluicegatelaw13_Great.f
  by_cases h1 : 80 < n.2.1.length
  · exact ⟨true, by rw [if_pos (decide_eq_true (by omega))], fun h => by cases h⟩
  · rw [if_neg (by simp only [decide_eq_true_eq]; omega)]
    by_cases h2 : 80 < n.2.2.1.length
    · exact ⟨true, by rw [if_pos (decide_eq_true (by omega))], fun h => by cases h⟩
    · rw [if_neg (by simp only [decide_eq_true_eq]; omega)]
      by_cases h3 : 150 < n.2.2.2.1.length
      · exact ⟨true, by rw [if_pos (decide_eq_true (by omega))], fun h => by cases h⟩
      · rw [if_neg (by simp only [decide_eq_true_eq]; omega)]
        by_cases h4 : 150 < n.2.2.2.2.length
        · exact ⟨true, by rw [if_pos (decide_eq_true (by omega))], fun h => by cases h⟩
        · rw [if_neg (by simp only [decide_eq_true_eq]; omega)]
          obtain ⟨g, e1, e2⟩ := great_l0 n (by omega) (by omega) (by omega) k 0 (by omega) (by omega) (by simp)
          exact ⟨g, e1, fun e => ⟨by omega, by omega, by omega, by omega, (e2 e).1, (e2 e).2.1, (e2 e).2.2⟩⟩
/-- settings that are right, as far as it is asked -/
structure OkC (c : Cfg) : Prop where
  fan : 8 ≤ c.2.2.2.1 ∧ c.2.2.2.1 ≤ 64
  key : 1 ≤ c.2.2.2.2.2.2.1 ∧ c.2.2.2.2.2.2.1 ≤ 64
  val : 0 ≤ c.2.2.2.2.2.2.2 ∧ c.2.2.2.2.2.2.2 ≤ 256
  buf : 16 ≤ c.2.2.2.2.1 ∧ c.2.2.2.2.1 ≤ 512
  leaf : c.2.2.2.2.1 ≤ c.2.2.2.2.2.1 ∧ c.2.2.2.2.2.1 ≤ 1024
abbrev Sp := List UInt8 × List UInt8 × Bool
def inS (s : Sp) (x : List UInt8) : Bool := !Op.bytesLess x s.1 && (s.2.2 || Op.bytesLess x s.2.1)
theorem scmp_ge (a b : List UInt8) : decide (0 ≤ scmp a b) = !Op.bytesLess a b := by
  rcases scmp_vals a b with ⟨e, h⟩ | ⟨e, rfl⟩ | ⟨e, h⟩
  · simp [e, h]
  · simp [e, bl_irr]
  · simp [e, bl_asymm h]
/-- do the keys of pairs rise? -/
def riseP : List Pr → Bool
  | a :: b :: r => Op.bytesLess a.1 b.1 && riseP (b :: r)
  | _ => true
theorem riseP_drop {l : List Pr} {i : Nat} (h : i + 1 < l.length) : riseP (l.drop i) = (Op.bytesLess (l.getD i default).1 (l.getD (i + 1) default).1 && riseP (l.drop (i + 1))) := by
  rw [drop_cons (show i < l.length by omega), drop_cons h]
  rfl
theorem riseP_end {l : List Pr} {i : Nat} (h : l.length ≤ i + 1) : riseP (l.drop i) = true := by
  by_cases h' : i < l.length
  · rw [drop_cons h', List.drop_eq_nil_of_le (by omega)]
    rfl
  · rw [List.drop_eq_nil_of_le (by omega)]
    rfl
def keyB (c : Cfg) (x : List UInt8) : Bool := decide (1 ≤ (x.length : Int) ∧ (x.length : Int) ≤ c.2.2.2.2.2.2.1)
def prB (c : Cfg) (s : Sp) (p : Pr) : Bool := keyB c p.1 && (inS s p.1 && decide ((p.2.length : Int) ≤ c.2.2.2.2.2.2.2))
def outB (c : Cfg) (s : Sp) (n : Nd) : Bool := n.2.2.2.2.all (prB c s) && (decide (n.2.1 = []) && (decide (n.2.2.1 = []) && (decide (n.2.2.2.1 = []) && (decide ((n.2.2.2.2.length : Int) ≤ c.2.2.2.2.2.1) && riseP n.2.2.2.2))))
theorem rises_drop {l : List (List UInt8)} {i : Nat} (h : i + 1 < l.length) : rises (l.drop i) = (Op.bytesLess (l.getD i []) (l.getD (i + 1) []) && rises (l.drop (i + 1))) := by
  rw [drop_cons (show i < l.length by omega), drop_cons h]
  rfl
theorem rises_end {l : List (List UInt8)} {i : Nat} (h : l.length ≤ i + 1) : rises (l.drop i) = true := by
  by_cases h' : i < l.length
  · rw [drop_cons h', List.drop_eq_nil_of_le (by omega)]
    rfl
  · rw [List.drop_eq_nil_of_le (by omega)]
    rfl
structure SmallL (l : List (List UInt8)) (s : Sp) : Prop where
  len : l.length ≤ 80
  all : ∀ p ∈ l, p.length ≤ 300
  lo : s.1.length ≤ 300
  hi : s.2.1.length ≤ 300
theorem SmallL.get {l : List (List UInt8)} {s : Sp} (h : SmallL l s) (i : Nat) : (l.getD i []).length ≤ 300 := by
  by_cases hi : i < l.length
  · exact h.all _ (getD_mem hi)
  · rw [List.getD_eq_getElem?_getD, List.getElem?_eq_none (by omega)]
    exact Nat.zero_le _
theorem rise_l0 {s : Sp} {l : List (List UInt8)} (hs : SmallL l s) : ∀ (k i : Nat), i ≤ l.length → 2001 + (l.length - i) < k → sluicegateref12_Rise.l0 k l ((i + 1 : Nat) : Int) = some (rises (l.drop i))
  | 0, i, _, h => by omega
  | k + 1, i, hi, hk => by
    have h80 := hs.len
    rw [sluicegateref12_Rise.l0]
    by_cases h : i + 1 < l.length
    · have g1 : (0 : Int) ≤ (i : Int) ∧ (i : Int) < (l.length : Int) := by omega
      have g2 : (0 : Int) ≤ ((i + 1 : Nat) : Int) ∧ ((i + 1 : Nat) : Int) < (l.length : Int) := by omega
      have k1 : (l.getD i default).length ≤ 300 := hs.get i
      have k2 : (l.getD (i + 1) default).length ≤ 300 := hs.get (i + 1)
      rw [if_pos (decide_eq_true g2.2), w64_pred (by omega) (by omega), Nat.add_sub_cancel, if_pos g1, if_pos g2, gt_nat, gt_nat, compare_pure (by omega) (by omega) (by omega), Option.bind_some, scmp_ge, w64_succ (by omega), rise_l0 hs k (i + 1) (by omega) (by omega), rises_drop h]
      show (if (!Op.bytesLess (l.getD i []) (l.getD (i + 1) [])) = true then some false else some (rises (l.drop (i + 1)))) = _
      cases Op.bytesLess (l.getD i []) (l.getD (i + 1) []) <;> rfl
    · rw [if_neg (by simp only [decide_eq_true_eq]; omega), rises_end (by omega)]
theorem rise_pure {s : Sp} {l : List (List UInt8)} (hs : SmallL l s) {k : Nat} (hk : 3000 < k) : sluicegateref12_Rise.f k l = some (rises l) := by
  have := rise_l0 hs k 0 (by omega) (by have := hs.len; omega)
  simpa [sluicegateref12_Rise.f] using this
def piv (s : Sp) (p : List UInt8) : Bool := inS s p && !decide (p = s.1)
/-- do the keys rise? -/
def riseM : List Msg → Bool
  | a :: b :: r => Op.bytesLess a.1 b.1 && riseM (b :: r)
  | _ => true
theorem riseM_drop {l : List Msg} {i : Nat} (h : i + 1 < l.length) : riseM (l.drop i) = (Op.bytesLess (l.getD i default).1 (l.getD (i + 1) default).1 && riseM (l.drop (i + 1))) := by
  rw [drop_cons (show i < l.length by omega), drop_cons h]
  rfl
theorem riseM_end {l : List Msg} {i : Nat} (h : l.length ≤ i + 1) : riseM (l.drop i) = true := by
  by_cases h' : i < l.length
  · rw [drop_cons h', List.drop_eq_nil_of_le (by omega)]
    rfl
  · rw [List.drop_eq_nil_of_le (by omega)]
    rfl
theorem refright_l0 : ∀ (k : Nat) (l : List Msg) (i : Nat), (l.length ≤ 400 ∧ ∀ m ∈ l, m.1.length ≤ 300) → i ≤ l.length → 2001 + (l.length - i) < k → sluicegateref10_Right.l0 k l ((i + 1 : Nat) : Int) = some (riseM (l.drop i))
  | 0, l, i, _, _, h => by omega
  | k + 1, l, i, hl, hi, hk => by
    have h150 := hl.1
    rw [sluicegateref10_Right.l0]
    by_cases h : i + 1 < l.length
    · have g1 : (0 : Int) ≤ (i : Int) ∧ (i : Int) < (l.length : Int) := by omega
      have g2 : (0 : Int) ≤ ((i + 1 : Nat) : Int) ∧ ((i + 1 : Nat) : Int) < (l.length : Int) := by omega
      have k1 := hl.2 _ (getD_mem (d := default) (show i < l.length by omega))
      have k2 := hl.2 _ (getD_mem (d := default) h)
      rw [if_pos (decide_eq_true g2.2), w64_pred (by omega) (by omega), Nat.add_sub_cancel, if_pos g1, if_pos g2, gt_nat, gt_nat, compare_pure (by omega) (by omega) (by omega), Option.bind_some, scmp_ge, w64_succ (by omega), refright_l0 k l (i + 1) hl (by omega) (by omega), riseM_drop h]
      cases Op.bytesLess (l.getD i default).1 (l.getD (i + 1) default).1 <;> rfl
    · rw [if_neg (by simp only [decide_eq_true_eq]; omega), riseM_end (by omega)]
def msgB (c : Cfg) (s : Sp) (m : Msg) : Bool := keyB c m.1 && (inS s m.1 && (decide ((m.2.2.length : Int) ≤ c.2.2.2.2.2.2.2) && (!m.2.1 || decide (m.2.2 = []))))
def tailB (c : Cfg) (s : Sp) (n : Nd) : Bool := decide (n.1 ≤ 40) && (decide (n.2.2.2.2 = []) && (decide (1 ≤ n.2.1.length) && (decide ((n.2.1.length : Int) ≤ c.2.2.2.1) && (decide (n.2.2.1.length + 1 = n.2.1.length) && ((n.2.2.1.all (piv s) && rises n.2.2.1) && (decide ((n.2.2.2.1.length : Int) ≤ c.2.2.2.2.1) && riseM n.2.2.2.1))))))
theorem MidN.l {n : Nd} (hn : MidN n) {s : Sp} (h1 : s.1.length ≤ 300) (h2 : s.2.1.length ≤ 300) : SmallL n.2.2.1 s := ⟨hn.pivs, fun p hp => by have := hn.pk p hp; omega, h1, h2⟩
theorem refright_pure {n : Nd} (hn : MidN n) {k : Nat} (hk : 3000 < k) : sluicegateref10_Right.f k n.2.2.2.1 = some (riseM n.2.2.2.1) := by
  have := refright_l0 k n.2.2.2.1 0 ⟨hn.buf, fun m hm => by have := hn.bk m hm; omega⟩ (by omega) (by have := hn.buf; omega)
  simpa [sluicegateref10_Right.f] using this
theorem lexCompare_pure (a b : List UInt8) : lex_Compare.f a b = some (scmp a b) := rfl
/-- what is not great -/
structure Small (l : List (List UInt8)) (x : List UInt8) (s : Sp) : Prop where
  len : l.length ≤ 80
  all : ∀ p ∈ l, p.length ≤ 300
  x : x.length ≤ 300
  lo : s.1.length ≤ 300
  hi : s.2.1.length ≤ 300
theorem Small.get {l : List (List UInt8)} {x : List UInt8} {s : Sp} (h : Small l x s) (i : Nat) : (l.getD i []).length ≤ 300 := by
  by_cases hi : i < l.length
  · exact h.all _ (getD_mem hi)
  · rw [List.getD_eq_getElem?_getD, List.getElem?_eq_none (by omega)]
    exact Nat.zero_le _
theorem frise_l0 {x : List UInt8} {s : Sp} {l : List (List UInt8)} (hs : Small l x s) : ∀ (k i : Nat), i ≤ l.length → 2001 + (l.length - i) < k → sluicegateref12_Rise.l0 k l ((i + 1 : Nat) : Int) = some (rises (l.drop i))
  | 0, i, _, h => by omega
  | k + 1, i, hi, hk => by
    have h80 := hs.len
    rw [sluicegateref12_Rise.l0]
    by_cases h : i + 1 < l.length
    · have g1 : (0 : Int) ≤ (i : Int) ∧ (i : Int) < (l.length : Int) := by omega
      have g2 : (0 : Int) ≤ ((i + 1 : Nat) : Int) ∧ ((i + 1 : Nat) : Int) < (l.length : Int) := by omega
      have k1 : (l.getD i default).length ≤ 300 := hs.get i
      have k2 : (l.getD (i + 1) default).length ≤ 300 := hs.get (i + 1)
      rw [if_pos (decide_eq_true g2.2), w64_pred (by omega) (by omega), Nat.add_sub_cancel, if_pos g1, if_pos g2, gt_nat, gt_nat, compare_pure (by omega) (by omega) (by omega), Option.bind_some, scmp_ge, w64_succ (by omega), frise_l0 hs k (i + 1) (by omega) (by omega), rises_drop h]
      show (if (!Op.bytesLess (l.getD i []) (l.getD (i + 1) [])) = true then some false else some (rises (l.drop (i + 1)))) = _
      cases Op.bytesLess (l.getD i []) (l.getD (i + 1) []) <;> rfl
    · rw [if_neg (by simp only [decide_eq_true_eq]; omega), rises_end (by omega)]
theorem frise_pure {x : List UInt8} {s : Sp} {l : List (List UInt8)} (hs : Small l x s) {k : Nat} (hk : 3000 < k) : sluicegateref12_Rise.f k l = some (rises l) := by
  have := frise_l0 hs k 0 (by omega) (by have := hs.len; omega)
  simpa [sluicegateref12_Rise.f] using this
/-! the way -/
def AtWay (l : List (List UInt8)) (x : List UInt8) (w : Nat) : Prop := w ≤ l.length ∧ (∀ j, j < w → Op.bytesLess x (l.getD j []) = false) ∧ ∀ j, w ≤ j → j < l.length → Op.bytesLess x (l.getD j []) = true
theorem rises_get {l : List (List UInt8)} (h : rises l = true) : ∀ {i j : Nat}, i < j → j < l.length → Op.bytesLess (l.getD i []) (l.getD j []) = true := by
  have step : ∀ i, i + 1 < l.length → rises (l.drop i) = true → Op.bytesLess (l.getD i []) (l.getD (i + 1) []) = true ∧ rises (l.drop (i + 1)) = true := fun i hi hr => by
    rw [rises_drop hi, Bool.and_eq_true] at hr
    exact hr
  have all : ∀ i, i < l.length → rises (l.drop i) = true := fun i => by
    induction i with
    | zero => intro _; simpa using h
    | succ i ih => intro hi; exact (step i hi (ih (by omega))).2
  intro i j hij hj
  induction j with
  | zero => omega
  | succ j ih =>
    have one := (step j hj (all j (by omega))).1
    by_cases e : i = j
    · subst e; exact one
    · exact bl_trans (ih (by omega) (by omega)) one
theorem fsearch_l0 {l : List (List UInt8)} {x : List UInt8} (hl : l.length ≤ 80) : ∀ (k a b : Nat), a ≤ b → b ≤ l.length → b - a < k → (∀ i j, i < j → j < l.length → Op.bytesLess (l.getD i []) (l.getD j []) = true) → (∀ j, j < a → Op.bytesLess (l.getD j []) x = true) → (∀ j, b ≤ j → j < l.length → Op.bytesLess (l.getD j []) x = false) →
    ∃ c : Nat, slices_BinarySearchFunc_string_string_string_lex_Compare.l0 k l x (a : Int) (b : Int) = some ((c : Int), decide (c < l.length ∧ l.getD c [] = x)) ∧ c ≤ l.length ∧ (∀ j, j < c → Op.bytesLess (l.getD j []) x = true) ∧ (∀ j, c ≤ j → j < l.length → Op.bytesLess (l.getD j []) x = false)
  | 0, a, b, _, _, h, _, _, _ => by omega
  | k + 1, a, b, hab, hb, hk, hr, h1, h2 => by
    rw [slices_BinarySearchFunc_string_string_string_lex_Compare.l0]
    by_cases h : a < b
    · have w : w64 ((Int.fdiv (IntKind.u64.wrap ((w64 ((a : Int) + (b : Int))))) (2 ^ 1))) = (((a + b) / 2 : Nat) : Int) := by
        rw [w64_id (x := (a : Int) + (b : Int)) (by omega) (by omega)]
        have u : IntKind.u64.wrap ((a : Int) + (b : Int)) = (a : Int) + (b : Int) := by
          simp only [IntKind.wrap, IntKind.signed, IntKind.bits]
          simp
          omega
        rw [u, Int.fdiv_eq_ediv_of_nonneg _ (by decide)]
        rw [w64_id (by omega) (by omega)]
        omega
      have g1 : (0 : Int) ≤ (((a + b) / 2 : Nat) : Int) ∧ (((a + b) / 2 : Nat) : Int) < (l.length : Int) := by omega
      rw [if_pos (decide_eq_true (by omega)), w, if_pos g1, gt_nat, lexCompare_pure, Option.bind_some, w64_succ (by omega)]
      show ∃ c : Nat, (if decide (scmp (l.getD ((a + b) / 2) []) x < 0) = true then _ else _) = _ ∧ _
      cases e : Op.bytesLess (l.getD ((a + b) / 2) []) x with
      | true =>
        rw [if_pos (decide_eq_true (scmp_lt.2 e))]
        refine fsearch_l0 hl k _ b (by omega) hb (by omega) hr (fun j hj => ?_) h2
        by_cases q : j = (a + b) / 2
        · subst q; exact e
        · exact bl_trans (hr j ((a + b) / 2) (by omega) (by omega)) e
      | false =>
        rw [if_neg (by simp only [decide_eq_true_eq, scmp_lt, e]; simp)]
        refine fsearch_l0 hl k a _ (by omega) (by omega) (by omega) hr h1 fun j hj hjl => ?_
        by_cases q : j = (a + b) / 2
        · subst q; exact e
        · exact bl_le_trans e (bl_asymm (hr ((a + b) / 2) j (by omega) hjl))
    · obtain rfl : a = b := by omega
      rw [if_neg (by simp only [decide_eq_true_eq]; omega)]
      refine ⟨a, ?_, hb, h1, h2⟩
      by_cases q : a < l.length
      · have g1 : (0 : Int) ≤ (a : Int) ∧ (a : Int) < (l.length : Int) := by omega
        rw [if_pos (decide_eq_true (by omega)), if_pos g1, gt_nat, lexCompare_pure, Option.bind_some]
        show some ((a : Int), decide (scmp (l.getD a []) x = 0)) = _
        simp only [scmp_eq, q, true_and]
      · rw [if_neg (by simp only [decide_eq_true_eq]; omega)]
        simp [q]
theorem way_pure {l : List (List UInt8)} {x : List UInt8} (hl : l.length ≤ 80) (hr : rises l = true) {k : Nat} (hk : 100 < k) : ∃ w : Nat, fan_Way.f k l x = some (w : Int) ∧ AtWay l x w := by
  obtain ⟨c, h1, h2, h3, h4⟩ := fsearch_l0 (x := x) hl k 0 l.length (by omega) (by omega) (by omega) (fun i j => rises_get hr) (fun j hj => by omega) (fun j hj hjl => by omega)
  have h1' : slices_BinarySearchFunc_string_string_string_lex_Compare.f k l x = _ := h1
  unfold fan_Way.f
  rw [h1', Option.bind_some]
  by_cases e : c < l.length ∧ l.getD c [] = x
  · rw [if_pos (by simp only [e, and_self, decide_true]), w64_succ (by omega)]
    refine ⟨c + 1, rfl, by omega, fun j hj => ?_, fun j hj hjl => ?_⟩
    · by_cases q : j = c
      · subst q; rw [e.2, bl_irr]
      · exact bl_asymm (h3 j (by omega))
    · have := rises_get hr (i := c) (j := j) (by omega) hjl
      rwa [e.2] at this
  · rw [if_neg (by simp only [e, decide_false]; simp)]
    refine ⟨c, rfl, h2, fun j hj => bl_asymm (h3 j hj), fun j hj hjl => ?_⟩
    have h5 := h4 j hj hjl
    rcases bl_ge h5 with q | q
    · exfalso
      by_cases z : j = c
      · subst z; exact e ⟨hjl, q⟩
      · have := rises_get hr (i := c) (j := j) (by omega) hjl
        rw [q, h4 c (by omega) (by omega)] at this
        cases this
    · exact q
/-! what a kid has -/
def ownS (l : List (List UInt8)) (i : Nat) : Sp := (if 0 < i then l.getD (i - 1) [] else [], if i = l.length then [] else l.getD i [], decide (i = l.length))
theorem refWay_l0 {l : List (List UInt8)} {x : List UInt8} {s : Sp} {w : Nat} (hs : Small l x s) (hw : AtWay l x w) : ∀ (k i : Nat), i ≤ l.length → 2001 + (l.length - i) < k → sluicegateref12_Way.l0 k l x ((min i w : Nat) : Int) (i : Int) = some (w : Int)
  | 0, i, _, h => by omega
  | k + 1, i, hi, hk => by
    have h80 := hs.len
    have hx := hs.x
    obtain ⟨w1, w2, w3⟩ := hw
    rw [sluicegateref12_Way.l0]
    by_cases h : i < l.length
    · have g1 : (0 : Int) ≤ (i : Int) ∧ (i : Int) < (l.length : Int) := by omega
      have k1 : (l.getD i default).length ≤ 300 := hs.get i
      rw [if_pos (decide_eq_true g1.2), if_pos g1, gt_nat, compare_pure (by omega) (by omega) (by omega), Option.bind_some, w64_succ (i := i) (by omega)]
      have ih := refWay_l0 hs ⟨w1, w2, w3⟩ k (i + 1) (by omega) (by omega)
      by_cases q : i < w
      · have e : Op.bytesLess x (l.getD i default) = false := w2 i q
        rw [if_pos (decide_eq_true (scmp_le.2 e)), w64_succ (by omega), show min i w + 1 = min (i + 1) w by omega, ih]
      · have e : Op.bytesLess x (l.getD i default) = true := w3 i (by omega) h
        rw [if_neg (by simp only [decide_eq_true_eq, scmp_le]; rw [e]; simp), show min i w = min (i + 1) w by omega, ih]
    · rw [if_neg (by simp only [decide_eq_true_eq]; omega), show min i w = w by omega]
theorem refWay_pure {l : List (List UInt8)} {x : List UInt8} {s : Sp} {w : Nat} (hs : Small l x s) (hw : AtWay l x w) {k : Nat} (hk : 3000 < k) : sluicegateref12_Way.f k l x = some (w : Int) := by
  have := refWay_l0 hs hw k 0 (by omega) (by have := hs.len; omega)
  simpa [sluicegateref12_Way.f] using this
theorem sum_set : ∀ (l : List Int) (i : Nat) (v : Int), i < l.length → (l.set i v).sum = l.sum - l.getD i default + v
  | [], i, v, h => by simp at h
  | a :: r, 0, v, _ => by simp [List.sum_cons]; omega
  | a :: r, i + 1, v, h => by
    have := sum_set r i v (by simpa using h)
    simp only [List.set_cons_succ, List.sum_cons, this, List.getD_cons_succ]
    omega
theorem sum_zeros : ∀ n : Nat, (List.replicate n (0 : Int)).sum = 0
  | 0 => rfl
  | n + 1 => by rw [List.replicate_succ, List.sum_cons, sum_zeros n]; rfl
theorem sum_most {M : Int} : ∀ (l : List Int), (∀ x ∈ l, x ≤ M) → l.sum ≤ M * l.length
  | [], _ => by simp
  | a :: r, h => by
    have h1 := h a (by simp)
    have h2 := sum_most r (fun x hx => h x (by simp [hx]))
    rw [List.sum_cons, List.length_cons]
    have : M * ((r.length + 1 : Nat) : Int) = M * (r.length : Int) + M := by
      rw [Int.natCast_add, Int.mul_add]
      simp
    omega
structure OkLd (n t : Nat) (l : List Int) : Prop where
  len : l.length = n
  sum : l.sum = t
  low : ∀ x ∈ l, 0 ≤ x ∧ x ≤ t
theorem OkLd.step {n t i : Nat} {l : List Int} (h : OkLd n t l) (hi : i < n) : OkLd n (t + 1) (l.set i (l.getD i default + 1)) := by
  have hl := h.len
  have hm := h.low _ (getD_mem (d := default) (show i < l.length by omega))
  refine ⟨by rw [List.length_set, hl], ?_, fun x hx => ?_⟩
  · rw [sum_set _ _ _ (by omega), h.sum]
    omega
  · rcases List.mem_or_eq_of_mem_set hx with hx | rfl
    · have := h.low x hx
      omega
    · omega
theorem loads_l0 {n : Nd} (hn : SmallN n) (hr : rises n.2.2.1 = true) (he : n.2.2.1.length + 1 = n.2.1.length) : ∀ (m i k : Nat) (x : List Int), n.2.2.2.1.length = i + m → 200 + m < k → OkLd n.2.1.length i x → ∃ L, node_Loads.l0 k n x (i : Int) = some L ∧ OkLd n.2.1.length n.2.2.2.1.length L
  | 0, i, k + 1, x, h, hk, hx => by
    rw [node_Loads.l0, if_neg (by simp only [decide_eq_true_eq]; omega)]
    exact ⟨x, rfl, by rw [h]; exact hx⟩
  | m + 1, i, k + 1, x, h, hk, hx => by
    have hb := hn.buf
    have hp := hn.pivs
    obtain ⟨w, e1, e2⟩ := way_pure (x := (n.2.2.2.1.getD i default).1) hp hr (k := k) (by omega)
    have w1 := e2.1
    have hl := hx.len
    have hm := hx.low _ (getD_mem (d := default) (show w < x.length by omega))
    obtain ⟨L, l1, l2⟩ := loads_l0 hn hr he m (i + 1) k (x.set w (x.getD w default + 1)) (by omega) (by omega) (hx.step (by omega))
    refine ⟨L, ?_, l2⟩
    rw [node_Loads.l0, if_pos (decide_eq_true (by omega)), if_pos (by omega), gt_nat, e1, Option.bind_some, if_pos (decide_eq_true (by omega)), if_pos (by omega), gt_nat, Int.toNat_natCast, w64_id (x := x.getD w default + 1) (by omega) (by omega), w64_id (by omega) (by omega)]
    exact l1
theorem loads_pure {n : Nd} (hn : SmallN n) (hr : rises n.2.2.1 = true) (he : n.2.2.1.length + 1 = n.2.1.length) {k : Nat} (hk : 400 < k) : ∃ L, node_Loads.f k n = some L ∧ OkLd n.2.1.length n.2.2.2.1.length L := by
  have hb := hn.buf
  have hp := hn.kids
  obtain ⟨L, l1, l2⟩ := loads_l0 hn hr he n.2.2.2.1.length 0 k (List.replicate n.2.1.length 0) (by omega) (by omega) ⟨by simp, by rw [sum_zeros]; rfl, fun x hx => by rw [List.mem_replicate] at hx; omega⟩
  refine ⟨L, ?_, l2⟩
  unfold node_Loads.f
  rw [if_pos (by omega), Int.toNat_natCast]
  exact l1
theorem heaviest_l0 {L : List Int} (hL : L.length ≤ 100) : ∀ (m i a k : Nat), L.length = i + m → m < k → a < L.length → (∀ j, j < i → L.getD j default ≤ L.getD a default) → ∃ a' : Nat, node_Heaviest.l0 k L (a : Int) (i : Int) = some ((a' : Int), L.getD a' default) ∧ a' < L.length ∧ ∀ j, j < L.length → L.getD j default ≤ L.getD a' default
  | 0, i, a, k + 1, h, _, ha, hj => by
    rw [node_Heaviest.l0, if_neg (by simp only [decide_eq_true_eq]; omega), if_pos (by omega), gt_nat]
    exact ⟨a, rfl, ha, fun j h' => hj j (by omega)⟩
  | m + 1, i, a, k + 1, h, hk, ha, hj => by
    rw [node_Heaviest.l0, if_pos (decide_eq_true (by omega)), if_pos (by omega), if_pos (by omega), gt_nat, gt_nat, w64_id (by omega) (by omega)]
    by_cases c : L.getD a default < L.getD i default
    · rw [if_pos (decide_eq_true c)]
      exact heaviest_l0 hL m (i + 1) i k (by omega) (by omega) (by omega) fun j h' => by
        by_cases e : j = i
        · subst e; exact Int.le_refl _
        · have := hj j (by omega); omega
    · rw [if_neg (by simpa using c)]
      exact heaviest_l0 hL m (i + 1) a k (by omega) (by omega) ha fun j h' => by
        by_cases e : j = i
        · subst e; omega
        · exact hj j (by omega)
theorem heaviest_pure {n : Nd} {L : List Int} (hn : SmallN n) (he : n.2.2.1.length + 1 = n.2.1.length) {k : Nat} (hk : 400 < k) (e : node_Loads.f k n = some L) (h : OkLd n.2.1.length n.2.2.2.1.length L) :
    ∃ a : Nat, node_Heaviest.f k n = some ((a : Int), L.getD a default) ∧ a < L.length ∧ ∀ j, j < L.length → L.getD j default ≤ L.getD a default := by
  have hl := h.len
  have hp := hn.kids
  unfold node_Heaviest.f
  rw [show node_Loads.f k (n.1, n.2.1, n.2.2.1, n.2.2.2.1, n.2.2.2.2) = _ from e, Option.bind_some, if_neg (by simp only [decide_eq_true_eq]; omega)]
  exact heaviest_l0 (L := L) (by omega) L.length 0 0 k (by omega) (by omega) (by omega) fun j h' => by omega
/-- whether it is plain -/
theorem plain_pure {n : Nd} (hn : SmallN n) {k : Nat} (hk : 3000 < k) : ∃ b, sluicegateref13_Plain.f k n = some b ∧ (b = true → rises n.2.2.1 = true ∧ n.2.2.1.length + 1 = n.2.1.length) := by
  have h1 := refright_pure (n := n) hn.mid hk
  have h2 := rise_pure (s := ([], [], true)) (l := n.2.2.1) ⟨by have := hn.pivs; omega, fun p hp => by have := hn.pk p hp; omega, by simp, by simp⟩ hk
  have hp := hn.pivs
  unfold sluicegateref13_Plain.f
  rw [h1, Option.bind_some, h2]
  cases riseM n.2.2.2.1 with
  | false => exact ⟨false, rfl, fun h => by cases h⟩
  | true =>
    rw [if_pos rfl, Option.bind_some]
    cases hq : rises n.2.2.1 with
    | false => exact ⟨false, rfl, fun h => by cases h⟩
    | true =>
      rw [if_pos rfl, w64_id (by omega) (by omega)]
      exact ⟨_, rfl, fun h => ⟨rfl, by have := of_decide_eq_true h; omega⟩⟩
abbrev Kd := Int × Int
def Klt (p q : Kd) : Prop := q.2 < p.2 ∨ (p.2 = q.2 ∧ p.1 < q.1)
def ka (x : List Kd) (i : Nat) : Kd := x.getD i default
def sw (x : List Kd) (i j : Nat) : List Kd := (x.set i (ka x j)).set j (ka x i)
theorem sw_len (x : List Kd) (i j : Nat) : (sw x i j).length = x.length := by simp [sw]
theorem sw_at {x : List Kd} {i j : Nat} (hi : i < x.length) (hj : j < x.length) (q : Nat) : ka (sw x i j) q = if q = j then ka x i else if q = i then ka x j else ka x q := by
  unfold sw ka
  simp only [List.getD_eq_getElem?_getD, List.getElem?_set, List.length_set]
  by_cases a : q = j
  · subst a; simp [hj]
  · by_cases b : q = i
    · subst b; simp [hi, a, Ne.symm a]
    · simp [a, b, Ne.symm a, Ne.symm b]
theorem sw_perm {x : List Kd} {i j : Nat} (hi : i < x.length) (hj : j < x.length) : (sw x i j).Perm x := by
  have h := (Go.Sort.swp_permIn x.toArray 0 x.length i j (Nat.zero_le _) hi (Nat.zero_le _) hj (by simp)).2.2
  have e : (Go.Sort.swp x.toArray i j).toList = sw x i j := by
    unfold sw ka Go.Sort.swp
    simp [List.getD_eq_getElem?_getD]
  have e1 : ∀ (d : Array Kd), (d.extract 0 d.size).toList = d.toList := fun d => by simp
  have s1 : (Go.Sort.swp x.toArray i j).size = x.length := by simp [Go.Sort.swp]
  have h1 := e1 (Go.Sort.swp x.toArray i j)
  have h2 := e1 x.toArray
  rw [s1] at h1
  rw [show x.toArray.size = x.length by simp] at h2
  rw [h1, h2, e] at h
  simpa using h
theorem gt_ka (x : List Kd) (i : Nat) : gt x (i : Int) = ka x i := gt_nat x i
theorem kLess {x : List Kd} {i j : Nat} (hi : i < x.length) (hj : j < x.length) : ∃ b : Bool, node_ranks_Less.f x (i : Int) (j : Int) = some b ∧ (b = true ↔ Klt (ka x i) (ka x j)) := by
  unfold node_ranks_Less.f Klt
  rw [if_pos (by omega), if_pos (by omega), gt_ka, gt_ka]
  by_cases c : (ka x i).2 = (ka x j).2
  · rw [if_neg (by simp [c])]
    exact ⟨_, rfl, by simp only [decide_eq_true_eq]; omega⟩
  · rw [if_pos (by simp [c])]
    exact ⟨_, rfl, by simp only [decide_eq_true_eq]; omega⟩
theorem kSwap {x : List Kd} {i j : Nat} (hi : i < x.length) (hj : j < x.length) : node_ranks_Swap.f x (i : Int) (j : Int) = some (sw x i j) := by
  unfold node_ranks_Swap.f sw
  rw [if_pos (by omega), if_pos (by omega), gt_ka, gt_ka, Int.toNat_natCast, Int.toNat_natCast]
def HeapN (x : List Kd) (n : Nat) : Prop := ∀ c, 0 < c → c < n → ¬ Klt (ka x c) (ka x ((c - 1) / 2))
structure HeapX (x : List Kd) (j : Nat) : Prop where
  a : ∀ c, 0 < c → c < x.length → c ≠ j → ¬ Klt (ka x c) (ka x ((c - 1) / 2))
  b : ∀ c, 0 < c → c < x.length → (c - 1) / 2 = j → 0 < j → ¬ Klt (ka x c) (ka x ((j - 1) / 2))
theorem tdiv2 {j : Nat} (h : j ≤ 1000) : w64 (Int.tdiv (w64 ((j : Int) - 1)) 2) = (((j - 1) / 2 : Nat) : Int) := by
  by_cases h0 : j = 0
  · subst h0; rfl
  · have e : w64 ((j : Int) - 1) = ((j - 1 : Nat) : Int) := by rw [w64_id (by omega) (by omega)]; omega
    rw [e, show Int.tdiv ((j - 1 : Nat) : Int) 2 = (((j - 1) / 2 : Nat) : Int) from rfl, w64_id (by omega) (by omega)]
theorem up_l0 : ∀ (m j : Nat) (x : List Kd) (k : Nat), j ≤ m → m < k → j < x.length → x.length ≤ 1000 → HeapX x j → ∃ y, heap_up_if__node_ranks.l0 k x (j : Int) = some y ∧ y.Perm x ∧ HeapN y y.length
  | m, j, x, 0, _, hk, _, _, _ => by omega
  | m, j, x, k + 1, hm, hk, hj, hx, H => by
    rw [heap_up_if__node_ranks.l0, tdiv2 (by omega)]
    by_cases h0 : j = 0
    · subst h0
      exact ⟨x, by rw [if_pos (by simp)], .refl _, fun c h1 h2 => H.a c h1 h2 (by omega)⟩
    · rw [if_neg (by simp only [decide_eq_true_eq]; omega)]
      obtain ⟨b, hb, hbi⟩ := kLess (x := x) (i := j) (j := (j - 1) / 2) hj (by omega)
      rw [hb, Option.bind_some]
      cases b with
      | false =>
        refine ⟨x, by rw [if_pos (by simp)], .refl _, fun c h1 h2 => ?_⟩
        by_cases e : c = j
        · subst e; exact fun z => by cases hbi.2 z
        · exact H.a c h1 h2 e
      | true =>
        have hlt := hbi.1 rfl
        obtain ⟨i, hi⟩ : ∃ i, i = (j - 1) / 2 := ⟨_, rfl⟩
        rw [← hi] at hlt ⊢
        have hil : i < x.length := by omega
        rw [if_neg (by simp), kSwap hil hj, Option.bind_some]
        have at' := sw_at (x := x) (i := i) (j := j) hil hj
        have H2 : HeapX (sw x i j) i := by
          constructor
          · intro c h1 h2 h3
            rw [sw_len] at h2
            rw [at' c, at' ((c - 1) / 2)]
            have ha := H.a c h1 h2
            have hb' := H.b c h1 h2
            by_cases e1 : c = j
            · subst e1
              rw [if_pos rfl, if_neg (by omega), if_pos hi.symm]
              unfold Klt at *; omega
            · have ha' := ha e1
              rw [if_neg e1, if_neg h3]
              by_cases e2 : (c - 1) / 2 = j
              · rw [if_pos e2]
                have := hb' e2 (by omega)
                rw [← hi] at this; exact this
              · rw [if_neg e2]
                by_cases e3 : (c - 1) / 2 = i
                · rw [if_pos e3]
                  rw [e3] at ha'
                  unfold Klt at *; omega
                · rw [if_neg e3]; exact ha'
          · intro c h1 h2 h3 h4
            rw [sw_len] at h2
            rw [at' c, at' ((i - 1) / 2), if_neg (show ¬ (i - 1) / 2 = j by omega), if_neg (show ¬ (i - 1) / 2 = i by omega)]
            have hg := H.a i h4 hil (by omega)
            by_cases e1 : c = j
            · rw [if_pos e1]; exact hg
            · rw [if_neg e1, if_neg (by omega)]
              have ha' := H.a c h1 h2 e1
              rw [h3] at ha'
              unfold Klt at *; omega
        obtain ⟨y, h1, h2, h3⟩ := up_l0 (m - 1) i (sw x i j) k (by omega) (by omega) (by rw [sw_len]; exact hil) (by rw [sw_len]; exact hx) H2
        exact ⟨y, h1, h2.trans (sw_perm hil hj), h3⟩
structure HeapD (x : List Kd) (n i : Nat) : Prop where
  a : ∀ c, 0 < c → c < n → (c - 1) / 2 ≠ i → ¬ Klt (ka x c) (ka x ((c - 1) / 2))
  b : ∀ c, 0 < c → c < n → (c - 1) / 2 = i → 0 < i → ¬ Klt (ka x c) (ka x ((i - 1) / 2))
theorem down_go {i j n m k : Nat} {x : List Kd} (hx : x.length ≤ 1000) (hn : n ≤ x.length) (hi : i < n) (hj : j < n) (hij : (j - 1) / 2 = i) (hj0 : 0 < j) (H : HeapD x n i) (hc : ∀ c, 0 < c → c < n → (c - 1) / 2 = i → ¬ Klt (ka x c) (ka x j))
    (ih : ∀ y : List Kd, y.length = x.length → HeapD y n j → ∃ b z, heap_down_if__node_ranks.l0 k 0 (n : Int) y (j : Int) = some (b, z) ∧ z.Perm y ∧ HeapN z n ∧ ∀ q, n ≤ q → ka z q = ka y q) {X : Option (Bool × List Kd)}
    (hX : X = (node_ranks_Less.f x (j : Int) (i : Int)).bind fun r4 => (if (!r4) = true then (some ((decide ((0 : Int) < (i : Int))), x)) else ((node_ranks_Swap.f x (i : Int) (j : Int)).bind fun r5 => (heap_down_if__node_ranks.l0 k 0 (n : Int) r5 (j : Int))))) :
    ∃ b z, X = some (b, z) ∧ z.Perm x ∧ HeapN z n ∧ ∀ q, n ≤ q → ka z q = ka x q := by
  obtain ⟨b, hb, hbi⟩ := kLess (x := x) (i := j) (j := i) (by omega) (by omega)
  rw [hX, hb, Option.bind_some]
  cases b with
  | false =>
    refine ⟨_, x, by rw [if_pos (by simp)], .refl _, fun c h1 h2 => ?_, fun q _ => rfl⟩
    by_cases e : (c - 1) / 2 = i
    · have h3 := hc c h1 h2 e
      have h4 : ¬ Klt (ka x j) (ka x i) := fun z => by cases hbi.2 z
      rw [e]
      unfold Klt at *; omega
    · exact H.a c h1 h2 e
  | true =>
    have hlt := hbi.1 rfl
    have hil : i < x.length := by omega
    have hjl : j < x.length := by omega
    rw [if_neg (by simp), kSwap hil hjl, Option.bind_some]
    have at' := sw_at (x := x) (i := i) (j := j) hil hjl
    have H2 : HeapD (sw x i j) n j := by
      constructor
      · intro c h1 h2 h3
        rw [at' c, at' ((c - 1) / 2), if_neg h3]
        by_cases e1 : c = i
        · subst e1
          rw [if_neg (by omega), if_pos rfl, if_neg (by omega)]
          exact H.b j hj0 hj hij h1
        · by_cases e2 : (c - 1) / 2 = i
          · rw [if_pos e2]
            by_cases e3 : c = j
            · rw [if_pos e3]
              unfold Klt at *; omega
            · rw [if_neg e3, if_neg e1]
              exact hc c h1 h2 e2
          · rw [if_neg e2]
            by_cases e3 : c = j
            · subst e3; exact absurd hij e2
            · rw [if_neg e3, if_neg e1]
              exact H.a c h1 h2 e2
      · intro c h1 h2 h3 h4
        rw [at' c, at' ((j - 1) / 2), hij, if_neg (show ¬ i = j by omega), if_pos rfl, if_neg (by omega), if_neg (by omega)]
        have := H.a c h1 h2 (by omega)
        rw [h3] at this
        exact this
    obtain ⟨b, z, h1, h2, h3, h4⟩ := ih (sw x i j) (sw_len _ _ _) H2
    exact ⟨b, z, h1, h2.trans (sw_perm hil hjl), h3, fun q hq => by rw [h4 q hq, at' q, if_neg (by omega), if_neg (by omega)]⟩
theorem down_l0 {n : Nat} : ∀ (m i : Nat) (x : List Kd) (k : Nat), n - i ≤ m → m < k → i ≤ n → n ≤ x.length → x.length ≤ 1000 → HeapD x n i → ∃ b z, heap_down_if__node_ranks.l0 k 0 (n : Int) x (i : Int) = some (b, z) ∧ z.Perm x ∧ HeapN z n ∧ ∀ q, n ≤ q → ka z q = ka x q
  | m, i, x, 0, _, hk, _, _, _, _ => by omega
  | m, i, x, k + 1, hm, hk, hi, hn, hx, H => by
    have e1 : w64 ((w64 (2 * (i : Int))) + 1) = ((2 * i + 1 : Nat) : Int) := by
      rw [w64_id (x := 2 * (i : Int)) (by omega) (by omega), w64_id (by omega) (by omega)]; omega
    have e2 : w64 (((2 * i + 1 : Nat) : Int) + 1) = ((2 * i + 2 : Nat) : Int) := by rw [w64_id (by omega) (by omega)]; omega
    rw [heap_down_if__node_ranks.l0, e1, e2]
    by_cases c0 : n ≤ 2 * i + 1
    · exact ⟨_, x, by rw [if_pos (decide_eq_true (by omega))], .refl _, fun c h1 h2 => H.a c h1 h2 (by omega), fun q _ => rfl⟩
    · have ih : ∀ j, i < j → j ≤ n → ∀ y : List Kd, y.length = x.length → HeapD y n j → ∃ b z, heap_down_if__node_ranks.l0 k 0 (n : Int) y (j : Int) = some (b, z) ∧ z.Perm y ∧ HeapN z n ∧ ∀ q, n ≤ q → ka z q = ka y q := fun j h1 h2 y hy h3 => down_l0 (m - 1) j y k (by omega) (by omega) h2 (by omega) (by omega) h3
      rw [if_neg (by simp only [decide_eq_true_eq]; omega), if_neg (by simp only [decide_eq_true_eq]; omega)]
      by_cases c1 : 2 * i + 2 < n
      · rw [if_pos (decide_eq_true (by omega))]
        obtain ⟨b, hb, hbi⟩ := kLess (x := x) (i := 2 * i + 2) (j := 2 * i + 1) (by omega) (by omega)
        rw [hb, Option.bind_some]
        cases b with
        | true =>
          have hlt := hbi.1 rfl
          rw [if_pos rfl]
          refine down_go (j := 2 * i + 2) (m := m) hx hn (by omega) (by omega) (by omega) (by omega) H (fun c h1 h2 h3 => ?_) (ih _ (by omega) (by omega)) rfl
          rcases (show c = 2 * i + 1 ∨ c = 2 * i + 2 by omega) with rfl | rfl
          · unfold Klt at *; omega
          · unfold Klt; omega
        | false =>
          have hlt : ¬ Klt (ka x (2 * i + 2)) (ka x (2 * i + 1)) := fun z => by cases hbi.2 z
          rw [if_neg (by simp)]
          refine down_go (j := 2 * i + 1) (m := m) hx hn (by omega) (by omega) (by omega) (by omega) H (fun c h1 h2 h3 => ?_) (ih _ (by omega) (by omega)) rfl
          rcases (show c = 2 * i + 1 ∨ c = 2 * i + 2 by omega) with rfl | rfl
          · unfold Klt; omega
          · exact hlt
      · rw [if_neg (by simp only [decide_eq_true_eq]; omega)]
        refine down_go (j := 2 * i + 1) (m := m) hx hn (by omega) (by omega) (by omega) (by omega) H (fun c h1 h2 h3 => ?_) (ih _ (by omega) (by omega)) rfl
        obtain rfl : c = 2 * i + 1 := by omega
        unfold Klt; omega
theorem heap_least {x : List Kd} {n : Nat} (H : HeapN x n) : ∀ (m c : Nat), c ≤ m → c < n → ¬ Klt (ka x c) (ka x 0)
  | m, 0, _, _ => by unfold Klt; omega
  | 0, c + 1, h, _ => by omega
  | m + 1, c + 1, h, h2 => by
    have h3 := H (c + 1) (by omega) h2
    have h4 := heap_least H m ((c + 1 - 1) / 2) (by omega) (by omega)
    unfold Klt at *; omega
theorem kPush {x : List Kd} {p : Kd} (H : HeapN x x.length) (hx : x.length < 900) {k : Nat} (hk : 1000 < k) : ∃ y, heap_Push_if__node_ranks_if_node_kid.f k x (p.1, p.2) = some y ∧ y.Perm (x ++ [p]) ∧ HeapN y y.length := by
  have hxl : (x ++ [p]).length = x.length + 1 := by simp
  have hp : ∀ q, q < x.length → ka (x ++ [p]) q = ka x q := fun q hq => by
    unfold ka
    rw [List.getD_eq_getElem?_getD, List.getD_eq_getElem?_getD, List.getElem?_append_left hq]
  obtain ⟨y, h1, h2, h3⟩ := up_l0 x.length x.length (x ++ [p]) k (Nat.le_refl _) (by omega) (by omega) (by omega) ⟨fun c a b e => by
    rw [hp c (by omega), hp _ (by omega)]; exact H c a (by omega), fun c a b e => by omega⟩
  refine ⟨y, ?_, h2, h3⟩
  unfold heap_Push_if__node_ranks_if_node_kid.f node_ranks_Push_if_node_kid.f node_ranks_Len.f heap_up_if__node_ranks.f
  have e0 : (x ++ [(p.1, p.2)]).length = x.length + 1 := by simp
  have e1 : w64 (((x ++ [(p.1, p.2)]).length : Int) - 1) = (x.length : Int) := by rw [e0, w64_id (by omega) (by omega)]; omega
  rw [if_pos (by simp only [List.length_singleton]; omega), Option.bind_some, Option.bind_some, e1, h1, Option.bind_some]
theorem kPop {x : List Kd} (H : HeapN x x.length) {m : Nat} (hm : x.length = m + 1) (hx : x.length < 900) {k : Nat} (hk : 1000 < k) : ∃ y, heap_Pop_if__node_ranks.f k x = some (ka x 0, y) ∧ x.Perm (ka x 0 :: y) ∧ HeapN y y.length ∧ y.length = m := by
  have at' := sw_at (x := x) (i := 0) (j := m) (by omega) (by omega)
  have hD : HeapD (sw x 0 m) m 0 := ⟨fun c h1 h2 h3 => by
    rw [at' c, at' ((c - 1) / 2), if_neg (by omega), if_neg (by omega), if_neg (by omega), if_neg h3]
    exact H c h1 (by omega), fun c h1 h2 h3 h4 => by omega⟩
  obtain ⟨b, z, h1, h2, h3, h4⟩ := down_l0 (n := m) m 0 (sw x 0 m) k (by omega) (by omega) (Nat.zero_le _) (by rw [sw_len]; omega) (by rw [sw_len]; omega) hD
  have hzl : z.length = m + 1 := by rw [h2.length_eq, sw_len, hm]
  have hzm : ka z m = ka x 0 := by rw [h4 m (Nat.le_refl _), at' m, if_pos rfl]
  have hz : z = z.take m ++ [ka x 0] := by
    have : z.take (m + 1) = z.take m ++ [z.getD m default] := take_get (by omega)
    rw [List.take_of_length_le (by omega)] at this
    rw [← hzm]; exact this
  refine ⟨z.take m, ?_, ?_, ?_, by rw [List.length_take]; omega⟩
  · unfold heap_Pop_if__node_ranks.f node_ranks_Len.f node_ranks_Pop.f heap_down_if__node_ranks.f
    have e1 : w64 ((x.length : Int) - 1) = (m : Int) := by rw [w64_id (by omega) (by omega)]; omega
    have e2 : w64 ((z.length : Int) - 1) = (m : Int) := by rw [w64_id (by omega) (by omega)]; omega
    rw [Option.bind_some, e1, show node_ranks_Swap.f x 0 (m : Int) = _ from kSwap (x := x) (i := 0) (j := m) (by omega) (by omega), Option.bind_some, show heap_down_if__node_ranks.l0 k 0 (m : Int) (sw x 0 m) 0 = _ from h1, Option.bind_some]
    dsimp only
    rw [e2, if_pos (by omega), if_pos (by omega), gt_ka, hzm, Int.toNat_natCast, Option.bind_some]
  · have p1 : x.Perm z := ((h2.trans (sw_perm (by omega) (by omega))).symm)
    rw [hz] at p1
    exact p1.trans List.perm_append_comm
  · intro c c1 c2
    rw [List.length_take] at c2
    have tk : ∀ q, q < m → ka (z.take m) q = ka z q := fun q hq => by
      unfold ka
      rw [List.getD_eq_getElem?_getD, List.getD_eq_getElem?_getD, List.getElem?_take_of_lt hq]
    rw [tk c (by omega), tk _ (by omega)]
    exact h3 c c1 (by omega)
theorem rank_l1 {k0 : Nat} : ∀ (m : Nat) (x : List Kd) (out : List Kd) (k : Nat), x.length = m → m + 1001 < k → HeapN x x.length → x.length < 900 → out.length + m < 1000 → out.Pairwise Klt → (∀ a ∈ out, ∀ b ∈ x, Klt a b) → ((out ++ x).map (·.1)).Nodup → ∃ r : List Kd, node_Rank.l1 k x (out.map (·.1)) = some (r.map (·.1)) ∧ r.Perm (out ++ x) ∧ r.Pairwise Klt
  | m, x, out, 0, _, hk, _, _, _, _, _, _ => by omega
  | 0, x, out, k + 1, hm, hk, H, hx, ho, hp, hab, hnd => by
    refine ⟨out, ?_, by rw [List.eq_nil_of_length_eq_zero hm, List.append_nil], hp⟩
    rw [node_Rank.l1, node_ranks_Len.f, Option.bind_some, if_neg (by simp only [decide_eq_true_eq]; omega)]
  | m + 1, x, out, k + 1, hm, hk, H, hx, ho, hp, hab, hnd => by
    obtain ⟨y, h1, h2, h3, h4⟩ := kPop H hm hx (k := k) (by omega)
    have hmem : ka x 0 ∈ x := h2.mem_iff.2 (List.mem_cons_self)
    have hle : ∀ b ∈ y, Klt (ka x 0) b := fun b hb => by
      have hbx : b ∈ x := h2.mem_iff.2 (List.mem_cons_of_mem _ hb)
      obtain ⟨i, hi, rfl⟩ := List.mem_iff_getElem.1 hbx
      have e : ka x i = x[i] := by unfold ka; rw [List.getD_eq_getElem?_getD, List.getElem?_eq_getElem hi]; rfl
      have h5 := heap_least H i i (Nat.le_refl _) hi
      rw [e] at h5
      have h6 : ((ka x 0 :: y).map (·.1)).Nodup := by
        have q1 : ((out ++ x).map (·.1)).Perm ((out ++ (ka x 0 :: y)).map (·.1)) := (h2.append_left out).map _
        have q2 := (q1.nodup_iff.1 hnd)
        rw [List.map_append] at q2
        exact (List.nodup_append.1 q2).2.1
      rw [List.map_cons, List.nodup_cons] at h6
      have h7 : x[i].1 ≠ (ka x 0).1 := fun z => h6.1 (by rw [← z]; exact List.mem_map_of_mem hb)
      unfold Klt at *; omega
    obtain ⟨r, r1, r2, r3⟩ := rank_l1 (k0 := k0) m y (out ++ [ka x 0]) k h4 (by omega) h3 (by omega) (by simp; omega) (by
      rw [List.pairwise_append]
      exact ⟨hp, List.pairwise_singleton _ _, fun a ha b hb => by rw [List.mem_singleton] at hb; subst hb; exact hab a ha _ hmem⟩) (fun a ha b hb => by
      rcases List.mem_append.1 ha with ha | ha
      · exact hab a ha b (h2.mem_iff.2 (List.mem_cons_of_mem _ hb))
      · rw [List.mem_singleton] at ha; subst ha; exact hle b hb) (by
      have q1 : ((out ++ x).map (·.1)).Perm ((out ++ (ka x 0 :: y)).map (·.1)) := (h2.append_left out).map _
      have := q1.nodup_iff.1 hnd
      rwa [List.append_assoc])
    refine ⟨r, ?_, r2.trans (by rw [List.append_assoc]; exact (h2.append_left out).symm), r3⟩
    rw [node_Rank.l1, node_ranks_Len.f, Option.bind_some, if_pos (decide_eq_true (by omega)), h1, Option.bind_some, if_pos (by simp; omega)]
    rw [List.map_append] at r1
    exact r1
theorem rank_l0 {L : List Int} (hL : L.length < 800) : ∀ (m i : Nat) (x : List Kd) (k : Nat), L.length = i + m → m + 3000 < k → HeapN x x.length → x.Perm ((List.range i).map fun j : Nat => ((j : Int), L.getD j 0)) → ∃ r : List Kd, node_Rank.l0 k L x (i : Int) = some (r.map (·.1)) ∧ r.Perm ((List.range L.length).map fun j : Nat => ((j : Int), L.getD j 0)) ∧ r.Pairwise Klt
  | m, i, x, 0, _, hk, _, _ => by omega
  | 0, i, x, k + 1, h, hk, H, hp => by
    have hl := hp.length_eq
    simp only [List.length_map, List.length_range] at hl
    obtain ⟨r, r1, r2, r3⟩ := rank_l1 (k0 := 0) x.length x [] k rfl (by omega) H (by omega) (by simp; omega) List.Pairwise.nil (by simp) (by
      rw [List.nil_append, ((hp.map (·.1)).nodup_iff)]
      rw [List.map_map]
      exact List.pairwise_map.2 (List.pairwise_lt_range.imp fun {a b} h => by
        intro e
        simp only [Function.comp] at e
        omega))
    refine ⟨r, ?_, by rw [show L.length = i by omega]; exact r2.trans hp, r3⟩
    rw [node_Rank.l0, if_neg (by simp only [decide_eq_true_eq]; omega)]
    exact r1
  | m + 1, i, x, k + 1, h, hk, H, hp => by
    have hl := hp.length_eq
    simp only [List.length_map, List.length_range] at hl
    obtain ⟨y, h1, h2, h3⟩ := kPush (p := ((i : Int), L.getD i 0)) H (by omega) (k := k) (by omega)
    obtain ⟨r, r1, r2, r3⟩ := rank_l0 hL m (i + 1) y k (by omega) (by omega) h3 (by
      rw [List.range_succ, List.map_append]
      exact h2.trans (hp.append_right _))
    refine ⟨r, ?_, r2, r3⟩
    rw [node_Rank.l0, if_pos (decide_eq_true (by omega)), if_pos (by omega), show gt L (i : Int) = L.getD i 0 from gt_nat L i, h1, Option.bind_some, w64_id (by omega) (by omega)]
    exact r1
theorem rank_pure {n : Nd} {L : List Int} {k : Nat} (hk : 5000 < k) (hL : L.length < 800) (e : node_Loads.f k n = some L) : ∃ r : List Kd, node_Rank.f k n = some (r.map (·.1)) ∧ r.Perm ((List.range L.length).map fun j : Nat => ((j : Int), L.getD j 0)) ∧ r.Pairwise Klt := by
  obtain ⟨r, r1, r2, r3⟩ := rank_l0 hL L.length 0 [] k (by omega) (by omega) (fun c h1 h2 => by simp at h2) (by simp)
  refine ⟨r, ?_, r2, r3⟩
  unfold node_Rank.f
  rw [show node_Loads.f k (n.1, n.2.1, n.2.2.1, n.2.2.2.1, n.2.2.2.2) = _ from e, Option.bind_some]
  exact r1
theorem awake13_pure (k : Nat) : sluicegatelaw13_awake.f (k + 40) = some true := by rfl
theorem mget_mput (x y : Int) (v : Bool) : ∀ es : List (Int × Bool), mget false (mput x v es) y = if x = y then v else mget false es y
  | [] => by simp [mput, mget]
  | p :: es => by
    unfold mput
    by_cases c : p.1 = x
    · rw [if_pos c]
      unfold mget
      by_cases d : x = y
      · rw [if_pos d, if_pos d]
      · rw [if_neg d, if_neg d, if_neg (by rw [c]; exact d)]
    · rw [if_neg c]
      unfold mget
      rw [mget_mput x y v es]
      by_cases d : p.1 = y
      · rw [if_pos d, if_pos d, if_neg (by omega)]
      · rw [if_neg d, if_neg d]
/-- the way of a key -/
noncomputable def wy (l : List (List UInt8)) (x : List UInt8) : Nat := Classical.epsilon (AtWay l x)
theorem AtWay.uniq {l : List (List UInt8)} {x : List UInt8} {a b : Nat} (h1 : AtWay l x a) (h2 : AtWay l x b) : a = b := by
  rcases Nat.lt_trichotomy a b with h | h | h
  · have p := h1.2.2 a (Nat.le_refl _) (by have := h2.1; omega)
    have q := h2.2.1 a h
    rw [p] at q; cases q
  · exact h
  · have p := h2.2.2 b (Nat.le_refl _) (by have := h1.1; omega)
    have q := h1.2.1 b h
    rw [p] at q; cases q
theorem wy_at {l : List (List UInt8)} {x : List UInt8} (hl : l.length ≤ 80) (hr : rises l = true) : AtWay l x (wy l x) := by
  obtain ⟨w, _, h⟩ := way_pure (x := x) hl hr (k := 101) (by omega)
  exact Classical.epsilon_spec ⟨w, h⟩
theorem way_wy {l : List (List UInt8)} {x : List UInt8} (hl : l.length ≤ 80) (hr : rises l = true) {k : Nat} (hk : 100 < k) : fan_Way.f k l x = some (wy l x : Int) := by
  obtain ⟨w, e, h⟩ := way_pure (x := x) hl hr hk
  rw [e, h.uniq (wy_at hl hr)]
/-- how many messages go to a kid -/
noncomputable def cnt (l : List (List UInt8)) (ms : List Msg) (j : Nat) : Nat := (ms.filter fun m => decide (wy l m.1 = j)).length
theorem cnt_le (l : List (List UInt8)) (ms : List Msg) (j : Nat) : cnt l ms j ≤ ms.length := List.length_filter_le _ _
theorem cnt_take {l : List (List UInt8)} {ms : List Msg} {i j : Nat} (h : i < ms.length) : cnt l (ms.take (i + 1)) j = cnt l (ms.take i) j + if wy l (ms.getD i default).1 = j then 1 else 0 := by
  unfold cnt
  rw [take_get h, List.filter_append, List.length_append]
  by_cases c : wy l (ms.getD i default).1 = j
  · rw [List.filter_cons_of_pos (by simpa using c), if_pos c]; rfl
  · rw [List.filter_cons_of_neg (by simpa using c), if_neg c]; rfl
structure PlN (n : Nd) : Prop where
  s : SmallN n
  r : rises n.2.2.1 = true
  e : n.2.2.1.length + 1 = n.2.1.length
noncomputable def ldL (n : Nd) (i : Nat) : List Int := (List.range n.2.1.length).map fun j => (cnt n.2.2.1 (n.2.2.2.1.take i) j : Int)
theorem ldL_get {n : Nd} {i j : Nat} (h : j < n.2.1.length) : (ldL n i).getD j 0 = cnt n.2.2.1 (n.2.2.2.1.take i) j := by
  unfold ldL
  rw [List.getD_eq_getElem?_getD, List.getElem?_map, List.getElem?_range h]; rfl
theorem ldL_len (n : Nd) (i : Nat) : (ldL n i).length = n.2.1.length := by simp [ldL]
theorem ldL_getE {n : Nd} {i j : Nat} (h : j < (ldL n i).length) : (ldL n i)[j] = cnt n.2.2.1 (n.2.2.2.1.take i) j := by simp [ldL]
theorem ldL_step {n : Nd} (h : PlN n) {i : Nat} (hi : i < n.2.2.2.1.length) : (ldL n i).set (wy n.2.2.1 (n.2.2.2.1.getD i default).1) ((ldL n i).getD (wy n.2.2.1 (n.2.2.2.1.getD i default).1) 0 + 1) = ldL n (i + 1) := by
  have hw := (wy_at (x := (n.2.2.2.1.getD i default).1) h.s.pivs h.r).1
  have he := h.e
  rw [ldL_get (by omega)]
  apply List.ext_getElem
  · rw [List.length_set, ldL_len, ldL_len]
  · intro j h1 h2
    rw [ldL_len] at h2
    rw [List.getElem_set, ldL_getE, ldL_getE, cnt_take hi]
    split
    · rename_i q; subst q; simp
    · simp
theorem lloads_l0 {n : Nd} (h : PlN n) : ∀ (m i k : Nat), n.2.2.2.1.length = i + m → 200 + m < k → node_Loads.l0 k n (ldL n i) (i : Int) = some (ldL n n.2.2.2.1.length)
  | 0, i, k + 1, hm, hk => by
    rw [node_Loads.l0, if_neg (by simp only [decide_eq_true_eq]; omega), show n.2.2.2.1.length = i by omega]
  | m + 1, i, k + 1, hm, hk => by
    have hb := h.s.buf
    have hp := h.s.pivs
    have he := h.e
    have hw := (wy_at (x := (n.2.2.2.1.getD i default).1) h.s.pivs h.r).1
    have hl := ldL_len n i
    have hc := cnt_le n.2.2.1 (n.2.2.2.1.take i) (wy n.2.2.1 (n.2.2.2.1.getD i default).1)
    rw [List.length_take] at hc
    have hst := ldL_step h (i := i) (by omega)
    rw [node_Loads.l0, if_pos (decide_eq_true (by omega)), if_pos (by omega), gt_nat, way_wy hp h.r (by omega), Option.bind_some, if_pos (decide_eq_true (by omega)), if_pos (by omega), show gt (ldL n i) ((wy n.2.2.1 (n.2.2.2.1.getD i default).1 : Nat) : Int) = (ldL n i).getD (wy n.2.2.1 (n.2.2.2.1.getD i default).1) 0 from gt_nat _ _, Int.toNat_natCast,
      w64_id (x := (ldL n i).getD _ 0 + 1) (by rw [ldL_get (by omega)]; omega) (by rw [ldL_get (by omega)]; omega), hst, w64_id (by omega) (by omega)]
    exact lloads_l0 h m (i + 1) k (by omega) (by omega)
theorem lloads_pure {n : Nd} (h : PlN n) {k : Nat} (hk : 400 < k) : node_Loads.f k n = some (ldL n n.2.2.2.1.length) := by
  have hb := h.s.buf
  have hp := h.s.kids
  have := lloads_l0 h n.2.2.2.1.length 0 k (by omega) (by omega)
  have e0 : ldL n 0 = List.replicate n.2.1.length 0 := by
    apply List.ext_getElem
    · rw [ldL_len, List.length_replicate]
    · intro j h1 h2
      unfold ldL
      simp [cnt]
  rw [e0] at this
  unfold node_Loads.f
  rw [if_pos (by omega), Int.toNat_natCast]
  exact this
noncomputable def ld (n : Nd) (j : Nat) : Nat := cnt n.2.2.1 n.2.2.2.1 j
theorem ldF_get {n : Nd} {j : Nat} (h : j < n.2.1.length) : (ldL n n.2.2.2.1.length).getD j 0 = ld n j := by rw [ldL_get h, List.take_of_length_le (Nat.le_refl _)]; rfl
theorem refLoad_l0 {n : Nd} (h : PlN n) (j : Nat) : ∀ (m i k : Nat), n.2.2.2.1.length = i + m → 4000 + m < k → sluicegateref13_Load.l0 k n (j : Int) (cnt n.2.2.1 (n.2.2.2.1.take i) j : Int) (i : Int) = some (ld n j : Int)
  | 0, i, k + 1, hm, hk => by
    rw [sluicegateref13_Load.l0, if_neg (by simp only [decide_eq_true_eq]; omega), List.take_of_length_le (by omega)]; rfl
  | m + 1, i, k + 1, hm, hk => by
    have hb := h.s.buf
    have hp := h.s.pivs
    have hm1 : n.2.2.2.1.getD i default ∈ n.2.2.2.1 := getD_mem (by omega)
    have hS : Small n.2.2.1 (n.2.2.2.1.getD i default).1 (([], [], true) : Sp) := ⟨hp, fun p hp => by have := h.s.pk p hp; omega, by have := h.s.bk _ hm1; omega, by simp, by simp⟩
    have hc := cnt_le n.2.2.1 (n.2.2.2.1.take i) j
    rw [List.length_take] at hc
    have ct := cnt_take (l := n.2.2.1) (ms := n.2.2.2.1) (i := i) (j := j) (by omega)
    rw [sluicegateref13_Load.l0, if_pos (decide_eq_true (by omega)), if_pos (by omega), gt_nat, refWay_pure hS (wy_at hp h.r) (by omega), Option.bind_some, w64_id (x := (i : Int) + 1) (by omega) (by omega)]
    by_cases c : wy n.2.2.1 (n.2.2.2.1.getD i default).1 = j
    · rw [if_pos c] at ct
      rw [if_pos (decide_eq_true (by omega)), w64_id (by omega) (by omega)]
      have := refLoad_l0 h j m (i + 1) k (by omega) (by omega)
      rw [ct] at this
      exact this
    · rw [if_neg c] at ct
      rw [if_neg (by simp only [decide_eq_true_eq]; omega)]
      have := refLoad_l0 h j m (i + 1) k (by omega) (by omega)
      rw [ct] at this
      exact this
theorem refLoad_pure {n : Nd} (h : PlN n) (j : Nat) {k : Nat} (hk : 5000 < k) : sluicegateref13_Load.f k n (j : Int) = some (ld n j : Int) := by
  have hb := h.s.buf
  have := refLoad_l0 h j n.2.2.2.1.length 0 k (by omega) (by omega)
  unfold sluicegateref13_Load.f
  exact this
structure FM (n : Nd) (a : Nat) : Prop where
  lt : a < n.2.1.length
  le : ∀ j, j < n.2.1.length → ld n j ≤ ld n a
  bef : ∀ j, j < a → ld n j < ld n a
theorem FM.uniq {n : Nd} {a b : Nat} (h1 : FM n a) (h2 : FM n b) : a = b := by
  rcases Nat.lt_trichotomy a b with h | h | h
  · have p := h1.le b h2.lt
    have q := h2.bef a h
    omega
  · exact h
  · have p := h2.le a h1.lt
    have q := h1.bef b h
    omega
theorem lheaviest_l0 {n : Nd} (h : PlN n) : ∀ (m i a k : Nat), n.2.1.length = i + m → m < k → a < n.2.1.length → (∀ j, j < i → ld n j ≤ ld n a) → (∀ j, j < a → ld n j < ld n a) → a ≤ i → ∃ a' : Nat, node_Heaviest.l0 k (ldL n n.2.2.2.1.length) (a : Int) (i : Int) = some ((a' : Int), (ld n a' : Int)) ∧ FM n a'
  | 0, i, a, k + 1, hm, _, ha, hj, hb, _ => by
    have hl := ldL_len n n.2.2.2.1.length
    rw [node_Heaviest.l0, if_neg (by simp only [decide_eq_true_eq]; omega), if_pos (by omega), show gt (ldL n n.2.2.2.1.length) (a : Int) = _ from gt_nat _ _]
    exact ⟨a, by rw [show (ldL n n.2.2.2.1.length).getD a default = _ from ldF_get ha], ha, fun j h' => hj j (by omega), hb⟩
  | m + 1, i, a, k + 1, hm, hk, ha, hj, hb, hai => by
    have hl := ldL_len n n.2.2.2.1.length
    have hk80 := h.s.kids
    rw [node_Heaviest.l0, if_pos (decide_eq_true (by omega)), if_pos (by omega), if_pos (by omega), show gt (ldL n n.2.2.2.1.length) (a : Int) = _ from gt_nat _ _, show gt (ldL n n.2.2.2.1.length) (i : Int) = _ from gt_nat _ _, w64_id (by omega) (by omega), show (ldL n n.2.2.2.1.length).getD a default = _ from ldF_get ha, show (ldL n n.2.2.2.1.length).getD i default = _ from ldF_get (by omega)]
    by_cases c : ld n a < ld n i
    · rw [if_pos (decide_eq_true (by omega))]
      exact lheaviest_l0 h m (i + 1) i k (by omega) (by omega) (by omega) (fun j h' => by
        by_cases e : j = i
        · subst e; omega
        · have := hj j (by omega); omega) (fun j h' => by have := hj j (by omega); omega) (by omega)
    · rw [if_neg (by simp only [decide_eq_true_eq]; omega)]
      exact lheaviest_l0 h m (i + 1) a k (by omega) (by omega) ha (fun j h' => by
        by_cases e : j = i
        · subst e; omega
        · exact hj j (by omega)) hb (by omega)
theorem lheaviest_pure {n : Nd} (h : PlN n) {k : Nat} (hk : 400 < k) : ∃ a : Nat, node_Heaviest.f k n = some ((a : Int), (ld n a : Int)) ∧ FM n a := by
  have hl := ldL_len n n.2.2.2.1.length
  have he := h.e
  have hk80 := h.s.kids
  unfold node_Heaviest.f
  rw [show node_Loads.f k (n.1, n.2.1, n.2.2.1, n.2.2.2.1, n.2.2.2.2) = _ from lloads_pure h hk, Option.bind_some, if_neg (by simp only [decide_eq_true_eq]; omega)]
  exact lheaviest_l0 h n.2.1.length 0 0 k (by omega) (by omega) (by omega) (fun j h' => by omega) (fun j h' => by omega) (by omega)
theorem rheaviest_l0 {n : Nd} (h : PlN n) : ∀ (m i a k : Nat), n.2.1.length = i + m → 6000 + m < k → a < i → (∀ j, j < i → ld n j ≤ ld n a) → (∀ j, j < a → ld n j < ld n a) → ∃ a' : Nat, sluicegateref13_Heaviest.l0 k n (a : Int) (i : Int) = some ((a' : Int), (ld n a' : Int)) ∧ FM n a'
  | 0, i, a, k + 1, hm, _, ha, hj, hb => by
    have he := h.e
    rw [sluicegateref13_Heaviest.l0, if_neg (by simp only [decide_eq_true_eq]; omega), if_neg (by simp only [decide_eq_true_eq]; omega), show sluicegateref13_Load.f k (n.1, n.2.1, n.2.2.1, n.2.2.2.1, n.2.2.2.2) (a : Int) = _ from refLoad_pure h a (by omega), Option.bind_some]
    exact ⟨a, rfl, by omega, fun j h' => hj j (by omega), hb⟩
  | m + 1, i, a, k + 1, hm, hk, ha, hj, hb => by
    have hk80 := h.s.kids
    rw [sluicegateref13_Heaviest.l0, if_pos (decide_eq_true (by omega)), show sluicegateref13_Load.f k (n.1, n.2.1, n.2.2.1, n.2.2.2.1, n.2.2.2.2) (i : Int) = _ from refLoad_pure h i (by omega), Option.bind_some, show sluicegateref13_Load.f k (n.1, n.2.1, n.2.2.1, n.2.2.2.1, n.2.2.2.2) (a : Int) = _ from refLoad_pure h a (by omega), Option.bind_some, w64_id (by omega) (by omega)]
    by_cases c : ld n a < ld n i
    · rw [if_pos (decide_eq_true (by omega))]
      exact rheaviest_l0 h m (i + 1) i k (by omega) (by omega) (by omega) (fun j h' => by
        by_cases e : j = i
        · subst e; omega
        · have := hj j (by omega); omega) (fun j h' => by have := hj j (by omega); omega)
    · rw [if_neg (by simp only [decide_eq_true_eq]; omega)]
      exact rheaviest_l0 h m (i + 1) a k (by omega) (by omega) (by omega) (fun j h' => by
        by_cases e : j = i
        · subst e; omega
        · exact hj j (by omega)) hb
theorem rheaviest_pure {n : Nd} (h : PlN n) {k : Nat} (hk : 7000 < k) : ∃ a : Nat, sluicegateref13_Heaviest.f k n = some ((a : Int), (ld n a : Int)) ∧ FM n a := by
  have he := h.e
  have hk80 := h.s.kids
  unfold sluicegateref13_Heaviest.f
  exact rheaviest_l0 h (n.2.1.length - 1) 1 0 k (by omega) (by omega) (by omega) (fun j h' => by rw [show j = 0 by omega]; exact Nat.le_refl _) (fun j h' => by omega)
theorem rAhead_pure {n : Nd} (h : PlN n) {i j : Nat} {k : Nat} (hk : 5000 < k) (hlt : Klt ((i : Int), (ld n i : Int)) ((j : Int), (ld n j : Int))) : sluicegateref13_Ahead.f k n (i : Int) (j : Int) = some true := by
  unfold sluicegateref13_Ahead.f
  rw [show sluicegateref13_Load.f k (n.1, n.2.1, n.2.2.1, n.2.2.2.1, n.2.2.2.2) (i : Int) = _ from refLoad_pure h i hk, Option.bind_some, show sluicegateref13_Load.f k (n.1, n.2.1, n.2.2.1, n.2.2.2.1, n.2.2.2.2) (j : Int) = _ from refLoad_pure h j hk, Option.bind_some]
  unfold Klt at hlt
  dsimp only at hlt
  by_cases c : ld n j < ld n i
  · rw [if_pos (decide_eq_true (by omega))]
  · rw [if_neg (by simp only [decide_eq_true_eq]; omega), if_pos (decide_eq_true (by omega)), decide_eq_true (by omega)]
/-- the kids in their row -/
structure RowN (n : Nd) (q : List Nat) : Prop where
  len : q.length = n.2.1.length
  lt : ∀ x ∈ q, x < n.2.1.length
  nd : q.Nodup
  pm : q.Perm (List.range n.2.1.length)
  st : q.Pairwise fun i j : Nat => Klt ((i : Int), (ld n i : Int)) ((j : Int), (ld n j : Int))
theorem loop13 {n : Nd} {q : List Nat} (h : PlN n) (hq : RowN n q) {F : Nat → List (Int × Bool) → Int → Option Bool}
    (hF : ∀ k x1 x2, F (k + 1) x1 x2 = if (decide (x2 < ((ldL n n.2.2.2.1.length).length : Int))) = true then (if 0 ≤ x2 ∧ x2 < ((ldL n n.2.2.2.1.length).length : Int) then ((sluicegateref13_Load.f k (n.1, n.2.1, n.2.2.1, n.2.2.2.1, n.2.2.2.2) x2).bind fun r9 => (if (!decide ((gt (ldL n n.2.2.2.1.length) x2) = r9)) = true then (some false) else (if 0 ≤ x2 ∧ x2 < ((q.map fun x : Nat => (x : Int)).length : Int) then (if (mget false x1 (gt (q.map fun x : Nat => (x : Int)) x2)) = true then (some false) else (if (decide ((gt (q.map fun x : Nat => (x : Int)) x2) < 0)) = true then (some false) else (if (decide (((ldL n n.2.2.2.1.length).length : Int) ≤ (gt (q.map fun x : Nat => (x : Int)) x2))) = true then (some false) else (if (decide (0 < x2)) = true then (if 0 ≤ (w64 (x2 - 1)) ∧ (w64 (x2 - 1)) < ((q.map fun x : Nat => (x : Int)).length : Int) then ((sluicegateref13_Ahead.f k (n.1, n.2.1, n.2.2.1, n.2.2.2.1, n.2.2.2.2) (gt (q.map fun x : Nat => (x : Int)) (w64 (x2 - 1))) (gt (q.map fun x : Nat => (x : Int)) x2)).bind fun r10 => (if (!r10) = true then (some false) else (F k (mput (gt (q.map fun x : Nat => (x : Int)) x2) true x1) (w64 (x2 + 1))))) else none) else (F k (mput (gt (q.map fun x : Nat => (x : Int)) x2) true x1) (w64 (x2 + 1))))))) else none))) else none) else ((sluicegatelaw13_awake.f k).bind fun r11 => (some r11))) :
    ∀ (m i : Nat) (x1 : List (Int × Bool)) (k : Nat), n.2.1.length = i + m → m + 7000 < k → (∀ y : Nat, mget false x1 (y : Int) = true → y ∈ q.take i) → F k x1 (i : Int) = some true
  | 0, i, x1, k + 1, hm, hk, hx => by
    have hl := ldL_len n n.2.2.2.1.length
    obtain ⟨k', rfl⟩ : ∃ k', k = k' + 40 := ⟨k - 40, by omega⟩
    rw [hF, if_neg (by simp only [decide_eq_true_eq]; omega), awake13_pure]; rfl
  | m + 1, i, x1, k + 1, hm, hk, hx => by
    have hl := ldL_len n n.2.2.2.1.length
    have hql := hq.len
    have hk80 := h.s.kids
    have hqm : (q.map fun x : Nat => (x : Int)).length = n.2.1.length := by rw [List.length_map, hql]
    have gq : ∀ j, (hj : j < q.length) → gt (q.map fun x : Nat => (x : Int)) (j : Int) = ((q[j] : Nat) : Int) := fun j hj => by
      rw [gt_nat, List.getD_eq_getElem?_getD, List.getElem?_map, List.getElem?_eq_getElem hj]; rfl
    have hi : i < q.length := by omega
    have hlt := hq.lt _ (List.getElem_mem hi)
    have hnew : mget false x1 ((q[i] : Nat) : Int) = false := Bool.eq_false_iff.2 fun z => by
      obtain ⟨j, hj, e⟩ := List.mem_iff_getElem.1 (hx _ z)
      rw [List.length_take] at hj
      rw [List.getElem_take] at e
      exact List.pairwise_iff_getElem.1 hq.nd j i (by omega) hi (by omega) e
    have e1 : w64 ((i : Int) + 1) = ((i + 1 : Nat) : Int) := by rw [w64_id (by omega) (by omega)]; omega
    have nxt := loop13 h hq hF m (i + 1) (mput ((q[i] : Nat) : Int) true x1) k (by omega) (by omega) fun y hy => by
      rw [mget_mput] at hy
      rw [List.take_add_one, List.getElem?_eq_getElem hi]
      by_cases c : ((q[i] : Nat) : Int) = (y : Int)
      · have : q[i] = y := by omega
        rw [List.mem_append]; exact .inr (by simp [this])
      · rw [if_neg c] at hy
        rw [List.mem_append]; exact .inl (hx y hy)
    rw [hF, if_pos (decide_eq_true (by omega)), if_pos (by omega), show sluicegateref13_Load.f k (n.1, n.2.1, n.2.2.1, n.2.2.2.1, n.2.2.2.2) (i : Int) = _ from refLoad_pure h i (by omega), Option.bind_some, show gt (ldL n n.2.2.2.1.length) (i : Int) = _ from (gt_nat _ _).trans (ldF_get (by omega)), if_neg (by simp), if_pos (by omega), gq i hi, hnew, if_neg (by simp), if_neg (by simp only [decide_eq_true_eq]; omega), if_neg (by simp only [decide_eq_true_eq]; omega), e1]
    by_cases c : 0 < i
    · have e2 : w64 ((i : Int) - 1) = ((i - 1 : Nat) : Int) := by rw [w64_id (by omega) (by omega)]; omega
      rw [if_pos (decide_eq_true (by omega)), e2, if_pos (by omega), gq (i - 1) (by omega), show sluicegateref13_Ahead.f k (n.1, n.2.1, n.2.2.1, n.2.2.2.1, n.2.2.2.2) ((q[i - 1] : Nat) : Int) ((q[i] : Nat) : Int) = _ from rAhead_pure h (by omega) (List.pairwise_iff_getElem.1 hq.st (i - 1) i (by omega) hi (by omega)), Option.bind_some, if_neg (by simp)]
      exact nxt
    · rw [if_neg (by simp only [decide_eq_true_eq]; omega)]
      exact nxt
theorem row_of {n : Nd} (h : PlN n) {r : List Kd} (hp : r.Perm ((List.range (ldL n n.2.2.2.1.length).length).map fun j : Nat => ((j : Int), (ldL n n.2.2.2.1.length).getD j 0))) (hs : r.Pairwise Klt) : ∃ q : List Nat, r.map (·.1) = q.map (fun x : Nat => (x : Int)) ∧ RowN n q := by
  have hl := ldL_len n n.2.2.2.1.length
  rw [hl] at hp
  have hr : ∀ p ∈ r, ∃ j, j < n.2.1.length ∧ p = ((j : Int), (ld n j : Int)) := fun p hpm => by
    have := hp.mem_iff.1 hpm
    obtain ⟨j, hj, rfl⟩ := List.mem_map.1 this
    have hj : j < n.2.1.length := by simpa using hj
    exact ⟨j, hj, by rw [ldF_get hj]⟩
  have e : r = (r.map fun p => p.1.toNat).map fun j : Nat => ((j : Int), (ld n j : Int)) := by
    rw [List.map_map]
    conv => lhs; rw [← List.map_id r]
    apply List.map_congr_left
    intro p hpm
    obtain ⟨j, hj, rfl⟩ := hr p hpm
    simp
  have hpm : (r.map fun p => p.1.toNat).Perm (List.range n.2.1.length) := by
    have h1 := hp.map fun p => p.1.toNat
    rw [List.map_map] at h1
    have h2 : ((fun p : Int × Int => p.1.toNat) ∘ fun j : Nat => ((j : Int), (ldL n n.2.2.2.1.length).getD j 0)) = id := by funext j; simp
    rw [h2, List.map_id] at h1
    exact h1
  refine ⟨r.map fun p => p.1.toNat, ?_, ?_, ?_, ?_, ?_, ?_⟩
  · conv => lhs; rw [e]
    rw [List.map_map]; rfl
  · rw [List.length_map, hp.length_eq]; simp
  · intro x hx
    obtain ⟨p, hpm, rfl⟩ := List.mem_map.1 hx
    obtain ⟨j, hj, rfl⟩ := hr p hpm
    simpa using hj
  · exact hpm.nodup_iff.2 List.nodup_range
  · exact hpm
  · rw [e, List.pairwise_map] at hs
    exact hs
theorem NodeLoads_pure {u : Prop} (n : Nd) (_ : u) : ∃ k, sluicegatelaw13_NodeLoads.f k n = some true := by
  refine ⟨20000 + 40, ?_⟩
  obtain ⟨g, e1, d1⟩ := greatN_pure n (k := 20000 + 40) (by omega)
  unfold sluicegatelaw13_NodeLoads.f
  rw [show sluicegatelaw13_Great.f (20000 + 40) (n.1, n.2.1, n.2.2.1, n.2.2.2.1, n.2.2.2.2) = _ from e1, Option.bind_some, awake13_pure]
  cases g with
  | true => rfl
  | false =>
    have hn := d1 rfl
    obtain ⟨b, e2, d2⟩ := plain_pure hn (k := 20000 + 40) (by omega)
    rw [if_neg (by simp), show sluicegateref13_Plain.f (20000 + 40) (n.1, n.2.1, n.2.2.1, n.2.2.2.1, n.2.2.2.2) = _ from e2, Option.bind_some]
    cases b with
    | false => rfl
    | true =>
      have h : PlN n := ⟨hn, (d2 rfl).1, (d2 rfl).2⟩
      have hl := ldL_len n n.2.2.2.1.length
      have hk80 := hn.kids
      have he := h.e
      have hL := lloads_pure h (k := 20000 + 40) (by omega)
      obtain ⟨r, r1, r2, r3⟩ := rank_pure (n := n) (k := 20000 + 40) (by omega) (by omega) hL
      obtain ⟨a, a1, a2⟩ := lheaviest_pure h (k := 20000 + 40) (by omega)
      obtain ⟨a', b1, b2⟩ := rheaviest_pure h (k := 20000 + 40) (by omega)
      obtain rfl := a2.uniq b2
      obtain ⟨q, q1, hq⟩ := row_of h r2 r3
      have hql := hq.len
      have hqm : (q.map fun x : Nat => (x : Int)).length = n.2.1.length := by rw [List.length_map, hql]
      rw [q1] at r1
      have q0 : q[0]'(by omega) = a := by
        have hmem := hq.lt _ (List.getElem_mem (show 0 < q.length by omega))
        refine FM.uniq ⟨hmem, ?_, ?_⟩ a2
        all_goals
          intro j hj
          have hin : j ∈ q := hq.pm.mem_iff.2 (List.mem_range.2 (by omega))
          obtain ⟨i, hi, e⟩ := List.mem_iff_getElem.1 hin
          by_cases z : i = 0
          · subst z; subst e; first | exact Nat.le_refl _ | omega
          · have := List.pairwise_iff_getElem.1 hq.st 0 i (by omega) hi (by omega)
            rw [e] at this
            unfold Klt at this
            dsimp only at this
            omega
      have g0 : gt (q.map fun x : Nat => (x : Int)) 0 = (a : Int) := by
        have : gt (q.map fun x : Nat => (x : Int)) ((0 : Nat) : Int) = ((q[0]'(by omega) : Nat) : Int) := by
          rw [gt_nat, List.getD_eq_getElem?_getD, List.getElem?_map, List.getElem?_eq_getElem (by omega)]; rfl
        rw [q0] at this
        exact this
      rw [if_neg (by simp), show node_Loads.f (20000 + 40) (n.1, n.2.1, n.2.2.1, n.2.2.2.1, n.2.2.2.2) = _ from hL, Option.bind_some, show node_Rank.f (20000 + 40) (n.1, n.2.1, n.2.2.1, n.2.2.2.1, n.2.2.2.2) = _ from r1, Option.bind_some, show node_Heaviest.f (20000 + 40) (n.1, n.2.1, n.2.2.1, n.2.2.2.1, n.2.2.2.2) = _ from a1, Option.bind_some, show sluicegateref13_Heaviest.f (20000 + 40) (n.1, n.2.1, n.2.2.1, n.2.2.2.1, n.2.2.2.2) = _ from b1, Option.bind_some,
        if_neg (by simp [hl]), if_neg (by simp [hl, hql]), if_neg (by simp), if_neg (by simp), if_pos (decide_eq_true (by omega)), if_pos (by omega), g0, if_neg (by simp)]
      exact loop13 h hq (F := fun k x1 x2 => sluicegatelaw13_NodeLoads.l0 k n (ldL n n.2.2.2.1.length) (q.map fun x : Nat => (x : Int)) x1 x2) (fun k x1 x2 => by show sluicegatelaw13_NodeLoads.l0 (k + 1) _ _ _ _ _ = _; rw [sluicegatelaw13_NodeLoads.l0]) n.2.1.length 0 [] (20000 + 40) (by omega) (by omega) (fun y hy => by simp [mget] at hy)
end Go.SK.T
