/- The plain law behind CodeBack: what its code computes is true for all settings and nodes. -/
import Derived.Test.YtoohimccifdbeaaGreatXCodeBackF3
import Derived.KernelRfl
import Derived.Sort.Walk13a
import Derived.Sort.AssemblyPlain
set_option linter.unusedVariables false
set_option linter.unusedSimpArgs false
namespace Go.SK.T
open Go Go.SK
theorem compare_l0 : ∀ (k : Nat) (a b : List UInt8) (i : Nat), a.length ≤ 4611686018427387904 → b.length ≤ 4611686018427387904 → i ≤ a.length → i ≤ b.length → a.length - i < k →
    Q69.l0 k a b (i : Int) = some (scmp (a.drop i) (b.drop i))
  | 0, a, b, i, _, _, _, _, h => by omega
  | k + 1, a, b, i, ha, hb, hia, hib, hk => by
    unfold Q69.l0
    by_cases h1 : i < a.length
    · by_cases h2 : i < b.length
      · have g1 : (0 : Int) ≤ (i : Int) ∧ (i : Int) < (a.length : Int) := by omega
        have g2 : (0 : Int) ≤ (i : Int) ∧ (i : Int) < (b.length : Int) := by omega
        have w : w64 ((i : Int) + 1) = ((i + 1 : Nat) : Int) := by rw [w64_id (by omega) (by omega)]; omega
        have ih := compare_l0 k a b (i + 1) ha hb (by omega) (by omega) (by omega)
        simp only [g1.2, g2.2, g1, g2, decide_true, if_true, and_self, w, ih, gtb_lt, Int.toNat_natCast, drop_byte h1, drop_byte h2, scmp_cons, decide_eq_true_eq]
        split
        · rfl
        · split <;> rfl
      · have g1 : (i : Int) < (a.length : Int) := by omega
        have g2 : ¬ (i : Int) < (b.length : Int) := by omega
        have e : b.drop i = [] := List.drop_eq_nil_of_le (by omega)
        have z1 : ¬ (a.length : Int) < (b.length : Int) := by omega
        have z2 : (b.length : Int) < (a.length : Int) := by omega
        have z3 : ¬ (a.drop i).length = 0 := by rw [List.length_drop]; omega
        simp [g1, g2, e, z1, z2, scmp_nil_right, z3]
        omega
    · have g1 : ¬ (i : Int) < (a.length : Int) := by omega
      have e : a.drop i = [] := List.drop_eq_nil_of_le (by omega)
      have z : (b.drop i).length = b.length - i := List.length_drop ..
      simp only [g1, e, scmp_nil_left, z, decide_false, Bool.false_eq_true, if_false, decide_eq_true_eq]
      by_cases h2 : b.length = i
      · have z1 : ¬ (a.length : Int) < (b.length : Int) := by omega
        have z2 : ¬ (b.length : Int) < (a.length : Int) := by omega
        have h3 : a.length = i := by omega
        simp [h2, h3]
      · have z1 : (a.length : Int) < (b.length : Int) := by omega
        have z2 : ¬ b.length - i = 0 := by omega
        simp [z1, z2]
theorem compare_pure {k : Nat} {a b : List UInt8} (ha : a.length ≤ 2000) (hb : b.length ≤ 2000) (hk : 2000 < k) : Q69.f k a b = some (scmp a b) := by
  have := compare_l0 k a b 0 (by omega) (by omega) (by omega) (by omega) (by omega)
  simpa [Q69.f] using this
abbrev Msg := List UInt8 × Bool × List UInt8
theorem msg_eq (x y : Msg) : (decide (x.1 = y.1) && ((x.2.1 == y.2.1) && (decide (x.2.2 = y.2.2) && true))) = decide (x = y) := by
  obtain ⟨a, b, c⟩ := x
  obtain ⟨d, e, f⟩ := y
  by_cases h1 : a = d <;> by_cases h2 : b = e <;> by_cases h3 : c = f <;> simp [h1, h2, h3]
theorem refSame_l0 : ∀ (k : Nat) (a b : List Msg) (i : Nat), a.length ≤ 1000000 → a.length = b.length → i ≤ a.length → a.length - i < k → Q77.l0 k a b (i : Int) = some (decide (a.drop i = b.drop i))
  | 0, a, b, i, _, _, _, h => by omega
  | k + 1, a, b, i, ha, hab, hi, hk => by
    rw [Q77.l0]
    by_cases h : i < a.length
    · have g1 : (0 : Int) ≤ (i : Int) ∧ (i : Int) < (a.length : Int) := by omega
      have g2 : (0 : Int) ≤ (i : Int) ∧ (i : Int) < (b.length : Int) := by omega
      rw [if_pos (decide_eq_true g1.2), if_pos g1, if_pos g2, msg_eq, w64_succ (by omega), refSame_l0 k a b (i + 1) ha hab (by omega) (by omega), drop_cons h, drop_cons (show i < b.length by omega), gt_nat, gt_nat]
      generalize a.getD i default = x
      generalize b.getD i default = y
      by_cases e : x = y
      · simp [e]
      · simp [e]
    · rw [if_neg (by simp; omega), List.drop_eq_nil_of_le (by omega), List.drop_eq_nil_of_le (by omega)]
      rfl
theorem refSame_pure {k : Nat} {a b : List Msg} (ha : a.length ≤ 1000000) (hk : a.length < k) : Q77.f k a b = some (decide (a = b)) := by
  unfold Q77.f
  by_cases h : a.length = b.length
  · rw [if_neg (by simp [h])]
    have := refSame_l0 k a b 0 ha h (by omega) (by omega)
    simpa using this
  · rw [if_pos (by simp; omega)]
    have : a ≠ b := fun e => h (by rw [e])
    simp [this]
abbrev Cfg := Int × Int × Int × Int × Int × Int × Int × Int
abbrev Pr := List UInt8 × List UInt8
abbrev Nd := Int × List Int × List (List UInt8) × List Msg × List Pr
structure SmallN (n : Nd) : Prop where
  kids : n.2.1.length ≤ 80
  pivs : n.2.2.1.length ≤ 80
  buf : n.2.2.2.1.length ≤ 150
  prs : n.2.2.2.2.length ≤ 150
  pk : ∀ p ∈ n.2.2.1, p.length ≤ 200
  bk : ∀ m ∈ n.2.2.2.1, m.1.length ≤ 200
  rk : ∀ m ∈ n.2.2.2.2, m.1.length ≤ 200
structure MidN (n : Nd) : Prop where
  kids : n.2.1.length ≤ 80
  pivs : n.2.2.1.length ≤ 80
  buf : n.2.2.2.1.length ≤ 400
  prs : n.2.2.2.2.length ≤ 400
  pk : ∀ p ∈ n.2.2.1, p.length ≤ 300
  bk : ∀ m ∈ n.2.2.2.1, m.1.length ≤ 300
  rk : ∀ m ∈ n.2.2.2.2, m.1.length ≤ 300
theorem SmallN.mid {n : Nd} (h : SmallN n) : MidN n := ⟨h.kids, h.pivs, by have := h.buf; omega, by have := h.prs; omega, fun p hp => by have := h.pk p hp; omega, fun p hp => by have := h.bk p hp; omega, fun p hp => by have := h.rk p hp; omega⟩
theorem great_l2 (n : Nd) (hb : n.2.2.2.2.length ≤ 150) : ∀ (k i : Nat), i ≤ n.2.2.2.2.length → n.2.2.2.2.length - i < k → (∀ m ∈ n.2.2.2.2.take i, m.1.length ≤ 200) →
    ∃ g, Q65.l2 k n (i : Int) = some g ∧ (g = false → ∀ m ∈ n.2.2.2.2, m.1.length ≤ 200)
  | 0, i, _, h, _ => by omega
  | k + 1, i, hi, hk, hm => by
    rw [Q65.l2]
    by_cases h : i < n.2.2.2.2.length
    · have g1 : (0 : Int) ≤ (i : Int) ∧ (i : Int) < (n.2.2.2.2.length : Int) := by omega
      rw [if_pos (decide_eq_true g1.2), if_pos g1, gt_nat]
      by_cases h2 : 200 < (n.2.2.2.2.getD i default).1.length
      · exact ⟨true, by rw [if_pos (decide_eq_true (by omega))], fun h => by cases h⟩
      · rw [if_neg (by simp only [decide_eq_true_eq]; omega), w64_succ (by omega)]
        refine great_l2 n hb k (i + 1) (by omega) (by omega) fun m hm' => ?_
        rw [List.take_add_one, List.mem_append] at hm'
        rcases hm' with hm' | hm'
        · exact hm m hm'
        · rw [List.getElem?_eq_getElem h] at hm'
          simp only [Option.toList_some, List.mem_singleton] at hm'
          subst hm'
          rw [List.getD_eq_getElem?_getD, List.getElem?_eq_getElem h] at h2
          simp only [Option.getD_some] at h2
          omega
    · rw [if_neg (by simp only [decide_eq_true_eq]; omega)]
      exact ⟨false, rfl, fun _ => by rwa [List.take_of_length_le (by omega)] at hm⟩
theorem great_l1 (n : Nd) (hb : n.2.2.2.2.length ≤ 150) (hc : n.2.2.2.1.length ≤ 150) : ∀ (k i : Nat), i ≤ n.2.2.2.1.length → 200 + (n.2.2.2.1.length - i) < k → (∀ m ∈ n.2.2.2.1.take i, m.1.length ≤ 200) →
    ∃ g, Q65.l1 k n (i : Int) = some g ∧ (g = false → (∀ m ∈ n.2.2.2.1, m.1.length ≤ 200) ∧ ∀ m ∈ n.2.2.2.2, m.1.length ≤ 200)
  | 0, i, _, h, _ => by omega
  | k + 1, i, hi, hk, hm => by
    rw [Q65.l1]
    by_cases h : i < n.2.2.2.1.length
    · have g1 : (0 : Int) ≤ (i : Int) ∧ (i : Int) < (n.2.2.2.1.length : Int) := by omega
      rw [if_pos (decide_eq_true g1.2), if_pos g1, gt_nat]
      by_cases h2 : 200 < (n.2.2.2.1.getD i default).1.length
      · exact ⟨true, by rw [if_pos (decide_eq_true (by omega))], fun h => by cases h⟩
      · rw [if_neg (by simp only [decide_eq_true_eq]; omega), w64_succ (by omega)]
        refine great_l1 n hb hc k (i + 1) (by omega) (by omega) fun m hm' => ?_
        rw [List.take_add_one, List.mem_append] at hm'
        rcases hm' with hm' | hm'
        · exact hm m hm'
        · rw [List.getElem?_eq_getElem h] at hm'
          simp only [Option.toList_some, List.mem_singleton] at hm'
          subst hm'
          rw [List.getD_eq_getElem?_getD, List.getElem?_eq_getElem h] at h2
          simp only [Option.getD_some] at h2
          omega
    · rw [if_neg (by simp only [decide_eq_true_eq]; omega)]
      obtain ⟨g, e1, e2⟩ := great_l2 n hb k 0 (by omega) (by omega) (by simp)
      rw [List.take_of_length_le (by omega)] at hm
      exact ⟨g, e1, fun e => ⟨hm, e2 e⟩⟩
theorem great_l0 (n : Nd) (hb : n.2.2.2.2.length ≤ 150) (hc : n.2.2.2.1.length ≤ 150) (hd : n.2.2.1.length ≤ 80) : ∀ (k i : Nat), i ≤ n.2.2.1.length → 400 + (n.2.2.1.length - i) < k → (∀ m ∈ n.2.2.1.take i, m.length ≤ 200) →
    ∃ g, Q65.l0 k n (i : Int) = some g ∧ (g = false → (∀ m ∈ n.2.2.1, m.length ≤ 200) ∧ (∀ m ∈ n.2.2.2.1, m.1.length ≤ 200) ∧ ∀ m ∈ n.2.2.2.2, m.1.length ≤ 200)
  | 0, i, _, h, _ => by omega
  | k + 1, i, hi, hk, hm => by
    rw [Q65.l0]
    by_cases h : i < n.2.2.1.length
    · have g1 : (0 : Int) ≤ (i : Int) ∧ (i : Int) < (n.2.2.1.length : Int) := by omega
      rw [if_pos (decide_eq_true g1.2), if_pos g1, gt_nat]
      by_cases h2 : 200 < (n.2.2.1.getD i default).length
      · exact ⟨true, by rw [if_pos (decide_eq_true (by omega))], fun h => by cases h⟩
      · rw [if_neg (by simp only [decide_eq_true_eq]; omega), w64_succ (by omega)]
        refine great_l0 n hb hc hd k (i + 1) (by omega) (by omega) fun m hm' => ?_
        rw [List.take_add_one, List.mem_append] at hm'
        rcases hm' with hm' | hm'
        · exact hm m hm'
        · rw [List.getElem?_eq_getElem h] at hm'
          simp only [Option.toList_some, List.mem_singleton] at hm'
          subst hm'
          rw [List.getD_eq_getElem?_getD, List.getElem?_eq_getElem h] at h2
          simp only [Option.getD_some] at h2
          omega
    · rw [if_neg (by simp only [decide_eq_true_eq]; omega)]
      obtain ⟨g, e1, e2⟩ := great_l1 n hb hc k 0 (by omega) (by omega) (by simp)
      rw [List.take_of_length_le (by omega)] at hm
      exact ⟨g, e1, fun e => ⟨hm, e2 e⟩⟩
theorem greatN_pure (n : Nd) {k : Nat} (hk : 1000 < k) : ∃ g, Q65.f k n = some g ∧ (g = false → SmallN n) := by
  unfold Q65.f
  by_cases h1 : 80 < n.2.1.length
  · exact ⟨true, by rw [if_pos (decide_eq_true (by omega))], fun h => by cases h⟩
  · rw [if_neg (by simp only [decide_eq_true_eq]; omega)]
    by_cases h2 : 80 < n.2.2.1.length
    · exact ⟨true, by rw [if_pos (decide_eq_true (by omega))], fun h => by cases h⟩
    · rw [if_neg (by simp only [decide_eq_true_eq]; omega)]
      by_cases h3 : 150 < n.2.2.2.1.length
      · exact ⟨true, by rw [if_pos (decide_eq_true (by omega))], fun h => by cases h⟩
      · rw [if_neg (by simp only [decide_eq_true_eq]; omega)]
        by_cases h4 : 150 < n.2.2.2.2.length
        · exact ⟨true, by rw [if_pos (decide_eq_true (by omega))], fun h => by cases h⟩
        · rw [if_neg (by simp only [decide_eq_true_eq]; omega)]
          obtain ⟨g, e1, e2⟩ := great_l0 n (by omega) (by omega) (by omega) k 0 (by omega) (by omega) (by simp)
          exact ⟨g, e1, fun e => ⟨by omega, by omega, by omega, by omega, (e2 e).1, (e2 e).2.1, (e2 e).2.2⟩⟩
structure OkC (c : Cfg) : Prop where
  fan : 8 ≤ c.2.2.2.1 ∧ c.2.2.2.1 ≤ 64
  key : 1 ≤ c.2.2.2.2.2.2.1 ∧ c.2.2.2.2.2.2.1 ≤ 64
  val : 0 ≤ c.2.2.2.2.2.2.2 ∧ c.2.2.2.2.2.2.2 ≤ 256
  buf : 16 ≤ c.2.2.2.2.1 ∧ c.2.2.2.2.1 ≤ 512
  leaf : c.2.2.2.2.1 ≤ c.2.2.2.2.2.1 ∧ c.2.2.2.2.2.1 ≤ 1024
abbrev Sp := List UInt8 × List UInt8 × Bool
def inS (s : Sp) (x : List UInt8) : Bool := !Op.bytesLess x s.1 && (s.2.2 || Op.bytesLess x s.2.1)
theorem refIn_pure {k : Nat} {s : Sp} {x : List UInt8} (h1 : s.1.length ≤ 2000) (h2 : s.2.1.length ≤ 2000) (hx : x.length ≤ 2000) (hk : 2000 < k) : Q70.f k s x = some (inS s x) := by
  unfold Q70.f inS
  rw [compare_pure h1 hx hk, compare_pure hx h2 hk]
  simp only [Option.bind_some, scmp_le, scmp_lt, decide_eq_true_eq]
  cases h : Op.bytesLess x s.1 <;> cases s.2.2 <;> simp
theorem scmp_ge (a b : List UInt8) : decide (0 ≤ scmp a b) = !Op.bytesLess a b := by
  rcases scmp_vals a b with ⟨e, h⟩ | ⟨e, rfl⟩ | ⟨e, h⟩
  · simp [e, h]
  · simp [e, bl_irr]
  · simp [e, bl_asymm h]
def riseP : List Pr → Bool
  | a :: b :: r => Op.bytesLess a.1 b.1 && riseP (b :: r)
  | _ => true
theorem riseP_drop {l : List Pr} {i : Nat} (h : i + 1 < l.length) : riseP (l.drop i) = (Op.bytesLess (l.getD i default).1 (l.getD (i + 1) default).1 && riseP (l.drop (i + 1))) := by
  rw [drop_cons (show i < l.length by omega), drop_cons h]
  rfl
theorem riseP_end {l : List Pr} {i : Nat} (h : l.length ≤ i + 1) : riseP (l.drop i) = true := by
  by_cases h' : i < l.length
  · rw [drop_cons h', List.drop_eq_nil_of_le (by omega)]
    rfl
  · rw [List.drop_eq_nil_of_le (by omega)]
    rfl
theorem right11_l0 {l : List Pr} (h150 : l.length ≤ 400) (hl : ∀ m ∈ l, m.1.length ≤ 300) : ∀ (k i : Nat), i ≤ l.length → 2001 + (l.length - i) < k → Q78.l0 k l ((i + 1 : Nat) : Int) = some (riseP (l.drop i))
  | 0, i, _, h => by omega
  | k + 1, i, hi, hk => by
    rw [Q78.l0]
    by_cases h : i + 1 < l.length
    · have g1 : (0 : Int) ≤ (i : Int) ∧ (i : Int) < (l.length : Int) := by omega
      have g2 : (0 : Int) ≤ ((i + 1 : Nat) : Int) ∧ ((i + 1 : Nat) : Int) < (l.length : Int) := by omega
      have k1 := hl _ (getD_mem (d := default) (show i < l.length by omega))
      have k2 := hl _ (getD_mem (d := default) h)
      rw [if_pos (decide_eq_true g2.2), w64_pred (by omega) (by omega), Nat.add_sub_cancel, if_pos g1, if_pos g2, gt_nat, gt_nat, compare_pure (by omega) (by omega) (by omega), Option.bind_some, scmp_ge, w64_succ (by omega), right11_l0 h150 hl k (i + 1) (by omega) (by omega), riseP_drop h]
      cases Op.bytesLess (l.getD i default).1 (l.getD (i + 1) default).1 <;> rfl
    · rw [if_neg (by simp only [decide_eq_true_eq]; omega), riseP_end (by omega)]
theorem right11_pure {l : List Pr} (h150 : l.length ≤ 400) (hl : ∀ m ∈ l, m.1.length ≤ 300) {k : Nat} (hk : 3000 < k) : Q78.f k l = some (riseP l) := by
  have := right11_l0 h150 hl k 0 (by omega) (by omega)
  simpa [Q78.f] using this
def keyB (c : Cfg) (x : List UInt8) : Bool := decide (1 ≤ (x.length : Int) ∧ (x.length : Int) ≤ c.2.2.2.2.2.2.1)
theorem key13_pure (c : Cfg) (x : List UInt8) : Q84.f c x = some (keyB c x) := by
  unfold Q84.f keyB
  by_cases h : 1 ≤ (x.length : Int) <;> simp [h]
def prB (c : Cfg) (s : Sp) (p : Pr) : Bool := keyB c p.1 && (inS s p.1 && decide ((p.2.length : Int) ≤ c.2.2.2.2.2.2.2))
def outB (c : Cfg) (s : Sp) (n : Nd) : Bool := n.2.2.2.2.all (prB c s) && (decide (n.2.1 = []) && (decide (n.2.2.1 = []) && (decide (n.2.2.2.1 = []) && (decide ((n.2.2.2.2.length : Int) ≤ c.2.2.2.2.2.1) && riseP n.2.2.2.2))))
theorem outer13_l0 {c : Cfg} {s : Sp} {n : Nd} (hn : MidN n) (h1 : s.1.length ≤ 2000) (h2 : s.2.1.length ≤ 2000) : ∀ (k i : Nat), i ≤ n.2.2.2.2.length → 3001 + (n.2.2.2.2.length - i) < k →
    Q88.l0 k c s n (i : Int) = some ((n.2.2.2.2.drop i).all (prB c s) && (decide (n.2.1 = []) && (decide (n.2.2.1 = []) && (decide (n.2.2.2.1 = []) && (decide ((n.2.2.2.2.length : Int) ≤ c.2.2.2.2.2.1) && riseP n.2.2.2.2)))))
  | 0, i, _, h => by omega
  | k + 1, i, hi, hk => by
    have h150 := hn.prs
    rw [Q88.l0]
    by_cases h : i < n.2.2.2.2.length
    · have g1 : (0 : Int) ≤ (i : Int) ∧ (i : Int) < (n.2.2.2.2.length : Int) := by omega
      have k1 := hn.rk _ (getD_mem (d := default) h)
      have etc : (c.1, c.2.1, c.2.2.1, c.2.2.2.1, c.2.2.2.2.1, c.2.2.2.2.2.1, c.2.2.2.2.2.2.1, c.2.2.2.2.2.2.2) = c := rfl
      have eta : (s.1, s.2.1, s.2.2) = s := rfl
      rw [if_pos (decide_eq_true g1.2), if_pos g1, gt_nat, etc, key13_pure, Option.bind_some, eta, refIn_pure h1 h2 (by omega) (by omega), Option.bind_some, w64_succ (by omega), outer13_l0 hn h1 h2 k (i + 1) (by omega) (by omega), drop_cons h, List.all_cons]
      simp only [prB]
      generalize n.2.2.2.2.getD i default = p
      by_cases e : c.2.2.2.2.2.2.2 < (p.2.length : Int)
      · rw [decide_eq_true e, decide_eq_false (show ¬ ((p.2.length : Int) ≤ c.2.2.2.2.2.2.2) by omega)]
        cases keyB c p.1 <;> cases inS s p.1 <;> rfl
      · rw [decide_eq_false e, decide_eq_true (show ((p.2.length : Int) ≤ c.2.2.2.2.2.2.2) by omega)]
        cases keyB c p.1 <;> cases inS s p.1 <;> simp
    · have z : ∀ {α : Type} [DecidableEq α] (l : List α), decide ((l.length : Int) = 0) = decide (l = []) := fun l => by
        cases l <;> simp
        omega
      rw [if_neg (by simp only [decide_eq_true_eq]; omega), right11_pure h150 hn.rk (by omega), Option.bind_some, List.drop_eq_nil_of_le (by omega), z, z, z]
      cases decide (n.2.1 = []) <;> cases decide (n.2.2.1 = []) <;> cases decide (n.2.2.2.1 = []) <;> cases decide ((n.2.2.2.2.length : Int) ≤ c.2.2.2.2.2.1) <;> rfl
theorem outer13_pure {c : Cfg} {s : Sp} {n : Nd} (hn : MidN n) (h1 : s.1.length ≤ 2000) (h2 : s.2.1.length ≤ 2000) {k : Nat} (hk : 4000 < k) : Q88.f k c s n = some (outB c s n) := by
  have := outer13_l0 (c := c) hn h1 h2 k 0 (by omega) (by have := hn.prs; omega)
  simpa [Q88.f, outB] using this
theorem rises_drop {l : List (List UInt8)} {i : Nat} (h : i + 1 < l.length) : rises (l.drop i) = (Op.bytesLess (l.getD i []) (l.getD (i + 1) []) && rises (l.drop (i + 1))) := by
  rw [drop_cons (show i < l.length by omega), drop_cons h]
  rfl
theorem rises_end {l : List (List UInt8)} {i : Nat} (h : l.length ≤ i + 1) : rises (l.drop i) = true := by
  by_cases h' : i < l.length
  · rw [drop_cons h', List.drop_eq_nil_of_le (by omega)]
    rfl
  · rw [List.drop_eq_nil_of_le (by omega)]
    rfl
structure SmallL (l : List (List UInt8)) (s : Sp) : Prop where
  len : l.length ≤ 80
  all : ∀ p ∈ l, p.length ≤ 300
  lo : s.1.length ≤ 300
  hi : s.2.1.length ≤ 300
theorem SmallL.get {l : List (List UInt8)} {s : Sp} (h : SmallL l s) (i : Nat) : (l.getD i []).length ≤ 300 := by
  by_cases hi : i < l.length
  · exact h.all _ (getD_mem hi)
  · rw [List.getD_eq_getElem?_getD, List.getElem?_eq_none (by omega)]
    exact Nat.zero_le _
theorem rise_l0 {s : Sp} {l : List (List UInt8)} (hs : SmallL l s) : ∀ (k i : Nat), i ≤ l.length → 2001 + (l.length - i) < k → Q81.l0 k l ((i + 1 : Nat) : Int) = some (rises (l.drop i))
  | 0, i, _, h => by omega
  | k + 1, i, hi, hk => by
    have h80 := hs.len
    rw [Q81.l0]
    by_cases h : i + 1 < l.length
    · have g1 : (0 : Int) ≤ (i : Int) ∧ (i : Int) < (l.length : Int) := by omega
      have g2 : (0 : Int) ≤ ((i + 1 : Nat) : Int) ∧ ((i + 1 : Nat) : Int) < (l.length : Int) := by omega
      have k1 : (l.getD i default).length ≤ 300 := hs.get i
      have k2 : (l.getD (i + 1) default).length ≤ 300 := hs.get (i + 1)
      rw [if_pos (decide_eq_true g2.2), w64_pred (by omega) (by omega), Nat.add_sub_cancel, if_pos g1, if_pos g2, gt_nat, gt_nat, compare_pure (by omega) (by omega) (by omega), Option.bind_some, scmp_ge, w64_succ (by omega), rise_l0 hs k (i + 1) (by omega) (by omega), rises_drop h]
      show (if (!Op.bytesLess (l.getD i []) (l.getD (i + 1) [])) = true then some false else some (rises (l.drop (i + 1)))) = _
      cases Op.bytesLess (l.getD i []) (l.getD (i + 1) []) <;> rfl
    · rw [if_neg (by simp only [decide_eq_true_eq]; omega), rises_end (by omega)]
theorem rise_pure {s : Sp} {l : List (List UInt8)} (hs : SmallL l s) {k : Nat} (hk : 3000 < k) : Q81.f k l = some (rises l) := by
  have := rise_l0 hs k 0 (by omega) (by have := hs.len; omega)
  simpa [Q81.f] using this
def piv (s : Sp) (p : List UInt8) : Bool := inS s p && !decide (p = s.1)
theorem refRight_l0 {s : Sp} {l : List (List UInt8)} (hs : SmallL l s) : ∀ (k i : Nat), i ≤ l.length → 3001 + (l.length - i) < k → Q80.l0 k l s (i : Int) = some ((l.drop i).all (piv s) && rises l)
  | 0, i, _, h => by omega
  | k + 1, i, hi, hk => by
    have h80 := hs.len
    rw [Q80.l0]
    by_cases h : i < l.length
    · have g1 : (0 : Int) ≤ (i : Int) ∧ (i : Int) < (l.length : Int) := by omega
      have k1 : (l.getD i default).length ≤ 300 := hs.get i
      have hlo := hs.lo
      have hhi := hs.hi
      have eta : (s.1, s.2.1, s.2.2) = s := rfl
      rw [if_pos (decide_eq_true g1.2), if_pos g1, gt_nat, eta, refIn_pure (by omega) (by omega) (by omega) (by omega), Option.bind_some, w64_succ (by omega), refRight_l0 hs k (i + 1) (by omega) (by omega), drop_cons h, List.all_cons]
      simp only [piv]
      cases inS s (l.getD i default) <;> by_cases e : l.getD i default = s.1 <;> simp only [e, decide_true, decide_false] <;> rfl
    · rw [if_neg (by simp only [decide_eq_true_eq]; omega), rise_pure hs (by omega), List.drop_eq_nil_of_le (by omega)]
      rfl
theorem refRight_pure {s : Sp} {l : List (List UInt8)} (hs : SmallL l s) {k : Nat} (hk : 4000 < k) : Q80.f k l s = some (l.all (piv s) && rises l) := by
  have := refRight_l0 hs k 0 (by omega) (by have := hs.len; omega)
  simpa [Q80.f] using this
def riseM : List Msg → Bool
  | a :: b :: r => Op.bytesLess a.1 b.1 && riseM (b :: r)
  | _ => true
theorem riseM_drop {l : List Msg} {i : Nat} (h : i + 1 < l.length) : riseM (l.drop i) = (Op.bytesLess (l.getD i default).1 (l.getD (i + 1) default).1 && riseM (l.drop (i + 1))) := by
  rw [drop_cons (show i < l.length by omega), drop_cons h]
  rfl
theorem riseM_end {l : List Msg} {i : Nat} (h : l.length ≤ i + 1) : riseM (l.drop i) = true := by
  by_cases h' : i < l.length
  · rw [drop_cons h', List.drop_eq_nil_of_le (by omega)]
    rfl
  · rw [List.drop_eq_nil_of_le (by omega)]
    rfl
theorem refright_l0 : ∀ (k : Nat) (l : List Msg) (i : Nat), (l.length ≤ 400 ∧ ∀ m ∈ l, m.1.length ≤ 300) → i ≤ l.length → 2001 + (l.length - i) < k → Q76.l0 k l ((i + 1 : Nat) : Int) = some (riseM (l.drop i))
  | 0, l, i, _, _, h => by omega
  | k + 1, l, i, hl, hi, hk => by
    have h150 := hl.1
    rw [Q76.l0]
    by_cases h : i + 1 < l.length
    · have g1 : (0 : Int) ≤ (i : Int) ∧ (i : Int) < (l.length : Int) := by omega
      have g2 : (0 : Int) ≤ ((i + 1 : Nat) : Int) ∧ ((i + 1 : Nat) : Int) < (l.length : Int) := by omega
      have k1 := hl.2 _ (getD_mem (d := default) (show i < l.length by omega))
      have k2 := hl.2 _ (getD_mem (d := default) h)
      rw [if_pos (decide_eq_true g2.2), w64_pred (by omega) (by omega), Nat.add_sub_cancel, if_pos g1, if_pos g2, gt_nat, gt_nat, compare_pure (by omega) (by omega) (by omega), Option.bind_some, scmp_ge, w64_succ (by omega), refright_l0 k l (i + 1) hl (by omega) (by omega), riseM_drop h]
      cases Op.bytesLess (l.getD i default).1 (l.getD (i + 1) default).1 <;> rfl
    · rw [if_neg (by simp only [decide_eq_true_eq]; omega), riseM_end (by omega)]
def msgB (c : Cfg) (s : Sp) (m : Msg) : Bool := keyB c m.1 && (inS s m.1 && (decide ((m.2.2.length : Int) ≤ c.2.2.2.2.2.2.2) && (!m.2.1 || decide (m.2.2 = []))))
def tailB (c : Cfg) (s : Sp) (n : Nd) : Bool := decide (n.1 ≤ 40) && (decide (n.2.2.2.2 = []) && (decide (1 ≤ n.2.1.length) && (decide ((n.2.1.length : Int) ≤ c.2.2.2.1) && (decide (n.2.2.1.length + 1 = n.2.1.length) && ((n.2.2.1.all (piv s) && rises n.2.2.1) && (decide ((n.2.2.2.1.length : Int) ≤ c.2.2.2.2.1) && riseM n.2.2.2.1))))))
theorem MidN.l {n : Nd} (hn : MidN n) {s : Sp} (h1 : s.1.length ≤ 300) (h2 : s.2.1.length ≤ 300) : SmallL n.2.2.1 s := ⟨hn.pivs, fun p hp => by have := hn.pk p hp; omega, h1, h2⟩
theorem refright_pure {n : Nd} (hn : MidN n) {k : Nat} (hk : 3000 < k) : Q76.f k n.2.2.2.1 = some (riseM n.2.2.2.1) := by
  have := refright_l0 k n.2.2.2.1 0 ⟨hn.buf, fun m hm => by have := hn.bk m hm; omega⟩ (by omega) (by have := hn.buf; omega)
  simpa [Q76.f] using this
theorem inner13_l3 {c : Cfg} {s : Sp} {n : Nd} (hn : MidN n) (h1 : s.1.length ≤ 300) (h2 : s.2.1.length ≤ 300) : ∀ (k i : Nat), i ≤ n.2.2.2.1.length → 5001 + (n.2.2.2.1.length - i) < k →
    Q87.l3 k c s n (i : Int) = some ((n.2.2.2.1.drop i).all (msgB c s) && tailB c s n)
  | 0, i, _, h => by omega
  | k + 1, i, hi, hk => by
    have h150 := hn.buf
    have h80 := hn.pivs
    have hk80 := hn.kids
    have eta : (s.1, s.2.1, s.2.2) = s := rfl
    rw [Q87.l3]
    by_cases h : i < n.2.2.2.1.length
    · have g1 : (0 : Int) ≤ (i : Int) ∧ (i : Int) < (n.2.2.2.1.length : Int) := by omega
      have k1 := hn.bk _ (getD_mem (d := default) h)
      have etc : (c.1, c.2.1, c.2.2.1, c.2.2.2.1, c.2.2.2.2.1, c.2.2.2.2.2.1, c.2.2.2.2.2.2.1, c.2.2.2.2.2.2.2) = c := rfl
      rw [if_pos (decide_eq_true g1.2), if_pos g1, gt_nat, etc, key13_pure, Option.bind_some, eta, refIn_pure (by omega) (by omega) (by omega) (by omega), Option.bind_some, w64_succ (by omega), inner13_l3 hn h1 h2 k (i + 1) (by omega) (by omega), drop_cons h, List.all_cons]
      simp only [msgB]
      generalize n.2.2.2.1.getD i default = p
      by_cases e : c.2.2.2.2.2.2.2 < (p.2.2.length : Int)
      · rw [decide_eq_true e, decide_eq_false (show ¬ ((p.2.2.length : Int) ≤ c.2.2.2.2.2.2.2) by omega)]
        cases keyB c p.1 <;> cases inS s p.1 <;> rfl
      · rw [decide_eq_false e, decide_eq_true (show ((p.2.2.length : Int) ≤ c.2.2.2.2.2.2.2) by omega)]
        cases keyB c p.1 <;> cases inS s p.1 <;> cases p.2.1 <;> cases decide (p.2.2 = []) <;> simp
    · have z : decide (0 < (n.2.2.2.2.length : Int)) = !decide (n.2.2.2.2 = []) := by
        cases n.2.2.2.2 <;> simp
      have y1 : decide (40 < n.1) = !decide (n.1 ≤ 40) := by by_cases q : n.1 ≤ 40 <;> simp [q] <;> omega
      have y2 : decide ((n.2.1.length : Int) < 1) = !decide (1 ≤ n.2.1.length) := by by_cases q : 1 ≤ n.2.1.length <;> simp [q] <;> omega
      have y3 : decide (c.2.2.2.1 < (n.2.1.length : Int)) = !decide ((n.2.1.length : Int) ≤ c.2.2.2.1) := by by_cases q : (n.2.1.length : Int) ≤ c.2.2.2.1 <;> simp [q] <;> omega
      have y4 : decide (w64 ((n.2.2.1.length : Int) + 1) = (n.2.1.length : Int)) = decide (n.2.2.1.length + 1 = n.2.1.length) := by
        rw [w64_succ (by omega)]
        congr 1
        exact propext (by omega)
      rw [if_neg (by simp only [decide_eq_true_eq]; omega), eta, refRight_pure (hn.l h1 h2) (by omega), refright_pure hn (by omega), List.drop_eq_nil_of_le (by omega), z, y1, y2, y3, y4]
      simp only [tailB, Option.bind_some, List.all_nil, Bool.true_and]
      cases decide (n.1 ≤ 40) <;> cases decide (n.2.2.2.2 = []) <;> cases decide (1 ≤ n.2.1.length) <;> cases decide ((n.2.1.length : Int) ≤ c.2.2.2.1) <;> cases decide (n.2.2.1.length + 1 = n.2.1.length) <;> cases (n.2.2.1.all (piv s) && rises n.2.2.1) <;> cases decide ((n.2.2.2.1.length : Int) ≤ c.2.2.2.2.1) <;> rfl
theorem inner13_l2 {c : Cfg} {s : Sp} {n : Nd} (hn : MidN n) (h1 : s.1.length ≤ 300) (h2 : s.2.1.length ≤ 300) : ∀ (k i : Nat), i ≤ n.2.2.1.length → 5501 + (n.2.2.1.length - i) < k →
    Q87.l2 k c s n (i : Int) = some ((n.2.2.1.drop i).all (keyB c) && (n.2.2.2.1.all (msgB c s) && tailB c s n))
  | 0, i, _, h => by omega
  | k + 1, i, hi, hk => by
    have h80 := hn.pivs
    have h150 := hn.buf
    rw [Q87.l2]
    by_cases h : i < n.2.2.1.length
    · have g1 : (0 : Int) ≤ (i : Int) ∧ (i : Int) < (n.2.2.1.length : Int) := by omega
      have etc : (c.1, c.2.1, c.2.2.1, c.2.2.2.1, c.2.2.2.2.1, c.2.2.2.2.2.1, c.2.2.2.2.2.2.1, c.2.2.2.2.2.2.2) = c := rfl
      rw [if_pos (decide_eq_true g1.2), if_pos g1, gt_nat, etc, key13_pure, Option.bind_some, w64_succ (by omega), inner13_l2 hn h1 h2 k (i + 1) (by omega) (by omega), drop_cons h, List.all_cons]
      cases keyB c (n.2.2.1.getD i default) <;> rfl
    · rw [if_neg (by simp only [decide_eq_true_eq]; omega), List.drop_eq_nil_of_le (by omega)]
      have := inner13_l3 (c := c) hn h1 h2 k 0 (by omega) (by omega)
      simpa using this
def neB (l : List Int) (i q : Nat) : Bool := !decide (l.getD q 0 = l.getD i 0)
def kidB (c : Cfg) (l : List Int) (i : Nat) : Bool := !decide (l.getD i 0 = 0) && (!decide (c.1 ≤ w64 (l.getD i 0)) && (List.range' 0 i).all (neB l i))
def restB (c : Cfg) (s : Sp) (n : Nd) : Bool := n.2.2.1.all (keyB c) && (n.2.2.2.1.all (msgB c s) && tailB c s n)
theorem inner13_kids {c : Cfg} {s : Sp} {n : Nd} (hn : MidN n) (h1 : s.1.length ≤ 300) (h2 : s.2.1.length ≤ 300) : ∀ (k : Nat),
    (∀ i : Nat, i ≤ n.2.1.length → 5700 + (n.2.1.length - i) * 100 < k → Q87.l0 k c s n (i : Int) = some ((List.range' i (n.2.1.length - i)).all (kidB c n.2.1) && restB c s n)) ∧
    (∀ i q : Nat, i < n.2.1.length → q ≤ i → 5700 + (n.2.1.length - i - 1) * 100 + (i - q) + 1 < k → Q87.l1 k c s n (i : Int) (q : Int) = some ((List.range' q (i - q)).all (neB n.2.1 i) && ((List.range' (i + 1) (n.2.1.length - i - 1)).all (kidB c n.2.1) && restB c s n)))
  | 0 => ⟨fun i _ h => by omega, fun i q _ _ h => by omega⟩
  | k + 1 => by
    have h80 := hn.kids
    have h80' := hn.pivs
    obtain ⟨ih0, ih1⟩ := inner13_kids (c := c) hn h1 h2 k
    refine ⟨fun i hi hk => ?_, fun i q hi hq hk => ?_⟩
    · rw [Q87.l0]
      by_cases h : i < n.2.1.length
      · have g1 : (0 : Int) ≤ (i : Int) ∧ (i : Int) < (n.2.1.length : Int) := by omega
        have := ih1 i 0 h (by omega) (by omega)
        simp only [Int.natCast_zero, Int.ofNat_eq_natCast, Nat.sub_zero] at this
        have e0 : gt n.2.1 (i : Int) = n.2.1.getD i 0 := gt_nat n.2.1 i
        rw [if_pos (decide_eq_true g1.2), if_pos g1, e0, show Q87.l1 k c s n (i : Int) 0 = _ from this, show n.2.1.length - i = (n.2.1.length - i - 1) + 1 by omega, List.range'_succ, List.all_cons]
        simp only [kidB, Nat.add_sub_cancel]
        cases decide (n.2.1.getD i 0 = 0) <;> cases decide (c.1 ≤ w64 (n.2.1.getD i 0)) <;> simp [Bool.and_assoc]
      · rw [if_neg (by simp only [decide_eq_true_eq]; omega), show n.2.1.length - i = 0 by omega]
        have := inner13_l2 (c := c) hn h1 h2 k 0 (by omega) (by omega)
        simpa [restB] using this
    · rw [Q87.l1]
      by_cases h : q < i
      · have g1 : (0 : Int) ≤ (q : Int) ∧ (q : Int) < (n.2.1.length : Int) := by omega
        have e0 : gt n.2.1 (i : Int) = n.2.1.getD i 0 := gt_nat n.2.1 i
        have e1 : gt n.2.1 (q : Int) = n.2.1.getD q 0 := gt_nat n.2.1 q
        rw [if_pos (decide_eq_true (by omega)), if_pos g1, e0, e1, w64_succ (by omega), ih1 i (q + 1) hi (by omega) (by omega), show i - q = (i - (q + 1)) + 1 by omega, List.range'_succ, List.all_cons]
        simp only [neB]
        cases decide (n.2.1.getD q 0 = n.2.1.getD i 0) <;> rfl
      · rw [if_neg (by simp only [decide_eq_true_eq]; omega), w64_succ (by omega), ih0 (i + 1) (by omega) (by omega), show i - q = 0 by omega, show n.2.1.length - (i + 1) = n.2.1.length - i - 1 by omega]
        rfl
def innB (c : Cfg) (s : Sp) (n : Nd) : Bool := (List.range' 0 n.2.1.length).all (kidB c n.2.1) && restB c s n
theorem inner13_pure {c : Cfg} {s : Sp} {n : Nd} (hn : MidN n) (h1 : s.1.length ≤ 300) (h2 : s.2.1.length ≤ 300) {k : Nat} (hk : 15000 < k) : Q87.f k c s n = some (innB c s n) := by
  have h80 := hn.kids
  have := (inner13_kids (c := c) hn h1 h2 k).1 0 (by omega) (by omega)
  simpa [Q87.f, innB] using this
structure RightN (c : Cfg) (s : Sp) (n : Nd) : Prop where
  small : SmallN n
  cfg : OkC c
  lo : s.1.length ≤ 200
  hi : s.2.1.length ≤ 200
  leaf : n.1 = 0 → outB c s n = true
  node : n.1 ≠ 0 → 0 < n.1 ∧ innB c s n = true
theorem right13_pure {c : Cfg} {s : Sp} {n : Nd} (hn : MidN n) (h1 : s.1.length ≤ 300) (h2 : s.2.1.length ≤ 300) {k : Nat} (hk : 15000 < k) :
    Q85.f k c s n = some (if n.1 = 0 then outB c s n else decide (0 < n.1) && innB c s n) := by
  unfold Q85.f
  by_cases h : n.1 = 0
  · rw [if_pos (decide_eq_true h), if_pos h]
    rw [show Q88.f k _ _ _ = _ from outer13_pure (c := c) (s := s) hn (by omega) (by omega) (by omega)]
    rfl
  · rw [if_neg (by simp only [decide_eq_true_eq]; exact h), if_neg h]
    by_cases h0 : 0 < n.1
    · rw [if_pos (decide_eq_true h0), show Q87.f k _ _ _ = _ from inner13_pure (c := c) (s := s) hn h1 h2 hk, decide_eq_true h0]
      rfl
    · rw [if_neg (by simp only [decide_eq_true_eq]; exact h0), decide_eq_false h0]
      rfl
theorem riseM_K : ∀ l : List Msg, riseM l = riseK (fun x => x.1) l
  | [] => rfl
  | [_] => rfl
  | a :: b :: r => by rw [riseM, riseK, riseM_K (b :: r)]
theorem riseP_K : ∀ l : List Pr, riseP l = riseK (fun x => x.1) l
  | [] => rfl
  | [_] => rfl
  | a :: b :: r => by rw [riseP, riseK, riseP_K (b :: r)]
theorem same_loop {α : Type} [Inhabited α] [DecidableEq α] {F : Nat → Int → Option Bool} {a b : List α} {eqb : α → α → Bool} (he : ∀ x y, eqb x y = decide (x = y)) (hab : a.length = b.length) (ha : a.length ≤ 1000000)
    (hF : ∀ k i, F (k + 1) i = if (decide (i < (a.length : Int))) = true then (if 0 ≤ i ∧ i < (a.length : Int) then (if 0 ≤ i ∧ i < (b.length : Int) then (if (!(eqb (gt a i) (gt b i))) = true then (some false) else (F k (w64 (i + 1)))) else none) else none) else (some true)) :
    ∀ (k i : Nat), i ≤ a.length → a.length - i < k → F k (i : Int) = some (decide (a.drop i = b.drop i))
  | 0, i, _, h => by omega
  | k + 1, i, hi, hk => by
    rw [hF]
    by_cases h : i < a.length
    · have g1 : (0 : Int) ≤ (i : Int) ∧ (i : Int) < (a.length : Int) := by omega
      have g2 : (0 : Int) ≤ (i : Int) ∧ (i : Int) < (b.length : Int) := by omega
      rw [if_pos (decide_eq_true g1.2), if_pos g1, if_pos g2, he, w64_succ (by omega), same_loop he hab ha hF k (i + 1) (by omega) (by omega), drop_cons h, drop_cons (show i < b.length by omega), gt_nat, gt_nat]
      generalize a.getD i default = x
      generalize b.getD i default = y
      by_cases e : x = y
      · simp [e]
      · simp [e]
    · rw [if_neg (by simp; omega), List.drop_eq_nil_of_le (by omega), List.drop_eq_nil_of_le (by omega)]
      rfl
theorem blocks_pure {k : Nat} {a b : List Int} (ha : a.length ≤ 1000000) (hk : a.length < k) : Q83.f k a b = some (decide (a = b)) := by
  unfold Q83.f
  by_cases h : a.length = b.length
  · rw [if_neg (by simp [h])]
    have := same_loop (F := fun k i => Q83.l0 k a b i) (eqb := fun x y => decide (x = y)) (fun x y => rfl) h ha (fun k i => rfl) k 0 (by omega) (by omega)
    simpa using this
  · rw [if_pos (by simp; omega)]
    have : a ≠ b := fun e => h (by rw [e])
    simp [this]
theorem same12_pure {k : Nat} {a b : List (List UInt8)} (ha : a.length ≤ 1000000) (hk : a.length < k) : Q82.f k a b = some (decide (a = b)) := by
  unfold Q82.f
  by_cases h : a.length = b.length
  · rw [if_neg (by simp [h])]
    have := same_loop (F := fun k i => Q82.l0 k a b i) (eqb := fun x y => decide (x = y)) (fun x y => rfl) h ha (fun k i => rfl) k 0 (by omega) (by omega)
    simpa using this
  · rw [if_pos (by simp; omega)]
    have : a ≠ b := fun e => h (by rw [e])
    simp [this]
theorem pr_eq (x y : Pr) : (decide (x.1 = y.1) && (decide (x.2 = y.2) && true)) = decide (x = y) := by
  obtain ⟨a, b⟩ := x
  obtain ⟨d, e⟩ := y
  by_cases h1 : a = d <;> by_cases h2 : b = e <;> simp [h1, h2]
theorem same11_pure {k : Nat} {a b : List Pr} (ha : a.length ≤ 1000000) (hk : a.length < k) : Q79.f k a b = some (decide (a = b)) := by
  unfold Q79.f
  by_cases h : a.length = b.length
  · rw [if_neg (by simp [h])]
    have := same_loop (F := fun k i => Q79.l0 k a b i) (eqb := fun x y => decide (x.1 = y.1) && (decide (x.2 = y.2) && true)) pr_eq h ha (fun k i => rfl) k 0 (by omega) (by omega)
    simpa using this
  · rw [if_pos (by simp; omega)]
    have : a ≠ b := fun e => h (by rw [e])
    simp [this]
structure Short (n : Nd) : Prop where
  kids : n.2.1.length ≤ 1000
  pivs : n.2.2.1.length ≤ 1000
  buf : n.2.2.2.1.length ≤ 1000
  prs : n.2.2.2.2.length ≤ 1000
theorem SmallN.short {n : Nd} (h : SmallN n) : Short n := ⟨by have := h.kids; omega, by have := h.pivs; omega, by have := h.buf; omega, by have := h.prs; omega⟩
instance decNd4 : DecidableEq (List Msg × List Pr) := instDecidableEqProd
instance decNd3 : DecidableEq (List (List UInt8) × List Msg × List Pr) := instDecidableEqProd
instance decNd2 : DecidableEq (List Int × List (List UInt8) × List Msg × List Pr) := instDecidableEqProd
instance decNd1 : DecidableEq Nd := instDecidableEqProd
theorem same13_pure {a b : Nd} (h : Short a) {k : Nat} (hk : 2000 < k) : Q86.f k a b = some (decide (a = b)) := by
  have h1 := h.kids
  have h2 := h.pivs
  have h3 := h.buf
  have h4 := h.prs
  unfold Q86.f
  rw [blocks_pure (by omega) (by omega), same12_pure (by omega) (by omega), refSame_pure (by omega) (by omega), same11_pure (by omega) (by omega)]
  obtain ⟨a1, a2, a3, a4, a5⟩ := a
  obtain ⟨b1, b2, b3, b4, b5⟩ := b
  simp only [Option.bind_some, decide_eq_true_eq, Prod.mk.injEq]
  by_cases e1 : a1 = b1 <;> by_cases e2 : a2 = b2 <;> by_cases e3 : a3 = b3 <;> by_cases e4 : a4 = b4 <;> by_cases e5 : a5 = b5 <;> simp [e1, e2, e3, e4, e5]
def joinN (a : Nd) (p : List UInt8) (b : Nd) : Nd × Bool :=
  if a.1 = b.1 then ((a.1, a.2.1 ++ b.2.1, if 0 < a.1 then a.2.2.1 ++ [p] ++ b.2.2.1 else a.2.2.1, a.2.2.2.1 ++ b.2.2.2.1, a.2.2.2.2 ++ b.2.2.2.2), true) else ((0, [], [], [], []), false)
def fitsN (c : Cfg) (a b : Nd) : Bool := decide (a.1 = b.1) && (if a.1 = 0 then decide (2 * ((a.2.2.2.2.length + b.2.2.2.2.length : Nat) : Int) ≤ c.2.2.2.2.2.1) else decide (2 * ((a.2.1.length + b.2.1.length : Nat) : Int) ≤ c.2.2.2.1) && decide (((a.2.2.2.1.length + b.2.2.2.1.length : Nat) : Int) ≤ c.2.2.2.2.1))
abbrev ltI := Go.Sort.ltInt
theorem less32 (x y : Int) : Q4.f x y = some (ltI x y) := by
  unfold Q4.f Q5.f ltI Go.Sort.ltInt
  simp
theorem gta (d : Array Int) (i : Nat) : gt d.toList (i : Int) = d[i]! := by
  rw [gt_nat, List.getD_eq_getElem?_getD]
  by_cases h : i < d.size
  · simp [h]
  · simp [h]
theorem swpL (d : Array Int) (i j : Nat) : (d.toList.set i d[j]!).set j d[i]! = (Go.Sort.swp d i j).toList := by
  simp [Go.Sort.swp]
theorem swp_size (d : Array Int) (i j : Nat) : (Go.Sort.swp d i j).size = d.size := by simp [Go.Sort.swp]
theorem wn {x : Int} {n : Nat} (h : x = n) (hn : n ≤ 4611686018427387904) : w64 x = (n : Int) := by rw [w64_id (by omega) (by omega), h]
theorem ins_inner {a b i : Nat} {r : List Int} : ∀ (j : Nat) (d : Array Int), j < d.size → d.size ≤ 1000000 → i < 1000000 → Ev (fun k => Q53.l0 k (a : Int) (b : Int) (Go.Sort.insInner ltI a j d).toList ((i + 1 : Nat) : Int)) r →
    Ev (fun k => Q53.l1 k (a : Int) (b : Int) (i : Int) d.toList (j : Int)) r
  | 0, d, hj, hd, hi, h => h.step fun k hk => by
    rw [Q53.l1, if_neg (by simp only [decide_eq_true_eq]; omega), wn (n := i + 1) (by omega) (by omega)]
    exact hk
  | j + 1, d, hj, hd, hi, h => by
    have e1 : w64 (((j + 1 : Nat) : Int) - 1) = (j : Int) := wn (by omega) (by omega)
    unfold Go.Sort.insInner at h
    by_cases c : a < j + 1
    · by_cases q : ltI d[j + 1]! d[j]! = true
      · rw [if_pos (by simp [c, q])] at h
        have := ins_inner j (Go.Sort.swp d (j + 1) j) (by rw [swp_size]; omega) (by rw [swp_size]; omega) hi h
        refine this.step fun k hk => ?_
        rw [Q53.l1, if_pos (decide_eq_true (by omega)), if_pos (by simp; omega), e1, if_pos (by simp; omega), gta, gta, less32, Option.bind_some, if_pos q, Int.toNat_natCast, Int.toNat_natCast, swpL]
        exact hk
      · rw [if_neg (by simp [q])] at h
        refine h.step fun k hk => ?_
        rw [Q53.l1, if_pos (decide_eq_true (by omega)), if_pos (by simp; omega), e1, if_pos (by simp; omega), gta, gta, less32, Option.bind_some, if_neg q, wn (n := i + 1) (by omega) (by omega)]
        exact hk
    · rw [if_neg (by simp [c])] at h
      refine h.step fun k hk => ?_
      rw [Q53.l1, if_neg (by simp only [decide_eq_true_eq]; omega), wn (n := i + 1) (by omega) (by omega)]
      exact hk
theorem insInner_size (a : Nat) : ∀ (j : Nat) (d : Array Int), (Go.Sort.insInner ltI a j d).size = d.size
  | 0, d => rfl
  | j + 1, d => by
    unfold Go.Sort.insInner
    split
    · rw [insInner_size a j, swp_size]
    · rfl
theorem ins_outer {a b : Nat} : ∀ (m i : Nat) (d : Array Int), b - i = m → b ≤ d.size → d.size ≤ 1000000 → i ≤ 1000000 → Ev (fun k => Q53.l0 k (a : Int) (b : Int) d.toList (i : Int)) (Go.Sort.insOuter ltI a b i d).toList
  | 0, i, d, hm, hb, hd, hi => Ev.last fun k => by
    rw [Q53.l0, if_neg (by simp only [decide_eq_true_eq]; omega)]
    unfold Go.Sort.insOuter
    rw [if_neg (by omega)]
  | m + 1, i, d, hm, hb, hd, hi => by
    have hs := insInner_size a i d
    have ih := ins_outer (a := a) (b := b) m (i + 1) (Go.Sort.insInner ltI a i d) (by omega) (by omega) (by omega) (by omega)
    unfold Go.Sort.insOuter
    rw [if_pos (by omega)]
    refine (ins_inner (b := b) i d (by omega) hd (by omega) ih).step fun k hk => ?_
    rw [Q53.l0, if_pos (decide_eq_true (by omega))]
    exact hk
theorem insSort {a b : Nat} {d : Array Int} (hb : b ≤ d.size) (ha : a ≤ 999999) (hd : d.size ≤ 1000000) : Ev (fun k => Q53.f k d.toList (a : Int) (b : Int)) (Go.Sort.insertionSort ltI d a b).toList := by
  refine (ins_outer (a := a) (b := b) (b - (a + 1)) (a + 1) d rfl hb hd (by omega)).next fun k hk => ?_
  unfold Q53.f
  rw [wn (n := a + 1) (by omega) (by omega)]
  exact hk
theorem sift_size (hi first : Nat) : ∀ (n root : Nat) (d : Array Int), hi - root ≤ n → (Go.Sort.siftDown ltI hi first root d).size = d.size
  | 0, root, d, h => by
    rw [Go.Sort.siftDown, dif_pos (by omega)]
  | n + 1, root, d, h => by
    rw [Go.Sort.siftDown]
    split
    · rfl
    · split
      · split
        · rfl
        · split
          · rw [sift_size hi first n _ _ (by omega), swp_size]
          · rfl
      · split
        · rfl
        · rw [sift_size hi first n _ _ (by omega), swp_size]
theorem sift_l0 {hi first : Nat} : ∀ (n root : Nat) (d : Array Int), hi - root ≤ n → first + hi ≤ d.size → d.size ≤ 1000000 → root ≤ 1000000 → Ev (fun k => Q63.l0 k (hi : Int) (first : Int) d.toList (root : Int)) (Go.Sort.siftDown ltI hi first root d).toList
  | n, root, d, hn, hf, hd, hr => by
    have e1 : w64 (2 * (root : Int)) = ((2 * root : Nat) : Int) := wn (by omega) (by omega)
    have e2 : w64 (((2 * root : Nat) : Int) + 1) = ((2 * root + 1 : Nat) : Int) := wn (by omega) (by omega)
    have e3 : w64 (((2 * root + 1 : Nat) : Int) + 1) = ((2 * root + 2 : Nat) : Int) := wn (by omega) (by omega)
    have e4 : w64 ((first : Int) + ((2 * root + 1 : Nat) : Int)) = ((first + (2 * root + 1) : Nat) : Int) := wn (by omega) (by omega)
    have e5 : w64 (((first + (2 * root + 1) : Nat) : Int) + 1) = ((first + (2 * root + 1) + 1 : Nat) : Int) := wn (by omega) (by omega)
    have e6 : w64 ((first : Int) + (root : Int)) = ((first + root : Nat) : Int) := wn (by omega) (by omega)
    have e7 : w64 ((first : Int) + ((2 * root + 2 : Nat) : Int)) = ((first + (2 * root + 2) : Nat) : Int) := wn (by omega) (by omega)
    have un : ∀ k, Q63.l0 (k + 1) (hi : Int) (first : Int) d.toList (root : Int) = _ := fun k => Q63.l0.eq_2 (hi : Int) (first : Int) d.toList (root : Int) k
    simp only [e1, e2, e3, e4, e5, e6, e7, gta, less32, Option.bind_some, Int.toNat_natCast, swpL] at un
    rw [Go.Sort.siftDown]
    by_cases h1 : 2 * root + 1 ≥ hi
    · rw [dif_pos h1]
      exact Ev.last fun k => by rw [un, if_pos (decide_eq_true (by omega))]
    · rw [dif_neg h1]
      cases n with
      | zero => omega
      | succ n =>
      have go : ∀ (c : Nat), root < c → c < hi → Ev (fun k => Q63.l0 k (hi : Int) (first : Int) (Go.Sort.swp d (first + root) (first + c)).toList (c : Int)) (Go.Sort.siftDown ltI hi first c (Go.Sort.swp d (first + root) (first + c))).toList := fun c h2 h3 =>
        sift_l0 n c _ (by omega) (by rw [swp_size]; exact hf) (by rw [swp_size]; exact hd) (by omega)
      have b0 : (0 : Int) ≤ ((first + root : Nat) : Int) ∧ ((first + root : Nat) : Int) < (d.toList.length : Int) := by simp; omega
      have b1 : (0 : Int) ≤ ((first + (2 * root + 1) : Nat) : Int) ∧ ((first + (2 * root + 1) : Nat) : Int) < (d.toList.length : Int) := by simp; omega
      have left : Ev (fun k => Q63.l0 k (hi : Int) (first : Int) d.toList (root : Int)) (if !ltI d[first + root]! d[first + (2 * root + 1)]! then d else Go.Sort.siftDown ltI hi first (2 * root + 1) (Go.Sort.swp d (first + root) (first + (2 * root + 1)))).toList → True := fun _ => trivial
      by_cases h2 : 2 * root + 1 + 1 < hi
      · have b2 : (0 : Int) ≤ ((first + (2 * root + 1) + 1 : Nat) : Int) ∧ ((first + (2 * root + 1) + 1 : Nat) : Int) < (d.toList.length : Int) := by simp; omega
        have b3 : (0 : Int) ≤ ((first + (2 * root + 2) : Nat) : Int) ∧ ((first + (2 * root + 2) : Nat) : Int) < (d.toList.length : Int) := by simp; omega
        by_cases h3 : ltI d[first + (2 * root + 1)]! d[first + (2 * root + 1) + 1]! = true
        · rw [if_pos (by simp [h2, h3])]
          by_cases h4 : ltI d[first + root]! d[first + (2 * root + 2)]! = true
          · rw [if_neg (by simp [h4]), dif_pos (by omega)]
            refine (go (2 * root + 2) (by omega) (by omega)).step fun k hk => ?_
            rw [un, if_neg (by simp only [decide_eq_true_eq]; omega), if_pos (decide_eq_true (by omega)), if_pos b1, if_pos b2, if_pos h3, if_pos b0, if_pos b3, if_neg (by simp [h4])]
            exact hk
          · rw [if_pos (by simp [h4])]
            refine Ev.last fun k => ?_
            rw [un, if_neg (by simp only [decide_eq_true_eq]; omega), if_pos (decide_eq_true (by omega)), if_pos b1, if_pos b2, if_pos h3, if_pos b0, if_pos b3, if_pos (by simp [h4])]
        · rw [if_neg (by simp [h3])]
          by_cases h4 : ltI d[first + root]! d[first + (2 * root + 1)]! = true
          · rw [if_neg (by simp [h4])]
            refine (go (2 * root + 1) (by omega) (by omega)).step fun k hk => ?_
            rw [un, if_neg (by simp only [decide_eq_true_eq]; omega), if_pos (decide_eq_true (by omega)), if_pos b1, if_pos b2, if_neg h3, if_pos b0, if_neg (by simp [h4])]
            exact hk
          · rw [if_pos (by simp [h4])]
            refine Ev.last fun k => ?_
            rw [un, if_neg (by simp only [decide_eq_true_eq]; omega), if_pos (decide_eq_true (by omega)), if_pos b1, if_pos b2, if_neg h3, if_pos b0, if_pos (by simp [h4])]
      · rw [if_neg (by simp [h2])]
        by_cases h4 : ltI d[first + root]! d[first + (2 * root + 1)]! = true
        · rw [if_neg (by simp [h4])]
          refine (go (2 * root + 1) (by omega) (by omega)).step fun k hk => ?_
          rw [un, if_neg (by simp only [decide_eq_true_eq]; omega), if_neg (by simp only [decide_eq_true_eq]; omega), if_pos b0, if_pos b1, if_neg (by simp [h4])]
          exact hk
        · rw [if_pos (by simp [h4])]
          refine Ev.last fun k => ?_
          rw [un, if_neg (by simp only [decide_eq_true_eq]; omega), if_neg (by simp only [decide_eq_true_eq]; omega), if_pos b0, if_pos b1, if_pos (by simp [h4])]
theorem siftD {hi first root : Nat} {d : Array Int} (hf : first + hi ≤ d.size) (hd : d.size ≤ 1000000) (hr : root ≤ 1000000) : Ev (fun k => Q63.f k d.toList (root : Int) (hi : Int) (first : Int)) (Go.Sort.siftDown ltI hi first root d).toList := sift_l0 hi root d (by omega) hf hd hr
theorem heap_pop {a : Nat} : ∀ (m : Nat) (d : Array Int), a + m ≤ d.size → d.size ≤ 1000000 → Ev (fun k => Q52.l1 k (a : Int) d.toList ((m : Int) - 1)) (Go.Sort.heapPop ltI a m d).toList
  | 0, d, h, hd => Ev.last fun k => by
    rw [Q52.l1, if_neg (by simp)]
    rfl
  | m + 1, d, h, hd => by
    have e0 : (((m + 1 : Nat) : Int) - 1) = (m : Int) := by omega
    have e1 : w64 ((a : Int) + (m : Int)) = ((a + m : Nat) : Int) := wn (by omega) (by omega)
    have e2 : w64 ((m : Int) - 1) = (m : Int) - 1 := w64_id (by omega) (by omega)
    have s1 := siftD (hi := m) (first := a) (root := 0) (d := Go.Sort.swp d a (a + m)) (by rw [swp_size]; omega) (by rw [swp_size]; exact hd) (by omega)
    have sz := sift_size m a m 0 (Go.Sort.swp d a (a + m)) (by omega)
    rw [swp_size] at sz
    have ih := heap_pop (a := a) m (Go.Sort.siftDown ltI m a 0 (Go.Sort.swp d a (a + m))) (by omega) (by omega)
    rw [e0]
    refine Ev.step2 s1 ih fun k h1 h2 => ?_
    rw [Q52.l1, if_pos (decide_eq_true (by omega)), e1, if_pos (by simp; omega), if_pos (by simp; omega), gta, gta, Int.toNat_natCast, Int.toNat_natCast, swpL, show Q63.f k (Go.Sort.swp d a (a + m)).toList 0 (m : Int) (a : Int) = _ from h1, Option.bind_some, e2]
    exact h2
theorem heap_build {a b : Nat} (hab : a ≤ b) : ∀ (m : Nat) (d : Array Int), b ≤ d.size → d.size ≤ 1000000 → m ≤ 1000000 → Ev (fun k => Q52.l0 k (a : Int) (b : Int) d.toList ((m : Int) - 1)) (Go.Sort.heapPop ltI a (b - a) (Go.Sort.heapBuild ltI (b - a) a m d)).toList
  | 0, d, h, hd, hm => by
    have e1 : w64 ((b : Int) - (a : Int)) = ((b - a : Nat) : Int) := wn (by omega) (by omega)
    have e2 : w64 (((b - a : Nat) : Int) - 1) = ((b - a : Nat) : Int) - 1 := w64_id (by omega) (by omega)
    refine (heap_pop (a := a) (b - a) d (by omega) hd).step fun k hk => ?_
    rw [Q52.l0, if_neg (by simp), e1, e2]
    exact hk
  | m + 1, d, h, hd, hm => by
    have e0 : (((m + 1 : Nat) : Int) - 1) = (m : Int) := by omega
    have e1 : w64 ((b : Int) - (a : Int)) = ((b - a : Nat) : Int) := wn (by omega) (by omega)
    have e2 : w64 ((m : Int) - 1) = (m : Int) - 1 := w64_id (by omega) (by omega)
    have s1 := siftD (hi := b - a) (first := a) (root := m) (d := d) (by omega) hd (by omega)
    have sz := sift_size (b - a) a (b - a) m d (by omega)
    have ih := heap_build hab m (Go.Sort.siftDown ltI (b - a) a m d) (by omega) (by omega) (by omega)
    rw [e0]
    refine Ev.step2 s1 ih fun k h1 h2 => ?_
    rw [Q52.l0, if_pos (decide_eq_true (by omega)), e1, h1, Option.bind_some, e2]
    exact h2
theorem heapS {a b : Nat} {d : Array Int} (hab : a ≤ b) (hb : b ≤ d.size) (hd : d.size ≤ 1000000) : Ev (fun k => Q52.f k d.toList (a : Int) (b : Int)) (Go.Sort.heapSort ltI d a b).toList := by
  refine (heap_build hab ((b - a - 1) / 2 + 1) d hb hd (by omega)).next fun k hk => ?_
  have e1 : w64 ((b : Int) - (a : Int)) = ((b - a : Nat) : Int) := wn (by omega) (by omega)
  have e2 : w64 (((b - a : Nat) : Int) - 1) = ((b - a : Nat) : Int) - 1 := w64_id (by omega) (by omega)
  have e3 : Int.tdiv (((b - a : Nat) : Int) - 1) 2 = (((b - a - 1) / 2 : Nat) : Int) := by
    by_cases z : b - a = 0
    · rw [z]; rfl
    · rw [show ((b - a : Nat) : Int) - 1 = ((b - a - 1 : Nat) : Int) by omega]
      rfl
  unfold Q52.f
  rw [e1, e2, e3, w64_id (by omega) (by omega)]
  rw [show ((((b - a - 1) / 2 + 1 : Nat) : Int) - 1) = (((b - a - 1) / 2 : Nat) : Int) by omega] at hk
  exact hk
theorem rev_l0 : ∀ (m i j : Nat) (d : Array Int), j - i ≤ m → i ≤ 1000000 → j < d.size → d.size ≤ 1000000 → Ev (fun k => Q62.l0 k d.toList (i : Int) (j : Int)) (Go.Sort.reverseLoop i j d).toList
  | m, i, j, d, hm, hi, hj, hd => by
    rw [Go.Sort.reverseLoop]
    by_cases c : i < j
    · cases m with
      | zero => omega
      | succ m =>
      rw [if_pos c]
      refine (rev_l0 m (i + 1) (j - 1) (Go.Sort.swp d i j) (by omega) (by omega) (by rw [swp_size]; omega) (by rw [swp_size]; exact hd)).step fun k hk => ?_
      rw [Q62.l0, if_pos (decide_eq_true (by omega)), if_pos (by simp; omega), if_pos (by simp; omega), gta, gta, Int.toNat_natCast, Int.toNat_natCast, swpL, wn (n := i + 1) (by omega) (by omega), wn (x := (j : Int) - 1) (n := j - 1) (by omega) (by omega)]
      exact hk
    · rw [if_neg c]
      exact Ev.last fun k => by rw [Q62.l0, if_neg (by simp only [decide_eq_true_eq]; omega)]
theorem revR {a b : Nat} {d : Array Int} (ha : a ≤ 1000000) (h1 : 1 ≤ b) (hb : b ≤ d.size) (hd : d.size ≤ 1000000) : Ev (fun k => Q62.f k d.toList (a : Int) (b : Int)) (Go.Sort.reverseRange d a b).toList := by
  refine (rev_l0 (b - 1 - a) a (b - 1) d (Nat.le_refl _) ha (by omega) hd).next fun k hk => ?_
  unfold Q62.f
  rw [wn (x := (b : Int) - 1) (n := b - 1) (by omega) (by omega)]
  exact hk
theorem order2P {d : Array Int} {a b s : Nat} (ha : a < d.size) (hb : b < d.size) (hs : s ≤ 1000) : Q57.f d.toList (a : Int) (b : Int) (s : Int) = some (((Go.Sort.order2 ltI d a b s).1 : Int), ((Go.Sort.order2 ltI d a b s).2.1 : Int), ((Go.Sort.order2 ltI d a b s).2.2 : Int)) := by
  unfold Q57.f Go.Sort.order2
  rw [if_pos (by simp; omega), if_pos (by simp; omega), gta, gta, less32, Option.bind_some, wn (n := s + 1) (by omega) (by omega)]
  split <;> rfl
theorem order2_in {P : Nat → Prop} {d : Array Int} {a b s : Nat} (ha : P a) (hb : P b) : P (Go.Sort.order2 ltI d a b s).1 ∧ P (Go.Sort.order2 ltI d a b s).2.1 ∧ (Go.Sort.order2 ltI d a b s).2.2 ≤ s + 1 := by
  unfold Go.Sort.order2
  split
  · exact ⟨hb, ha, Nat.le_refl _⟩
  · exact ⟨ha, hb, Nat.le_succ _⟩
theorem median_in {P : Nat → Prop} {d : Array Int} {a b c s : Nat} (ha : P a) (hb : P b) (hc : P c) : P (Go.Sort.median ltI d a b c s).1 ∧ (Go.Sort.median ltI d a b c s).2 ≤ s + 3 := by
  obtain ⟨a1, a2, a3⟩ := order2_in (d := d) (s := s) ha hb
  obtain ⟨b1, b2, b3⟩ := order2_in (d := d) (s := (Go.Sort.order2 ltI d a b s).2.2) a2 hc
  obtain ⟨c1, c2, c3⟩ := order2_in (d := d) (s := (Go.Sort.order2 ltI d (Go.Sort.order2 ltI d a b s).2.1 c (Go.Sort.order2 ltI d a b s).2.2).2.2) a1 b1
  unfold Go.Sort.median
  exact ⟨c2, by dsimp only; omega⟩
theorem medianP {d : Array Int} {a b c s : Nat} (ha : a < d.size) (hb : b < d.size) (hc : c < d.size) (hs : s ≤ 900) : Q55.f d.toList (a : Int) (b : Int) (c : Int) (s : Int) = some (((Go.Sort.median ltI d a b c s).1 : Int), ((Go.Sort.median ltI d a b c s).2 : Int)) := by
  obtain ⟨a1, a2, a3⟩ := order2_in (P := fun x => x < d.size) (d := d) (s := s) ha hb
  obtain ⟨b1, b2, b3⟩ := order2_in (P := fun x => x < d.size) (d := d) (s := (Go.Sort.order2 ltI d a b s).2.2) a2 hc
  unfold Q55.f Go.Sort.median
  rw [order2P ha hb (by omega), Option.bind_some]
  dsimp only
  rw [order2P a2 hc (by omega), Option.bind_some]
  dsimp only
  rw [order2P a1 b1 (by omega), Option.bind_some]
theorem medAdjP {d : Array Int} {a s : Nat} (h1 : 1 ≤ a) (ha : a + 1 < d.size) (hd : d.size ≤ 1000000) (hs : s ≤ 900) : Q54.f d.toList (a : Int) (s : Int) = some (((Go.Sort.medianAdjacent ltI d a s).1 : Int), ((Go.Sort.medianAdjacent ltI d a s).2 : Int)) := by
  unfold Q54.f Go.Sort.medianAdjacent
  rw [wn (x := (a : Int) - 1) (n := a - 1) (by omega) (by omega), wn (n := a + 1) (by omega) (by omega), medianP (by omega) (by omega) (by omega) hs]
  rfl
theorem medAdj_in {d : Array Int} {a s : Nat} (ha : a + 1 < d.size) : (Go.Sort.medianAdjacent ltI d a s).1 < d.size ∧ (Go.Sort.medianAdjacent ltI d a s).2 ≤ s + 3 := by
  unfold Go.Sort.medianAdjacent
  exact median_in (P := fun x => x < d.size) (by omega) (by omega) (by omega)
def hintI : Go.Sort.Hint → Int
  | .unknown => 0
  | .increasing => 1
  | .decreasing => 2
theorem hint_eq (x : Int) (n : Nat) : (if (decide ((n : Int) = 0)) = true then (some (x, (1 : Int))) else (if (decide ((n : Int) = 12)) = true then (some (x, 2)) else (some (x, 0)))) = some (x, hintI (if n = 0 then Go.Sort.Hint.increasing else if n = 12 then .decreasing else .unknown)) := by
  by_cases h1 : n = 0
  · subst h1; rfl
  · rw [if_neg (by simp only [decide_eq_true_eq]; omega), if_neg h1]
    by_cases h2 : n = 12
    · subst h2; rfl
    · rw [if_neg (by simp only [decide_eq_true_eq]; omega), if_neg h2]
      rfl
theorem pivotP {d : Array Int} {a b : Nat} (hab : a ≤ b) (hb : b ≤ d.size) (h12 : 12 < b - a) (hd : d.size ≤ 1000000) : Q51.f d.toList (a : Int) (b : Int) = some (((Go.Sort.choosePivot ltI d a b).1 : Int), hintI (Go.Sort.choosePivot ltI d a b).2) := by
  have e1 : w64 ((b : Int) - (a : Int)) = ((b - a : Nat) : Int) := wn (by omega) (by omega)
  have e2 : w64 (Int.tdiv ((b - a : Nat) : Int) 4) = (((b - a) / 4 : Nat) : Int) := by
    rw [show Int.tdiv ((b - a : Nat) : Int) 4 = (((b - a) / 4 : Nat) : Int) from rfl, w64_id (by omega) (by omega)]
  obtain ⟨q, hq⟩ : ∃ q, q = (b - a) / 4 := ⟨_, rfl⟩
  rw [← hq] at e2
  have e3 : w64 ((q : Int) * 1) = ((q * 1 : Nat) : Int) := wn (by omega) (by omega)
  have e4 : w64 ((q : Int) * 2) = ((q * 2 : Nat) : Int) := wn (by omega) (by omega)
  have e5 : w64 ((q : Int) * 3) = ((q * 3 : Nat) : Int) := wn (by omega) (by omega)
  have e6 : w64 ((a : Int) + ((q * 1 : Nat) : Int)) = ((a + q * 1 : Nat) : Int) := wn (by omega) (by omega)
  have e7 : w64 ((a : Int) + ((q * 2 : Nat) : Int)) = ((a + q * 2 : Nat) : Int) := wn (by omega) (by omega)
  have e8 : w64 ((a : Int) + ((q * 3 : Nat) : Int)) = ((a + q * 3 : Nat) : Int) := wn (by omega) (by omega)
  unfold Q51.f Go.Sort.choosePivot
  simp only [e1, e2, e3, e4, e5, e6, e7, e8, ← hq]
  rw [if_pos (decide_eq_true (by omega)), if_pos (show b - a ≥ 8 by omega)]
  by_cases c : b - a ≥ 50
  · obtain ⟨i1, i2⟩ := medAdj_in (d := d) (a := a + q * 1) (s := 0) (by omega)
    obtain ⟨j1, j2⟩ := medAdj_in (d := d) (a := a + q * 2) (s := (Go.Sort.medianAdjacent ltI d (a + q * 1) 0).2) (by omega)
    obtain ⟨k1, k2⟩ := medAdj_in (d := d) (a := a + q * 3) (s := (Go.Sort.medianAdjacent ltI d (a + q * 2) (Go.Sort.medianAdjacent ltI d (a + q * 1) 0).2).2) (by omega)
    rw [if_pos (decide_eq_true (by omega)), if_pos c, show Q54.f d.toList ((a + q * 1 : Nat) : Int) 0 = _ from medAdjP (s := 0) (by omega) (by omega) hd (by omega), Option.bind_some]
    dsimp only
    rw [medAdjP (by omega) (by omega) hd (by omega), Option.bind_some]
    dsimp only
    rw [medAdjP (by omega) (by omega) hd (by omega), Option.bind_some]
    dsimp only
    rw [medianP i1 j1 k1 (by omega), Option.bind_some]
    exact hint_eq _ _
  · rw [if_neg (by simp only [decide_eq_true_eq]; omega), if_neg c, show Q55.f d.toList ((a + q * 1 : Nat) : Int) ((a + q * 2 : Nat) : Int) ((a + q * 3 : Nat) : Int) 0 = _ from medianP (s := 0) (by omega) (by omega) (by omega) (by omega), Option.bind_some]
    exact hint_eq _ _
theorem up_loop {R : Type} {b : Nat} {r : R} {F : Nat → List Int → Int → Option R} {G : Nat → List Int → Option R}
    (hF : ∀ k x j, F (k + 1) x j = if (decide (j < (b : Int))) = true then (if 0 ≤ j ∧ j < (x.length : Int) then (if 0 ≤ (w64 (j - 1)) ∧ (w64 (j - 1)) < (x.length : Int) then ((Q4.f (gt x j) (gt x (w64 (j - 1)))).bind fun r3 => (if (!r3) = true then (G k x) else (F k ((x.set j.toNat (gt x (w64 (j - 1)))).set (w64 (j - 1)).toNat (gt x j)) (w64 (j + 1))))) else none) else none) else (G k x)) :
    ∀ (m j : Nat) (d : Array Int), b - j ≤ m → 1 ≤ j → b ≤ d.size → d.size ≤ 1000000 → Ev (fun k => G k (Go.Sort.shiftUp ltI b j d).toList) r → Ev (fun k => F k d.toList (j : Int)) r
  | m, j, d, hm, h1, hb, hd, h => by
    rw [Go.Sort.shiftUp] at h
    by_cases c : j < b
    · cases m with
      | zero => omega
      | succ m =>
      have e1 : w64 ((j : Int) - 1) = ((j - 1 : Nat) : Int) := wn (by omega) (by omega)
      have e2 : w64 ((j : Int) + 1) = ((j + 1 : Nat) : Int) := wn (by omega) (by omega)
      rw [if_pos c] at h
      by_cases q : ltI d[j]! d[j - 1]! = true
      · rw [if_neg (by simp [q])] at h
        refine (up_loop hF m (j + 1) (Go.Sort.swp d j (j - 1)) (by omega) (by omega) (by rw [swp_size]; exact hb) (by rw [swp_size]; exact hd) h).step fun k hk => ?_
        rw [hF, if_pos (decide_eq_true (by omega)), e1, if_pos (by simp; omega), if_pos (by simp; omega), gta, gta, less32, Option.bind_some, if_neg (by simp [q]), Int.toNat_natCast, Int.toNat_natCast, swpL, e2]
        exact hk
      · rw [if_pos (by simp [q])] at h
        refine h.step fun k hk => ?_
        rw [hF, if_pos (decide_eq_true (by omega)), e1, if_pos (by simp; omega), if_pos (by simp; omega), gta, gta, less32, Option.bind_some, if_pos (by simp [q])]
        exact hk
    · rw [if_neg c] at h
      refine h.step fun k hk => ?_
      rw [hF, if_neg (by simp only [decide_eq_true_eq]; omega)]
      exact hk
theorem shiftUp_size (b : Nat) : ∀ (m j : Nat) (d : Array Int), b - j ≤ m → (Go.Sort.shiftUp ltI b j d).size = d.size
  | m, j, d, hm => by
    rw [Go.Sort.shiftUp]
    by_cases c : j < b
    · cases m with
      | zero => omega
      | succ m =>
      rw [if_pos c]
      split
      · rfl
      · rw [shiftUp_size b m _ _ (by omega), swp_size]
    · rw [if_neg c]
theorem shiftDown_size : ∀ (j : Nat) (d : Array Int), (Go.Sort.shiftDown ltI j d).size = d.size
  | 0, d => rfl
  | j + 1, d => by
    unfold Go.Sort.shiftDown
    split
    · rfl
    · rw [shiftDown_size j, swp_size]
theorem down_loop {R : Type} {r : R} {F : Nat → List Int → Int → Option R} {G1 G2 : Nat → List Int → Option R}
    (hF : ∀ k x j, F (k + 1) x j = if (decide (1 ≤ j)) = true then (if 0 ≤ j ∧ j < (x.length : Int) then (if 0 ≤ (w64 (j - 1)) ∧ (w64 (j - 1)) < (x.length : Int) then ((Q4.f (gt x j) (gt x (w64 (j - 1)))).bind fun r3 => (if (!r3) = true then (G1 k x) else (F k ((x.set j.toNat (gt x (w64 (j - 1)))).set (w64 (j - 1)).toNat (gt x j)) (w64 (j - 1))))) else none) else none) else (G2 k x)) :
    ∀ (j : Nat) (d : Array Int), j < d.size → d.size ≤ 1000000 → Ev (fun k => G1 k (Go.Sort.shiftDown ltI j d).toList) r → Ev (fun k => G2 k (Go.Sort.shiftDown ltI j d).toList) r → Ev (fun k => F k d.toList (j : Int)) r
  | 0, d, hj, hd, h1, h2 => h2.step fun k hk => by
    rw [hF, if_neg (by simp)]
    exact hk
  | j + 1, d, hj, hd, h1, h2 => by
    have e1 : w64 (((j + 1 : Nat) : Int) - 1) = (j : Int) := wn (by omega) (by omega)
    unfold Go.Sort.shiftDown at h1 h2
    by_cases q : ltI d[j + 1]! d[j]! = true
    · rw [if_neg (by simp [q])] at h1 h2
      refine (down_loop hF j (Go.Sort.swp d (j + 1) j) (by rw [swp_size]; omega) (by rw [swp_size]; exact hd) h1 h2).step fun k hk => ?_
      rw [hF, if_pos (decide_eq_true (by omega)), e1, if_pos (by simp; omega), if_pos (by simp; omega), gta, gta, less32, Option.bind_some, if_neg (by simp [q]), Int.toNat_natCast, Int.toNat_natCast, swpL]
      exact hk
    · rw [if_pos (by simp [q])] at h1
      refine h1.step fun k hk => ?_
      rw [hF, if_pos (decide_eq_true (by omega)), e1, if_pos (by simp; omega), if_pos (by simp; omega), gta, gta, less32, Option.bind_some, if_pos (by simp [q])]
      exact hk
def restI (a b s i : Nat) (d : Array Int) : Array Int × Bool :=
  if i = b then (d, true) else if b - a < 50 then (d, false) else
    Go.Sort.partialIns ltI a b s i (let d1 := Go.Sort.swp d i (i - 1); let d2 := if i - a ≥ 2 then Go.Sort.shiftDown ltI (i - 1) d1 else d1; if b - i ≥ 2 then Go.Sort.shiftUp ltI b (i + 1) d2 else d2)
theorem partialIns_rest (a b s i : Nat) (d : Array Int) : Go.Sort.partialIns ltI a b (s + 1) i d = restI a b s (Go.Sort.scanSorted ltI d b i) d := rfl
def pairI (p : Array Int × Bool) : Bool × List Int := (p.2, p.1.toList)
theorem pins_stop {a b s i : Nat} {d : Array Int} (hs : s < 5) (ha : a < i) (hi : i < b) (hb : b ≤ d.size) (hd : d.size ≤ 1000000) (hq : ltI d[i]! d[i - 1]! = true)
    (ih : ∀ d' : Array Int, d'.size = d.size → Ev (fun k => Q58.l0 k (a : Int) (b : Int) d'.toList (i : Int) ((5 - s : Nat) : Int)) (pairI (Go.Sort.partialIns ltI a b s i d'))) :
    Ev (fun k => Q58.l3 k (a : Int) (b : Int) d.toList ((4 - s : Nat) : Int) (i : Int)) (pairI (restI a b s i d)) := by
  have e1 : w64 ((i : Int) - 1) = ((i - 1 : Nat) : Int) := wn (by omega) (by omega)
  have e2 : w64 ((b : Int) - (a : Int)) = ((b - a : Nat) : Int) := wn (by omega) (by omega)
  have e3 : w64 ((i : Int) - (a : Int)) = ((i - a : Nat) : Int) := wn (by omega) (by omega)
  have e4 : w64 ((b : Int) - (i : Int)) = ((b - i : Nat) : Int) := wn (by omega) (by omega)
  have e5 : w64 ((i : Int) + 1) = ((i + 1 : Nat) : Int) := wn (by omega) (by omega)
  have e6 : w64 (((4 - s : Nat) : Int) + 1) = ((5 - s : Nat) : Int) := wn (by omega) (by omega)
  have un : ∀ k, Q58.l3 (k + 1) (a : Int) (b : Int) d.toList ((4 - s : Nat) : Int) (i : Int) = (if (decide (((b - a : Nat) : Int) < 50)) = true then (some (false, d.toList)) else (if (decide (2 ≤ ((i - a : Nat) : Int))) = true then (Q58.l2 k (a : Int) (b : Int) ((4 - s : Nat) : Int) (i : Int) (Go.Sort.swp d i (i - 1)).toList ((i - 1 : Nat) : Int)) else (if (decide (2 ≤ ((b - i : Nat) : Int))) = true then (Q58.l1 k (a : Int) (b : Int) ((4 - s : Nat) : Int) (i : Int) (Go.Sort.swp d i (i - 1)).toList ((i + 1 : Nat) : Int)) else (Q58.l0 k (a : Int) (b : Int) (Go.Sort.swp d i (i - 1)).toList (i : Int) ((5 - s : Nat) : Int))))) := fun k => by
    rw [Q58.l3, if_pos (decide_eq_true (by omega)), e1, if_pos (by simp; omega), if_pos (by simp; omega), gta, gta, less32, Option.bind_some, if_neg (by simp [hq]), if_neg (by simp only [decide_eq_true_eq]; omega), if_pos (show 0 ≤ ((i - 1 : Nat) : Int) ∧ ((i - 1 : Nat) : Int) < (d.toList.length : Int) by simp; omega), if_pos (show 0 ≤ (i : Int) ∧ (i : Int) < (d.toList.length : Int) by simp; omega), e2, e3, e4, e5, e6, Int.toNat_natCast, Int.toNat_natCast, swpL]
  unfold restI
  rw [if_neg (by omega)]
  by_cases c1 : b - a < 50
  · rw [if_pos c1]
    exact Ev.last fun k => by rw [un, if_pos (decide_eq_true (by omega))]; rfl
  · rw [if_neg c1]
    have sz := swp_size d i (i - 1)
    have fin : ∀ (d2 : Array Int), d2.size = d.size → ∀ (F : Nat → List Int → Int → Option (Bool × List Int)), (∀ k x j, F (k + 1) x j = if (decide (j < (b : Int))) = true then (if 0 ≤ j ∧ j < (x.length : Int) then (if 0 ≤ (w64 (j - 1)) ∧ (w64 (j - 1)) < (x.length : Int) then ((Q4.f (gt x j) (gt x (w64 (j - 1)))).bind fun r3 => (if (!r3) = true then (Q58.l0 k (a : Int) (b : Int) x (i : Int) ((5 - s : Nat) : Int)) else (F k ((x.set j.toNat (gt x (w64 (j - 1)))).set (w64 (j - 1)).toNat (gt x j)) (w64 (j + 1))))) else none) else none) else (Q58.l0 k (a : Int) (b : Int) x (i : Int) ((5 - s : Nat) : Int))) →
        Ev (fun k => F k d2.toList ((i + 1 : Nat) : Int)) (pairI (Go.Sort.partialIns ltI a b s i (Go.Sort.shiftUp ltI b (i + 1) d2))) := fun d2 h2 F hF =>
      up_loop (G := fun k x => Q58.l0 k (a : Int) (b : Int) x (i : Int) ((5 - s : Nat) : Int)) hF b (i + 1) d2 (by omega) (by omega) (by omega) (by omega) (ih _ (by rw [shiftUp_size b b _ _ (by omega), h2]))
    by_cases c2 : i - a ≥ 2
    · have sz2 : (Go.Sort.shiftDown ltI (i - 1) (Go.Sort.swp d i (i - 1))).size = d.size := by rw [shiftDown_size, sz]
      have dn := down_loop (r := pairI (Go.Sort.partialIns ltI a b s i (if b - i ≥ 2 then Go.Sort.shiftUp ltI b (i + 1) (Go.Sort.shiftDown ltI (i - 1) (Go.Sort.swp d i (i - 1))) else Go.Sort.shiftDown ltI (i - 1) (Go.Sort.swp d i (i - 1)))))
        (F := fun k x j => Q58.l2 k (a : Int) (b : Int) ((4 - s : Nat) : Int) (i : Int) x j)
        (G1 := fun k x => if (decide (2 ≤ ((b - i : Nat) : Int))) = true then (Q58.l1 k (a : Int) (b : Int) ((4 - s : Nat) : Int) (i : Int) x ((i + 1 : Nat) : Int)) else (Q58.l0 k (a : Int) (b : Int) x (i : Int) ((5 - s : Nat) : Int)))
        (G2 := fun k x => if (decide (2 ≤ ((b - i : Nat) : Int))) = true then (Q58.l1 k (a : Int) (b : Int) ((4 - s : Nat) : Int) (i : Int) x ((i + 1 : Nat) : Int)) else (Q58.l0 k (a : Int) (b : Int) x (i : Int) ((5 - s : Nat) : Int)))
        (fun k x j => by rw [Q58.l2]; simp only [e4, e5, e6]) (i - 1) (Go.Sort.swp d i (i - 1)) (by omega) (by omega)
      have key := dn (by
        by_cases c3 : b - i ≥ 2
        · simp only [if_pos c3, if_pos (show decide (2 ≤ ((b - i : Nat) : Int)) = true from decide_eq_true (by omega))]
          exact fin _ sz2 (fun k x j => Q58.l1 k (a : Int) (b : Int) ((4 - s : Nat) : Int) (i : Int) x j) (fun k x j => by rw [Q58.l1]; simp only [e6])
        · simp only [if_neg c3, if_neg (show ¬ decide (2 ≤ ((b - i : Nat) : Int)) = true by simp only [decide_eq_true_eq]; omega)]
          exact ih _ sz2) (by
        by_cases c3 : b - i ≥ 2
        · simp only [if_pos c3, if_pos (show decide (2 ≤ ((b - i : Nat) : Int)) = true from decide_eq_true (by omega))]
          exact fin _ sz2 (fun k x j => Q58.l1 k (a : Int) (b : Int) ((4 - s : Nat) : Int) (i : Int) x j) (fun k x j => by rw [Q58.l1]; simp only [e6])
        · simp only [if_neg c3, if_neg (show ¬ decide (2 ≤ ((b - i : Nat) : Int)) = true by simp only [decide_eq_true_eq]; omega)]
          exact ih _ sz2)
      refine key.step fun k hk => ?_
      rw [un, if_neg (by simp only [decide_eq_true_eq]; omega), if_pos (decide_eq_true (by omega)), hk]
      simp only [if_pos c2]
    · by_cases c3 : b - i ≥ 2
      · refine (fin _ sz (fun k x j => Q58.l1 k (a : Int) (b : Int) ((4 - s : Nat) : Int) (i : Int) x j) (fun k x j => by rw [Q58.l1]; simp only [e6])).step fun k hk => ?_
        rw [un, if_neg (by simp only [decide_eq_true_eq]; omega), if_neg (by simp only [decide_eq_true_eq]; omega), if_pos (decide_eq_true (by omega)), hk]
        simp only [if_neg c2, if_pos c3]
      · refine (ih _ sz).step fun k hk => ?_
        rw [un, if_neg (by simp only [decide_eq_true_eq]; omega), if_neg (by simp only [decide_eq_true_eq]; omega), if_neg (by simp only [decide_eq_true_eq]; omega), hk]
        simp only [if_neg c2, if_neg c3]
theorem pins_l0 {a b n : Nat} (hn : n ≤ 1000000) (hb : b ≤ n) : ∀ (s i : Nat) (d : Array Int), s ≤ 5 → a < i → i ≤ b → d.size = n → Ev (fun k => Q58.l0 k (a : Int) (b : Int) d.toList (i : Int) ((5 - s : Nat) : Int)) (pairI (Go.Sort.partialIns ltI a b s i d))
  | 0, i, d, hs, ha, hi, hd => Ev.last fun k => by
    rw [Q58.l0, if_neg (by simp)]
    rfl
  | s + 1, i, d, hs, ha, hi, hd => by
    rw [partialIns_rest]
    have scan : ∀ (m i : Nat), b - i ≤ m → a < i → i ≤ b → Ev (fun k => Q58.l3 k (a : Int) (b : Int) d.toList ((4 - s : Nat) : Int) (i : Int)) (pairI (restI a b s (Go.Sort.scanSorted ltI d b i) d)) := fun m => by
      induction m with
      | zero =>
        intro i hm ha hi
        rw [Go.Sort.scanSorted, if_neg (by simp; omega)]
        unfold restI
        rw [if_pos (by omega)]
        exact Ev.last fun k => by
          rw [Q58.l3, if_neg (by simp only [decide_eq_true_eq]; omega), if_pos (decide_eq_true (by omega))]
          rfl
      | succ m ihm =>
        intro i hm ha hi
        rw [Go.Sort.scanSorted]
        by_cases c : i < b
        · by_cases q : ltI d[i]! d[i - 1]! = true
          · rw [if_neg (by simp [q])]
            exact pins_stop (by omega) ha c (by omega) (by omega) q fun d' h' => pins_l0 hn hb s i d' (by omega) ha hi (by omega)
          · rw [if_pos (by simp [c, q])]
            have e1 : w64 ((i : Int) - 1) = ((i - 1 : Nat) : Int) := wn (by omega) (by omega)
            have e5 : w64 ((i : Int) + 1) = ((i + 1 : Nat) : Int) := wn (by omega) (by omega)
            refine (ihm (i + 1) (by omega) (by omega) (by omega)).step fun k hk => ?_
            rw [Q58.l3, if_pos (decide_eq_true (by omega)), e1, if_pos (by simp; omega), if_pos (by simp; omega), gta, gta, less32, Option.bind_some, if_pos (by simp [q]), e5]
            exact hk
        · rw [if_neg (by simp [c])]
          unfold restI
          rw [if_pos (by omega)]
          exact Ev.last fun k => by
            rw [Q58.l3, if_neg (by simp only [decide_eq_true_eq]; omega), if_pos (decide_eq_true (by omega))]
            rfl
    refine (scan b i (by omega) ha hi).step fun k hk => ?_
    rw [Q58.l0, if_pos (decide_eq_true (by omega)), show ((5 - (s + 1) : Nat) : Int) = ((4 - s : Nat) : Int) by omega]
    exact hk
theorem partI {a b : Nat} {d : Array Int} (hab : a < b) (hb : b ≤ d.size) (hd : d.size ≤ 1000000) : Ev (fun k => Q58.f k d.toList (a : Int) (b : Int)) (pairI (Go.Sort.partialInsertionSort ltI d a b)) := by
  refine (pins_l0 (a := a) (b := b) hd hb 5 (a + 1) d (Nat.le_refl _) (by omega) (by omega) rfl).next fun k hk => ?_
  unfold Q58.f
  rw [wn (n := a + 1) (by omega) (by omega)]
  exact hk
theorem scanUp_ge (p : Int → Bool) (d : Array Int) (j : Nat) : ∀ (m i : Nat), j + 1 - i ≤ m → i ≤ Go.Sort.scanUp p d j i ∧ (Go.Sort.scanUp p d j i ≤ j + 1 ∨ Go.Sort.scanUp p d j i = i)
  | m, i, hm => by
    rw [Go.Sort.scanUp]
    by_cases c : (decide (i ≤ j) && p d[i]!) = true
    · rw [if_pos c]
      have hij : i ≤ j := by simp only [Bool.and_eq_true, decide_eq_true_eq] at c; exact c.1
      cases m with
      | zero => omega
      | succ m =>
      have := scanUp_ge p d j m (i + 1) (by omega)
      omega
    · rw [if_neg c]
      exact ⟨Nat.le_refl _, .inr rfl⟩
theorem scanDown_le (p : Int → Bool) (d : Array Int) (i : Nat) : ∀ j : Nat, Go.Sort.scanDown p d i j ≤ j
  | 0 => Nat.le_refl _
  | j + 1 => by
    unfold Go.Sort.scanDown
    split
    · have := scanDown_le p d i j; omega
    · exact Nat.le_refl _
def pairE (p : Nat × Array Int) : Int × List Int := ((p.1 : Int), p.2.toList)
def restE (a i2 j2 : Nat) (d : Array Int) : Nat × Array Int := if i2 > j2 then (i2, d) else Go.Sort.partEqLoop ltI a (i2 + 1) (j2 - 1) (Go.Sort.swp d i2 j2)
theorem partEq_rest {a i j : Nat} {d : Array Int} (h1 : 1 ≤ i) : Go.Sort.partEqLoop ltI a i j d = restE a (Go.Sort.scanUp (fun x => !ltI d[a]! x) d j i) (Go.Sort.scanDown (fun x => ltI d[a]! x) d (Go.Sort.scanUp (fun x => !ltI d[a]! x) d j i) j) d := by
  have u := (scanUp_ge (fun x => !ltI d[a]! x) d j _ i (Nat.le_refl _)).1
  have v := scanDown_le (fun x => ltI d[a]! x) d (Go.Sort.scanUp (fun x => !ltI d[a]! x) d j i) j
  rw [Go.Sort.partEqLoop]
  unfold restE
  split
  · rfl
  · rw [dif_pos (by omega)]
theorem pe_down {a i2 : Nat} {d : Array Int} (hi : 1 ≤ i2) (ha : a < d.size) (hd : d.size ≤ 1000000) (hi2 : i2 ≤ 1000001) : ∀ (j : Nat), j < d.size → (∀ j2, j2 ≤ j → i2 ≤ j2 → Ev (fun k => Q59.l0 k (a : Int) (Go.Sort.swp d i2 j2).toList ((i2 + 1 : Nat) : Int) ((j2 - 1 : Nat) : Int)) (pairE (Go.Sort.partEqLoop ltI a (i2 + 1) (j2 - 1) (Go.Sort.swp d i2 j2)))) →
    Ev (fun k => Q59.l2 k (a : Int) d.toList (i2 : Int) (j : Int)) (pairE (restE a i2 (Go.Sort.scanDown (fun x => ltI d[a]! x) d i2 j) d))
  | 0, hj, h => by
    unfold Go.Sort.scanDown restE
    rw [if_pos (by omega)]
    exact Ev.last fun k => by rw [Q59.l2, if_neg (by simp only [decide_eq_true_eq]; omega), if_pos (decide_eq_true (by omega))]; rfl
  | j + 1, hj, h => by
    have e1 : w64 (((j + 1 : Nat) : Int) - 1) = (j : Int) := wn (by omega) (by omega)
    have e2 : w64 ((i2 : Int) + 1) = ((i2 + 1 : Nat) : Int) := wn (by omega) (by omega)
    unfold Go.Sort.scanDown
    by_cases c : i2 ≤ j + 1
    · by_cases q : ltI d[a]! d[j + 1]! = true
      · rw [if_pos (by simp [c, q])]
        refine (pe_down hi ha hd hi2 j (by omega) fun j2 a b => h j2 (by omega) b).step fun k hk => ?_
        rw [Q59.l2, if_pos (decide_eq_true (by omega)), if_pos (by simp; omega), gta, gta, less32, Option.bind_some, if_pos q, e1]
        exact hk
      · rw [if_neg (by simp [q])]
        unfold restE
        rw [if_neg (by omega)]
        refine (h (j + 1) (Nat.le_refl _) c).step fun k hk => ?_
        rw [Q59.l2, if_pos (decide_eq_true (by omega)), if_pos (by simp; omega), gta, gta, less32, Option.bind_some, if_neg q, if_neg (by simp only [decide_eq_true_eq]; omega), gta, Int.toNat_natCast, Int.toNat_natCast, swpL, e1, e2]
        exact hk
    · rw [if_neg (by simp [c])]
      unfold restE
      rw [if_pos (by omega)]
      exact Ev.last fun k => by rw [Q59.l2, if_neg (by simp only [decide_eq_true_eq]; omega), if_pos (decide_eq_true (by omega))]; rfl
theorem pe_up {a j : Nat} {d : Array Int} (ha : a < d.size) (hd : d.size ≤ 1000000) (hj : j < d.size) : ∀ (m i : Nat), j + 1 - i ≤ m → 1 ≤ i → i ≤ 1000001 → (∀ i2 j2, i ≤ i2 → j2 ≤ j → i2 ≤ j2 → Ev (fun k => Q59.l0 k (a : Int) (Go.Sort.swp d i2 j2).toList ((i2 + 1 : Nat) : Int) ((j2 - 1 : Nat) : Int)) (pairE (Go.Sort.partEqLoop ltI a (i2 + 1) (j2 - 1) (Go.Sort.swp d i2 j2)))) →
    Ev (fun k => Q59.l1 k (a : Int) d.toList (j : Int) (i : Int)) (pairE (restE a (Go.Sort.scanUp (fun x => !ltI d[a]! x) d j i) (Go.Sort.scanDown (fun x => ltI d[a]! x) d (Go.Sort.scanUp (fun x => !ltI d[a]! x) d j i) j) d))
  | m, i, hm, h1, hi, h => by
    have e2 : w64 ((i : Int) + 1) = ((i + 1 : Nat) : Int) := wn (by omega) (by omega)
    rw [Go.Sort.scanUp]
    by_cases c : i ≤ j
    · by_cases q : ltI d[a]! d[i]! = true
      · rw [if_neg (by simp [q])]
        refine (pe_down h1 ha hd hi j hj fun j2 a b => h i j2 (Nat.le_refl _) a b).step fun k hk => ?_
        rw [Q59.l1, if_pos (decide_eq_true (by omega)), if_pos (by simp; omega), if_pos (by simp; omega), gta, gta, less32, Option.bind_some, if_neg (by simp [q])]
        exact hk
      · cases m with
        | zero => omega
        | succ m =>
        rw [if_pos (by simp [c, q])]
        refine (pe_up ha hd hj m (i + 1) (by omega) (by omega) (by omega) fun i2 j2 a b c => h i2 j2 (by omega) b c).step fun k hk => ?_
        rw [Q59.l1, if_pos (decide_eq_true (by omega)), if_pos (by simp; omega), if_pos (by simp; omega), gta, gta, less32, Option.bind_some, if_pos (by simp [q]), e2]
        exact hk
    · rw [if_neg (by simp [c])]
      have v := scanDown_le (fun x => ltI d[a]! x) d i j
      unfold restE
      rw [if_pos (by omega)]
      have : Ev (fun k => Q59.l3 k (a : Int) d.toList (j : Int) (i : Int)) (pairE (i, d)) := Ev.last fun k => by
        rw [Q59.l3, if_pos (decide_eq_true (by omega))]
        rfl
      refine this.step fun k hk => ?_
      rw [Q59.l1, if_neg (by simp only [decide_eq_true_eq]; omega)]
      exact hk
theorem pe_loop {a n : Nat} (hn : n ≤ 1000000) (ha : a < n) : ∀ (m i j : Nat) (d : Array Int), j + 1 - i ≤ m → 1 ≤ i → i ≤ 1000001 → j < n → d.size = n → Ev (fun k => Q59.l0 k (a : Int) d.toList (i : Int) (j : Int)) (pairE (Go.Sort.partEqLoop ltI a i j d))
  | m, i, j, d, hm, h1, hi, hj, hd => by
    rw [partEq_rest h1]
    refine (pe_up (a := a) (j := j) (d := d) (by omega) (by omega) (by omega) _ i (Nat.le_refl _) h1 hi fun i2 j2 a1 a2 a3 => ?_).step fun k hk => ?_
    · cases m with
      | zero => omega
      | succ m => exact pe_loop hn ha m (i2 + 1) (j2 - 1) (Go.Sort.swp d i2 j2) (by omega) (by omega) (by omega) (by omega) (by rw [swp_size]; exact hd)
    · rw [Q59.l0]
      exact hk
theorem partEqP {a b p : Nat} {d : Array Int} (hab : a < b) (hp : p < d.size) (hb : b ≤ d.size) (hd : d.size ≤ 1000000) : Ev (fun k => Q59.f k d.toList (a : Int) (b : Int) (p : Int)) (pairE (Go.Sort.partitionEqual ltI d a b p)) := by
  refine (pe_loop (a := a) (n := d.size) hd (by omega) _ (a + 1) (b - 1) (Go.Sort.swp d a p) (Nat.le_refl _) (by omega) (by omega) (by omega) (swp_size d a p)).next fun k hk => ?_
  unfold Q59.f
  rw [if_pos (by simp; omega), if_pos (by simp; omega), gta, gta, Int.toNat_natCast, Int.toNat_natCast, swpL, wn (n := a + 1) (by omega) (by omega), wn (x := (b : Int) - 1) (n := b - 1) (by omega) (by omega)]
  exact hk
def finI (d : Array Int) (a j : Nat) : Int × Bool × List Int := ((j : Int), false, (Go.Sort.swp d j a).toList)
def restP (a i2 j2 : Nat) (d : Array Int) : Nat × Array Int := if i2 > j2 then (j2, d) else Go.Sort.partLoop ltI a (i2 + 1) (j2 - 1) (Go.Sort.swp d i2 j2)
theorem part_rest {a i j : Nat} {d : Array Int} (h1 : 1 ≤ i) : Go.Sort.partLoop ltI a i j d = restP a (Go.Sort.scanUp (fun x => ltI x d[a]!) d j i) (Go.Sort.scanDown (fun x => !ltI x d[a]!) d (Go.Sort.scanUp (fun x => ltI x d[a]!) d j i) j) d := by
  have u := (scanUp_ge (fun x => ltI x d[a]!) d j _ i (Nat.le_refl _)).1
  have v := scanDown_le (fun x => !ltI x d[a]!) d (Go.Sort.scanUp (fun x => ltI x d[a]!) d j i) j
  rw [Go.Sort.partLoop]
  unfold restP
  split
  · rfl
  · rw [dif_pos (by omega)]
structure Part4 (a : Nat) (F2 F3 F4 : Nat → List Int → Int → Int → Option (Int × Bool × List Int)) : Prop where
  h2 : ∀ k x i j, F2 (k + 1) x i j = F3 k x j i
  h3 : ∀ k x j i, F3 (k + 1) x j i = if (decide (i ≤ j)) = true then (if 0 ≤ i ∧ i < (x.length : Int) then (if 0 ≤ (a : Int) ∧ (a : Int) < (x.length : Int) then ((Q4.f (gt x i) (gt x (a : Int))).bind fun r3 => (if r3 = true then (F3 k x j (w64 (i + 1))) else (F4 k x i j))) else none) else none) else (F4 k x i j)
  h4 : ∀ k x i j, F4 (k + 1) x i j = if (decide (i ≤ j)) = true then (if 0 ≤ j ∧ j < (x.length : Int) then (if 0 ≤ (a : Int) ∧ (a : Int) < (x.length : Int) then ((Q4.f (gt x j) (gt x (a : Int))).bind fun r4 => (if (!r4) = true then (F4 k x i (w64 (j - 1))) else (if (decide (j < i)) = true then (if 0 ≤ (a : Int) ∧ (a : Int) < (x.length : Int) then (if 0 ≤ j ∧ j < (x.length : Int) then (some (j, false, ((x.set j.toNat (gt x (a : Int))).set (a : Int).toNat (gt x j)))) else none) else none) else (if 0 ≤ j ∧ j < (x.length : Int) then (if 0 ≤ i ∧ i < (x.length : Int) then (F2 k ((x.set i.toNat (gt x j)).set j.toNat (gt x i)) (w64 (i + 1)) (w64 (j - 1))) else none) else none)))) else none) else none) else (if (decide (j < i)) = true then (if 0 ≤ (a : Int) ∧ (a : Int) < (x.length : Int) then (if 0 ≤ j ∧ j < (x.length : Int) then (some (j, false, ((x.set j.toNat (gt x (a : Int))).set (a : Int).toNat (gt x j)))) else none) else none) else (if 0 ≤ j ∧ j < (x.length : Int) then (if 0 ≤ i ∧ i < (x.length : Int) then (F2 k ((x.set i.toNat (gt x j)).set j.toNat (gt x i)) (w64 (i + 1)) (w64 (j - 1))) else none) else none))
section
variable {a : Nat} {F2 F3 F4 : Nat → List Int → Int → Int → Option (Int × Bool × List Int)} (P : Part4 a F2 F3 F4)
include P
theorem pp_down {i2 : Nat} {d : Array Int} (hi : 1 ≤ i2) (ha : a < d.size) (hd : d.size ≤ 1000000) (hi2 : i2 ≤ 1000001) : ∀ (j : Nat), j < d.size → (∀ j2, j2 ≤ j → i2 ≤ j2 → Ev (fun k => F2 k (Go.Sort.swp d i2 j2).toList ((i2 + 1 : Nat) : Int) ((j2 - 1 : Nat) : Int)) (let r := Go.Sort.partLoop ltI a (i2 + 1) (j2 - 1) (Go.Sort.swp d i2 j2); finI r.2 a r.1)) →
    Ev (fun k => F4 k d.toList (i2 : Int) (j : Int)) (let r := restP a i2 (Go.Sort.scanDown (fun x => !ltI x d[a]!) d i2 j) d; finI r.2 a r.1)
  | 0, hj, h => by
    unfold Go.Sort.scanDown restP
    rw [if_pos (by omega)]
    exact Ev.last fun k => by rw [P.h4, if_neg (by simp only [decide_eq_true_eq]; omega), if_pos (decide_eq_true (by omega)), if_pos (by simp; omega), if_pos (by simp; omega), gta, gta, Int.toNat_natCast, Int.toNat_natCast, swpL]; rfl
  | j + 1, hj, h => by
    have e1 : w64 (((j + 1 : Nat) : Int) - 1) = (j : Int) := wn (by omega) (by omega)
    have e2 : w64 ((i2 : Int) + 1) = ((i2 + 1 : Nat) : Int) := wn (by omega) (by omega)
    unfold Go.Sort.scanDown
    by_cases c : i2 ≤ j + 1
    · by_cases q : ltI d[j + 1]! d[a]! = true
      · rw [if_neg (by simp [q])]
        unfold restP
        rw [if_neg (by omega)]
        refine (h (j + 1) (Nat.le_refl _) c).step fun k hk => ?_
        rw [P.h4, if_pos (decide_eq_true (by omega)), if_pos (by simp; omega), if_pos (by simp; omega), gta, gta, less32, Option.bind_some, if_neg (by simp [q]), if_neg (by simp only [decide_eq_true_eq]; omega), if_pos (by simp; omega), if_pos (by simp; omega), gta, Int.toNat_natCast, Int.toNat_natCast, swpL, e1, e2]
        exact hk
      · rw [if_pos (by simp [c, q])]
        refine (pp_down hi ha hd hi2 j (by omega) fun j2 a b => h j2 (by omega) b).step fun k hk => ?_
        rw [P.h4, if_pos (decide_eq_true (by omega)), if_pos (by simp; omega), if_pos (by simp; omega), gta, gta, less32, Option.bind_some, if_pos (by simp [q]), e1]
        exact hk
    · rw [if_neg (by simp [c])]
      unfold restP
      rw [if_pos (by omega)]
      exact Ev.last fun k => by rw [P.h4, if_neg (by simp only [decide_eq_true_eq]; omega), if_pos (decide_eq_true (by omega)), if_pos (by simp; omega), if_pos (by simp; omega), gta, gta, Int.toNat_natCast, Int.toNat_natCast, swpL]; rfl
theorem pp_up {j : Nat} {d : Array Int} (ha : a < d.size) (hd : d.size ≤ 1000000) (hj : j < d.size) : ∀ (m i : Nat), j + 1 - i ≤ m → 1 ≤ i → i ≤ 1000001 → (∀ i2 j2, i ≤ i2 → j2 ≤ j → i2 ≤ j2 → Ev (fun k => F2 k (Go.Sort.swp d i2 j2).toList ((i2 + 1 : Nat) : Int) ((j2 - 1 : Nat) : Int)) (let r := Go.Sort.partLoop ltI a (i2 + 1) (j2 - 1) (Go.Sort.swp d i2 j2); finI r.2 a r.1)) →
    Ev (fun k => F3 k d.toList (j : Int) (i : Int)) (let r := restP a (Go.Sort.scanUp (fun x => ltI x d[a]!) d j i) (Go.Sort.scanDown (fun x => !ltI x d[a]!) d (Go.Sort.scanUp (fun x => ltI x d[a]!) d j i) j) d; finI r.2 a r.1)
  | m, i, hm, h1, hi, h => by
    have e2 : w64 ((i : Int) + 1) = ((i + 1 : Nat) : Int) := wn (by omega) (by omega)
    rw [Go.Sort.scanUp]
    by_cases c : i ≤ j
    · by_cases q : ltI d[i]! d[a]! = true
      · cases m with
        | zero => omega
        | succ m =>
        rw [if_pos (by simp [c, q])]
        refine (pp_up ha hd hj m (i + 1) (by omega) (by omega) (by omega) fun i2 j2 a b c => h i2 j2 (by omega) b c).step fun k hk => ?_
        rw [P.h3, if_pos (decide_eq_true (by omega)), if_pos (by simp; omega), if_pos (by simp; omega), gta, gta, less32, Option.bind_some, if_pos q, e2]
        exact hk
      · rw [if_neg (by simp [q])]
        refine (pp_down P h1 ha hd hi j hj fun j2 a b => h i j2 (Nat.le_refl _) a b).step fun k hk => ?_
        rw [P.h3, if_pos (decide_eq_true (by omega)), if_pos (by simp; omega), if_pos (by simp; omega), gta, gta, less32, Option.bind_some, if_neg q]
        exact hk
    · rw [if_neg (by simp [c])]
      refine (pp_down P h1 ha hd hi j hj fun j2 a b => h i j2 (Nat.le_refl _) a b).step fun k hk => ?_
      rw [P.h3, if_neg (by simp only [decide_eq_true_eq]; omega)]
      exact hk
theorem pp_loop {n : Nat} (hn : n ≤ 1000000) (ha : a < n) : ∀ (m i j : Nat) (d : Array Int), j + 1 - i ≤ m → 1 ≤ i → i ≤ 1000001 → j < n → d.size = n → Ev (fun k => F2 k d.toList (i : Int) (j : Int)) (let r := Go.Sort.partLoop ltI a i j d; finI r.2 a r.1)
  | m, i, j, d, hm, h1, hi, hj, hd => by
    rw [part_rest h1]
    refine (pp_up P (j := j) (d := d) (by omega) (by omega) (by omega) _ i (Nat.le_refl _) h1 hi fun i2 j2 a1 a2 a3 => ?_).step fun k hk => ?_
    · cases m with
      | zero => omega
      | succ m => exact pp_loop hn ha m (i2 + 1) (j2 - 1) (Go.Sort.swp d i2 j2) (by omega) (by omega) (by omega) (by omega) (by rw [swp_size]; exact hd)
    · rw [P.h2]
      exact hk
end
theorem part_a (a : Nat) : Part4 a (fun k x i j => Q60.l0 k (a : Int) x i j) (fun k x j i => Q60.l2 k (a : Int) x j i) (fun k x i j => Q60.l1 k (a : Int) x i j) :=
  ⟨fun k x i j => by rw [Q60.l0], fun k x j i => by rw [Q60.l2], fun k x i j => by rw [Q60.l1]⟩
def outT (r : Nat × Bool × Array Int) : Int × Bool × List Int := ((r.1 : Int), r.2.1, r.2.2.toList)
def restT (a i j : Nat) (d : Array Int) : Nat × Bool × Array Int := if i > j then (j, true, Go.Sort.swp d j a) else ((Go.Sort.partLoop ltI a (i + 1) (j - 1) (Go.Sort.swp d i j)).1, false, Go.Sort.swp (Go.Sort.partLoop ltI a (i + 1) (j - 1) (Go.Sort.swp d i j)).2 (Go.Sort.partLoop ltI a (i + 1) (j - 1) (Go.Sort.swp d i j)).1 a)
theorem pt_down {a p i : Nat} {d e : Array Int} (he : e = Go.Sort.swp d a p) (hi : 1 ≤ i) (ha : a < d.size) (hp : p < d.size) (hd : d.size ≤ 1000000) (hi2 : i ≤ 1000001) : ∀ (j : Nat), j < d.size → Ev (fun k => Q60.l3 k d.toList (a : Int) (p : Int) (i : Int) (j : Int)) (outT (restT a i (Go.Sort.scanDown (fun x => !ltI x e[a]!) e i j) e))
  | 0, hj => by
    have se : e.size = d.size := by rw [he, swp_size]
    unfold Go.Sort.scanDown restT
    rw [if_pos (by omega)]
    exact Ev.last fun k => by
      rw [Q60.l3, if_neg (by simp only [decide_eq_true_eq]; omega), if_pos (decide_eq_true (by omega)), gta, gta, Int.toNat_natCast, Int.toNat_natCast, swpL, ← he, if_pos (by simp; omega), if_pos (by simp; omega), gta, gta, Int.toNat_natCast, swpL]
      rfl
  | j + 1, hj => by
    have se : e.size = d.size := by rw [he, swp_size]
    have e1 : w64 (((j + 1 : Nat) : Int) - 1) = (j : Int) := wn (by omega) (by omega)
    have e2 : w64 ((i : Int) + 1) = ((i + 1 : Nat) : Int) := wn (by omega) (by omega)
    unfold Go.Sort.scanDown
    by_cases c : i ≤ j + 1
    · by_cases q : ltI e[j + 1]! e[a]! = true
      · rw [if_neg (by simp [q])]
        unfold restT
        rw [if_neg (by omega)]
        refine (pp_loop (part_a a) (n := d.size) hd ha _ (i + 1) j (Go.Sort.swp e i (j + 1)) (Nat.le_refl _) (by omega) (by omega) (by omega) (by rw [swp_size, se])).step fun k hk => ?_
        rw [Q60.l3, if_pos (decide_eq_true (by omega)), gta, gta, Int.toNat_natCast, Int.toNat_natCast, swpL, ← he, if_pos (by simp; omega), if_pos (by simp; omega), gta, gta, less32, Option.bind_some, if_neg (by simp [q]), if_neg (by simp only [decide_eq_true_eq]; omega), if_pos (by simp; omega), if_pos (by simp; omega), gta, Int.toNat_natCast, Int.toNat_natCast, swpL, e1, e2]
        exact hk
      · rw [if_pos (by simp [c, q])]
        refine (pt_down he hi ha hp hd hi2 j (by omega)).step fun k hk => ?_
        rw [Q60.l3, if_pos (decide_eq_true (by omega)), gta, gta, Int.toNat_natCast, Int.toNat_natCast, swpL, ← he, if_pos (by simp; omega), if_pos (by simp; omega), gta, gta, less32, Option.bind_some, if_pos (by simp [q]), e1]
        exact hk
    · rw [if_neg (by simp [c])]
      unfold restT
      rw [if_pos (by omega)]
      exact Ev.last fun k => by
        rw [Q60.l3, if_neg (by simp only [decide_eq_true_eq]; omega), if_pos (decide_eq_true (by omega)), gta, gta, Int.toNat_natCast, Int.toNat_natCast, swpL, ← he, if_pos (by simp; omega), if_pos (by simp; omega), gta, gta, Int.toNat_natCast, swpL]
        rfl
theorem pt_up {a b p : Nat} {d e : Array Int} (he : e = Go.Sort.swp d a p) (hab : a < b) (hb : b ≤ d.size) (hp : p < d.size) (hd : d.size ≤ 1000000) : ∀ (m i : Nat), b - i ≤ m → 1 ≤ i → i ≤ 1000001 → Ev (fun k => Q60.l4 k d.toList (a : Int) (b : Int) (p : Int) (i : Int)) (outT (restT a (Go.Sort.scanUp (fun x => ltI x e[a]!) e (b - 1) i) (Go.Sort.scanDown (fun x => !ltI x e[a]!) e (Go.Sort.scanUp (fun x => ltI x e[a]!) e (b - 1) i) (b - 1)) e))
  | m, i, hm, h1, hi => by
    have se : e.size = d.size := by rw [he, swp_size]
    have e2 : w64 ((i : Int) + 1) = ((i + 1 : Nat) : Int) := wn (by omega) (by omega)
    have e3 : w64 ((b : Int) - 1) = ((b - 1 : Nat) : Int) := wn (by omega) (by omega)
    rw [Go.Sort.scanUp]
    by_cases c : i ≤ b - 1
    · by_cases q : ltI e[i]! e[a]! = true
      · cases m with
        | zero => omega
        | succ m =>
        rw [if_pos (by simp [c, q])]
        refine (pt_up he hab hb hp hd m (i + 1) (by omega) (by omega) (by omega)).step fun k hk => ?_
        rw [Q60.l4, e3, if_pos (decide_eq_true (by omega)), gta, gta, Int.toNat_natCast, Int.toNat_natCast, swpL, ← he, if_pos (by simp; omega), if_pos (by simp; omega), gta, gta, less32, Option.bind_some, if_pos q, e2]
        exact hk
      · rw [if_neg (by simp [q])]
        refine (pt_down he h1 (by omega) hp hd hi (b - 1) (by omega)).step fun k hk => ?_
        rw [Q60.l4, e3, if_pos (decide_eq_true (by omega)), gta, gta, Int.toNat_natCast, Int.toNat_natCast, swpL, ← he, if_pos (by simp; omega), if_pos (by simp; omega), gta, gta, less32, Option.bind_some, if_neg q]
        exact hk
    · rw [if_neg (by simp [c])]
      refine (pt_down he h1 (by omega) hp hd hi (b - 1) (by omega)).step fun k hk => ?_
      rw [Q60.l4, e3, if_neg (by simp only [decide_eq_true_eq]; omega)]
      exact hk
theorem partP {a b p : Nat} {d : Array Int} (hab : a < b) (hp : p < d.size) (hb : b ≤ d.size) (hd : d.size ≤ 1000000) : Ev (fun k => Q60.f k d.toList (a : Int) (b : Int) (p : Int)) (outT (Go.Sort.partition ltI d a b p)) := by
  have e : Go.Sort.partition ltI d a b p = restT a (Go.Sort.scanUp (fun x => ltI x (Go.Sort.swp d a p)[a]!) (Go.Sort.swp d a p) (b - 1) (a + 1)) (Go.Sort.scanDown (fun x => !ltI x (Go.Sort.swp d a p)[a]!) (Go.Sort.swp d a p) (Go.Sort.scanUp (fun x => ltI x (Go.Sort.swp d a p)[a]!) (Go.Sort.swp d a p) (b - 1) (a + 1)) (b - 1)) (Go.Sort.swp d a p) := rfl
  rw [e]
  refine (pt_up (e := Go.Sort.swp d a p) rfl hab hb hp hd _ (a + 1) (Nat.le_refl _) (by omega) (by omega)).next fun k hk => ?_
  unfold Q60.f
  rw [if_pos (by simp; omega), if_pos (by simp; omega), wn (n := a + 1) (by omega) (by omega)]
  exact hk
theorem wrapN (n : Nat) : IntKind.u64.wrap (n : Int) = ((n % 18446744073709551616 : Nat) : Int) := by
  simp [IntKind.wrap, IntKind.bits, IntKind.signed]
theorem bvx {x y : Nat} (hx : x < 18446744073709551616) (hy : y < 18446744073709551616) : ((BitVec.ofInt IntKind.u64.bits (x : Int) ^^^ BitVec.ofInt IntKind.u64.bits (y : Int)).toNat) = x ^^^ y := by
  show (BitVec.ofInt 64 (x : Int) ^^^ BitVec.ofInt 64 (y : Int)).toNat = x ^^^ y
  rw [BitVec.toNat_xor, BitVec.ofInt_natCast, BitVec.ofInt_natCast, BitVec.toNat_ofNat, BitVec.toNat_ofNat, Nat.mod_eq_of_lt hx, Nat.mod_eq_of_lt hy]
theorem xstep {x : Nat} (r s : UInt64) (hx : x = s.toNat) : IntKind.u64.wrap (((BitVec.ofInt IntKind.u64.bits (r.toNat : Int) ^^^ BitVec.ofInt IntKind.u64.bits (x : Int)).toNat : Int)) = ((r ^^^ s).toNat : Int) := by
  have h1 : r.toNat < 18446744073709551616 := r.toNat_lt
  have h2 : s.toNat < 18446744073709551616 := s.toNat_lt
  have h3 : (r ^^^ s).toNat < 18446744073709551616 := (r ^^^ s).toNat_lt
  rw [hx, bvx h1 h2, wrapN, UInt64.toNat_xor] at *
  rw [Nat.mod_eq_of_lt h3]
theorem shlN (r : UInt64) (n : Nat) (hn : n < 64) : IntKind.u64.wrap ((r.toNat : Int) * 2 ^ n) = (((r <<< (UInt64.ofNat n)).toNat : Nat) : Int) := by
  rw [show (r.toNat : Int) * 2 ^ n = ((r.toNat * 2 ^ n : Nat) : Int) by simp, wrapN, UInt64.toNat_shiftLeft, Nat.shiftLeft_eq]
  have : (UInt64.ofNat n).toNat % 64 = n := by simp; omega
  rw [this]
theorem shrN (r : UInt64) (n : Nat) (hn : n < 64) : Int.fdiv (r.toNat : Int) (2 ^ n) = (((r >>> (UInt64.ofNat n)).toNat : Nat) : Int) := by
  rw [UInt64.toNat_shiftRight, Nat.shiftRight_eq_div_pow]
  have : (UInt64.ofNat n).toNat % 64 = n := by simp; omega
  rw [this, Int.fdiv_eq_ediv_of_nonneg _ (by exact_mod_cast Nat.zero_le _)]
  simp
theorem nextX (r : UInt64) : Q64.f (r.toNat : Int) = some (((Go.Sort.xorNext r).toNat : Int), ((Go.Sort.xorNext r).toNat : Int)) := by
  have xe : Go.Sort.xorNext r = (fun r1 : UInt64 => (fun r2 : UInt64 => r2 ^^^ (r2 <<< 17)) (r1 ^^^ (r1 >>> 7))) (r ^^^ (r <<< 13)) := rfl
  unfold Q64.f
  rw [xe]
  dsimp only
  have e1 : IntKind.u64.wrap ((r.toNat : Int) * 2 ^ 13) = (((r <<< 13).toNat : Nat) : Int) := shlN r 13 (by decide)
  rw [e1, xstep r (r <<< 13) rfl]
  generalize r ^^^ (r <<< 13) = r1
  have e2 : Int.fdiv (r1.toNat : Int) (2 ^ 7) = (((r1 >>> 7).toNat : Nat) : Int) := shrN r1 7 (by decide)
  rw [e2, xstep r1 (r1 >>> 7) rfl]
  generalize r1 ^^^ (r1 >>> 7) = r2
  have e3 : IntKind.u64.wrap ((r2.toNat : Int) * 2 ^ 17) = (((r2 <<< 17).toNat : Nat) : Int) := shlN r2 17 (by decide)
  rw [e3, xstep r2 (r2 <<< 17) rfl]
theorem len64 : ∀ n : Fin 200, Q1.f ((n : Nat) : Int) = some ((Go.Sort.bitsLen n : Nat) : Int) := by decide +kernel
theorem pow200 : ∀ n : Fin 200, Q56.f ((n : Nat) : Int) = some ((1 <<< Go.Sort.bitsLen n : Nat) : Int) := by decide +kernel
theorem andN {r : UInt64} {M : Nat} (h1 : 1 ≤ M) (h2 : M ≤ 1000) : w64 (IntKind.u64.wrap (((BitVec.ofInt IntKind.u64.bits (r.toNat : Int) &&& (BitVec.ofInt IntKind.u64.bits (IntKind.u64.wrap ((M : Int) - 1)))).toNat : Int))) = ((r.toNat &&& (M - 1) : Nat) : Int) := by
  have hr : r.toNat < 18446744073709551616 := r.toNat_lt
  have e1 : (M : Int) - 1 = ((M - 1 : Nat) : Int) := by omega
  have hle : r.toNat &&& (M - 1) ≤ M - 1 := Nat.and_le_right
  have e2 : (BitVec.ofInt IntKind.u64.bits (r.toNat : Int) &&& BitVec.ofInt IntKind.u64.bits ((M - 1 : Nat) : Int)).toNat = r.toNat &&& (M - 1) := by
    show (BitVec.ofInt 64 (r.toNat : Int) &&& BitVec.ofInt 64 ((M - 1 : Nat) : Int)).toNat = r.toNat &&& (M - 1)
    rw [BitVec.toNat_and, BitVec.ofInt_natCast, BitVec.ofInt_natCast, BitVec.toNat_ofNat, BitVec.toNat_ofNat, Nat.mod_eq_of_lt hr, Nat.mod_eq_of_lt (by omega)]
  rw [e1, show IntKind.u64.wrap ((M - 1 : Nat) : Int) = ((M - 1 : Nat) : Int) by rw [wrapN, Nat.mod_eq_of_lt (by omega)], e2, wrapN, Nat.mod_eq_of_lt (by omega), w64_id (by omega) (by omega)]
theorem brk_step {a b M i : Nat} {d : Array Int} {r : UInt64} {R : List Int} (h8 : 8 ≤ b - a) (hb : b ≤ d.size) (hd : d.size < 200) (ha : a ≤ i) (hi : i ≤ a + (b - a) / 4 * 2 + 1) (hM : M = 1 <<< Go.Sort.bitsLen (b - a))
    (h : Ev (fun k => Q50.l0 k (a : Int) (b : Int) (M : Int) (Go.Sort.breakStep a (b - a) M (r, d) i).2.toList ((Go.Sort.breakStep a (b - a) M (r, d) i).1.toNat : Int) ((i + 1 : Nat) : Int)) R) :
    Ev (fun k => Q50.l0 k (a : Int) (b : Int) (M : Int) d.toList (r.toNat : Int) (i : Int)) R := by
  have e1 : w64 ((b : Int) - (a : Int)) = ((b - a : Nat) : Int) := wn (by omega) (by omega)
  have e2 : w64 (Int.tdiv ((b - a : Nat) : Int) 4) = (((b - a) / 4 : Nat) : Int) := by
    rw [show Int.tdiv ((b - a : Nat) : Int) 4 = (((b - a) / 4 : Nat) : Int) from rfl, w64_id (by omega) (by omega)]
  have e3 : w64 ((((b - a) / 4 : Nat) : Int) * 2) = (((b - a) / 4 * 2 : Nat) : Int) := wn (by omega) (by omega)
  have e4 : w64 ((a : Int) + (((b - a) / 4 * 2 : Nat) : Int)) = ((a + (b - a) / 4 * 2 : Nat) : Int) := wn (by omega) (by omega)
  have e5 : w64 (((a + (b - a) / 4 * 2 : Nat) : Int) + 1) = ((a + (b - a) / 4 * 2 + 1 : Nat) : Int) := wn (by omega) (by omega)
  have e6 : w64 ((i : Int) + 1) = ((i + 1 : Nat) : Int) := wn (by omega) (by omega)
  have hp := Go.Sort.two_pow_bitsLen_le (n := b - a) (by omega)
  have hq : 1 ≤ 2 ^ Go.Sort.bitsLen (b - a) := Nat.two_pow_pos _
  rw [Nat.one_shiftLeft] at hM
  rw [← hM] at hp hq
  have eb : Go.Sort.breakStep a (b - a) M (r, d) i = (Go.Sort.xorNext r, Go.Sort.swp d i (a + if (Go.Sort.xorNext r).toNat &&& (M - 1) ≥ b - a then ((Go.Sort.xorNext r).toNat &&& (M - 1)) - (b - a) else (Go.Sort.xorNext r).toNat &&& (M - 1))) := rfl
  rw [eb] at h
  have hle : (Go.Sort.xorNext r).toNat &&& (M - 1) ≤ M - 1 := Nat.and_le_right
  have hand := andN (r := Go.Sort.xorNext r) (M := M) hq (by omega)
  refine h.step fun k hk => ?_
  rw [Q50.l0, e1, e2, e3, e4, e5, if_pos (decide_eq_true (by omega)), nextX, Option.bind_some]
  dsimp only
  rw [hand]
  generalize (Go.Sort.xorNext r).toNat &&& (M - 1) = o at *
  by_cases c : o ≥ b - a
  · have e7 : w64 ((o : Int) - ((b - a : Nat) : Int)) = ((o - (b - a) : Nat) : Int) := wn (by omega) (by omega)
    have e8 : w64 ((a : Int) + ((o - (b - a) : Nat) : Int)) = ((a + (o - (b - a)) : Nat) : Int) := wn (by omega) (by omega)
    rw [if_pos c] at hk
    rw [if_pos (decide_eq_true (by omega)), e7, e8, if_pos (by simp; omega), if_pos (by simp; omega), gta, gta, Int.toNat_natCast, Int.toNat_natCast, swpL, e6]
    exact hk
  · have e8 : w64 ((a : Int) + (o : Int)) = ((a + o : Nat) : Int) := wn (by omega) (by omega)
    rw [if_neg c] at hk
    rw [if_neg (by simp only [decide_eq_true_eq]; omega), e8, if_pos (by simp; omega), if_pos (by simp; omega), gta, gta, Int.toNat_natCast, Int.toNat_natCast, swpL, e6]
    exact hk
theorem breakStep_size (a L M i : Nat) (st : UInt64 × Array Int) : (Go.Sort.breakStep a L M st i).2.size = st.2.size := by
  unfold Go.Sort.breakStep
  exact swp_size _ _ _
theorem breakP {a b : Nat} {d : Array Int} (hab : a ≤ b) (hb : b ≤ d.size) (hd : d.size < 200) : Ev (fun k => Q50.f k d.toList (a : Int) (b : Int)) (Go.Sort.breakPatterns d a b).toList := by
  have e1 : w64 ((b : Int) - (a : Int)) = ((b - a : Nat) : Int) := wn (by omega) (by omega)
  by_cases h8 : b - a ≥ 8
  · have e2 : w64 (Int.tdiv ((b - a : Nat) : Int) 4) = (((b - a) / 4 : Nat) : Int) := by
      rw [show Int.tdiv ((b - a : Nat) : Int) 4 = (((b - a) / 4 : Nat) : Int) from rfl, w64_id (by omega) (by omega)]
    have e3 : w64 ((((b - a) / 4 : Nat) : Int) * 2) = (((b - a) / 4 * 2 : Nat) : Int) := wn (by omega) (by omega)
    have e4 : w64 ((a : Int) + (((b - a) / 4 * 2 : Nat) : Int)) = ((a + (b - a) / 4 * 2 : Nat) : Int) := wn (by omega) (by omega)
    have e5 : w64 (((a + (b - a) / 4 * 2 : Nat) : Int) - 1) = ((a + (b - a) / 4 * 2 - 1 : Nat) : Int) := wn (by omega) (by omega)
    have e6 : w64 (((a + (b - a) / 4 * 2 : Nat) : Int) + 1) = ((a + (b - a) / 4 * 2 + 1 : Nat) : Int) := wn (by omega) (by omega)
    have hx : IntKind.u64.wrap ((b - a : Nat) : Int) = ((UInt64.ofNat (b - a)).toNat : Int) := by
      rw [wrapN]
      have : (UInt64.ofNat (b - a)).toNat = (b - a) % 18446744073709551616 := by simp
      rw [this]
    have fin : ∀ (d' : Array Int) (x : Int), Ev (fun k => Q50.l0 k (a : Int) (b : Int) ((1 <<< Go.Sort.bitsLen (b - a) : Nat) : Int) d'.toList x ((a + (b - a) / 4 * 2 - 1 + 1 + 1 + 1 : Nat) : Int)) d'.toList := fun d' x => Ev.last fun k => by
      rw [Q50.l0, e1, e2, e3, e4, e6, if_neg (by simp only [decide_eq_true_eq]; omega)]
    have main : Ev (fun k => Q50.l0 k (a : Int) (b : Int) ((1 <<< Go.Sort.bitsLen (b - a) : Nat) : Int) d.toList ((UInt64.ofNat (b - a)).toNat : Int) ((a + (b - a) / 4 * 2 - 1 : Nat) : Int)) (Go.Sort.breakPatterns d a b).toList := by
      unfold Go.Sort.breakPatterns
      rw [if_pos h8]
      refine brk_step h8 hb hd (by omega) (by omega) rfl (brk_step h8 ?_ ?_ (by omega) (by omega) rfl (brk_step h8 ?_ ?_ (by omega) (by omega) rfl (fin _ _)))
      all_goals simp only [breakStep_size]
      all_goals first | exact hb | exact hd
    refine main.next fun k hk => ?_
    unfold Q50.f
    rw [e1, if_pos (decide_eq_true (by omega)), pow200 ⟨b - a, by omega⟩, Option.bind_some, hx, e2, e3, e4, e5]
    exact hk
  · refine Ev.all fun k => ?_
    unfold Q50.f Go.Sort.breakPatterns
    rw [e1, if_neg (by simp only [decide_eq_true_eq]; omega), if_neg h8]
def rePt (k : Nat) (a b lim m : Int) (ap : Bool) (d : List Int) : Option (List Int) := if (decide ((w64 (m - a)) < (w64 (b - m)))) = true then ((Q61.f k d a m lim).bind fun r10 => (Q61.l0 k r10 (w64 (m + 1)) b lim (decide ((w64 (Int.tdiv (w64 (b - a)) 8)) ≤ (w64 (m - a)))) ap)) else ((Q61.f k d (w64 (m + 1)) b lim).bind fun r11 => (Q61.l0 k r11 a m lim (decide ((w64 (Int.tdiv (w64 (b - a)) 8)) ≤ (w64 (b - m)))) ap))
def ptP (k : Nat) (d : List Int) (a b p lim : Int) : Option (List Int) := (Q60.f k d a b p).bind fun r => rePt k a b lim r.1 r.2.1 r.2.2
def tlP (k : Nat) (d : List Int) (a b p lim : Int) (wb wp : Bool) : Option (List Int) := if (decide (0 < a)) = true then (if 0 ≤ (w64 (a - 1)) ∧ (w64 (a - 1)) < (d.length : Int) then (if 0 ≤ p ∧ p < (d.length : Int) then ((Q4.f (gt d (w64 (a - 1))) (gt d p)).bind fun r7 => (if (!r7) = true then ((Q59.f k d a b p).bind fun r8 => (Q61.l0 k r8.2 r8.1 b lim wb wp)) else ptP k d a b p lim)) else none) else none) else ptP k d a b p lim
def inP (k : Nat) (d : List Int) (a b p lim : Int) (wb wp : Bool) : Option (List Int) := (Q58.f k d a b).bind fun r6 => (if r6.1 = true then (some r6.2) else tlP k r6.2 a b p lim wb wp)
def mdP (k : Nat) (d : List Int) (a b lim : Int) (wb wp : Bool) : Option (List Int) := (Q51.f d a b).bind fun r4 => (if (decide (r4.2 = 2)) = true then ((Q62.f k d a b).bind fun r5 => (if wb = true then (if wp = true then inP k r5 a b (w64 ((w64 (b - 1)) - (w64 (r4.1 - a)))) lim wb wp else tlP k r5 a b (w64 ((w64 (b - 1)) - (w64 (r4.1 - a)))) lim wb wp) else tlP k r5 a b (w64 ((w64 (b - 1)) - (w64 (r4.1 - a)))) lim wb wp))
  else (if wb = true then (if wp = true then (if (decide (r4.2 = 1)) = true then inP k d a b r4.1 lim wb wp else tlP k d a b r4.1 lim wb wp) else tlP k d a b r4.1 lim wb wp) else tlP k d a b r4.1 lim wb wp))
theorem pdq_l0 (k : Nat) (x1 : List Int) (x2 x3 x4 : Int) (x5 x6 : Bool) : Q61.l0 (k + 1) x1 x2 x3 x4 x5 x6 = if (decide ((w64 (x3 - x2)) ≤ 12)) = true then ((Q53.f k x1 x2 x3).bind fun r1 => (some r1)) else (if (decide (x4 = 0)) = true then ((Q52.f k x1 x2 x3).bind fun r2 => (some r2)) else (if (!x5) = true then ((Q50.f k x1 x2 x3).bind fun r3 => mdP k r3 x2 x3 (w64 (x4 - 1)) x5 x6) else mdP k x1 x2 x3 x4 x5 x6)) := by
  rw [Q61.l0]
  rfl
section
variable {a b p lim : Nat} {d : Array Int} {wb wp : Bool} {r : List Int}
theorem tlP_eq (h1 : 1 ≤ a) (hab : a < b) (hp : p < d.size) (hb : b ≤ d.size) (hd : d.size < 200) (hq : ltI d[a - 1]! d[p]! = false)
    (h : Ev (fun k => Q61.l0 k (Go.Sort.partitionEqual ltI d a b p).2.toList ((Go.Sort.partitionEqual ltI d a b p).1 : Int) (b : Int) (lim : Int) wb wp) r) :
    Ev (fun k => tlP k d.toList (a : Int) (b : Int) (p : Int) (lim : Int) wb wp) r := by
  refine (partEqP hab hp hb (by omega)).next2 h fun k h1' h2 => ?_
  unfold tlP
  rw [if_pos (decide_eq_true (by omega)), wn (x := (a : Int) - 1) (n := a - 1) (by omega) (by omega), if_pos (by simp; omega), if_pos (by simp; omega), gta, gta, less32, Option.bind_some, if_pos (by simp [hq]), h1', Option.bind_some]
  exact h2
theorem tlP_pt (hab : a < b) (hp : p < d.size) (hb : b ≤ d.size) (hd : d.size < 200) (hq : (decide (a > 0) && !ltI d[a - 1]! d[p]!) = false)
    (h : Ev (fun k => rePt k (a : Int) (b : Int) (lim : Int) ((Go.Sort.partition ltI d a b p).1 : Int) (Go.Sort.partition ltI d a b p).2.1 (Go.Sort.partition ltI d a b p).2.2.toList) r) :
    Ev (fun k => tlP k d.toList (a : Int) (b : Int) (p : Int) (lim : Int) wb wp) r := by
  refine (partP hab hp hb (by omega)).next2 h fun k h1' h2 => ?_
  have hk : ptP k d.toList (a : Int) (b : Int) (p : Int) (lim : Int) = some r := by
    unfold ptP
    rw [h1', Option.bind_some]
    exact h2
  unfold tlP
  by_cases c : 0 < a
  · have hq' : ltI d[a - 1]! d[p]! = true := by simpa [c] using hq
    rw [if_pos (decide_eq_true (by omega)), wn (x := (a : Int) - 1) (n := a - 1) (by omega) (by omega), if_pos (by simp; omega), if_pos (by simp; omega), gta, gta, less32, Option.bind_some, if_neg (by simp [hq'])]
    exact hk
  · rw [if_neg (by simp only [decide_eq_true_eq]; omega)]
    exact hk
theorem inP_ok (hab : a < b) (hb : b ≤ d.size) (hd : d.size < 200) (h1 : (Go.Sort.partialInsertionSort ltI d a b).2 = true → (Go.Sort.partialInsertionSort ltI d a b).1.toList = r)
    (h2 : (Go.Sort.partialInsertionSort ltI d a b).2 = false → Ev (fun k => tlP k (Go.Sort.partialInsertionSort ltI d a b).1.toList (a : Int) (b : Int) (p : Int) (lim : Int) wb wp) r) : Ev (fun k => inP k d.toList (a : Int) (b : Int) (p : Int) (lim : Int) wb wp) r := by
  have h0 := partI hab hb (by omega)
  cases c : (Go.Sort.partialInsertionSort ltI d a b).2 with
  | true =>
    refine h0.next fun k hk => ?_
    unfold inP
    rw [hk, Option.bind_some, pairI, c, if_pos rfl, h1 c]
  | false =>
    refine h0.next2 (h2 c) fun k hk hk2 => ?_
    unfold inP
    rw [hk, Option.bind_some, pairI, c, if_neg (by simp)]
    exact hk2
end
def piP (k : Nat) (s : Go.Sort.Rd Int) (a b : Nat) (wb wp : Bool) : Option (List Int) := if s.pi.2 = true then some s.pi.1.toList else tlP k s.pi.1.toList (a : Int) (b : Int) (s.pivot : Int) (s.lim : Int) wb wp
theorem hint2 {h : Go.Sort.Hint} : decide (hintI h = 2) = decide (h = .decreasing) := by cases h <;> rfl
theorem hint1 {h : Go.Sort.Hint} : decide (hintI h = 1) = decide (h = .increasing) := by cases h <;> rfl
section
variable {a b limit : Nat} {d : Array Int} {wb wp : Bool} {r : List Int}
theorem inP_pi {s : Go.Sort.Rd Int} {e : Array Int} (hab : a < b) (hb : b ≤ e.size) (hd : e.size < 200) (he : s.pi = Go.Sort.partialInsertionSort ltI e a b) (h : Ev (fun k => piP k s a b wb wp) r) :
    Ev (fun k => inP k e.toList (a : Int) (b : Int) (s.pivot : Int) (s.lim : Int) wb wp) r := by
  refine inP_ok hab hb hd (fun c => ?_) fun c => ?_
  · obtain ⟨k, h⟩ := h.ok
    unfold piP at h
    rw [he, c, if_pos rfl] at h
    exact Option.some.inj h
  · refine h.next fun k hk => ?_
    unfold piP at hk
    rw [he, c, if_neg (by simp)] at hk
    exact hk
theorem tlP_pi {s : Go.Sort.Rd Int} {e : Array Int} (he : s.pi = (e, false)) (h : Ev (fun k => piP k s a b wb wp) r) :
    Ev (fun k => tlP k e.toList (a : Int) (b : Int) (s.pivot : Int) (s.lim : Int) wb wp) r := by
  refine h.next fun k hk => ?_
  unfold piP at hk
  rw [he, if_neg (by simp)] at hk
  exact hk
theorem mdP_ok {s : Go.Sort.Rd Int} (h12 : 12 < b - a) (hb : b ≤ s.d1.size) (hd : s.d1.size < 200) (ec : s.c = Go.Sort.choosePivot ltI s.d1 a b) (hc : a ≤ s.c.1 ∧ s.c.1 < b)
    (e2 : s.d2 = if s.c.2 = .decreasing then Go.Sort.reverseRange s.d1 a b else s.d1) (s2 : s.d2.size = s.d1.size) (ep : s.pivot = if s.c.2 = .decreasing then (b - 1) - (s.c.1 - a) else s.c.1) (eh : s.hint = if s.c.2 = .decreasing then Go.Sort.Hint.increasing else s.c.2)
    (ei : s.pi = if wb && wp && s.hint = .increasing then Go.Sort.partialInsertionSort ltI s.d2 a b else (s.d2, false)) (h : Ev (fun k => piP k s a b wb wp) r) :
    Ev (fun k => mdP k s.d1.toList (a : Int) (b : Int) (s.lim : Int) wb wp) r := by
  have hpv := pivotP (d := s.d1) (a := a) (b := b) (by omega) hb h12 (by omega)
  rw [← ec] at hpv
  by_cases c : s.c.2 = .decreasing
  · rw [if_pos c] at e2 ep eh
    have e3 : w64 ((b : Int) - 1) = ((b - 1 : Nat) : Int) := wn (by omega) (by omega)
    have e4 : w64 ((s.c.1 : Int) - (a : Int)) = ((s.c.1 - a : Nat) : Int) := wn (by omega) (by omega)
    have e5 : w64 (((b - 1 : Nat) : Int) - ((s.c.1 - a : Nat) : Int)) = (s.pivot : Int) := wn (by omega) (by omega)
    have hr := revR (a := a) (b := b) (d := s.d1) (by omega) (by omega) hb (by omega)
    rw [← e2] at hr
    have fin : Ev (fun k => if wb = true then (if wp = true then inP k s.d2.toList (a : Int) (b : Int) (s.pivot : Int) (s.lim : Int) wb wp else tlP k s.d2.toList (a : Int) (b : Int) (s.pivot : Int) (s.lim : Int) wb wp) else tlP k s.d2.toList (a : Int) (b : Int) (s.pivot : Int) (s.lim : Int) wb wp) r := by
      cases wb with
      | false => exact tlP_pi (by simpa [eh] using ei) h
      | true =>
        cases wp with
        | false => exact tlP_pi (by simpa [eh] using ei) h
        | true => exact inP_pi (by omega) (by omega) (by omega) (by simpa [eh] using ei) h
    refine hr.next2 fin fun k h1 h2 => ?_
    unfold mdP
    rw [hpv, Option.bind_some]
    dsimp only
    rw [hint2, if_pos (decide_eq_true c), h1, Option.bind_some, e3, e4, e5]
    exact h2
  · rw [if_neg c] at e2 ep eh
    have fin : Ev (fun k => if wb = true then (if wp = true then (if decide (s.c.2 = .increasing) = true then inP k s.d2.toList (a : Int) (b : Int) (s.pivot : Int) (s.lim : Int) wb wp else tlP k s.d2.toList (a : Int) (b : Int) (s.pivot : Int) (s.lim : Int) wb wp) else tlP k s.d2.toList (a : Int) (b : Int) (s.pivot : Int) (s.lim : Int) wb wp) else tlP k s.d2.toList (a : Int) (b : Int) (s.pivot : Int) (s.lim : Int) wb wp) r := by
      cases wb with
      | false => exact tlP_pi (by simpa [eh] using ei) h
      | true =>
        cases wp with
        | false => exact tlP_pi (by simpa [eh] using ei) h
        | true =>
          by_cases q : s.c.2 = .increasing
          · rw [decide_eq_true q]
            exact inP_pi (by omega) (by omega) (by omega) (by simpa [eh, q] using ei) h
          · rw [decide_eq_false q]
            exact tlP_pi (by simpa [eh, q] using ei) h
    refine fin.next fun k h2 => ?_
    unfold mdP
    rw [hpv, Option.bind_some]
    dsimp only
    rw [hint2, if_neg (by simpa using c), hint1]
    rw [e2, ep] at h2
    exact h2
theorem pdq_front (h12 : 12 < b - a) (hb : b ≤ d.size) (hd : d.size < 200) (hl : limit ≠ 0) (hlim : limit ≤ 100) (hB : Go.Sort.Below ltI a b d) (h : Ev (fun k => piP k (Go.Sort.rd ltI d a b limit wb wp) a b wb wp) r) :
    Ev (fun k => Q61.l0 k d.toList (a : Int) (b : Int) (limit : Int) wb wp) r := by
  obtain ⟨f1, f2, f3, f4, f5, f6, f7, f8⟩ := Go.Sort.rd_facts (lt := ltI) (wb := wb) (wp := wp) (limit := limit) Go.Sort.swo_ltInt Go.Sort.partialInsertionSort_holds Go.Sort.reverseRange_holds (by omega) hb hB
  have hm := mdP_ok (s := Go.Sort.rd ltI d a b limit wb wp) (wb := wb) (wp := wp) (r := r) h12 (by rw [f1]; exact hb) (by rw [f1]; exact hd) rfl f3 rfl (by rw [f4, f1]) rfl rfl rfl h
  have e1 : w64 ((b : Int) - (a : Int)) = ((b - a : Nat) : Int) := wn (by omega) (by omega)
  cases wb with
  | true =>
    refine hm.step fun k hk => ?_
    rw [pdq_l0, e1, if_neg (by simp only [decide_eq_true_eq]; omega), if_neg (by simp only [decide_eq_true_eq]; omega), if_neg (by simp)]
    exact hk
  | false =>
    refine (breakP (a := a) (b := b) (d := d) (by omega) hb hd).step2 hm fun k h1 hk => ?_
    rw [pdq_l0, e1, if_neg (by simp only [decide_eq_true_eq]; omega), if_neg (by simp only [decide_eq_true_eq]; omega), if_pos (by simp), h1, Option.bind_some, wn (x := (limit : Int) - 1) (n := limit - 1) (by omega) (by omega)]
    exact hk
end
theorem pdqL : ∀ (m : Nat) (d : Array Int) (a b limit : Nat) (wb wp : Bool), b - a ≤ m → a ≤ b → b ≤ d.size → d.size < 200 → limit ≤ 100 → Go.Sort.Below ltI a b d →
    Ev (fun k => Q61.l0 k d.toList (a : Int) (b : Int) (limit : Int) wb wp) (Go.Sort.pdq ltI d a b limit wb wp).toList := by
  intro m
  induction m using Nat.strongRecOn with
  | _ m ih =>
  intro d a b limit wb wp hm hab hb hd hlim hB
  have e1 : w64 ((b : Int) - (a : Int)) = ((b - a : Nat) : Int) := wn (by omega) (by omega)
  by_cases h12 : b - a ≤ 12
  · rw [Go.Sort.pdq_small h12]
    refine (insSort (a := a) (b := b) (d := d) hb (by omega) (by omega)).step fun k hk => ?_
    rw [pdq_l0, e1, if_pos (decide_eq_true (by omega)), hk, Option.bind_some]
  by_cases h0 : limit = 0
  · rw [Go.Sort.pdq_heap h12 h0]
    refine (heapS (a := a) (b := b) (d := d) hab hb (by omega)).step fun k hk => ?_
    rw [pdq_l0, e1, if_neg (by simp only [decide_eq_true_eq]; omega), if_pos (decide_eq_true (by omega)), hk, Option.bind_some]
  refine pdq_front (by omega) hb hd h0 hlim hB ?_
  obtain ⟨f1, f2, f3, f4, f5, f6, f7, f8⟩ := Go.Sort.rd_facts (lt := ltI) (wb := wb) (wp := wp) (limit := limit) Go.Sort.swo_ltInt Go.Sort.partialInsertionSort_holds Go.Sort.reverseRange_holds (by omega) hb hB
  have hlm : (Go.Sort.rd ltI d a b limit wb wp).lim ≤ limit := Go.Sort.rd_lim_le
  cases hpi : (Go.Sort.rd ltI d a b limit wb wp).pi.2 with
  | true =>
    rw [Go.Sort.pdq_done h12 h0 hpi]
    exact Ev.all fun k => by unfold piP; rw [if_pos hpi]
  | false =>
  have red : ∀ {r : List Int}, Ev (fun k => tlP k (Go.Sort.rd ltI d a b limit wb wp).pi.1.toList (a : Int) (b : Int) ((Go.Sort.rd ltI d a b limit wb wp).pivot : Int) ((Go.Sort.rd ltI d a b limit wb wp).lim : Int) wb wp) r → Ev (fun k => piP k (Go.Sort.rd ltI d a b limit wb wp) a b wb wp) r := fun h => h.next fun k hk => by
    unfold piP
    rw [hpi, if_neg (by simp)]
    exact hk
  have hsz : b ≤ (Go.Sort.rd ltI d a b limit wb wp).pi.1.size := by rw [f7]; exact hb
  cases hq : (decide (a > 0) && !ltI (Go.Sort.rd ltI d a b limit wb wp).pi.1[a - 1]! (Go.Sort.rd ltI d a b limit wb wp).pi.1[(Go.Sort.rd ltI d a b limit wb wp).pivot]!) with
  | true =>
    have hq' := hq
    simp only [Bool.and_eq_true, decide_eq_true_eq, Bool.not_eq_true'] at hq'
    obtain ⟨g1, g2, g3, g4, g5⟩ := Go.Sort.round_eq (lt := ltI) Go.Sort.swo_ltInt (Go.Sort.partitionEqual_holds ltI) hq'.1 f6.1 f6.2 hsz f8 hq'.2 (mid := (Go.Sort.partitionEqual ltI (Go.Sort.rd ltI d a b limit wb wp).pi.1 a b (Go.Sort.rd ltI d a b limit wb wp).pivot).1) (d4 := (Go.Sort.partitionEqual ltI (Go.Sort.rd ltI d a b limit wb wp).pi.1 a b (Go.Sort.rd ltI d a b limit wb wp).pivot).2) rfl
    rw [Go.Sort.pdq_eq h12 h0 hpi hq ⟨g1, g2⟩]
    refine red (tlP_eq (by omega) (by omega) (by omega) hsz (by omega) hq'.2 ?_)
    exact ih (b - (Go.Sort.partitionEqual ltI (Go.Sort.rd ltI d a b limit wb wp).pi.1 a b (Go.Sort.rd ltI d a b limit wb wp).pivot).1) (by omega) _ _ _ _ _ _ (Nat.le_refl _) g2 (by rw [g3]; exact hsz) (by omega) (by omega) g4
  | false =>
    obtain ⟨g1, g2, g3, g4, g5, g6, g7⟩ := Go.Sort.round_part (lt := ltI) Go.Sort.swo_ltInt (Go.Sort.partition_holds ltI) f6.1 f6.2 hsz f8 (mid := (Go.Sort.partition ltI (Go.Sort.rd ltI d a b limit wb wp).pi.1 a b (Go.Sort.rd ltI d a b limit wb wp).pivot).1) (ap := (Go.Sort.partition ltI (Go.Sort.rd ltI d a b limit wb wp).pi.1 a b (Go.Sort.rd ltI d a b limit wb wp).pivot).2.1) (d4 := (Go.Sort.partition ltI (Go.Sort.rd ltI d a b limit wb wp).pi.1 a b (Go.Sort.rd ltI d a b limit wb wp).pivot).2.2) rfl
    refine red (tlP_pt (by omega) (by omega) hsz (by omega) hq ?_)
    have e2 : ∀ x : Nat, x = b - a → w64 (Int.tdiv (x : Int) 8) = (((b - a) / 8 : Nat) : Int) := fun x hx => by
      rw [hx, show Int.tdiv ((b - a : Nat) : Int) 8 = (((b - a) / 8 : Nat) : Int) from rfl, w64_id (by omega) (by omega)]
    by_cases hlt : (Go.Sort.partition ltI (Go.Sort.rd ltI d a b limit wb wp).pi.1 a b (Go.Sort.rd ltI d a b limit wb wp).pivot).1 - a < b - (Go.Sort.partition ltI (Go.Sort.rd ltI d a b limit wb wp).pi.1 a b (Go.Sort.rd ltI d a b limit wb wp).pivot).1
    · rw [Go.Sort.pdq_left h12 h0 hpi hq ⟨g1, g2⟩ hlt]
      generalize Go.Sort.partition ltI (Go.Sort.rd ltI d a b limit wb wp).pi.1 a b (Go.Sort.rd ltI d a b limit wb wp).pivot = pt at *
      have e3 : w64 ((pt.1 : Int) - (a : Int)) = ((pt.1 - a : Nat) : Int) := wn (by omega) (by omega)
      have e4 : w64 ((b : Int) - (pt.1 : Int)) = ((b - pt.1 : Nat) : Int) := wn (by omega) (by omega)
      have e5 : w64 ((pt.1 : Int) + 1) = ((pt.1 + 1 : Nat) : Int) := wn (by omega) (by omega)
      have hs := Go.Sort.pdq_sorts ltI Go.Sort.swo_ltInt pt.2.2 a pt.1 (Go.Sort.rd ltI d a b limit wb wp).lim true true g1 (by omega) g4
      have c1 := (ih (pt.1 - a) (by omega) pt.2.2 a pt.1 (Go.Sort.rd ltI d a b limit wb wp).lim true true (Nat.le_refl _) g1 (by omega) (by omega) (by omega) g4).step (F := fun k => Q61.f k pt.2.2.toList (a : Int) (pt.1 : Int) ((Go.Sort.rd ltI d a b limit wb wp).lim : Int)) fun k hk => by rw [Q61.f]; exact hk
      have c2 := ih (b - (pt.1 + 1)) (by omega) (Go.Sort.pdq ltI pt.2.2 a pt.1 (Go.Sort.rd ltI d a b limit wb wp).lim true true) (pt.1 + 1) b (Go.Sort.rd ltI d a b limit wb wp).lim (decide (pt.1 - a ≥ (b - a) / 8)) pt.2.1 (Nat.le_refl _) (by omega) (by rw [hs.1.1]; omega) (by rw [hs.1.1]; omega) (by omega) (g6 _ hs.1 hs.2).1
      refine c1.next2 c2 fun k k1 k2 => ?_
      unfold rePt
      rw [e3, e4, e5, e1, e2 _ rfl, if_pos (decide_eq_true (by omega)), k1, Option.bind_some, show decide ((((b - a) / 8 : Nat) : Int) ≤ ((pt.1 - a : Nat) : Int)) = decide (pt.1 - a ≥ (b - a) / 8) by congr 1; exact propext (by omega)]
      exact k2
    · rw [Go.Sort.pdq_right h12 h0 hpi hq ⟨g1, g2⟩ hlt]
      generalize Go.Sort.partition ltI (Go.Sort.rd ltI d a b limit wb wp).pi.1 a b (Go.Sort.rd ltI d a b limit wb wp).pivot = pt at *
      have e3 : w64 ((pt.1 : Int) - (a : Int)) = ((pt.1 - a : Nat) : Int) := wn (by omega) (by omega)
      have e4 : w64 ((b : Int) - (pt.1 : Int)) = ((b - pt.1 : Nat) : Int) := wn (by omega) (by omega)
      have e5 : w64 ((pt.1 : Int) + 1) = ((pt.1 + 1 : Nat) : Int) := wn (by omega) (by omega)
      have hs := Go.Sort.pdq_sorts ltI Go.Sort.swo_ltInt pt.2.2 (pt.1 + 1) b (Go.Sort.rd ltI d a b limit wb wp).lim true true (by omega) (by omega) g5
      have c1 := (ih (b - (pt.1 + 1)) (by omega) pt.2.2 (pt.1 + 1) b (Go.Sort.rd ltI d a b limit wb wp).lim true true (Nat.le_refl _) (by omega) (by omega) (by omega) (by omega) g5).step (F := fun k => Q61.f k pt.2.2.toList ((pt.1 + 1 : Nat) : Int) (b : Int) ((Go.Sort.rd ltI d a b limit wb wp).lim : Int)) fun k hk => by rw [Q61.f]; exact hk
      have c2 := ih (pt.1 - a) (by omega) (Go.Sort.pdq ltI pt.2.2 (pt.1 + 1) b (Go.Sort.rd ltI d a b limit wb wp).lim true true) a pt.1 (Go.Sort.rd ltI d a b limit wb wp).lim (decide (b - pt.1 ≥ (b - a) / 8)) pt.2.1 (Nat.le_refl _) (by omega) (by rw [hs.1.1]; omega) (by rw [hs.1.1]; omega) (by omega) (g7 _ hs.1 hs.2).1
      refine c1.next2 c2 fun k k1 k2 => ?_
      unfold rePt
      rw [e3, e4, e5, e1, e2 _ rfl, if_neg (by simp only [decide_eq_true_eq]; omega), k1, Option.bind_some, show decide ((((b - a) / 8 : Nat) : Int) ≤ ((b - pt.1 : Nat) : Int)) = decide (b - pt.1 ≥ (b - a) / 8) by congr 1; exact propext (by omega)]
      exact k2
theorem bits200 {n : Nat} (h : n < 200) : Q0.f (IntKind.u64.wrap (n : Int)) = some ((Go.Sort.bitsLen n : Nat) : Int) := by
  unfold Q0.f
  rw [wrapN, Nat.mod_eq_of_lt (by omega), len64 ⟨n, h⟩, Option.bind_some]
theorem sortP {l : List Int} (h : l.length < 200) : Ev (fun k => Q49.f k l) (l.mergeSort fun x y => decide (x ≤ y)) := by
  have e := Go.Sort.sortInt l
  have hb : Go.Sort.bitsLen l.length ≤ 100 := (Go.Sort.bitsLen_le_iff _ _).2 (Nat.lt_of_lt_of_le h (by decide))
  have hp := pdqL l.length l.toArray 0 l.toArray.size (Go.Sort.bitsLen l.toArray.size) true true (by simp) (Nat.zero_le _) (Nat.le_refl _) (by simpa using h) (by simpa using hb) (Or.inl rfl)
  have e2 : (Go.Sort.pdq ltI l.toArray 0 l.toArray.size (Go.Sort.bitsLen l.toArray.size) true true).toList = l.mergeSort fun x y => decide (x ≤ y) := e
  rw [e2] at hp
  have hf : Ev (fun k => Q61.f k l 0 (l.length : Int) ((Go.Sort.bitsLen l.length : Nat) : Int)) (l.mergeSort fun x y => decide (x ≤ y)) := hp.step fun k hk => by
    rw [Q61.f]
    simpa using hk
  refine hf.next fun k hk => ?_
  unfold Q49.f
  rw [bits200 h, Option.bind_some, hk, Option.bind_some]
theorem patch_len {α : Type} {xs ys : List α} {l m : Nat} (h : l + m ≤ xs.length) : (patch xs l m ys).length = xs.length := by
  unfold patch
  simp only [List.length_append, List.length_take, List.length_drop]
  omega
theorem comp_l1 {n i : Nat} (hn : n ≤ 1000) (hi : 1 ≤ i) : ∀ (m t j : Nat) (x : List Int), x.length = n → i + t + m = n → 1 ≤ t → i ≤ j → j + 1 ≤ i + t → ∃ r, Ev (fun k => Q37.l1 k (i : Int) x (j : Int) (t : Int)) r ∧ r.length < n
  | 0, t, j, x, hx, h, ht, hj, hjt => by
    have hd : (x.drop j).length = n - j := by rw [List.length_drop, hx]
    have hp : (patch x j (x.drop j).length (List.replicate (x.drop j).length (0 : Int))).length = n := by rw [patch_len (by omega), hx]
    refine ⟨(patch x j (x.drop j).length (List.replicate (x.drop j).length (0 : Int))).take j, Ev.last fun k => ?_, by rw [List.length_take]; omega⟩
    rw [Q37.l1, if_neg (by simp only [Int.toNat_natCast, List.length_drop, decide_eq_true_eq]; omega), if_pos (by omega), Int.toNat_natCast, if_pos (by omega)]
  | m + 1, t, j, x, hx, h, ht, hj, hjt => by
    have e1 : w64 ((t : Int) - 1) = ((t - 1 : Nat) : Int) := wn (by omega) (by omega)
    have e2 : w64 ((t : Int) + 1) = ((t + 1 : Nat) : Int) := wn (by omega) (by omega)
    have e3 : w64 ((j : Int) + 1) = ((j + 1 : Nat) : Int) := wn (by omega) (by omega)
    have hd : (x.drop i).length = n - i := by rw [List.length_drop, hx]
    by_cases q : gt (x.drop i) (t : Int) = gt (x.drop i) ((t - 1 : Nat) : Int)
    · obtain ⟨r, h1, h2⟩ := comp_l1 hn hi m (t + 1) j x hx (by omega) (by omega) hj (by omega)
      refine ⟨r, h1.step fun k hk => ?_, h2⟩
      rw [Q37.l1, Int.toNat_natCast, if_pos (decide_eq_true (by omega)), if_pos (by omega), e1, if_pos (by omega), if_neg (by simp [q]), e2]
      exact hk
    · obtain ⟨r, h1, h2⟩ := comp_l1 hn hi m (t + 1) (j + 1) (x.set j (gt (x.drop i) (t : Int))) (by rw [List.length_set, hx]) (by omega) (by omega) (by omega) (by omega)
      refine ⟨r, h1.step fun k hk => ?_, h2⟩
      rw [Q37.l1, Int.toNat_natCast, if_pos (decide_eq_true (by omega)), if_pos (by omega), e1, if_pos (by omega), if_pos (by simp [q]), if_pos (by omega), Int.toNat_natCast, e2, e3]
      exact hk
def adjI (l : List Int) : Prop := ∀ q, q + 1 < l.length → l.getD (q + 1) 0 ≠ l.getD q 0
theorem comp_l0 {l : List Int} (hn : l.length ≤ 1000) : ∀ (m i : Nat), i + m = l.length → 1 ≤ i → (∀ q, q + 1 < i → l.getD (q + 1) 0 ≠ l.getD q 0) → ∃ r, Ev (fun k => Q37.l0 k l (i : Int)) r ∧ (r.length = l.length ↔ adjI l)
  | 0, i, h, hi, hq => by
    refine ⟨l, Ev.last fun k => ?_, fun _ q hq' => hq q (by omega), fun _ => rfl⟩
    rw [Q37.l0, if_neg (by simp only [decide_eq_true_eq]; omega)]
  | m + 1, i, h, hi, hq => by
    have e1 : w64 ((i : Int) - 1) = ((i - 1 : Nat) : Int) := wn (by omega) (by omega)
    have e2 : w64 ((i : Int) + 1) = ((i + 1 : Nat) : Int) := wn (by omega) (by omega)
    have g1 : gt l (i : Int) = l.getD i 0 := gt_nat l i
    have g2 : gt l ((i - 1 : Nat) : Int) = l.getD (i - 1) 0 := gt_nat l (i - 1)
    by_cases c : l.getD i 0 = l.getD (i - 1) 0
    · obtain ⟨r, h1, h2⟩ := comp_l1 hn hi (l.length - i - 1) 1 i l rfl (by omega) (Nat.le_refl _) (Nat.le_refl _) (Nat.le_refl _)
      refine ⟨r, h1.step fun k hk => ?_, fun e => by omega, fun e => absurd c (by have := e (i - 1) (by omega); rwa [Nat.sub_add_cancel hi] at this)⟩
      rw [Q37.l0, if_pos (decide_eq_true (by omega)), if_pos (by omega), e1, if_pos (by omega), g1, g2, if_pos (decide_eq_true c), if_pos (by omega)]
      exact hk
    · obtain ⟨r, h1, h2⟩ := comp_l0 hn m (i + 1) (by omega) (by omega) fun q hq' => by
        by_cases e : q + 1 = i
        · rw [e, show q = i - 1 by omega]; exact c
        · exact hq q (by omega)
      refine ⟨r, h1.step fun k hk => ?_, h2⟩
      rw [Q37.l0, if_pos (decide_eq_true (by omega)), if_pos (by omega), e1, if_pos (by omega), g1, g2, if_neg (by simpa using c), e2]
      exact hk
theorem compactP {l : List Int} (hn : l.length ≤ 1000) : ∃ r, Ev (fun k => Q37.f k l) r ∧ (r.length = l.length ↔ adjI l) := by
  by_cases h : l.length < 2
  · refine ⟨l, Ev.all fun k => ?_, fun _ q hq => by omega, fun _ => rfl⟩
    unfold Q37.f
    rw [if_pos (decide_eq_true (by omega))]
  · obtain ⟨r, h1, h2⟩ := comp_l0 hn (l.length - 1) 1 (by omega) (Nat.le_refl _) (fun q hq => by omega)
    refine ⟨r, h1.next fun k hk => ?_, h2⟩
    unfold Q37.f
    rw [if_neg (by simp only [decide_eq_true_eq]; omega)]
    exact hk
theorem adj_nodup {l : List Int} (hs : l.Pairwise (fun x y => x ≤ y)) : adjI l ↔ l.Nodup := by
  constructor
  · intro h
    rw [List.Nodup, List.pairwise_iff_getElem]
    intro i j hi hj hij e
    have h1 := h i (by omega)
    rw [List.getD_eq_getElem?_getD, List.getD_eq_getElem?_getD, List.getElem?_eq_getElem (by omega), List.getElem?_eq_getElem hi] at h1
    simp only [Option.getD_some] at h1
    have a := List.pairwise_iff_getElem.1 hs i (i + 1) hi (by omega) (by omega)
    by_cases e1 : i + 1 = j
    · subst e1; exact h1 e.symm
    · have b := List.pairwise_iff_getElem.1 hs (i + 1) j (by omega) hj (by omega)
      omega
  · intro h q hq e
    rw [List.getD_eq_getElem?_getD, List.getD_eq_getElem?_getD, List.getElem?_eq_getElem hq, List.getElem?_eq_getElem (by omega)] at e
    exact (List.pairwise_iff_getElem.1 h q (q + 1) (by omega) hq (by omega)) e.symm
theorem kids_all {c : Cfg} {l : List Int} : (List.range' 0 l.length).all (kidB c l) = true ↔ (∀ x ∈ l, x ≠ 0 ∧ ¬ c.1 ≤ w64 x) ∧ l.Nodup := by
  have gd : ∀ i (h : i < l.length), l.getD i 0 = l[i] := fun i h => by rw [List.getD_eq_getElem?_getD, List.getElem?_eq_getElem h]; rfl
  rw [List.all_eq_true]
  constructor
  · intro h
    refine ⟨fun x hx => ?_, ?_⟩
    · obtain ⟨i, hi, rfl⟩ := List.mem_iff_getElem.1 hx
      have := h i (by simp [hi])
      simp only [kidB, gd i hi, Bool.and_eq_true, Bool.not_eq_true', decide_eq_false_iff_not] at this
      exact ⟨this.1, this.2.1⟩
    · rw [List.Nodup, List.pairwise_iff_getElem]
      intro i j hi hj hij e
      have := h j (by simp [hj])
      simp only [kidB, Bool.and_eq_true, List.all_eq_true] at this
      have := this.2.2 i (by simp [hij])
      simp only [neB, gd i hi, gd j hj, Bool.not_eq_true', decide_eq_false_iff_not] at this
      exact this e
  · rintro ⟨h1, h2⟩ i hi
    have hi : i < l.length := by simpa using hi
    simp only [kidB, gd i hi, Bool.and_eq_true, Bool.not_eq_true', decide_eq_false_iff_not, List.all_eq_true]
    refine ⟨(h1 _ (List.getElem_mem hi)).1, (h1 _ (List.getElem_mem hi)).2, fun q hq => ?_⟩
    have hq : q < i := by simpa using hq
    simp only [neB, gd i hi, gd q (by omega), Bool.not_eq_true', decide_eq_false_iff_not]
    exact List.pairwise_iff_getElem.1 h2 q i (by omega) hi hq
def kidsB (c : Cfg) (l : List Int) : Bool := decide (1 ≤ l.length) && (decide ((l.length : Int) ≤ c.2.2.2.1) && (List.range' 0 l.length).all (kidB c l))
theorem kidsP {c : Cfg} {l : List Int} (h80 : l.length ≤ 80) (hl : ∀ x ∈ l, 0 ≤ x ∧ x < 4294967296) : Ev (fun k => Q32.f k c l) (kidsB c l) := by
  have hclone : Q36.f l = some l := by
    unfold Q36.f
    rw [if_pos (by simp; omega)]; rfl
  obtain ⟨S, hS⟩ : ∃ S, S = l.mergeSort fun x y => decide (x ≤ y) := ⟨_, rfl⟩
  have hperm : S.Perm l := hS ▸ List.mergeSort_perm _ _
  have hlen : S.length = l.length := hperm.length_eq
  have hsort : S.Pairwise (fun x y => x ≤ y) := by
    have := List.pairwise_mergeSort (le := fun x y : Int => decide (x ≤ y)) (fun a b c h1 h2 => by simp only [decide_eq_true_eq] at *; omega) (fun a b => by simp only [Bool.or_eq_true, decide_eq_true_eq]; omega) l
    rw [← hS] at this
    exact this.imp fun h => of_decide_eq_true h
  have hs := sortP (l := l) (by omega)
  rw [← hS] at hs
  obtain ⟨r, hr1, hr2⟩ := compactP (l := S) (by omega)
  refine hs.next2 hr1 fun k k1 k2 => ?_
  unfold Q32.f
  rw [hclone, Option.bind_some, k1, Option.bind_some]
  by_cases c1 : l.length < 1
  · rw [if_pos (decide_eq_true (by omega))]
    simp [kidsB, show ¬ 1 ≤ l.length by omega]
  rw [if_neg (by simp only [decide_eq_true_eq]; omega)]
  by_cases c2 : c.2.2.2.1 < (l.length : Int)
  · rw [if_pos (decide_eq_true c2)]
    simp [kidsB, show ¬ (l.length : Int) ≤ c.2.2.2.1 by omega]
  rw [if_neg (by simpa using c2), if_pos (by omega), wn (x := (l.length : Int) - 1) (n := l.length - 1) (by omega) (by omega)]
  have g0 : gt S 0 = S[0]'(by omega) := by
    rw [show (0 : Int) = ((0 : Nat) : Int) from rfl, gt_nat, List.getD_eq_getElem?_getD, List.getElem?_eq_getElem (by omega)]; rfl
  have g1 : gt S ((l.length - 1 : Nat) : Int) = S[l.length - 1]'(by omega) := by
    rw [gt_nat, List.getD_eq_getElem?_getD, List.getElem?_eq_getElem (by omega)]; rfl
  have m0 : S[0]'(by omega) ∈ l := hperm.mem_iff.1 (List.getElem_mem _)
  have m1 : S[l.length - 1]'(by omega) ∈ l := hperm.mem_iff.1 (List.getElem_mem _)
  rw [g0, g1]
  have base : kidsB c l = (List.range' 0 l.length).all (kidB c l) := by
    unfold kidsB
    rw [decide_eq_true (show 1 ≤ l.length by omega), decide_eq_true (show (l.length : Int) ≤ c.2.2.2.1 by omega)]; rfl
  rw [base]
  by_cases c3 : S[0]'(by omega) = 0
  · rw [if_pos (decide_eq_true c3)]
    refine congrArg some (Bool.eq_false_iff.2 fun e => ?_).symm
    exact ((kids_all.1 e).1 _ m0).1 c3
  rw [if_neg (by simpa using c3), if_pos (by omega)]
  by_cases c4 : c.1 ≤ w64 (S[l.length - 1]'(by omega))
  · rw [if_pos (decide_eq_true c4)]
    refine congrArg some (Bool.eq_false_iff.2 fun e => ?_).symm
    exact ((kids_all.1 e).1 _ m1).2 c4
  rw [if_neg (by simpa using c4), k2, Option.bind_some]
  have key : r.length = l.length ↔ (List.range' 0 l.length).all (kidB c l) = true := by
    rw [← hlen, hr2, adj_nodup hsort, hperm.nodup_iff, hlen, kids_all]
    refine ⟨fun h => ⟨fun x hx => ?_, h⟩, fun h => h.2⟩
    obtain ⟨i, hi, rfl⟩ := List.mem_iff_getElem.1 (hperm.mem_iff.2 hx)
    have a0 := hl _ m0
    have a1 := hl _ m1
    have ax := hl _ hx
    have b0 : S[0]'(by omega) ≤ S[i] := by
      by_cases z : i = 0
      · subst z; exact Int.le_refl _
      · exact List.pairwise_iff_getElem.1 hsort 0 i (by omega) hi (by omega)
    have b1 : S[i] ≤ S[l.length - 1]'(by omega) := by
      by_cases z : i = l.length - 1
      · subst z; exact Int.le_refl _
      · exact List.pairwise_iff_getElem.1 hsort i (l.length - 1) hi (by omega) (by omega)
    rw [w64_id (by omega) (by omega)] at c4 ⊢
    exact ⟨by omega, by omega⟩
  refine congrArg some (Bool.eq_iff_iff.2 ?_)
  rw [decide_eq_true_eq, ← key]
  omega
theorem lexInN (s : Sp) (x : List UInt8) : Q26.f s x = some (inS s x) := by
  unfold Q26.f inS
  cases Op.bytesLess x s.1 <;> cases s.2.2 <;> rfl
theorem lexCompareN (a b : List UInt8) : Q25.f a b = some (scmp a b) := rfl
theorem fanRightN_l0 {l : List (List UInt8)} (s : Sp) (hl : l.length ≤ 80) : ∀ (k i : Nat), i ≤ l.length → l.length - i < k → Q22.l0 k l s (i : Int) = some ((l.drop i).all (piv s) && rises (l.drop (i - 1)))
  | 0, i, _, h => by omega
  | k + 1, i, hi, hk => by
    rw [Q22.l0]
    by_cases h : i < l.length
    · have g1 : (0 : Int) ≤ (i : Int) ∧ (i : Int) < (l.length : Int) := by omega
      have eta : (s.1, s.2.1, s.2.2) = s := rfl
      have ih := fanRightN_l0 s hl k (i + 1) (by omega) (by omega)
      rw [if_pos (decide_eq_true g1.2), if_pos g1, gt_nat, eta, lexInN, Option.bind_some, w64_succ (by omega), ih, drop_cons h, List.all_cons, Nat.add_sub_cancel]
      simp only [piv]
      cases h1 : inS s (l.getD i default) with
      | false => rfl
      | true =>
        by_cases e : l.getD i default = s.1
        · rw [if_neg (by simp), if_pos (decide_eq_true e), decide_eq_true e]; rfl
        · rw [if_neg (by simp), if_neg (by simp only [e, decide_false]; simp)]
          by_cases h0 : 0 < i
          · have g2 : (0 : Int) ≤ ((i - 1 : Nat) : Int) ∧ ((i - 1 : Nat) : Int) < (l.length : Int) := by omega
            rw [if_pos (decide_eq_true (by omega)), w64_pred h0 (by omega), if_pos g2, gt_nat, lexCompareN, Option.bind_some, scmp_ge]
            have := rises_drop (l := l) (i := i - 1) (by omega)
            rw [Nat.sub_add_cancel h0] at this
            rw [this, decide_eq_false e]
            show (if (!Op.bytesLess (l.getD (i - 1) []) (l.getD i [])) = true then _ else _) = _
            cases Op.bytesLess (l.getD (i - 1) []) (l.getD i []) <;> simp
          · obtain rfl : i = 0 := by omega
            rw [if_neg (by simp), decide_eq_false e]
            simp
    · rw [if_neg (by simp only [decide_eq_true_eq]; omega), List.drop_eq_nil_of_le (by omega), rises_end (by omega)]
      rfl
theorem fanRightN {l : List (List UInt8)} (s : Sp) (hl : l.length ≤ 80) {k : Nat} (hk : 100 < k) : Q22.f k l s = some (l.all (piv s) && rises l) := by
  have := fanRightN_l0 s hl k 0 (by omega) (by omega)
  simpa [Q22.f] using this
theorem leafRightN {l : List Pr} (hl : l.length ≤ 100000) {k : Nat} (hk : l.length < k) : Q23.f k l = some (riseP l) := by
  have := right_loop0 (key := fun x : Pr => x.1) (F := fun k i => Q23.l0 k l i) (by omega) (fun k i => rfl) k 0 (by omega) (by omega)
  rw [riseP_K]
  simpa [Q23.f] using this
theorem bufRightN {l : List Msg} (hl : l.length ≤ 100000) {k : Nat} (hk : l.length < k) : Q2.f k l = some (riseM l) := by
  have := right_loop0 (key := fun x : Msg => x.1) (F := fun k i => Q2.l0 k l i) (by omega) (fun k i => rfl) k 0 (by omega) (by omega)
  rw [riseM_K]
  simpa [Q2.f] using this
theorem idx_loop {α : Type} [Inhabited α] {l : List α} {F : Nat → Int → Option Int} {p : α → Bool} (hl : l.length ≤ 100000)
    (hF : ∀ k i, F (k + 1) i = if (decide (i < (l.length : Int))) = true then (if 0 ≤ i ∧ i < (l.length : Int) then (if p (gt l i) = true then (some i) else (F k (w64 (i + 1)))) else none) else (some (-1))) :
    ∀ (m i k : Nat), i + m = l.length → m < k → ∃ r, F k (i : Int) = some r ∧ decide (0 ≤ r) = (l.drop i).any p
  | 0, i, 0, _, h => by omega
  | m + 1, i, 0, _, h => by omega
  | 0, i, k + 1, h, _ => ⟨-1, by rw [hF, if_neg (by simp only [decide_eq_true_eq]; omega)], by rw [List.drop_eq_nil_of_le (by omega)]; rfl⟩
  | m + 1, i, k + 1, h, hk => by
    rw [hF, if_pos (decide_eq_true (by omega)), if_pos (by omega), gt_nat, drop_cons (show i < l.length by omega), List.any_cons]
    by_cases c : p (l.getD i default) = true
    · exact ⟨_, by rw [if_pos c], by rw [c, decide_eq_true (by omega)]; rfl⟩
    · obtain ⟨r, h1, h2⟩ := idx_loop hl hF m (i + 1) k (by omega) (by omega)
      exact ⟨r, by rw [if_neg c, w64_succ (by omega), h1], by rw [h2, Bool.eq_false_iff.2 c]; rfl⟩
theorem nodeKeyN (c : Cfg) (x : List UInt8) : Q27.f c x = some (keyB c x) := by
  unfold Q27.f keyB
  by_cases h : 1 ≤ (x.length : Int) <;> simp [h]
theorem outer1N (p : Pr) (c : Cfg) (s : Sp) : Q34.f p c s = some (!prB c s p) := by
  unfold Q34.f prB
  rw [show Q27.f (c.1, c.2.1, c.2.2.1, c.2.2.2.1, c.2.2.2.2.1, c.2.2.2.2.2.1, c.2.2.2.2.2.2.1, c.2.2.2.2.2.2.2) p.1 = _ from nodeKeyN c p.1, Option.bind_some, show Q26.f (s.1, s.2.1, s.2.2) p.1 = _ from lexInN s p.1, Option.bind_some]
  by_cases e : c.2.2.2.2.2.2.2 < (p.2.length : Int)
  · rw [decide_eq_true e, decide_eq_false (show ¬ ((p.2.length : Int) ≤ c.2.2.2.2.2.2.2) by omega)]
    cases keyB c p.1 <;> cases inS s p.1 <;> rfl
  · rw [decide_eq_false e, decide_eq_true (show ((p.2.length : Int) ≤ c.2.2.2.2.2.2.2) by omega)]
    cases keyB c p.1 <;> cases inS s p.1 <;> rfl
theorem inner1N (x : List UInt8) (c : Cfg) : Q30.f x c = some (!keyB c x) := by
  unfold Q30.f
  rw [show Q27.f (c.1, c.2.1, c.2.2.1, c.2.2.2.1, c.2.2.2.2.1, c.2.2.2.2.2.1, c.2.2.2.2.2.2.1, c.2.2.2.2.2.2.2) x = _ from nodeKeyN c x, Option.bind_some]
theorem inner2N (p : Msg) (c : Cfg) (s : Sp) : Q31.f p c s = some (!msgB c s p) := by
  unfold Q31.f msgB
  rw [show Q27.f (c.1, c.2.1, c.2.2.1, c.2.2.2.1, c.2.2.2.2.1, c.2.2.2.2.2.1, c.2.2.2.2.2.2.1, c.2.2.2.2.2.2.2) p.1 = _ from nodeKeyN c p.1, Option.bind_some, show Q26.f (s.1, s.2.1, s.2.2) p.1 = _ from lexInN s p.1, Option.bind_some]
  by_cases e : c.2.2.2.2.2.2.2 < (p.2.2.length : Int)
  · rw [decide_eq_true e, decide_eq_false (show ¬ ((p.2.2.length : Int) ≤ c.2.2.2.2.2.2.2) by omega)]
    cases keyB c p.1 <;> cases inS s p.1 <;> rfl
  · rw [decide_eq_false e, decide_eq_true (show ((p.2.2.length : Int) ≤ c.2.2.2.2.2.2.2) by omega)]
    cases keyB c p.1 <;> cases inS s p.1 <;> cases p.2.1 <;> cases decide (p.2.2 = []) <;> rfl
theorem containsPN {c : Cfg} {s : Sp} {l : List Pr} (hl : l.length ≤ 100000) {k : Nat} (hk : l.length < k) : Q39.f k l c s = some (!l.all (prB c s)) := by
  obtain ⟨r, h1, h2⟩ := idx_loop (l := l) (F := fun k i => Q45.l0 k l c s i) (p := fun x => !prB c s x) hl (fun k i => by
    show Q45.l0 (k + 1) l c s i = _
    rw [Q45.l0, outer1N, Option.bind_some]) l.length 0 k (by omega) hk
  unfold Q39.f Q45.f
  rw [show Q45.l0 k l (c.1, c.2.1, c.2.2.1, c.2.2.2.1, c.2.2.2.2.1, c.2.2.2.2.2.1, c.2.2.2.2.2.2.1, c.2.2.2.2.2.2.2) (s.1, s.2.1, s.2.2) 0 = _ from h1, Option.bind_some, h2, List.drop_zero]
  exact congrArg some (by rw [List.all_eq_not_any_not, Bool.not_not])
theorem containsKN {c : Cfg} {l : List (List UInt8)} (hl : l.length ≤ 100000) {k : Nat} (hk : l.length < k) : Q42.f k l c = some (!l.all (keyB c)) := by
  obtain ⟨r, h1, h2⟩ := idx_loop (l := l) (F := fun k i => Q48.l0 k l c i) (p := fun x => !keyB c x) hl (fun k i => by
    show Q48.l0 (k + 1) l c i = _
    rw [Q48.l0, inner1N, Option.bind_some]) l.length 0 k (by omega) hk
  unfold Q42.f Q48.f
  rw [show Q48.l0 k l (c.1, c.2.1, c.2.2.1, c.2.2.2.1, c.2.2.2.2.1, c.2.2.2.2.2.1, c.2.2.2.2.2.2.1, c.2.2.2.2.2.2.2) 0 = _ from h1, Option.bind_some, h2, List.drop_zero]
  exact congrArg some (by rw [List.all_eq_not_any_not, Bool.not_not])
theorem containsMN {c : Cfg} {s : Sp} {l : List Msg} (hl : l.length ≤ 100000) {k : Nat} (hk : l.length < k) : Q38.f k l c s = some (!l.all (msgB c s)) := by
  obtain ⟨r, h1, h2⟩ := idx_loop (l := l) (F := fun k i => Q44.l0 k l c s i) (p := fun x => !msgB c s x) hl (fun k i => by
    show Q44.l0 (k + 1) l c s i = _
    rw [Q44.l0, inner2N, Option.bind_some]) l.length 0 k (by omega) hk
  unfold Q38.f Q44.f
  rw [show Q44.l0 k l (c.1, c.2.1, c.2.2.1, c.2.2.2.1, c.2.2.2.2.1, c.2.2.2.2.2.1, c.2.2.2.2.2.2.1, c.2.2.2.2.2.2.2) (s.1, s.2.1, s.2.2) 0 = _ from h1, Option.bind_some, h2, List.drop_zero]
  exact congrArg some (by rw [List.all_eq_not_any_not, Bool.not_not])
theorem len0 {α : Type} [DecidableEq α] (l : List α) : decide (0 < (l.length : Int)) = !decide (l = []) := by cases l <;> simp
theorem nodeOuterN {c : Cfg} {s : Sp} {n : Nd} (h1 : n.2.1.length ≤ 10000) (h2 : n.2.2.1.length ≤ 10000) (h3 : n.2.2.2.1.length ≤ 10000) (h4 : n.2.2.2.2.length ≤ 10000) {k : Nat} (hk : 10000 < k) : Q33.f k c s n = some (outB c s n) := by
  unfold Q33.f outB
  rw [show Q39.f k n.2.2.2.2 (c.1, c.2.1, c.2.2.1, c.2.2.2.1, c.2.2.2.2.1, c.2.2.2.2.2.1, c.2.2.2.2.2.2.1, c.2.2.2.2.2.2.2) (s.1, s.2.1, s.2.2) = _ from containsPN (c := c) (s := s) (by omega) (by omega), leafRightN (by omega) (by omega), Option.bind_some, Option.bind_some,
    wn (x := (n.2.1.length : Int) + (n.2.2.1.length : Int)) (n := n.2.1.length + n.2.2.1.length) (by omega) (by omega), wn (x := ((n.2.1.length + n.2.2.1.length : Nat) : Int) + (n.2.2.2.1.length : Int)) (n := n.2.1.length + n.2.2.1.length + n.2.2.2.1.length) (by omega) (by omega)]
  by_cases e1 : n.2.1 = []
  · by_cases e2 : n.2.2.1 = []
    · by_cases e3 : n.2.2.2.1 = []
      · by_cases e4 : c.2.2.2.2.2.1 < (n.2.2.2.2.length : Int)
        · rw [if_neg (by simp [e1, e2, e3]), if_pos (decide_eq_true e4), decide_eq_false (show ¬ (n.2.2.2.2.length : Int) ≤ c.2.2.2.2.2.1 by omega)]
          simp
        · rw [if_neg (by simp [e1, e2, e3]), if_neg (by simpa using e4), decide_eq_true (show (n.2.2.2.2.length : Int) ≤ c.2.2.2.2.2.1 by omega), decide_eq_true e1, decide_eq_true e2, decide_eq_true e3]
          cases riseP n.2.2.2.2 <;> cases n.2.2.2.2.all (prB c s) <;> rfl
      · have := List.length_pos_iff.2 e3
        rw [if_pos (decide_eq_true (by omega)), decide_eq_false e3]
        simp
    · have := List.length_pos_iff.2 e2
      rw [if_pos (decide_eq_true (by omega)), decide_eq_false e2]
      simp
  · have := List.length_pos_iff.2 e1
    rw [if_pos (decide_eq_true (by omega)), decide_eq_false e1]
    simp
theorem nodeInnerN {c : Cfg} {s : Sp} {n : Nd} (h1 : n.2.1.length ≤ 80) (h2 : n.2.2.1.length ≤ 80) (h3 : n.2.2.2.1.length ≤ 10000) (h4 : n.2.2.2.2.length ≤ 10000) (hl : ∀ x ∈ n.2.1, 0 ≤ x ∧ x < 4294967296) : Ev (fun k => Q29.f k c s n) (innB c s n) := by
  have hk := kidsP (c := c) h1 hl
  have hbig : Ev (fun k => if 10000 < k then some () else none) () := ⟨10001, fun k hk => if_pos (by omega)⟩
  refine hk.next2 hbig fun k k1 k2 => ?_
  have k2 : 10000 < k := by
    by_cases z : 10000 < k
    · exact z
    · rw [if_neg z] at k2; cases k2
  unfold Q29.f innB restB tailB
  rw [show Q32.f k (c.1, c.2.1, c.2.2.1, c.2.2.2.1, c.2.2.2.2.1, c.2.2.2.2.2.1, c.2.2.2.2.2.2.1, c.2.2.2.2.2.2.2) n.2.1 = _ from k1, show Q38.f k n.2.2.2.1 (c.1, c.2.1, c.2.2.1, c.2.2.2.1, c.2.2.2.2.1, c.2.2.2.2.2.1, c.2.2.2.2.2.2.1, c.2.2.2.2.2.2.2) (s.1, s.2.1, s.2.2) = _ from containsMN (c := c) (s := s) (by omega) (by omega),
    show Q42.f k n.2.2.1 (c.1, c.2.1, c.2.2.1, c.2.2.2.1, c.2.2.2.2.1, c.2.2.2.2.2.1, c.2.2.2.2.2.2.1, c.2.2.2.2.2.2.2) = _ from containsKN (c := c) (by omega) (by omega), show Q22.f k n.2.2.1 (s.1, s.2.1, s.2.2) = _ from fanRightN s h2 (by omega), bufRightN (by omega) (by omega)]
  simp only [Option.bind_some, kidsB]
  have y1 : decide (40 < n.1) = !decide (n.1 ≤ 40) := by by_cases q : n.1 ≤ 40 <;> simp [q] <;> omega
  have y3 : decide (c.2.2.2.2.1 < (n.2.2.2.1.length : Int)) = !decide ((n.2.2.2.1.length : Int) ≤ c.2.2.2.2.1) := by by_cases q : (n.2.2.2.1.length : Int) ≤ c.2.2.2.2.1 <;> simp [q] <;> omega
  have y4 : (1 ≤ n.2.1.length) → decide ((n.2.2.1.length : Int) = w64 ((n.2.1.length : Int) - 1)) = decide (n.2.2.1.length + 1 = n.2.1.length) := fun z => by
    rw [wn (x := (n.2.1.length : Int) - 1) (n := n.2.1.length - 1) (by omega) (by omega)]
    congr 1
    exact propext (by omega)
  rw [y1, y3, len0]
  by_cases z : 1 ≤ n.2.1.length
  · rw [y4 z, decide_eq_true z]
    cases decide (n.1 ≤ 40) <;> cases decide (n.2.2.2.2 = []) <;> cases decide ((n.2.1.length : Int) ≤ c.2.2.2.1) <;> cases (List.range' 0 n.2.1.length).all (kidB c n.2.1) <;> cases decide (n.2.2.1.length + 1 = n.2.1.length) <;> cases (n.2.2.1.all (piv s) && rises n.2.2.1) <;> cases n.2.2.1.all (keyB c) <;> cases decide ((n.2.2.2.1.length : Int) ≤ c.2.2.2.2.1) <;> cases riseM n.2.2.2.1 <;> cases n.2.2.2.1.all (msgB c s) <;> rfl
  · rw [decide_eq_false z]
    cases decide (n.1 ≤ 40) <;> cases decide (n.2.2.2.2 = []) <;> simp
def rightB (c : Cfg) (s : Sp) (n : Nd) : Bool := if n.1 = 0 then outB c s n else decide (0 < n.1) && innB c s n
theorem nodeRightN {c : Cfg} {s : Sp} {n : Nd} (h1 : n.2.1.length ≤ 80) (h2 : n.2.2.1.length ≤ 80) (h3 : n.2.2.2.1.length ≤ 10000) (h4 : n.2.2.2.2.length ≤ 10000) (hl : ∀ x ∈ n.2.1, 0 ≤ x ∧ x < 4294967296) : Ev (fun k => Q28.f k c s n) (rightB c s n) := by
  have hbig : Ev (fun k => if 10000 < k then some () else none) () := ⟨10001, fun k hk => if_pos (by omega)⟩
  refine (nodeInnerN (c := c) (s := s) h1 h2 h3 h4 hl).next2 hbig fun k k1 k2 => ?_
  have k2 : 10000 < k := by
    by_cases z : 10000 < k
    · exact z
    · rw [if_neg z] at k2; cases k2
  unfold Q28.f rightB
  rw [show Q29.f k (c.1, c.2.1, c.2.2.1, c.2.2.2.1, c.2.2.2.2.1, c.2.2.2.2.2.1, c.2.2.2.2.2.2.1, c.2.2.2.2.2.2.2) (s.1, s.2.1, s.2.2) (n.1, n.2.1, n.2.2.1, n.2.2.2.1, n.2.2.2.2) = _ from k1,
    show Q33.f k (c.1, c.2.1, c.2.2.1, c.2.2.2.1, c.2.2.2.2.1, c.2.2.2.2.2.1, c.2.2.2.2.2.2.1, c.2.2.2.2.2.2.2) (s.1, s.2.1, s.2.2) (n.1, n.2.1, n.2.2.1, n.2.2.2.1, n.2.2.2.2) = _ from nodeOuterN (c := c) (s := s) (by omega) (by omega) h3 h4 k2, Option.bind_some, Option.bind_some]
  by_cases c1 : n.1 < 0
  · rw [if_pos (decide_eq_true c1), if_neg (by omega), decide_eq_false (show ¬ 0 < n.1 by omega)]; rfl
  · rw [if_neg (by simpa using c1)]
    by_cases c2 : n.1 = 0
    · rw [if_pos (decide_eq_true c2), if_pos c2]
    · rw [if_neg (by simpa using c2), if_neg c2, decide_eq_true (show 0 < n.1 by omega)]; rfl
def be : Nat → Nat → List UInt8
  | 0, _ => []
  | w + 1, v => UInt8.ofNat (v / 256 ^ w) :: be w v
theorem be_len : ∀ w v, (be w v).length = w
  | 0, _ => rfl
  | w + 1, v => by rw [be, List.length_cons, be_len w v]
def rdv (l : List UInt8) : Nat := l.foldl (fun a c => a * 256 + c.toNat) 0
theorem rdv_from : ∀ (l : List UInt8) (a : Nat), l.foldl (fun a c => a * 256 + c.toNat) a = a * 256 ^ l.length + rdv l
  | [], a => by simp [rdv]
  | c :: l, a => by
    unfold rdv
    rw [List.foldl_cons, List.foldl_cons, rdv_from l, rdv_from l (0 * 256 + c.toNat), List.length_cons, Nat.pow_succ, Nat.add_mul, Nat.zero_mul, Nat.zero_add]
    rw [Nat.mul_assoc, Nat.mul_comm 256, Nat.add_assoc]
theorem rdv_cons (c : UInt8) (l : List UInt8) : rdv (c :: l) = c.toNat * 256 ^ l.length + rdv l := by
  unfold rdv
  rw [List.foldl_cons, rdv_from, Nat.zero_mul, Nat.zero_add]; rfl
theorem rdv_lt : ∀ l : List UInt8, rdv l < 256 ^ l.length
  | [] => by simp [rdv]
  | c :: l => by
    have h1 := rdv_lt l
    have h2 : c.toNat < 256 := c.toNat_lt
    rw [rdv_cons, List.length_cons, Nat.pow_succ]
    have : c.toNat * 256 ^ l.length ≤ 255 * 256 ^ l.length := Nat.mul_le_mul_right _ (by omega)
    omega
theorem rdv_be : ∀ w v, rdv (be w v) = v % 256 ^ w
  | 0, v => by simp [be, rdv, Nat.mod_one]
  | w + 1, v => by
    rw [be, rdv_cons, be_len, rdv_be w v]
    have e : (UInt8.ofNat (v / 256 ^ w)).toNat = v / 256 ^ w % 256 := by simp
    rw [e, Nat.pow_succ, Nat.mod_mul (a := 256 ^ w) (b := 256), Nat.mul_comm]; omega
theorem rdv_be' {w v : Nat} (h : v < 256 ^ w) : rdv (be w v) = v := by rw [rdv_be, Nat.mod_eq_of_lt h]
def zs (n : Nat) : List UInt8 := List.replicate n 0
theorem zs_len (n : Nat) : (zs n).length = n := List.length_replicate
theorem zs_add (a b : Nat) : zs a ++ zs b = zs (a + b) := by unfold zs; rw [List.replicate_append_replicate]
def slt (s : List UInt8) (n : Nat) : List UInt8 := s ++ zs (n - s.length)
theorem slt_len {s : List UInt8} {n : Nat} (h : s.length ≤ n) : (slt s n).length = n := by unfold slt; rw [List.length_append, zs_len]; omega
def prS (K V : Nat) (p : List UInt8 × List UInt8) : List UInt8 := be 1 p.1.length ++ (be 2 p.2.length ++ (slt p.1 K ++ slt p.2 V))
theorem prS_len {K V : Nat} {p : List UInt8 × List UInt8} (h1 : p.1.length ≤ K) (h2 : p.2.length ≤ V) : (prS K V p).length = 3 + K + V := by
  unfold prS
  rw [List.length_append, List.length_append, List.length_append, be_len, be_len, slt_len h1, slt_len h2]; omega
def msS (K V : Nat) (m : List UInt8 × Bool × List UInt8) : List UInt8 := (if m.2.1 = true then 2 else 1) :: prS K V (m.1, m.2.2)
theorem msS_len {K V : Nat} {m : List UInt8 × Bool × List UInt8} (h1 : m.1.length ≤ K) (h2 : m.2.2.length ≤ V) : (msS K V m).length = 4 + K + V := by
  unfold msS
  rw [List.length_cons, prS_len h1 h2]; omega
def pvS (K : Nat) (p : List UInt8) : List UInt8 := be 1 p.length ++ slt p K
theorem pvS_len {K : Nat} {p : List UInt8} (h1 : p.length ≤ K) : (pvS K p).length = 1 + K := by
  unfold pvS
  rw [List.length_append, be_len, slt_len h1]
def cat {α : Type} (f : α → List UInt8) (l : List α) : List UInt8 := l.flatMap f
theorem cat_len {α : Type} {f : α → List UInt8} {n : Nat} : ∀ {l : List α}, (∀ x ∈ l, (f x).length = n) → (cat f l).length = l.length * n
  | [], _ => by simp [cat]
  | x :: l, h => by
    have := cat_len (l := l) fun y hy => h y (by simp [hy])
    unfold cat at this ⊢
    rw [List.flatMap_cons, List.length_append, this, h x (by simp), List.length_cons, Nat.add_mul]; omega
def kdS (x : Int) : List UInt8 := be 4 x.toNat
def cBy (c : Cfg) : Nat := c.2.1.toNat
def cFa (c : Cfg) : Nat := c.2.2.2.1.toNat
def cBu (c : Cfg) : Nat := c.2.2.2.2.1.toNat
def cLe (c : Cfg) : Nat := c.2.2.2.2.2.1.toNat
def cK (c : Cfg) : Nat := c.2.2.2.2.2.2.1.toNat
def cV (c : Cfg) : Nat := c.2.2.2.2.2.2.2.toNat
def hdO (n : Nd) : List UInt8 := 1 :: 0 :: (be 2 n.2.2.2.2.length ++ zs 4)
def hdI (n : Nd) : List UInt8 := 2 :: (be 1 n.1.toNat ++ (be 2 n.2.1.length ++ (be 2 n.2.2.2.1.length ++ zs 2)))
theorem hdO_len (n : Nd) : (hdO n).length = 8 := by simp [hdO, be_len, zs_len]
theorem hdI_len (n : Nd) : (hdI n).length = 8 := by simp [hdI, be_len, zs_len]
def bdO (c : Cfg) (n : Nd) : List UInt8 := cat (prS (cK c) (cV c)) n.2.2.2.2
def bdI (c : Cfg) (n : Nd) : List UInt8 := cat kdS n.2.1 ++ (zs (4 * (cFa c - n.2.1.length)) ++ (cat (pvS (cK c)) n.2.2.1 ++ (zs ((1 + cK c) * (cFa c - 1 - n.2.2.1.length)) ++ cat (msS (cK c) (cV c)) n.2.2.2.1)))
def rawS (c : Cfg) (n : Nd) : List UInt8 := if n.1 = 0 then hdO n ++ bdO c n else hdI n ++ bdI c n
def blkS (c : Cfg) (n : Nd) : List UInt8 := slt (rawS c n) (cBy c)
structure FitN (c : Cfg) (n : Nd) : Prop where
  lv : 0 ≤ n.1 ∧ n.1 ≤ 40
  kd : ∀ x ∈ n.2.1, 0 ≤ x ∧ x < 4294967296
  o : n.1 = 0 → n.2.1 = [] ∧ n.2.2.1 = [] ∧ n.2.2.2.1 = [] ∧ n.2.2.2.2.length ≤ cLe c
  i : n.1 ≠ 0 → n.2.2.2.2 = [] ∧ 1 ≤ n.2.1.length ∧ n.2.1.length ≤ cFa c ∧ n.2.2.1.length + 1 = n.2.1.length ∧ n.2.2.2.1.length ≤ cBu c
  pk : ∀ p ∈ n.2.2.1, p.length ≤ cK c
  ms : ∀ m ∈ n.2.2.2.1, m.1.length ≤ cK c ∧ m.2.2.length ≤ cV c
  rk : ∀ p ∈ n.2.2.2.2, p.1.length ≤ cK c ∧ p.2.length ≤ cV c
theorem OkC.nat {c : Cfg} (h : OkC c) : 8 ≤ cFa c ∧ cFa c ≤ 64 ∧ 1 ≤ cK c ∧ cK c ≤ 64 ∧ cV c ≤ 256 ∧ 16 ≤ cBu c ∧ cBu c ≤ 512 ∧ cBu c ≤ cLe c ∧ cLe c ≤ 1024 := by
  have h1 := h.fan
  have h2 := h.key
  have h3 := h.val
  have h4 := h.buf
  have h5 := h.leaf
  unfold cFa cK cV cBu cLe
  omega
theorem bdO_len {c : Cfg} {n : Nd} (h : FitN c n) : (bdO c n).length = n.2.2.2.2.length * (3 + cK c + cV c) := cat_len fun p hp => prS_len (h.rk p hp).1 (h.rk p hp).2
theorem kids_len (l : List Int) : (cat kdS l).length = l.length * 4 := cat_len fun p hp => be_len 4 _
theorem pivs_len {c : Cfg} {n : Nd} (h : FitN c n) : (cat (pvS (cK c)) n.2.2.1).length = n.2.2.1.length * (1 + cK c) := cat_len fun p hp => pvS_len (h.pk p hp)
theorem msgs_len {c : Cfg} {n : Nd} (h : FitN c n) : (cat (msS (cK c) (cV c)) n.2.2.2.1).length = n.2.2.2.1.length * (4 + cK c + cV c) := cat_len fun p hp => msS_len (h.ms p hp).1 (h.ms p hp).2
theorem bdI_len {c : Cfg} {n : Nd} (h : FitN c n) (h0 : n.1 ≠ 0) : (bdI c n).length = 4 * cFa c + (1 + cK c) * (cFa c - 1) + n.2.2.2.1.length * (4 + cK c + cV c) := by
  obtain ⟨_, i2, i3, i4, _⟩ := h.i h0
  unfold bdI
  rw [List.length_append, List.length_append, List.length_append, List.length_append, kids_len, zs_len, pivs_len h, zs_len, msgs_len h, Nat.mul_comm n.2.2.1.length]
  have e : (1 + cK c) * n.2.2.1.length + (1 + cK c) * (cFa c - 1 - n.2.2.1.length) = (1 + cK c) * (cFa c - 1) := by rw [← Nat.mul_add]; congr 1; omega
  omega
def szB (c : Cfg) : Bool := decide (8 ≤ c.2.2.2.1 ∧ c.2.2.2.1 ≤ 64) && (decide (1 ≤ c.2.2.2.2.2.2.1 ∧ c.2.2.2.2.2.2.1 ≤ 64) && (decide (0 ≤ c.2.2.2.2.2.2.2 ∧ c.2.2.2.2.2.2.2 ≤ 256) && (decide (2 * c.2.2.2.1 ≤ c.2.2.2.2.1 ∧ c.2.2.2.2.1 ≤ 512) && decide (c.2.2.2.2.1 ≤ c.2.2.2.2.2.1 ∧ c.2.2.2.2.2.1 ≤ 1024))))
theorem szB_ok {c : Cfg} (h : szB c = true) : OkC c := by
  simp only [szB, Bool.and_eq_true, decide_eq_true_eq] at h
  exact ⟨h.1, h.2.1, h.2.2.1, by omega, h.2.2.2.2⟩
def innZ (c : Cfg) : Int := 8 + (4 + (c.2.2.2.1 - 1) * (5 + c.2.2.2.2.2.2.1) + c.2.2.2.2.1 * (4 + c.2.2.2.2.2.2.1 + c.2.2.2.2.2.2.2))
def outZ (c : Cfg) : Int := 8 + c.2.2.2.2.2.1 * (3 + c.2.2.2.2.2.2.1 + c.2.2.2.2.2.2.2)
def okB (c : Cfg) : Bool := szB c && (decide (5 ≤ c.1 ∧ c.1 ≤ 65536) && (decide (8 ≤ c.2.2.1 ∧ c.2.2.1 ≤ 64) && (decide (64 ≤ c.2.1 ∧ c.2.1 ≤ 65536) && (decide (innZ c ≤ c.2.1) && decide (outZ c ≤ c.2.1)))))
theorem in9_eq (a b c : Int) : Q75.f a b c = some (decide (b ≤ a ∧ a ≤ c)) := by
  unfold Q75.f
  by_cases h : b ≤ a <;> simp [h]
theorem sized9_eq (c : Cfg) : Q74.f c = some (szB c) := by
  unfold Q74.f szB
  simp only [in9_eq, Option.bind_some]
  by_cases h1 : 8 ≤ c.2.2.2.1 ∧ c.2.2.2.1 ≤ 64
  · have w : w64 (2 * c.2.2.2.1) = 2 * c.2.2.2.1 := w64_id (by omega) (by omega)
    rw [w, decide_eq_true h1]
    cases decide (1 ≤ c.2.2.2.2.2.2.1 ∧ c.2.2.2.2.2.2.1 ≤ 64) <;> cases decide (0 ≤ c.2.2.2.2.2.2.2 ∧ c.2.2.2.2.2.2.2 ≤ 256) <;> cases decide (2 * c.2.2.2.1 ≤ c.2.2.2.2.1 ∧ c.2.2.2.2.1 ≤ 512) <;> rfl
  · rw [decide_eq_false h1]; rfl
theorem inn9_l1 {c : Cfg} (hc : OkC c) : ∀ (m i k : Nat) (x : Int), c.2.2.2.2.1 = (i : Int) + m → m < k → 0 ≤ x → x + m * 324 ≤ 1000000000 → Q71.l1 k c x (i : Int) = some (x + m * (4 + c.2.2.2.2.2.2.1 + c.2.2.2.2.2.2.2))
  | 0, i, k + 1, x, h, _, _, _ => by
    rw [Q71.l1, if_neg (by simp only [decide_eq_true_eq]; omega)]; simp
  | m + 1, i, k + 1, x, h, hk, h0, h1 => by
    have a1 := hc.key
    have a2 := hc.val
    have hb := hc.buf
    rw [Q71.l1, if_pos (decide_eq_true (by omega)), w64_id (x := x + 4) (by omega) (by omega), w64_id (x := x + 4 + c.2.2.2.2.2.2.1) (by omega) (by omega), w64_id (x := x + 4 + c.2.2.2.2.2.2.1 + c.2.2.2.2.2.2.2) (by omega) (by omega), w64_succ (by omega), inn9_l1 hc m (i + 1) k _ (by omega) (by omega) (by omega) (by omega)]
    congr 1
    rw [show ((m + 1 : Nat) : Int) = (m : Int) + 1 by omega, Int.add_mul]; omega
theorem inn9_l0 {c : Cfg} (hc : OkC c) : ∀ (m i k : Nat) (x : Int), 1 ≤ i → c.2.2.2.1 = (i : Int) + m → m + 600 < k → 0 ≤ x → x + m * 69 ≤ 100000 → Q71.l0 k c x (i : Int) = some (x + m * (5 + c.2.2.2.2.2.2.1) + c.2.2.2.2.1 * (4 + c.2.2.2.2.2.2.1 + c.2.2.2.2.2.2.2))
  | 0, i, k + 1, x, h2, h, hk, h0, h1 => by
    have hb := hc.buf
    obtain ⟨B, hB⟩ := Int.eq_ofNat_of_zero_le (show 0 ≤ c.2.2.2.2.1 by omega)
    rw [Q71.l0, if_neg (by simp only [decide_eq_true_eq]; omega), show Q71.l1 k c x 0 = _ from inn9_l1 hc B 0 k x (by rw [hB]; simp) (by omega) h0 (by omega), hB]; simp
  | m + 1, i, k + 1, x, h2, h, hk, h0, h1 => by
    have a1 := hc.key
    have hb := hc.fan
    rw [Q71.l0, if_pos (decide_eq_true (by omega)), if_pos (decide_eq_true (by omega)), w64_id (x := x + 4) (by omega) (by omega), w64_id (x := x + 4 + 1) (by omega) (by omega), w64_id (x := x + 4 + 1 + c.2.2.2.2.2.2.1) (by omega) (by omega), w64_succ (by omega), inn9_l0 hc m (i + 1) k _ (by omega) (by omega) (by omega) (by omega) (by omega)]
    congr 1
    rw [show ((m + 1 : Nat) : Int) = (m : Int) + 1 by omega, Int.add_mul]; omega
theorem inn9_eq {c : Cfg} (h : szB c = true) {k : Nat} (hk : 1000 < k) : Q71.f k c = some (innZ c) := by
  have hc := szB_ok h
  have hf := hc.fan
  obtain ⟨F, hF⟩ := Int.eq_ofNat_of_zero_le (show 0 ≤ c.2.2.2.1 by omega)
  obtain ⟨k, rfl⟩ : ∃ q, k = q + 1 := ⟨k - 1, by omega⟩
  unfold Q71.f
  rw [show Q74.f (c.1, c.2.1, c.2.2.1, c.2.2.2.1, c.2.2.2.2.1, c.2.2.2.2.2.1, c.2.2.2.2.2.2.1, c.2.2.2.2.2.2.2) = _ from sized9_eq c, h, Option.bind_some, if_neg (by simp), Q71.l0, if_pos (decide_eq_true (by omega)), if_neg (by simp), show w64 (8 + 4) = 12 from rfl, show w64 (0 + 1) = ((1 : Nat) : Int) from rfl, inn9_l0 hc (F - 1) 1 k 12 (Nat.le_refl _) (by omega) (by omega) (by omega) (by omega), show ((F - 1 : Nat) : Int) = c.2.2.2.1 - 1 by omega]
  unfold innZ
  congr 1; omega
theorem out9_l0 {c : Cfg} (hc : OkC c) : ∀ (m i k : Nat) (x : Int), c.2.2.2.2.2.1 = (i : Int) + m → m < k → 0 ≤ x → x + m * 324 ≤ 1000000000 → Q72.l0 k c x (i : Int) = some (x + m * (3 + c.2.2.2.2.2.2.1 + c.2.2.2.2.2.2.2))
  | 0, i, k + 1, x, h, _, _, _ => by
    rw [Q72.l0, if_neg (by simp only [decide_eq_true_eq]; omega)]; simp
  | m + 1, i, k + 1, x, h, hk, h0, h1 => by
    have a1 := hc.key
    have a2 := hc.val
    have hb := hc.leaf
    rw [Q72.l0, if_pos (decide_eq_true (by omega)), w64_id (x := x + 3) (by omega) (by omega), w64_id (x := x + 3 + c.2.2.2.2.2.2.1) (by omega) (by omega), w64_id (x := x + 3 + c.2.2.2.2.2.2.1 + c.2.2.2.2.2.2.2) (by omega) (by omega), w64_succ (by omega), out9_l0 hc m (i + 1) k _ (by omega) (by omega) (by omega) (by omega)]
    congr 1
    rw [show ((m + 1 : Nat) : Int) = (m : Int) + 1 by omega, Int.add_mul]; omega
theorem out9_eq {c : Cfg} (h : szB c = true) {k : Nat} (hk : 2000 < k) : Q72.f k c = some (outZ c) := by
  have hc := szB_ok h
  have hf := hc.leaf
  have hb := hc.buf
  obtain ⟨L, hL⟩ := Int.eq_ofNat_of_zero_le (show 0 ≤ c.2.2.2.2.2.1 by omega)
  unfold Q72.f
  rw [show Q74.f (c.1, c.2.1, c.2.2.1, c.2.2.2.1, c.2.2.2.2.1, c.2.2.2.2.2.1, c.2.2.2.2.2.2.1, c.2.2.2.2.2.2.2) = _ from sized9_eq c, h, Option.bind_some, if_neg (by simp), show Q72.l0 k c 8 0 = _ from out9_l0 hc L 0 k 8 (by omega) (by omega) (by omega) (by omega), ← hL]
  rfl
theorem right9_eq (c : Cfg) {k : Nat} (hk : 2000 < k) : Q73.f k c = some (okB c) := by
  unfold Q73.f okB
  rw [show Q74.f (c.1, c.2.1, c.2.2.1, c.2.2.2.1, c.2.2.2.2.1, c.2.2.2.2.2.1, c.2.2.2.2.2.2.1, c.2.2.2.2.2.2.2) = _ from sized9_eq c, Option.bind_some]
  cases h : szB c with
  | false => rfl
  | true =>
    rw [if_pos rfl, show Q71.f k (c.1, c.2.1, c.2.2.1, c.2.2.2.1, c.2.2.2.2.1, c.2.2.2.2.2.1, c.2.2.2.2.2.2.1, c.2.2.2.2.2.2.2) = _ from inn9_eq h (by omega), show Q72.f k (c.1, c.2.1, c.2.2.1, c.2.2.2.1, c.2.2.2.2.1, c.2.2.2.2.2.1, c.2.2.2.2.2.2.1, c.2.2.2.2.2.2.2) = _ from out9_eq h hk]
    simp only [in9_eq, Option.bind_some]
    cases decide (5 ≤ c.1 ∧ c.1 ≤ 65536) <;> cases decide (8 ≤ c.2.2.1 ∧ c.2.2.1 ≤ 64) <;> cases decide (64 ≤ c.2.1 ∧ c.2.1 ≤ 65536) <;> cases decide (innZ c ≤ c.2.1) <;> rfl
abbrev allS : Sp := ([], [], true)
theorem sizedC (c : Cfg) : Q21.f c = some (szB c) := by
  unfold Q21.f szB
  by_cases h1 : 8 ≤ c.2.2.2.1 ∧ c.2.2.2.1 ≤ 64
  · have w : w64 (2 * c.2.2.2.1) = 2 * c.2.2.2.1 := w64_id (by omega) (by omega)
    rw [w, if_neg (by simp only [decide_eq_true_eq]; omega), if_neg (by simp only [decide_eq_true_eq]; omega), decide_eq_true h1]
    by_cases h2 : 1 ≤ c.2.2.2.2.2.2.1 ∧ c.2.2.2.2.2.2.1 ≤ 64
    · by_cases h3 : 0 ≤ c.2.2.2.2.2.2.2 ∧ c.2.2.2.2.2.2.2 ≤ 256
      · by_cases h4 : 2 * c.2.2.2.1 ≤ c.2.2.2.2.1 ∧ c.2.2.2.2.1 ≤ 512
        · by_cases h5 : c.2.2.2.2.1 ≤ c.2.2.2.2.2.1 ∧ c.2.2.2.2.2.1 ≤ 1024
          · rw [if_neg (by simp only [decide_eq_true_eq]; omega), if_neg (by simp only [decide_eq_true_eq]; omega), if_neg (by simp only [decide_eq_true_eq]; omega), if_neg (by simp only [decide_eq_true_eq]; omega), if_neg (by simp only [decide_eq_true_eq]; omega), if_neg (by simp only [decide_eq_true_eq]; omega), if_neg (by simp only [decide_eq_true_eq]; omega), if_neg (by simp only [decide_eq_true_eq]; omega), decide_eq_true h2, decide_eq_true h3, decide_eq_true h4, decide_eq_true h5]
            rfl
          · rw [if_neg (by simp only [decide_eq_true_eq]; omega), if_neg (by simp only [decide_eq_true_eq]; omega), decide_eq_false h5]
            simp only [Bool.and_false]
            by_cases q : c.2.2.2.2.2.1 < c.2.2.2.2.1
            · rw [if_pos (decide_eq_true q)]
            · rw [if_neg (by simpa using q), if_pos (decide_eq_true (by omega))]
        · rw [decide_eq_false h4]
          simp only [Bool.false_and, Bool.and_false]
          by_cases q : c.2.2.2.2.1 < 2 * c.2.2.2.1
          · rw [if_pos (decide_eq_true q)]
          · rw [if_neg (by simpa using q), if_pos (decide_eq_true (by omega))]
      · rw [decide_eq_false h3]
        simp only [Bool.false_and, Bool.and_false]
        repeat' split
        all_goals first | rfl | (simp only [decide_eq_true_eq] at *; omega)
    · rw [decide_eq_false h2]
      simp only [Bool.false_and, Bool.and_false]
      repeat' split
      all_goals first | rfl | (simp only [decide_eq_true_eq] at *; omega)
  · rw [decide_eq_false h1]
    simp only [Bool.false_and]
    by_cases q : c.2.2.2.1 < 8
    · rw [if_pos (decide_eq_true q)]
    · rw [if_neg (by simpa using q), if_pos (decide_eq_true (by omega))]
theorem etaC (c : Cfg) : (c.1, c.2.1, c.2.2.1, c.2.2.2.1, c.2.2.2.2.1, c.2.2.2.2.2.1, c.2.2.2.2.2.2.1, c.2.2.2.2.2.2.2) = c := rfl
theorem etaN (n : Nd) : (n.1, n.2.1, n.2.2.1, n.2.2.2.1, n.2.2.2.2) = n := rfl
theorem innC {c : Cfg} (h : szB c = true) : Q18.f c = some (innZ c) ∧ 8 ≤ innZ c ∧ innZ c ≤ 200000 := by
  have hc := szB_ok h
  have a1 := hc.fan
  have a2 := hc.key
  have a3 := hc.val
  have a4 := hc.buf
  have p0 : 0 ≤ (c.2.2.2.1 - 1) * (1 + c.2.2.2.2.2.2.1) := Int.mul_nonneg (by omega) (by omega)
  have p1 : (c.2.2.2.1 - 1) * (1 + c.2.2.2.2.2.2.1) ≤ 63 * 65 := Int.mul_le_mul (by omega) (by omega) (by omega) (by omega)
  have q0 : 0 ≤ c.2.2.2.2.1 * (4 + c.2.2.2.2.2.2.1 + c.2.2.2.2.2.2.2) := Int.mul_nonneg (by omega) (by omega)
  have q1 : c.2.2.2.2.1 * (4 + c.2.2.2.2.2.2.1 + c.2.2.2.2.2.2.2) ≤ 512 * 324 := Int.mul_le_mul (by omega) (by omega) (by omega) (by omega)
  have e : innZ c = 8 + 4 * c.2.2.2.1 + (c.2.2.2.1 - 1) * (1 + c.2.2.2.2.2.2.1) + c.2.2.2.2.1 * (4 + c.2.2.2.2.2.2.1 + c.2.2.2.2.2.2.2) := by
    unfold innZ
    rw [show 5 + c.2.2.2.2.2.2.1 = 4 + (1 + c.2.2.2.2.2.2.1) by omega, Int.mul_add]; omega
  refine ⟨?_, by omega, by omega⟩
  unfold Q18.f
  rw [etaC, sizedC, h, Option.bind_some, if_neg (by simp), w64_id (x := 4 * c.2.2.2.1) (by omega) (by omega), w64_id (x := 8 + 4 * c.2.2.2.1) (by omega) (by omega), w64_id (x := c.2.2.2.1 - 1) (by omega) (by omega), w64_id (x := 1 + c.2.2.2.2.2.2.1) (by omega) (by omega), w64_id (x := 4 + c.2.2.2.2.2.2.1) (by omega) (by omega), w64_id (x := 4 + c.2.2.2.2.2.2.1 + c.2.2.2.2.2.2.2) (by omega) (by omega),
    w64_id (x := (c.2.2.2.1 - 1) * (1 + c.2.2.2.2.2.2.1)) (by omega) (by omega), w64_id (x := c.2.2.2.2.1 * (4 + c.2.2.2.2.2.2.1 + c.2.2.2.2.2.2.2)) (by omega) (by omega), w64_id (x := 8 + 4 * c.2.2.2.1 + (c.2.2.2.1 - 1) * (1 + c.2.2.2.2.2.2.1)) (by omega) (by omega), w64_id (by omega) (by omega), e]
theorem outC {c : Cfg} (h : szB c = true) : Q20.f c = some (outZ c) ∧ 8 ≤ outZ c ∧ outZ c ≤ 400000 := by
  have hc := szB_ok h
  have a2 := hc.key
  have a3 := hc.val
  have a4 := hc.buf
  have a5 := hc.leaf
  have q0 : 0 ≤ c.2.2.2.2.2.1 * (3 + c.2.2.2.2.2.2.1 + c.2.2.2.2.2.2.2) := Int.mul_nonneg (by omega) (by omega)
  have q1 : c.2.2.2.2.2.1 * (3 + c.2.2.2.2.2.2.1 + c.2.2.2.2.2.2.2) ≤ 1024 * 323 := Int.mul_le_mul (by omega) (by omega) (by omega) (by omega)
  refine ⟨?_, by unfold outZ; omega, by unfold outZ; omega⟩
  unfold Q20.f outZ
  rw [etaC, sizedC, h, Option.bind_some, if_neg (by simp), w64_id (x := 3 + c.2.2.2.2.2.2.1) (by omega) (by omega), w64_id (x := 3 + c.2.2.2.2.2.2.1 + c.2.2.2.2.2.2.2) (by omega) (by omega), w64_id (x := c.2.2.2.2.2.1 * (3 + c.2.2.2.2.2.2.1 + c.2.2.2.2.2.2.2)) (by omega) (by omega), w64_id (by omega) (by omega)]
theorem checkC (c : Cfg) : Q17.f c = some (if okB c = true then 0 else 2) := by
  unfold Q17.f okB
  rw [etaC, sizedC, Option.bind_some]
  cases h : szB c with
  | false => rfl
  | true =>
    obtain ⟨i1, i2, i3⟩ := innC h
    obtain ⟨o1, o2, o3⟩ := outC h
    rw [if_pos rfl]
    by_cases a1 : 5 ≤ c.1 ∧ c.1 ≤ 65536
    · rw [if_pos (decide_eq_true a1.1), if_pos (decide_eq_true a1.2), decide_eq_true a1]
      by_cases a2 : 8 ≤ c.2.2.1 ∧ c.2.2.1 ≤ 64
      · rw [if_pos (decide_eq_true a2.1), if_neg (by simp [a2.2]), decide_eq_true a2]
        by_cases a3 : 65536 < c.2.1
        · rw [if_pos (decide_eq_true a3), decide_eq_false (show ¬ (64 ≤ c.2.1 ∧ c.2.1 ≤ 65536) by omega)]; rfl
        · rw [if_neg (by simpa using a3)]
          unfold Q19.f
          rw [etaC, sizedC, h, Option.bind_some, if_pos rfl, i1, o1, Option.bind_some, Option.bind_some, Option.bind_some]
          dsimp only
          generalize innZ c = I at *
          generalize outZ c = O at *
          by_cases b1 : c.2.1 < 64
          · rw [if_pos (decide_eq_true (by split <;> split <;> omega)), decide_eq_false (show ¬ (64 ≤ c.2.1 ∧ c.2.1 ≤ 65536) by omega)]; rfl
          · rw [decide_eq_true (show 64 ≤ c.2.1 ∧ c.2.1 ≤ 65536 by omega)]
            by_cases b2 : I ≤ c.2.1
            · rw [decide_eq_true b2]
              by_cases b3 : O ≤ c.2.1
              · rw [decide_eq_true b3, if_neg (by simp only [decide_eq_true_eq]; split <;> split <;> omega)]; rfl
              · rw [decide_eq_false b3, if_pos (decide_eq_true (by split <;> split <;> omega))]; rfl
            · rw [decide_eq_false b2, if_pos (decide_eq_true (by split <;> split <;> omega))]; rfl
      · rw [decide_eq_false a2]
        by_cases q : 8 ≤ c.2.2.1
        · rw [if_pos (decide_eq_true q), if_pos (by simp; omega)]; rfl
        · rw [if_neg (by simpa using q)]; rfl
    · rw [decide_eq_false a1]
      by_cases q : 5 ≤ c.1
      · rw [if_pos (decide_eq_true q), if_neg (by simp only [decide_eq_true_eq]; omega)]; rfl
      · rw [if_neg (by simpa using q)]; rfl
theorem toB_app (a b : List UInt8) : toB (a ++ b) = toB a ++ toB b := by simp [toB]
theorem toB_len (a : List UInt8) : (toB a).length = a.length := by simp [toB]
theorem toB_zs (n : Nat) : toB (zs n) = List.replicate n 0 := by simp [toB, zs]
theorem toS_toB (a : List UInt8) : toS (toB a) = a := by
  unfold toS toB
  rw [List.map_map]
  conv => rhs; rw [← List.map_id a]
  apply List.map_congr_left
  intro x _
  simp
theorem wrapU (n : Nat) : IntKind.u64.wrap (n : Int) = ((n % 18446744073709551616 : Nat) : Int) := by
  simp [IntKind.wrap, IntKind.bits, IntKind.signed]
theorem wrapU' {n : Nat} (h : n < 18446744073709551616) : IntKind.u64.wrap (n : Int) = (n : Int) := by rw [wrapU, Nat.mod_eq_of_lt h]
theorem byteU (v i : Nat) (hi : i < 8) : IntKind.u8.wrap (Int.fdiv (v : Int) (2 ^ (min (w64 (8 * (i : Int))).toNat 64))) = ((UInt8.ofNat (v / 256 ^ i)).toNat : Int) := by
  have e1 : w64 (8 * (i : Int)) = ((8 * i : Nat) : Int) := by rw [w64_id (by omega) (by omega)]; omega
  rw [e1, Int.toNat_natCast, show min (8 * i) 64 = 8 * i by omega, Int.fdiv_eq_ediv_of_nonneg _ (by exact_mod_cast Nat.zero_le _)]
  have e2 : ((v : Int) / 2 ^ (8 * i)) = ((v / 256 ^ i : Nat) : Int) := by
    rw [show (256 : Nat) = 2 ^ 8 from rfl, ← Nat.pow_mul]
    push_cast
    rfl
  rw [e2]
  simp [IntKind.wrap, IntKind.bits, IntKind.signed]
theorem put_l0 (v : Nat) : ∀ (i : Nat) (x : List Int) (k : Nat), i ≤ 8 → i < k → x.length + i ≤ 1000 → Q93.l0 k (v : Int) x ((i : Int) - 1) = some (x ++ toB (be i v))
  | 0, x, k + 1, _, _, _ => by
    rw [Q93.l0, if_neg (by simp)]
    simp [be, toB]
  | i + 1, x, k + 1, hi, hk, hx => by
    have e : ((i + 1 : Nat) : Int) - 1 = (i : Int) := by omega
    rw [e, Q93.l0, if_pos (decide_eq_true (by omega)), if_pos (by rw [w64_id (by omega) (by omega)]; omega), if_pos (by simp only [List.length_singleton]; omega), byteU v i (by omega), w64_id (x := (i : Int) - 1) (by omega) (by omega), put_l0 v i _ k (by omega) (by omega) (by simp; omega)]
    simp [be, toB]
theorem numP {a : List Int} {w v : Nat} (hw : w = 1 ∨ w = 2 ∨ w = 4) (ha : a.length ≤ 10000000) {k : Nat} (hk : 10 < k) : Q9.f k a (w : Int) (v : Int) = some (a ++ toB (be w v)) := by
  have h0 : Q93.f k ([] : List Int) (w : Int) (v : Int) = some (toB (be w v)) := by
    unfold Q93.f Q35.f Q102.f
    rw [if_pos (by simp), Option.bind_some]
    have hr : (if (decide ((w : Int) = 1)) = true then (some true) else (if (decide ((w : Int) = 2)) = true then (some true) else (if (decide ((w : Int) = 4)) = true then (some true) else (some (decide ((w : Int) = 8)))))) = some true := by
      rcases hw with rfl | rfl | rfl <;> rfl
    rw [hr, Option.bind_some, if_neg (by simp), w64_id (by omega) (by omega)]
    have := put_l0 v w ([] ++ []) k (by omega) (by omega) (by simp; omega)
    simpa using this
  unfold Q9.f
  rw [h0, Option.bind_some, if_pos (by rw [toB_len, be_len]; omega)]
theorem textP {a : List Int} {s : List UInt8} {n : Nat} (ha : a.length ≤ 10000000) (hs : s.length ≤ n) (hn : n ≤ 100000) : Q14.f a s (n : Int) = some (a ++ toB (slt s n)) := by
  have e : w64 ((n : Int) - (s.length : Int)) = ((n - s.length : Nat) : Int) := by rw [w64_id (by omega) (by omega)]; omega
  unfold Q14.f
  rw [if_pos (by omega), e, if_pos (by rw [List.length_append, toB_len]; omega), Int.toNat_natCast]
  unfold slt
  rw [toB_app, toB_zs, List.append_assoc]
structure NatC (c : Cfg) : Prop where
  f : c.2.2.2.1 = (cFa c : Int)
  k : c.2.2.2.2.2.2.1 = (cK c : Int)
  v : c.2.2.2.2.2.2.2 = (cV c : Int)
  b : c.2.2.2.2.1 = (cBu c : Int)
  l : c.2.2.2.2.2.1 = (cLe c : Int)
theorem OkC.int {c : Cfg} (h : OkC c) : NatC c := by
  have h1 := h.fan
  have h2 := h.key
  have h3 := h.val
  have h4 := h.buf
  have h5 := h.leaf
  constructor <;> simp only [cFa, cK, cV, cBu, cLe] <;> omega
theorem pairP {c : Cfg} (hc : OkC c) {a : List Int} {x y : List UInt8} (ha : a.length ≤ 9000000) (hx : x.length ≤ cK c) (hy : y.length ≤ cV c) {k : Nat} (hk : 10 < k) : Q10.f k c a x y = some (a ++ toB (prS (cK c) (cV c) (x, y))) := by
  obtain ⟨c1, c2, c3, c4, c5, c6, c7, c8, c9⟩ := hc.nat
  unfold Q10.f
  rw [wrapU' (by omega), wrapU' (by omega), show Q9.f k a 1 (x.length : Int) = _ from numP (w := 1) (.inl rfl) (by omega) hk, Option.bind_some, show Q9.f k (a ++ toB (be 1 x.length)) 2 (y.length : Int) = _ from numP (w := 2) (.inr (.inl rfl)) (by rw [List.length_append, toB_len, be_len]; omega) hk, Option.bind_some,
    hc.int.k, textP (by rw [List.length_append, List.length_append, toB_len, toB_len, be_len, be_len]; omega) hx (by omega), Option.bind_some, hc.int.v, textP (by rw [List.length_append, List.length_append, List.length_append, toB_len, toB_len, toB_len, be_len, be_len, slt_len hx]; omega) hy (by omega), Option.bind_some]
  unfold prS
  simp only [toB_app, List.append_assoc]
theorem frontP {a b d e : Nat} (ha : a < 256) (hb : b < 256) (hd : d < 65536) (he : e < 65536) {k : Nat} (hk : 10 < k) : Q8.f k (a : Int) (b : Int) (d : Int) (e : Int) = some (toB (be 1 a ++ (be 1 b ++ (be 2 d ++ (be 2 e ++ zs 2))))) := by
  unfold Q8.f
  rw [wrapU' (by omega), wrapU' (by omega), wrapU' (by omega), wrapU' (by omega), show Q9.f k ([] : List Int) 1 (a : Int) = _ from numP (w := 1) (.inl rfl) (by simp) hk, Option.bind_some, show Q9.f k _ 1 (b : Int) = _ from numP (w := 1) (.inl rfl) (by simp [toB_len, be_len]) hk, Option.bind_some,
    show Q9.f k _ 2 (d : Int) = _ from numP (w := 2) (.inr (.inl rfl)) (by simp [toB_len, be_len]) hk, Option.bind_some, show Q9.f k _ 2 (e : Int) = _ from numP (w := 2) (.inr (.inl rfl)) (by simp [toB_len, be_len]) hk, Option.bind_some, show Q9.f k _ 2 0 = _ from numP (w := 2) (v := 0) (.inr (.inl rfl)) (by simp [toB_len, be_len]) hk, Option.bind_some]
  have z : be 2 0 = zs 2 := by decide
  rw [z]
  simp only [toB_app, List.append_assoc, List.nil_append]
theorem cat_cons {α : Type} (f : α → List UInt8) (x : α) (l : List α) : cat f (x :: l) = f x ++ cat f l := by unfold cat; rw [List.flatMap_cons]
theorem wOuter_l0 {c : Cfg} {n : Nd} (hc : OkC c) (hr : ∀ p ∈ n.2.2.2.2, p.1.length ≤ cK c ∧ p.2.length ≤ cV c) (hl : n.2.2.2.2.length ≤ 2000) : ∀ (m i k : Nat) (x : List Int), n.2.2.2.2.length = i + m → m + 20 < k → x.length + m * 400 ≤ 9000000 → Q16.l0 k c n x (i : Int) = some (x ++ toB (cat (prS (cK c) (cV c)) (n.2.2.2.2.drop i)))
  | 0, i, k + 1, x, h, hk, hx => by
    rw [Q16.l0, if_neg (by simp only [decide_eq_true_eq]; omega), List.drop_eq_nil_of_le (by omega)]
    simp [cat, toB]
  | m + 1, i, k + 1, x, h, hk, hx => by
    obtain ⟨c1, c2, c3, c4, c5, c6, c7, c8, c9⟩ := hc.nat
    have hi : i < n.2.2.2.2.length := by omega
    have hp := hr _ (getD_mem (d := default) hi)
    rw [Q16.l0, if_pos (decide_eq_true (by omega)), if_pos (by omega), gt_nat, etaC, pairP hc (by omega) hp.1 hp.2 (by omega), Option.bind_some, w64_succ (by omega), wOuter_l0 hc hr hl m (i + 1) k _ (by omega) (by omega) (by rw [List.length_append, toB_len, prS_len hp.1 hp.2]; omega), drop_cons hi, cat_cons, toB_app, List.append_assoc]
theorem wOuterP {c : Cfg} {n : Nd} (hc : OkC c) (hr : ∀ p ∈ n.2.2.2.2, p.1.length ≤ cK c ∧ p.2.length ≤ cV c) (hl : n.2.2.2.2.length ≤ 2000) {k : Nat} (hk : 3000 < k) : Q16.f k c n = some (toB (hdO n ++ bdO c n)) := by
  have e : be 1 1 ++ (be 1 0 ++ (be 2 n.2.2.2.2.length ++ (be 2 0 ++ zs 2))) = hdO n := by
    unfold hdO
    rw [show be 2 0 = zs 2 by decide, zs_add]; rfl
  unfold Q16.f
  rw [show Q8.f k 1 0 (n.2.2.2.2.length : Int) 0 = _ from frontP (a := 1) (b := 0) (e := 0) (by omega) (by omega) (by omega) (by omega) (by omega), Option.bind_some, e, show Q16.l0 k c n (toB (hdO n)) 0 = _ from wOuter_l0 hc hr hl n.2.2.2.2.length 0 k _ (by omega) (by omega) (by rw [toB_len, hdO_len]; omega), List.drop_zero, ← toB_app]
  rfl
theorem wInner_l2 {c : Cfg} {n : Nd} (hc : OkC c) (hr : ∀ m ∈ n.2.2.2.1, m.1.length ≤ cK c ∧ m.2.2.length ≤ cV c) (hl : n.2.2.2.1.length ≤ 2000) : ∀ (m i k : Nat) (x : List Int), n.2.2.2.1.length = i + m → m + 20 < k → x.length + m * 400 ≤ 8000000 → Q15.l2 k c n x (i : Int) = some (x ++ toB (cat (msS (cK c) (cV c)) (n.2.2.2.1.drop i)))
  | 0, i, k + 1, x, h, hk, hx => by
    rw [Q15.l2, if_neg (by simp only [decide_eq_true_eq]; omega), List.drop_eq_nil_of_le (by omega)]
    simp [cat, toB]
  | m + 1, i, k + 1, x, h, hk, hx => by
    obtain ⟨c1, c2, c3, c4, c5, c6, c7, c8, c9⟩ := hc.nat
    have hi : i < n.2.2.2.1.length := by omega
    have hp := hr _ (getD_mem (d := default) hi)
    rw [Q15.l2, if_pos (decide_eq_true (by omega)), if_pos (by omega), gt_nat, etaC, show Q9.f k x 1 2 = _ from numP (w := 1) (v := 2) (.inl rfl) (by omega) (by omega), show Q9.f k x 1 1 = _ from numP (w := 1) (v := 1) (.inl rfl) (by omega) (by omega), Option.bind_some, Option.bind_some,
      pairP hc (by rw [List.length_append, toB_len, be_len]; omega) hp.1 hp.2 (by omega), pairP hc (by rw [List.length_append, toB_len, be_len]; omega) hp.1 hp.2 (by omega), Option.bind_some, Option.bind_some, w64_succ (by omega),
      wInner_l2 hc hr hl m (i + 1) k _ (by omega) (by omega) (by rw [List.length_append, List.length_append, toB_len, toB_len, be_len, prS_len hp.1 hp.2]; omega), wInner_l2 hc hr hl m (i + 1) k _ (by omega) (by omega) (by rw [List.length_append, List.length_append, toB_len, toB_len, be_len, prS_len hp.1 hp.2]; omega), drop_cons hi, cat_cons]
    unfold msS
    cases (n.2.2.2.1.getD i default).2.1
    · rw [if_neg (by simp), if_neg (by simp), show be 1 1 = [1] by decide, toB_app, List.append_assoc, List.append_assoc]; rfl
    · rw [if_pos rfl, if_pos rfl, show be 1 2 = [2] by decide, toB_app, List.append_assoc, List.append_assoc]; rfl
theorem pvS_nil (K : Nat) : pvS K [] = zs (1 + K) := by
  unfold pvS slt
  rw [show be 1 ([] : List UInt8).length = zs 1 by decide, List.nil_append, zs_add]; rfl
theorem wInner_l1z {c : Cfg} {n : Nd} (hc : OkC c) (hr : ∀ m ∈ n.2.2.2.1, m.1.length ≤ cK c ∧ m.2.2.length ≤ cV c) (hl : n.2.2.2.1.length ≤ 2000) : ∀ (m i k : Nat) (x : List Int), cFa c - 1 = i + m → n.2.2.1.length ≤ i → m + 2100 < k → x.length + m * 400 ≤ 7000000 → Q15.l1 k c n x (i : Int) = some (x ++ toB (zs ((1 + cK c) * m) ++ cat (msS (cK c) (cV c)) n.2.2.2.1))
  | 0, i, k + 1, x, h, hz, hk, hx => by
    replace hx : x.length ≤ 7000000 := by simpa using hx
    obtain ⟨c1, c2, c3, c4, c5, c6, c7, c8, c9⟩ := hc.nat
    have e : w64 (c.2.2.2.1 - 1) = ((cFa c - 1 : Nat) : Int) := by rw [hc.int.f, w64_id (by omega) (by omega)]; omega
    rw [Q15.l1, e, if_neg (by simp only [decide_eq_true_eq]; omega), show Q15.l2 k c n x 0 = _ from wInner_l2 hc hr hl n.2.2.2.1.length 0 k x (by omega) (by omega) (by omega), List.drop_zero]
    simp [zs]
  | m + 1, i, k + 1, x, h, hz, hk, hx => by
    obtain ⟨c1, c2, c3, c4, c5, c6, c7, c8, c9⟩ := hc.nat
    have e : w64 (c.2.2.2.1 - 1) = ((cFa c - 1 : Nat) : Int) := by rw [hc.int.f, w64_id (by omega) (by omega)]; omega
    have hp : (pvS (cK c) []).length = 1 + cK c := pvS_len (Nat.zero_le _)
    rw [Q15.l1, e, if_pos (decide_eq_true (by omega)), if_neg (by simp only [decide_eq_true_eq]; omega), show IntKind.u64.wrap ((([] : List UInt8).length : Nat) : Int) = ((0 : Nat) : Int) from rfl, show Q9.f k x 1 ((0 : Nat) : Int) = _ from numP (w := 1) (.inl rfl) (by omega) (by omega), Option.bind_some, hc.int.k, textP (by rw [List.length_append, toB_len, be_len]; omega) (Nat.zero_le _) (by omega), Option.bind_some, w64_succ (by omega)]
    have e2 : (x ++ toB (be 1 0)) ++ toB (slt [] (cK c)) = x ++ toB (zs (1 + cK c)) := by
      rw [List.append_assoc, ← toB_app, ← pvS_nil]; rfl
    rw [e2, wInner_l1z hc hr hl m (i + 1) k _ (by omega) (by omega) (by omega) (by rw [List.length_append, toB_len, zs_len]; omega), List.append_assoc, ← toB_app, ← List.append_assoc (zs (1 + cK c)), zs_add, show 1 + cK c + (1 + cK c) * m = (1 + cK c) * (m + 1) by rw [Nat.mul_add]; omega]
theorem wInner_l1 {c : Cfg} {n : Nd} (hc : OkC c) (hp : ∀ p ∈ n.2.2.1, p.length ≤ cK c) (hpl : n.2.2.1.length ≤ cFa c - 1) (hr : ∀ m ∈ n.2.2.2.1, m.1.length ≤ cK c ∧ m.2.2.length ≤ cV c) (hl : n.2.2.2.1.length ≤ 2000) : ∀ (m i k : Nat) (x : List Int), n.2.2.1.length = i + m → m + 2300 < k → x.length + m * 400 ≤ 6000000 → Q15.l1 k c n x (i : Int) = some (x ++ toB (cat (pvS (cK c)) (n.2.2.1.drop i) ++ (zs ((1 + cK c) * (cFa c - 1 - n.2.2.1.length)) ++ cat (msS (cK c) (cV c)) n.2.2.2.1)))
  | 0, i, k, x, h, hk, hx => by
    replace hx : x.length ≤ 6000000 := by simpa using hx
    obtain ⟨c1, c2, c3, c4, c5, c6, c7, c8, c9⟩ := hc.nat
    rw [wInner_l1z hc hr hl (cFa c - 1 - n.2.2.1.length) i k x (by omega) (by omega) (by omega) (by omega), List.drop_eq_nil_of_le (by omega)]
    simp [cat]
  | m + 1, i, k + 1, x, h, hk, hx => by
    obtain ⟨c1, c2, c3, c4, c5, c6, c7, c8, c9⟩ := hc.nat
    have hi : i < n.2.2.1.length := by omega
    have hpi := hp _ (getD_mem (d := default) hi)
    have e : w64 (c.2.2.2.1 - 1) = ((cFa c - 1 : Nat) : Int) := by rw [hc.int.f, w64_id (by omega) (by omega)]; omega
    rw [Q15.l1, e, if_pos (decide_eq_true (by omega)), if_pos (decide_eq_true (by omega)), if_pos (by omega), gt_nat, wrapU' (by omega), show Q9.f k x 1 (((n.2.2.1.getD i default).length : Nat) : Int) = _ from numP (w := 1) (.inl rfl) (by omega) (by omega), Option.bind_some, hc.int.k, textP (by rw [List.length_append, toB_len, be_len]; omega) hpi (by omega), Option.bind_some, w64_succ (by omega)]
    have e2 : (x ++ toB (be 1 (n.2.2.1.getD i default).length)) ++ toB (slt (n.2.2.1.getD i default) (cK c)) = x ++ toB (pvS (cK c) (n.2.2.1.getD i default)) := by
      rw [List.append_assoc, ← toB_app]; rfl
    rw [e2, wInner_l1 hc hp hpl hr hl m (i + 1) k _ (by omega) (by omega) (by rw [List.length_append, toB_len, pvS_len hpi]; omega), List.append_assoc, ← toB_app, drop_cons hi, cat_cons, List.append_assoc]
def rest1 (c : Cfg) (n : Nd) : List UInt8 := cat (pvS (cK c)) n.2.2.1 ++ (zs ((1 + cK c) * (cFa c - 1 - n.2.2.1.length)) ++ cat (msS (cK c) (cV c)) n.2.2.2.1)
theorem wInner_l0z {c : Cfg} {n : Nd} (hc : OkC c) (hp : ∀ p ∈ n.2.2.1, p.length ≤ cK c) (hpl : n.2.2.1.length ≤ cFa c - 1) (hr : ∀ m ∈ n.2.2.2.1, m.1.length ≤ cK c ∧ m.2.2.length ≤ cV c) (hl : n.2.2.2.1.length ≤ 2000) : ∀ (m i k : Nat) (x : List Int), cFa c = i + m → n.2.1.length ≤ i → m + 2500 < k → x.length + m * 400 ≤ 5000000 → Q15.l0 k c n x (i : Int) = some (x ++ toB (zs (4 * m) ++ rest1 c n))
  | 0, i, k + 1, x, h, hz, hk, hx => by
    replace hx : x.length ≤ 5000000 := by simpa using hx
    obtain ⟨c1, c2, c3, c4, c5, c6, c7, c8, c9⟩ := hc.nat
    rw [Q15.l0, hc.int.f, if_neg (by simp only [decide_eq_true_eq]; omega), show Q15.l1 k c n x 0 = _ from wInner_l1 hc hp hpl hr hl n.2.2.1.length 0 k x (by omega) (by omega) (by omega), List.drop_zero]
    simp [zs, rest1]
  | m + 1, i, k + 1, x, h, hz, hk, hx => by
    obtain ⟨c1, c2, c3, c4, c5, c6, c7, c8, c9⟩ := hc.nat
    rw [Q15.l0, hc.int.f, if_pos (decide_eq_true (by omega)), if_neg (by simp only [decide_eq_true_eq]; omega), show Q9.f k x 4 0 = _ from numP (w := 4) (v := 0) (.inr (.inr rfl)) (by omega) (by omega), Option.bind_some, w64_succ (by omega), show be 4 0 = zs 4 by decide,
      wInner_l0z hc hp hpl hr hl m (i + 1) k _ (by omega) (by omega) (by omega) (by rw [List.length_append, toB_len, zs_len]; omega), List.append_assoc, ← toB_app, ← List.append_assoc (zs 4), zs_add, show 4 + 4 * m = 4 * (m + 1) by omega]
theorem wInner_l0 {c : Cfg} {n : Nd} (hc : OkC c) (hkd : ∀ x ∈ n.2.1, 0 ≤ x ∧ x < 4294967296) (hkl : n.2.1.length ≤ cFa c) (hp : ∀ p ∈ n.2.2.1, p.length ≤ cK c) (hpl : n.2.2.1.length ≤ cFa c - 1) (hr : ∀ m ∈ n.2.2.2.1, m.1.length ≤ cK c ∧ m.2.2.length ≤ cV c) (hl : n.2.2.2.1.length ≤ 2000) : ∀ (m i k : Nat) (x : List Int), n.2.1.length = i + m → m + 2700 < k → x.length + m * 400 ≤ 4000000 → Q15.l0 k c n x (i : Int) = some (x ++ toB (cat kdS (n.2.1.drop i) ++ (zs (4 * (cFa c - n.2.1.length)) ++ rest1 c n)))
  | 0, i, k, x, h, hk, hx => by
    replace hx : x.length ≤ 4000000 := by simpa using hx
    obtain ⟨c1, c2, c3, c4, c5, c6, c7, c8, c9⟩ := hc.nat
    rw [wInner_l0z hc hp hpl hr hl (cFa c - n.2.1.length) i k x (by omega) (by omega) (by omega) (by omega), List.drop_eq_nil_of_le (by omega)]
    simp [cat]
  | m + 1, i, k + 1, x, h, hk, hx => by
    obtain ⟨c1, c2, c3, c4, c5, c6, c7, c8, c9⟩ := hc.nat
    have hi : i < n.2.1.length := by omega
    have hki := hkd _ (getD_mem (d := default) hi)
    obtain ⟨q, hq⟩ := Int.eq_ofNat_of_zero_le hki.1
    rw [Q15.l0, hc.int.f, if_pos (decide_eq_true (by omega)), if_pos (decide_eq_true (by omega)), if_pos (by omega), gt_nat, hq, wrapU' (by omega), show Q9.f k x 4 (q : Int) = _ from numP (w := 4) (.inr (.inr rfl)) (by omega) (by omega), Option.bind_some, w64_succ (by omega)]
    have e2 : be 4 q = kdS (n.2.1.getD i default) := by unfold kdS; rw [hq]; rfl
    rw [e2, wInner_l0 hc hkd hkl hp hpl hr hl m (i + 1) k _ (by omega) (by omega) (by rw [List.length_append, toB_len, show (kdS (n.2.1.getD i default)).length = 4 from be_len _ _]; omega), List.append_assoc, ← toB_app, drop_cons hi, cat_cons, List.append_assoc]
theorem wInnerP {c : Cfg} {n : Nd} (hc : OkC c) (hn : FitN c n) (h0 : n.1 ≠ 0) {k : Nat} (hk : 3000 < k) : Q15.f k c n = some (toB (hdI n ++ bdI c n)) := by
  obtain ⟨c1, c2, c3, c4, c5, c6, c7, c8, c9⟩ := hc.nat
  obtain ⟨a1, a2, a3, a4, a5⟩ := hn.i h0
  have hlv := hn.lv
  obtain ⟨lv, hl⟩ := Int.eq_ofNat_of_zero_le hlv.1
  have e : be 1 2 ++ (be 1 lv ++ (be 2 n.2.1.length ++ (be 2 n.2.2.2.1.length ++ zs 2))) = hdI n := by
    unfold hdI
    rw [hl, Int.toNat_natCast]; rfl
  unfold Q15.f
  rw [hl, show Q8.f k 2 (lv : Int) (n.2.1.length : Int) (n.2.2.2.1.length : Int) = _ from frontP (a := 2) (by omega) (by omega) (by omega) (by omega) (by omega), Option.bind_some, e, show Q15.l0 k c n (toB (hdI n)) 0 = _ from wInner_l0 hc hn.kd (by omega) hn.pk (by omega) hn.ms (by omega) n.2.1.length 0 k _ (by omega) (by omega) (by rw [toB_len, hdI_len]; omega), List.drop_zero, ← toB_app]
  rfl
theorem raw_len {c : Cfg} {n : Nd} (hok : okB c = true) (hn : FitN c n) : (rawS c n).length ≤ cBy c ∧ cBy c ≤ 65536 ∧ c.2.1 = (cBy c : Int) := by
  simp only [okB, Bool.and_eq_true, decide_eq_true_eq] at hok
  obtain ⟨h1, h2, h3, h4, h5, h6⟩ := hok
  have hc := szB_ok h1
  obtain ⟨c1, c2, c3, c4, c5, c6, c7, c8, c9⟩ := hc.nat
  have hi := hc.int
  have hB : c.2.1 = (cBy c : Int) := by unfold cBy; omega
  refine ⟨?_, by omega, hB⟩
  unfold rawS
  by_cases h0 : n.1 = 0
  · rw [if_pos h0, List.length_append, hdO_len, bdO_len hn]
    have hl := (hn.o h0).2.2.2
    have hm : n.2.2.2.2.length * (3 + cK c + cV c) ≤ cLe c * (3 + cK c + cV c) := Nat.mul_le_mul_right _ hl
    have : outZ c = ((8 + cLe c * (3 + cK c + cV c) : Nat) : Int) := by
      unfold outZ
      rw [hi.l, hi.k, hi.v]
      push_cast
      rfl
    omega
  · rw [if_neg h0, List.length_append, hdI_len, bdI_len hn h0]
    have hl := (hn.i h0).2.2.2.2
    have hm : n.2.2.2.1.length * (4 + cK c + cV c) ≤ cBu c * (4 + cK c + cV c) := Nat.mul_le_mul_right _ hl
    have : innZ c = ((8 + (4 + (cFa c - 1) * (5 + cK c) + cBu c * (4 + cK c + cV c)) : Nat) : Int) := by
      unfold innZ
      rw [hi.f, hi.b, hi.k, hi.v]
      have : ((cFa c : Int) - 1) = ((cFa c - 1 : Nat) : Int) := by omega
      rw [this]
      push_cast
      rfl
    have e2 : (cFa c - 1) * (5 + cK c) = 4 * (cFa c - 1) + (1 + cK c) * (cFa c - 1) := by
      rw [show 5 + cK c = 4 + (1 + cK c) by omega, Nat.mul_add, Nat.mul_comm _ 4, Nat.mul_comm (cFa c - 1) (1 + cK c)]
    omega
theorem right_fit {c : Cfg} {n : Nd} (hc : OkC c) (hkd : ∀ x ∈ n.2.1, 0 ≤ x ∧ x < 4294967296) (h : rightB c allS n = true) : FitN c n := by
  have hi := hc.int
  unfold rightB at h
  by_cases h0 : n.1 = 0
  · rw [if_pos h0] at h
    simp only [outB, prB, keyB, Bool.and_eq_true, decide_eq_true_eq, List.all_eq_true] at h
    obtain ⟨a1, a2, a3, a4, a5, a6⟩ := h
    refine ⟨by omega, hkd, fun _ => ⟨a2, a3, a4, by have := hi.l; omega⟩, fun z => absurd h0 z, fun p hp => by rw [a3] at hp; simp at hp, fun p hp => by rw [a4] at hp; simp at hp, fun p hp => ?_⟩
    have := a1 p hp
    have hk := hi.k
    have hv := hi.v
    exact ⟨by omega, by omega⟩
  · rw [if_neg h0] at h
    simp only [innB, restB, tailB, msgB, keyB, Bool.and_eq_true, decide_eq_true_eq, List.all_eq_true] at h
    obtain ⟨b0, b1, b2, b3, b4, b5, b6, b7, b8, b9, b10, b11⟩ := h
    have hk := hi.k
    have hv := hi.v
    have hf := hi.f
    have hb := hi.b
    exact ⟨by omega, hkd, fun z => absurd z h0, fun _ => ⟨b5, b6, by omega, by omega, by omega⟩, fun p hp => by have := b2 p hp; omega, fun p hp => by have := b3 p hp; omega, fun p hp => by rw [b5] at hp; simp at hp⟩
def encV (c : Cfg) (n : Nd) : List Int × Int := if okB c = true then (if rightB c allS n = true then (toB (blkS c n), 0) else ([], 3)) else ([], 2)
theorem okB_c {c : Cfg} (h : okB c = true) : OkC c := by
  simp only [okB, Bool.and_eq_true] at h
  exact szB_ok h.1
theorem encP {c : Cfg} {n : Nd} (h1 : n.2.1.length ≤ 80) (h2 : n.2.2.1.length ≤ 80) (h3 : n.2.2.2.1.length ≤ 2000) (h4 : n.2.2.2.2.length ≤ 2000) (hl : ∀ x ∈ n.2.1, 0 ≤ x ∧ x < 4294967296) : Ev (fun k => Q7.f k c n) (encV c n) := by
  have hbig : Ev (fun k => if 10000 < k then some () else none) () := ⟨10001, fun k hk => if_pos (by omega)⟩
  refine (nodeRightN (c := c) (s := allS) h1 h2 (by omega) (by omega) hl).next2 hbig fun k k1 k2 => ?_
  have k2 : 10000 < k := by
    by_cases z : 10000 < k
    · exact z
    · rw [if_neg z] at k2; cases k2
  unfold Q7.f encV
  rw [etaC, etaN, checkC, Option.bind_some]
  cases hok : okB c with
  | false => rfl
  | true =>
    have hc := okB_c hok
    rw [if_pos rfl, if_neg (by simp), if_pos rfl, Q24.f, Option.bind_some, show Q28.f k c (([] : List UInt8), ([] : List UInt8), true) n = _ from k1, Option.bind_some]
    cases hr : rightB c allS n with
    | false => rfl
    | true =>
      have hn := right_fit hc hl hr
      obtain ⟨r1, r2, r3⟩ := raw_len hok hn
      rw [if_neg (by simp), if_pos rfl]
      by_cases h0 : n.1 = 0
      · have er : rawS c n = hdO n ++ bdO c n := if_pos h0
        have e : w64 ((cBy c : Int) - ((hdO n ++ bdO c n).length : Int)) = ((cBy c - (rawS c n).length : Nat) : Int) := by rw [← er, w64_id (by omega) (by omega)]; omega
        rw [if_neg (by simp only [decide_eq_true_eq]; omega), wOuterP hc hn.rk h4 (by omega), Option.bind_some, toB_len, r3, e, if_pos (by rw [← er]; omega), Int.toNat_natCast, ← toB_zs, ← toB_app]
        unfold blkS slt
        rw [er]
      · have hlv := hn.lv
        have er : rawS c n = hdI n ++ bdI c n := if_neg h0
        have e : w64 ((cBy c : Int) - ((hdI n ++ bdI c n).length : Int)) = ((cBy c - (rawS c n).length : Nat) : Int) := by rw [← er, w64_id (by omega) (by omega)]; omega
        rw [if_pos (decide_eq_true (by omega)), wInnerP hc hn h0 (by omega), Option.bind_some, toB_len, r3, e, if_pos (by rw [← er]; omega), Int.toNat_natCast, ← toB_zs, ← toB_app]
        unfold blkS slt
        rw [er]
section
variable {c : Cfg} {n : Nd}
end
theorem rightR {c : Cfg} {n : Nd} (hn : SmallN n) {k : Nat} (hk : 20000 < k) : Q89.f k c n = some (okB c && rightB c allS n) := by
  unfold Q89.f
  rw [etaC, right9_eq c (by omega), Option.bind_some]
  cases okB c with
  | false => rfl
  | true =>
    rw [if_pos rfl, Q90.f, Option.bind_some, show Q85.f k c (([] : List UInt8), ([] : List UInt8), true) (n.1, n.2.1, n.2.2.1, n.2.2.2.1, n.2.2.2.2) = _ from right13_pure (c := c) (s := allS) hn.mid (by simp) (by simp) (by omega)]
    rfl
def rbS (s : List UInt8 × Int) (n : Nat) : List UInt8 × (List UInt8 × Int) := if s.2 = 0 then (if s.1.length < n then ([], ([], 5)) else (s.1.take n, (s.1.drop n, 0))) else ([], s)
def iS (s : List UInt8 × Int) : List Int × Int := (toB s.1, s.2)
def spS (s : List UInt8 × Int) (x : Int) : List UInt8 × Int := ([], if s.2 = 0 then x else s.2)
theorem toB_take (a : List UInt8) (n : Nat) : (toB a).take n = toB (a.take n) := by simp [toB, List.map_take]
theorem toB_drop (a : List UInt8) (n : Nat) : (toB a).drop n = toB (a.drop n) := by simp [toB, List.map_drop]
theorem spoilP (s : List UInt8 × Int) (x : Int) : Q101.f ((iS s).1, (iS s).2) x = some (iS (spS s x)) := by
  unfold Q101.f iS spS
  by_cases h : s.2 = 0 <;> simp [h, toB]
theorem rawP (s : List UInt8 × Int) {n : Nat} (hn : n ≤ 100000) : Q96.f (iS s) (n : Int) = some (toB (rbS s n).1, iS (rbS s n).2) := by
  unfold Q96.f
  rw [spoilP, spoilP, Option.bind_some, Option.bind_some]
  unfold rbS iS spS
  by_cases h : s.2 = 0
  · rw [if_neg (by simp [h]), if_neg (by simp), if_pos h]
    by_cases h2 : s.1.length < n
    · rw [if_pos (decide_eq_true (by rw [toB_len]; omega)), if_pos h2]
      simp [h, toB]
    · rw [if_neg (by simp only [toB_len, decide_eq_true_eq]; omega), if_neg h2, if_pos (by omega), if_pos (by rw [toB_len]; omega), Int.toNat_natCast]
      have : patch (List.replicate n (0 : Int)) 0 (List.replicate n (0 : Int)).length (toB s.1) = toB (s.1.take n) := by
        unfold patch
        rw [List.length_replicate, toB_len, show 0 + min n s.1.length = n by omega, List.drop_eq_nil_of_le (by simp), List.take_zero, List.nil_append, List.append_nil, toB_take]
      rw [this, toB_drop, h]
      simp
  · rw [if_pos (by simp [h]), if_neg h]
    rfl
def numS (s : List UInt8 × Int) (w : Nat) : Nat × (List UInt8 × Int) := (rdv (rbS s w).1, (rbS s w).2)
theorem rbS_len (s : List UInt8 × Int) (n : Nat) : (rbS s n).1.length ≤ n := by
  unfold rbS
  split
  · split
    · exact Nat.zero_le _
    · rw [List.length_take]; omega
  · exact Nat.zero_le _
theorem numS_lt (s : List UInt8 × Int) (w : Nat) : (numS s w).1 < 256 ^ w := Nat.lt_of_lt_of_le (rdv_lt _) (Nat.pow_le_pow_right (by omega) (rbS_len s w))
theorem rdv_snoc (l : List UInt8) (c : UInt8) : rdv (l ++ [c]) = rdv l * 256 + c.toNat := by
  unfold rdv
  rw [List.foldl_append]; rfl
theorem orb {x c : Nat} (hx : x < 4294967296) (hc : c < 256) : IntKind.u64.wrap (((BitVec.ofInt IntKind.u64.bits (IntKind.u64.wrap ((x : Int) * 2 ^ 8)) ||| (BitVec.ofInt IntKind.u64.bits (IntKind.u64.wrap (c : Int)))).toNat : Int)) = ((x * 256 + c : Nat) : Int) := by
  have e1 : (x : Int) * 2 ^ 8 = ((x * 256 : Nat) : Int) := by omega
  rw [e1, wrapU' (n := x * 256) (by omega), wrapU' (n := c) (by omega)]
  have e2 : (BitVec.ofInt IntKind.u64.bits ((x * 256 : Nat) : Int) ||| BitVec.ofInt IntKind.u64.bits (c : Int)).toNat = x * 256 + c := by
    show (BitVec.ofInt 64 ((x * 256 : Nat) : Int) ||| BitVec.ofInt 64 (c : Int)).toNat = x * 256 + c
    rw [BitVec.toNat_or, BitVec.ofInt_natCast, BitVec.ofInt_natCast, BitVec.toNat_ofNat, BitVec.toNat_ofNat, Nat.mod_eq_of_lt (by omega), Nat.mod_eq_of_lt (by omega)]
    have := Nat.shiftLeft_add_eq_or_of_lt (i := 8) (b := c) hc x
    rw [Nat.shiftLeft_eq] at this
    rw [show x * 256 = x * 2 ^ 8 from rfl, ← this]
  rw [e2, wrapU' (by omega)]
theorem num_l1 (l : List UInt8) (st : List Int × Int) (hl : l.length ≤ 4) : ∀ (m i k : Nat), l.length = i + m → m < k → Q95.l1 k (toB l, st) ((rdv (l.take i) : Nat) : Int) (i : Int) = some (((rdv l : Nat) : Int), st)
  | 0, i, k + 1, h, _ => by
    rw [Q95.l1, if_neg (by simp only [toB_len, decide_eq_true_eq]; omega), List.take_of_length_le (by omega)]
  | m + 1, i, k + 1, h, hk => by
    have hi : i < l.length := by omega
    have hv := rdv_lt (l.take i)
    have hv2 : 256 ^ (l.take i).length ≤ 256 ^ 3 := Nat.pow_le_pow_right (by omega) (by rw [List.length_take]; omega)
    have e : gt (toB l) (i : Int) = (((l[i]'hi).toNat : Nat) : Int) := by
      rw [gt_nat, List.getD_eq_getElem?_getD]
      simp [toB, hi]
    have hc := (l[i]'hi).toNat_lt
    rw [Q95.l1, if_pos (decide_eq_true (by rw [toB_len]; omega)), if_pos (by rw [toB_len]; omega), e, orb (by omega) (by omega), w64_succ (by omega), ← rdv_snoc]
    have := num_l1 l st hl m (i + 1) k (by omega) (by omega)
    rw [List.take_add_one, List.getElem?_eq_getElem hi] at this
    exact this
theorem numRd (s : List UInt8 × Int) {w : Nat} (hw : w = 1 ∨ w = 2 ∨ w = 4) {k : Nat} (hk : 10 < k) : Q95.f k ((iS s).1, (iS s).2) (w : Int) = some (((numS s w).1 : Int), ((iS (numS s w).2).1, (iS (numS s w).2).2)) := by
  unfold Q95.f Q102.f
  have hr : (if (decide ((w : Int) = 1)) = true then (some true) else (if (decide ((w : Int) = 2)) = true then (some true) else (if (decide ((w : Int) = 4)) = true then (some true) else (some (decide ((w : Int) = 8)))))) = some true := by
    rcases hw with rfl | rfl | rfl <;> rfl
  have hl := rbS_len s w
  rw [hr, Option.bind_some, if_neg (by simp), show Q96.f ((iS s).1, (iS s).2) (w : Int) = _ from rawP s (by omega), Option.bind_some]
  have := num_l1 (rbS s w).1 (iS (rbS s w).2) (by omega) (rbS s w).1.length 0 k (by omega) (by omega)
  exact this
def nzS (l : List UInt8) : Bool := l.any fun x => !decide (x = 0)
theorem nz_any (l : List UInt8) : ((toB l).any fun x => !decide (x = 0)) = nzS l := by
  unfold nzS toB
  rw [List.any_map]
  congr 1
  funext x
  have : ((x.toNat : Int) = 0) ↔ x = 0 := by
    constructor
    · intro h
      exact UInt8.toNat_inj.1 (by have : x.toNat = 0 := by omega
                                  simpa using this)
    · rintro rfl; rfl
  simp only [Function.comp, this]
theorem zerosC (l : List UInt8) {k : Nat} (hl : l.length ≤ 10000) (hk : l.length < k) : Q41.f k (toB l) = some (nzS l) := by
  obtain ⟨r, h1, h2⟩ := idx_loop (l := toB l) (F := fun k i => Q47.l0 k (toB l) i) (p := fun x : Int => !decide (x = 0)) (by rw [toB_len]; omega) (fun k i => by
    show Q47.l0 (k + 1) (toB l) i = _
    rw [Q47.l0, Q100.f, Option.bind_some]) (toB l).length 0 k (by omega) (by rw [toB_len]; exact hk)
  unfold Q41.f Q47.f
  rw [show Q47.l0 k (toB l) 0 = _ from h1, Option.bind_some, h2, List.drop_zero, nz_any]
theorem textC (l : List UInt8) {k : Nat} (hl : l.length ≤ 10000) (hk : l.length < k) : Q40.f k (toB l) = some (nzS l) := by
  obtain ⟨r, h1, h2⟩ := idx_loop (l := toB l) (F := fun k i => Q46.l0 k (toB l) i) (p := fun x : Int => !decide (x = 0)) (by rw [toB_len]; omega) (fun k i => by
    show Q46.l0 (k + 1) (toB l) i = _
    rw [Q46.l0, Q98.f, Option.bind_some]) (toB l).length 0 k (by omega) (by rw [toB_len]; exact hk)
  unfold Q40.f Q46.f
  rw [show Q46.l0 k (toB l) 0 = _ from h1, Option.bind_some, h2, List.drop_zero, nz_any]
def zerosS (s : List UInt8 × Int) (n : Nat) : List UInt8 × Int := if nzS (rbS s n).1 = true then spS (rbS s n).2 3 else (rbS s n).2
theorem zerosRd (s : List UInt8 × Int) {n : Nat} (hn : n ≤ 100) {k : Nat} (hk : 1000 < k) : Q99.f k ((iS s).1, (iS s).2) (n : Int) = some ((iS (zerosS s n)).1, (iS (zerosS s n)).2) := by
  have hl := rbS_len s n
  unfold Q99.f zerosS
  rw [show Q96.f ((iS s).1, (iS s).2) (n : Int) = _ from rawP s (by omega), Option.bind_some, zerosC _ (by omega) (by omega), Option.bind_some]
  cases nzS (rbS s n).1
  · rfl
  · rw [if_pos rfl, if_pos rfl, spoilP, Option.bind_some]
def textS (s : List UInt8 × Int) (n most : Nat) : List UInt8 × (List UInt8 × Int) := if most < n then ([], spS s 2) else if (rbS s most).1.length < most then ([], (rbS s most).2) else if nzS ((rbS s most).1.drop n) = true then ([], spS (rbS s most).2 3) else ((rbS s most).1.take n, (rbS s most).2)
theorem textRd (s : List UInt8 × Int) (n : Nat) {most : Nat} (hm : most ≤ 1000) {k : Nat} (hk : 2000 < k) : Q97.f k ((iS s).1, (iS s).2) (n : Int) (most : Int) = some ((textS s n most).1, ((iS (textS s n most).2).1, (iS (textS s n most).2).2)) := by
  have hl := rbS_len s most
  unfold Q97.f textS
  rw [if_neg (by simp), show Q96.f ((iS s).1, (iS s).2) (most : Int) = _ from rawP s (by omega), spoilP, Option.bind_some, Option.bind_some]
  by_cases h1 : most < n
  · rw [if_pos (decide_eq_true (by omega)), if_pos h1]
  · rw [if_neg (by simp only [decide_eq_true_eq]; omega), if_neg h1]
    dsimp only
    by_cases h2 : (rbS s most).1.length < most
    · rw [if_pos (decide_eq_true (by rw [toB_len]; omega)), if_pos h2]
    · rw [if_neg (by simp only [toB_len, decide_eq_true_eq]; omega), if_neg h2, if_pos (by rw [toB_len]; omega), Int.toNat_natCast, toB_drop, textC _ (by rw [List.length_drop]; omega) (by rw [List.length_drop]; omega), Option.bind_some]
      cases nzS ((rbS s most).1.drop n)
      · rw [if_neg (by simp), if_pos (by rw [toB_len]; omega), if_neg (by simp), toB_take, toS_toB]
      · rw [if_pos rfl, if_pos rfl, spoilP, Option.bind_some]
def pairS (c : Cfg) (s : List UInt8 × Int) : Pr × (List UInt8 × Int) :=
  let k := numS s 1
  let v := numS k.2 2
  let x := textS v.2 k.1 (cK c)
  let y := textS x.2 v.1 (cV c)
  ((x.1, y.1), y.2)
theorem pairRd {c : Cfg} (hc : OkC c) (s : List UInt8 × Int) {k : Nat} (hk : 2000 < k) : Q13.f k c ((iS s).1, (iS s).2) = some ((pairS c s).1.1, (pairS c s).1.2, ((iS (pairS c s).2).1, (iS (pairS c s).2).2)) := by
  obtain ⟨c1, c2, c3, c4, c5, c6, c7, c8, c9⟩ := hc.nat
  have l1 := numS_lt s 1
  have l2 := numS_lt (numS s 1).2 2
  unfold Q13.f pairS
  rw [show Q95.f k ((iS s).1, (iS s).2) 1 = _ from numRd s (w := 1) (.inl rfl) (by omega), Option.bind_some, show Q95.f k _ 2 = _ from numRd (numS s 1).2 (w := 2) (.inr (.inl rfl)) (by omega), Option.bind_some]
  dsimp only
  rw [w64_id (x := ((numS s 1).1 : Int)) (by omega) (by omega), w64_id (x := ((numS (numS s 1).2 2).1 : Int)) (by omega) (by omega), hc.int.k, hc.int.v, textRd _ _ (by omega) (by omega), Option.bind_some]
  dsimp only
  rw [textRd _ _ (by omega) (by omega), Option.bind_some]
def outS (c : Cfg) : Nat → List UInt8 × Int → List Pr → List Pr × (List UInt8 × Int)
  | 0, s, acc => (acc, s)
  | m + 1, s, acc => outS c m (pairS c s).2 (acc ++ [(pairS c s).1])
theorem outRd_l0 {c : Cfg} (hc : OkC c) (cnt : Nat) : ∀ (m i k : Nat) (s : List UInt8 × Int) (acc : List Pr), min (cLe c) cnt = i + m → m + 2100 < k → acc.length + m ≤ 5000 → Q12.l0 k c (cnt : Int) (iS s).1 (iS s).2 acc (i : Int) = some ((0, ([] : List Int), ([] : List (List UInt8)), ([] : List Msg), (outS c m s acc).1), ((iS (outS c m s acc).2).1, (iS (outS c m s acc).2).2))
  | 0, i, k + 1, s, acc, h, hk, ha => by
    have hi := hc.int
    rw [Q12.l0, hi.l, if_neg (by simp only [decide_eq_true_eq]; split <;> omega)]
    rfl
  | m + 1, i, k + 1, s, acc, h, hk, ha => by
    obtain ⟨c1, c2, c3, c4, c5, c6, c7, c8, c9⟩ := hc.nat
    have hi := hc.int
    rw [Q12.l0, etaC, hi.l, if_pos (decide_eq_true (by split <;> omega)), pairRd hc s (by omega), Option.bind_some, if_pos (by simp only [List.length_singleton]; omega), w64_succ (by omega)]
    exact outRd_l0 hc cnt m (i + 1) k (pairS c s).2 (acc ++ [(pairS c s).1]) (by omega) (by omega) (by simp; omega)
def kidsS : Nat → Nat → Nat → List UInt8 × Int → List Int → List Int × (List UInt8 × Int)
  | 0, _, _, s, acc => (acc, s)
  | m + 1, i, cnt, s, acc => kidsS m (i + 1) cnt (numS s 4).2 (if i < cnt then acc ++ [((numS s 4).1 : Int)] else acc)
def pivsS (c : Cfg) : Nat → Nat → Nat → List UInt8 × Int → List (List UInt8) → List (List UInt8) × (List UInt8 × Int)
  | 0, _, _, s, acc => (acc, s)
  | m + 1, i, cnt, s, acc => pivsS c m (i + 1) cnt (textS (numS s 1).2 (numS s 1).1 (cK c)).2 (if i + 1 < cnt then acc ++ [(textS (numS s 1).2 (numS s 1).1 (cK c)).1] else acc)
def msgsS (c : Cfg) : Nat → List UInt8 × Int → List Msg → List Msg × (List UInt8 × Int)
  | 0, s, acc => (acc, s)
  | m + 1, s, acc => msgsS c m (pairS c (numS s 1).2).2 (acc ++ [((pairS c (numS s 1).2).1.1, decide (((numS s 1).1 : Int) = 2), (pairS c (numS s 1).2).1.2)])
theorem inRd_l2 {c : Cfg} (hc : OkC c) (lv : Int) (bf : Nat) (ks : List Int) (ps : List (List UInt8)) : ∀ (m i k : Nat) (s : List UInt8 × Int) (acc : List Msg), min (cBu c) bf = i + m → m + 2100 < k → acc.length + m ≤ 5000 → Q11.l2 k c lv (bf : Int) ks ps (iS s).1 (iS s).2 acc (i : Int) = some ((lv, ks, ps, (msgsS c m s acc).1, ([] : List Pr)), ((iS (msgsS c m s acc).2).1, (iS (msgsS c m s acc).2).2))
  | 0, i, k + 1, s, acc, h, hk, ha => by
    have hi := hc.int
    rw [Q11.l2, hi.b, if_neg (by simp only [decide_eq_true_eq]; split <;> omega)]
    rfl
  | m + 1, i, k + 1, s, acc, h, hk, ha => by
    obtain ⟨c1, c2, c3, c4, c5, c6, c7, c8, c9⟩ := hc.nat
    have hi := hc.int
    rw [Q11.l2, etaC, hi.b, if_pos (decide_eq_true (by split <;> omega)), show Q95.f k ((iS s).1, (iS s).2) 1 = _ from numRd s (w := 1) (.inl rfl) (by omega), Option.bind_some]
    dsimp only
    rw [pairRd hc _ (by omega), Option.bind_some, if_pos (by simp only [List.length_singleton]; omega), w64_succ (by omega)]
    exact inRd_l2 hc lv bf ks ps m (i + 1) k _ _ (by omega) (by omega) (by simp; omega)
theorem inRd_l1 {c : Cfg} (hc : OkC c) (lv : Int) (cnt bf : Nat) (hcnt : cnt ≤ 100000) (ks : List Int) : ∀ (m i k : Nat) (s : List UInt8 × Int) (acc : List (List UInt8)), cFa c - 1 = i + m → m + 3200 < k → acc.length + m ≤ 5000 →
    Q11.l1 k c lv (cnt : Int) (bf : Int) ks (iS s).1 (iS s).2 acc (i : Int) = some ((lv, ks, (pivsS c m i cnt s acc).1, (msgsS c (min (cBu c) bf) (pivsS c m i cnt s acc).2 []).1, ([] : List Pr)), ((iS (msgsS c (min (cBu c) bf) (pivsS c m i cnt s acc).2 []).2).1, (iS (msgsS c (min (cBu c) bf) (pivsS c m i cnt s acc).2 []).2).2))
  | 0, i, k + 1, s, acc, h, hk, ha => by
    obtain ⟨c1, c2, c3, c4, c5, c6, c7, c8, c9⟩ := hc.nat
    have hi := hc.int
    rw [Q11.l1, hi.f, w64_id (x := (cFa c : Int) - 1) (by omega) (by omega), if_neg (by simp only [decide_eq_true_eq]; omega)]
    exact inRd_l2 hc lv bf ks acc (min (cBu c) bf) 0 k s [] (by omega) (by omega) (by simp; omega)
  | m + 1, i, k + 1, s, acc, h, hk, ha => by
    obtain ⟨c1, c2, c3, c4, c5, c6, c7, c8, c9⟩ := hc.nat
    have hi := hc.int
    have l1 := numS_lt s 1
    rw [Q11.l1, hi.f, w64_id (x := (cFa c : Int) - 1) (by omega) (by omega), if_pos (decide_eq_true (by omega)), show Q95.f k ((iS s).1, (iS s).2) 1 = _ from numRd s (w := 1) (.inl rfl) (by omega), Option.bind_some]
    dsimp only
    rw [w64_id (x := ((numS s 1).1 : Int)) (by omega) (by omega), hi.k, textRd _ _ (by omega) (by omega), Option.bind_some, w64_succ (by omega)]
    dsimp only
    by_cases q : i + 1 < cnt
    · rw [if_pos (decide_eq_true (by omega)), if_pos (by simp only [List.length_singleton]; omega)]
      have := inRd_l1 hc lv cnt bf hcnt ks m (i + 1) k (textS (numS s 1).2 (numS s 1).1 (cK c)).2 (acc ++ [(textS (numS s 1).2 (numS s 1).1 (cK c)).1]) (by omega) (by omega) (by simp; omega)
      rw [this, pivsS, if_pos q]
    · rw [if_neg (by simp only [decide_eq_true_eq]; omega)]
      have := inRd_l1 hc lv cnt bf hcnt ks m (i + 1) k (textS (numS s 1).2 (numS s 1).1 (cK c)).2 acc (by omega) (by omega) (by omega)
      rw [this, pivsS, if_neg q]
def inS8 (c : Cfg) (lv : Int) (cnt bf : Nat) (s : List UInt8 × Int) : Nd × (List UInt8 × Int) :=
  let a := kidsS (cFa c) 0 cnt s []
  let b := pivsS c (cFa c - 1) 0 cnt a.2 []
  let d := msgsS c (min (cBu c) bf) b.2 []
  ((lv, a.1, b.1, d.1, []), d.2)
theorem wrap32 {n : Nat} (h : n < 4294967296) : IntKind.u32.wrap (n : Int) = (n : Int) := by
  have : IntKind.u32.wrap (n : Int) = ((n % 4294967296 : Nat) : Int) := by simp [IntKind.wrap, IntKind.bits, IntKind.signed]
  rw [this, Nat.mod_eq_of_lt h]
theorem inRd_l0 {c : Cfg} (hc : OkC c) (lv : Int) (cnt bf : Nat) (hcnt : cnt ≤ 100000) : ∀ (m i k : Nat) (s : List UInt8 × Int) (acc : List Int), cFa c = i + m → m + 4000 < k → acc.length + m ≤ 5000 →
    Q11.l0 k c lv (cnt : Int) (bf : Int) (iS s).1 (iS s).2 acc (i : Int) = some ((lv, (kidsS m i cnt s acc).1, (pivsS c (cFa c - 1) 0 cnt (kidsS m i cnt s acc).2 []).1, (msgsS c (min (cBu c) bf) (pivsS c (cFa c - 1) 0 cnt (kidsS m i cnt s acc).2 []).2 []).1, ([] : List Pr)), ((iS (msgsS c (min (cBu c) bf) (pivsS c (cFa c - 1) 0 cnt (kidsS m i cnt s acc).2 []).2 []).2).1, (iS (msgsS c (min (cBu c) bf) (pivsS c (cFa c - 1) 0 cnt (kidsS m i cnt s acc).2 []).2 []).2).2))
  | 0, i, k + 1, s, acc, h, hk, ha => by
    obtain ⟨c1, c2, c3, c4, c5, c6, c7, c8, c9⟩ := hc.nat
    have hi := hc.int
    rw [Q11.l0, hi.f, if_neg (by simp only [decide_eq_true_eq]; omega)]
    exact inRd_l1 hc lv cnt bf hcnt acc (cFa c - 1) 0 k s [] (by omega) (by omega) (by simp; omega)
  | m + 1, i, k + 1, s, acc, h, hk, ha => by
    obtain ⟨c1, c2, c3, c4, c5, c6, c7, c8, c9⟩ := hc.nat
    have hi := hc.int
    have l1 := numS_lt s 4
    rw [Q11.l0, hi.f, if_pos (decide_eq_true (by omega)), show Q95.f k ((iS s).1, (iS s).2) 4 = _ from numRd s (w := 4) (.inr (.inr rfl)) (by omega), Option.bind_some, w64_succ (by omega)]
    dsimp only
    rw [wrap32 (by omega)]
    by_cases q : i < cnt
    · rw [if_pos (decide_eq_true (by omega)), if_pos (by simp only [List.length_singleton]; omega)]
      have := inRd_l0 hc lv cnt bf hcnt m (i + 1) k (numS s 4).2 (acc ++ [((numS s 4).1 : Int)]) (by omega) (by omega) (by simp; omega)
      rw [this, kidsS, if_pos q]
    · rw [if_neg (by simp only [decide_eq_true_eq]; omega)]
      have := inRd_l0 hc lv cnt bf hcnt m (i + 1) k (numS s 4).2 acc (by omega) (by omega) (by omega)
      rw [this, kidsS, if_neg q]
def readS (c : Cfg) (b : List UInt8) : Nd × (List UInt8 × Int) :=
  let a1 := numS (b, 0) 1
  let a2 := numS a1.2 1
  let a3 := numS a2.2 2
  let a4 := numS a3.2 2
  let z := zerosS a4.2 2
  if a1.1 = 1 then ((0, [], [], [], (outS c (min (cLe c) a3.1) z []).1), (outS c (min (cLe c) a3.1) z []).2)
  else if a1.1 = 2 then inS8 c (if a2.1 > 1 then (a2.1 : Int) else 1) a3.1 a4.1 z
  else ((-1, [], [], [], []), z)
theorem drop_app {α : Type} {a b : List α} {n : Nat} (h : a.length = n) : (a ++ b).drop n = b := by rw [← h, List.drop_left]
theorem take_app {α : Type} {a b : List α} {n : Nat} (h : a.length = n) : (a ++ b).take n = a := by rw [← h, List.take_left]
theorem rbS_app {a r : List UInt8} {n : Nat} (h : a.length = n) : rbS (a ++ r, 0) n = (a, (r, 0)) := by
  unfold rbS
  rw [if_pos rfl, if_neg (by simp only [List.length_append]; omega), take_app h, drop_app h]
theorem numS_be {w v : Nat} {r : List UInt8} (h : v < 256 ^ w) : numS (be w v ++ r, 0) w = (v, (r, 0)) := by
  unfold numS
  rw [rbS_app (be_len w v), rdv_be' h]
theorem nzS_zs (n : Nat) : nzS (zs n) = false := by
  unfold nzS zs
  rw [List.any_eq_false]
  intro x hx
  rw [List.mem_replicate] at hx
  simp [hx.2]
theorem zerosS_zs (n : Nat) (r : List UInt8) : zerosS (zs n ++ r, 0) n = (r, 0) := by
  unfold zerosS
  rw [rbS_app (zs_len n), if_neg (by rw [nzS_zs]; simp)]
theorem textS_slt {s r : List UInt8} {most : Nat} (h : s.length ≤ most) : textS (slt s most ++ r, 0) s.length most = (s, (r, 0)) := by
  unfold textS
  rw [rbS_app (slt_len h), if_neg (by omega), if_neg (by rw [slt_len h]; omega)]
  dsimp only
  unfold slt
  rw [drop_app rfl, take_app rfl, if_neg (by rw [nzS_zs]; simp)]
theorem pairS_prS {c : Cfg} (hc : OkC c) {p : Pr} {r : List UInt8} (h1 : p.1.length ≤ cK c) (h2 : p.2.length ≤ cV c) : pairS c (prS (cK c) (cV c) p ++ r, 0) = (p, (r, 0)) := by
  obtain ⟨c1, c2, c3, c4, c5, c6, c7, c8, c9⟩ := hc.nat
  have e : prS (cK c) (cV c) p ++ r = be 1 p.1.length ++ (be 2 p.2.length ++ (slt p.1 (cK c) ++ (slt p.2 (cV c) ++ r))) := by unfold prS; simp only [List.append_assoc]
  unfold pairS
  rw [e, numS_be (by omega)]
  dsimp only
  rw [numS_be (by omega)]
  dsimp only
  rw [textS_slt h1]
  dsimp only
  rw [textS_slt h2]
theorem cat_app {α : Type} (f : α → List UInt8) (x : α) (l : List α) (r : List UInt8) : cat f (x :: l) ++ r = f x ++ (cat f l ++ r) := by unfold cat; rw [List.flatMap_cons, List.append_assoc]
theorem outS_cat {c : Cfg} (hc : OkC c) : ∀ (l acc : List Pr) (r : List UInt8), (∀ p ∈ l, p.1.length ≤ cK c ∧ p.2.length ≤ cV c) → outS c l.length (cat (prS (cK c) (cV c)) l ++ r, 0) acc = (acc ++ l, (r, 0))
  | [], acc, r, _ => by rw [List.append_nil]; rfl
  | p :: l, acc, r, h => by
    have hp := h p (by simp)
    rw [List.length_cons, outS, cat_app, pairS_prS hc hp.1 hp.2]
    dsimp only
    rw [outS_cat hc l _ r fun q hq => h q (by simp [hq]), List.append_assoc]; rfl
theorem kidsS_zs : ∀ (z i cnt : Nat) (acc : List Int) (r : List UInt8), cnt ≤ i → kidsS z i cnt (zs (4 * z) ++ r, 0) acc = (acc, (r, 0))
  | 0, _, _, _, _, _ => rfl
  | z + 1, i, cnt, acc, r, h => by
    have e : zs (4 * (z + 1)) = be 4 0 ++ zs (4 * z) := by
      rw [show be 4 0 = zs 4 by decide, zs_add]; congr 1; omega
    rw [kidsS, e, List.append_assoc, numS_be (by decide), if_neg (by omega)]
    exact kidsS_zs z (i + 1) cnt acc r (by omega)
theorem kidsS_cat (cnt z : Nat) (r : List UInt8) : ∀ (l : List Int) (i : Nat) (acc : List Int), i + l.length = cnt → (∀ x ∈ l, 0 ≤ x ∧ x < 4294967296) → kidsS (l.length + z) i cnt (cat kdS l ++ (zs (4 * z) ++ r), 0) acc = (acc ++ l, (r, 0))
  | [], i, acc, h, _ => by
    rw [List.append_nil, List.length_nil, Nat.zero_add]
    exact kidsS_zs z i cnt acc r (by simpa using Nat.le_of_eq h.symm)
  | x :: l, i, acc, h, hx => by
    have hx0 := hx x (by simp)
    rw [List.length_cons] at h
    rw [List.length_cons, show l.length + 1 + z = (l.length + z) + 1 by omega, kidsS, cat_app]
    unfold kdS
    rw [numS_be (v := x.toNat) (by omega)]
    dsimp only
    rw [if_pos (by omega), show ((x.toNat : Nat) : Int) = x by omega]
    have := kidsS_cat cnt z r l (i + 1) (acc ++ [x]) (by omega) fun y hy => hx y (by simp [hy])
    rw [List.append_assoc] at this
    exact this
theorem pivsS_zs {c : Cfg} (hc : OkC c) : ∀ (z i cnt : Nat) (acc : List (List UInt8)) (r : List UInt8), cnt ≤ i + 1 → pivsS c z i cnt (zs ((1 + cK c) * z) ++ r, 0) acc = (acc, (r, 0))
  | 0, _, _, _, _, _ => rfl
  | z + 1, i, cnt, acc, r, h => by
    have e : zs ((1 + cK c) * (z + 1)) = be 1 0 ++ (slt [] (cK c) ++ zs ((1 + cK c) * z)) := by
      unfold slt
      rw [show be 1 0 = zs 1 by decide, List.nil_append, zs_add, zs_add, List.length_nil, Nat.mul_succ]; congr 1; omega
    have e2 : textS (slt [] (cK c) ++ (zs ((1 + cK c) * z) ++ r), 0) 0 (cK c) = (([] : List UInt8), (zs ((1 + cK c) * z) ++ r, 0)) := textS_slt (s := []) (Nat.zero_le _)
    rw [pivsS, e, List.append_assoc, List.append_assoc, numS_be (by decide)]
    dsimp only
    rw [e2, if_neg (by omega)]
    exact pivsS_zs hc z (i + 1) cnt acc r (by omega)
theorem pivsS_cat {c : Cfg} (hc : OkC c) (cnt z : Nat) (r : List UInt8) : ∀ (l : List (List UInt8)) (i : Nat) (acc : List (List UInt8)), i + l.length + 1 = cnt → (∀ x ∈ l, x.length ≤ cK c) → pivsS c (l.length + z) i cnt (cat (pvS (cK c)) l ++ (zs ((1 + cK c) * z) ++ r), 0) acc = (acc ++ l, (r, 0))
  | [], i, acc, h, _ => by
    rw [List.append_nil, List.length_nil, Nat.zero_add]
    exact pivsS_zs hc z i cnt acc r (by simpa using Nat.le_of_eq h.symm)
  | x :: l, i, acc, h, hx => by
    obtain ⟨c1, c2, c3, c4, c5, c6, c7, c8, c9⟩ := hc.nat
    have hx0 := hx x (by simp)
    rw [List.length_cons] at h
    rw [List.length_cons, show l.length + 1 + z = (l.length + z) + 1 by omega, pivsS, cat_app]
    unfold pvS
    rw [List.append_assoc, numS_be (v := x.length) (by omega)]
    dsimp only
    rw [textS_slt hx0, if_pos (by omega)]
    dsimp only
    have := pivsS_cat hc cnt z r l (i + 1) (acc ++ [x]) (by omega) fun y hy => hx y (by simp [hy])
    rw [List.append_assoc] at this
    exact this
theorem msgsS_cat {c : Cfg} (hc : OkC c) : ∀ (l acc : List Msg) (r : List UInt8), (∀ p ∈ l, p.1.length ≤ cK c ∧ p.2.2.length ≤ cV c) → msgsS c l.length (cat (msS (cK c) (cV c)) l ++ r, 0) acc = (acc ++ l, (r, 0))
  | [], acc, r, _ => by rw [List.append_nil]; rfl
  | p :: l, acc, r, h => by
    have hp := h p (by simp)
    have e : msS (cK c) (cV c) p ++ (cat (msS (cK c) (cV c)) l ++ r) = be 1 (if p.2.1 = true then 2 else 1) ++ (prS (cK c) (cV c) (p.1, p.2.2) ++ (cat (msS (cK c) (cV c)) l ++ r)) := by
      unfold msS
      cases p.2.1 <;> rfl
    rw [List.length_cons, msgsS, cat_app, e, numS_be (by split <;> decide)]
    dsimp only
    rw [pairS_prS hc (p := (p.1, p.2.2)) hp.1 hp.2]
    dsimp only
    rw [show (decide ((((if p.2.1 = true then 2 else 1 : Nat)) : Int) = 2)) = p.2.1 by cases p.2.1 <;> rfl, msgsS_cat hc l _ r fun q hq => h q (by simp [hq]), List.append_assoc]; rfl
theorem readS_blk {c : Cfg} {n : Nd} (hc : OkC c) (hn : FitN c n) : ∃ r, readS c (blkS c n) = (n, (r, 0)) := by
  obtain ⟨c1, c2, c3, c4, c5, c6, c7, c8, c9⟩ := hc.nat
  unfold blkS slt
  generalize hz : zs (cBy c - (rawS c n).length) = Z
  refine ⟨Z, ?_⟩
  by_cases h0 : n.1 = 0
  · obtain ⟨a1, a2, a3, a4⟩ := hn.o h0
    rw [show rawS c n = hdO n ++ bdO c n from if_pos h0]
    have e : hdO n ++ bdO c n ++ Z = be 1 1 ++ (be 1 0 ++ (be 2 n.2.2.2.2.length ++ (be 2 0 ++ (zs 2 ++ (cat (prS (cK c) (cV c)) n.2.2.2.2 ++ Z))))) := by
      unfold hdO bdO
      rw [show be 1 1 = [1] by decide, show be 1 0 = [0] by decide, show be 2 0 = zs 2 by decide, ← List.append_assoc (zs 2), zs_add]
      simp only [List.append_assoc, List.cons_append, List.nil_append]
    unfold readS
    rw [e, numS_be (by decide)]
    dsimp only
    rw [numS_be (by decide)]
    dsimp only
    rw [numS_be (by omega)]
    dsimp only
    rw [numS_be (by decide)]
    dsimp only
    rw [zerosS_zs, if_pos rfl, show min (cLe c) n.2.2.2.2.length = n.2.2.2.2.length by omega, outS_cat hc _ _ _ hn.rk]
    rw [List.nil_append]
    exact Prod.ext (Prod.ext h0.symm (Prod.ext a1.symm (Prod.ext a2.symm (Prod.ext a3.symm rfl)))) rfl
  · obtain ⟨a1, a2, a3, a4, a5⟩ := hn.i h0
    have hlv := hn.lv
    rw [show rawS c n = hdI n ++ bdI c n from if_neg h0]
    have e : hdI n ++ bdI c n ++ Z = be 1 2 ++ (be 1 n.1.toNat ++ (be 2 n.2.1.length ++ (be 2 n.2.2.2.1.length ++ (zs 2 ++ (cat kdS n.2.1 ++ (zs (4 * (cFa c - n.2.1.length)) ++ (cat (pvS (cK c)) n.2.2.1 ++ (zs ((1 + cK c) * (cFa c - 1 - n.2.2.1.length)) ++ (cat (msS (cK c) (cV c)) n.2.2.2.1 ++ Z))))))))) := by
      unfold hdI bdI
      rw [show be 1 2 = [2] by decide]
      simp only [List.append_assoc, List.cons_append, List.nil_append]
    unfold readS
    rw [e, numS_be (by decide)]
    dsimp only
    rw [numS_be (by omega)]
    dsimp only
    rw [numS_be (by omega)]
    dsimp only
    rw [numS_be (by omega)]
    dsimp only
    rw [zerosS_zs, if_neg (by decide), if_pos rfl]
    unfold inS8
    have k1 := kidsS_cat n.2.1.length (cFa c - n.2.1.length) (cat (pvS (cK c)) n.2.2.1 ++ (zs ((1 + cK c) * (cFa c - 1 - n.2.2.1.length)) ++ (cat (msS (cK c) (cV c)) n.2.2.2.1 ++ Z))) n.2.1 0 [] (by omega) hn.kd
    rw [show n.2.1.length + (cFa c - n.2.1.length) = cFa c by omega] at k1
    have k2 := pivsS_cat hc n.2.1.length (cFa c - 1 - n.2.2.1.length) (cat (msS (cK c) (cV c)) n.2.2.2.1 ++ Z) n.2.2.1 0 [] (by omega) hn.pk
    rw [show n.2.2.1.length + (cFa c - 1 - n.2.2.1.length) = cFa c - 1 by omega] at k2
    rw [k1]
    dsimp only
    rw [k2]
    dsimp only
    rw [show min (cBu c) n.2.2.2.1.length = n.2.2.2.1.length by omega, msgsS_cat hc _ _ _ hn.ms]
    refine Prod.ext (Prod.ext ?_ (Prod.ext rfl (Prod.ext rfl (Prod.ext rfl a1.symm)))) rfl
    show (if n.1.toNat > 1 then (n.1.toNat : Int) else 1) = n.1
    split <;> omega
theorem outS_len (c : Cfg) : ∀ (m : Nat) (s : List UInt8 × Int) (acc : List Pr), (outS c m s acc).1.length = acc.length + m
  | 0, _, _ => rfl
  | m + 1, s, acc => by rw [outS, outS_len c m, List.length_append, List.length_singleton]; omega
theorem msgsS_len (c : Cfg) : ∀ (m : Nat) (s : List UInt8 × Int) (acc : List Msg), (msgsS c m s acc).1.length = acc.length + m
  | 0, _, _ => rfl
  | m + 1, s, acc => by rw [msgsS, msgsS_len c m, List.length_append, List.length_singleton]; omega
theorem pivsS_len (c : Cfg) : ∀ (m i cnt : Nat) (s : List UInt8 × Int) (acc : List (List UInt8)), (pivsS c m i cnt s acc).1.length ≤ acc.length + m
  | 0, _, _, _, _ => Nat.le_refl _
  | m + 1, i, cnt, s, acc => by
    rw [pivsS]
    refine Nat.le_trans (pivsS_len c m _ _ _ _) ?_
    split
    · rw [List.length_append, List.length_singleton]; omega
    · omega
theorem kidsS_len : ∀ (m i cnt : Nat) (s : List UInt8 × Int) (acc : List Int), (∀ x ∈ acc, 0 ≤ x ∧ x < 4294967296) → (kidsS m i cnt s acc).1.length ≤ acc.length + m ∧ ∀ x ∈ (kidsS m i cnt s acc).1, 0 ≤ x ∧ x < 4294967296
  | 0, _, _, _, _, h => ⟨Nat.le_refl _, h⟩
  | m + 1, i, cnt, s, acc, h => by
    rw [kidsS]
    have hv := numS_lt s 4
    by_cases q : i < cnt
    · rw [if_pos q]
      obtain ⟨g1, g2⟩ := kidsS_len m (i + 1) cnt (numS s 4).2 (acc ++ [((numS s 4).1 : Int)]) (by
        intro x hx
        rcases List.mem_append.1 hx with hx | hx
        · exact h x hx
        · rw [List.mem_singleton] at hx; omega)
      rw [List.length_append, List.length_singleton] at g1
      exact ⟨by omega, g2⟩
    · rw [if_neg q]
      obtain ⟨g1, g2⟩ := kidsS_len m (i + 1) cnt (numS s 4).2 acc h
      exact ⟨by omega, g2⟩
structure Rd (n : Nd) : Prop where
  kids : n.2.1.length ≤ 64
  pivs : n.2.2.1.length ≤ 64
  buf : n.2.2.2.1.length ≤ 512
  prs : n.2.2.2.2.length ≤ 1024
  kd : ∀ x ∈ n.2.1, 0 ≤ x ∧ x < 4294967296
theorem readS_rd {c : Cfg} (hc : OkC c) (b : List UInt8) : Rd (readS c b).1 := by
  obtain ⟨c1, c2, c3, c4, c5, c6, c7, c8, c9⟩ := hc.nat
  unfold readS
  dsimp only
  split
  · refine ⟨by simp, by simp, by simp, ?_, by simp⟩
    show (outS c _ _ []).1.length ≤ 1024
    rw [outS_len, List.length_nil]; omega
  · split
    · unfold inS8
      dsimp only
      obtain ⟨g1, g2⟩ := kidsS_len (cFa c) 0 (numS (numS (numS (b, 0) 1).2 1).2 2).1 (zerosS (numS (numS (numS (numS (b, 0) 1).2 1).2 2).2 2).2 2) [] (by simp)
      rw [List.length_nil] at g1
      refine ⟨by show (kidsS _ _ _ _ _).1.length ≤ 64; omega, ?_, ?_, by simp, g2⟩
      · show (pivsS c _ _ _ _ []).1.length ≤ 64
        refine Nat.le_trans (pivsS_len c _ _ _ _ _) ?_
        rw [List.length_nil]; omega
      · show (msgsS c _ _ []).1.length ≤ 512
        rw [msgsS_len, List.length_nil]; omega
    · exact ⟨by simp, by simp, by simp, by simp, by simp⟩
theorem sEqP {k : Nat} {a b : List Int} (ha : a.length ≤ 1000000) (hk : a.length < k) : Q43.f k a b = some (decide (a = b)) := by
  unfold Q43.f
  by_cases h : a.length = b.length
  · rw [if_neg (by simp [h])]
    have := same_loop (F := fun k i => Q43.l0 k a b i) (eqb := fun x y => decide (x = y)) (fun x y => rfl) h ha (fun k i => rfl) k 0 (by omega) (by omega)
    simpa using this
  · rw [if_pos (by simp; omega)]
    have : a ≠ b := fun e => h (by rw [e])
    simp [this]
def zeroN : Nd := (0, [], [], [], [])
def decT (c : Cfg) (b : List UInt8) (n : Nd) (e : Int) : Nd × Int := if e = 0 then (if rightB c allS n = true then (if blkS c n = b then (n, 0) else (zeroN, 12)) else (zeroN, 12)) else (zeroN, 12)
def decV (c : Cfg) (b : List UInt8) : Nd × Int := if okB c = true then decT c b (readS c b).1 (readS c b).2.2 else (zeroN, 2)
theorem toB_inj {a b : List UInt8} : toB a = toB b ↔ a = b := ⟨fun e => by rw [← toS_toB a, e, toS_toB], fun e => by rw [e]⟩
theorem blk_len {c : Cfg} {n : Nd} (hok : okB c = true) (hn : FitN c n) : (blkS c n).length = cBy c := slt_len (raw_len hok hn).1
theorem tailP {c : Cfg} {b : List UInt8} (hok : okB c = true) {n : Nd} {s : List UInt8 × Int} {k : Nat} (hk : 70000 < k) (hl : ∀ x ∈ n.2.1, 0 ≤ x ∧ x < 4294967296) (he : Q7.f k c n = some (encV c n)) : ((Q94.f ((iS s).1, (iS s).2)).bind fun r9 => (if (!decide (r9 = 0)) = true then (some (zeroN, (12 : Int))) else ((Q7.f k c n).bind fun r10 => (if (!decide (r10.2 = 0)) = true then some (zeroN, (12 : Int)) else ((Q43.f k r10.1 (toB b)).bind fun r11 => (if (!r11) = true then some (zeroN, (12 : Int)) else some (n, (0 : Int)))))))) = some (decT c b n s.2) := by
  unfold Q94.f decT iS
  rw [Option.bind_some, he]
  dsimp only
  by_cases h0 : s.2 = 0
  · rw [if_neg (by simp [h0]), if_pos h0, Option.bind_some]
    unfold encV
    rw [if_pos hok]
    cases hr : rightB c allS n with
    | false => rfl
    | true =>
      have hn := right_fit (okB_c hok) hl hr
      have r2 := (raw_len hok hn).2.1
      rw [if_pos rfl, if_pos rfl]
      dsimp only
      rw [if_neg (by simp), sEqP (by rw [toB_len, blk_len hok hn]; omega) (by rw [toB_len, blk_len hok hn]; omega), Option.bind_some]
      by_cases e : blkS c n = b
      · rw [if_neg (by simp [e]), if_pos e]
      · rw [if_pos (by simp [toB_inj, e]), if_neg e]
  · rw [if_pos (by simp [h0]), if_neg h0]
theorem cloneB {l : List Int} (hl : l.length ≤ 1000000) : Q35.f l = some l := by
  unfold Q35.f
  rw [if_pos (by simp; omega)]
  simp
theorem decP {c : Cfg} {b : List UInt8} (hb : b.length ≤ 100000) : Ev (fun k => Q6.f k c (toB b)) (decV c b) := by
  by_cases hok : okB c = true
  · have hc := okB_c hok
    have hr := readS_rd hc b
    obtain ⟨k1, h1⟩ := encP (c := c) (n := (readS c b).1) (by have := hr.kids; omega) (by have := hr.pivs; omega) (by have := hr.buf; omega) (by have := hr.prs; omega) hr.kd
    refine ⟨k1 + 80000, fun k hk => ?_⟩
    have he := h1 k (by omega)
    have tl := tailP (b := b) (s := (readS c b).2) hok (show 70000 < k by omega) hr.kd he
    have hi := hc.int
    unfold decV
    rw [if_pos hok, ← tl]
    show Q6.f k c (toB b) = _
    unfold Q6.f Q92.f
    rw [etaC, checkC, Option.bind_some, if_pos hok, if_neg (by simp), cloneB (by rw [toB_len]; omega), Option.bind_some, Option.bind_some]
    dsimp only
    have l1 := numS_lt (b, 0) 1
    have l2 := numS_lt (numS (b, 0) 1).2 1
    have l3 := numS_lt (numS (numS (b, 0) 1).2 1).2 2
    have l4 := numS_lt (numS (numS (numS (b, 0) 1).2 1).2 2).2 2
    rw [show Q95.f k (toB b, (0 : Int)) 1 = _ from numRd (b, 0) (w := 1) (.inl rfl) (by omega), Option.bind_some]
    dsimp only
    rw [show Q95.f k _ 1 = _ from numRd (numS (b, 0) 1).2 (w := 1) (.inl rfl) (by omega), Option.bind_some]
    dsimp only
    rw [show Q95.f k _ 2 = _ from numRd (numS (numS (b, 0) 1).2 1).2 (w := 2) (.inr (.inl rfl)) (by omega), Option.bind_some]
    dsimp only
    rw [show Q95.f k _ 2 = _ from numRd (numS (numS (numS (b, 0) 1).2 1).2 2).2 (w := 2) (.inr (.inl rfl)) (by omega), Option.bind_some]
    dsimp only
    rw [show Q99.f k _ 2 = _ from zerosRd (numS (numS (numS (numS (b, 0) 1).2 1).2 2).2 2).2 (n := 2) (by omega) (by omega), Option.bind_some]
    dsimp only
    by_cases q1 : (numS (b, 0) 1).1 = 1
    · have er : readS c b = _ := if_pos q1
      rw [er, if_pos (decide_eq_true (by omega)), w64_id (x := ((numS (numS (numS (b, 0) 1).2 1).2 2).1 : Int)) (by omega) (by omega)]
      rw [show Q12.f k c _ (((numS (numS (numS (b, 0) 1).2 1).2 2).1 : Nat) : Int) = _ from outRd_l0 hc (numS (numS (numS (b, 0) 1).2 1).2 2).1 (min (cLe c) (numS (numS (numS (b, 0) 1).2 1).2 2).1) 0 k (zerosS (numS (numS (numS (numS (b, 0) 1).2 1).2 2).2 2).2 2) [] (by omega) (by have := hc.nat; omega) (by have := hc.nat; simp; omega), Option.bind_some]
      rfl
    · rw [if_neg (by simp only [decide_eq_true_eq]; omega)]
      by_cases q2 : (numS (b, 0) 1).1 = 2
      · have er : readS c b = _ := (if_neg q1).trans (if_pos q2)
        rw [er, if_pos (decide_eq_true (by omega)), w64_id (x := ((numS (numS (numS (b, 0) 1).2 1).2 2).1 : Int)) (by omega) (by omega), w64_id (x := ((numS (numS (b, 0) 1).2 1).1 : Int)) (by omega) (by omega), w64_id (x := ((numS (numS (numS (numS (b, 0) 1).2 1).2 2).2 2).1 : Int)) (by omega) (by omega),
          show (if (((numS (numS (b, 0) 1).2 1).1 : Nat) : Int) > 1 then (((numS (numS (b, 0) 1).2 1).1 : Nat) : Int) else 1) = (if (numS (numS (b, 0) 1).2 1).1 > 1 then (((numS (numS (b, 0) 1).2 1).1 : Nat) : Int) else 1) by split <;> split <;> omega]
        rw [show Q11.f k c _ _ _ _ = _ from inRd_l0 hc (if (numS (numS (b, 0) 1).2 1).1 > 1 then (((numS (numS (b, 0) 1).2 1).1 : Nat) : Int) else 1) (numS (numS (numS (b, 0) 1).2 1).2 2).1 (numS (numS (numS (numS (b, 0) 1).2 1).2 2).2 2).1 (by omega) (cFa c) 0 k (zerosS (numS (numS (numS (numS (b, 0) 1).2 1).2 2).2 2).2 2) [] (by omega) (by have := hc.nat; omega) (by have := hc.nat; simp; omega), Option.bind_some]
        rfl
      · have er : readS c b = _ := (if_neg q1).trans (if_neg q2)
        rw [er, if_neg (by simp only [decide_eq_true_eq]; omega)]
        rfl
  · refine ⟨0, fun k _ => ?_⟩
    show Q6.f k c (toB b) = _
    unfold Q6.f decV
    rw [etaC, checkC, Option.bind_some, if_neg hok, if_neg hok, if_pos (by simp)]
    rfl
theorem decV_of {c : Cfg} {b : List UInt8} (hok : okB c = true) : (decV c b = ((readS c b).1, 0) ∧ rightB c allS (readS c b).1 = true ∧ blkS c (readS c b).1 = b) ∨ decV c b = (zeroN, 12) := by
  unfold decV decT
  rw [if_pos hok]
  by_cases h1 : (readS c b).2.2 = 0
  · rw [if_pos h1]
    by_cases h2 : rightB c allS (readS c b).1 = true
    · rw [if_pos h2]
      by_cases h3 : blkS c (readS c b).1 = b
      · rw [if_pos h3]; exact .inl ⟨rfl, h2, h3⟩
      · rw [if_neg h3]; exact .inr rfl
    · rw [if_neg h2]; exact .inr rfl
  · rw [if_neg h1]; exact .inr rfl
theorem decV_blk {c : Cfg} {n : Nd} (hok : okB c = true) (hl : ∀ x ∈ n.2.1, 0 ≤ x ∧ x < 4294967296) (hr : rightB c allS n = true) : decV c (blkS c n) = (n, 0) := by
  obtain ⟨r, h⟩ := readS_blk (okB_c hok) (right_fit (okB_c hok) hl hr)
  unfold decV decT
  rw [if_pos hok, h]
  dsimp only
  rw [if_pos rfl, if_pos hr, if_pos rfl]
theorem same13_long {a b : Nd} (h1 : a.2.1.length ≤ 1500) (h2 : a.2.2.1.length ≤ 1500) (h3 : a.2.2.2.1.length ≤ 1500) (h4 : a.2.2.2.2.length ≤ 1500) {k : Nat} (hk : 2000 < k) : Q86.f k a b = some (decide (a = b)) := by
  unfold Q86.f
  rw [blocks_pure (by omega) (by omega), same12_pure (by omega) (by omega), refSame_pure (by omega) (by omega), same11_pure (by omega) (by omega)]
  obtain ⟨a1, a2, a3, a4, a5⟩ := a
  obtain ⟨b1, b2, b3, b4, b5⟩ := b
  simp only [Option.bind_some, decide_eq_true_eq, Prod.mk.injEq]
  by_cases e1 : a1 = b1 <;> by_cases e2 : a2 = b2 <;> by_cases e3 : a3 = b3 <;> by_cases e4 : a4 = b4 <;> by_cases e5 : a5 = b5 <;> simp [e1, e2, e3, e4, e5]
theorem awake16_pure (k : Nat) : Q67.f (k + 300) = some true := by kernel_rfl
theorem kid16 {n : Nd} (hn : Ty.fit (bytesIn tt) (.pair (.int .i64) (.pair (.slice 70 (.int .u32)) (.pair (.slice 9 .str) (.pair (.slice 49 (.pair .str (.pair .bool .str))) (.slice 51 (.pair .str .str)))))) n) : ∀ x ∈ n.2.1, 0 ≤ x ∧ x < 4294967296 := fun x hx => by
  have := hn.2.1.2.2 x hx
  simp [Ty.fit, Lit.wf] at this
  have h1 : IntKind.u32.min = 0 := rfl
  have h2 : IntKind.u32.max = 4294967295 := rfl
  omega
theorem set_ne {b : List UInt8} {j : Nat} {y : UInt8} (hj : j < b.length) (hy : y ≠ 0) : b.set j (b.getD j 0 + y) ≠ b := fun e => by
  have h := congrArg (fun l => l.getD j 0) e
  simp only [List.getD_eq_getElem?_getD, List.getElem?_set_self hj, List.getElem?_eq_getElem hj, Option.getD_some] at h
  apply hy
  have h2 : b[j] + y = b[j] + 0 := by simpa using h
  exact (UInt8.add_right_inj _).1 h2
theorem set_toB {b : List UInt8} {j : Nat} {v : Int} (hj : j < b.length) (hv : 0 ≤ v ∧ v < 256) : (toB b).set j (IntKind.u8.wrap (gt (toB b) (j : Int) + v)) = toB (b.set j (b.getD j 0 + UInt8.ofNat v.toNat)) := by
  unfold toB
  rw [List.map_set]
  congr 1
  obtain ⟨w, rfl⟩ := Int.eq_ofNat_of_zero_le hv.1
  rw [gt_nat, List.getD_eq_getElem?_getD, List.getD_eq_getElem?_getD, List.getElem?_map, List.getElem?_eq_getElem hj, Option.map_some, Option.getD_some, Option.getD_some, Int.toNat_natCast, UInt8.toNat_add]
  simp [IntKind.wrap, IntKind.bits, IntKind.signed]
theorem CodeBack_pure {u : Prop} (c : Cfg) (n : Nd) (a v : Int) (_ : u) (hn : Ty.fit (bytesIn tt) (.pair (.int .i64) (.pair (.slice 70 (.int .u32)) (.pair (.slice 9 .str) (.pair (.slice 49 (.pair .str (.pair .bool .str))) (.slice 51 (.pair .str .str)))))) n) (ha : Ty.fit (bytesIn tt) (.int .u16) a) (hv : Ty.fit (bytesIn tt) (.int .u8) v) : ∃ k, Q66.f k c n a v = some true := by
  have ha2 : 0 ≤ a ∧ a ≤ 65535 := by
    simp [Ty.fit, Lit.wf] at ha
    have h1 : IntKind.u16.min = 0 := rfl
    have h2 : IntKind.u16.max = 65535 := rfl
    omega
  have hv2 : 0 ≤ v ∧ v < 256 := by
    simp [Ty.fit, Lit.wf] at hv
    have h1 : IntKind.u8.min = 0 := rfl
    have h2 : IntKind.u8.max = 255 := rfl
    omega
  obtain ⟨g1, e1, d1⟩ := greatN_pure n (k := 20000 + 300) (by omega)
  cases g1 with
  | true =>
    refine ⟨20000 + 300, ?_⟩
    unfold Q66.f Q68.f
    rw [Option.bind_some, awake16_pure, show Q65.f (20000 + 300) (n.1, n.2.1, n.2.2.1, n.2.2.2.1, n.2.2.2.2) = _ from e1]
    simp only [Option.bind_some]
    by_cases l : c.2.1 ≤ 3000
    · rw [if_neg (by simp [l])]; try rfl
    · rw [if_pos (by simp [l])]; try rfl
  | false =>
    have sn := d1 rfl
    have kd := kid16 hn
    obtain ⟨k1, h1⟩ := encP (c := c) (n := n) sn.kids sn.pivs (by have := sn.buf; omega) (by have := sn.prs; omega) kd
    by_cases l : c.2.1 ≤ 3000
    · by_cases q : okB c = true ∧ rightB c allS n = true
      · obtain ⟨hok, hr⟩ := q
        have hc := okB_c hok
        have hf := right_fit hc kd hr
        obtain ⟨r1, r2, r3⟩ := raw_len hok hf
        have hB : 64 ≤ cBy c := by
          have := hok
          simp only [okB, Bool.and_eq_true, decide_eq_true_eq] at this
          omega
        have hl := blk_len hok hf
        generalize hj : a.toNat % cBy c = j
        have hj2 : j < (blkS c n).length := by rw [hl, ← hj]; exact Nat.mod_lt _ (by omega)
        have hjm : Int.tmod (w64 a) ((toB (blkS c n)).length : Int) = (j : Int) := by
          rw [w64_id (by omega) (by omega), toB_len, hl, ← hj]
          obtain ⟨w, rfl⟩ := Int.eq_ofNat_of_zero_le ha2.1
          rfl
        generalize hb : (blkS c n).set j ((blkS c n).getD j 0 + UInt8.ofNat v.toNat) = b
        have hbl : b.length = cBy c := by rw [← hb, List.length_set, hl]
        obtain ⟨k2, h2⟩ := decP (c := c) (b := blkS c n) (by omega)
        obtain ⟨k3, h3⟩ := decP (c := c) (b := b) (by omega)
        refine ⟨k1 + k2 + k3 + 20000 + 300, ?_⟩
        obtain ⟨g1, e1, d1⟩ := greatN_pure n (k := k1 + k2 + k3 + 20000 + 300) (by omega)
        unfold Q66.f Q68.f
        rw [Option.bind_some, awake16_pure, show Q65.f (k1 + k2 + k3 + 20000 + 300) (n.1, n.2.1, n.2.2.1, n.2.2.2.1, n.2.2.2.2) = _ from e1]
        simp only [Option.bind_some]
        rw [if_neg (by simp [l])]
        cases g1 with
        | true => rfl
        | false =>
          have ev : encV c n = (toB (blkS c n), 0) := by unfold encV; rw [if_pos hok, if_pos hr]
          rw [if_neg (by simp), show Q7.f (k1 + k2 + k3 + 20000 + 300) (c.1, c.2.1, c.2.2.1, c.2.2.2.1, c.2.2.2.2.1, c.2.2.2.2.2.1, c.2.2.2.2.2.2.1, c.2.2.2.2.2.2.2) (n.1, n.2.1, n.2.2.1, n.2.2.2.1, n.2.2.2.2) = _ from h1 _ (by omega), Option.bind_some, ev, if_neg (by simp)]
          dsimp only
          rw [show Q6.f (k1 + k2 + k3 + 20000 + 300) (c.1, c.2.1, c.2.2.1, c.2.2.2.1, c.2.2.2.2.1, c.2.2.2.2.2.1, c.2.2.2.2.2.2.1, c.2.2.2.2.2.2.2) (toB (blkS c n)) = _ from h2 _ (by omega), Option.bind_some, decV_blk hok kd hr, if_neg (by simp)]
          dsimp only
          rw [show Q86.f (k1 + k2 + k3 + 20000 + 300) (n.1, n.2.1, n.2.2.1, n.2.2.2.1, n.2.2.2.2) (n.1, n.2.1, n.2.2.1, n.2.2.2.1, n.2.2.2.2) = _ from same13_pure (a := n) (b := n) sn.short (by omega), Option.bind_some, if_neg (by simp), if_neg (by rw [toB_len, hl, r3]; simp), if_pos (by rw [toB_len, hl]; omega), hjm, if_pos (by rw [toB_len]; omega), Int.toNat_natCast, set_toB hj2 hv2, hb,
            show Q6.f (k1 + k2 + k3 + 20000 + 300) (c.1, c.2.1, c.2.2.1, c.2.2.2.1, c.2.2.2.2.1, c.2.2.2.2.2.1, c.2.2.2.2.2.2.1, c.2.2.2.2.2.2.2) (toB b) = _ from h3 _ (by omega), Option.bind_some]
          by_cases hv0 : v = 0
          · have : b = blkS c n := by
              rw [← hb, hv0]
              simp only [Int.toNat_zero]
              apply List.ext_getElem (by simp)
              intro i h1 h2
              rw [List.getElem_set]
              split
              · rename_i hij
                subst hij
                rw [List.getD_eq_getElem?_getD, List.getElem?_eq_getElem hj2]; simp
              · rfl
            rw [this, decV_blk hok kd hr, if_pos (by simp)]
            dsimp only
            rw [show Q86.f (k1 + k2 + k3 + 20000 + 300) (n.1, n.2.1, n.2.2.1, n.2.2.2.1, n.2.2.2.2) (n.1, n.2.1, n.2.2.1, n.2.2.2.1, n.2.2.2.2) = _ from same13_pure (a := n) (b := n) sn.short (by omega), Option.bind_some, if_pos (by simp [hv0])]
          · have hne : b ≠ blkS c n := by
              rw [← hb]
              refine set_ne hj2 fun e => hv0 ?_
              have := congrArg UInt8.toNat e
              simp at this
              omega
            rcases decV_of (b := b) hok with ⟨dv, dr, db⟩ | dv
            · have hx : (readS c b).1 ≠ n := fun e => hne (by rw [← db, e])
              have rd := readS_rd hc b
              rw [dv, if_pos (by simp)]
              dsimp only
              rw [show Q86.f (k1 + k2 + k3 + 20000 + 300) ((readS c b).1.1, (readS c b).1.2.1, (readS c b).1.2.2.1, (readS c b).1.2.2.2.1, (readS c b).1.2.2.2.2) (n.1, n.2.1, n.2.2.1, n.2.2.2.1, n.2.2.2.2) = _ from same13_long (a := (readS c b).1) (b := n) (by have := rd.kids; omega) (by have := rd.pivs; omega) (by have := rd.buf; omega) (by have := rd.prs; omega) (by omega), Option.bind_some, if_pos (by simp [hv0, hx])]
            · rw [dv, if_neg (by simp), if_pos (by simp), if_pos (by simp [hv0])]
      · refine ⟨k1 + 20000 + 300, ?_⟩
        obtain ⟨g1, e1, d1⟩ := greatN_pure n (k := k1 + 20000 + 300) (by omega)
        unfold Q66.f Q68.f
        rw [Option.bind_some, awake16_pure, show Q65.f (k1 + 20000 + 300) (n.1, n.2.1, n.2.2.1, n.2.2.2.1, n.2.2.2.2) = _ from e1]
        simp only [Option.bind_some]
        rw [if_neg (by simp [l])]
        cases g1 with
        | true => rfl
        | false =>
          have ev : (encV c n).2 ≠ 0 := by
            unfold encV
            split
            · split
              · exact absurd ⟨by assumption, by assumption⟩ q
              · decide
            · decide
          have rv : (okB c && rightB c allS n) = false := by
            cases h1 : okB c <;> cases h2 : rightB c allS n <;> simp_all
          rw [if_neg (by simp), show Q7.f (k1 + 20000 + 300) (c.1, c.2.1, c.2.2.1, c.2.2.2.1, c.2.2.2.2.1, c.2.2.2.2.2.1, c.2.2.2.2.2.2.1, c.2.2.2.2.2.2.2) (n.1, n.2.1, n.2.2.1, n.2.2.2.1, n.2.2.2.2) = _ from h1 _ (by omega), Option.bind_some, if_pos (by simp [ev]),
            show Q89.f (k1 + 20000 + 300) (c.1, c.2.1, c.2.2.1, c.2.2.2.1, c.2.2.2.2.1, c.2.2.2.2.2.1, c.2.2.2.2.2.2.1, c.2.2.2.2.2.2.2) (n.1, n.2.1, n.2.2.1, n.2.2.2.1, n.2.2.2.2) = _ from rightR sn (by omega), Option.bind_some, rv, if_pos (by simp)]
    · refine ⟨20000 + 300, ?_⟩
      unfold Q66.f Q68.f
      rw [Option.bind_some, awake16_pure]
      simp only [Option.bind_some]
      rw [if_pos (by simp [l])]
end Go.SK.T
