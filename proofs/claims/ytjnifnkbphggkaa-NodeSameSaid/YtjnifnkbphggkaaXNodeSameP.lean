/- The plain law behind NodeSame: what its code computes is true for all nodes. -/
import Derived.Test.YtjnifnkbphggkaaXNodeSameF1
set_option linter.unusedVariables false
set_option linter.unusedSimpArgs false
namespace Go.SK.T
open Go Go.SK
abbrev Msg := List UInt8 × Bool × List UInt8
theorem msg_eq (x y : Msg) : (decide (x.1 = y.1) && ((x.2.1 == y.2.1) && (decide (x.2.2 = y.2.2) && true))) = decide (x = y) := by
  obtain ⟨a, b, c⟩ := x
  obtain ⟨d, e, f⟩ := y
  by_cases h1 : a = d <;> by_cases h2 : b = e <;> by_cases h3 : c = f <;> simp [h1, h2, h3]
theorem refSame_l0 : ∀ (k : Nat) (a b : List Msg) (i : Nat), a.length ≤ 1000000 → a.length = b.length → i ≤ a.length → a.length - i < k → sluicegateref10_Same.l0 k a b (i : Int) = some (decide (a.drop i = b.drop i))
  | 0, a, b, i, _, _, _, h => by omega
  | k + 1, a, b, i, ha, hab, hi, hk => by
    rw [sluicegateref10_Same.l0]
    by_cases h : i < a.length
    · have g1 : (0 : Int) ≤ (i : Int) ∧ (i : Int) < (a.length : Int) := by omega
      have g2 : (0 : Int) ≤ (i : Int) ∧ (i : Int) < (b.length : Int) := by omega
      rw [if_pos (decide_eq_true g1.2), if_pos g1, if_pos g2, msg_eq, w64_succ (by omega), refSame_l0 k a b (i + 1) ha hab (by omega) (by omega), drop_cons h, drop_cons (show i < b.length by omega), gt_nat, gt_nat]
      generalize a.getD i default = x
      generalize b.getD i default = y
      by_cases e : x = y
      · simp [e]
      · simp [e]
    · rw [if_neg (by simp; omega), List.drop_eq_nil_of_le (by omega), List.drop_eq_nil_of_le (by omega)]
      rfl
theorem refSame_pure {k : Nat} {a b : List Msg} (ha : a.length ≤ 1000000) (hk : a.length < k) : sluicegateref10_Same.f k a b = some (decide (a = b)) := by
  unfold sluicegateref10_Same.f
  by_cases h : a.length = b.length
  · rw [if_neg (by simp [h])]
    have := refSame_l0 k a b 0 ha h (by omega) (by omega)
    simpa using this
  · rw [if_pos (by simp; omega)]
    have : a ≠ b := fun e => h (by rw [e])
    simp [this]
abbrev Cfg := Int × Int × Int × Int × Int × Int × Int × Int
abbrev Pr := List UInt8 × List UInt8
abbrev Nd := Int × List Int × List (List UInt8) × List Msg × List Pr
/-- what is not great -/
structure SmallN (n : Nd) : Prop where
  kids : n.2.1.length ≤ 80
  pivs : n.2.2.1.length ≤ 80
  buf : n.2.2.2.1.length ≤ 150
  prs : n.2.2.2.2.length ≤ 150
  pk : ∀ p ∈ n.2.2.1, p.length ≤ 200
  bk : ∀ m ∈ n.2.2.2.1, m.1.length ≤ 200
  rk : ∀ m ∈ n.2.2.2.2, m.1.length ≤ 200
/-- what may be asked whether it is right -/
structure MidN (n : Nd) : Prop where
  kids : n.2.1.length ≤ 80
  pivs : n.2.2.1.length ≤ 80
  buf : n.2.2.2.1.length ≤ 400
  prs : n.2.2.2.2.length ≤ 400
  pk : ∀ p ∈ n.2.2.1, p.length ≤ 300
  bk : ∀ m ∈ n.2.2.2.1, m.1.length ≤ 300
  rk : ∀ m ∈ n.2.2.2.2, m.1.length ≤ 300
theorem SmallN.mid {n : Nd} (h : SmallN n) : MidN n := ⟨h.kids, h.pivs, by have := h.buf; omega, by have := h.prs; omega, fun p hp => by have := h.pk p hp; omega, fun p hp => by have := h.bk p hp; omega, fun p hp => by have := h.rk p hp; omega⟩
theorem great_l2 (n : Nd) (hb : n.2.2.2.2.length ≤ 150) : ∀ (k i : Nat), i ≤ n.2.2.2.2.length → n.2.2.2.2.length - i < k → (∀ m ∈ n.2.2.2.2.take i, m.1.length ≤ 200) →
    ∃ g, sluicegatelaw13_Great.l2 k n (i : Int) = some g ∧ (g = false → ∀ m ∈ n.2.2.2.2, m.1.length ≤ 200)
  | 0, i, _, h, _ => by omega
  | k + 1, i, hi, hk, hm => by
    rw [sluicegatelaw13_Great.l2]
    by_cases h : i < n.2.2.2.2.length
    · have g1 : (0 : Int) ≤ (i : Int) ∧ (i : Int) < (n.2.2.2.2.length : Int) := by omega
      rw [if_pos (decide_eq_true g1.2), if_pos g1, gt_nat]
      by_cases h2 : 200 < (n.2.2.2.2.getD i default).1.length
      · exact ⟨true, by rw [if_pos (decide_eq_true (by omega))], fun h => by cases h⟩
      · rw [if_neg (by simp only [decide_eq_true_eq]; omega), w64_succ (by omega)]
        refine great_l2 n hb k (i + 1) (by omega) (by omega) fun m hm' => ?_
        rw [List.take_add_one, List.mem_append] at hm'
        rcases hm' with hm' | hm'
        · exact hm m hm'
        · rw [List.getElem?_eq_getElem h] at hm'
          simp only [Option.toList_some, List.mem_singleton] at hm'
          subst hm'
          rw [List.getD_eq_getElem?_getD, List.getElem?_eq_getElem h] at h2
          simp only [Option.getD_some] at h2
          omega
    · rw [if_neg (by simp only [decide_eq_true_eq]; omega)]
      exact ⟨false, rfl, fun _ => by rwa [List.take_of_length_le (by omega)] at hm⟩
theorem great_l1 (n : Nd) (hb : n.2.2.2.2.length ≤ 150) (hc : n.2.2.2.1.length ≤ 150) : ∀ (k i : Nat), i ≤ n.2.2.2.1.length → 200 + (n.2.2.2.1.length - i) < k → (∀ m ∈ n.2.2.2.1.take i, m.1.length ≤ 200) →
    ∃ g, sluicegatelaw13_Great.l1 k n (i : Int) = some g ∧ (g = false → (∀ m ∈ n.2.2.2.1, m.1.length ≤ 200) ∧ ∀ m ∈ n.2.2.2.2, m.1.length ≤ 200)
  | 0, i, _, h, _ => by omega
  | k + 1, i, hi, hk, hm => by
    rw [sluicegatelaw13_Great.l1]
    by_cases h : i < n.2.2.2.1.length
    · have g1 : (0 : Int) ≤ (i : Int) ∧ (i : Int) < (n.2.2.2.1.length : Int) := by omega
      rw [if_pos (decide_eq_true g1.2), if_pos g1, gt_nat]
      by_cases h2 : 200 < (n.2.2.2.1.getD i default).1.length
      · exact ⟨true, by rw [if_pos (decide_eq_true (by omega))], fun h => by cases h⟩
      · rw [if_neg (by simp only [decide_eq_true_eq]; omega), w64_succ (by omega)]
        refine great_l1 n hb hc k (i + 1) (by omega) (by omega) fun m hm' => ?_
        rw [List.take_add_one, List.mem_append] at hm'
        rcases hm' with hm' | hm'
        · exact hm m hm'
        · rw [List.getElem?_eq_getElem h] at hm'
          simp only [Option.toList_some, List.mem_singleton] at hm'
          subst hm'
          rw [List.getD_eq_getElem?_getD, List.getElem?_eq_getElem h] at h2
          simp only [Option.getD_some] at h2
          omega
    · rw [if_neg (by simp only [decide_eq_true_eq]; omega)]
      obtain ⟨g, e1, e2⟩ := great_l2 n hb k 0 (by omega) (by omega) (by simp)
      rw [List.take_of_length_le (by omega)] at hm
      exact ⟨g, e1, fun e => ⟨hm, e2 e⟩⟩
theorem great_l0 (n : Nd) (hb : n.2.2.2.2.length ≤ 150) (hc : n.2.2.2.1.length ≤ 150) (hd : n.2.2.1.length ≤ 80) : ∀ (k i : Nat), i ≤ n.2.2.1.length → 400 + (n.2.2.1.length - i) < k → (∀ m ∈ n.2.2.1.take i, m.length ≤ 200) →
    ∃ g, sluicegatelaw13_Great.l0 k n (i : Int) = some g ∧ (g = false → (∀ m ∈ n.2.2.1, m.length ≤ 200) ∧ (∀ m ∈ n.2.2.2.1, m.1.length ≤ 200) ∧ ∀ m ∈ n.2.2.2.2, m.1.length ≤ 200)
  | 0, i, _, h, _ => by omega
  | k + 1, i, hi, hk, hm => by
    rw [sluicegatelaw13_Great.l0]
    by_cases h : i < n.2.2.1.length
    · have g1 : (0 : Int) ≤ (i : Int) ∧ (i : Int) < (n.2.2.1.length : Int) := by omega
      rw [if_pos (decide_eq_true g1.2), if_pos g1, gt_nat]
      by_cases h2 : 200 < (n.2.2.1.getD i default).length
      · exact ⟨true, by rw [if_pos (decide_eq_true (by omega))], fun h => by cases h⟩
      · rw [if_neg (by simp only [decide_eq_true_eq]; omega), w64_succ (by omega)]
        refine great_l0 n hb hc hd k (i + 1) (by omega) (by omega) fun m hm' => ?_
        rw [List.take_add_one, List.mem_append] at hm'
        rcases hm' with hm' | hm'
        · exact hm m hm'
        · rw [List.getElem?_eq_getElem h] at hm'
          simp only [Option.toList_some, List.mem_singleton] at hm'
          subst hm'
          rw [List.getD_eq_getElem?_getD, List.getElem?_eq_getElem h] at h2
          simp only [Option.getD_some] at h2
          omega
    · rw [if_neg (by simp only [decide_eq_true_eq]; omega)]
      obtain ⟨g, e1, e2⟩ := great_l1 n hb hc k 0 (by omega) (by omega) (by simp)
      rw [List.take_of_length_le (by omega)] at hm
      exact ⟨g, e1, fun e => ⟨hm, e2 e⟩⟩
theorem greatN_pure (n : Nd) {k : Nat} (hk : 1000 < k) : ∃ g, sluicegatelaw13_Great.f k n = some g ∧ (g = false → SmallN n) := by
  unfold sluicegatelaw13_Great.f
  by_cases h1 : 80 < n.2.1.length
  · exact ⟨true, by rw [if_pos (decide_eq_true (by omega))], fun h => by cases h⟩
  · rw [if_neg (by simp only [decide_eq_true_eq]; omega)]
    by_cases h2 : 80 < n.2.2.1.length
    · exact ⟨true, by rw [if_pos (decide_eq_true (by omega))], fun h => by cases h⟩
    · rw [if_neg (by simp only [decide_eq_true_eq]; omega)]
      by_cases h3 : 150 < n.2.2.2.1.length
      · exact ⟨true, by rw [if_pos (decide_eq_true (by omega))], fun h => by cases h⟩
      · rw [if_neg (by simp only [decide_eq_true_eq]; omega)]
        by_cases h4 : 150 < n.2.2.2.2.length
        · exact ⟨true, by rw [if_pos (decide_eq_true (by omega))], fun h => by cases h⟩
        · rw [if_neg (by simp only [decide_eq_true_eq]; omega)]
          obtain ⟨g, e1, e2⟩ := great_l0 n (by omega) (by omega) (by omega) k 0 (by omega) (by omega) (by simp)
          exact ⟨g, e1, fun e => ⟨by omega, by omega, by omega, by omega, (e2 e).1, (e2 e).2.1, (e2 e).2.2⟩⟩
/-- settings that are right, as far as it is asked -/
structure OkC (c : Cfg) : Prop where
  fan : 8 ≤ c.2.2.2.1 ∧ c.2.2.2.1 ≤ 64
  key : 1 ≤ c.2.2.2.2.2.2.1 ∧ c.2.2.2.2.2.2.1 ≤ 64
  val : 0 ≤ c.2.2.2.2.2.2.2 ∧ c.2.2.2.2.2.2.2 ≤ 256
  buf : 16 ≤ c.2.2.2.2.1 ∧ c.2.2.2.2.1 ≤ 512
  leaf : c.2.2.2.2.1 ≤ c.2.2.2.2.2.1 ∧ c.2.2.2.2.2.1 ≤ 1024
theorem clone_pure {l : List Msg} (hl : l.length ≤ 1000000) : slices_Clone_api_Msg_api_Msg.f l = some l := by
  unfold slices_Clone_api_Msg_api_Msg.f
  rw [if_pos (by simp; omega)]
  rfl
/-- where rows are alike -/
theorem same_loop {α : Type} [Inhabited α] [DecidableEq α] {F : Nat → Int → Option Bool} {a b : List α} {eqb : α → α → Bool} (he : ∀ x y, eqb x y = decide (x = y)) (hab : a.length = b.length) (ha : a.length ≤ 1000000)
    (hF : ∀ k i, F (k + 1) i = if (decide (i < (a.length : Int))) = true then (if 0 ≤ i ∧ i < (a.length : Int) then (if 0 ≤ i ∧ i < (b.length : Int) then (if (!(eqb (gt a i) (gt b i))) = true then (some false) else (F k (w64 (i + 1)))) else none) else none) else (some true)) :
    ∀ (k i : Nat), i ≤ a.length → a.length - i < k → F k (i : Int) = some (decide (a.drop i = b.drop i))
  | 0, i, _, h => by omega
  | k + 1, i, hi, hk => by
    rw [hF]
    by_cases h : i < a.length
    · have g1 : (0 : Int) ≤ (i : Int) ∧ (i : Int) < (a.length : Int) := by omega
      have g2 : (0 : Int) ≤ (i : Int) ∧ (i : Int) < (b.length : Int) := by omega
      rw [if_pos (decide_eq_true g1.2), if_pos g1, if_pos g2, he, w64_succ (by omega), same_loop he hab ha hF k (i + 1) (by omega) (by omega), drop_cons h, drop_cons (show i < b.length by omega), gt_nat, gt_nat]
      generalize a.getD i default = x
      generalize b.getD i default = y
      by_cases e : x = y
      · simp [e]
      · simp [e]
    · rw [if_neg (by simp; omega), List.drop_eq_nil_of_le (by omega), List.drop_eq_nil_of_le (by omega)]
      rfl
theorem blocks_pure {k : Nat} {a b : List Int} (ha : a.length ≤ 1000000) (hk : a.length < k) : sluicegateref13_Blocks.f k a b = some (decide (a = b)) := by
  unfold sluicegateref13_Blocks.f
  by_cases h : a.length = b.length
  · rw [if_neg (by simp [h])]
    have := same_loop (F := fun k i => sluicegateref13_Blocks.l0 k a b i) (eqb := fun x y => decide (x = y)) (fun x y => rfl) h ha (fun k i => rfl) k 0 (by omega) (by omega)
    simpa using this
  · rw [if_pos (by simp; omega)]
    have : a ≠ b := fun e => h (by rw [e])
    simp [this]
theorem same12_pure {k : Nat} {a b : List (List UInt8)} (ha : a.length ≤ 1000000) (hk : a.length < k) : sluicegateref12_Same.f k a b = some (decide (a = b)) := by
  unfold sluicegateref12_Same.f
  by_cases h : a.length = b.length
  · rw [if_neg (by simp [h])]
    have := same_loop (F := fun k i => sluicegateref12_Same.l0 k a b i) (eqb := fun x y => decide (x = y)) (fun x y => rfl) h ha (fun k i => rfl) k 0 (by omega) (by omega)
    simpa using this
  · rw [if_pos (by simp; omega)]
    have : a ≠ b := fun e => h (by rw [e])
    simp [this]
theorem pr_eq (x y : Pr) : (decide (x.1 = y.1) && (decide (x.2 = y.2) && true)) = decide (x = y) := by
  obtain ⟨a, b⟩ := x
  obtain ⟨d, e⟩ := y
  by_cases h1 : a = d <;> by_cases h2 : b = e <;> simp [h1, h2]
theorem same11_pure {k : Nat} {a b : List Pr} (ha : a.length ≤ 1000000) (hk : a.length < k) : sluicegateref11_Same.f k a b = some (decide (a = b)) := by
  unfold sluicegateref11_Same.f
  by_cases h : a.length = b.length
  · rw [if_neg (by simp [h])]
    have := same_loop (F := fun k i => sluicegateref11_Same.l0 k a b i) (eqb := fun x y => decide (x.1 = y.1) && (decide (x.2 = y.2) && true)) pr_eq h ha (fun k i => rfl) k 0 (by omega) (by omega)
    simpa using this
  · rw [if_pos (by simp; omega)]
    have : a ≠ b := fun e => h (by rw [e])
    simp [this]
/-- the rows are no longer than this -/
structure Short (n : Nd) : Prop where
  kids : n.2.1.length ≤ 1000
  pivs : n.2.2.1.length ≤ 1000
  buf : n.2.2.2.1.length ≤ 1000
  prs : n.2.2.2.2.length ≤ 1000
theorem SmallN.short {n : Nd} (h : SmallN n) : Short n := ⟨by have := h.kids; omega, by have := h.pivs; omega, by have := h.buf; omega, by have := h.prs; omega⟩
instance decNd4 : DecidableEq (List Msg × List Pr) := instDecidableEqProd
instance decNd3 : DecidableEq (List (List UInt8) × List Msg × List Pr) := instDecidableEqProd
instance decNd2 : DecidableEq (List Int × List (List UInt8) × List Msg × List Pr) := instDecidableEqProd
instance decNd1 : DecidableEq Nd := instDecidableEqProd
theorem same13_pure {a b : Nd} (h : Short a) {k : Nat} (hk : 2000 < k) : sluicegateref13_Same.f k a b = some (decide (a = b)) := by
  have h1 := h.kids
  have h2 := h.pivs
  have h3 := h.buf
  have h4 := h.prs
  unfold sluicegateref13_Same.f
  rw [blocks_pure (by omega) (by omega), same12_pure (by omega) (by omega), refSame_pure (by omega) (by omega), same11_pure (by omega) (by omega)]
  obtain ⟨a1, a2, a3, a4, a5⟩ := a
  obtain ⟨b1, b2, b3, b4, b5⟩ := b
  simp only [Option.bind_some, decide_eq_true_eq, Prod.mk.injEq]
  by_cases e1 : a1 = b1 <;> by_cases e2 : a2 = b2 <;> by_cases e3 : a3 = b3 <;> by_cases e4 : a4 = b4 <;> by_cases e5 : a5 = b5 <;> simp [e1, e2, e3, e4, e5]
theorem clone32_pure {l : List Int} (hl : l.length ≤ 1000000) : slices_Clone_uint32_uint32.f l = some l := by
  unfold slices_Clone_uint32_uint32.f
  rw [if_pos (by simp; omega)]
  rfl
theorem cloneS_pure {l : List (List UInt8)} (hl : l.length ≤ 1000000) : slices_Clone_string_string.f l = some l := by
  unfold slices_Clone_string_string.f
  rw [if_pos (by simp; omega)]
  rfl
theorem cloneP_pure {l : List Pr} (hl : l.length ≤ 1000000) : slices_Clone_api_Pair_api_Pair.f l = some l := by
  unfold slices_Clone_api_Pair_api_Pair.f
  rw [if_pos (by simp; omega)]
  rfl
theorem nodeClone_pure {a : Nd} (ha : Short a) : node_Clone.f a = some a := by
  have h1 := ha.kids
  have h2 := ha.pivs
  have h3 := ha.buf
  have h4 := ha.prs
  unfold node_Clone.f
  rw [clone32_pure (by omega), cloneS_pure (by omega), clone_pure (by omega), cloneP_pure (by omega)]
  rfl
/-- joined -/
def joinN (a : Nd) (p : List UInt8) (b : Nd) : Nd × Bool :=
  if a.1 = b.1 then ((a.1, a.2.1 ++ b.2.1, if 0 < a.1 then a.2.2.1 ++ [p] ++ b.2.2.1 else a.2.2.1, a.2.2.2.1 ++ b.2.2.2.1, a.2.2.2.2 ++ b.2.2.2.2), true) else ((0, [], [], [], []), false)
theorem short_join {a b : Nd} (p : List UInt8) (ha : SmallN a) (hb : SmallN b) : Short (joinN a p b).1 := by
  have h1 := ha.kids
  have h2 := ha.pivs
  have h3 := ha.buf
  have h4 := ha.prs
  have g1 := hb.kids
  have g2 := hb.pivs
  have g3 := hb.buf
  have g4 := hb.prs
  unfold joinN
  by_cases e : a.1 = b.1
  · rw [if_pos e]
    refine ⟨?_, ?_, ?_, ?_⟩
    · simp; omega
    · by_cases e0 : 0 < a.1
      · simp [e0]; omega
      · simp [e0]; omega
    · simp; omega
    · simp; omega
  · rw [if_neg e]
    exact ⟨by simp, by simp, by simp, by simp⟩
def fitsN (c : Cfg) (a b : Nd) : Bool := decide (a.1 = b.1) && (if a.1 = 0 then decide (2 * ((a.2.2.2.2.length + b.2.2.2.2.length : Nat) : Int) ≤ c.2.2.2.2.2.1) else decide (2 * ((a.2.1.length + b.2.1.length : Nat) : Int) ≤ c.2.2.2.1) && decide (((a.2.2.2.1.length + b.2.2.2.1.length : Nat) : Int) ≤ c.2.2.2.2.1))
theorem nodeSame_pure {a b : Nd} (h : Short a) {k : Nat} (hk : 2000 < k) : node_Same.f k a b = some (decide (a = b)) := by
  have h1 := h.kids
  have h2 := h.pivs
  have h3 := h.buf
  have h4 := h.prs
  have e1 : slices_Equal_uint32_uint32.f k a.2.1 b.2.1 = some (decide (a.2.1 = b.2.1)) := by
    unfold slices_Equal_uint32_uint32.f
    by_cases h : a.2.1.length = b.2.1.length
    · rw [if_neg (by simp [h])]
      have := same_loop (F := fun k i => slices_Equal_uint32_uint32.l0 k a.2.1 b.2.1 i) (eqb := fun x y => decide (x = y)) (fun x y => rfl) h (by omega) (fun k i => rfl) k 0 (by omega) (by omega)
      simpa using this
    · rw [if_pos (by simp; omega)]
      have : a.2.1 ≠ b.2.1 := fun e => h (by rw [e])
      simp [this]
  have e2 : slices_Equal_string_string.f k a.2.2.1 b.2.2.1 = some (decide (a.2.2.1 = b.2.2.1)) := by
    unfold slices_Equal_string_string.f
    by_cases h : a.2.2.1.length = b.2.2.1.length
    · rw [if_neg (by simp [h])]
      have := same_loop (F := fun k i => slices_Equal_string_string.l0 k a.2.2.1 b.2.2.1 i) (eqb := fun x y => decide (x = y)) (fun x y => rfl) h (by omega) (fun k i => rfl) k 0 (by omega) (by omega)
      simpa using this
    · rw [if_pos (by simp; omega)]
      have : a.2.2.1 ≠ b.2.2.1 := fun e => h (by rw [e])
      simp [this]
  have e3 : buf_Same.f k a.2.2.2.1 b.2.2.2.1 = some (decide (a.2.2.2.1 = b.2.2.2.1)) := by
    unfold buf_Same.f slices_Equal_api_Msg_api_Msg.f
    by_cases h : a.2.2.2.1.length = b.2.2.2.1.length
    · rw [if_neg (by simp [h])]
      have := same_loop (F := fun k i => slices_Equal_api_Msg_api_Msg.l0 k a.2.2.2.1 b.2.2.2.1 i) (eqb := fun x y => decide (x.1 = y.1) && ((x.2.1 == y.2.1) && (decide (x.2.2 = y.2.2) && true))) msg_eq h (by omega) (fun k i => rfl) k 0 (by omega) (by omega)
      simp only [Int.natCast_zero, Int.ofNat_eq_natCast, List.drop_zero] at this
      rw [this]
      rfl
    · rw [if_pos (by simp; omega)]
      have : a.2.2.2.1 ≠ b.2.2.2.1 := fun e => h (by rw [e])
      simp [this]
  have e4 : leaf_Same.f k a.2.2.2.2 b.2.2.2.2 = some (decide (a.2.2.2.2 = b.2.2.2.2)) := by
    unfold leaf_Same.f slices_Equal_api_Pair_api_Pair.f
    by_cases h : a.2.2.2.2.length = b.2.2.2.2.length
    · rw [if_neg (by simp [h])]
      have := same_loop (F := fun k i => slices_Equal_api_Pair_api_Pair.l0 k a.2.2.2.2 b.2.2.2.2 i) (eqb := fun x y => decide (x.1 = y.1) && (decide (x.2 = y.2) && true)) pr_eq h (by omega) (fun k i => rfl) k 0 (by omega) (by omega)
      simp only [Int.natCast_zero, Int.ofNat_eq_natCast, List.drop_zero] at this
      rw [this]
      rfl
    · rw [if_pos (by simp; omega)]
      have : a.2.2.2.2 ≠ b.2.2.2.2 := fun e => h (by rw [e])
      simp [this]
  unfold node_Same.f
  rw [e1, e2, e3, e4]
  obtain ⟨a1, a2, a3, a4, a5⟩ := a
  obtain ⟨b1, b2, b3, b4, b5⟩ := b
  simp only [Option.bind_some, decide_eq_true_eq, Prod.mk.injEq]
  by_cases e1 : a1 = b1 <;> by_cases e2 : a2 = b2 <;> by_cases e3 : a3 = b3 <;> by_cases e4 : a4 = b4 <;> by_cases e5 : a5 = b5 <;> simp [e1, e2, e3, e4, e5]
theorem awake13_pure (k : Nat) : sluicegatelaw13_awake.f (k + 40) = some true := by rfl
theorem poke {c : Int} {b : Prop} [Decidable b] {X Y r : Option Bool} (hb : b) (hX : X = r) (hY : Y = r) : (if decide (0 < c) = true then (if 0 < c then (if b then X else none) else none) else Y) = r := by
  by_cases h : 0 < c
  · rw [if_pos (decide_eq_true h), if_pos h, if_pos hb, hX]
  · rw [if_neg (by simpa using h), hY]
theorem poke0 {c : Int} {X Y r : Option Bool} (hX : X = r) (hY : Y = r) : (if decide (0 < c) = true then (if 0 < c then X else none) else Y) = r := by
  by_cases h : 0 < c
  · rw [if_pos (decide_eq_true h), if_pos h, hX]
  · rw [if_neg (by simpa using h), hY]
theorem gt_all {α : Type} [Inhabited α] {l : List α} {P : α → Prop} (h : ∀ x ∈ l, P x) (hd : P default) : P (gt l 0) := by
  cases l with
  | nil => exact hd
  | cons a r => exact h a (by simp)
theorem NodeSame_pure {u : Prop} (a b : Nd) (ha : Ty.fit (bytesIn tt) (.pair (.int .i64) (.pair (.slice 46 (.int .u32)) (.pair (.slice 9 .str) (.pair (.slice 48 (.pair .str (.pair .bool .str))) (.slice 50 (.pair .str .str)))))) a) (_ : u) : ∃ k, sluicegatelaw13_NodeSame.f k a b = some true := by
  refine ⟨20000 + 40, ?_⟩
  obtain ⟨g1, e1, d1⟩ := greatN_pure a (k := 20000 + 40) (by omega)
  obtain ⟨g2, e2, d2⟩ := greatN_pure b (k := 20000 + 40) (by omega)
  unfold sluicegatelaw13_NodeSame.f
  rw [show sluicegatelaw13_Great.f (20000 + 40) (a.1, a.2.1, a.2.2.1, a.2.2.2.1, a.2.2.2.2) = _ from e1, Option.bind_some, awake13_pure]
  cases g1 with
  | true => rfl
  | false =>
    rw [if_neg (by simp), show sluicegatelaw13_Great.f (20000 + 40) (b.1, b.2.1, b.2.2.1, b.2.2.2.1, b.2.2.2.2) = _ from e2, Option.bind_some]
    cases g2 with
    | true => rfl
    | false =>
      have sa := (d1 rfl).short
      have na := d1 rfl
      rw [if_neg (by simp), show node_Clone.f (a.1, a.2.1, a.2.2.1, a.2.2.2.1, a.2.2.2.2) = _ from nodeClone_pure sa, Option.bind_some, Option.bind_some,
        show node_Same.f (20000 + 40) (a.1, a.2.1, a.2.2.1, a.2.2.2.1, a.2.2.2.2) (b.1, b.2.1, b.2.2.1, b.2.2.2.1, b.2.2.2.2) = _ from nodeSame_pure sa (by omega), Option.bind_some,
        show sluicegateref13_Same.f (20000 + 40) (a.1, a.2.1, a.2.2.1, a.2.2.2.1, a.2.2.2.2) (b.1, b.2.1, b.2.2.1, b.2.2.2.1, b.2.2.2.2) = _ from same13_pure sa (by omega), Option.bind_some, if_neg (by simp)]
      have fin : ((sluicegateref13_Same.f (20000 + 40) (a.1, a.2.1, a.2.2.1, a.2.2.2.1, a.2.2.2.2) (a.1, a.2.1, a.2.2.1, a.2.2.2.1, a.2.2.2.2)).bind fun r10 => (if r10 = true then ((some true).bind fun r11 => (some r11)) else (some false))) = some true := by
        rw [show sluicegateref13_Same.f (20000 + 40) (a.1, a.2.1, a.2.2.1, a.2.2.2.1, a.2.2.2.2) (a.1, a.2.1, a.2.2.1, a.2.2.2.1, a.2.2.2.2) = _ from same13_pure (a := a) (b := a) sa (by omega), decide_eq_true rfl]
        rfl
      rw [show sluicegateref13_Same.f (20000 + 40) (a.1, a.2.1, a.2.2.1, a.2.2.2.1, a.2.2.2.2) (a.1, a.2.1, a.2.2.1, a.2.2.2.1, a.2.2.2.2) = _ from same13_pure (a := a) (b := a) sa (by omega), decide_eq_true rfl] at fin ⊢
      have b1 : ((gt a.2.2.2.1 0).1).length + ([120] : List UInt8).length ≤ 9223372036854775807 := gt_all (P := fun m : Msg => m.1.length + ([120] : List UInt8).length ≤ 9223372036854775807) (fun m hm => by have := na.bk m hm; simp only [List.length_singleton]; omega) (by decide)
      have b2 : ((gt a.2.2.2.2 0).2).length + ([120] : List UInt8).length ≤ 9223372036854775807 := gt_all (P := fun m : Pr => m.2.length + ([120] : List UInt8).length ≤ 9223372036854775807) (fun m hm => by have : m.2.length ≤ 140737488351232 := (ha.2.2.2.2.2.2 m hm).2; simp only [List.length_singleton]; omega) (by decide)
      have b3 : (gt a.2.2.1 0).length + ([120] : List UInt8).length ≤ 9223372036854775807 := gt_all (P := fun m : List UInt8 => m.length + ([120] : List UInt8).length ≤ 9223372036854775807) (fun m hm => by have := na.pk m hm; simp only [List.length_singleton]; omega) (by decide)
      rw [Option.bind_some, if_neg (by decide)]
      exact poke0 (poke b1 (poke b2 (poke b3 fin fin) (poke b3 fin fin)) (poke b2 (poke b3 fin fin) (poke b3 fin fin))) (poke b1 (poke b2 (poke b3 fin fin) (poke b3 fin fin)) (poke b2 (poke b3 fin fin) (poke b3 fin fin)))
end Go.SK.T
