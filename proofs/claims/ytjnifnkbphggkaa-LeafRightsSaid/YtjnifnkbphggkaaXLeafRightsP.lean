/- The plain law behind LeafRights: what its code computes is true for all lists of pairs and keys. -/
import Derived.Test.YtjnifnkbphggkaaXLeafRightsF0
set_option linter.unusedVariables false
set_option linter.unusedSimpArgs false
namespace Go.SK.T
open Go Go.SK
theorem compare_l0 : ∀ (k : Nat) (a b : List UInt8) (i : Nat), a.length ≤ 4611686018427387904 → b.length ≤ 4611686018427387904 → i ≤ a.length → i ≤ b.length → a.length - i < k →
    sluicegateref01_Compare.l0 k a b (i : Int) = some (scmp (a.drop i) (b.drop i))
  | 0, a, b, i, _, _, _, _, h => by omega
  | k + 1, a, b, i, ha, hb, hia, hib, hk => by
    unfold sluicegateref01_Compare.l0
    by_cases h1 : i < a.length
    · by_cases h2 : i < b.length
      · have g1 : (0 : Int) ≤ (i : Int) ∧ (i : Int) < (a.length : Int) := by omega
        have g2 : (0 : Int) ≤ (i : Int) ∧ (i : Int) < (b.length : Int) := by omega
        have w : w64 ((i : Int) + 1) = ((i + 1 : Nat) : Int) := by rw [w64_id (by omega) (by omega)]; omega
        have ih := compare_l0 k a b (i + 1) ha hb (by omega) (by omega) (by omega)
        simp only [g1.2, g2.2, g1, g2, decide_true, if_true, and_self, w, ih, gtb_lt, Int.toNat_natCast, drop_byte h1, drop_byte h2, scmp_cons, decide_eq_true_eq]
        split
        · rfl
        · split <;> rfl
      · have g1 : (i : Int) < (a.length : Int) := by omega
        have g2 : ¬ (i : Int) < (b.length : Int) := by omega
        have e : b.drop i = [] := List.drop_eq_nil_of_le (by omega)
        have z1 : ¬ (a.length : Int) < (b.length : Int) := by omega
        have z2 : (b.length : Int) < (a.length : Int) := by omega
        have z3 : ¬ (a.drop i).length = 0 := by rw [List.length_drop]; omega
        simp [g1, g2, e, z1, z2, scmp_nil_right, z3]
        omega
    · have g1 : ¬ (i : Int) < (a.length : Int) := by omega
      have e : a.drop i = [] := List.drop_eq_nil_of_le (by omega)
      have z : (b.drop i).length = b.length - i := List.length_drop ..
      simp only [g1, e, scmp_nil_left, z, decide_false, Bool.false_eq_true, if_false, decide_eq_true_eq]
      by_cases h2 : b.length = i
      · have z1 : ¬ (a.length : Int) < (b.length : Int) := by omega
        have z2 : ¬ (b.length : Int) < (a.length : Int) := by omega
        have h3 : a.length = i := by omega
        simp [h2, h3]
      · have z1 : (a.length : Int) < (b.length : Int) := by omega
        have z2 : ¬ b.length - i = 0 := by omega
        simp [z1, z2]
theorem compare_pure {k : Nat} {a b : List UInt8} (ha : a.length ≤ 2000) (hb : b.length ≤ 2000) (hk : 2000 < k) : sluicegateref01_Compare.f k a b = some (scmp a b) := by
  have := compare_l0 k a b 0 (by omega) (by omega) (by omega) (by omega) (by omega)
  simpa [sluicegateref01_Compare.f] using this
abbrev Msg := List UInt8 × Bool × List UInt8
theorem msg_eq (x y : Msg) : (decide (x.1 = y.1) && ((x.2.1 == y.2.1) && (decide (x.2.2 = y.2.2) && true))) = decide (x = y) := by
  obtain ⟨a, b, c⟩ := x
  obtain ⟨d, e, f⟩ := y
  by_cases h1 : a = d <;> by_cases h2 : b = e <;> by_cases h3 : c = f <;> simp [h1, h2, h3]
abbrev Pr := List UInt8 × List UInt8
abbrev pk (p : Pr) : List UInt8 := p.1
def okP (l : List Pr) : Prop := l.length ≤ 120 ∧ ∀ m ∈ l, m.1.length ≤ 300
def okM (l : List Msg) : Prop := l.length ≤ 120 ∧ ∀ m ∈ l, m.1.length ≤ 300
theorem mem_take_one {α : Type} [Inhabited α] {l : List α} {i : Nat} {m : α} (h : i < l.length) (hm : m ∈ l.take (i + 1)) : m ∈ l.take i ∨ m = l.getD i default := by
  rw [take_get h, List.mem_append] at hm
  exact hm.imp id (by simp)
theorem great11_l1 (a : List Pr) (m : List Msg) : ∀ (k i : Nat), i ≤ 200 → 200 - i < k → ∃ g, sluicegatelaw11_great.l1 k a m (i : Int) = some g ∧ (g = false → a.length ≤ 120)
  | 0, i, _, h => by omega
  | k + 1, i, hi, hk => by
    rw [sluicegatelaw11_great.l1]
    have fin : ∃ g, (if (decide (120 < (a.length : Int))) = true then (some true) else (some (decide (120 < (m.length : Int))))) = some g ∧ (g = false → a.length ≤ 120) := by
      by_cases h : 120 < a.length
      · exact ⟨true, by rw [if_pos (decide_eq_true (by omega))], fun h => by cases h⟩
      · exact ⟨_, by rw [if_neg (by simp only [decide_eq_true_eq]; omega)], fun _ => by omega⟩
    by_cases h : (i : Int) < (m.length : Int)
    · rw [if_pos (decide_eq_true h)]
      by_cases h2 : (i : Int) < 200
      · rw [if_pos (decide_eq_true h2), if_pos (by omega)]
        by_cases h3 : 300 < ((gt m (i : Int)).1.length : Int)
        · exact ⟨true, by rw [if_pos (decide_eq_true h3)], fun h => by cases h⟩
        · rw [if_neg (by simpa using h3), w64_succ (by omega)]
          exact great11_l1 a m k (i + 1) (by omega) (by omega)
      · rw [if_neg (by simpa using h2)]; exact fin
    · rw [if_neg (by simpa using h)]; exact fin
theorem great11_l2 (a : List Pr) (m : List Msg) : ∀ (k i : Nat), i ≤ 200 → i ≤ m.length → 200 - i < k → (∀ x ∈ m.take i, x.1.length ≤ 300) → ∃ g, sluicegatelaw11_great.l2 k a m (i : Int) = some g ∧ (g = false → a.length ≤ 120 ∧ okM m)
  | 0, i, _, _, h, _ => by omega
  | k + 1, i, hi, hm, hk, hall => by
    rw [sluicegatelaw11_great.l2]
    have fin : (200 ≤ i ∨ m.length ≤ i) → ∃ g, (if (decide (120 < (a.length : Int))) = true then (some true) else (some (decide (120 < (m.length : Int))))) = some g ∧ (g = false → a.length ≤ 120 ∧ okM m) := fun hh => by
      by_cases h : 120 < a.length
      · exact ⟨true, by rw [if_pos (decide_eq_true (by omega))], fun h => by cases h⟩
      · refine ⟨_, by rw [if_neg (by simp only [decide_eq_true_eq]; omega)], fun e => ?_⟩
        have e := of_decide_eq_false e
        refine ⟨by omega, by omega, fun x hx => hall x ?_⟩
        rwa [List.take_of_length_le (by omega)]
    by_cases h : (i : Int) < (m.length : Int)
    · rw [if_pos (decide_eq_true h)]
      by_cases h2 : (i : Int) < 200
      · rw [if_pos (decide_eq_true h2), if_pos (by omega), gt_nat]
        by_cases h3 : 300 < ((m.getD i default).1.length : Int)
        · exact ⟨true, by rw [if_pos (decide_eq_true h3)], fun h => by cases h⟩
        · rw [if_neg (by simpa using h3), w64_succ (by omega)]
          refine great11_l2 a m k (i + 1) (by omega) (by omega) (by omega) fun x hx => ?_
          rcases mem_take_one (by omega) hx with hx | rfl
          · exact hall x hx
          · omega
      · rw [if_neg (by simpa using h2)]; exact fin (by omega)
    · rw [if_neg (by simpa using h)]; exact fin (by omega)
theorem great11_l0 (a : List Pr) (m : List Msg) : ∀ (k i : Nat), i ≤ 200 → i ≤ a.length → 210 + (200 - i) < k → (∀ x ∈ a.take i, x.1.length ≤ 300) → ∃ g, sluicegatelaw11_great.l0 k a m (i : Int) = some g ∧ (g = false → okP a ∧ okM m)
  | 0, i, _, _, h, _ => by omega
  | k + 1, i, hi, hm, hk, hall => by
    rw [sluicegatelaw11_great.l0]
    by_cases h : (i : Int) < (a.length : Int)
    · rw [if_pos (decide_eq_true h)]
      by_cases h2 : (i : Int) < 200
      · rw [if_pos (decide_eq_true h2), if_pos (by omega), gt_nat]
        by_cases h3 : 300 < ((a.getD i default).1.length : Int)
        · exact ⟨true, by rw [if_pos (decide_eq_true h3)], fun h => by cases h⟩
        · rw [if_neg (by simpa using h3), w64_succ (by omega)]
          refine great11_l0 a m k (i + 1) (by omega) (by omega) (by omega) fun x hx => ?_
          rcases mem_take_one (by omega) hx with hx | rfl
          · exact hall x hx
          · omega
      · rw [if_neg (by simpa using h2)]
        obtain ⟨g, e1, e2⟩ := great11_l1 a m k 0 (by omega) (by omega)
        exact ⟨g, e1, fun e => by have := e2 e; omega⟩
    · rw [if_neg (by simpa using h)]
      obtain ⟨g, e1, e2⟩ := great11_l2 a m k 0 (by omega) (by omega) (by omega) (by simp)
      rw [List.take_of_length_le (by omega)] at hall
      exact ⟨g, e1, fun e => ⟨⟨(e2 e).1, hall⟩, (e2 e).2⟩⟩
theorem great11_pure (a : List Pr) (m : List Msg) {k : Nat} (hk : 500 < k) : ∃ g, sluicegatelaw11_great.f k a m = some g ∧ (g = false → okP a ∧ okM m) := great11_l0 a m k 0 (by omega) (by omega) (by omega) (by simp)
theorem bs11_pure {l : List Pr} (x : List UInt8) (hl : l.length ≤ 1000000) (hr : RiseK pk l) {k : Nat} (hk : l.length < k) :
    ∃ c : Nat, slices_BinarySearchFunc_api_Pair_api_Pair_string_leaf_compare.f k l x = some ((c : Int), decide (c < l.length ∧ (l.getD c default).1 = x)) ∧ AtK pk l x c :=
  search_loop (key := pk) (F := fun k a b => slices_BinarySearchFunc_api_Pair_api_Pair_string_leaf_compare.l0 k l x a b) hl hr (fun k a b => rfl) k 0 l.length (by omega) (by omega) (by omega) (fun j hj => by omega) (fun j hj hjl => by omega)
def gm (o : Option Pr) : List UInt8 × Bool := o.elim ([], false) fun p => (p.2, true)
theorem get11_pure {l : List Pr} (x : List UInt8) (hl : l.length ≤ 1000000) (hr : RiseK pk l) {k : Nat} (hk : l.length < k) : leaf_Get.f k l x = some (gm (fndK pk l x)) := by
  obtain ⟨c, e1, e2⟩ := bs11_pure x hl hr hk
  have hf := e2.find hr
  unfold leaf_Get.f
  rw [e1, Option.bind_some, hf]
  by_cases q : c < l.length ∧ (l.getD c default).1 = x
  · rw [if_pos (show c < l.length ∧ pk (l.getD c default) = x from q), decide_eq_true q, if_neg (by simp), if_pos (by omega), gt_nat]
    rfl
  · rw [if_neg (show ¬ (c < l.length ∧ pk (l.getD c default) = x) from q), decide_eq_false q, if_pos (by rfl)]
    rfl
theorem refGet_pure {l : List Pr} (x : List UInt8) (hl : l.length ≤ 1000000) {k : Nat} (hk : l.length < k) : sluicegateref11_Get.f k l x = some (gm (fndK pk l x)) := by
  have := find_loop (key := pk) (F := fun k i => sluicegateref11_Get.l0 k l x i) (yes := fun m => (m.2, true)) (no := (([] : List UInt8), false)) hl (fun k i => rfl) k 0 (by omega) (by omega)
  simpa [sluicegateref11_Get.f, gm] using this
theorem clone11_pure {l : List Pr} (hl : l.length ≤ 1000000) : slices_Clone_api_Pair_api_Pair.f l = some l := by
  unfold slices_Clone_api_Pair_api_Pair.f
  rw [if_pos (by simp; omega)]
  rfl
/-- what a message does -/
def app1 (l : List Pr) (x : Msg) : List Pr := if x.2.1 = true then cutOut pk x.1 l else putK pk (x.1, x.2.2) l
theorem rise_app {l : List Pr} (x : Msg) (h : RiseK pk l) : RiseK pk (app1 l x) := by
  unfold app1
  split
  · exact riseK_cut pk h
  · exact riseK_put pk h
theorem app_length (l : List Pr) (x : Msg) : (app1 l x).length ≤ l.length + 1 := by
  unfold app1
  split
  · exact Nat.le_trans (List.length_filter_le _ _) (by omega)
  · exact putK_length pk _ l
theorem app_keys {l : List Pr} {x : Msg} (h : ∀ p ∈ l, p.1.length ≤ 300) (hx : x.1.length ≤ 300) : ∀ p ∈ app1 l x, p.1.length ≤ 300 := fun p hp => by
  unfold app1 at hp
  split at hp
  · exact h p (List.mem_filter.1 hp).1
  · rcases mem_putK pk hp with rfl | hp
    · exact hx
    · exact h p hp
theorem apply_l0 {m : List Msg} (hm : m.length ≤ 1000) : ∀ (k i : Nat) (x1 : List Pr), i ≤ m.length → 5000 + (m.length - i) < k → x1.length ≤ 2000 + i → RiseK pk x1 → leaf_Apply.l0 k m x1 (i : Int) = some ((m.drop i).foldl app1 x1)
  | 0, i, x1, _, h, _, _ => by omega
  | k + 1, i, x1, hi, hk, hx, hr => by
    rw [leaf_Apply.l0]
    by_cases h : i < m.length
    · obtain ⟨c, e1, e2⟩ := bs11_pure (m.getD i default).1 (l := x1) (k := k) (by omega) hr (by omega)
      have c1 := e2.1
      have ih := apply_l0 hm k (i + 1) (app1 x1 (m.getD i default)) (by omega) (by omega) (by have := app_length x1 (m.getD i default); omega) (rise_app _ hr)
      have wi : w64 ((i : Int) + 1) = ((i + 1 : Nat) : Int) := w64_succ (by omega)
      rw [if_pos (decide_eq_true (by omega)), if_pos (by omega), gt_nat, e1, Option.bind_some, wi, drop_cons h, List.foldl_cons, ← ih]
      generalize m.getD i default = x at e1 e2
      by_cases q : c < x1.length ∧ (x1.getD c default).1 = x.1
      · rw [if_pos (decide_eq_true q)]
        cases d : x.2.1 with
        | true =>
          have hc := e2.cut hr
          rw [if_pos (show c < x1.length ∧ pk (x1.getD c default) = x.1 from q)] at hc
          rw [if_pos rfl, w64_succ (by omega)]
          unfold slices_Delete_api_Pair_api_Pair.f
          rw [if_pos (by omega), Option.bind_some, Int.toNat_natCast, Int.toNat_natCast, ← hc]
          unfold app1
          rw [if_pos d]
        | false =>
          have hc := AtK.put (key := pk) (m := (x.1, x.2.2)) hr e2
          rw [if_pos (show c < x1.length ∧ pk (x1.getD c default) = pk (x.1, x.2.2) from q)] at hc
          rw [if_neg (by simp), if_pos (by omega), gt_nat, Int.toNat_natCast, q.2, ← hc]
          unfold app1
          rw [if_neg (by rw [d]; simp)]
      · rw [if_neg (by simpa using q)]
        cases d : x.2.1 with
        | true =>
          have hc := e2.cut hr
          rw [if_neg (show ¬ (c < x1.length ∧ pk (x1.getD c default) = x.1) from q)] at hc
          rw [if_neg (by simp)]
          unfold app1
          rw [if_pos d, hc]
        | false =>
          have hc := AtK.put (key := pk) (m := (x.1, x.2.2)) hr e2
          rw [if_neg (show ¬ (c < x1.length ∧ pk (x1.getD c default) = pk (x.1, x.2.2)) from q)] at hc
          rw [if_pos (by rfl)]
          unfold slices_Insert_api_Pair_api_Pair.f
          rw [if_pos (by omega), if_pos (by simp; omega), Option.bind_some, Int.toNat_natCast]
          unfold app1
          rw [if_neg (by rw [d]; simp), hc]
          simp
    · rw [if_neg (by simp; omega), List.drop_eq_nil_of_le (by omega)]
      rfl
theorem apply_pure {l : List Pr} {m : List Msg} (hl : l.length ≤ 1000) (hm : m.length ≤ 1000) (hr : RiseK pk l) {k : Nat} (hk : 7000 < k) : leaf_Apply.f k l m = some (m.foldl app1 l) := by
  unfold leaf_Apply.f
  rw [clone11_pure (by omega), Option.bind_some]
  have := apply_l0 hm k 0 l (by omega) (by omega) (by omega) hr
  simpa using this
theorem put_cut {l : List Pr} {key val : List UInt8} (hr : RiseK pk l) : putK pk (key, val) (cutOut pk key l) = putK pk (key, val) l :=
  riseK_ext pk (riseK_put pk (riseK_cut pk hr)) (riseK_put pk hr) fun k => by
    rw [fndK_put, fndK_put, fndK_cut]
    by_cases e : pk (key, val) = k
    · rw [if_pos e, if_pos e]
    · rw [if_neg e, if_neg e, if_neg (show ¬ key = k from e)]
theorem fold_rise : ∀ (m : List Msg) (l : List Pr), RiseK pk l → RiseK pk (m.foldl app1 l)
  | [], l, h => h
  | x :: m, l, h => fold_rise m _ (rise_app x h)
theorem fold_length : ∀ (m : List Msg) (l : List Pr), (m.foldl app1 l).length ≤ l.length + m.length
  | [], l => by simp
  | x :: m, l => by
    have h1 := fold_length m (app1 l x)
    have h2 := app_length l x
    simp only [List.foldl_cons, List.length_cons]
    omega
theorem fold_keys : ∀ (m : List Msg) (l : List Pr), (∀ p ∈ l, p.1.length ≤ 300) → (∀ x ∈ m, x.1.length ≤ 300) → ∀ p ∈ m.foldl app1 l, p.1.length ≤ 300
  | [], l, h, _ => h
  | x :: m, l, h, hm => fold_keys m _ (app_keys h (hm x (by simp))) fun y hy => hm y (by simp [hy])
theorem right11_rise {l : List Pr} (hl : l.length ≤ 100000) (h300 : ∀ p ∈ l, p.1.length ≤ 300) {k : Nat} (hk : 2001 + l.length < k) : sluicegateref11_Right.f k l = some (riseK pk l) := by
  have := right_loop (key := pk) (F := fun k i => sluicegateref11_Right.l0 k l i) (cmp := sluicegateref01_Compare.f) (K := 2000) (by omega) (fun k hk a b ha hb => compare_pure (Nat.le_trans (h300 a ha) (by decide)) (Nat.le_trans (h300 b hb) (by decide)) hk) (fun k i => rfl) k 0 (by omega) (by omega)
  simpa [sluicegateref11_Right.f] using this
theorem pr_eq (x y : Pr) : (decide (x.1 = y.1) && (decide (x.2 = y.2) && true)) = decide (x = y) := by
  obtain ⟨a, b⟩ := x
  obtain ⟨d, e⟩ := y
  by_cases h1 : a = d <;> by_cases h2 : b = e <;> simp [h1, h2]
theorem same11_pure {k : Nat} {a b : List Pr} (ha : a.length ≤ 1000000) (hk : a.length < k) : sluicegateref11_Same.f k a b = some (decide (a = b)) := by
  unfold sluicegateref11_Same.f
  by_cases h : a.length = b.length
  · rw [if_neg (by simp [h])]
    have := same_loop (F := fun k i => sluicegateref11_Same.l0 k a b i) (eqb := fun x y => decide (x.1 = y.1) && (decide (x.2 = y.2) && true)) pr_eq h ha (fun k i => rfl) k 0 (by omega) (by omega)
    simpa using this
  · rw [if_pos (by simp; omega)]
    have : a ≠ b := fun e => h (by rw [e])
    simp [this]
theorem awake11_pure (k : Nat) : sluicegatelaw11_awake.f (k + 30) = some true := by rfl
theorem leafRight_pure {l : List Pr} (hl : l.length ≤ 100000) {k : Nat} (hk : l.length < k) : leaf_Right.f k l = some (riseK pk l) := by
  have := right_loop0 (key := pk) (F := fun k i => leaf_Right.l0 k l i) (by omega) (fun k i => rfl) k 0 (by omega) (by omega)
  simpa [leaf_Right.f] using this
theorem leafSame_pure {k : Nat} {a b : List Pr} (ha : a.length ≤ 1000000) (hk : a.length < k) : leaf_Same.f k a b = some (decide (a = b)) := by
  unfold leaf_Same.f slices_Equal_api_Pair_api_Pair.f
  by_cases h : a.length = b.length
  · rw [if_neg (by simp [h])]
    have := same_loop (F := fun k i => slices_Equal_api_Pair_api_Pair.l0 k a b i) (eqb := fun x y => decide (x.1 = y.1) && (decide (x.2 = y.2) && true)) pr_eq h ha (fun k i => rfl) k 0 (by omega) (by omega)
    simp only [Int.natCast_zero, Int.ofNat_eq_natCast, List.drop_zero] at this
    rw [this]
    rfl
  · rw [if_pos (by simp; omega)]
    have : a ≠ b := fun e => h (by rw [e])
    simp [this]
theorem LeafRights_pure {p q r : Prop} (a b : List Pr) (key : List UInt8) (_ : p) (_ : q) (_ : r) : ∃ k, sluicegatelaw11_LeafRights.f k a b key = some true := by
  refine ⟨20000 + 30, ?_⟩
  unfold sluicegatelaw11_LeafRights.f
  obtain ⟨g, e1, e2⟩ := great11_pure a [] (k := 20000 + 30) (by omega)
  obtain ⟨g', e1', e2'⟩ := great11_pure b [] (k := 20000 + 30) (by omega)
  rw [e1, Option.bind_some, awake11_pure, e1']
  cases g with
  | true => rfl
  | false =>
    rw [if_neg (by simp), Option.bind_some]
    cases g' with
    | true => rfl
    | false =>
      obtain ⟨⟨ha, a300⟩, _⟩ := e2 rfl
      obtain ⟨⟨hb, b300⟩, _⟩ := e2' rfl
      rw [if_neg (by simp)]
      by_cases h : 300 < key.length
      · rw [if_pos (decide_eq_true (by omega))]; rfl
      · rw [if_neg (by simp only [decide_eq_true_eq]; omega), leafRight_pure (by omega) (by omega), Option.bind_some, right11_rise (by omega) a300 (by omega), Option.bind_some, if_neg (by simp), leafSame_pure (by omega) (by omega), Option.bind_some, same11_pure (by omega) (by omega), Option.bind_some, if_neg (by simp), leafSame_pure (by omega) (by omega), Option.bind_some, if_neg (by simp), Option.bind_some]
        cases hr : riseK pk a with
        | false => rfl
        | true =>
          have hr := (riseK_iff pk a).1 hr
          rw [if_neg (by simp), get11_pure key (by omega) hr (by omega), Option.bind_some, refGet_pure key (by omega) (by omega), Option.bind_some, if_pos (decide_eq_true rfl), if_pos (by simp)]
          rfl
end Go.SK.T
