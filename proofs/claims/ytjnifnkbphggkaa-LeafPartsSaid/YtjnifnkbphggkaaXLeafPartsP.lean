/- The plain law behind LeafParts: what its code computes is true for all pairs, spans and numbers. -/
import Derived.Test.YtjnifnkbphggkaaXLeafPartsF0
set_option linter.unusedVariables false
set_option linter.unusedSimpArgs false
namespace Go.SK.T
open Go Go.SK
theorem compare_l0 : ∀ (k : Nat) (a b : List UInt8) (i : Nat), a.length ≤ 4611686018427387904 → b.length ≤ 4611686018427387904 → i ≤ a.length → i ≤ b.length → a.length - i < k →
    sluicegateref01_Compare.l0 k a b (i : Int) = some (scmp (a.drop i) (b.drop i))
  | 0, a, b, i, _, _, _, _, h => by omega
  | k + 1, a, b, i, ha, hb, hia, hib, hk => by
    unfold sluicegateref01_Compare.l0
    by_cases h1 : i < a.length
    · by_cases h2 : i < b.length
      · have g1 : (0 : Int) ≤ (i : Int) ∧ (i : Int) < (a.length : Int) := by omega
        have g2 : (0 : Int) ≤ (i : Int) ∧ (i : Int) < (b.length : Int) := by omega
        have w : w64 ((i : Int) + 1) = ((i + 1 : Nat) : Int) := by rw [w64_id (by omega) (by omega)]; omega
        have ih := compare_l0 k a b (i + 1) ha hb (by omega) (by omega) (by omega)
        simp only [g1.2, g2.2, g1, g2, decide_true, if_true, and_self, w, ih, gtb_lt, Int.toNat_natCast, drop_byte h1, drop_byte h2, scmp_cons, decide_eq_true_eq]
        split
        · rfl
        · split <;> rfl
      · have g1 : (i : Int) < (a.length : Int) := by omega
        have g2 : ¬ (i : Int) < (b.length : Int) := by omega
        have e : b.drop i = [] := List.drop_eq_nil_of_le (by omega)
        have z1 : ¬ (a.length : Int) < (b.length : Int) := by omega
        have z2 : (b.length : Int) < (a.length : Int) := by omega
        have z3 : ¬ (a.drop i).length = 0 := by rw [List.length_drop]; omega
        simp [g1, g2, e, z1, z2, scmp_nil_right, z3]
        omega
    · have g1 : ¬ (i : Int) < (a.length : Int) := by omega
      have e : a.drop i = [] := List.drop_eq_nil_of_le (by omega)
      have z : (b.drop i).length = b.length - i := List.length_drop ..
      simp only [g1, e, scmp_nil_left, z, decide_false, Bool.false_eq_true, if_false, decide_eq_true_eq]
      by_cases h2 : b.length = i
      · have z1 : ¬ (a.length : Int) < (b.length : Int) := by omega
        have z2 : ¬ (b.length : Int) < (a.length : Int) := by omega
        have h3 : a.length = i := by omega
        simp [h2, h3]
      · have z1 : (a.length : Int) < (b.length : Int) := by omega
        have z2 : ¬ b.length - i = 0 := by omega
        simp [z1, z2]
theorem compare_pure {k : Nat} {a b : List UInt8} (ha : a.length ≤ 2000) (hb : b.length ≤ 2000) (hk : 2000 < k) : sluicegateref01_Compare.f k a b = some (scmp a b) := by
  have := compare_l0 k a b 0 (by omega) (by omega) (by omega) (by omega) (by omega)
  simpa [sluicegateref01_Compare.f] using this
abbrev Msg := List UInt8 × Bool × List UInt8
theorem msg_eq (x y : Msg) : (decide (x.1 = y.1) && ((x.2.1 == y.2.1) && (decide (x.2.2 = y.2.2) && true))) = decide (x = y) := by
  obtain ⟨a, b, c⟩ := x
  obtain ⟨d, e, f⟩ := y
  by_cases h1 : a = d <;> by_cases h2 : b = e <;> by_cases h3 : c = f <;> simp [h1, h2, h3]
abbrev Pr := List UInt8 × List UInt8
abbrev pk (p : Pr) : List UInt8 := p.1
def okP (l : List Pr) : Prop := l.length ≤ 120 ∧ ∀ m ∈ l, m.1.length ≤ 300
def okM (l : List Msg) : Prop := l.length ≤ 120 ∧ ∀ m ∈ l, m.1.length ≤ 300
theorem mem_take_one {α : Type} [Inhabited α] {l : List α} {i : Nat} {m : α} (h : i < l.length) (hm : m ∈ l.take (i + 1)) : m ∈ l.take i ∨ m = l.getD i default := by
  rw [take_get h, List.mem_append] at hm
  exact hm.imp id (by simp)
theorem great11_l1 (a : List Pr) (m : List Msg) : ∀ (k i : Nat), i ≤ 200 → 200 - i < k → ∃ g, sluicegatelaw11_great.l1 k a m (i : Int) = some g ∧ (g = false → a.length ≤ 120)
  | 0, i, _, h => by omega
  | k + 1, i, hi, hk => by
    rw [sluicegatelaw11_great.l1]
    have fin : ∃ g, (if (decide (120 < (a.length : Int))) = true then (some true) else (some (decide (120 < (m.length : Int))))) = some g ∧ (g = false → a.length ≤ 120) := by
      by_cases h : 120 < a.length
      · exact ⟨true, by rw [if_pos (decide_eq_true (by omega))], fun h => by cases h⟩
      · exact ⟨_, by rw [if_neg (by simp only [decide_eq_true_eq]; omega)], fun _ => by omega⟩
    by_cases h : (i : Int) < (m.length : Int)
    · rw [if_pos (decide_eq_true h)]
      by_cases h2 : (i : Int) < 200
      · rw [if_pos (decide_eq_true h2), if_pos (by omega)]
        by_cases h3 : 300 < ((gt m (i : Int)).1.length : Int)
        · exact ⟨true, by rw [if_pos (decide_eq_true h3)], fun h => by cases h⟩
        · rw [if_neg (by simpa using h3), w64_succ (by omega)]
          exact great11_l1 a m k (i + 1) (by omega) (by omega)
      · rw [if_neg (by simpa using h2)]; exact fin
    · rw [if_neg (by simpa using h)]; exact fin
theorem great11_l2 (a : List Pr) (m : List Msg) : ∀ (k i : Nat), i ≤ 200 → i ≤ m.length → 200 - i < k → (∀ x ∈ m.take i, x.1.length ≤ 300) → ∃ g, sluicegatelaw11_great.l2 k a m (i : Int) = some g ∧ (g = false → a.length ≤ 120 ∧ okM m)
  | 0, i, _, _, h, _ => by omega
  | k + 1, i, hi, hm, hk, hall => by
    rw [sluicegatelaw11_great.l2]
    have fin : (200 ≤ i ∨ m.length ≤ i) → ∃ g, (if (decide (120 < (a.length : Int))) = true then (some true) else (some (decide (120 < (m.length : Int))))) = some g ∧ (g = false → a.length ≤ 120 ∧ okM m) := fun hh => by
      by_cases h : 120 < a.length
      · exact ⟨true, by rw [if_pos (decide_eq_true (by omega))], fun h => by cases h⟩
      · refine ⟨_, by rw [if_neg (by simp only [decide_eq_true_eq]; omega)], fun e => ?_⟩
        have e := of_decide_eq_false e
        refine ⟨by omega, by omega, fun x hx => hall x ?_⟩
        rwa [List.take_of_length_le (by omega)]
    by_cases h : (i : Int) < (m.length : Int)
    · rw [if_pos (decide_eq_true h)]
      by_cases h2 : (i : Int) < 200
      · rw [if_pos (decide_eq_true h2), if_pos (by omega), gt_nat]
        by_cases h3 : 300 < ((m.getD i default).1.length : Int)
        · exact ⟨true, by rw [if_pos (decide_eq_true h3)], fun h => by cases h⟩
        · rw [if_neg (by simpa using h3), w64_succ (by omega)]
          refine great11_l2 a m k (i + 1) (by omega) (by omega) (by omega) fun x hx => ?_
          rcases mem_take_one (by omega) hx with hx | rfl
          · exact hall x hx
          · omega
      · rw [if_neg (by simpa using h2)]; exact fin (by omega)
    · rw [if_neg (by simpa using h)]; exact fin (by omega)
theorem great11_l0 (a : List Pr) (m : List Msg) : ∀ (k i : Nat), i ≤ 200 → i ≤ a.length → 210 + (200 - i) < k → (∀ x ∈ a.take i, x.1.length ≤ 300) → ∃ g, sluicegatelaw11_great.l0 k a m (i : Int) = some g ∧ (g = false → okP a ∧ okM m)
  | 0, i, _, _, h, _ => by omega
  | k + 1, i, hi, hm, hk, hall => by
    rw [sluicegatelaw11_great.l0]
    by_cases h : (i : Int) < (a.length : Int)
    · rw [if_pos (decide_eq_true h)]
      by_cases h2 : (i : Int) < 200
      · rw [if_pos (decide_eq_true h2), if_pos (by omega), gt_nat]
        by_cases h3 : 300 < ((a.getD i default).1.length : Int)
        · exact ⟨true, by rw [if_pos (decide_eq_true h3)], fun h => by cases h⟩
        · rw [if_neg (by simpa using h3), w64_succ (by omega)]
          refine great11_l0 a m k (i + 1) (by omega) (by omega) (by omega) fun x hx => ?_
          rcases mem_take_one (by omega) hx with hx | rfl
          · exact hall x hx
          · omega
      · rw [if_neg (by simpa using h2)]
        obtain ⟨g, e1, e2⟩ := great11_l1 a m k 0 (by omega) (by omega)
        exact ⟨g, e1, fun e => by have := e2 e; omega⟩
    · rw [if_neg (by simpa using h)]
      obtain ⟨g, e1, e2⟩ := great11_l2 a m k 0 (by omega) (by omega) (by omega) (by simp)
      rw [List.take_of_length_le (by omega)] at hall
      exact ⟨g, e1, fun e => ⟨⟨(e2 e).1, hall⟩, (e2 e).2⟩⟩
theorem great11_pure (a : List Pr) (m : List Msg) {k : Nat} (hk : 500 < k) : ∃ g, sluicegatelaw11_great.f k a m = some g ∧ (g = false → okP a ∧ okM m) := great11_l0 a m k 0 (by omega) (by omega) (by omega) (by simp)
theorem bs11_pure {l : List Pr} (x : List UInt8) (hl : l.length ≤ 1000000) (hr : RiseK pk l) {k : Nat} (hk : l.length < k) :
    ∃ c : Nat, slices_BinarySearchFunc_api_Pair_api_Pair_string_leaf_compare.f k l x = some ((c : Int), decide (c < l.length ∧ (l.getD c default).1 = x)) ∧ AtK pk l x c :=
  search_loop (key := pk) (F := fun k a b => slices_BinarySearchFunc_api_Pair_api_Pair_string_leaf_compare.l0 k l x a b) hl hr (fun k a b => rfl) k 0 l.length (by omega) (by omega) (by omega) (fun j hj => by omega) (fun j hj hjl => by omega)
def gm (o : Option Pr) : List UInt8 × Bool := o.elim ([], false) fun p => (p.2, true)
theorem clone11_pure {l : List Pr} (hl : l.length ≤ 1000000) : slices_Clone_api_Pair_api_Pair.f l = some l := by
  unfold slices_Clone_api_Pair_api_Pair.f
  rw [if_pos (by simp; omega)]
  rfl
/-- what a message does -/
def app1 (l : List Pr) (x : Msg) : List Pr := if x.2.1 = true then cutOut pk x.1 l else putK pk (x.1, x.2.2) l
theorem rise_app {l : List Pr} (x : Msg) (h : RiseK pk l) : RiseK pk (app1 l x) := by
  unfold app1
  split
  · exact riseK_cut pk h
  · exact riseK_put pk h
theorem app_length (l : List Pr) (x : Msg) : (app1 l x).length ≤ l.length + 1 := by
  unfold app1
  split
  · exact Nat.le_trans (List.length_filter_le _ _) (by omega)
  · exact putK_length pk _ l
theorem app_keys {l : List Pr} {x : Msg} (h : ∀ p ∈ l, p.1.length ≤ 300) (hx : x.1.length ≤ 300) : ∀ p ∈ app1 l x, p.1.length ≤ 300 := fun p hp => by
  unfold app1 at hp
  split at hp
  · exact h p (List.mem_filter.1 hp).1
  · rcases mem_putK pk hp with rfl | hp
    · exact hx
    · exact h p hp
theorem apply_l0 {m : List Msg} (hm : m.length ≤ 1000) : ∀ (k i : Nat) (x1 : List Pr), i ≤ m.length → 5000 + (m.length - i) < k → x1.length ≤ 2000 + i → RiseK pk x1 → leaf_Apply.l0 k m x1 (i : Int) = some ((m.drop i).foldl app1 x1)
  | 0, i, x1, _, h, _, _ => by omega
  | k + 1, i, x1, hi, hk, hx, hr => by
    rw [leaf_Apply.l0]
    by_cases h : i < m.length
    · obtain ⟨c, e1, e2⟩ := bs11_pure (m.getD i default).1 (l := x1) (k := k) (by omega) hr (by omega)
      have c1 := e2.1
      have ih := apply_l0 hm k (i + 1) (app1 x1 (m.getD i default)) (by omega) (by omega) (by have := app_length x1 (m.getD i default); omega) (rise_app _ hr)
      have wi : w64 ((i : Int) + 1) = ((i + 1 : Nat) : Int) := w64_succ (by omega)
      rw [if_pos (decide_eq_true (by omega)), if_pos (by omega), gt_nat, e1, Option.bind_some, wi, drop_cons h, List.foldl_cons, ← ih]
      generalize m.getD i default = x at e1 e2
      by_cases q : c < x1.length ∧ (x1.getD c default).1 = x.1
      · rw [if_pos (decide_eq_true q)]
        cases d : x.2.1 with
        | true =>
          have hc := e2.cut hr
          rw [if_pos (show c < x1.length ∧ pk (x1.getD c default) = x.1 from q)] at hc
          rw [if_pos rfl, w64_succ (by omega)]
          unfold slices_Delete_api_Pair_api_Pair.f
          rw [if_pos (by omega), Option.bind_some, Int.toNat_natCast, Int.toNat_natCast, ← hc]
          unfold app1
          rw [if_pos d]
        | false =>
          have hc := AtK.put (key := pk) (m := (x.1, x.2.2)) hr e2
          rw [if_pos (show c < x1.length ∧ pk (x1.getD c default) = pk (x.1, x.2.2) from q)] at hc
          rw [if_neg (by simp), if_pos (by omega), gt_nat, Int.toNat_natCast, q.2, ← hc]
          unfold app1
          rw [if_neg (by rw [d]; simp)]
      · rw [if_neg (by simpa using q)]
        cases d : x.2.1 with
        | true =>
          have hc := e2.cut hr
          rw [if_neg (show ¬ (c < x1.length ∧ pk (x1.getD c default) = x.1) from q)] at hc
          rw [if_neg (by simp)]
          unfold app1
          rw [if_pos d, hc]
        | false =>
          have hc := AtK.put (key := pk) (m := (x.1, x.2.2)) hr e2
          rw [if_neg (show ¬ (c < x1.length ∧ pk (x1.getD c default) = pk (x.1, x.2.2)) from q)] at hc
          rw [if_pos (by rfl)]
          unfold slices_Insert_api_Pair_api_Pair.f
          rw [if_pos (by omega), if_pos (by simp; omega), Option.bind_some, Int.toNat_natCast]
          unfold app1
          rw [if_neg (by rw [d]; simp), hc]
          simp
    · rw [if_neg (by simp; omega), List.drop_eq_nil_of_le (by omega)]
      rfl
theorem apply_pure {l : List Pr} {m : List Msg} (hl : l.length ≤ 1000) (hm : m.length ≤ 1000) (hr : RiseK pk l) {k : Nat} (hk : 7000 < k) : leaf_Apply.f k l m = some (m.foldl app1 l) := by
  unfold leaf_Apply.f
  rw [clone11_pure (by omega), Option.bind_some]
  have := apply_l0 hm k 0 l (by omega) (by omega) (by omega) hr
  simpa using this
theorem put_cut {l : List Pr} {key val : List UInt8} (hr : RiseK pk l) : putK pk (key, val) (cutOut pk key l) = putK pk (key, val) l :=
  riseK_ext pk (riseK_put pk (riseK_cut pk hr)) (riseK_put pk hr) fun k => by
    rw [fndK_put, fndK_put, fndK_cut]
    by_cases e : pk (key, val) = k
    · rw [if_pos e, if_pos e]
    · rw [if_neg e, if_neg e, if_neg (show ¬ key = k from e)]
theorem fold_rise : ∀ (m : List Msg) (l : List Pr), RiseK pk l → RiseK pk (m.foldl app1 l)
  | [], l, h => h
  | x :: m, l, h => fold_rise m _ (rise_app x h)
theorem fold_length : ∀ (m : List Msg) (l : List Pr), (m.foldl app1 l).length ≤ l.length + m.length
  | [], l => by simp
  | x :: m, l => by
    have h1 := fold_length m (app1 l x)
    have h2 := app_length l x
    simp only [List.foldl_cons, List.length_cons]
    omega
theorem fold_keys : ∀ (m : List Msg) (l : List Pr), (∀ p ∈ l, p.1.length ≤ 300) → (∀ x ∈ m, x.1.length ≤ 300) → ∀ p ∈ m.foldl app1 l, p.1.length ≤ 300
  | [], l, h, _ => h
  | x :: m, l, h, hm => fold_keys m _ (app_keys h (hm x (by simp))) fun y hy => hm y (by simp [hy])
theorem right11_rise {l : List Pr} (hl : l.length ≤ 100000) (h300 : ∀ p ∈ l, p.1.length ≤ 300) {k : Nat} (hk : 2001 + l.length < k) : sluicegateref11_Right.f k l = some (riseK pk l) := by
  have := right_loop (key := pk) (F := fun k i => sluicegateref11_Right.l0 k l i) (cmp := sluicegateref01_Compare.f) (K := 2000) (by omega) (fun k hk a b ha hb => compare_pure (Nat.le_trans (h300 a ha) (by decide)) (Nat.le_trans (h300 b hb) (by decide)) hk) (fun k i => rfl) k 0 (by omega) (by omega)
  simpa [sluicegateref11_Right.f] using this
theorem pr_eq (x y : Pr) : (decide (x.1 = y.1) && (decide (x.2 = y.2) && true)) = decide (x = y) := by
  obtain ⟨a, b⟩ := x
  obtain ⟨d, e⟩ := y
  by_cases h1 : a = d <;> by_cases h2 : b = e <;> simp [h1, h2]
theorem same11_pure {k : Nat} {a b : List Pr} (ha : a.length ≤ 1000000) (hk : a.length < k) : sluicegateref11_Same.f k a b = some (decide (a = b)) := by
  unfold sluicegateref11_Same.f
  by_cases h : a.length = b.length
  · rw [if_neg (by simp [h])]
    have := same_loop (F := fun k i => sluicegateref11_Same.l0 k a b i) (eqb := fun x y => decide (x.1 = y.1) && (decide (x.2 = y.2) && true)) pr_eq h ha (fun k i => rfl) k 0 (by omega) (by omega)
    simpa using this
  · rw [if_pos (by simp; omega)]
    have : a ≠ b := fun e => h (by rw [e])
    simp [this]
theorem awake11_pure (k : Nat) : sluicegatelaw11_awake.f (k + 30) = some true := by rfl
abbrev Sp := List UInt8 × List UInt8 × Bool
def inS (s : Sp) (x : List UInt8) : Bool := !Op.bytesLess x s.1 && (s.2.2 || Op.bytesLess x s.2.1)
def emS (s : Sp) : Bool := !s.2.2 && !Op.bytesLess s.1 s.2.1
theorem lexEmpty_pure (s : Sp) : lex_Empty.f s = some (emS s) := by
  unfold lex_Empty.f emS
  rw [bl_le_iff]
  cases s.2.2 <;> rfl
theorem refIn_pure {k : Nat} {s : Sp} {x : List UInt8} (h1 : s.1.length ≤ 2000) (h2 : s.2.1.length ≤ 2000) (hx : x.length ≤ 2000) (hk : 2000 < k) : sluicegateref01_In.f k s x = some (inS s x) := by
  unfold sluicegateref01_In.f inS
  rw [compare_pure h1 hx hk, compare_pure hx h2 hk]
  simp only [Option.bind_some, scmp_le, scmp_lt, decide_eq_true_eq]
  cases h : Op.bytesLess x s.1 <;> cases s.2.2 <;> simp
theorem in_empty {s : Sp} {x : List UInt8} (h : emS s = true) : inS s x = false := by
  simp only [emS, Bool.and_eq_true, Bool.not_eq_true'] at h
  cases k : Op.bytesLess x s.1 with
  | true => simp [inS, k]
  | false =>
    simp only [inS, k, h.1, Bool.not_false, Bool.true_and, Bool.false_or]
    exact bl_le_trans h.2 k
/-- which part of a rising row is in a span -/
def AtPt (l : List Pr) (s : Sp) (f t : Nat) : Prop := f ≤ t ∧ t ≤ l.length ∧ ∀ j, j < l.length → inS s (l.getD j default).1 = decide (f ≤ j ∧ j < t)
theorem low_pt {l : List Pr} {s : Sp} {f t : Nat} (hs : emS s = false) (h1 : AtK pk l s.1 f) (h2 : if s.2.2 = true then t = l.length else AtK pk l s.2.1 t) : AtPt l s f t := by
  obtain ⟨f1, f2, f3⟩ := h1
  cases ht : s.2.2 with
  | true =>
    rw [ht, if_pos rfl] at h2
    subst h2
    refine ⟨f1, Nat.le_refl _, fun j hj => ?_⟩
    by_cases q : j < f
    · rw [decide_eq_false (by omega)]; simp only [inS, show Op.bytesLess (l.getD j default).1 s.1 = true from f2 j q, Bool.not_true, Bool.false_and]
    · rw [decide_eq_true (by omega)]; simp only [inS, ht, show Op.bytesLess (l.getD j default).1 s.1 = false from f3 j (by omega) hj, Bool.not_false, Bool.true_and, Bool.true_or]
  | false =>
    rw [ht, if_neg (by simp)] at h2
    obtain ⟨t1, t2, t3⟩ := h2
    have hlt : Op.bytesLess s.1 s.2.1 = true := by simpa [emS, ht] using hs
    refine ⟨?_, t1, fun j hj => ?_⟩
    · rcases Nat.lt_or_ge t f with h | h
      · have a := f2 t h
        have b := t3 t (Nat.le_refl _) (by omega)
        rw [bl_trans a hlt] at b
        cases b
      · exact h
    · by_cases q : j < f
      · rw [decide_eq_false (by omega)]; simp only [inS, show Op.bytesLess (l.getD j default).1 s.1 = true from f2 j q, Bool.not_true, Bool.false_and]
      · by_cases q2 : j < t
        · rw [decide_eq_true (by omega)]; simp only [inS, ht, show Op.bytesLess (l.getD j default).1 s.1 = false from f3 j (by omega) hj, show Op.bytesLess (l.getD j default).1 s.2.1 = true from t2 j q2, Bool.not_false, Bool.true_and, Bool.false_or]
        · rw [decide_eq_false (by omega)]; simp only [inS, ht, show Op.bytesLess (l.getD j default).1 s.1 = false from f3 j (by omega) hj, show Op.bytesLess (l.getD j default).1 s.2.1 = false from t3 j (by omega) hj, Bool.not_false, Bool.true_and, Bool.false_or]
/-- how far it is told -/
def uptoP (f t : Nat) (most : Int) : Nat := f + min (t - f) most.toNat
theorem lpart_pure {l : List Pr} {s : Sp} {most : Int} (hm : (Lit.int .i64 most).wf = true) (hl : l.length ≤ 100000) (hr : RiseK pk l) {k : Nat} (hk : l.length < k) :
    ∃ f t : Nat, leaf_Part.f k l s most = some ((l.drop f).take (uptoP f t most - f)) ∧ AtPt l s f t := by
  have hb : -9223372036854775808 ≤ most ∧ most ≤ 9223372036854775807 := by
    simp [Lit.wf, IntKind.min, IntKind.max, IntKind.signed, IntKind.bits] at hm
    omega
  have eta : (s.1, s.2.1, s.2.2) = s := rfl
  unfold leaf_Part.f
  rw [eta, lexEmpty_pure, Option.bind_some]
  cases he : emS s with
  | true => exact ⟨0, 0, by simp [uptoP], Nat.le_refl _, Nat.zero_le _, fun j hj => by rw [in_empty he]; simp⟩
  | false =>
    obtain ⟨f, e1, e2⟩ := bs11_pure s.1 (by omega) hr hk
    obtain ⟨t, e3, e4⟩ := bs11_pure s.2.1 (by omega) hr hk
    rw [if_neg (by simp)]
    have c1 := e2.1
    have c2 := e4.1
    by_cases h : most < 1
    · rw [if_pos (decide_eq_true h)]
      have z : ∀ t, uptoP f t most - f = 0 := fun t => by unfold uptoP; omega
      cases ht : s.2.2 with
      | true => exact ⟨f, l.length, by rw [z]; simp, low_pt he e2 (by rw [ht, if_pos rfl])⟩
      | false => exact ⟨f, t, by rw [z]; simp, low_pt he e2 (by rw [ht, if_neg (by simp)]; exact e4)⟩
    · have w : w64 ((f : Int) + (if (l.length : Int) < most then (l.length : Int) else most)) = (f : Int) + (if (l.length : Int) < most then (l.length : Int) else most) := w64_id (by split <;> omega) (by split <;> omega)
      rw [if_neg (by simpa using h), e1, Option.bind_some, e3]
      simp only [w]
      cases ht : s.2.2 with
      | true =>
        have hp := low_pt (t := l.length) he e2 (by rw [ht, if_pos rfl])
        have u : (if (f : Int) + (if (l.length : Int) < most then (l.length : Int) else most) < (l.length : Int) then (f : Int) + (if (l.length : Int) < most then (l.length : Int) else most) else (l.length : Int)) = ((uptoP f l.length most : Nat) : Int) := by
          unfold uptoP
          split <;> split <;> omega
        have u1 : f ≤ uptoP f l.length most ∧ uptoP f l.length most ≤ l.length := by unfold uptoP; omega
        refine ⟨f, l.length, ?_, hp⟩
        rw [if_neg (by simp)]
        simp only [u, Int.toNat_natCast]
        rw [if_pos (by omega), clone11_pure (by rw [List.length_take, List.length_drop]; omega)]
        rfl
      | false =>
        have hp := low_pt (t := t) he e2 (by rw [ht, if_neg (by simp)]; exact e4)
        have hft := hp.1
        have u : (if (f : Int) + (if (l.length : Int) < most then (l.length : Int) else most) < (t : Int) then (f : Int) + (if (l.length : Int) < most then (l.length : Int) else most) else (t : Int)) = ((uptoP f t most : Nat) : Int) := by
          unfold uptoP
          split <;> split <;> omega
        have u1 : f ≤ uptoP f t most ∧ uptoP f t most ≤ t := by unfold uptoP; omega
        refine ⟨f, t, ?_, hp⟩
        rw [if_pos (by rfl), Option.bind_some]
        simp only [u, Int.toNat_natCast]
        rw [if_pos (by omega), clone11_pure (by rw [List.length_take, List.length_drop]; omega)]
        rfl
theorem refPart_l0 {l : List Pr} {s : Sp} {f t u : Nat} {most : Int} (hl : l.length ≤ 100000) (h300 : ∀ p ∈ l, p.1.length ≤ 300) (h1 : s.1.length ≤ 2000) (h2 : s.2.1.length ≤ 2000) (hp : AtPt l s f t) (hu : f ≤ u ∧ u ≤ t) (hum : u < t → (u - f : Nat) = most.toNat) (hml : u - f ≤ most.toNat) : ∀ (k i : Nat), i ≤ l.length → 2001 + (l.length - i) < k →
    sluicegateref11_Part.l0 k l s most ((l.drop f).take (min i u - f)) (i : Int) = some ((l.drop f).take (u - f))
  | 0, i, _, h => by omega
  | k + 1, i, hi, hk => by
    have ih := refPart_l0 hl h300 h1 h2 hp hu hum hml k (i + 1)
    obtain ⟨p1, p2, p3⟩ := hp
    rw [sluicegateref11_Part.l0]
    by_cases h : i < l.length
    · have lt : ((l.drop f).take (min i u - f)).length = min i u - f := by rw [List.length_take, List.length_drop]; omega
      have eta : (s.1, s.2.1, s.2.2) = s := rfl
      have etp : ((l.getD i default).1, (l.getD i default).2) = l.getD i default := rfl
      have kl := h300 _ (getD_mem (d := default) h)
      have len1 : ([l.getD i default] : List Pr).length = 1 := rfl
      rw [if_pos (decide_eq_true (by omega)), lt]
      by_cases c : ((min i u - f : Nat) : Int) < most
      · have ih := ih (by omega) (by omega)
        rw [if_pos (decide_eq_true c), if_pos (by omega), eta, gt_nat, refIn_pure h1 h2 (by omega) (by omega), Option.bind_some, p3 i h, etp, w64_succ (by omega), len1]
        by_cases c2 : f ≤ i ∧ i < t
        · have c3 : i < u := by omega
          have eT : (l.drop f).take (min (i + 1) u - f) = (l.drop f).take (min i u - f) ++ [l.getD i default] := by
            rw [show min (i + 1) u - f = (i - f) + 1 by omega, show min i u - f = i - f by omega, drop_take_get (by omega), show f + (i - f) = i by omega]
          rw [if_pos (decide_eq_true c2), if_pos (by omega), ← eT]
          exact ih
        · rw [if_neg (by simpa using c2), show min i u - f = min (i + 1) u - f by omega]
          exact ih
      · rw [if_neg (by simpa using c), show min i u - f = u - f by omega]
    · rw [if_neg (by simp only [decide_eq_true_eq]; omega), show min i u - f = u - f by omega]
theorem refPart_pure {l : List Pr} {s : Sp} {f t : Nat} {most : Int} (hl : l.length ≤ 100000) (h300 : ∀ p ∈ l, p.1.length ≤ 300) (h1 : s.1.length ≤ 2000) (h2 : s.2.1.length ≤ 2000) (hp : AtPt l s f t) {k : Nat} (hk : 2001 + l.length < k) :
    sluicegateref11_Part.f k l s most = some ((l.drop f).take (uptoP f t most - f)) := by
  have hp1 := hp.1
  have := refPart_l0 (u := uptoP f t most) (most := most) hl h300 h1 h2 hp (by unfold uptoP; omega) (by unfold uptoP; omega) (by unfold uptoP; omega) k 0 (by omega) (by omega)
  simpa [sluicegateref11_Part.f] using this
theorem shared_l0 : ∀ (k : Nat) (a b : List UInt8) (i : Nat), a.length ≤ 4611686018427387904 → b.length ≤ 4611686018427387904 → i ≤ a.length → i ≤ b.length → a.length - i < k →
    lex_Shared.l0 k a b (i : Int) = some ((i + shd (a.drop i) (b.drop i) : Nat) : Int)
  | 0, a, b, i, _, _, _, _, h => by omega
  | k + 1, a, b, i, ha, hb, hia, hib, hk => by
    unfold lex_Shared.l0
    by_cases h1 : i < a.length ∧ i < b.length
    · have g0 : (i : Int) < (if (b.length : Int) < (a.length : Int) then (b.length : Int) else (a.length : Int)) := by split <;> omega
      have g1 : (0 : Int) ≤ (i : Int) ∧ (i : Int) < (a.length : Int) := by omega
      have g2 : (0 : Int) ≤ (i : Int) ∧ (i : Int) < (b.length : Int) := by omega
      have w : w64 ((i : Int) + 1) = ((i + 1 : Nat) : Int) := by rw [w64_id (by omega) (by omega)]; omega
      have ih := shared_l0 k a b (i + 1) ha hb (by omega) (by omega) (by omega)
      rw [if_pos (decide_eq_true g0), if_pos g1, if_pos g2, w, ih, drop_byte h1.1, drop_byte h1.2]
      simp only [gtb_eq, Int.toNat_natCast, shd, Bool.not_eq_true', decide_eq_false_iff_not]
      by_cases e : a.getD i 0 = b.getD i 0
      · rw [if_neg (fun h => h e), if_pos e]
        congr 2
        omega
      · rw [if_pos e, if_neg e]
        rfl
    · have g0 : ¬ (i : Int) < (if (b.length : Int) < (a.length : Int) then (b.length : Int) else (a.length : Int)) := by split <;> omega
      rw [if_neg (by simpa using g0)]
      have z : shd (a.drop i) (b.drop i) = 0 := by
        rcases Nat.lt_or_ge i a.length with h | h
        · rw [List.drop_eq_nil_of_le (show b.length ≤ i by omega)]; cases a.drop i <;> rfl
        · rw [List.drop_eq_nil_of_le (show a.length ≤ i by omega)]; rfl
      rw [z]
      congr 1
      split <;> omega
theorem shared_big {k : Nat} {a b : List UInt8} (ha : a.length ≤ 4611686018427387904) (hb : b.length ≤ 4611686018427387904) (hk : a.length < k) : lex_Shared.f k a b = some (shd a b : Int) := by
  have := shared_l0 k a b 0 ha hb (by omega) (by omega) (by omega)
  simpa [lex_Shared.f] using this
theorem cut_big {k : Nat} {a b : List UInt8} (ha : a.length ≤ 4611686018427387904) (hb : b.length ≤ 4611686018427387904) (hk : a.length < k) :
    lex_Cut.f k a b = some (if Op.bytesLess a b = true then (b.take (shd a b + 1), true) else ([], false)) := by
  unfold lex_Cut.f
  rw [shared_big ha hb hk]
  cases h : Op.bytesLess a b with
  | false => rfl
  | true =>
    have := shd_lt h
    have w : w64 ((shd a b : Int) + 1) = ((shd a b + 1 : Nat) : Int) := by rw [w64_id (by omega) (by omega)]; omega
    have g : (0 : Int) ≤ ((shd a b + 1 : Nat) : Int) ∧ ((shd a b + 1 : Nat) : Int) ≤ (b.length : Int) := by omega
    simp only [Bool.not_true, Bool.false_eq_true, if_false, Option.bind_some, w, if_pos g, Int.toNat_natCast, if_true]
theorem shared_pure {k : Nat} {a b : List UInt8} (ha : a.length ≤ 2000) (hb : b.length ≤ 2000) (hk : 2000 < k) : lex_Shared.f k a b = some (shd a b : Int) := shared_big (by omega) (by omega) (by omega)
theorem cut_pure {k : Nat} {a b : List UInt8} (ha : a.length ≤ 2000) (hb : b.length ≤ 2000) (hk : 2000 < k) :
    lex_Cut.f k a b = some (if Op.bytesLess a b = true then (b.take (shd a b + 1), true) else ([], false)) := cut_big (by omega) (by omega) (by omega)
theorem refcut_l0 (a b : List UInt8) (ha : a.length ≤ 2000) (hb : b.length ≤ 2000) (hlt : Op.bytesLess a b = true) (K : Nat) : ∀ (k i : Nat), i ≤ shd a b + 1 → shd a b + 1 - i < k → 2001 + (shd a b + 1 - i) < k →
    sluicegateref01_Cut.l0 k a b (i : Int) = some (b.take (shd a b + 1), true)
  | 0, i, _, h, _ => by omega
  | k + 1, i, hi, hk, hK => by
    have hs := shd_lt hlt
    unfold sluicegateref01_Cut.l0
    have g0 : (i : Int) ≤ (b.length : Int) := by omega
    have g1 : (0 : Int) ≤ (i : Int) ∧ (i : Int) ≤ (b.length : Int) := by omega
    rw [if_pos (decide_eq_true g0), if_pos g1, Int.toNat_natCast, compare_pure ha (by rw [List.length_take]; omega) (by omega), Option.bind_some]
    by_cases e : i = shd a b + 1
    · subst e
      rw [if_pos (decide_eq_true (scmp_lt.2 (bl_take_next hlt)))]
    · have := bl_take_shd (a := a) (b := b) (n := i) (by omega)
      have w : w64 ((i : Int) + 1) = ((i + 1 : Nat) : Int) := by rw [w64_id (by omega) (by omega)]; omega
      rw [if_neg (by simp only [decide_eq_true_eq, scmp_lt, this]; simp), w, refcut_l0 a b ha hb hlt K k (i + 1) (by omega) (by omega) (by omega)]
theorem refcut_pure {k : Nat} {a b : List UInt8} (ha : a.length ≤ 2000) (hb : b.length ≤ 2000) (hk : 5000 < k) :
    sluicegateref01_Cut.f k a b = some (if Op.bytesLess a b = true then (b.take (shd a b + 1), true) else ([], false)) := by
  unfold sluicegateref01_Cut.f
  rw [compare_pure ha hb (by omega), Option.bind_some]
  cases h : Op.bytesLess a b with
  | false =>
    rw [if_pos]
    · rfl
    · have := mt scmp_lt.1 (by simp [h] : ¬ Op.bytesLess a b = true)
      simp only [decide_eq_true_eq]
      omega
  | true =>
    have := scmp_lt.2 h
    have hs := shd_lt h
    rw [if_neg (by simp only [decide_eq_true_eq]; omega)]
    have := refcut_l0 a b ha hb h k k 0 (by omega) (by omega) (by omega)
    simpa using this
def cutK (a b : List UInt8) : List UInt8 := if Op.bytesLess a b = true then b.take (shd a b + 1) else []
theorem lhalve_pure {l : List Pr} (h150 : l.length ≤ 150) (hl : ∀ m ∈ l, m.1.length ≤ 300) {k : Nat} (hk : 3000 < k) : leaf_Halve.f k l = some (if l.length < 2 then ([], [], [], false) else (l.take ((l.length + 1) / 2), l.drop ((l.length + 1) / 2), cutK (l.getD ((l.length + 1) / 2 - 1) default).1 (l.getD ((l.length + 1) / 2) default).1, true)) := by
  unfold leaf_Halve.f
  by_cases h : l.length < 2
  · rw [if_pos (decide_eq_true (by omega)), if_pos h]
  · have k1 := hl _ (getD_mem (d := default) (show (l.length + 1) / 2 - 1 < l.length by omega))
    have k2 := hl _ (getD_mem (d := default) (show (l.length + 1) / 2 < l.length by omega))
    rw [if_neg (by simp only [decide_eq_true_eq]; omega), if_neg h, tdiv2 (by omega), w64_pred (by omega) (by omega), if_pos (by omega), if_pos (by omega), gt_nat, gt_nat, cut_pure (by omega) (by omega) (by omega), Option.bind_some, if_pos (by omega), if_pos (by omega), Int.toNat_natCast,
      clone11_pure (by rw [List.length_take]; omega), Option.bind_some, clone11_pure (by rw [List.length_drop]; omega), Option.bind_some]
    unfold cutK
    split <;> rfl
theorem LeafParts_pure {p q : Prop} (l : List Pr) (s : Sp) (most : Int) (_ : p) (_ : q) (hm : Ty.fit (bytesIn tt) (.int .i64) most) : ∃ k, sluicegatelaw11_LeafParts.f k l s most = some true := by
  refine ⟨20000 + 30, ?_⟩
  unfold sluicegatelaw11_LeafParts.f
  obtain ⟨g, e1, e2⟩ := great11_pure l [] (k := 20000 + 30) (by omega)
  rw [e1, Option.bind_some, awake11_pure]
  cases g with
  | true => rfl
  | false =>
    obtain ⟨⟨hl, l300⟩, _⟩ := e2 rfl
    rw [if_neg (by simp)]
    by_cases h3 : 300 < s.1.length
    · rw [if_pos (decide_eq_true (by omega))]; rfl
    · rw [if_neg (by simp only [decide_eq_true_eq]; omega)]
      by_cases h4 : 300 < s.2.1.length
      · rw [if_pos (decide_eq_true (by omega))]; rfl
      · rw [if_neg (by simp only [decide_eq_true_eq]; omega), right11_rise (by omega) l300 (by omega), Option.bind_some]
        cases hr : riseK pk l with
        | false => rfl
        | true =>
          have hr := (riseK_iff pk l).1 hr
          have eta : (s.1, s.2.1, s.2.2) = s := rfl
          obtain ⟨f, t, p1, p2⟩ := lpart_pure (s := s) hm (by omega) hr (k := 20000 + 30) (by omega)
          have lp : ((l.drop f).take (uptoP f t most - f)).length ≤ 120 := by rw [List.length_take, List.length_drop]; omega
          rw [if_neg (by simp), eta, p1, Option.bind_some, refPart_pure (by omega) l300 (by omega) (by omega) p2 (by omega), Option.bind_some, same11_pure (by omega) (by omega), Option.bind_some, if_neg (by simp), lhalve_pure (by omega) l300 (by omega), Option.bind_some]
          by_cases h2 : l.length < 2
          · rw [if_pos (decide_eq_true (by omega)), if_pos h2]
            rfl
          · have hh : (l.length + 1) / 2 < l.length := by omega
            have k1 := l300 _ (getD_mem (d := default) (show (l.length + 1) / 2 - 1 < l.length by omega))
            have k2 := l300 _ (getD_mem (d := default) hh)
            have lt := RiseK.get pk hr (show (l.length + 1) / 2 - 1 < (l.length + 1) / 2 by omega) hh default
            have l1 : (l.take ((l.length + 1) / 2)).length = (l.length + 1) / 2 := by rw [List.length_take]; omega
            have l2 : (l.drop ((l.length + 1) / 2)).length = l.length - (l.length + 1) / 2 := by rw [List.length_drop]
            have e0 : gt (l.drop ((l.length + 1) / 2)) 0 = l.getD ((l.length + 1) / 2) default := by
              rw [show (0 : Int) = ((0 : Nat) : Int) from rfl, gt_nat, getD_drop]; rfl
            rw [if_neg (by simp only [decide_eq_true_eq]; omega), if_neg h2, tdiv2 (by omega), w64_pred (by omega) (by omega), if_pos (by omega), if_pos (by omega), gt_nat, gt_nat, refcut_pure (by omega) (by omega) (by omega), Option.bind_some, if_neg (by simp), if_pos (by omega), Int.toNat_natCast]
            have eg : gt (l.take ((l.length + 1) / 2)) (((l.length + 1) / 2 - 1 : Nat) : Int) = l.getD ((l.length + 1) / 2 - 1) default := by rw [gt_nat, getD_take (by omega)]
            dsimp only
            rw [same11_pure (by omega) (by omega), Option.bind_some, if_neg (by simp), if_pos (by omega), same11_pure (by omega) (by omega), Option.bind_some, if_neg (by simp), l1, l2, eg, e0]
            generalize (l.getD ((l.length + 1) / 2 - 1) default) = p1 at lt k1
            generalize (l.getD ((l.length + 1) / 2) default) = p2 at lt k2
            replace lt : Op.bytesLess p1.1 p2.1 = true := lt
            have hs := shd_lt lt
            have eP : cutK p1.1 p2.1 = p2.1.take (shd p1.1 p2.1 + 1) := by unfold cutK; rw [if_pos lt]
            have lP : (cutK p1.1 p2.1).length ≤ 300 := by rw [eP, List.length_take]; omega
            have lo : Op.bytesLess p1.1 (cutK p1.1 p2.1) = true := by rw [eP]; exact bl_take_next lt
            have hi : Op.bytesLess p2.1 (cutK p1.1 p2.1) = false := by rw [eP]; exact bl_take_le _ _
            rw [if_pos lt, if_neg (by rw [eP]; simp), if_pos (by omega), compare_pure (by omega) (by omega) (by omega), Option.bind_some, if_pos (decide_eq_true (scmp_lt.2 lo)), if_pos (by omega), compare_pure (by omega) (by omega) (by omega), Option.bind_some, if_pos (decide_eq_true (scmp_le.2 hi))]
            rfl
end Go.SK.T
