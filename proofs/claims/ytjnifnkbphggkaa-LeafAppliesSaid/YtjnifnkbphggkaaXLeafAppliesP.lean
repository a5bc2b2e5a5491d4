/- The plain law behind LeafApplies: what its code computes is true for all pairs and messages. -/
import Derived.Test.YtjnifnkbphggkaaXLeafAppliesF0
set_option linter.unusedVariables false
set_option linter.unusedSimpArgs false
namespace Go.SK.T
open Go Go.SK
theorem compare_l0 : ∀ (k : Nat) (a b : List UInt8) (i : Nat), a.length ≤ 4611686018427387904 → b.length ≤ 4611686018427387904 → i ≤ a.length → i ≤ b.length → a.length - i < k →
    sluicegateref01_Compare.l0 k a b (i : Int) = some (scmp (a.drop i) (b.drop i))
  | 0, a, b, i, _, _, _, _, h => by omega
  | k + 1, a, b, i, ha, hb, hia, hib, hk => by
    unfold sluicegateref01_Compare.l0
    by_cases h1 : i < a.length
    · by_cases h2 : i < b.length
      · have g1 : (0 : Int) ≤ (i : Int) ∧ (i : Int) < (a.length : Int) := by omega
        have g2 : (0 : Int) ≤ (i : Int) ∧ (i : Int) < (b.length : Int) := by omega
        have w : w64 ((i : Int) + 1) = ((i + 1 : Nat) : Int) := by rw [w64_id (by omega) (by omega)]; omega
        have ih := compare_l0 k a b (i + 1) ha hb (by omega) (by omega) (by omega)
        simp only [g1.2, g2.2, g1, g2, decide_true, if_true, and_self, w, ih, gtb_lt, Int.toNat_natCast, drop_byte h1, drop_byte h2, scmp_cons, decide_eq_true_eq]
        split
        · rfl
        · split <;> rfl
      · have g1 : (i : Int) < (a.length : Int) := by omega
        have g2 : ¬ (i : Int) < (b.length : Int) := by omega
        have e : b.drop i = [] := List.drop_eq_nil_of_le (by omega)
        have z1 : ¬ (a.length : Int) < (b.length : Int) := by omega
        have z2 : (b.length : Int) < (a.length : Int) := by omega
        have z3 : ¬ (a.drop i).length = 0 := by rw [List.length_drop]; omega
        simp [g1, g2, e, z1, z2, scmp_nil_right, z3]
        omega
    · have g1 : ¬ (i : Int) < (a.length : Int) := by omega
      have e : a.drop i = [] := List.drop_eq_nil_of_le (by omega)
      have z : (b.drop i).length = b.length - i := List.length_drop ..
      simp only [g1, e, scmp_nil_left, z, decide_false, Bool.false_eq_true, if_false, decide_eq_true_eq]
      by_cases h2 : b.length = i
      · have z1 : ¬ (a.length : Int) < (b.length : Int) := by omega
        have z2 : ¬ (b.length : Int) < (a.length : Int) := by omega
        have h3 : a.length = i := by omega
        simp [h2, h3]
      · have z1 : (a.length : Int) < (b.length : Int) := by omega
        have z2 : ¬ b.length - i = 0 := by omega
        simp [z1, z2]
theorem compare_pure {k : Nat} {a b : List UInt8} (ha : a.length ≤ 2000) (hb : b.length ≤ 2000) (hk : 2000 < k) : sluicegateref01_Compare.f k a b = some (scmp a b) := by
  have := compare_l0 k a b 0 (by omega) (by omega) (by omega) (by omega) (by omega)
  simpa [sluicegateref01_Compare.f] using this
abbrev Msg := List UInt8 × Bool × List UInt8
theorem msg_eq (x y : Msg) : (decide (x.1 = y.1) && ((x.2.1 == y.2.1) && (decide (x.2.2 = y.2.2) && true))) = decide (x = y) := by
  obtain ⟨a, b, c⟩ := x
  obtain ⟨d, e, f⟩ := y
  by_cases h1 : a = d <;> by_cases h2 : b = e <;> by_cases h3 : c = f <;> simp [h1, h2, h3]
abbrev Pr := List UInt8 × List UInt8
abbrev pk (p : Pr) : List UInt8 := p.1
def okP (l : List Pr) : Prop := l.length ≤ 120 ∧ ∀ m ∈ l, m.1.length ≤ 300
def okM (l : List Msg) : Prop := l.length ≤ 120 ∧ ∀ m ∈ l, m.1.length ≤ 300
theorem mem_take_one {α : Type} [Inhabited α] {l : List α} {i : Nat} {m : α} (h : i < l.length) (hm : m ∈ l.take (i + 1)) : m ∈ l.take i ∨ m = l.getD i default := by
  rw [take_get h, List.mem_append] at hm
  exact hm.imp id (by simp)
theorem great11_l1 (a : List Pr) (m : List Msg) : ∀ (k i : Nat), i ≤ 200 → 200 - i < k → ∃ g, sluicegatelaw11_great.l1 k a m (i : Int) = some g ∧ (g = false → a.length ≤ 120)
  | 0, i, _, h => by omega
  | k + 1, i, hi, hk => by
    rw [sluicegatelaw11_great.l1]
    have fin : ∃ g, (if (decide (120 < (a.length : Int))) = true then (some true) else (some (decide (120 < (m.length : Int))))) = some g ∧ (g = false → a.length ≤ 120) := by
      by_cases h : 120 < a.length
      · exact ⟨true, by rw [if_pos (decide_eq_true (by omega))], fun h => by cases h⟩
      · exact ⟨_, by rw [if_neg (by simp only [decide_eq_true_eq]; omega)], fun _ => by omega⟩
    by_cases h : (i : Int) < (m.length : Int)
    · rw [if_pos (decide_eq_true h)]
      by_cases h2 : (i : Int) < 200
      · rw [if_pos (decide_eq_true h2), if_pos (by omega)]
        by_cases h3 : 300 < ((gt m (i : Int)).1.length : Int)
        · exact ⟨true, by rw [if_pos (decide_eq_true h3)], fun h => by cases h⟩
        · rw [if_neg (by simpa using h3), w64_succ (by omega)]
          exact great11_l1 a m k (i + 1) (by omega) (by omega)
      · rw [if_neg (by simpa using h2)]; exact fin
    · rw [if_neg (by simpa using h)]; exact fin
theorem great11_l2 (a : List Pr) (m : List Msg) : ∀ (k i : Nat), i ≤ 200 → i ≤ m.length → 200 - i < k → (∀ x ∈ m.take i, x.1.length ≤ 300) → ∃ g, sluicegatelaw11_great.l2 k a m (i : Int) = some g ∧ (g = false → a.length ≤ 120 ∧ okM m)
  | 0, i, _, _, h, _ => by omega
  | k + 1, i, hi, hm, hk, hall => by
    rw [sluicegatelaw11_great.l2]
    have fin : (200 ≤ i ∨ m.length ≤ i) → ∃ g, (if (decide (120 < (a.length : Int))) = true then (some true) else (some (decide (120 < (m.length : Int))))) = some g ∧ (g = false → a.length ≤ 120 ∧ okM m) := fun hh => by
      by_cases h : 120 < a.length
      · exact ⟨true, by rw [if_pos (decide_eq_true (by omega))], fun h => by cases h⟩
      · refine ⟨_, by rw [if_neg (by simp only [decide_eq_true_eq]; omega)], fun e => ?_⟩
        have e := of_decide_eq_false e
        refine ⟨by omega, by omega, fun x hx => hall x ?_⟩
        rwa [List.take_of_length_le (by omega)]
    by_cases h : (i : Int) < (m.length : Int)
    · rw [if_pos (decide_eq_true h)]
      by_cases h2 : (i : Int) < 200
      · rw [if_pos (decide_eq_true h2), if_pos (by omega), gt_nat]
        by_cases h3 : 300 < ((m.getD i default).1.length : Int)
        · exact ⟨true, by rw [if_pos (decide_eq_true h3)], fun h => by cases h⟩
        · rw [if_neg (by simpa using h3), w64_succ (by omega)]
          refine great11_l2 a m k (i + 1) (by omega) (by omega) (by omega) fun x hx => ?_
          rcases mem_take_one (by omega) hx with hx | rfl
          · exact hall x hx
          · omega
      · rw [if_neg (by simpa using h2)]; exact fin (by omega)
    · rw [if_neg (by simpa using h)]; exact fin (by omega)
theorem great11_l0 (a : List Pr) (m : List Msg) : ∀ (k i : Nat), i ≤ 200 → i ≤ a.length → 210 + (200 - i) < k → (∀ x ∈ a.take i, x.1.length ≤ 300) → ∃ g, sluicegatelaw11_great.l0 k a m (i : Int) = some g ∧ (g = false → okP a ∧ okM m)
  | 0, i, _, _, h, _ => by omega
  | k + 1, i, hi, hm, hk, hall => by
    rw [sluicegatelaw11_great.l0]
    by_cases h : (i : Int) < (a.length : Int)
    · rw [if_pos (decide_eq_true h)]
      by_cases h2 : (i : Int) < 200
      · rw [if_pos (decide_eq_true h2), if_pos (by omega), gt_nat]
        by_cases h3 : 300 < ((a.getD i default).1.length : Int)
        · exact ⟨true, by rw [if_pos (decide_eq_true h3)], fun h => by cases h⟩
        · rw [if_neg (by simpa using h3), w64_succ (by omega)]
          refine great11_l0 a m k (i + 1) (by omega) (by omega) (by omega) fun x hx => ?_
          rcases mem_take_one (by omega) hx with hx | rfl
          · exact hall x hx
          · omega
      · rw [if_neg (by simpa using h2)]
        obtain ⟨g, e1, e2⟩ := great11_l1 a m k 0 (by omega) (by omega)
        exact ⟨g, e1, fun e => by have := e2 e; omega⟩
    · rw [if_neg (by simpa using h)]
      obtain ⟨g, e1, e2⟩ := great11_l2 a m k 0 (by omega) (by omega) (by omega) (by simp)
      rw [List.take_of_length_le (by omega)] at hall
      exact ⟨g, e1, fun e => ⟨⟨(e2 e).1, hall⟩, (e2 e).2⟩⟩
theorem great11_pure (a : List Pr) (m : List Msg) {k : Nat} (hk : 500 < k) : ∃ g, sluicegatelaw11_great.f k a m = some g ∧ (g = false → okP a ∧ okM m) := great11_l0 a m k 0 (by omega) (by omega) (by omega) (by simp)
theorem bs11_pure {l : List Pr} (x : List UInt8) (hl : l.length ≤ 1000000) (hr : RiseK pk l) {k : Nat} (hk : l.length < k) :
    ∃ c : Nat, slices_BinarySearchFunc_api_Pair_api_Pair_string_leaf_compare.f k l x = some ((c : Int), decide (c < l.length ∧ (l.getD c default).1 = x)) ∧ AtK pk l x c :=
  search_loop (key := pk) (F := fun k a b => slices_BinarySearchFunc_api_Pair_api_Pair_string_leaf_compare.l0 k l x a b) hl hr (fun k a b => rfl) k 0 l.length (by omega) (by omega) (by omega) (fun j hj => by omega) (fun j hj hjl => by omega)
def gm (o : Option Pr) : List UInt8 × Bool := o.elim ([], false) fun p => (p.2, true)
theorem clone11_pure {l : List Pr} (hl : l.length ≤ 1000000) : slices_Clone_api_Pair_api_Pair.f l = some l := by
  unfold slices_Clone_api_Pair_api_Pair.f
  rw [if_pos (by simp; omega)]
  rfl
/-- what a message does -/
def app1 (l : List Pr) (x : Msg) : List Pr := if x.2.1 = true then cutOut pk x.1 l else putK pk (x.1, x.2.2) l
theorem rise_app {l : List Pr} (x : Msg) (h : RiseK pk l) : RiseK pk (app1 l x) := by
  unfold app1
  split
  · exact riseK_cut pk h
  · exact riseK_put pk h
theorem app_length (l : List Pr) (x : Msg) : (app1 l x).length ≤ l.length + 1 := by
  unfold app1
  split
  · exact Nat.le_trans (List.length_filter_le _ _) (by omega)
  · exact putK_length pk _ l
theorem app_keys {l : List Pr} {x : Msg} (h : ∀ p ∈ l, p.1.length ≤ 300) (hx : x.1.length ≤ 300) : ∀ p ∈ app1 l x, p.1.length ≤ 300 := fun p hp => by
  unfold app1 at hp
  split at hp
  · exact h p (List.mem_filter.1 hp).1
  · rcases mem_putK pk hp with rfl | hp
    · exact hx
    · exact h p hp
theorem apply_l0 {m : List Msg} (hm : m.length ≤ 1000) : ∀ (k i : Nat) (x1 : List Pr), i ≤ m.length → 5000 + (m.length - i) < k → x1.length ≤ 2000 + i → RiseK pk x1 → leaf_Apply.l0 k m x1 (i : Int) = some ((m.drop i).foldl app1 x1)
  | 0, i, x1, _, h, _, _ => by omega
  | k + 1, i, x1, hi, hk, hx, hr => by
    rw [leaf_Apply.l0]
    by_cases h : i < m.length
    · obtain ⟨c, e1, e2⟩ := bs11_pure (m.getD i default).1 (l := x1) (k := k) (by omega) hr (by omega)
      have c1 := e2.1
      have ih := apply_l0 hm k (i + 1) (app1 x1 (m.getD i default)) (by omega) (by omega) (by have := app_length x1 (m.getD i default); omega) (rise_app _ hr)
      have wi : w64 ((i : Int) + 1) = ((i + 1 : Nat) : Int) := w64_succ (by omega)
      rw [if_pos (decide_eq_true (by omega)), if_pos (by omega), gt_nat, e1, Option.bind_some, wi, drop_cons h, List.foldl_cons, ← ih]
      generalize m.getD i default = x at e1 e2
      by_cases q : c < x1.length ∧ (x1.getD c default).1 = x.1
      · rw [if_pos (decide_eq_true q)]
        cases d : x.2.1 with
        | true =>
          have hc := e2.cut hr
          rw [if_pos (show c < x1.length ∧ pk (x1.getD c default) = x.1 from q)] at hc
          rw [if_pos rfl, w64_succ (by omega)]
          unfold slices_Delete_api_Pair_api_Pair.f
          rw [if_pos (by omega), Option.bind_some, Int.toNat_natCast, Int.toNat_natCast, ← hc]
          unfold app1
          rw [if_pos d]
        | false =>
          have hc := AtK.put (key := pk) (m := (x.1, x.2.2)) hr e2
          rw [if_pos (show c < x1.length ∧ pk (x1.getD c default) = pk (x.1, x.2.2) from q)] at hc
          rw [if_neg (by simp), if_pos (by omega), gt_nat, Int.toNat_natCast, q.2, ← hc]
          unfold app1
          rw [if_neg (by rw [d]; simp)]
      · rw [if_neg (by simpa using q)]
        cases d : x.2.1 with
        | true =>
          have hc := e2.cut hr
          rw [if_neg (show ¬ (c < x1.length ∧ pk (x1.getD c default) = x.1) from q)] at hc
          rw [if_neg (by simp)]
          unfold app1
          rw [if_pos d, hc]
        | false =>
          have hc := AtK.put (key := pk) (m := (x.1, x.2.2)) hr e2
          rw [if_neg (show ¬ (c < x1.length ∧ pk (x1.getD c default) = pk (x.1, x.2.2)) from q)] at hc
          rw [if_pos (by rfl)]
          unfold slices_Insert_api_Pair_api_Pair.f
          rw [if_pos (by omega), if_pos (by simp; omega), Option.bind_some, Int.toNat_natCast]
          unfold app1
          rw [if_neg (by rw [d]; simp), hc]
          simp
    · rw [if_neg (by simp; omega), List.drop_eq_nil_of_le (by omega)]
      rfl
theorem apply_pure {l : List Pr} {m : List Msg} (hl : l.length ≤ 1000) (hm : m.length ≤ 1000) (hr : RiseK pk l) {k : Nat} (hk : 7000 < k) : leaf_Apply.f k l m = some (m.foldl app1 l) := by
  unfold leaf_Apply.f
  rw [clone11_pure (by omega), Option.bind_some]
  have := apply_l0 hm k 0 l (by omega) (by omega) (by omega) hr
  simpa using this
theorem refCut_l0 {l : List Pr} (x : List UInt8) (hl : l.length ≤ 5000) : ∀ (k i : Nat) (x1 : List Pr), i ≤ l.length → x1.length ≤ i → l.length - i < k → sluicegateref11_Cut.l0 k l x x1 (i : Int) = some (x1 ++ cutOut pk x (l.drop i))
  | 0, i, x1, _, _, h => by omega
  | k + 1, i, x1, hi, hx, hk => by
    rw [sluicegateref11_Cut.l0]
    by_cases h : i < l.length
    · have etp : ((l.getD i default).1, (l.getD i default).2) = l.getD i default := rfl
      rw [if_pos (decide_eq_true (by omega)), if_pos (by omega), gt_nat, etp, w64_succ (by omega), drop_cons h]
      unfold cutOut
      rw [List.filter_cons]
      by_cases e : (l.getD i default).1 = x
      · rw [if_neg (by rw [decide_eq_true e]; simp), refCut_l0 x hl k (i + 1) x1 (by omega) (by omega) (by omega), if_neg (by rw [show pk (l.getD i default) = x from e]; simp)]
        rfl
      · rw [if_pos (by rw [decide_eq_false e]; rfl), if_pos (by simp; omega), refCut_l0 x hl k (i + 1) _ (by omega) (by simp; omega) (by omega), if_pos (by rw [decide_eq_false (show ¬ pk (l.getD i default) = x from e)]; rfl)]
        simp [cutOut]
    · rw [if_neg (by simp; omega), List.drop_eq_nil_of_le (by omega)]
      simp [cutOut]
theorem refCut11_pure {l : List Pr} (x : List UInt8) (hl : l.length ≤ 5000) {k : Nat} (hk : l.length < k) : sluicegateref11_Cut.f k l x = some (cutOut pk x l) := by
  have := refCut_l0 x hl k 0 [] (by omega) (by simp) (by omega)
  simpa [sluicegateref11_Cut.f] using this
theorem refPut11_l0 {r : List Pr} {key val : List UInt8} (hl : r.length ≤ 5000) (hk300 : key.length ≤ 300) (hr300 : ∀ p ∈ r, p.1.length ≤ 300) (hr : RiseK pk r) (hne : ∀ p ∈ r, p.1 ≠ key) : ∀ (k i : Nat), i ≤ r.length → 2001 + (r.length - i) < k → (∀ j, j < i → Op.bytesLess (r.getD j default).1 key = true) →
    sluicegateref11_Put.l0 k key val r (i : Int) = some (putK pk (key, val) r)
  | 0, i, _, h, _ => by omega
  | k + 1, i, hi, hk, hb => by
    rw [sluicegateref11_Put.l0]
    have fin : (∀ j, i ≤ j → j < r.length → Op.bytesLess (r.getD j default).1 key = false) → r.take i ++ [(key, val)] ++ r.drop i = putK pk (key, val) r := fun h => by
      have hat : AtK pk r (pk (key, val)) i := ⟨hi, hb, h⟩
      rw [hat.put hr, if_neg (fun t => hne _ (getD_mem t.1) t.2)]
      simp
    have rest : (if (0 : Int) ≤ (i : Int) ∧ (i : Int) ≤ (r.length : Int) then (if (([] : List Pr).length + (r.take (i : Int).toNat).length) * 32 ≤ 140737488355328 then (if ((([] : List Pr) ++ (r.take (i : Int).toNat)).length + ([(key, val)] : List Pr).length) * 32 ≤ 140737488355328 then (if 0 ≤ (i : Int) ∧ (i : Int) ≤ (r.length : Int) then (if (((([] : List Pr) ++ (r.take (i : Int).toNat)) ++ ([(key, val)] : List Pr)).length + (r.drop (i : Int).toNat).length) * 32 ≤ 140737488355328 then (some (((([] : List Pr) ++ (r.take (i : Int).toNat)) ++ ([(key, val)] : List Pr)) ++ (r.drop (i : Int).toNat))) else none) else none) else none) else none) else none) = some (r.take i ++ [(key, val)] ++ r.drop i) := by
      rw [if_pos (by omega), if_pos (by simp; omega), if_pos (by simp; omega), if_pos (by omega), if_pos (by simp; omega)]
      simp
    by_cases h : i < r.length
    · rw [if_pos (decide_eq_true (by omega)), if_pos (by omega), gt_nat, compare_pure (by have := hr300 _ (getD_mem (d := default) h); omega) (by omega) (by omega), Option.bind_some]
      cases q : Op.bytesLess (r.getD i default).1 key with
      | true =>
        rw [if_pos (decide_eq_true (scmp_lt.2 q)), w64_succ (by omega)]
        refine refPut11_l0 hl hk300 hr300 hr hne k (i + 1) (by omega) (by omega) fun j hj => ?_
        by_cases e : j = i
        · subst e; exact q
        · exact hb j (by omega)
      | false =>
        rw [if_neg (by simp only [decide_eq_true_eq, scmp_lt, q]; simp), rest, fin]
        intro j hj hjl
        by_cases e : j = i
        · subst e; exact q
        · exact bl_le_trans q (bl_asymm (RiseK.get pk hr (show i < j by omega) hjl default))
    · rw [if_neg (by simp; omega), rest, fin]
      intro j hj hjl
      omega
theorem put_cut {l : List Pr} {key val : List UInt8} (hr : RiseK pk l) : putK pk (key, val) (cutOut pk key l) = putK pk (key, val) l :=
  riseK_ext pk (riseK_put pk (riseK_cut pk hr)) (riseK_put pk hr) fun k => by
    rw [fndK_put, fndK_put, fndK_cut]
    by_cases e : pk (key, val) = k
    · rw [if_pos e, if_pos e]
    · rw [if_neg e, if_neg e, if_neg (show ¬ key = k from e)]
theorem refPut11_pure {l : List Pr} {key val : List UInt8} (hl : l.length ≤ 5000) (hk300 : key.length ≤ 300) (hr300 : ∀ p ∈ l, p.1.length ≤ 300) (hr : RiseK pk l) {k : Nat} (hk : 8000 < k) : sluicegateref11_Put.f k l key val = some (putK pk (key, val) l) := by
  have hl2 : (cutOut pk key l).length ≤ l.length := List.length_filter_le _ _
  unfold sluicegateref11_Put.f
  rw [refCut11_pure key (by omega) (by omega), Option.bind_some]
  have := refPut11_l0 (r := cutOut pk key l) (key := key) (val := val) (by omega) hk300 (fun p hp => hr300 p (List.mem_filter.1 hp).1) (riseK_cut pk hr) (fun p hp e => by have := (List.mem_filter.1 hp).2; simp [show pk p = key from e] at this) k 0 (by omega) (by omega) (fun j hj => by omega)
  rw [← put_cut hr]
  exact this
theorem refApply_l0 {m : List Msg} (hm : m.length ≤ 1000) (hm300 : ∀ x ∈ m, x.1.length ≤ 300) : ∀ (k i : Nat) (x1 : List Pr), i ≤ m.length → 8000 + (m.length - i) < k → x1.length ≤ 2000 + i → (∀ p ∈ x1, p.1.length ≤ 300) → RiseK pk x1 → sluicegateref11_Apply.l0 k m x1 (i : Int) = some ((m.drop i).foldl app1 x1)
  | 0, i, x1, _, h, _, _, _ => by omega
  | k + 1, i, x1, hi, hk, hx, h300, hr => by
    rw [sluicegateref11_Apply.l0]
    by_cases h : i < m.length
    · have kx := hm300 _ (getD_mem (d := default) h)
      have ih := refApply_l0 hm hm300 k (i + 1) (app1 x1 (m.getD i default)) (by omega) (by omega) (by have := app_length x1 (m.getD i default); omega) (app_keys h300 kx) (rise_app _ hr)
      rw [if_pos (decide_eq_true (by omega)), if_pos (by omega), gt_nat, w64_succ (by omega), drop_cons h, List.foldl_cons, ← ih]
      generalize m.getD i default = x at kx
      cases d : x.2.1 with
      | true =>
        rw [if_pos rfl, refCut11_pure x.1 (by omega) (by omega), Option.bind_some]
        unfold app1
        rw [if_pos d]
      | false =>
        rw [if_neg (by simp), refPut11_pure (by omega) kx h300 hr (by omega), Option.bind_some]
        unfold app1
        rw [if_neg (by rw [d]; simp)]
    · rw [if_neg (by simp; omega), List.drop_eq_nil_of_le (by omega)]
      rfl
theorem refApply_pure {l : List Pr} {m : List Msg} (hl : l.length ≤ 1000) (hm : m.length ≤ 1000) (hm300 : ∀ x ∈ m, x.1.length ≤ 300) (h300 : ∀ p ∈ l, p.1.length ≤ 300) (hr : RiseK pk l) {k : Nat} (hk : 10000 < k) : sluicegateref11_Apply.f k l m = some (m.foldl app1 l) := by
  have := refApply_l0 hm hm300 k 0 l (by omega) (by omega) (by omega) h300 hr
  simpa [sluicegateref11_Apply.f] using this
theorem fold_rise : ∀ (m : List Msg) (l : List Pr), RiseK pk l → RiseK pk (m.foldl app1 l)
  | [], l, h => h
  | x :: m, l, h => fold_rise m _ (rise_app x h)
theorem fold_length : ∀ (m : List Msg) (l : List Pr), (m.foldl app1 l).length ≤ l.length + m.length
  | [], l => by simp
  | x :: m, l => by
    have h1 := fold_length m (app1 l x)
    have h2 := app_length l x
    simp only [List.foldl_cons, List.length_cons]
    omega
theorem fold_keys : ∀ (m : List Msg) (l : List Pr), (∀ p ∈ l, p.1.length ≤ 300) → (∀ x ∈ m, x.1.length ≤ 300) → ∀ p ∈ m.foldl app1 l, p.1.length ≤ 300
  | [], l, h, _ => h
  | x :: m, l, h, hm => fold_keys m _ (app_keys h (hm x (by simp))) fun y hy => hm y (by simp [hy])
theorem right11_rise {l : List Pr} (hl : l.length ≤ 100000) (h300 : ∀ p ∈ l, p.1.length ≤ 300) {k : Nat} (hk : 2001 + l.length < k) : sluicegateref11_Right.f k l = some (riseK pk l) := by
  have := right_loop (key := pk) (F := fun k i => sluicegateref11_Right.l0 k l i) (cmp := sluicegateref01_Compare.f) (K := 2000) (by omega) (fun k hk a b ha hb => compare_pure (Nat.le_trans (h300 a ha) (by decide)) (Nat.le_trans (h300 b hb) (by decide)) hk) (fun k i => rfl) k 0 (by omega) (by omega)
  simpa [sluicegateref11_Right.f] using this
theorem pr_eq (x y : Pr) : (decide (x.1 = y.1) && (decide (x.2 = y.2) && true)) = decide (x = y) := by
  obtain ⟨a, b⟩ := x
  obtain ⟨d, e⟩ := y
  by_cases h1 : a = d <;> by_cases h2 : b = e <;> simp [h1, h2]
theorem same11_pure {k : Nat} {a b : List Pr} (ha : a.length ≤ 1000000) (hk : a.length < k) : sluicegateref11_Same.f k a b = some (decide (a = b)) := by
  unfold sluicegateref11_Same.f
  by_cases h : a.length = b.length
  · rw [if_neg (by simp [h])]
    have := same_loop (F := fun k i => sluicegateref11_Same.l0 k a b i) (eqb := fun x y => decide (x.1 = y.1) && (decide (x.2 = y.2) && true)) pr_eq h ha (fun k i => rfl) k 0 (by omega) (by omega)
    simpa using this
  · rw [if_pos (by simp; omega)]
    have : a ≠ b := fun e => h (by rw [e])
    simp [this]
theorem awake11_pure (k : Nat) : sluicegatelaw11_awake.f (k + 30) = some true := by rfl
theorem LeafApplies_pure {p q : Prop} (l : List Pr) (m : List Msg) (_ : p) (_ : q) : ∃ k, sluicegatelaw11_LeafApplies.f k l m = some true := by
  refine ⟨20000 + 30, ?_⟩
  unfold sluicegatelaw11_LeafApplies.f
  obtain ⟨g, e1, e2⟩ := great11_pure l m (k := 20000 + 30) (by omega)
  rw [e1, Option.bind_some, awake11_pure]
  cases g with
  | true => rfl
  | false =>
    obtain ⟨⟨hl, l300⟩, hm, m300⟩ := e2 rfl
    rw [if_neg (by simp), right11_rise (by omega) l300 (by omega), Option.bind_some]
    cases hr : riseK pk l with
    | false => rfl
    | true =>
      have hr := (riseK_iff pk l).1 hr
      have h1 := fold_length m l
      rw [if_neg (by simp), if_pos (by simp; omega), apply_pure (by omega) (by omega) hr (by omega), Option.bind_some, refApply_pure (by omega) (by omega) m300 l300 hr (by omega), Option.bind_some, same11_pure (by omega) (by omega), Option.bind_some, if_pos (decide_eq_true rfl),
        right11_rise (by omega) (fold_keys m l l300 m300) (by omega), (riseK_iff pk _).2 (fold_rise m l hr), Option.bind_some, if_pos rfl, List.nil_append, same11_pure (by omega) (by omega), Option.bind_some, if_pos (decide_eq_true rfl)]
      rfl
end Go.SK.T
