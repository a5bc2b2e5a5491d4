/- The plain law behind BufPuts: what its code computes is true for every two lists of messages, and every message. -/
import Derived.Test.YtelieidgolfboaaXBufPutsF0
set_option linter.unusedVariables false
set_option linter.unusedSimpArgs false
namespace Go.SK.T
open Go Go.SK
theorem awake_pure (k : Nat) : sluicegatelaw10_awake.f (k + 20) = some true := by rfl
theorem compare_l0 : ∀ (k : Nat) (a b : List UInt8) (i : Nat), a.length ≤ 4611686018427387904 → b.length ≤ 4611686018427387904 → i ≤ a.length → i ≤ b.length → a.length - i < k →
    sluicegateref01_Compare.l0 k a b (i : Int) = some (scmp (a.drop i) (b.drop i))
  | 0, a, b, i, _, _, _, _, h => by omega
  | k + 1, a, b, i, ha, hb, hia, hib, hk => by
    unfold sluicegateref01_Compare.l0
    by_cases h1 : i < a.length
    · by_cases h2 : i < b.length
      · have g1 : (0 : Int) ≤ (i : Int) ∧ (i : Int) < (a.length : Int) := by omega
        have g2 : (0 : Int) ≤ (i : Int) ∧ (i : Int) < (b.length : Int) := by omega
        have w : w64 ((i : Int) + 1) = ((i + 1 : Nat) : Int) := by rw [w64_id (by omega) (by omega)]; omega
        have ih := compare_l0 k a b (i + 1) ha hb (by omega) (by omega) (by omega)
        simp only [g1.2, g2.2, g1, g2, decide_true, if_true, and_self, w, ih, gtb_lt, Int.toNat_natCast, drop_byte h1, drop_byte h2, scmp_cons, decide_eq_true_eq]
        split
        · rfl
        · split <;> rfl
      · have g1 : (i : Int) < (a.length : Int) := by omega
        have g2 : ¬ (i : Int) < (b.length : Int) := by omega
        have e : b.drop i = [] := List.drop_eq_nil_of_le (by omega)
        have z1 : ¬ (a.length : Int) < (b.length : Int) := by omega
        have z2 : (b.length : Int) < (a.length : Int) := by omega
        have z3 : ¬ (a.drop i).length = 0 := by rw [List.length_drop]; omega
        simp [g1, g2, e, z1, z2, scmp_nil_right, z3]
        omega
    · have g1 : ¬ (i : Int) < (a.length : Int) := by omega
      have e : a.drop i = [] := List.drop_eq_nil_of_le (by omega)
      have z : (b.drop i).length = b.length - i := List.length_drop ..
      simp only [g1, e, scmp_nil_left, z, decide_false, Bool.false_eq_true, if_false, decide_eq_true_eq]
      by_cases h2 : b.length = i
      · have z1 : ¬ (a.length : Int) < (b.length : Int) := by omega
        have z2 : ¬ (b.length : Int) < (a.length : Int) := by omega
        have h3 : a.length = i := by omega
        simp [h2, h3]
      · have z1 : (a.length : Int) < (b.length : Int) := by omega
        have z2 : ¬ b.length - i = 0 := by omega
        simp [z1, z2]
theorem compare_pure {k : Nat} {a b : List UInt8} (ha : a.length ≤ 2000) (hb : b.length ≤ 2000) (hk : 2000 < k) : sluicegateref01_Compare.f k a b = some (scmp a b) := by
  have := compare_l0 k a b 0 (by omega) (by omega) (by omega) (by omega) (by omega)
  simpa [sluicegateref01_Compare.f] using this
abbrev Msg := List UInt8 × Bool × List UInt8
theorem msg_eq (x y : Msg) : (decide (x.1 = y.1) && ((x.2.1 == y.2.1) && (decide (x.2.2 = y.2.2) && true))) = decide (x = y) := by
  obtain ⟨a, b, c⟩ := x
  obtain ⟨d, e, f⟩ := y
  by_cases h1 : a = d <;> by_cases h2 : b = e <;> by_cases h3 : c = f <;> simp [h1, h2, h3]
theorem refSame_l0 : ∀ (k : Nat) (a b : List Msg) (i : Nat), a.length ≤ 1000000 → a.length = b.length → i ≤ a.length → a.length - i < k → sluicegateref10_Same.l0 k a b (i : Int) = some (decide (a.drop i = b.drop i))
  | 0, a, b, i, _, _, _, h => by omega
  | k + 1, a, b, i, ha, hab, hi, hk => by
    rw [sluicegateref10_Same.l0]
    by_cases h : i < a.length
    · have g1 : (0 : Int) ≤ (i : Int) ∧ (i : Int) < (a.length : Int) := by omega
      have g2 : (0 : Int) ≤ (i : Int) ∧ (i : Int) < (b.length : Int) := by omega
      rw [if_pos (decide_eq_true g1.2), if_pos g1, if_pos g2, msg_eq, w64_succ (by omega), refSame_l0 k a b (i + 1) ha hab (by omega) (by omega), drop_cons h, drop_cons (show i < b.length by omega), gt_nat, gt_nat]
      generalize a.getD i default = x
      generalize b.getD i default = y
      by_cases e : x = y
      · simp [e]
      · simp [e]
    · rw [if_neg (by simp; omega), List.drop_eq_nil_of_le (by omega), List.drop_eq_nil_of_le (by omega)]
      rfl
theorem refSame_pure {k : Nat} {a b : List Msg} (ha : a.length ≤ 1000000) (hk : a.length < k) : sluicegateref10_Same.f k a b = some (decide (a = b)) := by
  unfold sluicegateref10_Same.f
  by_cases h : a.length = b.length
  · rw [if_neg (by simp [h])]
    have := refSame_l0 k a b 0 ha h (by omega) (by omega)
    simpa using this
  · rw [if_pos (by simp; omega)]
    have : a ≠ b := fun e => h (by rw [e])
    simp [this]
def okL (l : List Msg) : Prop := l.length ≤ 150 ∧ ∀ m ∈ l, m.1.length ≤ 300
theorem great_both : ∀ (k : Nat) (ss : List (List Msg)), ss.length ≤ 10 →
    (∀ i : Nat, i ≤ ss.length → (ss.length - i) * 210 < k → ∃ g, sluicegatelaw10_great.l0 k ss (i : Int) = some g ∧ (g = false → ∀ j, i ≤ j → j < ss.length → okL (ss.getD j []))) ∧
    (∀ i j : Nat, i < ss.length → j ≤ 200 → (ss.length - i - 1) * 210 + (205 - j) < k → j ≤ (ss.getD i []).length → (∀ m ∈ (ss.getD i []).take j, m.1.length ≤ 300) →
      ∃ g, sluicegatelaw10_great.l1 k ss (i : Int) (j : Int) = some g ∧ (g = false → ∀ j, i ≤ j → j < ss.length → okL (ss.getD j [])))
  | 0, ss, _ => ⟨fun i _ h => by omega, fun i j _ _ h => by omega⟩
  | k + 1, ss, hs => by
    obtain ⟨ih0, ih1⟩ := great_both k ss hs
    refine ⟨fun i hi hk => ?_, fun i j hi hj hk hjl hm => ?_⟩
    · rw [sluicegatelaw10_great.l0]
      by_cases h : i < ss.length
      · rw [if_pos (decide_eq_true (by omega))]
        have := ih1 i 0 h (by omega) (by omega) (by omega) (by simp)
        simpa using this
      · rw [if_neg (by simp; omega)]
        exact ⟨false, rfl, fun _ j h1 h2 => by omega⟩
    · rw [sluicegatelaw10_great.l1]
      have g1 : (0 : Int) ≤ (i : Int) ∧ (i : Int) < (ss.length : Int) := by omega
      have e : gt ss (i : Int) = ss.getD i [] := gt_nat ss i
      have tail : (ss.getD i []).length ≤ j ∨ j = 200 → ∃ g, (if (decide (150 < (((ss.getD i []).length : Nat) : Int))) = true then some true else sluicegatelaw10_great.l0 k ss (w64 ((i : Int) + 1))) = some g ∧ (g = false → ∀ j, i ≤ j → j < ss.length → okL (ss.getD j [])) := fun ht => by
        by_cases h : 150 < (ss.getD i []).length
        · rw [if_pos (decide_eq_true (by omega))]
          exact ⟨true, rfl, fun h => by cases h⟩
        · rw [if_neg (by simp only [decide_eq_true_eq]; omega), w64_succ (by omega)]
          obtain ⟨g, hg, hg2⟩ := ih0 (i + 1) (by omega) (by omega)
          refine ⟨g, hg, fun e' q h1 h2 => ?_⟩
          by_cases hq : q = i
          · subst hq
            refine ⟨by omega, fun m hm' => hm m ?_⟩
            rwa [List.take_of_length_le (by omega)]
          · exact hg2 e' q (by omega) h2
      rw [if_pos g1, e]
      by_cases h1 : j < (ss.getD i []).length
      · rw [if_pos (decide_eq_true (by omega))]
        by_cases h2 : j < 200
        · have g2 : (0 : Int) ≤ (j : Int) ∧ (j : Int) < (((ss.getD i []).length : Nat) : Int) := by omega
          rw [if_pos (decide_eq_true (by omega)), if_pos g2, gt_nat]
          by_cases h3 : 300 < ((ss.getD i []).getD j default).1.length
          · rw [if_pos (decide_eq_true (by omega))]
            exact ⟨true, rfl, fun h => by cases h⟩
          · rw [if_neg (by simp only [decide_eq_true_eq]; omega), w64_succ (by omega)]
            refine ih1 i (j + 1) hi (by omega) (by omega) (by omega) fun m hm' => ?_
            rw [List.take_add_one, List.mem_append] at hm'
            rcases hm' with hm' | hm'
            · exact hm m hm'
            · rw [List.getElem?_eq_getElem h1] at hm'
              simp only [Option.toList_some, List.mem_singleton] at hm'
              subst hm'
              rw [List.getD_eq_getElem?_getD, List.getElem?_eq_getElem h1] at h3
              simp only [Option.getD_some] at h3
              omega
        · rw [if_neg (by simp only [decide_eq_true_eq]; omega)]
          exact tail (.inr (by omega))
      · rw [if_neg (by simp only [decide_eq_true_eq]; omega)]
        exact tail (.inl (by omega))
theorem great_pure {k : Nat} {ss : List (List Msg)} (hs : ss.length ≤ 10) (hk : 2100 < k) : ∃ g, sluicegatelaw10_great.f k ss = some g ∧ (g = false → ∀ l ∈ ss, okL l) := by
  obtain ⟨g, h1, h2⟩ := (great_both k ss hs).1 0 (by omega) (by omega)
  refine ⟨g, by simpa [sluicegatelaw10_great.f] using h1, fun e l hl => ?_⟩
  obtain ⟨i, hi, rfl⟩ := List.getElem_of_mem hl
  have := h2 e i (by omega) hi
  rwa [List.getD_eq_getElem?_getD, List.getElem?_eq_getElem hi] at this
abbrev mk (m : Msg) : List UInt8 := m.1
/-- no longer than this, and the keys too -/
def okN (N : Nat) (l : List Msg) : Prop := l.length ≤ N ∧ ∀ m ∈ l, m.1.length ≤ 300
theorem bs10_pure {l : List Msg} (x : List UInt8) (hl : l.length ≤ 1000000) (hr : RiseK mk l) {k : Nat} (hk : l.length < k) :
    ∃ c : Nat, slices_BinarySearchFunc_api_Msg_api_Msg_string_buf_compare.f k l x = some ((c : Int), decide (c < l.length ∧ (l.getD c default).1 = x)) ∧ AtK mk l x c :=
  search_loop (key := mk) (F := fun k a b => slices_BinarySearchFunc_api_Msg_api_Msg_string_buf_compare.l0 k l x a b) hl hr (fun k a b => rfl) k 0 l.length (by omega) (by omega) (by omega) (fun j hj => by omega) (fun j hj hjl => by omega)
def fm (o : Option Msg) : Msg × Bool := o.elim (([], false, []), false) fun m => (m, true)
theorem find10_pure {l : List Msg} (x : List UInt8) (hl : l.length ≤ 1000000) (hr : RiseK mk l) {k : Nat} (hk : l.length < k) : buf_Find.f k l x = some (fm (fndK mk l x)) := by
  obtain ⟨c, e1, e2⟩ := bs10_pure x hl hr hk
  have hf := e2.find hr
  unfold buf_Find.f
  rw [e1, Option.bind_some, hf]
  by_cases q : c < l.length ∧ (l.getD c default).1 = x
  · rw [if_pos (show c < l.length ∧ mk (l.getD c default) = x from q), decide_eq_true q, if_neg (by simp), if_pos (by omega), gt_nat]
    rfl
  · rw [if_neg (show ¬ (c < l.length ∧ mk (l.getD c default) = x) from q), decide_eq_false q, if_pos (by rfl)]
    rfl
theorem refFind_pure {l : List Msg} (x : List UInt8) (hl : l.length ≤ 1000000) {k : Nat} (hk : l.length < k) : sluicegateref10_Find.f k l x = some (fm (fndK mk l x)) := by
  have := find_loop (key := mk) (F := fun k i => sluicegateref10_Find.l0 k l x i) (yes := fun m => (m, true)) (no := (([], false, []), false)) hl (fun k i => rfl) k 0 (by omega) (by omega)
  simpa [sluicegateref10_Find.f, fm] using this
theorem clone10_pure {l : List Msg} (hl : l.length ≤ 1000000) : slices_Clone_api_Msg_api_Msg.f l = some l := by
  unfold slices_Clone_api_Msg_api_Msg.f
  rw [if_pos (by simp; omega)]
  rfl
theorem put10_pure {l : List Msg} (m : Msg) (hl : l.length ≤ 100000) (hr : RiseK mk l) {k : Nat} (hk : l.length < k) : buf_Put.f k l m = some (putK mk m l) := by
  obtain ⟨c, e1, e2⟩ := bs10_pure m.1 (by omega) hr hk
  have hf := AtK.put (m := m) hr e2
  have hc := e2.1
  unfold buf_Put.f
  rw [e1, Option.bind_some, clone10_pure (by omega), Option.bind_some, hf]
  by_cases q : c < l.length ∧ (l.getD c default).1 = m.1
  · rw [if_pos (show c < l.length ∧ mk (l.getD c default) = mk m from q), if_pos (decide_eq_true q), if_pos (by omega)]
    rfl
  · rw [if_neg (show ¬ (c < l.length ∧ mk (l.getD c default) = mk m) from q), if_neg (by simpa using q)]
    unfold slices_Insert_api_Msg_api_Msg.f
    rw [if_pos (by simp; omega), if_pos (by simp; omega), Option.bind_some, Int.toNat_natCast]
    simp
theorem refPut_done {l : List Msg} {m : Msg} (hl : okN 1000 l) (hm : m.1.length ≤ 300) : ∀ (k i : Nat) (x1 : List Msg), i ≤ l.length → x1.length ≤ 2000 + i → l.length - i < k → (∀ b ∈ l.drop i, b.1 ≠ m.1) → sluicegateref10_Put.l0 k l m x1 true (i : Int) = some (x1 ++ l.drop i)
  | 0, i, x1, _, _, h, _ => by omega
  | k + 1, i, x1, hi, hx, hk, hn => by
    have h1000 := hl.1
    rw [sluicegateref10_Put.l0]
    by_cases h : i < l.length
    · have etm : ((l.getD i default).1, (l.getD i default).2.1, (l.getD i default).2.2) = l.getD i default := rfl
      have ne : (l.getD i default).1 ≠ m.1 := hn _ (by rw [drop_cons h]; simp)
      have ih := refPut_done hl hm k (i + 1) (x1 ++ [l.getD i default]) (by omega) (by simp; omega) (by omega) (fun b hb => hn b (by rw [drop_cons h]; simp [hb]))
      rw [if_pos (decide_eq_true (by omega)), if_neg (by simp), if_pos (by omega), gt_nat, if_pos (by simp only [ne, decide_false]; rfl), etm, if_pos (by simp; omega), w64_succ (by omega), ih, drop_cons h]
      simp
    · rw [if_neg (by simp; omega), if_neg (by simp), List.drop_eq_nil_of_le (by omega)]
      simp
theorem refPut_l0 {l : List Msg} {m : Msg} (hl : okN 1000 l) (hm : m.1.length ≤ 300) : ∀ (k i : Nat) (x1 : List Msg), i ≤ l.length → x1.length ≤ 1000 + i → 2001 + (l.length - i) < k → RiseK mk (l.drop i) → sluicegateref10_Put.l0 k l m x1 false (i : Int) = some (x1 ++ putK mk m (l.drop i))
  | 0, i, x1, _, _, h, _ => by omega
  | k + 1, i, x1, hi, hx, hk, hr => by
    have h1000 := hl.1
    have etm' : (m.1, m.2.1, m.2.2) = m := rfl
    rw [sluicegateref10_Put.l0]
    by_cases h : i < l.length
    · have etm : ((l.getD i default).1, (l.getD i default).2.1, (l.getD i default).2.2) = l.getD i default := rfl
      have kl := hl.2 _ (getD_mem (d := default) h)
      rw [drop_cons h] at hr ⊢
      obtain ⟨r1, r2⟩ := List.pairwise_cons.1 hr
      rw [if_pos (decide_eq_true (by omega)), if_pos (by rfl), if_pos (by omega), gt_nat, compare_pure (by omega) (by omega) (by omega), Option.bind_some, etm, etm', w64_succ (by omega)]
      unfold putK
      cases q : Op.bytesLess (l.getD i default).1 m.1 with
      | true =>
        have ne : (l.getD i default).1 ≠ m.1 := bl_ne q
        rw [if_neg (by simp only [decide_eq_true_eq, scmp_le, q]; simp), if_pos (by simp only [ne, decide_false]; rfl), if_pos (by simp; omega), refPut_l0 hl hm k (i + 1) _ (by omega) (by simp; omega) (by omega) r2,
          if_neg (by rw [show Op.bytesLess (mk m) (mk (l.getD i default)) = false from bl_asymm q]; simp), if_neg (show ¬ mk m = mk (l.getD i default) from fun e => ne e.symm)]
        simp
      | false =>
        rw [if_pos (decide_eq_true (scmp_le.2 q)), if_pos (by simp; omega)]
        by_cases e : (l.getD i default).1 = m.1
        · have hn : ∀ b ∈ l.drop (i + 1), b.1 ≠ m.1 := fun b hb => by rw [← e]; exact (bl_ne (r1 b hb)).symm
          rw [if_neg (by rw [decide_eq_true e]; simp), refPut_done hl hm k (i + 1) _ (by omega) (by simp; omega) (by omega) hn, if_neg (by rw [show mk m = mk (l.getD i default) from e.symm, bl_irr]; simp), if_pos (show mk m = mk (l.getD i default) from e.symm)]
          simp
        · have lt : Op.bytesLess m.1 (l.getD i default).1 = true := (bl_ge q).resolve_left e
          have hn : ∀ b ∈ l.drop (i + 1), b.1 ≠ m.1 := fun b hb => (bl_ne (bl_trans lt (r1 b hb))).symm
          rw [if_pos (by simp only [e, decide_false]; rfl), if_pos (by simp; omega), refPut_done hl hm k (i + 1) _ (by omega) (by simp; omega) (by omega) hn, if_pos (show Op.bytesLess (mk m) (mk (l.getD i default)) = true from lt)]
          simp
    · rw [if_neg (by simp; omega), if_pos (by rfl), if_pos (by simp; omega), List.drop_eq_nil_of_le (by omega)]
      rfl
theorem refPut_pure {l : List Msg} {m : Msg} (hl : okN 1000 l) (hm : m.1.length ≤ 300) (hr : RiseK mk l) {k : Nat} (hk : 4000 < k) : sluicegateref10_Put.f k l m = some (putK mk m l) := by
  have := refPut_l0 hl hm k 0 [] (by omega) (by simp) (by have := hl.1; omega) (by simpa using hr)
  simpa [sluicegateref10_Put.f] using this
theorem scmp_one (a b : List UInt8) : decide (scmp a b = 1) = Op.bytesLess b a := by
  rcases scmp_vals a b with ⟨e, h⟩ | ⟨e, rfl⟩ | ⟨e, h⟩
  · simp [e, bl_asymm h]
  · simp [e, bl_irr]
  · simp [e, h]
theorem lexCompare10 (a b : List UInt8) : lex_Compare.f a b = some (scmp a b) := rfl
theorem merge_l0 : ∀ (k : Nat) (n o out : List Msg), n.length + o.length < k → out.length + (n.length + o.length) ≤ 1000000 → buf_Merge.l0 k n o out = some (out ++ mergeK mk k n o)
  | 0, n, o, out, h, _ => by omega
  | k + 1, [], o, out, h, hs => by
    rw [buf_Merge.l0, if_neg (by simp), if_pos (by first | (simp; done) | (simp; omega)), if_pos (by simp at hs ⊢; omega)]
    simp [mergeK]
  | k + 1, a :: n, [], out, h, hs => by
    rw [buf_Merge.l0, if_pos (by first | (simp; done) | (simp; omega)), if_neg (by simp), if_pos (by simp at hs ⊢; omega), if_pos (by simp at hs ⊢; omega)]
    simp [mergeK]
  | k + 1, a :: n, b :: o, out, h, hs => by
    have ga : gt (a :: n) 0 = a := rfl
    have gb : gt (b :: o) 0 = b := rfl
    have eta : ∀ a : Msg, (a.1, a.2.1, a.2.2) = a := fun _ => rfl
    simp only [List.length_cons] at h hs
    rw [buf_Merge.l0, if_pos (by first | (simp; done) | (simp; omega)), if_pos (by first | (simp; done) | (simp; omega)), if_pos (by first | (simp; done) | (simp; omega)), if_pos (by first | (simp; done) | (simp; omega)), ga, gb, lexCompare10, Option.bind_some, eta, eta, scmp_one]
    unfold mergeK
    have d1 : List.drop 1 (a :: n) = n := rfl
    have d2 : List.drop 1 (b :: o) = o := rfl
    rw [d1, d2]
    cases q : Op.bytesLess b.1 a.1 with
    | true =>
      rw [if_pos rfl, if_pos (by first | (simp; done) | (simp; omega)), if_pos (by first | (simp; done) | (simp; omega)), merge_l0 k (a :: n) o _ (by first | (simp; done) | (simp; omega)) (by first | (simp; done) | (simp; omega)), if_neg (by rw [show Op.bytesLess (mk a) (mk b) = false from bl_asymm q]; simp), if_neg (show ¬ mk a = mk b from (bl_ne q).symm)]
      simp
    | false =>
      rw [if_neg (by simp)]
      by_cases e : a.1 = b.1
      · rw [if_pos (decide_eq_true (scmp_eq.2 e)), if_pos (by first | (simp; done) | (simp; omega)), if_pos (by first | (simp; done) | (simp; omega)), if_pos (by first | (simp; done) | (simp; omega)), merge_l0 k n o _ (by omega) (by first | (simp; done) | (simp; omega)), if_neg (by rw [show mk a = mk b from e, bl_irr]; simp), if_pos (show mk a = mk b from e)]
        simp
      · have lt : Op.bytesLess a.1 b.1 = true := by
          rcases bl_ge q with t | t
          · exact absurd t.symm e
          · exact t
        rw [if_neg (by simpa [scmp_eq] using e), if_pos (by first | (simp; done) | (simp; omega)), if_pos (by first | (simp; done) | (simp; omega)), merge_l0 k n (b :: o) _ (by first | (simp; done) | (simp; omega)) (by first | (simp; done) | (simp; omega)), if_pos (show Op.bytesLess (mk a) (mk b) = true from lt)]
        simp
theorem merge10_pure {n o : List Msg} (hn : n.length ≤ 100000) (ho : o.length ≤ 100000) {k : Nat} (hk : n.length + o.length < k) : buf_Merge.f k n o = some (mergeK mk k n o) := by
  unfold buf_Merge.f
  rw [w64_id (by omega) (by omega), if_pos (by omega), merge_l0 k n o [] hk (by simp; omega)]
  rfl
theorem okN_put {N : Nat} {l : List Msg} {m : Msg} (hl : okN N l) (hm : m.1.length ≤ 300) : okN (N + 1) (putK mk m l) := by
  refine ⟨by have := putK_length mk m l; have := hl.1; omega, fun x hx => ?_⟩
  rcases mem_putK mk hx with rfl | hx
  · exact hm
  · exact hl.2 x hx
theorem refMerge_l0 {n : List Msg} (hn : okN 500 n) : ∀ (k i N : Nat) (out : List Msg), i ≤ n.length → 4001 + (n.length - i) < k → okN N out → N + (n.length - i) ≤ 1000 → RiseK mk out → sluicegateref10_Merge.l0 k n out (i : Int) = some ((n.drop i).foldl (fun l m => putK mk m l) out)
  | 0, i, N, out, _, h, _, _, _ => by omega
  | k + 1, i, N, out, hi, hk, ho, hN, hr => by
    have h500 := hn.1
    rw [sluicegateref10_Merge.l0]
    by_cases h : i < n.length
    · have etm : ((n.getD i default).1, (n.getD i default).2.1, (n.getD i default).2.2) = n.getD i default := rfl
      have kl := hn.2 _ (getD_mem (d := default) h)
      rw [if_pos (decide_eq_true (by omega)), if_pos (by omega), gt_nat, etm, refPut_pure ⟨by have := ho.1; omega, ho.2⟩ kl hr (by omega), Option.bind_some, w64_succ (by omega), refMerge_l0 hn k (i + 1) (N + 1) _ (by omega) (by omega) (okN_put ho kl) (by omega) (riseK_put mk hr), drop_cons h, List.foldl_cons]
    · rw [if_neg (by simp; omega), List.drop_eq_nil_of_le (by omega)]
      rfl
theorem refMerge_pure {n o : List Msg} (hn : okN 500 n) (ho : okN 500 o) (hr : RiseK mk o) {k : Nat} (hk : 5000 < k) : sluicegateref10_Merge.f k n o = some (n.foldl (fun l m => putK mk m l) o) := by
  have := refMerge_l0 hn k 0 500 o (by omega) (by have := hn.1; omega) ho (by have := hn.1; omega) hr
  simpa [sluicegateref10_Merge.f] using this
theorem right10_pure {l : List Msg} (hl : okN 100000 l) {k : Nat} (hk : 2001 + l.length < k) : sluicegateref10_Right.f k l = some (riseK mk l) := by
  have := right_loop (key := mk) (F := fun k i => sluicegateref10_Right.l0 k l i) (cmp := sluicegateref01_Compare.f) (K := 2000) (by have := hl.1; omega) (fun k hk a b ha hb => compare_pure (Nat.le_trans (hl.2 a ha) (by decide)) (Nat.le_trans (hl.2 b hb) (by decide)) hk) (fun k i => rfl) k 0 (by omega) (by omega)
  simpa [sluicegateref10_Right.f] using this
theorem okN_merge {f : Nat} {n o : List Msg} {N M : Nat} (hn : okN N n) (ho : okN M o) : okN (N + M) (mergeK mk f n o) := by
  refine ⟨?_, fun x hx => ?_⟩
  · have : ∀ (f : Nat) (n o : List Msg), (mergeK mk f n o).length ≤ n.length + o.length := by
      intro f
      induction f with
      | zero => intro n o; simp [mergeK]
      | succ f ih =>
        intro n o
        match n, o with
        | [], o => simp [mergeK]
        | a :: n, [] => simp [mergeK]
        | a :: n, b :: o =>
          unfold mergeK
          have h1 := ih n (b :: o)
          have h2 := ih n o
          have h3 := ih (a :: n) o
          simp only [List.length_cons] at h1 h2 h3
          split
          · simp; omega
          · split <;> simp <;> omega
    have h1 := this f n o
    have := hn.1
    have := ho.1
    omega
  · exact (mergeK_mem mk hx).elim (hn.2 x) (ho.2 x)
theorem BufPuts_pure {p q r : Prop} (a b : List Msg) (m : Msg) (_ : p) (_ : q) (_ : r) : ∃ k, sluicegatelaw10_BufPuts.f k a b m = some true := by
  refine ⟨10000 + 20, ?_⟩
  unfold sluicegatelaw10_BufPuts.f
  obtain ⟨g, h1, h2⟩ := great_pure (k := 10000 + 20) (ss := [a, b]) (by simp) (by omega)
  rw [h1, Option.bind_some, awake_pure]
  cases g with
  | true => rfl
  | false =>
    have ha := h2 rfl a (by simp)
    have hb := h2 rfl b (by simp)
    have la := ha.1
    have lb := hb.1
    rw [if_neg (by simp)]
    by_cases h3 : 300 < m.1.length
    · rw [if_pos (decide_eq_true (by omega))]; rfl
    · have na : okN 100000 a := ⟨by omega, ha.2⟩
      have nb : okN 100000 b := ⟨by omega, hb.2⟩
      rw [if_neg (by simp only [decide_eq_true_eq]; omega), right10_pure na (by omega), Option.bind_some, right10_pure nb (by omega)]
      cases ra : riseK mk a with
      | false => rfl
      | true =>
        rw [if_neg (by simp), Option.bind_some]
        cases rb : riseK mk b with
        | false => rfl
        | true =>
          have ra := (riseK_iff mk a).1 ra
          have rb := (riseK_iff mk b).1 rb
          have rm := mergeK_rise mk (f := 10000 + 20) (by omega) ra rb
          have em := merge_foldl mk (f := 10000 + 20) (n := a) (o := b) (by omega) ra rb
          have np := okN_put (m := m) (l := a) na (by omega)
          have nm := okN_merge (f := 10000 + 20) (N := 150) (M := 150) (n := a) (o := b) ⟨la, ha.2⟩ ⟨lb, hb.2⟩
          have lp := putK_length mk m a
          have lm := nm.1
          have etm : (m.1, m.2.1, m.2.2) = m := rfl
          rw [if_neg (by simp), find10_pure m.1 (by omega) ra (by omega), Option.bind_some, refFind_pure m.1 (by omega) (by omega), Option.bind_some, etm, put10_pure m (by omega) ra (by omega), Option.bind_some, merge10_pure (by omega) (by omega) (by omega), Option.bind_some, msg_eq,
            if_pos (decide_eq_true rfl), if_pos (by simp), refPut_pure ⟨by omega, ha.2⟩ (by omega) ra (by omega), Option.bind_some, refSame_pure (by omega) (by omega), Option.bind_some, if_pos (decide_eq_true rfl), right10_pure ⟨by omega, np.2⟩ (by omega), (riseK_iff mk _).2 (riseK_put mk ra), Option.bind_some, if_pos rfl,
            refMerge_pure ⟨by omega, ha.2⟩ ⟨by omega, hb.2⟩ rb (by omega), ← em, Option.bind_some, refSame_pure (by omega) (by omega), Option.bind_some, if_pos (decide_eq_true rfl), right10_pure ⟨by omega, nm.2⟩ (by omega), (riseK_iff mk _).2 rm]
          rfl
end Go.SK.T
