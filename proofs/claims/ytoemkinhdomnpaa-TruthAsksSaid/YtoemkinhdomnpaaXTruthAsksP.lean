/- The plain law behind TruthAsks: what its code computes is true for all settings and ops. -/
import Derived.Test.YtoemkinhdomnpaaXTruthAsksF1
set_option linter.unusedVariables false
set_option linter.unusedSimpArgs false
namespace Go.SK.T
open Go Go.SK
abbrev Msg := List UInt8 × Bool × List UInt8
theorem msg_eq (x y : Msg) : (decide (x.1 = y.1) && ((x.2.1 == y.2.1) && (decide (x.2.2 = y.2.2) && true))) = decide (x = y) := by
  obtain ⟨a, b, c⟩ := x
  obtain ⟨d, e, f⟩ := y
  by_cases h1 : a = d <;> by_cases h2 : b = e <;> by_cases h3 : c = f <;> simp [h1, h2, h3]
abbrev Pr := List UInt8 × List UInt8
def pk (p : Pr) : List UInt8 := p.1
theorem bs11_pure {l : List Pr} (x : List UInt8) (hl : l.length ≤ 1000000) (hr : RiseK pk l) {k : Nat} (hk : l.length < k) :
    ∃ c : Nat, slices_BinarySearchFunc_api_Pair_api_Pair_string_leaf_compare.f k l x = some ((c : Int), decide (c < l.length ∧ (l.getD c default).1 = x)) ∧ AtK pk l x c :=
  search_loop (key := pk) (F := fun k a b => slices_BinarySearchFunc_api_Pair_api_Pair_string_leaf_compare.l0 k l x a b) hl hr (fun k a b => rfl) k 0 l.length (by omega) (by omega) (by omega) (fun j hj => by omega) (fun j hj hjl => by omega)
def gm (o : Option Pr) : List UInt8 × Bool := o.elim ([], false) fun p => (p.2, true)
theorem get11_pure {l : List Pr} (x : List UInt8) (hl : l.length ≤ 1000000) (hr : RiseK pk l) {k : Nat} (hk : l.length < k) : leaf_Get.f k l x = some (gm (fndK pk l x)) := by
  obtain ⟨c, e1, e2⟩ := bs11_pure x hl hr hk
  have hf := e2.find hr
  unfold leaf_Get.f
  rw [e1, Option.bind_some, hf]
  by_cases q : c < l.length ∧ (l.getD c default).1 = x
  · rw [if_pos (show c < l.length ∧ pk (l.getD c default) = x from q), decide_eq_true q, if_neg (by simp), if_pos (by omega), gt_nat]
    rfl
  · rw [if_neg (show ¬ (c < l.length ∧ pk (l.getD c default) = x) from q), decide_eq_false q, if_pos (by rfl)]
    rfl
theorem clone11_pure {l : List Pr} (hl : l.length ≤ 1000000) : slices_Clone_api_Pair_api_Pair.f l = some l := by
  unfold slices_Clone_api_Pair_api_Pair.f
  rw [if_pos (by simp; omega)]
  rfl
/-- what a message does -/
def app1 (l : List Pr) (x : Msg) : List Pr := if x.2.1 = true then cutOut pk x.1 l else putK pk (x.1, x.2.2) l
theorem rise_app {l : List Pr} (x : Msg) (h : RiseK pk l) : RiseK pk (app1 l x) := by
  unfold app1
  split
  · exact riseK_cut pk h
  · exact riseK_put pk h
theorem app_length (l : List Pr) (x : Msg) : (app1 l x).length ≤ l.length + 1 := by
  unfold app1
  split
  · exact Nat.le_trans (List.length_filter_le _ _) (by omega)
  · exact putK_length pk _ l
theorem app_keys {l : List Pr} {x : Msg} (h : ∀ p ∈ l, p.1.length ≤ 300) (hx : x.1.length ≤ 300) : ∀ p ∈ app1 l x, p.1.length ≤ 300 := fun p hp => by
  unfold app1 at hp
  split at hp
  · exact h p (List.mem_filter.1 hp).1
  · rcases mem_putK pk hp with rfl | hp
    · exact hx
    · exact h p hp
theorem apply_l0 {m : List Msg} (hm : m.length ≤ 1000) : ∀ (k i : Nat) (x1 : List Pr), i ≤ m.length → 5000 + (m.length - i) < k → x1.length ≤ 2000 + i → RiseK pk x1 → leaf_Apply.l0 k m x1 (i : Int) = some ((m.drop i).foldl app1 x1)
  | 0, i, x1, _, h, _, _ => by omega
  | k + 1, i, x1, hi, hk, hx, hr => by
    rw [leaf_Apply.l0]
    by_cases h : i < m.length
    · obtain ⟨c, e1, e2⟩ := bs11_pure (m.getD i default).1 (l := x1) (k := k) (by omega) hr (by omega)
      have c1 := e2.1
      have ih := apply_l0 hm k (i + 1) (app1 x1 (m.getD i default)) (by omega) (by omega) (by have := app_length x1 (m.getD i default); omega) (rise_app _ hr)
      have wi : w64 ((i : Int) + 1) = ((i + 1 : Nat) : Int) := w64_succ (by omega)
      rw [if_pos (decide_eq_true (by omega)), if_pos (by omega), gt_nat, e1, Option.bind_some, wi, drop_cons h, List.foldl_cons, ← ih]
      generalize m.getD i default = x at e1 e2
      by_cases q : c < x1.length ∧ (x1.getD c default).1 = x.1
      · rw [if_pos (decide_eq_true q)]
        cases d : x.2.1 with
        | true =>
          have hc := e2.cut hr
          rw [if_pos (show c < x1.length ∧ pk (x1.getD c default) = x.1 from q)] at hc
          rw [if_pos rfl, w64_succ (by omega)]
          unfold slices_Delete_api_Pair_api_Pair.f
          rw [if_pos (by omega), Option.bind_some, Int.toNat_natCast, Int.toNat_natCast, ← hc]
          unfold app1
          rw [if_pos d]
        | false =>
          have hc := AtK.put (key := pk) (m := (x.1, x.2.2)) hr e2
          rw [if_pos (show c < x1.length ∧ pk (x1.getD c default) = pk (x.1, x.2.2) from q)] at hc
          rw [if_neg (by simp), if_pos (by omega), gt_nat, Int.toNat_natCast, q.2, ← hc]
          unfold app1
          rw [if_neg (by rw [d]; simp)]
      · rw [if_neg (by simpa using q)]
        cases d : x.2.1 with
        | true =>
          have hc := e2.cut hr
          rw [if_neg (show ¬ (c < x1.length ∧ pk (x1.getD c default) = x.1) from q)] at hc
          rw [if_neg (by simp)]
          unfold app1
          rw [if_pos d, hc]
        | false =>
          have hc := AtK.put (key := pk) (m := (x.1, x.2.2)) hr e2
          rw [if_neg (show ¬ (c < x1.length ∧ pk (x1.getD c default) = pk (x.1, x.2.2)) from q)] at hc
          rw [if_pos (by rfl)]
          unfold slices_Insert_api_Pair_api_Pair.f
          rw [if_pos (by omega), if_pos (by simp; omega), Option.bind_some, Int.toNat_natCast]
          unfold app1
          rw [if_neg (by rw [d]; simp), hc]
          simp
    · rw [if_neg (by simp; omega), List.drop_eq_nil_of_le (by omega)]
      rfl
theorem apply_pure {l : List Pr} {m : List Msg} (hl : l.length ≤ 1000) (hm : m.length ≤ 1000) (hr : RiseK pk l) {k : Nat} (hk : 7000 < k) : leaf_Apply.f k l m = some (m.foldl app1 l) := by
  unfold leaf_Apply.f
  rw [clone11_pure (by omega), Option.bind_some]
  have := apply_l0 hm k 0 l (by omega) (by omega) (by omega) hr
  simpa using this
theorem put_cut {l : List Pr} {key val : List UInt8} (hr : RiseK pk l) : putK pk (key, val) (cutOut pk key l) = putK pk (key, val) l :=
  riseK_ext pk (riseK_put pk (riseK_cut pk hr)) (riseK_put pk hr) fun k => by
    rw [fndK_put, fndK_put, fndK_cut]
    by_cases e : pk (key, val) = k
    · rw [if_pos e, if_pos e]
    · rw [if_neg e, if_neg e, if_neg (show ¬ key = k from e)]
theorem fold_rise : ∀ (m : List Msg) (l : List Pr), RiseK pk l → RiseK pk (m.foldl app1 l)
  | [], l, h => h
  | x :: m, l, h => fold_rise m _ (rise_app x h)
theorem fold_length : ∀ (m : List Msg) (l : List Pr), (m.foldl app1 l).length ≤ l.length + m.length
  | [], l => by simp
  | x :: m, l => by
    have h1 := fold_length m (app1 l x)
    have h2 := app_length l x
    simp only [List.foldl_cons, List.length_cons]
    omega
theorem fold_keys : ∀ (m : List Msg) (l : List Pr), (∀ p ∈ l, p.1.length ≤ 300) → (∀ x ∈ m, x.1.length ≤ 300) → ∀ p ∈ m.foldl app1 l, p.1.length ≤ 300
  | [], l, h, _ => h
  | x :: m, l, h, hm => fold_keys m _ (app_keys h (hm x (by simp))) fun y hy => hm y (by simp [hy])
theorem pr_eq (x y : Pr) : (decide (x.1 = y.1) && (decide (x.2 = y.2) && true)) = decide (x = y) := by
  obtain ⟨a, b⟩ := x
  obtain ⟨d, e⟩ := y
  by_cases h1 : a = d <;> by_cases h2 : b = e <;> simp [h1, h2]
theorem same11_pure {k : Nat} {a b : List Pr} (ha : a.length ≤ 1000000) (hk : a.length < k) : sluicegateref11_Same.f k a b = some (decide (a = b)) := by
  unfold sluicegateref11_Same.f
  by_cases h : a.length = b.length
  · rw [if_neg (by simp [h])]
    have := same_loop (F := fun k i => sluicegateref11_Same.l0 k a b i) (eqb := fun x y => decide (x.1 = y.1) && (decide (x.2 = y.2) && true)) pr_eq h ha (fun k i => rfl) k 0 (by omega) (by omega)
    simpa using this
  · rw [if_pos (by simp; omega)]
    have : a ≠ b := fun e => h (by rw [e])
    simp [this]
abbrev Sp := List UInt8 × List UInt8 × Bool
def inS (s : Sp) (x : List UInt8) : Bool := !Op.bytesLess x s.1 && (s.2.2 || Op.bytesLess x s.2.1)
def emS (s : Sp) : Bool := !s.2.2 && !Op.bytesLess s.1 s.2.1
theorem lexEmpty_pure (s : Sp) : lex_Empty.f s = some (emS s) := by
  unfold lex_Empty.f emS
  rw [bl_le_iff]
  cases s.2.2 <;> rfl
theorem in_empty {s : Sp} {x : List UInt8} (h : emS s = true) : inS s x = false := by
  simp only [emS, Bool.and_eq_true, Bool.not_eq_true'] at h
  cases k : Op.bytesLess x s.1 with
  | true => simp [inS, k]
  | false =>
    simp only [inS, k, h.1, Bool.not_false, Bool.true_and, Bool.false_or]
    exact bl_le_trans h.2 k
/-- which part of a rising row is in a span -/
def AtPt (l : List Pr) (s : Sp) (f t : Nat) : Prop := f ≤ t ∧ t ≤ l.length ∧ ∀ j, j < l.length → inS s (l.getD j default).1 = decide (f ≤ j ∧ j < t)
theorem low_pt {l : List Pr} {s : Sp} {f t : Nat} (hs : emS s = false) (h1 : AtK pk l s.1 f) (h2 : if s.2.2 = true then t = l.length else AtK pk l s.2.1 t) : AtPt l s f t := by
  obtain ⟨f1, f2, f3⟩ := h1
  cases ht : s.2.2 with
  | true =>
    rw [ht, if_pos rfl] at h2
    subst h2
    refine ⟨f1, Nat.le_refl _, fun j hj => ?_⟩
    by_cases q : j < f
    · rw [decide_eq_false (by omega)]; simp only [inS, show Op.bytesLess (l.getD j default).1 s.1 = true from f2 j q, Bool.not_true, Bool.false_and]
    · rw [decide_eq_true (by omega)]; simp only [inS, ht, show Op.bytesLess (l.getD j default).1 s.1 = false from f3 j (by omega) hj, Bool.not_false, Bool.true_and, Bool.true_or]
  | false =>
    rw [ht, if_neg (by simp)] at h2
    obtain ⟨t1, t2, t3⟩ := h2
    have hlt : Op.bytesLess s.1 s.2.1 = true := by simpa [emS, ht] using hs
    refine ⟨?_, t1, fun j hj => ?_⟩
    · rcases Nat.lt_or_ge t f with h | h
      · have a := f2 t h
        have b := t3 t (Nat.le_refl _) (by omega)
        rw [bl_trans a hlt] at b
        cases b
      · exact h
    · by_cases q : j < f
      · rw [decide_eq_false (by omega)]; simp only [inS, show Op.bytesLess (l.getD j default).1 s.1 = true from f2 j q, Bool.not_true, Bool.false_and]
      · by_cases q2 : j < t
        · rw [decide_eq_true (by omega)]; simp only [inS, ht, show Op.bytesLess (l.getD j default).1 s.1 = false from f3 j (by omega) hj, show Op.bytesLess (l.getD j default).1 s.2.1 = true from t2 j q2, Bool.not_false, Bool.true_and, Bool.false_or]
        · rw [decide_eq_false (by omega)]; simp only [inS, ht, show Op.bytesLess (l.getD j default).1 s.1 = false from f3 j (by omega) hj, show Op.bytesLess (l.getD j default).1 s.2.1 = false from t3 j (by omega) hj, Bool.not_false, Bool.true_and, Bool.false_or]
/-- how far it is told -/
def uptoP (f t : Nat) (most : Int) : Nat := f + min (t - f) most.toNat
theorem lpart_pure {l : List Pr} {s : Sp} {most : Int} (hm : (Lit.int .i64 most).wf = true) (hl : l.length ≤ 100000) (hr : RiseK pk l) {k : Nat} (hk : l.length < k) :
    ∃ f t : Nat, leaf_Part.f k l s most = some ((l.drop f).take (uptoP f t most - f)) ∧ AtPt l s f t := by
  have hb : -9223372036854775808 ≤ most ∧ most ≤ 9223372036854775807 := by
    simp [Lit.wf, IntKind.min, IntKind.max, IntKind.signed, IntKind.bits] at hm
    omega
  have eta : (s.1, s.2.1, s.2.2) = s := rfl
  unfold leaf_Part.f
  rw [eta, lexEmpty_pure, Option.bind_some]
  cases he : emS s with
  | true => exact ⟨0, 0, by simp [uptoP], Nat.le_refl _, Nat.zero_le _, fun j hj => by rw [in_empty he]; simp⟩
  | false =>
    obtain ⟨f, e1, e2⟩ := bs11_pure s.1 (by omega) hr hk
    obtain ⟨t, e3, e4⟩ := bs11_pure s.2.1 (by omega) hr hk
    rw [if_neg (by simp)]
    have c1 := e2.1
    have c2 := e4.1
    by_cases h : most < 1
    · rw [if_pos (decide_eq_true h)]
      have z : ∀ t, uptoP f t most - f = 0 := fun t => by unfold uptoP; omega
      cases ht : s.2.2 with
      | true => exact ⟨f, l.length, by rw [z]; simp, low_pt he e2 (by rw [ht, if_pos rfl])⟩
      | false => exact ⟨f, t, by rw [z]; simp, low_pt he e2 (by rw [ht, if_neg (by simp)]; exact e4)⟩
    · have w : w64 ((f : Int) + (if (l.length : Int) < most then (l.length : Int) else most)) = (f : Int) + (if (l.length : Int) < most then (l.length : Int) else most) := w64_id (by split <;> omega) (by split <;> omega)
      rw [if_neg (by simpa using h), e1, Option.bind_some, e3]
      simp only [w]
      cases ht : s.2.2 with
      | true =>
        have hp := low_pt (t := l.length) he e2 (by rw [ht, if_pos rfl])
        have u : (if (f : Int) + (if (l.length : Int) < most then (l.length : Int) else most) < (l.length : Int) then (f : Int) + (if (l.length : Int) < most then (l.length : Int) else most) else (l.length : Int)) = ((uptoP f l.length most : Nat) : Int) := by
          unfold uptoP
          split <;> split <;> omega
        have u1 : f ≤ uptoP f l.length most ∧ uptoP f l.length most ≤ l.length := by unfold uptoP; omega
        refine ⟨f, l.length, ?_, hp⟩
        rw [if_neg (by simp)]
        simp only [u, Int.toNat_natCast]
        rw [if_pos (by omega), clone11_pure (by rw [List.length_take, List.length_drop]; omega)]
        rfl
      | false =>
        have hp := low_pt (t := t) he e2 (by rw [ht, if_neg (by simp)]; exact e4)
        have hft := hp.1
        have u : (if (f : Int) + (if (l.length : Int) < most then (l.length : Int) else most) < (t : Int) then (f : Int) + (if (l.length : Int) < most then (l.length : Int) else most) else (t : Int)) = ((uptoP f t most : Nat) : Int) := by
          unfold uptoP
          split <;> split <;> omega
        have u1 : f ≤ uptoP f t most ∧ uptoP f t most ≤ t := by unfold uptoP; omega
        refine ⟨f, t, ?_, hp⟩
        rw [if_pos (by rfl), Option.bind_some]
        simp only [u, Int.toNat_natCast]
        rw [if_pos (by omega), clone11_pure (by rw [List.length_take, List.length_drop]; omega)]
        rfl
abbrev Cf := Int × Int × Int × Int × Int × Int × Int × Int
abbrev Op4 := Int × List UInt8 × List UInt8 × Int
abbrev An := Int × List UInt8 × List Pr
theorem lexCompare_pure (a b : List UInt8) : lex_Compare.f a b = some (scmp a b) := rfl
theorem may_pure (c : Cf) (l : List Pr) (o : Op4) : ∃ b, truth_Truth_may.f (c, l) o = some b := by
  unfold truth_Truth_may.f node_Key.f
  by_cases h1 : (1 : Int) ≤ o.2.1.length
  · rw [if_pos (decide_eq_true h1), Option.bind_some]
    split
    · split
      · exact ⟨_, rfl⟩
      · exact ⟨_, rfl⟩
    · exact ⟨_, rfl⟩
  · rw [if_neg (by simpa using h1), Option.bind_some, if_neg (by simp)]
    exact ⟨_, rfl⟩
/-- what an op's numbers may be -/
def OkO (o : Op4) : Prop := (Lit.int .i64 o.2.2.2).wf = true
theorem would_pure {c : Cf} {l : List Pr} {o : Op4} (ho : OkO o) (hl : l.length ≤ 1000) (hr : RiseK pk l) {k : Nat} (hk : 7000 < k) : ∃ w, truth_Truth_Would.f k (c, l) o = some w := by
  obtain ⟨b, hb⟩ := may_pure c l o
  have hg := get11_pure o.2.1 (by omega) hr (k := k) (by omega)
  obtain ⟨f, t, hp, _⟩ := lpart_pure (s := (o.2.1, o.2.2.1, false)) ho (show l.length ≤ 100000 by omega) hr (k := k) (by omega)
  have get : ∃ w : An, ((leaf_Get.f k l o.2.1).bind fun r2 => (if (!r2.2) = true then (some (9, ([] : List UInt8), ([] : List (List UInt8 × List UInt8)))) else (some (0, r2.1, ([] : List (List UInt8 × List UInt8)))))) = some w := by
    rw [hg, Option.bind_some]
    split
    · exact ⟨_, rfl⟩
    · exact ⟨_, rfl⟩
  have rest : ∃ w : An, (if (!decide (o.1 = 3)) = true then (some (0, ([] : List UInt8), ([] : List (List UInt8 × List UInt8)))) else ((leaf_Get.f k l o.2.1).bind fun r2 => (if (!r2.2) = true then (some (9, ([] : List UInt8), ([] : List (List UInt8 × List UInt8)))) else (some (0, r2.1, ([] : List (List UInt8 × List UInt8))))))) = some w := by
    split
    · exact ⟨_, rfl⟩
    · exact get
  have may : ∃ w : An, ((truth_Truth_may.f (c, l) o).bind fun r1 => (if (!r1) = true then (some (2, ([] : List UInt8), ([] : List (List UInt8 × List UInt8)))) else (if (!decide (o.1 = 3)) = true then (some (0, ([] : List UInt8), ([] : List (List UInt8 × List UInt8)))) else ((leaf_Get.f k l o.2.1).bind fun r2 => (if (!r2.2) = true then (some (9, ([] : List UInt8), ([] : List (List UInt8 × List UInt8)))) else (some (0, r2.1, ([] : List (List UInt8 × List UInt8))))))))) = some w := by
    rw [hb, Option.bind_some]
    split
    · exact ⟨_, rfl⟩
    · exact rest
  unfold truth_Truth_Would.f
  by_cases k1 : o.1 = 1
  · rw [if_pos (decide_eq_true k1)]
    exact may
  rw [if_neg (by simpa using k1)]
  by_cases k2 : o.1 = 2
  · rw [if_pos (decide_eq_true k2)]
    exact may
  rw [if_neg (by simpa using k2)]
  by_cases k3 : o.1 = 3
  · rw [if_pos (decide_eq_true k3)]
    exact may
  rw [if_neg (by simpa using k3)]
  by_cases k4 : o.1 = 4
  · rw [if_pos (decide_eq_true k4), lexCompare_pure, Option.bind_some]
    split
    · rw [show leaf_Part.f k l (o.2.1, o.2.2.1, false) o.2.2.2 = _ from hp]
      exact ⟨_, rfl⟩
    · exact rest
  rw [if_neg (by simpa using k4)]
  exact rest
structure OkL (n : Nat) (l : List Pr) : Prop where
  rise : RiseK pk l
  len : l.length ≤ n
  val : ∀ p ∈ l, p.2.length ≤ 400
theorem app_vals {l : List Pr} {x : Msg} (h : ∀ p ∈ l, p.2.length ≤ 400) (hx : x.2.2.length ≤ 400) : ∀ p ∈ app1 l x, p.2.length ≤ 400 := fun p hp => by
  unfold app1 at hp
  split at hp
  · exact h p (List.mem_filter.1 hp).1
  · rcases mem_putK pk hp with rfl | hp
    · exact hx
    · exact h p hp
theorem OkL.app {n : Nat} {l : List Pr} (h : OkL n l) {x : Msg} (hx : x.2.2.length ≤ 400) : OkL (n + 1) (app1 l x) := ⟨rise_app x h.rise, by have := app_length l x; have := h.len; omega, app_vals h.val hx⟩
theorem do_pure {n : Nat} {c : Cf} {l : List Pr} {o : Op4} (ho : OkO o) (hv : o.2.2.1.length ≤ 400) (hn : n ≤ 500) (hl : OkL n l) {k : Nat} (hk : 7000 < k) :
    ∃ w l', truth_Truth_Do.f k (c, l) o = some (w, (c, l')) ∧ OkL (n + 1) l' ∧ (w.1 ≠ 0 ∨ (o.1 ≠ 1 ∧ o.1 ≠ 2) → l' = l) := by
  have h1 := hl.len
  obtain ⟨w, hw⟩ := would_pure (c := c) ho (by omega) hl.rise hk
  have keep : OkL (n + 1) l := ⟨hl.rise, by omega, hl.val⟩
  unfold truth_Truth_Do.f
  rw [show truth_Truth_Would.f k ((c.1, c.2.1, c.2.2.1, c.2.2.2.1, c.2.2.2.2.1, c.2.2.2.2.2.1, c.2.2.2.2.2.2.1, c.2.2.2.2.2.2.2), l) (o.1, o.2.1, o.2.2.1, o.2.2.2) = _ from hw, Option.bind_some]
  by_cases e : w.1 = 0
  · rw [if_neg (by simp [e])]
    by_cases k1 : o.1 = 1
    · rw [if_pos (decide_eq_true k1), apply_pure (by omega) (by simp) hl.rise hk, Option.bind_some]
      exact ⟨_, _, rfl, (show OkL (n + 1) (app1 l (o.2.1, false, o.2.2.1)) from hl.app hv), fun z => by rcases z with z | z; exact absurd e z; exact absurd k1 z.1⟩
    · rw [if_neg (by simpa using k1)]
      by_cases k2 : o.1 = 2
      · rw [if_pos (decide_eq_true k2), apply_pure (by omega) (by simp) hl.rise hk, Option.bind_some]
        exact ⟨_, _, rfl, (show OkL (n + 1) (app1 l (o.2.1, true, [])) from hl.app (by simp)), fun z => by rcases z with z | z; exact absurd e z; exact absurd k2 z.2⟩
      · rw [if_neg (by simpa using k2)]
        exact ⟨_, _, rfl, keep, fun _ => rfl⟩
  · rw [if_pos (by simpa using e)]
    exact ⟨_, _, rfl, keep, fun _ => rfl⟩
theorem awake28_pure (k : Nat) : sluicegatelaw28_awake.f (k + 30) = some true := by rfl
theorem pairs_pure {c : Cf} {l : List Pr} (hl : l.length ≤ 1000) : truth_Truth_Pairs.f (c, l) = some l := by
  unfold truth_Truth_Pairs.f
  rw [show slices_Clone_api_Pair_api_Pair.f _ = _ from clone11_pure (l := l) (by omega)]
  rfl
theorem unlike {l : List Pr} (h : 0 < l.length) : decide (l = l.set (0 : Int).toNat ((gt l 0).1, (gt l 0).2 ++ ([120] : List UInt8))) = false := by
  rw [decide_eq_false_iff_not]
  intro e
  cases l with
  | nil => simp at h
  | cons a r =>
    have e2 : a = ((gt (a :: r) 0).1, (gt (a :: r) 0).2 ++ ([120] : List UInt8)) := (List.cons.inj e).1
    have e3 : a.2 = a.2 ++ [120] := congrArg Prod.snd e2
    have := congrArg List.length e3
    simp at this
theorem asks_end {c : Cf} {l : List Pr} {o : Op4} (ho : OkO o) (hv : o.2.2.1.length ≤ 400) (hl : OkL 200 l) (k : Nat) (hk : 7100 < k) : sluicegatelaw28_TruthAsks.l0 (k + 1) [] o c.1 c.2.1 c.2.2.1 c.2.2.2.1 c.2.2.2.2.1 c.2.2.2.2.2.1 c.2.2.2.2.2.2.1 c.2.2.2.2.2.2.2 l 0 = some true := by
  have h1 := hl.len
  obtain ⟨w, hw⟩ := would_pure (c := c) ho (by omega) hl.rise (k := k) (by omega)
  obtain ⟨w', l', e1, e2, e3⟩ := do_pure (c := c) ho hv (by omega) hl (k := k) (by omega)
  have h2 := e2.len
  obtain ⟨k', rfl⟩ : ∃ k', k = k' + 30 := ⟨k - 30, by omega⟩
  have aw := awake28_pure k'
  have p1 : ∀ c', truth_Truth_Pairs.f (c', l) = some l := fun c' => pairs_pure (by omega)
  have p2 : ∀ c', truth_Truth_Pairs.f (c', l') = some l' := fun c' => pairs_pure (by omega)
  have s1 : sluicegateref11_Same.f (k' + 30) l l = some true := by rw [same11_pure (by omega) (by omega), decide_eq_true rfl]
  have tail : ∀ c' : Cf, ((truth_Truth_Pairs.f (c', l')).bind fun r14 => (if (decide (0 < (r14.length : Int))) = true then (if 0 < (r14.length : Int) then (if ((gt r14 0).2).length + ([120] : List UInt8).length ≤ 9223372036854775807 then ((truth_Truth_Pairs.f (c', l')).bind fun r15 => ((sluicegateref11_Same.f (k' + 30) r15 (r14.set (0 : Int).toNat ((gt r14 0).1, (((gt r14 0).2) ++ ([120] : List UInt8))))).bind fun r16 => (if (!r16) = true then ((sluicegatelaw28_awake.f (k' + 30)).bind fun r17 => (some r17)) else (some false)))) else none) else none) else ((sluicegatelaw28_awake.f (k' + 30)).bind fun r18 => (some r18)))) = some true := fun c' => by
    rw [p2, Option.bind_some]
    by_cases h0 : 0 < l'.length
    · have v := e2.val _ (getD_mem (d := default) h0)
      rw [if_pos (decide_eq_true (by omega)), if_pos (by omega), if_pos (by rw [show (0 : Int) = ((0 : Nat) : Int) from rfl, gt_nat, List.length_singleton]; omega), Option.bind_some, same11_pure (by omega) (by omega), Option.bind_some, unlike h0, if_pos (by decide), aw]
      rfl
    · rw [if_neg (by simp only [decide_eq_true_eq]; omega), aw]
      rfl
  have gone : l' = l → ∀ c' : Cf, ((truth_Truth_Pairs.f (c', l')).bind fun r12 => ((sluicegateref11_Same.f (k' + 30) r12 l).bind fun r13 => (if (!r13) = true then (some false) else ((truth_Truth_Pairs.f (c', l')).bind fun r14 => (if (decide (0 < (r14.length : Int))) = true then (if 0 < (r14.length : Int) then (if ((gt r14 0).2).length + ([120] : List UInt8).length ≤ 9223372036854775807 then ((truth_Truth_Pairs.f (c', l')).bind fun r15 => ((sluicegateref11_Same.f (k' + 30) r15 (r14.set (0 : Int).toNat ((gt r14 0).1, (((gt r14 0).2) ++ ([120] : List UInt8))))).bind fun r16 => (if (!r16) = true then ((sluicegatelaw28_awake.f (k' + 30)).bind fun r17 => (some r17)) else (some false)))) else none) else none) else ((sluicegatelaw28_awake.f (k' + 30)).bind fun r18 => (some r18))))))) = some true := fun e c' => by
    have tl := tail c'
    rw [p2] at tl
    rw [p2, Option.bind_some, e, s1, Option.bind_some, if_neg (by decide), ← e]
    exact tl
  rw [sluicegatelaw28_TruthAsks.l0, if_neg (by decide), p1, Option.bind_some, show truth_Truth_Would.f (k' + 30) ((c.1, c.2.1, c.2.2.1, c.2.2.2.1, c.2.2.2.2.1, c.2.2.2.2.2.1, c.2.2.2.2.2.2.1, c.2.2.2.2.2.2.2), l) (o.1, o.2.1, o.2.2.1, o.2.2.2) = _ from hw, Option.bind_some, Option.bind_some, s1, Option.bind_some, if_neg (by decide),
    show truth_Truth_Do.f (k' + 30) ((c.1, c.2.1, c.2.2.1, c.2.2.2.1, c.2.2.2.2.1, c.2.2.2.2.2.1, c.2.2.2.2.2.2.1, c.2.2.2.2.2.2.2), l) (o.1, o.2.1, o.2.2.1, o.2.2.2) = _ from e1, Option.bind_some]
  by_cases q : w'.1 = 0
  · rw [if_neg (by simp [q])]
    by_cases k1 : o.1 = 1
    · rw [if_neg (by simp [k1])]
      exact tail _
    · rw [if_pos (by simpa using k1)]
      by_cases k2 : o.1 = 2
      · rw [if_neg (by simp [k2])]
        exact tail _
      · rw [if_pos (by simpa using k2)]
        exact gone (e3 (.inr ⟨k1, k2⟩)) _
  · rw [if_pos (by simpa using q)]
    exact gone (e3 (.inl q)) _
theorem asks_l0 {l : List Op4} {o : Op4} (ho : OkO o) (hv : o.2.2.1.length ≤ 400) (hl : ∀ x ∈ l, OkO x) : ∀ (m i k : Nat) (c : Cf) (s : List Pr), 151 ≤ m + i → 7200 + m < k → i ≤ 150 → OkL i s → sluicegatelaw28_TruthAsks.l0 k l o c.1 c.2.1 c.2.2.1 c.2.2.2.1 c.2.2.2.2.1 c.2.2.2.2.2.1 c.2.2.2.2.2.2.1 c.2.2.2.2.2.2.2 s (i : Int) = some true
  | m, i, k + 1, c, s, hm, hk, hi, hs => by
    have fin := asks_end (c := c) (l := s) ho hv ⟨hs.rise, by have := hs.len; omega, hs.val⟩ k (by omega)
    rw [sluicegatelaw28_TruthAsks.l0, if_neg (by decide)] at fin
    by_cases h1 : i < l.length
    · by_cases h2 : i < 150
      · cases m with
        | zero => omega
        | succ m =>
        have hx := hl (gt l (i : Int)) (by rw [gt_nat]; exact getD_mem h1)
        have hw : w64 ((i : Int) + 1) = ((i + 1 : Nat) : Int) := w64_id (by omega) (by omega)
        rw [sluicegatelaw28_TruthAsks.l0, if_pos (decide_eq_true (by omega)), if_pos (decide_eq_true (by omega)), if_pos (by omega), hw]
        generalize gt l (i : Int) = x at hx
        have aw : sluicegatelaw28_awake.f k = some true := by
          obtain ⟨k', rfl⟩ : ∃ k', k = k' + 30 := ⟨k - 30, by omega⟩
          exact awake28_pure k'
        unfold sluicegatelaw27_Long.f
        by_cases g1 : 200 < x.2.1.length
        · rw [if_pos (decide_eq_true (by dsimp only; omega)), Option.bind_some, if_pos rfl, aw]
          rfl
        · rw [if_neg (by simp only [decide_eq_true_eq]; omega), Option.bind_some]
          by_cases g2 : 400 < x.2.2.1.length
          · rw [if_pos (decide_eq_true (by dsimp only; omega)), aw]
            rfl
          · obtain ⟨w, s', e1, e2, _⟩ := do_pure (c := c) (l := s) hx (show x.2.2.1.length ≤ 400 by omega) (show i ≤ 500 by omega) hs (k := k) (by omega)
            rw [if_neg (by simp only [decide_eq_true_eq]; omega), show truth_Truth_Do.f k ((c.1, c.2.1, c.2.2.1, c.2.2.2.1, c.2.2.2.2.1, c.2.2.2.2.2.1, c.2.2.2.2.2.2.1, c.2.2.2.2.2.2.2), s) (x.1, x.2.1, x.2.2.1, x.2.2.2) = _ from e1, Option.bind_some]
            exact asks_l0 ho hv hl m (i + 1) k c s' (by omega) (by omega) (by omega) e2
      · rw [sluicegatelaw28_TruthAsks.l0, if_pos (decide_eq_true (by omega)), if_neg (by simp only [decide_eq_true_eq]; omega)]
        exact fin
    · rw [sluicegatelaw28_TruthAsks.l0, if_neg (by simp only [decide_eq_true_eq]; omega)]
      exact fin
theorem TruthAsks_pure {p : Prop} (c : Cf) (l : List Op4) (o : Op4) (_ : p) (hl : Ty.fit (bytesIn tt) (.slice 64 (.pair (.int .i64) (.pair .str (.pair .str (.int .i64))))) l) (ho : Ty.fit (bytesIn tt) (.pair (.int .i64) (.pair .str (.pair .str (.int .i64)))) o) : ∃ k, sluicegatelaw28_TruthAsks.f k c l o = some true := by
  refine ⟨10000 + 30, ?_⟩
  unfold sluicegatelaw28_TruthAsks.f truth_New.f sluicegatelaw27_Long.f
  rw [Option.bind_some]
  by_cases g1 : 200 < o.2.1.length
  · rw [if_pos (decide_eq_true (by dsimp only; omega)), Option.bind_some, if_pos rfl, awake28_pure]
    rfl
  · rw [if_neg (by simp only [decide_eq_true_eq]; omega), Option.bind_some]
    by_cases g2 : 400 < o.2.2.1.length
    · rw [if_pos (decide_eq_true (by dsimp only; omega)), awake28_pure]
      rfl
    · rw [if_neg (by simp only [decide_eq_true_eq]; omega)]
      exact asks_l0 ho.2.2.2 (by omega) (fun x hx => (hl.2.2 x hx).2.2.2) 151 0 _ c [] (by omega) (by omega) (by omega) ⟨.nil, by simp, by simp⟩
end Go.SK.T
