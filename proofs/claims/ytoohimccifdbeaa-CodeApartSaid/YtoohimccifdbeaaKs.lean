/- Part of the library of this claim: how code is stepped through. -/
import Derived.Test.YtoohimccifdbeaaKr
set_option linter.unusedVariables false
set_option linter.unusedSimpArgs false
namespace Go.SK
open Go

/-! ## rows that rise, as maps -/
section
variable {α : Type} (key : α → List UInt8)
def fndK (l : List α) (k : List UInt8) : Option α := l.find? fun x => decide (key x = k)
theorem fndK_nil (k : List UInt8) : fndK key [] k = none := rfl
theorem fndK_cons (a : α) (l : List α) (k : List UInt8) : fndK key (a :: l) k = if key a = k then some a else fndK key l k := by
  unfold fndK
  rw [List.find?_cons]
  by_cases h : key a = k <;> simp [h]
theorem fndK_none {l : List α} {k : List UInt8} (h : ∀ b ∈ l, key b ≠ k) : fndK key l k = none := by
  unfold fndK
  rw [List.find?_eq_none]
  intro x hx
  simpa using h x hx
theorem fndK_some {l : List α} {k : List UInt8} {a : α} (h : fndK key l k = some a) : a ∈ l ∧ key a = k := by
  unfold fndK at h
  exact ⟨List.mem_of_find?_eq_some h, by simpa using List.find?_some h⟩
theorem ltK_ne {a b : List UInt8} (h : Op.bytesLess a b = true) : a ≠ b := bl_ne h
theorem fndK_head {a : α} {l : List α} (h : RiseK key (a :: l)) : fndK key l (key a) = none :=
  fndK_none key fun b hb => (bl_ne ((List.pairwise_cons.1 h).1 b hb)).symm
theorem riseK_ext : ∀ {l l' : List α}, RiseK key l → RiseK key l' → (∀ k, fndK key l k = fndK key l' k) → l = l'
  | [], [], _, _, _ => rfl
  | [], b :: l', _, _, h => by have := h (key b); rw [fndK_cons, if_pos rfl] at this; cases this
  | a :: l, [], _, _, h => by have := h (key a); rw [fndK_cons, if_pos rfl] at this; cases this
  | a :: l, b :: l', h1, h2, h => by
    have e : key a = key b := by
      rcases bl_tri (key a) (key b) with q | q | q
      · have := h (key a)
        rw [fndK_cons, if_pos rfl, fndK_none key (l := b :: l') (k := key a)] at this
        · cases this
        · intro x hx
          rcases List.mem_cons.1 hx with rfl | hx
          · exact (bl_ne q).symm
          · exact (bl_ne (bl_trans q ((List.pairwise_cons.1 h2).1 x hx))).symm
      · exact q
      · have := h (key b)
        rw [fndK_cons key b, if_pos rfl, fndK_none key (l := a :: l) (k := key b)] at this
        · cases this
        · intro x hx
          rcases List.mem_cons.1 hx with rfl | hx
          · exact (bl_ne q).symm
          · exact (bl_ne (bl_trans q ((List.pairwise_cons.1 h1).1 x hx))).symm
    have e2 : a = b := by
      have := h (key a)
      rw [fndK_cons, if_pos rfl, fndK_cons, if_pos e.symm] at this
      exact Option.some.inj this
    subst e2
    refine congrArg (a :: ·) (riseK_ext (List.pairwise_cons.1 h1).2 (List.pairwise_cons.1 h2).2 fun k => ?_)
    by_cases q : key a = k
    · subst q
      rw [fndK_head key h1, fndK_head key h2]
    · have := h k
      rwa [fndK_cons, if_neg q, fndK_cons, if_neg q] at this
/-- one laid in -/
def putK (m : α) : List α → List α
  | [] => [m]
  | a :: r => if Op.bytesLess (key m) (key a) = true then m :: a :: r else if key m = key a then m :: r else a :: putK m r
theorem mem_putK {m x : α} : ∀ {l : List α}, x ∈ putK key m l → x = m ∨ x ∈ l
  | [], h => by simp [putK] at h; exact .inl h
  | a :: r, h => by
    unfold putK at h
    split at h
    · rcases List.mem_cons.1 h with h | h
      · exact .inl h
      · exact .inr h
    · split at h
      · rcases List.mem_cons.1 h with h | h
        · exact .inl h
        · exact .inr (List.mem_cons_of_mem _ h)
      · rcases List.mem_cons.1 h with h | h
        · exact .inr (by simp [h])
        · exact (mem_putK h).imp id (List.mem_cons_of_mem _)
theorem putK_length (m : α) : ∀ l : List α, (putK key m l).length ≤ l.length + 1
  | [] => by simp [putK]
  | a :: r => by
    unfold putK
    have := putK_length m r
    split
    · simp
    · split <;> simp <;> omega
theorem riseK_put {m : α} : ∀ {l : List α}, RiseK key l → RiseK key (putK key m l)
  | [], _ => by simp [putK]
  | a :: r, h => by
    obtain ⟨h1, h2⟩ := List.pairwise_cons.1 h
    unfold putK
    split
    · rename_i q
      refine List.pairwise_cons.2 ⟨fun x hx => ?_, h⟩
      rcases List.mem_cons.1 hx with rfl | hx
      · exact q
      · exact bl_trans q (h1 x hx)
    · rename_i q
      split
      · rename_i e
        refine List.pairwise_cons.2 ⟨fun x hx => ?_, h2⟩
        have := h1 x hx
        unfold LtK at this ⊢
        rwa [e]
      · rename_i e
        refine List.pairwise_cons.2 ⟨fun x hx => ?_, riseK_put h2⟩
        rcases mem_putK key hx with rfl | hx
        · rcases bl_tri (key a) (key x) with t | t | t
          · exact t
          · exact absurd t.symm e
          · exact absurd t q
        · exact h1 x hx
theorem fndK_put (m : α) (k : List UInt8) : ∀ l : List α, fndK key (putK key m l) k = if key m = k then some m else fndK key l k
  | [] => by simp [putK, fndK_cons, fndK_nil]
  | a :: r => by
    unfold putK
    split
    · rw [fndK_cons]
    · rename_i q
      split
      · rename_i e
        rw [fndK_cons, fndK_cons]
        by_cases t : key m = k
        · rw [if_pos t, if_pos t]
        · rw [if_neg t, if_neg t, if_neg (by rw [← e]; exact t)]
      · rename_i e
        rw [fndK_cons, fndK_put m k r, fndK_cons]
        by_cases t : key a = k
        · rw [if_pos t, if_neg (by rw [← t]; exact e), if_pos t]
        · rw [if_neg t]
          by_cases u : key m = k
          · rw [if_pos u, if_pos u]
          · rw [if_neg u, if_neg u, if_neg t]
/-- one taken out -/
def cutOut (k : List UInt8) (l : List α) : List α := l.filter fun x => !decide (key x = k)
theorem riseK_cut {k : List UInt8} {l : List α} (h : RiseK key l) : RiseK key (cutOut key k l) := h.sublist List.filter_sublist
theorem fndK_cut (k0 k : List UInt8) : ∀ l : List α, fndK key (cutOut key k0 l) k = if k0 = k then none else fndK key l k
  | [] => by simp [cutOut, fndK_nil]
  | a :: r => by
    have ih := fndK_cut k0 k r
    unfold cutOut at ih ⊢
    rw [List.filter_cons]
    by_cases e : key a = k0
    · rw [if_neg (by simp [e]), ih, fndK_cons]
      by_cases t : k0 = k
      · rw [if_pos t, if_pos t]
      · rw [if_neg t, if_neg t, if_neg (by rw [e]; exact t)]
    · rw [if_pos (by simp [e]), fndK_cons, ih, fndK_cons]
      by_cases t : key a = k
      · rw [if_pos t, if_pos t, if_neg (by rw [← t]; exact fun h => e h.symm)]
      · rw [if_neg t, if_neg t]
/-- the first that is not below -/
def AtK [Inhabited α] (l : List α) (x : List UInt8) (c : Nat) : Prop := c ≤ l.length ∧ (∀ j, j < c → Op.bytesLess (key (l.getD j default)) x = true) ∧ ∀ j, c ≤ j → j < l.length → Op.bytesLess (key (l.getD j default)) x = false
section
variable {key} [Inhabited α]
theorem AtK.zero {a : α} {r : List α} {x : List UInt8} (h : AtK key (a :: r) x 0) : Op.bytesLess (key a) x = false := h.2.2 0 (Nat.le_refl _) (by simp)
theorem AtK.succ {a : α} {r : List α} {x : List UInt8} {c : Nat} (h : AtK key (a :: r) x (c + 1)) : Op.bytesLess (key a) x = true ∧ AtK key r x c := by
  obtain ⟨h1, h2, h3⟩ := h
  refine ⟨h2 0 (by omega), by simpa using h1, fun j hj => ?_, fun j hj hl => ?_⟩
  · have := h2 (j + 1) (by omega); simpa using this
  · have := h3 (j + 1) (by omega) (by simpa using hl); simpa using this
/-- is it there? -/
theorem AtK.find {x : List UInt8} : ∀ {l : List α} {c : Nat}, RiseK key l → AtK key l x c → fndK key l x = if c < l.length ∧ key (l.getD c default) = x then some (l.getD c default) else none
  | [], c, _, h => by simp [fndK_nil]
  | a :: r, 0, hr, h => by
    have q := h.zero
    rw [fndK_cons]
    by_cases e : key a = x
    · rw [if_pos e, if_pos ⟨by simp, by simpa using e⟩]; rfl
    · rw [if_neg e, if_neg (fun t => e (by simpa using t.2))]
      refine fndK_none key fun b hb => ?_
      have := (List.pairwise_cons.1 hr).1 b hb
      rcases bl_ge q with t | t
      · exact absurd t e
      · exact (bl_ne (bl_trans t this)).symm
  | a :: r, c + 1, hr, h => by
    obtain ⟨q, h'⟩ := h.succ
    rw [fndK_cons, if_neg (bl_ne q), AtK.find (List.pairwise_cons.1 hr).2 h']
    simp
theorem AtK.put {m : α} : ∀ {l : List α} {c : Nat}, RiseK key l → AtK key l (key m) c → putK key m l = if c < l.length ∧ key (l.getD c default) = key m then l.set c m else l.take c ++ m :: l.drop c
  | [], c, _, h => by
    have : c = 0 := by have := h.1; simpa using this
    subst this
    simp [putK]
  | a :: r, 0, hr, h => by
    have q := h.zero
    unfold putK
    by_cases e : key m = key a
    · rw [if_neg (by rw [e, bl_irr]; simp), if_pos e, if_pos ⟨by simp, by simpa using e.symm⟩]; rfl
    · have : Op.bytesLess (key m) (key a) = true := (bl_ge q).resolve_left fun t => e t.symm
      rw [if_pos this, if_neg (fun t => e (by simpa using t.2.symm))]
      rfl
  | a :: r, c + 1, hr, h => by
    obtain ⟨q, h'⟩ := h.succ
    unfold putK
    rw [if_neg (by rw [bl_asymm q]; simp), if_neg (bl_ne q).symm, AtK.put (List.pairwise_cons.1 hr).2 h']
    by_cases e : c < r.length ∧ key (r.getD c default) = key m
    · rw [if_pos e, if_pos ⟨by simp; omega, by simpa using e.2⟩]; rfl
    · rw [if_neg e, if_neg (fun t => e ⟨by simpa using t.1, by simpa using t.2⟩)]; rfl
theorem AtK.cut {x : List UInt8} : ∀ {l : List α} {c : Nat}, RiseK key l → AtK key l x c → cutOut key x l = if c < l.length ∧ key (l.getD c default) = x then l.take c ++ l.drop (c + 1) else l
  | [], c, _, h => by simp [cutOut]
  | a :: r, 0, hr, h => by
    have q := h.zero
    have hgt : ∀ b ∈ r, key b ≠ x := fun b hb => by
      have := (List.pairwise_cons.1 hr).1 b hb
      rcases bl_ge q with t | t
      · rw [← t]; exact (bl_ne this).symm
      · exact (bl_ne (bl_trans t this)).symm
    have hr' : r.filter (fun y => !decide (key y = x)) = r := List.filter_eq_self.2 fun b hb => by simpa using hgt b hb
    unfold cutOut
    rw [List.filter_cons, hr']
    by_cases e : key a = x
    · rw [if_neg (by simp [e]), if_pos ⟨by simp, by simpa using e⟩]; rfl
    · rw [if_pos (by simp [e]), if_neg (fun t => e (by simpa using t.2))]
  | a :: r, c + 1, hr, h => by
    obtain ⟨q, h'⟩ := h.succ
    have ih := AtK.cut (List.pairwise_cons.1 hr).2 h'
    unfold cutOut at ih ⊢
    rw [List.filter_cons, if_pos (by simp [bl_ne q]), ih]
    by_cases e : c < r.length ∧ key (r.getD c default) = x
    · rw [if_pos e, if_pos ⟨by simp; omega, by simpa using e.2⟩]; rfl
    · rw [if_neg e, if_neg (fun t => e ⟨by simpa using t.1, by simpa using t.2⟩)]
/-- slices.BinarySearchFunc -/
theorem search_loop {F : Nat → Int → Int → Option (Int × Bool)} {l : List α} {x : List UInt8} (hl : l.length ≤ 1000000) (hr : RiseK key l)
    (hF : ∀ k a b, F (k + 1) a b = if (decide (a < b)) = true then (if 0 ≤ (w64 ((Int.fdiv (IntKind.u64.wrap ((w64 (a + b)))) (2 ^ 1)))) ∧ (w64 ((Int.fdiv (IntKind.u64.wrap ((w64 (a + b)))) (2 ^ 1)))) < (l.length : Int) then
      ((some (scmp (key (gt l (w64 ((Int.fdiv (IntKind.u64.wrap ((w64 (a + b)))) (2 ^ 1)))))) x)).bind fun r1 => (if (decide (r1 < 0)) = true then F k (w64 ((w64 ((Int.fdiv (IntKind.u64.wrap ((w64 (a + b)))) (2 ^ 1)))) + 1)) b else F k a (w64 ((Int.fdiv (IntKind.u64.wrap ((w64 (a + b)))) (2 ^ 1)))))) else none)
      else (if (decide (a < (l.length : Int))) = true then (if 0 ≤ a ∧ a < (l.length : Int) then ((some (scmp (key (gt l a)) x)).bind fun r2 => (some (a, (decide (r2 = 0))))) else none) else (some (a, false)))) :
    ∀ (k a b : Nat), a ≤ b → b ≤ l.length → b - a < k → (∀ j, j < a → Op.bytesLess (key (l.getD j default)) x = true) → (∀ j, b ≤ j → j < l.length → Op.bytesLess (key (l.getD j default)) x = false) →
    ∃ c : Nat, F k (a : Int) (b : Int) = some ((c : Int), decide (c < l.length ∧ key (l.getD c default) = x)) ∧ AtK key l x c
  | 0, a, b, _, _, h, _, _ => by omega
  | k + 1, a, b, hab, hb, hk, h1, h2 => by
    rw [hF]
    by_cases h : a < b
    · have w : w64 ((Int.fdiv (IntKind.u64.wrap ((w64 ((a : Int) + (b : Int))))) (2 ^ 1))) = (((a + b) / 2 : Nat) : Int) := by
        rw [w64_id (x := (a : Int) + (b : Int)) (by omega) (by omega)]
        have u : IntKind.u64.wrap ((a : Int) + (b : Int)) = (a : Int) + (b : Int) := by
          simp only [IntKind.wrap, IntKind.signed, IntKind.bits]
          simp
          omega
        rw [u, Int.fdiv_eq_ediv_of_nonneg _ (by decide)]
        rw [w64_id (by omega) (by omega)]
        omega
      have g1 : (0 : Int) ≤ (((a + b) / 2 : Nat) : Int) ∧ (((a + b) / 2 : Nat) : Int) < (l.length : Int) := by omega
      rw [if_pos (decide_eq_true (by omega)), w, if_pos g1, gt_nat, Option.bind_some, w64_succ (by omega)]
      cases e : Op.bytesLess (key (l.getD ((a + b) / 2) default)) x with
      | true =>
        rw [if_pos (decide_eq_true (scmp_lt.2 e))]
        refine search_loop hl hr hF k _ b (by omega) hb (by omega) (fun j hj => ?_) h2
        by_cases q : j = (a + b) / 2
        · subst q; exact e
        · exact bl_trans (RiseK.get key hr (show j < (a + b) / 2 by omega) (by omega) default) e
      | false =>
        rw [if_neg (by simp only [decide_eq_true_eq, scmp_lt, e]; simp)]
        refine search_loop hl hr hF k a _ (by omega) (by omega) (by omega) h1 fun j hj hjl => ?_
        by_cases q : j = (a + b) / 2
        · subst q; exact e
        · exact bl_le_trans e (bl_asymm (RiseK.get key hr (show (a + b) / 2 < j by omega) hjl default))
    · obtain rfl : a = b := by omega
      rw [if_neg (by simp only [decide_eq_true_eq]; omega)]
      refine ⟨a, ?_, hb, h1, h2⟩
      by_cases q : a < l.length
      · have g1 : (0 : Int) ≤ (a : Int) ∧ (a : Int) < (l.length : Int) := by omega
        rw [if_pos (decide_eq_true (by omega)), if_pos g1, gt_nat, Option.bind_some]
        simp only [scmp_eq, q, true_and]
      · rw [if_neg (by simp only [decide_eq_true_eq]; omega)]
        simp [q]
end
/-! ## two rows made one -/
def mergeK : Nat → List α → List α → List α
  | 0, _, _ => []
  | _ + 1, [], o => o
  | _ + 1, n, [] => n
  | f + 1, a :: n, b :: o => if Op.bytesLess (key a) (key b) = true then a :: mergeK f n (b :: o) else if key a = key b then a :: mergeK f n o else b :: mergeK f (a :: n) o
theorem mergeK_mem {x : α} : ∀ {f : Nat} {n o : List α}, x ∈ mergeK key f n o → x ∈ n ∨ x ∈ o
  | 0, _, _, h => by simp [mergeK] at h
  | _ + 1, [], o, h => .inr (by simpa [mergeK] using h)
  | _ + 1, a :: n, [], h => .inl (by simpa [mergeK] using h)
  | f + 1, a :: n, b :: o, h => by
    unfold mergeK at h
    split at h
    · rcases List.mem_cons.1 h with h | h
      · exact .inl (by simp [h])
      · exact (mergeK_mem h).imp (List.mem_cons_of_mem _) id
    · split at h
      · rcases List.mem_cons.1 h with h | h
        · exact .inl (by simp [h])
        · exact (mergeK_mem h).imp (List.mem_cons_of_mem _) (List.mem_cons_of_mem _)
      · rcases List.mem_cons.1 h with h | h
        · exact .inr (by simp [h])
        · exact (mergeK_mem h).imp id (List.mem_cons_of_mem _)
theorem mergeK_rise : ∀ {f : Nat} {n o : List α}, n.length + o.length < f → RiseK key n → RiseK key o → RiseK key (mergeK key f n o)
  | 0, _, _, h, _, _ => by omega
  | _ + 1, [], o, _, _, h => by simpa [mergeK] using h
  | _ + 1, a :: n, [], _, h, _ => by simpa [mergeK] using h
  | f + 1, a :: n, b :: o, hf, hn, ho => by
    obtain ⟨n1, n2⟩ := List.pairwise_cons.1 hn
    obtain ⟨o1, o2⟩ := List.pairwise_cons.1 ho
    simp only [List.length_cons] at hf
    unfold mergeK
    split
    · rename_i q
      refine List.pairwise_cons.2 ⟨fun x hx => ?_, mergeK_rise (by simp; omega) n2 ho⟩
      rcases mergeK_mem key hx with hx | hx
      · exact n1 x hx
      · rcases List.mem_cons.1 hx with rfl | hx
        · exact q
        · exact bl_trans q (o1 x hx)
    · rename_i q
      split
      · rename_i e
        refine List.pairwise_cons.2 ⟨fun x hx => ?_, mergeK_rise (by omega) n2 o2⟩
        rcases mergeK_mem key hx with hx | hx
        · exact n1 x hx
        · have := o1 x hx
          unfold LtK at this ⊢
          rwa [e]
      · rename_i e
        have lt : Op.bytesLess (key b) (key a) = true := by
          rcases bl_tri (key a) (key b) with t | t | t
          · exact absurd t q
          · exact absurd t e
          · exact t
        refine List.pairwise_cons.2 ⟨fun x hx => ?_, mergeK_rise (by simp; omega) hn o2⟩
        rcases mergeK_mem key hx with hx | hx
        · rcases List.mem_cons.1 hx with rfl | hx
          · exact lt
          · exact bl_trans lt (n1 x hx)
        · exact o1 x hx
theorem mergeK_fnd (k : List UInt8) : ∀ {f : Nat} {n o : List α}, n.length + o.length < f → RiseK key n → RiseK key o → fndK key (mergeK key f n o) k = (fndK key n k).or (fndK key o k)
  | 0, _, _, h, _, _ => by omega
  | _ + 1, [], o, _, _, h => by simp [mergeK, fndK_nil]
  | _ + 1, a :: n, [], _, h, _ => by simp [mergeK, fndK_nil]
  | f + 1, a :: n, b :: o, hf, hn, ho => by
    obtain ⟨n1, n2⟩ := List.pairwise_cons.1 hn
    obtain ⟨o1, o2⟩ := List.pairwise_cons.1 ho
    simp only [List.length_cons] at hf
    unfold mergeK
    split
    · rw [fndK_cons, mergeK_fnd k (by simp; omega) n2 ho, fndK_cons key a n]
      split <;> simp
    · rename_i q
      split
      · rename_i e
        rw [fndK_cons, mergeK_fnd k (by omega) n2 o2, fndK_cons key a n, fndK_cons key b o]
        by_cases t : key a = k
        · simp [t]
        · rw [if_neg t, if_neg t, if_neg (by rw [← e]; exact t)]
      · rename_i e
        have lt : Op.bytesLess (key b) (key a) = true := by
          rcases bl_tri (key a) (key b) with t | t | t
          · exact absurd t q
          · exact absurd t e
          · exact t
        rw [fndK_cons, mergeK_fnd k (by simp; omega) hn o2, fndK_cons key b o]
        by_cases t : key b = k
        · have : fndK key (a :: n) k = none := fndK_none key fun x hx => by
            rw [← t]
            rcases List.mem_cons.1 hx with rfl | hx
            · exact (bl_ne lt).symm
            · exact (bl_ne (bl_trans lt (n1 x hx))).symm
          rw [if_pos t, if_pos t, this]
          rfl
        · rw [if_neg t, if_neg t]
/-- laid in one by one -/
theorem foldl_put : ∀ (n o : List α), RiseK key o → RiseK key (n.foldl (fun l m => putK key m l) o)
  | [], o, h => h
  | m :: n, o, h => foldl_put n _ (riseK_put key h)
theorem foldl_put_fnd (k : List UInt8) : ∀ (n o : List α), RiseK key n → fndK key (n.foldl (fun l m => putK key m l) o) k = (fndK key n k).or (fndK key o k)
  | [], o, _ => by simp [fndK_nil]
  | m :: n, o, h => by
    rw [List.foldl_cons, foldl_put_fnd k n _ (List.pairwise_cons.1 h).2, fndK_put, fndK_cons]
    by_cases t : key m = k
    · subst t
      rw [if_pos rfl, if_pos rfl, fndK_head key h]
      rfl
    · rw [if_neg t, if_neg t]
theorem merge_foldl {f : Nat} {n o : List α} (hf : n.length + o.length < f) (hn : RiseK key n) (ho : RiseK key o) : mergeK key f n o = n.foldl (fun l m => putK key m l) o :=
  riseK_ext key (mergeK_rise key hf hn ho) (foldl_put key n o ho) fun k => by rw [mergeK_fnd key k hf hn ho, foldl_put_fnd key k n o hn]
theorem fndK_append (k : List UInt8) : ∀ a b : List α, fndK key (a ++ b) k = (fndK key a k).or (fndK key b k)
  | [], b => by simp [fndK_nil]
  | x :: a, b => by
    rw [List.cons_append, fndK_cons, fndK_cons, fndK_append k a b]
    split <;> simp
/-- a row parted and merged again -/
theorem merge_parts {f : Nat} {A T C : List α} (hf : T.length + (A ++ C).length < f) (h : RiseK key (A ++ T ++ C)) : mergeK key f T (A ++ C) = A ++ T ++ C := by
  have h1 : RiseK key T := h.sublist ((List.sublist_append_right A T).trans (List.sublist_append_left _ C))
  have h2 : RiseK key (A ++ C) := h.sublist ((List.sublist_append_left A T).append (List.Sublist.refl C))
  refine riseK_ext key (mergeK_rise key hf h1 h2) h fun k => ?_
  rw [mergeK_fnd key k hf h1 h2, fndK_append, fndK_append, fndK_append]
  cases ha : fndK key A k with
  | none => simp
  | some a =>
    obtain ⟨ha1, ha2⟩ := fndK_some key ha
    have : fndK key T k = none := fndK_none key fun b hb e => by
      have := (List.pairwise_append.1 (List.pairwise_append.1 h).1).2.2 a ha1 b hb
      exact bl_ne this (by rw [ha2, e])
    rw [this]
    rfl
section
variable [Inhabited α]
theorem riseK_step {l : List α} {i : Nat} (h : i + 1 < l.length) : riseK key (l.drop i) = (Op.bytesLess (key (l.getD i default)) (key (l.getD (i + 1) default)) && riseK key (l.drop (i + 1))) := by
  rw [drop_cons (show i < l.length by omega), drop_cons h]
  rfl
theorem riseK_end {l : List α} {i : Nat} (h : l.length ≤ i + 1) : riseK key (l.drop i) = true := by
  by_cases h' : i < l.length
  · rw [drop_cons h', List.drop_eq_nil_of_le (by omega)]
    rfl
  · rw [List.drop_eq_nil_of_le (by omega)]
    rfl
theorem scmp_geK (a b : List UInt8) : decide (0 ≤ scmp a b) = !Op.bytesLess a b := by
  rcases scmp_vals a b with ⟨e, h⟩ | ⟨e, rfl⟩ | ⟨e, h⟩
  · simp [e, h]
  · simp [e, bl_irr]
  · simp [e, bl_asymm h]
/-- does a row rise? asked from the second one on -/
theorem right_loop {F : Nat → Int → Option Bool} {l : List α} {cmp : Nat → List UInt8 → List UInt8 → Option Int} {K : Nat} (hl : l.length ≤ 1000000) (hc : ∀ k, K < k → ∀ a b, a ∈ l → b ∈ l → cmp k (key a) (key b) = some (scmp (key a) (key b)))
    (hF : ∀ k i, F (k + 1) i = if (decide (i < (l.length : Int))) = true then (if 0 ≤ (w64 (i - 1)) ∧ (w64 (i - 1)) < (l.length : Int) then (if 0 ≤ i ∧ i < (l.length : Int) then ((cmp k (key (gt l (w64 (i - 1)))) (key (gt l i))).bind fun r1 => (if (decide (0 ≤ r1)) = true then (some false) else (F k (w64 (i + 1))))) else none) else none) else (some true)) :
    ∀ (k i : Nat), i ≤ l.length → K + 1 + (l.length - i) < k → F k ((i + 1 : Nat) : Int) = some (riseK key (l.drop i))
  | 0, i, _, h => by omega
  | k + 1, i, hi, hk => by
    rw [hF]
    by_cases h : i + 1 < l.length
    · have g1 : (0 : Int) ≤ (i : Int) ∧ (i : Int) < (l.length : Int) := by omega
      have g2 : (0 : Int) ≤ ((i + 1 : Nat) : Int) ∧ ((i + 1 : Nat) : Int) < (l.length : Int) := by omega
      rw [if_pos (decide_eq_true g2.2), w64_pred (by omega) (by omega), Nat.add_sub_cancel, if_pos g1, if_pos g2, gt_nat, gt_nat, hc k (by omega) _ _ (getD_mem (by omega)) (getD_mem h), Option.bind_some, scmp_geK, w64_succ (by omega), right_loop hl hc hF k (i + 1) (by omega) (by omega), riseK_step key h]
      cases Op.bytesLess (key (l.getD i default)) (key (l.getD (i + 1) default)) <;> rfl
    · rw [if_neg (by simp only [decide_eq_true_eq]; omega), riseK_end key (by omega)]
/-- the same, asked from the first one on -/
theorem right_loop0 {F : Nat → Int → Option Bool} {l : List α} (hl : l.length ≤ 1000000)
    (hF : ∀ k i, F (k + 1) i = if (decide (i < (w64 ((l.length : Int) - 1)))) = true then (if 0 ≤ i ∧ i < (l.length : Int) then (if 0 ≤ (w64 (i + 1)) ∧ (w64 (i + 1)) < (l.length : Int) then ((some (scmp (key (gt l i)) (key (gt l (w64 (i + 1)))))).bind fun r1 => (if (decide (0 ≤ r1)) = true then (some false) else (F k (w64 (i + 1))))) else none) else none) else (some true)) :
    ∀ (k i : Nat), i ≤ l.length → l.length - i < k → F k (i : Int) = some (riseK key (l.drop i))
  | 0, i, _, h => by omega
  | k + 1, i, hi, hk => by
    rw [hF, w64_id (x := (l.length : Int) - 1) (by omega) (by omega)]
    by_cases h : i + 1 < l.length
    · rw [if_pos (decide_eq_true (by omega)), w64_succ (by omega), if_pos (by omega), if_pos (by omega), gt_nat, gt_nat, Option.bind_some, scmp_geK, right_loop0 hl hF k (i + 1) (by omega) (by omega), riseK_step key h]
      cases Op.bytesLess (key (l.getD i default)) (key (l.getD (i + 1) default)) <;> rfl
    · rw [if_neg (by simp only [decide_eq_true_eq]; omega), riseK_end key (by omega)]
/-- where rows are alike -/
theorem same_loop [DecidableEq α] {F : Nat → Int → Option Bool} {a b : List α} {eqb : α → α → Bool} (he : ∀ x y, eqb x y = decide (x = y)) (hab : a.length = b.length) (ha : a.length ≤ 1000000)
    (hF : ∀ k i, F (k + 1) i = if (decide (i < (a.length : Int))) = true then (if 0 ≤ i ∧ i < (a.length : Int) then (if 0 ≤ i ∧ i < (b.length : Int) then (if (!(eqb (gt a i) (gt b i))) = true then (some false) else (F k (w64 (i + 1)))) else none) else none) else (some true)) :
    ∀ (k i : Nat), i ≤ a.length → a.length - i < k → F k (i : Int) = some (decide (a.drop i = b.drop i))
  | 0, i, _, h => by omega
  | k + 1, i, hi, hk => by
    rw [hF]
    by_cases h : i < a.length
    · have g1 : (0 : Int) ≤ (i : Int) ∧ (i : Int) < (a.length : Int) := by omega
      have g2 : (0 : Int) ≤ (i : Int) ∧ (i : Int) < (b.length : Int) := by omega
      rw [if_pos (decide_eq_true g1.2), if_pos g1, if_pos g2, he, w64_succ (by omega), same_loop he hab ha hF k (i + 1) (by omega) (by omega), drop_cons h, drop_cons (show i < b.length by omega), gt_nat, gt_nat]
      generalize a.getD i default = x
      generalize b.getD i default = y
      by_cases e : x = y
      · simp [e]
      · simp [e]
    · rw [if_neg (by simp; omega), List.drop_eq_nil_of_le (by omega), List.drop_eq_nil_of_le (by omega)]
      rfl
/-- the row's first one of a key -/
theorem find_loop {β : Type} {F : Nat → Int → Option β} {l : List α} {x : List UInt8} {yes : α → β} {no : β} (hl : l.length ≤ 1000000)
    (hF : ∀ k i, F (k + 1) i = if (decide (i < (l.length : Int))) = true then (if 0 ≤ i ∧ i < (l.length : Int) then (if (decide (key (gt l i) = x)) = true then (some (yes (gt l i))) else (F k (w64 (i + 1)))) else none) else (some no)) :
    ∀ (k i : Nat), i ≤ l.length → l.length - i < k → F k (i : Int) = some ((fndK key (l.drop i) x).elim no yes)
  | 0, i, _, h => by omega
  | k + 1, i, hi, hk => by
    rw [hF]
    by_cases h : i < l.length
    · rw [if_pos (decide_eq_true (by omega)), if_pos (by omega), gt_nat, w64_succ (by omega), find_loop hl hF k (i + 1) (by omega) (by omega), drop_cons h, fndK_cons]
      by_cases e : key (l.getD i default) = x
      · rw [if_pos (decide_eq_true e), if_pos e]; rfl
      · rw [if_neg (by simpa using e), if_neg e]
    · rw [if_neg (by simp; omega), List.drop_eq_nil_of_le (by omega)]
      rfl
end
end
end Go.SK
