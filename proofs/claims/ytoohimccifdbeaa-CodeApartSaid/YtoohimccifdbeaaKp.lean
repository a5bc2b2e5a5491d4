/- Part of the library of this claim: how code is stepped through. -/
import Derived.Test.YtoohimccifdbeaaKo
set_option linter.unusedVariables false
set_option linter.unusedSimpArgs false
namespace Go.SK
open Go

/-! ## plain laws of strings as lists of bytes -/
theorem bl_nil_right (a : List UInt8) : Op.bytesLess a [] = false := by cases a <;> rfl
theorem bl_nil_cons (y : UInt8) (b : List UInt8) : Op.bytesLess [] (y :: b) = true := rfl
theorem bl_cons (x y : UInt8) (a b : List UInt8) : Op.bytesLess (x :: a) (y :: b) = (decide (x < y) || (x == y && Op.bytesLess a b)) := rfl
theorem u8_tri (x y : UInt8) : x < y ∨ x = y ∨ y < x := by
  rcases Nat.lt_trichotomy x.toNat y.toNat with h | h | h
  · exact .inl (UInt8.lt_iff_toNat_lt.2 h)
  · exact .inr (.inl (UInt8.toNat_inj.1 h))
  · exact .inr (.inr (UInt8.lt_iff_toNat_lt.2 h))
theorem u8_irr (x : UInt8) : ¬ x < x := fun h => Nat.lt_irrefl _ (UInt8.lt_iff_toNat_lt.1 h)
theorem u8_asymm {x y : UInt8} (h : x < y) : ¬ y < x := fun k => Nat.lt_asymm (UInt8.lt_iff_toNat_lt.1 h) (UInt8.lt_iff_toNat_lt.1 k)
theorem u8_trans {x y z : UInt8} (h : x < y) (k : y < z) : x < z := UInt8.lt_iff_toNat_lt.2 (Nat.lt_trans (UInt8.lt_iff_toNat_lt.1 h) (UInt8.lt_iff_toNat_lt.1 k))
theorem bl_cons_iff {x y : UInt8} {a b : List UInt8} : Op.bytesLess (x :: a) (y :: b) = true ↔ x < y ∨ x = y ∧ Op.bytesLess a b = true := by simp [bl_cons]
theorem bl_irr : ∀ a : List UInt8, Op.bytesLess a a = false
  | [] => rfl
  | x :: a => by
    cases h : Op.bytesLess (x :: a) (x :: a) with
    | false => rfl
    | true =>
      rcases bl_cons_iff.1 h with h | ⟨_, h⟩
      · exact absurd h (u8_irr x)
      · rw [bl_irr a] at h; cases h
theorem bl_trans : ∀ {a b c : List UInt8}, Op.bytesLess a b = true → Op.bytesLess b c = true → Op.bytesLess a c = true
  | _, [], _, h, _ => by rw [bl_nil_right] at h; cases h
  | _, _ :: _, [], _, h => by rw [bl_nil_right] at h; cases h
  | [], _ :: _, _ :: _, _, _ => rfl
  | x :: a, y :: b, z :: c, h, k => by
    rw [bl_cons_iff] at h k ⊢
    rcases h with h | ⟨rfl, h⟩ <;> rcases k with k | ⟨rfl, k⟩
    · exact .inl (u8_trans h k)
    · exact .inl h
    · exact .inl k
    · exact .inr ⟨rfl, bl_trans h k⟩
theorem bl_tri : ∀ (a b : List UInt8), Op.bytesLess a b = true ∨ a = b ∨ Op.bytesLess b a = true
  | [], [] => .inr (.inl rfl)
  | [], _ :: _ => .inl rfl
  | _ :: _, [] => .inr (.inr rfl)
  | x :: a, y :: b => by
    rw [bl_cons_iff, bl_cons_iff]
    rcases u8_tri x y with h | rfl | h
    · exact .inl (.inl h)
    · rcases bl_tri a b with h | rfl | h
      · exact .inl (.inr ⟨rfl, h⟩)
      · exact .inr (.inl rfl)
      · exact .inr (.inr (.inr ⟨rfl, h⟩))
    · exact .inr (.inr (.inl h))
theorem bl_asymm {a b : List UInt8} (h : Op.bytesLess a b = true) : Op.bytesLess b a = false := by
  cases k : Op.bytesLess b a with
  | false => rfl
  | true => have := bl_trans h k; rw [bl_irr] at this; cases this
theorem bl_ne {a b : List UInt8} (h : Op.bytesLess a b = true) : a ≠ b := fun e => by subst e; rw [bl_irr] at h; cases h
/-- not below and not above -/
theorem bl_ge {a b : List UInt8} (h : Op.bytesLess a b = false) : a = b ∨ Op.bytesLess b a = true := (bl_tri a b).resolve_left (by simp [h])
theorem bl_le_trans {a b c : List UInt8} (h : Op.bytesLess b a = false) (k : Op.bytesLess c b = false) : Op.bytesLess c a = false := by
  cases e : Op.bytesLess c a with
  | false => rfl
  | true =>
    rcases bl_ge k with rfl | k'
    · rw [e] at h; cases h
    · rw [bl_trans k' e] at h; cases h
theorem bl_lt_le {a b c : List UInt8} (h : Op.bytesLess a b = true) (k : Op.bytesLess c b = false) : Op.bytesLess a c = true := by
  rcases bl_ge k with rfl | k'
  · exact h
  · exact bl_trans h k'
theorem bl_le_lt {a b c : List UInt8} (h : Op.bytesLess b a = false) (k : Op.bytesLess b c = true) : Op.bytesLess a c = true := by
  rcases bl_ge h with rfl | h'
  · exact k
  · exact bl_trans h' k
theorem bl_le_iff (a b : List UInt8) : (Op.bytesLess a b || decide (a = b)) = !Op.bytesLess b a := by
  rcases bl_tri a b with h | rfl | h
  · simp [h, bl_asymm h]
  · simp [bl_irr]
  · have := bl_ne h
    simp only [bl_asymm h, h, Bool.false_or, Bool.not_true, decide_eq_false_iff_not]; exact fun e => this e.symm
/-- the next string -/
theorem bl_next : ∀ a : List UInt8, Op.bytesLess a (a ++ [0]) = true
  | [] => rfl
  | x :: a => bl_cons_iff.2 (.inr ⟨rfl, bl_next a⟩)
theorem u8_ge0 (x : UInt8) : ¬ x < 0 := fun h => by have := UInt8.lt_iff_toNat_lt.1 h; simp at this
theorem bl_next_le : ∀ {a b : List UInt8}, Op.bytesLess a b = true → Op.bytesLess b (a ++ [0]) = false
  | a, [], h => by rw [bl_nil_right] at h; cases h
  | [], y :: b, _ => by
    cases h : Op.bytesLess (y :: b) ([] ++ [0]) with
    | false => rfl
    | true =>
      rcases bl_cons_iff.1 h with h | ⟨_, h⟩
      · exact absurd h (u8_ge0 y)
      · rw [bl_nil_right] at h; cases h
  | x :: a, y :: b, h => by
    cases k : Op.bytesLess (y :: b) (x :: a ++ [0]) with
    | false => rfl
    | true =>
      rcases bl_cons_iff.1 h with h' | ⟨rfl, h'⟩ <;> rcases bl_cons_iff.1 k with k' | ⟨e, k'⟩
      · exact absurd k' (u8_asymm h')
      · subst e; exact absurd h' (u8_irr _)
      · exact absurd k' (u8_irr _)
      · have := bl_next_le h'
        rw [show a.append [0] = a ++ [0] from rfl, this] at k'; cases k'

/-! ## the compare of two strings -/
theorem scmp_lt {a b : List UInt8} : scmp a b < 0 ↔ Op.bytesLess a b = true := by
  unfold scmp; split
  · simp_all
  · split <;> simp_all
theorem scmp_eq {a b : List UInt8} : scmp a b = 0 ↔ a = b := by
  unfold scmp; split
  · rename_i h; simp [bl_ne h]
  · split <;> simp_all
theorem scmp_gt {a b : List UInt8} : 0 < scmp a b ↔ Op.bytesLess b a = true := by
  unfold scmp; split
  · rename_i h; simp [bl_asymm h]
  · split
    · rename_i h; subst h; simp [bl_irr]
    · rename_i h1 h2; rcases bl_tri a b with h | h | h <;> simp_all
theorem scmp_neg {a b : List UInt8} : scmp b a = -scmp a b := by
  rcases bl_tri a b with h | rfl | h
  · have e : ¬ b = a := fun e => bl_ne h e.symm
    simp [scmp, h, bl_asymm h, e]
  · simp [scmp, bl_irr]
  · have e : ¬ a = b := fun e => bl_ne h e.symm
    simp [scmp, h, bl_asymm h, e]
theorem scmp_le {a b : List UInt8} : scmp a b ≤ 0 ↔ Op.bytesLess b a = false := by
  have := @scmp_gt a b
  constructor
  · intro h
    cases k : Op.bytesLess b a with
    | false => rfl
    | true => have := this.2 k; omega
  · intro h
    rw [h] at this
    simp at this
    exact this
theorem scmp_cons (x y : UInt8) (a b : List UInt8) : scmp (x :: a) (y :: b) = if x < y then -1 else if y < x then 1 else scmp a b := by
  rcases u8_tri x y with h | rfl | h
  · simp [scmp, bl_cons, h]
  · simp [scmp, bl_cons, u8_irr]
  · have h' := u8_asymm h
    have h2 : ¬ x = y := fun e => by subst e; exact u8_irr _ h
    simp [scmp, bl_cons, h, h', h2]
theorem scmp_nil_left (b : List UInt8) : scmp [] b = if b.length = 0 then 0 else -1 := by cases b <;> simp [scmp, Op.bytesLess]
theorem scmp_nil_right (a : List UInt8) : scmp a [] = if a.length = 0 then 0 else 1 := by cases a <;> simp [scmp, Op.bytesLess]
theorem scmp_vals (a b : List UInt8) : scmp a b = -1 ∧ Op.bytesLess a b = true ∨ scmp a b = 0 ∧ a = b ∨ scmp a b = 1 ∧ Op.bytesLess b a = true := by
  rcases bl_tri a b with h | rfl | h
  · exact .inl ⟨by simp [scmp, h], h⟩
  · exact .inr (.inl ⟨by simp [scmp, bl_irr], rfl⟩)
  · have e : ¬ a = b := fun e => bl_ne h e.symm
    exact .inr (.inr ⟨by simp [scmp, bl_asymm h, e], h⟩)

/-! ## the shared beginning -/
def shd : List UInt8 → List UInt8 → Nat
  | x :: a, y :: b => if x = y then shd a b + 1 else 0
  | _, _ => 0
theorem shd_le : ∀ (a b : List UInt8), shd a b ≤ a.length ∧ shd a b ≤ b.length
  | [], _ => ⟨Nat.zero_le _, Nat.zero_le _⟩
  | _ :: _, [] => ⟨Nat.zero_le _, Nat.zero_le _⟩
  | x :: a, y :: b => by
    unfold shd
    have := shd_le a b
    split <;> simp <;> omega
/-- below: so the shared beginning is shorter than the greater -/
theorem shd_lt : ∀ {a b : List UInt8}, Op.bytesLess a b = true → shd a b < b.length
  | a, [], h => by rw [bl_nil_right] at h; cases h
  | [], _ :: _, _ => by simp [shd]
  | x :: a, y :: b, h => by
    unfold shd
    rcases bl_cons_iff.1 h with h' | ⟨rfl, h'⟩
    · have : ¬ x = y := fun e => by subst e; exact u8_irr _ h'
      simp [this]
    · have := shd_lt h'
      simpa using this
theorem bl_take_shd : ∀ {a b : List UInt8} {n : Nat}, n ≤ shd a b → Op.bytesLess a (b.take n) = false
  | a, b, 0, _ => by rw [List.take_zero, bl_nil_right]
  | [], [], n + 1, h => by simp [shd] at h
  | [], _ :: _, n + 1, h => by simp [shd] at h
  | _ :: _, [], n + 1, h => by simp [shd] at h
  | x :: a, y :: b, n + 1, h => by
    unfold shd at h
    split at h
    · rename_i e
      subst e
      have := bl_take_shd (a := a) (b := b) (n := n) (by omega)
      simp [bl_cons, u8_irr, this]
    · omega
theorem bl_take_next : ∀ {a b : List UInt8}, Op.bytesLess a b = true → Op.bytesLess a (b.take (shd a b + 1)) = true
  | a, [], h => by rw [bl_nil_right] at h; cases h
  | [], _ :: _, _ => rfl
  | x :: a, y :: b, h => by
    rcases bl_cons_iff.1 h with h' | ⟨rfl, h'⟩
    · simp [bl_cons, h']
    · have := bl_take_next h'
      simp [shd, bl_cons, this]
theorem bl_take_le : ∀ (b : List UInt8) (n : Nat), Op.bytesLess b (b.take n) = false
  | b, 0 => by rw [List.take_zero, bl_nil_right]
  | [], n + 1 => rfl
  | y :: b, n + 1 => by simp [bl_cons, u8_irr, bl_take_le b n]

/-! ## words of numbers -/
theorem w64_id {x : Int} (h0 : -9223372036854775808 ≤ x) (h1 : x ≤ 9223372036854775807) : w64 x = x := by
  simp only [w64, IntKind.wrap, IntKind.signed, IntKind.bits]
  simp
  omega
theorem w64_succ {i : Nat} (h : i < 4611686018427387904) : w64 ((i : Int) + 1) = ((i + 1 : Nat) : Int) := by rw [w64_id (by omega) (by omega)]; omega
theorem w64_pred {i : Nat} (h : 0 < i) (h' : i < 4611686018427387904) : w64 ((i : Int) - 1) = ((i - 1 : Nat) : Int) := by rw [w64_id (by omega) (by omega)]; omega
theorem gtb_nat (l : List UInt8) (i : Nat) : gtb l (i : Int) = ((l.getD i 0).toNat : Int) := by simp [gtb]
theorem drop_cons {α : Type} [Inhabited α] {l : List α} {i : Nat} (h : i < l.length) : l.drop i = l.getD i default :: l.drop (i + 1) := by
  rw [List.drop_eq_getElem_cons h]; simp [List.getD_eq_getElem?_getD, h]
theorem drop_byte {l : List UInt8} {i : Nat} (h : i < l.length) : l.drop i = l.getD i 0 :: l.drop (i + 1) := by
  rw [List.drop_eq_getElem_cons h]; simp [List.getD_eq_getElem?_getD, h]
theorem gt_nat {α : Type} [Inhabited α] (l : List α) (i : Nat) : gt l (i : Int) = l.getD i default := by simp [gt]
theorem gtb_lt (l m : List UInt8) (i j : Int) : gtb l i < gtb m j ↔ l.getD i.toNat 0 < m.getD j.toNat 0 := by
  unfold gtb; rw [UInt8.lt_iff_toNat_lt]; omega
theorem gtb_eq (l m : List UInt8) (i j : Int) : gtb l i = gtb m j ↔ l.getD i.toNat 0 = m.getD j.toNat 0 := by
  unfold gtb; rw [← UInt8.toNat_inj]; omega
theorem getD_mem {α : Type} {l : List α} {i : Nat} {d : α} (h : i < l.length) : l.getD i d ∈ l := by
  rw [List.getD_eq_getElem?_getD, List.getElem?_eq_getElem h]
  exact List.getElem_mem h
/-- does a row of strings rise? -/
def rises : List (List UInt8) → Bool
  | a :: b :: r => Op.bytesLess a b && rises (b :: r)
  | _ => true
end Go.SK
