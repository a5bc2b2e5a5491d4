/- Part of the library of this claim: how code is stepped through. -/
import Derived.Test.YtoohimccifdbeaaKp
set_option linter.unusedVariables false
set_option linter.unusedSimpArgs false
namespace Go.SK
open Go

/-! ## with fuel enough -/
def Ev {α : Type} (F : Nat → Option α) (r : α) : Prop := ∃ k0, ∀ k, k0 ≤ k → F k = some r
section
variable {α β γ δ : Type} {F : Nat → Option α} {G : Nat → Option β} {G2 : Nat → Option γ} {G3 : Nat → Option δ} {r : α} {s : β} {t : γ} {u : δ}
theorem Ev.of {K : Nat} (h : ∀ k, K < k → F k = some r) : Ev F r := ⟨K + 1, fun k hk => h k (by omega)⟩
theorem Ev.all (h : ∀ k, F k = some r) : Ev F r := ⟨0, fun k _ => h k⟩
theorem Ev.ok (h : Ev F r) : ∃ k, F k = some r := by obtain ⟨k, h⟩ := h; exact ⟨k, h k (Nat.le_refl _)⟩
/-- a round of a loop, behind which it goes on -/
theorem Ev.step (h : Ev G s) (hs : ∀ k, G k = some s → F (k + 1) = some r) : Ev F r := by
  obtain ⟨k0, h⟩ := h
  refine ⟨k0 + 1, fun k hk => ?_⟩
  obtain ⟨j, rfl⟩ : ∃ j, k = j + 1 := ⟨k - 1, by omega⟩
  exact hs j (h j (by omega))
theorem Ev.step2 (h : Ev G s) (h2 : Ev G2 t) (hs : ∀ k, G k = some s → G2 k = some t → F (k + 1) = some r) : Ev F r := by
  obtain ⟨k0, h⟩ := h
  obtain ⟨k1, h2⟩ := h2
  refine ⟨k0 + k1 + 1, fun k hk => ?_⟩
  obtain ⟨j, rfl⟩ : ∃ j, k = j + 1 := ⟨k - 1, by omega⟩
  exact hs j (h j (by omega)) (h2 j (by omega))
theorem Ev.step3 (h : Ev G s) (h2 : Ev G2 t) (h3 : Ev G3 u) (hs : ∀ k, G k = some s → G2 k = some t → G3 k = some u → F (k + 1) = some r) : Ev F r := by
  obtain ⟨k0, h⟩ := h
  obtain ⟨k1, h2⟩ := h2
  obtain ⟨k2, h3⟩ := h3
  refine ⟨k0 + k1 + k2 + 1, fun k hk => ?_⟩
  obtain ⟨j, rfl⟩ : ∃ j, k = j + 1 := ⟨k - 1, by omega⟩
  exact hs j (h j (by omega)) (h2 j (by omega)) (h3 j (by omega))
theorem Ev.last (hs : ∀ k, F (k + 1) = some r) : Ev F r := by
  refine ⟨1, fun k hk => ?_⟩
  obtain ⟨j, rfl⟩ : ∃ j, k = j + 1 := ⟨k - 1, by omega⟩
  exact hs j
theorem Ev.next (h : Ev G s) (hs : ∀ k, G k = some s → F k = some r) : Ev F r := by
  obtain ⟨k0, h⟩ := h
  exact ⟨k0, fun k hk => hs k (h k hk)⟩
theorem Ev.next2 (h : Ev G s) (h2 : Ev G2 t) (hs : ∀ k, G k = some s → G2 k = some t → F k = some r) : Ev F r := by
  obtain ⟨k0, h⟩ := h
  obtain ⟨k1, h2⟩ := h2
  exact ⟨k0 + k1, fun k hk => hs k (h k (by omega)) (h2 k (by omega))⟩
theorem Ev.next3 (h : Ev G s) (h2 : Ev G2 t) (h3 : Ev G3 u) (hs : ∀ k, G k = some s → G2 k = some t → G3 k = some u → F k = some r) : Ev F r := by
  obtain ⟨k0, h⟩ := h
  obtain ⟨k1, h2⟩ := h2
  obtain ⟨k2, h3⟩ := h3
  exact ⟨k0 + k1 + k2, fun k hk => hs k (h k (by omega)) (h2 k (by omega)) (h3 k (by omega))⟩
theorem Ev.bind {H : β → Nat → Option α} (h : Ev G s) (h2 : Ev (H s) r) : Ev (fun k => (G k).bind fun x => H x k) r :=
  Ev.next2 h h2 fun k e1 e2 => by rw [e1, Option.bind_some, e2]
end

/-! ## lists -/
section
variable {α : Type} [Inhabited α]
theorem take_get {l : List α} {i : Nat} (h : i < l.length) : l.take (i + 1) = l.take i ++ [l.getD i default] := by
  rw [List.take_add_one, List.getElem?_eq_getElem h, List.getD_eq_getElem?_getD, List.getElem?_eq_getElem h]
  rfl
theorem drop_take_get {l : List α} {u n : Nat} (h : u + n < l.length) : (l.drop u).take (n + 1) = (l.drop u).take n ++ [l.getD (u + n) default] := by
  rw [List.take_add_one, List.getElem?_drop, List.getElem?_eq_getElem h, List.getD_eq_getElem?_getD, List.getElem?_eq_getElem h]
  rfl
end
section
variable {α : Type}
theorem getD_take {l : List α} {i h : Nat} {d : α} (hi : i < h) : (l.take h).getD i d = l.getD i d := by
  rw [List.getD_eq_getElem?_getD, List.getD_eq_getElem?_getD, List.getElem?_take_of_lt hi]
theorem getD_drop {l : List α} {i h : Nat} {d : α} : (l.drop h).getD i d = l.getD (h + i) d := by
  rw [List.getD_eq_getElem?_getD, List.getD_eq_getElem?_getD, List.getElem?_drop]
theorem getD_eq_getElem' {l : List α} {i : Nat} {d : α} (h : i < l.length) : l.getD i d = l[i] := by
  rw [List.getD_eq_getElem?_getD, List.getElem?_eq_getElem h]
  rfl
theorem mem_getD {l : List α} {x : α} (h : x ∈ l) (d : α) : ∃ i, i < l.length ∧ l.getD i d = x := by
  obtain ⟨i, hi, e⟩ := List.mem_iff_getElem.1 h
  exact ⟨i, hi, by rw [getD_eq_getElem' hi, e]⟩
/-- the rows of two parts: where they are joined again -/
theorem set_same_len {l : List α} {i : Nat} {x : α} : (l.set i x).length = l.length := List.length_set
end

/-! ## half -/
theorem tdiv2 {n : Nat} (h : n < 4611686018427387904) : w64 (Int.tdiv (w64 ((n : Int) + 1)) 2) = (((n + 1) / 2 : Nat) : Int) := by
  rw [w64_succ h, Int.tdiv_eq_ediv_of_nonneg (by omega), w64_id (by omega) (by omega)]
  omega

/-! ## rows that rise by a key -/
section
variable {α : Type} (key : α → List UInt8)
def riseK : List α → Bool
  | a :: b :: r => Op.bytesLess (key a) (key b) && riseK (b :: r)
  | _ => true
def LtK (a b : α) : Prop := Op.bytesLess (key a) (key b) = true
abbrev RiseK (l : List α) : Prop := l.Pairwise (LtK key)
theorem riseK_iff : ∀ l : List α, riseK key l = true ↔ RiseK key l
  | [] => by simp [riseK]
  | [a] => by simp [riseK]
  | a :: b :: r => by
    have ih := riseK_iff (b :: r)
    rw [riseK, Bool.and_eq_true, ih]
    constructor
    · rintro ⟨h1, h2⟩
      refine List.pairwise_cons.2 ⟨fun x hx => ?_, h2⟩
      rcases List.mem_cons.1 hx with rfl | hx
      · exact h1
      · exact bl_trans h1 ((List.pairwise_cons.1 h2).1 x hx)
    · intro h
      exact ⟨(List.pairwise_cons.1 h).1 b (by simp), (List.pairwise_cons.1 h).2⟩
theorem RiseK.get [Inhabited α] {l : List α} (h : RiseK key l) {i j : Nat} (hij : i < j) (hj : j < l.length) (d : α) : Op.bytesLess (key (l.getD i d)) (key (l.getD j d)) = true := by
  have := List.pairwise_iff_getElem.1 h i j (by omega) hj hij
  rw [getD_eq_getElem' (by omega), getD_eq_getElem' hj]
  exact this
end
end Go.SK
