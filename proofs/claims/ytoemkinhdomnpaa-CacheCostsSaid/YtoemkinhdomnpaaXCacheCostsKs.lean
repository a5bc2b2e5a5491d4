/- Part of the library of this claim: how code is stepped through. -/
import Derived.Test.YtoemkinhdomnpaaXCacheCostsKr
set_option linter.unusedVariables false
set_option linter.unusedSimpArgs false
namespace Go.SK
open Go

section
variable {α : Type} (key : α → List UInt8)
def fndK (l : List α) (k : List UInt8) : Option α := l.find? fun x => decide (key x = k)
theorem fndK_nil (k : List UInt8) : fndK key [] k = none := rfl
theorem fndK_cons (a : α) (l : List α) (k : List UInt8) : fndK key (a :: l) k = if key a = k then some a else fndK key l k := by
  unfold fndK
  rw [List.find?_cons]
  by_cases h : key a = k <;> simp [h]
theorem fndK_none {l : List α} {k : List UInt8} (h : ∀ b ∈ l, key b ≠ k) : fndK key l k = none := by
  unfold fndK
  rw [List.find?_eq_none]
  intro x hx
  simpa using h x hx
def putK (m : α) : List α → List α
  | [] => [m]
  | a :: r => if Op.bytesLess (key m) (key a) = true then m :: a :: r else if key m = key a then m :: r else a :: putK m r
def cutOut (k : List UInt8) (l : List α) : List α := l.filter fun x => !decide (key x = k)
def AtK [Inhabited α] (l : List α) (x : List UInt8) (c : Nat) : Prop := c ≤ l.length ∧ (∀ j, j < c → Op.bytesLess (key (l.getD j default)) x = true) ∧ ∀ j, c ≤ j → j < l.length → Op.bytesLess (key (l.getD j default)) x = false
section
variable {key} [Inhabited α]
theorem AtK.zero {a : α} {r : List α} {x : List UInt8} (h : AtK key (a :: r) x 0) : Op.bytesLess (key a) x = false := h.2.2 0 (Nat.le_refl _) (by simp)
theorem AtK.succ {a : α} {r : List α} {x : List UInt8} {c : Nat} (h : AtK key (a :: r) x (c + 1)) : Op.bytesLess (key a) x = true ∧ AtK key r x c := by
  obtain ⟨h1, h2, h3⟩ := h
  refine ⟨h2 0 (by omega), by simpa using h1, fun j hj => ?_, fun j hj hl => ?_⟩
  · have := h2 (j + 1) (by omega); simpa using this
  · have := h3 (j + 1) (by omega) (by simpa using hl); simpa using this
theorem AtK.find {x : List UInt8} : ∀ {l : List α} {c : Nat}, RiseK key l → AtK key l x c → fndK key l x = if c < l.length ∧ key (l.getD c default) = x then some (l.getD c default) else none
  | [], c, _, h => by simp [fndK_nil]
  | a :: r, 0, hr, h => by
    have q := h.zero
    rw [fndK_cons]
    by_cases e : key a = x
    · rw [if_pos e, if_pos ⟨by simp, by simpa using e⟩]; rfl
    · rw [if_neg e, if_neg (fun t => e (by simpa using t.2))]
      refine fndK_none key fun b hb => ?_
      have := (List.pairwise_cons.1 hr).1 b hb
      rcases bl_ge q with t | t
      · exact absurd t e
      · exact (bl_ne (bl_trans t this)).symm
  | a :: r, c + 1, hr, h => by
    obtain ⟨q, h'⟩ := h.succ
    rw [fndK_cons, if_neg (bl_ne q), AtK.find (List.pairwise_cons.1 hr).2 h']
    simp
theorem AtK.put {m : α} : ∀ {l : List α} {c : Nat}, RiseK key l → AtK key l (key m) c → putK key m l = if c < l.length ∧ key (l.getD c default) = key m then l.set c m else l.take c ++ m :: l.drop c
  | [], c, _, h => by
    have : c = 0 := by have := h.1; simpa using this
    subst this
    simp [putK]
  | a :: r, 0, hr, h => by
    have q := h.zero
    unfold putK
    by_cases e : key m = key a
    · rw [if_neg (by rw [e, bl_irr]; simp), if_pos e, if_pos ⟨by simp, by simpa using e.symm⟩]; rfl
    · have : Op.bytesLess (key m) (key a) = true := (bl_ge q).resolve_left fun t => e t.symm
      rw [if_pos this, if_neg (fun t => e (by simpa using t.2.symm))]
      rfl
  | a :: r, c + 1, hr, h => by
    obtain ⟨q, h'⟩ := h.succ
    unfold putK
    rw [if_neg (by rw [bl_asymm q]; simp), if_neg (bl_ne q).symm, AtK.put (List.pairwise_cons.1 hr).2 h']
    by_cases e : c < r.length ∧ key (r.getD c default) = key m
    · rw [if_pos e, if_pos ⟨by simp; omega, by simpa using e.2⟩]; rfl
    · rw [if_neg e, if_neg (fun t => e ⟨by simpa using t.1, by simpa using t.2⟩)]; rfl
end
def mergeK : Nat → List α → List α → List α
  | 0, _, _ => []
  | _ + 1, [], o => o
  | _ + 1, n, [] => n
  | f + 1, a :: n, b :: o => if Op.bytesLess (key a) (key b) = true then a :: mergeK f n (b :: o) else if key a = key b then a :: mergeK f n o else b :: mergeK f (a :: n) o
section
variable [Inhabited α]
end
end
end Go.SK
