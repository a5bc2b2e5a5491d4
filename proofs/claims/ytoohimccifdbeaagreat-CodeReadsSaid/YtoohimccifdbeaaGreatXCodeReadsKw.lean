/- Part of the library of this claim: how code is stepped through. -/
import Derived.Test.YtoohimccifdbeaaGreatXCodeReadsKv
set_option linter.unusedVariables false
set_option linter.unusedSimpArgs false
namespace Go.SK
open Go Go.RowKit

section
variable {α : Type}
def Zho (d : α) : List (Int × α) → Int → α
 | [], _ => d
 | p :: es, x => if p.1 = x then p.2 else Zho d es x
def Zha : List (Int × α) → Int → Bool
 | [], _ => false
 | p :: es, x => if p.1 = x then true else Zha es x
def Zhn (x : Int) (v : α) : List (Int × α) → List (Int × α)
 | [] => [(x, v)]
 | p :: es => if p.1 = x then (x, v) :: es else p :: Zhn x v es
def Zhq (x : Int) : List (Int × α) → List (Int × α)
 | [] => []
 | p :: es => if p.1 = x then es else p :: Zhq x es
def Zhj (k : IntKind) (f : α → Value) (p : Int × α) : Value × Value := (.int k p.1, f p.2)
def kv (e : MapEntry) : Value × Value := (e.key, e.val)
def mapC (k : IntKind) (f : α → Value) (b : Nat) (es : List (Int × α)) : Ch where
 ok w F := F b ∧ ∃ M clock, w.heap[b]? = some (.map M clock) ∧ M.toList.map kv = es.map (Zhj k f)
 stable hs h := ⟨h.1, by rw [hs b h.1]; exact h.2⟩
end
section
variable {P : Program} {tt : TT} {env : Env} {S : World → Prop} {o : Oper} {w0 w : World} {F0 : Ft} {Hs Rs : List Ch} {α : Type} {k : IntKind} {f : α → Value}
end
end Go.SK
