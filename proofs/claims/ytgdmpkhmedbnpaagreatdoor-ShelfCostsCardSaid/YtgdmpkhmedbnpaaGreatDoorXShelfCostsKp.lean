/- Part of the library of this claim: how code is stepped through. -/
import Derived.Test.YtgdmpkhmedbnpaaGreatDoorXShelfCostsKo
set_option linter.unusedVariables false
set_option linter.unusedSimpArgs false
namespace Go.SK
open Go

theorem Bw (a:List UInt8):Op.bytesLess a []=false:=by cases a <;> rfl
theorem Zk9 (x y:UInt8) (a b:List UInt8):Op.bytesLess (x :: a) (y :: b)=(decide (x<y) || (x == y && Op.bytesLess a b)):=rfl
theorem Zlt (x y:UInt8):x<y∨x=y∨y<x:=by
 rcases Nat.lt_trichotomy x.toNat y.toNat with h | h | h
 ·exact .inl (UInt8.lt_iff_toNat_lt.2 h)
 ·exact .inr (.inl (UInt8.toNat_inj.1 h))
 ·exact .inr (.inr (UInt8.lt_iff_toNat_lt.2 h))
theorem Zlj (x:UInt8):¬ x<x:=fun h=>Nat.lt_irrefl _ (UInt8.lt_iff_toNat_lt.1 h)
theorem Zi4 {x y z:UInt8} (h:x<y) (k:y<z):x<z:=UInt8.lt_iff_toNat_lt.2 (Nat.lt_trans (UInt8.lt_iff_toNat_lt.1 h) (UInt8.lt_iff_toNat_lt.1 k))
theorem bl_cons_iff {x y:UInt8} {a b:List UInt8}:Op.bytesLess (x :: a) (y :: b)=true↔x<y∨x=y∧Op.bytesLess a b=true:=by simp [Zk9]
theorem U0:∀ a:List UInt8,Op.bytesLess a a=false
 | []=>rfl
 | x :: a=>by
  cases h:Op.bytesLess (x :: a) (x :: a) with
  | false=>rfl
  | true=>
   rcases bl_cons_iff.1 h with h | ⟨_,h⟩
   ·exact absurd h (Zlj x)
   ·rw [U0 a] at h; cases h
theorem J3:∀ {a b c:List UInt8},Op.bytesLess a b=true→Op.bytesLess b c=true→Op.bytesLess a c=true
 | _,[],_,h,_=>by rw [Bw] at h; cases h
 | _,_ :: _,[],_,h=>by rw [Bw] at h; cases h
 | [],_ :: _,_ :: _,_,_=>rfl
 | x :: a,y :: b,z :: c,h,k=>by
  rw [bl_cons_iff] at h k ⊢
  rcases h with h | ⟨rfl,h⟩ <;> rcases k with k | ⟨rfl,k⟩
  ·exact .inl (Zi4 h k)
  ·exact .inl h
  ·exact .inl k
  ·exact .inr ⟨rfl,J3 h k⟩
theorem Zd0:∀(a b:List UInt8),Op.bytesLess a b=true∨a=b∨Op.bytesLess b a=true
 | [],[]=>.inr (.inl rfl)
 | [],_ :: _=>.inl rfl
 | _ :: _,[]=>.inr (.inr rfl)
 | x :: a,y :: b=>by
  rw [bl_cons_iff,bl_cons_iff]
  rcases Zlt x y with h | rfl | h
  ·exact .inl (.inl h)
  ·rcases Zd0 a b with h | rfl | h
   ·exact .inl (.inr ⟨rfl,h⟩)
   ·exact .inr (.inl rfl)
   ·exact .inr (.inr (.inr ⟨rfl,h⟩))
  ·exact .inr (.inr (.inl h))
theorem Ge {a b:List UInt8} (h:Op.bytesLess a b=true):Op.bytesLess b a=false:=by
 cases k:Op.bytesLess b a with
 | false=>rfl
 | true=>have:=J3 h k; rw [U0] at this; cases this
theorem Ga {a b:List UInt8} (h:Op.bytesLess a b=true):a≠b:=fun e=>by subst e; rw [U0] at h; cases h
theorem Zg1 {a b:List UInt8} (h:Op.bytesLess a b=false):a=b∨Op.bytesLess b a=true:=(Zd0 a b).resolve_left (by simp [h])
theorem Zcs (a b:List UInt8):Wn a b=-1∧Op.bytesLess a b=true∨Wn a b=0∧a=b∨Wn a b=1∧Op.bytesLess b a=true:=by
 rcases Zd0 a b with h | rfl | h
 ·exact .inl ⟨by simp [Wn,h],h⟩
 ·exact .inr (.inl ⟨by simp [Wn,U0],rfl⟩)
 ·have e:¬ a=b:=fun e=>Ga h e.symm
  exact .inr (.inr ⟨by simp [Wn,Ge h,e],h⟩)

def shd:List UInt8→List UInt8→Nat
 | x :: a,y :: b=>if x=y then shd a b+1 else 0
 | _,_=>0
theorem Z1 {x:Int} (h0:-9223372036854775808≤x) (h1:x≤9223372036854775807):w64 x=x:=by
 simp only [w64,IntKind.wrap,IntKind.signed,IntKind.bits]
 simp
 omega
theorem Yp {i:Nat} (h:i<4611686018427387904):w64 ((i:Int)+1)=((i+1:Nat):Int):=by rw [Z1 (by omega) (by omega)]; omega
theorem Zjd {i:Nat} (h:0<i) (h':i<4611686018427387904):w64 ((i:Int) - 1)=((i - 1:Nat):Int):=by rw [Z1 (by omega) (by omega)]; omega
theorem Y4 {α:Type} [Inhabited α] {l:List α} {i:Nat} (h:i<l.length):l.drop i=l.getD i default :: l.drop (i+1):=by
 rw [List.drop_eq_getElem_cons h]; simp [List.getD_eq_getElem?_getD,h]
theorem Yf {α:Type} [Inhabited α] (l:List α) (i:Nat):gt l (i:Int)=l.getD i default:=by simp [gt]
theorem Vb {α:Type} {l:List α} {i:Nat} {d:α} (h:i<l.length):l.getD i d∈l:=by
 rw [List.getD_eq_getElem?_getD,List.getElem?_eq_getElem h]
 exact List.getElem_mem h
def Jd:List (List UInt8)→Bool
 | a :: b :: r=>Op.bytesLess a b && Jd (b :: r)
 | _=>true
end Go.SK
