/- Part of the library of this claim: how code is stepped through. -/
import Derived.Test.YtgdmpkhmedbnpaaGreatDoorXShelfNoneKo
set_option linter.unusedVariables false
set_option linter.unusedSimpArgs false
namespace Go.SK
open Go

theorem Uh (a:List UInt8):Op.bytesLess a []=false:=by cases a <;> rfl
theorem Zcg (x y:UInt8) (a b:List UInt8):Op.bytesLess (x :: a) (y :: b)=(decide (x<y) || (x == y && Op.bytesLess a b)):=rfl
theorem Zcm (x y:UInt8):x<y∨x=y∨y<x:=by
 rcases Nat.lt_trichotomy x.toNat y.toNat with h | h | h
 ·exact .inl (UInt8.lt_iff_toNat_lt.2 h)
 ·exact .inr (.inl (UInt8.toNat_inj.1 h))
 ·exact .inr (.inr (UInt8.lt_iff_toNat_lt.2 h))
theorem Zc1 (x:UInt8):¬ x<x:=fun h=>Nat.lt_irrefl _ (UInt8.lt_iff_toNat_lt.1 h)
theorem Zbh {x y z:UInt8} (h:x<y) (k:y<z):x<z:=UInt8.lt_iff_toNat_lt.2 (Nat.lt_trans (UInt8.lt_iff_toNat_lt.1 h) (UInt8.lt_iff_toNat_lt.1 k))
theorem bl_cons_iff {x y:UInt8} {a b:List UInt8}:Op.bytesLess (x :: a) (y :: b)=true↔x<y∨x=y∧Op.bytesLess a b=true:=by simp [Zcg]
theorem Jd:∀ a:List UInt8,Op.bytesLess a a=false
 | []=>rfl
 | x :: a=>by
  cases h:Op.bytesLess (x :: a) (x :: a) with
  | false=>rfl
  | true=>
   rcases bl_cons_iff.1 h with h | ⟨_,h⟩
   ·exact absurd h (Zc1 x)
   ·rw [Jd a] at h; cases h
theorem Vs:∀ {a b c:List UInt8},Op.bytesLess a b=true→Op.bytesLess b c=true→Op.bytesLess a c=true
 | _,[],_,h,_=>by rw [Uh] at h; cases h
 | _,_ :: _,[],_,h=>by rw [Uh] at h; cases h
 | [],_ :: _,_ :: _,_,_=>rfl
 | x :: a,y :: b,z :: c,h,k=>by
  rw [bl_cons_iff] at h k ⊢
  rcases h with h | ⟨rfl,h⟩ <;> rcases k with k | ⟨rfl,k⟩
  ·exact .inl (Zbh h k)
  ·exact .inl h
  ·exact .inl k
  ·exact .inr ⟨rfl,Vs h k⟩
theorem Zat:∀(a b:List UInt8),Op.bytesLess a b=true∨a=b∨Op.bytesLess b a=true
 | [],[]=>.inr (.inl rfl)
 | [],_ :: _=>.inl rfl
 | _ :: _,[]=>.inr (.inr rfl)
 | x :: a,y :: b=>by
  rw [bl_cons_iff,bl_cons_iff]
  rcases Zcm x y with h | rfl | h
  ·exact .inl (.inl h)
  ·rcases Zat a b with h | rfl | h
   ·exact .inl (.inr ⟨rfl,h⟩)
   ·exact .inr (.inl rfl)
   ·exact .inr (.inr (.inr ⟨rfl,h⟩))
  ·exact .inr (.inr (.inl h))
theorem Zbz {a b:List UInt8} (h:Op.bytesLess a b=true):Op.bytesLess b a=false:=by
 cases k:Op.bytesLess b a with
 | false=>rfl
 | true=>have:=Vs h k; rw [Jd] at this; cases this
theorem Un {a b:List UInt8} (h:Op.bytesLess a b=true):a≠b:=fun e=>by subst e; rw [Jd] at h; cases h
theorem B5 {a b:List UInt8} (h:Op.bytesLess a b=false):a=b∨Op.bytesLess b a=true:=(Zat a b).resolve_left (by simp [h])
def shd:List UInt8→List UInt8→Nat
 | x :: a,y :: b=>if x=y then shd a b+1 else 0
 | _,_=>0
theorem Yk {x:Int} (h0:-9223372036854775808≤x) (h1:x≤9223372036854775807):w64 x=x:=by
 simp only [w64,IntKind.wrap,IntKind.signed,IntKind.bits]
 simp
 omega
theorem Wc {i:Nat} (h:i<4611686018427387904):w64 ((i:Int)+1)=((i+1:Nat):Int):=by rw [Yk (by omega) (by omega)]; omega
theorem Ui {α:Type} [Inhabited α] (l:List α) (i:Nat):gt l (i:Int)=l.getD i default:=by simp [gt]
def Zb3:List (List UInt8)→Bool
 | a :: b :: r=>Op.bytesLess a b && Zb3 (b :: r)
 | _=>true
end Go.SK
