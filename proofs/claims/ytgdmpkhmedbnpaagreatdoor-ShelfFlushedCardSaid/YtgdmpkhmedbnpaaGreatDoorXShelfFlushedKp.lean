/- Part of the library of this claim: how code is stepped through. -/
import Derived.Test.YtgdmpkhmedbnpaaGreatDoorXShelfFlushedKo
set_option linter.unusedVariables false
set_option linter.unusedSimpArgs false
namespace Go.SK
open Go

theorem Zad (a:List UInt8):Op.bytesLess a []=false:=by cases a <;> rfl
theorem Zbf (x y:UInt8) (a b:List UInt8):Op.bytesLess (x :: a) (y :: b)=(decide (x<y) || (x == y && Op.bytesLess a b)):=rfl
theorem Zkd (x y:UInt8):x<y∨x=y∨y<x:=by
 rcases Nat.lt_trichotomy x.toNat y.toNat with h | h | h
 ·exact .inl (UInt8.lt_iff_toNat_lt.2 h)
 ·exact .inr (.inl (UInt8.toNat_inj.1 h))
 ·exact .inr (.inr (UInt8.lt_iff_toNat_lt.2 h))
theorem Zgt (x:UInt8):¬ x<x:=fun h=>Nat.lt_irrefl _ (UInt8.lt_iff_toNat_lt.1 h)
theorem Zmc {x y:UInt8} (h:x<y):¬ y<x:=fun k=>Nat.lt_asymm (UInt8.lt_iff_toNat_lt.1 h) (UInt8.lt_iff_toNat_lt.1 k)
theorem Zlm {x y z:UInt8} (h:x<y) (k:y<z):x<z:=UInt8.lt_iff_toNat_lt.2 (Nat.lt_trans (UInt8.lt_iff_toNat_lt.1 h) (UInt8.lt_iff_toNat_lt.1 k))
theorem bl_cons_iff {x y:UInt8} {a b:List UInt8}:Op.bytesLess (x :: a) (y :: b)=true↔x<y∨x=y∧Op.bytesLess a b=true:=by simp [Zbf]
theorem U9:∀ a:List UInt8,Op.bytesLess a a=false
 | []=>rfl
 | x :: a=>by
  cases h:Op.bytesLess (x :: a) (x :: a) with
  | false=>rfl
  | true=>
   rcases bl_cons_iff.1 h with h | ⟨_,h⟩
   ·exact absurd h (Zgt x)
   ·rw [U9 a] at h; cases h
theorem Ba:∀ {a b c:List UInt8},Op.bytesLess a b=true→Op.bytesLess b c=true→Op.bytesLess a c=true
 | _,[],_,h,_=>by rw [Zad] at h; cases h
 | _,_ :: _,[],_,h=>by rw [Zad] at h; cases h
 | [],_ :: _,_ :: _,_,_=>rfl
 | x :: a,y :: b,z :: c,h,k=>by
  rw [bl_cons_iff] at h k ⊢
  rcases h with h | ⟨rfl,h⟩ <;> rcases k with k | ⟨rfl,k⟩
  ·exact .inl (Zlm h k)
  ·exact .inl h
  ·exact .inl k
  ·exact .inr ⟨rfl,Ba h k⟩
theorem Zcl:∀(a b:List UInt8),Op.bytesLess a b=true∨a=b∨Op.bytesLess b a=true
 | [],[]=>.inr (.inl rfl)
 | [],_ :: _=>.inl rfl
 | _ :: _,[]=>.inr (.inr rfl)
 | x :: a,y :: b=>by
  rw [bl_cons_iff,bl_cons_iff]
  rcases Zkd x y with h | rfl | h
  ·exact .inl (.inl h)
  ·rcases Zcl a b with h | rfl | h
   ·exact .inl (.inr ⟨rfl,h⟩)
   ·exact .inr (.inl rfl)
   ·exact .inr (.inr (.inr ⟨rfl,h⟩))
  ·exact .inr (.inr (.inl h))
theorem Jz {a b:List UInt8} (h:Op.bytesLess a b=true):Op.bytesLess b a=false:=by
 cases k:Op.bytesLess b a with
 | false=>rfl
 | true=>have:=Ba h k; rw [U9] at this; cases this
theorem Bl {a b:List UInt8} (h:Op.bytesLess a b=true):a≠b:=fun e=>by subst e; rw [U9] at h; cases h
theorem Zj1 {a b:List UInt8} (h:Op.bytesLess a b=false):a=b∨Op.bytesLess b a=true:=(Zcl a b).resolve_left (by simp [h])
theorem Znj {a b:List UInt8}:Xh a b<0↔Op.bytesLess a b=true:=by
 unfold Xh; split
 ·simp_all
 ·split <;> simp_all
theorem Zm9 {a b:List UInt8}:0<Xh a b↔Op.bytesLess b a=true:=by
 unfold Xh; split
 ·rename_i h; simp [Jz h]
 ·split
  ·rename_i h; subst h; simp [U9]
  ·rename_i h1 h2; rcases Zcl a b with h | h | h <;> simp_all
theorem Zn2 {a b:List UInt8}:Xh a b≤0↔Op.bytesLess b a=false:=by
 have:=@Zm9 a b
 constructor
 ·intro h
  cases k:Op.bytesLess b a with
  | false=>rfl
  | true=>have:=this.2 k; omega
 ·intro h
  rw [h] at this
  simp at this
  exact this
theorem Zkn (x y:UInt8) (a b:List UInt8):Xh (x :: a) (y :: b)=if x<y then -1 else if y<x then 1 else Xh a b:=by
 rcases Zkd x y with h | rfl | h
 ·simp [Xh,Zbf,h]
 ·simp [Xh,Zbf,Zgt]
 ·have h':=Zmc h
  have h2:¬ x=y:=fun e=>by subst e; exact Zgt _ h
  simp [Xh,Zbf,h,h',h2]
theorem Zff (b:List UInt8):Xh [] b=if b.length=0 then 0 else -1:=by cases b <;> simp [Xh,Op.bytesLess]
theorem Zd0 (a:List UInt8):Xh a []=if a.length=0 then 0 else 1:=by cases a <;> simp [Xh,Op.bytesLess]
theorem Ze2 (a b:List UInt8):Xh a b=-1∧Op.bytesLess a b=true∨Xh a b=0∧a=b∨Xh a b=1∧Op.bytesLess b a=true:=by
 rcases Zcl a b with h | rfl | h
 ·exact .inl ⟨by simp [Xh,h],h⟩
 ·exact .inr (.inl ⟨by simp [Xh,U9],rfl⟩)
 ·have e:¬ a=b:=fun e=>Bl h e.symm
  exact .inr (.inr ⟨by simp [Xh,Jz h,e],h⟩)

def shd:List UInt8→List UInt8→Nat
 | x :: a,y :: b=>if x=y then shd a b+1 else 0
 | _,_=>0
theorem Zy {x:Int} (h0:-9223372036854775808≤x) (h1:x≤9223372036854775807):w64 x=x:=by
 simp only [w64,IntKind.wrap,IntKind.signed,IntKind.bits]
 simp
 omega
theorem Z9 {i:Nat} (h:i<4611686018427387904):w64 ((i:Int)+1)=((i+1:Nat):Int):=by rw [Zy (by omega) (by omega)]; omega
theorem Bb {i:Nat} (h:0<i) (h':i<4611686018427387904):w64 ((i:Int) - 1)=((i - 1:Nat):Int):=by rw [Zy (by omega) (by omega)]; omega
theorem Yi {α:Type} [Inhabited α] {l:List α} {i:Nat} (h:i<l.length):l.drop i=l.getD i default :: l.drop (i+1):=by
 rw [List.drop_eq_getElem_cons h]; simp [List.getD_eq_getElem?_getD,h]
theorem Ze0 {l:List UInt8} {i:Nat} (h:i<l.length):l.drop i=l.getD i 0 :: l.drop (i+1):=by
 rw [List.drop_eq_getElem_cons h]; simp [List.getD_eq_getElem?_getD,h]
theorem Z8 {α:Type} [Inhabited α] (l:List α) (i:Nat):gt l (i:Int)=l.getD i default:=by simp [gt]
theorem Zo7 (l m:List UInt8) (i j:Int):gtb l i<gtb m j↔l.getD i.toNat 0<m.getD j.toNat 0:=by
 unfold gtb; rw [UInt8.lt_iff_toNat_lt]; omega
theorem Xs {α:Type} {l:List α} {i:Nat} {d:α} (h:i<l.length):l.getD i d∈l:=by
 rw [List.getD_eq_getElem?_getD,List.getElem?_eq_getElem h]
 exact List.getElem_mem h
def Vm:List (List UInt8)→Bool
 | a :: b :: r=>Op.bytesLess a b && Vm (b :: r)
 | _=>true
end Go.SK
