/- Part of the library of this claim: how code is stepped through. -/
import Derived.Test.YtgdmpkhmedbnpaaGreatDoorXShelfPlaysKo
set_option linter.unusedVariables false
set_option linter.unusedSimpArgs false
namespace Go.SK
open Go

theorem Za7 (a:List UInt8):Op.bytesLess a []=false:=by cases a <;> rfl
theorem Zbm (x y:UInt8) (a b:List UInt8):Op.bytesLess (x :: a) (y :: b)=(decide (x<y) || (x == y && Op.bytesLess a b)):=rfl
theorem Zk9 (x y:UInt8):x<y∨x=y∨y<x:=by
 rcases Nat.lt_trichotomy x.toNat y.toNat with h | h | h
 ·exact .inl (UInt8.lt_iff_toNat_lt.2 h)
 ·exact .inr (.inl (UInt8.toNat_inj.1 h))
 ·exact .inr (.inr (UInt8.lt_iff_toNat_lt.2 h))
theorem Zge (x:UInt8):¬ x<x:=fun h=>Nat.lt_irrefl _ (UInt8.lt_iff_toNat_lt.1 h)
theorem Zmt {x y:UInt8} (h:x<y):¬ y<x:=fun k=>Nat.lt_asymm (UInt8.lt_iff_toNat_lt.1 h) (UInt8.lt_iff_toNat_lt.1 k)
theorem Zmo {x y z:UInt8} (h:x<y) (k:y<z):x<z:=UInt8.lt_iff_toNat_lt.2 (Nat.lt_trans (UInt8.lt_iff_toNat_lt.1 h) (UInt8.lt_iff_toNat_lt.1 k))
theorem bl_cons_iff {x y:UInt8} {a b:List UInt8}:Op.bytesLess (x :: a) (y :: b)=true↔x<y∨x=y∧Op.bytesLess a b=true:=by simp [Zbm]
theorem Jf:∀ a:List UInt8,Op.bytesLess a a=false
 | []=>rfl
 | x :: a=>by
  cases h:Op.bytesLess (x :: a) (x :: a) with
  | false=>rfl
  | true=>
   rcases bl_cons_iff.1 h with h | ⟨_,h⟩
   ·exact absurd h (Zge x)
   ·rw [Jf a] at h; cases h
theorem Bc:∀ {a b c:List UInt8},Op.bytesLess a b=true→Op.bytesLess b c=true→Op.bytesLess a c=true
 | _,[],_,h,_=>by rw [Za7] at h; cases h
 | _,_ :: _,[],_,h=>by rw [Za7] at h; cases h
 | [],_ :: _,_ :: _,_,_=>rfl
 | x :: a,y :: b,z :: c,h,k=>by
  rw [bl_cons_iff] at h k ⊢
  rcases h with h | ⟨rfl,h⟩ <;> rcases k with k | ⟨rfl,k⟩
  ·exact .inl (Zmo h k)
  ·exact .inl h
  ·exact .inl k
  ·exact .inr ⟨rfl,Bc h k⟩
theorem Zc4:∀(a b:List UInt8),Op.bytesLess a b=true∨a=b∨Op.bytesLess b a=true
 | [],[]=>.inr (.inl rfl)
 | [],_ :: _=>.inl rfl
 | _ :: _,[]=>.inr (.inr rfl)
 | x :: a,y :: b=>by
  rw [bl_cons_iff,bl_cons_iff]
  rcases Zk9 x y with h | rfl | h
  ·exact .inl (.inl h)
  ·rcases Zc4 a b with h | rfl | h
   ·exact .inl (.inr ⟨rfl,h⟩)
   ·exact .inr (.inl rfl)
   ·exact .inr (.inr (.inr ⟨rfl,h⟩))
  ·exact .inr (.inr (.inl h))
theorem Gc {a b:List UInt8} (h:Op.bytesLess a b=true):Op.bytesLess b a=false:=by
 cases k:Op.bytesLess b a with
 | false=>rfl
 | true=>have:=Bc h k; rw [Jf] at this; cases this
theorem Bd {a b:List UInt8} (h:Op.bytesLess a b=true):a≠b:=fun e=>by subst e; rw [Jf] at h; cases h
theorem Zi0 {a b:List UInt8} (h:Op.bytesLess a b=false):a=b∨Op.bytesLess b a=true:=(Zc4 a b).resolve_left (by simp [h])
theorem Zng {a b:List UInt8}:Xi a b<0↔Op.bytesLess a b=true:=by
 unfold Xi; split
 ·simp_all
 ·split <;> simp_all
theorem Zn0 {a b:List UInt8}:0<Xi a b↔Op.bytesLess b a=true:=by
 unfold Xi; split
 ·rename_i h; simp [Gc h]
 ·split
  ·rename_i h; subst h; simp [Jf]
  ·rename_i h1 h2; rcases Zc4 a b with h | h | h <;> simp_all
theorem Zn8 {a b:List UInt8}:Xi a b≤0↔Op.bytesLess b a=false:=by
 have:=@Zn0 a b
 constructor
 ·intro h
  cases k:Op.bytesLess b a with
  | false=>rfl
  | true=>have:=this.2 k; omega
 ·intro h
  rw [h] at this
  simp at this
  exact this
theorem Zkg (x y:UInt8) (a b:List UInt8):Xi (x :: a) (y :: b)=if x<y then -1 else if y<x then 1 else Xi a b:=by
 rcases Zk9 x y with h | rfl | h
 ·simp [Xi,Zbm,h]
 ·simp [Xi,Zbm,Zge]
 ·have h':=Zmt h
  have h2:¬ x=y:=fun e=>by subst e; exact Zge _ h
  simp [Xi,Zbm,h,h',h2]
theorem Zff (b:List UInt8):Xi [] b=if b.length=0 then 0 else -1:=by cases b <;> simp [Xi,Op.bytesLess]
theorem Zdg (a:List UInt8):Xi a []=if a.length=0 then 0 else 1:=by cases a <;> simp [Xi,Op.bytesLess]
theorem Ze1 (a b:List UInt8):Xi a b=-1∧Op.bytesLess a b=true∨Xi a b=0∧a=b∨Xi a b=1∧Op.bytesLess b a=true:=by
 rcases Zc4 a b with h | rfl | h
 ·exact .inl ⟨by simp [Xi,h],h⟩
 ·exact .inr (.inl ⟨by simp [Xi,Jf],rfl⟩)
 ·have e:¬ a=b:=fun e=>Bd h e.symm
  exact .inr (.inr ⟨by simp [Xi,Gc h,e],h⟩)

def shd:List UInt8→List UInt8→Nat
 | x :: a,y :: b=>if x=y then shd a b+1 else 0
 | _,_=>0
theorem Zz {x:Int} (h0:-9223372036854775808≤x) (h1:x≤9223372036854775807):w64 x=x:=by
 simp only [w64,IntKind.wrap,IntKind.signed,IntKind.bits]
 simp
 omega
theorem Ya {i:Nat} (h:i<4611686018427387904):w64 ((i:Int)+1)=((i+1:Nat):Int):=by rw [Zz (by omega) (by omega)]; omega
theorem Bl {i:Nat} (h:0<i) (h':i<4611686018427387904):w64 ((i:Int) - 1)=((i - 1:Nat):Int):=by rw [Zz (by omega) (by omega)]; omega
theorem Yk {α:Type} [Inhabited α] {l:List α} {i:Nat} (h:i<l.length):l.drop i=l.getD i default :: l.drop (i+1):=by
 rw [List.drop_eq_getElem_cons h]; simp [List.getD_eq_getElem?_getD,h]
theorem Zen {l:List UInt8} {i:Nat} (h:i<l.length):l.drop i=l.getD i 0 :: l.drop (i+1):=by
 rw [List.drop_eq_getElem_cons h]; simp [List.getD_eq_getElem?_getD,h]
theorem Z9 {α:Type} [Inhabited α] (l:List α) (i:Nat):gt l (i:Int)=l.getD i default:=by simp [gt]
theorem Zo6 (l m:List UInt8) (i j:Int):gtb l i<gtb m j↔l.getD i.toNat 0<m.getD j.toNat 0:=by
 unfold gtb; rw [UInt8.lt_iff_toNat_lt]; omega
theorem Xv {α:Type} {l:List α} {i:Nat} {d:α} (h:i<l.length):l.getD i d∈l:=by
 rw [List.getD_eq_getElem?_getD,List.getElem?_eq_getElem h]
 exact List.getElem_mem h
def Vs:List (List UInt8)→Bool
 | a :: b :: r=>Op.bytesLess a b && Vs (b :: r)
 | _=>true
end Go.SK
