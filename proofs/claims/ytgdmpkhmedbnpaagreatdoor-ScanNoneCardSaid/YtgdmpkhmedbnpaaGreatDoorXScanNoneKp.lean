/- Part of the library of this claim: how code is stepped through. -/
import Derived.Test.YtgdmpkhmedbnpaaGreatDoorXScanNoneKo
set_option linter.unusedVariables false
set_option linter.unusedSimpArgs false
namespace Go.SK
open Go

theorem Zaa (a:List UInt8):Op.bytesLess a []=false:=by cases a <;> rfl
theorem Zaj (x y:UInt8) (a b:List UInt8):Op.bytesLess (x :: a) (y :: b)=(decide (x<y) || (x == y && Op.bytesLess a b)):=rfl
theorem Zid (x y:UInt8):x<y∨x=y∨y<x:=by
 rcases Nat.lt_trichotomy x.toNat y.toNat with h | h | h
 ·exact .inl (UInt8.lt_iff_toNat_lt.2 h)
 ·exact .inr (.inl (UInt8.toNat_inj.1 h))
 ·exact .inr (.inr (UInt8.lt_iff_toNat_lt.2 h))
theorem Zfq (x:UInt8):¬ x<x:=fun h=>Nat.lt_irrefl _ (UInt8.lt_iff_toNat_lt.1 h)
theorem Zjc {x y:UInt8} (h:x<y):¬ y<x:=fun k=>Nat.lt_asymm (UInt8.lt_iff_toNat_lt.1 h) (UInt8.lt_iff_toNat_lt.1 k)
theorem Zj0 {x y z:UInt8} (h:x<y) (k:y<z):x<z:=UInt8.lt_iff_toNat_lt.2 (Nat.lt_trans (UInt8.lt_iff_toNat_lt.1 h) (UInt8.lt_iff_toNat_lt.1 k))
theorem bl_cons_iff {x y:UInt8} {a b:List UInt8}:Op.bytesLess (x :: a) (y :: b)=true↔x<y∨x=y∧Op.bytesLess a b=true:=by simp [Zaj]
theorem Vn:∀ a:List UInt8,Op.bytesLess a a=false
 | []=>rfl
 | x :: a=>by
  cases h:Op.bytesLess (x :: a) (x :: a) with
  | false=>rfl
  | true=>
   rcases bl_cons_iff.1 h with h | ⟨_,h⟩
   ·exact absurd h (Zfq x)
   ·rw [Vn a] at h; cases h
theorem Gw:∀ {a b c:List UInt8},Op.bytesLess a b=true→Op.bytesLess b c=true→Op.bytesLess a c=true
 | _,[],_,h,_=>by rw [Zaa] at h; cases h
 | _,_ :: _,[],_,h=>by rw [Zaa] at h; cases h
 | [],_ :: _,_ :: _,_,_=>rfl
 | x :: a,y :: b,z :: c,h,k=>by
  rw [bl_cons_iff] at h k ⊢
  rcases h with h | ⟨rfl,h⟩ <;> rcases k with k | ⟨rfl,k⟩
  ·exact .inl (Zj0 h k)
  ·exact .inl h
  ·exact .inl k
  ·exact .inr ⟨rfl,Gw h k⟩
theorem B8:∀(a b:List UInt8),Op.bytesLess a b=true∨a=b∨Op.bytesLess b a=true
 | [],[]=>.inr (.inl rfl)
 | [],_ :: _=>.inl rfl
 | _ :: _,[]=>.inr (.inr rfl)
 | x :: a,y :: b=>by
  rw [bl_cons_iff,bl_cons_iff]
  rcases Zid x y with h | rfl | h
  ·exact .inl (.inl h)
  ·rcases B8 a b with h | rfl | h
   ·exact .inl (.inr ⟨rfl,h⟩)
   ·exact .inr (.inl rfl)
   ·exact .inr (.inr (.inr ⟨rfl,h⟩))
  ·exact .inr (.inr (.inl h))
theorem Vr {a b:List UInt8} (h:Op.bytesLess a b=true):Op.bytesLess b a=false:=by
 cases k:Op.bytesLess b a with
 | false=>rfl
 | true=>have:=Gw h k; rw [Vn] at this; cases this
theorem Jw {a b:List UInt8} (h:Op.bytesLess a b=true):a≠b:=fun e=>by subst e; rw [Vn] at h; cases h
theorem Zg3 {a b:List UInt8} (h:Op.bytesLess a b=false):a=b∨Op.bytesLess b a=true:=(B8 a b).resolve_left (by simp [h])
theorem Zhx (a b:List UInt8):(Op.bytesLess a b || decide (a=b))=!Op.bytesLess b a:=by
 rcases B8 a b with h | rfl | h
 ·simp [h,Vr h]
 ·simp [Vn]
 ·have:=Jw h
  simp only [Vr h,h,Bool.false_or,Bool.not_true,decide_eq_false_iff_not]; exact fun e=>this e.symm
theorem Zky {a b:List UInt8}:Xm a b<0↔Op.bytesLess a b=true:=by
 unfold Xm; split
 ·simp_all
 ·split <;> simp_all
theorem Zln {a b:List UInt8}:0<Xm a b↔Op.bytesLess b a=true:=by
 unfold Xm; split
 ·rename_i h; simp [Vr h]
 ·split
  ·rename_i h; subst h; simp [Vn]
  ·rename_i h1 h2; rcases B8 a b with h | h | h <;> simp_all
theorem Zlk {a b:List UInt8}:Xm a b≤0↔Op.bytesLess b a=false:=by
 have:=@Zln a b
 constructor
 ·intro h
  cases k:Op.bytesLess b a with
  | false=>rfl
  | true=>have:=this.2 k; omega
 ·intro h
  rw [h] at this
  simp at this
  exact this
theorem Zib (x y:UInt8) (a b:List UInt8):Xm (x :: a) (y :: b)=if x<y then -1 else if y<x then 1 else Xm a b:=by
 rcases Zid x y with h | rfl | h
 ·simp [Xm,Zaj,h]
 ·simp [Xm,Zaj,Zfq]
 ·have h':=Zjc h
  have h2:¬ x=y:=fun e=>by subst e; exact Zfq _ h
  simp [Xm,Zaj,h,h',h2]
theorem Zdy (b:List UInt8):Xm [] b=if b.length=0 then 0 else -1:=by cases b <;> simp [Xm,Op.bytesLess]
theorem Zcn (a:List UInt8):Xm a []=if a.length=0 then 0 else 1:=by cases a <;> simp [Xm,Op.bytesLess]
theorem Zdw (a b:List UInt8):Xm a b=-1∧Op.bytesLess a b=true∨Xm a b=0∧a=b∨Xm a b=1∧Op.bytesLess b a=true:=by
 rcases B8 a b with h | rfl | h
 ·exact .inl ⟨by simp [Xm,h],h⟩
 ·exact .inr (.inl ⟨by simp [Xm,Vn],rfl⟩)
 ·have e:¬ a=b:=fun e=>Jw h e.symm
  exact .inr (.inr ⟨by simp [Xm,Vr h,e],h⟩)

def shd:List UInt8→List UInt8→Nat
 | x :: a,y :: b=>if x=y then shd a b+1 else 0
 | _,_=>0
theorem Z3 {x:Int} (h0:-9223372036854775808≤x) (h1:x≤9223372036854775807):w64 x=x:=by
 simp only [w64,IntKind.wrap,IntKind.signed,IntKind.bits]
 simp
 omega
theorem Y8 {i:Nat} (h:i<4611686018427387904):w64 ((i:Int)+1)=((i+1:Nat):Int):=by rw [Z3 (by omega) (by omega)]; omega
theorem Zjq {i:Nat} (h:0<i) (h':i<4611686018427387904):w64 ((i:Int) - 1)=((i - 1:Nat):Int):=by rw [Z3 (by omega) (by omega)]; omega
theorem Xf {α:Type} [Inhabited α] {l:List α} {i:Nat} (h:i<l.length):l.drop i=l.getD i default :: l.drop (i+1):=by
 rw [List.drop_eq_getElem_cons h]; simp [List.getD_eq_getElem?_getD,h]
theorem Zde {l:List UInt8} {i:Nat} (h:i<l.length):l.drop i=l.getD i 0 :: l.drop (i+1):=by
 rw [List.drop_eq_getElem_cons h]; simp [List.getD_eq_getElem?_getD,h]
theorem Yx {α:Type} [Inhabited α] (l:List α) (i:Nat):gt l (i:Int)=l.getD i default:=by simp [gt]
theorem Zl3 (l m:List UInt8) (i j:Int):gtb l i<gtb m j↔l.getD i.toNat 0<m.getD j.toNat 0:=by
 unfold gtb; rw [UInt8.lt_iff_toNat_lt]; omega
theorem Jd {α:Type} {l:List α} {i:Nat} {d:α} (h:i<l.length):l.getD i d∈l:=by
 rw [List.getD_eq_getElem?_getD,List.getElem?_eq_getElem h]
 exact List.getElem_mem h
def J3:List (List UInt8)→Bool
 | a :: b :: r=>Op.bytesLess a b && J3 (b :: r)
 | _=>true
end Go.SK
