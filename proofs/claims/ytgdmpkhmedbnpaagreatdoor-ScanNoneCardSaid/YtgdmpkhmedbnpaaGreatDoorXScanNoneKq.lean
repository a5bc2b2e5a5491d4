/- Part of the library of this claim: how code is stepped through. -/
import Derived.Test.YtgdmpkhmedbnpaaGreatDoorXScanNoneKp
set_option linter.unusedVariables false
set_option linter.unusedSimpArgs false
namespace Go.SK
open Go

def Ev {α:Type} (F:Nat→Option α) (r:α):Prop:=∃ k0,∀ k,k0≤k→F k=some r
section
variable {α β γ δ:Type} {F:Nat→Option α} {G:Nat→Option β} {G2:Nat→Option γ} {G3:Nat→Option δ} {r:α} {s:β} {t:γ} {u:δ}
theorem Ev.of {K:Nat} (h:∀ k,K<k→F k=some r):Ev F r:=⟨K+1,fun k hk=>h k (by omega)⟩
theorem Ev.all (h:∀ k,F k=some r):Ev F r:=⟨0,fun k _=>h k⟩
theorem Ev.ok (h:Ev F r):∃ k,F k=some r:=by obtain ⟨k,h⟩:=h; exact ⟨k,h k (Nat.le_refl _)⟩
theorem Ev.step (h:Ev G s) (hs:∀ k,G k=some s→F (k+1)=some r):Ev F r:=by
 obtain ⟨k0,h⟩:=h
 refine ⟨k0+1,fun k hk=>?_⟩
 obtain ⟨j,rfl⟩:∃ j,k=j+1:=⟨k - 1,by omega⟩
 exact hs j (h j (by omega))
theorem Ev.step2 (h:Ev G s) (h2:Ev G2 t) (hs:∀ k,G k=some s→G2 k=some t→F (k+1)=some r):Ev F r:=by
 obtain ⟨k0,h⟩:=h
 obtain ⟨k1,h2⟩:=h2
 refine ⟨k0+k1+1,fun k hk=>?_⟩
 obtain ⟨j,rfl⟩:∃ j,k=j+1:=⟨k - 1,by omega⟩
 exact hs j (h j (by omega)) (h2 j (by omega))
theorem Ev.last (hs:∀ k,F (k+1)=some r):Ev F r:=by
 refine ⟨1,fun k hk=>?_⟩
 obtain ⟨j,rfl⟩:∃ j,k=j+1:=⟨k - 1,by omega⟩
 exact hs j
theorem Ev.next (h:Ev G s) (hs:∀ k,G k=some s→F k=some r):Ev F r:=by
 obtain ⟨k0,h⟩:=h
 exact ⟨k0,fun k hk=>hs k (h k hk)⟩
theorem Ev.next2 (h:Ev G s) (h2:Ev G2 t) (hs:∀ k,G k=some s→G2 k=some t→F k=some r):Ev F r:=by
 obtain ⟨k0,h⟩:=h
 obtain ⟨k1,h2⟩:=h2
 exact ⟨k0+k1,fun k hk=>hs k (h k (by omega)) (h2 k (by omega))⟩
theorem Ev.bind {H:β→Nat→Option α} (h:Ev G s) (h2:Ev (H s) r):Ev (fun k=>(G k).bind fun x=>H x k) r:=
 Ev.next2 h h2 fun k e1 e2=>by rw [e1,Option.bind_some,e2]
end

section
variable {α:Type} [Inhabited α]
end
section
variable {α:Type}
theorem Jn {l:List α} {i:Nat} {d:α} (h:i<l.length):l.getD i d=l[i]:=by
 rw [List.getD_eq_getElem?_getD,List.getElem?_eq_getElem h]
 rfl
end

section
variable {α:Type} (key:α→List UInt8)
def U7:List α→Bool
 | a :: b :: r=>Op.bytesLess (key a) (key b) && U7 (b :: r)
 | _=>true
def LtK (a b:α):Prop:=Op.bytesLess (key a) (key b)=true
abbrev RiseK (l:List α):Prop:=l.Pairwise (LtK key)
theorem RiseK.get [Inhabited α] {l:List α} (h:RiseK key l) {i j:Nat} (hij:i<j) (hj:j<l.length) (d:α):Op.bytesLess (key (l.getD i d)) (key (l.getD j d))=true:=by
 have:=List.pairwise_iff_getElem.1 h i j (by omega) hj hij
 rw [Jn (by omega),Jn hj]
 exact this
end
end Go.SK
