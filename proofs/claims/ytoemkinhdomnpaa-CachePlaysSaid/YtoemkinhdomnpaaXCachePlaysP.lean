/- The plain law behind CachePlays: what its code computes is true for all frames, bytes and calls. -/
import Derived.Test.YtoemkinhdomnpaaXCachePlaysF8
import Derived.KernelRfl
set_option linter.unusedVariables false
set_option linter.unusedSimpArgs false
namespace Go.SK.T
open Go Go.SK
abbrev Lnk := Int × Int × Bool
abbrev Chn := List Lnk × Int
def ah (l : List Lnk) (k : Nat) : Int := (l.getD k default).1
def bh (l : List Lnk) (k : Nat) : Int := (l.getD k default).2.1
def inn (l : List Lnk) (k : Nat) : Bool := (l.getD k default).2.2
theorem Y0 {α : Type} {l : List α} {j k : Nat} {v d : α} (hj : j < l.length) : (l.set j v).getD k d = if j = k then v else l.getD k d := by
 rw [List.getD_eq_getElem?_getD, List.getD_eq_getElem?_getD, List.getElem?_set]
 split
 ·rename_i h
  subst h
  simp [hj]
 ·rfl
def Lk (l : List Lnk) (a b : Nat) : Prop := bh l a = (b : Int) ∧ ah l b = (a : Int)
def Xm (l : List Lnk) : Nat → List Nat → Prop
 | _, [] => True
 | a, x :: L => Lk l a x ∧ Xm l x L
def Wx : Nat → List Nat → Nat
 | a, [] => a
 | _, x :: L => Wx x L
theorem Uy {l : List Lnk} : ∀ {a : Nat} {X Y : List Nat}, Xm l a (X ++ Y) ↔ Xm l a X ∧ Xm l (Wx a X) Y
 | a, [], Y => by simp [Xm, Wx]
 | a, x :: X, Y => by
  rw [List.cons_append, Xm, Xm, Wx, Uy, and_assoc]
theorem Vn : ∀ {a : Nat} {L : List Nat}, Wx a L ∈ a :: L
 | a, [] => by simp [Wx]
 | a, x :: L => by
  rw [Wx]
  have := Vn (a := x) (L := L)
  simp only [List.mem_cons] at this ⊢
  rcases this with h | h
  ·exact .inr (.inl h)
  ·exact .inr (.inr h)
theorem Uj {l l' : List Lnk} : ∀ {a : Nat} {L : List Nat}, (∀ x ∈ (a :: L).dropLast, bh l' x = bh l x) → (∀ y ∈ L, ah l' y = ah l y) → Xm l a L → Xm l' a L
 | a, [], _, _, _ => trivial
 | a, x :: L, h1, h2, h => by
  rw [Xm] at h ⊢
  refine ⟨⟨?_, ?_⟩, Uj (fun y hy => h1 y ?_) (fun y hy => h2 y (by simp [hy])) h.2⟩
  ·rw [h1 a (by simp)]; exact h.1.1
  ·rw [h2 x (by simp)]; exact h.1.2
  ·rw [List.dropLast_cons_of_ne_nil (by simp)]
   exact List.mem_cons_of_mem _ hy
structure ChI (n : Nat) (c : Chn) (L : List Nat) : Prop where
 len : c.1.length = n + 1
 cnt : c.2 = (L.length : Int)
 nd : L.Nodup
 lt : ∀ x ∈ L, x < n
 inn : ∀ x, x ≤ n → (inn c.1 x = true ↔ x ∈ L)
 ring : Xm c.1 n (L ++ [n])
theorem Zcg : ∀ {n : Nat} {L : List Nat}, L.Nodup → (∀ x ∈ L, x < n) → L.length ≤ n
 | 0, [], _, _ => Nat.le_refl _
 | 0, x :: L, _, h => by have := h x (by simp); omega
 | n + 1, L, hd, h => by
  have := Zcg (n := n) (hd.erase n) fun x hx => by
   have h1 := h x (List.mem_of_mem_erase hx)
   have h2 := (hd.mem_erase_iff.1 hx).1
   omega
  rw [List.length_erase] at this
  split at this <;> omega
theorem ChI.short {n : Nat} {c : Chn} {L : List Nat} (h : ChI n c L) : L.length ≤ n := Zcg h.nd h.lt
theorem Uq : ∀ {a : Nat} {L : List Nat}, (a :: L).Nodup → ∀ x ∈ (a :: L).dropLast, x ≠ Wx a L
 | a, [], _, x, hx => by simp at hx
 | a, y :: L, hd, x, hx => by
  rw [List.dropLast_cons_of_ne_nil (by simp), List.mem_cons] at hx
  rw [Wx]
  rcases hx with rfl | hx
  ·exact fun e => (List.nodup_cons.1 hd).1 (e ▸ Vn)
  ·exact Uq (List.nodup_cons.1 hd).2 x hx
theorem gtl (l : List Lnk) (k : Nat) : gt l (k : Int) = (ah l k, bh l k, SK.T.inn l k) := by
 rw [Yh]; rfl
section
variable {n : Nat} {c : Chn} {L : List Nat}
theorem ChI.split (h : ChI n c L) {i : Nat} (hi : i ∈ L) : ∃ (P S : List Nat) (s : Nat) (T : List Nat), L = P ++ i :: S ∧ S ++ [n] = s :: T ∧ Xm c.1 n P ∧ Lk c.1 (Wx n P) i ∧ Lk c.1 i s ∧ Xm c.1 s T ∧ Wx n P ≤ n ∧ s ≤ n := by
 obtain ⟨P, S, rfl⟩ := List.append_of_mem hi
 obtain ⟨s, T, e⟩ : ∃ s T, S ++ [n] = s :: T := by
  cases S with
  | nil => exact ⟨n, [], rfl⟩
  | cons x S => exact ⟨x, S ++ [n], rfl⟩
 have hr := h.ring
 rw [List.append_assoc, List.cons_append, Uy, Xm, e, Xm] at hr
 refine ⟨P, S, s, T, rfl, e, hr.1, hr.2.1, hr.2.2.1, hr.2.2.2, ?_, ?_⟩
 ·have := Vn (a := n) (L := P)
  rcases List.mem_cons.1 this with h1 | h1
  ·omega
  ·have := h.lt _ (List.mem_append_left _ h1); omega
 ·have : s ∈ S ++ [n] := by rw [e]; simp
  rcases List.mem_append.1 this with h1 | h1
  ·have := h.lt s (by simp [h1]); omega
  ·simp at h1; omega
theorem Zip (h : ChI n c L) {i : Nat} (hi : i ∈ L) (hn : n ≤ 1000) : ∃ c', Q22.f c (i : Int) = some c' ∧ ChI n c' (L.erase i) := by
 obtain ⟨P, S, s, T, e1, e2, r1, r2, r3, r4, hp, hs⟩ := h.split hi
 have hin := h.lt i hi
 have hlen := h.len
 generalize hpe : Wx n P = p at *
 have ei : SK.T.inn c.1 i = true := (h.inn i (by omega)).2 hi
 have nd : (P ++ i :: S).Nodup := e1 ▸ h.nd
 have nd2 := List.nodup_append.1 nd
 have ndS := (List.nodup_cons.1 nd2.2.1)
 have hnP : n ∉ P := fun hx => by have := h.lt n (by rw [e1]; simp [hx]); omega
 have hnS : n ∉ S := fun hx => by have := h.lt n (by rw [e1]; simp [hx]); omega
 have hiP : i ∉ P := fun hx => nd2.2.2 i hx i (by simp) rfl
 have hpi : p ≠ i := fun e => by
  have : p ∈ n :: P := hpe ▸ Vn
  rcases List.mem_cons.1 this with h1 | h1
  ·omega
  ·exact hiP (e ▸ h1)
 have hsi : s ≠ i := fun e => by
  have : s ∈ S ++ [n] := by rw [e2]; simp
  rcases List.mem_append.1 this with h1 | h1
  ·exact ndS.1 (e ▸ h1)
  ·simp at h1; omega
 have a1 : (gt c.1 (i : Int)).1 = (p : Int) := by rw [gtl]; exact r2.2
 have a2 : (gt c.1 (i : Int)).2.1 = (s : Int) := by rw [gtl]; exact r3.1
 have a3 : (gt c.1 (i : Int)).2.2 = true := by rw [gtl]; exact ei
 unfold Q22.f
 rw [if_pos (by omega), a3, if_neg (by simp), a1, a2, if_pos (by omega), if_pos (by rw [List.length_set]; omega), if_pos (by rw [List.length_set, List.length_set]; omega)]
 simp only [Int.toNat_natCast, gtl]
 generalize hl1 : c.1.set p (ah c.1 p, (s : Int), SK.T.inn c.1 p) = l1
 have hl1l : l1.length = n + 1 := by rw [← hl1, List.length_set, hlen]
 generalize hl2 : l1.set s ((p : Int), bh l1 s, SK.T.inn l1 s) = l2
 have hl2l : l2.length = n + 1 := by rw [← hl2, List.length_set, hl1l]
 have g1 : ∀ k, l1.getD k default = if p = k then (ah c.1 p, (s : Int), SK.T.inn c.1 p) else c.1.getD k default := fun k => by rw [← hl1]; exact Y0 (by omega)
 have g2 : ∀ k, l2.getD k default = if s = k then ((p : Int), bh l1 s, SK.T.inn l1 s) else l1.getD k default := fun k => by rw [← hl2]; exact Y0 (by omega)
 have g3 : ∀ k, (l2.set i (0, 0, false)).getD k default = if i = k then (0, 0, false) else l2.getD k default := fun k => Y0 (by omega)
 have b1 : ∀ k, bh l1 k = if p = k then (s : Int) else bh c.1 k := fun k => by unfold bh; rw [g1 k]; split <;> rfl
 have n1 : ∀ k, SK.T.inn l1 k = SK.T.inn c.1 k := fun k => by
  show (l1.getD k default).2.2 = _
  rw [g1 k]; split
  ·rename_i e; rw [← e]
  ·rfl
 have c1 : ∀ k, ah l1 k = ah c.1 k := fun k => by
  show (l1.getD k default).1 = _
  rw [g1 k]; split
  ·rename_i e; rw [← e]
  ·rfl
 have b3 : ∀ k, k ≠ i → bh (l2.set i (0, 0, false)) k = if p = k then (s : Int) else bh c.1 k := fun k hk => by
  show ((l2.set i (0, 0, false)).getD k default).2.1 = _
  rw [g3 k, if_neg (Ne.symm hk), g2 k]
  split
  ·rename_i e; rw [← e]; exact b1 s
  ·exact b1 k
 have c3 : ∀ k, k ≠ i → ah (l2.set i (0, 0, false)) k = if s = k then (p : Int) else ah c.1 k := fun k hk => by
  show ((l2.set i (0, 0, false)).getD k default).1 = _
  rw [g3 k, if_neg (Ne.symm hk), g2 k]
  split
  ·rfl
  ·exact c1 k
 have n3 : ∀ k, SK.T.inn (l2.set i (0, 0, false)) k = if i = k then false else SK.T.inn c.1 k := fun k => by
  show ((l2.set i (0, 0, false)).getD k default).2.2 = _
  rw [g3 k]
  split
  ·rfl
  ·rw [g2 k]
   split
   ·rename_i e; rw [← e]; exact n1 s
   ·exact n1 k
 have el : L.erase i = P ++ S := by
  rw [e1, List.erase_append_right _ hiP, List.erase_cons_head]
 refine ⟨_, rfl, ⟨by rw [List.length_set, hl2l], ?_, ?_, ?_, ?_, ?_⟩⟩
 ·rw [el, h.cnt, e1]
  have := h.short
  rw [e1] at this
  simp only [List.length_append, List.length_cons] at this ⊢
  rw [Yf (by omega) (by omega)]; omega
 ·exact h.nd.erase i
 ·exact fun x hx => h.lt x (List.mem_of_mem_erase hx)
 ·intro x hx
  rw [n3 x, h.nd.mem_erase_iff]
  split
  ·rename_i e; simp [e]
  ·rename_i e
   rw [h.inn x hx]
   exact ⟨fun g => ⟨fun e' => e e'.symm, g⟩, fun g => g.2⟩
 ·rw [el, List.append_assoc, e2, Uy, hpe, Xm]
  have hTs : ∀ y ∈ T, y ≠ s ∧ y ≠ i := fun y hy => by
   have hnd : (S ++ [n]).Nodup := List.nodup_append.2 ⟨ndS.2, by simp, fun a ha b hb e => by simp at hb; exact hnS (hb ▸ e ▸ ha)⟩
   rw [e2] at hnd
   refine ⟨fun e => (List.nodup_cons.1 hnd).1 (e ▸ hy), fun e => ?_⟩
   have : y ∈ S ++ [n] := by rw [e2]; simp [hy]
   rcases List.mem_append.1 this with h1 | h1
   ·exact ndS.1 (e ▸ h1)
   ·simp at h1; omega
  have hsT : ∀ x ∈ (s :: T).dropLast, x ≠ p ∧ x ≠ i := fun x hx => by
   rw [← e2, List.dropLast_concat] at hx
   refine ⟨fun e => ?_, fun e => ndS.1 (e ▸ hx)⟩
   have : p ∈ n :: P := hpe ▸ Vn
   rcases List.mem_cons.1 this with h1 | h1
   ·exact hnS (h1 ▸ e ▸ hx)
   ·exact nd2.2.2 p h1 x (by simp [hx]) e.symm
  have hPp : ∀ x ∈ (n :: P).dropLast, x ≠ p ∧ x ≠ i := fun x hx => by
   have hnd : (n :: P).Nodup := List.nodup_cons.2 ⟨hnP, nd2.1⟩
   refine ⟨hpe ▸ Uq hnd x hx, fun e => ?_⟩
   have := List.dropLast_subset _ hx
   rcases List.mem_cons.1 this with h1 | h1
   ·omega
   ·exact hiP (e ▸ h1)
  have hPs : ∀ y ∈ P, y ≠ s ∧ y ≠ i := fun y hy => by
   refine ⟨fun e => ?_, fun e => hiP (e ▸ hy)⟩
   have : s ∈ S ++ [n] := by rw [e2]; simp
   rcases List.mem_append.1 this with h1 | h1
   ·exact nd2.2.2 y hy s (by simp [h1]) e
   ·simp at h1; exact hnP (h1 ▸ e ▸ hy)
  refine ⟨Uj (fun x hx => by rw [b3 x (hPp x hx).2, if_neg (Ne.symm (hPp x hx).1)]) (fun y hy => by rw [c3 y (hPs y hy).2, if_neg (Ne.symm (hPs y hy).1)]) r1, ⟨by rw [b3 p hpi, if_pos rfl], by rw [c3 s hsi, if_pos rfl]⟩,
   Uj (fun x hx => by rw [b3 x (hsT x hx).2, if_neg (Ne.symm (hsT x hx).1)]) (fun y hy => by rw [c3 y (hTs y hy).2, if_neg (Ne.symm (hTs y hy).1)]) r4⟩
theorem Zep (h : ChI n c L) {i : Nat} (hi : i < n) (hn : n ≤ 1000) : Q25.f c (i : Int) = some 0 := by
 have hlen := h.len
 unfold Q25.f Q24.f
 try dsimp only
 rw [if_neg (by simp only [decide_eq_true_eq]; omega), if_neg (by simp only [decide_eq_true_eq]; omega), Option.bind_some, Yf (by omega) (by omega), if_neg (by simp only [decide_eq_true_eq]; omega)]
theorem U5 (h : ChI n c L) {i : Nat} (hi : i < n) (hn : n ≤ 1000) : ∃ r c', Q17.f c (i : Int) = some (r, c') ∧ ChI n c' (L.erase i) := by
 have hlen := h.len
 unfold Q17.f
 rw [show Q25.f (c.1, c.2) (i : Int) = _ from Zep h hi hn, Option.bind_some, if_neg (by simp), if_pos (by omega), gtl]
 by_cases hm : i ∈ L
 ·rw [if_neg (by simp [(h.inn i (by omega)).2 hm])]
  obtain ⟨c', e, h'⟩ := Zip h hm hn
  rw [show Q22.f (c.1, c.2) (i : Int) = _ from e, Option.bind_some]
  exact ⟨_, _, rfl, h'⟩
 ·have : SK.T.inn c.1 i = false := by
   cases q : SK.T.inn c.1 i with
   | false => rfl
   | true => exact absurd ((h.inn i (by omega)).1 q) hm
  rw [if_pos (by simp [this])]
  exact ⟨_, _, rfl, by rw [List.erase_of_not_mem hm]; exact h⟩
theorem Zit (h : ChI n c L) {i : Nat} (hi : i < n) (hm : i ∉ L) (hn : n ≤ 1000) : ∃ c', Q23.f c (i : Int) (n : Int) = some c' ∧ ChI n c' (i :: L) := by
 have hlen := h.len
 have hsh := h.short
 have hnL : n ∉ L := fun hx => by have := h.lt n hx; omega
 obtain ⟨s, T, e⟩ : ∃ s T, L ++ [n] = s :: T := by
  cases L with
  | nil => exact ⟨n, [], rfl⟩
  | cons x S => exact ⟨x, S ++ [n], rfl⟩
 have hr := h.ring
 rw [e, Xm] at hr
 have hs : s ≤ n := by
  have : s ∈ L ++ [n] := by rw [e]; simp
  rcases List.mem_append.1 this with h1 | h1
  ·have := h.lt s h1; omega
  ·simp at h1; omega
 have hsi : s ≠ i := fun q => by
  have : s ∈ L ++ [n] := by rw [e]; simp
  rcases List.mem_append.1 this with h1 | h1
  ·exact hm (q ▸ h1)
  ·simp at h1; omega
 have a2 : (gt c.1 (n : Int)).2.1 = (s : Int) := by rw [gtl]; exact hr.1.1
 unfold Q23.f
 rw [if_pos (by omega), if_pos (by omega), if_pos (by rw [List.length_set]; omega), a2, if_pos (by rw [List.length_set, List.length_set]; omega)]
 simp only [Int.toNat_natCast, gtl]
 generalize hl1 : c.1.set i ((n : Int), (s : Int), true) = l1
 have hl1l : l1.length = n + 1 := by rw [← hl1, List.length_set, hlen]
 generalize hl2 : l1.set n (ah l1 n, (i : Int), SK.T.inn l1 n) = l2
 have hl2l : l2.length = n + 1 := by rw [← hl2, List.length_set, hl1l]
 have g1 : ∀ k, l1.getD k default = if i = k then ((n : Int), (s : Int), true) else c.1.getD k default := fun k => by rw [← hl1]; exact Y0 (by omega)
 have g2 : ∀ k, l2.getD k default = if n = k then (ah l1 n, (i : Int), SK.T.inn l1 n) else l1.getD k default := fun k => by rw [← hl2]; exact Y0 (by omega)
 have g3 : ∀ k, (l2.set s ((i : Int), bh l2 s, SK.T.inn l2 s)).getD k default = if s = k then ((i : Int), bh l2 s, SK.T.inn l2 s) else l2.getD k default := fun k => Y0 (by omega)
 have b2 : ∀ k, bh l2 k = if n = k then (i : Int) else if i = k then (s : Int) else bh c.1 k := fun k => by
  show (l2.getD k default).2.1 = _
  rw [g2 k]
  split
  ·rfl
  ·rw [g1 k]; split <;> rfl
 have c2 : ∀ k, ah l2 k = if i = k then (n : Int) else ah c.1 k := fun k => by
  show (l2.getD k default).1 = _
  rw [g2 k]
  split
  ·rename_i q
   rw [← q, if_neg (by omega)]
   show (l1.getD n default).1 = _
   rw [g1 n, if_neg (by omega)]; rfl
  ·rw [g1 k]; split <;> rfl
 have n2 : ∀ k, SK.T.inn l2 k = if i = k then true else SK.T.inn c.1 k := fun k => by
  show (l2.getD k default).2.2 = _
  rw [g2 k]
  split
  ·rename_i q
   rw [← q, if_neg (by omega)]
   show (l1.getD n default).2.2 = _
   rw [g1 n, if_neg (by omega)]; rfl
  ·rw [g1 k]; split <;> rfl
 have b3 : ∀ k, bh (l2.set s ((i : Int), bh l2 s, SK.T.inn l2 s)) k = bh l2 k := fun k => by
  show ((l2.set s ((i : Int), bh l2 s, SK.T.inn l2 s)).getD k default).2.1 = _
  rw [g3 k]; split
  ·rename_i q; rw [← q]
  ·rfl
 have c3 : ∀ k, ah (l2.set s ((i : Int), bh l2 s, SK.T.inn l2 s)) k = if s = k then (i : Int) else ah l2 k := fun k => by
  show ((l2.set s ((i : Int), bh l2 s, SK.T.inn l2 s)).getD k default).1 = _
  rw [g3 k]; split <;> rfl
 have n3 : ∀ k, SK.T.inn (l2.set s ((i : Int), bh l2 s, SK.T.inn l2 s)) k = SK.T.inn l2 k := fun k => by
  show ((l2.set s ((i : Int), bh l2 s, SK.T.inn l2 s)).getD k default).2.2 = _
  rw [g3 k]; split
  ·rename_i q; rw [← q]
  ·rfl
 refine ⟨_, rfl, ⟨by rw [List.length_set, hl2l], ?_, List.nodup_cons.2 ⟨hm, h.nd⟩, ?_, ?_, ?_⟩⟩
 ·rw [h.cnt, List.length_cons, Yf (by omega) (by omega)]; omega
 ·intro x hx
  rcases List.mem_cons.1 hx with q | q
  ·omega
  ·exact h.lt x q
 ·intro x hx
  rw [n3 x, n2 x, List.mem_cons]
  split
  ·rename_i q; simp [q]
  ·rename_i q
   rw [h.inn x hx]
   exact ⟨fun g => .inr g, fun g => g.elim (fun e' => absurd e'.symm q) id⟩
 ·rw [List.cons_append, Xm, e, Xm]
  have hnd : (L ++ [n]).Nodup := List.nodup_append.2 ⟨h.nd, by simp, fun a ha b hb q => by simp at hb; exact hnL (hb ▸ q ▸ ha)⟩
  rw [e] at hnd
  refine ⟨⟨by rw [b3, b2, if_pos rfl], by rw [c3, if_neg hsi, c2, if_pos rfl]⟩, ⟨by rw [b3, b2, if_neg (by omega), if_pos rfl], by rw [c3, if_pos rfl]⟩, Uj (fun x hx => ?_) (fun y hy => ?_) hr.2⟩
  ·rw [← e, List.dropLast_concat] at hx
   rw [b3, b2, if_neg (fun q : n = x => hnL (q ▸ hx)), if_neg (fun q : i = x => hm (q ▸ hx))]
  ·have hyL : y ∈ L ++ [n] := by rw [e]; simp [hy]
   have hyi : i ≠ y := fun q => by
    rcases List.mem_append.1 hyL with h1 | h1
    ·exact hm (q ▸ h1)
    ·simp at h1; omega
   rw [c3, if_neg (fun q : s = y => (List.nodup_cons.1 hnd).1 (q ▸ hy)), c2, if_neg hyi]
theorem Ze0 (h : ChI n c L) {i : Nat} (hi : i < n) (hm : i ∉ L) (hn : n ≤ 1000) : ∃ c', Q18.f c (i : Int) = some (0, c') ∧ ChI n c' (i :: L) := by
 have hlen := h.len
 have hf : SK.T.inn c.1 i = false := by
  cases q : SK.T.inn c.1 i with
  | false => rfl
  | true => exact absurd ((h.inn i (by omega)).1 q) hm
 have ho : Q22.f (c.1, c.2) (i : Int) = some c := by
  unfold Q22.f
  try dsimp only
  rw [if_pos (by omega), gtl, if_pos (by simp [hf])]
 obtain ⟨c', e, h'⟩ := Zit h hi hm hn
 unfold Q18.f Q24.f
 rw [show Q25.f (c.1, c.2) (i : Int) = _ from Zep h hi hn, Option.bind_some, if_pos (by simp), ho, Option.bind_some, Option.bind_some]
 try dsimp only
 rw [show w64 ((c.1.length : Int) - 1) = (n : Int) by rw [Yf (by omega) (by omega)]; omega, show Q23.f (c.1, c.2) (i : Int) (n : Int) = _ from e, Option.bind_some]
 exact ⟨_, rfl, h'⟩
theorem Zao (h : ChI n c []) : Q19.f c = some (0, false) := by
 have := h.cnt
 unfold Q19.f Q20.f
 rw [Option.bind_some, if_pos (by simp [this])]
theorem Zgh {q : Nat} (h : ChI n c (L ++ [q])) (hn : n ≤ 1000) : Q19.f c = some ((q : Int), true) := by
 have hcnt := h.cnt
 have hlen := h.len
 unfold Q19.f Q20.f Q24.f
 have hr := h.ring
 rw [List.append_assoc, List.cons_append, List.nil_append, Uy, Xm, Xm] at hr
 have : ah c.1 n = (q : Int) := hr.2.2.1.2
 rw [Option.bind_some, if_neg (by simp [hcnt]; omega), Option.bind_some, show w64 ((c.1.length : Int) - 1) = (n : Int) by rw [Yf (by omega) (by omega)]; omega, if_pos (by omega), gtl, this]
theorem Ziy (hn : 1 ≤ n) (h64 : n ≤ 64) : ∃ c', Q26.f (n : Int) = some (some c', 0) ∧ ChI n c' [] := by
 unfold Q26.f
 have e : (w64 ((n : Int) + 1)) = ((n + 1 : Nat) : Int) := by rw [Yf (by omega) (by omega)]; omega
 rw [if_neg (by simp only [decide_eq_true_eq]; omega), if_neg (by simp only [decide_eq_true_eq]; omega), e, if_pos (by omega), Int.toNat_natCast, if_pos (by rw [List.length_replicate]; omega), Int.toNat_natCast]
 have g : ∀ k, ((List.replicate (n + 1) ((0, 0, false) : Lnk)).set n ((n : Int), (n : Int), false)).getD k default = if n = k then ((n : Int), (n : Int), false) else (List.replicate (n + 1) ((0, 0, false) : Lnk)).getD k default := fun k => Y0 (by rw [List.length_replicate]; omega)
 refine ⟨_, rfl, ⟨by simp, rfl, by simp, by simp, fun x hx => ?_, ?_⟩⟩
 ·show (_ : Lnk).2.2 = true ↔ _
  rw [g x]
  split
  ·simp
  ·rw [List.getD_eq_getElem?_getD, List.getElem?_replicate, if_pos (by omega)]; simp
 ·rw [List.nil_append, Xm, Xm]
  refine ⟨⟨?_, ?_⟩, trivial⟩
  ·show (_ : Lnk).2.1 = _
   rw [g n, if_pos rfl]
  ·show (_ : Lnk).1 = _
   rw [g n, if_pos rfl]
end
abbrev Dv := Int × List Int × (Int × Int)
def blk (img : List Int) (n i : Nat) : List Int := (img.drop (i * n)).take n
theorem Vl {N n i : Nat} (h : i < N) : i * n + n ≤ N * n := by
 have := Nat.mul_le_mul_right n h
 rw [Nat.succ_mul] at this
 exact this
theorem Uw {img : List Int} {N n i : Nat} (hl : img.length = N * n) (h : i < N) : (blk img n i).length = n := by
 have := Vl (n := n) h
 unfold blk
 rw [List.length_take, List.length_drop]
 omega
theorem Ze3 {img b : List Int} {N n i : Nat} (hl : img.length = N * n) (h : i < N) (hb : b.length = n) (j : Nat) (hj : j < N) : blk (Yu img (i * n) n b) n j = if j = i then b else blk img n j := by
 have h1 := Vl (n := n) h
 have h2 := Vl (n := n) hj
 have e0 : (img.take (i * n)).length = i * n := by rw [List.length_take]; omega
 unfold blk Yu
 rw [List.take_of_length_le (i := n) (l := b) (by omega), show i * n + min n b.length = i * n + n from by omega]
 by_cases e : j = i
 ·subst e
  rw [if_pos rfl, List.append_assoc, List.drop_append_of_le_length (by omega), List.drop_of_length_le (by omega), List.nil_append, List.take_append_of_le_length (by omega), List.take_of_length_le (by omega)]
 ·rw [if_neg e]
  by_cases lt : j < i
  ·have h3 := Nat.mul_le_mul_right n (show j + 1 ≤ i from lt)
   rw [Nat.succ_mul] at h3
   rw [List.append_assoc, List.drop_append_of_le_length (by omega), List.take_append_of_le_length (by rw [List.length_drop]; omega), List.drop_take, List.take_take]
   congr 1
   omega
  ·have h3 := Nat.mul_le_mul_right n (show i + 1 ≤ j from by omega)
   rw [Nat.succ_mul] at h3
   rw [List.drop_append, List.drop_of_length_le (by rw [List.length_append]; omega), List.nil_append, List.drop_drop]
   congr 2
   rw [List.length_append, e0]
   omega
theorem J7 {img b : List Int} {N n i : Nat} (hl : img.length = N * n) (h : i < N) : (Yu img (i * n) n b).length = N * n := by
 have := Vl (n := n) h
 rw [V7 (by omega), hl]
theorem Gd {N n : Nat} {img : List Int} {s : Int × Int} (hn : 1 ≤ n) (hl : img.length = N * n) (hb : N * n ≤ 4294967296) : Q29.f ((n : Int), img, s) = some (N : Int) := by
 have hN : N ≤ 4294967296 := Nat.le_trans (Nat.le_mul_of_pos_right N hn) hb
 have e : Int.tdiv (img.length : Int) (n : Int) = N := by
  rw [hl, Int.natCast_mul]
  exact Int.mul_tdiv_cancel _ (by omega)
 unfold Q29.f
 dsimp only
 rw [if_neg (by simp only [decide_eq_true_eq]; omega), if_pos (by omega), e, Yf (by omega) (by omega)]
theorem Zgf {n i N : Nat} (hb : N * n ≤ 4294967296) (hn : 1 ≤ n) (h : i < N) : w64 (i : Int) = i ∧ w64 ((i : Int) * (n : Int)) = ((i * n : Nat) : Int) ∧ w64 (((i * n : Nat) : Int) + (n : Int)) = ((i * n + n : Nat) : Int) := by
 have h1 := Vl (n := n) h
 have h2 : i ≤ i * n := Nat.le_mul_of_pos_right i hn
 refine ⟨Yf (by omega) (by omega), ?_, ?_⟩
 ·rw [← Int.natCast_mul]
  exact Yf (by omega) (by omega)
 ·rw [Yf (by omega) (by omega)]
  rfl
theorem Zfh {N n i : Nat} {img b : List Int} {s : Int × Int} (hn : 1 ≤ n) (hN : 1 ≤ N) (hl : img.length = N * n) (hb : N * n ≤ 4294967296) (hi : i < 4294967296) :
  Q34.f ((n : Int), img, s) (i : Int) b = some (if N ≤ i then (4, ((n : Int), img, s)) else if b.length = n then (0, ((n : Int), Yu img (i * n) n b, s.1, IntKind.u64.wrap (s.2 + 1))) else (3, ((n : Int), img, s))) := by
 have e := Gd (s := (s.1, s.2)) hn hl hb
 unfold Q34.f
 dsimp only
 rw [e, Option.bind_some, if_neg (by simp only [decide_eq_true_eq]; omega), Option.bind_some]
 by_cases h : N ≤ i
 ·rw [Yf (x := (i : Int)) (by omega) (by omega), if_pos (decide_eq_true (by omega)), if_pos h]
 ·obtain ⟨a1, a2, a3⟩ := Zgf hb hn (show i < N from by omega)
  have h1 := Vl (n := n) (show i < N from by omega)
  rw [a1, a2, a3, if_neg (by simp only [decide_eq_true_eq]; omega), if_pos (by omega), if_neg h]
  by_cases hq : b.length = n
  ·rw [if_neg (by simp only [Bool.not_eq_true', decide_eq_false_iff_not]; omega), if_pos hq]
   simp only [Int.toNat_natCast]
   rw [List.length_take, List.length_drop, show min (i * n + n - i * n) (img.length - i * n) = n from by omega]
  ·rw [if_pos (by simp only [Bool.not_eq_true', decide_eq_false_iff_not]; omega), if_neg hq]
theorem Wr {l : List Int} (h : l.length ≤ 140737488355328) : Q37.f l = some l := by
 unfold Q37.f
 rw [if_pos (by simpa using h)]
 rfl
theorem Zg8 {N n i : Nat} {img : List Int} {s : Int × Int} (hn : 1 ≤ n) (hN : 1 ≤ N) (hl : img.length = N * n) (hb : N * n ≤ 4294967296) (hi : i < 4294967296) :
  Q32.f ((n : Int), img, s) (i : Int) = some (if N ≤ i then ([], 4, ((n : Int), img, s)) else (blk img n i, 0, ((n : Int), img, IntKind.u64.wrap (s.1 + 1), s.2))) := by
 have e := Gd (s := (s.1, s.2)) hn hl hb
 unfold Q32.f
 dsimp only
 rw [e, Option.bind_some, if_neg (by simp only [decide_eq_true_eq]; omega), Option.bind_some]
 by_cases h : N ≤ i
 ·rw [Yf (x := (i : Int)) (by omega) (by omega), if_pos (decide_eq_true (by omega)), if_pos h]
 ·obtain ⟨a1, a2, a3⟩ := Zgf hb hn (show i < N from by omega)
  have h1 := Vl (n := n) (show i < N from by omega)
  rw [a1, a2, a3, if_neg (by simp only [decide_eq_true_eq]; omega), if_pos (by omega), if_neg h]
  simp only [Int.toNat_natCast]
  have hbl : (blk img n i).length = n := Uw hl (by omega)
  have : (img.drop (i * n)).take (i * n + n - i * n) = blk img n i := by unfold blk; congr 1; omega
  have hnb : n ≤ N * n := Nat.le_mul_of_pos_left n hN
  rw [this, Wr (by omega), Option.bind_some]
theorem Zde (a b : List Int) : toS (a ++ b) = toS a ++ toS b := by simp [toS]
theorem U1 (a : List Int) : (toS a).length = a.length := by simp [toS]
def Lb (img : List Int) (N n : Nat) : List (List UInt8) := (List.range N).map fun i => toS (blk img n i)
theorem Xf (img : List Int) (N n : Nat) : (Lb img N n).length = N := by simp [Lb]
theorem Zhy {img : List Int} {N n i : Nat} (h : i < N) : (Lb img N n).getD i default = toS (blk img n i) := by
 rw [List.getD_eq_getElem?_getD]
 simp [Lb, h]
theorem Zho {img b : List Int} {N n i : Nat} (hl : img.length = N * n) (h : i < N) (hb : b.length = n) : (Lb img N n).set i (toS b) = Lb (Yu img (i * n) n b) N n := by
 apply List.ext_getElem?
 intro j
 by_cases hj : j < N
 ·rw [List.getElem?_set]
  simp only [Lb, List.getElem?_map, List.length_map, List.length_range, List.getElem?_range hj, Option.map_some, h, if_true]
  rw [Ze3 hl h hb j hj]
  by_cases e : i = j
  ·rw [if_pos e, if_pos e.symm]
  ·rw [if_neg e, if_neg (fun z => e z.symm)]
 ·rw [List.getElem?_eq_none (by rw [List.length_set, Xf]; omega), List.getElem?_eq_none (by rw [Xf]; omega)]
theorem Zb6 (img : List Int) (n : Nat) : ∀ N, N * n ≤ img.length → (Lb img N n).flatten = toS (img.take (N * n))
 | 0, _ => by simp [Lb, toS]
 | N + 1, h => by
  rw [Nat.succ_mul] at h ⊢
  have ih := Zb6 img n N (by omega)
  unfold Lb at ih ⊢
  rw [List.range_succ, List.map_append, List.flatten_append, ih, List.take_add, Zde]
  simp [blk]
theorem Zc6 {img : List Int} {N n : Nat} (h : img.length = N * n) : (Lb img N n).flatten = toS img := by
 rw [Zb6 img n N (by omega), List.take_of_length_le (by omega)]
theorem Zez {α : Type} [Inhabited α] {l : List α} {j : Nat} (h : j < l.length) : l.drop j = l.getD j default :: l.drop (j + 1) := by
 rw [List.drop_eq_getElem_cons h, List.getD_eq_getElem?_getD, List.getElem?_eq_getElem h]
 rfl
theorem Gw {a : Int × List (List UInt8) × Int × Int} (hl : a.2.1.length ≤ 70000) : ∀ (m j k : Nat) (x : List UInt8), a.2.1.length = j + m → m < k → x.length + (a.2.1.drop j).flatten.length ≤ 9223372036854775807 → Q58.l0 k a x (j : Int) = some (x ++ (a.2.1.drop j).flatten)
 | 0, j, k + 1, x, h, _, hb => by
  rw [Q58.l0, if_neg (by simp only [decide_eq_true_eq]; omega), List.drop_of_length_le (by omega)]
  simp
 | m + 1, j, k + 1, x, h, hk, hb => by
  have hd := Zez (l := a.2.1) (j := j) (by omega)
  rw [hd] at hb ⊢
  rw [List.flatten_cons, List.length_append] at hb
  rw [Q58.l0, if_pos (decide_eq_true (by omega)), if_pos (by omega), Yh, if_pos (by omega), Yf (by omega) (by omega)]
  rw [show ((j : Int) + 1) = ((j + 1 : Nat) : Int) from rfl, Gw hl m (j + 1) k _ (by omega) (by omega) (by rw [List.length_append]; omega), List.flatten_cons, List.append_assoc]
theorem Zfu {k N n : Nat} {img : List Int} {x y : Int} (hl : img.length = N * n) (hN : N ≤ 65536) (hb : N * n ≤ 4294967296) (hk : N < k) : Q58.f k ((n : Int), Lb img N n, x, y) = some (toS img) := by
 unfold Q58.f
 have := Gw (a := ((n : Int), Lb img N n, x, y)) (by rw [Xf]; omega) N 0 k [] (by rw [Xf]; omega) hk (by rw [List.drop_zero, Zc6 hl, U1, hl, List.length_nil]; omega)
 rw [show Q58.l0 k _ [] 0 = _ from this, List.drop_zero, Zc6 hl]
 rfl
theorem Zbm {N n i : Nat} {L : List (List UInt8)} {x y : Int} (h : L.length = N) (hN : N ≤ 65536) (hi : i < 4294967296) : Q62.f ((n : Int), L, x, y) (i : Int) = some (decide (i < N)) := by
 unfold Q62.f
 have w : ∀ z : Nat, z < 4294967296 → IntKind.u64.wrap (z : Int) = z := fun z hz => by
  simp [IntKind.wrap, IntKind.bits, IntKind.signed]
  omega
 dsimp only
 rw [w i hi, w L.length (by omega), h]
 congr 1
 rw [decide_eq_decide]
 omega
theorem Zgn {N n i : Nat} {img : List Int} {x y : Int} (hN : N ≤ 65536) (hi : i < 4294967296) : Q60.f ((n : Int), Lb img N n, x, y) (i : Int) = some (if N ≤ i then (((n : Int), Lb img N n, x, y), [], 4) else (((n : Int), Lb img N n, w64 (x + 1), y), toS (blk img n i), 0)) := by
 unfold Q60.f
 dsimp only
 rw [Zbm (Xf img N n) hN hi, Option.bind_some]
 by_cases h : N ≤ i
 ·rw [if_pos (by simp; omega), if_pos h]
 ·rw [if_neg (by simp; omega), if_neg h, if_pos (by rw [Xf]; omega), Yh, Zhy (by omega)]
theorem Zbt {N n i : Nat} {img b : List Int} {x y : Int} (hl : img.length = N * n) (hN : N ≤ 65536) (hi : i < 4294967296) (hb : b.length ≤ 140737488351232) : Q61.f ((n : Int), Lb img N n, x, y) (i : Int) (toS b) = some (if N ≤ i then (((n : Int), Lb img N n, x, y), 4) else if b.length = n then (((n : Int), Lb (Yu img (i * n) n b) N n, x, w64 (y + 1)), 0) else (((n : Int), Lb img N n, x, y), 3)) := by
 unfold Q61.f
 dsimp only
 rw [Zbm (Xf img N n) hN hi, Option.bind_some, U1]
 by_cases h : N ≤ i
 ·rw [if_pos (by simp; omega), if_pos h]
 ·rw [if_neg (by simp; omega), if_neg h]
  by_cases e : b.length = n
  ·rw [if_neg (by simp; omega), if_pos e, if_pos (by rw [Xf, List.length_nil]; omega), if_pos (by rw [List.nil_append, Xf]; omega), List.nil_append, Int.toNat_natCast, Zho hl (by omega) e]
  ·rw [if_pos (by simp; omega), if_neg e]
theorem Zfl {n : Int} {img : List Int} {s : Int × Int} (h : img.length ≤ 4294967296) : Q31.f (n, img, s) = some img := by
 unfold Q31.f
 rw [Wr (by dsimp only; omega)]
 rfl
def rightD (N n : Nat) : Bool := decide (5 ≤ N ∧ N ≤ 65536 ∧ 1 ≤ n ∧ n ≤ 65536)
abbrev Fr8 := Int × List Int × Bool × Int
abbrev Ca := Dv × List Fr8 × List (Int × Int) × List Int × Chn
section
variable {es : List (Int × Int)} {x v d : Int}
theorem mhas_iff : ∀ {es : List (Int × Int)}, Yy es x = true ↔ ∃ v, (x, v) ∈ es
 | [] => by simp [Yy]
 | p :: es => by
  rw [Yy]
  split
  ·rename_i h
   exact ⟨fun _ => ⟨p.2, by simp [← h]⟩, fun _ => rfl⟩
  ·rename_i h
   rw [mhas_iff]
   constructor
   ·rintro ⟨v, hv⟩; exact ⟨v, by simp [hv]⟩
   ·rintro ⟨v, hv⟩
    rcases List.mem_cons.1 hv with e | e
    ·exact absurd (by rw [← e]) h
    ·exact ⟨v, e⟩
theorem Xh : ∀ {es : List (Int × Int)}, (es.map Prod.fst).Nodup → (x, v) ∈ es → Zt d es x = v
 | [], _, h => by simp at h
 | p :: es, nd, h => by
  rw [List.map_cons, List.nodup_cons] at nd
  rw [Zt]
  rcases List.mem_cons.1 h with e | e
  ·rw [if_pos (by rw [← e]), ← e]
  ·rw [if_neg (fun q => nd.1 (List.mem_map.2 ⟨_, e, by simpa using q.symm⟩)), Xh nd.2 e]
theorem W6 {p : Int × Int} : ∀ {es : List (Int × Int)}, (es.map Prod.fst).Nodup → (p ∈ Xn x es ↔ p ∈ es ∧ p.1 ≠ x)
 | [], _ => by simp [Xn]
 | q :: es, nd => by
  rw [List.map_cons, List.nodup_cons] at nd
  rw [Xn]
  split
  ·rename_i h
   constructor
   ·intro hp
    refine ⟨by simp [hp], fun e => nd.1 ?_⟩
    rw [h, ← e]; exact List.mem_map_of_mem hp
   ·rintro ⟨hp, hne⟩
    rcases List.mem_cons.1 hp with e | e
    ·exact absurd (e ▸ h) hne
    ·exact e
  ·rename_i h
   rw [List.mem_cons, W6 nd.2, List.mem_cons]
   constructor
   ·rintro (e | e)
    ·exact ⟨.inl e, e ▸ h⟩
    ·exact ⟨.inr e.1, e.2⟩
   ·rintro ⟨e | e, hne⟩
    ·exact .inl e
    ·exact .inr ⟨e, hne⟩
theorem mdel_sub : ∀ {es : List (Int × Int)}, (Xn x es).Sublist es
 | [] => List.Sublist.refl _
 | q :: es => by
  rw [Xn]
  split
  ·exact List.sublist_cons_self _ _
  ·exact mdel_sub.cons_cons _
theorem U4 : ∀ {es : List (Int × Int)}, Yy es x = true → (Xn x es).length + 1 = es.length
 | [], h => by simp [Yy] at h
 | q :: es, h => by
  rw [Yy] at h
  rw [Xn]
  split
  ·rfl
  ·rename_i hn
   rw [if_neg hn] at h
   rw [List.length_cons, List.length_cons, U4 h]
theorem J0 : ∀ {es : List (Int × Int)}, (es.map Prod.fst).Nodup → (x, v) ∈ es → Wu x v es = es
 | [], _, h => by simp at h
 | p :: es, nd, h => by
  rw [List.map_cons, List.nodup_cons] at nd
  rw [Wu]
  rcases List.mem_cons.1 h with e | e
  ·rw [if_pos (by rw [← e]), e]
  ·rw [if_neg (fun q => nd.1 (List.mem_map.2 ⟨_, e, by simpa using q.symm⟩)), J0 nd.2 e]
end
structure Okf (N B n t : Nat) (c : Ca) (i f : Nat) : Prop where
 hi : i < N
 hf : f < n
 blk : (c.2.1.getD f default).1 = (i : Int)
 len : (c.2.1.getD f default).2.1.length = B
 pin : 0 ≤ (c.2.1.getD f default).2.2.2 ∧ (c.2.1.getD f default).2.2.2 ≤ t
 emp : (f : Int) ∉ c.2.2.2.1
structure CaI (N B n t : Nat) (H : List Nat) (c : Ca) (L : List Nat) : Prop where
 dsz : c.1.1 = (B : Int)
 dim : c.1.2.1.length = N * B
 frl : c.2.1.length = n
 mnd : (c.2.2.1.map Prod.fst).Nodup
 mok : ∀ p ∈ c.2.2.1, ∃ i f : Nat, p = ((i : Int), (f : Int)) ∧ Okf N B n t c i f
 emp : ∀ x ∈ c.2.2.2.1, ∃ f : Nat, x = (f : Int) ∧ f < n
 end_ : c.2.2.2.1.Nodup
 hol : ∀ f ∈ H, f < n ∧ (f : Int) ∉ c.2.2.2.1 ∧ ∀ i : Int, (i, (f : Int)) ∉ c.2.2.1
 tot : c.2.2.1.length + c.2.2.2.1.length + H.length = n
 chn : ChI n c.2.2.2.2 L
 lok : ∀ f : Nat, f ∈ L ↔ (∃ i : Int, (i, (f : Int)) ∈ c.2.2.1) ∧ (c.2.1.getD f default).2.2.2 = 0
section
variable {N B n t : Nat} {H : List Nat} {c : Ca} {L : List Nat}
theorem CaI.at (h : CaI N B n t H c L) {i f : Int} (hp : (i, f) ∈ c.2.2.1) : ∃ i' f' : Nat, i = (i' : Int) ∧ f = (f' : Int) ∧ Okf N B n t c i' f' := by
 obtain ⟨i', f', e, ok⟩ := h.mok _ hp
 rw [Prod.mk.injEq] at e
 exact ⟨i', f', e.1, e.2, ok⟩
theorem CaI.atN (h : CaI N B n t H c L) {i f : Nat} (hp : ((i : Int), (f : Int)) ∈ c.2.2.1) : Okf N B n t c i f := by
 obtain ⟨i', f', e1, e2, ok⟩ := h.at hp
 have : i = i' := by omega
 have : f = f' := by omega
 subst_vars
 exact ok
theorem CaI.one (h : CaI N B n t H c L) {i j f : Nat} (hi : ((i : Int), (f : Int)) ∈ c.2.2.1) (hj : ((j : Int), (f : Int)) ∈ c.2.2.1) : i = j := by
 have h1 := (h.atN hi).blk
 have h2 := (h.atN hj).blk
 omega
theorem CaI.get (h : CaI N B n t H c L) (i : Nat) : (Yy c.2.2.1 (i : Int) = false ∧ ∀ v, ((i : Int), v) ∉ c.2.2.1) ∨ ∃ f : Nat, ((i : Int), (f : Int)) ∈ c.2.2.1 ∧ Yy c.2.2.1 (i : Int) = true ∧ Zt 0 c.2.2.1 (i : Int) = (f : Int) ∧ Okf N B n t c i f := by
 cases q : Yy c.2.2.1 (i : Int) with
 | false => exact .inl ⟨rfl, fun v hv => by rw [mhas_iff.2 ⟨v, hv⟩] at q; cases q⟩
 | true =>
  obtain ⟨v, hv⟩ := mhas_iff.1 q
  obtain ⟨i', f, e1, rfl, ok⟩ := h.at hv
  have : i = i' := by omega
  subst this
  exact .inr ⟨f, hv, rfl, Xh h.mnd hv, ok⟩
theorem CaI.used (h : CaI N B n t H c L) : c.2.2.1.length ≤ n := by have := h.tot; omega
theorem CaI.mono (h : CaI N B n t H c L) {t' : Nat} (ht : t ≤ t') : CaI N B n t' H c L :=
 ⟨h.dsz, h.dim, h.frl, h.mnd, fun p hp => by
  obtain ⟨i, f, e, ok⟩ := h.mok p hp
  exact ⟨i, f, e, ok.hi, ok.hf, ok.blk, ok.len, ⟨ok.pin.1, by have := ok.pin.2; omega⟩, ok.emp⟩, h.emp, h.end_, h.hol, h.tot, h.chn, h.lok⟩
theorem CaI.dev (h : CaI N B n t H c L) {img : List Int} (hl : img.length = N * B) (s : Int × Int) : CaI N B n t H ((c.1.1, img, s), c.2) L :=
 ⟨h.dsz, hl, h.frl, h.mnd, fun p hp => by
  obtain ⟨i, f, e, ok⟩ := h.mok p hp
  exact ⟨i, f, e, ok.hi, ok.hf, ok.blk, ok.len, ok.pin, ok.emp⟩, h.emp, h.end_, h.hol, h.tot, h.chn, h.lok⟩
theorem CaI.setfr (h : CaI N B n t H c L) {i f : Nat} (ha : ((i : Int), (f : Int)) ∈ c.2.2.1) {x : Fr8} (h1 : x.1 = (i : Int)) (h2 : x.2.1.length = B) {t' : Nat} (h3 : 0 ≤ x.2.2.2 ∧ x.2.2.2 ≤ t') (ht : t ≤ t') {ch : Chn} {L' : List Nat} (hc : ChI n ch L')
  (hL : ∀ g, g ∈ L' ↔ if g = f then x.2.2.2 = 0 else g ∈ L) : CaI N B n t' H (c.1, c.2.1.set f x, c.2.2.1, c.2.2.2.1, ch) L' := by
 have ok := h.atN ha
 have hfl : f < c.2.1.length := by rw [h.frl]; exact ok.hf
 have g : ∀ k, (c.2.1.set f x).getD k default = if f = k then x else c.2.1.getD k default := fun k => Y0 hfl
 refine ⟨h.dsz, h.dim, by rw [List.length_set, h.frl], h.mnd, fun p hp => ?_, h.emp, h.end_, h.hol, h.tot, hc, fun k => ?_⟩
 ·obtain ⟨j, k, e, okk⟩ := h.mok p hp
  refine ⟨j, k, e, okk.hi, okk.hf, ?_, ?_, ?_, okk.emp⟩
  all_goals
   show _
   try dsimp only
   rw [g k]
   split
  ·rename_i q
   subst q
   have : i = j := h.one ha (by rw [← e]; exact hp)
   subst this; exact h1
  ·exact okk.blk
  ·exact h2
  ·exact okk.len
  ·exact h3
  ·exact ⟨okk.pin.1, by have := okk.pin.2; omega⟩
 ·rw [hL k]
  try dsimp only
  rw [g k]
  by_cases q : k = f
  ·subst q
   rw [if_pos rfl, if_pos rfl]
   exact ⟨fun e => ⟨⟨_, ha⟩, e⟩, fun e => e.2⟩
  ·rw [if_neg q, if_neg (Ne.symm q)]
   exact h.lok k
theorem CaI.leave (h : CaI N B n t [] c L) {i f : Nat} (ha : ((i : Int), (f : Int)) ∈ c.2.2.1) (hn : n ≤ 64) {ch : Chn} (hc : ChI n ch (L.erase f)) : CaI N B n t [] (c.1, c.2.1.set f (0, [], false, 0), Xn (i : Int) c.2.2.1, c.2.2.2.1 ++ [(f : Int)], ch) (L.erase f) := by
 have ok := h.atN ha
 have hfl : f < c.2.1.length := by rw [h.frl]; exact ok.hf
 have g : ∀ k, (c.2.1.set f (0, [], false, 0)).getD k default = if f = k then (0, [], false, 0) else c.2.1.getD k default := fun k => Y0 hfl
 have hne : ∀ {j k : Nat}, ((j : Int), (k : Int)) ∈ c.2.2.1 → (j : Int) ≠ (i : Int) → f ≠ k := fun {j k} hjk hji e => by
  subst e
  exact hji (by rw [h.one ha hjk])
 refine ⟨h.dsz, h.dim, by rw [List.length_set, h.frl], (mdel_sub.map _).nodup h.mnd, fun p hp => ?_, fun x hx => ?_, ?_, by simp, ?_, hc, fun k => ?_⟩
 ·rw [W6 h.mnd] at hp
  obtain ⟨j, k, e, okk⟩ := h.mok p hp.1
  have hjk : ((j : Int), (k : Int)) ∈ c.2.2.1 := by rw [← e]; exact hp.1
  have hk : f ≠ k := hne hjk (by rw [e] at hp; exact hp.2)
  refine ⟨j, k, e, okk.hi, okk.hf, ?_, ?_, ?_, ?_⟩
  ·dsimp only; rw [g k, if_neg hk]; exact okk.blk
  ·dsimp only; rw [g k, if_neg hk]; exact okk.len
  ·dsimp only; rw [g k, if_neg hk]; exact okk.pin
  ·dsimp only
   rw [List.mem_append, List.mem_singleton]
   rintro (q | q)
   ·exact okk.emp q
   ·exact hk (by omega)
 ·rcases List.mem_append.1 hx with q | q
  ·exact h.emp x q
  ·rw [List.mem_singleton] at q; exact ⟨f, q, ok.hf⟩
 ·exact List.nodup_append.2 ⟨h.end_, by simp, fun a hb b hb' e => by rw [List.mem_singleton] at hb'; exact ok.emp (hb' ▸ e ▸ hb)⟩
 ·have h1 := h.tot
  have h2 := U4 (mhas_iff.2 ⟨_, ha⟩)
  simp only [List.length_append, List.length_singleton, List.length_nil] at h1 ⊢
  omega
 ·rw [h.chn.nd.mem_erase_iff]
  try dsimp only
  rw [g k]
  constructor
  ·rintro ⟨hk, hkL⟩
   obtain ⟨⟨j, hj⟩, hp⟩ := (h.lok k).1 hkL
   rw [if_neg (Ne.symm hk)]
   obtain ⟨j', k', e1, e2, okk⟩ := h.at hj
   refine ⟨⟨j, (W6 h.mnd).2 ⟨hj, fun e => hk ?_⟩⟩, hp⟩
   have h1 : Zt 0 c.2.2.1 (i : Int) = (f : Int) := Xh h.mnd ha
   have h2 : Zt 0 c.2.2.1 (i : Int) = (k : Int) := Xh h.mnd (by rw [← show j = (i : Int) from e]; exact hj)
   omega
  ·rintro ⟨⟨j, hj⟩, hp⟩
   rw [W6 h.mnd] at hj
   obtain ⟨j', k', e1, e2, okk⟩ := h.at hj.1
   have hk : f ≠ k := hne (j := j') (by rw [← e1]; exact hj.1) (by rw [← e1]; exact hj.2)
   rw [if_neg hk] at hp
   exact ⟨Ne.symm hk, (h.lok k).2 ⟨⟨j, hj.1⟩, hp⟩⟩
theorem CaI.take (h : CaI N B n t [] c L) {E : List Int} {f : Nat} (he : c.2.2.2.1 = E ++ [(f : Int)]) : CaI N B n t [f] (c.1, c.2.1, c.2.2.1, E, c.2.2.2.2) L := by
 have hnd := h.end_
 rw [he] at hnd
 have hnd2 := List.nodup_append.1 hnd
 refine ⟨h.dsz, h.dim, h.frl, h.mnd, fun p hp => ?_, fun x hx => h.emp x (by rw [he]; simp [hx]), hnd2.1, fun g hg => ?_, ?_, h.chn, h.lok⟩
 ·obtain ⟨i, k, e, ok⟩ := h.mok p hp
  exact ⟨i, k, e, ok.hi, ok.hf, ok.blk, ok.len, ok.pin, fun q => ok.emp (by rw [he]; simp [show (k : Int) ∈ E from q])⟩
 ·rw [List.mem_singleton] at hg
  subst hg
  refine ⟨?_, fun q => hnd2.2.2 _ q (g : Int) (by simp) rfl, fun i hi => ?_⟩
  ·obtain ⟨f', e, hf⟩ := h.emp (g : Int) (by rw [he]; simp)
   omega
  ·obtain ⟨j, k, e1, e2, ok⟩ := h.at hi
   exact ok.emp (by rw [← e2, he]; simp)
 ·have h1 := h.tot
  rw [he] at h1
  simp only [List.length_append, List.length_singleton, List.length_nil] at h1 ⊢
  omega
theorem CaI.come {f : Nat} (h : CaI N B n t [f] c L) {i : Nat} (hi : i < N) (hno : ∀ v, ((i : Int), v) ∉ c.2.2.1) {x : Fr8} (h1 : x.1 = (i : Int)) (h2 : x.2.1.length = B) (h3 : x.2.2.2 = 1) (ht : 1 ≤ t) {ch : Chn} (hc : ChI n ch L) :
  CaI N B n t [] (c.1, c.2.1.set f x, c.2.2.1 ++ [((i : Int), (f : Int))], c.2.2.2.1, ch) L := by
 obtain ⟨hf, hfe, hfm⟩ := h.hol f (by simp)
 have hfl : f < c.2.1.length := by rw [h.frl]; exact hf
 have g : ∀ k, (c.2.1.set f x).getD k default = if f = k then x else c.2.1.getD k default := fun k => Y0 hfl
 have hne : ∀ {j : Int} {k : Nat}, (j, (k : Int)) ∈ c.2.2.1 → f ≠ k := fun {j k} hjk e => hfm j (by rw [e]; exact hjk)
 refine ⟨h.dsz, h.dim, by rw [List.length_set, h.frl], ?_, fun p hp => ?_, h.emp, h.end_, by simp, ?_, hc, fun k => ?_⟩
 ·dsimp only
  rw [List.map_append, List.nodup_append]
  refine ⟨h.mnd, by simp, fun a ha b hb e => ?_⟩
  obtain ⟨p, hp, rfl⟩ := List.mem_map.1 ha
  simp only [List.map_cons, List.map_nil, List.mem_singleton] at hb
  exact hno p.2 (by rw [← hb, ← e]; exact hp)
 ·rcases List.mem_append.1 hp with q | q
  ·obtain ⟨j, k, e, okk⟩ := h.mok p q
   have hk : f ≠ k := hne (j := (j : Int)) (by rw [← e]; exact q)
   refine ⟨j, k, e, okk.hi, okk.hf, ?_, ?_, ?_, okk.emp⟩
   ·dsimp only; rw [g k, if_neg hk]; exact okk.blk
   ·dsimp only; rw [g k, if_neg hk]; exact okk.len
   ·dsimp only; rw [g k, if_neg hk]; exact okk.pin
  ·rw [List.mem_singleton] at q
   refine ⟨i, f, q, hi, hf, ?_, ?_, ?_, hfe⟩
   ·dsimp only; rw [g f, if_pos rfl]; exact h1
   ·dsimp only; rw [g f, if_pos rfl]; exact h2
   ·dsimp only; rw [g f, if_pos rfl, h3]; omega
 ·have h1 := h.tot
  simp only [List.length_append, List.length_singleton, List.length_nil] at h1 ⊢
  omega
 ·dsimp only
  rw [g k]
  constructor
  ·intro hk
   obtain ⟨⟨j, hj⟩, hp⟩ := (h.lok k).1 hk
   rw [if_neg (hne hj)]
   exact ⟨⟨j, by simp [hj]⟩, hp⟩
  ·rintro ⟨⟨j, hj⟩, hp⟩
   rcases List.mem_append.1 hj with q | q
   ·rw [if_neg (hne q)] at hp
    exact (h.lok k).2 ⟨⟨j, q⟩, hp⟩
   ·rw [List.mem_singleton, Prod.mk.injEq] at q
    have : f = k := by omega
    rw [if_pos this, h3] at hp
    omega
end
structure Siz (N B n : Nat) : Prop where
 hB : 1 ≤ B
 hN : 1 ≤ N
 hNB : N * B ≤ 4294967296
 hn : 1 ≤ n
 h64 : n ≤ 64
section
variable {N B n t : Nat} {H : List Nat} {c : Ca} {L : List Nat}
theorem Siz.N_le (z : Siz N B n) : N ≤ 4294967296 := Nat.le_trans (Nat.le_mul_of_pos_right N z.hB) z.hNB
theorem Siz.B_le (z : Siz N B n) : B ≤ 4294967296 := Nat.le_trans (Nat.le_mul_of_pos_left B z.hN) z.hNB
theorem Us (z : Siz N B n) (h : CaI N B n t [] c L) {i f : Nat} (ha : ((i : Int), (f : Int)) ∈ c.2.2.1) : ∃ ch, Q13.f c (f : Int) = some (c.1, c.2.1.set f (0, [], false, 0), Xn (i : Int) c.2.2.1, c.2.2.2.1 ++ [(f : Int)], ch) ∧ CaI N B n t [] (c.1, c.2.1.set f (0, [], false, 0), Xn (i : Int) c.2.2.1, c.2.2.2.1 ++ [(f : Int)], ch) (L.erase f) := by
 have ok := h.atN ha
 have h64 := z.h64
 obtain ⟨r, ch, e, hc⟩ := U5 h.chn ok.hf (by omega)
 have hfl := h.frl
 have htot := h.tot
 have hf := ok.hf
 refine ⟨ch, ?_, h.leave ha h64 hc⟩
 unfold Q13.f
 rw [if_pos (by omega), show Q17.f (c.2.2.2.2.1, c.2.2.2.2.2) (f : Int) = _ from e, Option.bind_some, if_pos (by simp only [List.length_singleton]; omega), show (gt c.2.1 (f : Int)).1 = (i : Int) by rw [Yh]; exact ok.blk, Int.toNat_natCast]
theorem Bv (z : Siz N B n) (h : CaI N B n t H c L) {i f : Nat} (ha : ((i : Int), (f : Int)) ∈ c.2.2.1) : Q34.f c.1 (gt c.2.1 (f : Int)).1 (gt c.2.1 (f : Int)).2.1 = some (0, c.1.1, Yu c.1.2.1 (i * B) B (gt c.2.1 (f : Int)).2.1, c.1.2.2.1, IntKind.u64.wrap (c.1.2.2.2 + 1)) := by
 have ok := h.atN ha
 have hi := ok.hi
 have hNl := z.N_le
 rw [show (gt c.2.1 (f : Int)).1 = (i : Int) by rw [Yh]; exact ok.blk]
 have := Zfh (b := (gt c.2.1 (f : Int)).2.1) (s := c.1.2.2) z.hB z.hN h.dim z.hNB (show i < 4294967296 by omega)
 rw [← h.dsz] at this
 rw [show Q34.f c.1 (i : Int) (gt c.2.1 (f : Int)).2.1 = _ from this, if_neg (by omega), if_pos (by rw [Yh]; exact ok.len)]
theorem CaI.back (z : Siz N B n) (h : CaI N B n t H c L) {i f : Nat} (ha : ((i : Int), (f : Int)) ∈ c.2.2.1) (s : Int × Int) : CaI N B n t H ((c.1.1, Yu c.1.2.1 (i * B) B (gt c.2.1 (f : Int)).2.1, s), c.2.1.set f ((gt c.2.1 (f : Int)).1, (gt c.2.1 (f : Int)).2.1, false, (gt c.2.1 (f : Int)).2.2.2), c.2.2) L := by
 have ok := h.atN ha
 have g : gt c.2.1 (f : Int) = c.2.1.getD f default := Yh _ _
 have h1 := h.setfr ha (x := ((gt c.2.1 (f : Int)).1, (gt c.2.1 (f : Int)).2.1, false, (gt c.2.1 (f : Int)).2.2.2)) (by rw [g]; exact ok.blk) (by rw [g]; exact ok.len) (by rw [g]; exact ok.pin) (Nat.le_refl t) h.chn (fun k => by
  split
  ·rename_i q
   subst q
   rw [h.lok k, g]
   exact ⟨fun e => e.2, fun e => ⟨⟨_, ha⟩, e⟩⟩
  ·exact Iff.rfl)
 exact h1.dev (J7 h.dim ok.hi) s
theorem Zbf (z : Siz N B n) (h : CaI N B n t [] c L) (hw : 0 ≤ c.1.2.2.2 ∧ c.1.2.2.2 ≤ 1000000000) : Q15.f c = some (0, false, c) ∨
  ∃ (f : Nat) (c' : Ca) (L' : List Nat), Q15.f c = some ((f : Int), true, c') ∧ CaI N B n t [f] c' L' ∧ c'.1.2.2.1 = c.1.2.2.1 ∧ (c.1.2.2.2 ≤ c'.1.2.2.2 ∧ c'.1.2.2.2 ≤ c.1.2.2.2 + 1) ∧ ∀ p ∈ c'.2.2.1, p ∈ c.2.2.1 := by
 have h64 := z.h64
 have htot := h.tot
 have hfl := h.frl
 have wr : IntKind.u64.wrap (c.1.2.2.2 + 1) = c.1.2.2.2 + 1 := by
  obtain ⟨m, hm⟩ := Int.eq_ofNat_of_zero_le hw.1
  have : c.1.2.2.2 + 1 = ((m + 1 : Nat) : Int) := by omega
  rw [this]
  simp [IntKind.wrap, IntKind.bits, IntKind.signed]
  omega
 by_cases he : c.2.2.2.1 = []
 ·have e0 : (decide ((c.2.2.2.1.length : Int) = 0)) = true := by rw [he]; rfl
  rcases List.eq_nil_or_concat L with rfl | ⟨L0, q, hq⟩
  ·left
   unfold Q15.f
   rw [if_pos e0, show Q19.f (c.2.2.2.2.1, c.2.2.2.2.2) = _ from Zao h.chn, Option.bind_some, if_pos (by simp)]
  ·right
   rw [List.concat_eq_append] at hq
   subst hq
   obtain ⟨⟨j, hj⟩, hp⟩ := (h.lok q).1 (by simp)
   obtain ⟨i, q', rfl, e2, ok⟩ := h.at hj
   have : q = q' := by omega
   subst this
   have hf := ok.hf
   unfold Q15.f
   rw [if_pos e0, show Q19.f (c.2.2.2.2.1, c.2.2.2.2.2) = _ from Zgh h.chn (by omega), Option.bind_some, if_neg (by simp)]
   try dsimp only
   rw [if_pos (by omega)]
   have one : w64 ((([] ++ [(q : Int)] : List Int).length : Int) - 1) = 0 := by
    show w64 (((1 : Nat) : Int) - 1) = 0
    decide
   by_cases hd : (gt c.2.1 (q : Int)).2.2.1 = true
   ·have hb := h.back z hj (c.1.2.2.1, c.1.2.2.2 + 1)
    obtain ⟨ch, e, hl⟩ := Us z hb (by exact hj)
    rw [if_pos hd, show Q34.f (c.1.1, c.1.2.1, (c.1.2.2.1, c.1.2.2.2)) (gt c.2.1 (q : Int)).1 (gt c.2.1 (q : Int)).2.1 = _ from Bv z h hj, Option.bind_some]
    try dsimp only
    rw [wr, Int.toNat_natCast, show Q13.f ((c.1.1, Yu c.1.2.1 (i * B) B (gt c.2.1 (q : Int)).2.1, c.1.2.2.1, c.1.2.2.2 + 1), c.2.1.set q ((gt c.2.1 (q : Int)).1, (gt c.2.1 (q : Int)).2.1, false, (gt c.2.1 (q : Int)).2.2.2), c.2.2.1, c.2.2.2.1, c.2.2.2.2.1, c.2.2.2.2.2) (q : Int) = _ from e, Option.bind_some]
    try dsimp only
    rw [he, one, if_pos (by simp), if_pos (by simp)]
    refine ⟨q, _, _, rfl, hl.take (E := []) (by dsimp only; rw [he]), rfl, by dsimp only; omega, fun p hp => mdel_sub.subset hp⟩
   ·obtain ⟨ch, e, hl⟩ := Us z h hj
    rw [if_neg hd, show Q13.f ((c.1.1, c.1.2.1, (c.1.2.2.1, c.1.2.2.2)), c.2.1, c.2.2.1, c.2.2.2.1, (c.2.2.2.2.1, c.2.2.2.2.2)) (q : Int) = _ from e, Option.bind_some]
    try dsimp only
    rw [he, one, if_pos (by simp), if_pos (by simp)]
    refine ⟨q, _, _, rfl, hl.take (E := []) (by dsimp only; rw [he]), rfl, by dsimp only; omega, fun p hp => mdel_sub.subset hp⟩
 ·right
  obtain ⟨E, x, hx⟩ : ∃ E x, c.2.2.2.1 = E ++ [x] := by
   rcases List.eq_nil_or_concat c.2.2.2.1 with e | ⟨E, x, e⟩
   ·exact absurd e he
   ·exact ⟨E, x, by rw [e, List.concat_eq_append]⟩
  obtain ⟨f, rfl, hf⟩ := h.emp x (by rw [hx]; simp)
  have hll : c.2.2.2.1.length = E.length + 1 := by rw [hx]; simp
  have e1 : w64 ((c.2.2.2.1.length : Int) - 1) = (E.length : Int) := by rw [Yf (by omega) (by omega)]; omega
  unfold Q15.f
  rw [if_neg (by simp only [decide_eq_true_eq]; omega), e1, if_pos (by omega), if_pos (by omega), Int.toNat_natCast]
  have e2 : gt c.2.2.2.1 (E.length : Int) = (f : Int) := by
   rw [Yh, hx, List.getD_eq_getElem?_getD, List.getElem?_append_right (Nat.le_refl _)]; simp
  have e3 : c.2.2.2.1.take E.length = E := by rw [hx, List.take_left]
  rw [e2, e3]
  exact ⟨f, _, _, rfl, h.take hx, rfl, by dsimp only; omega, fun p hp => hp⟩
end
section
variable {N B n t : Nat} {c : Ca} {L : List Nat}
structure Costs (N B n t : Nat) (a b : Nat) (c c' : Ca) : Prop where
 inv : ∃ L, CaI N B n t [] c' L
 rd : c.1.2.2.1 ≤ c'.1.2.2.1 ∧ c'.1.2.2.1 ≤ c.1.2.2.1 + a
 wr : c.1.2.2.2 ≤ c'.1.2.2.2 ∧ c'.1.2.2.2 ≤ c.1.2.2.2 + b
theorem Costs.same (h : CaI N B n t [] c L) (a b : Nat) : Costs N B n t a b c c := ⟨⟨L, h⟩, by omega, by omega⟩
structure Few (c : Ca) : Prop where
 rd : 0 ≤ c.1.2.2.1 ∧ c.1.2.2.1 ≤ 100000000
 wr : 0 ≤ c.1.2.2.2 ∧ c.1.2.2.2 ≤ 100000000
theorem B0 {x : Int} (h : 0 ≤ x ∧ x ≤ 1000000000) : IntKind.u64.wrap (x + 1) = x + 1 := by
 obtain ⟨m, hm⟩ := Int.eq_ofNat_of_zero_le h.1
 have : x + 1 = ((m + 1 : Nat) : Int) := by omega
 rw [this]
 simp [IntKind.wrap, IntKind.bits, IntKind.signed]
 omega
theorem Zgt (z : Siz N B n) {H : List Nat} (h : CaI N B n t H c L) : Q29.f c.1 = some (N : Int) := by
 have := Gd (s := c.1.2.2) z.hB h.dim z.hNB
 rw [← h.dsz] at this
 exact this
theorem Bt (z : Siz N B n) {H : List Nat} (h : CaI N B n t H c L) (i : Nat) (hi : i < 4294967296) : Q16.f c (i : Int) = some (if N ≤ i then 4 else 0) := by
 have hN := z.N_le
 unfold Q16.f Q14.f
 rw [Option.bind_some, if_neg (by simp), show Q29.f (c.1.1, c.1.2.1, (c.1.2.2.1, c.1.2.2.2)) = _ from Zgt z h, Option.bind_some, Yf (x := (i : Int)) (by omega) (by omega)]
 by_cases q : N ≤ i
 ·rw [if_pos (decide_eq_true (by omega)), if_pos q]
 ·rw [if_neg (by simp only [decide_eq_true_eq]; omega), if_neg q]
theorem Ze1 (z : Siz N B n) {H : List Nat} (h : CaI N B n t H c L) {i : Nat} (hi : i < N) : Q32.f c.1 (i : Int) = some (blk c.1.2.1 B i, 0, (c.1.1, c.1.2.1, IntKind.u64.wrap (c.1.2.2.1 + 1), c.1.2.2.2)) := by
 have hN := z.N_le
 have := Zg8 (s := c.1.2.2) z.hB z.hN h.dim z.hNB (show i < 4294967296 by omega)
 rw [← h.dsz] at this
 rw [show Q32.f c.1 (i : Int) = _ from this, if_neg (by omega)]
theorem Ui {es : List (Int × Int)} {x v : Int} (h : ∀ v, (x, v) ∉ es) : Wu x v es = es ++ [(x, v)] := G8 (by
 cases q : Yy es x with
 | false => rfl
 | true => obtain ⟨v, hv⟩ := mhas_iff.1 q; exact absurd hv (h v))
theorem Uk (h : CaI N B n t [] c L) {f : Nat} {p : Int} (hp : p ≠ 0) (g : Nat) : g ∈ L.erase f ↔ if g = f then p = 0 else g ∈ L := by
 rw [h.chn.nd.mem_erase_iff]
 split
 ·rename_i e; exact ⟨fun q => absurd e q.1, fun q => absurd q hp⟩
 ·rename_i e; exact ⟨fun q => q.2, fun q => ⟨e, q⟩⟩
theorem Zbv (h : CaI N B n t [] c L) {i f : Nat} (ha : ((i : Int), (f : Int)) ∈ c.2.2.1) (g : Nat) : g ∈ L ↔ if g = f then (c.2.1.getD f default).2.2.2 = 0 else g ∈ L := by
 split
 ·rename_i q
  subst q
  rw [h.lok g]
  exact ⟨fun e => e.2, fun e => ⟨⟨_, ha⟩, e⟩⟩
 ·exact Iff.rfl
theorem Zh3 (z : Siz N B n) (h : CaI N B n t [] c L) (fw : Few c) (ht : t ≤ 1000000) (i : Nat) (hi : i < 4294967296) : ∃ r c', Q6.f c (i : Int) = some (r, c') ∧ Costs N B n (t + 1) 1 1 c c' := by
 have h64 := z.h64
 have hfl := h.frl
 unfold Q6.f
 rw [show Q16.f ((c.1.1, c.1.2.1, (c.1.2.2.1, c.1.2.2.2)), c.2.1, c.2.2.1, c.2.2.2.1, (c.2.2.2.2.1, c.2.2.2.2.2)) (i : Int) = _ from Bt z h i hi, Option.bind_some]
 by_cases q : N ≤ i
 ·rw [if_pos q, if_pos (by simp)]
  exact ⟨_, _, rfl, Costs.same (h.mono (Nat.le_succ t)) 1 1⟩
 ·rw [if_neg q, if_neg (by simp)]
  rcases h.get i with ⟨g1, g2⟩ | ⟨f, ha, g1, g2, ok⟩
  ·rw [if_neg (by simp [g1])]
   rcases Zbf z h ⟨fw.wr.1, by have := fw.wr.2; omega⟩ with e | ⟨f, c1, L1, e, h1, k1, k2, k3⟩
   ·rw [show Q15.f ((c.1.1, c.1.2.1, (c.1.2.2.1, c.1.2.2.2)), c.2.1, c.2.2.1, c.2.2.2.1, (c.2.2.2.2.1, c.2.2.2.2.2)) = _ from e, Option.bind_some, if_pos (by simp)]
    exact ⟨_, _, rfl, Costs.same (h.mono (Nat.le_succ t)) 1 1⟩
   ·obtain ⟨hf, hfe, hfm⟩ := h1.hol f (by simp)
    have hfl1 := h1.frl
    have hno : ∀ v, ((i : Int), v) ∉ c1.2.2.1 := fun v hv => g2 v (k3 _ hv)
    have hfL : f ∉ L1 := fun hx => by obtain ⟨⟨j, hj⟩, _⟩ := (h1.lok f).1 hx; exact hfm j hj
    obtain ⟨r5, ch, e5, hc5⟩ := U5 h1.chn hf (by omega)
    rw [List.erase_of_not_mem hfL] at hc5
    rw [show Q15.f ((c.1.1, c.1.2.1, (c.1.2.2.1, c.1.2.2.2)), c.2.1, c.2.2.1, c.2.2.2.1, (c.2.2.2.2.1, c.2.2.2.2.2)) = _ from e, Option.bind_some, if_neg (by simp)]
    try dsimp only
    rw [show Q32.f (c1.1.1, c1.1.2.1, (c1.1.2.2.1, c1.1.2.2.2)) (i : Int) = _ from Ze1 z h1 (by omega), Option.bind_some, if_neg (by simp), if_pos (by omega), show Q17.f (c1.2.2.2.2.1, c1.2.2.2.2.2) (f : Int) = _ from e5, Option.bind_some]
    have hcm := (h1.mono (Nat.le_succ t)).come (show i < N by omega) hno (x := ((i : Int), blk c1.1.2.1 B i, false, 1)) rfl (Uw h1.dim (by omega)) rfl (by omega) hc5
    try dsimp only
    rw [B0 (by rw [k1]; have := fw.rd; omega), Ui hno, Int.toNat_natCast]
    refine ⟨_, _, rfl, ⟨⟨_, hcm.dev (s := (c1.1.2.2.1 + 1, c1.1.2.2.2)) h1.dim⟩, ?_, ?_⟩⟩
    ·dsimp only; omega
    ·dsimp only; omega
  ·have hf := ok.hf
   have hp := ok.pin
   obtain ⟨r2, ch, e2, hc2⟩ := U5 h.chn ok.hf (by omega)
   have g : gt c.2.1 (f : Int) = c.2.1.getD f default := Yh _ _
   have wp : w64 ((c.2.1.getD f default).2.2.2 + 1) = (c.2.1.getD f default).2.2.2 + 1 := Yf (by omega) (by omega)
   have hs := h.setfr ha (x := ((gt c.2.1 (f : Int)).1, (gt c.2.1 (f : Int)).2.1, (gt c.2.1 (f : Int)).2.2.1, w64 ((gt c.2.1 (f : Int)).2.2.2 + 1))) (t' := t + 1) (by rw [g]; exact ok.blk) (by rw [g]; exact ok.len) (by rw [g]; dsimp only; rw [wp]; omega) (Nat.le_succ t) hc2 (Uk h (by rw [g]; dsimp only; rw [wp]; omega))
   rw [if_pos g1, g2, if_pos (by omega), show Q17.f (c.2.2.2.2.1, c.2.2.2.2.2) (f : Int) = _ from e2, Option.bind_some, Int.toNat_natCast]
   exact ⟨_, _, rfl, ⟨⟨_, hs⟩, by dsimp only; omega, by dsimp only; omega⟩⟩
theorem Zhs (z : Siz N B n) (h : CaI N B n t [] c L) (fw : Few c) (ht : t ≤ 1000000) (i : Nat) (hi : i < 4294967296) : ∃ r c', Q5.f c (i : Int) = some (r, c') ∧ Costs N B n (t + 1) 0 1 c c' := by
 have h64 := z.h64
 have hB := z.B_le
 have hfl := h.frl
 have hsz := h.dsz
 unfold Q5.f Q30.f
 rw [show Q16.f ((c.1.1, c.1.2.1, (c.1.2.2.1, c.1.2.2.2)), c.2.1, c.2.2.1, c.2.2.2.1, (c.2.2.2.2.1, c.2.2.2.2.2)) (i : Int) = _ from Bt z h i hi, Option.bind_some]
 by_cases q : N ≤ i
 ·rw [if_pos q, if_pos (by simp)]
  exact ⟨_, _, rfl, Costs.same (h.mono (Nat.le_succ t)) 0 1⟩
 ·rw [if_neg q, if_neg (by simp)]
  rcases h.get i with ⟨g1, g2⟩ | ⟨f, ha, g1, g2, ok⟩
  ·rw [if_neg (by simp [g1]), if_pos (by simp [g1])]
   rcases Zbf z h ⟨fw.wr.1, by have := fw.wr.2; omega⟩ with e | ⟨f, c1, L1, e, h1, k1, k2, k3⟩
   ·rw [show Q15.f ((c.1.1, c.1.2.1, (c.1.2.2.1, c.1.2.2.2)), c.2.1, c.2.2.1, c.2.2.2.1, (c.2.2.2.2.1, c.2.2.2.2.2)) = _ from e, Option.bind_some, if_pos (by simp)]
    exact ⟨_, _, rfl, Costs.same (h.mono (Nat.le_succ t)) 0 1⟩
   ·obtain ⟨hf, hfe, hfm⟩ := h1.hol f (by simp)
    have hfl1 := h1.frl
    have hsz1 := h1.dsz
    have hno : ∀ v, ((i : Int), v) ∉ c1.2.2.1 := fun v hv => g2 v (k3 _ hv)
    have hfL : f ∉ L1 := fun hx => by obtain ⟨⟨j, hj⟩, _⟩ := (h1.lok f).1 hx; exact hfm j hj
    obtain ⟨r5, ch, e5, hc5⟩ := U5 h1.chn hf (by omega)
    rw [List.erase_of_not_mem hfL] at hc5
    rw [show Q15.f ((c.1.1, c.1.2.1, (c.1.2.2.1, c.1.2.2.2)), c.2.1, c.2.2.1, c.2.2.2.1, (c.2.2.2.2.1, c.2.2.2.2.2)) = _ from e, Option.bind_some, if_neg (by simp), Option.bind_some]
    try dsimp only
    rw [if_pos (by omega), if_pos (by omega), show Q17.f (c1.2.2.2.2.1, c1.2.2.2.2.2) (f : Int) = _ from e5, Option.bind_some]
    have hcm := (h1.mono (Nat.le_succ t)).come (show i < N by omega) hno (x := ((i : Int), List.replicate c1.1.1.toNat (0 : Int), true, 1)) rfl (by rw [List.length_replicate]; omega) rfl (by omega) hc5
    try dsimp only
    rw [Ui hno, Int.toNat_natCast]
    refine ⟨_, _, rfl, ⟨⟨_, hcm⟩, ?_, ?_⟩⟩
    ·dsimp only; omega
    ·dsimp only; omega
  ·have hf := ok.hf
   have hp := ok.pin
   have g : gt c.2.1 (f : Int) = c.2.1.getD f default := Yh _ _
   rw [if_pos g1, g2, if_pos (by omega)]
   by_cases hpp : 0 < (gt c.2.1 (f : Int)).2.2.2
   ·rw [if_pos (decide_eq_true hpp)]
    exact ⟨_, _, rfl, Costs.same (h.mono (Nat.le_succ t)) 0 1⟩
   ·obtain ⟨r2, ch, e2, hc2⟩ := U5 h.chn ok.hf (by omega)
    have hs := h.setfr ha (x := ((i : Int), List.replicate c.1.1.toNat (0 : Int), true, 1)) (t' := t + 1) rfl (by rw [List.length_replicate]; omega) (by dsimp only; omega) (Nat.le_succ t) hc2 (Uk h (show (1 : Int) ≠ 0 by decide))
    rw [if_neg (by simpa using hpp), if_neg (by simp [g1]), Option.bind_some, if_pos (by omega), show Q17.f (c.2.2.2.2.1, c.2.2.2.2.2) (f : Int) = _ from e2, Option.bind_some, Int.toNat_natCast, J0 h.mnd ha]
    exact ⟨_, _, rfl, ⟨⟨_, hs⟩, by dsimp only; omega, by dsimp only; omega⟩⟩
theorem Zeh (z : Siz N B n) (h : CaI N B n t [] c L) (ht : t ≤ 1000000) (i : Nat) : ∃ r c', Q10.f c (i : Int) = some (r, c') ∧ Costs N B n t 0 0 c c' := by
 have h64 := z.h64
 have hfl := h.frl
 unfold Q10.f Q14.f
 rw [Option.bind_some, if_neg (by simp)]
 rcases h.get i with ⟨g1, g2⟩ | ⟨f, ha, g1, g2, ok⟩
 ·rw [if_pos (by simp [g1])]
  exact ⟨_, _, rfl, Costs.same h 0 0⟩
 ·have hf := ok.hf
  have hp := ok.pin
  have g : gt c.2.1 (f : Int) = c.2.1.getD f default := Yh _ _
  rw [if_neg (by simp [g1]), g2, if_pos (by omega)]
  by_cases hp0 : (gt c.2.1 (f : Int)).2.2.2 = 0
  ·rw [if_pos (decide_eq_true hp0)]
   exact ⟨_, _, rfl, Costs.same h 0 0⟩
  ·have wp : w64 ((gt c.2.1 (f : Int)).2.2.2 - 1) = (gt c.2.1 (f : Int)).2.2.2 - 1 := by rw [g]; exact Yf (by omega) (by omega)
   have hp1 : 0 < (gt c.2.1 (f : Int)).2.2.2 := by rw [g] at hp0 ⊢; omega
   have hp2 : (gt c.2.1 (f : Int)).2.2.2 ≤ t := by rw [g]; omega
   have hset : gt (c.2.1.set f ((gt c.2.1 (f : Int)).1, (gt c.2.1 (f : Int)).2.1, (gt c.2.1 (f : Int)).2.2.1, w64 ((gt c.2.1 (f : Int)).2.2.2 - 1))) (f : Int) = ((gt c.2.1 (f : Int)).1, (gt c.2.1 (f : Int)).2.1, (gt c.2.1 (f : Int)).2.2.1, w64 ((gt c.2.1 (f : Int)).2.2.2 - 1)) := by
    rw [Yh, Y0 (by omega), if_pos rfl]
   have hfL : f ∉ L := fun hx => by have := ((h.lok f).1 hx).2; rw [← g] at this; omega
   rw [if_neg (by simpa using hp0), Int.toNat_natCast, hset, wp]
   by_cases hp3 : (gt c.2.1 (f : Int)).2.2.2 - 1 = 0
   ·obtain ⟨ch, e2, hc2⟩ := Ze0 h.chn ok.hf hfL (by omega)
    rw [if_pos (decide_eq_true hp3), show Q18.f (c.2.2.2.2.1, c.2.2.2.2.2) (f : Int) = _ from e2, Option.bind_some]
    have hs := h.setfr ha (x := ((gt c.2.1 (f : Int)).1, (gt c.2.1 (f : Int)).2.1, (gt c.2.1 (f : Int)).2.2.1, (gt c.2.1 (f : Int)).2.2.2 - 1)) (t' := t) (by rw [g]; exact ok.blk) (by rw [g]; exact ok.len) (by dsimp only; omega) (Nat.le_refl t) hc2 (fun k => by
     rw [List.mem_cons]
     split
     ·rename_i e; exact ⟨fun _ => hp3, fun _ => .inl e⟩
     ·rename_i e; exact ⟨fun q => q.elim (fun e' => absurd e' e) id, .inr⟩)
    exact ⟨_, _, rfl, ⟨⟨_, hs⟩, by dsimp only; omega, by dsimp only; omega⟩⟩
   ·rw [if_neg (by simpa using hp3)]
    have hs := h.setfr ha (x := ((gt c.2.1 (f : Int)).1, (gt c.2.1 (f : Int)).2.1, (gt c.2.1 (f : Int)).2.2.1, (gt c.2.1 (f : Int)).2.2.2 - 1)) (t' := t) (by rw [g]; exact ok.blk) (by rw [g]; exact ok.len) (by dsimp only; omega) (Nat.le_refl t) h.chn (fun k => by
     split
     ·rename_i e; subst e; exact ⟨fun q => absurd q hfL, fun q => absurd q hp3⟩
     ·exact Iff.rfl)
    exact ⟨_, _, rfl, ⟨⟨_, hs⟩, by dsimp only; omega, by dsimp only; omega⟩⟩
theorem Zed (z : Siz N B n) (h : CaI N B n t [] c L) (i : Nat) (b : List Int) : ∃ r c', Q12.f c (i : Int) b = some (r, c') ∧ Costs N B n t 0 0 c c' := by
 have h64 := z.h64
 have hB := z.B_le
 have hfl := h.frl
 have hsz := h.dsz
 unfold Q12.f Q14.f Q30.f
 rw [Option.bind_some, if_neg (by simp)]
 rcases h.get i with ⟨g1, g2⟩ | ⟨f, ha, g1, g2, ok⟩
 ·rw [if_pos (by simp [g1])]
  exact ⟨_, _, rfl, Costs.same h 0 0⟩
 ·have hf := ok.hf
  have hp := ok.pin
  have g : gt c.2.1 (f : Int) = c.2.1.getD f default := Yh _ _
  rw [if_neg (by simp [g1]), g2, if_pos (by omega)]
  by_cases hp0 : (gt c.2.1 (f : Int)).2.2.2 = 0
  ·rw [if_pos (decide_eq_true hp0)]
   exact ⟨_, _, rfl, Costs.same h 0 0⟩
  ·rw [if_neg (by simpa using hp0), Option.bind_some]
   try dsimp only
   by_cases hb : (b.length : Int) = c.1.1
   ·have hset : gt (c.2.1.set f ((gt c.2.1 (f : Int)).1, b, (gt c.2.1 (f : Int)).2.2.1, (gt c.2.1 (f : Int)).2.2.2)) (f : Int) = ((gt c.2.1 (f : Int)).1, b, (gt c.2.1 (f : Int)).2.2.1, (gt c.2.1 (f : Int)).2.2.2) := by
     rw [Yh, Y0 (by omega), if_pos rfl]
    have hs := h.setfr ha (x := ((gt c.2.1 (f : Int)).1, b, true, (gt c.2.1 (f : Int)).2.2.2)) (t' := t) (by rw [g]; exact ok.blk) (by dsimp only; omega) (by dsimp only; rw [g]; exact hp) (Nat.le_refl t) h.chn (by rw [g]; exact Zbv h ha)
    rw [if_neg (by simp [hb]), Wr (by omega), Option.bind_some, Int.toNat_natCast, hset, List.set_set]
    exact ⟨_, _, rfl, ⟨⟨_, hs⟩, by dsimp only; omega, by dsimp only; omega⟩⟩
   ·rw [if_pos (by simp [hb])]
    exact ⟨_, _, rfl, Costs.same h 0 0⟩
theorem Zh7 (z : Siz N B n) (h : CaI N B n t [] c L) (i : Nat) : ∃ r c', Q3.f c (i : Int) = some (r, c') ∧ Costs N B n t 0 0 c c' := by
 have h64 := z.h64
 have hfl := h.frl
 unfold Q3.f Q14.f
 rw [Option.bind_some, if_neg (by simp)]
 rcases h.get i with ⟨g1, g2⟩ | ⟨f, ha, g1, g2, ok⟩
 ·rw [if_pos (by simp [g1])]
  exact ⟨_, _, rfl, Costs.same h 0 0⟩
 ·have hf := ok.hf
  rw [if_neg (by simp [g1]), g2, if_pos (by omega)]
  by_cases hp0 : 0 < (gt c.2.1 (f : Int)).2.2.2
  ·rw [if_pos (decide_eq_true hp0)]
   exact ⟨_, _, rfl, Costs.same h 0 0⟩
  ·obtain ⟨ch, e, hl⟩ := Us z h ha
   rw [if_neg (by simpa using hp0), show Q13.f ((c.1.1, c.1.2.1, (c.1.2.2.1, c.1.2.2.2)), c.2.1, c.2.2.1, c.2.2.2.1, (c.2.2.2.2.1, c.2.2.2.2.2)) (f : Int) = _ from e, Option.bind_some]
   exact ⟨_, _, rfl, ⟨⟨_, hl⟩, by dsimp only; omega, by dsimp only; omega⟩⟩
theorem Zin (z : Siz N B n) (h : CaI N B n t [] c L) (i : Nat) : ∃ b r, Q8.f c (i : Int) = some (b, r) := by
 have hfl := h.frl
 have hB := z.B_le
 unfold Q8.f Q14.f
 rw [Option.bind_some, if_neg (by simp)]
 rcases h.get i with ⟨g1, g2⟩ | ⟨f, ha, g1, g2, ok⟩
 ·rw [if_pos (by simp [g1])]
  exact ⟨_, _, rfl⟩
 ·have hf := ok.hf
  have g : gt c.2.1 (f : Int) = c.2.1.getD f default := Yh _ _
  rw [if_neg (by simp [g1]), g2, if_pos (by omega)]
  by_cases hp0 : (gt c.2.1 (f : Int)).2.2.2 = 0
  ·rw [if_pos (decide_eq_true hp0)]
   exact ⟨_, _, rfl⟩
  ·rw [if_neg (by simpa using hp0), Wr (by rw [g, ok.len]; omega), Option.bind_some]
   exact ⟨_, _, rfl⟩
end
section
variable {N B n t : Nat} {c : Ca} {L : List Nat}
def V8 (fr : List Fr8) (mp : List (Int × Int)) (i : Int) : Bool := (gt fr (Zt 0 mp i)).2.2.1
def Xt (c : Ca) : List Int := (c.2.2.1.map Prod.fst).mergeSort fun x y => decide (x ≤ y)
theorem We (c : Ca) : (Xt c).Perm (c.2.2.1.map Prod.fst) := List.mergeSort_perm _ _
theorem Zgx (z : Siz N B n) (h : CaI N B n t [] c L) : Q79.f c.2.2.1 = some (Xt c) := by
 have h64 := z.h64
 have hN := z.N_le
 have hu := h.used
 unfold Q79.f
 rw [if_pos ?_]
 ·rfl
 ·unfold Vq
  simp only [Bool.and_eq_true, decide_eq_true_eq, List.all_eq_true]
  refine ⟨by omega, h.mnd, fun p hp => ?_⟩
  obtain ⟨i, f, e, ok⟩ := h.mok p hp
  have h1 := ok.hi
  have h2 := ok.hf
  rw [e]
  simp [Lit.wf, IntKind.min, IntKind.max, IntKind.signed, IntKind.bits]
  omega
theorem Bl (h : CaI N B n t [] c L) {x : Int} (hx : x ∈ Xt c) : ∃ i f : Nat, x = (i : Int) ∧ ((i : Int), (f : Int)) ∈ c.2.2.1 ∧ Zt 0 c.2.2.1 x = (f : Int) ∧ Okf N B n t c i f := by
 have := (We c).mem_iff.1 hx
 obtain ⟨p, hp, rfl⟩ := List.mem_map.1 this
 obtain ⟨i, f, e1, e2, ok⟩ := h.at (i := p.1) (f := p.2) hp
 have hp' : ((i : Int), (f : Int)) ∈ c.2.2.1 := by rw [← e1, ← e2]; exact hp
 exact ⟨i, f, e1, hp', by rw [e1]; exact Xh h.mnd hp', ok⟩
theorem Bb (z : Siz N B n) (h : CaI N B n t [] c L) : ∀ (m j k : Nat) (acc : List Int), (Xt c).length = j + m → m < k → acc.length + m ≤ 1000 → Q2.l0 k c (Xt c) acc (j : Int) = some (acc ++ ((Xt c).drop j).filter (V8 c.2.1 c.2.2.1))
 | 0, j, k + 1, acc, hj, hk, ha => by
  have hl : (Xt c).length ≤ 64 := by rw [(We c).length_eq, List.length_map]; have := h.used; have := z.h64; omega
  rw [Q2.l0, if_neg (by simp only [decide_eq_true_eq]; omega), List.drop_eq_nil_of_le (by omega)]; simp
 | m + 1, j, k + 1, acc, hj, hk, ha => by
  have hl : (Xt c).length ≤ 64 := by rw [(We c).length_eq, List.length_map]; have := h.used; have := z.h64; omega
  have hjl : j < (Xt c).length := by omega
  obtain ⟨i, f, e1, hp, e2, ok⟩ := Bl h (x := (Xt c).getD j default) (Vi hjl)
  have hf := ok.hf
  have hfl := h.frl
  rw [Q2.l0, if_pos (decide_eq_true (by omega)), if_pos (by omega), Yh, e2, if_pos (by omega), Wn hjl, List.filter_cons]
  have hd : V8 c.2.1 c.2.2.1 ((Xt c).getD j default) = (gt c.2.1 (f : Int)).2.2.1 := by unfold V8; rw [e2]
  rw [hd]
  by_cases q : (gt c.2.1 (f : Int)).2.2.1 = true
  ·rw [if_pos q, if_pos q, if_pos (by simp only [List.length_singleton]; omega), Xd (by omega), Bb z h m (j + 1) k _ (by omega) (by omega) (by rw [List.length_append, List.length_singleton]; omega), List.append_assoc]; rfl
  ·rw [if_neg q, if_neg q, Xd (by omega), Bb z h m (j + 1) k _ (by omega) (by omega) (by omega)]
def Xs (c : Ca) : List Int := (Xt c).filter (V8 c.2.1 c.2.2.1)
theorem Zcf (z : Siz N B n) (h : CaI N B n t [] c L) {k : Nat} (hk : 100 < k) : Q2.f k c = some (Xs c) := by
 have hl : (Xt c).length ≤ 64 := by rw [(We c).length_eq, List.length_map]; have := h.used; have := z.h64; omega
 unfold Q2.f Q14.f
 rw [Option.bind_some, if_neg (by simp), Zgx z h, Option.bind_some]
 exact Bb z h (Xt c).length 0 k [] (by omega) (by omega) (by simp; omega)
theorem Vf (z : Siz N B n) (h : CaI N B n t [] c L) : (Xs c).length ≤ n := by
 have h1 := List.length_filter_le (V8 c.2.1 c.2.2.1) (Xt c)
 have h2 : (Xt c).length = c.2.2.1.length := by rw [(We c).length_eq, List.length_map]
 have h3 := h.used
 unfold Xs
 omega
theorem Be (z : Siz N B n) (h : CaI N B n t [] c L) : ∀ (m j k : Nat) (d : Dv) (fr : List Fr8), (Xs c).length = j + m → m < k → CaI N B n t [] (d, fr, c.2.2) L → 0 ≤ d.2.2.2 ∧ d.2.2.2 + m ≤ 200000000 →
  ∃ c', Q4.l0 k c (Xs c) d.1 d.2.1 d.2.2.1 d.2.2.2 fr (j : Int) = some (0, c') ∧ CaI N B n t [] c' L ∧ c'.1.2.2.1 = d.2.2.1 ∧ d.2.2.2 ≤ c'.1.2.2.2 ∧ c'.1.2.2.2 ≤ d.2.2.2 + m
 | 0, j, k + 1, d, fr, hj, hk, hi, hw => by
  have hl := Vf z h
  rw [Q4.l0, if_neg (by simp only [decide_eq_true_eq]; omega)]
  exact ⟨_, rfl, hi, rfl, by dsimp only; omega, by dsimp only; omega⟩
 | m + 1, j, k + 1, d, fr, hj, hk, hi, hw => by
  have hl := Vf z h
  have h64 := z.h64
  have hjl : j < (Xs c).length := by omega
  have hin : (Xs c).getD j default ∈ Xt c := (List.mem_filter.1 (Vi (l := Xs c) hjl)).1
  obtain ⟨i, f, e1, hp, e2, ok⟩ := Bl h hin
  have hf := ok.hf
  have hfl := hi.frl
  rw [Q4.l0, if_pos (decide_eq_true (by omega)), if_pos (by omega), Yh, e2, if_pos (by dsimp only at hfl; omega)]
  by_cases q : (gt fr (f : Int)).2.2.1 = true
  ·have hb := hi.back z (i := i) (f := f) hp (d.2.2.1, d.2.2.2 + 1)
   have hwr := Bv z hi (i := i) (f := f) hp
   rw [if_pos q, show Q34.f (d.1, d.2.1, (d.2.2.1, d.2.2.2)) (gt fr (f : Int)).1 (gt fr (f : Int)).2.1 = _ from hwr, Option.bind_some]
   try dsimp only
   rw [B0 (by omega), Int.toNat_natCast, Xd (by omega)]
   obtain ⟨c', g1, g2, g3, g4, g5⟩ := Be z h m (j + 1) k (d.1, Yu d.2.1 (i * B) B (gt fr (f : Int)).2.1, d.2.2.1, d.2.2.2 + 1) (fr.set f ((gt fr (f : Int)).1, (gt fr (f : Int)).2.1, false, (gt fr (f : Int)).2.2.2)) (by omega) (by omega) hb (by dsimp only; omega)
   exact ⟨c', g1, g2, g3, by dsimp only at g4; omega, by dsimp only at g5; omega⟩
  ·rw [if_neg q, Xd (by omega)]
   obtain ⟨c', g1, g2, g3, g4, g5⟩ := Be z h m (j + 1) k d fr (by omega) (by omega) hi (by omega)
   exact ⟨c', g1, g2, g3, g4, by omega⟩
theorem Zhe (z : Siz N B n) (h : CaI N B n t [] c L) (fw : Few c) {k : Nat} (hk : 200 < k) : ∃ r c', Q4.f k c = some (r, c') ∧ Costs N B n t 0 n c c' := by
 have hl := Vf z h
 have h64 := z.h64
 unfold Q4.f Q14.f
 rw [Option.bind_some, if_neg (by simp), show Q2.f k ((c.1.1, c.1.2.1, (c.1.2.2.1, c.1.2.2.2)), c.2.1, c.2.2.1, c.2.2.2.1, (c.2.2.2.2.1, c.2.2.2.2.2)) = _ from Zcf z h (by omega), Option.bind_some]
 obtain ⟨c', g1, g2, g3, g4, g5⟩ := Be z h (Xs c).length 0 k c.1 c.2.1 (by omega) (by omega) h ⟨fw.wr.1, by have := fw.wr.2; omega⟩
 exact ⟨_, c', g1, ⟨⟨_, g2⟩, by omega, by omega⟩⟩
def cR (kd : Int) : Nat := if kd = 0 ∨ kd = 1 then 1 else 0
def cW (n : Nat) (kd : Int) : Nat := if kd = 0 ∨ kd = 1 ∨ kd = 2 then 1 else if kd = 8 then n else 0
theorem Costs.le {a a' b b' t' : Nat} {c c' : Ca} (h : Costs N B n t a b c c') (ht : t ≤ t') (ha : a ≤ a') (hb : b ≤ b') : Costs N B n t' a' b' c c' :=
 ⟨by obtain ⟨L, hL⟩ := h.inv; exact ⟨L, hL.mono ht⟩, by have := h.rd; omega, by have := h.wr; omega⟩
theorem Zif (z : Siz N B n) (h : CaI N B n t [] c L) (fw : Few c) (ht : t ≤ 1000000) (kd : Int) (i : Nat) (hi : i < 4294967296) (b : List Int) {k : Nat} (hk : 200 < k) : ∃ r c', Q56.f k c (kd, (i : Int), b) = some (r, c') ∧ Costs N B n (t + 1) (cR kd) (cW n kd) c c' := by
 have z0 : Costs N B n (t + 1) (cR kd) (cW n kd) c c := Costs.same (h.mono (Nat.le_succ t)) _ _
 unfold Q56.f
 try dsimp only
 by_cases q0 : kd = 0
 ·subst q0
  obtain ⟨r, c', e, hc⟩ := Zh3 z h fw ht i hi
  rw [if_pos (decide_eq_true rfl), show Q6.f ((c.1.1, c.1.2.1, (c.1.2.2.1, c.1.2.2.2)), c.2.1, c.2.2.1, c.2.2.2.1, (c.2.2.2.2.1, c.2.2.2.2.2)) (i : Int) = _ from e]
  exact ⟨_, _, rfl, hc⟩
 rw [if_neg (by simpa using q0)]
 by_cases q1 : kd = 1
 ·subst q1
  obtain ⟨r, c', e, hc⟩ := Zh3 z h fw ht i hi
  rw [if_pos (decide_eq_true rfl), show Q6.f ((c.1.1, c.1.2.1, (c.1.2.2.1, c.1.2.2.2)), c.2.1, c.2.2.1, c.2.2.2.1, (c.2.2.2.2.1, c.2.2.2.2.2)) (i : Int) = _ from e]
  exact ⟨_, _, rfl, hc⟩
 rw [if_neg (by simpa using q1)]
 by_cases q2 : kd = 2
 ·subst q2
  obtain ⟨r, c', e, hc⟩ := Zhs z h fw ht i hi
  rw [if_pos (decide_eq_true rfl), show Q5.f ((c.1.1, c.1.2.1, (c.1.2.2.1, c.1.2.2.2)), c.2.1, c.2.2.1, c.2.2.2.1, (c.2.2.2.2.1, c.2.2.2.2.2)) (i : Int) = _ from e]
  exact ⟨_, _, rfl, hc⟩
 rw [if_neg (by simpa using q2)]
 by_cases q3 : kd = 3
 ·obtain ⟨r, c', e, hc⟩ := Zeh z h ht i
  rw [if_pos (decide_eq_true q3), show Q10.f ((c.1.1, c.1.2.1, (c.1.2.2.1, c.1.2.2.2)), c.2.1, c.2.2.1, c.2.2.2.1, (c.2.2.2.2.1, c.2.2.2.2.2)) (i : Int) = _ from e]
  exact ⟨_, _, rfl, hc.le (Nat.le_succ t) (Nat.zero_le _) (Nat.zero_le _)⟩
 rw [if_neg (by simpa using q3)]
 by_cases q4 : kd = 4
 ·obtain ⟨r, c', e, hc⟩ := Zeh z h ht i
  rw [if_pos (decide_eq_true q4), show Q10.f ((c.1.1, c.1.2.1, (c.1.2.2.1, c.1.2.2.2)), c.2.1, c.2.2.1, c.2.2.2.1, (c.2.2.2.2.1, c.2.2.2.2.2)) (i : Int) = _ from e]
  exact ⟨_, _, rfl, hc.le (Nat.le_succ t) (Nat.zero_le _) (Nat.zero_le _)⟩
 rw [if_neg (by simpa using q4)]
 by_cases q5 : kd = 5
 ·obtain ⟨r, c', e, hc⟩ := Zed z h i b
  rw [if_pos (decide_eq_true q5), show Q12.f ((c.1.1, c.1.2.1, (c.1.2.2.1, c.1.2.2.2)), c.2.1, c.2.2.1, c.2.2.2.1, (c.2.2.2.2.1, c.2.2.2.2.2)) (i : Int) b = _ from e]
  exact ⟨_, _, rfl, hc.le (Nat.le_succ t) (Nat.zero_le _) (Nat.zero_le _)⟩
 rw [if_neg (by simpa using q5)]
 by_cases q6 : kd = 6
 ·obtain ⟨r, c', e, hc⟩ := Zed z h i b
  rw [if_pos (decide_eq_true q6), show Q12.f ((c.1.1, c.1.2.1, (c.1.2.2.1, c.1.2.2.2)), c.2.1, c.2.2.1, c.2.2.2.1, (c.2.2.2.2.1, c.2.2.2.2.2)) (i : Int) b = _ from e]
  exact ⟨_, _, rfl, hc.le (Nat.le_succ t) (Nat.zero_le _) (Nat.zero_le _)⟩
 rw [if_neg (by simpa using q6)]
 by_cases q7 : kd = 7
 ·obtain ⟨r, c', e, hc⟩ := Zh7 z h i
  rw [if_pos (decide_eq_true q7), show Q3.f ((c.1.1, c.1.2.1, (c.1.2.2.1, c.1.2.2.2)), c.2.1, c.2.2.1, c.2.2.2.1, (c.2.2.2.2.1, c.2.2.2.2.2)) (i : Int) = _ from e]
  exact ⟨_, _, rfl, hc.le (Nat.le_succ t) (Nat.zero_le _) (Nat.zero_le _)⟩
 rw [if_neg (by simpa using q7)]
 by_cases q8 : kd = 8
 ·subst q8
  obtain ⟨r, c', e, hc⟩ := Zhe z h fw hk
  rw [if_pos (decide_eq_true rfl), show Q4.f k ((c.1.1, c.1.2.1, (c.1.2.2.1, c.1.2.2.2)), c.2.1, c.2.2.1, c.2.2.2.1, (c.2.2.2.2.1, c.2.2.2.2.2)) = _ from e]
  exact ⟨_, _, rfl, hc.le (Nat.le_succ t) (Nat.zero_le _) (Nat.le_refl _)⟩
 rw [if_neg (by simpa using q8)]
 by_cases q9 : kd = 9
 ·obtain ⟨b2, r, e⟩ := Zin z h i
  rw [if_pos (decide_eq_true q9), show Q8.f ((c.1.1, c.1.2.1, (c.1.2.2.1, c.1.2.2.2)), c.2.1, c.2.2.1, c.2.2.2.1, (c.2.2.2.2.1, c.2.2.2.2.2)) (i : Int) = _ from e]
  exact ⟨_, _, rfl, z0⟩
 rw [if_neg (by simpa using q9)]
 exact ⟨_, _, rfl, z0⟩
theorem Zh2 (z : Siz N B n) {img : List Int} (hl : img.length = N * B) (s : Int × Int) {ch : Chn} (hc : ChI n ch []) : CaI N B n 0 [] (((B : Int), img, s), List.replicate n (0, [], false, 0), [], (List.range n).map (fun (i : Nat) => (i : Int)), ch) [] := by
 refine ⟨rfl, hl, by simp, by simp, by simp, fun x hx => ?_, ?_, by simp, by simp, hc, by simp⟩
 ·obtain ⟨i, hi, rfl⟩ := List.mem_map.1 hx
  exact ⟨i, rfl, List.mem_range.1 hi⟩
 ·exact List.Pairwise.map _ (fun a b hne e => hne (by have : (a : Int) = (b : Int) := e; omega)) List.nodup_range
end
structure Fm where
 b : List Int
 d : Bool
 p : Nat
structure MC where
 img : List Int
 rd : Int
 wr : Int
 fr : Nat → Option Fm
 used : Nat
 row : List Nat
def upd {α : Type} (g : Nat → α) (i : Nat) (v : α) : Nat → α := fun j => if j = i then v else g j
theorem X7 {α : Type} (g : Nat → α) (i : Nat) (v : α) : upd g i v i = v := if_pos rfl
theorem Wb {α : Type} {g : Nat → α} {i j : Nat} {v : α} (h : j ≠ i) : upd g i v j = g j := if_neg h
def fm (x : Fr8) : Fm := ⟨x.2.1, x.2.2.1, x.2.2.2.toNat⟩
def Y9 (c : Ca) (i : Nat) : Option Fm := if Yy c.2.2.1 (i : Int) = true then some (fm (c.2.1.getD (Zt 0 c.2.2.1 (i : Int)).toNat default)) else none
def Xc (c : Ca) (f : Nat) : Nat := (c.2.1.getD f default).1.toNat
def Ye (c : Ca) (L : List Nat) : MC := ⟨c.1.2.1, c.1.2.2.1, c.1.2.2.2, Y9 c, c.2.2.1.length, L.map (Xc c)⟩
namespace MC
def evict (B : Nat) (m : MC) (q : Nat) : MC := match m.fr q with
 | none => m
 | some x => ⟨if x.d = true then Yu m.img (q * B) B x.b else m.img, m.rd, if x.d = true then m.wr + 1 else m.wr, upd m.fr q none, m.used - 1, m.row.erase q⟩
def room (B n : Nat) (m : MC) : Option MC := if m.used < n then some m else match m.row.getLast? with
 | none => none
 | some q => some (m.evict B q)
def come (m : MC) (i : Nat) (x : Fm) : MC := ⟨m.img, m.rd, m.wr, upd m.fr i (some x), m.used + 1, m.row⟩
def put (m : MC) (i : Nat) (x : Fm) : MC := ⟨m.img, m.rd, m.wr, upd m.fr i (some x), m.used, m.row⟩
def cut (m : MC) (i : Nat) : MC := ⟨m.img, m.rd, m.wr, m.fr, m.used, m.row.erase i⟩
def pin (N B n : Nat) (m : MC) (i : Nat) : Int × MC :=
 if N ≤ i then (4, m) else match m.fr i with
 | some x => (0, (m.put i ⟨x.b, x.d, x.p + 1⟩).cut i)
 | none => match m.room B n with
  | none => (7, m)
  | some k => (0, (⟨k.img, k.rd + 1, k.wr, k.fr, k.used, k.row⟩ : MC).come i ⟨blk k.img B i, false, 1⟩)
def fresh (N B n : Nat) (m : MC) (i : Nat) : Int × MC :=
 if N ≤ i then (4, m) else match m.fr i with
 | some x => if 0 < x.p then (8, m) else (0, (m.put i ⟨List.replicate B 0, true, 1⟩).cut i)
 | none => match m.room B n with
  | none => (7, m)
  | some k => (0, k.come i ⟨List.replicate B 0, true, 1⟩)
def unpin (m : MC) (i : Nat) : Int × MC := match m.fr i with
 | none => (8, m)
 | some x => if x.p = 0 then (8, m) else (0, if x.p = 1 then ⟨m.img, m.rd, m.wr, upd m.fr i (some ⟨x.b, x.d, 0⟩), m.used, i :: m.row⟩ else m.put i ⟨x.b, x.d, x.p - 1⟩)
def write (B : Nat) (m : MC) (i : Nat) (b : List Int) : Int × MC := match m.fr i with
 | none => (8, m)
 | some x => if x.p = 0 then (8, m) else if b.length = B then (0, m.put i ⟨b, true, x.p⟩) else (3, m)
def read (m : MC) (i : Nat) : List Int × Int := match m.fr i with
 | none => ([], 8)
 | some x => if x.p = 0 then ([], 8) else (x.b, 0)
def drop (m : MC) (i : Nat) : Int × MC := match m.fr i with
 | none => (0, m)
 | some x => if 0 < x.p then (8, m) else (0, ⟨m.img, m.rd, m.wr, upd m.fr i none, m.used - 1, m.row.erase i⟩)
def isD (m : MC) (i : Nat) : Bool := match m.fr i with
 | none => false
 | some x => x.d
def dirty (N : Nat) (m : MC) : List Nat := (List.range N).filter m.isD
def backI (B : Nat) (m : MC) (i : Nat) : MC := match m.fr i with
 | none => m
 | some x => ⟨Yu m.img (i * B) B x.b, m.rd, m.wr + 1, upd m.fr i (some ⟨x.b, false, x.p⟩), m.used, m.row⟩
def flush (N B : Nat) (m : MC) : MC := (m.dirty N).foldl (backI B) m
def pins (m : MC) (i : Nat) : Int := match m.fr i with
 | none => 0
 | some x => x.p
end MC
theorem MC.ext' {a b : MC} (h1 : a.img = b.img) (h2 : a.rd = b.rd) (h3 : a.wr = b.wr) (h4 : ∀ i, a.fr i = b.fr i) (h5 : a.used = b.used) (h6 : a.row = b.row) : a = b := by
 cases a; cases b
 simp only at h1 h2 h3 h4 h5 h6
 subst h1 h2 h3 h5 h6
 have := funext h4
 subst this
 rfl
theorem Js {g : Nat → Nat} : ∀ {L : List Nat} {a : Nat}, (∀ x ∈ L, g x = g a → x = a) → (L.erase a).map g = (L.map g).erase (g a)
 | [], _, _ => rfl
 | x :: L, a, h => by
  rw [List.map_cons, List.erase_cons, List.erase_cons]
  by_cases q : x = a
  ·subst q; simp
  ·have : ¬ g x = g a := fun e => q (h x (by simp) e)
   simp only [beq_iff_eq, q, this, if_false, List.map_cons]
   rw [Js fun y hy => h y (by simp [hy])]
section
variable {N B n t : Nat} {H : List Nat} {c : Ca} {L : List Nat}
theorem Xp (h : CaI N B n t H c L) {i f : Nat} (ha : ((i : Int), (f : Int)) ∈ c.2.2.1) : Y9 c i = some (fm (c.2.1.getD f default)) := by
 unfold Y9
 rw [if_pos (mhas_iff.2 ⟨_, ha⟩), Xh h.mnd ha, Int.toNat_natCast]
theorem Wj {i : Nat} (h : ∀ v, ((i : Int), v) ∉ c.2.2.1) : Y9 c i = none := by
 unfold Y9
 rw [if_neg fun q => by obtain ⟨v, hv⟩ := mhas_iff.1 q; exact h v hv]
theorem X8 (h : CaI N B n t [] c L) {f : Nat} (hf : f ∈ L) : ∃ i : Nat, ((i : Int), (f : Int)) ∈ c.2.2.1 ∧ Xc c f = i ∧ (c.2.1.getD f default).2.2.2 = 0 ∧ Okf N B n t c i f := by
 obtain ⟨⟨j, hj⟩, hp⟩ := (h.lok f).1 hf
 obtain ⟨i, f', e1, e2, ok⟩ := h.at hj
 have : f = f' := by omega
 subst this
 refine ⟨i, by rw [← e1]; exact hj, ?_, hp, ok⟩
 unfold Xc
 rw [ok.blk, Int.toNat_natCast]
theorem V0 (h : CaI N B n t H c L) {i f : Nat} (ha : ((i : Int), (f : Int)) ∈ c.2.2.1) : Xc c f = i := by
 unfold Xc; rw [(h.atN ha).blk, Int.toNat_natCast]
theorem J9 (h : CaI N B n t H c L) {i f f' : Nat} (h1 : ((i : Int), (f : Int)) ∈ c.2.2.1) (h2 : ((i : Int), (f' : Int)) ∈ c.2.2.1) : f = f' := by
 have a1 := Xh (d := 0) h.mnd h1
 have a2 := Xh (d := 0) h.mnd h2
 omega
theorem Vp (h : CaI N B n t [] c L) {i f : Nat} (ha : ((i : Int), (f : Int)) ∈ c.2.2.1) : (L.erase f).map (Xc c) = (L.map (Xc c)).erase i := by
 have e := V0 h ha
 conv => rhs; rw [← e]
 refine Js fun x hx q => ?_
 obtain ⟨j, hj, e2, _⟩ := X8 h hx
 have : j = i := by omega
 subst this
 exact J9 h hj ha
theorem Zgv (h : CaI N B n t [] c L) {i f : Nat} (ha : ((i : Int), (f : Int)) ∈ c.2.2.1) : i ∈ L.map (Xc c) ↔ f ∈ L := by
 constructor
 ·intro q
  obtain ⟨x, hx, e⟩ := List.mem_map.1 q
  obtain ⟨j, hj, e2, _⟩ := X8 h hx
  have : j = i := by omega
  subst this
  rw [← J9 h hj ha]; exact hx
 ·intro q
  exact List.mem_map.2 ⟨f, q, V0 h ha⟩
theorem Zak {f : Nat} {x : Fr8} (hf : f < c.2.1.length) {d : Dv} {mp : List (Int × Int)} {E : List Int} {ch : Chn} (k : Nat) : Xc (d, c.2.1.set f x, mp, E, ch) k = if f = k then x.1.toNat else Xc c k := by
 unfold Xc
 try dsimp only
 rw [Y0 hf]
 split <;> rfl
theorem X0 {f : Nat} {x : Fr8} (hf : f < c.2.1.length) (hx : x.1.toNat = Xc c f) {d : Dv} {mp : List (Int × Int)} {E : List Int} {ch : Chn} (M : List Nat) : M.map (Xc (d, c.2.1.set f x, mp, E, ch)) = M.map (Xc c) := List.map_congr_left fun k _ => by
 rw [Zak hf]
 split
 ·rename_i q; rw [hx, q]
 ·rfl
theorem Ww {f : Nat} {x : Fr8} (hf : f < c.2.1.length) {d : Dv} {mp : List (Int × Int)} {E : List Int} {ch : Chn} {M : List Nat} (hM : f ∉ M) : M.map (Xc (d, c.2.1.set f x, mp, E, ch)) = M.map (Xc c) := List.map_congr_left fun k hk => by
 rw [Zak hf, if_neg fun q => hM (by rw [q]; exact hk)]
theorem W5 (h : CaI N B n t H c L) {i f : Nat} (ha : ((i : Int), (f : Int)) ∈ c.2.2.1) {x : Fr8} {d : Dv} {E : List Int} {ch : Chn} (j : Nat) : Y9 (d, c.2.1.set f x, c.2.2.1, E, ch) j = upd (Y9 c) i (some (fm x)) j := by
 have ok := h.atN ha
 have hfl : f < c.2.1.length := by rw [h.frl]; exact ok.hf
 by_cases q : j = i
 ·subst q
  rw [X7]
  unfold Y9
  try dsimp only
  rw [if_pos (mhas_iff.2 ⟨_, ha⟩), Xh h.mnd ha, Int.toNat_natCast, Y0 hfl, if_pos rfl]
 ·rw [Wb q]
  unfold Y9
  try dsimp only
  split
  ·rename_i hm
   obtain ⟨v, hv⟩ := mhas_iff.1 hm
   obtain ⟨j', f', e1, rfl, ok'⟩ := h.at hv
   have e3 : j = j' := by omega
   subst e3
   rw [Xh h.mnd hv, Int.toNat_natCast, Y0 hfl, if_neg]
   intro e; subst e; exact q (h.one hv ha)
  ·rfl
theorem Zam (h : CaI N B n t H c L) (i j : Nat) : Yy (Xn (i : Int) c.2.2.1) (j : Int) = (Yy c.2.2.1 (j : Int) && decide (j ≠ i)) := by
 rw [Bool.eq_iff_iff, mhas_iff, Bool.and_eq_true, mhas_iff, decide_eq_true_eq]
 constructor
 ·rintro ⟨v, hv⟩
  rw [W6 h.mnd] at hv
  exact ⟨⟨v, hv.1⟩, fun e => hv.2 (by rw [e])⟩
 ·rintro ⟨⟨v, hv⟩, e⟩
  exact ⟨v, (W6 h.mnd).2 ⟨hv, fun q => e (by have : (j : Int) = i := q; omega)⟩⟩
theorem Uz (h : CaI N B n t H c L) {i f : Nat} (ha : ((i : Int), (f : Int)) ∈ c.2.2.1) {x : Fr8} {d : Dv} {E : List Int} {ch : Chn} (j : Nat) : Y9 (d, c.2.1.set f x, Xn (i : Int) c.2.2.1, E, ch) j = upd (Y9 c) i none j := by
 have ok := h.atN ha
 have hfl : f < c.2.1.length := by rw [h.frl]; exact ok.hf
 by_cases q : j = i
 ·subst q
  rw [X7]
  unfold Y9
  try dsimp only
  rw [if_neg (by rw [Zam h]; simp)]
 ·rw [Wb q]
  unfold Y9
  try dsimp only
  rw [Zam h]
  by_cases hm : Yy c.2.2.1 (j : Int) = true
  ·obtain ⟨v, hv⟩ := mhas_iff.1 hm
   obtain ⟨j', f', e1, rfl, ok'⟩ := h.at hv
   have e3 : j = j' := by omega
   subst e3
   have hv' : ((j : Int), (f' : Int)) ∈ Xn (i : Int) c.2.2.1 := (W6 h.mnd).2 ⟨hv, fun e => q (by have : (j : Int) = i := e; omega)⟩
   rw [if_pos (by rw [hm]; simp [q]), if_pos hm, Xh ((mdel_sub.map _).nodup h.mnd) hv', Xh h.mnd hv, Int.toNat_natCast, Y0 hfl, if_neg]
   intro e; subst e; exact q (h.one hv ha)
  ·rw [if_neg hm, if_neg (by simp [hm])]
theorem Zay {f : Nat} (h : CaI N B n t [f] c L) {i : Nat} (hno : ∀ v, ((i : Int), v) ∉ c.2.2.1) {x : Fr8} {d : Dv} {E : List Int} {ch : Chn} (j : Nat) : Y9 (d, c.2.1.set f x, c.2.2.1 ++ [((i : Int), (f : Int))], E, ch) j = upd (Y9 c) i (some (fm x)) j := by
 obtain ⟨hf, hfe, hfm⟩ := h.hol f (by simp)
 have hfl : f < c.2.1.length := by rw [h.frl]; exact hf
 have hnd : ((c.2.2.1 ++ [((i : Int), (f : Int))]).map Prod.fst).Nodup := by
  rw [List.map_append, List.nodup_append]
  refine ⟨h.mnd, by simp, fun a ha b hb e => ?_⟩
  obtain ⟨p, hp, rfl⟩ := List.mem_map.1 ha
  simp only [List.map_cons, List.map_nil, List.mem_singleton] at hb
  exact hno p.2 (by rw [← hb, ← e]; exact hp)
 unfold Y9
 try dsimp only
 by_cases q : j = i
 ·subst q
  have hv : ((j : Int), (f : Int)) ∈ c.2.2.1 ++ [((j : Int), (f : Int))] := by simp
  rw [X7, if_pos (mhas_iff.2 ⟨_, hv⟩), Xh hnd hv, Int.toNat_natCast, Y0 hfl, if_pos rfl]
 ·rw [Wb q]
  by_cases hm : Yy c.2.2.1 (j : Int) = true
  ·obtain ⟨v, hv⟩ := mhas_iff.1 hm
   obtain ⟨j', f', e1, rfl, ok'⟩ := h.at hv
   have e3 : j = j' := by omega
   subst e3
   have hv' : ((j : Int), (f' : Int)) ∈ c.2.2.1 ++ [((i : Int), (f : Int))] := by simp [hv]
   rw [if_pos (mhas_iff.2 ⟨_, hv'⟩), if_pos hm, Xh hnd hv', Xh h.mnd hv, Int.toNat_natCast, Y0 hfl, if_neg]
   intro e; subst e; exact hfm _ hv
  ·rw [if_neg hm, if_neg]
   intro hm2
   obtain ⟨v, hv⟩ := mhas_iff.1 hm2
   rcases List.mem_append.1 hv with hv | hv
   ·exact hm (mhas_iff.2 ⟨v, hv⟩)
   ·rw [List.mem_singleton, Prod.mk.injEq] at hv
    exact q (by omega)
theorem Zg4 (h : CaI N B n t H c L) {i : Nat} {x : Fm} (hx : Y9 c i = some x) : i < N ∧ x.b.length = B ∧ x.p ≤ t := by
 unfold Y9 at hx
 split at hx
 ·rename_i hm
  obtain ⟨v, hv⟩ := mhas_iff.1 hm
  obtain ⟨j', f', e1, rfl, ok'⟩ := h.at hv
  have e3 : i = j' := by omega
  subst e3
  rw [Xh h.mnd hv, Int.toNat_natCast] at hx
  injection hx with hx
  subst hx
  refine ⟨ok'.hi, ok'.len, ?_⟩
  have := ok'.pin
  unfold fm
  try dsimp only
  omega
 ·cases hx
end
namespace MC
section
variable {N B n i : Nat} {m k : MC} {x : Fm} {b : List Int}
theorem pin_out (h : N ≤ i) : m.pin N B n i = (4, m) := by unfold pin; rw [if_pos h]
theorem pin_hit (h : ¬ N ≤ i) (e : m.fr i = some x) : m.pin N B n i = (0, (m.put i ⟨x.b, x.d, x.p + 1⟩).cut i) := by unfold pin; rw [if_neg h, e]
theorem pin_full (h : ¬ N ≤ i) (e : m.fr i = none) (r : m.room B n = none) : m.pin N B n i = (7, m) := by unfold pin; rw [if_neg h, e, r]
theorem pin_miss (h : ¬ N ≤ i) (e : m.fr i = none) (r : m.room B n = some k) : m.pin N B n i = (0, (⟨k.img, k.rd + 1, k.wr, k.fr, k.used, k.row⟩ : MC).come i ⟨blk k.img B i, false, 1⟩) := by unfold pin; rw [if_neg h, e, r]
theorem fresh_out (h : N ≤ i) : m.fresh N B n i = (4, m) := by unfold fresh; rw [if_pos h]
theorem fresh_pin (h : ¬ N ≤ i) (e : m.fr i = some x) (p : 0 < x.p) : m.fresh N B n i = (8, m) := by unfold fresh; rw [if_neg h, e]; exact if_pos p
theorem fresh_hit (h : ¬ N ≤ i) (e : m.fr i = some x) (p : ¬ 0 < x.p) : m.fresh N B n i = (0, (m.put i ⟨List.replicate B 0, true, 1⟩).cut i) := by unfold fresh; rw [if_neg h, e]; exact if_neg p
theorem fresh_full (h : ¬ N ≤ i) (e : m.fr i = none) (r : m.room B n = none) : m.fresh N B n i = (7, m) := by unfold fresh; rw [if_neg h, e, r]
theorem fresh_miss (h : ¬ N ≤ i) (e : m.fr i = none) (r : m.room B n = some k) : m.fresh N B n i = (0, k.come i ⟨List.replicate B 0, true, 1⟩) := by unfold fresh; rw [if_neg h, e, r]
theorem unpin_no (e : m.fr i = none) : m.unpin i = (8, m) := by unfold unpin; rw [e]
theorem unpin_out (e : m.fr i = some x) (p : x.p = 0) : m.unpin i = (8, m) := by unfold unpin; rw [e]; exact if_pos p
theorem unpin_one (e : m.fr i = some x) (p : x.p = 1) : m.unpin i = (0, ⟨m.img, m.rd, m.wr, upd m.fr i (some ⟨x.b, x.d, 0⟩), m.used, i :: m.row⟩) := by unfold unpin; rw [e]; dsimp only; rw [if_neg (by omega), if_pos p]
theorem unpin_more (e : m.fr i = some x) (p : x.p ≠ 0) (q : x.p ≠ 1) : m.unpin i = (0, m.put i ⟨x.b, x.d, x.p - 1⟩) := by unfold unpin; rw [e]; dsimp only; rw [if_neg p, if_neg q]
theorem write_no (e : m.fr i = none) : m.write B i b = (8, m) := by unfold write; rw [e]
theorem write_out (e : m.fr i = some x) (p : x.p = 0) : m.write B i b = (8, m) := by unfold write; rw [e]; exact if_pos p
theorem write_form (e : m.fr i = some x) (p : x.p ≠ 0) (q : b.length ≠ B) : m.write B i b = (3, m) := by unfold write; rw [e]; dsimp only; rw [if_neg p, if_neg q]
theorem write_hit (e : m.fr i = some x) (p : x.p ≠ 0) (q : b.length = B) : m.write B i b = (0, m.put i ⟨b, true, x.p⟩) := by unfold write; rw [e]; dsimp only; rw [if_neg p, if_pos q]
theorem read_no (e : m.fr i = none) : m.read i = ([], 8) := by unfold read; rw [e]
theorem read_out (e : m.fr i = some x) (p : x.p = 0) : m.read i = ([], 8) := by unfold read; rw [e]; exact if_pos p
theorem read_hit (e : m.fr i = some x) (p : x.p ≠ 0) : m.read i = (x.b, 0) := by unfold read; rw [e]; exact if_neg p
theorem drop_no (e : m.fr i = none) : m.drop i = (0, m) := by unfold drop; rw [e]
theorem drop_pin (e : m.fr i = some x) (p : 0 < x.p) : m.drop i = (8, m) := by unfold drop; rw [e]; exact if_pos p
theorem drop_hit (e : m.fr i = some x) (p : ¬ 0 < x.p) : m.drop i = (0, ⟨m.img, m.rd, m.wr, upd m.fr i none, m.used - 1, m.row.erase i⟩) := by unfold drop; rw [e]; exact if_neg p
theorem evict_eq (e : m.fr i = some x) : m.evict B i = ⟨if x.d = true then Yu m.img (i * B) B x.b else m.img, m.rd, if x.d = true then m.wr + 1 else m.wr, upd m.fr i none, m.used - 1, m.row.erase i⟩ := by unfold evict; rw [e]
end
end MC
section
variable {N B n t : Nat} {H : List Nat} {c : Ca} {L : List Nat}
theorem Zg0 {α : Type} (g : Nat → α) (i : Nat) (u v : α) (j : Nat) : upd (upd g i u) i v j = upd g i v j := by unfold upd; split <;> rfl
theorem Zeq {α : Type} {g g' : Nat → α} (h : ∀ j, g j = g' j) (i : Nat) (v : α) (j : Nat) : upd g i v j = upd g' i v j := by unfold upd; split; rfl; exact h j
theorem Ju (h : CaI N B n t [] c L) (f : Nat) : f ∉ L.erase f := fun q => (h.chn.nd.mem_erase_iff.1 q).1 rfl
theorem Zf9 (z : Siz N B n) (h : CaI N B n t [] c L) (hw : 0 ≤ c.1.2.2.2 ∧ c.1.2.2.2 ≤ 1000000000) : (Q15.f c = some (0, false, c) ∧ (Ye c L).room B n = none) ∨
  ∃ (f : Nat) (c' : Ca) (L' : List Nat), Q15.f c = some ((f : Int), true, c') ∧ CaI N B n t [f] c' L' ∧ (Ye c L).room B n = some (Ye c' L') ∧ f ∉ L' := by
 have h64 := z.h64
 have htot := h.tot
 have hfl := h.frl
 have wr : IntKind.u64.wrap (c.1.2.2.2 + 1) = c.1.2.2.2 + 1 := B0 hw
 have hru : (Ye c L).used = c.2.2.1.length := rfl
 by_cases he : c.2.2.2.1 = []
 ·have e0 : (decide ((c.2.2.2.1.length : Int) = 0)) = true := by rw [he]; rfl
  have eu : ¬ (Ye c L).used < n := by rw [hru]; rw [he] at htot; simp only [List.length_nil] at htot; omega
  rcases List.eq_nil_or_concat L with rfl | ⟨L0, q, hq⟩
  ·left
   refine ⟨?_, ?_⟩
   ·unfold Q15.f
    rw [if_pos e0, show Q19.f (c.2.2.2.2.1, c.2.2.2.2.2) = _ from Zao h.chn, Option.bind_some, if_pos (by simp)]
   ·unfold MC.room
    rw [if_neg eu]
    rfl
  ·right
   rw [List.concat_eq_append] at hq
   subst hq
   obtain ⟨⟨j, hj⟩, hp⟩ := (h.lok q).1 (by simp)
   obtain ⟨i, q', rfl, e2, ok⟩ := h.at hj
   have : q = q' := by omega
   subst this
   have hf := ok.hf
   have hqn : q ∉ (L0 ++ [q]).erase q := Ju h q
   have hfr := Xp h hj
   have g : gt c.2.1 (q : Int) = c.2.1.getD q default := Yh _ _
   have hrm : (Ye c (L0 ++ [q])).room B n = some ((Ye c (L0 ++ [q])).evict B i) := by
    unfold MC.room
    rw [if_neg eu]
    have : (Ye c (L0 ++ [q])).row.getLast? = some i := by
     show ((L0 ++ [q]).map (Xc c)).getLast? = _
     rw [List.map_append, List.map_cons, List.map_nil, List.getLast?_concat, V0 h hj]
    rw [this]
   have hml := U4 (mhas_iff.2 ⟨_, hj⟩)
   unfold Q15.f
   rw [if_pos e0, show Q19.f (c.2.2.2.2.1, c.2.2.2.2.2) = _ from Zgh h.chn (by omega), Option.bind_some, if_neg (by simp)]
   try dsimp only
   rw [if_pos (by omega)]
   have one : w64 ((([] ++ [(q : Int)] : List Int).length : Int) - 1) = 0 := by
    show w64 (((1 : Nat) : Int) - 1) = 0
    decide
   rw [hrm, MC.evict_eq (show (Ye c (L0 ++ [q])).fr i = _ from hfr)]
   by_cases hd : (gt c.2.1 (q : Int)).2.2.1 = true
   ·have hb := h.back z hj (c.1.2.2.1, c.1.2.2.2 + 1)
    obtain ⟨ch, e, hl⟩ := Us z hb (by exact hj)
    have hd' : (fm (c.2.1.getD q default)).d = true := by rw [← g]; exact hd
    rw [if_pos hd, show Q34.f (c.1.1, c.1.2.1, (c.1.2.2.1, c.1.2.2.2)) (gt c.2.1 (q : Int)).1 (gt c.2.1 (q : Int)).2.1 = _ from Bv z h hj, Option.bind_some]
    try dsimp only
    rw [wr, Int.toNat_natCast, show Q13.f ((c.1.1, Yu c.1.2.1 (i * B) B (gt c.2.1 (q : Int)).2.1, c.1.2.2.1, c.1.2.2.2 + 1), c.2.1.set q ((gt c.2.1 (q : Int)).1, (gt c.2.1 (q : Int)).2.1, false, (gt c.2.1 (q : Int)).2.2.2), c.2.2.1, c.2.2.2.1, c.2.2.2.2.1, c.2.2.2.2.2) (q : Int) = _ from e, Option.bind_some]
    try dsimp only
    rw [he, one, if_pos (by simp), if_pos (by simp), if_pos hd', if_pos hd']
    refine ⟨q, _, (L0 ++ [q]).erase q, rfl, hl.take (E := []) (by dsimp only; rw [he]), congrArg some (MC.ext' ?_ rfl rfl ?_ ?_ ?_), hqn⟩
    ·show Yu c.1.2.1 (i * B) B (fm (c.2.1.getD q default)).b = _
     rw [← g]; rfl
    ·intro j
     show upd (Y9 c) i none j = _
     refine Eq.trans ?_ (Uz hb hj j).symm
     refine Eq.trans (Zg0 (Y9 c) i _ none j).symm (Zeq (fun j => (W5 h hj j).symm) i none j)
    ·show c.2.2.1.length - 1 = (Xn (i : Int) c.2.2.1).length
     omega
    ·show ((L0 ++ [q]).map (Xc c)).erase i = _
     have hfl2 := hb.frl
     refine Eq.trans (Vp h hj).symm ?_
     refine Eq.trans ?_ (Ww (c := ((c.1.1, Yu c.1.2.1 (i * B) B (gt c.2.1 (q : Int)).2.1, c.1.2.2.1, c.1.2.2.2 + 1), c.2.1.set q ((gt c.2.1 (q : Int)).1, (gt c.2.1 (q : Int)).2.1, false, (gt c.2.1 (q : Int)).2.2.2), c.2.2)) (by rw [hfl2]; exact hf) hqn).symm
     exact (X0 (by omega) (by rw [g]; rfl) _).symm
   ·obtain ⟨ch, e, hl⟩ := Us z h hj
    have hd' : ¬ (fm (c.2.1.getD q default)).d = true := by rw [← g]; exact hd
    rw [if_neg hd, show Q13.f ((c.1.1, c.1.2.1, (c.1.2.2.1, c.1.2.2.2)), c.2.1, c.2.2.1, c.2.2.2.1, (c.2.2.2.2.1, c.2.2.2.2.2)) (q : Int) = _ from e, Option.bind_some]
    try dsimp only
    rw [he, one, if_pos (by simp), if_pos (by simp), if_neg hd', if_neg hd']
    refine ⟨q, _, (L0 ++ [q]).erase q, rfl, hl.take (E := []) (by dsimp only; rw [he]), congrArg some (MC.ext' rfl rfl rfl ?_ ?_ ?_), hqn⟩
    ·intro j
     exact (Uz h hj j).symm
    ·show c.2.2.1.length - 1 = (Xn (i : Int) c.2.2.1).length
     omega
    ·show ((L0 ++ [q]).map (Xc c)).erase i = _
     refine Eq.trans (Vp h hj).symm ?_
     exact (Ww (by omega) hqn).symm
 ·right
  obtain ⟨E, x, hx⟩ : ∃ E x, c.2.2.2.1 = E ++ [x] := by
   rcases List.eq_nil_or_concat c.2.2.2.1 with e | ⟨E, x, e⟩
   ·exact absurd e he
   ·exact ⟨E, x, by rw [e, List.concat_eq_append]⟩
  obtain ⟨f, rfl, hf⟩ := h.emp x (by rw [hx]; simp)
  have hll : c.2.2.2.1.length = E.length + 1 := by rw [hx]; simp
  have e1 : w64 ((c.2.2.2.1.length : Int) - 1) = (E.length : Int) := by rw [Yf (by omega) (by omega)]; omega
  unfold Q15.f
  rw [if_neg (by simp only [decide_eq_true_eq]; omega), e1, if_pos (by omega), if_pos (by omega), Int.toNat_natCast]
  have e2 : gt c.2.2.2.1 (E.length : Int) = (f : Int) := by
   rw [Yh, hx, List.getD_eq_getElem?_getD, List.getElem?_append_right (Nat.le_refl _)]; simp
  have e3 : c.2.2.2.1.take E.length = E := by rw [hx, List.take_left]
  rw [e2, e3]
  refine ⟨f, _, L, rfl, h.take hx, ?_, fun q => ?_⟩
  ·unfold MC.room
   rw [if_pos (by rw [hru]; omega)]
   rfl
  ·obtain ⟨i, hi, _, _, ok⟩ := X8 h q
   exact ok.emp (by rw [hx]; simp)
theorem Zhi (z : Siz N B n) (h : CaI N B n t [] c L) (fw : Few c) (ht : t ≤ 1000000) (i : Nat) (hi : i < 4294967296) : ∃ c' L', Q6.f c (i : Int) = some (((Ye c L).pin N B n i).1, c') ∧ CaI N B n (t + 1) [] c' L' ∧ Ye c' L' = ((Ye c L).pin N B n i).2 := by
 have h64 := z.h64
 have hfl := h.frl
 unfold Q6.f
 rw [show Q16.f ((c.1.1, c.1.2.1, (c.1.2.2.1, c.1.2.2.2)), c.2.1, c.2.2.1, c.2.2.2.1, (c.2.2.2.2.1, c.2.2.2.2.2)) (i : Int) = _ from Bt z h i hi, Option.bind_some]
 by_cases q : N ≤ i
 ·rw [if_pos q, if_pos (by simp), MC.pin_out q]
  exact ⟨_, L, rfl, h.mono (Nat.le_succ t), rfl⟩
 ·rw [if_neg q, if_neg (by simp)]
  rcases h.get i with ⟨g1, g2⟩ | ⟨f, ha, g1, g2, ok⟩
  ·have hno : (Ye c L).fr i = none := Wj g2
   rw [if_neg (by simp [g1])]
   rcases Zf9 z h ⟨fw.wr.1, by have := fw.wr.2; omega⟩ with ⟨e, er⟩ | ⟨f, c1, L1, e, h1, er, hfL⟩
   ·rw [show Q15.f ((c.1.1, c.1.2.1, (c.1.2.2.1, c.1.2.2.2)), c.2.1, c.2.2.1, c.2.2.2.1, (c.2.2.2.2.1, c.2.2.2.2.2)) = _ from e, Option.bind_some, if_pos (by simp), MC.pin_full q hno er]
    exact ⟨_, L, rfl, h.mono (Nat.le_succ t), rfl⟩
   ·rcases Zbf z h ⟨fw.wr.1, by have := fw.wr.2; omega⟩ with e' | ⟨f', c1', L1', e', _, k1, k2, k3⟩
    ·rw [e] at e'; simp at e'
    ·rw [e] at e'
     simp only [Option.some.injEq, Prod.mk.injEq, true_and] at e'
     have ec : c1 = c1' := e'.2
     subst ec
     obtain ⟨hf, hfe, hfm⟩ := h1.hol f (by simp)
     have hfl1 := h1.frl
     have hno1 : ∀ v, ((i : Int), v) ∉ c1.2.2.1 := fun v hv => g2 v (k3 _ hv)
     obtain ⟨r5, ch, e5, hc5⟩ := U5 h1.chn hf (by omega)
     rw [List.erase_of_not_mem hfL] at hc5
     rw [show Q15.f ((c.1.1, c.1.2.1, (c.1.2.2.1, c.1.2.2.2)), c.2.1, c.2.2.1, c.2.2.2.1, (c.2.2.2.2.1, c.2.2.2.2.2)) = _ from e, Option.bind_some, if_neg (by simp)]
     try dsimp only
     rw [show Q32.f (c1.1.1, c1.1.2.1, (c1.1.2.2.1, c1.1.2.2.2)) (i : Int) = _ from Ze1 z h1 (by omega), Option.bind_some, if_neg (by simp), if_pos (by omega), show Q17.f (c1.2.2.2.2.1, c1.2.2.2.2.2) (f : Int) = _ from e5, Option.bind_some]
     have hcm := (h1.mono (Nat.le_succ t)).come (show i < N by omega) hno1 (x := ((i : Int), blk c1.1.2.1 B i, false, 1)) rfl (Uw h1.dim (by omega)) rfl (by omega) hc5
     try dsimp only
     rw [B0 (by rw [k1]; have := fw.rd; omega), Ui hno1, Int.toNat_natCast, MC.pin_miss q hno er]
     refine ⟨_, L1, rfl, hcm.dev (s := (c1.1.2.2.1 + 1, c1.1.2.2.2)) h1.dim, MC.ext' rfl rfl rfl ?_ ?_ ?_⟩
     ·intro j; exact Zay h1 hno1 j
     ·show (c1.2.2.1 ++ [((i : Int), (f : Int))]).length = c1.2.2.1.length + 1
      simp
     ·exact Ww (by omega) hfL
  ·have hf := ok.hf
   have hp := ok.pin
   have hfr : (Ye c L).fr i = _ := Xp h ha
   obtain ⟨r2, ch, e2, hc2⟩ := U5 h.chn ok.hf (by omega)
   have g : gt c.2.1 (f : Int) = c.2.1.getD f default := Yh _ _
   have wp : w64 ((c.2.1.getD f default).2.2.2 + 1) = (c.2.1.getD f default).2.2.2 + 1 := Yf (by omega) (by omega)
   have hs := h.setfr ha (x := ((gt c.2.1 (f : Int)).1, (gt c.2.1 (f : Int)).2.1, (gt c.2.1 (f : Int)).2.2.1, w64 ((gt c.2.1 (f : Int)).2.2.2 + 1))) (t' := t + 1) (by rw [g]; exact ok.blk) (by rw [g]; exact ok.len) (by rw [g]; dsimp only; rw [wp]; omega) (Nat.le_succ t) hc2 (Uk h (by rw [g]; dsimp only; rw [wp]; omega))
   rw [if_pos g1, g2, if_pos (by omega), show Q17.f (c.2.2.2.2.1, c.2.2.2.2.2) (f : Int) = _ from e2, Option.bind_some, Int.toNat_natCast, MC.pin_hit q hfr]
   refine ⟨_, L.erase f, rfl, hs, MC.ext' rfl rfl rfl (fun j => ?_) rfl ?_⟩
   ·refine Eq.trans (W5 h ha j) ?_
    show upd (Y9 c) i _ j = upd (Y9 c) i _ j
    congr 2
    unfold fm
    rw [g]
    try dsimp only
    rw [wp, show ((c.2.1.getD f default).2.2.2 + 1).toNat = (c.2.1.getD f default).2.2.2.toNat + 1 by omega]
   ·exact Eq.trans (X0 (by omega) (by rw [g]; rfl) _) (Vp h ha)
theorem Zhc (z : Siz N B n) (h : CaI N B n t [] c L) (fw : Few c) (ht : t ≤ 1000000) (i : Nat) (hi : i < 4294967296) : ∃ c' L', Q5.f c (i : Int) = some (((Ye c L).fresh N B n i).1, c') ∧ CaI N B n (t + 1) [] c' L' ∧ Ye c' L' = ((Ye c L).fresh N B n i).2 := by
 have h64 := z.h64
 have hB := z.B_le
 have hfl := h.frl
 have hsz := h.dsz
 unfold Q5.f Q30.f
 rw [show Q16.f ((c.1.1, c.1.2.1, (c.1.2.2.1, c.1.2.2.2)), c.2.1, c.2.2.1, c.2.2.2.1, (c.2.2.2.2.1, c.2.2.2.2.2)) (i : Int) = _ from Bt z h i hi, Option.bind_some]
 by_cases q : N ≤ i
 ·rw [if_pos q, if_pos (by simp), MC.fresh_out q]
  exact ⟨_, L, rfl, h.mono (Nat.le_succ t), rfl⟩
 ·rw [if_neg q, if_neg (by simp)]
  rcases h.get i with ⟨g1, g2⟩ | ⟨f, ha, g1, g2, ok⟩
  ·have hno : (Ye c L).fr i = none := Wj g2
   rw [if_neg (by simp [g1]), if_pos (by simp [g1])]
   rcases Zf9 z h ⟨fw.wr.1, by have := fw.wr.2; omega⟩ with ⟨e, er⟩ | ⟨f, c1, L1, e, h1, er, hfL⟩
   ·rw [show Q15.f ((c.1.1, c.1.2.1, (c.1.2.2.1, c.1.2.2.2)), c.2.1, c.2.2.1, c.2.2.2.1, (c.2.2.2.2.1, c.2.2.2.2.2)) = _ from e, Option.bind_some, if_pos (by simp), MC.fresh_full q hno er]
    exact ⟨_, L, rfl, h.mono (Nat.le_succ t), rfl⟩
   ·rcases Zbf z h ⟨fw.wr.1, by have := fw.wr.2; omega⟩ with e' | ⟨f', c1', L1', e', _, k1, k2, k3⟩
    ·rw [e] at e'; simp at e'
    ·rw [e] at e'
     simp only [Option.some.injEq, Prod.mk.injEq, true_and] at e'
     have ec : c1 = c1' := e'.2
     subst ec
     obtain ⟨hf, hfe, hfm⟩ := h1.hol f (by simp)
     have hfl1 := h1.frl
     have hsz1 := h1.dsz
     have hno1 : ∀ v, ((i : Int), v) ∉ c1.2.2.1 := fun v hv => g2 v (k3 _ hv)
     obtain ⟨r5, ch, e5, hc5⟩ := U5 h1.chn hf (by omega)
     rw [List.erase_of_not_mem hfL] at hc5
     rw [show Q15.f ((c.1.1, c.1.2.1, (c.1.2.2.1, c.1.2.2.2)), c.2.1, c.2.2.1, c.2.2.2.1, (c.2.2.2.2.1, c.2.2.2.2.2)) = _ from e, Option.bind_some, if_neg (by simp), Option.bind_some]
     try dsimp only
     rw [if_pos (by omega), if_pos (by omega), show Q17.f (c1.2.2.2.2.1, c1.2.2.2.2.2) (f : Int) = _ from e5, Option.bind_some]
     have hBt : c1.1.1.toNat = B := by omega
     have hcm := (h1.mono (Nat.le_succ t)).come (show i < N by omega) hno1 (x := ((i : Int), List.replicate c1.1.1.toNat (0 : Int), true, 1)) rfl (by rw [List.length_replicate]; omega) rfl (by omega) hc5
     try dsimp only
     rw [Ui hno1, Int.toNat_natCast, MC.fresh_miss q hno er]
     refine ⟨_, L1, rfl, hcm, MC.ext' rfl rfl rfl ?_ ?_ ?_⟩
     ·intro j
      refine Eq.trans (Zay h1 hno1 j) ?_
      show upd (Y9 c1) i (some ⟨List.replicate c1.1.1.toNat 0, true, 1⟩) j = _
      rw [hBt]; rfl
     ·show (c1.2.2.1 ++ [((i : Int), (f : Int))]).length = c1.2.2.1.length + 1
      simp
     ·exact Ww (by omega) hfL
  ·have hf := ok.hf
   have hp := ok.pin
   have hfr : (Ye c L).fr i = _ := Xp h ha
   have g : gt c.2.1 (f : Int) = c.2.1.getD f default := Yh _ _
   rw [if_pos g1, g2, if_pos (by omega)]
   by_cases hpp : 0 < (gt c.2.1 (f : Int)).2.2.2
   ·rw [if_pos (decide_eq_true hpp), MC.fresh_pin q hfr (by unfold fm; dsimp only; rw [g] at hpp; omega)]
    exact ⟨_, L, rfl, h.mono (Nat.le_succ t), rfl⟩
   ·obtain ⟨r2, ch, e2, hc2⟩ := U5 h.chn ok.hf (by omega)
    have hBt : c.1.1.toNat = B := by omega
    have hs := h.setfr ha (x := ((i : Int), List.replicate c.1.1.toNat (0 : Int), true, 1)) (t' := t + 1) rfl (by rw [List.length_replicate]; omega) (by dsimp only; omega) (Nat.le_succ t) hc2 (Uk h (show (1 : Int) ≠ 0 by decide))
    rw [if_neg (by simpa using hpp), if_neg (by simp [g1]), Option.bind_some, if_pos (by omega), show Q17.f (c.2.2.2.2.1, c.2.2.2.2.2) (f : Int) = _ from e2, Option.bind_some, Int.toNat_natCast, J0 h.mnd ha, MC.fresh_hit q hfr (by unfold fm; dsimp only; rw [g] at hpp; omega)]
    refine ⟨_, L.erase f, rfl, hs, MC.ext' rfl rfl rfl (fun j => ?_) rfl ?_⟩
    ·refine Eq.trans (W5 h ha j) ?_
     show upd (Y9 c) i (some ⟨List.replicate c.1.1.toNat 0, true, 1⟩) j = _
     rw [hBt]; rfl
    ·exact Eq.trans (X0 (by omega) (by rw [V0 h ha]; rfl) _) (Vp h ha)
theorem Zd8 (z : Siz N B n) (h : CaI N B n t [] c L) (ht : t ≤ 1000000) (i : Nat) : ∃ c' L', Q10.f c (i : Int) = some (((Ye c L).unpin i).1, c') ∧ CaI N B n t [] c' L' ∧ Ye c' L' = ((Ye c L).unpin i).2 := by
 have h64 := z.h64
 have hfl := h.frl
 unfold Q10.f Q14.f
 rw [Option.bind_some, if_neg (by simp)]
 rcases h.get i with ⟨g1, g2⟩ | ⟨f, ha, g1, g2, ok⟩
 ·rw [if_pos (by simp [g1]), MC.unpin_no (show (Ye c L).fr i = none from Wj g2)]
  exact ⟨_, L, rfl, h, rfl⟩
 ·have hf := ok.hf
  have hp := ok.pin
  have hfr : (Ye c L).fr i = _ := Xp h ha
  have g : gt c.2.1 (f : Int) = c.2.1.getD f default := Yh _ _
  rw [if_neg (by simp [g1]), g2, if_pos (by omega)]
  by_cases hp0 : (gt c.2.1 (f : Int)).2.2.2 = 0
  ·rw [if_pos (decide_eq_true hp0), MC.unpin_out hfr (by unfold fm; dsimp only; rw [← g, hp0]; rfl)]
   exact ⟨_, L, rfl, h, rfl⟩
  ·have wp : w64 ((gt c.2.1 (f : Int)).2.2.2 - 1) = (gt c.2.1 (f : Int)).2.2.2 - 1 := by rw [g]; exact Yf (by omega) (by omega)
   have hp1 : 0 < (gt c.2.1 (f : Int)).2.2.2 := by rw [g] at hp0 ⊢; omega
   have hp2 : (gt c.2.1 (f : Int)).2.2.2 ≤ t := by rw [g]; omega
   have hset : gt (c.2.1.set f ((gt c.2.1 (f : Int)).1, (gt c.2.1 (f : Int)).2.1, (gt c.2.1 (f : Int)).2.2.1, w64 ((gt c.2.1 (f : Int)).2.2.2 - 1))) (f : Int) = ((gt c.2.1 (f : Int)).1, (gt c.2.1 (f : Int)).2.1, (gt c.2.1 (f : Int)).2.2.1, w64 ((gt c.2.1 (f : Int)).2.2.2 - 1)) := by
    rw [Yh, Y0 (by omega), if_pos rfl]
   have hfL : f ∉ L := fun hx => by have := ((h.lok f).1 hx).2; rw [← g] at this; omega
   have hx0 : (fm (c.2.1.getD f default)).p = (c.2.1.getD f default).2.2.2.toNat := rfl
   rw [if_neg (by simpa using hp0), Int.toNat_natCast, hset, wp]
   by_cases hp3 : (gt c.2.1 (f : Int)).2.2.2 - 1 = 0
   ·obtain ⟨ch, e2, hc2⟩ := Ze0 h.chn ok.hf hfL (by omega)
    rw [if_pos (decide_eq_true hp3), show Q18.f (c.2.2.2.2.1, c.2.2.2.2.2) (f : Int) = _ from e2, Option.bind_some, MC.unpin_one hfr (by rw [hx0, ← g]; omega)]
    have hs := h.setfr ha (x := ((gt c.2.1 (f : Int)).1, (gt c.2.1 (f : Int)).2.1, (gt c.2.1 (f : Int)).2.2.1, (gt c.2.1 (f : Int)).2.2.2 - 1)) (t' := t) (by rw [g]; exact ok.blk) (by rw [g]; exact ok.len) (by dsimp only; omega) (Nat.le_refl t) hc2 (fun k => by
     rw [List.mem_cons]
     split
     ·rename_i e; exact ⟨fun _ => hp3, fun _ => .inl e⟩
     ·rename_i e; exact ⟨fun q => q.elim (fun e' => absurd e' e) id, .inr⟩)
    refine ⟨_, f :: L, rfl, hs, MC.ext' rfl rfl rfl (fun j => ?_) rfl ?_⟩
    ·refine Eq.trans (W5 h ha j) ?_
     show upd (Y9 c) i _ j = upd (Y9 c) i _ j
     congr 2
     unfold fm
     try dsimp only
     rw [hp3, g]; rfl
    ·refine Eq.trans (X0 (by omega) (by rw [g]; rfl) _) ?_
     show Xc c f :: L.map (Xc c) = _
     rw [V0 h ha]; rfl
   ·rw [if_neg (by simpa using hp3), MC.unpin_more hfr (by rw [hx0, ← g]; omega) (by rw [hx0, ← g]; omega)]
    have hs := h.setfr ha (x := ((gt c.2.1 (f : Int)).1, (gt c.2.1 (f : Int)).2.1, (gt c.2.1 (f : Int)).2.2.1, (gt c.2.1 (f : Int)).2.2.2 - 1)) (t' := t) (by rw [g]; exact ok.blk) (by rw [g]; exact ok.len) (by dsimp only; omega) (Nat.le_refl t) h.chn (fun k => by
     split
     ·rename_i e; subst e; exact ⟨fun q => absurd q hfL, fun q => absurd q hp3⟩
     ·exact Iff.rfl)
    refine ⟨_, L, rfl, hs, MC.ext' rfl rfl rfl (fun j => ?_) rfl ?_⟩
    ·refine Eq.trans (W5 h ha j) ?_
     show upd (Y9 c) i _ j = upd (Y9 c) i _ j
     congr 2
     unfold fm
     try dsimp only
     rw [g, show ((c.2.1.getD f default).2.2.2 - 1).toNat = (c.2.1.getD f default).2.2.2.toNat - 1 by omega]
    ·exact X0 (by omega) (by rw [g]; rfl) _
theorem Zel (z : Siz N B n) (h : CaI N B n t [] c L) (i : Nat) (b : List Int) : ∃ c' L', Q12.f c (i : Int) b = some (((Ye c L).write B i b).1, c') ∧ CaI N B n t [] c' L' ∧ Ye c' L' = ((Ye c L).write B i b).2 := by
 have h64 := z.h64
 have hB := z.B_le
 have hfl := h.frl
 have hsz := h.dsz
 unfold Q12.f Q14.f Q30.f
 rw [Option.bind_some, if_neg (by simp)]
 rcases h.get i with ⟨g1, g2⟩ | ⟨f, ha, g1, g2, ok⟩
 ·rw [if_pos (by simp [g1]), MC.write_no (show (Ye c L).fr i = none from Wj g2)]
  exact ⟨_, L, rfl, h, rfl⟩
 ·have hf := ok.hf
  have hp := ok.pin
  have hfr : (Ye c L).fr i = _ := Xp h ha
  have hx0 : (fm (c.2.1.getD f default)).p = (c.2.1.getD f default).2.2.2.toNat := rfl
  have g : gt c.2.1 (f : Int) = c.2.1.getD f default := Yh _ _
  rw [if_neg (by simp [g1]), g2, if_pos (by omega)]
  by_cases hp0 : (gt c.2.1 (f : Int)).2.2.2 = 0
  ·rw [if_pos (decide_eq_true hp0), MC.write_out hfr (by rw [hx0, ← g, hp0]; rfl)]
   exact ⟨_, L, rfl, h, rfl⟩
  ·have hp1 : (fm (c.2.1.getD f default)).p ≠ 0 := by rw [hx0]; rw [g] at hp0; omega
   rw [if_neg (by simpa using hp0), Option.bind_some]
   try dsimp only
   by_cases hb : (b.length : Int) = c.1.1
   ·have hset : gt (c.2.1.set f ((gt c.2.1 (f : Int)).1, b, (gt c.2.1 (f : Int)).2.2.1, (gt c.2.1 (f : Int)).2.2.2)) (f : Int) = ((gt c.2.1 (f : Int)).1, b, (gt c.2.1 (f : Int)).2.2.1, (gt c.2.1 (f : Int)).2.2.2) := by
     rw [Yh, Y0 (by omega), if_pos rfl]
    have hs := h.setfr ha (x := ((gt c.2.1 (f : Int)).1, b, true, (gt c.2.1 (f : Int)).2.2.2)) (t' := t) (by rw [g]; exact ok.blk) (by dsimp only; omega) (by dsimp only; rw [g]; exact hp) (Nat.le_refl t) h.chn (by rw [g]; exact Zbv h ha)
    rw [if_neg (by simp [hb]), Wr (by omega), Option.bind_some, Int.toNat_natCast, hset, List.set_set, MC.write_hit hfr hp1 (by omega)]
    refine ⟨_, L, rfl, hs, MC.ext' rfl rfl rfl (fun j => ?_) rfl ?_⟩
    ·refine Eq.trans (W5 h ha j) ?_
     show upd (Y9 c) i _ j = upd (Y9 c) i _ j
     rw [g]; rfl
    ·exact X0 (by omega) (by rw [g]; rfl) _
   ·rw [if_pos (by simp [hb]), MC.write_form hfr hp1 (by omega)]
    exact ⟨_, L, rfl, h, rfl⟩
theorem Zik (z : Siz N B n) (h : CaI N B n t [] c L) (i : Nat) : ∃ c' L', Q3.f c (i : Int) = some (((Ye c L).drop i).1, c') ∧ CaI N B n t [] c' L' ∧ Ye c' L' = ((Ye c L).drop i).2 := by
 have h64 := z.h64
 have hfl := h.frl
 unfold Q3.f Q14.f
 rw [Option.bind_some, if_neg (by simp)]
 rcases h.get i with ⟨g1, g2⟩ | ⟨f, ha, g1, g2, ok⟩
 ·rw [if_pos (by simp [g1]), MC.drop_no (show (Ye c L).fr i = none from Wj g2)]
  exact ⟨_, L, rfl, h, rfl⟩
 ·have hf := ok.hf
  have hp := ok.pin
  have hfr : (Ye c L).fr i = _ := Xp h ha
  have hx0 : (fm (c.2.1.getD f default)).p = (c.2.1.getD f default).2.2.2.toNat := rfl
  have g : gt c.2.1 (f : Int) = c.2.1.getD f default := Yh _ _
  rw [if_neg (by simp [g1]), g2, if_pos (by omega)]
  by_cases hp0 : 0 < (gt c.2.1 (f : Int)).2.2.2
  ·rw [if_pos (decide_eq_true hp0), MC.drop_pin hfr (by rw [hx0]; rw [g] at hp0; omega)]
   exact ⟨_, L, rfl, h, rfl⟩
  ·obtain ⟨ch, e, hl⟩ := Us z h ha
   rw [if_neg (by simpa using hp0), show Q13.f ((c.1.1, c.1.2.1, (c.1.2.2.1, c.1.2.2.2)), c.2.1, c.2.2.1, c.2.2.2.1, (c.2.2.2.2.1, c.2.2.2.2.2)) (f : Int) = _ from e, Option.bind_some, MC.drop_hit hfr (by rw [hx0]; rw [g] at hp0; omega)]
   have hml := U4 (mhas_iff.2 ⟨_, ha⟩)
   refine ⟨_, L.erase f, rfl, hl, MC.ext' rfl rfl rfl (fun j => ?_) ?_ ?_⟩
   ·exact Uz h ha j
   ·show (Xn (i : Int) c.2.2.1).length = c.2.2.1.length - 1
    omega
   ·exact Eq.trans (Ww (by omega) (Ju h f)) (Vp h ha)
theorem Zgj (z : Siz N B n) (h : CaI N B n t [] c L) (i : Nat) : Q8.f c (i : Int) = some ((Ye c L).read i) := by
 have hfl := h.frl
 have hB := z.B_le
 unfold Q8.f Q14.f
 rw [Option.bind_some, if_neg (by simp)]
 rcases h.get i with ⟨g1, g2⟩ | ⟨f, ha, g1, g2, ok⟩
 ·rw [if_pos (by simp [g1]), MC.read_no (show (Ye c L).fr i = none from Wj g2)]
 ·have hf := ok.hf
  have hp := ok.pin
  have hfr : (Ye c L).fr i = _ := Xp h ha
  have hx0 : (fm (c.2.1.getD f default)).p = (c.2.1.getD f default).2.2.2.toNat := rfl
  have g : gt c.2.1 (f : Int) = c.2.1.getD f default := Yh _ _
  rw [if_neg (by simp [g1]), g2, if_pos (by omega)]
  by_cases hp0 : (gt c.2.1 (f : Int)).2.2.2 = 0
  ·rw [if_pos (decide_eq_true hp0), MC.read_out hfr (by rw [hx0, ← g, hp0]; rfl)]
  ·rw [if_neg (by simpa using hp0), Wr (by rw [g, ok.len]; omega), Option.bind_some, MC.read_hit hfr (by rw [hx0]; rw [g] at hp0; omega), g]; rfl
theorem Zii (z : Siz N B n) (h : CaI N B n t [] c L) (i : Nat) : Q7.f c (i : Int) = some ((Ye c L).pins i) := by
 have hfl := h.frl
 have hB := z.B_le
 unfold Q7.f Q14.f MC.pins
 rw [Option.bind_some, if_neg (by simp)]
 rcases h.get i with ⟨g1, g2⟩ | ⟨f, ha, g1, g2, ok⟩
 ·rw [if_pos (by simp [g1]), show (Ye c L).fr i = none from Wj g2]
 ·have hf := ok.hf
  have hp := ok.pin
  have hfr : (Ye c L).fr i = _ := Xp h ha
  have g : gt c.2.1 (f : Int) = c.2.1.getD f default := Yh _ _
  rw [if_neg (by simp [g1]), g2, if_pos (by omega), hfr]
  by_cases hp0 : (gt c.2.1 (f : Int)).2.2.2 = 0
  ·rw [if_pos (decide_eq_true hp0)]
   unfold fm
   try dsimp only
   rw [← g, hp0]; rfl
  ·rw [if_neg (by simpa using hp0), g]
   unfold fm
   try dsimp only
   rw [Int.toNat_of_nonneg hp.1]
end
abbrev Rf := Int × List UInt8 × Bool × Int
abbrev Rc := (Int × List (List UInt8) × Int × Int) × List Rf × Int × List Int
def rfm (i : Nat) (f : Fm) : Rf := ((i : Int), toS f.b, f.d, (f.p : Int))
def Xw (i : Int) (l : List Rf) : List Rf := l.filter fun x => !decide (x.1 = i)
structure RL (l : List Rf) (g : Nat → Option Fm) : Prop where
 nd : (l.map Prod.fst).Nodup
 mem : ∀ x ∈ l, ∃ (i : Nat) (f : Fm), g i = some f ∧ x = rfm i f
 all : ∀ (i : Nat) (f : Fm), g i = some f → rfm i f ∈ l
section
variable {l : List Rf} {g : Nat → Option Fm} {i : Nat} {f : Fm}
theorem Zcw (h : RL l g) (e : g i = none) : Xw (i : Int) l = l := List.filter_eq_self.2 fun x hx => by
 obtain ⟨j, f, h1, rfl⟩ := h.mem x hx
 have : ¬ (rfm j f).1 = (i : Int) := fun q => by
  have : j = i := by have : (j : Int) = i := q; omega
  subst this; rw [e] at h1; cases h1
 simp [this]
theorem G7 : ∀ {l : List Rf} {x : Rf}, (l.map Prod.fst).Nodup → x ∈ l → (Xw x.1 l).length + 1 = l.length
 | [], x, _, h => by simp at h
 | y :: l, x, nd, h => by
  rw [List.map_cons, List.nodup_cons] at nd
  by_cases q : y.1 = x.1
  ·have hl : Xw x.1 l = l := List.filter_eq_self.2 fun z hz => by
    have : ¬ z.1 = x.1 := fun e => nd.1 (by rw [q, ← e]; exact List.mem_map_of_mem hz)
    simp [this]
   have : Xw x.1 (y :: l) = l := by
    unfold Xw at hl ⊢
    rw [List.filter_cons_of_neg (by simp [q]), hl]
   rw [this]; rfl
  ·have hx : x ∈ l := by
    rcases List.mem_cons.1 h with e | e
    ·exact absurd (by rw [e]) q
    ·exact e
   have : Xw x.1 (y :: l) = y :: Xw x.1 l := by
    unfold Xw
    rw [List.filter_cons_of_pos (by simp [q])]
   rw [this, List.length_cons, List.length_cons, G7 nd.2 hx]
theorem RL.gone (h : RL l g) (i : Nat) : RL (Xw (i : Int) l) (upd g i none) := by
 refine ⟨(List.filter_sublist.map _).nodup h.nd, fun x hx => ?_, fun j f hj => ?_⟩
 ·obtain ⟨h1, h2⟩ := List.mem_filter.1 hx
  obtain ⟨j, f, h3, rfl⟩ := h.mem x h1
  have hne : j ≠ i := fun q => by subst q; simp [rfm] at h2
  exact ⟨j, f, by rw [Wb hne, h3], rfl⟩
 ·by_cases q : j = i
  ·subst q; rw [X7] at hj; cases hj
  ·rw [Wb q] at hj
   refine List.mem_filter.2 ⟨h.all j f hj, ?_⟩
   have : ¬ (j : Int) = i := by omega
   simp [rfm, this]
theorem RL.put (h : RL l g) (i : Nat) (f : Fm) : RL (Xw (i : Int) l ++ [rfm i f]) (upd g i (some f)) := by
 have hg := h.gone i
 refine ⟨?_, fun x hx => ?_, fun j f' hj => ?_⟩
 ·rw [List.map_append, List.nodup_append]
  refine ⟨hg.nd, by simp, fun a ha b hb e => ?_⟩
  obtain ⟨x, hx, rfl⟩ := List.mem_map.1 ha
  simp only [List.map_cons, List.map_nil, List.mem_singleton] at hb
  obtain ⟨_, h2⟩ := List.mem_filter.1 hx
  rw [e, hb] at h2
  simp [rfm] at h2
 ·rcases List.mem_append.1 hx with hx | hx
  ·obtain ⟨j, f', h1, e⟩ := hg.mem x hx
   have hne : j ≠ i := fun q => by subst q; rw [X7] at h1; cases h1
   exact ⟨j, f', by rw [Wb hne] at h1 ⊢; exact h1, e⟩
  ·rw [List.mem_singleton] at hx
   exact ⟨i, f, X7 _ _ _, hx⟩
 ·by_cases q : j = i
  ·subst q; rw [X7] at hj; injection hj with hj; subst hj; simp
  ·rw [Wb q] at hj
   exact List.mem_append_left _ (hg.all j f' (by rw [Wb q]; exact hj))
theorem RL.congr (h : RL l g) {g' : Nat → Option Fm} (e : ∀ j, g j = g' j) : RL l g' := by
 have := funext e
 subst this; exact h
end
structure RR (N B n : Nat) (w : Rc) (m : MC) : Prop where
 dev : w.1 = ((B : Int), Lb m.img N B, m.rd, m.wr)
 most : w.2.2.1 = (n : Int)
 row : w.2.2.2 = m.row.map fun (i : Nat) => (i : Int)
 fr : RL w.2.1 m.fr
 used : w.2.1.length = m.used
structure MI (N B n t : Nat) (m : MC) : Prop where
 dim : m.img.length = N * B
 len : ∀ i f, m.fr i = some f → i < N ∧ f.b.length = B ∧ f.p ≤ t
 rnd : m.row.Nodup
 rfr : ∀ q, q ∈ m.row ↔ ∃ f, m.fr q = some f ∧ f.p = 0
 ule : m.used ≤ n
 rle : m.row.length ≤ n
theorem Zax {g : Nat → Nat} : ∀ {L : List Nat}, L.Nodup → (∀ x ∈ L, ∀ y ∈ L, g x = g y → x = y) → (L.map g).Nodup
 | [], _, _ => by simp
 | x :: L, nd, h => by
  rw [List.nodup_cons] at nd
  rw [List.map_cons, List.nodup_cons]
  refine ⟨fun q => ?_, Zax nd.2 fun a ha b hb => h a (by simp [ha]) b (by simp [hb])⟩
  obtain ⟨y, hy, e⟩ := List.mem_map.1 q
  exact nd.1 (by rw [h x (by simp) y (by simp [hy]) e.symm]; exact hy)
theorem CaI.mi {N B n t : Nat} {c : Ca} {L : List Nat} (h : CaI N B n t [] c L) : MI N B n t (Ye c L) where
 dim := h.dim
 len i f hf := Zg4 h hf
 rnd := Zax h.chn.nd fun x hx y hy e => by
  obtain ⟨i, hi, e1, _⟩ := X8 h hx
  obtain ⟨j, hj, e2, _⟩ := X8 h hy
  have : i = j := by omega
  subst this
  exact J9 h hi hj
 rfr q := by
  constructor
  ·intro hq
   obtain ⟨f, hf, e⟩ := List.mem_map.1 hq
   obtain ⟨i, hi, e1, hp, _⟩ := X8 h hf
   have : i = q := by omega
   subst this
   exact ⟨_, Xp h hi, by unfold fm; dsimp only; rw [hp]; rfl⟩
  ·rintro ⟨f, hf, hp⟩
   rcases h.get q with ⟨_, g2⟩ | ⟨f', ha, _, _, ok⟩
   ·have := Wj g2
    rw [show Y9 c q = some f from hf] at this; cases this
   ·have h1 := Xp h ha
    rw [show Y9 c q = some f from hf] at h1
    injection h1 with h1
    subst h1
    refine (Zgv h ha).2 ((h.lok f').2 ⟨⟨_, ha⟩, ?_⟩)
    have := ok.pin
    unfold fm at hp
    dsimp only at hp
    omega
 ule := h.used
 rle := by
  show (L.map (Xc c)).length ≤ n
  rw [List.length_map]
  exact h.chn.short
def Gj (l : List Rf) (i : Int) : Int := match l.findIdx? fun x => decide (x.1 = i) with
 | none => -1
 | some q => (q : Int)
theorem Zc1 {w : Rc} {i : Int} (hl : w.2.1.length ≤ 1000) : ∀ (m j k : Nat), w.2.1.length = j + m → m < k → Q66.l0 k w i (j : Int) = some (match (w.2.1.drop j).findIdx? fun x => decide (x.1 = i) with | none => -1 | some q => ((j + q : Nat) : Int))
 | 0, j, k + 1, hj, hk => by
  rw [Q66.l0, if_neg (by simp only [decide_eq_true_eq]; omega), List.drop_eq_nil_of_le (by omega)]; rfl
 | m + 1, j, k + 1, hj, hk => by
  have hjl : j < w.2.1.length := by omega
  rw [Q66.l0, if_pos (decide_eq_true (by omega)), if_pos (by omega), Yh, Wn hjl, List.findIdx?_cons]
  by_cases q : (w.2.1.getD j default).1 = i
  ·rw [if_pos (decide_eq_true q), if_pos (decide_eq_true q)]; rfl
  ·rw [if_neg (by simpa using q), if_neg (by simpa using q), Xd (by omega), Zc1 hl m (j + 1) k (by omega) (by omega)]
   cases (w.2.1.drop (j + 1)).findIdx? fun x => decide (x.1 = i) with
   | none => rfl
   | some q => simp only [Option.map_some]; congr 2; omega
theorem Zhb {w : Rc} {i : Int} {k : Nat} (hl : w.2.1.length ≤ 1000) (hk : w.2.1.length < k) : Q66.f k w i = some (Gj w.2.1 i) := by
 have := Zc1 (i := i) hl w.2.1.length 0 k (by omega) hk
 unfold Q66.f Gj
 rw [show (0 : Int) = ((0 : Nat) : Int) from rfl, this, List.drop_zero]
 cases w.2.1.findIdx? fun x => decide (x.1 = i) with
 | none => rfl
 | some q => simp
theorem Zft {l : List Rf} {g : Nat → Option Fm} {i : Nat} (h : RL l g) (e : g i = none) : Gj l i = -1 := by
 unfold Gj
 have : (l.findIdx? fun x => decide (x.1 = (i : Int))) = none := List.findIdx?_eq_none_iff.2 fun x hx => by
  obtain ⟨j, f, h1, rfl⟩ := h.mem x hx
  have : ¬ (rfm j f).1 = (i : Int) := fun q => by
   have : j = i := by have : (j : Int) = i := q; omega
   subst this; rw [e] at h1; cases h1
  simpa using this
 rw [this]
theorem Zeo {l : List Rf} {g : Nat → Option Fm} {i : Nat} {f : Fm} (h : RL l g) (e : g i = some f) : ∃ q : Nat, Gj l i = (q : Int) ∧ q < l.length ∧ l.getD q default = rfm i f := by
 unfold Gj
 cases hq : l.findIdx? fun x => decide (x.1 = (i : Int)) with
 | none =>
  have := List.findIdx?_eq_none_iff.1 hq _ (h.all i f e)
  simp [rfm] at this
 | some q =>
  obtain ⟨hlt, h1, _⟩ := List.findIdx?_eq_some_iff_getElem.1 hq
  refine ⟨q, rfl, hlt, ?_⟩
  rw [List.getD_eq_getElem?_getD, List.getElem?_eq_getElem hlt, Option.getD_some]
  obtain ⟨j, f', h2, e2⟩ := h.mem _ (List.getElem_mem hlt)
  rw [e2] at h1 ⊢
  have : j = i := by
   have : (j : Int) = i := of_decide_eq_true h1
   omega
  subst this
  rw [e] at h2; injection h2 with h2; rw [h2]
theorem Jb {a : List Int} {i : Int} (hl : a.length ≤ 1000) : ∀ (m j k : Nat) (acc : List Int), a.length = j + m → m < k → acc.length ≤ j → Q78.l0 k a i acc (j : Int) = some (acc ++ (a.drop j).filter fun x => !decide (x = i))
 | 0, j, k + 1, acc, hj, hk, ha => by
  rw [Q78.l0, if_neg (by simp only [decide_eq_true_eq]; omega), List.drop_eq_nil_of_le (by omega)]; simp
 | m + 1, j, k + 1, acc, hj, hk, ha => by
  have hjl : j < a.length := by omega
  rw [Q78.l0, if_pos (decide_eq_true (by omega)), if_pos (by omega), Yh, Wn hjl, List.filter_cons]
  by_cases q : (!decide (a.getD j default = i)) = true
  ·rw [if_pos q, if_pos q, if_pos (by simp only [List.length_singleton]; omega), Xd (by omega), Jb hl m (j + 1) k _ (by omega) (by omega) (by rw [List.length_append, List.length_singleton]; omega), List.append_assoc]; rfl
  ·rw [if_neg q, if_neg q, Xd (by omega), Jb hl m (j + 1) k _ (by omega) (by omega) (by omega)]
theorem V3 {row : List Nat} {i k : Nat} (hl : row.length ≤ 1000) (hk : row.length < k) (nd : row.Nodup) : Q78.f k (row.map fun (i : Nat) => (i : Int)) (i : Int) = some ((row.erase i).map fun (i : Nat) => (i : Int)) := by
 unfold Q78.f
 have := Jb (a := row.map fun (i : Nat) => (i : Int)) (i := (i : Int)) (by simpa using hl) row.length 0 k [] (by simp) hk (by simp)
 rw [show (0 : Int) = ((0 : Nat) : Int) from rfl, this, List.drop_zero, List.nil_append, nd.erase_eq_filter, List.filter_map]
 congr 2
 refine List.filter_congr fun x _ => ?_
 by_cases q : x = i
 ·subst q; simp
 ·have : ¬ (x : Int) = i := by omega
  simp [q, this]
theorem B7 {w : Rc} {i : Int} (hl : w.2.1.length ≤ 1000) : ∀ (m j k : Nat) (acc : List Rf), w.2.1.length = j + m → m < k → acc.length ≤ j → Q75.l0 k w i acc (j : Int) = some (w.1, acc ++ Xw i (w.2.1.drop j), w.2.2)
 | 0, j, k + 1, acc, hj, hk, ha => by
  rw [Q75.l0, if_neg (by simp only [decide_eq_true_eq]; omega), List.drop_eq_nil_of_le (by omega)]; simp [Xw]
 | m + 1, j, k + 1, acc, hj, hk, ha => by
  have hjl : j < w.2.1.length := by omega
  unfold Xw
  rw [Q75.l0, if_pos (decide_eq_true (by omega)), if_pos (by omega), Yh, Wn hjl, List.filter_cons]
  by_cases q : (!decide ((w.2.1.getD j default).1 = i)) = true
  ·rw [if_pos q, if_pos q, if_pos (by simp only [List.length_singleton]; omega), Xd (by omega), B7 hl m (j + 1) k _ (by omega) (by omega) (by rw [List.length_append, List.length_singleton]; omega), List.append_assoc]; rfl
  ·rw [if_neg q, if_neg q, Xd (by omega), B7 hl m (j + 1) k _ (by omega) (by omega) (by omega)]; rfl
theorem Zbd {w : Rc} {i : Int} {k : Nat} (hl : w.2.1.length ≤ 1000) (hk : w.2.1.length < k) : Q75.f k w i = some (w.1, Xw i w.2.1, w.2.2) := by
 unfold Q75.f
 have := B7 (i := i) hl w.2.1.length 0 k [] (by omega) hk (by simp)
 rw [show (0 : Int) = ((0 : Nat) : Int) from rfl, this, List.drop_zero, List.nil_append]
theorem Zgy (i : Int) (l : List Rf) : (Xw i l).length ≤ l.length := List.length_filter_le _ _
theorem Zbj {w : Rc} {x : Rf} {k : Nat} (hl : w.2.1.length ≤ 1000) (hk : w.2.1.length < k) : Q77.f k w x = some (w.1, Xw x.1 w.2.1 ++ [x], w.2.2) := by
 unfold Q77.f
 have := Zgy x.1 w.2.1
 rw [Zbd hl hk, Option.bind_some, if_pos (by simp only [List.length_singleton]; omega)]
section
variable {N B n t : Nat} {w : Rc} {m : MC} {i : Nat} {f : Fm}
theorem RR.find (h : RR N B n w m) (mi : MI N B n t m) (h64 : n ≤ 64) {k : Nat} (hk : 100 < k) (i : Nat) : (m.fr i = none ∧ Q66.f k w (i : Int) = some (-1)) ∨ ∃ (f : Fm) (q : Nat), m.fr i = some f ∧ Q66.f k w (i : Int) = some (q : Int) ∧ q < w.2.1.length ∧ gt w.2.1 (q : Int) = rfm i f := by
 have hu := h.used
 have hl := mi.ule
 rw [Zhb (by omega) (by omega)]
 cases hf : m.fr i with
 | none => exact .inl ⟨rfl, by rw [Zft h.fr hf]⟩
 | some f =>
  obtain ⟨q, e, hq, hg⟩ := Zeo h.fr hf
  exact .inr ⟨f, q, rfl, by rw [e], hq, by rw [Yh, hg]⟩
theorem RR.len (h : RR N B n w m) (mi : MI N B n t m) (h64 : n ≤ 64) : w.2.1.length ≤ 64 := by have := h.used; have := mi.ule; omega
theorem RR.putE (h : RR N B n w m) (mi : MI N B n t m) (h64 : n ≤ 64) {k : Nat} (hk : 100 < k) (row : List Nat) (i : Nat) (f : Fm) : Q77.f k (w.1, w.2.1, w.2.2.1, row.map fun (i : Nat) => (i : Int)) (rfm i f) = some (w.1, Xw (i : Int) w.2.1 ++ [rfm i f], w.2.2.1, row.map fun (i : Nat) => (i : Int)) := by
 have := h.len mi h64
 exact Zbj (by show w.2.1.length ≤ 1000; omega) (by show w.2.1.length < k; omega)
theorem RR.put (h : RR N B n w m) {f0 : Fm} (e : m.fr i = some f0) (f : Fm) (row : List Nat) : RR N B n (w.1, Xw (i : Int) w.2.1 ++ [rfm i f], w.2.2.1, row.map fun (i : Nat) => (i : Int)) ⟨m.img, m.rd, m.wr, upd m.fr i (some f), m.used, row⟩ := by
 refine ⟨h.dev, h.most, rfl, h.fr.put i f, ?_⟩
 show (Xw (i : Int) w.2.1 ++ [rfm i f]).length = m.used
 have h1 := G7 h.fr.nd (h.fr.all i f0 e)
 rw [List.length_append, List.length_singleton, ← h.used]
 exact h1
theorem RR.come (h : RR N B n w m) (e : m.fr i = none) (f : Fm) (rd : Int) : RR N B n ((w.1.1, w.1.2.1, rd, w.1.2.2.2), Xw (i : Int) w.2.1 ++ [rfm i f], w.2.2) ⟨m.img, rd, m.wr, upd m.fr i (some f), m.used + 1, m.row⟩ := by
 refine ⟨by rw [h.dev], h.most, h.row, h.fr.put i f, ?_⟩
 show (Xw (i : Int) w.2.1 ++ [rfm i f]).length = m.used + 1
 rw [Zcw h.fr e, List.length_append, List.length_singleton, h.used]
theorem RR.gone (h : RR N B n w m) {f0 : Fm} (e : m.fr i = some f0) (img : List Int) (wr : Int) (row : List Nat) : RR N B n (((B : Int), Lb img N B, m.rd, wr), Xw (i : Int) w.2.1, w.2.2.1, row.map fun (i : Nat) => (i : Int)) ⟨img, m.rd, wr, upd m.fr i none, m.used - 1, row⟩ := by
 refine ⟨rfl, h.most, rfl, h.fr.gone i, ?_⟩
 have h1 := G7 h.fr.nd (h.fr.all i f0 e)
 have h2 := h.used
 show (Xw (i : Int) w.2.1).length = m.used - 1
 have h3 : (rfm i f0).1 = (i : Int) := rfl
 rw [h3] at h1
 omega
end
structure Sz8 (N B n : Nat) (m : MC) : Prop where
 hN : N ≤ 65536
 hNB : N * B ≤ 4294967296
 hB1 : 1 ≤ B
 hN1 : 1 ≤ N
 h64 : n ≤ 64
 rd : 0 ≤ m.rd ∧ m.rd ≤ 1000000000
 wr : 0 ≤ m.wr ∧ m.wr ≤ 1000000000
section
variable {N B n t : Nat} {w : Rc} {m : MC} {i : Nat} {f : Fm}
theorem Sz8.B_le (z : Sz8 N B n m) : B ≤ 4294967296 := Nat.le_trans (Nat.le_mul_of_pos_left B z.hN1) z.hNB
theorem Zar (h : RR N B n w m) (z : Sz8 N B n m) {i : Nat} (hi : i < 4294967296) : decide ((IntKind.u64.wrap ((w.1.2.1.length : Int))) ≤ (IntKind.u64.wrap (i : Int))) = decide (N ≤ i) := by
 have hN := z.hN
 rw [h.dev]
 try dsimp only
 rw [Xf, show IntKind.u64.wrap ((N : Nat) : Int) = (N : Int) by simp [IntKind.wrap, IntKind.bits, IntKind.signed]; omega, show IntKind.u64.wrap ((i : Nat) : Int) = (i : Int) by simp [IntKind.wrap, IntKind.bits, IntKind.signed]; omega]
 exact decide_eq_decide.2 (by omega)
theorem Zdc (h : RR N B n w m) (mi : MI N B n t m) (z : Sz8 N B n m) {k : Nat} (hk : 100 < k) : match m.room B n with
  | none => Q76.f k w = some (w, false)
  | some m' => ∃ w', Q76.f k w = some (w', true) ∧ RR N B n w' m' := by
 have h64 := z.h64
 have hl := h.len mi h64
 have hu := h.used
 have hrl := mi.rle
 have hrow : w.2.2.2.length = m.row.length := by rw [h.row, List.length_map]
 unfold MC.room Q76.f
 by_cases q : m.used < n
 ·rw [if_pos q, if_pos (decide_eq_true (by rw [h.most]; omega))]
  exact ⟨w, rfl, h⟩
 ·rw [if_neg q, if_neg (by rw [h.most]; simp only [decide_eq_true_eq]; omega)]
  cases hr : m.row.getLast? with
  | none =>
   have : m.row = [] := List.getLast?_eq_none_iff.1 hr
   rw [this] at hrow
   exact if_pos (decide_eq_true (by simp only [List.length_nil] at hrow; omega))
  | some b =>
   obtain ⟨R0, hR⟩ := List.getLast?_eq_some_iff.1 hr
   have hrl2 : m.row.length = R0.length + 1 := by rw [hR]; simp
   have hb : b ∈ m.row := by rw [hR]; simp
   obtain ⟨f, hf, _⟩ := (mi.rfr b).1 hb
   have hlen := mi.len b f hf
   have e1 : w64 ((w.2.2.2.length : Int) - 1) = (R0.length : Int) := by rw [Yf (by omega) (by omega)]; omega
   have e2 : gt w.2.2.2 (R0.length : Int) = (b : Int) := by
    rw [Yh, h.row, hR, List.map_append, List.getD_eq_getElem?_getD, List.getElem?_append_right (by simp)]; simp
   rcases h.find mi h64 hk b with ⟨g1, _⟩ | ⟨f', qx, g1, g2, g3, g4⟩
   ·rw [hf] at g1; cases g1
   ·rw [hf] at g1
    injection g1 with g1
    subst g1
    have hw : w.2.2.2 = m.row.map fun (i : Nat) => (i : Int) := h.row
    rw [if_neg (by simp only [decide_eq_true_eq]; omega), e1, if_pos (by omega), e2, g2, Option.bind_some, if_pos (by omega), g4]
    try dsimp only
    rw [hw, V3 (by omega) (by omega) mi.rnd]
    simp only [Option.bind_some]
    have hN := z.hN
    have hB := z.B_le
    unfold MC.evict
    rw [hf]
    try dsimp only
    by_cases hd : f.d = true
    ·have hwr := Zbt (N := N) (n := B) (i := b) (img := m.img) (b := f.b) (x := m.rd) (y := m.wr) mi.dim hN (by omega) (by omega)
     rw [if_neg (by omega), if_pos hlen.2.1] at hwr
     rw [show (rfm b f).2.2.1 = f.d from rfl, if_pos hd, show (rfm b f).2.1 = toS f.b from rfl, h.dev, hwr, Option.bind_some, if_pos hd, if_pos hd]
     try dsimp only
     rw [Zbd (by show w.2.1.length ≤ 1000; omega) (by show w.2.1.length < k; omega), Option.bind_some, Yf (by have := z.wr; omega) (by have := z.wr; omega)]
     exact ⟨_, rfl, h.gone hf _ _ _⟩
    ·rw [show (rfm b f).2.2.1 = f.d from rfl, if_neg hd, if_neg hd, if_neg hd, Zbd (by show w.2.1.length ≤ 1000; omega) (by show w.2.1.length < k; omega), Option.bind_some]
     have := h.gone hf m.img m.wr (m.row.erase b)
     rw [← h.dev] at this
     exact ⟨_, rfl, this⟩
end
section
variable {N B n t : Nat} {w : Rc} {m : MC} {i : Nat} {f : Fm}
theorem Zan {m' : MC} (mi : MI N B n t m) (e : m.fr i = none) (hr : m.room B n = some m') : m'.fr i = none ∧ m'.img.length = N * B ∧ m'.rd = m.rd ∧ m.wr ≤ m'.wr ∧ m'.wr ≤ m.wr + 1 ∧ (∀ j ∈ m'.row, j ∈ m.row) ∧ m'.row.Nodup ∧ m'.row.length ≤ n ∧ m'.used < n + 1 := by
 unfold MC.room at hr
 split at hr
 ·injection hr with hr
  subst hr
  exact ⟨e, mi.dim, rfl, Int.le_refl _, by omega, fun _ h => h, mi.rnd, mi.rle, by omega⟩
 ·split at hr
  ·cases hr
  ·rename_i q hq
   injection hr with hr
   obtain ⟨R0, hR⟩ := List.getLast?_eq_some_iff.1 hq
   obtain ⟨f, hf, _⟩ := (mi.rfr q).1 (by rw [hR]; simp)
   have hlen := mi.len q f hf
   rw [MC.evict_eq hf] at hr
   subst hr
   have hne : i ≠ q := fun h => by subst h; rw [e] at hf; cases hf
   refine ⟨by dsimp only; rw [Wb hne, e], ?_, rfl, ?_, ?_, fun j hj => List.mem_of_mem_erase hj, mi.rnd.erase q, ?_, ?_⟩
   ·dsimp only
    split
    ·exact J7 mi.dim hlen.1
    ·exact mi.dim
   ·dsimp only; split <;> omega
   ·dsimp only; split <;> omega
   ·have := List.length_erase_le (a := q) (l := m.row); have := mi.rle; dsimp only; omega
   ·have := mi.ule; dsimp only; omega
theorem Zb5 {L : List Nat} (h : i ∉ L) : L.erase i = L := List.erase_of_not_mem h
theorem Ze6 (mi : MI N B n t m) (e : m.fr i = none) : i ∉ m.row := fun h => by
 obtain ⟨f, hf, _⟩ := (mi.rfr i).1 h
 rw [e] at hf; cases hf
theorem Ze2 (h : RR N B n w m) (mi : MI N B n t m) (z : Sz8 N B n m) (ht : t ≤ 1000000) {k : Nat} (hk : 100 < k) {i : Nat} (hi : i < 4294967296) : ∃ w', Q69.f k w (i : Int) = some (w', (m.pin N B n i).1) ∧ RR N B n w' (m.pin N B n i).2 := by
 have h64 := z.h64
 have hl := h.len mi h64
 have hrl := mi.rle
 have hN := z.hN
 unfold Q69.f
 rw [Zar h z hi]
 by_cases q : N ≤ i
 ·rw [if_pos (decide_eq_true q), MC.pin_out q]
  exact ⟨w, rfl, h⟩
 ·rw [if_neg (by simpa using q)]
  rcases h.find mi h64 hk i with ⟨g1, g2⟩ | ⟨f, qx, g1, g2, g3, g4⟩
  ·rw [g2, Option.bind_some, if_neg (by decide)]
   have hr := Zdc h mi z hk
   cases e : m.room B n with
   | none =>
    rw [e] at hr
    dsimp only at hr
    rw [hr, Option.bind_some, if_pos (by simp), MC.pin_full q g1 e]
    exact ⟨w, rfl, h⟩
   | some m' =>
    rw [e] at hr
    dsimp only at hr
    obtain ⟨w', e1, h'⟩ := hr
    obtain ⟨k1, k2, k3, k4, k5, k6, k7, k8, k9⟩ := Zan mi g1 e
    have hu' := h'.used
    have hl' : w'.2.1.length ≤ 1000 := by omega
    have hrd := Zgn (N := N) (n := B) (i := i) (img := m'.img) (x := m'.rd) (y := m'.wr) hN hi
    rw [if_neg q] at hrd
    rw [e1, Option.bind_some, if_neg (by simp), h'.dev, hrd, Option.bind_some, MC.pin_miss q g1 e]
    dsimp only
    have hw := Zbj (w := (((B : Int), Lb m'.img N B, w64 (m'.rd + 1), m'.wr), w'.2)) (x := rfm i ⟨blk m'.img B i, false, 1⟩) (k := k) hl' (by show w'.2.1.length < k; omega)
    rw [show Q77.f k (((B : Int), Lb m'.img N B, w64 (m'.rd + 1), m'.wr), w'.2.1, w'.2.2.1, w'.2.2.2) ((i : Int), toS (blk m'.img B i), false, 1) = _ from hw, Option.bind_some]
    have e2 : w64 (m'.rd + 1) = m'.rd + 1 := Yf (by have := z.rd; omega) (by have := z.rd; omega)
    have := h'.come (i := i) k1 ⟨blk m'.img B i, false, 1⟩ (m'.rd + 1)
    rw [h'.dev] at this
    refine ⟨_, rfl, ?_⟩
    rw [e2]
    exact this
  ·have hlen := mi.len i f g1
   rw [g2, Option.bind_some, if_pos (decide_eq_true (by omega)), if_pos (by omega), g4, MC.pin_hit q g1, h.row, V3 (by omega) (by omega) mi.rnd, Option.bind_some]
   have e2 : w64 ((f.p : Int) + 1) = ((f.p + 1 : Nat) : Int) := by rw [Yf (by omega) (by omega)]; omega
   have hw := h.putE mi h64 hk (m.row.erase i) i ⟨f.b, f.d, f.p + 1⟩
   rw [show ((rfm i f).1, (rfm i f).2.1, (rfm i f).2.2.1, w64 ((rfm i f).2.2.2 + 1)) = rfm i ⟨f.b, f.d, f.p + 1⟩ by unfold rfm; dsimp only; rw [e2], hw, Option.bind_some]
   exact ⟨_, rfl, h.put g1 _ _⟩
theorem Zfq (h : RR N B n w m) (mi : MI N B n t m) (z : Sz8 N B n m) {k : Nat} (hk : 100 < k) {i : Nat} (hi : i < 4294967296) : ∃ w', Q68.f k w (i : Int) = some (w', (m.fresh N B n i).1) ∧ RR N B n w' (m.fresh N B n i).2 := by
 have h64 := z.h64
 have hl := h.len mi h64
 have hrl := mi.rle
 have hN := z.hN
 have hB := z.B_le
 have zs : ∀ (p : Nat), toS (List.replicate ((B : Nat) : Int).toNat (0 : Int)) = toS (List.replicate B 0) := fun _ => by rw [Int.toNat_natCast]
 unfold Q68.f
 rw [Zar h z hi]
 by_cases q : N ≤ i
 ·rw [if_pos (decide_eq_true q), MC.fresh_out q]
  exact ⟨w, rfl, h⟩
 ·rw [if_neg (by simpa using q)]
  rcases h.find mi h64 hk i with ⟨g1, g2⟩ | ⟨f, qx, g1, g2, g3, g4⟩
  ·rw [g2, Option.bind_some, if_neg (by decide)]
   have hr := Zdc h mi z hk
   cases e : m.room B n with
   | none =>
    rw [e] at hr
    dsimp only at hr
    rw [if_pos (by decide), hr, Option.bind_some, if_pos (by simp), MC.fresh_full q g1 e]
    exact ⟨w, rfl, h⟩
   | some m' =>
    rw [e] at hr
    dsimp only at hr
    obtain ⟨w', e1, h'⟩ := hr
    obtain ⟨k1, k2, k3, k4, k5, k6, k7, k8, k9⟩ := Zan mi g1 e
    have hu' := h'.used
    have hl' : w'.2.1.length ≤ 1000 := by omega
    have hin : i ∉ m'.row := fun hx => Ze6 mi g1 (k6 i hx)
    rw [if_pos (by decide), e1, Option.bind_some, if_neg (by simp), h'.row, V3 (by omega) (by omega) k7, Option.bind_some, Zb5 hin, h'.dev]
    dsimp only
    rw [if_pos (by omega), Int.toNat_natCast, MC.fresh_miss q g1 e]
    have hw := Zbj (w := (((B : Int), Lb m'.img N B, m'.rd, m'.wr), w'.2.1, w'.2.2.1, m'.row.map fun (i : Nat) => (i : Int))) (x := rfm i ⟨List.replicate B 0, true, 1⟩) (k := k) hl' (by show w'.2.1.length < k; omega)
    rw [show Q77.f k (((B : Int), Lb m'.img N B, m'.rd, m'.wr), w'.2.1, w'.2.2.1, m'.row.map fun (i : Nat) => (i : Int)) ((i : Int), toS (List.replicate B 0), true, 1) = _ from hw, Option.bind_some]
    have := h'.come (i := i) k1 ⟨List.replicate B 0, true, 1⟩ m'.rd
    rw [h'.dev] at this
    refine ⟨_, rfl, ?_⟩
    have h3 := h'.row
    rw [← h3]
    exact this
  ·have hlen := mi.len i f g1
   rw [g2, Option.bind_some, if_pos (decide_eq_true (by omega)), if_pos (by omega), g4, show (rfm i f).2.2.2 = (f.p : Int) from rfl]
   by_cases hp : 0 < f.p
   ·rw [if_pos (decide_eq_true (show (0 : Int) < (f.p : Int) by omega)), MC.fresh_pin q g1 hp]
    exact ⟨w, rfl, h⟩
   ·rw [if_neg (by simp only [decide_eq_true_eq]; show ¬ (0 : Int) < (f.p : Int); omega), if_neg (by simp only [decide_eq_true_eq]; omega), MC.fresh_hit q g1 hp, h.row, V3 (by omega) (by omega) mi.rnd, Option.bind_some]
    have hB1 : w.1.1 = (B : Int) := by rw [h.dev]
    have hw := h.putE mi h64 hk (m.row.erase i) i ⟨List.replicate B 0, true, 1⟩
    rw [if_pos (by rw [hB1]; omega), hB1, Int.toNat_natCast, show ((i : Int), toS (List.replicate B 0), true, 1) = rfm i ⟨List.replicate B 0, true, 1⟩ from rfl, hw, Option.bind_some]
    exact ⟨_, rfl, h.put g1 _ _⟩
theorem Uh (h : RR N B n w m) (mi : MI N B n t m) (h64 : n ≤ 64) {k : Nat} (hk : 100 < k) (i : Nat) : (((∃ f, m.fr i = some f ∧ f.p = 0) ∨ m.fr i = none) ∧ Q70.f k w (i : Int) = some (-1)) ∨
  ∃ (f : Fm) (q : Nat), m.fr i = some f ∧ f.p ≠ 0 ∧ Q70.f k w (i : Int) = some (q : Int) ∧ q < w.2.1.length ∧ gt w.2.1 (q : Int) = rfm i f := by
 have hl := h.len mi h64
 unfold Q70.f
 rcases h.find mi h64 hk i with ⟨g1, g2⟩ | ⟨f, qx, g1, g2, g3, g4⟩
 ·exact .inl ⟨.inr g1, by rw [g2, Option.bind_some, if_neg (by decide)]⟩
 ·rw [g2, Option.bind_some, if_pos (decide_eq_true (by omega)), if_pos (by omega), g4]
  by_cases hp : f.p = 0
  ·exact .inl ⟨.inl ⟨f, g1, hp⟩, if_pos (decide_eq_true (show (f.p : Int) = 0 by omega))⟩
  ·exact .inr ⟨f, qx, g1, hp, if_neg (by simp only [decide_eq_true_eq]; show ¬ (f.p : Int) = 0; omega), g3, g4⟩
theorem Zby (h : RR N B n w m) (mi : MI N B n t m) (z : Sz8 N B n m) (ht : t ≤ 1000000) {k : Nat} (hk : 100 < k) (i : Nat) : ∃ w', Q73.f k w (i : Int) = some (w', (m.unpin i).1) ∧ RR N B n w' (m.unpin i).2 := by
 have h64 := z.h64
 have hl := h.len mi h64
 have hrl := mi.rle
 unfold Q73.f
 rcases Uh h mi h64 hk i with ⟨g1, g2⟩ | ⟨f, qx, g1, gp, g2, g3, g4⟩
 ·rw [g2, Option.bind_some, if_pos (by decide)]
  have : m.unpin i = (8, m) := by
   rcases g1 with ⟨f, g1, hp⟩ | g1
   ·exact MC.unpin_out g1 hp
   ·exact MC.unpin_no g1
  rw [this]
  exact ⟨w, rfl, h⟩
 ·have hlen := mi.len i f g1
  have e2 : w64 ((f.p : Int) - 1) = ((f.p - 1 : Nat) : Int) := by rw [Yf (by omega) (by omega)]; omega
  rw [g2, Option.bind_some, if_neg (by simp only [decide_eq_true_eq]; omega), if_pos (by omega), g4, show (rfm i f).2.2.2 = (f.p : Int) from rfl, e2]
  by_cases hp : f.p = 1
  ·rw [if_pos (decide_eq_true (by omega)), if_pos (by simp only [List.length_singleton, h.row, List.length_map]; omega), MC.unpin_one g1 hp]
   have hw := h.putE mi h64 hk (i :: m.row) i ⟨f.b, f.d, 0⟩
   rw [show [(i : Int)] ++ w.2.2.2 = (i :: m.row).map fun (i : Nat) => (i : Int) by rw [h.row]; rfl, show ((rfm i f).1, (rfm i f).2.1, (rfm i f).2.2.1, ((f.p - 1 : Nat) : Int)) = rfm i ⟨f.b, f.d, 0⟩ by unfold rfm; rw [hp], hw, Option.bind_some]
   exact ⟨_, rfl, h.put g1 _ _⟩
  ·rw [if_neg (by simp only [decide_eq_true_eq]; omega), MC.unpin_more g1 gp hp]
   have hw := h.putE mi h64 hk m.row i ⟨f.b, f.d, f.p - 1⟩
   rw [← h.row] at hw
   rw [show ((rfm i f).1, (rfm i f).2.1, (rfm i f).2.2.1, ((f.p - 1 : Nat) : Int)) = rfm i ⟨f.b, f.d, f.p - 1⟩ from rfl, show w = (w.1, w.2.1, w.2.2.1, w.2.2.2) from rfl, hw, Option.bind_some]
   have := h.put g1 ⟨f.b, f.d, f.p - 1⟩ m.row
   rw [← h.row] at this
   exact ⟨_, rfl, this⟩
theorem Zal (h : RR N B n w m) (mi : MI N B n t m) (z : Sz8 N B n m) {k : Nat} (hk : 100 < k) (i : Nat) (b : List Int) : ∃ w', Q74.f k w (i : Int) (toS b) = some (w', (m.write B i b).1) ∧ RR N B n w' (m.write B i b).2 := by
 have h64 := z.h64
 have hl := h.len mi h64
 unfold Q74.f
 rcases Uh h mi h64 hk i with ⟨g1, g2⟩ | ⟨f, qx, g1, gp, g2, g3, g4⟩
 ·rw [g2, Option.bind_some, if_pos (by decide)]
  have : m.write B i b = (8, m) := by
   rcases g1 with ⟨f, g1, hp⟩ | g1
   ·exact MC.write_out g1 hp
   ·exact MC.write_no g1
  rw [this]
  exact ⟨w, rfl, h⟩
 ·have hB1 : w.1.1 = (B : Int) := by rw [h.dev]
  rw [g2, Option.bind_some, if_neg (by simp only [decide_eq_true_eq]; omega), U1, hB1]
  by_cases hb : b.length = B
  ·rw [if_neg (by simp [hb]), if_pos (by omega), g4, MC.write_hit g1 gp hb]
   have hw := h.putE mi h64 hk m.row i ⟨b, true, f.p⟩
   rw [← h.row] at hw
   have := h.put g1 ⟨b, true, f.p⟩ m.row
   rw [← h.row] at this
   rw [show Q77.f k w ((rfm i f).1, toS b, true, (rfm i f).2.2.2) = _ from hw, Option.bind_some]
   exact ⟨_, rfl, this⟩
  ·rw [if_pos (by simp; omega), MC.write_form g1 gp hb]
   exact ⟨w, rfl, h⟩
theorem Zgr (h : RR N B n w m) (mi : MI N B n t m) (z : Sz8 N B n m) {k : Nat} (hk : 100 < k) (i : Nat) : ∃ w', Q65.f k w (i : Int) = some (w', (m.drop i).1) ∧ RR N B n w' (m.drop i).2 := by
 have h64 := z.h64
 have hl := h.len mi h64
 have hrl := mi.rle
 unfold Q65.f
 rcases Uh h mi h64 hk i with ⟨g1, g2⟩ | ⟨f, qx, g1, gp, g2, g3, g4⟩
 ·rw [g2, Option.bind_some, if_neg (by decide), h.row, V3 (by omega) (by omega) mi.rnd, Option.bind_some, Zbd (by show w.2.1.length ≤ 1000; omega) (by show w.2.1.length < k; omega), Option.bind_some]
  rcases g1 with ⟨f, g1, hp⟩ | g1
  ·rw [MC.drop_hit g1 (by omega)]
   have := h.gone g1 m.img m.wr (m.row.erase i)
   rw [← h.dev] at this
   exact ⟨_, rfl, this⟩
  ·rw [MC.drop_no g1, Zb5 (Ze6 mi g1)]
   try dsimp only
   rw [Zcw h.fr g1, ← h.row]
   exact ⟨_, rfl, h⟩
 ·rw [g2, Option.bind_some, if_pos (decide_eq_true (by omega)), MC.drop_pin g1 (by omega)]
  exact ⟨w, rfl, h⟩
theorem Zbq (h : RR N B n w m) (mi : MI N B n t m) (z : Sz8 N B n m) {k : Nat} (hk : 100 < k) (i : Nat) : Q72.f k w (i : Int) = some (toS (m.read i).1, (m.read i).2) := by
 have h64 := z.h64
 unfold Q72.f
 rcases Uh h mi h64 hk i with ⟨g1, g2⟩ | ⟨f, qx, g1, gp, g2, g3, g4⟩
 ·rw [g2, Option.bind_some, if_pos (by decide)]
  have : m.read i = ([], 8) := by
   rcases g1 with ⟨f, g1, hp⟩ | g1
   ·exact MC.read_out g1 hp
   ·exact MC.read_no g1
  rw [this]; rfl
 ·rw [g2, Option.bind_some, if_neg (by simp only [decide_eq_true_eq]; omega), if_pos (by omega), g4, MC.read_hit g1 gp]; rfl
theorem Zfm (h : RR N B n w m) (mi : MI N B n t m) (z : Sz8 N B n m) {k : Nat} (hk : 100 < k) (i : Nat) : Q71.f k w (i : Int) = some (m.pins i) := by
 have h64 := z.h64
 unfold Q71.f MC.pins
 rcases h.find mi h64 hk i with ⟨g1, g2⟩ | ⟨f, qx, g1, g2, g3, g4⟩
 ·rw [g2, Option.bind_some, if_pos (by decide), g1]
 ·rw [g2, Option.bind_some, if_neg (by simp only [decide_eq_true_eq]; omega), if_pos (by omega), g4, g1]; rfl
theorem Zcn {x : Nat} (h : x < 4294967295) : IntKind.u32.wrap ((x : Int) + 1) = ((x + 1 : Nat) : Int) := by
 simp [IntKind.wrap, IntKind.bits, IntKind.signed]; omega
theorem G4 (h : RR N B n w m) (mi : MI N B n t m) (z : Sz8 N B n m) : ∀ (q j k : Nat) (acc : List Int), N = j + q → q + 200 < k → acc.length ≤ j → Q64.l0 k w acc (j : Int) = some (acc ++ ((List.range' j q).filter m.isD).map fun (i : Nat) => (i : Int))
 | 0, j, k + 1, acc, hj, hk, ha => by
  have hN := z.hN
  rw [Q64.l0, h.dev]
  dsimp only
  rw [Xf, show IntKind.u64.wrap ((N : Nat) : Int) = (N : Int) by simp [IntKind.wrap, IntKind.bits, IntKind.signed]; omega, show IntKind.u64.wrap ((j : Nat) : Int) = (j : Int) by simp [IntKind.wrap, IntKind.bits, IntKind.signed]; omega, if_neg (by simp only [decide_eq_true_eq]; omega)]
  simp
 | q + 1, j, k + 1, acc, hj, hk, ha => by
  have hN := z.hN
  have h64 := z.h64
  have ih : ∀ acc : List Int, acc.length ≤ j + 1 → _ := fun acc ha => G4 h mi z q (j + 1) k acc (by omega) (by omega) ha
  rw [Q64.l0, show w.1.2.1.length = N by rw [h.dev]; exact Xf _ _ _, show IntKind.u64.wrap ((N : Nat) : Int) = (N : Int) by simp [IntKind.wrap, IntKind.bits, IntKind.signed]; omega, show IntKind.u64.wrap ((j : Nat) : Int) = (j : Int) by simp [IntKind.wrap, IntKind.bits, IntKind.signed]; omega, if_pos (decide_eq_true (by omega)), List.range'_succ, List.filter_cons]
  rcases h.find mi h64 (k := k) (by omega) j with ⟨g1, g2⟩ | ⟨f, qx, g1, g2, g3, g4⟩
  ·rw [g2, Option.bind_some, if_neg (by decide), show m.isD j = false by unfold MC.isD; rw [g1], if_neg (by simp), Zcn (by omega)]
   exact ih acc (by omega)
  ·rw [g2, Option.bind_some, if_pos (decide_eq_true (by omega)), if_pos (by omega), g4, show m.isD j = f.d by unfold MC.isD; rw [g1], show (rfm j f).2.2.1 = f.d from rfl, Zcn (by omega)]
   by_cases hd : f.d = true
   ·rw [if_pos hd, if_pos hd, if_pos (by simp only [List.length_singleton]; omega), ih _ (by simp; omega), List.map_cons, List.append_assoc]; rfl
   ·rw [if_neg hd, if_neg hd]
    exact ih acc (by omega)
theorem Zbu (h : RR N B n w m) (mi : MI N B n t m) (z : Sz8 N B n m) {k : Nat} (hk : N + 300 < k) : Q64.f k w = some ((m.dirty N).map fun (i : Nat) => (i : Int)) := by
 have := G4 h mi z N 0 k [] (by omega) (by omega) (by simp)
 unfold Q64.f MC.dirty
 rw [List.range_eq_range']
 exact this
theorem W4 (e : m.fr i = some f) : m.backI B i = ⟨Yu m.img (i * B) B f.b, m.rd, m.wr + 1, upd m.fr i (some ⟨f.b, false, f.p⟩), m.used, m.row⟩ := by unfold MC.backI; rw [e]
theorem U2 (e : m.fr i = none) : m.backI B i = m := by unfold MC.backI; rw [e]
theorem MI.back (mi : MI N B n t m) (i : Nat) : MI N B n t (m.backI B i) := by
 cases e : m.fr i with
 | none => rw [U2 e]; exact mi
 | some f =>
  have hlen := mi.len i f e
  rw [W4 e]
  refine ⟨J7 mi.dim hlen.1, fun j f' hj => ?_, mi.rnd, fun q => ?_, mi.ule, mi.rle⟩
  ·dsimp only at hj
   by_cases q : j = i
   ·subst q; rw [X7] at hj; injection hj with hj; subst hj; exact hlen
   ·rw [Wb q] at hj; exact mi.len j f' hj
  ·show q ∈ m.row ↔ ∃ f', upd m.fr i (some ⟨f.b, false, f.p⟩) q = some f' ∧ f'.p = 0
   rw [mi.rfr q]
   by_cases hq : q = i
   ·subst hq
    rw [X7, e]
    exact ⟨fun ⟨f', h1, h2⟩ => ⟨_, rfl, by injection h1 with h1; subst h1; exact h2⟩, fun ⟨f', h1, h2⟩ => ⟨_, rfl, by injection h1 with h1; subst h1; exact h2⟩⟩
   ·rw [Wb hq]
theorem Sz8.back (z : Sz8 N B n m) (i : Nat) (hw : m.wr ≤ 999999999) : Sz8 N B n (m.backI B i) := by
 cases e : m.fr i with
 | none => rw [U2 e]; exact z
 | some f => rw [W4 e]; exact ⟨z.hN, z.hNB, z.hB1, z.hN1, z.h64, z.rd, by have := z.wr; dsimp only; omega⟩
theorem Zg2 (i j : Nat) : (∃ f, m.fr j = some f) → ∃ f, (m.backI B i).fr j = some f := fun ⟨f, hf⟩ => by
 cases e : m.fr i with
 | none => rw [U2 e]; exact ⟨f, hf⟩
 | some f' =>
  rw [W4 e]
  dsimp only
  by_cases q : j = i
  ·subst q; exact ⟨_, X7 _ _ _⟩
  ·exact ⟨f, by rw [Wb q]; exact hf⟩
theorem Zg5 (i : Nat) : m.wr ≤ (m.backI B i).wr ∧ (m.backI B i).wr ≤ m.wr + 1 ∧ (m.backI B i).rd = m.rd := by
 cases e : m.fr i with
 | none => rw [U2 e]; exact ⟨by omega, by omega, rfl⟩
 | some f => rw [W4 e]; dsimp only; omega
theorem G5 {D : List Nat} (hD : D.length ≤ 1000) : ∀ (q j k : Nat) (w : Rc) (m : MC), RR N B n w m → MI N B n t m → Sz8 N B n m → m.wr + q ≤ 999999999 → (∀ i ∈ D, ∃ f, m.fr i = some f) → D.length = j + q → q + 200 < k →
  ∃ w', Q67.l0 k (D.map fun (i : Nat) => (i : Int)) w.1.1 w.1.2.1 w.1.2.2.1 w.1.2.2.2 w.2.1 w.2.2.1 w.2.2.2 (j : Int) = some w' ∧ RR N B n w' ((D.drop j).foldl (MC.backI B) m)
 | _, _, 0, _, _, _, _, _, _, _, _, hk => by omega
 | 0, j, k + 1, w, m, h, mi, z, hw, hf, hj, hk => by
  rw [Q67.l0, if_neg (by simp only [decide_eq_true_eq, List.length_map]; omega), List.drop_eq_nil_of_le (by omega)]
  exact ⟨w, rfl, h⟩
 | q + 1, j, k + 1, w, m, h, mi, z, hw, hf, hj, hk => by
  have h64 := z.h64
  have hl := h.len mi h64
  have hN := z.hN
  have hB := z.B_le
  have hjl : j < D.length := by omega
  have hg : gt (D.map fun (i : Nat) => (i : Int)) (j : Int) = ((D.getD j default : Nat) : Int) := by
   rw [Yh, List.getD_eq_getElem?_getD, List.getElem?_map, List.getD_eq_getElem?_getD, List.getElem?_eq_getElem hjl]; rfl
  obtain ⟨f0, hf0⟩ := hf _ (Vi (d := default) hjl)
  rw [Q67.l0, if_pos (decide_eq_true (by rw [List.length_map]; omega)), if_pos (by rw [List.length_map]; omega), hg]
  have hd : D.drop j = D.getD j default :: D.drop (j + 1) := Wn hjl
  have hb := mi.back (D.getD j default)
  have hz := z.back (B := B) (D.getD j default) (by omega)
  have hbw := Zg5 (B := B) (m := m) (D.getD j default)
  generalize D.getD j default = i at hf0 hd hb hz hbw ⊢
  rcases h.find mi h64 (k := k) (by omega) i with ⟨g1, g2⟩ | ⟨f, qx, g1, g2, g3, g4⟩
  ·rw [g1] at hf0; cases hf0
  ·have hlen := mi.len i f g1
   have hwr := Zbt (N := N) (n := B) (i := i) (img := m.img) (b := f.b) (x := m.rd) (y := m.wr) mi.dim hN (by omega) (by omega)
   rw [if_neg (by omega), if_pos hlen.2.1] at hwr
   rw [show Q66.f k ((w.1.1, w.1.2.1, w.1.2.2.1, w.1.2.2.2), w.2.1, w.2.2.1, w.2.2.2) (i : Int) = _ from g2, Option.bind_some, if_pos (by omega), g4]
   try dsimp only
   rw [show (w.1.1, w.1.2.1, w.1.2.2.1, w.1.2.2.2) = ((B : Int), Lb m.img N B, m.rd, m.wr) from h.dev, show Q61.f ((B : Int), Lb m.img N B, m.rd, m.wr) (rfm i f).1 (rfm i f).2.1 = _ from hwr, Option.bind_some]
   have hwP := Zbj (w := (((B : Int), Lb (Yu m.img (i * B) B f.b) N B, m.rd, w64 (m.wr + 1)), w.2)) (x := rfm i ⟨f.b, false, f.p⟩) (k := k) (by show w.2.1.length ≤ 1000; omega) (by show w.2.1.length < k; omega)
   rw [show Q77.f k ((((B : Int), Lb (Yu m.img (i * B) B f.b) N B, m.rd, w64 (m.wr + 1)), (0 : Int)).1, w.2.1, w.2.2.1, w.2.2.2) ((rfm i f).1, (rfm i f).2.1, false, (rfm i f).2.2.2) = _ from hwP, Option.bind_some, Xd (by omega)]
   have e2 : w64 (m.wr + 1) = m.wr + 1 := Yf (by have := z.wr; omega) (by have := z.wr; omega)
   have hput := h.put g1 ⟨f.b, false, f.p⟩ m.row
   have hRR : RR N B n (((B : Int), Lb (Yu m.img (i * B) B f.b) N B, m.rd, m.wr + 1), Xw (i : Int) w.2.1 ++ [rfm i ⟨f.b, false, f.p⟩], w.2.2) (m.backI B i) := by
    rw [W4 g1]
    exact ⟨rfl, h.most, h.row, hput.fr, hput.used⟩
   obtain ⟨w', e3, h3⟩ := G5 hD q (j + 1) k _ _ hRR hb hz (by omega) (fun i' hi' => Zg2 _ _ (hf i' hi')) (by omega) (by omega)
   refine ⟨w', ?_, ?_⟩
   ·rw [e2]; exact e3
   ·rw [hd]; exact h3
theorem Za3 : ∀ {l₁ l₂ : List Int}, l₁.Nodup → (∀ x ∈ l₁, x ∈ l₂) → l₁.length ≤ l₂.length
 | [], _, _, _ => by simp
 | x :: t, l₂, nd, h => by
  rw [List.nodup_cons] at nd
  have hx := h x (by simp)
  have h1 := List.length_erase_of_mem hx
  have h2 : 0 < l₂.length := List.length_pos_of_mem hx
  have := Za3 (l₂ := l₂.erase x) nd.2 fun y hy => (List.mem_erase_of_ne (fun e => nd.1 (by rw [← e]; exact hy))).2 (h y (by simp [hy]))
  rw [List.length_cons]
  omega
theorem Zfw (h : RR N B n w m) (mi : MI N B n t m) (z : Sz8 N B n m) (hw : m.wr ≤ 900000000) {k : Nat} (hk : 66000 < k) : ∃ w', Q67.f k w = some w' ∧ RR N B n w' (m.flush N B) := by
 have hN := z.hN
 have hl := h.len mi z.h64
 have hD : (m.dirty N).length ≤ 64 := by
  have h1 : (m.dirty N).Nodup := (List.filter_sublist).nodup List.nodup_range
  have h2 : ∀ i ∈ m.dirty N, (i : Int) ∈ w.2.1.map Prod.fst := fun i hi => by
   have := (List.mem_filter.1 hi).2
   unfold MC.isD at this
   cases e : m.fr i with
   | none => rw [e] at this; cases this
   | some f => exact List.mem_map.2 ⟨_, h.fr.all i f e, rfl⟩
  have h3 : ((m.dirty N).map fun (i : Nat) => (i : Int)).Nodup := List.Pairwise.map _ (fun a b hne e => hne (by omega)) h1
  have h4 := Za3 h3 fun x hx => by obtain ⟨i, hi, rfl⟩ := List.mem_map.1 hx; exact h2 i hi
  simp only [List.length_map] at h4
  omega
 obtain ⟨w', e, hr⟩ := G5 (N := N) (B := B) (n := n) (t := t) (D := m.dirty N) (by omega) (m.dirty N).length 0 k w m h mi z (by omega) (fun i hi => by
  have := (List.mem_filter.1 hi).2
  unfold MC.isD at this
  cases e : m.fr i with
  | none => rw [e] at this; cases this
  | some f => exact ⟨f, rfl⟩) (by omega) (by omega)
 unfold Q67.f MC.flush
 rw [Zbu h mi z (by omega), Option.bind_some]
 exact ⟨w', e, hr⟩
end
theorem Gx : ∀ {l₁ l₂ : List Int}, l₁.Pairwise (· < ·) → l₂.Pairwise (· < ·) → (∀ x, x ∈ l₁ ↔ x ∈ l₂) → l₁ = l₂
 | [], [], _, _, _ => rfl
 | [], y :: _, _, _, h => by have := (h y).2 (by simp); simp at this
 | x :: _, [], _, _, h => by have := (h x).1 (by simp); simp at this
 | x :: s, y :: t, h1, h2, h => by
  rw [List.pairwise_cons] at h1 h2
  have e : x = y := by
   have a := (h x).1 (by simp)
   have b := (h y).2 (by simp)
   rcases List.mem_cons.1 a with a | a
   ·exact a
   ·rcases List.mem_cons.1 b with b | b
    ·exact b.symm
    ·have := h1.1 y b
     have := h2.1 x a
     omega
  subst e
  rw [Gx h1.2 h2.2 fun z => ?_]
  constructor
  ·intro hz
   rcases List.mem_cons.1 ((h z).1 (by simp [hz])) with e | e
   ·have := h1.1 z hz; omega
   ·exact e
  ·intro hz
   rcases List.mem_cons.1 ((h z).2 (by simp [hz])) with e | e
   ·have := h2.1 z hz; omega
   ·exact e
section
variable {N B n t : Nat} {c : Ca} {L : List Nat}
theorem Zga (h : CaI N B n t [] c L) : Xs c = ((Ye c L).dirty N).map fun (i : Nat) => (i : Int) := by
 refine Gx ?_ ?_ fun x => ?_
 ·refine List.Pairwise.filter _ ?_
  have h1 := List.pairwise_mergeSort (le := fun x y : Int => decide (x ≤ y)) (fun a b c h1 h2 => by simp only [decide_eq_true_eq] at *; omega) (fun a b => by simp only [Bool.or_eq_true, decide_eq_true_eq]; omega) (c.2.2.1.map Prod.fst)
  have h2 : (Xt c).Nodup := (We c).nodup_iff.2 h.mnd
  exact (h1.and h2).imp fun {a b} q => by
   have q1 := q.1
   simp only [decide_eq_true_eq] at q1
   have q2 := q.2
   omega
 ·refine List.Pairwise.map _ (fun a b (q : a < b) => by omega) ?_
  exact List.Pairwise.filter _ List.pairwise_lt_range
 ·unfold Xs
  rw [List.mem_filter]
  constructor
  ·rintro ⟨h1, h2⟩
   obtain ⟨i, f, e1, hp, e2, ok⟩ := Bl h h1
   refine List.mem_map.2 ⟨i, List.mem_filter.2 ⟨List.mem_range.2 ok.hi, ?_⟩, e1.symm⟩
   unfold MC.isD
   rw [show (Ye c L).fr i = _ from Xp h hp]
   unfold V8 at h2
   rw [e2, Yh] at h2
   exact h2
  ·intro h1
   obtain ⟨i, hi, rfl⟩ := List.mem_map.1 h1
   obtain ⟨h2, h3⟩ := List.mem_filter.1 hi
   unfold MC.isD at h3
   rcases h.get i with ⟨_, g2⟩ | ⟨f, ha, _, g, ok⟩
   ·rw [show (Ye c L).fr i = none from Wj g2] at h3; cases h3
   ·rw [show (Ye c L).fr i = _ from Xp h ha] at h3
    refine ⟨(We c).mem_iff.2 (List.mem_map.2 ⟨_, ha, rfl⟩), ?_⟩
    unfold V8
    rw [g, Yh]
    exact h3
theorem Zgk (z : Siz N B n) (h : CaI N B n t [] c L) {i f : Nat} (ha : ((i : Int), (f : Int)) ∈ c.2.2.1) : Ye ((c.1.1, Yu c.1.2.1 (i * B) B (gt c.2.1 (f : Int)).2.1, c.1.2.2.1, c.1.2.2.2 + 1), c.2.1.set f ((gt c.2.1 (f : Int)).1, (gt c.2.1 (f : Int)).2.1, false, (gt c.2.1 (f : Int)).2.2.2), c.2.2) L = (Ye c L).backI B i := by
 have g : gt c.2.1 (f : Int) = c.2.1.getD f default := Yh _ _
 have hf := (h.atN ha).hf
 have hfl := h.frl
 rw [W4 (show (Ye c L).fr i = _ from Xp h ha)]
 refine MC.ext' ?_ rfl rfl (fun j => ?_) rfl ?_
 ·show Yu c.1.2.1 (i * B) B _ = Yu c.1.2.1 (i * B) B _
  rw [g]; rfl
 ·refine Eq.trans (W5 h ha j) ?_
  rw [g]; rfl
 ·exact X0 (by omega) (by rw [g]; rfl) _
theorem Zap (z : Siz N B n) (h : CaI N B n t [] c L) {D : List Nat} (hD : Xs c = D.map fun (i : Nat) => (i : Int)) (nd : D.Nodup) : ∀ (q j k : Nat) (d : Dv) (fr : List Fr8), D.length = j + q → q < k → CaI N B n t [] (d, fr, c.2.2) L → 0 ≤ d.2.2.2 ∧ d.2.2.2 + q ≤ 200000000 → (∀ i ∈ D.drop j, (Ye (d, fr, c.2.2) L).isD i = true) →
  ∃ c', Q4.l0 k c (Xs c) d.1 d.2.1 d.2.2.1 d.2.2.2 fr (j : Int) = some (0, c') ∧ CaI N B n t [] c' L ∧ Ye c' L = (D.drop j).foldl (MC.backI B) (Ye (d, fr, c.2.2) L)
 | _, _, 0, _, _, _, hk, _, _, _ => by omega
 | 0, j, k + 1, d, fr, hj, hk, hi, hw, hd => by
  have hl := Vf z h
  have h64 := z.h64
  have hDl : (Xs c).length = D.length := by rw [hD, List.length_map]
  rw [Q4.l0, if_neg (by simp only [decide_eq_true_eq]; omega), List.drop_eq_nil_of_le (by omega)]
  exact ⟨_, rfl, hi, rfl⟩
 | q + 1, j, k + 1, d, fr, hj, hk, hi, hw, hd => by
  have hl := Vf z h
  have h64 := z.h64
  have hDl : (Xs c).length = D.length := by rw [hD, List.length_map]
  have hjD : j < D.length := by omega
  have hjl : j < (Xs c).length := by omega
  have hin : (Xs c).getD j default ∈ Xt c := (List.mem_filter.1 (Vi (l := Xs c) hjl)).1
  obtain ⟨i, f, e1, hp, e2, ok⟩ := Bl h hin
  have hf := ok.hf
  have hfl := hi.frl
  have ei : D.getD j default = i := by
   rw [hD, List.getD_eq_getElem?_getD, List.getElem?_map, List.getElem?_eq_getElem hjD] at e1
   rw [List.getD_eq_getElem?_getD, List.getElem?_eq_getElem hjD]
   have : ((D[j] : Nat) : Int) = i := e1
   show D[j] = i
   omega
  have hdr : D.drop j = i :: D.drop (j + 1) := by rw [Wn hjD, ei]
  have hni : i ∉ D.drop (j + 1) := by
   have := (List.drop_sublist j D).nodup nd
   rw [hdr, List.nodup_cons] at this
   exact this.1
  have hdi := hd i (by rw [hdr]; simp)
  have hfri : (Ye (d, fr, c.2.2) L).fr i = some (fm (fr.getD f default)) := Xp hi (i := i) (f := f) hp
  have q1 : (gt fr (f : Int)).2.2.1 = true := by
   unfold MC.isD at hdi
   rw [hfri] at hdi
   rw [Yh]; exact hdi
  rw [Q4.l0, if_pos (decide_eq_true (by omega)), if_pos (by omega), Yh, e2, if_pos (by dsimp only at hfl; omega)]
  have hb := hi.back z (i := i) (f := f) hp (d.2.2.1, d.2.2.2 + 1)
  have habs := Zgk z hi (i := i) (f := f) hp
  have hwr := Bv z hi (i := i) (f := f) hp
  rw [if_pos q1, show Q34.f (d.1, d.2.1, (d.2.2.1, d.2.2.2)) (gt fr (f : Int)).1 (gt fr (f : Int)).2.1 = _ from hwr, Option.bind_some]
  dsimp only
  rw [B0 (by omega), Int.toNat_natCast, Xd (by omega)]
  obtain ⟨c', g1, g2, g3⟩ := Zap z h hD nd q (j + 1) k (d.1, Yu d.2.1 (i * B) B (gt fr (f : Int)).2.1, d.2.2.1, d.2.2.2 + 1) (fr.set f ((gt fr (f : Int)).1, (gt fr (f : Int)).2.1, false, (gt fr (f : Int)).2.2.2)) (by omega) (by omega) hb (by dsimp only; omega) (fun i' hi' => by
   have hne : i' ≠ i := fun e => hni (by rw [← e]; exact hi')
   have h1 := hd i' (by rw [hdr]; simp [hi'])
   rw [show Ye ((d.1, Yu d.2.1 (i * B) B (gt fr (f : Int)).2.1, d.2.2.1, d.2.2.2 + 1), fr.set f ((gt fr (f : Int)).1, (gt fr (f : Int)).2.1, false, (gt fr (f : Int)).2.2.2), c.2.2) L = _ from habs, W4 hfri]
   unfold MC.isD at h1 ⊢
   dsimp only
   rw [Wb hne]; exact h1)
  refine ⟨c', g1, g2, ?_⟩
  rw [g3, hdr, List.foldl_cons]
  exact congrArg (fun x => List.foldl (MC.backI B) x (D.drop (j + 1))) habs
theorem Zhg (z : Siz N B n) (h : CaI N B n t [] c L) (fw : Few c) {k : Nat} (hk : 200 < k) : ∃ c', Q4.f k c = some (0, c') ∧ CaI N B n t [] c' L ∧ Ye c' L = (Ye c L).flush N B := by
 have hl := Vf z h
 have h64 := z.h64
 have hD := Zga h
 have hDl : (Xs c).length = ((Ye c L).dirty N).length := by rw [hD, List.length_map]
 obtain ⟨c', g1, g2, g3⟩ := Zap z h hD ((List.filter_sublist).nodup List.nodup_range) ((Ye c L).dirty N).length 0 k c.1 c.2.1 (by omega) (by omega) h ⟨fw.wr.1, by have := fw.wr.2; omega⟩ (fun i hi => (List.mem_filter.1 hi).2)
 unfold Q4.f Q14.f
 rw [Option.bind_some, if_neg (by simp), show Q2.f k c = _ from Zcf z h (by omega), Option.bind_some]
 exact ⟨c', g1, g2, g3⟩
theorem Gy {n : Nat} {c : Chn} (hlen : c.1.length = n + 1) (hn : n ≤ 1000) : ∀ (S : List Nat) (a k : Nat) (acc : List Int), Xm c.1 a (S ++ [n]) → (∀ x ∈ S, x < n) → S.length < k → acc.length + S.length ≤ 1000 → Q21.l0 k c acc (bh c.1 a) = some (acc ++ S.map fun (i : Nat) => (i : Int))
 | _, _, 0, _, _, _, hk, _ => by omega
 | [], a, k + 1, acc, hs, hx, hk, ha => by
  rw [List.nil_append, Xm] at hs
  rw [Q21.l0, Q24.f, Option.bind_some, show w64 ((c.1.length : Int) - 1) = (n : Int) by rw [Yf (by omega) (by omega)]; omega, if_neg (by rw [hs.1.1]; simp)]
  simp
 | x :: S, a, k + 1, acc, hs, hx, hk, ha => by
  rw [List.cons_append, Xm] at hs
  have hxn := hx x (by simp)
  simp only [List.length_cons] at hk ha
  rw [Q21.l0, Q24.f, Option.bind_some, show w64 ((c.1.length : Int) - 1) = (n : Int) by rw [Yf (by omega) (by omega)]; omega, hs.1.1, if_pos (by simp; omega), if_pos (by simp only [List.length_singleton]; omega), if_pos (by omega), gtl]
  dsimp only
  rw [Gy hlen hn S x k _ hs.2 (fun y hy => hx y (by simp [hy])) (by omega) (by rw [List.length_append, List.length_singleton]; omega), List.append_assoc]; rfl
theorem Zfe {n : Nat} {c : Chn} {L : List Nat} (h : ChI n c L) (hn : n ≤ 400) {k : Nat} (hk : 1000 < k) : Q21.f k c = some (L.map fun (i : Nat) => (i : Int)) := by
 have hlen := h.len
 have hcnt := h.cnt
 have hs := h.short
 unfold Q21.f Q20.f
 rw [Option.bind_some]
 by_cases q : c.2 = 0
 ·have : L = [] := List.eq_nil_of_length_eq_zero (by omega)
  rw [if_pos (decide_eq_true q), this]; rfl
 ·rw [if_neg (by simpa using q), Q24.f, Option.bind_some, show w64 ((c.1.length : Int) - 1) = (n : Int) by rw [Yf (by omega) (by omega)]; omega, if_pos (by omega), gtl]
  dsimp only
  rw [Gy hlen (by omega) L n k [] h.ring h.lt (by omega) (by simp; omega)]; simp
theorem Zc8 (z : Siz N B n) (h : CaI N B n t [] c L) : ∀ (m j k : Nat) (acc : List Int), L.length = j + m → m < k → acc.length ≤ j → Q9.l0 k c (L.map fun (i : Nat) => (i : Int)) acc (j : Int) = some (acc ++ (L.drop j).map fun f => ((Xc c f : Nat) : Int))
 | _, _, 0, _, _, hk, _ => by omega
 | 0, j, k + 1, acc, hj, hk, ha => by
  have := h.chn.short
  have := z.h64
  rw [Q9.l0, if_neg (by simp only [decide_eq_true_eq, List.length_map]; omega), List.drop_eq_nil_of_le (by omega)]; simp
 | m + 1, j, k + 1, acc, hj, hk, ha => by
  have := h.chn.short
  have := z.h64
  have hfl := h.frl
  have hjl : j < L.length := by omega
  have hg : gt (L.map fun (i : Nat) => (i : Int)) (j : Int) = ((L.getD j default : Nat) : Int) := by
   rw [Yh, List.getD_eq_getElem?_getD, List.getElem?_map, List.getD_eq_getElem?_getD, List.getElem?_eq_getElem hjl]; rfl
  obtain ⟨i, ha2, e1, _, ok⟩ := X8 h (Vi (d := default) hjl)
  have hf := ok.hf
  have hb : (gt c.2.1 ((L.getD j default : Nat) : Int)).1 = ((Xc c (L.getD j default) : Nat) : Int) := by rw [Yh, ok.blk, e1]
  rw [Q9.l0, if_pos (decide_eq_true (by rw [List.length_map]; omega)), if_pos (by rw [List.length_map]; omega), hg, if_pos (by omega), hb, if_pos (by simp only [List.length_singleton]; omega), Xd (by omega), Zc8 z h m (j + 1) k _ (by omega) (by omega) (by rw [List.length_append, List.length_singleton]; omega), Wn hjl, List.map_cons, List.append_assoc]; rfl
theorem Ziz (z : Siz N B n) (h : CaI N B n t [] c L) {k : Nat} (hk : 1000 < k) : Q9.f k c = some ((Ye c L).row.map fun (i : Nat) => (i : Int)) := by
 have h64 := z.h64
 have hs := h.chn.short
 unfold Q9.f Q14.f
 rw [Option.bind_some, if_neg (by simp), Zfe h.chn (by omega) hk, Option.bind_some]
 have := Zc8 z h L.length 0 k [] (by omega) (by omega) (by simp)
 refine Eq.trans this ?_
 show some ((L.drop 0).map _) = some ((L.map (Xc c)).map _)
 rw [List.drop_zero, List.map_map]; rfl
theorem Zig : Q11.f c = some ((Ye c L).used : Int) := by
 unfold Q11.f Q14.f
 rw [Option.bind_some, if_neg (by simp)]; rfl
end
def MC.act (N B n : Nat) (m : MC) (kd : Int) (i : Nat) (b : List Int) : Int × MC :=
 if kd = 0 then m.pin N B n i else if kd = 1 then m.pin N B n i else if kd = 2 then m.fresh N B n i else if kd = 3 then m.unpin i else if kd = 4 then m.unpin i else
 if kd = 5 then m.write B i b else if kd = 6 then m.write B i b else if kd = 7 then m.drop i else if kd = 8 then (0, m.flush N B) else if kd = 9 then ((m.read i).2, m) else (0, m)
section
variable {N B n t : Nat} {c : Ca} {L : List Nat} {w : Rc} {m : MC}
theorem Zib (z : Siz N B n) (h : CaI N B n t [] c L) (fw : Few c) (ht : t ≤ 1000000) (kd : Int) (i : Nat) (hi : i < 4294967296) (b : List Int) {k : Nat} (hk : 200 < k) : ∃ c' L', Q56.f k c (kd, (i : Int), b) = some (((Ye c L).act N B n kd i b).1, c') ∧ CaI N B n (t + 1) [] c' L' ∧ Ye c' L' = ((Ye c L).act N B n kd i b).2 := by
 unfold Q56.f MC.act
 try dsimp only
 by_cases q0 : kd = 0
 ·obtain ⟨c', L', e, g1, g2⟩ := Zhi z h fw ht i hi
  rw [if_pos (decide_eq_true q0), if_pos q0, e]
  exact ⟨c', L', rfl, g1, g2⟩
 rw [if_neg (by simpa using q0), if_neg q0]
 by_cases q1 : kd = 1
 ·obtain ⟨c', L', e, g1, g2⟩ := Zhi z h fw ht i hi
  rw [if_pos (decide_eq_true q1), if_pos q1, e]
  exact ⟨c', L', rfl, g1, g2⟩
 rw [if_neg (by simpa using q1), if_neg q1]
 by_cases q2 : kd = 2
 ·obtain ⟨c', L', e, g1, g2⟩ := Zhc z h fw ht i hi
  rw [if_pos (decide_eq_true q2), if_pos q2, e]
  exact ⟨c', L', rfl, g1, g2⟩
 rw [if_neg (by simpa using q2), if_neg q2]
 by_cases q3 : kd = 3
 ·obtain ⟨c', L', e, g1, g2⟩ := Zd8 z h ht i
  rw [if_pos (decide_eq_true q3), if_pos q3, e]
  exact ⟨c', L', rfl, g1.mono (Nat.le_succ t), g2⟩
 rw [if_neg (by simpa using q3), if_neg q3]
 by_cases q4 : kd = 4
 ·obtain ⟨c', L', e, g1, g2⟩ := Zd8 z h ht i
  rw [if_pos (decide_eq_true q4), if_pos q4, e]
  exact ⟨c', L', rfl, g1.mono (Nat.le_succ t), g2⟩
 rw [if_neg (by simpa using q4), if_neg q4]
 by_cases q5 : kd = 5
 ·obtain ⟨c', L', e, g1, g2⟩ := Zel z h i b
  rw [if_pos (decide_eq_true q5), if_pos q5, e]
  exact ⟨c', L', rfl, g1.mono (Nat.le_succ t), g2⟩
 rw [if_neg (by simpa using q5), if_neg q5]
 by_cases q6 : kd = 6
 ·obtain ⟨c', L', e, g1, g2⟩ := Zel z h i b
  rw [if_pos (decide_eq_true q6), if_pos q6, e]
  exact ⟨c', L', rfl, g1.mono (Nat.le_succ t), g2⟩
 rw [if_neg (by simpa using q6), if_neg q6]
 by_cases q7 : kd = 7
 ·obtain ⟨c', L', e, g1, g2⟩ := Zik z h i
  rw [if_pos (decide_eq_true q7), if_pos q7, e]
  exact ⟨c', L', rfl, g1.mono (Nat.le_succ t), g2⟩
 rw [if_neg (by simpa using q7), if_neg q7]
 by_cases q8 : kd = 8
 ·obtain ⟨c', e, g1, g2⟩ := Zhg z h fw hk
  rw [if_pos (decide_eq_true q8), if_pos q8, e]
  exact ⟨c', L, rfl, g1.mono (Nat.le_succ t), g2⟩
 rw [if_neg (by simpa using q8), if_neg q8]
 by_cases q9 : kd = 9
 ·rw [if_pos (decide_eq_true q9), if_pos q9, Zgj z h i]
  exact ⟨c, L, rfl, h.mono (Nat.le_succ t), rfl⟩
 rw [if_neg (by simpa using q9), if_neg q9]
 exact ⟨c, L, rfl, h.mono (Nat.le_succ t), rfl⟩
theorem Zic (h : RR N B n w m) (mi : MI N B n t m) (z : Sz8 N B n m) (hw : m.wr ≤ 900000000) (ht : t ≤ 1000000) {k : Nat} (hk : 66000 < k) (kd : Int) (i : Nat) (hi : i < 4294967296) (b : List Int) : ∃ w', Q57.f k w (kd, (i : Int), b) = some (w', (m.act N B n kd i b).1) ∧ RR N B n w' (m.act N B n kd i b).2 := by
 unfold Q57.f MC.act
 try dsimp only
 by_cases q0 : kd = 0
 ·obtain ⟨w', e, g⟩ := Ze2 h mi z ht (k := k) (by omega) hi
  rw [if_pos (decide_eq_true q0), if_pos q0, e]
  exact ⟨w', rfl, g⟩
 rw [if_neg (by simpa using q0), if_neg q0]
 by_cases q1 : kd = 1
 ·obtain ⟨w', e, g⟩ := Ze2 h mi z ht (k := k) (by omega) hi
  rw [if_pos (decide_eq_true q1), if_pos q1, e]
  exact ⟨w', rfl, g⟩
 rw [if_neg (by simpa using q1), if_neg q1]
 by_cases q2 : kd = 2
 ·obtain ⟨w', e, g⟩ := Zfq h mi z (k := k) (by omega) hi
  rw [if_pos (decide_eq_true q2), if_pos q2, e]
  exact ⟨w', rfl, g⟩
 rw [if_neg (by simpa using q2), if_neg q2]
 by_cases q3 : kd = 3
 ·obtain ⟨w', e, g⟩ := Zby h mi z ht (k := k) (by omega) i
  rw [if_pos (decide_eq_true q3), if_pos q3, e]
  exact ⟨w', rfl, g⟩
 rw [if_neg (by simpa using q3), if_neg q3]
 by_cases q4 : kd = 4
 ·obtain ⟨w', e, g⟩ := Zby h mi z ht (k := k) (by omega) i
  rw [if_pos (decide_eq_true q4), if_pos q4, e]
  exact ⟨w', rfl, g⟩
 rw [if_neg (by simpa using q4), if_neg q4]
 by_cases q5 : kd = 5
 ·obtain ⟨w', e, g⟩ := Zal h mi z (k := k) (by omega) i b
  rw [if_pos (decide_eq_true q5), if_pos q5, e]
  exact ⟨w', rfl, g⟩
 rw [if_neg (by simpa using q5), if_neg q5]
 by_cases q6 : kd = 6
 ·obtain ⟨w', e, g⟩ := Zal h mi z (k := k) (by omega) i b
  rw [if_pos (decide_eq_true q6), if_pos q6, e]
  exact ⟨w', rfl, g⟩
 rw [if_neg (by simpa using q6), if_neg q6]
 by_cases q7 : kd = 7
 ·obtain ⟨w', e, g⟩ := Zgr h mi z (k := k) (by omega) i
  rw [if_pos (decide_eq_true q7), if_pos q7, e]
  exact ⟨w', rfl, g⟩
 rw [if_neg (by simpa using q7), if_neg q7]
 by_cases q8 : kd = 8
 ·obtain ⟨w', e, g⟩ := Zfw h mi z hw hk
  rw [if_pos (decide_eq_true q8), if_pos q8, e]
  exact ⟨w', rfl, g⟩
 rw [if_neg (by simpa using q8), if_neg q8]
 by_cases q9 : kd = 9
 ·rw [if_pos (decide_eq_true q9), if_pos q9, Zbq h mi z (k := k) (by omega) i]
  exact ⟨w, rfl, h⟩
 rw [if_neg (by simpa using q9), if_neg q9]
 exact ⟨w, rfl, h⟩
end
theorem Vd (k : Nat) : Q55.f (k + 300) = some true := by kernel_rfl
theorem Zhp {m : Nat} (h : m < 18446744073709551616) : IntKind.u64.wrap (m : Int) = (m : Int) := by
 have : IntKind.u64.wrap (m : Int) = ((m % 18446744073709551616 : Nat) : Int) := by simp [IntKind.wrap, IntKind.bits, IntKind.signed]
 rw [this, Nat.mod_eq_of_lt h]
theorem Ziu {l : List (Int × Int × List Int)} (h : Ty.fit (X9 tt) (.slice 102 (.pair (.int .i64) (.pair (.int .u32) (.slice 5 (.int .u8))))) l) {x : Int × Int × List Int} (hx : x ∈ l) : ∃ i : Nat, x.2.1 = (i : Int) ∧ i < 4294967296 := by
 obtain ⟨_, h1, h2⟩ := h.2.2 x hx
 have : (Lit.int .u32 x.2.1).wf = true := h1
 simp [Lit.wf, IntKind.min, IntKind.max, IntKind.signed, IntKind.bits] at this
 exact ⟨x.2.1.toNat, by omega, by omega⟩
theorem Zaz {N n : Nat} (hN : N ≤ 60) : ∀ (m i k : Nat), N = i + m → m < k → Q59.l0 k (N : Int) (n : Int) (List.replicate i (toS (List.replicate n 0))) (i : Int) = some ((n : Int), List.replicate N (toS (List.replicate n 0)), 0, 0)
 | 0, i, k + 1, h, _ => by
  rw [Q59.l0, if_neg (by simp only [decide_eq_true_eq]; omega), show i = N from by omega]
 | m + 1, i, k + 1, h, hk => by
  rw [Q59.l0, if_pos (decide_eq_true (by omega)), if_pos (by rw [List.length_replicate, List.length_singleton]; omega), Yf (by omega) (by omega), Int.toNat_natCast, ← List.replicate_succ']
  exact Zaz hN m (i + 1) k (by omega) (by omega)
theorem Zhh {N n k : Nat} (hN : N ≤ 60) (hn : n ≤ 200) (hk : N < k) : Q59.f k (N : Int) (n : Int) = some ((n : Int), Lb (List.replicate (N * n) 0) N n, 0, 0) := by
 have e : Lb (List.replicate (N * n) 0) N n = List.replicate N (toS (List.replicate n 0)) := by
  apply List.eq_replicate_iff.2
  refine ⟨Xf _ _ _, fun b hb => ?_⟩
  obtain ⟨i, hi, rfl⟩ := List.mem_map.1 hb
  have := Vl (n := n) (List.mem_range.1 hi)
  unfold blk
  rw [List.drop_replicate, List.take_replicate]
  congr 2
  omega
 unfold Q59.f
 rw [if_pos (by omega), e]
 exact Zaz hN N 0 k (by omega) hk
theorem Zau {l : List Int} (hl : l.length ≤ 1000000) : ∀ (m j k : Nat), l.length = j + m → m < k → Q63.l0 k l l (j : Int) = some true
 | _, _, 0, _, hk => by omega
 | 0, j, k + 1, hj, hk => by
  rw [Q63.l0, if_neg (by simp only [decide_eq_true_eq]; omega)]
 | m + 1, j, k + 1, hj, hk => by
  rw [Q63.l0, if_pos (decide_eq_true (by omega)), if_pos (by omega), if_pos (by omega), if_neg (by simp), Xd (by omega), Zau hl m (j + 1) k (by omega) (by omega)]
theorem Ze8 {l : List Int} {k : Nat} (hl : l.length ≤ 1000000) (hk : l.length < k) : Q63.f k l l = some true := by
 unfold Q63.f
 rw [if_neg (by simp)]
 exact Zau hl l.length 0 k (by omega) hk
theorem Zgg {x : Int} (h : 0 ≤ x ∧ x ≤ 1000000000) : IntKind.u64.wrap x = x := by
 obtain ⟨m, rfl⟩ := Int.eq_ofNat_of_zero_le h.1
 exact Zhp (by omega)
theorem Zbr {n B : Nat} (hn1 : 1 ≤ n) (hn2 : n ≤ 64) (hB1 : 1 ≤ B) (hB2 : B ≤ 4) {l : List (Int × Int × List Int)} (hl : Ty.fit (X9 tt) (.slice 102 (.pair (.int .i64) (.pair (.int .u32) (.slice 5 (.int .u8))))) l) {ask : Nat} (ha : ask < 4294967296) : ∀ (q j k : Nat) (c : Ca) (L : List Nat) (w : Rc), j + q = 60 → q + 67000 < k → CaI 9 B n j [] c L → RR 9 B n w (Ye c L) → 0 ≤ c.1.2.2.1 ∧ c.1.2.2.1 ≤ j → 0 ≤ c.1.2.2.2 ∧ c.1.2.2.2 ≤ 100 * j →
  Q54.l1 k l (ask : Int) c.1.1 c.1.2.1 c.1.2.2.1 c.1.2.2.2 c.2.1 c.2.2.1 c.2.2.2.1 c.2.2.2.2.1 c.2.2.2.2.2 w.1.1 w.1.2.1 w.1.2.2.1 w.1.2.2.2 w.2.1 w.2.2.1 w.2.2.2 (j : Int) = some true
 | _, _, 0, _, _, _, _, hk, _, _, _, _ => by omega
 | q, j, k + 1, c, L, w, hj, hk, h, hR, hr, hw => by
  have z : Siz 9 B n := ⟨by omega, by omega, by omega, hn1, hn2⟩
  obtain ⟨k2, rfl⟩ : ∃ k2, k = k2 + 300 := ⟨k - 300, by omega⟩
  rw [Q54.l1]
  by_cases q1 : j < l.length
  ·rw [if_pos (decide_eq_true (by omega))]
   by_cases q2 : j < 60
   ·obtain ⟨m, rfl⟩ : ∃ m, q = m + 1 := ⟨q - 1, by omega⟩
    have hin : l.getD j default ∈ l := Vi q1
    obtain ⟨i, hi1, hi2⟩ := Ziu hl hin
    have hact : l.getD j default = ((l.getD j default).1, (i : Int), (l.getD j default).2.2) := by rw [← hi1]
    rw [if_pos (decide_eq_true (by omega)), if_pos (by omega), Yh, hact]
    generalize (l.getD j default).1 = kd
    generalize (l.getD j default).2.2 = b
    have fw : Few c := ⟨⟨hr.1, by omega⟩, ⟨hw.1, by omega⟩⟩
    have z8 : Sz8 9 B n (Ye c L) := ⟨by omega, by omega, hB1, by omega, hn2, ⟨hr.1, by show c.1.2.2.1 ≤ _; omega⟩, ⟨hw.1, by show c.1.2.2.2 ≤ _; omega⟩⟩
    obtain ⟨c', L', e, h', ea⟩ := Zib z h fw (by omega) kd i hi2 b (k := k2 + 300) (by omega)
    obtain ⟨r0, c0, e0, hc⟩ := Zif z h fw (by omega) kd i hi2 b (k := k2 + 300) (by omega)
    obtain ⟨w', eW, hR'⟩ := Zic (w := w) hR h.mi z8 (by show c.1.2.2.2 ≤ _; omega) (by omega) (k := k2 + 300) (by omega) kd i hi2 b
    rw [e] at e0
    simp only [Option.some.injEq, Prod.mk.injEq] at e0
    have e02 := e0.2
    subst e02
    rw [← ea] at hR'
    have hcr := hc.rd
    have hcw := hc.wr
    have b1 : cR kd ≤ 1 := by unfold cR; split <;> omega
    have b2 : cW n kd ≤ 64 := by unfold cW; split <;> (try split) <;> omega
    have z8' : Sz8 9 B n (Ye c' L') := ⟨by omega, by omega, hB1, by omega, hn2, ⟨by show 0 ≤ c'.1.2.2.1; omega, by show c'.1.2.2.1 ≤ _; omega⟩, ⟨by show 0 ≤ c'.1.2.2.2; omega, by show c'.1.2.2.2 ≤ _; omega⟩⟩
    have mi' := h'.mi
    have ih := Zbr hn1 hn2 hB1 hB2 hl ha m (j + 1) (k2 + 300) c' L' w' (by omega) (by omega) h' hR' ⟨by omega, by omega⟩ ⟨by omega, by omega⟩
    have eS : Q33.f c'.1 = some c'.1.2.2 := rfl
    have dim : c'.1.2.1.length = 9 * B := h'.dim
    have eI : Q31.f c'.1 = some c'.1.2.1 := Zfl (by rw [dim]; omega)
    have wd : w'.1 = ((B : Int), Lb c'.1.2.1 9 B, c'.1.2.2.1, c'.1.2.2.2) := hR'.dev
    have eRI : Q58.f (k2 + 300) w'.1 = some (toS c'.1.2.1) := by rw [wd]; exact Zfu dim (by omega) (by omega) (by omega)
    have eD : Q2.f (k2 + 300) c' = some (((Ye c' L').dirty 9).map fun (i : Nat) => (i : Int)) := by rw [← Zga h']; exact Zcf z h' (by omega)
    have eRD := Zbu hR' mi' z8' (k := k2 + 300) (by omega)
    have dl : (((Ye c' L').dirty 9).map fun (i : Nat) => (i : Int)).length ≤ 9 := by
     rw [List.length_map]
     have := List.length_filter_le (Ye c' L').isD (List.range 9)
     rw [List.length_range] at this
     exact this
    have eRow := Ziz z h' (k := k2 + 300) (by omega)
    have rl : ((Ye c' L').row.map fun (i : Nat) => (i : Int)).length ≤ 64 := by rw [List.length_map]; have := mi'.rle; omega
    have hused := hR'.used
    rw [show Q57.f (k2 + 300) ((w.1.1, w.1.2.1, w.1.2.2.1, w.1.2.2.2), w.2.1, w.2.2.1, w.2.2.2) (kd, (i : Int), b) = _ from eW, Option.bind_some, show Q56.f (k2 + 300) ((c.1.1, c.1.2.1, (c.1.2.2.1, c.1.2.2.2)), c.2.1, c.2.2.1, c.2.2.2.1, (c.2.2.2.2.1, c.2.2.2.2.2)) (kd, (i : Int), b) = _ from e, Option.bind_some]
    dsimp only
    rw [if_neg (by simp), Zgj z h' ask, Option.bind_some, Zbq hR' mi' z8' (by omega) ask, Option.bind_some, eS, Option.bind_some]
    dsimp only
    rw [if_neg (by simp), if_neg (by simp), eI, Option.bind_some, eRI, Option.bind_some, if_neg (by simp), wd]
    dsimp only
    rw [Zgg (by omega), Zgg (by omega), if_neg (by simp), Zii z h' ask, Option.bind_some, Zfm hR' mi' z8' (by omega) ask, Option.bind_some, if_neg (by simp), eD, Option.bind_some, eRD, Option.bind_some, Ze8 (by omega) (by omega), Option.bind_some, if_neg (by simp), eRow, Option.bind_some, hR'.row, Ze8 (by omega) (by omega), Option.bind_some, if_neg (by simp), Zig (L := L'), Option.bind_some, if_neg (by rw [hused]; simp), Xd (by omega)]
    rw [wd, hR'.row] at ih
    exact ih
   ·rw [if_neg (by simp only [decide_eq_true_eq]; omega), Vd, Option.bind_some]
  ·rw [if_neg (by simp only [decide_eq_true_eq]; omega), Vd, Option.bind_some]
theorem Zbl {n B : Nat} {a : Int} (hn1 : 1 ≤ n) (hn2 : n ≤ 64) (hB1 : 1 ≤ B) (hB2 : B ≤ 4) (hb : w64 (1 + (Int.tmod (w64 a) 4)) = (B : Int)) {l : List (Int × Int × List Int)} (hl : Ty.fit (X9 tt) (.slice 102 (.pair (.int .i64) (.pair (.int .u32) (.slice 5 (.int .u8))))) l) {ask : Nat} (ha : ask < 4294967296) {ch : Chn} (hc : ChI n ch []) : ∀ (m j k : Nat), j + m = n → m + 68000 < k →
  Q54.l0 k (n : Int) a l (ask : Int) ((B : Int), List.replicate (9 * B) 0, 0, 0) ch ((List.range j).map fun (i : Nat) => (i : Int)) (j : Int) = some true
 | _, _, 0, _, hk => by omega
 | 0, j, k + 1, hj, hk => by
  have z : Siz 9 B n := ⟨by omega, by omega, by omega, hn1, hn2⟩
  have h0 := Zh2 z (img := List.replicate (9 * B) 0) (by simp) (0, 0) hc
  have hR : RR 9 B n (((B : Int), Lb (List.replicate (9 * B) 0) 9 B, 0, 0), [], (n : Int), []) (Ye (((B : Int), List.replicate (9 * B) 0, (0, 0)), List.replicate n (0, [], false, 0), [], (List.range n).map (fun (i : Nat) => (i : Int)), ch) []) := by
   refine ⟨rfl, rfl, rfl, ⟨by simp, by simp, fun i f hf => ?_⟩, rfl⟩
   have : Y9 (((B : Int), List.replicate (9 * B) 0, (0, 0)), List.replicate n (0, [], false, 0), [], (List.range n).map (fun (i : Nat) => (i : Int)), ch) i = some f := hf
   rw [Wj (by simp)] at this
   cases this
  have := Zbr hn1 hn2 hB1 hB2 hl ha 60 0 k _ _ _ (by omega) (by omega) h0 hR (by dsimp only; omega) (by dsimp only; omega)
  have e : j = n := by omega
  subst e
  rw [Q54.l0, if_neg (by simp), hb, show (9 : Int) = ((9 : Nat) : Int) from rfl, Zhh (by omega) (by omega) (by omega), Option.bind_some, Int.toNat_natCast]
  exact this
 | m + 1, j, k + 1, hj, hk => by
  rw [Q54.l0, if_pos (decide_eq_true (by omega)), if_pos (by simp; omega), Xd (by omega)]
  have := Zbl hn1 hn2 hB1 hB2 hb hl ha hc m (j + 1) k (by omega) (by omega)
  rw [List.range_succ, List.map_append] at this
  exact this
theorem CachePlays_pure (a : Int) (b : Int) (l : List (Int × Int × List Int)) (ask : Int) (ha : Ty.fit (X9 tt) (.int .i64) a) (hb : Ty.fit (X9 tt) (.int .u8) b) (hl : Ty.fit (X9 tt) (.slice 102 (.pair (.int .i64) (.pair (.int .u32) (.slice 5 (.int .u8))))) l) (hask : Ty.fit (X9 tt) (.int .u32) ask) : ∃ k, Q54.f k a b l ask = some true := by
 have hb2 : 0 ≤ b ∧ b ≤ 255 := by
  simp [Ty.fit, Lit.wf] at hb
  have h1 : IntKind.u8.min = 0 := rfl
  have h2 : IntKind.u8.max = 255 := rfl
  omega
 have hk2 : 0 ≤ ask ∧ ask < 4294967296 := by
  simp [Ty.fit, Lit.wf] at hask
  have h1 : IntKind.u32.min = 0 := rfl
  have h2 : IntKind.u32.max = 4294967295 := rfl
  omega
 obtain ⟨x, rfl⟩ := Int.eq_ofNat_of_zero_le hb2.1
 obtain ⟨y, rfl⟩ := Int.eq_ofNat_of_zero_le hk2.1
 have hB : w64 (1 + (Int.tmod (w64 (x : Int)) 4)) = ((1 + x % 4 : Nat) : Int) := by
  rw [Yf (x := (x : Int)) (by omega) (by omega), show Int.tmod (x : Int) 4 = ((x % 4 : Nat) : Int) from rfl, Yf (by omega) (by omega)]; omega
 have h4 : x % 4 < 4 := Nat.mod_lt _ (by omega)
 have hd : Q35.f 9 ((1 + x % 4 : Nat) : Int) = some (some (((1 + x % 4 : Nat) : Int), List.replicate (9 * (1 + x % 4)) 0, 0, 0), 0) := by
  generalize x % 4 = y at h4
  rcases (by omega : y = 0 ∨ y = 1 ∨ y = 2 ∨ y = 3) with e | e | e | e <;> subst e <;> decide
 have hbl : Q29.f (((1 + x % 4 : Nat) : Int), List.replicate (9 * (1 + x % 4)) 0, 0, 0) = some 9 := by
  generalize x % 4 = y at h4
  rcases (by omega : y = 0 ∨ y = 1 ∨ y = 2 ∨ y = 3) with e | e | e | e <;> subst e <;> decide
 refine ⟨70000, ?_⟩
 unfold Q54.f
 rw [hB, hd, Option.bind_some]
 dsimp only [Ua]
 rw [if_pos (by simp), hbl, Option.bind_some, if_neg (by decide)]
 by_cases q1 : a < 1
 ·rw [if_pos (decide_eq_true q1), show (70000 : Nat) = 69700 + 300 from rfl, Vd]; rfl
 by_cases q2 : 64 < a
 ·rw [if_neg (by simpa using q1), if_pos (decide_eq_true q2), show (70000 : Nat) = 69700 + 300 from rfl, Vd]; rfl
 obtain ⟨n, rfl⟩ := Int.eq_ofNat_of_zero_le (show 0 ≤ a by omega)
 obtain ⟨ch, e, hc⟩ := Ziy (n := n) (by omega) (by omega)
 rw [if_neg (by simpa using q1), if_neg (by simpa using q2), e, Option.bind_some]
 dsimp only [Ua]
 rw [if_pos (by simp), if_pos (by omega)]
 exact Zbl (by omega) (by omega) (by omega) (by omega) hB hl (by omega) hc n 0 70000 (by omega) (by omega)
end Go.SK.T
