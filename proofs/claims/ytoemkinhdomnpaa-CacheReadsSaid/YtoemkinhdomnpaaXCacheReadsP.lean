/- The plain law behind CacheReads: what its code computes is true for all frames, calls and images. -/
import Derived.Test.YtoemkinhdomnpaaXCacheReadsF7
import Derived.KernelRfl
set_option linter.unusedVariables false
set_option linter.unusedSimpArgs false
namespace Go.SK.T
open Go Go.SK
abbrev Lnk := Int × Int × Bool
abbrev Chn := List Lnk × Int
def ah (l : List Lnk) (k : Nat) : Int := (l.getD k default).1
def bh (l : List Lnk) (k : Nat) : Int := (l.getD k default).2.1
def inn (l : List Lnk) (k : Nat) : Bool := (l.getD k default).2.2
theorem Yk {α : Type} {l : List α} {j k : Nat} {v d : α} (hj : j < l.length) : (l.set j v).getD k d = if j = k then v else l.getD k d := by
 rw [List.getD_eq_getElem?_getD, List.getD_eq_getElem?_getD, List.getElem?_set]
 split
 ·rename_i h
  subst h
  simp [hj]
 ·rfl
def Lk (l : List Lnk) (a b : Nat) : Prop := bh l a = (b : Int) ∧ ah l b = (a : Int)
def Xo (l : List Lnk) : Nat → List Nat → Prop
 | _, [] => True
 | a, x :: L => Lk l a x ∧ Xo l x L
def Wm : Nat → List Nat → Nat
 | a, [] => a
 | _, x :: L => Wm x L
theorem Uv {l : List Lnk} : ∀ {a : Nat} {X Y : List Nat}, Xo l a (X ++ Y) ↔ Xo l a X ∧ Xo l (Wm a X) Y
 | a, [], Y => by simp [Xo, Wm]
 | a, x :: X, Y => by
  rw [List.cons_append, Xo, Xo, Wm, Uv, and_assoc]
theorem W9 : ∀ {a : Nat} {L : List Nat}, Wm a L ∈ a :: L
 | a, [] => by simp [Wm]
 | a, x :: L => by
  rw [Wm]
  have := W9 (a := x) (L := L)
  simp only [List.mem_cons] at this ⊢
  rcases this with h | h
  ·exact .inr (.inl h)
  ·exact .inr (.inr h)
theorem Vy {l l' : List Lnk} : ∀ {a : Nat} {L : List Nat}, (∀ x ∈ (a :: L).dropLast, bh l' x = bh l x) → (∀ y ∈ L, ah l' y = ah l y) → Xo l a L → Xo l' a L
 | a, [], _, _, _ => trivial
 | a, x :: L, h1, h2, h => by
  rw [Xo] at h ⊢
  refine ⟨⟨?_, ?_⟩, Vy (fun y hy => h1 y ?_) (fun y hy => h2 y (by simp [hy])) h.2⟩
  ·rw [h1 a (by simp)]; exact h.1.1
  ·rw [h2 x (by simp)]; exact h.1.2
  ·rw [List.dropLast_cons_of_ne_nil (by simp)]
   exact List.mem_cons_of_mem _ hy
structure ChI (n : Nat) (c : Chn) (L : List Nat) : Prop where
 len : c.1.length = n + 1
 cnt : c.2 = (L.length : Int)
 nd : L.Nodup
 lt : ∀ x ∈ L, x < n
 inn : ∀ x, x ≤ n → (inn c.1 x = true ↔ x ∈ L)
 ring : Xo c.1 n (L ++ [n])
theorem Za8 : ∀ {n : Nat} {L : List Nat}, L.Nodup → (∀ x ∈ L, x < n) → L.length ≤ n
 | 0, [], _, _ => Nat.le_refl _
 | 0, x :: L, _, h => by have := h x (by simp); omega
 | n + 1, L, hd, h => by
  have := Za8 (n := n) (hd.erase n) fun x hx => by
   have h1 := h x (List.mem_of_mem_erase hx)
   have h2 := (hd.mem_erase_iff.1 hx).1
   omega
  rw [List.length_erase] at this
  split at this <;> omega
theorem ChI.short {n : Nat} {c : Chn} {L : List Nat} (h : ChI n c L) : L.length ≤ n := Za8 h.nd h.lt
theorem Ul : ∀ {a : Nat} {L : List Nat}, (a :: L).Nodup → ∀ x ∈ (a :: L).dropLast, x ≠ Wm a L
 | a, [], _, x, hx => by simp at hx
 | a, y :: L, hd, x, hx => by
  rw [List.dropLast_cons_of_ne_nil (by simp), List.mem_cons] at hx
  rw [Wm]
  rcases hx with rfl | hx
  ·exact fun e => (List.nodup_cons.1 hd).1 (e ▸ W9)
  ·exact Ul (List.nodup_cons.1 hd).2 x hx
theorem gtl (l : List Lnk) (k : Nat) : gt l (k : Int) = (ah l k, bh l k, SK.T.inn l k) := by
 rw [Yd]; rfl
section
variable {n : Nat} {c : Chn} {L : List Nat}
theorem ChI.split (h : ChI n c L) {i : Nat} (hi : i ∈ L) : ∃ (P S : List Nat) (s : Nat) (T : List Nat), L = P ++ i :: S ∧ S ++ [n] = s :: T ∧ Xo c.1 n P ∧ Lk c.1 (Wm n P) i ∧ Lk c.1 i s ∧ Xo c.1 s T ∧ Wm n P ≤ n ∧ s ≤ n := by
 obtain ⟨P, S, rfl⟩ := List.append_of_mem hi
 obtain ⟨s, T, e⟩ : ∃ s T, S ++ [n] = s :: T := by
  cases S with
  | nil => exact ⟨n, [], rfl⟩
  | cons x S => exact ⟨x, S ++ [n], rfl⟩
 have hr := h.ring
 rw [List.append_assoc, List.cons_append, Uv, Xo, e, Xo] at hr
 refine ⟨P, S, s, T, rfl, e, hr.1, hr.2.1, hr.2.2.1, hr.2.2.2, ?_, ?_⟩
 ·have := W9 (a := n) (L := P)
  rcases List.mem_cons.1 this with h1 | h1
  ·omega
  ·have := h.lt _ (List.mem_append_left _ h1); omega
 ·have : s ∈ S ++ [n] := by rw [e]; simp
  rcases List.mem_append.1 this with h1 | h1
  ·have := h.lt s (by simp [h1]); omega
  ·simp at h1; omega
theorem Zhi (h : ChI n c L) {i : Nat} (hi : i ∈ L) (hn : n ≤ 1000) : ∃ c', Q18.f c (i : Int) = some c' ∧ ChI n c' (L.erase i) := by
 obtain ⟨P, S, s, T, e1, e2, r1, r2, r3, r4, hp, hs⟩ := h.split hi
 have hin := h.lt i hi
 have hlen := h.len
 generalize hpe : Wm n P = p at *
 have ei : SK.T.inn c.1 i = true := (h.inn i (by omega)).2 hi
 have nd : (P ++ i :: S).Nodup := e1 ▸ h.nd
 have nd2 := List.nodup_append.1 nd
 have ndS := (List.nodup_cons.1 nd2.2.1)
 have hnP : n ∉ P := fun hx => by have := h.lt n (by rw [e1]; simp [hx]); omega
 have hnS : n ∉ S := fun hx => by have := h.lt n (by rw [e1]; simp [hx]); omega
 have hiP : i ∉ P := fun hx => nd2.2.2 i hx i (by simp) rfl
 have hpi : p ≠ i := fun e => by
  have : p ∈ n :: P := hpe ▸ W9
  rcases List.mem_cons.1 this with h1 | h1
  ·omega
  ·exact hiP (e ▸ h1)
 have hsi : s ≠ i := fun e => by
  have : s ∈ S ++ [n] := by rw [e2]; simp
  rcases List.mem_append.1 this with h1 | h1
  ·exact ndS.1 (e ▸ h1)
  ·simp at h1; omega
 have a1 : (gt c.1 (i : Int)).1 = (p : Int) := by rw [gtl]; exact r2.2
 have a2 : (gt c.1 (i : Int)).2.1 = (s : Int) := by rw [gtl]; exact r3.1
 have a3 : (gt c.1 (i : Int)).2.2 = true := by rw [gtl]; exact ei
 unfold Q18.f
 rw [if_pos (by omega), a3, if_neg (by simp), a1, a2, if_pos (by omega), if_pos (by rw [List.length_set]; omega), if_pos (by rw [List.length_set, List.length_set]; omega)]
 simp only [Int.toNat_natCast, gtl]
 generalize hl1 : c.1.set p (ah c.1 p, (s : Int), SK.T.inn c.1 p) = l1
 have hl1l : l1.length = n + 1 := by rw [← hl1, List.length_set, hlen]
 generalize hl2 : l1.set s ((p : Int), bh l1 s, SK.T.inn l1 s) = l2
 have hl2l : l2.length = n + 1 := by rw [← hl2, List.length_set, hl1l]
 have g1 : ∀ k, l1.getD k default = if p = k then (ah c.1 p, (s : Int), SK.T.inn c.1 p) else c.1.getD k default := fun k => by rw [← hl1]; exact Yk (by omega)
 have g2 : ∀ k, l2.getD k default = if s = k then ((p : Int), bh l1 s, SK.T.inn l1 s) else l1.getD k default := fun k => by rw [← hl2]; exact Yk (by omega)
 have g3 : ∀ k, (l2.set i (0, 0, false)).getD k default = if i = k then (0, 0, false) else l2.getD k default := fun k => Yk (by omega)
 have b1 : ∀ k, bh l1 k = if p = k then (s : Int) else bh c.1 k := fun k => by unfold bh; rw [g1 k]; split <;> rfl
 have n1 : ∀ k, SK.T.inn l1 k = SK.T.inn c.1 k := fun k => by
  show (l1.getD k default).2.2 = _
  rw [g1 k]; split
  ·rename_i e; rw [← e]
  ·rfl
 have c1 : ∀ k, ah l1 k = ah c.1 k := fun k => by
  show (l1.getD k default).1 = _
  rw [g1 k]; split
  ·rename_i e; rw [← e]
  ·rfl
 have b3 : ∀ k, k ≠ i → bh (l2.set i (0, 0, false)) k = if p = k then (s : Int) else bh c.1 k := fun k hk => by
  show ((l2.set i (0, 0, false)).getD k default).2.1 = _
  rw [g3 k, if_neg (Ne.symm hk), g2 k]
  split
  ·rename_i e; rw [← e]; exact b1 s
  ·exact b1 k
 have c3 : ∀ k, k ≠ i → ah (l2.set i (0, 0, false)) k = if s = k then (p : Int) else ah c.1 k := fun k hk => by
  show ((l2.set i (0, 0, false)).getD k default).1 = _
  rw [g3 k, if_neg (Ne.symm hk), g2 k]
  split
  ·rfl
  ·exact c1 k
 have n3 : ∀ k, SK.T.inn (l2.set i (0, 0, false)) k = if i = k then false else SK.T.inn c.1 k := fun k => by
  show ((l2.set i (0, 0, false)).getD k default).2.2 = _
  rw [g3 k]
  split
  ·rfl
  ·rw [g2 k]
   split
   ·rename_i e; rw [← e]; exact n1 s
   ·exact n1 k
 have el : L.erase i = P ++ S := by
  rw [e1, List.erase_append_right _ hiP, List.erase_cons_head]
 refine ⟨_, rfl, ⟨by rw [List.length_set, hl2l], ?_, ?_, ?_, ?_, ?_⟩⟩
 ·rw [el, h.cnt, e1]
  have := h.short
  rw [e1] at this
  simp only [List.length_append, List.length_cons] at this ⊢
  rw [Yg (by omega) (by omega)]; omega
 ·exact h.nd.erase i
 ·exact fun x hx => h.lt x (List.mem_of_mem_erase hx)
 ·intro x hx
  rw [n3 x, h.nd.mem_erase_iff]
  split
  ·rename_i e; simp [e]
  ·rename_i e
   rw [h.inn x hx]
   exact ⟨fun g => ⟨fun e' => e e'.symm, g⟩, fun g => g.2⟩
 ·rw [el, List.append_assoc, e2, Uv, hpe, Xo]
  have hTs : ∀ y ∈ T, y ≠ s ∧ y ≠ i := fun y hy => by
   have hnd : (S ++ [n]).Nodup := List.nodup_append.2 ⟨ndS.2, by simp, fun a ha b hb e => by simp at hb; exact hnS (hb ▸ e ▸ ha)⟩
   rw [e2] at hnd
   refine ⟨fun e => (List.nodup_cons.1 hnd).1 (e ▸ hy), fun e => ?_⟩
   have : y ∈ S ++ [n] := by rw [e2]; simp [hy]
   rcases List.mem_append.1 this with h1 | h1
   ·exact ndS.1 (e ▸ h1)
   ·simp at h1; omega
  have hsT : ∀ x ∈ (s :: T).dropLast, x ≠ p ∧ x ≠ i := fun x hx => by
   rw [← e2, List.dropLast_concat] at hx
   refine ⟨fun e => ?_, fun e => ndS.1 (e ▸ hx)⟩
   have : p ∈ n :: P := hpe ▸ W9
   rcases List.mem_cons.1 this with h1 | h1
   ·exact hnS (h1 ▸ e ▸ hx)
   ·exact nd2.2.2 p h1 x (by simp [hx]) e.symm
  have hPp : ∀ x ∈ (n :: P).dropLast, x ≠ p ∧ x ≠ i := fun x hx => by
   have hnd : (n :: P).Nodup := List.nodup_cons.2 ⟨hnP, nd2.1⟩
   refine ⟨hpe ▸ Ul hnd x hx, fun e => ?_⟩
   have := List.dropLast_subset _ hx
   rcases List.mem_cons.1 this with h1 | h1
   ·omega
   ·exact hiP (e ▸ h1)
  have hPs : ∀ y ∈ P, y ≠ s ∧ y ≠ i := fun y hy => by
   refine ⟨fun e => ?_, fun e => hiP (e ▸ hy)⟩
   have : s ∈ S ++ [n] := by rw [e2]; simp
   rcases List.mem_append.1 this with h1 | h1
   ·exact nd2.2.2 y hy s (by simp [h1]) e
   ·simp at h1; exact hnP (h1 ▸ e ▸ hy)
  refine ⟨Vy (fun x hx => by rw [b3 x (hPp x hx).2, if_neg (Ne.symm (hPp x hx).1)]) (fun y hy => by rw [c3 y (hPs y hy).2, if_neg (Ne.symm (hPs y hy).1)]) r1, ⟨by rw [b3 p hpi, if_pos rfl], by rw [c3 s hsi, if_pos rfl]⟩,
   Vy (fun x hx => by rw [b3 x (hsT x hx).2, if_neg (Ne.symm (hsT x hx).1)]) (fun y hy => by rw [c3 y (hTs y hy).2, if_neg (Ne.symm (hTs y hy).1)]) r4⟩
theorem Zdl (h : ChI n c L) {i : Nat} (hi : i < n) (hn : n ≤ 1000) : Q21.f c (i : Int) = some 0 := by
 have hlen := h.len
 unfold Q21.f Q20.f
 try dsimp only
 rw [if_neg (by simp only [decide_eq_true_eq]; omega), if_neg (by simp only [decide_eq_true_eq]; omega), Option.bind_some, Yg (by omega) (by omega), if_neg (by simp only [decide_eq_true_eq]; omega)]
theorem Uo (h : ChI n c L) {i : Nat} (hi : i < n) (hn : n ≤ 1000) : ∃ r c', Q14.f c (i : Int) = some (r, c') ∧ ChI n c' (L.erase i) := by
 have hlen := h.len
 unfold Q14.f
 rw [show Q21.f (c.1, c.2) (i : Int) = _ from Zdl h hi hn, Option.bind_some, if_neg (by simp), if_pos (by omega), gtl]
 by_cases hm : i ∈ L
 ·rw [if_neg (by simp [(h.inn i (by omega)).2 hm])]
  obtain ⟨c', e, h'⟩ := Zhi h hm hn
  rw [show Q18.f (c.1, c.2) (i : Int) = _ from e, Option.bind_some]
  exact ⟨_, _, rfl, h'⟩
 ·have : SK.T.inn c.1 i = false := by
   cases q : SK.T.inn c.1 i with
   | false => rfl
   | true => exact absurd ((h.inn i (by omega)).1 q) hm
  rw [if_pos (by simp [this])]
  exact ⟨_, _, rfl, by rw [List.erase_of_not_mem hm]; exact h⟩
theorem Zhn (h : ChI n c L) {i : Nat} (hi : i < n) (hm : i ∉ L) (hn : n ≤ 1000) : ∃ c', Q19.f c (i : Int) (n : Int) = some c' ∧ ChI n c' (i :: L) := by
 have hlen := h.len
 have hsh := h.short
 have hnL : n ∉ L := fun hx => by have := h.lt n hx; omega
 obtain ⟨s, T, e⟩ : ∃ s T, L ++ [n] = s :: T := by
  cases L with
  | nil => exact ⟨n, [], rfl⟩
  | cons x S => exact ⟨x, S ++ [n], rfl⟩
 have hr := h.ring
 rw [e, Xo] at hr
 have hs : s ≤ n := by
  have : s ∈ L ++ [n] := by rw [e]; simp
  rcases List.mem_append.1 this with h1 | h1
  ·have := h.lt s h1; omega
  ·simp at h1; omega
 have hsi : s ≠ i := fun q => by
  have : s ∈ L ++ [n] := by rw [e]; simp
  rcases List.mem_append.1 this with h1 | h1
  ·exact hm (q ▸ h1)
  ·simp at h1; omega
 have a2 : (gt c.1 (n : Int)).2.1 = (s : Int) := by rw [gtl]; exact hr.1.1
 unfold Q19.f
 rw [if_pos (by omega), if_pos (by omega), if_pos (by rw [List.length_set]; omega), a2, if_pos (by rw [List.length_set, List.length_set]; omega)]
 simp only [Int.toNat_natCast, gtl]
 generalize hl1 : c.1.set i ((n : Int), (s : Int), true) = l1
 have hl1l : l1.length = n + 1 := by rw [← hl1, List.length_set, hlen]
 generalize hl2 : l1.set n (ah l1 n, (i : Int), SK.T.inn l1 n) = l2
 have hl2l : l2.length = n + 1 := by rw [← hl2, List.length_set, hl1l]
 have g1 : ∀ k, l1.getD k default = if i = k then ((n : Int), (s : Int), true) else c.1.getD k default := fun k => by rw [← hl1]; exact Yk (by omega)
 have g2 : ∀ k, l2.getD k default = if n = k then (ah l1 n, (i : Int), SK.T.inn l1 n) else l1.getD k default := fun k => by rw [← hl2]; exact Yk (by omega)
 have g3 : ∀ k, (l2.set s ((i : Int), bh l2 s, SK.T.inn l2 s)).getD k default = if s = k then ((i : Int), bh l2 s, SK.T.inn l2 s) else l2.getD k default := fun k => Yk (by omega)
 have b2 : ∀ k, bh l2 k = if n = k then (i : Int) else if i = k then (s : Int) else bh c.1 k := fun k => by
  show (l2.getD k default).2.1 = _
  rw [g2 k]
  split
  ·rfl
  ·rw [g1 k]; split <;> rfl
 have c2 : ∀ k, ah l2 k = if i = k then (n : Int) else ah c.1 k := fun k => by
  show (l2.getD k default).1 = _
  rw [g2 k]
  split
  ·rename_i q
   rw [← q, if_neg (by omega)]
   show (l1.getD n default).1 = _
   rw [g1 n, if_neg (by omega)]; rfl
  ·rw [g1 k]; split <;> rfl
 have n2 : ∀ k, SK.T.inn l2 k = if i = k then true else SK.T.inn c.1 k := fun k => by
  show (l2.getD k default).2.2 = _
  rw [g2 k]
  split
  ·rename_i q
   rw [← q, if_neg (by omega)]
   show (l1.getD n default).2.2 = _
   rw [g1 n, if_neg (by omega)]; rfl
  ·rw [g1 k]; split <;> rfl
 have b3 : ∀ k, bh (l2.set s ((i : Int), bh l2 s, SK.T.inn l2 s)) k = bh l2 k := fun k => by
  show ((l2.set s ((i : Int), bh l2 s, SK.T.inn l2 s)).getD k default).2.1 = _
  rw [g3 k]; split
  ·rename_i q; rw [← q]
  ·rfl
 have c3 : ∀ k, ah (l2.set s ((i : Int), bh l2 s, SK.T.inn l2 s)) k = if s = k then (i : Int) else ah l2 k := fun k => by
  show ((l2.set s ((i : Int), bh l2 s, SK.T.inn l2 s)).getD k default).1 = _
  rw [g3 k]; split <;> rfl
 have n3 : ∀ k, SK.T.inn (l2.set s ((i : Int), bh l2 s, SK.T.inn l2 s)) k = SK.T.inn l2 k := fun k => by
  show ((l2.set s ((i : Int), bh l2 s, SK.T.inn l2 s)).getD k default).2.2 = _
  rw [g3 k]; split
  ·rename_i q; rw [← q]
  ·rfl
 refine ⟨_, rfl, ⟨by rw [List.length_set, hl2l], ?_, List.nodup_cons.2 ⟨hm, h.nd⟩, ?_, ?_, ?_⟩⟩
 ·rw [h.cnt, List.length_cons, Yg (by omega) (by omega)]; omega
 ·intro x hx
  rcases List.mem_cons.1 hx with q | q
  ·omega
  ·exact h.lt x q
 ·intro x hx
  rw [n3 x, n2 x, List.mem_cons]
  split
  ·rename_i q; simp [q]
  ·rename_i q
   rw [h.inn x hx]
   exact ⟨fun g => .inr g, fun g => g.elim (fun e' => absurd e'.symm q) id⟩
 ·rw [List.cons_append, Xo, e, Xo]
  have hnd : (L ++ [n]).Nodup := List.nodup_append.2 ⟨h.nd, by simp, fun a ha b hb q => by simp at hb; exact hnL (hb ▸ q ▸ ha)⟩
  rw [e] at hnd
  refine ⟨⟨by rw [b3, b2, if_pos rfl], by rw [c3, if_neg hsi, c2, if_pos rfl]⟩, ⟨by rw [b3, b2, if_neg (by omega), if_pos rfl], by rw [c3, if_pos rfl]⟩, Vy (fun x hx => ?_) (fun y hy => ?_) hr.2⟩
  ·rw [← e, List.dropLast_concat] at hx
   rw [b3, b2, if_neg (fun q : n = x => hnL (q ▸ hx)), if_neg (fun q : i = x => hm (q ▸ hx))]
  ·have hyL : y ∈ L ++ [n] := by rw [e]; simp [hy]
   have hyi : i ≠ y := fun q => by
    rcases List.mem_append.1 hyL with h1 | h1
    ·exact hm (q ▸ h1)
    ·simp at h1; omega
   rw [c3, if_neg (fun q : s = y => (List.nodup_cons.1 hnd).1 (q ▸ hy)), c2, if_neg hyi]
theorem Zdk (h : ChI n c L) {i : Nat} (hi : i < n) (hm : i ∉ L) (hn : n ≤ 1000) : ∃ c', Q15.f c (i : Int) = some (0, c') ∧ ChI n c' (i :: L) := by
 have hlen := h.len
 have hf : SK.T.inn c.1 i = false := by
  cases q : SK.T.inn c.1 i with
  | false => rfl
  | true => exact absurd ((h.inn i (by omega)).1 q) hm
 have ho : Q18.f (c.1, c.2) (i : Int) = some c := by
  unfold Q18.f
  try dsimp only
  rw [if_pos (by omega), gtl, if_pos (by simp [hf])]
 obtain ⟨c', e, h'⟩ := Zhn h hi hm hn
 unfold Q15.f Q20.f
 rw [show Q21.f (c.1, c.2) (i : Int) = _ from Zdl h hi hn, Option.bind_some, if_pos (by simp), ho, Option.bind_some, Option.bind_some]
 try dsimp only
 rw [show w64 ((c.1.length : Int) - 1) = (n : Int) by rw [Yg (by omega) (by omega)]; omega, show Q19.f (c.1, c.2) (i : Int) (n : Int) = _ from e, Option.bind_some]
 exact ⟨_, rfl, h'⟩
theorem Zaj (h : ChI n c []) : Q16.f c = some (0, false) := by
 have := h.cnt
 unfold Q16.f Q17.f
 rw [Option.bind_some, if_pos (by simp [this])]
theorem Zfe {q : Nat} (h : ChI n c (L ++ [q])) (hn : n ≤ 1000) : Q16.f c = some ((q : Int), true) := by
 have hcnt := h.cnt
 have hlen := h.len
 unfold Q16.f Q17.f Q20.f
 have hr := h.ring
 rw [List.append_assoc, List.cons_append, List.nil_append, Uv, Xo, Xo] at hr
 have : ah c.1 n = (q : Int) := hr.2.2.1.2
 rw [Option.bind_some, if_neg (by simp [hcnt]; omega), Option.bind_some, show w64 ((c.1.length : Int) - 1) = (n : Int) by rw [Yg (by omega) (by omega)]; omega, if_pos (by omega), gtl, this]
theorem Zhg (hn : 1 ≤ n) (h64 : n ≤ 64) : ∃ c', Q22.f (n : Int) = some (some c', 0) ∧ ChI n c' [] := by
 unfold Q22.f
 have e : (w64 ((n : Int) + 1)) = ((n + 1 : Nat) : Int) := by rw [Yg (by omega) (by omega)]; omega
 rw [if_neg (by simp only [decide_eq_true_eq]; omega), if_neg (by simp only [decide_eq_true_eq]; omega), e, if_pos (by omega), Int.toNat_natCast, if_pos (by rw [List.length_replicate]; omega), Int.toNat_natCast]
 have g : ∀ k, ((List.replicate (n + 1) ((0, 0, false) : Lnk)).set n ((n : Int), (n : Int), false)).getD k default = if n = k then ((n : Int), (n : Int), false) else (List.replicate (n + 1) ((0, 0, false) : Lnk)).getD k default := fun k => Yk (by rw [List.length_replicate]; omega)
 refine ⟨_, rfl, ⟨by simp, rfl, by simp, by simp, fun x hx => ?_, ?_⟩⟩
 ·show (_ : Lnk).2.2 = true ↔ _
  rw [g x]
  split
  ·simp
  ·rw [List.getD_eq_getElem?_getD, List.getElem?_replicate, if_pos (by omega)]; simp
 ·rw [List.nil_append, Xo, Xo]
  refine ⟨⟨?_, ?_⟩, trivial⟩
  ·show (_ : Lnk).2.1 = _
   rw [g n, if_pos rfl]
  ·show (_ : Lnk).1 = _
   rw [g n, if_pos rfl]
end
abbrev Dv := Int × List Int × (Int × Int)
def blk (img : List Int) (n i : Nat) : List Int := (img.drop (i * n)).take n
theorem Vr {N n i : Nat} (h : i < N) : i * n + n ≤ N * n := by
 have := Nat.mul_le_mul_right n h
 rw [Nat.succ_mul] at this
 exact this
theorem Wt {img : List Int} {N n i : Nat} (hl : img.length = N * n) (h : i < N) : (blk img n i).length = n := by
 have := Vr (n := n) h
 unfold blk
 rw [List.length_take, List.length_drop]
 omega
theorem Wq {img b : List Int} {N n i : Nat} (hl : img.length = N * n) (h : i < N) (hb : b.length = n) (j : Nat) (hj : j < N) : blk (Ym img (i * n) n b) n j = if j = i then b else blk img n j := by
 have h1 := Vr (n := n) h
 have h2 := Vr (n := n) hj
 have e0 : (img.take (i * n)).length = i * n := by rw [List.length_take]; omega
 unfold blk Ym
 rw [List.take_of_length_le (i := n) (l := b) (by omega), show i * n + min n b.length = i * n + n from by omega]
 by_cases e : j = i
 ·subst e
  rw [if_pos rfl, List.append_assoc, List.drop_append_of_le_length (by omega), List.drop_of_length_le (by omega), List.nil_append, List.take_append_of_le_length (by omega), List.take_of_length_le (by omega)]
 ·rw [if_neg e]
  by_cases lt : j < i
  ·have h3 := Nat.mul_le_mul_right n (show j + 1 ≤ i from lt)
   rw [Nat.succ_mul] at h3
   rw [List.append_assoc, List.drop_append_of_le_length (by omega), List.take_append_of_le_length (by rw [List.length_drop]; omega), List.drop_take, List.take_take]
   congr 1
   omega
  ·have h3 := Nat.mul_le_mul_right n (show i + 1 ≤ j from by omega)
   rw [Nat.succ_mul] at h3
   rw [List.drop_append, List.drop_of_length_le (by rw [List.length_append]; omega), List.nil_append, List.drop_drop]
   congr 2
   rw [List.length_append, e0]
   omega
theorem Zae {img b : List Int} {N n i : Nat} (hl : img.length = N * n) (h : i < N) : (Ym img (i * n) n b).length = N * n := by
 have := Vr (n := n) h
 rw [Vx (by omega), hl]
theorem V3 {N n : Nat} {img : List Int} {s : Int × Int} (hn : 1 ≤ n) (hl : img.length = N * n) (hb : N * n ≤ 4294967296) : Q25.f ((n : Int), img, s) = some (N : Int) := by
 have hN : N ≤ 4294967296 := Nat.le_trans (Nat.le_mul_of_pos_right N hn) hb
 have e : Int.tdiv (img.length : Int) (n : Int) = N := by
  rw [hl, Int.natCast_mul]
  exact Int.mul_tdiv_cancel _ (by omega)
 unfold Q25.f
 dsimp only
 rw [if_neg (by simp only [decide_eq_true_eq]; omega), if_pos (by omega), e, Yg (by omega) (by omega)]
theorem Zfi {n i N : Nat} (hb : N * n ≤ 4294967296) (hn : 1 ≤ n) (h : i < N) : w64 (i : Int) = i ∧ w64 ((i : Int) * (n : Int)) = ((i * n : Nat) : Int) ∧ w64 (((i * n : Nat) : Int) + (n : Int)) = ((i * n + n : Nat) : Int) := by
 have h1 := Vr (n := n) h
 have h2 : i ≤ i * n := Nat.le_mul_of_pos_right i hn
 refine ⟨Yg (by omega) (by omega), ?_, ?_⟩
 ·rw [← Int.natCast_mul]
  exact Yg (by omega) (by omega)
 ·rw [Yg (by omega) (by omega)]
  rfl
theorem Zeq {N n i : Nat} {img b : List Int} {s : Int × Int} (hn : 1 ≤ n) (hN : 1 ≤ N) (hl : img.length = N * n) (hb : N * n ≤ 4294967296) (hi : i < 4294967296) :
  Q30.f ((n : Int), img, s) (i : Int) b = some (if N ≤ i then (4, ((n : Int), img, s)) else if b.length = n then (0, ((n : Int), Ym img (i * n) n b, s.1, IntKind.u64.wrap (s.2 + 1))) else (3, ((n : Int), img, s))) := by
 have e := V3 (s := (s.1, s.2)) hn hl hb
 unfold Q30.f
 dsimp only
 rw [e, Option.bind_some, if_neg (by simp only [decide_eq_true_eq]; omega), Option.bind_some]
 by_cases h : N ≤ i
 ·rw [Yg (x := (i : Int)) (by omega) (by omega), if_pos (decide_eq_true (by omega)), if_pos h]
 ·obtain ⟨a1, a2, a3⟩ := Zfi hb hn (show i < N from by omega)
  have h1 := Vr (n := n) (show i < N from by omega)
  rw [a1, a2, a3, if_neg (by simp only [decide_eq_true_eq]; omega), if_pos (by omega), if_neg h]
  by_cases hq : b.length = n
  ·rw [if_neg (by simp only [Bool.not_eq_true', decide_eq_false_iff_not]; omega), if_pos hq]
   simp only [Int.toNat_natCast]
   rw [List.length_take, List.length_drop, show min (i * n + n - i * n) (img.length - i * n) = n from by omega]
  ·rw [if_pos (by simp only [Bool.not_eq_true', decide_eq_false_iff_not]; omega), if_neg hq]
theorem X0 {l : List Int} (h : l.length ≤ 140737488355328) : Q34.f l = some l := by
 unfold Q34.f
 rw [if_pos (by simpa using h)]
 rfl
theorem Zfq {N n i : Nat} {img : List Int} {s : Int × Int} (hn : 1 ≤ n) (hN : 1 ≤ N) (hl : img.length = N * n) (hb : N * n ≤ 4294967296) (hi : i < 4294967296) :
  Q28.f ((n : Int), img, s) (i : Int) = some (if N ≤ i then ([], 4, ((n : Int), img, s)) else (blk img n i, 0, ((n : Int), img, IntKind.u64.wrap (s.1 + 1), s.2))) := by
 have e := V3 (s := (s.1, s.2)) hn hl hb
 unfold Q28.f
 dsimp only
 rw [e, Option.bind_some, if_neg (by simp only [decide_eq_true_eq]; omega), Option.bind_some]
 by_cases h : N ≤ i
 ·rw [Yg (x := (i : Int)) (by omega) (by omega), if_pos (decide_eq_true (by omega)), if_pos h]
 ·obtain ⟨a1, a2, a3⟩ := Zfi hb hn (show i < N from by omega)
  have h1 := Vr (n := n) (show i < N from by omega)
  rw [a1, a2, a3, if_neg (by simp only [decide_eq_true_eq]; omega), if_pos (by omega), if_neg h]
  simp only [Int.toNat_natCast]
  have hbl : (blk img n i).length = n := Wt hl (by omega)
  have : (img.drop (i * n)).take (i * n + n - i * n) = blk img n i := by unfold blk; congr 1; omega
  have hnb : n ≤ N * n := Nat.le_mul_of_pos_left n hN
  rw [this, X0 (by omega), Option.bind_some]
theorem Zcs (a b : List Int) : toS (a ++ b) = toS a ++ toS b := by simp [toS]
theorem Vi (a : List Int) : (toS a).length = a.length := by simp [toS]
def Lb (img : List Int) (N n : Nat) : List (List UInt8) := (List.range N).map fun i => toS (blk img n i)
theorem W7 (img : List Int) (N n : Nat) : (Lb img N n).length = N := by simp [Lb]
theorem Zbd {img : List Int} {N n i : Nat} (h : i < N) : (Lb img N n).getD i default = toS (blk img n i) := by
 rw [List.getD_eq_getElem?_getD]
 simp [Lb, h]
theorem Zbw (img : List Int) (n : Nat) : ∀ N, N * n ≤ img.length → (Lb img N n).flatten = toS (img.take (N * n))
 | 0, _ => by simp [Lb, toS]
 | N + 1, h => by
  rw [Nat.succ_mul] at h ⊢
  have ih := Zbw img n N (by omega)
  unfold Lb at ih ⊢
  rw [List.range_succ, List.map_append, List.flatten_append, ih, List.take_add, Zcs]
  simp [blk]
theorem J8 {img : List Int} {N n : Nat} (h : img.length = N * n) : (Lb img N n).flatten = toS img := by
 rw [Zbw img n N (by omega), List.take_of_length_le (by omega)]
theorem Zb2 {n : Int} {img : List Int} {s : Int × Int} (h : img.length ≤ 4294967296) : Q27.f (n, img, s) = some img := by
 unfold Q27.f
 rw [X0 (by dsimp only; omega)]
 rfl
def rightD (N n : Nat) : Bool := decide (5 ≤ N ∧ N ≤ 65536 ∧ 1 ≤ n ∧ n ≤ 65536)
theorem Ze4 (a b : Int) : Q33.f a b = some (decide (5 ≤ a ∧ a ≤ 65536 ∧ 1 ≤ b ∧ b ≤ 65536)) := by
 unfold Q33.f
 by_cases h1 : 5 ≤ a <;> by_cases h2 : a ≤ 65536 <;> by_cases h3 : 1 ≤ b <;> simp [h1, h2, h3]
theorem Zfr {N n : Nat} {img : List Int} (hl : img.length = N * n) (h : 5 ≤ N ∧ N ≤ 65536 ∧ 1 ≤ n ∧ n ≤ 65536) (hb : N * n ≤ 4294967296) : Q31.f (n : Int) img = some (some ((n : Int), img, (0, 0)), 0) := by
 have e : Int.tdiv (img.length : Int) (n : Int) = N := by
  rw [hl, Int.natCast_mul]
  exact Int.mul_tdiv_cancel _ (by omega)
 have e2 : Int.tmod (img.length : Int) (n : Int) = 0 := by
  rw [hl, Int.natCast_mul]
  exact Int.mul_tmod_left _ _
 unfold Q31.f
 rw [if_neg (by simp only [decide_eq_true_eq]; omega), if_pos (by omega), e2, if_neg (by simp), e, Yg (by omega) (by omega), Ze4, Option.bind_some, if_neg (by simp; omega), X0 (by omega)]
 rfl
abbrev Fr8 := Int × List Int × Bool × Int
abbrev Ca := Dv × List Fr8 × List (Int × Int) × List Int × Chn
section
variable {es : List (Int × Int)} {x v d : Int}
theorem mhas_iff : ∀ {es : List (Int × Int)}, Yn es x = true ↔ ∃ v, (x, v) ∈ es
 | [] => by simp [Yn]
 | p :: es => by
  rw [Yn]
  split
  ·rename_i h
   exact ⟨fun _ => ⟨p.2, by simp [← h]⟩, fun _ => rfl⟩
  ·rename_i h
   rw [mhas_iff]
   constructor
   ·rintro ⟨v, hv⟩; exact ⟨v, by simp [hv]⟩
   ·rintro ⟨v, hv⟩
    rcases List.mem_cons.1 hv with e | e
    ·exact absurd (by rw [← e]) h
    ·exact ⟨v, e⟩
theorem Y5 : ∀ {es : List (Int × Int)}, (es.map Prod.fst).Nodup → (x, v) ∈ es → Zq d es x = v
 | [], _, h => by simp at h
 | p :: es, nd, h => by
  rw [List.map_cons, List.nodup_cons] at nd
  rw [Zq]
  rcases List.mem_cons.1 h with e | e
  ·rw [if_pos (by rw [← e]), ← e]
  ·rw [if_neg (fun q => nd.1 (List.mem_map.2 ⟨_, e, by simpa using q.symm⟩)), Y5 nd.2 e]
theorem Wo {p : Int × Int} : ∀ {es : List (Int × Int)}, (es.map Prod.fst).Nodup → (p ∈ Xb x es ↔ p ∈ es ∧ p.1 ≠ x)
 | [], _ => by simp [Xb]
 | q :: es, nd => by
  rw [List.map_cons, List.nodup_cons] at nd
  rw [Xb]
  split
  ·rename_i h
   constructor
   ·intro hp
    refine ⟨by simp [hp], fun e => nd.1 ?_⟩
    rw [h, ← e]; exact List.mem_map_of_mem hp
   ·rintro ⟨hp, hne⟩
    rcases List.mem_cons.1 hp with e | e
    ·exact absurd (e ▸ h) hne
    ·exact e
  ·rename_i h
   rw [List.mem_cons, Wo nd.2, List.mem_cons]
   constructor
   ·rintro (e | e)
    ·exact ⟨.inl e, e ▸ h⟩
    ·exact ⟨.inr e.1, e.2⟩
   ·rintro ⟨e | e, hne⟩
    ·exact .inl e
    ·exact .inr ⟨e, hne⟩
theorem mdel_sub : ∀ {es : List (Int × Int)}, (Xb x es).Sublist es
 | [] => List.Sublist.refl _
 | q :: es => by
  rw [Xb]
  split
  ·exact List.sublist_cons_self _ _
  ·exact mdel_sub.cons_cons _
theorem Um : ∀ {es : List (Int × Int)}, Yn es x = true → (Xb x es).length + 1 = es.length
 | [], h => by simp [Yn] at h
 | q :: es, h => by
  rw [Yn] at h
  rw [Xb]
  split
  ·rfl
  ·rename_i hn
   rw [if_neg hn] at h
   rw [List.length_cons, List.length_cons, Um h]
theorem Jx : ∀ {es : List (Int × Int)}, (es.map Prod.fst).Nodup → (x, v) ∈ es → Wi x v es = es
 | [], _, h => by simp at h
 | p :: es, nd, h => by
  rw [List.map_cons, List.nodup_cons] at nd
  rw [Wi]
  rcases List.mem_cons.1 h with e | e
  ·rw [if_pos (by rw [← e]), e]
  ·rw [if_neg (fun q => nd.1 (List.mem_map.2 ⟨_, e, by simpa using q.symm⟩)), Jx nd.2 e]
end
structure Okf (N B n t : Nat) (c : Ca) (i f : Nat) : Prop where
 hi : i < N
 hf : f < n
 blk : (c.2.1.getD f default).1 = (i : Int)
 len : (c.2.1.getD f default).2.1.length = B
 pin : 0 ≤ (c.2.1.getD f default).2.2.2 ∧ (c.2.1.getD f default).2.2.2 ≤ t
 emp : (f : Int) ∉ c.2.2.2.1
structure CaI (N B n t : Nat) (H : List Nat) (c : Ca) (L : List Nat) : Prop where
 dsz : c.1.1 = (B : Int)
 dim : c.1.2.1.length = N * B
 frl : c.2.1.length = n
 mnd : (c.2.2.1.map Prod.fst).Nodup
 mok : ∀ p ∈ c.2.2.1, ∃ i f : Nat, p = ((i : Int), (f : Int)) ∧ Okf N B n t c i f
 emp : ∀ x ∈ c.2.2.2.1, ∃ f : Nat, x = (f : Int) ∧ f < n
 end_ : c.2.2.2.1.Nodup
 hol : ∀ f ∈ H, f < n ∧ (f : Int) ∉ c.2.2.2.1 ∧ ∀ i : Int, (i, (f : Int)) ∉ c.2.2.1
 tot : c.2.2.1.length + c.2.2.2.1.length + H.length = n
 chn : ChI n c.2.2.2.2 L
 lok : ∀ f : Nat, f ∈ L ↔ (∃ i : Int, (i, (f : Int)) ∈ c.2.2.1) ∧ (c.2.1.getD f default).2.2.2 = 0
section
variable {N B n t : Nat} {H : List Nat} {c : Ca} {L : List Nat}
theorem CaI.at (h : CaI N B n t H c L) {i f : Int} (hp : (i, f) ∈ c.2.2.1) : ∃ i' f' : Nat, i = (i' : Int) ∧ f = (f' : Int) ∧ Okf N B n t c i' f' := by
 obtain ⟨i', f', e, ok⟩ := h.mok _ hp
 rw [Prod.mk.injEq] at e
 exact ⟨i', f', e.1, e.2, ok⟩
theorem CaI.atN (h : CaI N B n t H c L) {i f : Nat} (hp : ((i : Int), (f : Int)) ∈ c.2.2.1) : Okf N B n t c i f := by
 obtain ⟨i', f', e1, e2, ok⟩ := h.at hp
 have : i = i' := by omega
 have : f = f' := by omega
 subst_vars
 exact ok
theorem CaI.one (h : CaI N B n t H c L) {i j f : Nat} (hi : ((i : Int), (f : Int)) ∈ c.2.2.1) (hj : ((j : Int), (f : Int)) ∈ c.2.2.1) : i = j := by
 have h1 := (h.atN hi).blk
 have h2 := (h.atN hj).blk
 omega
theorem CaI.get (h : CaI N B n t H c L) (i : Nat) : (Yn c.2.2.1 (i : Int) = false ∧ ∀ v, ((i : Int), v) ∉ c.2.2.1) ∨ ∃ f : Nat, ((i : Int), (f : Int)) ∈ c.2.2.1 ∧ Yn c.2.2.1 (i : Int) = true ∧ Zq 0 c.2.2.1 (i : Int) = (f : Int) ∧ Okf N B n t c i f := by
 cases q : Yn c.2.2.1 (i : Int) with
 | false => exact .inl ⟨rfl, fun v hv => by rw [mhas_iff.2 ⟨v, hv⟩] at q; cases q⟩
 | true =>
  obtain ⟨v, hv⟩ := mhas_iff.1 q
  obtain ⟨i', f, e1, rfl, ok⟩ := h.at hv
  have : i = i' := by omega
  subst this
  exact .inr ⟨f, hv, rfl, Y5 h.mnd hv, ok⟩
theorem CaI.used (h : CaI N B n t H c L) : c.2.2.1.length ≤ n := by have := h.tot; omega
theorem CaI.mono (h : CaI N B n t H c L) {t' : Nat} (ht : t ≤ t') : CaI N B n t' H c L :=
 ⟨h.dsz, h.dim, h.frl, h.mnd, fun p hp => by
  obtain ⟨i, f, e, ok⟩ := h.mok p hp
  exact ⟨i, f, e, ok.hi, ok.hf, ok.blk, ok.len, ⟨ok.pin.1, by have := ok.pin.2; omega⟩, ok.emp⟩, h.emp, h.end_, h.hol, h.tot, h.chn, h.lok⟩
theorem CaI.dev (h : CaI N B n t H c L) {img : List Int} (hl : img.length = N * B) (s : Int × Int) : CaI N B n t H ((c.1.1, img, s), c.2) L :=
 ⟨h.dsz, hl, h.frl, h.mnd, fun p hp => by
  obtain ⟨i, f, e, ok⟩ := h.mok p hp
  exact ⟨i, f, e, ok.hi, ok.hf, ok.blk, ok.len, ok.pin, ok.emp⟩, h.emp, h.end_, h.hol, h.tot, h.chn, h.lok⟩
theorem CaI.setfr (h : CaI N B n t H c L) {i f : Nat} (ha : ((i : Int), (f : Int)) ∈ c.2.2.1) {x : Fr8} (h1 : x.1 = (i : Int)) (h2 : x.2.1.length = B) {t' : Nat} (h3 : 0 ≤ x.2.2.2 ∧ x.2.2.2 ≤ t') (ht : t ≤ t') {ch : Chn} {L' : List Nat} (hc : ChI n ch L')
  (hL : ∀ g, g ∈ L' ↔ if g = f then x.2.2.2 = 0 else g ∈ L) : CaI N B n t' H (c.1, c.2.1.set f x, c.2.2.1, c.2.2.2.1, ch) L' := by
 have ok := h.atN ha
 have hfl : f < c.2.1.length := by rw [h.frl]; exact ok.hf
 have g : ∀ k, (c.2.1.set f x).getD k default = if f = k then x else c.2.1.getD k default := fun k => Yk hfl
 refine ⟨h.dsz, h.dim, by rw [List.length_set, h.frl], h.mnd, fun p hp => ?_, h.emp, h.end_, h.hol, h.tot, hc, fun k => ?_⟩
 ·obtain ⟨j, k, e, okk⟩ := h.mok p hp
  refine ⟨j, k, e, okk.hi, okk.hf, ?_, ?_, ?_, okk.emp⟩
  all_goals
   show _
   try dsimp only
   rw [g k]
   split
  ·rename_i q
   subst q
   have : i = j := h.one ha (by rw [← e]; exact hp)
   subst this; exact h1
  ·exact okk.blk
  ·exact h2
  ·exact okk.len
  ·exact h3
  ·exact ⟨okk.pin.1, by have := okk.pin.2; omega⟩
 ·rw [hL k]
  try dsimp only
  rw [g k]
  by_cases q : k = f
  ·subst q
   rw [if_pos rfl, if_pos rfl]
   exact ⟨fun e => ⟨⟨_, ha⟩, e⟩, fun e => e.2⟩
  ·rw [if_neg q, if_neg (Ne.symm q)]
   exact h.lok k
theorem CaI.leave (h : CaI N B n t [] c L) {i f : Nat} (ha : ((i : Int), (f : Int)) ∈ c.2.2.1) (hn : n ≤ 64) {ch : Chn} (hc : ChI n ch (L.erase f)) : CaI N B n t [] (c.1, c.2.1.set f (0, [], false, 0), Xb (i : Int) c.2.2.1, c.2.2.2.1 ++ [(f : Int)], ch) (L.erase f) := by
 have ok := h.atN ha
 have hfl : f < c.2.1.length := by rw [h.frl]; exact ok.hf
 have g : ∀ k, (c.2.1.set f (0, [], false, 0)).getD k default = if f = k then (0, [], false, 0) else c.2.1.getD k default := fun k => Yk hfl
 have hne : ∀ {j k : Nat}, ((j : Int), (k : Int)) ∈ c.2.2.1 → (j : Int) ≠ (i : Int) → f ≠ k := fun {j k} hjk hji e => by
  subst e
  exact hji (by rw [h.one ha hjk])
 refine ⟨h.dsz, h.dim, by rw [List.length_set, h.frl], (mdel_sub.map _).nodup h.mnd, fun p hp => ?_, fun x hx => ?_, ?_, by simp, ?_, hc, fun k => ?_⟩
 ·rw [Wo h.mnd] at hp
  obtain ⟨j, k, e, okk⟩ := h.mok p hp.1
  have hjk : ((j : Int), (k : Int)) ∈ c.2.2.1 := by rw [← e]; exact hp.1
  have hk : f ≠ k := hne hjk (by rw [e] at hp; exact hp.2)
  refine ⟨j, k, e, okk.hi, okk.hf, ?_, ?_, ?_, ?_⟩
  ·dsimp only; rw [g k, if_neg hk]; exact okk.blk
  ·dsimp only; rw [g k, if_neg hk]; exact okk.len
  ·dsimp only; rw [g k, if_neg hk]; exact okk.pin
  ·dsimp only
   rw [List.mem_append, List.mem_singleton]
   rintro (q | q)
   ·exact okk.emp q
   ·exact hk (by omega)
 ·rcases List.mem_append.1 hx with q | q
  ·exact h.emp x q
  ·rw [List.mem_singleton] at q; exact ⟨f, q, ok.hf⟩
 ·exact List.nodup_append.2 ⟨h.end_, by simp, fun a hb b hb' e => by rw [List.mem_singleton] at hb'; exact ok.emp (hb' ▸ e ▸ hb)⟩
 ·have h1 := h.tot
  have h2 := Um (mhas_iff.2 ⟨_, ha⟩)
  simp only [List.length_append, List.length_singleton, List.length_nil] at h1 ⊢
  omega
 ·rw [h.chn.nd.mem_erase_iff]
  try dsimp only
  rw [g k]
  constructor
  ·rintro ⟨hk, hkL⟩
   obtain ⟨⟨j, hj⟩, hp⟩ := (h.lok k).1 hkL
   rw [if_neg (Ne.symm hk)]
   obtain ⟨j', k', e1, e2, okk⟩ := h.at hj
   refine ⟨⟨j, (Wo h.mnd).2 ⟨hj, fun e => hk ?_⟩⟩, hp⟩
   have h1 : Zq 0 c.2.2.1 (i : Int) = (f : Int) := Y5 h.mnd ha
   have h2 : Zq 0 c.2.2.1 (i : Int) = (k : Int) := Y5 h.mnd (by rw [← show j = (i : Int) from e]; exact hj)
   omega
  ·rintro ⟨⟨j, hj⟩, hp⟩
   rw [Wo h.mnd] at hj
   obtain ⟨j', k', e1, e2, okk⟩ := h.at hj.1
   have hk : f ≠ k := hne (j := j') (by rw [← e1]; exact hj.1) (by rw [← e1]; exact hj.2)
   rw [if_neg hk] at hp
   exact ⟨Ne.symm hk, (h.lok k).2 ⟨⟨j, hj.1⟩, hp⟩⟩
theorem CaI.take (h : CaI N B n t [] c L) {E : List Int} {f : Nat} (he : c.2.2.2.1 = E ++ [(f : Int)]) : CaI N B n t [f] (c.1, c.2.1, c.2.2.1, E, c.2.2.2.2) L := by
 have hnd := h.end_
 rw [he] at hnd
 have hnd2 := List.nodup_append.1 hnd
 refine ⟨h.dsz, h.dim, h.frl, h.mnd, fun p hp => ?_, fun x hx => h.emp x (by rw [he]; simp [hx]), hnd2.1, fun g hg => ?_, ?_, h.chn, h.lok⟩
 ·obtain ⟨i, k, e, ok⟩ := h.mok p hp
  exact ⟨i, k, e, ok.hi, ok.hf, ok.blk, ok.len, ok.pin, fun q => ok.emp (by rw [he]; simp [show (k : Int) ∈ E from q])⟩
 ·rw [List.mem_singleton] at hg
  subst hg
  refine ⟨?_, fun q => hnd2.2.2 _ q (g : Int) (by simp) rfl, fun i hi => ?_⟩
  ·obtain ⟨f', e, hf⟩ := h.emp (g : Int) (by rw [he]; simp)
   omega
  ·obtain ⟨j, k, e1, e2, ok⟩ := h.at hi
   exact ok.emp (by rw [← e2, he]; simp)
 ·have h1 := h.tot
  rw [he] at h1
  simp only [List.length_append, List.length_singleton, List.length_nil] at h1 ⊢
  omega
theorem CaI.come {f : Nat} (h : CaI N B n t [f] c L) {i : Nat} (hi : i < N) (hno : ∀ v, ((i : Int), v) ∉ c.2.2.1) {x : Fr8} (h1 : x.1 = (i : Int)) (h2 : x.2.1.length = B) (h3 : x.2.2.2 = 1) (ht : 1 ≤ t) {ch : Chn} (hc : ChI n ch L) :
  CaI N B n t [] (c.1, c.2.1.set f x, c.2.2.1 ++ [((i : Int), (f : Int))], c.2.2.2.1, ch) L := by
 obtain ⟨hf, hfe, hfm⟩ := h.hol f (by simp)
 have hfl : f < c.2.1.length := by rw [h.frl]; exact hf
 have g : ∀ k, (c.2.1.set f x).getD k default = if f = k then x else c.2.1.getD k default := fun k => Yk hfl
 have hne : ∀ {j : Int} {k : Nat}, (j, (k : Int)) ∈ c.2.2.1 → f ≠ k := fun {j k} hjk e => hfm j (by rw [e]; exact hjk)
 refine ⟨h.dsz, h.dim, by rw [List.length_set, h.frl], ?_, fun p hp => ?_, h.emp, h.end_, by simp, ?_, hc, fun k => ?_⟩
 ·dsimp only
  rw [List.map_append, List.nodup_append]
  refine ⟨h.mnd, by simp, fun a ha b hb e => ?_⟩
  obtain ⟨p, hp, rfl⟩ := List.mem_map.1 ha
  simp only [List.map_cons, List.map_nil, List.mem_singleton] at hb
  exact hno p.2 (by rw [← hb, ← e]; exact hp)
 ·rcases List.mem_append.1 hp with q | q
  ·obtain ⟨j, k, e, okk⟩ := h.mok p q
   have hk : f ≠ k := hne (j := (j : Int)) (by rw [← e]; exact q)
   refine ⟨j, k, e, okk.hi, okk.hf, ?_, ?_, ?_, okk.emp⟩
   ·dsimp only; rw [g k, if_neg hk]; exact okk.blk
   ·dsimp only; rw [g k, if_neg hk]; exact okk.len
   ·dsimp only; rw [g k, if_neg hk]; exact okk.pin
  ·rw [List.mem_singleton] at q
   refine ⟨i, f, q, hi, hf, ?_, ?_, ?_, hfe⟩
   ·dsimp only; rw [g f, if_pos rfl]; exact h1
   ·dsimp only; rw [g f, if_pos rfl]; exact h2
   ·dsimp only; rw [g f, if_pos rfl, h3]; omega
 ·have h1 := h.tot
  simp only [List.length_append, List.length_singleton, List.length_nil] at h1 ⊢
  omega
 ·dsimp only
  rw [g k]
  constructor
  ·intro hk
   obtain ⟨⟨j, hj⟩, hp⟩ := (h.lok k).1 hk
   rw [if_neg (hne hj)]
   exact ⟨⟨j, by simp [hj]⟩, hp⟩
  ·rintro ⟨⟨j, hj⟩, hp⟩
   rcases List.mem_append.1 hj with q | q
   ·rw [if_neg (hne q)] at hp
    exact (h.lok k).2 ⟨⟨j, q⟩, hp⟩
   ·rw [List.mem_singleton, Prod.mk.injEq] at q
    have : f = k := by omega
    rw [if_pos this, h3] at hp
    omega
end
structure Siz (N B n : Nat) : Prop where
 hB : 1 ≤ B
 hN : 1 ≤ N
 hNB : N * B ≤ 4294967296
 hn : 1 ≤ n
 h64 : n ≤ 64
section
variable {N B n t : Nat} {H : List Nat} {c : Ca} {L : List Nat}
theorem Siz.N_le (z : Siz N B n) : N ≤ 4294967296 := Nat.le_trans (Nat.le_mul_of_pos_right N z.hB) z.hNB
theorem Siz.B_le (z : Siz N B n) : B ≤ 4294967296 := Nat.le_trans (Nat.le_mul_of_pos_left B z.hN) z.hNB
theorem Uh (z : Siz N B n) (h : CaI N B n t [] c L) {i f : Nat} (ha : ((i : Int), (f : Int)) ∈ c.2.2.1) : ∃ ch, Q10.f c (f : Int) = some (c.1, c.2.1.set f (0, [], false, 0), Xb (i : Int) c.2.2.1, c.2.2.2.1 ++ [(f : Int)], ch) ∧ CaI N B n t [] (c.1, c.2.1.set f (0, [], false, 0), Xb (i : Int) c.2.2.1, c.2.2.2.1 ++ [(f : Int)], ch) (L.erase f) := by
 have ok := h.atN ha
 have h64 := z.h64
 obtain ⟨r, ch, e, hc⟩ := Uo h.chn ok.hf (by omega)
 have hfl := h.frl
 have htot := h.tot
 have hf := ok.hf
 refine ⟨ch, ?_, h.leave ha h64 hc⟩
 unfold Q10.f
 rw [if_pos (by omega), show Q14.f (c.2.2.2.2.1, c.2.2.2.2.2) (f : Int) = _ from e, Option.bind_some, if_pos (by simp only [List.length_singleton]; omega), show (gt c.2.1 (f : Int)).1 = (i : Int) by rw [Yd]; exact ok.blk, Int.toNat_natCast]
theorem Be (z : Siz N B n) (h : CaI N B n t H c L) {i f : Nat} (ha : ((i : Int), (f : Int)) ∈ c.2.2.1) : Q30.f c.1 (gt c.2.1 (f : Int)).1 (gt c.2.1 (f : Int)).2.1 = some (0, c.1.1, Ym c.1.2.1 (i * B) B (gt c.2.1 (f : Int)).2.1, c.1.2.2.1, IntKind.u64.wrap (c.1.2.2.2 + 1)) := by
 have ok := h.atN ha
 have hi := ok.hi
 have hNl := z.N_le
 rw [show (gt c.2.1 (f : Int)).1 = (i : Int) by rw [Yd]; exact ok.blk]
 have := Zeq (b := (gt c.2.1 (f : Int)).2.1) (s := c.1.2.2) z.hB z.hN h.dim z.hNB (show i < 4294967296 by omega)
 rw [← h.dsz] at this
 rw [show Q30.f c.1 (i : Int) (gt c.2.1 (f : Int)).2.1 = _ from this, if_neg (by omega), if_pos (by rw [Yd]; exact ok.len)]
theorem CaI.back (z : Siz N B n) (h : CaI N B n t H c L) {i f : Nat} (ha : ((i : Int), (f : Int)) ∈ c.2.2.1) (s : Int × Int) : CaI N B n t H ((c.1.1, Ym c.1.2.1 (i * B) B (gt c.2.1 (f : Int)).2.1, s), c.2.1.set f ((gt c.2.1 (f : Int)).1, (gt c.2.1 (f : Int)).2.1, false, (gt c.2.1 (f : Int)).2.2.2), c.2.2) L := by
 have ok := h.atN ha
 have g : gt c.2.1 (f : Int) = c.2.1.getD f default := Yd _ _
 have h1 := h.setfr ha (x := ((gt c.2.1 (f : Int)).1, (gt c.2.1 (f : Int)).2.1, false, (gt c.2.1 (f : Int)).2.2.2)) (by rw [g]; exact ok.blk) (by rw [g]; exact ok.len) (by rw [g]; exact ok.pin) (Nat.le_refl t) h.chn (fun k => by
  split
  ·rename_i q
   subst q
   rw [h.lok k, g]
   exact ⟨fun e => e.2, fun e => ⟨⟨_, ha⟩, e⟩⟩
  ·exact Iff.rfl)
 exact h1.dev (Zae h.dim ok.hi) s
theorem Za3 (z : Siz N B n) (h : CaI N B n t [] c L) (hw : 0 ≤ c.1.2.2.2 ∧ c.1.2.2.2 ≤ 1000000000) : Q12.f c = some (0, false, c) ∨
  ∃ (f : Nat) (c' : Ca) (L' : List Nat), Q12.f c = some ((f : Int), true, c') ∧ CaI N B n t [f] c' L' ∧ c'.1.2.2.1 = c.1.2.2.1 ∧ (c.1.2.2.2 ≤ c'.1.2.2.2 ∧ c'.1.2.2.2 ≤ c.1.2.2.2 + 1) ∧ ∀ p ∈ c'.2.2.1, p ∈ c.2.2.1 := by
 have h64 := z.h64
 have htot := h.tot
 have hfl := h.frl
 have wr : IntKind.u64.wrap (c.1.2.2.2 + 1) = c.1.2.2.2 + 1 := by
  obtain ⟨m, hm⟩ := Int.eq_ofNat_of_zero_le hw.1
  have : c.1.2.2.2 + 1 = ((m + 1 : Nat) : Int) := by omega
  rw [this]
  simp [IntKind.wrap, IntKind.bits, IntKind.signed]
  omega
 by_cases he : c.2.2.2.1 = []
 ·have e0 : (decide ((c.2.2.2.1.length : Int) = 0)) = true := by rw [he]; rfl
  rcases List.eq_nil_or_concat L with rfl | ⟨L0, q, hq⟩
  ·left
   unfold Q12.f
   rw [if_pos e0, show Q16.f (c.2.2.2.2.1, c.2.2.2.2.2) = _ from Zaj h.chn, Option.bind_some, if_pos (by simp)]
  ·right
   rw [List.concat_eq_append] at hq
   subst hq
   obtain ⟨⟨j, hj⟩, hp⟩ := (h.lok q).1 (by simp)
   obtain ⟨i, q', rfl, e2, ok⟩ := h.at hj
   have : q = q' := by omega
   subst this
   have hf := ok.hf
   unfold Q12.f
   rw [if_pos e0, show Q16.f (c.2.2.2.2.1, c.2.2.2.2.2) = _ from Zfe h.chn (by omega), Option.bind_some, if_neg (by simp)]
   try dsimp only
   rw [if_pos (by omega)]
   have one : w64 ((([] ++ [(q : Int)] : List Int).length : Int) - 1) = 0 := by
    show w64 (((1 : Nat) : Int) - 1) = 0
    decide
   by_cases hd : (gt c.2.1 (q : Int)).2.2.1 = true
   ·have hb := h.back z hj (c.1.2.2.1, c.1.2.2.2 + 1)
    obtain ⟨ch, e, hl⟩ := Uh z hb (by exact hj)
    rw [if_pos hd, show Q30.f (c.1.1, c.1.2.1, (c.1.2.2.1, c.1.2.2.2)) (gt c.2.1 (q : Int)).1 (gt c.2.1 (q : Int)).2.1 = _ from Be z h hj, Option.bind_some]
    try dsimp only
    rw [wr, Int.toNat_natCast, show Q10.f ((c.1.1, Ym c.1.2.1 (i * B) B (gt c.2.1 (q : Int)).2.1, c.1.2.2.1, c.1.2.2.2 + 1), c.2.1.set q ((gt c.2.1 (q : Int)).1, (gt c.2.1 (q : Int)).2.1, false, (gt c.2.1 (q : Int)).2.2.2), c.2.2.1, c.2.2.2.1, c.2.2.2.2.1, c.2.2.2.2.2) (q : Int) = _ from e, Option.bind_some]
    try dsimp only
    rw [he, one, if_pos (by simp), if_pos (by simp)]
    refine ⟨q, _, _, rfl, hl.take (E := []) (by dsimp only; rw [he]), rfl, by dsimp only; omega, fun p hp => mdel_sub.subset hp⟩
   ·obtain ⟨ch, e, hl⟩ := Uh z h hj
    rw [if_neg hd, show Q10.f ((c.1.1, c.1.2.1, (c.1.2.2.1, c.1.2.2.2)), c.2.1, c.2.2.1, c.2.2.2.1, (c.2.2.2.2.1, c.2.2.2.2.2)) (q : Int) = _ from e, Option.bind_some]
    try dsimp only
    rw [he, one, if_pos (by simp), if_pos (by simp)]
    refine ⟨q, _, _, rfl, hl.take (E := []) (by dsimp only; rw [he]), rfl, by dsimp only; omega, fun p hp => mdel_sub.subset hp⟩
 ·right
  obtain ⟨E, x, hx⟩ : ∃ E x, c.2.2.2.1 = E ++ [x] := by
   rcases List.eq_nil_or_concat c.2.2.2.1 with e | ⟨E, x, e⟩
   ·exact absurd e he
   ·exact ⟨E, x, by rw [e, List.concat_eq_append]⟩
  obtain ⟨f, rfl, hf⟩ := h.emp x (by rw [hx]; simp)
  have hll : c.2.2.2.1.length = E.length + 1 := by rw [hx]; simp
  have e1 : w64 ((c.2.2.2.1.length : Int) - 1) = (E.length : Int) := by rw [Yg (by omega) (by omega)]; omega
  unfold Q12.f
  rw [if_neg (by simp only [decide_eq_true_eq]; omega), e1, if_pos (by omega), if_pos (by omega), Int.toNat_natCast]
  have e2 : gt c.2.2.2.1 (E.length : Int) = (f : Int) := by
   rw [Yd, hx, List.getD_eq_getElem?_getD, List.getElem?_append_right (Nat.le_refl _)]; simp
  have e3 : c.2.2.2.1.take E.length = E := by rw [hx, List.take_left]
  rw [e2, e3]
  exact ⟨f, _, _, rfl, h.take hx, rfl, by dsimp only; omega, fun p hp => hp⟩
end
section
variable {N B n t : Nat} {c : Ca} {L : List Nat}
structure Costs (N B n t : Nat) (a b : Nat) (c c' : Ca) : Prop where
 inv : ∃ L, CaI N B n t [] c' L
 rd : c.1.2.2.1 ≤ c'.1.2.2.1 ∧ c'.1.2.2.1 ≤ c.1.2.2.1 + a
 wr : c.1.2.2.2 ≤ c'.1.2.2.2 ∧ c'.1.2.2.2 ≤ c.1.2.2.2 + b
theorem Costs.same (h : CaI N B n t [] c L) (a b : Nat) : Costs N B n t a b c c := ⟨⟨L, h⟩, by omega, by omega⟩
structure Few (c : Ca) : Prop where
 rd : 0 ≤ c.1.2.2.1 ∧ c.1.2.2.1 ≤ 100000000
 wr : 0 ≤ c.1.2.2.2 ∧ c.1.2.2.2 ≤ 100000000
theorem Bi {x : Int} (h : 0 ≤ x ∧ x ≤ 1000000000) : IntKind.u64.wrap (x + 1) = x + 1 := by
 obtain ⟨m, hm⟩ := Int.eq_ofNat_of_zero_le h.1
 have : x + 1 = ((m + 1 : Nat) : Int) := by omega
 rw [this]
 simp [IntKind.wrap, IntKind.bits, IntKind.signed]
 omega
theorem Zf4 (z : Siz N B n) {H : List Nat} (h : CaI N B n t H c L) : Q25.f c.1 = some (N : Int) := by
 have := V3 (s := c.1.2.2) z.hB h.dim z.hNB
 rw [← h.dsz] at this
 exact this
theorem Bh (z : Siz N B n) {H : List Nat} (h : CaI N B n t H c L) (i : Nat) (hi : i < 4294967296) : Q13.f c (i : Int) = some (if N ≤ i then 4 else 0) := by
 have hN := z.N_le
 unfold Q13.f Q11.f
 rw [Option.bind_some, if_neg (by simp), show Q25.f (c.1.1, c.1.2.1, (c.1.2.2.1, c.1.2.2.2)) = _ from Zf4 z h, Option.bind_some, Yg (x := (i : Int)) (by omega) (by omega)]
 by_cases q : N ≤ i
 ·rw [if_pos (decide_eq_true (by omega)), if_pos q]
 ·rw [if_neg (by simp only [decide_eq_true_eq]; omega), if_neg q]
theorem Zdt (z : Siz N B n) {H : List Nat} (h : CaI N B n t H c L) {i : Nat} (hi : i < N) : Q28.f c.1 (i : Int) = some (blk c.1.2.1 B i, 0, (c.1.1, c.1.2.1, IntKind.u64.wrap (c.1.2.2.1 + 1), c.1.2.2.2)) := by
 have hN := z.N_le
 have := Zfq (s := c.1.2.2) z.hB z.hN h.dim z.hNB (show i < 4294967296 by omega)
 rw [← h.dsz] at this
 rw [show Q28.f c.1 (i : Int) = _ from this, if_neg (by omega)]
theorem V6 {es : List (Int × Int)} {x v : Int} (h : ∀ v, (x, v) ∉ es) : Wi x v es = es ++ [(x, v)] := Gn (by
 cases q : Yn es x with
 | false => rfl
 | true => obtain ⟨v, hv⟩ := mhas_iff.1 q; exact absurd hv (h v))
theorem V9 (h : CaI N B n t [] c L) {f : Nat} {p : Int} (hp : p ≠ 0) (g : Nat) : g ∈ L.erase f ↔ if g = f then p = 0 else g ∈ L := by
 rw [h.chn.nd.mem_erase_iff]
 split
 ·rename_i e; exact ⟨fun q => absurd e q.1, fun q => absurd q hp⟩
 ·rename_i e; exact ⟨fun q => q.2, fun q => ⟨e, q⟩⟩
theorem Za5 (h : CaI N B n t [] c L) {i f : Nat} (ha : ((i : Int), (f : Int)) ∈ c.2.2.1) (g : Nat) : g ∈ L ↔ if g = f then (c.2.1.getD f default).2.2.2 = 0 else g ∈ L := by
 split
 ·rename_i q
  subst q
  rw [h.lok g]
  exact ⟨fun e => e.2, fun e => ⟨⟨_, ha⟩, e⟩⟩
 ·exact Iff.rfl
theorem Zgm (z : Siz N B n) (h : CaI N B n t [] c L) (fw : Few c) (ht : t ≤ 1000000) (i : Nat) (hi : i < 4294967296) : ∃ r c', Q6.f c (i : Int) = some (r, c') ∧ Costs N B n (t + 1) 1 1 c c' := by
 have h64 := z.h64
 have hfl := h.frl
 unfold Q6.f
 rw [show Q13.f ((c.1.1, c.1.2.1, (c.1.2.2.1, c.1.2.2.2)), c.2.1, c.2.2.1, c.2.2.2.1, (c.2.2.2.2.1, c.2.2.2.2.2)) (i : Int) = _ from Bh z h i hi, Option.bind_some]
 by_cases q : N ≤ i
 ·rw [if_pos q, if_pos (by simp)]
  exact ⟨_, _, rfl, Costs.same (h.mono (Nat.le_succ t)) 1 1⟩
 ·rw [if_neg q, if_neg (by simp)]
  rcases h.get i with ⟨g1, g2⟩ | ⟨f, ha, g1, g2, ok⟩
  ·rw [if_neg (by simp [g1])]
   rcases Za3 z h ⟨fw.wr.1, by have := fw.wr.2; omega⟩ with e | ⟨f, c1, L1, e, h1, k1, k2, k3⟩
   ·rw [show Q12.f ((c.1.1, c.1.2.1, (c.1.2.2.1, c.1.2.2.2)), c.2.1, c.2.2.1, c.2.2.2.1, (c.2.2.2.2.1, c.2.2.2.2.2)) = _ from e, Option.bind_some, if_pos (by simp)]
    exact ⟨_, _, rfl, Costs.same (h.mono (Nat.le_succ t)) 1 1⟩
   ·obtain ⟨hf, hfe, hfm⟩ := h1.hol f (by simp)
    have hfl1 := h1.frl
    have hno : ∀ v, ((i : Int), v) ∉ c1.2.2.1 := fun v hv => g2 v (k3 _ hv)
    have hfL : f ∉ L1 := fun hx => by obtain ⟨⟨j, hj⟩, _⟩ := (h1.lok f).1 hx; exact hfm j hj
    obtain ⟨r5, ch, e5, hc5⟩ := Uo h1.chn hf (by omega)
    rw [List.erase_of_not_mem hfL] at hc5
    rw [show Q12.f ((c.1.1, c.1.2.1, (c.1.2.2.1, c.1.2.2.2)), c.2.1, c.2.2.1, c.2.2.2.1, (c.2.2.2.2.1, c.2.2.2.2.2)) = _ from e, Option.bind_some, if_neg (by simp)]
    try dsimp only
    rw [show Q28.f (c1.1.1, c1.1.2.1, (c1.1.2.2.1, c1.1.2.2.2)) (i : Int) = _ from Zdt z h1 (by omega), Option.bind_some, if_neg (by simp), if_pos (by omega), show Q14.f (c1.2.2.2.2.1, c1.2.2.2.2.2) (f : Int) = _ from e5, Option.bind_some]
    have hcm := (h1.mono (Nat.le_succ t)).come (show i < N by omega) hno (x := ((i : Int), blk c1.1.2.1 B i, false, 1)) rfl (Wt h1.dim (by omega)) rfl (by omega) hc5
    try dsimp only
    rw [Bi (by rw [k1]; have := fw.rd; omega), V6 hno, Int.toNat_natCast]
    refine ⟨_, _, rfl, ⟨⟨_, hcm.dev (s := (c1.1.2.2.1 + 1, c1.1.2.2.2)) h1.dim⟩, ?_, ?_⟩⟩
    ·dsimp only; omega
    ·dsimp only; omega
  ·have hf := ok.hf
   have hp := ok.pin
   obtain ⟨r2, ch, e2, hc2⟩ := Uo h.chn ok.hf (by omega)
   have g : gt c.2.1 (f : Int) = c.2.1.getD f default := Yd _ _
   have wp : w64 ((c.2.1.getD f default).2.2.2 + 1) = (c.2.1.getD f default).2.2.2 + 1 := Yg (by omega) (by omega)
   have hs := h.setfr ha (x := ((gt c.2.1 (f : Int)).1, (gt c.2.1 (f : Int)).2.1, (gt c.2.1 (f : Int)).2.2.1, w64 ((gt c.2.1 (f : Int)).2.2.2 + 1))) (t' := t + 1) (by rw [g]; exact ok.blk) (by rw [g]; exact ok.len) (by rw [g]; dsimp only; rw [wp]; omega) (Nat.le_succ t) hc2 (V9 h (by rw [g]; dsimp only; rw [wp]; omega))
   rw [if_pos g1, g2, if_pos (by omega), show Q14.f (c.2.2.2.2.1, c.2.2.2.2.2) (f : Int) = _ from e2, Option.bind_some, Int.toNat_natCast]
   exact ⟨_, _, rfl, ⟨⟨_, hs⟩, by dsimp only; omega, by dsimp only; omega⟩⟩
theorem Zgb (z : Siz N B n) (h : CaI N B n t [] c L) (fw : Few c) (ht : t ≤ 1000000) (i : Nat) (hi : i < 4294967296) : ∃ r c', Q5.f c (i : Int) = some (r, c') ∧ Costs N B n (t + 1) 0 1 c c' := by
 have h64 := z.h64
 have hB := z.B_le
 have hfl := h.frl
 have hsz := h.dsz
 unfold Q5.f Q26.f
 rw [show Q13.f ((c.1.1, c.1.2.1, (c.1.2.2.1, c.1.2.2.2)), c.2.1, c.2.2.1, c.2.2.2.1, (c.2.2.2.2.1, c.2.2.2.2.2)) (i : Int) = _ from Bh z h i hi, Option.bind_some]
 by_cases q : N ≤ i
 ·rw [if_pos q, if_pos (by simp)]
  exact ⟨_, _, rfl, Costs.same (h.mono (Nat.le_succ t)) 0 1⟩
 ·rw [if_neg q, if_neg (by simp)]
  rcases h.get i with ⟨g1, g2⟩ | ⟨f, ha, g1, g2, ok⟩
  ·rw [if_neg (by simp [g1]), if_pos (by simp [g1])]
   rcases Za3 z h ⟨fw.wr.1, by have := fw.wr.2; omega⟩ with e | ⟨f, c1, L1, e, h1, k1, k2, k3⟩
   ·rw [show Q12.f ((c.1.1, c.1.2.1, (c.1.2.2.1, c.1.2.2.2)), c.2.1, c.2.2.1, c.2.2.2.1, (c.2.2.2.2.1, c.2.2.2.2.2)) = _ from e, Option.bind_some, if_pos (by simp)]
    exact ⟨_, _, rfl, Costs.same (h.mono (Nat.le_succ t)) 0 1⟩
   ·obtain ⟨hf, hfe, hfm⟩ := h1.hol f (by simp)
    have hfl1 := h1.frl
    have hsz1 := h1.dsz
    have hno : ∀ v, ((i : Int), v) ∉ c1.2.2.1 := fun v hv => g2 v (k3 _ hv)
    have hfL : f ∉ L1 := fun hx => by obtain ⟨⟨j, hj⟩, _⟩ := (h1.lok f).1 hx; exact hfm j hj
    obtain ⟨r5, ch, e5, hc5⟩ := Uo h1.chn hf (by omega)
    rw [List.erase_of_not_mem hfL] at hc5
    rw [show Q12.f ((c.1.1, c.1.2.1, (c.1.2.2.1, c.1.2.2.2)), c.2.1, c.2.2.1, c.2.2.2.1, (c.2.2.2.2.1, c.2.2.2.2.2)) = _ from e, Option.bind_some, if_neg (by simp), Option.bind_some]
    try dsimp only
    rw [if_pos (by omega), if_pos (by omega), show Q14.f (c1.2.2.2.2.1, c1.2.2.2.2.2) (f : Int) = _ from e5, Option.bind_some]
    have hcm := (h1.mono (Nat.le_succ t)).come (show i < N by omega) hno (x := ((i : Int), List.replicate c1.1.1.toNat (0 : Int), true, 1)) rfl (by rw [List.length_replicate]; omega) rfl (by omega) hc5
    try dsimp only
    rw [V6 hno, Int.toNat_natCast]
    refine ⟨_, _, rfl, ⟨⟨_, hcm⟩, ?_, ?_⟩⟩
    ·dsimp only; omega
    ·dsimp only; omega
  ·have hf := ok.hf
   have hp := ok.pin
   have g : gt c.2.1 (f : Int) = c.2.1.getD f default := Yd _ _
   rw [if_pos g1, g2, if_pos (by omega)]
   by_cases hpp : 0 < (gt c.2.1 (f : Int)).2.2.2
   ·rw [if_pos (decide_eq_true hpp)]
    exact ⟨_, _, rfl, Costs.same (h.mono (Nat.le_succ t)) 0 1⟩
   ·obtain ⟨r2, ch, e2, hc2⟩ := Uo h.chn ok.hf (by omega)
    have hs := h.setfr ha (x := ((i : Int), List.replicate c.1.1.toNat (0 : Int), true, 1)) (t' := t + 1) rfl (by rw [List.length_replicate]; omega) (by dsimp only; omega) (Nat.le_succ t) hc2 (V9 h (show (1 : Int) ≠ 0 by decide))
    rw [if_neg (by simpa using hpp), if_neg (by simp [g1]), Option.bind_some, if_pos (by omega), show Q14.f (c.2.2.2.2.1, c.2.2.2.2.2) (f : Int) = _ from e2, Option.bind_some, Int.toNat_natCast, Jx h.mnd ha]
    exact ⟨_, _, rfl, ⟨⟨_, hs⟩, by dsimp only; omega, by dsimp only; omega⟩⟩
theorem Zeg (z : Siz N B n) (h : CaI N B n t [] c L) (ht : t ≤ 1000000) (i : Nat) : ∃ r c', Q8.f c (i : Int) = some (r, c') ∧ Costs N B n t 0 0 c c' := by
 have h64 := z.h64
 have hfl := h.frl
 unfold Q8.f Q11.f
 rw [Option.bind_some, if_neg (by simp)]
 rcases h.get i with ⟨g1, g2⟩ | ⟨f, ha, g1, g2, ok⟩
 ·rw [if_pos (by simp [g1])]
  exact ⟨_, _, rfl, Costs.same h 0 0⟩
 ·have hf := ok.hf
  have hp := ok.pin
  have g : gt c.2.1 (f : Int) = c.2.1.getD f default := Yd _ _
  rw [if_neg (by simp [g1]), g2, if_pos (by omega)]
  by_cases hp0 : (gt c.2.1 (f : Int)).2.2.2 = 0
  ·rw [if_pos (decide_eq_true hp0)]
   exact ⟨_, _, rfl, Costs.same h 0 0⟩
  ·have wp : w64 ((gt c.2.1 (f : Int)).2.2.2 - 1) = (gt c.2.1 (f : Int)).2.2.2 - 1 := by rw [g]; exact Yg (by omega) (by omega)
   have hp1 : 0 < (gt c.2.1 (f : Int)).2.2.2 := by rw [g] at hp0 ⊢; omega
   have hp2 : (gt c.2.1 (f : Int)).2.2.2 ≤ t := by rw [g]; omega
   have hset : gt (c.2.1.set f ((gt c.2.1 (f : Int)).1, (gt c.2.1 (f : Int)).2.1, (gt c.2.1 (f : Int)).2.2.1, w64 ((gt c.2.1 (f : Int)).2.2.2 - 1))) (f : Int) = ((gt c.2.1 (f : Int)).1, (gt c.2.1 (f : Int)).2.1, (gt c.2.1 (f : Int)).2.2.1, w64 ((gt c.2.1 (f : Int)).2.2.2 - 1)) := by
    rw [Yd, Yk (by omega), if_pos rfl]
   have hfL : f ∉ L := fun hx => by have := ((h.lok f).1 hx).2; rw [← g] at this; omega
   rw [if_neg (by simpa using hp0), Int.toNat_natCast, hset, wp]
   by_cases hp3 : (gt c.2.1 (f : Int)).2.2.2 - 1 = 0
   ·obtain ⟨ch, e2, hc2⟩ := Zdk h.chn ok.hf hfL (by omega)
    rw [if_pos (decide_eq_true hp3), show Q15.f (c.2.2.2.2.1, c.2.2.2.2.2) (f : Int) = _ from e2, Option.bind_some]
    have hs := h.setfr ha (x := ((gt c.2.1 (f : Int)).1, (gt c.2.1 (f : Int)).2.1, (gt c.2.1 (f : Int)).2.2.1, (gt c.2.1 (f : Int)).2.2.2 - 1)) (t' := t) (by rw [g]; exact ok.blk) (by rw [g]; exact ok.len) (by dsimp only; omega) (Nat.le_refl t) hc2 (fun k => by
     rw [List.mem_cons]
     split
     ·rename_i e; exact ⟨fun _ => hp3, fun _ => .inl e⟩
     ·rename_i e; exact ⟨fun q => q.elim (fun e' => absurd e' e) id, .inr⟩)
    exact ⟨_, _, rfl, ⟨⟨_, hs⟩, by dsimp only; omega, by dsimp only; omega⟩⟩
   ·rw [if_neg (by simpa using hp3)]
    have hs := h.setfr ha (x := ((gt c.2.1 (f : Int)).1, (gt c.2.1 (f : Int)).2.1, (gt c.2.1 (f : Int)).2.2.1, (gt c.2.1 (f : Int)).2.2.2 - 1)) (t' := t) (by rw [g]; exact ok.blk) (by rw [g]; exact ok.len) (by dsimp only; omega) (Nat.le_refl t) h.chn (fun k => by
     split
     ·rename_i e; subst e; exact ⟨fun q => absurd q hfL, fun q => absurd q hp3⟩
     ·exact Iff.rfl)
    exact ⟨_, _, rfl, ⟨⟨_, hs⟩, by dsimp only; omega, by dsimp only; omega⟩⟩
theorem Zd2 (z : Siz N B n) (h : CaI N B n t [] c L) (i : Nat) (b : List Int) : ∃ r c', Q9.f c (i : Int) b = some (r, c') ∧ Costs N B n t 0 0 c c' := by
 have h64 := z.h64
 have hB := z.B_le
 have hfl := h.frl
 have hsz := h.dsz
 unfold Q9.f Q11.f Q26.f
 rw [Option.bind_some, if_neg (by simp)]
 rcases h.get i with ⟨g1, g2⟩ | ⟨f, ha, g1, g2, ok⟩
 ·rw [if_pos (by simp [g1])]
  exact ⟨_, _, rfl, Costs.same h 0 0⟩
 ·have hf := ok.hf
  have hp := ok.pin
  have g : gt c.2.1 (f : Int) = c.2.1.getD f default := Yd _ _
  rw [if_neg (by simp [g1]), g2, if_pos (by omega)]
  by_cases hp0 : (gt c.2.1 (f : Int)).2.2.2 = 0
  ·rw [if_pos (decide_eq_true hp0)]
   exact ⟨_, _, rfl, Costs.same h 0 0⟩
  ·rw [if_neg (by simpa using hp0), Option.bind_some]
   try dsimp only
   by_cases hb : (b.length : Int) = c.1.1
   ·have hset : gt (c.2.1.set f ((gt c.2.1 (f : Int)).1, b, (gt c.2.1 (f : Int)).2.2.1, (gt c.2.1 (f : Int)).2.2.2)) (f : Int) = ((gt c.2.1 (f : Int)).1, b, (gt c.2.1 (f : Int)).2.2.1, (gt c.2.1 (f : Int)).2.2.2) := by
     rw [Yd, Yk (by omega), if_pos rfl]
    have hs := h.setfr ha (x := ((gt c.2.1 (f : Int)).1, b, true, (gt c.2.1 (f : Int)).2.2.2)) (t' := t) (by rw [g]; exact ok.blk) (by dsimp only; omega) (by dsimp only; rw [g]; exact hp) (Nat.le_refl t) h.chn (by rw [g]; exact Za5 h ha)
    rw [if_neg (by simp [hb]), X0 (by omega), Option.bind_some, Int.toNat_natCast, hset, List.set_set]
    exact ⟨_, _, rfl, ⟨⟨_, hs⟩, by dsimp only; omega, by dsimp only; omega⟩⟩
   ·rw [if_pos (by simp [hb])]
    exact ⟨_, _, rfl, Costs.same h 0 0⟩
theorem Zha (z : Siz N B n) (h : CaI N B n t [] c L) (i : Nat) : ∃ r c', Q3.f c (i : Int) = some (r, c') ∧ Costs N B n t 0 0 c c' := by
 have h64 := z.h64
 have hfl := h.frl
 unfold Q3.f Q11.f
 rw [Option.bind_some, if_neg (by simp)]
 rcases h.get i with ⟨g1, g2⟩ | ⟨f, ha, g1, g2, ok⟩
 ·rw [if_pos (by simp [g1])]
  exact ⟨_, _, rfl, Costs.same h 0 0⟩
 ·have hf := ok.hf
  rw [if_neg (by simp [g1]), g2, if_pos (by omega)]
  by_cases hp0 : 0 < (gt c.2.1 (f : Int)).2.2.2
  ·rw [if_pos (decide_eq_true hp0)]
   exact ⟨_, _, rfl, Costs.same h 0 0⟩
  ·obtain ⟨ch, e, hl⟩ := Uh z h ha
   rw [if_neg (by simpa using hp0), show Q10.f ((c.1.1, c.1.2.1, (c.1.2.2.1, c.1.2.2.2)), c.2.1, c.2.2.1, c.2.2.2.1, (c.2.2.2.2.1, c.2.2.2.2.2)) (f : Int) = _ from e, Option.bind_some]
   exact ⟨_, _, rfl, ⟨⟨_, hl⟩, by dsimp only; omega, by dsimp only; omega⟩⟩
theorem Zg4 (z : Siz N B n) (h : CaI N B n t [] c L) (i : Nat) : ∃ b r, Q7.f c (i : Int) = some (b, r) := by
 have hfl := h.frl
 have hB := z.B_le
 unfold Q7.f Q11.f
 rw [Option.bind_some, if_neg (by simp)]
 rcases h.get i with ⟨g1, g2⟩ | ⟨f, ha, g1, g2, ok⟩
 ·rw [if_pos (by simp [g1])]
  exact ⟨_, _, rfl⟩
 ·have hf := ok.hf
  have g : gt c.2.1 (f : Int) = c.2.1.getD f default := Yd _ _
  rw [if_neg (by simp [g1]), g2, if_pos (by omega)]
  by_cases hp0 : (gt c.2.1 (f : Int)).2.2.2 = 0
  ·rw [if_pos (decide_eq_true hp0)]
   exact ⟨_, _, rfl⟩
  ·rw [if_neg (by simpa using hp0), X0 (by rw [g, ok.len]; omega), Option.bind_some]
   exact ⟨_, _, rfl⟩
end
section
variable {N B n t : Nat} {c : Ca} {L : List Nat}
def Vt (fr : List Fr8) (mp : List (Int × Int)) (i : Int) : Bool := (gt fr (Zq 0 mp i)).2.2.1
def Xg (c : Ca) : List Int := (c.2.2.1.map Prod.fst).mergeSort fun x y => decide (x ≤ y)
theorem X2 (c : Ca) : (Xg c).Perm (c.2.2.1.map Prod.fst) := List.mergeSort_perm _ _
theorem Zfv (z : Siz N B n) (h : CaI N B n t [] c L) : Q54.f c.2.2.1 = some (Xg c) := by
 have h64 := z.h64
 have hN := z.N_le
 have hu := h.used
 unfold Q54.f
 rw [if_pos ?_]
 ·rfl
 ·unfold W6
  simp only [Bool.and_eq_true, decide_eq_true_eq, List.all_eq_true]
  refine ⟨by omega, h.mnd, fun p hp => ?_⟩
  obtain ⟨i, f, e, ok⟩ := h.mok p hp
  have h1 := ok.hi
  have h2 := ok.hf
  rw [e]
  simp [Lit.wf, IntKind.min, IntKind.max, IntKind.signed, IntKind.bits]
  omega
theorem Bo (h : CaI N B n t [] c L) {x : Int} (hx : x ∈ Xg c) : ∃ i f : Nat, x = (i : Int) ∧ ((i : Int), (f : Int)) ∈ c.2.2.1 ∧ Zq 0 c.2.2.1 x = (f : Int) ∧ Okf N B n t c i f := by
 have := (X2 c).mem_iff.1 hx
 obtain ⟨p, hp, rfl⟩ := List.mem_map.1 this
 obtain ⟨i, f, e1, e2, ok⟩ := h.at (i := p.1) (f := p.2) hp
 have hp' : ((i : Int), (f : Int)) ∈ c.2.2.1 := by rw [← e1, ← e2]; exact hp
 exact ⟨i, f, e1, hp', by rw [e1]; exact Y5 h.mnd hp', ok⟩
theorem Gx (z : Siz N B n) (h : CaI N B n t [] c L) : ∀ (m j k : Nat) (acc : List Int), (Xg c).length = j + m → m < k → acc.length + m ≤ 1000 → Q2.l0 k c (Xg c) acc (j : Int) = some (acc ++ ((Xg c).drop j).filter (Vt c.2.1 c.2.2.1))
 | 0, j, k + 1, acc, hj, hk, ha => by
  have hl : (Xg c).length ≤ 64 := by rw [(X2 c).length_eq, List.length_map]; have := h.used; have := z.h64; omega
  rw [Q2.l0, if_neg (by simp only [decide_eq_true_eq]; omega), List.drop_eq_nil_of_le (by omega)]; simp
 | m + 1, j, k + 1, acc, hj, hk, ha => by
  have hl : (Xg c).length ≤ 64 := by rw [(X2 c).length_eq, List.length_map]; have := h.used; have := z.h64; omega
  have hjl : j < (Xg c).length := by omega
  obtain ⟨i, f, e1, hp, e2, ok⟩ := Bo h (x := (Xg c).getD j default) (Uz hjl)
  have hf := ok.hf
  have hfl := h.frl
  rw [Q2.l0, if_pos (decide_eq_true (by omega)), if_pos (by omega), Yd, e2, if_pos (by omega), Zaf hjl, List.filter_cons]
  have hd : Vt c.2.1 c.2.2.1 ((Xg c).getD j default) = (gt c.2.1 (f : Int)).2.2.1 := by unfold Vt; rw [e2]
  rw [hd]
  by_cases q : (gt c.2.1 (f : Int)).2.2.1 = true
  ·rw [if_pos q, if_pos q, if_pos (by simp only [List.length_singleton]; omega), Xr (by omega), Gx z h m (j + 1) k _ (by omega) (by omega) (by rw [List.length_append, List.length_singleton]; omega), List.append_assoc]; rfl
  ·rw [if_neg q, if_neg q, Xr (by omega), Gx z h m (j + 1) k _ (by omega) (by omega) (by omega)]
def Xf (c : Ca) : List Int := (Xg c).filter (Vt c.2.1 c.2.2.1)
theorem Zbb (z : Siz N B n) (h : CaI N B n t [] c L) {k : Nat} (hk : 100 < k) : Q2.f k c = some (Xf c) := by
 have hl : (Xg c).length ≤ 64 := by rw [(X2 c).length_eq, List.length_map]; have := h.used; have := z.h64; omega
 unfold Q2.f Q11.f
 rw [Option.bind_some, if_neg (by simp), Zfv z h, Option.bind_some]
 exact Gx z h (Xg c).length 0 k [] (by omega) (by omega) (by simp; omega)
theorem Wz (z : Siz N B n) (h : CaI N B n t [] c L) : (Xf c).length ≤ n := by
 have h1 := List.length_filter_le (Vt c.2.1 c.2.2.1) (Xg c)
 have h2 : (Xg c).length = c.2.2.1.length := by rw [(X2 c).length_eq, List.length_map]
 have h3 := h.used
 unfold Xf
 omega
theorem G5 (z : Siz N B n) (h : CaI N B n t [] c L) : ∀ (m j k : Nat) (d : Dv) (fr : List Fr8), (Xf c).length = j + m → m < k → CaI N B n t [] (d, fr, c.2.2) L → 0 ≤ d.2.2.2 ∧ d.2.2.2 + m ≤ 200000000 →
  ∃ c', Q4.l0 k c (Xf c) d.1 d.2.1 d.2.2.1 d.2.2.2 fr (j : Int) = some (0, c') ∧ CaI N B n t [] c' L ∧ c'.1.2.2.1 = d.2.2.1 ∧ d.2.2.2 ≤ c'.1.2.2.2 ∧ c'.1.2.2.2 ≤ d.2.2.2 + m
 | 0, j, k + 1, d, fr, hj, hk, hi, hw => by
  have hl := Wz z h
  rw [Q4.l0, if_neg (by simp only [decide_eq_true_eq]; omega)]
  exact ⟨_, rfl, hi, rfl, by dsimp only; omega, by dsimp only; omega⟩
 | m + 1, j, k + 1, d, fr, hj, hk, hi, hw => by
  have hl := Wz z h
  have h64 := z.h64
  have hjl : j < (Xf c).length := by omega
  have hin : (Xf c).getD j default ∈ Xg c := (List.mem_filter.1 (Uz (l := Xf c) hjl)).1
  obtain ⟨i, f, e1, hp, e2, ok⟩ := Bo h hin
  have hf := ok.hf
  have hfl := hi.frl
  rw [Q4.l0, if_pos (decide_eq_true (by omega)), if_pos (by omega), Yd, e2, if_pos (by dsimp only at hfl; omega)]
  by_cases q : (gt fr (f : Int)).2.2.1 = true
  ·have hb := hi.back z (i := i) (f := f) hp (d.2.2.1, d.2.2.2 + 1)
   have hwr := Be z hi (i := i) (f := f) hp
   rw [if_pos q, show Q30.f (d.1, d.2.1, (d.2.2.1, d.2.2.2)) (gt fr (f : Int)).1 (gt fr (f : Int)).2.1 = _ from hwr, Option.bind_some]
   try dsimp only
   rw [Bi (by omega), Int.toNat_natCast, Xr (by omega)]
   obtain ⟨c', g1, g2, g3, g4, g5⟩ := G5 z h m (j + 1) k (d.1, Ym d.2.1 (i * B) B (gt fr (f : Int)).2.1, d.2.2.1, d.2.2.2 + 1) (fr.set f ((gt fr (f : Int)).1, (gt fr (f : Int)).2.1, false, (gt fr (f : Int)).2.2.2)) (by omega) (by omega) hb (by dsimp only; omega)
   exact ⟨c', g1, g2, g3, by dsimp only at g4; omega, by dsimp only at g5; omega⟩
  ·rw [if_neg q, Xr (by omega)]
   obtain ⟨c', g1, g2, g3, g4, g5⟩ := G5 z h m (j + 1) k d fr (by omega) (by omega) hi (by omega)
   exact ⟨c', g1, g2, g3, g4, by omega⟩
theorem Zgf (z : Siz N B n) (h : CaI N B n t [] c L) (fw : Few c) {k : Nat} (hk : 200 < k) : ∃ r c', Q4.f k c = some (r, c') ∧ Costs N B n t 0 n c c' := by
 have hl := Wz z h
 have h64 := z.h64
 unfold Q4.f Q11.f
 rw [Option.bind_some, if_neg (by simp), show Q2.f k ((c.1.1, c.1.2.1, (c.1.2.2.1, c.1.2.2.2)), c.2.1, c.2.2.1, c.2.2.2.1, (c.2.2.2.2.1, c.2.2.2.2.2)) = _ from Zbb z h (by omega), Option.bind_some]
 obtain ⟨c', g1, g2, g3, g4, g5⟩ := G5 z h (Xf c).length 0 k c.1 c.2.1 (by omega) (by omega) h ⟨fw.wr.1, by have := fw.wr.2; omega⟩
 exact ⟨_, c', g1, ⟨⟨_, g2⟩, by omega, by omega⟩⟩
def cR (kd : Int) : Nat := if kd = 0 ∨ kd = 1 then 1 else 0
def cW (n : Nat) (kd : Int) : Nat := if kd = 0 ∨ kd = 1 ∨ kd = 2 then 1 else if kd = 8 then n else 0
theorem Costs.le {a a' b b' t' : Nat} {c c' : Ca} (h : Costs N B n t a b c c') (ht : t ≤ t') (ha : a ≤ a') (hb : b ≤ b') : Costs N B n t' a' b' c c' :=
 ⟨by obtain ⟨L, hL⟩ := h.inv; exact ⟨L, hL.mono ht⟩, by have := h.rd; omega, by have := h.wr; omega⟩
theorem Zhb (z : Siz N B n) (h : CaI N B n t [] c L) (fw : Few c) (ht : t ≤ 1000000) (kd : Int) (i : Nat) (hi : i < 4294967296) (b : List Int) {k : Nat} (hk : 200 < k) : ∃ r c', Q53.f k c (kd, (i : Int), b) = some (r, c') ∧ Costs N B n (t + 1) (cR kd) (cW n kd) c c' := by
 have z0 : Costs N B n (t + 1) (cR kd) (cW n kd) c c := Costs.same (h.mono (Nat.le_succ t)) _ _
 unfold Q53.f
 try dsimp only
 by_cases q0 : kd = 0
 ·subst q0
  obtain ⟨r, c', e, hc⟩ := Zgm z h fw ht i hi
  rw [if_pos (decide_eq_true rfl), show Q6.f ((c.1.1, c.1.2.1, (c.1.2.2.1, c.1.2.2.2)), c.2.1, c.2.2.1, c.2.2.2.1, (c.2.2.2.2.1, c.2.2.2.2.2)) (i : Int) = _ from e]
  exact ⟨_, _, rfl, hc⟩
 rw [if_neg (by simpa using q0)]
 by_cases q1 : kd = 1
 ·subst q1
  obtain ⟨r, c', e, hc⟩ := Zgm z h fw ht i hi
  rw [if_pos (decide_eq_true rfl), show Q6.f ((c.1.1, c.1.2.1, (c.1.2.2.1, c.1.2.2.2)), c.2.1, c.2.2.1, c.2.2.2.1, (c.2.2.2.2.1, c.2.2.2.2.2)) (i : Int) = _ from e]
  exact ⟨_, _, rfl, hc⟩
 rw [if_neg (by simpa using q1)]
 by_cases q2 : kd = 2
 ·subst q2
  obtain ⟨r, c', e, hc⟩ := Zgb z h fw ht i hi
  rw [if_pos (decide_eq_true rfl), show Q5.f ((c.1.1, c.1.2.1, (c.1.2.2.1, c.1.2.2.2)), c.2.1, c.2.2.1, c.2.2.2.1, (c.2.2.2.2.1, c.2.2.2.2.2)) (i : Int) = _ from e]
  exact ⟨_, _, rfl, hc⟩
 rw [if_neg (by simpa using q2)]
 by_cases q3 : kd = 3
 ·obtain ⟨r, c', e, hc⟩ := Zeg z h ht i
  rw [if_pos (decide_eq_true q3), show Q8.f ((c.1.1, c.1.2.1, (c.1.2.2.1, c.1.2.2.2)), c.2.1, c.2.2.1, c.2.2.2.1, (c.2.2.2.2.1, c.2.2.2.2.2)) (i : Int) = _ from e]
  exact ⟨_, _, rfl, hc.le (Nat.le_succ t) (Nat.zero_le _) (Nat.zero_le _)⟩
 rw [if_neg (by simpa using q3)]
 by_cases q4 : kd = 4
 ·obtain ⟨r, c', e, hc⟩ := Zeg z h ht i
  rw [if_pos (decide_eq_true q4), show Q8.f ((c.1.1, c.1.2.1, (c.1.2.2.1, c.1.2.2.2)), c.2.1, c.2.2.1, c.2.2.2.1, (c.2.2.2.2.1, c.2.2.2.2.2)) (i : Int) = _ from e]
  exact ⟨_, _, rfl, hc.le (Nat.le_succ t) (Nat.zero_le _) (Nat.zero_le _)⟩
 rw [if_neg (by simpa using q4)]
 by_cases q5 : kd = 5
 ·obtain ⟨r, c', e, hc⟩ := Zd2 z h i b
  rw [if_pos (decide_eq_true q5), show Q9.f ((c.1.1, c.1.2.1, (c.1.2.2.1, c.1.2.2.2)), c.2.1, c.2.2.1, c.2.2.2.1, (c.2.2.2.2.1, c.2.2.2.2.2)) (i : Int) b = _ from e]
  exact ⟨_, _, rfl, hc.le (Nat.le_succ t) (Nat.zero_le _) (Nat.zero_le _)⟩
 rw [if_neg (by simpa using q5)]
 by_cases q6 : kd = 6
 ·obtain ⟨r, c', e, hc⟩ := Zd2 z h i b
  rw [if_pos (decide_eq_true q6), show Q9.f ((c.1.1, c.1.2.1, (c.1.2.2.1, c.1.2.2.2)), c.2.1, c.2.2.1, c.2.2.2.1, (c.2.2.2.2.1, c.2.2.2.2.2)) (i : Int) b = _ from e]
  exact ⟨_, _, rfl, hc.le (Nat.le_succ t) (Nat.zero_le _) (Nat.zero_le _)⟩
 rw [if_neg (by simpa using q6)]
 by_cases q7 : kd = 7
 ·obtain ⟨r, c', e, hc⟩ := Zha z h i
  rw [if_pos (decide_eq_true q7), show Q3.f ((c.1.1, c.1.2.1, (c.1.2.2.1, c.1.2.2.2)), c.2.1, c.2.2.1, c.2.2.2.1, (c.2.2.2.2.1, c.2.2.2.2.2)) (i : Int) = _ from e]
  exact ⟨_, _, rfl, hc.le (Nat.le_succ t) (Nat.zero_le _) (Nat.zero_le _)⟩
 rw [if_neg (by simpa using q7)]
 by_cases q8 : kd = 8
 ·subst q8
  obtain ⟨r, c', e, hc⟩ := Zgf z h fw hk
  rw [if_pos (decide_eq_true rfl), show Q4.f k ((c.1.1, c.1.2.1, (c.1.2.2.1, c.1.2.2.2)), c.2.1, c.2.2.1, c.2.2.2.1, (c.2.2.2.2.1, c.2.2.2.2.2)) = _ from e]
  exact ⟨_, _, rfl, hc.le (Nat.le_succ t) (Nat.zero_le _) (Nat.le_refl _)⟩
 rw [if_neg (by simpa using q8)]
 by_cases q9 : kd = 9
 ·obtain ⟨b2, r, e⟩ := Zg4 z h i
  rw [if_pos (decide_eq_true q9), show Q7.f ((c.1.1, c.1.2.1, (c.1.2.2.1, c.1.2.2.2)), c.2.1, c.2.2.1, c.2.2.2.1, (c.2.2.2.2.1, c.2.2.2.2.2)) (i : Int) = _ from e]
  exact ⟨_, _, rfl, z0⟩
 rw [if_neg (by simpa using q9)]
 exact ⟨_, _, rfl, z0⟩
theorem Zgr (z : Siz N B n) {img : List Int} (hl : img.length = N * B) (s : Int × Int) {ch : Chn} (hc : ChI n ch []) : CaI N B n 0 [] (((B : Int), img, s), List.replicate n (0, [], false, 0), [], (List.range n).map (fun (i : Nat) => (i : Int)), ch) [] := by
 refine ⟨rfl, hl, by simp, by simp, by simp, fun x hx => ?_, ?_, by simp, by simp, hc, by simp⟩
 ·obtain ⟨i, hi, rfl⟩ := List.mem_map.1 hx
  exact ⟨i, rfl, List.mem_range.1 hi⟩
 ·exact List.Pairwise.map _ (fun a b hne e => hne (by have : (a : Int) = (b : Int) := e; omega)) List.nodup_range
end
structure Fm where
 b : List Int
 d : Bool
 p : Nat
structure MC where
 img : List Int
 rd : Int
 wr : Int
 fr : Nat → Option Fm
 used : Nat
 row : List Nat
def upd {α : Type} (g : Nat → α) (i : Nat) (v : α) : Nat → α := fun j => if j = i then v else g j
theorem Yt {α : Type} (g : Nat → α) (i : Nat) (v : α) : upd g i v i = v := if_pos rfl
theorem Y0 {α : Type} {g : Nat → α} {i j : Nat} {v : α} (h : j ≠ i) : upd g i v j = g j := if_neg h
def fm (x : Fr8) : Fm := ⟨x.2.1, x.2.2.1, x.2.2.2.toNat⟩
def Yz (c : Ca) (i : Nat) : Option Fm := if Yn c.2.2.1 (i : Int) = true then some (fm (c.2.1.getD (Zq 0 c.2.2.1 (i : Int)).toNat default)) else none
def Y7 (c : Ca) (f : Nat) : Nat := (c.2.1.getD f default).1.toNat
def Z6 (c : Ca) (L : List Nat) : MC := ⟨c.1.2.1, c.1.2.2.1, c.1.2.2.2, Yz c, c.2.2.1.length, L.map (Y7 c)⟩
namespace MC
def evict (B : Nat) (m : MC) (q : Nat) : MC := match m.fr q with
 | none => m
 | some x => ⟨if x.d = true then Ym m.img (q * B) B x.b else m.img, m.rd, if x.d = true then m.wr + 1 else m.wr, upd m.fr q none, m.used - 1, m.row.erase q⟩
def room (B n : Nat) (m : MC) : Option MC := if m.used < n then some m else match m.row.getLast? with
 | none => none
 | some q => some (m.evict B q)
def come (m : MC) (i : Nat) (x : Fm) : MC := ⟨m.img, m.rd, m.wr, upd m.fr i (some x), m.used + 1, m.row⟩
def put (m : MC) (i : Nat) (x : Fm) : MC := ⟨m.img, m.rd, m.wr, upd m.fr i (some x), m.used, m.row⟩
def cut (m : MC) (i : Nat) : MC := ⟨m.img, m.rd, m.wr, m.fr, m.used, m.row.erase i⟩
def pin (N B n : Nat) (m : MC) (i : Nat) : Int × MC :=
 if N ≤ i then (4, m) else match m.fr i with
 | some x => (0, (m.put i ⟨x.b, x.d, x.p + 1⟩).cut i)
 | none => match m.room B n with
  | none => (7, m)
  | some k => (0, (⟨k.img, k.rd + 1, k.wr, k.fr, k.used, k.row⟩ : MC).come i ⟨blk k.img B i, false, 1⟩)
def fresh (N B n : Nat) (m : MC) (i : Nat) : Int × MC :=
 if N ≤ i then (4, m) else match m.fr i with
 | some x => if 0 < x.p then (8, m) else (0, (m.put i ⟨List.replicate B 0, true, 1⟩).cut i)
 | none => match m.room B n with
  | none => (7, m)
  | some k => (0, k.come i ⟨List.replicate B 0, true, 1⟩)
def unpin (m : MC) (i : Nat) : Int × MC := match m.fr i with
 | none => (8, m)
 | some x => if x.p = 0 then (8, m) else (0, if x.p = 1 then ⟨m.img, m.rd, m.wr, upd m.fr i (some ⟨x.b, x.d, 0⟩), m.used, i :: m.row⟩ else m.put i ⟨x.b, x.d, x.p - 1⟩)
def write (B : Nat) (m : MC) (i : Nat) (b : List Int) : Int × MC := match m.fr i with
 | none => (8, m)
 | some x => if x.p = 0 then (8, m) else if b.length = B then (0, m.put i ⟨b, true, x.p⟩) else (3, m)
def read (m : MC) (i : Nat) : List Int × Int := match m.fr i with
 | none => ([], 8)
 | some x => if x.p = 0 then ([], 8) else (x.b, 0)
def drop (m : MC) (i : Nat) : Int × MC := match m.fr i with
 | none => (0, m)
 | some x => if 0 < x.p then (8, m) else (0, ⟨m.img, m.rd, m.wr, upd m.fr i none, m.used - 1, m.row.erase i⟩)
def isD (m : MC) (i : Nat) : Bool := match m.fr i with
 | none => false
 | some x => x.d
def dirty (N : Nat) (m : MC) : List Nat := (List.range N).filter m.isD
def backI (B : Nat) (m : MC) (i : Nat) : MC := match m.fr i with
 | none => m
 | some x => ⟨Ym m.img (i * B) B x.b, m.rd, m.wr + 1, upd m.fr i (some ⟨x.b, false, x.p⟩), m.used, m.row⟩
def flush (N B : Nat) (m : MC) : MC := (m.dirty N).foldl (backI B) m
def pins (m : MC) (i : Nat) : Int := match m.fr i with
 | none => 0
 | some x => x.p
end MC
theorem MC.ext' {a b : MC} (h1 : a.img = b.img) (h2 : a.rd = b.rd) (h3 : a.wr = b.wr) (h4 : ∀ i, a.fr i = b.fr i) (h5 : a.used = b.used) (h6 : a.row = b.row) : a = b := by
 cases a; cases b
 simp only at h1 h2 h3 h4 h5 h6
 subst h1 h2 h3 h5 h6
 have := funext h4
 subst this
 rfl
theorem Jv {g : Nat → Nat} : ∀ {L : List Nat} {a : Nat}, (∀ x ∈ L, g x = g a → x = a) → (L.erase a).map g = (L.map g).erase (g a)
 | [], _, _ => rfl
 | x :: L, a, h => by
  rw [List.map_cons, List.erase_cons, List.erase_cons]
  by_cases q : x = a
  ·subst q; simp
  ·have : ¬ g x = g a := fun e => q (h x (by simp) e)
   simp only [beq_iff_eq, q, this, if_false, List.map_cons]
   rw [Jv fun y hy => h y (by simp [hy])]
section
variable {N B n t : Nat} {H : List Nat} {c : Ca} {L : List Nat}
theorem Xk (h : CaI N B n t H c L) {i f : Nat} (ha : ((i : Int), (f : Int)) ∈ c.2.2.1) : Yz c i = some (fm (c.2.1.getD f default)) := by
 unfold Yz
 rw [if_pos (mhas_iff.2 ⟨_, ha⟩), Y5 h.mnd ha, Int.toNat_natCast]
theorem Wd {i : Nat} (h : ∀ v, ((i : Int), v) ∉ c.2.2.1) : Yz c i = none := by
 unfold Yz
 rw [if_neg fun q => by obtain ⟨v, hv⟩ := mhas_iff.1 q; exact h v hv]
theorem X7 (h : CaI N B n t [] c L) {f : Nat} (hf : f ∈ L) : ∃ i : Nat, ((i : Int), (f : Int)) ∈ c.2.2.1 ∧ Y7 c f = i ∧ (c.2.1.getD f default).2.2.2 = 0 ∧ Okf N B n t c i f := by
 obtain ⟨⟨j, hj⟩, hp⟩ := (h.lok f).1 hf
 obtain ⟨i, f', e1, e2, ok⟩ := h.at hj
 have : f = f' := by omega
 subst this
 refine ⟨i, by rw [← e1]; exact hj, ?_, hp, ok⟩
 unfold Y7
 rw [ok.blk, Int.toNat_natCast]
theorem Vp (h : CaI N B n t H c L) {i f : Nat} (ha : ((i : Int), (f : Int)) ∈ c.2.2.1) : Y7 c f = i := by
 unfold Y7; rw [(h.atN ha).blk, Int.toNat_natCast]
theorem Jh (h : CaI N B n t H c L) {i f f' : Nat} (h1 : ((i : Int), (f : Int)) ∈ c.2.2.1) (h2 : ((i : Int), (f' : Int)) ∈ c.2.2.1) : f = f' := by
 have a1 := Y5 (d := 0) h.mnd h1
 have a2 := Y5 (d := 0) h.mnd h2
 omega
theorem Vc (h : CaI N B n t [] c L) {i f : Nat} (ha : ((i : Int), (f : Int)) ∈ c.2.2.1) : (L.erase f).map (Y7 c) = (L.map (Y7 c)).erase i := by
 have e := Vp h ha
 conv => rhs; rw [← e]
 refine Jv fun x hx q => ?_
 obtain ⟨j, hj, e2, _⟩ := X7 h hx
 have : j = i := by omega
 subst this
 exact Jh h hj ha
theorem Zf7 (h : CaI N B n t [] c L) {i f : Nat} (ha : ((i : Int), (f : Int)) ∈ c.2.2.1) : i ∈ L.map (Y7 c) ↔ f ∈ L := by
 constructor
 ·intro q
  obtain ⟨x, hx, e⟩ := List.mem_map.1 q
  obtain ⟨j, hj, e2, _⟩ := X7 h hx
  have : j = i := by omega
  subst this
  rw [← Jh h hj ha]; exact hx
 ·intro q
  exact List.mem_map.2 ⟨f, q, Vp h ha⟩
theorem Zao {f : Nat} {x : Fr8} (hf : f < c.2.1.length) {d : Dv} {mp : List (Int × Int)} {E : List Int} {ch : Chn} (k : Nat) : Y7 (d, c.2.1.set f x, mp, E, ch) k = if f = k then x.1.toNat else Y7 c k := by
 unfold Y7
 try dsimp only
 rw [Yk hf]
 split <;> rfl
theorem Xm {f : Nat} {x : Fr8} (hf : f < c.2.1.length) (hx : x.1.toNat = Y7 c f) {d : Dv} {mp : List (Int × Int)} {E : List Int} {ch : Chn} (M : List Nat) : M.map (Y7 (d, c.2.1.set f x, mp, E, ch)) = M.map (Y7 c) := List.map_congr_left fun k _ => by
 rw [Zao hf]
 split
 ·rename_i q; rw [hx, q]
 ·rfl
theorem Wk {f : Nat} {x : Fr8} (hf : f < c.2.1.length) {d : Dv} {mp : List (Int × Int)} {E : List Int} {ch : Chn} {M : List Nat} (hM : f ∉ M) : M.map (Y7 (d, c.2.1.set f x, mp, E, ch)) = M.map (Y7 c) := List.map_congr_left fun k hk => by
 rw [Zao hf, if_neg fun q => hM (by rw [q]; exact hk)]
theorem Wp (h : CaI N B n t H c L) {i f : Nat} (ha : ((i : Int), (f : Int)) ∈ c.2.2.1) {x : Fr8} {d : Dv} {E : List Int} {ch : Chn} (j : Nat) : Yz (d, c.2.1.set f x, c.2.2.1, E, ch) j = upd (Yz c) i (some (fm x)) j := by
 have ok := h.atN ha
 have hfl : f < c.2.1.length := by rw [h.frl]; exact ok.hf
 by_cases q : j = i
 ·subst q
  rw [Yt]
  unfold Yz
  try dsimp only
  rw [if_pos (mhas_iff.2 ⟨_, ha⟩), Y5 h.mnd ha, Int.toNat_natCast, Yk hfl, if_pos rfl]
 ·rw [Y0 q]
  unfold Yz
  try dsimp only
  split
  ·rename_i hm
   obtain ⟨v, hv⟩ := mhas_iff.1 hm
   obtain ⟨j', f', e1, rfl, ok'⟩ := h.at hv
   have e3 : j = j' := by omega
   subst e3
   rw [Y5 h.mnd hv, Int.toNat_natCast, Yk hfl, if_neg]
   intro e; subst e; exact q (h.one hv ha)
  ·rfl
theorem Zac (h : CaI N B n t H c L) (i j : Nat) : Yn (Xb (i : Int) c.2.2.1) (j : Int) = (Yn c.2.2.1 (j : Int) && decide (j ≠ i)) := by
 rw [Bool.eq_iff_iff, mhas_iff, Bool.and_eq_true, mhas_iff, decide_eq_true_eq]
 constructor
 ·rintro ⟨v, hv⟩
  rw [Wo h.mnd] at hv
  exact ⟨⟨v, hv.1⟩, fun e => hv.2 (by rw [e])⟩
 ·rintro ⟨⟨v, hv⟩, e⟩
  exact ⟨v, (Wo h.mnd).2 ⟨hv, fun q => e (by have : (j : Int) = i := q; omega)⟩⟩
theorem U1 (h : CaI N B n t H c L) {i f : Nat} (ha : ((i : Int), (f : Int)) ∈ c.2.2.1) {x : Fr8} {d : Dv} {E : List Int} {ch : Chn} (j : Nat) : Yz (d, c.2.1.set f x, Xb (i : Int) c.2.2.1, E, ch) j = upd (Yz c) i none j := by
 have ok := h.atN ha
 have hfl : f < c.2.1.length := by rw [h.frl]; exact ok.hf
 by_cases q : j = i
 ·subst q
  rw [Yt]
  unfold Yz
  try dsimp only
  rw [if_neg (by rw [Zac h]; simp)]
 ·rw [Y0 q]
  unfold Yz
  try dsimp only
  rw [Zac h]
  by_cases hm : Yn c.2.2.1 (j : Int) = true
  ·obtain ⟨v, hv⟩ := mhas_iff.1 hm
   obtain ⟨j', f', e1, rfl, ok'⟩ := h.at hv
   have e3 : j = j' := by omega
   subst e3
   have hv' : ((j : Int), (f' : Int)) ∈ Xb (i : Int) c.2.2.1 := (Wo h.mnd).2 ⟨hv, fun e => q (by have : (j : Int) = i := e; omega)⟩
   rw [if_pos (by rw [hm]; simp [q]), if_pos hm, Y5 ((mdel_sub.map _).nodup h.mnd) hv', Y5 h.mnd hv, Int.toNat_natCast, Yk hfl, if_neg]
   intro e; subst e; exact q (h.one hv ha)
  ·rw [if_neg hm, if_neg (by simp [hm])]
theorem Zad {f : Nat} (h : CaI N B n t [f] c L) {i : Nat} (hno : ∀ v, ((i : Int), v) ∉ c.2.2.1) {x : Fr8} {d : Dv} {E : List Int} {ch : Chn} (j : Nat) : Yz (d, c.2.1.set f x, c.2.2.1 ++ [((i : Int), (f : Int))], E, ch) j = upd (Yz c) i (some (fm x)) j := by
 obtain ⟨hf, hfe, hfm⟩ := h.hol f (by simp)
 have hfl : f < c.2.1.length := by rw [h.frl]; exact hf
 have hnd : ((c.2.2.1 ++ [((i : Int), (f : Int))]).map Prod.fst).Nodup := by
  rw [List.map_append, List.nodup_append]
  refine ⟨h.mnd, by simp, fun a ha b hb e => ?_⟩
  obtain ⟨p, hp, rfl⟩ := List.mem_map.1 ha
  simp only [List.map_cons, List.map_nil, List.mem_singleton] at hb
  exact hno p.2 (by rw [← hb, ← e]; exact hp)
 unfold Yz
 try dsimp only
 by_cases q : j = i
 ·subst q
  have hv : ((j : Int), (f : Int)) ∈ c.2.2.1 ++ [((j : Int), (f : Int))] := by simp
  rw [Yt, if_pos (mhas_iff.2 ⟨_, hv⟩), Y5 hnd hv, Int.toNat_natCast, Yk hfl, if_pos rfl]
 ·rw [Y0 q]
  by_cases hm : Yn c.2.2.1 (j : Int) = true
  ·obtain ⟨v, hv⟩ := mhas_iff.1 hm
   obtain ⟨j', f', e1, rfl, ok'⟩ := h.at hv
   have e3 : j = j' := by omega
   subst e3
   have hv' : ((j : Int), (f' : Int)) ∈ c.2.2.1 ++ [((i : Int), (f : Int))] := by simp [hv]
   rw [if_pos (mhas_iff.2 ⟨_, hv'⟩), if_pos hm, Y5 hnd hv', Y5 h.mnd hv, Int.toNat_natCast, Yk hfl, if_neg]
   intro e; subst e; exact hfm _ hv
  ·rw [if_neg hm, if_neg]
   intro hm2
   obtain ⟨v, hv⟩ := mhas_iff.1 hm2
   rcases List.mem_append.1 hv with hv | hv
   ·exact hm (mhas_iff.2 ⟨v, hv⟩)
   ·rw [List.mem_singleton, Prod.mk.injEq] at hv
    exact q (by omega)
theorem Zf6 (h : CaI N B n t H c L) {i : Nat} {x : Fm} (hx : Yz c i = some x) : i < N ∧ x.b.length = B ∧ x.p ≤ t := by
 unfold Yz at hx
 split at hx
 ·rename_i hm
  obtain ⟨v, hv⟩ := mhas_iff.1 hm
  obtain ⟨j', f', e1, rfl, ok'⟩ := h.at hv
  have e3 : i = j' := by omega
  subst e3
  rw [Y5 h.mnd hv, Int.toNat_natCast] at hx
  injection hx with hx
  subst hx
  refine ⟨ok'.hi, ok'.len, ?_⟩
  have := ok'.pin
  unfold fm
  try dsimp only
  omega
 ·cases hx
end
namespace MC
section
variable {N B n i : Nat} {m k : MC} {x : Fm} {b : List Int}
theorem pin_out (h : N ≤ i) : m.pin N B n i = (4, m) := by unfold pin; rw [if_pos h]
theorem pin_hit (h : ¬ N ≤ i) (e : m.fr i = some x) : m.pin N B n i = (0, (m.put i ⟨x.b, x.d, x.p + 1⟩).cut i) := by unfold pin; rw [if_neg h, e]
theorem pin_full (h : ¬ N ≤ i) (e : m.fr i = none) (r : m.room B n = none) : m.pin N B n i = (7, m) := by unfold pin; rw [if_neg h, e, r]
theorem pin_miss (h : ¬ N ≤ i) (e : m.fr i = none) (r : m.room B n = some k) : m.pin N B n i = (0, (⟨k.img, k.rd + 1, k.wr, k.fr, k.used, k.row⟩ : MC).come i ⟨blk k.img B i, false, 1⟩) := by unfold pin; rw [if_neg h, e, r]
theorem fresh_out (h : N ≤ i) : m.fresh N B n i = (4, m) := by unfold fresh; rw [if_pos h]
theorem fresh_pin (h : ¬ N ≤ i) (e : m.fr i = some x) (p : 0 < x.p) : m.fresh N B n i = (8, m) := by unfold fresh; rw [if_neg h, e]; exact if_pos p
theorem fresh_hit (h : ¬ N ≤ i) (e : m.fr i = some x) (p : ¬ 0 < x.p) : m.fresh N B n i = (0, (m.put i ⟨List.replicate B 0, true, 1⟩).cut i) := by unfold fresh; rw [if_neg h, e]; exact if_neg p
theorem fresh_full (h : ¬ N ≤ i) (e : m.fr i = none) (r : m.room B n = none) : m.fresh N B n i = (7, m) := by unfold fresh; rw [if_neg h, e, r]
theorem fresh_miss (h : ¬ N ≤ i) (e : m.fr i = none) (r : m.room B n = some k) : m.fresh N B n i = (0, k.come i ⟨List.replicate B 0, true, 1⟩) := by unfold fresh; rw [if_neg h, e, r]
theorem unpin_no (e : m.fr i = none) : m.unpin i = (8, m) := by unfold unpin; rw [e]
theorem unpin_out (e : m.fr i = some x) (p : x.p = 0) : m.unpin i = (8, m) := by unfold unpin; rw [e]; exact if_pos p
theorem unpin_one (e : m.fr i = some x) (p : x.p = 1) : m.unpin i = (0, ⟨m.img, m.rd, m.wr, upd m.fr i (some ⟨x.b, x.d, 0⟩), m.used, i :: m.row⟩) := by unfold unpin; rw [e]; dsimp only; rw [if_neg (by omega), if_pos p]
theorem unpin_more (e : m.fr i = some x) (p : x.p ≠ 0) (q : x.p ≠ 1) : m.unpin i = (0, m.put i ⟨x.b, x.d, x.p - 1⟩) := by unfold unpin; rw [e]; dsimp only; rw [if_neg p, if_neg q]
theorem write_no (e : m.fr i = none) : m.write B i b = (8, m) := by unfold write; rw [e]
theorem write_out (e : m.fr i = some x) (p : x.p = 0) : m.write B i b = (8, m) := by unfold write; rw [e]; exact if_pos p
theorem write_form (e : m.fr i = some x) (p : x.p ≠ 0) (q : b.length ≠ B) : m.write B i b = (3, m) := by unfold write; rw [e]; dsimp only; rw [if_neg p, if_neg q]
theorem write_hit (e : m.fr i = some x) (p : x.p ≠ 0) (q : b.length = B) : m.write B i b = (0, m.put i ⟨b, true, x.p⟩) := by unfold write; rw [e]; dsimp only; rw [if_neg p, if_pos q]
theorem read_no (e : m.fr i = none) : m.read i = ([], 8) := by unfold read; rw [e]
theorem read_out (e : m.fr i = some x) (p : x.p = 0) : m.read i = ([], 8) := by unfold read; rw [e]; exact if_pos p
theorem read_hit (e : m.fr i = some x) (p : x.p ≠ 0) : m.read i = (x.b, 0) := by unfold read; rw [e]; exact if_neg p
theorem drop_no (e : m.fr i = none) : m.drop i = (0, m) := by unfold drop; rw [e]
theorem drop_pin (e : m.fr i = some x) (p : 0 < x.p) : m.drop i = (8, m) := by unfold drop; rw [e]; exact if_pos p
theorem drop_hit (e : m.fr i = some x) (p : ¬ 0 < x.p) : m.drop i = (0, ⟨m.img, m.rd, m.wr, upd m.fr i none, m.used - 1, m.row.erase i⟩) := by unfold drop; rw [e]; exact if_neg p
theorem evict_eq (e : m.fr i = some x) : m.evict B i = ⟨if x.d = true then Ym m.img (i * B) B x.b else m.img, m.rd, if x.d = true then m.wr + 1 else m.wr, upd m.fr i none, m.used - 1, m.row.erase i⟩ := by unfold evict; rw [e]
end
end MC
section
variable {N B n t : Nat} {H : List Nat} {c : Ca} {L : List Nat}
theorem Zfm {α : Type} (g : Nat → α) (i : Nat) (u v : α) (j : Nat) : upd (upd g i u) i v j = upd g i v j := by unfold upd; split <;> rfl
theorem Zef {α : Type} {g g' : Nat → α} (h : ∀ j, g j = g' j) (i : Nat) (v : α) (j : Nat) : upd g i v j = upd g' i v j := by unfold upd; split; rfl; exact h j
theorem Jw (h : CaI N B n t [] c L) (f : Nat) : f ∉ L.erase f := fun q => (h.chn.nd.mem_erase_iff.1 q).1 rfl
theorem Ze9 (z : Siz N B n) (h : CaI N B n t [] c L) (hw : 0 ≤ c.1.2.2.2 ∧ c.1.2.2.2 ≤ 1000000000) : (Q12.f c = some (0, false, c) ∧ (Z6 c L).room B n = none) ∨
  ∃ (f : Nat) (c' : Ca) (L' : List Nat), Q12.f c = some ((f : Int), true, c') ∧ CaI N B n t [f] c' L' ∧ (Z6 c L).room B n = some (Z6 c' L') ∧ f ∉ L' := by
 have h64 := z.h64
 have htot := h.tot
 have hfl := h.frl
 have wr : IntKind.u64.wrap (c.1.2.2.2 + 1) = c.1.2.2.2 + 1 := Bi hw
 have hru : (Z6 c L).used = c.2.2.1.length := rfl
 by_cases he : c.2.2.2.1 = []
 ·have e0 : (decide ((c.2.2.2.1.length : Int) = 0)) = true := by rw [he]; rfl
  have eu : ¬ (Z6 c L).used < n := by rw [hru]; rw [he] at htot; simp only [List.length_nil] at htot; omega
  rcases List.eq_nil_or_concat L with rfl | ⟨L0, q, hq⟩
  ·left
   refine ⟨?_, ?_⟩
   ·unfold Q12.f
    rw [if_pos e0, show Q16.f (c.2.2.2.2.1, c.2.2.2.2.2) = _ from Zaj h.chn, Option.bind_some, if_pos (by simp)]
   ·unfold MC.room
    rw [if_neg eu]
    rfl
  ·right
   rw [List.concat_eq_append] at hq
   subst hq
   obtain ⟨⟨j, hj⟩, hp⟩ := (h.lok q).1 (by simp)
   obtain ⟨i, q', rfl, e2, ok⟩ := h.at hj
   have : q = q' := by omega
   subst this
   have hf := ok.hf
   have hqn : q ∉ (L0 ++ [q]).erase q := Jw h q
   have hfr := Xk h hj
   have g : gt c.2.1 (q : Int) = c.2.1.getD q default := Yd _ _
   have hrm : (Z6 c (L0 ++ [q])).room B n = some ((Z6 c (L0 ++ [q])).evict B i) := by
    unfold MC.room
    rw [if_neg eu]
    have : (Z6 c (L0 ++ [q])).row.getLast? = some i := by
     show ((L0 ++ [q]).map (Y7 c)).getLast? = _
     rw [List.map_append, List.map_cons, List.map_nil, List.getLast?_concat, Vp h hj]
    rw [this]
   have hml := Um (mhas_iff.2 ⟨_, hj⟩)
   unfold Q12.f
   rw [if_pos e0, show Q16.f (c.2.2.2.2.1, c.2.2.2.2.2) = _ from Zfe h.chn (by omega), Option.bind_some, if_neg (by simp)]
   try dsimp only
   rw [if_pos (by omega)]
   have one : w64 ((([] ++ [(q : Int)] : List Int).length : Int) - 1) = 0 := by
    show w64 (((1 : Nat) : Int) - 1) = 0
    decide
   rw [hrm, MC.evict_eq (show (Z6 c (L0 ++ [q])).fr i = _ from hfr)]
   by_cases hd : (gt c.2.1 (q : Int)).2.2.1 = true
   ·have hb := h.back z hj (c.1.2.2.1, c.1.2.2.2 + 1)
    obtain ⟨ch, e, hl⟩ := Uh z hb (by exact hj)
    have hd' : (fm (c.2.1.getD q default)).d = true := by rw [← g]; exact hd
    rw [if_pos hd, show Q30.f (c.1.1, c.1.2.1, (c.1.2.2.1, c.1.2.2.2)) (gt c.2.1 (q : Int)).1 (gt c.2.1 (q : Int)).2.1 = _ from Be z h hj, Option.bind_some]
    try dsimp only
    rw [wr, Int.toNat_natCast, show Q10.f ((c.1.1, Ym c.1.2.1 (i * B) B (gt c.2.1 (q : Int)).2.1, c.1.2.2.1, c.1.2.2.2 + 1), c.2.1.set q ((gt c.2.1 (q : Int)).1, (gt c.2.1 (q : Int)).2.1, false, (gt c.2.1 (q : Int)).2.2.2), c.2.2.1, c.2.2.2.1, c.2.2.2.2.1, c.2.2.2.2.2) (q : Int) = _ from e, Option.bind_some]
    try dsimp only
    rw [he, one, if_pos (by simp), if_pos (by simp), if_pos hd', if_pos hd']
    refine ⟨q, _, (L0 ++ [q]).erase q, rfl, hl.take (E := []) (by dsimp only; rw [he]), congrArg some (MC.ext' ?_ rfl rfl ?_ ?_ ?_), hqn⟩
    ·show Ym c.1.2.1 (i * B) B (fm (c.2.1.getD q default)).b = _
     rw [← g]; rfl
    ·intro j
     show upd (Yz c) i none j = _
     refine Eq.trans ?_ (U1 hb hj j).symm
     refine Eq.trans (Zfm (Yz c) i _ none j).symm (Zef (fun j => (Wp h hj j).symm) i none j)
    ·show c.2.2.1.length - 1 = (Xb (i : Int) c.2.2.1).length
     omega
    ·show ((L0 ++ [q]).map (Y7 c)).erase i = _
     have hfl2 := hb.frl
     refine Eq.trans (Vc h hj).symm ?_
     refine Eq.trans ?_ (Wk (c := ((c.1.1, Ym c.1.2.1 (i * B) B (gt c.2.1 (q : Int)).2.1, c.1.2.2.1, c.1.2.2.2 + 1), c.2.1.set q ((gt c.2.1 (q : Int)).1, (gt c.2.1 (q : Int)).2.1, false, (gt c.2.1 (q : Int)).2.2.2), c.2.2)) (by rw [hfl2]; exact hf) hqn).symm
     exact (Xm (by omega) (by rw [g]; rfl) _).symm
   ·obtain ⟨ch, e, hl⟩ := Uh z h hj
    have hd' : ¬ (fm (c.2.1.getD q default)).d = true := by rw [← g]; exact hd
    rw [if_neg hd, show Q10.f ((c.1.1, c.1.2.1, (c.1.2.2.1, c.1.2.2.2)), c.2.1, c.2.2.1, c.2.2.2.1, (c.2.2.2.2.1, c.2.2.2.2.2)) (q : Int) = _ from e, Option.bind_some]
    try dsimp only
    rw [he, one, if_pos (by simp), if_pos (by simp), if_neg hd', if_neg hd']
    refine ⟨q, _, (L0 ++ [q]).erase q, rfl, hl.take (E := []) (by dsimp only; rw [he]), congrArg some (MC.ext' rfl rfl rfl ?_ ?_ ?_), hqn⟩
    ·intro j
     exact (U1 h hj j).symm
    ·show c.2.2.1.length - 1 = (Xb (i : Int) c.2.2.1).length
     omega
    ·show ((L0 ++ [q]).map (Y7 c)).erase i = _
     refine Eq.trans (Vc h hj).symm ?_
     exact (Wk (by omega) hqn).symm
 ·right
  obtain ⟨E, x, hx⟩ : ∃ E x, c.2.2.2.1 = E ++ [x] := by
   rcases List.eq_nil_or_concat c.2.2.2.1 with e | ⟨E, x, e⟩
   ·exact absurd e he
   ·exact ⟨E, x, by rw [e, List.concat_eq_append]⟩
  obtain ⟨f, rfl, hf⟩ := h.emp x (by rw [hx]; simp)
  have hll : c.2.2.2.1.length = E.length + 1 := by rw [hx]; simp
  have e1 : w64 ((c.2.2.2.1.length : Int) - 1) = (E.length : Int) := by rw [Yg (by omega) (by omega)]; omega
  unfold Q12.f
  rw [if_neg (by simp only [decide_eq_true_eq]; omega), e1, if_pos (by omega), if_pos (by omega), Int.toNat_natCast]
  have e2 : gt c.2.2.2.1 (E.length : Int) = (f : Int) := by
   rw [Yd, hx, List.getD_eq_getElem?_getD, List.getElem?_append_right (Nat.le_refl _)]; simp
  have e3 : c.2.2.2.1.take E.length = E := by rw [hx, List.take_left]
  rw [e2, e3]
  refine ⟨f, _, L, rfl, h.take hx, ?_, fun q => ?_⟩
  ·unfold MC.room
   rw [if_pos (by rw [hru]; omega)]
   rfl
  ·obtain ⟨i, hi, _, _, ok⟩ := X7 h q
   exact ok.emp (by rw [hx]; simp)
theorem Zgv (z : Siz N B n) (h : CaI N B n t [] c L) (fw : Few c) (ht : t ≤ 1000000) (i : Nat) (hi : i < 4294967296) : ∃ c' L', Q6.f c (i : Int) = some (((Z6 c L).pin N B n i).1, c') ∧ CaI N B n (t + 1) [] c' L' ∧ Z6 c' L' = ((Z6 c L).pin N B n i).2 := by
 have h64 := z.h64
 have hfl := h.frl
 unfold Q6.f
 rw [show Q13.f ((c.1.1, c.1.2.1, (c.1.2.2.1, c.1.2.2.2)), c.2.1, c.2.2.1, c.2.2.2.1, (c.2.2.2.2.1, c.2.2.2.2.2)) (i : Int) = _ from Bh z h i hi, Option.bind_some]
 by_cases q : N ≤ i
 ·rw [if_pos q, if_pos (by simp), MC.pin_out q]
  exact ⟨_, L, rfl, h.mono (Nat.le_succ t), rfl⟩
 ·rw [if_neg q, if_neg (by simp)]
  rcases h.get i with ⟨g1, g2⟩ | ⟨f, ha, g1, g2, ok⟩
  ·have hno : (Z6 c L).fr i = none := Wd g2
   rw [if_neg (by simp [g1])]
   rcases Ze9 z h ⟨fw.wr.1, by have := fw.wr.2; omega⟩ with ⟨e, er⟩ | ⟨f, c1, L1, e, h1, er, hfL⟩
   ·rw [show Q12.f ((c.1.1, c.1.2.1, (c.1.2.2.1, c.1.2.2.2)), c.2.1, c.2.2.1, c.2.2.2.1, (c.2.2.2.2.1, c.2.2.2.2.2)) = _ from e, Option.bind_some, if_pos (by simp), MC.pin_full q hno er]
    exact ⟨_, L, rfl, h.mono (Nat.le_succ t), rfl⟩
   ·rcases Za3 z h ⟨fw.wr.1, by have := fw.wr.2; omega⟩ with e' | ⟨f', c1', L1', e', _, k1, k2, k3⟩
    ·rw [e] at e'; simp at e'
    ·rw [e] at e'
     simp only [Option.some.injEq, Prod.mk.injEq, true_and] at e'
     have ec : c1 = c1' := e'.2
     subst ec
     obtain ⟨hf, hfe, hfm⟩ := h1.hol f (by simp)
     have hfl1 := h1.frl
     have hno1 : ∀ v, ((i : Int), v) ∉ c1.2.2.1 := fun v hv => g2 v (k3 _ hv)
     obtain ⟨r5, ch, e5, hc5⟩ := Uo h1.chn hf (by omega)
     rw [List.erase_of_not_mem hfL] at hc5
     rw [show Q12.f ((c.1.1, c.1.2.1, (c.1.2.2.1, c.1.2.2.2)), c.2.1, c.2.2.1, c.2.2.2.1, (c.2.2.2.2.1, c.2.2.2.2.2)) = _ from e, Option.bind_some, if_neg (by simp)]
     try dsimp only
     rw [show Q28.f (c1.1.1, c1.1.2.1, (c1.1.2.2.1, c1.1.2.2.2)) (i : Int) = _ from Zdt z h1 (by omega), Option.bind_some, if_neg (by simp), if_pos (by omega), show Q14.f (c1.2.2.2.2.1, c1.2.2.2.2.2) (f : Int) = _ from e5, Option.bind_some]
     have hcm := (h1.mono (Nat.le_succ t)).come (show i < N by omega) hno1 (x := ((i : Int), blk c1.1.2.1 B i, false, 1)) rfl (Wt h1.dim (by omega)) rfl (by omega) hc5
     try dsimp only
     rw [Bi (by rw [k1]; have := fw.rd; omega), V6 hno1, Int.toNat_natCast, MC.pin_miss q hno er]
     refine ⟨_, L1, rfl, hcm.dev (s := (c1.1.2.2.1 + 1, c1.1.2.2.2)) h1.dim, MC.ext' rfl rfl rfl ?_ ?_ ?_⟩
     ·intro j; exact Zad h1 hno1 j
     ·show (c1.2.2.1 ++ [((i : Int), (f : Int))]).length = c1.2.2.1.length + 1
      simp
     ·exact Wk (by omega) hfL
  ·have hf := ok.hf
   have hp := ok.pin
   have hfr : (Z6 c L).fr i = _ := Xk h ha
   obtain ⟨r2, ch, e2, hc2⟩ := Uo h.chn ok.hf (by omega)
   have g : gt c.2.1 (f : Int) = c.2.1.getD f default := Yd _ _
   have wp : w64 ((c.2.1.getD f default).2.2.2 + 1) = (c.2.1.getD f default).2.2.2 + 1 := Yg (by omega) (by omega)
   have hs := h.setfr ha (x := ((gt c.2.1 (f : Int)).1, (gt c.2.1 (f : Int)).2.1, (gt c.2.1 (f : Int)).2.2.1, w64 ((gt c.2.1 (f : Int)).2.2.2 + 1))) (t' := t + 1) (by rw [g]; exact ok.blk) (by rw [g]; exact ok.len) (by rw [g]; dsimp only; rw [wp]; omega) (Nat.le_succ t) hc2 (V9 h (by rw [g]; dsimp only; rw [wp]; omega))
   rw [if_pos g1, g2, if_pos (by omega), show Q14.f (c.2.2.2.2.1, c.2.2.2.2.2) (f : Int) = _ from e2, Option.bind_some, Int.toNat_natCast, MC.pin_hit q hfr]
   refine ⟨_, L.erase f, rfl, hs, MC.ext' rfl rfl rfl (fun j => ?_) rfl ?_⟩
   ·refine Eq.trans (Wp h ha j) ?_
    show upd (Yz c) i _ j = upd (Yz c) i _ j
    congr 2
    unfold fm
    rw [g]
    try dsimp only
    rw [wp, show ((c.2.1.getD f default).2.2.2 + 1).toNat = (c.2.1.getD f default).2.2.2.toNat + 1 by omega]
   ·exact Eq.trans (Xm (by omega) (by rw [g]; rfl) _) (Vc h ha)
theorem Zgu (z : Siz N B n) (h : CaI N B n t [] c L) (fw : Few c) (ht : t ≤ 1000000) (i : Nat) (hi : i < 4294967296) : ∃ c' L', Q5.f c (i : Int) = some (((Z6 c L).fresh N B n i).1, c') ∧ CaI N B n (t + 1) [] c' L' ∧ Z6 c' L' = ((Z6 c L).fresh N B n i).2 := by
 have h64 := z.h64
 have hB := z.B_le
 have hfl := h.frl
 have hsz := h.dsz
 unfold Q5.f Q26.f
 rw [show Q13.f ((c.1.1, c.1.2.1, (c.1.2.2.1, c.1.2.2.2)), c.2.1, c.2.2.1, c.2.2.2.1, (c.2.2.2.2.1, c.2.2.2.2.2)) (i : Int) = _ from Bh z h i hi, Option.bind_some]
 by_cases q : N ≤ i
 ·rw [if_pos q, if_pos (by simp), MC.fresh_out q]
  exact ⟨_, L, rfl, h.mono (Nat.le_succ t), rfl⟩
 ·rw [if_neg q, if_neg (by simp)]
  rcases h.get i with ⟨g1, g2⟩ | ⟨f, ha, g1, g2, ok⟩
  ·have hno : (Z6 c L).fr i = none := Wd g2
   rw [if_neg (by simp [g1]), if_pos (by simp [g1])]
   rcases Ze9 z h ⟨fw.wr.1, by have := fw.wr.2; omega⟩ with ⟨e, er⟩ | ⟨f, c1, L1, e, h1, er, hfL⟩
   ·rw [show Q12.f ((c.1.1, c.1.2.1, (c.1.2.2.1, c.1.2.2.2)), c.2.1, c.2.2.1, c.2.2.2.1, (c.2.2.2.2.1, c.2.2.2.2.2)) = _ from e, Option.bind_some, if_pos (by simp), MC.fresh_full q hno er]
    exact ⟨_, L, rfl, h.mono (Nat.le_succ t), rfl⟩
   ·rcases Za3 z h ⟨fw.wr.1, by have := fw.wr.2; omega⟩ with e' | ⟨f', c1', L1', e', _, k1, k2, k3⟩
    ·rw [e] at e'; simp at e'
    ·rw [e] at e'
     simp only [Option.some.injEq, Prod.mk.injEq, true_and] at e'
     have ec : c1 = c1' := e'.2
     subst ec
     obtain ⟨hf, hfe, hfm⟩ := h1.hol f (by simp)
     have hfl1 := h1.frl
     have hsz1 := h1.dsz
     have hno1 : ∀ v, ((i : Int), v) ∉ c1.2.2.1 := fun v hv => g2 v (k3 _ hv)
     obtain ⟨r5, ch, e5, hc5⟩ := Uo h1.chn hf (by omega)
     rw [List.erase_of_not_mem hfL] at hc5
     rw [show Q12.f ((c.1.1, c.1.2.1, (c.1.2.2.1, c.1.2.2.2)), c.2.1, c.2.2.1, c.2.2.2.1, (c.2.2.2.2.1, c.2.2.2.2.2)) = _ from e, Option.bind_some, if_neg (by simp), Option.bind_some]
     try dsimp only
     rw [if_pos (by omega), if_pos (by omega), show Q14.f (c1.2.2.2.2.1, c1.2.2.2.2.2) (f : Int) = _ from e5, Option.bind_some]
     have hBt : c1.1.1.toNat = B := by omega
     have hcm := (h1.mono (Nat.le_succ t)).come (show i < N by omega) hno1 (x := ((i : Int), List.replicate c1.1.1.toNat (0 : Int), true, 1)) rfl (by rw [List.length_replicate]; omega) rfl (by omega) hc5
     try dsimp only
     rw [V6 hno1, Int.toNat_natCast, MC.fresh_miss q hno er]
     refine ⟨_, L1, rfl, hcm, MC.ext' rfl rfl rfl ?_ ?_ ?_⟩
     ·intro j
      refine Eq.trans (Zad h1 hno1 j) ?_
      show upd (Yz c1) i (some ⟨List.replicate c1.1.1.toNat 0, true, 1⟩) j = _
      rw [hBt]; rfl
     ·show (c1.2.2.1 ++ [((i : Int), (f : Int))]).length = c1.2.2.1.length + 1
      simp
     ·exact Wk (by omega) hfL
  ·have hf := ok.hf
   have hp := ok.pin
   have hfr : (Z6 c L).fr i = _ := Xk h ha
   have g : gt c.2.1 (f : Int) = c.2.1.getD f default := Yd _ _
   rw [if_pos g1, g2, if_pos (by omega)]
   by_cases hpp : 0 < (gt c.2.1 (f : Int)).2.2.2
   ·rw [if_pos (decide_eq_true hpp), MC.fresh_pin q hfr (by unfold fm; dsimp only; rw [g] at hpp; omega)]
    exact ⟨_, L, rfl, h.mono (Nat.le_succ t), rfl⟩
   ·obtain ⟨r2, ch, e2, hc2⟩ := Uo h.chn ok.hf (by omega)
    have hBt : c.1.1.toNat = B := by omega
    have hs := h.setfr ha (x := ((i : Int), List.replicate c.1.1.toNat (0 : Int), true, 1)) (t' := t + 1) rfl (by rw [List.length_replicate]; omega) (by dsimp only; omega) (Nat.le_succ t) hc2 (V9 h (show (1 : Int) ≠ 0 by decide))
    rw [if_neg (by simpa using hpp), if_neg (by simp [g1]), Option.bind_some, if_pos (by omega), show Q14.f (c.2.2.2.2.1, c.2.2.2.2.2) (f : Int) = _ from e2, Option.bind_some, Int.toNat_natCast, Jx h.mnd ha, MC.fresh_hit q hfr (by unfold fm; dsimp only; rw [g] at hpp; omega)]
    refine ⟨_, L.erase f, rfl, hs, MC.ext' rfl rfl rfl (fun j => ?_) rfl ?_⟩
    ·refine Eq.trans (Wp h ha j) ?_
     show upd (Yz c) i (some ⟨List.replicate c.1.1.toNat 0, true, 1⟩) j = _
     rw [hBt]; rfl
    ·exact Eq.trans (Xm (by omega) (by rw [Vp h ha]; rfl) _) (Vc h ha)
theorem Zdr (z : Siz N B n) (h : CaI N B n t [] c L) (ht : t ≤ 1000000) (i : Nat) : ∃ c' L', Q8.f c (i : Int) = some (((Z6 c L).unpin i).1, c') ∧ CaI N B n t [] c' L' ∧ Z6 c' L' = ((Z6 c L).unpin i).2 := by
 have h64 := z.h64
 have hfl := h.frl
 unfold Q8.f Q11.f
 rw [Option.bind_some, if_neg (by simp)]
 rcases h.get i with ⟨g1, g2⟩ | ⟨f, ha, g1, g2, ok⟩
 ·rw [if_pos (by simp [g1]), MC.unpin_no (show (Z6 c L).fr i = none from Wd g2)]
  exact ⟨_, L, rfl, h, rfl⟩
 ·have hf := ok.hf
  have hp := ok.pin
  have hfr : (Z6 c L).fr i = _ := Xk h ha
  have g : gt c.2.1 (f : Int) = c.2.1.getD f default := Yd _ _
  rw [if_neg (by simp [g1]), g2, if_pos (by omega)]
  by_cases hp0 : (gt c.2.1 (f : Int)).2.2.2 = 0
  ·rw [if_pos (decide_eq_true hp0), MC.unpin_out hfr (by unfold fm; dsimp only; rw [← g, hp0]; rfl)]
   exact ⟨_, L, rfl, h, rfl⟩
  ·have wp : w64 ((gt c.2.1 (f : Int)).2.2.2 - 1) = (gt c.2.1 (f : Int)).2.2.2 - 1 := by rw [g]; exact Yg (by omega) (by omega)
   have hp1 : 0 < (gt c.2.1 (f : Int)).2.2.2 := by rw [g] at hp0 ⊢; omega
   have hp2 : (gt c.2.1 (f : Int)).2.2.2 ≤ t := by rw [g]; omega
   have hset : gt (c.2.1.set f ((gt c.2.1 (f : Int)).1, (gt c.2.1 (f : Int)).2.1, (gt c.2.1 (f : Int)).2.2.1, w64 ((gt c.2.1 (f : Int)).2.2.2 - 1))) (f : Int) = ((gt c.2.1 (f : Int)).1, (gt c.2.1 (f : Int)).2.1, (gt c.2.1 (f : Int)).2.2.1, w64 ((gt c.2.1 (f : Int)).2.2.2 - 1)) := by
    rw [Yd, Yk (by omega), if_pos rfl]
   have hfL : f ∉ L := fun hx => by have := ((h.lok f).1 hx).2; rw [← g] at this; omega
   have hx0 : (fm (c.2.1.getD f default)).p = (c.2.1.getD f default).2.2.2.toNat := rfl
   rw [if_neg (by simpa using hp0), Int.toNat_natCast, hset, wp]
   by_cases hp3 : (gt c.2.1 (f : Int)).2.2.2 - 1 = 0
   ·obtain ⟨ch, e2, hc2⟩ := Zdk h.chn ok.hf hfL (by omega)
    rw [if_pos (decide_eq_true hp3), show Q15.f (c.2.2.2.2.1, c.2.2.2.2.2) (f : Int) = _ from e2, Option.bind_some, MC.unpin_one hfr (by rw [hx0, ← g]; omega)]
    have hs := h.setfr ha (x := ((gt c.2.1 (f : Int)).1, (gt c.2.1 (f : Int)).2.1, (gt c.2.1 (f : Int)).2.2.1, (gt c.2.1 (f : Int)).2.2.2 - 1)) (t' := t) (by rw [g]; exact ok.blk) (by rw [g]; exact ok.len) (by dsimp only; omega) (Nat.le_refl t) hc2 (fun k => by
     rw [List.mem_cons]
     split
     ·rename_i e; exact ⟨fun _ => hp3, fun _ => .inl e⟩
     ·rename_i e; exact ⟨fun q => q.elim (fun e' => absurd e' e) id, .inr⟩)
    refine ⟨_, f :: L, rfl, hs, MC.ext' rfl rfl rfl (fun j => ?_) rfl ?_⟩
    ·refine Eq.trans (Wp h ha j) ?_
     show upd (Yz c) i _ j = upd (Yz c) i _ j
     congr 2
     unfold fm
     try dsimp only
     rw [hp3, g]; rfl
    ·refine Eq.trans (Xm (by omega) (by rw [g]; rfl) _) ?_
     show Y7 c f :: L.map (Y7 c) = _
     rw [Vp h ha]; rfl
   ·rw [if_neg (by simpa using hp3), MC.unpin_more hfr (by rw [hx0, ← g]; omega) (by rw [hx0, ← g]; omega)]
    have hs := h.setfr ha (x := ((gt c.2.1 (f : Int)).1, (gt c.2.1 (f : Int)).2.1, (gt c.2.1 (f : Int)).2.2.1, (gt c.2.1 (f : Int)).2.2.2 - 1)) (t' := t) (by rw [g]; exact ok.blk) (by rw [g]; exact ok.len) (by dsimp only; omega) (Nat.le_refl t) h.chn (fun k => by
     split
     ·rename_i e; subst e; exact ⟨fun q => absurd q hfL, fun q => absurd q hp3⟩
     ·exact Iff.rfl)
    refine ⟨_, L, rfl, hs, MC.ext' rfl rfl rfl (fun j => ?_) rfl ?_⟩
    ·refine Eq.trans (Wp h ha j) ?_
     show upd (Yz c) i _ j = upd (Yz c) i _ j
     congr 2
     unfold fm
     try dsimp only
     rw [g, show ((c.2.1.getD f default).2.2.2 - 1).toNat = (c.2.1.getD f default).2.2.2.toNat - 1 by omega]
    ·exact Xm (by omega) (by rw [g]; rfl) _
theorem Zdj (z : Siz N B n) (h : CaI N B n t [] c L) (i : Nat) (b : List Int) : ∃ c' L', Q9.f c (i : Int) b = some (((Z6 c L).write B i b).1, c') ∧ CaI N B n t [] c' L' ∧ Z6 c' L' = ((Z6 c L).write B i b).2 := by
 have h64 := z.h64
 have hB := z.B_le
 have hfl := h.frl
 have hsz := h.dsz
 unfold Q9.f Q11.f Q26.f
 rw [Option.bind_some, if_neg (by simp)]
 rcases h.get i with ⟨g1, g2⟩ | ⟨f, ha, g1, g2, ok⟩
 ·rw [if_pos (by simp [g1]), MC.write_no (show (Z6 c L).fr i = none from Wd g2)]
  exact ⟨_, L, rfl, h, rfl⟩
 ·have hf := ok.hf
  have hp := ok.pin
  have hfr : (Z6 c L).fr i = _ := Xk h ha
  have hx0 : (fm (c.2.1.getD f default)).p = (c.2.1.getD f default).2.2.2.toNat := rfl
  have g : gt c.2.1 (f : Int) = c.2.1.getD f default := Yd _ _
  rw [if_neg (by simp [g1]), g2, if_pos (by omega)]
  by_cases hp0 : (gt c.2.1 (f : Int)).2.2.2 = 0
  ·rw [if_pos (decide_eq_true hp0), MC.write_out hfr (by rw [hx0, ← g, hp0]; rfl)]
   exact ⟨_, L, rfl, h, rfl⟩
  ·have hp1 : (fm (c.2.1.getD f default)).p ≠ 0 := by rw [hx0]; rw [g] at hp0; omega
   rw [if_neg (by simpa using hp0), Option.bind_some]
   try dsimp only
   by_cases hb : (b.length : Int) = c.1.1
   ·have hset : gt (c.2.1.set f ((gt c.2.1 (f : Int)).1, b, (gt c.2.1 (f : Int)).2.2.1, (gt c.2.1 (f : Int)).2.2.2)) (f : Int) = ((gt c.2.1 (f : Int)).1, b, (gt c.2.1 (f : Int)).2.2.1, (gt c.2.1 (f : Int)).2.2.2) := by
     rw [Yd, Yk (by omega), if_pos rfl]
    have hs := h.setfr ha (x := ((gt c.2.1 (f : Int)).1, b, true, (gt c.2.1 (f : Int)).2.2.2)) (t' := t) (by rw [g]; exact ok.blk) (by dsimp only; omega) (by dsimp only; rw [g]; exact hp) (Nat.le_refl t) h.chn (by rw [g]; exact Za5 h ha)
    rw [if_neg (by simp [hb]), X0 (by omega), Option.bind_some, Int.toNat_natCast, hset, List.set_set, MC.write_hit hfr hp1 (by omega)]
    refine ⟨_, L, rfl, hs, MC.ext' rfl rfl rfl (fun j => ?_) rfl ?_⟩
    ·refine Eq.trans (Wp h ha j) ?_
     show upd (Yz c) i _ j = upd (Yz c) i _ j
     rw [g]; rfl
    ·exact Xm (by omega) (by rw [g]; rfl) _
   ·rw [if_pos (by simp [hb]), MC.write_form hfr hp1 (by omega)]
    exact ⟨_, L, rfl, h, rfl⟩
theorem Zgz (z : Siz N B n) (h : CaI N B n t [] c L) (i : Nat) : ∃ c' L', Q3.f c (i : Int) = some (((Z6 c L).drop i).1, c') ∧ CaI N B n t [] c' L' ∧ Z6 c' L' = ((Z6 c L).drop i).2 := by
 have h64 := z.h64
 have hfl := h.frl
 unfold Q3.f Q11.f
 rw [Option.bind_some, if_neg (by simp)]
 rcases h.get i with ⟨g1, g2⟩ | ⟨f, ha, g1, g2, ok⟩
 ·rw [if_pos (by simp [g1]), MC.drop_no (show (Z6 c L).fr i = none from Wd g2)]
  exact ⟨_, L, rfl, h, rfl⟩
 ·have hf := ok.hf
  have hp := ok.pin
  have hfr : (Z6 c L).fr i = _ := Xk h ha
  have hx0 : (fm (c.2.1.getD f default)).p = (c.2.1.getD f default).2.2.2.toNat := rfl
  have g : gt c.2.1 (f : Int) = c.2.1.getD f default := Yd _ _
  rw [if_neg (by simp [g1]), g2, if_pos (by omega)]
  by_cases hp0 : 0 < (gt c.2.1 (f : Int)).2.2.2
  ·rw [if_pos (decide_eq_true hp0), MC.drop_pin hfr (by rw [hx0]; rw [g] at hp0; omega)]
   exact ⟨_, L, rfl, h, rfl⟩
  ·obtain ⟨ch, e, hl⟩ := Uh z h ha
   rw [if_neg (by simpa using hp0), show Q10.f ((c.1.1, c.1.2.1, (c.1.2.2.1, c.1.2.2.2)), c.2.1, c.2.2.1, c.2.2.2.1, (c.2.2.2.2.1, c.2.2.2.2.2)) (f : Int) = _ from e, Option.bind_some, MC.drop_hit hfr (by rw [hx0]; rw [g] at hp0; omega)]
   have hml := Um (mhas_iff.2 ⟨_, ha⟩)
   refine ⟨_, L.erase f, rfl, hl, MC.ext' rfl rfl rfl (fun j => ?_) ?_ ?_⟩
   ·exact U1 h ha j
   ·show (Xb (i : Int) c.2.2.1).length = c.2.2.1.length - 1
    omega
   ·exact Eq.trans (Wk (by omega) (Jw h f)) (Vc h ha)
theorem Zfd (z : Siz N B n) (h : CaI N B n t [] c L) (i : Nat) : Q7.f c (i : Int) = some ((Z6 c L).read i) := by
 have hfl := h.frl
 have hB := z.B_le
 unfold Q7.f Q11.f
 rw [Option.bind_some, if_neg (by simp)]
 rcases h.get i with ⟨g1, g2⟩ | ⟨f, ha, g1, g2, ok⟩
 ·rw [if_pos (by simp [g1]), MC.read_no (show (Z6 c L).fr i = none from Wd g2)]
 ·have hf := ok.hf
  have hp := ok.pin
  have hfr : (Z6 c L).fr i = _ := Xk h ha
  have hx0 : (fm (c.2.1.getD f default)).p = (c.2.1.getD f default).2.2.2.toNat := rfl
  have g : gt c.2.1 (f : Int) = c.2.1.getD f default := Yd _ _
  rw [if_neg (by simp [g1]), g2, if_pos (by omega)]
  by_cases hp0 : (gt c.2.1 (f : Int)).2.2.2 = 0
  ·rw [if_pos (decide_eq_true hp0), MC.read_out hfr (by rw [hx0, ← g, hp0]; rfl)]
  ·rw [if_neg (by simpa using hp0), X0 (by rw [g, ok.len]; omega), Option.bind_some, MC.read_hit hfr (by rw [hx0]; rw [g] at hp0; omega), g]; rfl
end
abbrev Rf := Int × List UInt8 × Bool × Int
abbrev Rc := (Int × List (List UInt8) × Int × Int) × List Rf × Int × List Int
def rfm (i : Nat) (f : Fm) : Rf := ((i : Int), toS f.b, f.d, (f.p : Int))
def Wg (i : Int) (l : List Rf) : List Rf := l.filter fun x => !decide (x.1 = i)
structure RL (l : List Rf) (g : Nat → Option Fm) : Prop where
 nd : (l.map Prod.fst).Nodup
 mem : ∀ x ∈ l, ∃ (i : Nat) (f : Fm), g i = some f ∧ x = rfm i f
 all : ∀ (i : Nat) (f : Fm), g i = some f → rfm i f ∈ l
section
variable {l : List Rf} {g : Nat → Option Fm} {i : Nat} {f : Fm}
theorem Zf5 (h : RL l g) (e : g i = none) : Wg (i : Int) l = l := List.filter_eq_self.2 fun x hx => by
 obtain ⟨j, f, h1, rfl⟩ := h.mem x hx
 have : ¬ (rfm j f).1 = (i : Int) := fun q => by
  have : j = i := by have : (j : Int) = i := q; omega
  subst this; rw [e] at h1; cases h1
 simp [this]
theorem G0 : ∀ {l : List Rf} {x : Rf}, (l.map Prod.fst).Nodup → x ∈ l → (Wg x.1 l).length + 1 = l.length
 | [], x, _, h => by simp at h
 | y :: l, x, nd, h => by
  rw [List.map_cons, List.nodup_cons] at nd
  by_cases q : y.1 = x.1
  ·have hl : Wg x.1 l = l := List.filter_eq_self.2 fun z hz => by
    have : ¬ z.1 = x.1 := fun e => nd.1 (by rw [q, ← e]; exact List.mem_map_of_mem hz)
    simp [this]
   have : Wg x.1 (y :: l) = l := by
    unfold Wg at hl ⊢
    rw [List.filter_cons_of_neg (by simp [q]), hl]
   rw [this]; rfl
  ·have hx : x ∈ l := by
    rcases List.mem_cons.1 h with e | e
    ·exact absurd (by rw [e]) q
    ·exact e
   have : Wg x.1 (y :: l) = y :: Wg x.1 l := by
    unfold Wg
    rw [List.filter_cons_of_pos (by simp [q])]
   rw [this, List.length_cons, List.length_cons, G0 nd.2 hx]
theorem RL.gone (h : RL l g) (i : Nat) : RL (Wg (i : Int) l) (upd g i none) := by
 refine ⟨(List.filter_sublist.map _).nodup h.nd, fun x hx => ?_, fun j f hj => ?_⟩
 ·obtain ⟨h1, h2⟩ := List.mem_filter.1 hx
  obtain ⟨j, f, h3, rfl⟩ := h.mem x h1
  have hne : j ≠ i := fun q => by subst q; simp [rfm] at h2
  exact ⟨j, f, by rw [Y0 hne, h3], rfl⟩
 ·by_cases q : j = i
  ·subst q; rw [Yt] at hj; cases hj
  ·rw [Y0 q] at hj
   refine List.mem_filter.2 ⟨h.all j f hj, ?_⟩
   have : ¬ (j : Int) = i := by omega
   simp [rfm, this]
theorem RL.put (h : RL l g) (i : Nat) (f : Fm) : RL (Wg (i : Int) l ++ [rfm i f]) (upd g i (some f)) := by
 have hg := h.gone i
 refine ⟨?_, fun x hx => ?_, fun j f' hj => ?_⟩
 ·rw [List.map_append, List.nodup_append]
  refine ⟨hg.nd, by simp, fun a ha b hb e => ?_⟩
  obtain ⟨x, hx, rfl⟩ := List.mem_map.1 ha
  simp only [List.map_cons, List.map_nil, List.mem_singleton] at hb
  obtain ⟨_, h2⟩ := List.mem_filter.1 hx
  rw [e, hb] at h2
  simp [rfm] at h2
 ·rcases List.mem_append.1 hx with hx | hx
  ·obtain ⟨j, f', h1, e⟩ := hg.mem x hx
   have hne : j ≠ i := fun q => by subst q; rw [Yt] at h1; cases h1
   exact ⟨j, f', by rw [Y0 hne] at h1 ⊢; exact h1, e⟩
  ·rw [List.mem_singleton] at hx
   exact ⟨i, f, Yt _ _ _, hx⟩
 ·by_cases q : j = i
  ·subst q; rw [Yt] at hj; injection hj with hj; subst hj; simp
  ·rw [Y0 q] at hj
   exact List.mem_append_left _ (hg.all j f' (by rw [Y0 q]; exact hj))
theorem RL.congr (h : RL l g) {g' : Nat → Option Fm} (e : ∀ j, g j = g' j) : RL l g' := by
 have := funext e
 subst this; exact h
end
structure RR (N B n : Nat) (w : Rc) (m : MC) : Prop where
 dev : w.1 = ((B : Int), Lb m.img N B, m.rd, m.wr)
 most : w.2.2.1 = (n : Int)
 row : w.2.2.2 = m.row.map fun (i : Nat) => (i : Int)
 fr : RL w.2.1 m.fr
 used : w.2.1.length = m.used
structure MI (N B n t : Nat) (m : MC) : Prop where
 dim : m.img.length = N * B
 len : ∀ i f, m.fr i = some f → i < N ∧ f.b.length = B ∧ f.p ≤ t
 rnd : m.row.Nodup
 rfr : ∀ q, q ∈ m.row ↔ ∃ f, m.fr q = some f ∧ f.p = 0
 ule : m.used ≤ n
 rle : m.row.length ≤ n
theorem Zai {g : Nat → Nat} : ∀ {L : List Nat}, L.Nodup → (∀ x ∈ L, ∀ y ∈ L, g x = g y → x = y) → (L.map g).Nodup
 | [], _, _ => by simp
 | x :: L, nd, h => by
  rw [List.nodup_cons] at nd
  rw [List.map_cons, List.nodup_cons]
  refine ⟨fun q => ?_, Zai nd.2 fun a ha b hb => h a (by simp [ha]) b (by simp [hb])⟩
  obtain ⟨y, hy, e⟩ := List.mem_map.1 q
  exact nd.1 (by rw [h x (by simp) y (by simp [hy]) e.symm]; exact hy)
theorem CaI.mi {N B n t : Nat} {c : Ca} {L : List Nat} (h : CaI N B n t [] c L) : MI N B n t (Z6 c L) where
 dim := h.dim
 len i f hf := Zf6 h hf
 rnd := Zai h.chn.nd fun x hx y hy e => by
  obtain ⟨i, hi, e1, _⟩ := X7 h hx
  obtain ⟨j, hj, e2, _⟩ := X7 h hy
  have : i = j := by omega
  subst this
  exact Jh h hi hj
 rfr q := by
  constructor
  ·intro hq
   obtain ⟨f, hf, e⟩ := List.mem_map.1 hq
   obtain ⟨i, hi, e1, hp, _⟩ := X7 h hf
   have : i = q := by omega
   subst this
   exact ⟨_, Xk h hi, by unfold fm; dsimp only; rw [hp]; rfl⟩
  ·rintro ⟨f, hf, hp⟩
   rcases h.get q with ⟨_, g2⟩ | ⟨f', ha, _, _, ok⟩
   ·have := Wd g2
    rw [show Yz c q = some f from hf] at this; cases this
   ·have h1 := Xk h ha
    rw [show Yz c q = some f from hf] at h1
    injection h1 with h1
    subst h1
    refine (Zf7 h ha).2 ((h.lok f').2 ⟨⟨_, ha⟩, ?_⟩)
    have := ok.pin
    unfold fm at hp
    dsimp only at hp
    omega
 ule := h.used
 rle := by
  show (L.map (Y7 c)).length ≤ n
  rw [List.length_map]
  exact h.chn.short
def findR (l : List Rf) (i : Int) : Int := match l.findIdx? fun x => decide (x.1 = i) with
 | none => -1
 | some q => (q : Int)
section
variable {N B n t : Nat} {w : Rc} {m : MC} {i : Nat} {f : Fm}
theorem RR.len (h : RR N B n w m) (mi : MI N B n t m) (h64 : n ≤ 64) : w.2.1.length ≤ 64 := by have := h.used; have := mi.ule; omega
theorem RR.put (h : RR N B n w m) {f0 : Fm} (e : m.fr i = some f0) (f : Fm) (row : List Nat) : RR N B n (w.1, Wg (i : Int) w.2.1 ++ [rfm i f], w.2.2.1, row.map fun (i : Nat) => (i : Int)) ⟨m.img, m.rd, m.wr, upd m.fr i (some f), m.used, row⟩ := by
 refine ⟨h.dev, h.most, rfl, h.fr.put i f, ?_⟩
 show (Wg (i : Int) w.2.1 ++ [rfm i f]).length = m.used
 have h1 := G0 h.fr.nd (h.fr.all i f0 e)
 rw [List.length_append, List.length_singleton, ← h.used]
 exact h1
theorem RR.come (h : RR N B n w m) (e : m.fr i = none) (f : Fm) (rd : Int) : RR N B n ((w.1.1, w.1.2.1, rd, w.1.2.2.2), Wg (i : Int) w.2.1 ++ [rfm i f], w.2.2) ⟨m.img, rd, m.wr, upd m.fr i (some f), m.used + 1, m.row⟩ := by
 refine ⟨by rw [h.dev], h.most, h.row, h.fr.put i f, ?_⟩
 show (Wg (i : Int) w.2.1 ++ [rfm i f]).length = m.used + 1
 rw [Zf5 h.fr e, List.length_append, List.length_singleton, h.used]
theorem RR.gone (h : RR N B n w m) {f0 : Fm} (e : m.fr i = some f0) (img : List Int) (wr : Int) (row : List Nat) : RR N B n (((B : Int), Lb img N B, m.rd, wr), Wg (i : Int) w.2.1, w.2.2.1, row.map fun (i : Nat) => (i : Int)) ⟨img, m.rd, wr, upd m.fr i none, m.used - 1, row⟩ := by
 refine ⟨rfl, h.most, rfl, h.fr.gone i, ?_⟩
 have h1 := G0 h.fr.nd (h.fr.all i f0 e)
 have h2 := h.used
 show (Wg (i : Int) w.2.1).length = m.used - 1
 have h3 : (rfm i f0).1 = (i : Int) := rfl
 rw [h3] at h1
 omega
end
structure Sz8 (N B n : Nat) (m : MC) : Prop where
 hN : N ≤ 65536
 hNB : N * B ≤ 4294967296
 hB1 : 1 ≤ B
 hN1 : 1 ≤ N
 h64 : n ≤ 64
 rd : 0 ≤ m.rd ∧ m.rd ≤ 1000000000
 wr : 0 ≤ m.wr ∧ m.wr ≤ 1000000000
section
variable {N B n t : Nat} {w : Rc} {m : MC} {i : Nat} {f : Fm}
theorem Sz8.B_le (z : Sz8 N B n m) : B ≤ 4294967296 := Nat.le_trans (Nat.le_mul_of_pos_left B z.hN1) z.hNB
end
section
variable {N B n t : Nat} {w : Rc} {m : MC} {i : Nat} {f : Fm}
theorem Vv (e : m.fr i = some f) : m.backI B i = ⟨Ym m.img (i * B) B f.b, m.rd, m.wr + 1, upd m.fr i (some ⟨f.b, false, f.p⟩), m.used, m.row⟩ := by unfold MC.backI; rw [e]
theorem Gt (e : m.fr i = none) : m.backI B i = m := by unfold MC.backI; rw [e]
theorem MI.back (mi : MI N B n t m) (i : Nat) : MI N B n t (m.backI B i) := by
 cases e : m.fr i with
 | none => rw [Gt e]; exact mi
 | some f =>
  have hlen := mi.len i f e
  rw [Vv e]
  refine ⟨Zae mi.dim hlen.1, fun j f' hj => ?_, mi.rnd, fun q => ?_, mi.ule, mi.rle⟩
  ·dsimp only at hj
   by_cases q : j = i
   ·subst q; rw [Yt] at hj; injection hj with hj; subst hj; exact hlen
   ·rw [Y0 q] at hj; exact mi.len j f' hj
  ·show q ∈ m.row ↔ ∃ f', upd m.fr i (some ⟨f.b, false, f.p⟩) q = some f' ∧ f'.p = 0
   rw [mi.rfr q]
   by_cases hq : q = i
   ·subst hq
    rw [Yt, e]
    exact ⟨fun ⟨f', h1, h2⟩ => ⟨_, rfl, by injection h1 with h1; subst h1; exact h2⟩, fun ⟨f', h1, h2⟩ => ⟨_, rfl, by injection h1 with h1; subst h1; exact h2⟩⟩
   ·rw [Y0 hq]
theorem Sz8.back (z : Sz8 N B n m) (i : Nat) (hw : m.wr ≤ 999999999) : Sz8 N B n (m.backI B i) := by
 cases e : m.fr i with
 | none => rw [Gt e]; exact z
 | some f => rw [Vv e]; exact ⟨z.hN, z.hNB, z.hB1, z.hN1, z.h64, z.rd, by have := z.wr; dsimp only; omega⟩
end
theorem Gh : ∀ {l₁ l₂ : List Int}, l₁.Pairwise (· < ·) → l₂.Pairwise (· < ·) → (∀ x, x ∈ l₁ ↔ x ∈ l₂) → l₁ = l₂
 | [], [], _, _, _ => rfl
 | [], y :: _, _, _, h => by have := (h y).2 (by simp); simp at this
 | x :: _, [], _, _, h => by have := (h x).1 (by simp); simp at this
 | x :: s, y :: t, h1, h2, h => by
  rw [List.pairwise_cons] at h1 h2
  have e : x = y := by
   have a := (h x).1 (by simp)
   have b := (h y).2 (by simp)
   rcases List.mem_cons.1 a with a | a
   ·exact a
   ·rcases List.mem_cons.1 b with b | b
    ·exact b.symm
    ·have := h1.1 y b
     have := h2.1 x a
     omega
  subst e
  rw [Gh h1.2 h2.2 fun z => ?_]
  constructor
  ·intro hz
   rcases List.mem_cons.1 ((h z).1 (by simp [hz])) with e | e
   ·have := h1.1 z hz; omega
   ·exact e
  ·intro hz
   rcases List.mem_cons.1 ((h z).2 (by simp [hz])) with e | e
   ·have := h2.1 z hz; omega
   ·exact e
section
variable {N B n t : Nat} {c : Ca} {L : List Nat}
theorem Zfl (h : CaI N B n t [] c L) : Xf c = ((Z6 c L).dirty N).map fun (i : Nat) => (i : Int) := by
 refine Gh ?_ ?_ fun x => ?_
 ·refine List.Pairwise.filter _ ?_
  have h1 := List.pairwise_mergeSort (le := fun x y : Int => decide (x ≤ y)) (fun a b c h1 h2 => by simp only [decide_eq_true_eq] at *; omega) (fun a b => by simp only [Bool.or_eq_true, decide_eq_true_eq]; omega) (c.2.2.1.map Prod.fst)
  have h2 : (Xg c).Nodup := (X2 c).nodup_iff.2 h.mnd
  exact (h1.and h2).imp fun {a b} q => by
   have q1 := q.1
   simp only [decide_eq_true_eq] at q1
   have q2 := q.2
   omega
 ·refine List.Pairwise.map _ (fun a b (q : a < b) => by omega) ?_
  exact List.Pairwise.filter _ List.pairwise_lt_range
 ·unfold Xf
  rw [List.mem_filter]
  constructor
  ·rintro ⟨h1, h2⟩
   obtain ⟨i, f, e1, hp, e2, ok⟩ := Bo h h1
   refine List.mem_map.2 ⟨i, List.mem_filter.2 ⟨List.mem_range.2 ok.hi, ?_⟩, e1.symm⟩
   unfold MC.isD
   rw [show (Z6 c L).fr i = _ from Xk h hp]
   unfold Vt at h2
   rw [e2, Yd] at h2
   exact h2
  ·intro h1
   obtain ⟨i, hi, rfl⟩ := List.mem_map.1 h1
   obtain ⟨h2, h3⟩ := List.mem_filter.1 hi
   unfold MC.isD at h3
   rcases h.get i with ⟨_, g2⟩ | ⟨f, ha, _, g, ok⟩
   ·rw [show (Z6 c L).fr i = none from Wd g2] at h3; cases h3
   ·rw [show (Z6 c L).fr i = _ from Xk h ha] at h3
    refine ⟨(X2 c).mem_iff.2 (List.mem_map.2 ⟨_, ha, rfl⟩), ?_⟩
    unfold Vt
    rw [g, Yd]
    exact h3
theorem Zf1 (z : Siz N B n) (h : CaI N B n t [] c L) {i f : Nat} (ha : ((i : Int), (f : Int)) ∈ c.2.2.1) : Z6 ((c.1.1, Ym c.1.2.1 (i * B) B (gt c.2.1 (f : Int)).2.1, c.1.2.2.1, c.1.2.2.2 + 1), c.2.1.set f ((gt c.2.1 (f : Int)).1, (gt c.2.1 (f : Int)).2.1, false, (gt c.2.1 (f : Int)).2.2.2), c.2.2) L = (Z6 c L).backI B i := by
 have g : gt c.2.1 (f : Int) = c.2.1.getD f default := Yd _ _
 have hf := (h.atN ha).hf
 have hfl := h.frl
 rw [Vv (show (Z6 c L).fr i = _ from Xk h ha)]
 refine MC.ext' ?_ rfl rfl (fun j => ?_) rfl ?_
 ·show Ym c.1.2.1 (i * B) B _ = Ym c.1.2.1 (i * B) B _
  rw [g]; rfl
 ·refine Eq.trans (Wp h ha j) ?_
  rw [g]; rfl
 ·exact Xm (by omega) (by rw [g]; rfl) _
theorem Zaa (z : Siz N B n) (h : CaI N B n t [] c L) {D : List Nat} (hD : Xf c = D.map fun (i : Nat) => (i : Int)) (nd : D.Nodup) : ∀ (q j k : Nat) (d : Dv) (fr : List Fr8), D.length = j + q → q < k → CaI N B n t [] (d, fr, c.2.2) L → 0 ≤ d.2.2.2 ∧ d.2.2.2 + q ≤ 200000000 → (∀ i ∈ D.drop j, (Z6 (d, fr, c.2.2) L).isD i = true) →
  ∃ c', Q4.l0 k c (Xf c) d.1 d.2.1 d.2.2.1 d.2.2.2 fr (j : Int) = some (0, c') ∧ CaI N B n t [] c' L ∧ Z6 c' L = (D.drop j).foldl (MC.backI B) (Z6 (d, fr, c.2.2) L)
 | _, _, 0, _, _, _, hk, _, _, _ => by omega
 | 0, j, k + 1, d, fr, hj, hk, hi, hw, hd => by
  have hl := Wz z h
  have h64 := z.h64
  have hDl : (Xf c).length = D.length := by rw [hD, List.length_map]
  rw [Q4.l0, if_neg (by simp only [decide_eq_true_eq]; omega), List.drop_eq_nil_of_le (by omega)]
  exact ⟨_, rfl, hi, rfl⟩
 | q + 1, j, k + 1, d, fr, hj, hk, hi, hw, hd => by
  have hl := Wz z h
  have h64 := z.h64
  have hDl : (Xf c).length = D.length := by rw [hD, List.length_map]
  have hjD : j < D.length := by omega
  have hjl : j < (Xf c).length := by omega
  have hin : (Xf c).getD j default ∈ Xg c := (List.mem_filter.1 (Uz (l := Xf c) hjl)).1
  obtain ⟨i, f, e1, hp, e2, ok⟩ := Bo h hin
  have hf := ok.hf
  have hfl := hi.frl
  have ei : D.getD j default = i := by
   rw [hD, List.getD_eq_getElem?_getD, List.getElem?_map, List.getElem?_eq_getElem hjD] at e1
   rw [List.getD_eq_getElem?_getD, List.getElem?_eq_getElem hjD]
   have : ((D[j] : Nat) : Int) = i := e1
   show D[j] = i
   omega
  have hdr : D.drop j = i :: D.drop (j + 1) := by rw [Zaf hjD, ei]
  have hni : i ∉ D.drop (j + 1) := by
   have := (List.drop_sublist j D).nodup nd
   rw [hdr, List.nodup_cons] at this
   exact this.1
  have hdi := hd i (by rw [hdr]; simp)
  have hfri : (Z6 (d, fr, c.2.2) L).fr i = some (fm (fr.getD f default)) := Xk hi (i := i) (f := f) hp
  have q1 : (gt fr (f : Int)).2.2.1 = true := by
   unfold MC.isD at hdi
   rw [hfri] at hdi
   rw [Yd]; exact hdi
  rw [Q4.l0, if_pos (decide_eq_true (by omega)), if_pos (by omega), Yd, e2, if_pos (by dsimp only at hfl; omega)]
  have hb := hi.back z (i := i) (f := f) hp (d.2.2.1, d.2.2.2 + 1)
  have habs := Zf1 z hi (i := i) (f := f) hp
  have hwr := Be z hi (i := i) (f := f) hp
  rw [if_pos q1, show Q30.f (d.1, d.2.1, (d.2.2.1, d.2.2.2)) (gt fr (f : Int)).1 (gt fr (f : Int)).2.1 = _ from hwr, Option.bind_some]
  dsimp only
  rw [Bi (by omega), Int.toNat_natCast, Xr (by omega)]
  obtain ⟨c', g1, g2, g3⟩ := Zaa z h hD nd q (j + 1) k (d.1, Ym d.2.1 (i * B) B (gt fr (f : Int)).2.1, d.2.2.1, d.2.2.2 + 1) (fr.set f ((gt fr (f : Int)).1, (gt fr (f : Int)).2.1, false, (gt fr (f : Int)).2.2.2)) (by omega) (by omega) hb (by dsimp only; omega) (fun i' hi' => by
   have hne : i' ≠ i := fun e => hni (by rw [← e]; exact hi')
   have h1 := hd i' (by rw [hdr]; simp [hi'])
   rw [show Z6 ((d.1, Ym d.2.1 (i * B) B (gt fr (f : Int)).2.1, d.2.2.1, d.2.2.2 + 1), fr.set f ((gt fr (f : Int)).1, (gt fr (f : Int)).2.1, false, (gt fr (f : Int)).2.2.2), c.2.2) L = _ from habs, Vv hfri]
   unfold MC.isD at h1 ⊢
   dsimp only
   rw [Y0 hne]; exact h1)
  refine ⟨c', g1, g2, ?_⟩
  rw [g3, hdr, List.foldl_cons]
  exact congrArg (fun x => List.foldl (MC.backI B) x (D.drop (j + 1))) habs
theorem Zd0 (z : Siz N B n) (h : CaI N B n t [] c L) (fw : Few c) {k : Nat} (hk : 200 < k) : ∃ c', Q4.f k c = some (0, c') ∧ CaI N B n t [] c' L ∧ Z6 c' L = (Z6 c L).flush N B := by
 have hl := Wz z h
 have h64 := z.h64
 have hD := Zfl h
 have hDl : (Xf c).length = ((Z6 c L).dirty N).length := by rw [hD, List.length_map]
 obtain ⟨c', g1, g2, g3⟩ := Zaa z h hD ((List.filter_sublist).nodup List.nodup_range) ((Z6 c L).dirty N).length 0 k c.1 c.2.1 (by omega) (by omega) h ⟨fw.wr.1, by have := fw.wr.2; omega⟩ (fun i hi => (List.mem_filter.1 hi).2)
 unfold Q4.f Q11.f
 rw [Option.bind_some, if_neg (by simp), show Q2.f k c = _ from Zbb z h (by omega), Option.bind_some]
 exact ⟨c', g1, g2, g3⟩
end
def MC.act (N B n : Nat) (m : MC) (kd : Int) (i : Nat) (b : List Int) : Int × MC :=
 if kd = 0 then m.pin N B n i else if kd = 1 then m.pin N B n i else if kd = 2 then m.fresh N B n i else if kd = 3 then m.unpin i else if kd = 4 then m.unpin i else
 if kd = 5 then m.write B i b else if kd = 6 then m.write B i b else if kd = 7 then m.drop i else if kd = 8 then (0, m.flush N B) else if kd = 9 then ((m.read i).2, m) else (0, m)
section
variable {N B n t : Nat} {c : Ca} {L : List Nat} {w : Rc} {m : MC}
theorem Zgy (z : Siz N B n) (h : CaI N B n t [] c L) (fw : Few c) (ht : t ≤ 1000000) (kd : Int) (i : Nat) (hi : i < 4294967296) (b : List Int) {k : Nat} (hk : 200 < k) : ∃ c' L', Q53.f k c (kd, (i : Int), b) = some (((Z6 c L).act N B n kd i b).1, c') ∧ CaI N B n (t + 1) [] c' L' ∧ Z6 c' L' = ((Z6 c L).act N B n kd i b).2 := by
 unfold Q53.f MC.act
 try dsimp only
 by_cases q0 : kd = 0
 ·obtain ⟨c', L', e, g1, g2⟩ := Zgv z h fw ht i hi
  rw [if_pos (decide_eq_true q0), if_pos q0, e]
  exact ⟨c', L', rfl, g1, g2⟩
 rw [if_neg (by simpa using q0), if_neg q0]
 by_cases q1 : kd = 1
 ·obtain ⟨c', L', e, g1, g2⟩ := Zgv z h fw ht i hi
  rw [if_pos (decide_eq_true q1), if_pos q1, e]
  exact ⟨c', L', rfl, g1, g2⟩
 rw [if_neg (by simpa using q1), if_neg q1]
 by_cases q2 : kd = 2
 ·obtain ⟨c', L', e, g1, g2⟩ := Zgu z h fw ht i hi
  rw [if_pos (decide_eq_true q2), if_pos q2, e]
  exact ⟨c', L', rfl, g1, g2⟩
 rw [if_neg (by simpa using q2), if_neg q2]
 by_cases q3 : kd = 3
 ·obtain ⟨c', L', e, g1, g2⟩ := Zdr z h ht i
  rw [if_pos (decide_eq_true q3), if_pos q3, e]
  exact ⟨c', L', rfl, g1.mono (Nat.le_succ t), g2⟩
 rw [if_neg (by simpa using q3), if_neg q3]
 by_cases q4 : kd = 4
 ·obtain ⟨c', L', e, g1, g2⟩ := Zdr z h ht i
  rw [if_pos (decide_eq_true q4), if_pos q4, e]
  exact ⟨c', L', rfl, g1.mono (Nat.le_succ t), g2⟩
 rw [if_neg (by simpa using q4), if_neg q4]
 by_cases q5 : kd = 5
 ·obtain ⟨c', L', e, g1, g2⟩ := Zdj z h i b
  rw [if_pos (decide_eq_true q5), if_pos q5, e]
  exact ⟨c', L', rfl, g1.mono (Nat.le_succ t), g2⟩
 rw [if_neg (by simpa using q5), if_neg q5]
 by_cases q6 : kd = 6
 ·obtain ⟨c', L', e, g1, g2⟩ := Zdj z h i b
  rw [if_pos (decide_eq_true q6), if_pos q6, e]
  exact ⟨c', L', rfl, g1.mono (Nat.le_succ t), g2⟩
 rw [if_neg (by simpa using q6), if_neg q6]
 by_cases q7 : kd = 7
 ·obtain ⟨c', L', e, g1, g2⟩ := Zgz z h i
  rw [if_pos (decide_eq_true q7), if_pos q7, e]
  exact ⟨c', L', rfl, g1.mono (Nat.le_succ t), g2⟩
 rw [if_neg (by simpa using q7), if_neg q7]
 by_cases q8 : kd = 8
 ·obtain ⟨c', e, g1, g2⟩ := Zd0 z h fw hk
  rw [if_pos (decide_eq_true q8), if_pos q8, e]
  exact ⟨c', L, rfl, g1.mono (Nat.le_succ t), g2⟩
 rw [if_neg (by simpa using q8), if_neg q8]
 by_cases q9 : kd = 9
 ·rw [if_pos (decide_eq_true q9), if_pos q9, Zfd z h i]
  exact ⟨c, L, rfl, h.mono (Nat.le_succ t), rfl⟩
 rw [if_neg (by simpa using q9), if_neg q9]
 exact ⟨c, L, rfl, h.mono (Nat.le_succ t), rfl⟩
end
theorem J2 (k : Nat) : Q52.f (k + 300) = some true := by kernel_rfl
theorem Zfg {n : Nat} (h1 : 1 ≤ n) (h2 : n ≤ 64) : Siz 9 2 n := ⟨by omega, by omega, by omega, h1, h2⟩
theorem Zhj {l : List (Int × Int × List Int)} (h : Ty.fit (Xw tt) (.slice 102 (.pair (.int .i64) (.pair (.int .u32) (.slice 5 (.int .u8))))) l) {x : Int × Int × List Int} (hx : x ∈ l) : ∃ i : Nat, x.2.1 = (i : Int) ∧ i < 4294967296 := by
 obtain ⟨_, h1, h2⟩ := h.2.2 x hx
 have : (Lit.int .u32 x.2.1).wf = true := h1
 simp [Lit.wf, IntKind.min, IntKind.max, IntKind.signed, IntKind.bits] at this
 exact ⟨x.2.1.toNat, by omega, by omega⟩
namespace MC
def cont (B : Nat) (m : MC) (i : Nat) : List Int := match m.fr i with
 | none => blk m.img B i
 | some x => x.b
theorem cont_no {B : Nat} {m : MC} {i : Nat} (e : m.fr i = none) : m.cont B i = blk m.img B i := by unfold cont; rw [e]
theorem cont_at {B : Nat} {m : MC} {i : Nat} {x : Fm} (e : m.fr i = some x) : m.cont B i = x.b := by unfold cont; rw [e]
def Cl (B : Nat) (m : MC) : Prop := ∀ i x, m.fr i = some x → x.d = false → x.b = blk m.img B i
end MC
section
variable {N B n t : Nat} {m k : MC} {i : Nat} {x : Fm}
theorem Cl.evict (mi : MI N B n t m) (cl : m.Cl B) (q : Nat) : (m.evict B q).Cl B ∧ (∀ j, j < N → (m.evict B q).cont B j = m.cont B j) ∧ ((m.evict B q).fr q = none) ∧ ∀ j, m.fr j = none → (m.evict B q).fr j = none := by
 cases e : m.fr q with
 | none =>
  have : m.evict B q = m := by unfold MC.evict; rw [e]
  rw [this]
  exact ⟨cl, fun _ _ => rfl, e, fun _ h => h⟩
 | some x =>
  obtain ⟨hq, hb, _⟩ := mi.len q x e
  rw [MC.evict_eq e]
  refine ⟨fun j y hj hd => ?_, fun j hj => ?_, Yt _ _ _, fun j hj => ?_⟩
  ·dsimp only at hj ⊢
   by_cases qj : j = q
   ·subst qj; rw [Yt] at hj; cases hj
   ·rw [Y0 qj] at hj
    have h1 := cl j y hj hd
    split
    ·rw [Wq mi.dim hq hb j (mi.len j y hj).1, if_neg qj]; exact h1
    ·exact h1
  ·by_cases qj : j = q
   ·subst qj
    rw [MC.cont_at e, MC.cont_no (Yt _ _ _)]
    dsimp only
    split
    ·rw [Wq mi.dim hq hb j hq, if_pos rfl]
    ·rename_i hd
     exact (cl j x e (by simpa using hd)).symm
   ·cases ej : m.fr j with
    | none =>
     rw [MC.cont_no ej, MC.cont_no (by show upd m.fr q none j = none; rw [Y0 qj]; exact ej)]
     dsimp only
     split
     ·rw [Wq mi.dim hq hb j hj, if_neg qj]
     ·rfl
    | some y => rw [MC.cont_at ej, MC.cont_at (show upd m.fr q none j = some y by rw [Y0 qj]; exact ej)]
  ·show upd m.fr q none j = none
   by_cases qj : j = q
   ·subst qj; exact Yt _ _ _
   ·rw [Y0 qj]; exact hj
theorem Cl.room (mi : MI N B n t m) (cl : m.Cl B) (h : m.room B n = some k) : k.Cl B ∧ (∀ j, j < N → k.cont B j = m.cont B j) ∧ ∀ j, m.fr j = none → k.fr j = none := by
 unfold MC.room at h
 split at h
 ·injection h with h; subst h; exact ⟨cl, fun _ _ => rfl, fun _ h => h⟩
 ·split at h
  ·cases h
  ·rename_i q _
   injection h with h; subst h
   obtain ⟨h1, h2, _, h3⟩ := Cl.evict mi cl q
   exact ⟨h1, h2, h3⟩
theorem Cl.lay {img : List Int} {rd wr : Int} {fr : Nat → Option Fm} {u u' : Nat} {row row' : List Nat} (cl : (⟨img, rd, wr, fr, u, row⟩ : MC).Cl B) {x : Fm} (hx : x.d = false → x.b = blk img B i) {rd' : Int} : (⟨img, rd', wr, upd fr i (some x), u', row'⟩ : MC).Cl B ∧ ∀ j, (⟨img, rd', wr, upd fr i (some x), u', row'⟩ : MC).cont B j = if j = i then x.b else (⟨img, rd, wr, fr, u, row⟩ : MC).cont B j := by
 refine ⟨fun j y hj hd => ?_, fun j => ?_⟩
 ·have hj' : upd fr i (some x) j = some y := hj
  by_cases q : j = i
  ·subst q; rw [Yt] at hj'; injection hj' with hj'; subst hj'; exact hx hd
  ·rw [Y0 q] at hj'; exact cl j y hj' hd
 ·by_cases q : j = i
  ·subst q; rw [if_pos rfl]; exact MC.cont_at (Yt _ _ _)
  ·rw [if_neg q]; unfold MC.cont; dsimp only; rw [Y0 q]
theorem Cl.pin (mi : MI N B n t m) (cl : m.Cl B) (i : Nat) : (m.pin N B n i).2.Cl B ∧ ∀ j, j < N → (m.pin N B n i).2.cont B j = m.cont B j := by
 by_cases h : N ≤ i
 ·rw [MC.pin_out h]; exact ⟨cl, fun _ _ => rfl⟩
 cases e : m.fr i with
 | some x =>
  rw [MC.pin_hit h e]
  obtain ⟨h1, h2⟩ := Cl.lay (i := i) (x := ⟨x.b, x.d, x.p + 1⟩) (u' := m.used) (row' := m.row.erase i) (rd' := m.rd) (cl : (⟨m.img, m.rd, m.wr, m.fr, m.used, m.row⟩ : MC).Cl B) (fun hd => cl i x e hd)
  refine ⟨h1, fun j hj => ?_⟩
  rw [show (((m.put i ⟨x.b, x.d, x.p + 1⟩).cut i).cont B j) = _ from h2 j]
  split
  ·rename_i q; subst q; exact (MC.cont_at e).symm
  ·rfl
 | none =>
  cases r : m.room B n with
  | none => rw [MC.pin_full h e r]; exact ⟨cl, fun _ _ => rfl⟩
  | some k =>
   obtain ⟨c1, c2, c3⟩ := Cl.room mi cl r
   rw [MC.pin_miss h e r]
   obtain ⟨h1, h2⟩ := Cl.lay (i := i) (x := ⟨blk k.img B i, false, 1⟩) (u' := k.used + 1) (row' := k.row) (rd' := k.rd + 1) (c1 : (⟨k.img, k.rd, k.wr, k.fr, k.used, k.row⟩ : MC).Cl B) (fun _ => rfl)
   refine ⟨h1, fun j hj => ?_⟩
   rw [show ((⟨k.img, k.rd + 1, k.wr, k.fr, k.used, k.row⟩ : MC).come i ⟨blk k.img B i, false, 1⟩).cont B j = _ from h2 j]
   split
   ·rename_i q; subst q; rw [← c2 j hj]; exact (MC.cont_no (c3 j e)).symm
   ·exact c2 j hj
theorem Cl.fresh (mi : MI N B n t m) (cl : m.Cl B) (i : Nat) : (m.fresh N B n i).2.Cl B ∧ ((m.fresh N B n i).1 = 0 → i < N) ∧ ∀ j, j < N → (m.fresh N B n i).2.cont B j = if (m.fresh N B n i).1 = 0 ∧ j = i then List.replicate B 0 else m.cont B j := by
 by_cases h : N ≤ i
 ·rw [MC.fresh_out h]; exact ⟨cl, fun e => by simp at e, fun _ _ => by rw [if_neg (by simp)]⟩
 cases e : m.fr i with
 | some x =>
  by_cases p : 0 < x.p
  ·rw [MC.fresh_pin h e p]; exact ⟨cl, fun e => by simp at e, fun _ _ => by rw [if_neg (by simp)]⟩
  ·rw [MC.fresh_hit h e p]
   obtain ⟨h1, h2⟩ := Cl.lay (i := i) (x := ⟨List.replicate B 0, true, 1⟩) (u' := m.used) (row' := m.row.erase i) (rd' := m.rd) (cl : (⟨m.img, m.rd, m.wr, m.fr, m.used, m.row⟩ : MC).Cl B) (fun hd => by cases hd)
   refine ⟨h1, fun _ => by omega, fun j hj => ?_⟩
   rw [show (((m.put i ⟨List.replicate B 0, true, 1⟩).cut i).cont B j) = _ from h2 j]
   by_cases q : j = i
   ·rw [if_pos q, if_pos ⟨rfl, q⟩]
   ·rw [if_neg q, if_neg (fun z => q z.2)]
 | none =>
  cases r : m.room B n with
  | none => rw [MC.fresh_full h e r]; exact ⟨cl, fun e => by simp at e, fun _ _ => by rw [if_neg (by simp)]⟩
  | some k =>
   obtain ⟨c1, c2, c3⟩ := Cl.room mi cl r
   rw [MC.fresh_miss h e r]
   obtain ⟨h1, h2⟩ := Cl.lay (i := i) (x := ⟨List.replicate B 0, true, 1⟩) (u' := k.used + 1) (row' := k.row) (rd' := k.rd) (c1 : (⟨k.img, k.rd, k.wr, k.fr, k.used, k.row⟩ : MC).Cl B) (fun hd => by cases hd)
   refine ⟨h1, fun _ => by omega, fun j hj => ?_⟩
   rw [show (k.come i ⟨List.replicate B 0, true, 1⟩).cont B j = _ from h2 j]
   by_cases q : j = i
   ·rw [if_pos q, if_pos ⟨rfl, q⟩]
   ·rw [if_neg q, if_neg (fun z => q z.2)]; exact c2 j hj
theorem Cl.unpin (cl : m.Cl B) (i : Nat) : (m.unpin i).2.Cl B ∧ ∀ j, (m.unpin i).2.cont B j = m.cont B j := by
 cases e : m.fr i with
 | none => rw [MC.unpin_no e]; exact ⟨cl, fun _ => rfl⟩
 | some x =>
  have key : ∀ (p u : Nat) (row : List Nat), (⟨m.img, m.rd, m.wr, upd m.fr i (some ⟨x.b, x.d, p⟩), u, row⟩ : MC).Cl B ∧ ∀ j, (⟨m.img, m.rd, m.wr, upd m.fr i (some ⟨x.b, x.d, p⟩), u, row⟩ : MC).cont B j = m.cont B j := fun p u row => by
   obtain ⟨h1, h2⟩ := Cl.lay (i := i) (x := ⟨x.b, x.d, p⟩) (u' := u) (row' := row) (rd' := m.rd) (cl : (⟨m.img, m.rd, m.wr, m.fr, m.used, m.row⟩ : MC).Cl B) (fun hd => cl i x e hd)
   refine ⟨h1, fun j => ?_⟩
   rw [h2 j]
   split
   ·rename_i q; subst q; exact (MC.cont_at e).symm
   ·rfl
  by_cases p : x.p = 0
  ·rw [MC.unpin_out e p]; exact ⟨cl, fun _ => rfl⟩
  ·by_cases p1 : x.p = 1
   ·rw [MC.unpin_one e p1]; exact key _ _ _
   ·rw [MC.unpin_more e p p1]; exact key _ _ _
theorem Cl.write (mi : MI N B n t m) (cl : m.Cl B) (i : Nat) (b : List Int) : (m.write B i b).2.Cl B ∧ ((m.write B i b).1 = 0 → i < N) ∧ ∀ j, (m.write B i b).2.cont B j = if (m.write B i b).1 = 0 ∧ j = i then b else m.cont B j := by
 cases e : m.fr i with
 | none => rw [MC.write_no e]; exact ⟨cl, fun e => by simp at e, fun _ => by rw [if_neg (by simp)]⟩
 | some x =>
  by_cases p : x.p = 0
  ·rw [MC.write_out e p]; exact ⟨cl, fun e => by simp at e, fun _ => by rw [if_neg (by simp)]⟩
  ·by_cases q : b.length = B
   ·rw [MC.write_hit e p q]
    obtain ⟨h1, h2⟩ := Cl.lay (i := i) (x := ⟨b, true, x.p⟩) (u' := m.used) (row' := m.row) (rd' := m.rd) (cl : (⟨m.img, m.rd, m.wr, m.fr, m.used, m.row⟩ : MC).Cl B) (fun hd => by cases hd)
    refine ⟨h1, fun _ => (mi.len i x e).1, fun j => ?_⟩
    rw [show (m.put i ⟨b, true, x.p⟩).cont B j = _ from h2 j]
    by_cases q : j = i
    ·rw [if_pos q, if_pos ⟨rfl, q⟩]
    ·rw [if_neg q, if_neg (fun z => q z.2)]
   ·rw [MC.write_form e p q]; exact ⟨cl, fun e => by simp at e, fun _ => by rw [if_neg (by simp)]⟩
theorem Cl.backI (mi : MI N B n t m) (cl : m.Cl B) (i : Nat) : (m.backI B i).Cl B ∧ (∀ j, j < N → (m.backI B i).cont B j = m.cont B j) ∧ ∀ j, (m.backI B i).isD j = (m.isD j && decide (j ≠ i)) := by
 cases e : m.fr i with
 | none =>
  rw [Gt e]
  refine ⟨cl, fun _ _ => rfl, fun j => ?_⟩
  by_cases q : j = i
  ·subst q; unfold MC.isD; rw [e]; rfl
  ·simp [q]
 | some x =>
  obtain ⟨hq, hb, _⟩ := mi.len i x e
  rw [Vv e]
  refine ⟨fun j y hj hd => ?_, fun j hj => ?_, fun j => ?_⟩
  ·have hj' : upd m.fr i (some ⟨x.b, false, x.p⟩) j = some y := hj
   by_cases q : j = i
   ·subst q
    rw [Yt] at hj'; injection hj' with hj'; subst hj'
    show x.b = blk (Ym m.img (j * B) B x.b) B j
    rw [Wq mi.dim hq hb j hq, if_pos rfl]
   ·rw [Y0 q] at hj'
    show y.b = blk (Ym m.img (i * B) B x.b) B j
    rw [Wq mi.dim hq hb j (mi.len j y hj').1, if_neg q]; exact cl j y hj' hd
  ·by_cases q : j = i
   ·subst q; rw [MC.cont_at e, MC.cont_at (show upd m.fr j (some ⟨x.b, false, x.p⟩) j = _ from Yt _ _ _)]
   ·cases ej : m.fr j with
    | some y => rw [MC.cont_at ej, MC.cont_at (show upd m.fr i (some ⟨x.b, false, x.p⟩) j = some y by rw [Y0 q]; exact ej)]
    | none =>
     rw [MC.cont_no ej, MC.cont_no (show upd m.fr i (some ⟨x.b, false, x.p⟩) j = none by rw [Y0 q]; exact ej)]
     dsimp only
     rw [Wq mi.dim hq hb j hj, if_neg q]
  ·unfold MC.isD
   dsimp only
   by_cases q : j = i
   ·subst q; rw [Yt]; simp
   ·rw [Y0 q]; simp [q]
theorem Cl.backs : ∀ (D : List Nat) (m : MC), MI N B n t m → m.Cl B → MI N B n t (D.foldl (MC.backI B) m) ∧ (D.foldl (MC.backI B) m).Cl B ∧ (∀ j, j < N → (D.foldl (MC.backI B) m).cont B j = m.cont B j) ∧ ∀ j, (D.foldl (MC.backI B) m).isD j = (m.isD j && decide (j ∉ D))
 | [], m, mi, cl => ⟨mi, cl, fun _ _ => rfl, fun j => by simp⟩
 | i :: D, m, mi, cl => by
  obtain ⟨c1, c2, c3⟩ := Cl.backI mi cl i
  obtain ⟨d0, d1, d2, d3⟩ := Cl.backs D _ (mi.back i) c1
  rw [List.foldl_cons]
  refine ⟨d0, d1, fun j hj => (d2 j hj).trans (c2 j hj), fun j => ?_⟩
  rw [d3, c3]
  by_cases q : j = i
  ·simp [q]
  ·simp [q]
theorem Cl.flush (mi : MI N B n t m) (cl : m.Cl B) : (m.flush N B).Cl B ∧ (∀ j, j < N → (m.flush N B).cont B j = m.cont B j) ∧ ∀ j, j < N → (m.flush N B).isD j = false := by
 obtain ⟨_, d1, d2, d3⟩ := Cl.backs (m.dirty N) m mi cl
 refine ⟨d1, d2, fun j hj => ?_⟩
 unfold MC.flush
 rw [d3]
 by_cases q : m.isD j = true
 ·have : j ∈ m.dirty N := List.mem_filter.2 ⟨List.mem_range.2 hj, q⟩
  simp [this]
 ·simp [Bool.eq_false_iff.2 q]
theorem Cl.act (mi : MI N B n t m) (cl : m.Cl B) (kd : Int) (hk : kd ≠ 7) (i : Nat) (b : List Int) : (m.act N B n kd i b).2.Cl B ∧ ((m.act N B n kd i b).1 = 0 ∧ (kd = 2 ∨ kd = 5 ∨ kd = 6) → i < N) ∧ ∀ j, j < N → (m.act N B n kd i b).2.cont B j = if (m.act N B n kd i b).1 = 0 ∧ j = i ∧ (kd = 2 ∨ kd = 5 ∨ kd = 6) then (if kd = 2 then List.replicate B 0 else b) else m.cont B j := by
 unfold MC.act
 by_cases q0 : kd = 0
 ·rw [if_pos q0]; subst q0
  obtain ⟨h1, h2⟩ := Cl.pin mi cl i
  exact ⟨h1, fun h => absurd h.2 (by decide), fun j hj => by rw [if_neg (fun z => absurd z.2.2 (by decide))]; exact h2 j hj⟩
 rw [if_neg q0]
 by_cases q1 : kd = 1
 ·rw [if_pos q1]; subst q1
  obtain ⟨h1, h2⟩ := Cl.pin mi cl i
  exact ⟨h1, fun h => absurd h.2 (by decide), fun j hj => by rw [if_neg (fun z => absurd z.2.2 (by decide))]; exact h2 j hj⟩
 rw [if_neg q1]
 by_cases q2 : kd = 2
 ·rw [if_pos q2]; subst q2
  obtain ⟨h1, h3, h2⟩ := Cl.fresh mi cl i
  refine ⟨h1, fun h => h3 h.1, fun j hj => ?_⟩
  rw [h2 j hj]
  by_cases z : (m.fresh N B n i).1 = 0 ∧ j = i
  ·rw [if_pos z, if_pos ⟨z.1, z.2, .inl rfl⟩, if_pos rfl]
  ·rw [if_neg z, if_neg (fun y => z ⟨y.1, y.2.1⟩)]
 rw [if_neg q2]
 by_cases q3 : kd = 3
 ·rw [if_pos q3]; subst q3
  obtain ⟨h1, h2⟩ := Cl.unpin cl i
  exact ⟨h1, fun h => absurd h.2 (by decide), fun j hj => by rw [if_neg (fun z => absurd z.2.2 (by decide))]; exact h2 j⟩
 rw [if_neg q3]
 by_cases q4 : kd = 4
 ·rw [if_pos q4]; subst q4
  obtain ⟨h1, h2⟩ := Cl.unpin cl i
  exact ⟨h1, fun h => absurd h.2 (by decide), fun j hj => by rw [if_neg (fun z => absurd z.2.2 (by decide))]; exact h2 j⟩
 rw [if_neg q4]
 by_cases q5 : kd = 5
 ·rw [if_pos q5]; subst q5
  obtain ⟨h1, h3, h2⟩ := Cl.write mi cl i b
  refine ⟨h1, fun h => h3 h.1, fun j hj => ?_⟩
  rw [h2 j]
  by_cases z : (m.write B i b).1 = 0 ∧ j = i
  ·rw [if_pos z, if_pos ⟨z.1, z.2, .inr (.inl rfl)⟩, if_neg (by decide)]
  ·rw [if_neg z, if_neg (fun y => z ⟨y.1, y.2.1⟩)]
 rw [if_neg q5]
 by_cases q6 : kd = 6
 ·rw [if_pos q6]; subst q6
  obtain ⟨h1, h3, h2⟩ := Cl.write mi cl i b
  refine ⟨h1, fun h => h3 h.1, fun j hj => ?_⟩
  rw [h2 j]
  by_cases z : (m.write B i b).1 = 0 ∧ j = i
  ·rw [if_pos z, if_pos ⟨z.1, z.2, .inr (.inr rfl)⟩, if_neg (by decide)]
  ·rw [if_neg z, if_neg (fun y => z ⟨y.1, y.2.1⟩)]
 rw [if_neg q6, if_neg hk]
 have no : ¬ (kd = 2 ∨ kd = 5 ∨ kd = 6) := fun z => z.elim q2 fun z => z.elim q5 q6
 by_cases q8 : kd = 8
 ·rw [if_pos q8]
  obtain ⟨h1, h2, _⟩ := Cl.flush mi cl
  exact ⟨h1, fun h => absurd h.2 no, fun j hj => by rw [if_neg (fun z => no z.2.2)]; exact h2 j hj⟩
 rw [if_neg q8]
 by_cases q9 : kd = 9
 ·rw [if_pos q9]
  exact ⟨cl, fun h => absurd h.2 no, fun j hj => by rw [if_neg (fun z => no z.2.2)]⟩
 rw [if_neg q9]
 exact ⟨cl, fun h => absurd h.2 no, fun j hj => by rw [if_neg (fun z => no z.2.2)]⟩
end
def Is (m : MC) (X : List (List UInt8)) : Prop := X.length = 9 ∧ ∀ i, i < 9 → X.getD i default = toS (m.cont 2 i)
theorem Vn {n t : Nat} {c : Ca} {L : List Nat} (z : Siz 9 2 n) (h : CaI 9 2 n t [] c L) (i : Nat) {X : List (List UInt8)} (hX : Is (Z6 c L) X) {Z : Option Bool} (hz : Z = some true) :
  ((Q7.f c (i : Int)).bind fun r => if decide (r.2 = 0) = true then (if 0 ≤ (i : Int) ∧ (i : Int) < (X.length : Int) then (if (!decide (toS r.1 = gt X (i : Int))) = true then some false else Z) else none) else Z) = some true := by
 subst hz
 rw [Zfd z h i, Option.bind_some]
 cases e : (Z6 c L).fr i with
 | none => rw [MC.read_no e]; rw [if_neg (by decide)]
 | some x =>
  by_cases p : x.p = 0
  ·rw [MC.read_out e p]; rw [if_neg (by decide)]
  ·have hi := (h.mi.len i x e).1
   have hl := hX.1
   rw [MC.read_hit e p, if_pos (decide_eq_true rfl), if_pos (by omega), Yd, hX.2 i hi, MC.cont_at e, if_neg (by simp)]
theorem Is.put {m m' : MC} {X : List (List UInt8)} (h : Is m X) {i : Nat} {b : List Int} (hi : i < 9) (hc : ∀ j, j < 9 → m'.cont 2 j = if j = i then b else m.cont 2 j) : Is m' (X.set i (toS b)) := by
 refine ⟨by rw [List.length_set]; exact h.1, fun j hj => ?_⟩
 have hl := h.1
 rw [Yk (by omega), hc j hj]
 by_cases q : j = i
 ·rw [if_pos q, if_pos q.symm]
 ·rw [if_neg q, if_neg (fun e => q e.symm)]; exact h.2 j hj
theorem Is.same {m m' : MC} {X : List (List UInt8)} (h : Is m X) (hc : ∀ j, j < 9 → m'.cont 2 j = m.cont 2 j) : Is m' X := ⟨h.1, fun j hj => by rw [hc j hj]; exact h.2 j hj⟩
theorem Zd1 {n t : Nat} {c c' : Ca} {L : List Nat} (z : Siz 9 2 n) (h : CaI 9 2 n t [] c L) (h' : CaI 9 2 n t [] c' L) (ha : Z6 c' L = (Z6 c L).flush 9 2) (cl : (Z6 c L).Cl 2) {X : List (List UInt8)} (hX : Is (Z6 c L) X) {k : Nat} (hk : 100 < k) : X = Lb c'.1.2.1 9 2 ∧ Q2.f k c' = some [] := by
 obtain ⟨d1, d2, d3⟩ := Cl.flush h.mi cl
 rw [← ha] at d1 d2 d3
 have hX' := hX.same d2
 constructor
 ·apply List.ext_getElem
  ·rw [hX'.1, W7]
  ·intro i h1 h2
   have hi : i < 9 := by have := hX'.1; omega
   have e1 := hX'.2 i hi
   have e2 := Zbd (img := c'.1.2.1) (n := 2) hi
   rw [List.getD_eq_getElem?_getD, List.getElem?_eq_getElem h1, Option.getD_some] at e1
   rw [List.getD_eq_getElem?_getD, List.getElem?_eq_getElem h2, Option.getD_some] at e2
   rw [e1, e2]
   cases e : (Z6 c' L).fr i with
   | none => rw [MC.cont_no e]; rfl
   | some x =>
    have hd := d3 i hi
    unfold MC.isD at hd
    rw [e] at hd
    rw [MC.cont_at e, d1 i x e hd]; rfl
 ·rw [Zbb z h' hk, Zfl h']
  have : (Z6 c' L).dirty 9 = [] := List.filter_eq_nil_iff.2 fun j hj => by rw [d3 j (List.mem_range.1 hj)]; simp
  rw [this]; rfl
theorem Zbn {n t : Nat} {c : Ca} {L : List Nat} (h : CaI 9 2 n t [] c L) : ∀ (q j k : Nat) (x : List UInt8), j + q = 9 → q + 400 < k → x = ((Lb c.1.2.1 9 2).take j).flatten → (∀ k, 100 < k → Q2.f k c = some []) → Q51.l4 k (0, c) (Lb c.1.2.1 9 2) x (j : Int) = some true
 | _, _, 0, _, _, hk, _, _ => by omega
 | 0, j, k + 1, x, hj, hk, hx, hd => by
  have dim : c.1.2.1.length = 9 * 2 := h.dim
  obtain ⟨k2, rfl⟩ : ∃ k2, k = k2 + 300 := ⟨k - 300, by omega⟩
  rw [Q51.l4, if_neg (by simp only [decide_eq_true_eq]; omega), show Q27.f (0, c).2.1 = some c.1.2.1 from Zb2 (by rw [dim]; omega), Option.bind_some, hx]
  have : (Lb c.1.2.1 9 2).take j = Lb c.1.2.1 9 2 := List.take_of_length_le (by rw [W7]; omega)
  rw [this, J8 dim, if_pos (by simp), show Q2.f (k2 + 300) (0, c).2 = some [] from hd _ (by omega), Option.bind_some, if_pos (by decide), J2, Option.bind_some]
 | q + 1, j, k + 1, x, hj, hk, hx, hd => by
  have dim : c.1.2.1.length = 9 * 2 := h.dim
  have hl := W7 c.1.2.1 9 2
  have hxl : x.length ≤ 18 := by
   rw [hx]
   have h1 : ((Lb c.1.2.1 9 2).take j).flatten.length + ((Lb c.1.2.1 9 2).drop j).flatten.length = (Lb c.1.2.1 9 2).flatten.length := by rw [← List.length_append, ← List.flatten_append, List.take_append_drop]
   rw [J8 dim, Vi, dim] at h1
   omega
  have hg : (gt (Lb c.1.2.1 9 2) (j : Int)) = toS (blk c.1.2.1 2 j) := by rw [Yd]; exact Zbd (by omega)
  have hbl : (blk c.1.2.1 2 j).length = 2 := Wt dim (by omega)
  rw [Q51.l4, if_pos (decide_eq_true (by omega)), if_pos (by rw [hl]; omega), if_pos (by rw [hg, Vi]; omega), Xr (by omega)]
  refine Zbn h q (j + 1) k _ (by omega) (by omega) ?_ hd
  rw [hx, Yd, List.take_add_one, List.flatten_append, List.getD_eq_getElem?_getD, List.getElem?_eq_getElem (by rw [hl]; omega)]
  simp
theorem Zbl {n t : Nat} {c : Ca} {L : List Nat} (h : CaI 9 2 n t [] c L) : ∀ (q j k : Nat) (x : List UInt8), j + q = 9 → q + 400 < k → x = ((Lb c.1.2.1 9 2).take j).flatten → (∀ k, 100 < k → Q2.f k c = some []) → Q51.l5 k (0, c) (Lb c.1.2.1 9 2) x (j : Int) = some true
 | _, _, 0, _, _, hk, _, _ => by omega
 | 0, j, k + 1, x, hj, hk, hx, hd => by
  have dim : c.1.2.1.length = 9 * 2 := h.dim
  obtain ⟨k2, rfl⟩ : ∃ k2, k = k2 + 300 := ⟨k - 300, by omega⟩
  rw [Q51.l5, if_neg (by simp only [decide_eq_true_eq]; omega), show Q27.f (0, c).2.1 = some c.1.2.1 from Zb2 (by rw [dim]; omega), Option.bind_some, hx]
  have : (Lb c.1.2.1 9 2).take j = Lb c.1.2.1 9 2 := List.take_of_length_le (by rw [W7]; omega)
  rw [this, J8 dim, if_pos (by simp), show Q2.f (k2 + 300) (0, c).2 = some [] from hd _ (by omega), Option.bind_some, if_pos (by decide), J2, Option.bind_some]
 | q + 1, j, k + 1, x, hj, hk, hx, hd => by
  have dim : c.1.2.1.length = 9 * 2 := h.dim
  have hl := W7 c.1.2.1 9 2
  have hxl : x.length ≤ 18 := by
   rw [hx]
   have h1 : ((Lb c.1.2.1 9 2).take j).flatten.length + ((Lb c.1.2.1 9 2).drop j).flatten.length = (Lb c.1.2.1 9 2).flatten.length := by rw [← List.length_append, ← List.flatten_append, List.take_append_drop]
   rw [J8 dim, Vi, dim] at h1
   omega
  have hg : (gt (Lb c.1.2.1 9 2) (j : Int)) = toS (blk c.1.2.1 2 j) := by rw [Yd]; exact Zbd (by omega)
  have hbl : (blk c.1.2.1 2 j).length = 2 := Wt dim (by omega)
  rw [Q51.l5, if_pos (decide_eq_true (by omega)), if_pos (by rw [hl]; omega), if_pos (by rw [hg, Vi]; omega), Xr (by omega)]
  refine Zbl h q (j + 1) k _ (by omega) (by omega) ?_ hd
  rw [hx, Yd, List.take_add_one, List.flatten_append, List.getD_eq_getElem?_getD, List.getElem?_eq_getElem (by rw [hl]; omega)]
  simp
theorem Gm {n : Nat} (hn1 : 1 ≤ n) (hn2 : n ≤ 64) {l : List (Int × Int × List Int)} (hl : Ty.fit (Xw tt) (.slice 102 (.pair (.int .i64) (.pair (.int .u32) (.slice 5 (.int .u8))))) l) : ∀ (q j k : Nat) (c : Ca) (L : List Nat) (X : List (List UInt8)), j + q = 80 → q + 1000 < k → CaI 9 2 n j [] c L → (Z6 c L).Cl 2 → Is (Z6 c L) X → 0 ≤ c.1.2.2.1 ∧ c.1.2.2.1 ≤ j → 0 ≤ c.1.2.2.2 ∧ c.1.2.2.2 ≤ 100 * j →
  Q51.l3 k l c.1.1 c.1.2.1 c.1.2.2.1 c.1.2.2.2 c.2.1 c.2.2.1 c.2.2.2.1 c.2.2.2.2.1 c.2.2.2.2.2 X (j : Int) = some true
 | _, _, 0, _, _, _, _, hk, _, _, _, _, _ => by omega
 | q, j, k + 1, c, L, X, hj, hk, h, cl, hX, hr, hw => by
  have z : Siz 9 2 n := Zfg hn1 hn2
  obtain ⟨k2, rfl⟩ : ∃ k2, k = k2 + 300 := ⟨k - 300, by omega⟩
  have fw : Few c := ⟨⟨hr.1, by omega⟩, ⟨hw.1, by omega⟩⟩
  obtain ⟨cF, eF, hF, aF⟩ := Zd0 z h fw (k := k2 + 300) (by omega)
  have hE := fun k hk => Zd1 z h hF aF cl hX (k := k) hk
  have hXE := (hE 101 (by omega)).1
  have hDE : ∀ k, 100 < k → Q2.f k cF = some [] := fun k hk => (hE k hk).2
  rw [Q51.l3]
  by_cases q1 : j < l.length
  ·rw [if_pos (decide_eq_true (by omega))]
   by_cases q2 : j < 80
   ·obtain ⟨m, rfl⟩ : ∃ m, q = m + 1 := ⟨q - 1, by omega⟩
    have hin : l.getD j default ∈ l := Uz q1
    obtain ⟨i, hi1, hi2⟩ := Zhj hl hin
    have hact : l.getD j default = ((l.getD j default).1, (i : Int), (l.getD j default).2.2) := by rw [← hi1]
    rw [if_pos (decide_eq_true (by omega)), if_pos (by omega), Yd, hact]
    generalize (l.getD j default).1 = kd
    generalize (l.getD j default).2.2 = b
    dsimp only
    by_cases q7 : kd = 7
    ·rw [if_pos (decide_eq_true q7), Xr (by omega)]
     exact Gm hn1 hn2 hl m (j + 1) (k2 + 300) c L X (by omega) (by omega) (h.mono (by omega)) cl hX ⟨by omega, by omega⟩ ⟨by omega, by omega⟩
    obtain ⟨c', L', e, h', ea⟩ := Zgy z h fw (by omega) kd i hi2 b (k := k2 + 300) (by omega)
    obtain ⟨r0, c0, e0, hc⟩ := Zhb z h fw (by omega) kd i hi2 b (k := k2 + 300) (by omega)
    rw [e] at e0
    simp only [Option.some.injEq, Prod.mk.injEq] at e0
    have e02 := e0.2
    subst e02
    have hcr := hc.rd
    have hcw := hc.wr
    have b1 : cR kd ≤ 1 := by unfold cR; split <;> omega
    have b2 : cW n kd ≤ 64 := by unfold cW; split <;> (try split) <;> omega
    obtain ⟨a1, a2, a3⟩ := Cl.act h.mi cl kd q7 i b
    rw [← ea] at a1 a3
    have ih := fun X hX => Gm hn1 hn2 hl m (j + 1) (k2 + 300) c' L' X (by omega) (by omega) h' a1 hX ⟨by omega, by omega⟩ ⟨by omega, by omega⟩
    have hX9 := hX.1
    generalize ((Z6 c L).act 9 2 n kd i b).1 = r at *
    rw [if_neg (by simpa using q7), show Q53.f (k2 + 300) ((c.1.1, c.1.2.1, (c.1.2.2.1, c.1.2.2.2)), c.2.1, c.2.2.1, c.2.2.2.1, (c.2.2.2.2.1, c.2.2.2.2.2)) (kd, (i : Int), b) = _ from e, Option.bind_some]
    dsimp only
    rw [Xr (by omega)]
    by_cases qr : r = 0
    ·rw [if_pos (decide_eq_true qr)]
     by_cases q2 : kd = 2
     ·have hi9 := a2 ⟨qr, .inl q2⟩
      have hX' : Is (Z6 c' L') (X.set i (toS [0, 0])) := hX.put hi9 fun j hj => by
       rw [a3 j hj]
       by_cases qj : j = i
       ·rw [if_pos ⟨qr, qj, .inl q2⟩, if_pos q2, if_pos qj]; rfl
       ·rw [if_neg (fun z => qj z.2.1), if_neg qj]
      rw [if_pos (decide_eq_true q2), if_pos (by omega), if_neg (by simp; omega), if_neg (by simp; omega)]
      exact Vn z h' i hX' (ih _ hX')
     ·rw [if_neg (by simpa using q2)]
      by_cases q5 : kd = 5
      ·have hi9 := a2 ⟨qr, .inr (.inl q5)⟩
       have hX' : Is (Z6 c' L') (X.set i (toS b)) := hX.put hi9 fun j hj => by
        rw [a3 j hj]
        by_cases qj : j = i
        ·rw [if_pos ⟨qr, qj, .inr (.inl q5)⟩, if_neg q2, if_pos qj]
        ·rw [if_neg (fun z => qj z.2.1), if_neg qj]
       rw [if_pos (decide_eq_true q5), if_pos (by omega)]
       exact Vn z h' i hX' (ih _ hX')
      ·rw [if_neg (by simpa using q5)]
       by_cases q6 : kd = 6
       ·have hi9 := a2 ⟨qr, .inr (.inr q6)⟩
        have hX' : Is (Z6 c' L') (X.set i (toS b)) := hX.put hi9 fun j hj => by
         rw [a3 j hj]
         by_cases qj : j = i
         ·rw [if_pos ⟨qr, qj, .inr (.inr q6)⟩, if_neg q2, if_pos qj]
         ·rw [if_neg (fun z => qj z.2.1), if_neg qj]
        rw [if_pos (decide_eq_true q6), if_pos (by omega)]
        exact Vn z h' i hX' (ih _ hX')
       ·have hX' : Is (Z6 c' L') X := hX.same fun j hj => by rw [a3 j hj, if_neg (fun z => z.2.2.elim q2 fun z => z.elim q5 q6)]
        rw [if_neg (by simpa using q6)]
        exact Vn z h' i hX' (ih _ hX')
    ·have hX' : Is (Z6 c' L') X := hX.same fun j hj => by rw [a3 j hj, if_neg (fun z => qr z.1)]
     rw [if_neg (by simpa using qr)]
     exact Vn z h' i hX' (ih _ hX')
   ·rw [if_neg (by simp only [decide_eq_true_eq]; omega), show Q4.f (k2 + 300) ((c.1.1, c.1.2.1, (c.1.2.2.1, c.1.2.2.2)), c.2.1, c.2.2.1, c.2.2.2.1, (c.2.2.2.2.1, c.2.2.2.2.2)) = _ from eF, Option.bind_some, if_neg (by simp), hXE]
    exact Zbn hF 9 0 (k2 + 300) _ (by omega) (by omega) (by simp) hDE
  ·rw [if_neg (by simp only [decide_eq_true_eq]; omega), show Q4.f (k2 + 300) ((c.1.1, c.1.2.1, (c.1.2.2.1, c.1.2.2.2)), c.2.1, c.2.2.1, c.2.2.2.1, (c.2.2.2.2.1, c.2.2.2.2.2)) = _ from eF, Option.bind_some, if_neg (by simp), hXE]
   exact Zbl hF 9 0 (k2 + 300) _ (by omega) (by omega) (by simp) hDE
theorem Zbx {n : Nat} {a : Int} (hn1 : 1 ≤ n) (hn2 : n ≤ 64) (ha : w64 (1 + (Int.tmod (w64 a) 6)) = (n : Int)) {l : List (Int × Int × List Int)} (hl : Ty.fit (Xw tt) (.slice 102 (.pair (.int .i64) (.pair (.int .u32) (.slice 5 (.int .u8))))) l) {img : List Int} (him : img.length = 9 * 2) {ch : Chn} (hc : ChI n ch []) : ∀ (q j k : Nat) (X : List (List UInt8)), j + q = 9 → q + 1200 < k → X.length = 9 → (∀ i, i < j → X.getD i default = toS (blk img 2 i)) →
  Q51.l2 k a l (2, img, 0, 0) ch img ((List.range n).map fun (i : Nat) => (i : Int)) X (j : Int) = some true
 | _, _, 0, _, _, hk, _, _ => by omega
 | 0, j, k + 1, X, hj, hk, h9, hX => by
  have z : Siz 9 2 n := Zfg hn1 hn2
  have h0 := Zgr (B := 2) z him (0, 0) hc
  have hf : ∀ i, Yz ((((2 : Nat) : Int), img, (0, 0)), List.replicate n (0, [], false, 0), [], (List.range n).map (fun (i : Nat) => (i : Int)), ch) i = none := fun i => Wd (by simp)
  rw [Q51.l2, if_neg (by simp only [decide_eq_true_eq]; omega), ha, Int.toNat_natCast]
  refine Gm hn1 hn2 hl 80 0 k _ [] X (by omega) (by omega) h0 (fun i x hx => by have := (hf i).symm.trans hx; cases this) ⟨h9, fun i hi => ?_⟩ (by dsimp only; omega) (by dsimp only; omega)
  rw [hX i (by omega)]
  exact congrArg toS (Eq.symm (MC.cont_no (hf i)))
 | q + 1, j, k + 1, X, hj, hk, h9, hX => by
  have e1 : w64 (2 * (j : Int)) = ((2 * j : Nat) : Int) := by rw [Yg (by omega) (by omega)]; omega
  have e2 : w64 (((2 * j : Nat) : Int) + 2) = ((2 * j + 2 : Nat) : Int) := by rw [Yg (by omega) (by omega)]; omega
  have e3 : (img.drop (2 * j)).take (2 * j + 2 - 2 * j) = blk img 2 j := by
   unfold blk
   rw [Nat.mul_comm j 2, show 2 * j + 2 - 2 * j = 2 by omega]
  rw [Q51.l2, if_pos (decide_eq_true (by omega)), e1, e2, if_pos (by omega), if_pos (by omega), Int.toNat_natCast, Int.toNat_natCast, Int.toNat_natCast, e3, Xr (by omega)]
  refine Zbx hn1 hn2 ha hl him hc q (j + 1) k _ (by omega) (by omega) (by rw [List.length_set]; exact h9) fun i hi => ?_
  rw [Yk (by omega)]
  by_cases qi : j = i
  ·rw [if_pos qi, qi]
  ·rw [if_neg qi]; exact hX i (by omega)
theorem Zby {n : Nat} {a : Int} (hn1 : 1 ≤ n) (hn2 : n ≤ 64) (ha : w64 (1 + (Int.tmod (w64 a) 6)) = (n : Int)) {l : List (Int × Int × List Int)} (hl : Ty.fit (Xw tt) (.slice 102 (.pair (.int .i64) (.pair (.int .u32) (.slice 5 (.int .u8))))) l) {img : List Int} (him : img.length = 9 * 2) {ch : Chn} (hc : ChI n ch []) : ∀ (m j k : Nat), j + m = n → m + 1300 < k →
  Q51.l1 k a l (2, img, 0, 0) ch img ((List.range j).map fun (i : Nat) => (i : Int)) (j : Int) = some true
 | _, _, 0, _, hk => by omega
 | 0, j, k + 1, hj, hk => by
  have e : j = n := by omega
  subst e
  rw [Q51.l1, ha, if_neg (by simp)]
  exact Zbx hn1 hn2 ha hl him hc 9 0 k _ (by omega) (by omega) (by simp) fun i hi => by omega
 | m + 1, j, k + 1, hj, hk => by
  rw [Q51.l1, ha, if_pos (decide_eq_true (by omega)), if_pos (by simp; omega), Xr (by omega)]
  have := Zby hn1 hn2 ha hl him hc m (j + 1) k (by omega) (by omega)
  rw [List.range_succ, List.map_append] at this
  exact this
theorem Gp {n : Nat} {a : Int} (hn1 : 1 ≤ n) (hn2 : n ≤ 64) (ha : w64 (1 + (Int.tmod (w64 a) 6)) = (n : Int)) {l : List (Int × Int × List Int)} (hl : Ty.fit (Xw tt) (.slice 102 (.pair (.int .i64) (.pair (.int .u32) (.slice 5 (.int .u8))))) l) : ∀ (m k : Nat) (img : List Int), img.length + m = 18 → m + 1500 < k →
  Q51.l0 k a l img = some true
 | _, 0, _, _, hk => by omega
 | 0, k + 1, img, hj, hk => by
  have him : img.length = 9 * 2 := by omega
  obtain ⟨ch, e, hc⟩ := Zhg (n := n) hn1 hn2
  have hb := V3 (s := (0, 0)) (n := 2) (by omega) him (by omega)
  rw [Q51.l0, if_neg (by simp only [decide_eq_true_eq]; omega), show Q31.f 2 img = _ from Zfr (n := 2) him (by omega) (by omega), Option.bind_some]
  dsimp only [V2]
  rw [if_pos (by simp), hb, Option.bind_some, if_neg (by decide), ha, if_neg (by simp only [decide_eq_true_eq]; omega), if_neg (by simp only [decide_eq_true_eq]; omega), e, Option.bind_some]
  dsimp only [V2]
  rw [if_pos (by simp), if_pos (by omega)]
  exact Zby hn1 hn2 ha hl him hc n 0 k (by omega) (by omega)
 | m + 1, k + 1, img, hj, hk => by
  rw [Q51.l0, if_pos (decide_eq_true (by omega)), if_pos (by simp; omega)]
  exact Gp hn1 hn2 ha hl m k _ (by simp; omega) (by omega)
theorem CacheReads_pure (a : Int) (l : List (Int × Int × List Int)) (img : List Int) (ha : Ty.fit (Xw tt) (.int .u8) a) (hl : Ty.fit (Xw tt) (.slice 102 (.pair (.int .i64) (.pair (.int .u32) (.slice 5 (.int .u8))))) l) (him : Ty.fit (Xw tt) (.slice 5 (.int .u8)) img) : ∃ k, Q51.f k a l img = some true := by
 have ha2 : 0 ≤ a ∧ a ≤ 255 := by
  simp [Ty.fit, Lit.wf] at ha
  have h1 : IntKind.u8.min = 0 := rfl
  have h2 : IntKind.u8.max = 255 := rfl
  omega
 obtain ⟨x, rfl⟩ := Int.eq_ofNat_of_zero_le ha2.1
 have hn : w64 (1 + (Int.tmod (w64 (x : Int)) 6)) = ((1 + x % 6 : Nat) : Int) := by
  rw [Yg (x := (x : Int)) (by omega) (by omega), show Int.tmod (x : Int) 6 = ((x % 6 : Nat) : Int) from rfl, Yg (by omega) (by omega)]; omega
 have h6 : x % 6 < 6 := Nat.mod_lt _ (by omega)
 have key : ∀ q : Nat, q ≤ img.length → (List.take q img).length = q := fun q hq => by rw [List.length_take]; omega
 refine ⟨3000, ?_⟩
 unfold Q51.f
 by_cases q : 18 < (img.length : Int)
 ·rw [if_pos q, if_pos (by omega)]
  have e : (18 : Int).toNat = 18 := rfl
  rw [e, if_pos (by rw [key 18 (by omega)]; decide)]
  exact Gp (by omega) (by omega) hn hl 0 3000 _ (by rw [List.nil_append, key 18 (by omega)]) (by omega)
 ·rw [if_neg q, if_pos (by omega), Int.toNat_natCast, if_pos (by rw [key _ (Nat.le_refl _)]; simp only [List.length_nil]; omega)]
  exact Gp (by omega) (by omega) hn hl (18 - img.length) 3000 _ (by rw [List.nil_append, key _ (Nat.le_refl _)]; omega) (by omega)
end Go.SK.T
