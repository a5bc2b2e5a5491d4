/- The plain law behind CacheCosts: what its code computes is true for all frames and calls. -/
import Derived.Test.YtoemkinhdomnpaaXCacheCostsF8
import Derived.KernelRfl
set_option linter.unusedVariables false
set_option linter.unusedSimpArgs false
namespace Go.SK.T
open Go Go.SK
abbrev Lnk := Int × Int × Bool
abbrev Chn := List Lnk × Int
def ah (l : List Lnk) (k : Nat) : Int := (l.getD k default).1
def bh (l : List Lnk) (k : Nat) : Int := (l.getD k default).2.1
def inn (l : List Lnk) (k : Nat) : Bool := (l.getD k default).2.2
theorem getD_set {α : Type} {l : List α} {j k : Nat} {v d : α} (hj : j < l.length) : (l.set j v).getD k d = if j = k then v else l.getD k d := by
  rw [List.getD_eq_getElem?_getD, List.getD_eq_getElem?_getD, List.getElem?_set]
  split
  · rename_i h
    subst h
    simp [hj]
  · rfl
def Lk (l : List Lnk) (a b : Nat) : Prop := bh l a = (b : Int) ∧ ah l b = (a : Int)
def SegO (l : List Lnk) : Nat → List Nat → Prop
  | _, [] => True
  | a, x :: L => Lk l a x ∧ SegO l x L
def lastN : Nat → List Nat → Nat
  | a, [] => a
  | _, x :: L => lastN x L
theorem segO_app {l : List Lnk} : ∀ {a : Nat} {X Y : List Nat}, SegO l a (X ++ Y) ↔ SegO l a X ∧ SegO l (lastN a X) Y
  | a, [], Y => by simp [SegO, lastN]
  | a, x :: X, Y => by
    rw [List.cons_append, SegO, SegO, lastN, segO_app, and_assoc]
theorem lastN_mem : ∀ {a : Nat} {L : List Nat}, lastN a L ∈ a :: L
  | a, [] => by simp [lastN]
  | a, x :: L => by
    rw [lastN]
    have := lastN_mem (a := x) (L := L)
    simp only [List.mem_cons] at this ⊢
    rcases this with h | h
    · exact .inr (.inl h)
    · exact .inr (.inr h)
theorem segO_keep {l l' : List Lnk} : ∀ {a : Nat} {L : List Nat}, (∀ x ∈ (a :: L).dropLast, bh l' x = bh l x) → (∀ y ∈ L, ah l' y = ah l y) → SegO l a L → SegO l' a L
  | a, [], _, _, _ => trivial
  | a, x :: L, h1, h2, h => by
    rw [SegO] at h ⊢
    refine ⟨⟨?_, ?_⟩, segO_keep (fun y hy => h1 y ?_) (fun y hy => h2 y (by simp [hy])) h.2⟩
    · rw [h1 a (by simp)]; exact h.1.1
    · rw [h2 x (by simp)]; exact h.1.2
    · rw [List.dropLast_cons_of_ne_nil (by simp)]
      exact List.mem_cons_of_mem _ hy
structure ChI (n : Nat) (c : Chn) (L : List Nat) : Prop where
  len : c.1.length = n + 1
  cnt : c.2 = (L.length : Int)
  nd : L.Nodup
  lt : ∀ x ∈ L, x < n
  inn : ∀ x, x ≤ n → (inn c.1 x = true ↔ x ∈ L)
  ring : SegO c.1 n (L ++ [n])
theorem nodup_lt : ∀ {n : Nat} {L : List Nat}, L.Nodup → (∀ x ∈ L, x < n) → L.length ≤ n
  | 0, [], _, _ => Nat.le_refl _
  | 0, x :: L, _, h => by have := h x (by simp); omega
  | n + 1, L, hd, h => by
    have := nodup_lt (n := n) (hd.erase n) fun x hx => by
      have h1 := h x (List.mem_of_mem_erase hx)
      have h2 := (hd.mem_erase_iff.1 hx).1
      omega
    rw [List.length_erase] at this
    split at this <;> omega
theorem ChI.short {n : Nat} {c : Chn} {L : List Nat} (h : ChI n c L) : L.length ≤ n := nodup_lt h.nd h.lt
theorem dropLast_lastN : ∀ {a : Nat} {L : List Nat}, (a :: L).Nodup → ∀ x ∈ (a :: L).dropLast, x ≠ lastN a L
  | a, [], _, x, hx => by simp at hx
  | a, y :: L, hd, x, hx => by
    rw [List.dropLast_cons_of_ne_nil (by simp), List.mem_cons] at hx
    rw [lastN]
    rcases hx with rfl | hx
    · exact fun e => (List.nodup_cons.1 hd).1 (e ▸ lastN_mem)
    · exact dropLast_lastN (List.nodup_cons.1 hd).2 x hx
theorem gtl (l : List Lnk) (k : Nat) : gt l (k : Int) = (ah l k, bh l k, SK.T.inn l k) := by
  rw [gt_nat]; rfl
section
variable {n : Nat} {c : Chn} {L : List Nat}
theorem ChI.split (h : ChI n c L) {i : Nat} (hi : i ∈ L) : ∃ (P S : List Nat) (s : Nat) (T : List Nat), L = P ++ i :: S ∧ S ++ [n] = s :: T ∧ SegO c.1 n P ∧ Lk c.1 (lastN n P) i ∧ Lk c.1 i s ∧ SegO c.1 s T ∧ lastN n P ≤ n ∧ s ≤ n := by
  obtain ⟨P, S, rfl⟩ := List.append_of_mem hi
  obtain ⟨s, T, e⟩ : ∃ s T, S ++ [n] = s :: T := by
    cases S with
    | nil => exact ⟨n, [], rfl⟩
    | cons x S => exact ⟨x, S ++ [n], rfl⟩
  have hr := h.ring
  rw [List.append_assoc, List.cons_append, segO_app, SegO, e, SegO] at hr
  refine ⟨P, S, s, T, rfl, e, hr.1, hr.2.1, hr.2.2.1, hr.2.2.2, ?_, ?_⟩
  · have := lastN_mem (a := n) (L := P)
    rcases List.mem_cons.1 this with h1 | h1
    · omega
    · have := h.lt _ (List.mem_append_left _ h1); omega
  · have : s ∈ S ++ [n] := by rw [e]; simp
    rcases List.mem_append.1 this with h1 | h1
    · have := h.lt s (by simp [h1]); omega
    · simp at h1; omega
theorem outP (h : ChI n c L) {i : Nat} (hi : i ∈ L) (hn : n ≤ 1000) : ∃ c', Q19.f c (i : Int) = some c' ∧ ChI n c' (L.erase i) := by
  obtain ⟨P, S, s, T, e1, e2, r1, r2, r3, r4, hp, hs⟩ := h.split hi
  have hin := h.lt i hi
  have hlen := h.len
  generalize hpe : lastN n P = p at *
  have ei : SK.T.inn c.1 i = true := (h.inn i (by omega)).2 hi
  have nd : (P ++ i :: S).Nodup := e1 ▸ h.nd
  have nd2 := List.nodup_append.1 nd
  have ndS := (List.nodup_cons.1 nd2.2.1)
  have hnP : n ∉ P := fun hx => by have := h.lt n (by rw [e1]; simp [hx]); omega
  have hnS : n ∉ S := fun hx => by have := h.lt n (by rw [e1]; simp [hx]); omega
  have hiP : i ∉ P := fun hx => nd2.2.2 i hx i (by simp) rfl
  have hpi : p ≠ i := fun e => by
    have : p ∈ n :: P := hpe ▸ lastN_mem
    rcases List.mem_cons.1 this with h1 | h1
    · omega
    · exact hiP (e ▸ h1)
  have hsi : s ≠ i := fun e => by
    have : s ∈ S ++ [n] := by rw [e2]; simp
    rcases List.mem_append.1 this with h1 | h1
    · exact ndS.1 (e ▸ h1)
    · simp at h1; omega
  have a1 : (gt c.1 (i : Int)).1 = (p : Int) := by rw [gtl]; exact r2.2
  have a2 : (gt c.1 (i : Int)).2.1 = (s : Int) := by rw [gtl]; exact r3.1
  have a3 : (gt c.1 (i : Int)).2.2 = true := by rw [gtl]; exact ei
  unfold Q19.f
  rw [if_pos (by omega), a3, if_neg (by simp), a1, a2, if_pos (by omega), if_pos (by rw [List.length_set]; omega), if_pos (by rw [List.length_set, List.length_set]; omega)]
  simp only [Int.toNat_natCast, gtl]
  generalize hl1 : c.1.set p (ah c.1 p, (s : Int), SK.T.inn c.1 p) = l1
  have hl1l : l1.length = n + 1 := by rw [← hl1, List.length_set, hlen]
  generalize hl2 : l1.set s ((p : Int), bh l1 s, SK.T.inn l1 s) = l2
  have hl2l : l2.length = n + 1 := by rw [← hl2, List.length_set, hl1l]
  have g1 : ∀ k, l1.getD k default = if p = k then (ah c.1 p, (s : Int), SK.T.inn c.1 p) else c.1.getD k default := fun k => by rw [← hl1]; exact getD_set (by omega)
  have g2 : ∀ k, l2.getD k default = if s = k then ((p : Int), bh l1 s, SK.T.inn l1 s) else l1.getD k default := fun k => by rw [← hl2]; exact getD_set (by omega)
  have g3 : ∀ k, (l2.set i (0, 0, false)).getD k default = if i = k then (0, 0, false) else l2.getD k default := fun k => getD_set (by omega)
  have b1 : ∀ k, bh l1 k = if p = k then (s : Int) else bh c.1 k := fun k => by unfold bh; rw [g1 k]; split <;> rfl
  have n1 : ∀ k, SK.T.inn l1 k = SK.T.inn c.1 k := fun k => by
    show (l1.getD k default).2.2 = _
    rw [g1 k]; split
    · rename_i e; rw [← e]
    · rfl
  have c1 : ∀ k, ah l1 k = ah c.1 k := fun k => by
    show (l1.getD k default).1 = _
    rw [g1 k]; split
    · rename_i e; rw [← e]
    · rfl
  have b3 : ∀ k, k ≠ i → bh (l2.set i (0, 0, false)) k = if p = k then (s : Int) else bh c.1 k := fun k hk => by
    show ((l2.set i (0, 0, false)).getD k default).2.1 = _
    rw [g3 k, if_neg (Ne.symm hk), g2 k]
    split
    · rename_i e; rw [← e]; exact b1 s
    · exact b1 k
  have c3 : ∀ k, k ≠ i → ah (l2.set i (0, 0, false)) k = if s = k then (p : Int) else ah c.1 k := fun k hk => by
    show ((l2.set i (0, 0, false)).getD k default).1 = _
    rw [g3 k, if_neg (Ne.symm hk), g2 k]
    split
    · rfl
    · exact c1 k
  have n3 : ∀ k, SK.T.inn (l2.set i (0, 0, false)) k = if i = k then false else SK.T.inn c.1 k := fun k => by
    show ((l2.set i (0, 0, false)).getD k default).2.2 = _
    rw [g3 k]
    split
    · rfl
    · rw [g2 k]
      split
      · rename_i e; rw [← e]; exact n1 s
      · exact n1 k
  have el : L.erase i = P ++ S := by
    rw [e1, List.erase_append_right _ hiP, List.erase_cons_head]
  refine ⟨_, rfl, ⟨by rw [List.length_set, hl2l], ?_, ?_, ?_, ?_, ?_⟩⟩
  · rw [el, h.cnt, e1]
    have := h.short
    rw [e1] at this
    simp only [List.length_append, List.length_cons] at this ⊢
    rw [w64_id (by omega) (by omega)]; omega
  · exact h.nd.erase i
  · exact fun x hx => h.lt x (List.mem_of_mem_erase hx)
  · intro x hx
    rw [n3 x, h.nd.mem_erase_iff]
    split
    · rename_i e; simp [e]
    · rename_i e
      rw [h.inn x hx]
      exact ⟨fun g => ⟨fun e' => e e'.symm, g⟩, fun g => g.2⟩
  · rw [el, List.append_assoc, e2, segO_app, hpe, SegO]
    have hTs : ∀ y ∈ T, y ≠ s ∧ y ≠ i := fun y hy => by
      have hnd : (S ++ [n]).Nodup := List.nodup_append.2 ⟨ndS.2, by simp, fun a ha b hb e => by simp at hb; exact hnS (hb ▸ e ▸ ha)⟩
      rw [e2] at hnd
      refine ⟨fun e => (List.nodup_cons.1 hnd).1 (e ▸ hy), fun e => ?_⟩
      have : y ∈ S ++ [n] := by rw [e2]; simp [hy]
      rcases List.mem_append.1 this with h1 | h1
      · exact ndS.1 (e ▸ h1)
      · simp at h1; omega
    have hsT : ∀ x ∈ (s :: T).dropLast, x ≠ p ∧ x ≠ i := fun x hx => by
      rw [← e2, List.dropLast_concat] at hx
      refine ⟨fun e => ?_, fun e => ndS.1 (e ▸ hx)⟩
      have : p ∈ n :: P := hpe ▸ lastN_mem
      rcases List.mem_cons.1 this with h1 | h1
      · exact hnS (h1 ▸ e ▸ hx)
      · exact nd2.2.2 p h1 x (by simp [hx]) e.symm
    have hPp : ∀ x ∈ (n :: P).dropLast, x ≠ p ∧ x ≠ i := fun x hx => by
      have hnd : (n :: P).Nodup := List.nodup_cons.2 ⟨hnP, nd2.1⟩
      refine ⟨hpe ▸ dropLast_lastN hnd x hx, fun e => ?_⟩
      have := List.dropLast_subset _ hx
      rcases List.mem_cons.1 this with h1 | h1
      · omega
      · exact hiP (e ▸ h1)
    have hPs : ∀ y ∈ P, y ≠ s ∧ y ≠ i := fun y hy => by
      refine ⟨fun e => ?_, fun e => hiP (e ▸ hy)⟩
      have : s ∈ S ++ [n] := by rw [e2]; simp
      rcases List.mem_append.1 this with h1 | h1
      · exact nd2.2.2 y hy s (by simp [h1]) e
      · simp at h1; exact hnP (h1 ▸ e ▸ hy)
    refine ⟨segO_keep (fun x hx => by rw [b3 x (hPp x hx).2, if_neg (Ne.symm (hPp x hx).1)]) (fun y hy => by rw [c3 y (hPs y hy).2, if_neg (Ne.symm (hPs y hy).1)]) r1, ⟨by rw [b3 p hpi, if_pos rfl], by rw [c3 s hsi, if_pos rfl]⟩,
      segO_keep (fun x hx => by rw [b3 x (hsT x hx).2, if_neg (Ne.symm (hsT x hx).1)]) (fun y hy => by rw [c3 y (hTs y hy).2, if_neg (Ne.symm (hTs y hy).1)]) r4⟩
theorem thereP (h : ChI n c L) {i : Nat} (hi : i < n) (hn : n ≤ 1000) : Q22.f c (i : Int) = some 0 := by
  have hlen := h.len
  unfold Q22.f Q21.f
  dsimp only
  rw [if_neg (by simp only [decide_eq_true_eq]; omega), if_neg (by simp only [decide_eq_true_eq]; omega), Option.bind_some, w64_id (by omega) (by omega), if_neg (by simp only [decide_eq_true_eq]; omega)]
theorem cutP (h : ChI n c L) {i : Nat} (hi : i < n) (hn : n ≤ 1000) : ∃ r c', Q15.f c (i : Int) = some (r, c') ∧ ChI n c' (L.erase i) := by
  have hlen := h.len
  unfold Q15.f
  rw [show Q22.f (c.1, c.2) (i : Int) = _ from thereP h hi hn, Option.bind_some, if_neg (by simp), if_pos (by omega), gtl]
  by_cases hm : i ∈ L
  · rw [if_neg (by simp [(h.inn i (by omega)).2 hm])]
    obtain ⟨c', e, h'⟩ := outP h hm hn
    rw [show Q19.f (c.1, c.2) (i : Int) = _ from e, Option.bind_some]
    exact ⟨_, _, rfl, h'⟩
  · have : SK.T.inn c.1 i = false := by
      cases q : SK.T.inn c.1 i with
      | false => rfl
      | true => exact absurd ((h.inn i (by omega)).1 q) hm
    rw [if_pos (by simp [this])]
    exact ⟨_, _, rfl, by rw [List.erase_of_not_mem hm]; exact h⟩
theorem putP (h : ChI n c L) {i : Nat} (hi : i < n) (hm : i ∉ L) (hn : n ≤ 1000) : ∃ c', Q20.f c (i : Int) (n : Int) = some c' ∧ ChI n c' (i :: L) := by
  have hlen := h.len
  have hsh := h.short
  have hnL : n ∉ L := fun hx => by have := h.lt n hx; omega
  obtain ⟨s, T, e⟩ : ∃ s T, L ++ [n] = s :: T := by
    cases L with
    | nil => exact ⟨n, [], rfl⟩
    | cons x S => exact ⟨x, S ++ [n], rfl⟩
  have hr := h.ring
  rw [e, SegO] at hr
  have hs : s ≤ n := by
    have : s ∈ L ++ [n] := by rw [e]; simp
    rcases List.mem_append.1 this with h1 | h1
    · have := h.lt s h1; omega
    · simp at h1; omega
  have hsi : s ≠ i := fun q => by
    have : s ∈ L ++ [n] := by rw [e]; simp
    rcases List.mem_append.1 this with h1 | h1
    · exact hm (q ▸ h1)
    · simp at h1; omega
  have a2 : (gt c.1 (n : Int)).2.1 = (s : Int) := by rw [gtl]; exact hr.1.1
  unfold Q20.f
  rw [if_pos (by omega), if_pos (by omega), if_pos (by rw [List.length_set]; omega), a2, if_pos (by rw [List.length_set, List.length_set]; omega)]
  simp only [Int.toNat_natCast, gtl]
  generalize hl1 : c.1.set i ((n : Int), (s : Int), true) = l1
  have hl1l : l1.length = n + 1 := by rw [← hl1, List.length_set, hlen]
  generalize hl2 : l1.set n (ah l1 n, (i : Int), SK.T.inn l1 n) = l2
  have hl2l : l2.length = n + 1 := by rw [← hl2, List.length_set, hl1l]
  have g1 : ∀ k, l1.getD k default = if i = k then ((n : Int), (s : Int), true) else c.1.getD k default := fun k => by rw [← hl1]; exact getD_set (by omega)
  have g2 : ∀ k, l2.getD k default = if n = k then (ah l1 n, (i : Int), SK.T.inn l1 n) else l1.getD k default := fun k => by rw [← hl2]; exact getD_set (by omega)
  have g3 : ∀ k, (l2.set s ((i : Int), bh l2 s, SK.T.inn l2 s)).getD k default = if s = k then ((i : Int), bh l2 s, SK.T.inn l2 s) else l2.getD k default := fun k => getD_set (by omega)
  have b2 : ∀ k, bh l2 k = if n = k then (i : Int) else if i = k then (s : Int) else bh c.1 k := fun k => by
    show (l2.getD k default).2.1 = _
    rw [g2 k]
    split
    · rfl
    · rw [g1 k]; split <;> rfl
  have c2 : ∀ k, ah l2 k = if i = k then (n : Int) else ah c.1 k := fun k => by
    show (l2.getD k default).1 = _
    rw [g2 k]
    split
    · rename_i q
      rw [← q, if_neg (by omega)]
      show (l1.getD n default).1 = _
      rw [g1 n, if_neg (by omega)]; rfl
    · rw [g1 k]; split <;> rfl
  have n2 : ∀ k, SK.T.inn l2 k = if i = k then true else SK.T.inn c.1 k := fun k => by
    show (l2.getD k default).2.2 = _
    rw [g2 k]
    split
    · rename_i q
      rw [← q, if_neg (by omega)]
      show (l1.getD n default).2.2 = _
      rw [g1 n, if_neg (by omega)]; rfl
    · rw [g1 k]; split <;> rfl
  have b3 : ∀ k, bh (l2.set s ((i : Int), bh l2 s, SK.T.inn l2 s)) k = bh l2 k := fun k => by
    show ((l2.set s ((i : Int), bh l2 s, SK.T.inn l2 s)).getD k default).2.1 = _
    rw [g3 k]; split
    · rename_i q; rw [← q]
    · rfl
  have c3 : ∀ k, ah (l2.set s ((i : Int), bh l2 s, SK.T.inn l2 s)) k = if s = k then (i : Int) else ah l2 k := fun k => by
    show ((l2.set s ((i : Int), bh l2 s, SK.T.inn l2 s)).getD k default).1 = _
    rw [g3 k]; split <;> rfl
  have n3 : ∀ k, SK.T.inn (l2.set s ((i : Int), bh l2 s, SK.T.inn l2 s)) k = SK.T.inn l2 k := fun k => by
    show ((l2.set s ((i : Int), bh l2 s, SK.T.inn l2 s)).getD k default).2.2 = _
    rw [g3 k]; split
    · rename_i q; rw [← q]
    · rfl
  refine ⟨_, rfl, ⟨by rw [List.length_set, hl2l], ?_, List.nodup_cons.2 ⟨hm, h.nd⟩, ?_, ?_, ?_⟩⟩
  · rw [h.cnt, List.length_cons, w64_id (by omega) (by omega)]; omega
  · intro x hx
    rcases List.mem_cons.1 hx with q | q
    · omega
    · exact h.lt x q
  · intro x hx
    rw [n3 x, n2 x, List.mem_cons]
    split
    · rename_i q; simp [q]
    · rename_i q
      rw [h.inn x hx]
      exact ⟨fun g => .inr g, fun g => g.elim (fun e' => absurd e'.symm q) id⟩
  · rw [List.cons_append, SegO, e, SegO]
    have hnd : (L ++ [n]).Nodup := List.nodup_append.2 ⟨h.nd, by simp, fun a ha b hb q => by simp at hb; exact hnL (hb ▸ q ▸ ha)⟩
    rw [e] at hnd
    refine ⟨⟨by rw [b3, b2, if_pos rfl], by rw [c3, if_neg hsi, c2, if_pos rfl]⟩, ⟨by rw [b3, b2, if_neg (by omega), if_pos rfl], by rw [c3, if_pos rfl]⟩, segO_keep (fun x hx => ?_) (fun y hy => ?_) hr.2⟩
    · rw [← e, List.dropLast_concat] at hx
      rw [b3, b2, if_neg (fun q : n = x => hnL (q ▸ hx)), if_neg (fun q : i = x => hm (q ▸ hx))]
    · have hyL : y ∈ L ++ [n] := by rw [e]; simp [hy]
      have hyi : i ≠ y := fun q => by
        rcases List.mem_append.1 hyL with h1 | h1
        · exact hm (q ▸ h1)
        · simp at h1; omega
      rw [c3, if_neg (fun q : s = y => (List.nodup_cons.1 hnd).1 (q ▸ hy)), c2, if_neg hyi]
theorem frontP (h : ChI n c L) {i : Nat} (hi : i < n) (hm : i ∉ L) (hn : n ≤ 1000) : ∃ c', Q16.f c (i : Int) = some (0, c') ∧ ChI n c' (i :: L) := by
  have hlen := h.len
  have hf : SK.T.inn c.1 i = false := by
    cases q : SK.T.inn c.1 i with
    | false => rfl
    | true => exact absurd ((h.inn i (by omega)).1 q) hm
  have ho : Q19.f (c.1, c.2) (i : Int) = some c := by
    unfold Q19.f
    dsimp only
    rw [if_pos (by omega), gtl, if_pos (by simp [hf])]
  obtain ⟨c', e, h'⟩ := putP h hi hm hn
  unfold Q16.f Q21.f
  rw [show Q22.f (c.1, c.2) (i : Int) = _ from thereP h hi hn, Option.bind_some, if_pos (by simp), ho, Option.bind_some, Option.bind_some]
  dsimp only
  rw [show w64 ((c.1.length : Int) - 1) = (n : Int) by rw [w64_id (by omega) (by omega)]; omega, show Q20.f (c.1, c.2) (i : Int) (n : Int) = _ from e, Option.bind_some]
  exact ⟨_, rfl, h'⟩
theorem lastP_nil (h : ChI n c []) : Q17.f c = some (0, false) := by
  have := h.cnt
  unfold Q17.f Q18.f
  rw [Option.bind_some, if_pos (by simp [this])]
theorem lastP {q : Nat} (h : ChI n c (L ++ [q])) (hn : n ≤ 1000) : Q17.f c = some ((q : Int), true) := by
  have hcnt := h.cnt
  have hlen := h.len
  unfold Q17.f Q18.f Q21.f
  have hr := h.ring
  rw [List.append_assoc, List.cons_append, List.nil_append, segO_app, SegO, SegO] at hr
  have : ah c.1 n = (q : Int) := hr.2.2.1.2
  rw [Option.bind_some, if_neg (by simp [hcnt]; omega), Option.bind_some, show w64 ((c.1.length : Int) - 1) = (n : Int) by rw [w64_id (by omega) (by omega)]; omega, if_pos (by omega), gtl, this]
theorem newP (hn : 1 ≤ n) (h64 : n ≤ 64) : ∃ c', Q23.f (n : Int) = some (some c', 0) ∧ ChI n c' [] := by
  unfold Q23.f
  have e : (w64 ((n : Int) + 1)) = ((n + 1 : Nat) : Int) := by rw [w64_id (by omega) (by omega)]; omega
  rw [if_neg (by simp only [decide_eq_true_eq]; omega), if_neg (by simp only [decide_eq_true_eq]; omega), e, if_pos (by omega), Int.toNat_natCast, if_pos (by rw [List.length_replicate]; omega), Int.toNat_natCast]
  have g : ∀ k, ((List.replicate (n + 1) ((0, 0, false) : Lnk)).set n ((n : Int), (n : Int), false)).getD k default = if n = k then ((n : Int), (n : Int), false) else (List.replicate (n + 1) ((0, 0, false) : Lnk)).getD k default := fun k => getD_set (by rw [List.length_replicate]; omega)
  refine ⟨_, rfl, ⟨by simp, rfl, by simp, by simp, fun x hx => ?_, ?_⟩⟩
  · show (_ : Lnk).2.2 = true ↔ _
    rw [g x]
    split
    · simp
    · rw [List.getD_eq_getElem?_getD, List.getElem?_replicate, if_pos (by omega)]; simp
  · rw [List.nil_append, SegO, SegO]
    refine ⟨⟨?_, ?_⟩, trivial⟩
    · show (_ : Lnk).2.1 = _
      rw [g n, if_pos rfl]
    · show (_ : Lnk).1 = _
      rw [g n, if_pos rfl]
end
abbrev Dv := Int × List Int × (Int × Int)
def blk (img : List Int) (n i : Nat) : List Int := (img.drop (i * n)).take n
theorem blk_in {N n i : Nat} (h : i < N) : i * n + n ≤ N * n := by
  have := Nat.mul_le_mul_right n h
  rw [Nat.succ_mul] at this
  exact this
theorem blk_length {img : List Int} {N n i : Nat} (hl : img.length = N * n) (h : i < N) : (blk img n i).length = n := by
  have := blk_in (n := n) h
  unfold blk
  rw [List.length_take, List.length_drop]
  omega
theorem patch_len {img b : List Int} {N n i : Nat} (hl : img.length = N * n) (h : i < N) : (patch img (i * n) n b).length = N * n := by
  have := blk_in (n := n) h
  rw [patch_length (by omega), hl]
theorem devBlocks {N n : Nat} {img : List Int} {s : Int × Int} (hn : 1 ≤ n) (hl : img.length = N * n) (hb : N * n ≤ 4294967296) : Q26.f ((n : Int), img, s) = some (N : Int) := by
  have hN : N ≤ 4294967296 := Nat.le_trans (Nat.le_mul_of_pos_right N hn) hb
  have e : Int.tdiv (img.length : Int) (n : Int) = N := by
    rw [hl, Int.natCast_mul]
    exact Int.mul_tdiv_cancel _ (by omega)
  unfold Q26.f
  dsimp only
  rw [if_neg (by simp only [decide_eq_true_eq]; omega), if_pos (by omega), e, w64_id (by omega) (by omega)]
theorem devAt {n i N : Nat} (hb : N * n ≤ 4294967296) (hn : 1 ≤ n) (h : i < N) : w64 (i : Int) = i ∧ w64 ((i : Int) * (n : Int)) = ((i * n : Nat) : Int) ∧ w64 (((i * n : Nat) : Int) + (n : Int)) = ((i * n + n : Nat) : Int) := by
  have h1 := blk_in (n := n) h
  have h2 : i ≤ i * n := Nat.le_mul_of_pos_right i hn
  refine ⟨w64_id (by omega) (by omega), ?_, ?_⟩
  · rw [← Int.natCast_mul]
    exact w64_id (by omega) (by omega)
  · rw [w64_id (by omega) (by omega)]
    rfl
theorem devWrite {N n i : Nat} {img b : List Int} {s : Int × Int} (hn : 1 ≤ n) (hN : 1 ≤ N) (hl : img.length = N * n) (hb : N * n ≤ 4294967296) (hi : i < 4294967296) :
    Q30.f ((n : Int), img, s) (i : Int) b = some (if N ≤ i then (4, ((n : Int), img, s)) else if b.length = n then (0, ((n : Int), patch img (i * n) n b, s.1, IntKind.u64.wrap (s.2 + 1))) else (3, ((n : Int), img, s))) := by
  have e := devBlocks (s := (s.1, s.2)) hn hl hb
  unfold Q30.f
  dsimp only
  rw [e, Option.bind_some, if_neg (by simp only [decide_eq_true_eq]; omega), Option.bind_some]
  by_cases h : N ≤ i
  · rw [w64_id (x := (i : Int)) (by omega) (by omega), if_pos (decide_eq_true (by omega)), if_pos h]
  · obtain ⟨a1, a2, a3⟩ := devAt hb hn (show i < N from by omega)
    have h1 := blk_in (n := n) (show i < N from by omega)
    rw [a1, a2, a3, if_neg (by simp only [decide_eq_true_eq]; omega), if_pos (by omega), if_neg h]
    by_cases hq : b.length = n
    · rw [if_neg (by simp only [Bool.not_eq_true', decide_eq_false_iff_not]; omega), if_pos hq]
      simp only [Int.toNat_natCast]
      rw [List.length_take, List.length_drop, show min (i * n + n - i * n) (img.length - i * n) = n from by omega]
    · rw [if_pos (by simp only [Bool.not_eq_true', decide_eq_false_iff_not]; omega), if_neg hq]
theorem clone_byte {l : List Int} (h : l.length ≤ 140737488355328) : Q33.f l = some l := by
  unfold Q33.f
  rw [if_pos (by simpa using h)]
  rfl
theorem devRead {N n i : Nat} {img : List Int} {s : Int × Int} (hn : 1 ≤ n) (hN : 1 ≤ N) (hl : img.length = N * n) (hb : N * n ≤ 4294967296) (hi : i < 4294967296) :
    Q28.f ((n : Int), img, s) (i : Int) = some (if N ≤ i then ([], 4, ((n : Int), img, s)) else (blk img n i, 0, ((n : Int), img, IntKind.u64.wrap (s.1 + 1), s.2))) := by
  have e := devBlocks (s := (s.1, s.2)) hn hl hb
  unfold Q28.f
  dsimp only
  rw [e, Option.bind_some, if_neg (by simp only [decide_eq_true_eq]; omega), Option.bind_some]
  by_cases h : N ≤ i
  · rw [w64_id (x := (i : Int)) (by omega) (by omega), if_pos (decide_eq_true (by omega)), if_pos h]
  · obtain ⟨a1, a2, a3⟩ := devAt hb hn (show i < N from by omega)
    have h1 := blk_in (n := n) (show i < N from by omega)
    rw [a1, a2, a3, if_neg (by simp only [decide_eq_true_eq]; omega), if_pos (by omega), if_neg h]
    simp only [Int.toNat_natCast]
    have hbl : (blk img n i).length = n := blk_length hl (by omega)
    have : (img.drop (i * n)).take (i * n + n - i * n) = blk img n i := by unfold blk; congr 1; omega
    have hnb : n ≤ N * n := Nat.le_mul_of_pos_left n hN
    rw [this, clone_byte (by omega), Option.bind_some]
abbrev Fr8 := Int × List Int × Bool × Int
abbrev Ca := Dv × List Fr8 × List (Int × Int) × List Int × Chn
section
variable {es : List (Int × Int)} {x v d : Int}
theorem mhas_iff : ∀ {es : List (Int × Int)}, mhas es x = true ↔ ∃ v, (x, v) ∈ es
  | [] => by simp [mhas]
  | p :: es => by
    rw [mhas]
    split
    · rename_i h
      exact ⟨fun _ => ⟨p.2, by simp [← h]⟩, fun _ => rfl⟩
    · rename_i h
      rw [mhas_iff]
      constructor
      · rintro ⟨v, hv⟩; exact ⟨v, by simp [hv]⟩
      · rintro ⟨v, hv⟩
        rcases List.mem_cons.1 hv with e | e
        · exact absurd (by rw [← e]) h
        · exact ⟨v, e⟩
theorem mget_of : ∀ {es : List (Int × Int)}, (es.map Prod.fst).Nodup → (x, v) ∈ es → mget d es x = v
  | [], _, h => by simp at h
  | p :: es, nd, h => by
    rw [List.map_cons, List.nodup_cons] at nd
    rw [mget]
    rcases List.mem_cons.1 h with e | e
    · rw [if_pos (by rw [← e]), ← e]
    · rw [if_neg (fun q => nd.1 (List.mem_map.2 ⟨_, e, by simpa using q.symm⟩)), mget_of nd.2 e]
theorem mdel_mem {p : Int × Int} : ∀ {es : List (Int × Int)}, (es.map Prod.fst).Nodup → (p ∈ mdel x es ↔ p ∈ es ∧ p.1 ≠ x)
  | [], _ => by simp [mdel]
  | q :: es, nd => by
    rw [List.map_cons, List.nodup_cons] at nd
    rw [mdel]
    split
    · rename_i h
      constructor
      · intro hp
        refine ⟨by simp [hp], fun e => nd.1 ?_⟩
        rw [h, ← e]; exact List.mem_map_of_mem hp
      · rintro ⟨hp, hne⟩
        rcases List.mem_cons.1 hp with e | e
        · exact absurd (e ▸ h) hne
        · exact e
    · rename_i h
      rw [List.mem_cons, mdel_mem nd.2, List.mem_cons]
      constructor
      · rintro (e | e)
        · exact ⟨.inl e, e ▸ h⟩
        · exact ⟨.inr e.1, e.2⟩
      · rintro ⟨e | e, hne⟩
        · exact .inl e
        · exact .inr ⟨e, hne⟩
theorem mdel_sub : ∀ {es : List (Int × Int)}, (mdel x es).Sublist es
  | [] => List.Sublist.refl _
  | q :: es => by
    rw [mdel]
    split
    · exact List.sublist_cons_self _ _
    · exact mdel_sub.cons_cons _
theorem mdel_len : ∀ {es : List (Int × Int)}, mhas es x = true → (mdel x es).length + 1 = es.length
  | [], h => by simp [mhas] at h
  | q :: es, h => by
    rw [mhas] at h
    rw [mdel]
    split
    · rfl
    · rename_i hn
      rw [if_neg hn] at h
      rw [List.length_cons, List.length_cons, mdel_len h]
theorem mput_same : ∀ {es : List (Int × Int)}, (es.map Prod.fst).Nodup → (x, v) ∈ es → mput x v es = es
  | [], _, h => by simp at h
  | p :: es, nd, h => by
    rw [List.map_cons, List.nodup_cons] at nd
    rw [mput]
    rcases List.mem_cons.1 h with e | e
    · rw [if_pos (by rw [← e]), e]
    · rw [if_neg (fun q => nd.1 (List.mem_map.2 ⟨_, e, by simpa using q.symm⟩)), mput_same nd.2 e]
end
structure Okf (N B n t : Nat) (c : Ca) (i f : Nat) : Prop where
  hi : i < N
  hf : f < n
  blk : (c.2.1.getD f default).1 = (i : Int)
  len : (c.2.1.getD f default).2.1.length = B
  pin : 0 ≤ (c.2.1.getD f default).2.2.2 ∧ (c.2.1.getD f default).2.2.2 ≤ t
  emp : (f : Int) ∉ c.2.2.2.1
structure CaI (N B n t : Nat) (H : List Nat) (c : Ca) (L : List Nat) : Prop where
  dsz : c.1.1 = (B : Int)
  dim : c.1.2.1.length = N * B
  frl : c.2.1.length = n
  mnd : (c.2.2.1.map Prod.fst).Nodup
  mok : ∀ p ∈ c.2.2.1, ∃ i f : Nat, p = ((i : Int), (f : Int)) ∧ Okf N B n t c i f
  emp : ∀ x ∈ c.2.2.2.1, ∃ f : Nat, x = (f : Int) ∧ f < n
  end_ : c.2.2.2.1.Nodup
  hol : ∀ f ∈ H, f < n ∧ (f : Int) ∉ c.2.2.2.1 ∧ ∀ i : Int, (i, (f : Int)) ∉ c.2.2.1
  tot : c.2.2.1.length + c.2.2.2.1.length + H.length = n
  chn : ChI n c.2.2.2.2 L
  lok : ∀ f : Nat, f ∈ L ↔ (∃ i : Int, (i, (f : Int)) ∈ c.2.2.1) ∧ (c.2.1.getD f default).2.2.2 = 0
section
variable {N B n t : Nat} {H : List Nat} {c : Ca} {L : List Nat}
theorem CaI.at (h : CaI N B n t H c L) {i f : Int} (hp : (i, f) ∈ c.2.2.1) : ∃ i' f' : Nat, i = (i' : Int) ∧ f = (f' : Int) ∧ Okf N B n t c i' f' := by
  obtain ⟨i', f', e, ok⟩ := h.mok _ hp
  rw [Prod.mk.injEq] at e
  exact ⟨i', f', e.1, e.2, ok⟩
theorem CaI.atN (h : CaI N B n t H c L) {i f : Nat} (hp : ((i : Int), (f : Int)) ∈ c.2.2.1) : Okf N B n t c i f := by
  obtain ⟨i', f', e1, e2, ok⟩ := h.at hp
  have : i = i' := by omega
  have : f = f' := by omega
  subst_vars
  exact ok
theorem CaI.one (h : CaI N B n t H c L) {i j f : Nat} (hi : ((i : Int), (f : Int)) ∈ c.2.2.1) (hj : ((j : Int), (f : Int)) ∈ c.2.2.1) : i = j := by
  have h1 := (h.atN hi).blk
  have h2 := (h.atN hj).blk
  omega
theorem CaI.get (h : CaI N B n t H c L) (i : Nat) : (mhas c.2.2.1 (i : Int) = false ∧ ∀ v, ((i : Int), v) ∉ c.2.2.1) ∨ ∃ f : Nat, ((i : Int), (f : Int)) ∈ c.2.2.1 ∧ mhas c.2.2.1 (i : Int) = true ∧ mget 0 c.2.2.1 (i : Int) = (f : Int) ∧ Okf N B n t c i f := by
  cases q : mhas c.2.2.1 (i : Int) with
  | false => exact .inl ⟨rfl, fun v hv => by rw [mhas_iff.2 ⟨v, hv⟩] at q; cases q⟩
  | true =>
    obtain ⟨v, hv⟩ := mhas_iff.1 q
    obtain ⟨i', f, e1, rfl, ok⟩ := h.at hv
    have : i = i' := by omega
    subst this
    exact .inr ⟨f, hv, rfl, mget_of h.mnd hv, ok⟩
theorem CaI.used (h : CaI N B n t H c L) : c.2.2.1.length ≤ n := by have := h.tot; omega
theorem CaI.mono (h : CaI N B n t H c L) {t' : Nat} (ht : t ≤ t') : CaI N B n t' H c L :=
  ⟨h.dsz, h.dim, h.frl, h.mnd, fun p hp => by
    obtain ⟨i, f, e, ok⟩ := h.mok p hp
    exact ⟨i, f, e, ok.hi, ok.hf, ok.blk, ok.len, ⟨ok.pin.1, by have := ok.pin.2; omega⟩, ok.emp⟩, h.emp, h.end_, h.hol, h.tot, h.chn, h.lok⟩
theorem CaI.dev (h : CaI N B n t H c L) {img : List Int} (hl : img.length = N * B) (s : Int × Int) : CaI N B n t H ((c.1.1, img, s), c.2) L :=
  ⟨h.dsz, hl, h.frl, h.mnd, fun p hp => by
    obtain ⟨i, f, e, ok⟩ := h.mok p hp
    exact ⟨i, f, e, ok.hi, ok.hf, ok.blk, ok.len, ok.pin, ok.emp⟩, h.emp, h.end_, h.hol, h.tot, h.chn, h.lok⟩
theorem CaI.setfr (h : CaI N B n t H c L) {i f : Nat} (ha : ((i : Int), (f : Int)) ∈ c.2.2.1) {x : Fr8} (h1 : x.1 = (i : Int)) (h2 : x.2.1.length = B) {t' : Nat} (h3 : 0 ≤ x.2.2.2 ∧ x.2.2.2 ≤ t') (ht : t ≤ t') {ch : Chn} {L' : List Nat} (hc : ChI n ch L')
    (hL : ∀ g, g ∈ L' ↔ if g = f then x.2.2.2 = 0 else g ∈ L) : CaI N B n t' H (c.1, c.2.1.set f x, c.2.2.1, c.2.2.2.1, ch) L' := by
  have ok := h.atN ha
  have hfl : f < c.2.1.length := by rw [h.frl]; exact ok.hf
  have g : ∀ k, (c.2.1.set f x).getD k default = if f = k then x else c.2.1.getD k default := fun k => getD_set hfl
  refine ⟨h.dsz, h.dim, by rw [List.length_set, h.frl], h.mnd, fun p hp => ?_, h.emp, h.end_, h.hol, h.tot, hc, fun k => ?_⟩
  · obtain ⟨j, k, e, okk⟩ := h.mok p hp
    refine ⟨j, k, e, okk.hi, okk.hf, ?_, ?_, ?_, okk.emp⟩
    all_goals
      show _
      dsimp only
      rw [g k]
      split
    · rename_i q
      subst q
      have : i = j := h.one ha (by rw [← e]; exact hp)
      subst this; exact h1
    · exact okk.blk
    · exact h2
    · exact okk.len
    · exact h3
    · exact ⟨okk.pin.1, by have := okk.pin.2; omega⟩
  · rw [hL k]
    dsimp only
    rw [g k]
    by_cases q : k = f
    · subst q
      rw [if_pos rfl, if_pos rfl]
      exact ⟨fun e => ⟨⟨_, ha⟩, e⟩, fun e => e.2⟩
    · rw [if_neg q, if_neg (Ne.symm q)]
      exact h.lok k
theorem CaI.leave (h : CaI N B n t [] c L) {i f : Nat} (ha : ((i : Int), (f : Int)) ∈ c.2.2.1) (hn : n ≤ 64) {ch : Chn} (hc : ChI n ch (L.erase f)) : CaI N B n t [] (c.1, c.2.1.set f (0, [], false, 0), mdel (i : Int) c.2.2.1, c.2.2.2.1 ++ [(f : Int)], ch) (L.erase f) := by
  have ok := h.atN ha
  have hfl : f < c.2.1.length := by rw [h.frl]; exact ok.hf
  have g : ∀ k, (c.2.1.set f (0, [], false, 0)).getD k default = if f = k then (0, [], false, 0) else c.2.1.getD k default := fun k => getD_set hfl
  have hne : ∀ {j k : Nat}, ((j : Int), (k : Int)) ∈ c.2.2.1 → (j : Int) ≠ (i : Int) → f ≠ k := fun {j k} hjk hji e => by
    subst e
    exact hji (by rw [h.one ha hjk])
  refine ⟨h.dsz, h.dim, by rw [List.length_set, h.frl], (mdel_sub.map _).nodup h.mnd, fun p hp => ?_, fun x hx => ?_, ?_, by simp, ?_, hc, fun k => ?_⟩
  · rw [mdel_mem h.mnd] at hp
    obtain ⟨j, k, e, okk⟩ := h.mok p hp.1
    have hjk : ((j : Int), (k : Int)) ∈ c.2.2.1 := by rw [← e]; exact hp.1
    have hk : f ≠ k := hne hjk (by rw [e] at hp; exact hp.2)
    refine ⟨j, k, e, okk.hi, okk.hf, ?_, ?_, ?_, ?_⟩
    · dsimp only; rw [g k, if_neg hk]; exact okk.blk
    · dsimp only; rw [g k, if_neg hk]; exact okk.len
    · dsimp only; rw [g k, if_neg hk]; exact okk.pin
    · dsimp only
      rw [List.mem_append, List.mem_singleton]
      rintro (q | q)
      · exact okk.emp q
      · exact hk (by omega)
  · rcases List.mem_append.1 hx with q | q
    · exact h.emp x q
    · rw [List.mem_singleton] at q; exact ⟨f, q, ok.hf⟩
  · exact List.nodup_append.2 ⟨h.end_, by simp, fun a hb b hb' e => by rw [List.mem_singleton] at hb'; exact ok.emp (hb' ▸ e ▸ hb)⟩
  · have h1 := h.tot
    have h2 := mdel_len (mhas_iff.2 ⟨_, ha⟩)
    simp only [List.length_append, List.length_singleton, List.length_nil] at h1 ⊢
    omega
  · rw [h.chn.nd.mem_erase_iff]
    dsimp only
    rw [g k]
    constructor
    · rintro ⟨hk, hkL⟩
      obtain ⟨⟨j, hj⟩, hp⟩ := (h.lok k).1 hkL
      rw [if_neg (Ne.symm hk)]
      obtain ⟨j', k', e1, e2, okk⟩ := h.at hj
      refine ⟨⟨j, (mdel_mem h.mnd).2 ⟨hj, fun e => hk ?_⟩⟩, hp⟩
      have h1 : mget 0 c.2.2.1 (i : Int) = (f : Int) := mget_of h.mnd ha
      have h2 : mget 0 c.2.2.1 (i : Int) = (k : Int) := mget_of h.mnd (by rw [← show j = (i : Int) from e]; exact hj)
      omega
    · rintro ⟨⟨j, hj⟩, hp⟩
      rw [mdel_mem h.mnd] at hj
      obtain ⟨j', k', e1, e2, okk⟩ := h.at hj.1
      have hk : f ≠ k := hne (j := j') (by rw [← e1]; exact hj.1) (by rw [← e1]; exact hj.2)
      rw [if_neg hk] at hp
      exact ⟨Ne.symm hk, (h.lok k).2 ⟨⟨j, hj.1⟩, hp⟩⟩
theorem CaI.take (h : CaI N B n t [] c L) {E : List Int} {f : Nat} (he : c.2.2.2.1 = E ++ [(f : Int)]) : CaI N B n t [f] (c.1, c.2.1, c.2.2.1, E, c.2.2.2.2) L := by
  have hnd := h.end_
  rw [he] at hnd
  have hnd2 := List.nodup_append.1 hnd
  refine ⟨h.dsz, h.dim, h.frl, h.mnd, fun p hp => ?_, fun x hx => h.emp x (by rw [he]; simp [hx]), hnd2.1, fun g hg => ?_, ?_, h.chn, h.lok⟩
  · obtain ⟨i, k, e, ok⟩ := h.mok p hp
    exact ⟨i, k, e, ok.hi, ok.hf, ok.blk, ok.len, ok.pin, fun q => ok.emp (by rw [he]; simp [show (k : Int) ∈ E from q])⟩
  · rw [List.mem_singleton] at hg
    subst hg
    refine ⟨?_, fun q => hnd2.2.2 _ q (g : Int) (by simp) rfl, fun i hi => ?_⟩
    · obtain ⟨f', e, hf⟩ := h.emp (g : Int) (by rw [he]; simp)
      omega
    · obtain ⟨j, k, e1, e2, ok⟩ := h.at hi
      exact ok.emp (by rw [← e2, he]; simp)
  · have h1 := h.tot
    rw [he] at h1
    simp only [List.length_append, List.length_singleton, List.length_nil] at h1 ⊢
    omega
theorem CaI.come {f : Nat} (h : CaI N B n t [f] c L) {i : Nat} (hi : i < N) (hno : ∀ v, ((i : Int), v) ∉ c.2.2.1) {x : Fr8} (h1 : x.1 = (i : Int)) (h2 : x.2.1.length = B) (h3 : x.2.2.2 = 1) (ht : 1 ≤ t) {ch : Chn} (hc : ChI n ch L) :
    CaI N B n t [] (c.1, c.2.1.set f x, c.2.2.1 ++ [((i : Int), (f : Int))], c.2.2.2.1, ch) L := by
  obtain ⟨hf, hfe, hfm⟩ := h.hol f (by simp)
  have hfl : f < c.2.1.length := by rw [h.frl]; exact hf
  have g : ∀ k, (c.2.1.set f x).getD k default = if f = k then x else c.2.1.getD k default := fun k => getD_set hfl
  have hne : ∀ {j : Int} {k : Nat}, (j, (k : Int)) ∈ c.2.2.1 → f ≠ k := fun {j k} hjk e => hfm j (by rw [e]; exact hjk)
  refine ⟨h.dsz, h.dim, by rw [List.length_set, h.frl], ?_, fun p hp => ?_, h.emp, h.end_, by simp, ?_, hc, fun k => ?_⟩
  · dsimp only
    rw [List.map_append, List.nodup_append]
    refine ⟨h.mnd, by simp, fun a ha b hb e => ?_⟩
    obtain ⟨p, hp, rfl⟩ := List.mem_map.1 ha
    simp only [List.map_cons, List.map_nil, List.mem_singleton] at hb
    exact hno p.2 (by rw [← hb, ← e]; exact hp)
  · rcases List.mem_append.1 hp with q | q
    · obtain ⟨j, k, e, okk⟩ := h.mok p q
      have hk : f ≠ k := hne (j := (j : Int)) (by rw [← e]; exact q)
      refine ⟨j, k, e, okk.hi, okk.hf, ?_, ?_, ?_, okk.emp⟩
      · dsimp only; rw [g k, if_neg hk]; exact okk.blk
      · dsimp only; rw [g k, if_neg hk]; exact okk.len
      · dsimp only; rw [g k, if_neg hk]; exact okk.pin
    · rw [List.mem_singleton] at q
      refine ⟨i, f, q, hi, hf, ?_, ?_, ?_, hfe⟩
      · dsimp only; rw [g f, if_pos rfl]; exact h1
      · dsimp only; rw [g f, if_pos rfl]; exact h2
      · dsimp only; rw [g f, if_pos rfl, h3]; omega
  · have h1 := h.tot
    simp only [List.length_append, List.length_singleton, List.length_nil] at h1 ⊢
    omega
  · dsimp only
    rw [g k]
    constructor
    · intro hk
      obtain ⟨⟨j, hj⟩, hp⟩ := (h.lok k).1 hk
      rw [if_neg (hne hj)]
      exact ⟨⟨j, by simp [hj]⟩, hp⟩
    · rintro ⟨⟨j, hj⟩, hp⟩
      rcases List.mem_append.1 hj with q | q
      · rw [if_neg (hne q)] at hp
        exact (h.lok k).2 ⟨⟨j, q⟩, hp⟩
      · rw [List.mem_singleton, Prod.mk.injEq] at q
        have : f = k := by omega
        rw [if_pos this, h3] at hp
        omega
end
structure Siz (N B n : Nat) : Prop where
  hB : 1 ≤ B
  hN : 1 ≤ N
  hNB : N * B ≤ 4294967296
  hn : 1 ≤ n
  h64 : n ≤ 64
section
variable {N B n t : Nat} {H : List Nat} {c : Ca} {L : List Nat}
theorem Siz.N_le (z : Siz N B n) : N ≤ 4294967296 := Nat.le_trans (Nat.le_mul_of_pos_right N z.hB) z.hNB
theorem Siz.B_le (z : Siz N B n) : B ≤ 4294967296 := Nat.le_trans (Nat.le_mul_of_pos_left B z.hN) z.hNB
theorem leaveP (z : Siz N B n) (h : CaI N B n t [] c L) {i f : Nat} (ha : ((i : Int), (f : Int)) ∈ c.2.2.1) : ∃ ch, Q11.f c (f : Int) = some (c.1, c.2.1.set f (0, [], false, 0), mdel (i : Int) c.2.2.1, c.2.2.2.1 ++ [(f : Int)], ch) ∧ CaI N B n t [] (c.1, c.2.1.set f (0, [], false, 0), mdel (i : Int) c.2.2.1, c.2.2.2.1 ++ [(f : Int)], ch) (L.erase f) := by
  have ok := h.atN ha
  have h64 := z.h64
  obtain ⟨r, ch, e, hc⟩ := cutP h.chn ok.hf (by omega)
  have hfl := h.frl
  have htot := h.tot
  have hf := ok.hf
  refine ⟨ch, ?_, h.leave ha h64 hc⟩
  unfold Q11.f
  rw [if_pos (by omega), show Q15.f (c.2.2.2.2.1, c.2.2.2.2.2) (f : Int) = _ from e, Option.bind_some, if_pos (by simp only [List.length_singleton]; omega), show (gt c.2.1 (f : Int)).1 = (i : Int) by rw [gt_nat]; exact ok.blk, Int.toNat_natCast]
theorem writeP (z : Siz N B n) (h : CaI N B n t H c L) {i f : Nat} (ha : ((i : Int), (f : Int)) ∈ c.2.2.1) : Q30.f c.1 (gt c.2.1 (f : Int)).1 (gt c.2.1 (f : Int)).2.1 = some (0, c.1.1, patch c.1.2.1 (i * B) B (gt c.2.1 (f : Int)).2.1, c.1.2.2.1, IntKind.u64.wrap (c.1.2.2.2 + 1)) := by
  have ok := h.atN ha
  have hi := ok.hi
  have hNl := z.N_le
  rw [show (gt c.2.1 (f : Int)).1 = (i : Int) by rw [gt_nat]; exact ok.blk]
  have := devWrite (b := (gt c.2.1 (f : Int)).2.1) (s := c.1.2.2) z.hB z.hN h.dim z.hNB (show i < 4294967296 by omega)
  rw [← h.dsz] at this
  rw [show Q30.f c.1 (i : Int) (gt c.2.1 (f : Int)).2.1 = _ from this, if_neg (by omega), if_pos (by rw [gt_nat]; exact ok.len)]
theorem CaI.back (z : Siz N B n) (h : CaI N B n t H c L) {i f : Nat} (ha : ((i : Int), (f : Int)) ∈ c.2.2.1) (s : Int × Int) : CaI N B n t H ((c.1.1, patch c.1.2.1 (i * B) B (gt c.2.1 (f : Int)).2.1, s), c.2.1.set f ((gt c.2.1 (f : Int)).1, (gt c.2.1 (f : Int)).2.1, false, (gt c.2.1 (f : Int)).2.2.2), c.2.2) L := by
  have ok := h.atN ha
  have g : gt c.2.1 (f : Int) = c.2.1.getD f default := gt_nat _ _
  have h1 := h.setfr ha (x := ((gt c.2.1 (f : Int)).1, (gt c.2.1 (f : Int)).2.1, false, (gt c.2.1 (f : Int)).2.2.2)) (by rw [g]; exact ok.blk) (by rw [g]; exact ok.len) (by rw [g]; exact ok.pin) (Nat.le_refl t) h.chn (fun k => by
    split
    · rename_i q
      subst q
      rw [h.lok k, g]
      exact ⟨fun e => e.2, fun e => ⟨⟨_, ha⟩, e⟩⟩
    · exact Iff.rfl)
  exact h1.dev (patch_len h.dim ok.hi) s
theorem roomP (z : Siz N B n) (h : CaI N B n t [] c L) (hw : 0 ≤ c.1.2.2.2 ∧ c.1.2.2.2 ≤ 1000000000) : Q13.f c = some (0, false, c) ∨
    ∃ (f : Nat) (c' : Ca) (L' : List Nat), Q13.f c = some ((f : Int), true, c') ∧ CaI N B n t [f] c' L' ∧ c'.1.2.2.1 = c.1.2.2.1 ∧ (c.1.2.2.2 ≤ c'.1.2.2.2 ∧ c'.1.2.2.2 ≤ c.1.2.2.2 + 1) ∧ ∀ p ∈ c'.2.2.1, p ∈ c.2.2.1 := by
  have h64 := z.h64
  have htot := h.tot
  have hfl := h.frl
  have wr : IntKind.u64.wrap (c.1.2.2.2 + 1) = c.1.2.2.2 + 1 := by
    obtain ⟨m, hm⟩ := Int.eq_ofNat_of_zero_le hw.1
    have : c.1.2.2.2 + 1 = ((m + 1 : Nat) : Int) := by omega
    rw [this]
    simp [IntKind.wrap, IntKind.bits, IntKind.signed]
    omega
  by_cases he : c.2.2.2.1 = []
  · have e0 : (decide ((c.2.2.2.1.length : Int) = 0)) = true := by rw [he]; rfl
    rcases List.eq_nil_or_concat L with rfl | ⟨L0, q, hq⟩
    · left
      unfold Q13.f
      rw [if_pos e0, show Q17.f (c.2.2.2.2.1, c.2.2.2.2.2) = _ from lastP_nil h.chn, Option.bind_some, if_pos (by simp)]
    · right
      rw [List.concat_eq_append] at hq
      subst hq
      obtain ⟨⟨j, hj⟩, hp⟩ := (h.lok q).1 (by simp)
      obtain ⟨i, q', rfl, e2, ok⟩ := h.at hj
      have : q = q' := by omega
      subst this
      have hf := ok.hf
      unfold Q13.f
      rw [if_pos e0, show Q17.f (c.2.2.2.2.1, c.2.2.2.2.2) = _ from lastP h.chn (by omega), Option.bind_some, if_neg (by simp)]
      dsimp only
      rw [if_pos (by omega)]
      have one : w64 ((([] ++ [(q : Int)] : List Int).length : Int) - 1) = 0 := by
        show w64 (((1 : Nat) : Int) - 1) = 0
        decide
      by_cases hd : (gt c.2.1 (q : Int)).2.2.1 = true
      · have hb := h.back z hj (c.1.2.2.1, c.1.2.2.2 + 1)
        obtain ⟨ch, e, hl⟩ := leaveP z hb (by exact hj)
        rw [if_pos hd, show Q30.f (c.1.1, c.1.2.1, (c.1.2.2.1, c.1.2.2.2)) (gt c.2.1 (q : Int)).1 (gt c.2.1 (q : Int)).2.1 = _ from writeP z h hj, Option.bind_some]
        dsimp only
        rw [wr, Int.toNat_natCast, show Q11.f ((c.1.1, patch c.1.2.1 (i * B) B (gt c.2.1 (q : Int)).2.1, c.1.2.2.1, c.1.2.2.2 + 1), c.2.1.set q ((gt c.2.1 (q : Int)).1, (gt c.2.1 (q : Int)).2.1, false, (gt c.2.1 (q : Int)).2.2.2), c.2.2.1, c.2.2.2.1, c.2.2.2.2.1, c.2.2.2.2.2) (q : Int) = _ from e, Option.bind_some]
        dsimp only
        rw [he, one, if_pos (by simp), if_pos (by simp)]
        refine ⟨q, _, _, rfl, hl.take (E := []) (by dsimp only; rw [he]), rfl, by dsimp only; omega, fun p hp => mdel_sub.subset hp⟩
      · obtain ⟨ch, e, hl⟩ := leaveP z h hj
        rw [if_neg hd, show Q11.f ((c.1.1, c.1.2.1, (c.1.2.2.1, c.1.2.2.2)), c.2.1, c.2.2.1, c.2.2.2.1, (c.2.2.2.2.1, c.2.2.2.2.2)) (q : Int) = _ from e, Option.bind_some]
        dsimp only
        rw [he, one, if_pos (by simp), if_pos (by simp)]
        refine ⟨q, _, _, rfl, hl.take (E := []) (by dsimp only; rw [he]), rfl, by dsimp only; omega, fun p hp => mdel_sub.subset hp⟩
  · right
    obtain ⟨E, x, hx⟩ : ∃ E x, c.2.2.2.1 = E ++ [x] := by
      rcases List.eq_nil_or_concat c.2.2.2.1 with e | ⟨E, x, e⟩
      · exact absurd e he
      · exact ⟨E, x, by rw [e, List.concat_eq_append]⟩
    obtain ⟨f, rfl, hf⟩ := h.emp x (by rw [hx]; simp)
    have hll : c.2.2.2.1.length = E.length + 1 := by rw [hx]; simp
    have e1 : w64 ((c.2.2.2.1.length : Int) - 1) = (E.length : Int) := by rw [w64_id (by omega) (by omega)]; omega
    unfold Q13.f
    rw [if_neg (by simp only [decide_eq_true_eq]; omega), e1, if_pos (by omega), if_pos (by omega), Int.toNat_natCast]
    have e2 : gt c.2.2.2.1 (E.length : Int) = (f : Int) := by
      rw [gt_nat, hx, List.getD_eq_getElem?_getD, List.getElem?_append_right (Nat.le_refl _)]; simp
    have e3 : c.2.2.2.1.take E.length = E := by rw [hx, List.take_left]
    rw [e2, e3]
    exact ⟨f, _, _, rfl, h.take hx, rfl, by dsimp only; omega, fun p hp => hp⟩
end
section
variable {N B n t : Nat} {c : Ca} {L : List Nat}
structure Costs (N B n t : Nat) (a b : Nat) (c c' : Ca) : Prop where
  inv : ∃ L, CaI N B n t [] c' L
  rd : c.1.2.2.1 ≤ c'.1.2.2.1 ∧ c'.1.2.2.1 ≤ c.1.2.2.1 + a
  wr : c.1.2.2.2 ≤ c'.1.2.2.2 ∧ c'.1.2.2.2 ≤ c.1.2.2.2 + b
theorem Costs.same (h : CaI N B n t [] c L) (a b : Nat) : Costs N B n t a b c c := ⟨⟨L, h⟩, by omega, by omega⟩
structure Few (c : Ca) : Prop where
  rd : 0 ≤ c.1.2.2.1 ∧ c.1.2.2.1 ≤ 100000000
  wr : 0 ≤ c.1.2.2.2 ∧ c.1.2.2.2 ≤ 100000000
theorem wrapS {x : Int} (h : 0 ≤ x ∧ x ≤ 1000000000) : IntKind.u64.wrap (x + 1) = x + 1 := by
  obtain ⟨m, hm⟩ := Int.eq_ofNat_of_zero_le h.1
  have : x + 1 = ((m + 1 : Nat) : Int) := by omega
  rw [this]
  simp [IntKind.wrap, IntKind.bits, IntKind.signed]
  omega
theorem blocksP (z : Siz N B n) {H : List Nat} (h : CaI N B n t H c L) : Q26.f c.1 = some (N : Int) := by
  have := devBlocks (s := c.1.2.2) z.hB h.dim z.hNB
  rw [← h.dsz] at this
  exact this
theorem there8 (z : Siz N B n) {H : List Nat} (h : CaI N B n t H c L) (i : Nat) (hi : i < 4294967296) : Q14.f c (i : Int) = some (if N ≤ i then 4 else 0) := by
  have hN := z.N_le
  unfold Q14.f Q12.f
  rw [Option.bind_some, if_neg (by simp), show Q26.f (c.1.1, c.1.2.1, (c.1.2.2.1, c.1.2.2.2)) = _ from blocksP z h, Option.bind_some, w64_id (x := (i : Int)) (by omega) (by omega)]
  by_cases q : N ≤ i
  · rw [if_pos (decide_eq_true (by omega)), if_pos q]
  · rw [if_neg (by simp only [decide_eq_true_eq]; omega), if_neg q]
theorem readP8 (z : Siz N B n) {H : List Nat} (h : CaI N B n t H c L) {i : Nat} (hi : i < N) : Q28.f c.1 (i : Int) = some (blk c.1.2.1 B i, 0, (c.1.1, c.1.2.1, IntKind.u64.wrap (c.1.2.2.1 + 1), c.1.2.2.2)) := by
  have hN := z.N_le
  have := devRead (s := c.1.2.2) z.hB z.hN h.dim z.hNB (show i < 4294967296 by omega)
  rw [← h.dsz] at this
  rw [show Q28.f c.1 (i : Int) = _ from this, if_neg (by omega)]
theorem mput_new8 {es : List (Int × Int)} {x v : Int} (h : ∀ v, (x, v) ∉ es) : mput x v es = es ++ [(x, v)] := mput_new (by
  cases q : mhas es x with
  | false => rfl
  | true => obtain ⟨v, hv⟩ := mhas_iff.1 q; exact absurd hv (h v))
theorem lok_erase (h : CaI N B n t [] c L) {f : Nat} {p : Int} (hp : p ≠ 0) (g : Nat) : g ∈ L.erase f ↔ if g = f then p = 0 else g ∈ L := by
  rw [h.chn.nd.mem_erase_iff]
  split
  · rename_i e; exact ⟨fun q => absurd e q.1, fun q => absurd q hp⟩
  · rename_i e; exact ⟨fun q => q.2, fun q => ⟨e, q⟩⟩
theorem lok_keep (h : CaI N B n t [] c L) {i f : Nat} (ha : ((i : Int), (f : Int)) ∈ c.2.2.1) (g : Nat) : g ∈ L ↔ if g = f then (c.2.1.getD f default).2.2.2 = 0 else g ∈ L := by
  split
  · rename_i q
    subst q
    rw [h.lok g]
    exact ⟨fun e => e.2, fun e => ⟨⟨_, ha⟩, e⟩⟩
  · exact Iff.rfl
theorem pinP (z : Siz N B n) (h : CaI N B n t [] c L) (fw : Few c) (ht : t ≤ 1000000) (i : Nat) (hi : i < 4294967296) : ∃ r c', Q6.f c (i : Int) = some (r, c') ∧ Costs N B n (t + 1) 1 1 c c' := by
  have h64 := z.h64
  have hfl := h.frl
  unfold Q6.f
  rw [show Q14.f ((c.1.1, c.1.2.1, (c.1.2.2.1, c.1.2.2.2)), c.2.1, c.2.2.1, c.2.2.2.1, (c.2.2.2.2.1, c.2.2.2.2.2)) (i : Int) = _ from there8 z h i hi, Option.bind_some]
  by_cases q : N ≤ i
  · rw [if_pos q, if_pos (by simp)]
    exact ⟨_, _, rfl, Costs.same (h.mono (Nat.le_succ t)) 1 1⟩
  · rw [if_neg q, if_neg (by simp)]
    rcases h.get i with ⟨g1, g2⟩ | ⟨f, ha, g1, g2, ok⟩
    · rw [if_neg (by simp [g1])]
      rcases roomP z h ⟨fw.wr.1, by have := fw.wr.2; omega⟩ with e | ⟨f, c1, L1, e, h1, k1, k2, k3⟩
      · rw [show Q13.f ((c.1.1, c.1.2.1, (c.1.2.2.1, c.1.2.2.2)), c.2.1, c.2.2.1, c.2.2.2.1, (c.2.2.2.2.1, c.2.2.2.2.2)) = _ from e, Option.bind_some, if_pos (by simp)]
        exact ⟨_, _, rfl, Costs.same (h.mono (Nat.le_succ t)) 1 1⟩
      · obtain ⟨hf, hfe, hfm⟩ := h1.hol f (by simp)
        have hfl1 := h1.frl
        have hno : ∀ v, ((i : Int), v) ∉ c1.2.2.1 := fun v hv => g2 v (k3 _ hv)
        have hfL : f ∉ L1 := fun hx => by obtain ⟨⟨j, hj⟩, _⟩ := (h1.lok f).1 hx; exact hfm j hj
        obtain ⟨r5, ch, e5, hc5⟩ := cutP h1.chn hf (by omega)
        rw [List.erase_of_not_mem hfL] at hc5
        rw [show Q13.f ((c.1.1, c.1.2.1, (c.1.2.2.1, c.1.2.2.2)), c.2.1, c.2.2.1, c.2.2.2.1, (c.2.2.2.2.1, c.2.2.2.2.2)) = _ from e, Option.bind_some, if_neg (by simp)]
        dsimp only
        rw [show Q28.f (c1.1.1, c1.1.2.1, (c1.1.2.2.1, c1.1.2.2.2)) (i : Int) = _ from readP8 z h1 (by omega), Option.bind_some, if_neg (by simp), if_pos (by omega), show Q15.f (c1.2.2.2.2.1, c1.2.2.2.2.2) (f : Int) = _ from e5, Option.bind_some]
        have hcm := (h1.mono (Nat.le_succ t)).come (show i < N by omega) hno (x := ((i : Int), blk c1.1.2.1 B i, false, 1)) rfl (blk_length h1.dim (by omega)) rfl (by omega) hc5
        dsimp only
        rw [wrapS (by rw [k1]; have := fw.rd; omega), mput_new8 hno, Int.toNat_natCast]
        refine ⟨_, _, rfl, ⟨⟨_, hcm.dev (s := (c1.1.2.2.1 + 1, c1.1.2.2.2)) h1.dim⟩, ?_, ?_⟩⟩
        · dsimp only; omega
        · dsimp only; omega
    · have hf := ok.hf
      have hp := ok.pin
      obtain ⟨r2, ch, e2, hc2⟩ := cutP h.chn ok.hf (by omega)
      have g : gt c.2.1 (f : Int) = c.2.1.getD f default := gt_nat _ _
      have wp : w64 ((c.2.1.getD f default).2.2.2 + 1) = (c.2.1.getD f default).2.2.2 + 1 := w64_id (by omega) (by omega)
      have hs := h.setfr ha (x := ((gt c.2.1 (f : Int)).1, (gt c.2.1 (f : Int)).2.1, (gt c.2.1 (f : Int)).2.2.1, w64 ((gt c.2.1 (f : Int)).2.2.2 + 1))) (t' := t + 1) (by rw [g]; exact ok.blk) (by rw [g]; exact ok.len) (by rw [g]; dsimp only; rw [wp]; omega) (Nat.le_succ t) hc2 (lok_erase h (by rw [g]; dsimp only; rw [wp]; omega))
      rw [if_pos g1, g2, if_pos (by omega), show Q15.f (c.2.2.2.2.1, c.2.2.2.2.2) (f : Int) = _ from e2, Option.bind_some, Int.toNat_natCast]
      exact ⟨_, _, rfl, ⟨⟨_, hs⟩, by dsimp only; omega, by dsimp only; omega⟩⟩
theorem freshP (z : Siz N B n) (h : CaI N B n t [] c L) (fw : Few c) (ht : t ≤ 1000000) (i : Nat) (hi : i < 4294967296) : ∃ r c', Q5.f c (i : Int) = some (r, c') ∧ Costs N B n (t + 1) 0 1 c c' := by
  have h64 := z.h64
  have hB := z.B_le
  have hfl := h.frl
  have hsz := h.dsz
  unfold Q5.f Q27.f
  rw [show Q14.f ((c.1.1, c.1.2.1, (c.1.2.2.1, c.1.2.2.2)), c.2.1, c.2.2.1, c.2.2.2.1, (c.2.2.2.2.1, c.2.2.2.2.2)) (i : Int) = _ from there8 z h i hi, Option.bind_some]
  by_cases q : N ≤ i
  · rw [if_pos q, if_pos (by simp)]
    exact ⟨_, _, rfl, Costs.same (h.mono (Nat.le_succ t)) 0 1⟩
  · rw [if_neg q, if_neg (by simp)]
    rcases h.get i with ⟨g1, g2⟩ | ⟨f, ha, g1, g2, ok⟩
    · rw [if_neg (by simp [g1]), if_pos (by simp [g1])]
      rcases roomP z h ⟨fw.wr.1, by have := fw.wr.2; omega⟩ with e | ⟨f, c1, L1, e, h1, k1, k2, k3⟩
      · rw [show Q13.f ((c.1.1, c.1.2.1, (c.1.2.2.1, c.1.2.2.2)), c.2.1, c.2.2.1, c.2.2.2.1, (c.2.2.2.2.1, c.2.2.2.2.2)) = _ from e, Option.bind_some, if_pos (by simp)]
        exact ⟨_, _, rfl, Costs.same (h.mono (Nat.le_succ t)) 0 1⟩
      · obtain ⟨hf, hfe, hfm⟩ := h1.hol f (by simp)
        have hfl1 := h1.frl
        have hsz1 := h1.dsz
        have hno : ∀ v, ((i : Int), v) ∉ c1.2.2.1 := fun v hv => g2 v (k3 _ hv)
        have hfL : f ∉ L1 := fun hx => by obtain ⟨⟨j, hj⟩, _⟩ := (h1.lok f).1 hx; exact hfm j hj
        obtain ⟨r5, ch, e5, hc5⟩ := cutP h1.chn hf (by omega)
        rw [List.erase_of_not_mem hfL] at hc5
        rw [show Q13.f ((c.1.1, c.1.2.1, (c.1.2.2.1, c.1.2.2.2)), c.2.1, c.2.2.1, c.2.2.2.1, (c.2.2.2.2.1, c.2.2.2.2.2)) = _ from e, Option.bind_some, if_neg (by simp), Option.bind_some]
        dsimp only
        rw [if_pos (by omega), if_pos (by omega), show Q15.f (c1.2.2.2.2.1, c1.2.2.2.2.2) (f : Int) = _ from e5, Option.bind_some]
        have hcm := (h1.mono (Nat.le_succ t)).come (show i < N by omega) hno (x := ((i : Int), List.replicate c1.1.1.toNat (0 : Int), true, 1)) rfl (by rw [List.length_replicate]; omega) rfl (by omega) hc5
        dsimp only
        rw [mput_new8 hno, Int.toNat_natCast]
        refine ⟨_, _, rfl, ⟨⟨_, hcm⟩, ?_, ?_⟩⟩
        · dsimp only; omega
        · dsimp only; omega
    · have hf := ok.hf
      have hp := ok.pin
      have g : gt c.2.1 (f : Int) = c.2.1.getD f default := gt_nat _ _
      rw [if_pos g1, g2, if_pos (by omega)]
      by_cases hpp : 0 < (gt c.2.1 (f : Int)).2.2.2
      · rw [if_pos (decide_eq_true hpp)]
        exact ⟨_, _, rfl, Costs.same (h.mono (Nat.le_succ t)) 0 1⟩
      · obtain ⟨r2, ch, e2, hc2⟩ := cutP h.chn ok.hf (by omega)
        have hs := h.setfr ha (x := ((i : Int), List.replicate c.1.1.toNat (0 : Int), true, 1)) (t' := t + 1) rfl (by rw [List.length_replicate]; omega) (by dsimp only; omega) (Nat.le_succ t) hc2 (lok_erase h (show (1 : Int) ≠ 0 by decide))
        rw [if_neg (by simpa using hpp), if_neg (by simp [g1]), Option.bind_some, if_pos (by omega), show Q15.f (c.2.2.2.2.1, c.2.2.2.2.2) (f : Int) = _ from e2, Option.bind_some, Int.toNat_natCast, mput_same h.mnd ha]
        exact ⟨_, _, rfl, ⟨⟨_, hs⟩, by dsimp only; omega, by dsimp only; omega⟩⟩
theorem unpinP (z : Siz N B n) (h : CaI N B n t [] c L) (ht : t ≤ 1000000) (i : Nat) : ∃ r c', Q8.f c (i : Int) = some (r, c') ∧ Costs N B n t 0 0 c c' := by
  have h64 := z.h64
  have hfl := h.frl
  unfold Q8.f Q12.f
  rw [Option.bind_some, if_neg (by simp)]
  rcases h.get i with ⟨g1, g2⟩ | ⟨f, ha, g1, g2, ok⟩
  · rw [if_pos (by simp [g1])]
    exact ⟨_, _, rfl, Costs.same h 0 0⟩
  · have hf := ok.hf
    have hp := ok.pin
    have g : gt c.2.1 (f : Int) = c.2.1.getD f default := gt_nat _ _
    rw [if_neg (by simp [g1]), g2, if_pos (by omega)]
    by_cases hp0 : (gt c.2.1 (f : Int)).2.2.2 = 0
    · rw [if_pos (decide_eq_true hp0)]
      exact ⟨_, _, rfl, Costs.same h 0 0⟩
    · have wp : w64 ((gt c.2.1 (f : Int)).2.2.2 - 1) = (gt c.2.1 (f : Int)).2.2.2 - 1 := by rw [g]; exact w64_id (by omega) (by omega)
      have hp1 : 0 < (gt c.2.1 (f : Int)).2.2.2 := by rw [g] at hp0 ⊢; omega
      have hp2 : (gt c.2.1 (f : Int)).2.2.2 ≤ t := by rw [g]; omega
      have hset : gt (c.2.1.set f ((gt c.2.1 (f : Int)).1, (gt c.2.1 (f : Int)).2.1, (gt c.2.1 (f : Int)).2.2.1, w64 ((gt c.2.1 (f : Int)).2.2.2 - 1))) (f : Int) = ((gt c.2.1 (f : Int)).1, (gt c.2.1 (f : Int)).2.1, (gt c.2.1 (f : Int)).2.2.1, w64 ((gt c.2.1 (f : Int)).2.2.2 - 1)) := by
        rw [gt_nat, getD_set (by omega), if_pos rfl]
      have hfL : f ∉ L := fun hx => by have := ((h.lok f).1 hx).2; rw [← g] at this; omega
      rw [if_neg (by simpa using hp0), Int.toNat_natCast, hset, wp]
      by_cases hp3 : (gt c.2.1 (f : Int)).2.2.2 - 1 = 0
      · obtain ⟨ch, e2, hc2⟩ := frontP h.chn ok.hf hfL (by omega)
        rw [if_pos (decide_eq_true hp3), show Q16.f (c.2.2.2.2.1, c.2.2.2.2.2) (f : Int) = _ from e2, Option.bind_some]
        have hs := h.setfr ha (x := ((gt c.2.1 (f : Int)).1, (gt c.2.1 (f : Int)).2.1, (gt c.2.1 (f : Int)).2.2.1, (gt c.2.1 (f : Int)).2.2.2 - 1)) (t' := t) (by rw [g]; exact ok.blk) (by rw [g]; exact ok.len) (by dsimp only; omega) (Nat.le_refl t) hc2 (fun k => by
          rw [List.mem_cons]
          split
          · rename_i e; exact ⟨fun _ => hp3, fun _ => .inl e⟩
          · rename_i e; exact ⟨fun q => q.elim (fun e' => absurd e' e) id, .inr⟩)
        exact ⟨_, _, rfl, ⟨⟨_, hs⟩, by dsimp only; omega, by dsimp only; omega⟩⟩
      · rw [if_neg (by simpa using hp3)]
        have hs := h.setfr ha (x := ((gt c.2.1 (f : Int)).1, (gt c.2.1 (f : Int)).2.1, (gt c.2.1 (f : Int)).2.2.1, (gt c.2.1 (f : Int)).2.2.2 - 1)) (t' := t) (by rw [g]; exact ok.blk) (by rw [g]; exact ok.len) (by dsimp only; omega) (Nat.le_refl t) h.chn (fun k => by
          split
          · rename_i e; subst e; exact ⟨fun q => absurd q hfL, fun q => absurd q hp3⟩
          · exact Iff.rfl)
        exact ⟨_, _, rfl, ⟨⟨_, hs⟩, by dsimp only; omega, by dsimp only; omega⟩⟩
theorem writeC (z : Siz N B n) (h : CaI N B n t [] c L) (i : Nat) (b : List Int) : ∃ r c', Q10.f c (i : Int) b = some (r, c') ∧ Costs N B n t 0 0 c c' := by
  have h64 := z.h64
  have hB := z.B_le
  have hfl := h.frl
  have hsz := h.dsz
  unfold Q10.f Q12.f Q27.f
  rw [Option.bind_some, if_neg (by simp)]
  rcases h.get i with ⟨g1, g2⟩ | ⟨f, ha, g1, g2, ok⟩
  · rw [if_pos (by simp [g1])]
    exact ⟨_, _, rfl, Costs.same h 0 0⟩
  · have hf := ok.hf
    have hp := ok.pin
    have g : gt c.2.1 (f : Int) = c.2.1.getD f default := gt_nat _ _
    rw [if_neg (by simp [g1]), g2, if_pos (by omega)]
    by_cases hp0 : (gt c.2.1 (f : Int)).2.2.2 = 0
    · rw [if_pos (decide_eq_true hp0)]
      exact ⟨_, _, rfl, Costs.same h 0 0⟩
    · rw [if_neg (by simpa using hp0), Option.bind_some]
      dsimp only
      by_cases hb : (b.length : Int) = c.1.1
      · have hset : gt (c.2.1.set f ((gt c.2.1 (f : Int)).1, b, (gt c.2.1 (f : Int)).2.2.1, (gt c.2.1 (f : Int)).2.2.2)) (f : Int) = ((gt c.2.1 (f : Int)).1, b, (gt c.2.1 (f : Int)).2.2.1, (gt c.2.1 (f : Int)).2.2.2) := by
          rw [gt_nat, getD_set (by omega), if_pos rfl]
        have hs := h.setfr ha (x := ((gt c.2.1 (f : Int)).1, b, true, (gt c.2.1 (f : Int)).2.2.2)) (t' := t) (by rw [g]; exact ok.blk) (by dsimp only; omega) (by dsimp only; rw [g]; exact hp) (Nat.le_refl t) h.chn (by rw [g]; exact lok_keep h ha)
        rw [if_neg (by simp [hb]), clone_byte (by omega), Option.bind_some, Int.toNat_natCast, hset, List.set_set]
        exact ⟨_, _, rfl, ⟨⟨_, hs⟩, by dsimp only; omega, by dsimp only; omega⟩⟩
      · rw [if_pos (by simp [hb])]
        exact ⟨_, _, rfl, Costs.same h 0 0⟩
theorem dropP (z : Siz N B n) (h : CaI N B n t [] c L) (i : Nat) : ∃ r c', Q3.f c (i : Int) = some (r, c') ∧ Costs N B n t 0 0 c c' := by
  have h64 := z.h64
  have hfl := h.frl
  unfold Q3.f Q12.f
  rw [Option.bind_some, if_neg (by simp)]
  rcases h.get i with ⟨g1, g2⟩ | ⟨f, ha, g1, g2, ok⟩
  · rw [if_pos (by simp [g1])]
    exact ⟨_, _, rfl, Costs.same h 0 0⟩
  · have hf := ok.hf
    rw [if_neg (by simp [g1]), g2, if_pos (by omega)]
    by_cases hp0 : 0 < (gt c.2.1 (f : Int)).2.2.2
    · rw [if_pos (decide_eq_true hp0)]
      exact ⟨_, _, rfl, Costs.same h 0 0⟩
    · obtain ⟨ch, e, hl⟩ := leaveP z h ha
      rw [if_neg (by simpa using hp0), show Q11.f ((c.1.1, c.1.2.1, (c.1.2.2.1, c.1.2.2.2)), c.2.1, c.2.2.1, c.2.2.2.1, (c.2.2.2.2.1, c.2.2.2.2.2)) (f : Int) = _ from e, Option.bind_some]
      exact ⟨_, _, rfl, ⟨⟨_, hl⟩, by dsimp only; omega, by dsimp only; omega⟩⟩
theorem readC (z : Siz N B n) (h : CaI N B n t [] c L) (i : Nat) : ∃ b r, Q7.f c (i : Int) = some (b, r) := by
  have hfl := h.frl
  have hB := z.B_le
  unfold Q7.f Q12.f
  rw [Option.bind_some, if_neg (by simp)]
  rcases h.get i with ⟨g1, g2⟩ | ⟨f, ha, g1, g2, ok⟩
  · rw [if_pos (by simp [g1])]
    exact ⟨_, _, rfl⟩
  · have hf := ok.hf
    have g : gt c.2.1 (f : Int) = c.2.1.getD f default := gt_nat _ _
    rw [if_neg (by simp [g1]), g2, if_pos (by omega)]
    by_cases hp0 : (gt c.2.1 (f : Int)).2.2.2 = 0
    · rw [if_pos (decide_eq_true hp0)]
      exact ⟨_, _, rfl⟩
    · rw [if_neg (by simpa using hp0), clone_byte (by rw [g, ok.len]; omega), Option.bind_some]
      exact ⟨_, _, rfl⟩
end
section
variable {N B n t : Nat} {c : Ca} {L : List Nat}
def dirtyB (fr : List Fr8) (mp : List (Int × Int)) (i : Int) : Bool := (gt fr (mget 0 mp i)).2.2.1
def keys8 (c : Ca) : List Int := (c.2.2.1.map Prod.fst).mergeSort fun x y => decide (x ≤ y)
theorem keys8_perm (c : Ca) : (keys8 c).Perm (c.2.2.1.map Prod.fst) := List.mergeSort_perm _ _
theorem sortedP (z : Siz N B n) (h : CaI N B n t [] c L) : Q53.f c.2.2.1 = some (keys8 c) := by
  have h64 := z.h64
  have hN := z.N_le
  have hu := h.used
  unfold Q53.f
  rw [if_pos ?_]
  · rfl
  · unfold keysOk
    simp only [Bool.and_eq_true, decide_eq_true_eq, List.all_eq_true]
    refine ⟨by omega, h.mnd, fun p hp => ?_⟩
    obtain ⟨i, f, e, ok⟩ := h.mok p hp
    have h1 := ok.hi
    have h2 := ok.hf
    rw [e]
    simp [Lit.wf, IntKind.min, IntKind.max, IntKind.signed, IntKind.bits]
    omega
theorem key_in (h : CaI N B n t [] c L) {x : Int} (hx : x ∈ keys8 c) : ∃ i f : Nat, x = (i : Int) ∧ ((i : Int), (f : Int)) ∈ c.2.2.1 ∧ mget 0 c.2.2.1 x = (f : Int) ∧ Okf N B n t c i f := by
  have := (keys8_perm c).mem_iff.1 hx
  obtain ⟨p, hp, rfl⟩ := List.mem_map.1 this
  obtain ⟨i, f, e1, e2, ok⟩ := h.at (i := p.1) (f := p.2) hp
  have hp' : ((i : Int), (f : Int)) ∈ c.2.2.1 := by rw [← e1, ← e2]; exact hp
  exact ⟨i, f, e1, hp', by rw [e1]; exact mget_of h.mnd hp', ok⟩
theorem dirty_l0 (z : Siz N B n) (h : CaI N B n t [] c L) : ∀ (m j k : Nat) (acc : List Int), (keys8 c).length = j + m → m < k → acc.length + m ≤ 1000 → Q2.l0 k c (keys8 c) acc (j : Int) = some (acc ++ ((keys8 c).drop j).filter (dirtyB c.2.1 c.2.2.1))
  | 0, j, k + 1, acc, hj, hk, ha => by
    have hl : (keys8 c).length ≤ 64 := by rw [(keys8_perm c).length_eq, List.length_map]; have := h.used; have := z.h64; omega
    rw [Q2.l0, if_neg (by simp only [decide_eq_true_eq]; omega), List.drop_eq_nil_of_le (by omega)]; simp
  | m + 1, j, k + 1, acc, hj, hk, ha => by
    have hl : (keys8 c).length ≤ 64 := by rw [(keys8_perm c).length_eq, List.length_map]; have := h.used; have := z.h64; omega
    have hjl : j < (keys8 c).length := by omega
    obtain ⟨i, f, e1, hp, e2, ok⟩ := key_in h (x := (keys8 c).getD j default) (getD_mem hjl)
    have hf := ok.hf
    have hfl := h.frl
    rw [Q2.l0, if_pos (decide_eq_true (by omega)), if_pos (by omega), gt_nat, e2, if_pos (by omega), drop_cons hjl, List.filter_cons]
    have hd : dirtyB c.2.1 c.2.2.1 ((keys8 c).getD j default) = (gt c.2.1 (f : Int)).2.2.1 := by unfold dirtyB; rw [e2]
    rw [hd]
    by_cases q : (gt c.2.1 (f : Int)).2.2.1 = true
    · rw [if_pos q, if_pos q, if_pos (by simp only [List.length_singleton]; omega), w64_succ (by omega), dirty_l0 z h m (j + 1) k _ (by omega) (by omega) (by rw [List.length_append, List.length_singleton]; omega), List.append_assoc]; rfl
    · rw [if_neg q, if_neg q, w64_succ (by omega), dirty_l0 z h m (j + 1) k _ (by omega) (by omega) (by omega)]
def dirt8 (c : Ca) : List Int := (keys8 c).filter (dirtyB c.2.1 c.2.2.1)
theorem dirtyP (z : Siz N B n) (h : CaI N B n t [] c L) {k : Nat} (hk : 100 < k) : Q2.f k c = some (dirt8 c) := by
  have hl : (keys8 c).length ≤ 64 := by rw [(keys8_perm c).length_eq, List.length_map]; have := h.used; have := z.h64; omega
  unfold Q2.f Q12.f
  rw [Option.bind_some, if_neg (by simp), sortedP z h, Option.bind_some]
  exact dirty_l0 z h (keys8 c).length 0 k [] (by omega) (by omega) (by simp; omega)
theorem dirt_len (z : Siz N B n) (h : CaI N B n t [] c L) : (dirt8 c).length ≤ n := by
  have h1 := List.length_filter_le (dirtyB c.2.1 c.2.2.1) (keys8 c)
  have h2 : (keys8 c).length = c.2.2.1.length := by rw [(keys8_perm c).length_eq, List.length_map]
  have h3 := h.used
  unfold dirt8
  omega
theorem flush_l0 (z : Siz N B n) (h : CaI N B n t [] c L) : ∀ (m j k : Nat) (d : Dv) (fr : List Fr8), (dirt8 c).length = j + m → m < k → CaI N B n t [] (d, fr, c.2.2) L → 0 ≤ d.2.2.2 ∧ d.2.2.2 + m ≤ 200000000 →
    ∃ c', Q4.l0 k c (dirt8 c) d.1 d.2.1 d.2.2.1 d.2.2.2 fr (j : Int) = some (0, c') ∧ CaI N B n t [] c' L ∧ c'.1.2.2.1 = d.2.2.1 ∧ d.2.2.2 ≤ c'.1.2.2.2 ∧ c'.1.2.2.2 ≤ d.2.2.2 + m
  | 0, j, k + 1, d, fr, hj, hk, hi, hw => by
    have hl := dirt_len z h
    rw [Q4.l0, if_neg (by simp only [decide_eq_true_eq]; omega)]
    exact ⟨_, rfl, hi, rfl, by dsimp only; omega, by dsimp only; omega⟩
  | m + 1, j, k + 1, d, fr, hj, hk, hi, hw => by
    have hl := dirt_len z h
    have h64 := z.h64
    have hjl : j < (dirt8 c).length := by omega
    have hin : (dirt8 c).getD j default ∈ keys8 c := (List.mem_filter.1 (getD_mem (l := dirt8 c) hjl)).1
    obtain ⟨i, f, e1, hp, e2, ok⟩ := key_in h hin
    have hf := ok.hf
    have hfl := hi.frl
    rw [Q4.l0, if_pos (decide_eq_true (by omega)), if_pos (by omega), gt_nat, e2, if_pos (by dsimp only at hfl; omega)]
    by_cases q : (gt fr (f : Int)).2.2.1 = true
    · have hb := hi.back z (i := i) (f := f) hp (d.2.2.1, d.2.2.2 + 1)
      have hwr := writeP z hi (i := i) (f := f) hp
      rw [if_pos q, show Q30.f (d.1, d.2.1, (d.2.2.1, d.2.2.2)) (gt fr (f : Int)).1 (gt fr (f : Int)).2.1 = _ from hwr, Option.bind_some]
      dsimp only
      rw [wrapS (by omega), Int.toNat_natCast, w64_succ (by omega)]
      obtain ⟨c', g1, g2, g3, g4, g5⟩ := flush_l0 z h m (j + 1) k (d.1, patch d.2.1 (i * B) B (gt fr (f : Int)).2.1, d.2.2.1, d.2.2.2 + 1) (fr.set f ((gt fr (f : Int)).1, (gt fr (f : Int)).2.1, false, (gt fr (f : Int)).2.2.2)) (by omega) (by omega) hb (by dsimp only; omega)
      exact ⟨c', g1, g2, g3, by dsimp only at g4; omega, by dsimp only at g5; omega⟩
    · rw [if_neg q, w64_succ (by omega)]
      obtain ⟨c', g1, g2, g3, g4, g5⟩ := flush_l0 z h m (j + 1) k d fr (by omega) (by omega) hi (by omega)
      exact ⟨c', g1, g2, g3, g4, by omega⟩
theorem flushP (z : Siz N B n) (h : CaI N B n t [] c L) (fw : Few c) {k : Nat} (hk : 200 < k) : ∃ r c', Q4.f k c = some (r, c') ∧ Costs N B n t 0 n c c' := by
  have hl := dirt_len z h
  have h64 := z.h64
  unfold Q4.f Q12.f
  rw [Option.bind_some, if_neg (by simp), show Q2.f k ((c.1.1, c.1.2.1, (c.1.2.2.1, c.1.2.2.2)), c.2.1, c.2.2.1, c.2.2.2.1, (c.2.2.2.2.1, c.2.2.2.2.2)) = _ from dirtyP z h (by omega), Option.bind_some]
  obtain ⟨c', g1, g2, g3, g4, g5⟩ := flush_l0 z h (dirt8 c).length 0 k c.1 c.2.1 (by omega) (by omega) h ⟨fw.wr.1, by have := fw.wr.2; omega⟩
  exact ⟨_, c', g1, ⟨⟨_, g2⟩, by omega, by omega⟩⟩
def cR (kd : Int) : Nat := if kd = 0 ∨ kd = 1 then 1 else 0
def cW (n : Nat) (kd : Int) : Nat := if kd = 0 ∨ kd = 1 ∨ kd = 2 then 1 else if kd = 8 then n else 0
theorem Costs.le {a a' b b' t' : Nat} {c c' : Ca} (h : Costs N B n t a b c c') (ht : t ≤ t') (ha : a ≤ a') (hb : b ≤ b') : Costs N B n t' a' b' c c' :=
  ⟨by obtain ⟨L, hL⟩ := h.inv; exact ⟨L, hL.mono ht⟩, by have := h.rd; omega, by have := h.wr; omega⟩
theorem stepP (z : Siz N B n) (h : CaI N B n t [] c L) (fw : Few c) (ht : t ≤ 1000000) (kd : Int) (i : Nat) (hi : i < 4294967296) (b : List Int) {k : Nat} (hk : 200 < k) : ∃ r c', Q52.f k c (kd, (i : Int), b) = some (r, c') ∧ Costs N B n (t + 1) (cR kd) (cW n kd) c c' := by
  have z0 : Costs N B n (t + 1) (cR kd) (cW n kd) c c := Costs.same (h.mono (Nat.le_succ t)) _ _
  unfold Q52.f
  dsimp only
  by_cases q0 : kd = 0
  · subst q0
    obtain ⟨r, c', e, hc⟩ := pinP z h fw ht i hi
    rw [if_pos (decide_eq_true rfl), show Q6.f ((c.1.1, c.1.2.1, (c.1.2.2.1, c.1.2.2.2)), c.2.1, c.2.2.1, c.2.2.2.1, (c.2.2.2.2.1, c.2.2.2.2.2)) (i : Int) = _ from e]
    exact ⟨_, _, rfl, hc⟩
  rw [if_neg (by simpa using q0)]
  by_cases q1 : kd = 1
  · subst q1
    obtain ⟨r, c', e, hc⟩ := pinP z h fw ht i hi
    rw [if_pos (decide_eq_true rfl), show Q6.f ((c.1.1, c.1.2.1, (c.1.2.2.1, c.1.2.2.2)), c.2.1, c.2.2.1, c.2.2.2.1, (c.2.2.2.2.1, c.2.2.2.2.2)) (i : Int) = _ from e]
    exact ⟨_, _, rfl, hc⟩
  rw [if_neg (by simpa using q1)]
  by_cases q2 : kd = 2
  · subst q2
    obtain ⟨r, c', e, hc⟩ := freshP z h fw ht i hi
    rw [if_pos (decide_eq_true rfl), show Q5.f ((c.1.1, c.1.2.1, (c.1.2.2.1, c.1.2.2.2)), c.2.1, c.2.2.1, c.2.2.2.1, (c.2.2.2.2.1, c.2.2.2.2.2)) (i : Int) = _ from e]
    exact ⟨_, _, rfl, hc⟩
  rw [if_neg (by simpa using q2)]
  by_cases q3 : kd = 3
  · obtain ⟨r, c', e, hc⟩ := unpinP z h ht i
    rw [if_pos (decide_eq_true q3), show Q8.f ((c.1.1, c.1.2.1, (c.1.2.2.1, c.1.2.2.2)), c.2.1, c.2.2.1, c.2.2.2.1, (c.2.2.2.2.1, c.2.2.2.2.2)) (i : Int) = _ from e]
    exact ⟨_, _, rfl, hc.le (Nat.le_succ t) (Nat.zero_le _) (Nat.zero_le _)⟩
  rw [if_neg (by simpa using q3)]
  by_cases q4 : kd = 4
  · obtain ⟨r, c', e, hc⟩ := unpinP z h ht i
    rw [if_pos (decide_eq_true q4), show Q8.f ((c.1.1, c.1.2.1, (c.1.2.2.1, c.1.2.2.2)), c.2.1, c.2.2.1, c.2.2.2.1, (c.2.2.2.2.1, c.2.2.2.2.2)) (i : Int) = _ from e]
    exact ⟨_, _, rfl, hc.le (Nat.le_succ t) (Nat.zero_le _) (Nat.zero_le _)⟩
  rw [if_neg (by simpa using q4)]
  by_cases q5 : kd = 5
  · obtain ⟨r, c', e, hc⟩ := writeC z h i b
    rw [if_pos (decide_eq_true q5), show Q10.f ((c.1.1, c.1.2.1, (c.1.2.2.1, c.1.2.2.2)), c.2.1, c.2.2.1, c.2.2.2.1, (c.2.2.2.2.1, c.2.2.2.2.2)) (i : Int) b = _ from e]
    exact ⟨_, _, rfl, hc.le (Nat.le_succ t) (Nat.zero_le _) (Nat.zero_le _)⟩
  rw [if_neg (by simpa using q5)]
  by_cases q6 : kd = 6
  · obtain ⟨r, c', e, hc⟩ := writeC z h i b
    rw [if_pos (decide_eq_true q6), show Q10.f ((c.1.1, c.1.2.1, (c.1.2.2.1, c.1.2.2.2)), c.2.1, c.2.2.1, c.2.2.2.1, (c.2.2.2.2.1, c.2.2.2.2.2)) (i : Int) b = _ from e]
    exact ⟨_, _, rfl, hc.le (Nat.le_succ t) (Nat.zero_le _) (Nat.zero_le _)⟩
  rw [if_neg (by simpa using q6)]
  by_cases q7 : kd = 7
  · obtain ⟨r, c', e, hc⟩ := dropP z h i
    rw [if_pos (decide_eq_true q7), show Q3.f ((c.1.1, c.1.2.1, (c.1.2.2.1, c.1.2.2.2)), c.2.1, c.2.2.1, c.2.2.2.1, (c.2.2.2.2.1, c.2.2.2.2.2)) (i : Int) = _ from e]
    exact ⟨_, _, rfl, hc.le (Nat.le_succ t) (Nat.zero_le _) (Nat.zero_le _)⟩
  rw [if_neg (by simpa using q7)]
  by_cases q8 : kd = 8
  · subst q8
    obtain ⟨r, c', e, hc⟩ := flushP z h fw hk
    rw [if_pos (decide_eq_true rfl), show Q4.f k ((c.1.1, c.1.2.1, (c.1.2.2.1, c.1.2.2.2)), c.2.1, c.2.2.1, c.2.2.2.1, (c.2.2.2.2.1, c.2.2.2.2.2)) = _ from e]
    exact ⟨_, _, rfl, hc.le (Nat.le_succ t) (Nat.zero_le _) (Nat.le_refl _)⟩
  rw [if_neg (by simpa using q8)]
  by_cases q9 : kd = 9
  · obtain ⟨b2, r, e⟩ := readC z h i
    rw [if_pos (decide_eq_true q9), show Q7.f ((c.1.1, c.1.2.1, (c.1.2.2.1, c.1.2.2.2)), c.2.1, c.2.2.1, c.2.2.2.1, (c.2.2.2.2.1, c.2.2.2.2.2)) (i : Int) = _ from e]
    exact ⟨_, _, rfl, z0⟩
  rw [if_neg (by simpa using q9)]
  exact ⟨_, _, rfl, z0⟩
theorem freshC (z : Siz N B n) {img : List Int} (hl : img.length = N * B) (s : Int × Int) {ch : Chn} (hc : ChI n ch []) : CaI N B n 0 [] (((B : Int), img, s), List.replicate n (0, [], false, 0), [], (List.range n).map (fun (i : Nat) => (i : Int)), ch) [] := by
  refine ⟨rfl, hl, by simp, by simp, by simp, fun x hx => ?_, ?_, by simp, by simp, hc, by simp⟩
  · obtain ⟨i, hi, rfl⟩ := List.mem_map.1 hx
    exact ⟨i, rfl, List.mem_range.1 hi⟩
  · exact List.Pairwise.map _ (fun a b hne e => hne (by have : (a : Int) = (b : Int) := e; omega)) List.nodup_range
end
theorem awake08_pure (k : Nat) : Q51.f (k + 300) = some true := by kernel_rfl
theorem siz92 {n : Nat} (h1 : 1 ≤ n) (h2 : n ≤ 64) : Siz 9 2 n := ⟨by omega, by omega, by omega, h1, h2⟩
theorem wrapU8 {m : Nat} (h : m < 18446744073709551616) : IntKind.u64.wrap (m : Int) = (m : Int) := by
  have : IntKind.u64.wrap (m : Int) = ((m % 18446744073709551616 : Nat) : Int) := by simp [IntKind.wrap, IntKind.bits, IntKind.signed]
  rw [this, Nat.mod_eq_of_lt h]
theorem wrapD {x y : Int} {d : Nat} (hd : d ≤ 1000) (h : x ≤ y ∧ y ≤ x + d) (hx : 0 ≤ x ∧ x ≤ 100000000) : 0 ≤ w64 (IntKind.u64.wrap (y - x)) ∧ w64 (IntKind.u64.wrap (y - x)) ≤ d := by
  obtain ⟨m, hm⟩ := Int.eq_ofNat_of_zero_le (show 0 ≤ y - x by omega)
  rw [hm, wrapU8 (by omega), w64_id (by omega) (by omega)]
  omega
theorem act8 {l : List (Int × Int × List Int)} (h : Ty.fit (bytesIn tt) (.slice 30 (.pair (.int .i64) (.pair (.int .u32) (.slice 5 (.int .u8))))) l) {x : Int × Int × List Int} (hx : x ∈ l) : ∃ i : Nat, x.2.1 = (i : Int) ∧ i < 4294967296 := by
  obtain ⟨_, h1, h2⟩ := h.2.2 x hx
  have : (Lit.int .u32 x.2.1).wf = true := h1
  simp [Lit.wf, IntKind.min, IntKind.max, IntKind.signed, IntKind.bits] at this
  exact ⟨x.2.1.toNat, by omega, by omega⟩
theorem costs_l1 {a : Int} {n : Nat} (hn1 : 1 ≤ n) (hn2 : n ≤ 12) (ha : w64 (1 + (Int.tmod (w64 a) 12)) = (n : Int)) {l : List (Int × Int × List Int)} (hl : Ty.fit (bytesIn tt) (.slice 30 (.pair (.int .i64) (.pair (.int .u32) (.slice 5 (.int .u8))))) l) : ∀ (m j k : Nat) (c : Ca), j + m = 80 → m + 700 < k → (∃ L, CaI 9 2 n j [] c L) → 0 ≤ c.1.2.2.1 ∧ c.1.2.2.1 ≤ j → 0 ≤ c.1.2.2.2 ∧ c.1.2.2.2 ≤ 100 * j →
    Q50.l1 k a l c.1.1 c.1.2.1 c.1.2.2.1 c.1.2.2.2 c.2.1 c.2.2.1 c.2.2.2.1 c.2.2.2.2.1 c.2.2.2.2.2 (j : Int) = some true
  | m, j, k + 1, c, hj, hk, ⟨L, h⟩, hr, hw => by
    have z := siz92 (n := n) hn1 (by omega)
    obtain ⟨k2, rfl⟩ : ∃ k2, k = k2 + 300 := ⟨k - 300, by omega⟩
    rw [Q50.l1]
    by_cases q : j < l.length
    · rw [if_pos (decide_eq_true (by omega))]
      by_cases q2 : j < 80
      · obtain ⟨m2, rfl⟩ : ∃ m2, m = m2 + 1 := ⟨m - 1, by omega⟩
        have hin : l.getD j default ∈ l := getD_mem q
        obtain ⟨i, hi1, hi2⟩ := act8 hl hin
        obtain ⟨r, c', e, hc⟩ := stepP z h ⟨⟨hr.1, by omega⟩, ⟨hw.1, by omega⟩⟩ (by omega) (l.getD j default).1 i hi2 (l.getD j default).2.2 (k := k2 + 300) (by omega)
        obtain ⟨L', h'⟩ := hc.inv
        have hcr := hc.rd
        have hcw := hc.wr
        have hu := h'.used
        have b1 : cR (l.getD j default).1 ≤ 1 := by unfold cR; split <;> omega
        have b2 : cW n (l.getD j default).1 ≤ 64 := by unfold cW; split <;> (try split) <;> omega
        have d1 := wrapD (d := cR (l.getD j default).1) (by omega) hcr ⟨hr.1, by omega⟩
        have d2 := wrapD (d := cW n (l.getD j default).1) (by omega) hcw ⟨hw.1, by omega⟩
        have ih := costs_l1 hn1 hn2 ha hl m2 (j + 1) (k2 + 300) c' (by omega) (by omega) ⟨L', h'⟩ ⟨by omega, by omega⟩ ⟨by omega, by omega⟩
        have hus : Q9.f ((c'.1.1, c'.1.2.1, (c'.1.2.2.1, c'.1.2.2.2)), c'.2.1, c'.2.2.1, c'.2.2.2.1, (c'.2.2.2.2.1, c'.2.2.2.2.2)) = some (c'.2.2.1.length : Int) := by
          unfold Q9.f Q12.f
          rw [Option.bind_some, if_neg (by simp)]
        rw [if_pos (decide_eq_true (by omega)), Q29.f, Option.bind_some, if_pos (by omega), gt_nat, hi1, show Q52.f (k2 + 300) ((c.1.1, c.1.2.1, (c.1.2.2.1, c.1.2.2.2)), c.2.1, c.2.2.1, c.2.2.2.1, (c.2.2.2.2.1, c.2.2.2.2.2)) ((l.getD j default).1, (i : Int), (l.getD j default).2.2) = _ from e, Option.bind_some, Q29.f, Option.bind_some]
        dsimp only
        rw [hus, ha, w64_succ (by omega)]
        simp only [Option.bind_some]
        have hlt : ¬ (n : Int) < (c'.2.2.1.length : Int) := by omega
        rw [ih]
        generalize (l.getD j default).1 = kd at *
        generalize w64 (IntKind.u64.wrap (c'.1.2.2.1 - c.1.2.2.1)) = A at *
        generalize w64 (IntKind.u64.wrap (c'.1.2.2.2 - c.1.2.2.2)) = W at *
        unfold cR at d1
        unfold cW at d2
        have fin : (if decide ((n : Int) < (c'.2.2.1.length : Int)) = true then some false else some true) = some true := if_neg (by simpa using hlt)
        rw [fin]
        by_cases k0 : kd = 0
        · rw [if_pos (.inl k0)] at d1 d2
          rw [if_pos (decide_eq_true k0), if_pos (decide_eq_true (by omega)), if_neg (by simp; omega)]
        · rw [if_neg (by simpa using k0)]
          by_cases k1 : kd = 1
          · rw [if_pos (.inr k1)] at d1
            rw [if_pos (.inr (.inl k1))] at d2
            rw [if_pos (decide_eq_true k1), if_pos (decide_eq_true (by omega)), if_neg (by simp; omega)]
          · rw [if_neg (by simpa using k1)]
            rw [if_neg (fun q => q.elim k0 k1)] at d1
            by_cases k2 : kd = 2
            · rw [if_pos (.inr (.inr k2))] at d2
              rw [if_pos (decide_eq_true k2), if_pos (decide_eq_true (by omega)), if_neg (by simp; omega)]
            · rw [if_neg (by simpa using k2)]
              rw [if_neg (fun q => q.elim k0 fun q => q.elim k1 k2)] at d2
              by_cases k8 : kd = 8
              · rw [if_pos k8] at d2
                rw [if_pos (decide_eq_true k8), if_pos (decide_eq_true (by omega)), if_neg (by simp; omega)]
              · rw [if_neg (by simpa using k8)]
                rw [if_neg k8] at d2
                have : w64 (A + W) = 0 := by rw [w64_id (by omega) (by omega)]; omega
                rw [this, if_neg (by simp)]
      · rw [if_neg (by simp only [decide_eq_true_eq]; omega), awake08_pure, Option.bind_some]
    · rw [if_neg (by simp only [decide_eq_true_eq]; omega), awake08_pure, Option.bind_some]
theorem costs_l0 {a : Int} {n : Nat} (hn1 : 1 ≤ n) (hn2 : n ≤ 12) (ha : w64 (1 + (Int.tmod (w64 a) 12)) = (n : Int)) {l : List (Int × Int × List Int)} (hl : Ty.fit (bytesIn tt) (.slice 30 (.pair (.int .i64) (.pair (.int .u32) (.slice 5 (.int .u8))))) l) {img : List Int} (him : img.length = 9 * 2) {ch : Chn} (hc : ChI n ch []) : ∀ (m j k : Nat), j + m = n → m + 800 < k →
    Q50.l0 k a l (2, img, 0, 0) ch ((List.range j).map fun (i : Nat) => (i : Int)) (j : Int) = some true
  | 0, j, k + 1, hj, hk => by
    have := costs_l1 hn1 hn2 ha hl 80 0 k _ (by omega) (by omega) ⟨[], freshC (B := 2) (siz92 hn1 (by omega)) him (0, 0) hc⟩ (by dsimp only; omega) (by dsimp only; omega)
    have e : j = n := by omega
    subst e
    rw [Q50.l0, ha, if_neg (by simp), Int.toNat_natCast]
    exact this
  | m + 1, j, k + 1, hj, hk => by
    rw [Q50.l0, ha, if_pos (decide_eq_true (by omega)), if_pos (by simp; omega), w64_succ (by omega)]
    have := costs_l0 hn1 hn2 ha hl him hc m (j + 1) k (by omega) (by omega)
    rw [List.range_succ, List.map_append] at this
    exact this
theorem CacheCosts_pure (a : Int) (l : List (Int × Int × List Int)) (ha : Ty.fit (bytesIn tt) (.int .u8) a) (hl : Ty.fit (bytesIn tt) (.slice 30 (.pair (.int .i64) (.pair (.int .u32) (.slice 5 (.int .u8))))) l) : ∃ k, Q50.f k a l = some true := by
  have ha2 : 0 ≤ a ∧ a ≤ 255 := by
    simp [Ty.fit, Lit.wf] at ha
    have h1 : IntKind.u8.min = 0 := rfl
    have h2 : IntKind.u8.max = 255 := rfl
    omega
  obtain ⟨x, rfl⟩ := Int.eq_ofNat_of_zero_le ha2.1
  have hn : w64 (1 + (Int.tmod (w64 (x : Int)) 12)) = ((1 + x % 12 : Nat) : Int) := by
    rw [w64_id (x := (x : Int)) (by omega) (by omega), show Int.tmod (x : Int) 12 = ((x % 12 : Nat) : Int) from rfl, w64_id (by omega) (by omega)]; omega
  have h12 : x % 12 < 12 := Nat.mod_lt _ (by omega)
  obtain ⟨ch, e, hc⟩ := newP (n := 1 + x % 12) (by omega) (by omega)
  have hd : Q31.f 9 2 = some (some (2, List.replicate 18 0, 0, 0), 0) := by decide
  have hb : Q26.f (2, List.replicate 18 0, 0, 0) = some 9 := by decide
  refine ⟨1000, ?_⟩
  unfold Q50.f
  rw [hd, Option.bind_some]
  dsimp only [ocase]
  rw [if_pos (by decide), hb, Option.bind_some, if_neg (by decide), hn, if_neg (by simp only [decide_eq_true_eq]; omega), if_neg (by simp only [decide_eq_true_eq]; omega), e, Option.bind_some]
  dsimp only [ocase]
  rw [if_pos (by simp), if_pos (by omega)]
  exact costs_l0 (by omega) (by omega) hn hl (by simp) hc (1 + x % 12) 0 1000 (by omega) (by omega)
end Go.SK.T
