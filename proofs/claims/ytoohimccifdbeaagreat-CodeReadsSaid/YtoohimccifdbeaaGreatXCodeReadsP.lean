/- The plain law behind CodeReads: what its code computes is true for all settings and nodes. -/
import Derived.Test.YtoohimccifdbeaaGreatXCodeReadsF4
import Derived.KernelRfl
import Derived.Sort.Walk13a
import Derived.Sort.AssemblyPlain
set_option linter.unusedVariables false
set_option linter.unusedSimpArgs false
namespace Go.SK.T
open Go Go.SK
theorem Gi : ∀ (k : Nat) (a b : List UInt8) (i : Nat), a.length ≤ 4611686018427387904 → b.length ≤ 4611686018427387904 → i ≤ a.length → i ≤ b.length → a.length - i < k →
  Q68.l0 k a b (i : Int) = some (Yo (a.drop i) (b.drop i))
 | 0, a, b, i, _, _, _, _, h => by omega
 | k + 1, a, b, i, ha, hb, hia, hib, hk => by
  unfold Q68.l0
  by_cases h1 : i < a.length
  ·by_cases h2 : i < b.length
   ·have g1 : (0 : Int) ≤ (i : Int) ∧ (i : Int) < (a.length : Int) := by omega
    have g2 : (0 : Int) ≤ (i : Int) ∧ (i : Int) < (b.length : Int) := by omega
    have w : w64 ((i : Int) + 1) = ((i + 1 : Nat) : Int) := by rw [Zv (by omega) (by omega)]; omega
    have ih := Gi k a b (i + 1) ha hb (by omega) (by omega) (by omega)
    simp only [g1.2, g2.2, g1, g2, decide_true, if_true, and_self, w, ih, Zgd, Int.toNat_natCast, B3 h1, B3 h2, Zdt, decide_eq_true_eq]
    split
    ·rfl
    ·split <;> rfl
   ·have g1 : (i : Int) < (a.length : Int) := by omega
    have g2 : ¬ (i : Int) < (b.length : Int) := by omega
    have e : b.drop i = [] := List.drop_eq_nil_of_le (by omega)
    have z1 : ¬ (a.length : Int) < (b.length : Int) := by omega
    have z2 : (b.length : Int) < (a.length : Int) := by omega
    have z3 : ¬ (a.drop i).length = 0 := by rw [List.length_drop]; omega
    simp [g1, g2, e, z1, z2, G8, z3]
    omega
  ·have g1 : ¬ (i : Int) < (a.length : Int) := by omega
   have e : a.drop i = [] := List.drop_eq_nil_of_le (by omega)
   have z : (b.drop i).length = b.length - i := List.length_drop ..
   simp only [g1, e, B8, z, decide_false, Bool.false_eq_true, if_false, decide_eq_true_eq]
   by_cases h2 : b.length = i
   ·have z1 : ¬ (a.length : Int) < (b.length : Int) := by omega
    have z2 : ¬ (b.length : Int) < (a.length : Int) := by omega
    have h3 : a.length = i := by omega
    simp [h2, h3]
   ·have z1 : (a.length : Int) < (b.length : Int) := by omega
    have z2 : ¬ b.length - i = 0 := by omega
    simp [z1, z2]
theorem Xt {k : Nat} {a b : List UInt8} (ha : a.length ≤ 2000) (hb : b.length ≤ 2000) (hk : 2000 < k) : Q68.f k a b = some (Yo a b) := by
 have := Gi k a b 0 (by omega) (by omega) (by omega) (by omega) (by omega)
 simpa [Q68.f] using this
abbrev Msg := List UInt8 × Bool × List UInt8
theorem Zgt (x y : Msg) : (decide (x.1 = y.1) && ((x.2.1 == y.2.1) && (decide (x.2.2 = y.2.2) && true))) = decide (x = y) := by
 obtain ⟨a, b, c⟩ := x
 obtain ⟨d, e, f⟩ := y
 by_cases h1 : a = d <;> by_cases h2 : b = e <;> by_cases h3 : c = f <;> simp [h1, h2, h3]
theorem Jx : ∀ (k : Nat) (a b : List Msg) (i : Nat), a.length ≤ 1000000 → a.length = b.length → i ≤ a.length → a.length - i < k → Q78.l0 k a b (i : Int) = some (decide (a.drop i = b.drop i))
 | 0, a, b, i, _, _, _, h => by omega
 | k + 1, a, b, i, ha, hab, hi, hk => by
  rw [Q78.l0]
  by_cases h : i < a.length
  ·have g1 : (0 : Int) ≤ (i : Int) ∧ (i : Int) < (a.length : Int) := by omega
   have g2 : (0 : Int) ≤ (i : Int) ∧ (i : Int) < (b.length : Int) := by omega
   rw [if_pos (decide_eq_true g1.2), if_pos g1, if_pos g2, Zgt, Z3 (by omega), Jx k a b (i + 1) ha hab (by omega) (by omega), Z5 h, Z5 (show i < b.length by omega), Ya, Ya]
   generalize a.getD i default = x
   generalize b.getD i default = y
   by_cases e : x = y
   ·simp [e]
   ·simp [e]
  ·rw [if_neg (by simp; omega), List.drop_eq_nil_of_le (by omega), List.drop_eq_nil_of_le (by omega)]
   rfl
theorem Zam {k : Nat} {a b : List Msg} (ha : a.length ≤ 1000000) (hk : a.length < k) : Q78.f k a b = some (decide (a = b)) := by
 unfold Q78.f
 by_cases h : a.length = b.length
 ·rw [if_neg (by simp [h])]
  have := Jx k a b 0 ha h (by omega) (by omega)
  simpa using this
 ·rw [if_pos (by simp; omega)]
  have : a ≠ b := fun e => h (by rw [e])
  simp [this]
abbrev Cfg := Int × Int × Int × Int × Int × Int × Int × Int
abbrev Pr := List UInt8 × List UInt8
abbrev Nd := Int × List Int × List (List UInt8) × List Msg × List Pr
structure SmallN (n : Nd) : Prop where
 kids : n.2.1.length ≤ 80
 pivs : n.2.2.1.length ≤ 80
 buf : n.2.2.2.1.length ≤ 150
 prs : n.2.2.2.2.length ≤ 150
 pk : ∀ p ∈ n.2.2.1, p.length ≤ 200
 bk : ∀ m ∈ n.2.2.2.1, m.1.length ≤ 200
 rk : ∀ m ∈ n.2.2.2.2, m.1.length ≤ 200
structure MidN (n : Nd) : Prop where
 kids : n.2.1.length ≤ 80
 pivs : n.2.2.1.length ≤ 80
 buf : n.2.2.2.1.length ≤ 800
 prs : n.2.2.2.2.length ≤ 800
 pk : ∀ p ∈ n.2.2.1, p.length ≤ 300
 bk : ∀ m ∈ n.2.2.2.1, m.1.length ≤ 300
 rk : ∀ m ∈ n.2.2.2.2, m.1.length ≤ 300
theorem SmallN.mid {n : Nd} (h : SmallN n) : MidN n := ⟨h.kids, h.pivs, by have := h.buf; omega, by have := h.prs; omega, fun p hp => by have := h.pk p hp; omega, fun p hp => by have := h.bk p hp; omega, fun p hp => by have := h.rk p hp; omega⟩
structure OkC (c : Cfg) : Prop where
 fan : 8 ≤ c.2.2.2.1 ∧ c.2.2.2.1 ≤ 64
 key : 1 ≤ c.2.2.2.2.2.2.1 ∧ c.2.2.2.2.2.2.1 ≤ 64
 val : 0 ≤ c.2.2.2.2.2.2.2 ∧ c.2.2.2.2.2.2.2 ≤ 256
 buf : 16 ≤ c.2.2.2.2.1 ∧ c.2.2.2.2.1 ≤ 512
 leaf : c.2.2.2.2.1 ≤ c.2.2.2.2.2.1 ∧ c.2.2.2.2.2.1 ≤ 1024
abbrev Sp := List UInt8 × List UInt8 × Bool
def inS (s : Sp) (x : List UInt8) : Bool := !Op.bytesLess x s.1 && (s.2.2 || Op.bytesLess x s.2.1)
theorem Vs {k : Nat} {s : Sp} {x : List UInt8} (h1 : s.1.length ≤ 2000) (h2 : s.2.1.length ≤ 2000) (hx : x.length ≤ 2000) (hk : 2000 < k) : Q69.f k s x = some (inS s x) := by
 unfold Q69.f inS
 rw [Xt h1 hx hk, Xt hx h2 hk]
 simp only [Option.bind_some, Zf2, Zft, decide_eq_true_eq]
 cases h : Op.bytesLess x s.1 <;> cases s.2.2 <;> simp
theorem Uv (a b : List UInt8) : decide (0 ≤ Yo a b) = !Op.bytesLess a b := by
 rcases Bd a b with ⟨e, h⟩ | ⟨e, rfl⟩ | ⟨e, h⟩
 ·simp [e, h]
 ·simp [e, Wk]
 ·simp [e, W6 h]
def Xy : List Pr → Bool
 | a :: b :: r => Op.bytesLess a.1 b.1 && Xy (b :: r)
 | _ => true
theorem Zc9 {l : List Pr} {i : Nat} (h : i + 1 < l.length) : Xy (l.drop i) = (Op.bytesLess (l.getD i default).1 (l.getD (i + 1) default).1 && Xy (l.drop (i + 1))) := by
 rw [Z5 (show i < l.length by omega), Z5 h]
 rfl
theorem Zd2 {l : List Pr} {i : Nat} (h : l.length ≤ i + 1) : Xy (l.drop i) = true := by
 by_cases h' : i < l.length
 ·rw [Z5 h', List.drop_eq_nil_of_le (by omega)]
  rfl
 ·rw [List.drop_eq_nil_of_le (by omega)]
  rfl
theorem J1 {l : List Pr} (h150 : l.length ≤ 800) (hl : ∀ m ∈ l, m.1.length ≤ 300) : ∀ (k i : Nat), i ≤ l.length → 2001 + (l.length - i) < k → Q79.l0 k l ((i + 1 : Nat) : Int) = some (Xy (l.drop i))
 | 0, i, _, h => by omega
 | k + 1, i, hi, hk => by
  rw [Q79.l0]
  by_cases h : i + 1 < l.length
  ·have g1 : (0 : Int) ≤ (i : Int) ∧ (i : Int) < (l.length : Int) := by omega
   have g2 : (0 : Int) ≤ ((i + 1 : Nat) : Int) ∧ ((i + 1 : Nat) : Int) < (l.length : Int) := by omega
   have k1 := hl _ (Yq (d := default) (show i < l.length by omega))
   have k2 := hl _ (Yq (d := default) h)
   rw [if_pos (decide_eq_true g2.2), V1 (by omega) (by omega), Nat.add_sub_cancel, if_pos g1, if_pos g2, Ya, Ya, Xt (by omega) (by omega) (by omega), Option.bind_some, Uv, Z3 (by omega), J1 h150 hl k (i + 1) (by omega) (by omega), Zc9 h]
   cases Op.bytesLess (l.getD i default).1 (l.getD (i + 1) default).1 <;> rfl
  ·rw [if_neg (by simp only [decide_eq_true_eq]; omega), Zd2 (by omega)]
theorem Za8 {l : List Pr} (h150 : l.length ≤ 800) (hl : ∀ m ∈ l, m.1.length ≤ 300) {k : Nat} (hk : 3000 < k) : Q79.f k l = some (Xy l) := by
 have := J1 h150 hl k 0 (by omega) (by omega)
 simpa [Q79.f] using this
def Y2 (c : Cfg) (x : List UInt8) : Bool := decide (1 ≤ (x.length : Int) ∧ (x.length : Int) ≤ c.2.2.2.2.2.2.1)
theorem Vw (c : Cfg) (x : List UInt8) : Q85.f c x = some (Y2 c x) := by
 unfold Q85.f Y2
 by_cases h : 1 ≤ (x.length : Int) <;> simp [h]
def prB (c : Cfg) (s : Sp) (p : Pr) : Bool := Y2 c p.1 && (inS s p.1 && decide ((p.2.length : Int) ≤ c.2.2.2.2.2.2.2))
def Uf (c : Cfg) (s : Sp) (n : Nd) : Bool := n.2.2.2.2.all (prB c s) && (decide (n.2.1 = []) && (decide (n.2.2.1 = []) && (decide (n.2.2.2.1 = []) && (decide ((n.2.2.2.2.length : Int) ≤ c.2.2.2.2.2.1) && Xy n.2.2.2.2))))
theorem Jy {c : Cfg} {s : Sp} {n : Nd} (hn : MidN n) (h1 : s.1.length ≤ 2000) (h2 : s.2.1.length ≤ 2000) : ∀ (k i : Nat), i ≤ n.2.2.2.2.length → 3001 + (n.2.2.2.2.length - i) < k →
  Q89.l0 k c s n (i : Int) = some ((n.2.2.2.2.drop i).all (prB c s) && (decide (n.2.1 = []) && (decide (n.2.2.1 = []) && (decide (n.2.2.2.1 = []) && (decide ((n.2.2.2.2.length : Int) ≤ c.2.2.2.2.2.1) && Xy n.2.2.2.2)))))
 | 0, i, _, h => by omega
 | k + 1, i, hi, hk => by
  have h150 := hn.prs
  rw [Q89.l0]
  by_cases h : i < n.2.2.2.2.length
  ·have g1 : (0 : Int) ≤ (i : Int) ∧ (i : Int) < (n.2.2.2.2.length : Int) := by omega
   have k1 := hn.rk _ (Yq (d := default) h)
   have etc : (c.1, c.2.1, c.2.2.1, c.2.2.2.1, c.2.2.2.2.1, c.2.2.2.2.2.1, c.2.2.2.2.2.2.1, c.2.2.2.2.2.2.2) = c := rfl
   have eta : (s.1, s.2.1, s.2.2) = s := rfl
   rw [if_pos (decide_eq_true g1.2), if_pos g1, Ya, etc, Vw, Option.bind_some, eta, Vs h1 h2 (by omega) (by omega), Option.bind_some, Z3 (by omega), Jy hn h1 h2 k (i + 1) (by omega) (by omega), Z5 h, List.all_cons]
   simp only [prB]
   generalize n.2.2.2.2.getD i default = p
   by_cases e : c.2.2.2.2.2.2.2 < (p.2.length : Int)
   ·rw [decide_eq_true e, decide_eq_false (show ¬ ((p.2.length : Int) ≤ c.2.2.2.2.2.2.2) by omega)]
    cases Y2 c p.1 <;> cases inS s p.1 <;> rfl
   ·rw [decide_eq_false e, decide_eq_true (show ((p.2.length : Int) ≤ c.2.2.2.2.2.2.2) by omega)]
    cases Y2 c p.1 <;> cases inS s p.1 <;> simp
  ·have z : ∀ {α : Type} [DecidableEq α] (l : List α), decide ((l.length : Int) = 0) = decide (l = []) := fun l => by
    cases l <;> simp
    omega
   rw [if_neg (by simp only [decide_eq_true_eq]; omega), Za8 h150 hn.rk (by omega), Option.bind_some, List.drop_eq_nil_of_le (by omega), z, z, z]
   cases decide (n.2.1 = []) <;> cases decide (n.2.2.1 = []) <;> cases decide (n.2.2.2.1 = []) <;> cases decide ((n.2.2.2.2.length : Int) ≤ c.2.2.2.2.2.1) <;> rfl
theorem Zbi {c : Cfg} {s : Sp} {n : Nd} (hn : MidN n) (h1 : s.1.length ≤ 2000) (h2 : s.2.1.length ≤ 2000) {k : Nat} (hk : 4000 < k) : Q89.f k c s n = some (Uf c s n) := by
 have := Jy (c := c) hn h1 h2 k 0 (by omega) (by have := hn.prs; omega)
 simpa [Q89.f, Uf] using this
theorem Gh {l : List (List UInt8)} {i : Nat} (h : i + 1 < l.length) : Xn (l.drop i) = (Op.bytesLess (l.getD i []) (l.getD (i + 1) []) && Xn (l.drop (i + 1))) := by
 rw [Z5 (show i < l.length by omega), Z5 h]
 rfl
theorem B1 {l : List (List UInt8)} {i : Nat} (h : l.length ≤ i + 1) : Xn (l.drop i) = true := by
 by_cases h' : i < l.length
 ·rw [Z5 h', List.drop_eq_nil_of_le (by omega)]
  rfl
 ·rw [List.drop_eq_nil_of_le (by omega)]
  rfl
structure SmallL (l : List (List UInt8)) (s : Sp) : Prop where
 len : l.length ≤ 80
 all : ∀ p ∈ l, p.length ≤ 300
 lo : s.1.length ≤ 300
 hi : s.2.1.length ≤ 300
theorem SmallL.get {l : List (List UInt8)} {s : Sp} (h : SmallL l s) (i : Nat) : (l.getD i []).length ≤ 300 := by
 by_cases hi : i < l.length
 ·exact h.all _ (Yq hi)
 ·rw [List.getD_eq_getElem?_getD, List.getElem?_eq_none (by omega)]
  exact Nat.zero_le _
theorem Zb8 {s : Sp} {l : List (List UInt8)} (hs : SmallL l s) : ∀ (k i : Nat), i ≤ l.length → 2001 + (l.length - i) < k → Q82.l0 k l ((i + 1 : Nat) : Int) = some (Xn (l.drop i))
 | 0, i, _, h => by omega
 | k + 1, i, hi, hk => by
  have h80 := hs.len
  rw [Q82.l0]
  by_cases h : i + 1 < l.length
  ·have g1 : (0 : Int) ≤ (i : Int) ∧ (i : Int) < (l.length : Int) := by omega
   have g2 : (0 : Int) ≤ ((i + 1 : Nat) : Int) ∧ ((i + 1 : Nat) : Int) < (l.length : Int) := by omega
   have k1 : (l.getD i default).length ≤ 300 := hs.get i
   have k2 : (l.getD (i + 1) default).length ≤ 300 := hs.get (i + 1)
   rw [if_pos (decide_eq_true g2.2), V1 (by omega) (by omega), Nat.add_sub_cancel, if_pos g1, if_pos g2, Ya, Ya, Xt (by omega) (by omega) (by omega), Option.bind_some, Uv, Z3 (by omega), Zb8 hs k (i + 1) (by omega) (by omega), Gh h]
   show (if (!Op.bytesLess (l.getD i []) (l.getD (i + 1) [])) = true then some false else some (Xn (l.drop (i + 1)))) = _
   cases Op.bytesLess (l.getD i []) (l.getD (i + 1) []) <;> rfl
  ·rw [if_neg (by simp only [decide_eq_true_eq]; omega), B1 (by omega)]
theorem Zdo {s : Sp} {l : List (List UInt8)} (hs : SmallL l s) {k : Nat} (hk : 3000 < k) : Q82.f k l = some (Xn l) := by
 have := Zb8 hs k 0 (by omega) (by have := hs.len; omega)
 simpa [Q82.f] using this
def piv (s : Sp) (p : List UInt8) : Bool := inS s p && !decide (p = s.1)
theorem Jc {s : Sp} {l : List (List UInt8)} (hs : SmallL l s) : ∀ (k i : Nat), i ≤ l.length → 3001 + (l.length - i) < k → Q81.l0 k l s (i : Int) = some ((l.drop i).all (piv s) && Xn l)
 | 0, i, _, h => by omega
 | k + 1, i, hi, hk => by
  have h80 := hs.len
  rw [Q81.l0]
  by_cases h : i < l.length
  ·have g1 : (0 : Int) ≤ (i : Int) ∧ (i : Int) < (l.length : Int) := by omega
   have k1 : (l.getD i default).length ≤ 300 := hs.get i
   have hlo := hs.lo
   have hhi := hs.hi
   have eta : (s.1, s.2.1, s.2.2) = s := rfl
   rw [if_pos (decide_eq_true g1.2), if_pos g1, Ya, eta, Vs (by omega) (by omega) (by omega) (by omega), Option.bind_some, Z3 (by omega), Jc hs k (i + 1) (by omega) (by omega), Z5 h, List.all_cons]
   simp only [piv]
   cases inS s (l.getD i default) <;> by_cases e : l.getD i default = s.1 <;> simp only [e, decide_true, decide_false] <;> rfl
  ·rw [if_neg (by simp only [decide_eq_true_eq]; omega), Zdo hs (by omega), List.drop_eq_nil_of_le (by omega)]
   rfl
theorem B7 {s : Sp} {l : List (List UInt8)} (hs : SmallL l s) {k : Nat} (hk : 4000 < k) : Q81.f k l s = some (l.all (piv s) && Xn l) := by
 have := Jc hs k 0 (by omega) (by have := hs.len; omega)
 simpa [Q81.f] using this
def X3 : List Msg → Bool
 | a :: b :: r => Op.bytesLess a.1 b.1 && X3 (b :: r)
 | _ => true
theorem Zde {l : List Msg} {i : Nat} (h : i + 1 < l.length) : X3 (l.drop i) = (Op.bytesLess (l.getD i default).1 (l.getD (i + 1) default).1 && X3 (l.drop (i + 1))) := by
 rw [Z5 (show i < l.length by omega), Z5 h]
 rfl
theorem Zdu {l : List Msg} {i : Nat} (h : l.length ≤ i + 1) : X3 (l.drop i) = true := by
 by_cases h' : i < l.length
 ·rw [Z5 h', List.drop_eq_nil_of_le (by omega)]
  rfl
 ·rw [List.drop_eq_nil_of_le (by omega)]
  rfl
theorem Je : ∀ (k : Nat) (l : List Msg) (i : Nat), (l.length ≤ 800 ∧ ∀ m ∈ l, m.1.length ≤ 300) → i ≤ l.length → 2001 + (l.length - i) < k → Q77.l0 k l ((i + 1 : Nat) : Int) = some (X3 (l.drop i))
 | 0, l, i, _, _, h => by omega
 | k + 1, l, i, hl, hi, hk => by
  have h150 := hl.1
  rw [Q77.l0]
  by_cases h : i + 1 < l.length
  ·have g1 : (0 : Int) ≤ (i : Int) ∧ (i : Int) < (l.length : Int) := by omega
   have g2 : (0 : Int) ≤ ((i + 1 : Nat) : Int) ∧ ((i + 1 : Nat) : Int) < (l.length : Int) := by omega
   have k1 := hl.2 _ (Yq (d := default) (show i < l.length by omega))
   have k2 := hl.2 _ (Yq (d := default) h)
   rw [if_pos (decide_eq_true g2.2), V1 (by omega) (by omega), Nat.add_sub_cancel, if_pos g1, if_pos g2, Ya, Ya, Xt (by omega) (by omega) (by omega), Option.bind_some, Uv, Z3 (by omega), Je k l (i + 1) hl (by omega) (by omega), Zde h]
   cases Op.bytesLess (l.getD i default).1 (l.getD (i + 1) default).1 <;> rfl
  ·rw [if_neg (by simp only [decide_eq_true_eq]; omega), Zdu (by omega)]
def Vi (c : Cfg) (s : Sp) (m : Msg) : Bool := Y2 c m.1 && (inS s m.1 && (decide ((m.2.2.length : Int) ≤ c.2.2.2.2.2.2.2) && (!m.2.1 || decide (m.2.2 = []))))
def U2 (c : Cfg) (s : Sp) (n : Nd) : Bool := decide (n.1 ≤ 40) && (decide (n.2.2.2.2 = []) && (decide (1 ≤ n.2.1.length) && (decide ((n.2.1.length : Int) ≤ c.2.2.2.1) && (decide (n.2.2.1.length + 1 = n.2.1.length) && ((n.2.2.1.all (piv s) && Xn n.2.2.1) && (decide ((n.2.2.2.1.length : Int) ≤ c.2.2.2.2.1) && X3 n.2.2.2.1))))))
theorem MidN.l {n : Nd} (hn : MidN n) {s : Sp} (h1 : s.1.length ≤ 300) (h2 : s.2.1.length ≤ 300) : SmallL n.2.2.1 s := ⟨hn.pivs, fun p hp => by have := hn.pk p hp; omega, h1, h2⟩
theorem Zaa {n : Nd} (hn : MidN n) {k : Nat} (hk : 3000 < k) : Q77.f k n.2.2.2.1 = some (X3 n.2.2.2.1) := by
 have := Je k n.2.2.2.1 0 ⟨hn.buf, fun m hm => by have := hn.bk m hm; omega⟩ (by omega) (by have := hn.buf; omega)
 simpa [Q77.f] using this
theorem Gf {c : Cfg} {s : Sp} {n : Nd} (hn : MidN n) (h1 : s.1.length ≤ 300) (h2 : s.2.1.length ≤ 300) : ∀ (k i : Nat), i ≤ n.2.2.2.1.length → 5001 + (n.2.2.2.1.length - i) < k →
  Q88.l3 k c s n (i : Int) = some ((n.2.2.2.1.drop i).all (Vi c s) && U2 c s n)
 | 0, i, _, h => by omega
 | k + 1, i, hi, hk => by
  have h150 := hn.buf
  have h80 := hn.pivs
  have hk80 := hn.kids
  have eta : (s.1, s.2.1, s.2.2) = s := rfl
  rw [Q88.l3]
  by_cases h : i < n.2.2.2.1.length
  ·have g1 : (0 : Int) ≤ (i : Int) ∧ (i : Int) < (n.2.2.2.1.length : Int) := by omega
   have k1 := hn.bk _ (Yq (d := default) h)
   have etc : (c.1, c.2.1, c.2.2.1, c.2.2.2.1, c.2.2.2.2.1, c.2.2.2.2.2.1, c.2.2.2.2.2.2.1, c.2.2.2.2.2.2.2) = c := rfl
   rw [if_pos (decide_eq_true g1.2), if_pos g1, Ya, etc, Vw, Option.bind_some, eta, Vs (by omega) (by omega) (by omega) (by omega), Option.bind_some, Z3 (by omega), Gf hn h1 h2 k (i + 1) (by omega) (by omega), Z5 h, List.all_cons]
   simp only [Vi]
   generalize n.2.2.2.1.getD i default = p
   by_cases e : c.2.2.2.2.2.2.2 < (p.2.2.length : Int)
   ·rw [decide_eq_true e, decide_eq_false (show ¬ ((p.2.2.length : Int) ≤ c.2.2.2.2.2.2.2) by omega)]
    cases Y2 c p.1 <;> cases inS s p.1 <;> rfl
   ·rw [decide_eq_false e, decide_eq_true (show ((p.2.2.length : Int) ≤ c.2.2.2.2.2.2.2) by omega)]
    cases Y2 c p.1 <;> cases inS s p.1 <;> cases p.2.1 <;> cases decide (p.2.2 = []) <;> simp
  ·have z : decide (0 < (n.2.2.2.2.length : Int)) = !decide (n.2.2.2.2 = []) := by
    cases n.2.2.2.2 <;> simp
   have y1 : decide (40 < n.1) = !decide (n.1 ≤ 40) := by by_cases q : n.1 ≤ 40 <;> simp [q] <;> omega
   have y2 : decide ((n.2.1.length : Int) < 1) = !decide (1 ≤ n.2.1.length) := by by_cases q : 1 ≤ n.2.1.length <;> simp [q] <;> omega
   have y3 : decide (c.2.2.2.1 < (n.2.1.length : Int)) = !decide ((n.2.1.length : Int) ≤ c.2.2.2.1) := by by_cases q : (n.2.1.length : Int) ≤ c.2.2.2.1 <;> simp [q] <;> omega
   have y4 : decide (w64 ((n.2.2.1.length : Int) + 1) = (n.2.1.length : Int)) = decide (n.2.2.1.length + 1 = n.2.1.length) := by
    rw [Z3 (by omega)]
    congr 1
    exact propext (by omega)
   rw [if_neg (by simp only [decide_eq_true_eq]; omega), eta, B7 (hn.l h1 h2) (by omega), Zaa hn (by omega), List.drop_eq_nil_of_le (by omega), z, y1, y2, y3, y4]
   simp only [U2, Option.bind_some, List.all_nil, Bool.true_and]
   cases decide (n.1 ≤ 40) <;> cases decide (n.2.2.2.2 = []) <;> cases decide (1 ≤ n.2.1.length) <;> cases decide ((n.2.1.length : Int) ≤ c.2.2.2.1) <;> cases decide (n.2.2.1.length + 1 = n.2.1.length) <;> cases (n.2.2.1.all (piv s) && Xn n.2.2.1) <;> cases decide ((n.2.2.2.1.length : Int) ≤ c.2.2.2.2.1) <;> rfl
theorem J4 {c : Cfg} {s : Sp} {n : Nd} (hn : MidN n) (h1 : s.1.length ≤ 300) (h2 : s.2.1.length ≤ 300) : ∀ (k i : Nat), i ≤ n.2.2.1.length → 6001 + (n.2.2.1.length - i) < k →
  Q88.l2 k c s n (i : Int) = some ((n.2.2.1.drop i).all (Y2 c) && (n.2.2.2.1.all (Vi c s) && U2 c s n))
 | 0, i, _, h => by omega
 | k + 1, i, hi, hk => by
  have h80 := hn.pivs
  have h150 := hn.buf
  rw [Q88.l2]
  by_cases h : i < n.2.2.1.length
  ·have g1 : (0 : Int) ≤ (i : Int) ∧ (i : Int) < (n.2.2.1.length : Int) := by omega
   have etc : (c.1, c.2.1, c.2.2.1, c.2.2.2.1, c.2.2.2.2.1, c.2.2.2.2.2.1, c.2.2.2.2.2.2.1, c.2.2.2.2.2.2.2) = c := rfl
   rw [if_pos (decide_eq_true g1.2), if_pos g1, Ya, etc, Vw, Option.bind_some, Z3 (by omega), J4 hn h1 h2 k (i + 1) (by omega) (by omega), Z5 h, List.all_cons]
   cases Y2 c (n.2.2.1.getD i default) <;> rfl
  ·rw [if_neg (by simp only [decide_eq_true_eq]; omega), List.drop_eq_nil_of_le (by omega)]
   have := Gf (c := c) hn h1 h2 k 0 (by omega) (by omega)
   simpa using this
def neB (l : List Int) (i q : Nat) : Bool := !decide (l.getD q 0 = l.getD i 0)
def Wp (c : Cfg) (l : List Int) (i : Nat) : Bool := !decide (l.getD i 0 = 0) && (!decide (c.1 ≤ w64 (l.getD i 0)) && (List.range' 0 i).all (neB l i))
def U3 (c : Cfg) (s : Sp) (n : Nd) : Bool := n.2.2.1.all (Y2 c) && (n.2.2.2.1.all (Vi c s) && U2 c s n)
theorem Ue {c : Cfg} {s : Sp} {n : Nd} (hn : MidN n) (h1 : s.1.length ≤ 300) (h2 : s.2.1.length ≤ 300) : ∀ (k : Nat),
  (∀ i : Nat, i ≤ n.2.1.length → 6100 + (n.2.1.length - i) * 100 < k → Q88.l0 k c s n (i : Int) = some ((List.range' i (n.2.1.length - i)).all (Wp c n.2.1) && U3 c s n)) ∧
  (∀ i q : Nat, i < n.2.1.length → q ≤ i → 6100 + (n.2.1.length - i - 1) * 100 + (i - q) + 1 < k → Q88.l1 k c s n (i : Int) (q : Int) = some ((List.range' q (i - q)).all (neB n.2.1 i) && ((List.range' (i + 1) (n.2.1.length - i - 1)).all (Wp c n.2.1) && U3 c s n)))
 | 0 => ⟨fun i _ h => by omega, fun i q _ _ h => by omega⟩
 | k + 1 => by
  have h80 := hn.kids
  have h80' := hn.pivs
  obtain ⟨ih0, ih1⟩ := Ue (c := c) hn h1 h2 k
  refine ⟨fun i hi hk => ?_, fun i q hi hq hk => ?_⟩
  ·rw [Q88.l0]
   by_cases h : i < n.2.1.length
   ·have g1 : (0 : Int) ≤ (i : Int) ∧ (i : Int) < (n.2.1.length : Int) := by omega
    have := ih1 i 0 h (by omega) (by omega)
    simp only [Int.natCast_zero, Int.ofNat_eq_natCast, Nat.sub_zero] at this
    have e0 : gt n.2.1 (i : Int) = n.2.1.getD i 0 := Ya n.2.1 i
    rw [if_pos (decide_eq_true g1.2), if_pos g1, e0, show Q88.l1 k c s n (i : Int) 0 = _ from this, show n.2.1.length - i = (n.2.1.length - i - 1) + 1 by omega, List.range'_succ, List.all_cons]
    simp only [Wp, Nat.add_sub_cancel]
    cases decide (n.2.1.getD i 0 = 0) <;> cases decide (c.1 ≤ w64 (n.2.1.getD i 0)) <;> simp [Bool.and_assoc]
   ·rw [if_neg (by simp only [decide_eq_true_eq]; omega), show n.2.1.length - i = 0 by omega]
    have := J4 (c := c) hn h1 h2 k 0 (by omega) (by omega)
    simpa [U3] using this
  ·rw [Q88.l1]
   by_cases h : q < i
   ·have g1 : (0 : Int) ≤ (q : Int) ∧ (q : Int) < (n.2.1.length : Int) := by omega
    have e0 : gt n.2.1 (i : Int) = n.2.1.getD i 0 := Ya n.2.1 i
    have e1 : gt n.2.1 (q : Int) = n.2.1.getD q 0 := Ya n.2.1 q
    rw [if_pos (decide_eq_true (by omega)), if_pos g1, e0, e1, Z3 (by omega), ih1 i (q + 1) hi (by omega) (by omega), show i - q = (i - (q + 1)) + 1 by omega, List.range'_succ, List.all_cons]
    simp only [neB]
    cases decide (n.2.1.getD q 0 = n.2.1.getD i 0) <;> rfl
   ·rw [if_neg (by simp only [decide_eq_true_eq]; omega), Z3 (by omega), ih0 (i + 1) (by omega) (by omega), show i - q = 0 by omega, show n.2.1.length - (i + 1) = n.2.1.length - i - 1 by omega]
    rfl
def Ub (c : Cfg) (s : Sp) (n : Nd) : Bool := (List.range' 0 n.2.1.length).all (Wp c n.2.1) && U3 c s n
theorem Zbg {c : Cfg} {s : Sp} {n : Nd} (hn : MidN n) (h1 : s.1.length ≤ 300) (h2 : s.2.1.length ≤ 300) {k : Nat} (hk : 15000 < k) : Q88.f k c s n = some (Ub c s n) := by
 have h80 := hn.kids
 have := (Ue (c := c) hn h1 h2 k).1 0 (by omega) (by omega)
 simpa [Q88.f, Ub] using this
structure RightN (c : Cfg) (s : Sp) (n : Nd) : Prop where
 small : SmallN n
 cfg : OkC c
 lo : s.1.length ≤ 200
 hi : s.2.1.length ≤ 200
 leaf : n.1 = 0 → Uf c s n = true
 node : n.1 ≠ 0 → 0 < n.1 ∧ Ub c s n = true
theorem Za7 {c : Cfg} {s : Sp} {n : Nd} (hn : MidN n) (h1 : s.1.length ≤ 300) (h2 : s.2.1.length ≤ 300) {k : Nat} (hk : 15000 < k) :
  Q86.f k c s n = some (if n.1 = 0 then Uf c s n else decide (0 < n.1) && Ub c s n) := by
 unfold Q86.f
 by_cases h : n.1 = 0
 ·rw [if_pos (decide_eq_true h), if_pos h]
  rw [show Q89.f k _ _ _ = _ from Zbi (c := c) (s := s) hn (by omega) (by omega) (by omega)]
  rfl
 ·rw [if_neg (by simp only [decide_eq_true_eq]; exact h), if_neg h]
  by_cases h0 : 0 < n.1
  ·rw [if_pos (decide_eq_true h0), show Q88.f k _ _ _ = _ from Zbg (c := c) (s := s) hn h1 h2 hk, decide_eq_true h0]
   rfl
  ·rw [if_neg (by simp only [decide_eq_true_eq]; exact h0), decide_eq_false h0]
   rfl
theorem Zb5 : ∀ l : List Msg, X3 l = Wv (fun x => x.1) l
 | [] => rfl
 | [_] => rfl
 | a :: b :: r => by rw [X3, Wv, Zb5 (b :: r)]
theorem Zb1 : ∀ l : List Pr, Xy l = Wv (fun x => x.1) l
 | [] => rfl
 | [_] => rfl
 | a :: b :: r => by rw [Xy, Wv, Zb1 (b :: r)]
theorem Xu {α : Type} [Inhabited α] [DecidableEq α] {F : Nat → Int → Option Bool} {a b : List α} {eqb : α → α → Bool} (he : ∀ x y, eqb x y = decide (x = y)) (hab : a.length = b.length) (ha : a.length ≤ 1000000)
  (hF : ∀ k i, F (k + 1) i = if (decide (i < (a.length : Int))) = true then (if 0 ≤ i ∧ i < (a.length : Int) then (if 0 ≤ i ∧ i < (b.length : Int) then (if (!(eqb (gt a i) (gt b i))) = true then (some false) else (F k (w64 (i + 1)))) else none) else none) else (some true)) :
  ∀ (k i : Nat), i ≤ a.length → a.length - i < k → F k (i : Int) = some (decide (a.drop i = b.drop i))
 | 0, i, _, h => by omega
 | k + 1, i, hi, hk => by
  rw [hF]
  by_cases h : i < a.length
  ·have g1 : (0 : Int) ≤ (i : Int) ∧ (i : Int) < (a.length : Int) := by omega
   have g2 : (0 : Int) ≤ (i : Int) ∧ (i : Int) < (b.length : Int) := by omega
   rw [if_pos (decide_eq_true g1.2), if_pos g1, if_pos g2, he, Z3 (by omega), Xu he hab ha hF k (i + 1) (by omega) (by omega), Z5 h, Z5 (show i < b.length by omega), Ya, Ya]
   generalize a.getD i default = x
   generalize b.getD i default = y
   by_cases e : x = y
   ·simp [e]
   ·simp [e]
  ·rw [if_neg (by simp; omega), List.drop_eq_nil_of_le (by omega), List.drop_eq_nil_of_le (by omega)]
   rfl
theorem Zbs {k : Nat} {a b : List Int} (ha : a.length ≤ 1000000) (hk : a.length < k) : Q84.f k a b = some (decide (a = b)) := by
 unfold Q84.f
 by_cases h : a.length = b.length
 ·rw [if_neg (by simp [h])]
  have := Xu (F := fun k i => Q84.l0 k a b i) (eqb := fun x y => decide (x = y)) (fun x y => rfl) h ha (fun k i => rfl) k 0 (by omega) (by omega)
  simpa using this
 ·rw [if_pos (by simp; omega)]
  have : a ≠ b := fun e => h (by rw [e])
  simp [this]
theorem Zbu {k : Nat} {a b : List (List UInt8)} (ha : a.length ≤ 1000000) (hk : a.length < k) : Q83.f k a b = some (decide (a = b)) := by
 unfold Q83.f
 by_cases h : a.length = b.length
 ·rw [if_neg (by simp [h])]
  have := Xu (F := fun k i => Q83.l0 k a b i) (eqb := fun x y => decide (x = y)) (fun x y => rfl) h ha (fun k i => rfl) k 0 (by omega) (by omega)
  simpa using this
 ·rw [if_pos (by simp; omega)]
  have : a ≠ b := fun e => h (by rw [e])
  simp [this]
theorem Zgv (x y : Pr) : (decide (x.1 = y.1) && (decide (x.2 = y.2) && true)) = decide (x = y) := by
 obtain ⟨a, b⟩ := x
 obtain ⟨d, e⟩ := y
 by_cases h1 : a = d <;> by_cases h2 : b = e <;> simp [h1, h2]
theorem Zbv {k : Nat} {a b : List Pr} (ha : a.length ≤ 1000000) (hk : a.length < k) : Q80.f k a b = some (decide (a = b)) := by
 unfold Q80.f
 by_cases h : a.length = b.length
 ·rw [if_neg (by simp [h])]
  have := Xu (F := fun k i => Q80.l0 k a b i) (eqb := fun x y => decide (x.1 = y.1) && (decide (x.2 = y.2) && true)) Zgv h ha (fun k i => rfl) k 0 (by omega) (by omega)
  simpa using this
 ·rw [if_pos (by simp; omega)]
  have : a ≠ b := fun e => h (by rw [e])
  simp [this]
structure Short (n : Nd) : Prop where
 kids : n.2.1.length ≤ 1000
 pivs : n.2.2.1.length ≤ 1000
 buf : n.2.2.2.1.length ≤ 1000
 prs : n.2.2.2.2.length ≤ 1000
instance decNd4 : DecidableEq (List Msg × List Pr) := instDecidableEqProd
instance decNd3 : DecidableEq (List (List UInt8) × List Msg × List Pr) := instDecidableEqProd
instance decNd2 : DecidableEq (List Int × List (List UInt8) × List Msg × List Pr) := instDecidableEqProd
instance decNd1 : DecidableEq Nd := instDecidableEqProd
def joinN (a : Nd) (p : List UInt8) (b : Nd) : Nd × Bool :=
 if a.1 = b.1 then ((a.1, a.2.1 ++ b.2.1, if 0 < a.1 then a.2.2.1 ++ [p] ++ b.2.2.1 else a.2.2.1, a.2.2.2.1 ++ b.2.2.2.1, a.2.2.2.2 ++ b.2.2.2.2), true) else ((0, [], [], [], []), false)
def fitsN (c : Cfg) (a b : Nd) : Bool := decide (a.1 = b.1) && (if a.1 = 0 then decide (2 * ((a.2.2.2.2.length + b.2.2.2.2.length : Nat) : Int) ≤ c.2.2.2.2.2.1) else decide (2 * ((a.2.1.length + b.2.1.length : Nat) : Int) ≤ c.2.2.2.1) && decide (((a.2.2.2.1.length + b.2.2.2.1.length : Nat) : Int) ≤ c.2.2.2.2.1))
abbrev ltI := Go.Sort.ltInt
theorem Ym (x y : Int) : Q4.f x y = some (ltI x y) := by
 unfold Q4.f Q5.f ltI Go.Sort.ltInt
 simp
theorem gta (d : Array Int) (i : Nat) : gt d.toList (i : Int) = d[i]! := by
 rw [Ya, List.getD_eq_getElem?_getD]
 by_cases h : i < d.size
 ·simp [h]
 ·simp [h]
theorem Y0 (d : Array Int) (i j : Nat) : (d.toList.set i d[j]!).set j d[i]! = (Go.Sort.swp d i j).toList := by
 simp [Go.Sort.swp]
theorem Yb (d : Array Int) (i j : Nat) : (Go.Sort.swp d i j).size = d.size := by simp [Go.Sort.swp]
theorem wn {x : Int} {n : Nat} (h : x = n) (hn : n ≤ 4611686018427387904) : w64 x = (n : Int) := by rw [Zv (by omega) (by omega), h]
theorem Bj {a b i : Nat} {r : List Int} : ∀ (j : Nat) (d : Array Int), j < d.size → d.size ≤ 1000000 → i < 1000000 → Ev (fun k => Q53.l0 k (a : Int) (b : Int) (Go.Sort.insInner ltI a j d).toList ((i + 1 : Nat) : Int)) r →
  Ev (fun k => Q53.l1 k (a : Int) (b : Int) (i : Int) d.toList (j : Int)) r
 | 0, d, hj, hd, hi, h => h.step fun k hk => by
  rw [Q53.l1, if_neg (by simp only [decide_eq_true_eq]; omega), wn (n := i + 1) (by omega) (by omega)]
  exact hk
 | j + 1, d, hj, hd, hi, h => by
  have e1 : w64 (((j + 1 : Nat) : Int) - 1) = (j : Int) := wn (by omega) (by omega)
  unfold Go.Sort.insInner at h
  by_cases c : a < j + 1
  ·by_cases q : ltI d[j + 1]! d[j]! = true
   ·rw [if_pos (by simp [c, q])] at h
    have := Bj j (Go.Sort.swp d (j + 1) j) (by rw [Yb]; omega) (by rw [Yb]; omega) hi h
    refine this.step fun k hk => ?_
    rw [Q53.l1, if_pos (decide_eq_true (by omega)), if_pos (by simp; omega), e1, if_pos (by simp; omega), gta, gta, Ym, Option.bind_some, if_pos q, Int.toNat_natCast, Int.toNat_natCast, Y0]
    exact hk
   ·rw [if_neg (by simp [q])] at h
    refine h.step fun k hk => ?_
    rw [Q53.l1, if_pos (decide_eq_true (by omega)), if_pos (by simp; omega), e1, if_pos (by simp; omega), gta, gta, Ym, Option.bind_some, if_neg q, wn (n := i + 1) (by omega) (by omega)]
    exact hk
  ·rw [if_neg (by simp [c])] at h
   refine h.step fun k hk => ?_
   rw [Q53.l1, if_neg (by simp only [decide_eq_true_eq]; omega), wn (n := i + 1) (by omega) (by omega)]
   exact hk
theorem V4 (a : Nat) : ∀ (j : Nat) (d : Array Int), (Go.Sort.insInner ltI a j d).size = d.size
 | 0, d => rfl
 | j + 1, d => by
  unfold Go.Sort.insInner
  split
  ·rw [V4 a j, Yb]
  ·rfl
theorem Bw {a b : Nat} : ∀ (m i : Nat) (d : Array Int), b - i = m → b ≤ d.size → d.size ≤ 1000000 → i ≤ 1000000 → Ev (fun k => Q53.l0 k (a : Int) (b : Int) d.toList (i : Int)) (Go.Sort.insOuter ltI a b i d).toList
 | 0, i, d, hm, hb, hd, hi => Ev.last fun k => by
  rw [Q53.l0, if_neg (by simp only [decide_eq_true_eq]; omega)]
  unfold Go.Sort.insOuter
  rw [if_neg (by omega)]
 | m + 1, i, d, hm, hb, hd, hi => by
  have hs := V4 a i d
  have ih := Bw (a := a) (b := b) m (i + 1) (Go.Sort.insInner ltI a i d) (by omega) (by omega) (by omega) (by omega)
  unfold Go.Sort.insOuter
  rw [if_pos (by omega)]
  refine (Bj (b := b) i d (by omega) hd (by omega) ih).step fun k hk => ?_
  rw [Q53.l0, if_pos (decide_eq_true (by omega))]
  exact hk
theorem Zf3 {a b : Nat} {d : Array Int} (hb : b ≤ d.size) (ha : a ≤ 999999) (hd : d.size ≤ 1000000) : Ev (fun k => Q53.f k d.toList (a : Int) (b : Int)) (Go.Sort.insertionSort ltI d a b).toList := by
 refine (Bw (a := a) (b := b) (b - (a + 1)) (a + 1) d rfl hb hd (by omega)).next fun k hk => ?_
 unfold Q53.f
 rw [wn (n := a + 1) (by omega) (by omega)]
 exact hk
theorem Ve (hi first : Nat) : ∀ (n root : Nat) (d : Array Int), hi - root ≤ n → (Go.Sort.siftDown ltI hi first root d).size = d.size
 | 0, root, d, h => by
  rw [Go.Sort.siftDown, dif_pos (by omega)]
 | n + 1, root, d, h => by
  rw [Go.Sort.siftDown]
  split
  ·rfl
  ·split
   ·split
    ·rfl
    ·split
     ·rw [Ve hi first n _ _ (by omega), Yb]
     ·rfl
   ·split
    ·rfl
    ·rw [Ve hi first n _ _ (by omega), Yb]
theorem Zcp {hi first : Nat} : ∀ (n root : Nat) (d : Array Int), hi - root ≤ n → first + hi ≤ d.size → d.size ≤ 1000000 → root ≤ 1000000 → Ev (fun k => Q63.l0 k (hi : Int) (first : Int) d.toList (root : Int)) (Go.Sort.siftDown ltI hi first root d).toList
 | n, root, d, hn, hf, hd, hr => by
  have e1 : w64 (2 * (root : Int)) = ((2 * root : Nat) : Int) := wn (by omega) (by omega)
  have e2 : w64 (((2 * root : Nat) : Int) + 1) = ((2 * root + 1 : Nat) : Int) := wn (by omega) (by omega)
  have e3 : w64 (((2 * root + 1 : Nat) : Int) + 1) = ((2 * root + 2 : Nat) : Int) := wn (by omega) (by omega)
  have e4 : w64 ((first : Int) + ((2 * root + 1 : Nat) : Int)) = ((first + (2 * root + 1) : Nat) : Int) := wn (by omega) (by omega)
  have e5 : w64 (((first + (2 * root + 1) : Nat) : Int) + 1) = ((first + (2 * root + 1) + 1 : Nat) : Int) := wn (by omega) (by omega)
  have e6 : w64 ((first : Int) + (root : Int)) = ((first + root : Nat) : Int) := wn (by omega) (by omega)
  have e7 : w64 ((first : Int) + ((2 * root + 2 : Nat) : Int)) = ((first + (2 * root + 2) : Nat) : Int) := wn (by omega) (by omega)
  have un : ∀ k, Q63.l0 (k + 1) (hi : Int) (first : Int) d.toList (root : Int) = _ := fun k => Q63.l0.eq_2 (hi : Int) (first : Int) d.toList (root : Int) k
  simp only [e1, e2, e3, e4, e5, e6, e7, gta, Ym, Option.bind_some, Int.toNat_natCast, Y0] at un
  rw [Go.Sort.siftDown]
  by_cases h1 : 2 * root + 1 ≥ hi
  ·rw [dif_pos h1]
   exact Ev.last fun k => by rw [un, if_pos (decide_eq_true (by omega))]
  ·rw [dif_neg h1]
   cases n with
   | zero => omega
   | succ n =>
   have go : ∀ (c : Nat), root < c → c < hi → Ev (fun k => Q63.l0 k (hi : Int) (first : Int) (Go.Sort.swp d (first + root) (first + c)).toList (c : Int)) (Go.Sort.siftDown ltI hi first c (Go.Sort.swp d (first + root) (first + c))).toList := fun c h2 h3 =>
    Zcp n c _ (by omega) (by rw [Yb]; exact hf) (by rw [Yb]; exact hd) (by omega)
   have b0 : (0 : Int) ≤ ((first + root : Nat) : Int) ∧ ((first + root : Nat) : Int) < (d.toList.length : Int) := by simp; omega
   have b1 : (0 : Int) ≤ ((first + (2 * root + 1) : Nat) : Int) ∧ ((first + (2 * root + 1) : Nat) : Int) < (d.toList.length : Int) := by simp; omega
   have left : Ev (fun k => Q63.l0 k (hi : Int) (first : Int) d.toList (root : Int)) (if !ltI d[first + root]! d[first + (2 * root + 1)]! then d else Go.Sort.siftDown ltI hi first (2 * root + 1) (Go.Sort.swp d (first + root) (first + (2 * root + 1)))).toList → True := fun _ => trivial
   by_cases h2 : 2 * root + 1 + 1 < hi
   ·have b2 : (0 : Int) ≤ ((first + (2 * root + 1) + 1 : Nat) : Int) ∧ ((first + (2 * root + 1) + 1 : Nat) : Int) < (d.toList.length : Int) := by simp; omega
    have b3 : (0 : Int) ≤ ((first + (2 * root + 2) : Nat) : Int) ∧ ((first + (2 * root + 2) : Nat) : Int) < (d.toList.length : Int) := by simp; omega
    by_cases h3 : ltI d[first + (2 * root + 1)]! d[first + (2 * root + 1) + 1]! = true
    ·rw [if_pos (by simp [h2, h3])]
     by_cases h4 : ltI d[first + root]! d[first + (2 * root + 2)]! = true
     ·rw [if_neg (by simp [h4]), dif_pos (by omega)]
      refine (go (2 * root + 2) (by omega) (by omega)).step fun k hk => ?_
      rw [un, if_neg (by simp only [decide_eq_true_eq]; omega), if_pos (decide_eq_true (by omega)), if_pos b1, if_pos b2, if_pos h3, if_pos b0, if_pos b3, if_neg (by simp [h4])]
      exact hk
     ·rw [if_pos (by simp [h4])]
      refine Ev.last fun k => ?_
      rw [un, if_neg (by simp only [decide_eq_true_eq]; omega), if_pos (decide_eq_true (by omega)), if_pos b1, if_pos b2, if_pos h3, if_pos b0, if_pos b3, if_pos (by simp [h4])]
    ·rw [if_neg (by simp [h3])]
     by_cases h4 : ltI d[first + root]! d[first + (2 * root + 1)]! = true
     ·rw [if_neg (by simp [h4])]
      refine (go (2 * root + 1) (by omega) (by omega)).step fun k hk => ?_
      rw [un, if_neg (by simp only [decide_eq_true_eq]; omega), if_pos (decide_eq_true (by omega)), if_pos b1, if_pos b2, if_neg h3, if_pos b0, if_neg (by simp [h4])]
      exact hk
     ·rw [if_pos (by simp [h4])]
      refine Ev.last fun k => ?_
      rw [un, if_neg (by simp only [decide_eq_true_eq]; omega), if_pos (decide_eq_true (by omega)), if_pos b1, if_pos b2, if_neg h3, if_pos b0, if_pos (by simp [h4])]
   ·rw [if_neg (by simp [h2])]
    by_cases h4 : ltI d[first + root]! d[first + (2 * root + 1)]! = true
    ·rw [if_neg (by simp [h4])]
     refine (go (2 * root + 1) (by omega) (by omega)).step fun k hk => ?_
     rw [un, if_neg (by simp only [decide_eq_true_eq]; omega), if_neg (by simp only [decide_eq_true_eq]; omega), if_pos b0, if_pos b1, if_neg (by simp [h4])]
     exact hk
    ·rw [if_pos (by simp [h4])]
     refine Ev.last fun k => ?_
     rw [un, if_neg (by simp only [decide_eq_true_eq]; omega), if_neg (by simp only [decide_eq_true_eq]; omega), if_pos b0, if_pos b1, if_pos (by simp [h4])]
theorem Zfl {hi first root : Nat} {d : Array Int} (hf : first + hi ≤ d.size) (hd : d.size ≤ 1000000) (hr : root ≤ 1000000) : Ev (fun k => Q63.f k d.toList (root : Int) (hi : Int) (first : Int)) (Go.Sort.siftDown ltI hi first root d).toList := Zcp hi root d (by omega) hf hd hr
theorem Zau {a : Nat} : ∀ (m : Nat) (d : Array Int), a + m ≤ d.size → d.size ≤ 1000000 → Ev (fun k => Q52.l1 k (a : Int) d.toList ((m : Int) - 1)) (Go.Sort.heapPop ltI a m d).toList
 | 0, d, h, hd => Ev.last fun k => by
  rw [Q52.l1, if_neg (by simp)]
  rfl
 | m + 1, d, h, hd => by
  have e0 : (((m + 1 : Nat) : Int) - 1) = (m : Int) := by omega
  have e1 : w64 ((a : Int) + (m : Int)) = ((a + m : Nat) : Int) := wn (by omega) (by omega)
  have e2 : w64 ((m : Int) - 1) = (m : Int) - 1 := Zv (by omega) (by omega)
  have s1 := Zfl (hi := m) (first := a) (root := 0) (d := Go.Sort.swp d a (a + m)) (by rw [Yb]; omega) (by rw [Yb]; exact hd) (by omega)
  have sz := Ve m a m 0 (Go.Sort.swp d a (a + m)) (by omega)
  rw [Yb] at sz
  have ih := Zau (a := a) m (Go.Sort.siftDown ltI m a 0 (Go.Sort.swp d a (a + m))) (by omega) (by omega)
  rw [e0]
  refine Ev.step2 s1 ih fun k h1 h2 => ?_
  rw [Q52.l1, if_pos (decide_eq_true (by omega)), e1, if_pos (by simp; omega), if_pos (by simp; omega), gta, gta, Int.toNat_natCast, Int.toNat_natCast, Y0, show Q63.f k (Go.Sort.swp d a (a + m)).toList 0 (m : Int) (a : Int) = _ from h1, Option.bind_some, e2]
  exact h2
theorem Gc {a b : Nat} (hab : a ≤ b) : ∀ (m : Nat) (d : Array Int), b ≤ d.size → d.size ≤ 1000000 → m ≤ 1000000 → Ev (fun k => Q52.l0 k (a : Int) (b : Int) d.toList ((m : Int) - 1)) (Go.Sort.heapPop ltI a (b - a) (Go.Sort.heapBuild ltI (b - a) a m d)).toList
 | 0, d, h, hd, hm => by
  have e1 : w64 ((b : Int) - (a : Int)) = ((b - a : Nat) : Int) := wn (by omega) (by omega)
  have e2 : w64 (((b - a : Nat) : Int) - 1) = ((b - a : Nat) : Int) - 1 := Zv (by omega) (by omega)
  refine (Zau (a := a) (b - a) d (by omega) hd).step fun k hk => ?_
  rw [Q52.l0, if_neg (by simp), e1, e2]
  exact hk
 | m + 1, d, h, hd, hm => by
  have e0 : (((m + 1 : Nat) : Int) - 1) = (m : Int) := by omega
  have e1 : w64 ((b : Int) - (a : Int)) = ((b - a : Nat) : Int) := wn (by omega) (by omega)
  have e2 : w64 ((m : Int) - 1) = (m : Int) - 1 := Zv (by omega) (by omega)
  have s1 := Zfl (hi := b - a) (first := a) (root := m) (d := d) (by omega) hd (by omega)
  have sz := Ve (b - a) a (b - a) m d (by omega)
  have ih := Gc hab m (Go.Sort.siftDown ltI (b - a) a m d) (by omega) (by omega) (by omega)
  rw [e0]
  refine Ev.step2 s1 ih fun k h1 h2 => ?_
  rw [Q52.l0, if_pos (decide_eq_true (by omega)), e1, h1, Option.bind_some, e2]
  exact h2
theorem Zg7 {a b : Nat} {d : Array Int} (hab : a ≤ b) (hb : b ≤ d.size) (hd : d.size ≤ 1000000) : Ev (fun k => Q52.f k d.toList (a : Int) (b : Int)) (Go.Sort.heapSort ltI d a b).toList := by
 refine (Gc hab ((b - a - 1) / 2 + 1) d hb hd (by omega)).next fun k hk => ?_
 have e1 : w64 ((b : Int) - (a : Int)) = ((b - a : Nat) : Int) := wn (by omega) (by omega)
 have e2 : w64 (((b - a : Nat) : Int) - 1) = ((b - a : Nat) : Int) - 1 := Zv (by omega) (by omega)
 have e3 : Int.tdiv (((b - a : Nat) : Int) - 1) 2 = (((b - a - 1) / 2 : Nat) : Int) := by
  by_cases z : b - a = 0
  ·rw [z]; rfl
  ·rw [show ((b - a : Nat) : Int) - 1 = ((b - a - 1 : Nat) : Int) by omega]
   rfl
 unfold Q52.f
 rw [e1, e2, e3, Zv (by omega) (by omega)]
 rw [show ((((b - a - 1) / 2 + 1 : Nat) : Int) - 1) = (((b - a - 1) / 2 : Nat) : Int) by omega] at hk
 exact hk
theorem Zeh : ∀ (m i j : Nat) (d : Array Int), j - i ≤ m → i ≤ 1000000 → j < d.size → d.size ≤ 1000000 → Ev (fun k => Q62.l0 k d.toList (i : Int) (j : Int)) (Go.Sort.reverseLoop i j d).toList
 | m, i, j, d, hm, hi, hj, hd => by
  rw [Go.Sort.reverseLoop]
  by_cases c : i < j
  ·cases m with
   | zero => omega
   | succ m =>
   rw [if_pos c]
   refine (Zeh m (i + 1) (j - 1) (Go.Sort.swp d i j) (by omega) (by omega) (by rw [Yb]; omega) (by rw [Yb]; exact hd)).step fun k hk => ?_
   rw [Q62.l0, if_pos (decide_eq_true (by omega)), if_pos (by simp; omega), if_pos (by simp; omega), gta, gta, Int.toNat_natCast, Int.toNat_natCast, Y0, wn (n := i + 1) (by omega) (by omega), wn (x := (j : Int) - 1) (n := j - 1) (by omega) (by omega)]
   exact hk
  ·rw [if_neg c]
   exact Ev.last fun k => by rw [Q62.l0, if_neg (by simp only [decide_eq_true_eq]; omega)]
theorem Zhi {a b : Nat} {d : Array Int} (ha : a ≤ 1000000) (h1 : 1 ≤ b) (hb : b ≤ d.size) (hd : d.size ≤ 1000000) : Ev (fun k => Q62.f k d.toList (a : Int) (b : Int)) (Go.Sort.reverseRange d a b).toList := by
 refine (Zeh (b - 1 - a) a (b - 1) d (Nat.le_refl _) ha (by omega) hd).next fun k hk => ?_
 unfold Q62.f
 rw [wn (x := (b : Int) - 1) (n := b - 1) (by omega) (by omega)]
 exact hk
theorem G9 {d : Array Int} {a b s : Nat} (ha : a < d.size) (hb : b < d.size) (hs : s ≤ 1000) : Q57.f d.toList (a : Int) (b : Int) (s : Int) = some (((Go.Sort.order2 ltI d a b s).1 : Int), ((Go.Sort.order2 ltI d a b s).2.1 : Int), ((Go.Sort.order2 ltI d a b s).2.2 : Int)) := by
 unfold Q57.f Go.Sort.order2
 rw [if_pos (by simp; omega), if_pos (by simp; omega), gta, gta, Ym, Option.bind_some, wn (n := s + 1) (by omega) (by omega)]
 split <;> rfl
theorem Wn {P : Nat → Prop} {d : Array Int} {a b s : Nat} (ha : P a) (hb : P b) : P (Go.Sort.order2 ltI d a b s).1 ∧ P (Go.Sort.order2 ltI d a b s).2.1 ∧ (Go.Sort.order2 ltI d a b s).2.2 ≤ s + 1 := by
 unfold Go.Sort.order2
 split
 ·exact ⟨hb, ha, Nat.le_refl _⟩
 ·exact ⟨ha, hb, Nat.le_succ _⟩
theorem Zdy {P : Nat → Prop} {d : Array Int} {a b c s : Nat} (ha : P a) (hb : P b) (hc : P c) : P (Go.Sort.median ltI d a b c s).1 ∧ (Go.Sort.median ltI d a b c s).2 ≤ s + 3 := by
 obtain ⟨a1, a2, a3⟩ := Wn (d := d) (s := s) ha hb
 obtain ⟨b1, b2, b3⟩ := Wn (d := d) (s := (Go.Sort.order2 ltI d a b s).2.2) a2 hc
 obtain ⟨c1, c2, c3⟩ := Wn (d := d) (s := (Go.Sort.order2 ltI d (Go.Sort.order2 ltI d a b s).2.1 c (Go.Sort.order2 ltI d a b s).2.2).2.2) a1 b1
 unfold Go.Sort.median
 exact ⟨c2, by dsimp only; omega⟩
theorem G0 {d : Array Int} {a b c s : Nat} (ha : a < d.size) (hb : b < d.size) (hc : c < d.size) (hs : s ≤ 900) : Q55.f d.toList (a : Int) (b : Int) (c : Int) (s : Int) = some (((Go.Sort.median ltI d a b c s).1 : Int), ((Go.Sort.median ltI d a b c s).2 : Int)) := by
 obtain ⟨a1, a2, a3⟩ := Wn (P := fun x => x < d.size) (d := d) (s := s) ha hb
 obtain ⟨b1, b2, b3⟩ := Wn (P := fun x => x < d.size) (d := d) (s := (Go.Sort.order2 ltI d a b s).2.2) a2 hc
 unfold Q55.f Go.Sort.median
 rw [G9 ha hb (by omega), Option.bind_some]
 dsimp only
 rw [G9 a2 hc (by omega), Option.bind_some]
 dsimp only
 rw [G9 a1 b1 (by omega), Option.bind_some]
theorem Gm {d : Array Int} {a s : Nat} (h1 : 1 ≤ a) (ha : a + 1 < d.size) (hd : d.size ≤ 1000000) (hs : s ≤ 900) : Q54.f d.toList (a : Int) (s : Int) = some (((Go.Sort.medianAdjacent ltI d a s).1 : Int), ((Go.Sort.medianAdjacent ltI d a s).2 : Int)) := by
 unfold Q54.f Go.Sort.medianAdjacent
 rw [wn (x := (a : Int) - 1) (n := a - 1) (by omega) (by omega), wn (n := a + 1) (by omega) (by omega), G0 (by omega) (by omega) (by omega) hs]
 rfl
theorem Ug {d : Array Int} {a s : Nat} (ha : a + 1 < d.size) : (Go.Sort.medianAdjacent ltI d a s).1 < d.size ∧ (Go.Sort.medianAdjacent ltI d a s).2 ≤ s + 3 := by
 unfold Go.Sort.medianAdjacent
 exact Zdy (P := fun x => x < d.size) (by omega) (by omega) (by omega)
def Zae : Go.Sort.Hint → Int
 | .unknown => 0
 | .increasing => 1
 | .decreasing => 2
theorem Zb7 (x : Int) (n : Nat) : (if (decide ((n : Int) = 0)) = true then (some (x, (1 : Int))) else (if (decide ((n : Int) = 12)) = true then (some (x, 2)) else (some (x, 0)))) = some (x, Zae (if n = 0 then Go.Sort.Hint.increasing else if n = 12 then .decreasing else .unknown)) := by
 by_cases h1 : n = 0
 ·subst h1; rfl
 ·rw [if_neg (by simp only [decide_eq_true_eq]; omega), if_neg h1]
  by_cases h2 : n = 12
  ·subst h2; rfl
  ·rw [if_neg (by simp only [decide_eq_true_eq]; omega), if_neg h2]
   rfl
theorem Zgg {d : Array Int} {a b : Nat} (hab : a ≤ b) (hb : b ≤ d.size) (h12 : 12 < b - a) (hd : d.size ≤ 1000000) : Q51.f d.toList (a : Int) (b : Int) = some (((Go.Sort.choosePivot ltI d a b).1 : Int), Zae (Go.Sort.choosePivot ltI d a b).2) := by
 have e1 : w64 ((b : Int) - (a : Int)) = ((b - a : Nat) : Int) := wn (by omega) (by omega)
 have e2 : w64 (Int.tdiv ((b - a : Nat) : Int) 4) = (((b - a) / 4 : Nat) : Int) := by
  rw [show Int.tdiv ((b - a : Nat) : Int) 4 = (((b - a) / 4 : Nat) : Int) from rfl, Zv (by omega) (by omega)]
 obtain ⟨q, hq⟩ : ∃ q, q = (b - a) / 4 := ⟨_, rfl⟩
 rw [← hq] at e2
 have e3 : w64 ((q : Int) * 1) = ((q * 1 : Nat) : Int) := wn (by omega) (by omega)
 have e4 : w64 ((q : Int) * 2) = ((q * 2 : Nat) : Int) := wn (by omega) (by omega)
 have e5 : w64 ((q : Int) * 3) = ((q * 3 : Nat) : Int) := wn (by omega) (by omega)
 have e6 : w64 ((a : Int) + ((q * 1 : Nat) : Int)) = ((a + q * 1 : Nat) : Int) := wn (by omega) (by omega)
 have e7 : w64 ((a : Int) + ((q * 2 : Nat) : Int)) = ((a + q * 2 : Nat) : Int) := wn (by omega) (by omega)
 have e8 : w64 ((a : Int) + ((q * 3 : Nat) : Int)) = ((a + q * 3 : Nat) : Int) := wn (by omega) (by omega)
 unfold Q51.f Go.Sort.choosePivot
 simp only [e1, e2, e3, e4, e5, e6, e7, e8, ← hq]
 rw [if_pos (decide_eq_true (by omega)), if_pos (show b - a ≥ 8 by omega)]
 by_cases c : b - a ≥ 50
 ·obtain ⟨i1, i2⟩ := Ug (d := d) (a := a + q * 1) (s := 0) (by omega)
  obtain ⟨j1, j2⟩ := Ug (d := d) (a := a + q * 2) (s := (Go.Sort.medianAdjacent ltI d (a + q * 1) 0).2) (by omega)
  obtain ⟨k1, k2⟩ := Ug (d := d) (a := a + q * 3) (s := (Go.Sort.medianAdjacent ltI d (a + q * 2) (Go.Sort.medianAdjacent ltI d (a + q * 1) 0).2).2) (by omega)
  rw [if_pos (decide_eq_true (by omega)), if_pos c, show Q54.f d.toList ((a + q * 1 : Nat) : Int) 0 = _ from Gm (s := 0) (by omega) (by omega) hd (by omega), Option.bind_some]
  dsimp only
  rw [Gm (by omega) (by omega) hd (by omega), Option.bind_some]
  dsimp only
  rw [Gm (by omega) (by omega) hd (by omega), Option.bind_some]
  dsimp only
  rw [G0 i1 j1 k1 (by omega), Option.bind_some]
  exact Zb7 _ _
 ·rw [if_neg (by simp only [decide_eq_true_eq]; omega), if_neg c, show Q55.f d.toList ((a + q * 1 : Nat) : Int) ((a + q * 2 : Nat) : Int) ((a + q * 3 : Nat) : Int) 0 = _ from G0 (s := 0) (by omega) (by omega) (by omega) (by omega), Option.bind_some]
  exact Zb7 _ _
theorem Zcj {R : Type} {b : Nat} {r : R} {F : Nat → List Int → Int → Option R} {G : Nat → List Int → Option R}
  (hF : ∀ k x j, F (k + 1) x j = if (decide (j < (b : Int))) = true then (if 0 ≤ j ∧ j < (x.length : Int) then (if 0 ≤ (w64 (j - 1)) ∧ (w64 (j - 1)) < (x.length : Int) then ((Q4.f (gt x j) (gt x (w64 (j - 1)))).bind fun r3 => (if (!r3) = true then (G k x) else (F k ((x.set j.toNat (gt x (w64 (j - 1)))).set (w64 (j - 1)).toNat (gt x j)) (w64 (j + 1))))) else none) else none) else (G k x)) :
  ∀ (m j : Nat) (d : Array Int), b - j ≤ m → 1 ≤ j → b ≤ d.size → d.size ≤ 1000000 → Ev (fun k => G k (Go.Sort.shiftUp ltI b j d).toList) r → Ev (fun k => F k d.toList (j : Int)) r
 | m, j, d, hm, h1, hb, hd, h => by
  rw [Go.Sort.shiftUp] at h
  by_cases c : j < b
  ·cases m with
   | zero => omega
   | succ m =>
   have e1 : w64 ((j : Int) - 1) = ((j - 1 : Nat) : Int) := wn (by omega) (by omega)
   have e2 : w64 ((j : Int) + 1) = ((j + 1 : Nat) : Int) := wn (by omega) (by omega)
   rw [if_pos c] at h
   by_cases q : ltI d[j]! d[j - 1]! = true
   ·rw [if_neg (by simp [q])] at h
    refine (Zcj hF m (j + 1) (Go.Sort.swp d j (j - 1)) (by omega) (by omega) (by rw [Yb]; exact hb) (by rw [Yb]; exact hd) h).step fun k hk => ?_
    rw [hF, if_pos (decide_eq_true (by omega)), e1, if_pos (by simp; omega), if_pos (by simp; omega), gta, gta, Ym, Option.bind_some, if_neg (by simp [q]), Int.toNat_natCast, Int.toNat_natCast, Y0, e2]
    exact hk
   ·rw [if_pos (by simp [q])] at h
    refine h.step fun k hk => ?_
    rw [hF, if_pos (decide_eq_true (by omega)), e1, if_pos (by simp; omega), if_pos (by simp; omega), gta, gta, Ym, Option.bind_some, if_pos (by simp [q])]
    exact hk
  ·rw [if_neg c] at h
   refine h.step fun k hk => ?_
   rw [hF, if_neg (by simp only [decide_eq_true_eq]; omega)]
   exact hk
theorem Uh (b : Nat) : ∀ (m j : Nat) (d : Array Int), b - j ≤ m → (Go.Sort.shiftUp ltI b j d).size = d.size
 | m, j, d, hm => by
  rw [Go.Sort.shiftUp]
  by_cases c : j < b
  ·cases m with
   | zero => omega
   | succ m =>
   rw [if_pos c]
   split
   ·rfl
   ·rw [Uh b m _ _ (by omega), Yb]
  ·rw [if_neg c]
theorem Vk : ∀ (j : Nat) (d : Array Int), (Go.Sort.shiftDown ltI j d).size = d.size
 | 0, d => rfl
 | j + 1, d => by
  unfold Go.Sort.shiftDown
  split
  ·rfl
  ·rw [Vk j, Yb]
theorem Bu {R : Type} {r : R} {F : Nat → List Int → Int → Option R} {G1 G2 : Nat → List Int → Option R}
  (hF : ∀ k x j, F (k + 1) x j = if (decide (1 ≤ j)) = true then (if 0 ≤ j ∧ j < (x.length : Int) then (if 0 ≤ (w64 (j - 1)) ∧ (w64 (j - 1)) < (x.length : Int) then ((Q4.f (gt x j) (gt x (w64 (j - 1)))).bind fun r3 => (if (!r3) = true then (G1 k x) else (F k ((x.set j.toNat (gt x (w64 (j - 1)))).set (w64 (j - 1)).toNat (gt x j)) (w64 (j - 1))))) else none) else none) else (G2 k x)) :
  ∀ (j : Nat) (d : Array Int), j < d.size → d.size ≤ 1000000 → Ev (fun k => G1 k (Go.Sort.shiftDown ltI j d).toList) r → Ev (fun k => G2 k (Go.Sort.shiftDown ltI j d).toList) r → Ev (fun k => F k d.toList (j : Int)) r
 | 0, d, hj, hd, h1, h2 => h2.step fun k hk => by
  rw [hF, if_neg (by simp)]
  exact hk
 | j + 1, d, hj, hd, h1, h2 => by
  have e1 : w64 (((j + 1 : Nat) : Int) - 1) = (j : Int) := wn (by omega) (by omega)
  unfold Go.Sort.shiftDown at h1 h2
  by_cases q : ltI d[j + 1]! d[j]! = true
  ·rw [if_neg (by simp [q])] at h1 h2
   refine (Bu hF j (Go.Sort.swp d (j + 1) j) (by rw [Yb]; omega) (by rw [Yb]; exact hd) h1 h2).step fun k hk => ?_
   rw [hF, if_pos (decide_eq_true (by omega)), e1, if_pos (by simp; omega), if_pos (by simp; omega), gta, gta, Ym, Option.bind_some, if_neg (by simp [q]), Int.toNat_natCast, Int.toNat_natCast, Y0]
   exact hk
  ·rw [if_pos (by simp [q])] at h1
   refine h1.step fun k hk => ?_
   rw [hF, if_pos (decide_eq_true (by omega)), e1, if_pos (by simp; omega), if_pos (by simp; omega), gta, gta, Ym, Option.bind_some, if_pos (by simp [q])]
   exact hk
def U4 (a b s i : Nat) (d : Array Int) : Array Int × Bool :=
 if i = b then (d, true) else if b - a < 50 then (d, false) else
  Go.Sort.partialIns ltI a b s i (let d1 := Go.Sort.swp d i (i - 1); let d2 := if i - a ≥ 2 then Go.Sort.shiftDown ltI (i - 1) d1 else d1; if b - i ≥ 2 then Go.Sort.shiftUp ltI b (i + 1) d2 else d2)
theorem Ga (a b s i : Nat) (d : Array Int) : Go.Sort.partialIns ltI a b (s + 1) i d = U4 a b s (Go.Sort.scanSorted ltI d b i) d := rfl
def Ws (p : Array Int × Bool) : Bool × List Int := (p.2, p.1.toList)
theorem Zdm {a b s i : Nat} {d : Array Int} (hs : s < 5) (ha : a < i) (hi : i < b) (hb : b ≤ d.size) (hd : d.size ≤ 1000000) (hq : ltI d[i]! d[i - 1]! = true)
  (ih : ∀ d' : Array Int, d'.size = d.size → Ev (fun k => Q58.l0 k (a : Int) (b : Int) d'.toList (i : Int) ((5 - s : Nat) : Int)) (Ws (Go.Sort.partialIns ltI a b s i d'))) :
  Ev (fun k => Q58.l3 k (a : Int) (b : Int) d.toList ((4 - s : Nat) : Int) (i : Int)) (Ws (U4 a b s i d)) := by
 have e1 : w64 ((i : Int) - 1) = ((i - 1 : Nat) : Int) := wn (by omega) (by omega)
 have e2 : w64 ((b : Int) - (a : Int)) = ((b - a : Nat) : Int) := wn (by omega) (by omega)
 have e3 : w64 ((i : Int) - (a : Int)) = ((i - a : Nat) : Int) := wn (by omega) (by omega)
 have e4 : w64 ((b : Int) - (i : Int)) = ((b - i : Nat) : Int) := wn (by omega) (by omega)
 have e5 : w64 ((i : Int) + 1) = ((i + 1 : Nat) : Int) := wn (by omega) (by omega)
 have e6 : w64 (((4 - s : Nat) : Int) + 1) = ((5 - s : Nat) : Int) := wn (by omega) (by omega)
 have un : ∀ k, Q58.l3 (k + 1) (a : Int) (b : Int) d.toList ((4 - s : Nat) : Int) (i : Int) = (if (decide (((b - a : Nat) : Int) < 50)) = true then (some (false, d.toList)) else (if (decide (2 ≤ ((i - a : Nat) : Int))) = true then (Q58.l2 k (a : Int) (b : Int) ((4 - s : Nat) : Int) (i : Int) (Go.Sort.swp d i (i - 1)).toList ((i - 1 : Nat) : Int)) else (if (decide (2 ≤ ((b - i : Nat) : Int))) = true then (Q58.l1 k (a : Int) (b : Int) ((4 - s : Nat) : Int) (i : Int) (Go.Sort.swp d i (i - 1)).toList ((i + 1 : Nat) : Int)) else (Q58.l0 k (a : Int) (b : Int) (Go.Sort.swp d i (i - 1)).toList (i : Int) ((5 - s : Nat) : Int))))) := fun k => by
  rw [Q58.l3, if_pos (decide_eq_true (by omega)), e1, if_pos (by simp; omega), if_pos (by simp; omega), gta, gta, Ym, Option.bind_some, if_neg (by simp [hq]), if_neg (by simp only [decide_eq_true_eq]; omega), if_pos (show 0 ≤ ((i - 1 : Nat) : Int) ∧ ((i - 1 : Nat) : Int) < (d.toList.length : Int) by simp; omega), if_pos (show 0 ≤ (i : Int) ∧ (i : Int) < (d.toList.length : Int) by simp; omega), e2, e3, e4, e5, e6, Int.toNat_natCast, Int.toNat_natCast, Y0]
 unfold U4
 rw [if_neg (by omega)]
 by_cases c1 : b - a < 50
 ·rw [if_pos c1]
  exact Ev.last fun k => by rw [un, if_pos (decide_eq_true (by omega))]; rfl
 ·rw [if_neg c1]
  have sz := Yb d i (i - 1)
  have fin : ∀ (d2 : Array Int), d2.size = d.size → ∀ (F : Nat → List Int → Int → Option (Bool × List Int)), (∀ k x j, F (k + 1) x j = if (decide (j < (b : Int))) = true then (if 0 ≤ j ∧ j < (x.length : Int) then (if 0 ≤ (w64 (j - 1)) ∧ (w64 (j - 1)) < (x.length : Int) then ((Q4.f (gt x j) (gt x (w64 (j - 1)))).bind fun r3 => (if (!r3) = true then (Q58.l0 k (a : Int) (b : Int) x (i : Int) ((5 - s : Nat) : Int)) else (F k ((x.set j.toNat (gt x (w64 (j - 1)))).set (w64 (j - 1)).toNat (gt x j)) (w64 (j + 1))))) else none) else none) else (Q58.l0 k (a : Int) (b : Int) x (i : Int) ((5 - s : Nat) : Int))) →
    Ev (fun k => F k d2.toList ((i + 1 : Nat) : Int)) (Ws (Go.Sort.partialIns ltI a b s i (Go.Sort.shiftUp ltI b (i + 1) d2))) := fun d2 h2 F hF =>
   Zcj (G := fun k x => Q58.l0 k (a : Int) (b : Int) x (i : Int) ((5 - s : Nat) : Int)) hF b (i + 1) d2 (by omega) (by omega) (by omega) (by omega) (ih _ (by rw [Uh b b _ _ (by omega), h2]))
  by_cases c2 : i - a ≥ 2
  ·have sz2 : (Go.Sort.shiftDown ltI (i - 1) (Go.Sort.swp d i (i - 1))).size = d.size := by rw [Vk, sz]
   have dn := Bu (r := Ws (Go.Sort.partialIns ltI a b s i (if b - i ≥ 2 then Go.Sort.shiftUp ltI b (i + 1) (Go.Sort.shiftDown ltI (i - 1) (Go.Sort.swp d i (i - 1))) else Go.Sort.shiftDown ltI (i - 1) (Go.Sort.swp d i (i - 1)))))
    (F := fun k x j => Q58.l2 k (a : Int) (b : Int) ((4 - s : Nat) : Int) (i : Int) x j)
    (G1 := fun k x => if (decide (2 ≤ ((b - i : Nat) : Int))) = true then (Q58.l1 k (a : Int) (b : Int) ((4 - s : Nat) : Int) (i : Int) x ((i + 1 : Nat) : Int)) else (Q58.l0 k (a : Int) (b : Int) x (i : Int) ((5 - s : Nat) : Int)))
    (G2 := fun k x => if (decide (2 ≤ ((b - i : Nat) : Int))) = true then (Q58.l1 k (a : Int) (b : Int) ((4 - s : Nat) : Int) (i : Int) x ((i + 1 : Nat) : Int)) else (Q58.l0 k (a : Int) (b : Int) x (i : Int) ((5 - s : Nat) : Int)))
    (fun k x j => by rw [Q58.l2]; simp only [e4, e5, e6]) (i - 1) (Go.Sort.swp d i (i - 1)) (by omega) (by omega)
   have key := dn (by
    by_cases c3 : b - i ≥ 2
    ·simp only [if_pos c3, if_pos (show decide (2 ≤ ((b - i : Nat) : Int)) = true from decide_eq_true (by omega))]
     exact fin _ sz2 (fun k x j => Q58.l1 k (a : Int) (b : Int) ((4 - s : Nat) : Int) (i : Int) x j) (fun k x j => by rw [Q58.l1]; simp only [e6])
    ·simp only [if_neg c3, if_neg (show ¬ decide (2 ≤ ((b - i : Nat) : Int)) = true by simp only [decide_eq_true_eq]; omega)]
     exact ih _ sz2) (by
    by_cases c3 : b - i ≥ 2
    ·simp only [if_pos c3, if_pos (show decide (2 ≤ ((b - i : Nat) : Int)) = true from decide_eq_true (by omega))]
     exact fin _ sz2 (fun k x j => Q58.l1 k (a : Int) (b : Int) ((4 - s : Nat) : Int) (i : Int) x j) (fun k x j => by rw [Q58.l1]; simp only [e6])
    ·simp only [if_neg c3, if_neg (show ¬ decide (2 ≤ ((b - i : Nat) : Int)) = true by simp only [decide_eq_true_eq]; omega)]
     exact ih _ sz2)
   refine key.step fun k hk => ?_
   rw [un, if_neg (by simp only [decide_eq_true_eq]; omega), if_pos (decide_eq_true (by omega)), hk]
   simp only [if_pos c2]
  ·by_cases c3 : b - i ≥ 2
   ·refine (fin _ sz (fun k x j => Q58.l1 k (a : Int) (b : Int) ((4 - s : Nat) : Int) (i : Int) x j) (fun k x j => by rw [Q58.l1]; simp only [e6])).step fun k hk => ?_
    rw [un, if_neg (by simp only [decide_eq_true_eq]; omega), if_neg (by simp only [decide_eq_true_eq]; omega), if_pos (decide_eq_true (by omega)), hk]
    simp only [if_neg c2, if_pos c3]
   ·refine (ih _ sz).step fun k hk => ?_
    rw [un, if_neg (by simp only [decide_eq_true_eq]; omega), if_neg (by simp only [decide_eq_true_eq]; omega), if_neg (by simp only [decide_eq_true_eq]; omega), hk]
    simp only [if_neg c2, if_neg c3]
theorem Zcn {a b n : Nat} (hn : n ≤ 1000000) (hb : b ≤ n) : ∀ (s i : Nat) (d : Array Int), s ≤ 5 → a < i → i ≤ b → d.size = n → Ev (fun k => Q58.l0 k (a : Int) (b : Int) d.toList (i : Int) ((5 - s : Nat) : Int)) (Ws (Go.Sort.partialIns ltI a b s i d))
 | 0, i, d, hs, ha, hi, hd => Ev.last fun k => by
  rw [Q58.l0, if_neg (by simp)]
  rfl
 | s + 1, i, d, hs, ha, hi, hd => by
  rw [Ga]
  have scan : ∀ (m i : Nat), b - i ≤ m → a < i → i ≤ b → Ev (fun k => Q58.l3 k (a : Int) (b : Int) d.toList ((4 - s : Nat) : Int) (i : Int)) (Ws (U4 a b s (Go.Sort.scanSorted ltI d b i) d)) := fun m => by
   induction m with
   | zero =>
    intro i hm ha hi
    rw [Go.Sort.scanSorted, if_neg (by simp; omega)]
    unfold U4
    rw [if_pos (by omega)]
    exact Ev.last fun k => by
     rw [Q58.l3, if_neg (by simp only [decide_eq_true_eq]; omega), if_pos (decide_eq_true (by omega))]
     rfl
   | succ m ihm =>
    intro i hm ha hi
    rw [Go.Sort.scanSorted]
    by_cases c : i < b
    ·by_cases q : ltI d[i]! d[i - 1]! = true
     ·rw [if_neg (by simp [q])]
      exact Zdm (by omega) ha c (by omega) (by omega) q fun d' h' => Zcn hn hb s i d' (by omega) ha hi (by omega)
     ·rw [if_pos (by simp [c, q])]
      have e1 : w64 ((i : Int) - 1) = ((i - 1 : Nat) : Int) := wn (by omega) (by omega)
      have e5 : w64 ((i : Int) + 1) = ((i + 1 : Nat) : Int) := wn (by omega) (by omega)
      refine (ihm (i + 1) (by omega) (by omega) (by omega)).step fun k hk => ?_
      rw [Q58.l3, if_pos (decide_eq_true (by omega)), e1, if_pos (by simp; omega), if_pos (by simp; omega), gta, gta, Ym, Option.bind_some, if_pos (by simp [q]), e5]
      exact hk
    ·rw [if_neg (by simp [c])]
     unfold U4
     rw [if_pos (by omega)]
     exact Ev.last fun k => by
      rw [Q58.l3, if_neg (by simp only [decide_eq_true_eq]; omega), if_pos (decide_eq_true (by omega))]
      rfl
  refine (scan b i (by omega) ha hi).step fun k hk => ?_
  rw [Q58.l0, if_pos (decide_eq_true (by omega)), show ((5 - (s + 1) : Nat) : Int) = ((4 - s : Nat) : Int) by omega]
  exact hk
theorem Zg0 {a b : Nat} {d : Array Int} (hab : a < b) (hb : b ≤ d.size) (hd : d.size ≤ 1000000) : Ev (fun k => Q58.f k d.toList (a : Int) (b : Int)) (Ws (Go.Sort.partialInsertionSort ltI d a b)) := by
 refine (Zcn (a := a) (b := b) hd hb 5 (a + 1) d (Nat.le_refl _) (by omega) (by omega) rfl).next fun k hk => ?_
 unfold Q58.f
 rw [wn (n := a + 1) (by omega) (by omega)]
 exact hk
theorem Up (p : Int → Bool) (d : Array Int) (j : Nat) : ∀ (m i : Nat), j + 1 - i ≤ m → i ≤ Go.Sort.scanUp p d j i ∧ (Go.Sort.scanUp p d j i ≤ j + 1 ∨ Go.Sort.scanUp p d j i = i)
 | m, i, hm => by
  rw [Go.Sort.scanUp]
  by_cases c : (decide (i ≤ j) && p d[i]!) = true
  ·rw [if_pos c]
   have hij : i ≤ j := by simp only [Bool.and_eq_true, decide_eq_true_eq] at c; exact c.1
   cases m with
   | zero => omega
   | succ m =>
   have := Up p d j m (i + 1) (by omega)
   omega
  ·rw [if_neg c]
   exact ⟨Nat.le_refl _, .inr rfl⟩
theorem Wg (p : Int → Bool) (d : Array Int) (i : Nat) : ∀ j : Nat, Go.Sort.scanDown p d i j ≤ j
 | 0 => Nat.le_refl _
 | j + 1 => by
  unfold Go.Sort.scanDown
  split
  ·have := Wg p d i j; omega
  ·exact Nat.le_refl _
def Vr (p : Nat × Array Int) : Int × List Int := ((p.1 : Int), p.2.toList)
def Vc (a i2 j2 : Nat) (d : Array Int) : Nat × Array Int := if i2 > j2 then (i2, d) else Go.Sort.partEqLoop ltI a (i2 + 1) (j2 - 1) (Go.Sort.swp d i2 j2)
theorem Zbx {a i j : Nat} {d : Array Int} (h1 : 1 ≤ i) : Go.Sort.partEqLoop ltI a i j d = Vc a (Go.Sort.scanUp (fun x => !ltI d[a]! x) d j i) (Go.Sort.scanDown (fun x => ltI d[a]! x) d (Go.Sort.scanUp (fun x => !ltI d[a]! x) d j i) j) d := by
 have u := (Up (fun x => !ltI d[a]! x) d j _ i (Nat.le_refl _)).1
 have v := Wg (fun x => ltI d[a]! x) d (Go.Sort.scanUp (fun x => !ltI d[a]! x) d j i) j
 rw [Go.Sort.partEqLoop]
 unfold Vc
 split
 ·rfl
 ·rw [dif_pos (by omega)]
theorem Zb2 {a i2 : Nat} {d : Array Int} (hi : 1 ≤ i2) (ha : a < d.size) (hd : d.size ≤ 1000000) (hi2 : i2 ≤ 1000001) : ∀ (j : Nat), j < d.size → (∀ j2, j2 ≤ j → i2 ≤ j2 → Ev (fun k => Q59.l0 k (a : Int) (Go.Sort.swp d i2 j2).toList ((i2 + 1 : Nat) : Int) ((j2 - 1 : Nat) : Int)) (Vr (Go.Sort.partEqLoop ltI a (i2 + 1) (j2 - 1) (Go.Sort.swp d i2 j2)))) →
  Ev (fun k => Q59.l2 k (a : Int) d.toList (i2 : Int) (j : Int)) (Vr (Vc a i2 (Go.Sort.scanDown (fun x => ltI d[a]! x) d i2 j) d))
 | 0, hj, h => by
  unfold Go.Sort.scanDown Vc
  rw [if_pos (by omega)]
  exact Ev.last fun k => by rw [Q59.l2, if_neg (by simp only [decide_eq_true_eq]; omega), if_pos (decide_eq_true (by omega))]; rfl
 | j + 1, hj, h => by
  have e1 : w64 (((j + 1 : Nat) : Int) - 1) = (j : Int) := wn (by omega) (by omega)
  have e2 : w64 ((i2 : Int) + 1) = ((i2 + 1 : Nat) : Int) := wn (by omega) (by omega)
  unfold Go.Sort.scanDown
  by_cases c : i2 ≤ j + 1
  ·by_cases q : ltI d[a]! d[j + 1]! = true
   ·rw [if_pos (by simp [c, q])]
    refine (Zb2 hi ha hd hi2 j (by omega) fun j2 a b => h j2 (by omega) b).step fun k hk => ?_
    rw [Q59.l2, if_pos (decide_eq_true (by omega)), if_pos (by simp; omega), gta, gta, Ym, Option.bind_some, if_pos q, e1]
    exact hk
   ·rw [if_neg (by simp [q])]
    unfold Vc
    rw [if_neg (by omega)]
    refine (h (j + 1) (Nat.le_refl _) c).step fun k hk => ?_
    rw [Q59.l2, if_pos (decide_eq_true (by omega)), if_pos (by simp; omega), gta, gta, Ym, Option.bind_some, if_neg q, if_neg (by simp only [decide_eq_true_eq]; omega), gta, Int.toNat_natCast, Int.toNat_natCast, Y0, e1, e2]
    exact hk
  ·rw [if_neg (by simp [c])]
   unfold Vc
   rw [if_pos (by omega)]
   exact Ev.last fun k => by rw [Q59.l2, if_neg (by simp only [decide_eq_true_eq]; omega), if_pos (decide_eq_true (by omega))]; rfl
theorem Zfh {a j : Nat} {d : Array Int} (ha : a < d.size) (hd : d.size ≤ 1000000) (hj : j < d.size) : ∀ (m i : Nat), j + 1 - i ≤ m → 1 ≤ i → i ≤ 1000001 → (∀ i2 j2, i ≤ i2 → j2 ≤ j → i2 ≤ j2 → Ev (fun k => Q59.l0 k (a : Int) (Go.Sort.swp d i2 j2).toList ((i2 + 1 : Nat) : Int) ((j2 - 1 : Nat) : Int)) (Vr (Go.Sort.partEqLoop ltI a (i2 + 1) (j2 - 1) (Go.Sort.swp d i2 j2)))) →
  Ev (fun k => Q59.l1 k (a : Int) d.toList (j : Int) (i : Int)) (Vr (Vc a (Go.Sort.scanUp (fun x => !ltI d[a]! x) d j i) (Go.Sort.scanDown (fun x => ltI d[a]! x) d (Go.Sort.scanUp (fun x => !ltI d[a]! x) d j i) j) d))
 | m, i, hm, h1, hi, h => by
  have e2 : w64 ((i : Int) + 1) = ((i + 1 : Nat) : Int) := wn (by omega) (by omega)
  rw [Go.Sort.scanUp]
  by_cases c : i ≤ j
  ·by_cases q : ltI d[a]! d[i]! = true
   ·rw [if_neg (by simp [q])]
    refine (Zb2 h1 ha hd hi j hj fun j2 a b => h i j2 (Nat.le_refl _) a b).step fun k hk => ?_
    rw [Q59.l1, if_pos (decide_eq_true (by omega)), if_pos (by simp; omega), if_pos (by simp; omega), gta, gta, Ym, Option.bind_some, if_neg (by simp [q])]
    exact hk
   ·cases m with
    | zero => omega
    | succ m =>
    rw [if_pos (by simp [c, q])]
    refine (Zfh ha hd hj m (i + 1) (by omega) (by omega) (by omega) fun i2 j2 a b c => h i2 j2 (by omega) b c).step fun k hk => ?_
    rw [Q59.l1, if_pos (decide_eq_true (by omega)), if_pos (by simp; omega), if_pos (by simp; omega), gta, gta, Ym, Option.bind_some, if_pos (by simp [q]), e2]
    exact hk
  ·rw [if_neg (by simp [c])]
   have v := Wg (fun x => ltI d[a]! x) d i j
   unfold Vc
   rw [if_pos (by omega)]
   have : Ev (fun k => Q59.l3 k (a : Int) d.toList (j : Int) (i : Int)) (Vr (i, d)) := Ev.last fun k => by
    rw [Q59.l3, if_pos (decide_eq_true (by omega))]
    rfl
   refine this.step fun k hk => ?_
   rw [Q59.l1, if_neg (by simp only [decide_eq_true_eq]; omega)]
   exact hk
theorem Zcc {a n : Nat} (hn : n ≤ 1000000) (ha : a < n) : ∀ (m i j : Nat) (d : Array Int), j + 1 - i ≤ m → 1 ≤ i → i ≤ 1000001 → j < n → d.size = n → Ev (fun k => Q59.l0 k (a : Int) d.toList (i : Int) (j : Int)) (Vr (Go.Sort.partEqLoop ltI a i j d))
 | m, i, j, d, hm, h1, hi, hj, hd => by
  rw [Zbx h1]
  refine (Zfh (a := a) (j := j) (d := d) (by omega) (by omega) (by omega) _ i (Nat.le_refl _) h1 hi fun i2 j2 a1 a2 a3 => ?_).step fun k hk => ?_
  ·cases m with
   | zero => omega
   | succ m => exact Zcc hn ha m (i2 + 1) (j2 - 1) (Go.Sort.swp d i2 j2) (by omega) (by omega) (by omega) (by omega) (by rw [Yb]; exact hd)
  ·rw [Q59.l0]
   exact hk
theorem Zfp {a b p : Nat} {d : Array Int} (hab : a < b) (hp : p < d.size) (hb : b ≤ d.size) (hd : d.size ≤ 1000000) : Ev (fun k => Q59.f k d.toList (a : Int) (b : Int) (p : Int)) (Vr (Go.Sort.partitionEqual ltI d a b p)) := by
 refine (Zcc (a := a) (n := d.size) hd (by omega) _ (a + 1) (b - 1) (Go.Sort.swp d a p) (Nat.le_refl _) (by omega) (by omega) (by omega) (Yb d a p)).next fun k hk => ?_
 unfold Q59.f
 rw [if_pos (by simp; omega), if_pos (by simp; omega), gta, gta, Int.toNat_natCast, Int.toNat_natCast, Y0, wn (n := a + 1) (by omega) (by omega), wn (x := (b : Int) - 1) (n := b - 1) (by omega) (by omega)]
 exact hk
def Zaq (d : Array Int) (a j : Nat) : Int × Bool × List Int := ((j : Int), false, (Go.Sort.swp d j a).toList)
def V2 (a i2 j2 : Nat) (d : Array Int) : Nat × Array Int := if i2 > j2 then (j2, d) else Go.Sort.partLoop ltI a (i2 + 1) (j2 - 1) (Go.Sort.swp d i2 j2)
theorem Zeg {a i j : Nat} {d : Array Int} (h1 : 1 ≤ i) : Go.Sort.partLoop ltI a i j d = V2 a (Go.Sort.scanUp (fun x => ltI x d[a]!) d j i) (Go.Sort.scanDown (fun x => !ltI x d[a]!) d (Go.Sort.scanUp (fun x => ltI x d[a]!) d j i) j) d := by
 have u := (Up (fun x => ltI x d[a]!) d j _ i (Nat.le_refl _)).1
 have v := Wg (fun x => !ltI x d[a]!) d (Go.Sort.scanUp (fun x => ltI x d[a]!) d j i) j
 rw [Go.Sort.partLoop]
 unfold V2
 split
 ·rfl
 ·rw [dif_pos (by omega)]
structure Part4 (a : Nat) (F2 F3 F4 : Nat → List Int → Int → Int → Option (Int × Bool × List Int)) : Prop where
 h2 : ∀ k x i j, F2 (k + 1) x i j = F3 k x j i
 h3 : ∀ k x j i, F3 (k + 1) x j i = if (decide (i ≤ j)) = true then (if 0 ≤ i ∧ i < (x.length : Int) then (if 0 ≤ (a : Int) ∧ (a : Int) < (x.length : Int) then ((Q4.f (gt x i) (gt x (a : Int))).bind fun r3 => (if r3 = true then (F3 k x j (w64 (i + 1))) else (F4 k x i j))) else none) else none) else (F4 k x i j)
 h4 : ∀ k x i j, F4 (k + 1) x i j = if (decide (i ≤ j)) = true then (if 0 ≤ j ∧ j < (x.length : Int) then (if 0 ≤ (a : Int) ∧ (a : Int) < (x.length : Int) then ((Q4.f (gt x j) (gt x (a : Int))).bind fun r4 => (if (!r4) = true then (F4 k x i (w64 (j - 1))) else (if (decide (j < i)) = true then (if 0 ≤ (a : Int) ∧ (a : Int) < (x.length : Int) then (if 0 ≤ j ∧ j < (x.length : Int) then (some (j, false, ((x.set j.toNat (gt x (a : Int))).set (a : Int).toNat (gt x j)))) else none) else none) else (if 0 ≤ j ∧ j < (x.length : Int) then (if 0 ≤ i ∧ i < (x.length : Int) then (F2 k ((x.set i.toNat (gt x j)).set j.toNat (gt x i)) (w64 (i + 1)) (w64 (j - 1))) else none) else none)))) else none) else none) else (if (decide (j < i)) = true then (if 0 ≤ (a : Int) ∧ (a : Int) < (x.length : Int) then (if 0 ≤ j ∧ j < (x.length : Int) then (some (j, false, ((x.set j.toNat (gt x (a : Int))).set (a : Int).toNat (gt x j)))) else none) else none) else (if 0 ≤ j ∧ j < (x.length : Int) then (if 0 ≤ i ∧ i < (x.length : Int) then (F2 k ((x.set i.toNat (gt x j)).set j.toNat (gt x i)) (w64 (i + 1)) (w64 (j - 1))) else none) else none))
section
variable {a : Nat} {F2 F3 F4 : Nat → List Int → Int → Int → Option (Int × Bool × List Int)} (P : Part4 a F2 F3 F4)
include P
theorem Gw {i2 : Nat} {d : Array Int} (hi : 1 ≤ i2) (ha : a < d.size) (hd : d.size ≤ 1000000) (hi2 : i2 ≤ 1000001) : ∀ (j : Nat), j < d.size → (∀ j2, j2 ≤ j → i2 ≤ j2 → Ev (fun k => F2 k (Go.Sort.swp d i2 j2).toList ((i2 + 1 : Nat) : Int) ((j2 - 1 : Nat) : Int)) (let r := Go.Sort.partLoop ltI a (i2 + 1) (j2 - 1) (Go.Sort.swp d i2 j2); Zaq r.2 a r.1)) →
  Ev (fun k => F4 k d.toList (i2 : Int) (j : Int)) (let r := V2 a i2 (Go.Sort.scanDown (fun x => !ltI x d[a]!) d i2 j) d; Zaq r.2 a r.1)
 | 0, hj, h => by
  unfold Go.Sort.scanDown V2
  rw [if_pos (by omega)]
  exact Ev.last fun k => by rw [P.h4, if_neg (by simp only [decide_eq_true_eq]; omega), if_pos (decide_eq_true (by omega)), if_pos (by simp; omega), if_pos (by simp; omega), gta, gta, Int.toNat_natCast, Int.toNat_natCast, Y0]; rfl
 | j + 1, hj, h => by
  have e1 : w64 (((j + 1 : Nat) : Int) - 1) = (j : Int) := wn (by omega) (by omega)
  have e2 : w64 ((i2 : Int) + 1) = ((i2 + 1 : Nat) : Int) := wn (by omega) (by omega)
  unfold Go.Sort.scanDown
  by_cases c : i2 ≤ j + 1
  ·by_cases q : ltI d[j + 1]! d[a]! = true
   ·rw [if_neg (by simp [q])]
    unfold V2
    rw [if_neg (by omega)]
    refine (h (j + 1) (Nat.le_refl _) c).step fun k hk => ?_
    rw [P.h4, if_pos (decide_eq_true (by omega)), if_pos (by simp; omega), if_pos (by simp; omega), gta, gta, Ym, Option.bind_some, if_neg (by simp [q]), if_neg (by simp only [decide_eq_true_eq]; omega), if_pos (by simp; omega), if_pos (by simp; omega), gta, Int.toNat_natCast, Int.toNat_natCast, Y0, e1, e2]
    exact hk
   ·rw [if_pos (by simp [c, q])]
    refine (Gw hi ha hd hi2 j (by omega) fun j2 a b => h j2 (by omega) b).step fun k hk => ?_
    rw [P.h4, if_pos (decide_eq_true (by omega)), if_pos (by simp; omega), if_pos (by simp; omega), gta, gta, Ym, Option.bind_some, if_pos (by simp [q]), e1]
    exact hk
  ·rw [if_neg (by simp [c])]
   unfold V2
   rw [if_pos (by omega)]
   exact Ev.last fun k => by rw [P.h4, if_neg (by simp only [decide_eq_true_eq]; omega), if_pos (decide_eq_true (by omega)), if_pos (by simp; omega), if_pos (by simp; omega), gta, gta, Int.toNat_natCast, Int.toNat_natCast, Y0]; rfl
theorem Zfe {j : Nat} {d : Array Int} (ha : a < d.size) (hd : d.size ≤ 1000000) (hj : j < d.size) : ∀ (m i : Nat), j + 1 - i ≤ m → 1 ≤ i → i ≤ 1000001 → (∀ i2 j2, i ≤ i2 → j2 ≤ j → i2 ≤ j2 → Ev (fun k => F2 k (Go.Sort.swp d i2 j2).toList ((i2 + 1 : Nat) : Int) ((j2 - 1 : Nat) : Int)) (let r := Go.Sort.partLoop ltI a (i2 + 1) (j2 - 1) (Go.Sort.swp d i2 j2); Zaq r.2 a r.1)) →
  Ev (fun k => F3 k d.toList (j : Int) (i : Int)) (let r := V2 a (Go.Sort.scanUp (fun x => ltI x d[a]!) d j i) (Go.Sort.scanDown (fun x => !ltI x d[a]!) d (Go.Sort.scanUp (fun x => ltI x d[a]!) d j i) j) d; Zaq r.2 a r.1)
 | m, i, hm, h1, hi, h => by
  have e2 : w64 ((i : Int) + 1) = ((i + 1 : Nat) : Int) := wn (by omega) (by omega)
  rw [Go.Sort.scanUp]
  by_cases c : i ≤ j
  ·by_cases q : ltI d[i]! d[a]! = true
   ·cases m with
    | zero => omega
    | succ m =>
    rw [if_pos (by simp [c, q])]
    refine (Zfe ha hd hj m (i + 1) (by omega) (by omega) (by omega) fun i2 j2 a b c => h i2 j2 (by omega) b c).step fun k hk => ?_
    rw [P.h3, if_pos (decide_eq_true (by omega)), if_pos (by simp; omega), if_pos (by simp; omega), gta, gta, Ym, Option.bind_some, if_pos q, e2]
    exact hk
   ·rw [if_neg (by simp [q])]
    refine (Gw P h1 ha hd hi j hj fun j2 a b => h i j2 (Nat.le_refl _) a b).step fun k hk => ?_
    rw [P.h3, if_pos (decide_eq_true (by omega)), if_pos (by simp; omega), if_pos (by simp; omega), gta, gta, Ym, Option.bind_some, if_neg q]
    exact hk
  ·rw [if_neg (by simp [c])]
   refine (Gw P h1 ha hd hi j hj fun j2 a b => h i j2 (Nat.le_refl _) a b).step fun k hk => ?_
   rw [P.h3, if_neg (by simp only [decide_eq_true_eq]; omega)]
   exact hk
theorem Zcg {n : Nat} (hn : n ≤ 1000000) (ha : a < n) : ∀ (m i j : Nat) (d : Array Int), j + 1 - i ≤ m → 1 ≤ i → i ≤ 1000001 → j < n → d.size = n → Ev (fun k => F2 k d.toList (i : Int) (j : Int)) (let r := Go.Sort.partLoop ltI a i j d; Zaq r.2 a r.1)
 | m, i, j, d, hm, h1, hi, hj, hd => by
  rw [Zeg h1]
  refine (Zfe P (j := j) (d := d) (by omega) (by omega) (by omega) _ i (Nat.le_refl _) h1 hi fun i2 j2 a1 a2 a3 => ?_).step fun k hk => ?_
  ·cases m with
   | zero => omega
   | succ m => exact Zcg hn ha m (i2 + 1) (j2 - 1) (Go.Sort.swp d i2 j2) (by omega) (by omega) (by omega) (by omega) (by rw [Yb]; exact hd)
  ·rw [P.h2]
   exact hk
end
theorem Zgn (a : Nat) : Part4 a (fun k x i j => Q60.l0 k (a : Int) x i j) (fun k x j i => Q60.l2 k (a : Int) x j i) (fun k x i j => Q60.l1 k (a : Int) x i j) :=
 ⟨fun k x i j => by rw [Q60.l0], fun k x j i => by rw [Q60.l2], fun k x i j => by rw [Q60.l1]⟩
def Zey (r : Nat × Bool × Array Int) : Int × Bool × List Int := ((r.1 : Int), r.2.1, r.2.2.toList)
def U6 (a i j : Nat) (d : Array Int) : Nat × Bool × Array Int := if i > j then (j, true, Go.Sort.swp d j a) else ((Go.Sort.partLoop ltI a (i + 1) (j - 1) (Go.Sort.swp d i j)).1, false, Go.Sort.swp (Go.Sort.partLoop ltI a (i + 1) (j - 1) (Go.Sort.swp d i j)).2 (Go.Sort.partLoop ltI a (i + 1) (j - 1) (Go.Sort.swp d i j)).1 a)
theorem Gq {a p i : Nat} {d e : Array Int} (he : e = Go.Sort.swp d a p) (hi : 1 ≤ i) (ha : a < d.size) (hp : p < d.size) (hd : d.size ≤ 1000000) (hi2 : i ≤ 1000001) : ∀ (j : Nat), j < d.size → Ev (fun k => Q60.l3 k d.toList (a : Int) (p : Int) (i : Int) (j : Int)) (Zey (U6 a i (Go.Sort.scanDown (fun x => !ltI x e[a]!) e i j) e))
 | 0, hj => by
  have se : e.size = d.size := by rw [he, Yb]
  unfold Go.Sort.scanDown U6
  rw [if_pos (by omega)]
  exact Ev.last fun k => by
   rw [Q60.l3, if_neg (by simp only [decide_eq_true_eq]; omega), if_pos (decide_eq_true (by omega)), gta, gta, Int.toNat_natCast, Int.toNat_natCast, Y0, ← he, if_pos (by simp; omega), if_pos (by simp; omega), gta, gta, Int.toNat_natCast, Y0]
   rfl
 | j + 1, hj => by
  have se : e.size = d.size := by rw [he, Yb]
  have e1 : w64 (((j + 1 : Nat) : Int) - 1) = (j : Int) := wn (by omega) (by omega)
  have e2 : w64 ((i : Int) + 1) = ((i + 1 : Nat) : Int) := wn (by omega) (by omega)
  unfold Go.Sort.scanDown
  by_cases c : i ≤ j + 1
  ·by_cases q : ltI e[j + 1]! e[a]! = true
   ·rw [if_neg (by simp [q])]
    unfold U6
    rw [if_neg (by omega)]
    refine (Zcg (Zgn a) (n := d.size) hd ha _ (i + 1) j (Go.Sort.swp e i (j + 1)) (Nat.le_refl _) (by omega) (by omega) (by omega) (by rw [Yb, se])).step fun k hk => ?_
    rw [Q60.l3, if_pos (decide_eq_true (by omega)), gta, gta, Int.toNat_natCast, Int.toNat_natCast, Y0, ← he, if_pos (by simp; omega), if_pos (by simp; omega), gta, gta, Ym, Option.bind_some, if_neg (by simp [q]), if_neg (by simp only [decide_eq_true_eq]; omega), if_pos (by simp; omega), if_pos (by simp; omega), gta, Int.toNat_natCast, Int.toNat_natCast, Y0, e1, e2]
    exact hk
   ·rw [if_pos (by simp [c, q])]
    refine (Gq he hi ha hp hd hi2 j (by omega)).step fun k hk => ?_
    rw [Q60.l3, if_pos (decide_eq_true (by omega)), gta, gta, Int.toNat_natCast, Int.toNat_natCast, Y0, ← he, if_pos (by simp; omega), if_pos (by simp; omega), gta, gta, Ym, Option.bind_some, if_pos (by simp [q]), e1]
    exact hk
  ·rw [if_neg (by simp [c])]
   unfold U6
   rw [if_pos (by omega)]
   exact Ev.last fun k => by
    rw [Q60.l3, if_neg (by simp only [decide_eq_true_eq]; omega), if_pos (decide_eq_true (by omega)), gta, gta, Int.toNat_natCast, Int.toNat_natCast, Y0, ← he, if_pos (by simp; omega), if_pos (by simp; omega), gta, gta, Int.toNat_natCast, Y0]
    rfl
theorem Zfk {a b p : Nat} {d e : Array Int} (he : e = Go.Sort.swp d a p) (hab : a < b) (hb : b ≤ d.size) (hp : p < d.size) (hd : d.size ≤ 1000000) : ∀ (m i : Nat), b - i ≤ m → 1 ≤ i → i ≤ 1000001 → Ev (fun k => Q60.l4 k d.toList (a : Int) (b : Int) (p : Int) (i : Int)) (Zey (U6 a (Go.Sort.scanUp (fun x => ltI x e[a]!) e (b - 1) i) (Go.Sort.scanDown (fun x => !ltI x e[a]!) e (Go.Sort.scanUp (fun x => ltI x e[a]!) e (b - 1) i) (b - 1)) e))
 | m, i, hm, h1, hi => by
  have se : e.size = d.size := by rw [he, Yb]
  have e2 : w64 ((i : Int) + 1) = ((i + 1 : Nat) : Int) := wn (by omega) (by omega)
  have e3 : w64 ((b : Int) - 1) = ((b - 1 : Nat) : Int) := wn (by omega) (by omega)
  rw [Go.Sort.scanUp]
  by_cases c : i ≤ b - 1
  ·by_cases q : ltI e[i]! e[a]! = true
   ·cases m with
    | zero => omega
    | succ m =>
    rw [if_pos (by simp [c, q])]
    refine (Zfk he hab hb hp hd m (i + 1) (by omega) (by omega) (by omega)).step fun k hk => ?_
    rw [Q60.l4, e3, if_pos (decide_eq_true (by omega)), gta, gta, Int.toNat_natCast, Int.toNat_natCast, Y0, ← he, if_pos (by simp; omega), if_pos (by simp; omega), gta, gta, Ym, Option.bind_some, if_pos q, e2]
    exact hk
   ·rw [if_neg (by simp [q])]
    refine (Gq he h1 (by omega) hp hd hi (b - 1) (by omega)).step fun k hk => ?_
    rw [Q60.l4, e3, if_pos (decide_eq_true (by omega)), gta, gta, Int.toNat_natCast, Int.toNat_natCast, Y0, ← he, if_pos (by simp; omega), if_pos (by simp; omega), gta, gta, Ym, Option.bind_some, if_neg q]
    exact hk
  ·rw [if_neg (by simp [c])]
   refine (Gq he h1 (by omega) hp hd hi (b - 1) (by omega)).step fun k hk => ?_
   rw [Q60.l4, e3, if_neg (by simp only [decide_eq_true_eq]; omega)]
   exact hk
theorem Zg8 {a b p : Nat} {d : Array Int} (hab : a < b) (hp : p < d.size) (hb : b ≤ d.size) (hd : d.size ≤ 1000000) : Ev (fun k => Q60.f k d.toList (a : Int) (b : Int) (p : Int)) (Zey (Go.Sort.partition ltI d a b p)) := by
 have e : Go.Sort.partition ltI d a b p = U6 a (Go.Sort.scanUp (fun x => ltI x (Go.Sort.swp d a p)[a]!) (Go.Sort.swp d a p) (b - 1) (a + 1)) (Go.Sort.scanDown (fun x => !ltI x (Go.Sort.swp d a p)[a]!) (Go.Sort.swp d a p) (Go.Sort.scanUp (fun x => ltI x (Go.Sort.swp d a p)[a]!) (Go.Sort.swp d a p) (b - 1) (a + 1)) (b - 1)) (Go.Sort.swp d a p) := rfl
 rw [e]
 refine (Zfk (e := Go.Sort.swp d a p) rfl hab hb hp hd _ (a + 1) (Nat.le_refl _) (by omega) (by omega)).next fun k hk => ?_
 unfold Q60.f
 rw [if_pos (by simp; omega), if_pos (by simp; omega), wn (n := a + 1) (by omega) (by omega)]
 exact hk
theorem U7 (n : Nat) : IntKind.u64.wrap (n : Int) = ((n % 18446744073709551616 : Nat) : Int) := by
 simp [IntKind.wrap, IntKind.bits, IntKind.signed]
theorem bvx {x y : Nat} (hx : x < 18446744073709551616) (hy : y < 18446744073709551616) : ((BitVec.ofInt IntKind.u64.bits (x : Int) ^^^ BitVec.ofInt IntKind.u64.bits (y : Int)).toNat) = x ^^^ y := by
 show (BitVec.ofInt 64 (x : Int) ^^^ BitVec.ofInt 64 (y : Int)).toNat = x ^^^ y
 rw [BitVec.toNat_xor, BitVec.ofInt_natCast, BitVec.ofInt_natCast, BitVec.toNat_ofNat, BitVec.toNat_ofNat, Nat.mod_eq_of_lt hx, Nat.mod_eq_of_lt hy]
theorem Zcx {x : Nat} (r s : UInt64) (hx : x = s.toNat) : IntKind.u64.wrap (((BitVec.ofInt IntKind.u64.bits (r.toNat : Int) ^^^ BitVec.ofInt IntKind.u64.bits (x : Int)).toNat : Int)) = ((r ^^^ s).toNat : Int) := by
 have h1 : r.toNat < 18446744073709551616 := r.toNat_lt
 have h2 : s.toNat < 18446744073709551616 := s.toNat_lt
 have h3 : (r ^^^ s).toNat < 18446744073709551616 := (r ^^^ s).toNat_lt
 rw [hx, bvx h1 h2, U7, UInt64.toNat_xor] at *
 rw [Nat.mod_eq_of_lt h3]
theorem Zgi (r : UInt64) (n : Nat) (hn : n < 64) : IntKind.u64.wrap ((r.toNat : Int) * 2 ^ n) = (((r <<< (UInt64.ofNat n)).toNat : Nat) : Int) := by
 rw [show (r.toNat : Int) * 2 ^ n = ((r.toNat * 2 ^ n : Nat) : Int) by simp, U7, UInt64.toNat_shiftLeft, Nat.shiftLeft_eq]
 have : (UInt64.ofNat n).toNat % 64 = n := by simp; omega
 rw [this]
theorem Zhk (r : UInt64) (n : Nat) (hn : n < 64) : Int.fdiv (r.toNat : Int) (2 ^ n) = (((r >>> (UInt64.ofNat n)).toNat : Nat) : Int) := by
 rw [UInt64.toNat_shiftRight, Nat.shiftRight_eq_div_pow]
 have : (UInt64.ofNat n).toNat % 64 = n := by simp; omega
 rw [this, Int.fdiv_eq_ediv_of_nonneg _ (by exact_mod_cast Nat.zero_le _)]
 simp
theorem Zgx (r : UInt64) : Q64.f (r.toNat : Int) = some (((Go.Sort.xorNext r).toNat : Int), ((Go.Sort.xorNext r).toNat : Int)) := by
 have xe : Go.Sort.xorNext r = (fun r1 : UInt64 => (fun r2 : UInt64 => r2 ^^^ (r2 <<< 17)) (r1 ^^^ (r1 >>> 7))) (r ^^^ (r <<< 13)) := rfl
 unfold Q64.f
 rw [xe]
 dsimp only
 have e1 : IntKind.u64.wrap ((r.toNat : Int) * 2 ^ 13) = (((r <<< 13).toNat : Nat) : Int) := Zgi r 13 (by decide)
 rw [e1, Zcx r (r <<< 13) rfl]
 generalize r ^^^ (r <<< 13) = r1
 have e2 : Int.fdiv (r1.toNat : Int) (2 ^ 7) = (((r1 >>> 7).toNat : Nat) : Int) := Zhk r1 7 (by decide)
 rw [e2, Zcx r1 (r1 >>> 7) rfl]
 generalize r1 ^^^ (r1 >>> 7) = r2
 have e3 : IntKind.u64.wrap ((r2.toNat : Int) * 2 ^ 17) = (((r2 <<< 17).toNat : Nat) : Int) := Zgi r2 17 (by decide)
 rw [e3, Zcx r2 (r2 <<< 17) rfl]
theorem Zgz : ∀ n : Fin 200, Q1.f ((n : Nat) : Int) = some ((Go.Sort.bitsLen n : Nat) : Int) := by decide +kernel
theorem Zgs : ∀ n : Fin 200, Q56.f ((n : Nat) : Int) = some ((1 <<< Go.Sort.bitsLen n : Nat) : Int) := by decide +kernel
theorem Zhs {r : UInt64} {M : Nat} (h1 : 1 ≤ M) (h2 : M ≤ 1000) : w64 (IntKind.u64.wrap (((BitVec.ofInt IntKind.u64.bits (r.toNat : Int) &&& (BitVec.ofInt IntKind.u64.bits (IntKind.u64.wrap ((M : Int) - 1)))).toNat : Int))) = ((r.toNat &&& (M - 1) : Nat) : Int) := by
 have hr : r.toNat < 18446744073709551616 := r.toNat_lt
 have e1 : (M : Int) - 1 = ((M - 1 : Nat) : Int) := by omega
 have hle : r.toNat &&& (M - 1) ≤ M - 1 := Nat.and_le_right
 have e2 : (BitVec.ofInt IntKind.u64.bits (r.toNat : Int) &&& BitVec.ofInt IntKind.u64.bits ((M - 1 : Nat) : Int)).toNat = r.toNat &&& (M - 1) := by
  show (BitVec.ofInt 64 (r.toNat : Int) &&& BitVec.ofInt 64 ((M - 1 : Nat) : Int)).toNat = r.toNat &&& (M - 1)
  rw [BitVec.toNat_and, BitVec.ofInt_natCast, BitVec.ofInt_natCast, BitVec.toNat_ofNat, BitVec.toNat_ofNat, Nat.mod_eq_of_lt hr, Nat.mod_eq_of_lt (by omega)]
 rw [e1, show IntKind.u64.wrap ((M - 1 : Nat) : Int) = ((M - 1 : Nat) : Int) by rw [U7, Nat.mod_eq_of_lt (by omega)], e2, U7, Nat.mod_eq_of_lt (by omega), Zv (by omega) (by omega)]
theorem Jg {a b M i : Nat} {d : Array Int} {r : UInt64} {R : List Int} (h8 : 8 ≤ b - a) (hb : b ≤ d.size) (hd : d.size < 200) (ha : a ≤ i) (hi : i ≤ a + (b - a) / 4 * 2 + 1) (hM : M = 1 <<< Go.Sort.bitsLen (b - a))
  (h : Ev (fun k => Q50.l0 k (a : Int) (b : Int) (M : Int) (Go.Sort.breakStep a (b - a) M (r, d) i).2.toList ((Go.Sort.breakStep a (b - a) M (r, d) i).1.toNat : Int) ((i + 1 : Nat) : Int)) R) :
  Ev (fun k => Q50.l0 k (a : Int) (b : Int) (M : Int) d.toList (r.toNat : Int) (i : Int)) R := by
 have e1 : w64 ((b : Int) - (a : Int)) = ((b - a : Nat) : Int) := wn (by omega) (by omega)
 have e2 : w64 (Int.tdiv ((b - a : Nat) : Int) 4) = (((b - a) / 4 : Nat) : Int) := by
  rw [show Int.tdiv ((b - a : Nat) : Int) 4 = (((b - a) / 4 : Nat) : Int) from rfl, Zv (by omega) (by omega)]
 have e3 : w64 ((((b - a) / 4 : Nat) : Int) * 2) = (((b - a) / 4 * 2 : Nat) : Int) := wn (by omega) (by omega)
 have e4 : w64 ((a : Int) + (((b - a) / 4 * 2 : Nat) : Int)) = ((a + (b - a) / 4 * 2 : Nat) : Int) := wn (by omega) (by omega)
 have e5 : w64 (((a + (b - a) / 4 * 2 : Nat) : Int) + 1) = ((a + (b - a) / 4 * 2 + 1 : Nat) : Int) := wn (by omega) (by omega)
 have e6 : w64 ((i : Int) + 1) = ((i + 1 : Nat) : Int) := wn (by omega) (by omega)
 have hp := Go.Sort.two_pow_bitsLen_le (n := b - a) (by omega)
 have hq : 1 ≤ 2 ^ Go.Sort.bitsLen (b - a) := Nat.two_pow_pos _
 rw [Nat.one_shiftLeft] at hM
 rw [← hM] at hp hq
 have eb : Go.Sort.breakStep a (b - a) M (r, d) i = (Go.Sort.xorNext r, Go.Sort.swp d i (a + if (Go.Sort.xorNext r).toNat &&& (M - 1) ≥ b - a then ((Go.Sort.xorNext r).toNat &&& (M - 1)) - (b - a) else (Go.Sort.xorNext r).toNat &&& (M - 1))) := rfl
 rw [eb] at h
 have hle : (Go.Sort.xorNext r).toNat &&& (M - 1) ≤ M - 1 := Nat.and_le_right
 have hand := Zhs (r := Go.Sort.xorNext r) (M := M) hq (by omega)
 refine h.step fun k hk => ?_
 rw [Q50.l0, e1, e2, e3, e4, e5, if_pos (decide_eq_true (by omega)), Zgx, Option.bind_some]
 dsimp only
 rw [hand]
 generalize (Go.Sort.xorNext r).toNat &&& (M - 1) = o at *
 by_cases c : o ≥ b - a
 ·have e7 : w64 ((o : Int) - ((b - a : Nat) : Int)) = ((o - (b - a) : Nat) : Int) := wn (by omega) (by omega)
  have e8 : w64 ((a : Int) + ((o - (b - a) : Nat) : Int)) = ((a + (o - (b - a)) : Nat) : Int) := wn (by omega) (by omega)
  rw [if_pos c] at hk
  rw [if_pos (decide_eq_true (by omega)), e7, e8, if_pos (by simp; omega), if_pos (by simp; omega), gta, gta, Int.toNat_natCast, Int.toNat_natCast, Y0, e6]
  exact hk
 ·have e8 : w64 ((a : Int) + (o : Int)) = ((a + o : Nat) : Int) := wn (by omega) (by omega)
  rw [if_neg c] at hk
  rw [if_neg (by simp only [decide_eq_true_eq]; omega), e8, if_pos (by simp; omega), if_pos (by simp; omega), gta, gta, Int.toNat_natCast, Int.toNat_natCast, Y0, e6]
  exact hk
theorem Gl (a L M i : Nat) (st : UInt64 × Array Int) : (Go.Sort.breakStep a L M st i).2.size = st.2.size := by
 unfold Go.Sort.breakStep
 exact Yb _ _ _
theorem Zgo {a b : Nat} {d : Array Int} (hab : a ≤ b) (hb : b ≤ d.size) (hd : d.size < 200) : Ev (fun k => Q50.f k d.toList (a : Int) (b : Int)) (Go.Sort.breakPatterns d a b).toList := by
 have e1 : w64 ((b : Int) - (a : Int)) = ((b - a : Nat) : Int) := wn (by omega) (by omega)
 by_cases h8 : b - a ≥ 8
 ·have e2 : w64 (Int.tdiv ((b - a : Nat) : Int) 4) = (((b - a) / 4 : Nat) : Int) := by
   rw [show Int.tdiv ((b - a : Nat) : Int) 4 = (((b - a) / 4 : Nat) : Int) from rfl, Zv (by omega) (by omega)]
  have e3 : w64 ((((b - a) / 4 : Nat) : Int) * 2) = (((b - a) / 4 * 2 : Nat) : Int) := wn (by omega) (by omega)
  have e4 : w64 ((a : Int) + (((b - a) / 4 * 2 : Nat) : Int)) = ((a + (b - a) / 4 * 2 : Nat) : Int) := wn (by omega) (by omega)
  have e5 : w64 (((a + (b - a) / 4 * 2 : Nat) : Int) - 1) = ((a + (b - a) / 4 * 2 - 1 : Nat) : Int) := wn (by omega) (by omega)
  have e6 : w64 (((a + (b - a) / 4 * 2 : Nat) : Int) + 1) = ((a + (b - a) / 4 * 2 + 1 : Nat) : Int) := wn (by omega) (by omega)
  have hx : IntKind.u64.wrap ((b - a : Nat) : Int) = ((UInt64.ofNat (b - a)).toNat : Int) := by
   rw [U7]
   have : (UInt64.ofNat (b - a)).toNat = (b - a) % 18446744073709551616 := by simp
   rw [this]
  have fin : ∀ (d' : Array Int) (x : Int), Ev (fun k => Q50.l0 k (a : Int) (b : Int) ((1 <<< Go.Sort.bitsLen (b - a) : Nat) : Int) d'.toList x ((a + (b - a) / 4 * 2 - 1 + 1 + 1 + 1 : Nat) : Int)) d'.toList := fun d' x => Ev.last fun k => by
   rw [Q50.l0, e1, e2, e3, e4, e6, if_neg (by simp only [decide_eq_true_eq]; omega)]
  have main : Ev (fun k => Q50.l0 k (a : Int) (b : Int) ((1 <<< Go.Sort.bitsLen (b - a) : Nat) : Int) d.toList ((UInt64.ofNat (b - a)).toNat : Int) ((a + (b - a) / 4 * 2 - 1 : Nat) : Int)) (Go.Sort.breakPatterns d a b).toList := by
   unfold Go.Sort.breakPatterns
   rw [if_pos h8]
   refine Jg h8 hb hd (by omega) (by omega) rfl (Jg h8 ?_ ?_ (by omega) (by omega) rfl (Jg h8 ?_ ?_ (by omega) (by omega) rfl (fin _ _)))
   all_goals simp only [Gl]
   all_goals first | exact hb | exact hd
  refine main.next fun k hk => ?_
  unfold Q50.f
  rw [e1, if_pos (decide_eq_true (by omega)), Zgs ⟨b - a, by omega⟩, Option.bind_some, hx, e2, e3, e4, e5]
  exact hk
 ·refine Ev.all fun k => ?_
  unfold Q50.f Go.Sort.breakPatterns
  rw [e1, if_neg (by simp only [decide_eq_true_eq]; omega), if_neg h8]
def Zdc (k : Nat) (a b lim m : Int) (ap : Bool) (d : List Int) : Option (List Int) := if (decide ((w64 (m - a)) < (w64 (b - m)))) = true then ((Q61.f k d a m lim).bind fun r10 => (Q61.l0 k r10 (w64 (m + 1)) b lim (decide ((w64 (Int.tdiv (w64 (b - a)) 8)) ≤ (w64 (m - a)))) ap)) else ((Q61.f k d (w64 (m + 1)) b lim).bind fun r11 => (Q61.l0 k r11 a m lim (decide ((w64 (Int.tdiv (w64 (b - a)) 8)) ≤ (w64 (b - m)))) ap))
def ptP (k : Nat) (d : List Int) (a b p lim : Int) : Option (List Int) := (Q60.f k d a b p).bind fun r => Zdc k a b lim r.1 r.2.1 r.2.2
def tlP (k : Nat) (d : List Int) (a b p lim : Int) (wb wp : Bool) : Option (List Int) := if (decide (0 < a)) = true then (if 0 ≤ (w64 (a - 1)) ∧ (w64 (a - 1)) < (d.length : Int) then (if 0 ≤ p ∧ p < (d.length : Int) then ((Q4.f (gt d (w64 (a - 1))) (gt d p)).bind fun r7 => (if (!r7) = true then ((Q59.f k d a b p).bind fun r8 => (Q61.l0 k r8.2 r8.1 b lim wb wp)) else ptP k d a b p lim)) else none) else none) else ptP k d a b p lim
def inP (k : Nat) (d : List Int) (a b p lim : Int) (wb wp : Bool) : Option (List Int) := (Q58.f k d a b).bind fun r6 => (if r6.1 = true then (some r6.2) else tlP k r6.2 a b p lim wb wp)
def mdP (k : Nat) (d : List Int) (a b lim : Int) (wb wp : Bool) : Option (List Int) := (Q51.f d a b).bind fun r4 => (if (decide (r4.2 = 2)) = true then ((Q62.f k d a b).bind fun r5 => (if wb = true then (if wp = true then inP k r5 a b (w64 ((w64 (b - 1)) - (w64 (r4.1 - a)))) lim wb wp else tlP k r5 a b (w64 ((w64 (b - 1)) - (w64 (r4.1 - a)))) lim wb wp) else tlP k r5 a b (w64 ((w64 (b - 1)) - (w64 (r4.1 - a)))) lim wb wp))
 else (if wb = true then (if wp = true then (if (decide (r4.2 = 1)) = true then inP k d a b r4.1 lim wb wp else tlP k d a b r4.1 lim wb wp) else tlP k d a b r4.1 lim wb wp) else tlP k d a b r4.1 lim wb wp))
theorem Gk (k : Nat) (x1 : List Int) (x2 x3 x4 : Int) (x5 x6 : Bool) : Q61.l0 (k + 1) x1 x2 x3 x4 x5 x6 = if (decide ((w64 (x3 - x2)) ≤ 12)) = true then ((Q53.f k x1 x2 x3).bind fun r1 => (some r1)) else (if (decide (x4 = 0)) = true then ((Q52.f k x1 x2 x3).bind fun r2 => (some r2)) else (if (!x5) = true then ((Q50.f k x1 x2 x3).bind fun r3 => mdP k r3 x2 x3 (w64 (x4 - 1)) x5 x6) else mdP k x1 x2 x3 x4 x5 x6)) := by
 rw [Q61.l0]
 rfl
section
variable {a b p lim : Nat} {d : Array Int} {wb wp : Bool} {r : List Int}
theorem Zgk (h1 : 1 ≤ a) (hab : a < b) (hp : p < d.size) (hb : b ≤ d.size) (hd : d.size < 200) (hq : ltI d[a - 1]! d[p]! = false)
  (h : Ev (fun k => Q61.l0 k (Go.Sort.partitionEqual ltI d a b p).2.toList ((Go.Sort.partitionEqual ltI d a b p).1 : Int) (b : Int) (lim : Int) wb wp) r) :
  Ev (fun k => tlP k d.toList (a : Int) (b : Int) (p : Int) (lim : Int) wb wp) r := by
 refine (Zfp hab hp hb (by omega)).next2 h fun k h1' h2 => ?_
 unfold tlP
 rw [if_pos (decide_eq_true (by omega)), wn (x := (a : Int) - 1) (n := a - 1) (by omega) (by omega), if_pos (by simp; omega), if_pos (by simp; omega), gta, gta, Ym, Option.bind_some, if_pos (by simp [hq]), h1', Option.bind_some]
 exact h2
theorem Zge (hab : a < b) (hp : p < d.size) (hb : b ≤ d.size) (hd : d.size < 200) (hq : (decide (a > 0) && !ltI d[a - 1]! d[p]!) = false)
  (h : Ev (fun k => Zdc k (a : Int) (b : Int) (lim : Int) ((Go.Sort.partition ltI d a b p).1 : Int) (Go.Sort.partition ltI d a b p).2.1 (Go.Sort.partition ltI d a b p).2.2.toList) r) :
  Ev (fun k => tlP k d.toList (a : Int) (b : Int) (p : Int) (lim : Int) wb wp) r := by
 refine (Zg8 hab hp hb (by omega)).next2 h fun k h1' h2 => ?_
 have hk : ptP k d.toList (a : Int) (b : Int) (p : Int) (lim : Int) = some r := by
  unfold ptP
  rw [h1', Option.bind_some]
  exact h2
 unfold tlP
 by_cases c : 0 < a
 ·have hq' : ltI d[a - 1]! d[p]! = true := by simpa [c] using hq
  rw [if_pos (decide_eq_true (by omega)), wn (x := (a : Int) - 1) (n := a - 1) (by omega) (by omega), if_pos (by simp; omega), if_pos (by simp; omega), gta, gta, Ym, Option.bind_some, if_neg (by simp [hq'])]
  exact hk
 ·rw [if_neg (by simp only [decide_eq_true_eq]; omega)]
  exact hk
theorem Zgr (hab : a < b) (hb : b ≤ d.size) (hd : d.size < 200) (h1 : (Go.Sort.partialInsertionSort ltI d a b).2 = true → (Go.Sort.partialInsertionSort ltI d a b).1.toList = r)
  (h2 : (Go.Sort.partialInsertionSort ltI d a b).2 = false → Ev (fun k => tlP k (Go.Sort.partialInsertionSort ltI d a b).1.toList (a : Int) (b : Int) (p : Int) (lim : Int) wb wp) r) : Ev (fun k => inP k d.toList (a : Int) (b : Int) (p : Int) (lim : Int) wb wp) r := by
 have h0 := Zg0 hab hb (by omega)
 cases c : (Go.Sort.partialInsertionSort ltI d a b).2 with
 | true =>
  refine h0.next fun k hk => ?_
  unfold inP
  rw [hk, Option.bind_some, Ws, c, if_pos rfl, h1 c]
 | false =>
  refine h0.next2 (h2 c) fun k hk hk2 => ?_
  unfold inP
  rw [hk, Option.bind_some, Ws, c, if_neg (by simp)]
  exact hk2
end
def piP (k : Nat) (s : Go.Sort.Rd Int) (a b : Nat) (wb wp : Bool) : Option (List Int) := if s.pi.2 = true then some s.pi.1.toList else tlP k s.pi.1.toList (a : Int) (b : Int) (s.pivot : Int) (s.lim : Int) wb wp
theorem Zfg {h : Go.Sort.Hint} : decide (Zae h = 2) = decide (h = .decreasing) := by cases h <;> rfl
theorem Zg9 {h : Go.Sort.Hint} : decide (Zae h = 1) = decide (h = .increasing) := by cases h <;> rfl
section
variable {a b limit : Nat} {d : Array Int} {wb wp : Bool} {r : List Int}
theorem Zej {s : Go.Sort.Rd Int} {e : Array Int} (hab : a < b) (hb : b ≤ e.size) (hd : e.size < 200) (he : s.pi = Go.Sort.partialInsertionSort ltI e a b) (h : Ev (fun k => piP k s a b wb wp) r) :
  Ev (fun k => inP k e.toList (a : Int) (b : Int) (s.pivot : Int) (s.lim : Int) wb wp) r := by
 refine Zgr hab hb hd (fun c => ?_) fun c => ?_
 ·obtain ⟨k, h⟩ := h.ok
  unfold piP at h
  rw [he, c, if_pos rfl] at h
  exact Option.some.inj h
 ·refine h.next fun k hk => ?_
  unfold piP at hk
  rw [he, c, if_neg (by simp)] at hk
  exact hk
theorem Ul {s : Go.Sort.Rd Int} {e : Array Int} (he : s.pi = (e, false)) (h : Ev (fun k => piP k s a b wb wp) r) :
  Ev (fun k => tlP k e.toList (a : Int) (b : Int) (s.pivot : Int) (s.lim : Int) wb wp) r := by
 refine h.next fun k hk => ?_
 unfold piP at hk
 rw [he, if_neg (by simp)] at hk
 exact hk
theorem Zgf {s : Go.Sort.Rd Int} (h12 : 12 < b - a) (hb : b ≤ s.d1.size) (hd : s.d1.size < 200) (ec : s.c = Go.Sort.choosePivot ltI s.d1 a b) (hc : a ≤ s.c.1 ∧ s.c.1 < b)
  (e2 : s.d2 = if s.c.2 = .decreasing then Go.Sort.reverseRange s.d1 a b else s.d1) (s2 : s.d2.size = s.d1.size) (ep : s.pivot = if s.c.2 = .decreasing then (b - 1) - (s.c.1 - a) else s.c.1) (eh : s.hint = if s.c.2 = .decreasing then Go.Sort.Hint.increasing else s.c.2)
  (ei : s.pi = if wb && wp && s.hint = .increasing then Go.Sort.partialInsertionSort ltI s.d2 a b else (s.d2, false)) (h : Ev (fun k => piP k s a b wb wp) r) :
  Ev (fun k => mdP k s.d1.toList (a : Int) (b : Int) (s.lim : Int) wb wp) r := by
 have hpv := Zgg (d := s.d1) (a := a) (b := b) (by omega) hb h12 (by omega)
 rw [← ec] at hpv
 by_cases c : s.c.2 = .decreasing
 ·rw [if_pos c] at e2 ep eh
  have e3 : w64 ((b : Int) - 1) = ((b - 1 : Nat) : Int) := wn (by omega) (by omega)
  have e4 : w64 ((s.c.1 : Int) - (a : Int)) = ((s.c.1 - a : Nat) : Int) := wn (by omega) (by omega)
  have e5 : w64 (((b - 1 : Nat) : Int) - ((s.c.1 - a : Nat) : Int)) = (s.pivot : Int) := wn (by omega) (by omega)
  have hr := Zhi (a := a) (b := b) (d := s.d1) (by omega) (by omega) hb (by omega)
  rw [← e2] at hr
  have fin : Ev (fun k => if wb = true then (if wp = true then inP k s.d2.toList (a : Int) (b : Int) (s.pivot : Int) (s.lim : Int) wb wp else tlP k s.d2.toList (a : Int) (b : Int) (s.pivot : Int) (s.lim : Int) wb wp) else tlP k s.d2.toList (a : Int) (b : Int) (s.pivot : Int) (s.lim : Int) wb wp) r := by
   cases wb with
   | false => exact Ul (by simpa [eh] using ei) h
   | true =>
    cases wp with
    | false => exact Ul (by simpa [eh] using ei) h
    | true => exact Zej (by omega) (by omega) (by omega) (by simpa [eh] using ei) h
  refine hr.next2 fin fun k h1 h2 => ?_
  unfold mdP
  rw [hpv, Option.bind_some]
  dsimp only
  rw [Zfg, if_pos (decide_eq_true c), h1, Option.bind_some, e3, e4, e5]
  exact h2
 ·rw [if_neg c] at e2 ep eh
  have fin : Ev (fun k => if wb = true then (if wp = true then (if decide (s.c.2 = .increasing) = true then inP k s.d2.toList (a : Int) (b : Int) (s.pivot : Int) (s.lim : Int) wb wp else tlP k s.d2.toList (a : Int) (b : Int) (s.pivot : Int) (s.lim : Int) wb wp) else tlP k s.d2.toList (a : Int) (b : Int) (s.pivot : Int) (s.lim : Int) wb wp) else tlP k s.d2.toList (a : Int) (b : Int) (s.pivot : Int) (s.lim : Int) wb wp) r := by
   cases wb with
   | false => exact Ul (by simpa [eh] using ei) h
   | true =>
    cases wp with
    | false => exact Ul (by simpa [eh] using ei) h
    | true =>
     by_cases q : s.c.2 = .increasing
     ·rw [decide_eq_true q]
      exact Zej (by omega) (by omega) (by omega) (by simpa [eh, q] using ei) h
     ·rw [decide_eq_false q]
      exact Ul (by simpa [eh, q] using ei) h
  refine fin.next fun k h2 => ?_
  unfold mdP
  rw [hpv, Option.bind_some]
  dsimp only
  rw [Zfg, if_neg (by simpa using c), Zg9]
  rw [e2, ep] at h2
  exact h2
theorem Zei (h12 : 12 < b - a) (hb : b ≤ d.size) (hd : d.size < 200) (hl : limit ≠ 0) (hlim : limit ≤ 100) (hB : Go.Sort.Below ltI a b d) (h : Ev (fun k => piP k (Go.Sort.rd ltI d a b limit wb wp) a b wb wp) r) :
  Ev (fun k => Q61.l0 k d.toList (a : Int) (b : Int) (limit : Int) wb wp) r := by
 obtain ⟨f1, f2, f3, f4, f5, f6, f7, f8⟩ := Go.Sort.rd_facts (lt := ltI) (wb := wb) (wp := wp) (limit := limit) Go.Sort.swo_ltInt Go.Sort.partialInsertionSort_holds Go.Sort.reverseRange_holds (by omega) hb hB
 have hm := Zgf (s := Go.Sort.rd ltI d a b limit wb wp) (wb := wb) (wp := wp) (r := r) h12 (by rw [f1]; exact hb) (by rw [f1]; exact hd) rfl f3 rfl (by rw [f4, f1]) rfl rfl rfl h
 have e1 : w64 ((b : Int) - (a : Int)) = ((b - a : Nat) : Int) := wn (by omega) (by omega)
 cases wb with
 | true =>
  refine hm.step fun k hk => ?_
  rw [Gk, e1, if_neg (by simp only [decide_eq_true_eq]; omega), if_neg (by simp only [decide_eq_true_eq]; omega), if_neg (by simp)]
  exact hk
 | false =>
  refine (Zgo (a := a) (b := b) (d := d) (by omega) hb hd).step2 hm fun k h1 hk => ?_
  rw [Gk, e1, if_neg (by simp only [decide_eq_true_eq]; omega), if_neg (by simp only [decide_eq_true_eq]; omega), if_pos (by simp), h1, Option.bind_some, wn (x := (limit : Int) - 1) (n := limit - 1) (by omega) (by omega)]
  exact hk
end
theorem Zhp : ∀ (m : Nat) (d : Array Int) (a b limit : Nat) (wb wp : Bool), b - a ≤ m → a ≤ b → b ≤ d.size → d.size < 200 → limit ≤ 100 → Go.Sort.Below ltI a b d →
  Ev (fun k => Q61.l0 k d.toList (a : Int) (b : Int) (limit : Int) wb wp) (Go.Sort.pdq ltI d a b limit wb wp).toList := by
 intro m
 induction m using Nat.strongRecOn with
 | _ m ih =>
 intro d a b limit wb wp hm hab hb hd hlim hB
 have e1 : w64 ((b : Int) - (a : Int)) = ((b - a : Nat) : Int) := wn (by omega) (by omega)
 by_cases h12 : b - a ≤ 12
 ·rw [Go.Sort.pdq_small h12]
  refine (Zf3 (a := a) (b := b) (d := d) hb (by omega) (by omega)).step fun k hk => ?_
  rw [Gk, e1, if_pos (decide_eq_true (by omega)), hk, Option.bind_some]
 by_cases h0 : limit = 0
 ·rw [Go.Sort.pdq_heap h12 h0]
  refine (Zg7 (a := a) (b := b) (d := d) hab hb (by omega)).step fun k hk => ?_
  rw [Gk, e1, if_neg (by simp only [decide_eq_true_eq]; omega), if_pos (decide_eq_true (by omega)), hk, Option.bind_some]
 refine Zei (by omega) hb hd h0 hlim hB ?_
 obtain ⟨f1, f2, f3, f4, f5, f6, f7, f8⟩ := Go.Sort.rd_facts (lt := ltI) (wb := wb) (wp := wp) (limit := limit) Go.Sort.swo_ltInt Go.Sort.partialInsertionSort_holds Go.Sort.reverseRange_holds (by omega) hb hB
 have hlm : (Go.Sort.rd ltI d a b limit wb wp).lim ≤ limit := Go.Sort.rd_lim_le
 cases hpi : (Go.Sort.rd ltI d a b limit wb wp).pi.2 with
 | true =>
  rw [Go.Sort.pdq_done h12 h0 hpi]
  exact Ev.all fun k => by unfold piP; rw [if_pos hpi]
 | false =>
 have red : ∀ {r : List Int}, Ev (fun k => tlP k (Go.Sort.rd ltI d a b limit wb wp).pi.1.toList (a : Int) (b : Int) ((Go.Sort.rd ltI d a b limit wb wp).pivot : Int) ((Go.Sort.rd ltI d a b limit wb wp).lim : Int) wb wp) r → Ev (fun k => piP k (Go.Sort.rd ltI d a b limit wb wp) a b wb wp) r := fun h => h.next fun k hk => by
  unfold piP
  rw [hpi, if_neg (by simp)]
  exact hk
 have hsz : b ≤ (Go.Sort.rd ltI d a b limit wb wp).pi.1.size := by rw [f7]; exact hb
 cases hq : (decide (a > 0) && !ltI (Go.Sort.rd ltI d a b limit wb wp).pi.1[a - 1]! (Go.Sort.rd ltI d a b limit wb wp).pi.1[(Go.Sort.rd ltI d a b limit wb wp).pivot]!) with
 | true =>
  have hq' := hq
  simp only [Bool.and_eq_true, decide_eq_true_eq, Bool.not_eq_true'] at hq'
  obtain ⟨g1, g2, g3, g4, g5⟩ := Go.Sort.round_eq (lt := ltI) Go.Sort.swo_ltInt (Go.Sort.partitionEqual_holds ltI) hq'.1 f6.1 f6.2 hsz f8 hq'.2 (mid := (Go.Sort.partitionEqual ltI (Go.Sort.rd ltI d a b limit wb wp).pi.1 a b (Go.Sort.rd ltI d a b limit wb wp).pivot).1) (d4 := (Go.Sort.partitionEqual ltI (Go.Sort.rd ltI d a b limit wb wp).pi.1 a b (Go.Sort.rd ltI d a b limit wb wp).pivot).2) rfl
  rw [Go.Sort.pdq_eq h12 h0 hpi hq ⟨g1, g2⟩]
  refine red (Zgk (by omega) (by omega) (by omega) hsz (by omega) hq'.2 ?_)
  exact ih (b - (Go.Sort.partitionEqual ltI (Go.Sort.rd ltI d a b limit wb wp).pi.1 a b (Go.Sort.rd ltI d a b limit wb wp).pivot).1) (by omega) _ _ _ _ _ _ (Nat.le_refl _) g2 (by rw [g3]; exact hsz) (by omega) (by omega) g4
 | false =>
  obtain ⟨g1, g2, g3, g4, g5, g6, g7⟩ := Go.Sort.round_part (lt := ltI) Go.Sort.swo_ltInt (Go.Sort.partition_holds ltI) f6.1 f6.2 hsz f8 (mid := (Go.Sort.partition ltI (Go.Sort.rd ltI d a b limit wb wp).pi.1 a b (Go.Sort.rd ltI d a b limit wb wp).pivot).1) (ap := (Go.Sort.partition ltI (Go.Sort.rd ltI d a b limit wb wp).pi.1 a b (Go.Sort.rd ltI d a b limit wb wp).pivot).2.1) (d4 := (Go.Sort.partition ltI (Go.Sort.rd ltI d a b limit wb wp).pi.1 a b (Go.Sort.rd ltI d a b limit wb wp).pivot).2.2) rfl
  refine red (Zge (by omega) (by omega) hsz (by omega) hq ?_)
  have e2 : ∀ x : Nat, x = b - a → w64 (Int.tdiv (x : Int) 8) = (((b - a) / 8 : Nat) : Int) := fun x hx => by
   rw [hx, show Int.tdiv ((b - a : Nat) : Int) 8 = (((b - a) / 8 : Nat) : Int) from rfl, Zv (by omega) (by omega)]
  by_cases hlt : (Go.Sort.partition ltI (Go.Sort.rd ltI d a b limit wb wp).pi.1 a b (Go.Sort.rd ltI d a b limit wb wp).pivot).1 - a < b - (Go.Sort.partition ltI (Go.Sort.rd ltI d a b limit wb wp).pi.1 a b (Go.Sort.rd ltI d a b limit wb wp).pivot).1
  ·rw [Go.Sort.pdq_left h12 h0 hpi hq ⟨g1, g2⟩ hlt]
   generalize Go.Sort.partition ltI (Go.Sort.rd ltI d a b limit wb wp).pi.1 a b (Go.Sort.rd ltI d a b limit wb wp).pivot = pt at *
   have e3 : w64 ((pt.1 : Int) - (a : Int)) = ((pt.1 - a : Nat) : Int) := wn (by omega) (by omega)
   have e4 : w64 ((b : Int) - (pt.1 : Int)) = ((b - pt.1 : Nat) : Int) := wn (by omega) (by omega)
   have e5 : w64 ((pt.1 : Int) + 1) = ((pt.1 + 1 : Nat) : Int) := wn (by omega) (by omega)
   have hs := Go.Sort.pdq_sorts ltI Go.Sort.swo_ltInt pt.2.2 a pt.1 (Go.Sort.rd ltI d a b limit wb wp).lim true true g1 (by omega) g4
   have c1 := (ih (pt.1 - a) (by omega) pt.2.2 a pt.1 (Go.Sort.rd ltI d a b limit wb wp).lim true true (Nat.le_refl _) g1 (by omega) (by omega) (by omega) g4).step (F := fun k => Q61.f k pt.2.2.toList (a : Int) (pt.1 : Int) ((Go.Sort.rd ltI d a b limit wb wp).lim : Int)) fun k hk => by rw [Q61.f]; exact hk
   have c2 := ih (b - (pt.1 + 1)) (by omega) (Go.Sort.pdq ltI pt.2.2 a pt.1 (Go.Sort.rd ltI d a b limit wb wp).lim true true) (pt.1 + 1) b (Go.Sort.rd ltI d a b limit wb wp).lim (decide (pt.1 - a ≥ (b - a) / 8)) pt.2.1 (Nat.le_refl _) (by omega) (by rw [hs.1.1]; omega) (by rw [hs.1.1]; omega) (by omega) (g6 _ hs.1 hs.2).1
   refine c1.next2 c2 fun k k1 k2 => ?_
   unfold Zdc
   rw [e3, e4, e5, e1, e2 _ rfl, if_pos (decide_eq_true (by omega)), k1, Option.bind_some, show decide ((((b - a) / 8 : Nat) : Int) ≤ ((pt.1 - a : Nat) : Int)) = decide (pt.1 - a ≥ (b - a) / 8) by congr 1; exact propext (by omega)]
   exact k2
  ·rw [Go.Sort.pdq_right h12 h0 hpi hq ⟨g1, g2⟩ hlt]
   generalize Go.Sort.partition ltI (Go.Sort.rd ltI d a b limit wb wp).pi.1 a b (Go.Sort.rd ltI d a b limit wb wp).pivot = pt at *
   have e3 : w64 ((pt.1 : Int) - (a : Int)) = ((pt.1 - a : Nat) : Int) := wn (by omega) (by omega)
   have e4 : w64 ((b : Int) - (pt.1 : Int)) = ((b - pt.1 : Nat) : Int) := wn (by omega) (by omega)
   have e5 : w64 ((pt.1 : Int) + 1) = ((pt.1 + 1 : Nat) : Int) := wn (by omega) (by omega)
   have hs := Go.Sort.pdq_sorts ltI Go.Sort.swo_ltInt pt.2.2 (pt.1 + 1) b (Go.Sort.rd ltI d a b limit wb wp).lim true true (by omega) (by omega) g5
   have c1 := (ih (b - (pt.1 + 1)) (by omega) pt.2.2 (pt.1 + 1) b (Go.Sort.rd ltI d a b limit wb wp).lim true true (Nat.le_refl _) (by omega) (by omega) (by omega) (by omega) g5).step (F := fun k => Q61.f k pt.2.2.toList ((pt.1 + 1 : Nat) : Int) (b : Int) ((Go.Sort.rd ltI d a b limit wb wp).lim : Int)) fun k hk => by rw [Q61.f]; exact hk
   have c2 := ih (pt.1 - a) (by omega) (Go.Sort.pdq ltI pt.2.2 (pt.1 + 1) b (Go.Sort.rd ltI d a b limit wb wp).lim true true) a pt.1 (Go.Sort.rd ltI d a b limit wb wp).lim (decide (b - pt.1 ≥ (b - a) / 8)) pt.2.1 (Nat.le_refl _) (by omega) (by rw [hs.1.1]; omega) (by rw [hs.1.1]; omega) (by omega) (g7 _ hs.1 hs.2).1
   refine c1.next2 c2 fun k k1 k2 => ?_
   unfold Zdc
   rw [e3, e4, e5, e1, e2 _ rfl, if_neg (by simp only [decide_eq_true_eq]; omega), k1, Option.bind_some, show decide ((((b - a) / 8 : Nat) : Int) ≤ ((b - pt.1 : Nat) : Int)) = decide (b - pt.1 ≥ (b - a) / 8) by congr 1; exact propext (by omega)]
   exact k2
theorem Zfs {n : Nat} (h : n < 200) : Q0.f (IntKind.u64.wrap (n : Int)) = some ((Go.Sort.bitsLen n : Nat) : Int) := by
 unfold Q0.f
 rw [U7, Nat.mod_eq_of_lt (by omega), Zgz ⟨n, h⟩, Option.bind_some]
theorem Zg3 {l : List Int} (h : l.length < 200) : Ev (fun k => Q49.f k l) (l.mergeSort fun x y => decide (x ≤ y)) := by
 have e := Go.Sort.sortInt l
 have hb : Go.Sort.bitsLen l.length ≤ 100 := (Go.Sort.bitsLen_le_iff _ _).2 (Nat.lt_of_lt_of_le h (by decide))
 have hp := Zhp l.length l.toArray 0 l.toArray.size (Go.Sort.bitsLen l.toArray.size) true true (by simp) (Nat.zero_le _) (Nat.le_refl _) (by simpa using h) (by simpa using hb) (Or.inl rfl)
 have e2 : (Go.Sort.pdq ltI l.toArray 0 l.toArray.size (Go.Sort.bitsLen l.toArray.size) true true).toList = l.mergeSort fun x y => decide (x ≤ y) := e
 rw [e2] at hp
 have hf : Ev (fun k => Q61.f k l 0 (l.length : Int) ((Go.Sort.bitsLen l.length : Nat) : Int)) (l.mergeSort fun x y => decide (x ≤ y)) := hp.step fun k hk => by
  rw [Q61.f]
  simpa using hk
 refine hf.next fun k hk => ?_
 unfold Q49.f
 rw [Zfs h, Option.bind_some, hk, Option.bind_some]
theorem Zd1 {α : Type} {xs ys : List α} {l m : Nat} (h : l + m ≤ xs.length) : (Yc xs l m ys).length = xs.length := by
 unfold Yc
 simp only [List.length_append, List.length_take, List.length_drop]
 omega
theorem G5 {n i : Nat} (hn : n ≤ 1000) (hi : 1 ≤ i) : ∀ (m t j : Nat) (x : List Int), x.length = n → i + t + m = n → 1 ≤ t → i ≤ j → j + 1 ≤ i + t → ∃ r, Ev (fun k => Q37.l1 k (i : Int) x (j : Int) (t : Int)) r ∧ r.length < n
 | 0, t, j, x, hx, h, ht, hj, hjt => by
  have hd : (x.drop j).length = n - j := by rw [List.length_drop, hx]
  have hp : (Yc x j (x.drop j).length (List.replicate (x.drop j).length (0 : Int))).length = n := by rw [Zd1 (by omega), hx]
  refine ⟨(Yc x j (x.drop j).length (List.replicate (x.drop j).length (0 : Int))).take j, Ev.last fun k => ?_, by rw [List.length_take]; omega⟩
  rw [Q37.l1, if_neg (by simp only [Int.toNat_natCast, List.length_drop, decide_eq_true_eq]; omega), if_pos (by omega), Int.toNat_natCast, if_pos (by omega)]
 | m + 1, t, j, x, hx, h, ht, hj, hjt => by
  have e1 : w64 ((t : Int) - 1) = ((t - 1 : Nat) : Int) := wn (by omega) (by omega)
  have e2 : w64 ((t : Int) + 1) = ((t + 1 : Nat) : Int) := wn (by omega) (by omega)
  have e3 : w64 ((j : Int) + 1) = ((j + 1 : Nat) : Int) := wn (by omega) (by omega)
  have hd : (x.drop i).length = n - i := by rw [List.length_drop, hx]
  by_cases q : gt (x.drop i) (t : Int) = gt (x.drop i) ((t - 1 : Nat) : Int)
  ·obtain ⟨r, h1, h2⟩ := G5 hn hi m (t + 1) j x hx (by omega) (by omega) hj (by omega)
   refine ⟨r, h1.step fun k hk => ?_, h2⟩
   rw [Q37.l1, Int.toNat_natCast, if_pos (decide_eq_true (by omega)), if_pos (by omega), e1, if_pos (by omega), if_neg (by simp [q]), e2]
   exact hk
  ·obtain ⟨r, h1, h2⟩ := G5 hn hi m (t + 1) (j + 1) (x.set j (gt (x.drop i) (t : Int))) (by rw [List.length_set, hx]) (by omega) (by omega) (by omega) (by omega)
   refine ⟨r, h1.step fun k hk => ?_, h2⟩
   rw [Q37.l1, Int.toNat_natCast, if_pos (decide_eq_true (by omega)), if_pos (by omega), e1, if_pos (by omega), if_pos (by simp [q]), if_pos (by omega), Int.toNat_natCast, e2, e3]
   exact hk
def Zep (l : List Int) : Prop := ∀ q, q + 1 < l.length → l.getD (q + 1) 0 ≠ l.getD q 0
theorem Zck {l : List Int} (hn : l.length ≤ 1000) : ∀ (m i : Nat), i + m = l.length → 1 ≤ i → (∀ q, q + 1 < i → l.getD (q + 1) 0 ≠ l.getD q 0) → ∃ r, Ev (fun k => Q37.l0 k l (i : Int)) r ∧ (r.length = l.length ↔ Zep l)
 | 0, i, h, hi, hq => by
  refine ⟨l, Ev.last fun k => ?_, fun _ q hq' => hq q (by omega), fun _ => rfl⟩
  rw [Q37.l0, if_neg (by simp only [decide_eq_true_eq]; omega)]
 | m + 1, i, h, hi, hq => by
  have e1 : w64 ((i : Int) - 1) = ((i - 1 : Nat) : Int) := wn (by omega) (by omega)
  have e2 : w64 ((i : Int) + 1) = ((i + 1 : Nat) : Int) := wn (by omega) (by omega)
  have g1 : gt l (i : Int) = l.getD i 0 := Ya l i
  have g2 : gt l ((i - 1 : Nat) : Int) = l.getD (i - 1) 0 := Ya l (i - 1)
  by_cases c : l.getD i 0 = l.getD (i - 1) 0
  ·obtain ⟨r, h1, h2⟩ := G5 hn hi (l.length - i - 1) 1 i l rfl (by omega) (Nat.le_refl _) (Nat.le_refl _) (Nat.le_refl _)
   refine ⟨r, h1.step fun k hk => ?_, fun e => by omega, fun e => absurd c (by have := e (i - 1) (by omega); rwa [Nat.sub_add_cancel hi] at this)⟩
   rw [Q37.l0, if_pos (decide_eq_true (by omega)), if_pos (by omega), e1, if_pos (by omega), g1, g2, if_pos (decide_eq_true c), if_pos (by omega)]
   exact hk
  ·obtain ⟨r, h1, h2⟩ := Zck hn m (i + 1) (by omega) (by omega) fun q hq' => by
    by_cases e : q + 1 = i
    ·rw [e, show q = i - 1 by omega]; exact c
    ·exact hq q (by omega)
   refine ⟨r, h1.step fun k hk => ?_, h2⟩
   rw [Q37.l0, if_pos (decide_eq_true (by omega)), if_pos (by omega), e1, if_pos (by omega), g1, g2, if_neg (by simpa using c), e2]
   exact hk
theorem Ze7 {l : List Int} (hn : l.length ≤ 1000) : ∃ r, Ev (fun k => Q37.f k l) r ∧ (r.length = l.length ↔ Zep l) := by
 by_cases h : l.length < 2
 ·refine ⟨l, Ev.all fun k => ?_, fun _ q hq => by omega, fun _ => rfl⟩
  unfold Q37.f
  rw [if_pos (decide_eq_true (by omega))]
 ·obtain ⟨r, h1, h2⟩ := Zck hn (l.length - 1) 1 (by omega) (Nat.le_refl _) (fun q hq => by omega)
  refine ⟨r, h1.next fun k hk => ?_, h2⟩
  unfold Q37.f
  rw [if_neg (by simp only [decide_eq_true_eq]; omega)]
  exact hk
theorem Zdr {l : List Int} (hs : l.Pairwise (fun x y => x ≤ y)) : Zep l ↔ l.Nodup := by
 constructor
 ·intro h
  rw [List.Nodup, List.pairwise_iff_getElem]
  intro i j hi hj hij e
  have h1 := h i (by omega)
  rw [List.getD_eq_getElem?_getD, List.getD_eq_getElem?_getD, List.getElem?_eq_getElem (by omega), List.getElem?_eq_getElem hi] at h1
  simp only [Option.getD_some] at h1
  have a := List.pairwise_iff_getElem.1 hs i (i + 1) hi (by omega) (by omega)
  by_cases e1 : i + 1 = j
  ·subst e1; exact h1 e.symm
  ·have b := List.pairwise_iff_getElem.1 hs (i + 1) j (by omega) hj (by omega)
   omega
 ·intro h q hq e
  rw [List.getD_eq_getElem?_getD, List.getD_eq_getElem?_getD, List.getElem?_eq_getElem hq, List.getElem?_eq_getElem (by omega)] at e
  exact (List.pairwise_iff_getElem.1 h q (q + 1) (by omega) hq (by omega)) e.symm
theorem kids_all {c : Cfg} {l : List Int} : (List.range' 0 l.length).all (Wp c l) = true ↔ (∀ x ∈ l, x ≠ 0 ∧ ¬ c.1 ≤ w64 x) ∧ l.Nodup := by
 have gd : ∀ i (h : i < l.length), l.getD i 0 = l[i] := fun i h => by rw [List.getD_eq_getElem?_getD, List.getElem?_eq_getElem h]; rfl
 rw [List.all_eq_true]
 constructor
 ·intro h
  refine ⟨fun x hx => ?_, ?_⟩
  ·obtain ⟨i, hi, rfl⟩ := List.mem_iff_getElem.1 hx
   have := h i (by simp [hi])
   simp only [Wp, gd i hi, Bool.and_eq_true, Bool.not_eq_true', decide_eq_false_iff_not] at this
   exact ⟨this.1, this.2.1⟩
  ·rw [List.Nodup, List.pairwise_iff_getElem]
   intro i j hi hj hij e
   have := h j (by simp [hj])
   simp only [Wp, Bool.and_eq_true, List.all_eq_true] at this
   have := this.2.2 i (by simp [hij])
   simp only [neB, gd i hi, gd j hj, Bool.not_eq_true', decide_eq_false_iff_not] at this
   exact this e
 ·rintro ⟨h1, h2⟩ i hi
  have hi : i < l.length := by simpa using hi
  simp only [Wp, gd i hi, Bool.and_eq_true, Bool.not_eq_true', decide_eq_false_iff_not, List.all_eq_true]
  refine ⟨(h1 _ (List.getElem_mem hi)).1, (h1 _ (List.getElem_mem hi)).2, fun q hq => ?_⟩
  have hq : q < i := by simpa using hq
  simp only [neB, gd i hi, gd q (by omega), Bool.not_eq_true', decide_eq_false_iff_not]
  exact List.pairwise_iff_getElem.1 h2 q i (by omega) hi hq
def U5 (c : Cfg) (l : List Int) : Bool := decide (1 ≤ l.length) && (decide ((l.length : Int) ≤ c.2.2.2.1) && (List.range' 0 l.length).all (Wp c l))
theorem Zg2 {c : Cfg} {l : List Int} (h80 : l.length ≤ 80) (hl : ∀ x ∈ l, 0 ≤ x ∧ x < 4294967296) : Ev (fun k => Q32.f k c l) (U5 c l) := by
 have hclone : Q36.f l = some l := by
  unfold Q36.f
  rw [if_pos (by simp; omega)]; rfl
 obtain ⟨S, hS⟩ : ∃ S, S = l.mergeSort fun x y => decide (x ≤ y) := ⟨_, rfl⟩
 have hperm : S.Perm l := hS ▸ List.mergeSort_perm _ _
 have hlen : S.length = l.length := hperm.length_eq
 have hsort : S.Pairwise (fun x y => x ≤ y) := by
  have := List.pairwise_mergeSort (le := fun x y : Int => decide (x ≤ y)) (fun a b c h1 h2 => by simp only [decide_eq_true_eq] at *; omega) (fun a b => by simp only [Bool.or_eq_true, decide_eq_true_eq]; omega) l
  rw [← hS] at this
  exact this.imp fun h => of_decide_eq_true h
 have hs := Zg3 (l := l) (by omega)
 rw [← hS] at hs
 obtain ⟨r, hr1, hr2⟩ := Ze7 (l := S) (by omega)
 refine hs.next2 hr1 fun k k1 k2 => ?_
 unfold Q32.f
 rw [hclone, Option.bind_some, k1, Option.bind_some]
 by_cases c1 : l.length < 1
 ·rw [if_pos (decide_eq_true (by omega))]
  simp [U5, show ¬ 1 ≤ l.length by omega]
 rw [if_neg (by simp only [decide_eq_true_eq]; omega)]
 by_cases c2 : c.2.2.2.1 < (l.length : Int)
 ·rw [if_pos (decide_eq_true c2)]
  simp [U5, show ¬ (l.length : Int) ≤ c.2.2.2.1 by omega]
 rw [if_neg (by simpa using c2), if_pos (by omega), wn (x := (l.length : Int) - 1) (n := l.length - 1) (by omega) (by omega)]
 have g0 : gt S 0 = S[0]'(by omega) := by
  rw [show (0 : Int) = ((0 : Nat) : Int) from rfl, Ya, List.getD_eq_getElem?_getD, List.getElem?_eq_getElem (by omega)]; rfl
 have g1 : gt S ((l.length - 1 : Nat) : Int) = S[l.length - 1]'(by omega) := by
  rw [Ya, List.getD_eq_getElem?_getD, List.getElem?_eq_getElem (by omega)]; rfl
 have m0 : S[0]'(by omega) ∈ l := hperm.mem_iff.1 (List.getElem_mem _)
 have m1 : S[l.length - 1]'(by omega) ∈ l := hperm.mem_iff.1 (List.getElem_mem _)
 rw [g0, g1]
 have base : U5 c l = (List.range' 0 l.length).all (Wp c l) := by
  unfold U5
  rw [decide_eq_true (show 1 ≤ l.length by omega), decide_eq_true (show (l.length : Int) ≤ c.2.2.2.1 by omega)]; rfl
 rw [base]
 by_cases c3 : S[0]'(by omega) = 0
 ·rw [if_pos (decide_eq_true c3)]
  refine congrArg some (Bool.eq_false_iff.2 fun e => ?_).symm
  exact ((kids_all.1 e).1 _ m0).1 c3
 rw [if_neg (by simpa using c3), if_pos (by omega)]
 by_cases c4 : c.1 ≤ w64 (S[l.length - 1]'(by omega))
 ·rw [if_pos (decide_eq_true c4)]
  refine congrArg some (Bool.eq_false_iff.2 fun e => ?_).symm
  exact ((kids_all.1 e).1 _ m1).2 c4
 rw [if_neg (by simpa using c4), k2, Option.bind_some]
 have key : r.length = l.length ↔ (List.range' 0 l.length).all (Wp c l) = true := by
  rw [← hlen, hr2, Zdr hsort, hperm.nodup_iff, hlen, kids_all]
  refine ⟨fun h => ⟨fun x hx => ?_, h⟩, fun h => h.2⟩
  obtain ⟨i, hi, rfl⟩ := List.mem_iff_getElem.1 (hperm.mem_iff.2 hx)
  have a0 := hl _ m0
  have a1 := hl _ m1
  have ax := hl _ hx
  have b0 : S[0]'(by omega) ≤ S[i] := by
   by_cases z : i = 0
   ·subst z; exact Int.le_refl _
   ·exact List.pairwise_iff_getElem.1 hsort 0 i (by omega) hi (by omega)
  have b1 : S[i] ≤ S[l.length - 1]'(by omega) := by
   by_cases z : i = l.length - 1
   ·subst z; exact Int.le_refl _
   ·exact List.pairwise_iff_getElem.1 hsort i (l.length - 1) hi (by omega) (by omega)
  rw [Zv (by omega) (by omega)] at c4 ⊢
  exact ⟨by omega, by omega⟩
 refine congrArg some (Bool.eq_iff_iff.2 ?_)
 rw [decide_eq_true_eq, ← key]
 omega
theorem Zan (s : Sp) (x : List UInt8) : Q26.f s x = some (inS s x) := by
 unfold Q26.f inS
 cases Op.bytesLess x s.1 <;> cases s.2.2 <;> rfl
theorem Zbw (a b : List UInt8) : Q25.f a b = some (Yo a b) := rfl
theorem Uu {l : List (List UInt8)} (s : Sp) (hl : l.length ≤ 80) : ∀ (k i : Nat), i ≤ l.length → l.length - i < k → Q22.l0 k l s (i : Int) = some ((l.drop i).all (piv s) && Xn (l.drop (i - 1)))
 | 0, i, _, h => by omega
 | k + 1, i, hi, hk => by
  rw [Q22.l0]
  by_cases h : i < l.length
  ·have g1 : (0 : Int) ≤ (i : Int) ∧ (i : Int) < (l.length : Int) := by omega
   have eta : (s.1, s.2.1, s.2.2) = s := rfl
   have ih := Uu s hl k (i + 1) (by omega) (by omega)
   rw [if_pos (decide_eq_true g1.2), if_pos g1, Ya, eta, Zan, Option.bind_some, Z3 (by omega), ih, Z5 h, List.all_cons, Nat.add_sub_cancel]
   simp only [piv]
   cases h1 : inS s (l.getD i default) with
   | false => rfl
   | true =>
    by_cases e : l.getD i default = s.1
    ·rw [if_neg (by simp), if_pos (decide_eq_true e), decide_eq_true e]; rfl
    ·rw [if_neg (by simp), if_neg (by simp only [e, decide_false]; simp)]
     by_cases h0 : 0 < i
     ·have g2 : (0 : Int) ≤ ((i - 1 : Nat) : Int) ∧ ((i - 1 : Nat) : Int) < (l.length : Int) := by omega
      rw [if_pos (decide_eq_true (by omega)), V1 h0 (by omega), if_pos g2, Ya, Zbw, Option.bind_some, Uv]
      have := Gh (l := l) (i := i - 1) (by omega)
      rw [Nat.sub_add_cancel h0] at this
      rw [this, decide_eq_false e]
      show (if (!Op.bytesLess (l.getD (i - 1) []) (l.getD i [])) = true then _ else _) = _
      cases Op.bytesLess (l.getD (i - 1) []) (l.getD i []) <;> simp
     ·obtain rfl : i = 0 := by omega
      rw [if_neg (by simp), decide_eq_false e]
      simp
  ·rw [if_neg (by simp only [decide_eq_true_eq]; omega), List.drop_eq_nil_of_le (by omega), B1 (by omega)]
   rfl
theorem Zd4 {l : List (List UInt8)} (s : Sp) (hl : l.length ≤ 80) {k : Nat} (hk : 100 < k) : Q22.f k l s = some (l.all (piv s) && Xn l) := by
 have := Uu s hl k 0 (by omega) (by omega)
 simpa [Q22.f] using this
theorem Zcu {l : List Pr} (hl : l.length ≤ 100000) {k : Nat} (hk : l.length < k) : Q23.f k l = some (Xy l) := by
 have := Vh (key := fun x : Pr => x.1) (F := fun k i => Q23.l0 k l i) (by omega) (fun k i => rfl) k 0 (by omega) (by omega)
 rw [Zb1]
 simpa [Q23.f] using this
theorem Zee {l : List Msg} (hl : l.length ≤ 100000) {k : Nat} (hk : l.length < k) : Q2.f k l = some (X3 l) := by
 have := Vh (key := fun x : Msg => x.1) (F := fun k i => Q2.l0 k l i) (by omega) (fun k i => rfl) k 0 (by omega) (by omega)
 rw [Zb5]
 simpa [Q2.f] using this
theorem Wd {α : Type} [Inhabited α] {l : List α} {F : Nat → Int → Option Int} {p : α → Bool} (hl : l.length ≤ 100000)
  (hF : ∀ k i, F (k + 1) i = if (decide (i < (l.length : Int))) = true then (if 0 ≤ i ∧ i < (l.length : Int) then (if p (gt l i) = true then (some i) else (F k (w64 (i + 1)))) else none) else (some (-1))) :
  ∀ (m i k : Nat), i + m = l.length → m < k → ∃ r, F k (i : Int) = some r ∧ decide (0 ≤ r) = (l.drop i).any p
 | 0, i, 0, _, h => by omega
 | m + 1, i, 0, _, h => by omega
 | 0, i, k + 1, h, _ => ⟨-1, by rw [hF, if_neg (by simp only [decide_eq_true_eq]; omega)], by rw [List.drop_eq_nil_of_le (by omega)]; rfl⟩
 | m + 1, i, k + 1, h, hk => by
  rw [hF, if_pos (decide_eq_true (by omega)), if_pos (by omega), Ya, Z5 (show i < l.length by omega), List.any_cons]
  by_cases c : p (l.getD i default) = true
  ·exact ⟨_, by rw [if_pos c], by rw [c, decide_eq_true (by omega)]; rfl⟩
  ·obtain ⟨r, h1, h2⟩ := Wd hl hF m (i + 1) k (by omega) (by omega)
   exact ⟨r, by rw [if_neg c, Z3 (by omega), h1], by rw [h2, Bool.eq_false_iff.2 c]; rfl⟩
theorem Jn (c : Cfg) (x : List UInt8) : Q27.f c x = some (Y2 c x) := by
 unfold Q27.f Y2
 by_cases h : 1 ≤ (x.length : Int) <;> simp [h]
theorem Zf1 (p : Pr) (c : Cfg) (s : Sp) : Q34.f p c s = some (!prB c s p) := by
 unfold Q34.f prB
 rw [show Q27.f (c.1, c.2.1, c.2.2.1, c.2.2.2.1, c.2.2.2.2.1, c.2.2.2.2.2.1, c.2.2.2.2.2.2.1, c.2.2.2.2.2.2.2) p.1 = _ from Jn c p.1, Option.bind_some, show Q26.f (s.1, s.2.1, s.2.2) p.1 = _ from Zan s p.1, Option.bind_some]
 by_cases e : c.2.2.2.2.2.2.2 < (p.2.length : Int)
 ·rw [decide_eq_true e, decide_eq_false (show ¬ ((p.2.length : Int) ≤ c.2.2.2.2.2.2.2) by omega)]
  cases Y2 c p.1 <;> cases inS s p.1 <;> rfl
 ·rw [decide_eq_false e, decide_eq_true (show ((p.2.length : Int) ≤ c.2.2.2.2.2.2.2) by omega)]
  cases Y2 c p.1 <;> cases inS s p.1 <;> rfl
theorem Zfu (x : List UInt8) (c : Cfg) : Q30.f x c = some (!Y2 c x) := by
 unfold Q30.f
 rw [show Q27.f (c.1, c.2.1, c.2.2.1, c.2.2.2.1, c.2.2.2.2.1, c.2.2.2.2.2.1, c.2.2.2.2.2.2.1, c.2.2.2.2.2.2.2) x = _ from Jn c x, Option.bind_some]
theorem Zfz (p : Msg) (c : Cfg) (s : Sp) : Q31.f p c s = some (!Vi c s p) := by
 unfold Q31.f Vi
 rw [show Q27.f (c.1, c.2.1, c.2.2.1, c.2.2.2.1, c.2.2.2.2.1, c.2.2.2.2.2.1, c.2.2.2.2.2.2.1, c.2.2.2.2.2.2.2) p.1 = _ from Jn c p.1, Option.bind_some, show Q26.f (s.1, s.2.1, s.2.2) p.1 = _ from Zan s p.1, Option.bind_some]
 by_cases e : c.2.2.2.2.2.2.2 < (p.2.2.length : Int)
 ·rw [decide_eq_true e, decide_eq_false (show ¬ ((p.2.2.length : Int) ≤ c.2.2.2.2.2.2.2) by omega)]
  cases Y2 c p.1 <;> cases inS s p.1 <;> rfl
 ·rw [decide_eq_false e, decide_eq_true (show ((p.2.2.length : Int) ≤ c.2.2.2.2.2.2.2) by omega)]
  cases Y2 c p.1 <;> cases inS s p.1 <;> cases p.2.1 <;> cases decide (p.2.2 = []) <;> rfl
theorem Zdd {c : Cfg} {s : Sp} {l : List Pr} (hl : l.length ≤ 100000) {k : Nat} (hk : l.length < k) : Q39.f k l c s = some (!l.all (prB c s)) := by
 obtain ⟨r, h1, h2⟩ := Wd (l := l) (F := fun k i => Q45.l0 k l c s i) (p := fun x => !prB c s x) hl (fun k i => by
  show Q45.l0 (k + 1) l c s i = _
  rw [Q45.l0, Zf1, Option.bind_some]) l.length 0 k (by omega) hk
 unfold Q39.f Q45.f
 rw [show Q45.l0 k l (c.1, c.2.1, c.2.2.1, c.2.2.2.1, c.2.2.2.2.1, c.2.2.2.2.2.1, c.2.2.2.2.2.2.1, c.2.2.2.2.2.2.2) (s.1, s.2.1, s.2.2) 0 = _ from h1, Option.bind_some, h2, List.drop_zero]
 exact congrArg some (by rw [List.all_eq_not_any_not, Bool.not_not])
theorem Zcz {c : Cfg} {l : List (List UInt8)} (hl : l.length ≤ 100000) {k : Nat} (hk : l.length < k) : Q42.f k l c = some (!l.all (Y2 c)) := by
 obtain ⟨r, h1, h2⟩ := Wd (l := l) (F := fun k i => Q48.l0 k l c i) (p := fun x => !Y2 c x) hl (fun k i => by
  show Q48.l0 (k + 1) l c i = _
  rw [Q48.l0, Zfu, Option.bind_some]) l.length 0 k (by omega) hk
 unfold Q42.f Q48.f
 rw [show Q48.l0 k l (c.1, c.2.1, c.2.2.1, c.2.2.2.1, c.2.2.2.2.1, c.2.2.2.2.2.1, c.2.2.2.2.2.2.1, c.2.2.2.2.2.2.2) 0 = _ from h1, Option.bind_some, h2, List.drop_zero]
 exact congrArg some (by rw [List.all_eq_not_any_not, Bool.not_not])
theorem Zc0 {c : Cfg} {s : Sp} {l : List Msg} (hl : l.length ≤ 100000) {k : Nat} (hk : l.length < k) : Q38.f k l c s = some (!l.all (Vi c s)) := by
 obtain ⟨r, h1, h2⟩ := Wd (l := l) (F := fun k i => Q44.l0 k l c s i) (p := fun x => !Vi c s x) hl (fun k i => by
  show Q44.l0 (k + 1) l c s i = _
  rw [Q44.l0, Zfz, Option.bind_some]) l.length 0 k (by omega) hk
 unfold Q38.f Q44.f
 rw [show Q44.l0 k l (c.1, c.2.1, c.2.2.1, c.2.2.2.1, c.2.2.2.2.1, c.2.2.2.2.2.1, c.2.2.2.2.2.2.1, c.2.2.2.2.2.2.2) (s.1, s.2.1, s.2.2) 0 = _ from h1, Option.bind_some, h2, List.drop_zero]
 exact congrArg some (by rw [List.all_eq_not_any_not, Bool.not_not])
theorem Zhh {α : Type} [DecidableEq α] (l : List α) : decide (0 < (l.length : Int)) = !decide (l = []) := by cases l <;> simp
theorem Zc5 {c : Cfg} {s : Sp} {n : Nd} (h1 : n.2.1.length ≤ 10000) (h2 : n.2.2.1.length ≤ 10000) (h3 : n.2.2.2.1.length ≤ 10000) (h4 : n.2.2.2.2.length ≤ 10000) {k : Nat} (hk : 10000 < k) : Q33.f k c s n = some (Uf c s n) := by
 unfold Q33.f Uf
 rw [show Q39.f k n.2.2.2.2 (c.1, c.2.1, c.2.2.1, c.2.2.2.1, c.2.2.2.2.1, c.2.2.2.2.2.1, c.2.2.2.2.2.2.1, c.2.2.2.2.2.2.2) (s.1, s.2.1, s.2.2) = _ from Zdd (c := c) (s := s) (by omega) (by omega), Zcu (by omega) (by omega), Option.bind_some, Option.bind_some,
  wn (x := (n.2.1.length : Int) + (n.2.2.1.length : Int)) (n := n.2.1.length + n.2.2.1.length) (by omega) (by omega), wn (x := ((n.2.1.length + n.2.2.1.length : Nat) : Int) + (n.2.2.2.1.length : Int)) (n := n.2.1.length + n.2.2.1.length + n.2.2.2.1.length) (by omega) (by omega)]
 by_cases e1 : n.2.1 = []
 ·by_cases e2 : n.2.2.1 = []
  ·by_cases e3 : n.2.2.2.1 = []
   ·by_cases e4 : c.2.2.2.2.2.1 < (n.2.2.2.2.length : Int)
    ·rw [if_neg (by simp [e1, e2, e3]), if_pos (decide_eq_true e4), decide_eq_false (show ¬ (n.2.2.2.2.length : Int) ≤ c.2.2.2.2.2.1 by omega)]
     simp
    ·rw [if_neg (by simp [e1, e2, e3]), if_neg (by simpa using e4), decide_eq_true (show (n.2.2.2.2.length : Int) ≤ c.2.2.2.2.2.1 by omega), decide_eq_true e1, decide_eq_true e2, decide_eq_true e3]
     cases Xy n.2.2.2.2 <;> cases n.2.2.2.2.all (prB c s) <;> rfl
   ·have := List.length_pos_iff.2 e3
    rw [if_pos (decide_eq_true (by omega)), decide_eq_false e3]
    simp
  ·have := List.length_pos_iff.2 e2
   rw [if_pos (decide_eq_true (by omega)), decide_eq_false e2]
   simp
 ·have := List.length_pos_iff.2 e1
  rw [if_pos (decide_eq_true (by omega)), decide_eq_false e1]
  simp
theorem Zcw {c : Cfg} {s : Sp} {n : Nd} (h1 : n.2.1.length ≤ 80) (h2 : n.2.2.1.length ≤ 80) (h3 : n.2.2.2.1.length ≤ 10000) (h4 : n.2.2.2.2.length ≤ 10000) (hl : ∀ x ∈ n.2.1, 0 ≤ x ∧ x < 4294967296) : Ev (fun k => Q29.f k c s n) (Ub c s n) := by
 have hk := Zg2 (c := c) h1 hl
 have hbig : Ev (fun k => if 10000 < k then some () else none) () := ⟨10001, fun k hk => if_pos (by omega)⟩
 refine hk.next2 hbig fun k k1 k2 => ?_
 have k2 : 10000 < k := by
  by_cases z : 10000 < k
  ·exact z
  ·rw [if_neg z] at k2; cases k2
 unfold Q29.f Ub U3 U2
 rw [show Q32.f k (c.1, c.2.1, c.2.2.1, c.2.2.2.1, c.2.2.2.2.1, c.2.2.2.2.2.1, c.2.2.2.2.2.2.1, c.2.2.2.2.2.2.2) n.2.1 = _ from k1, show Q38.f k n.2.2.2.1 (c.1, c.2.1, c.2.2.1, c.2.2.2.1, c.2.2.2.2.1, c.2.2.2.2.2.1, c.2.2.2.2.2.2.1, c.2.2.2.2.2.2.2) (s.1, s.2.1, s.2.2) = _ from Zc0 (c := c) (s := s) (by omega) (by omega),
  show Q42.f k n.2.2.1 (c.1, c.2.1, c.2.2.1, c.2.2.2.1, c.2.2.2.2.1, c.2.2.2.2.2.1, c.2.2.2.2.2.2.1, c.2.2.2.2.2.2.2) = _ from Zcz (c := c) (by omega) (by omega), show Q22.f k n.2.2.1 (s.1, s.2.1, s.2.2) = _ from Zd4 s h2 (by omega), Zee (by omega) (by omega)]
 simp only [Option.bind_some, U5]
 have y1 : decide (40 < n.1) = !decide (n.1 ≤ 40) := by by_cases q : n.1 ≤ 40 <;> simp [q] <;> omega
 have y3 : decide (c.2.2.2.2.1 < (n.2.2.2.1.length : Int)) = !decide ((n.2.2.2.1.length : Int) ≤ c.2.2.2.2.1) := by by_cases q : (n.2.2.2.1.length : Int) ≤ c.2.2.2.2.1 <;> simp [q] <;> omega
 have y4 : (1 ≤ n.2.1.length) → decide ((n.2.2.1.length : Int) = w64 ((n.2.1.length : Int) - 1)) = decide (n.2.2.1.length + 1 = n.2.1.length) := fun z => by
  rw [wn (x := (n.2.1.length : Int) - 1) (n := n.2.1.length - 1) (by omega) (by omega)]
  congr 1
  exact propext (by omega)
 rw [y1, y3, Zhh]
 by_cases z : 1 ≤ n.2.1.length
 ·rw [y4 z, decide_eq_true z]
  cases decide (n.1 ≤ 40) <;> cases decide (n.2.2.2.2 = []) <;> cases decide ((n.2.1.length : Int) ≤ c.2.2.2.1) <;> cases (List.range' 0 n.2.1.length).all (Wp c n.2.1) <;> cases decide (n.2.2.1.length + 1 = n.2.1.length) <;> cases (n.2.2.1.all (piv s) && Xn n.2.2.1) <;> cases n.2.2.1.all (Y2 c) <;> cases decide ((n.2.2.2.1.length : Int) ≤ c.2.2.2.2.1) <;> cases X3 n.2.2.2.1 <;> cases n.2.2.2.1.all (Vi c s) <;> rfl
 ·rw [decide_eq_false z]
  cases decide (n.1 ≤ 40) <;> cases decide (n.2.2.2.2 = []) <;> simp
def Y9 (c : Cfg) (s : Sp) (n : Nd) : Bool := if n.1 = 0 then Uf c s n else decide (0 < n.1) && Ub c s n
theorem Zcy {c : Cfg} {s : Sp} {n : Nd} (h1 : n.2.1.length ≤ 80) (h2 : n.2.2.1.length ≤ 80) (h3 : n.2.2.2.1.length ≤ 10000) (h4 : n.2.2.2.2.length ≤ 10000) (hl : ∀ x ∈ n.2.1, 0 ≤ x ∧ x < 4294967296) : Ev (fun k => Q28.f k c s n) (Y9 c s n) := by
 have hbig : Ev (fun k => if 10000 < k then some () else none) () := ⟨10001, fun k hk => if_pos (by omega)⟩
 refine (Zcw (c := c) (s := s) h1 h2 h3 h4 hl).next2 hbig fun k k1 k2 => ?_
 have k2 : 10000 < k := by
  by_cases z : 10000 < k
  ·exact z
  ·rw [if_neg z] at k2; cases k2
 unfold Q28.f Y9
 rw [show Q29.f k (c.1, c.2.1, c.2.2.1, c.2.2.2.1, c.2.2.2.2.1, c.2.2.2.2.2.1, c.2.2.2.2.2.2.1, c.2.2.2.2.2.2.2) (s.1, s.2.1, s.2.2) (n.1, n.2.1, n.2.2.1, n.2.2.2.1, n.2.2.2.2) = _ from k1,
  show Q33.f k (c.1, c.2.1, c.2.2.1, c.2.2.2.1, c.2.2.2.2.1, c.2.2.2.2.2.1, c.2.2.2.2.2.2.1, c.2.2.2.2.2.2.2) (s.1, s.2.1, s.2.2) (n.1, n.2.1, n.2.2.1, n.2.2.2.1, n.2.2.2.2) = _ from Zc5 (c := c) (s := s) (by omega) (by omega) h3 h4 k2, Option.bind_some, Option.bind_some]
 by_cases c1 : n.1 < 0
 ·rw [if_pos (decide_eq_true c1), if_neg (by omega), decide_eq_false (show ¬ 0 < n.1 by omega)]; rfl
 ·rw [if_neg (by simpa using c1)]
  by_cases c2 : n.1 = 0
  ·rw [if_pos (decide_eq_true c2), if_pos c2]
  ·rw [if_neg (by simpa using c2), if_neg c2, decide_eq_true (show 0 < n.1 by omega)]; rfl
def be : Nat → Nat → List UInt8
 | 0, _ => []
 | w + 1, v => UInt8.ofNat (v / 256 ^ w) :: be w v
theorem Zz : ∀ w v, (be w v).length = w
 | 0, _ => rfl
 | w + 1, v => by rw [be, List.length_cons, Zz w v]
def rdv (l : List UInt8) : Nat := l.foldl (fun a c => a * 256 + c.toNat) 0
theorem Jj : ∀ (l : List UInt8) (a : Nat), l.foldl (fun a c => a * 256 + c.toNat) a = a * 256 ^ l.length + rdv l
 | [], a => by simp [rdv]
 | c :: l, a => by
  unfold rdv
  rw [List.foldl_cons, List.foldl_cons, Jj l, Jj l (0 * 256 + c.toNat), List.length_cons, Nat.pow_succ, Nat.add_mul, Nat.zero_mul, Nat.zero_add]
  rw [Nat.mul_assoc, Nat.mul_comm 256, Nat.add_assoc]
theorem Zal (c : UInt8) (l : List UInt8) : rdv (c :: l) = c.toNat * 256 ^ l.length + rdv l := by
 unfold rdv
 rw [List.foldl_cons, Jj, Nat.zero_mul, Nat.zero_add]; rfl
theorem W5 : ∀ l : List UInt8, rdv l < 256 ^ l.length
 | [] => by simp [rdv]
 | c :: l => by
  have h1 := W5 l
  have h2 : c.toNat < 256 := c.toNat_lt
  rw [Zal, List.length_cons, Nat.pow_succ]
  have : c.toNat * 256 ^ l.length ≤ 255 * 256 ^ l.length := Nat.mul_le_mul_right _ (by omega)
  omega
theorem Zea : ∀ w v, rdv (be w v) = v % 256 ^ w
 | 0, v => by simp [be, rdv, Nat.mod_one]
 | w + 1, v => by
  rw [be, Zal, Zz, Zea w v]
  have e : (UInt8.ofNat (v / 256 ^ w)).toNat = v / 256 ^ w % 256 := by simp
  rw [e, Nat.pow_succ, Nat.mod_mul (a := 256 ^ w) (b := 256), Nat.mul_comm]; omega
theorem Xv {w v : Nat} (h : v < 256 ^ w) : rdv (be w v) = v := by rw [Zea, Nat.mod_eq_of_lt h]
def zs (n : Nat) : List UInt8 := List.replicate n 0
theorem Yx (n : Nat) : (zs n).length = n := List.length_replicate
theorem Wm (a b : Nat) : zs a ++ zs b = zs (a + b) := by unfold zs; rw [List.replicate_append_replicate]
def slt (s : List UInt8) (n : Nat) : List UInt8 := s ++ zs (n - s.length)
theorem Y4 {s : List UInt8} {n : Nat} (h : s.length ≤ n) : (slt s n).length = n := by unfold slt; rw [List.length_append, Yx]; omega
def prS (K V : Nat) (p : List UInt8 × List UInt8) : List UInt8 := be 1 p.1.length ++ (be 2 p.2.length ++ (slt p.1 K ++ slt p.2 V))
theorem Xe {K V : Nat} {p : List UInt8 × List UInt8} (h1 : p.1.length ≤ K) (h2 : p.2.length ≤ V) : (prS K V p).length = 3 + K + V := by
 unfold prS
 rw [List.length_append, List.length_append, List.length_append, Zz, Zz, Y4 h1, Y4 h2]; omega
def msS (K V : Nat) (m : List UInt8 × Bool × List UInt8) : List UInt8 := (if m.2.1 = true then 2 else 1) :: prS K V (m.1, m.2.2)
theorem Zcr {K V : Nat} {m : List UInt8 × Bool × List UInt8} (h1 : m.1.length ≤ K) (h2 : m.2.2.length ≤ V) : (msS K V m).length = 4 + K + V := by
 unfold msS
 rw [List.length_cons, Xe h1 h2]; omega
def pvS (K : Nat) (p : List UInt8) : List UInt8 := be 1 p.length ++ slt p K
theorem Vn {K : Nat} {p : List UInt8} (h1 : p.length ≤ K) : (pvS K p).length = 1 + K := by
 unfold pvS
 rw [List.length_append, Zz, Y4 h1]
def cat {α : Type} (f : α → List UInt8) (l : List α) : List UInt8 := l.flatMap f
theorem Vo {α : Type} {f : α → List UInt8} {n : Nat} : ∀ {l : List α}, (∀ x ∈ l, (f x).length = n) → (cat f l).length = l.length * n
 | [], _ => by simp [cat]
 | x :: l, h => by
  have := Vo (l := l) fun y hy => h y (by simp [hy])
  unfold cat at this ⊢
  rw [List.flatMap_cons, List.length_append, this, h x (by simp), List.length_cons, Nat.add_mul]; omega
def kdS (x : Int) : List UInt8 := be 4 x.toNat
def cBy (c : Cfg) : Nat := c.2.1.toNat
def cFa (c : Cfg) : Nat := c.2.2.2.1.toNat
def cBu (c : Cfg) : Nat := c.2.2.2.2.1.toNat
def cLe (c : Cfg) : Nat := c.2.2.2.2.2.1.toNat
def cK (c : Cfg) : Nat := c.2.2.2.2.2.2.1.toNat
def cV (c : Cfg) : Nat := c.2.2.2.2.2.2.2.toNat
def hdO (n : Nd) : List UInt8 := 1 :: 0 :: (be 2 n.2.2.2.2.length ++ zs 4)
def hdI (n : Nd) : List UInt8 := 2 :: (be 1 n.1.toNat ++ (be 2 n.2.1.length ++ (be 2 n.2.2.2.1.length ++ zs 2)))
theorem Gr (n : Nd) : (hdO n).length = 8 := by simp [hdO, Zz, Yx]
theorem G6 (n : Nd) : (hdI n).length = 8 := by simp [hdI, Zz, Yx]
def bdO (c : Cfg) (n : Nd) : List UInt8 := cat (prS (cK c) (cV c)) n.2.2.2.2
def bdI (c : Cfg) (n : Nd) : List UInt8 := cat kdS n.2.1 ++ (zs (4 * (cFa c - n.2.1.length)) ++ (cat (pvS (cK c)) n.2.2.1 ++ (zs ((1 + cK c) * (cFa c - 1 - n.2.2.1.length)) ++ cat (msS (cK c) (cV c)) n.2.2.2.1)))
def X4 (c : Cfg) (n : Nd) : List UInt8 := if n.1 = 0 then hdO n ++ bdO c n else hdI n ++ bdI c n
def Xq (c : Cfg) (n : Nd) : List UInt8 := slt (X4 c n) (cBy c)
structure FitN (c : Cfg) (n : Nd) : Prop where
 lv : 0 ≤ n.1 ∧ n.1 ≤ 40
 kd : ∀ x ∈ n.2.1, 0 ≤ x ∧ x < 4294967296
 o : n.1 = 0 → n.2.1 = [] ∧ n.2.2.1 = [] ∧ n.2.2.2.1 = [] ∧ n.2.2.2.2.length ≤ cLe c
 i : n.1 ≠ 0 → n.2.2.2.2 = [] ∧ 1 ≤ n.2.1.length ∧ n.2.1.length ≤ cFa c ∧ n.2.2.1.length + 1 = n.2.1.length ∧ n.2.2.2.1.length ≤ cBu c
 pk : ∀ p ∈ n.2.2.1, p.length ≤ cK c
 ms : ∀ m ∈ n.2.2.2.1, m.1.length ≤ cK c ∧ m.2.2.length ≤ cV c
 rk : ∀ p ∈ n.2.2.2.2, p.1.length ≤ cK c ∧ p.2.length ≤ cV c
theorem OkC.nat {c : Cfg} (h : OkC c) : 8 ≤ cFa c ∧ cFa c ≤ 64 ∧ 1 ≤ cK c ∧ cK c ≤ 64 ∧ cV c ≤ 256 ∧ 16 ≤ cBu c ∧ cBu c ≤ 512 ∧ cBu c ≤ cLe c ∧ cLe c ≤ 1024 := by
 have h1 := h.fan
 have h2 := h.key
 have h3 := h.val
 have h4 := h.buf
 have h5 := h.leaf
 unfold cFa cK cV cBu cLe
 omega
theorem Zfm {c : Cfg} {n : Nd} (h : FitN c n) : (bdO c n).length = n.2.2.2.2.length * (3 + cK c + cV c) := Vo fun p hp => Xe (h.rk p hp).1 (h.rk p hp).2
theorem Zbq (l : List Int) : (cat kdS l).length = l.length * 4 := Vo fun p hp => Zz 4 _
theorem Zav {c : Cfg} {n : Nd} (h : FitN c n) : (cat (pvS (cK c)) n.2.2.1).length = n.2.2.1.length * (1 + cK c) := Vo fun p hp => Vn (h.pk p hp)
theorem Zem {c : Cfg} {n : Nd} (h : FitN c n) : (cat (msS (cK c) (cV c)) n.2.2.2.1).length = n.2.2.2.1.length * (4 + cK c + cV c) := Vo fun p hp => Zcr (h.ms p hp).1 (h.ms p hp).2
theorem Zfr {c : Cfg} {n : Nd} (h : FitN c n) (h0 : n.1 ≠ 0) : (bdI c n).length = 4 * cFa c + (1 + cK c) * (cFa c - 1) + n.2.2.2.1.length * (4 + cK c + cV c) := by
 obtain ⟨_, i2, i3, i4, _⟩ := h.i h0
 unfold bdI
 rw [List.length_append, List.length_append, List.length_append, List.length_append, Zbq, Yx, Zav h, Yx, Zem h, Nat.mul_comm n.2.2.1.length]
 have e : (1 + cK c) * n.2.2.1.length + (1 + cK c) * (cFa c - 1 - n.2.2.1.length) = (1 + cK c) * (cFa c - 1) := by rw [← Nat.mul_add]; congr 1; omega
 omega
def szB (c : Cfg) : Bool := decide (8 ≤ c.2.2.2.1 ∧ c.2.2.2.1 ≤ 64) && (decide (1 ≤ c.2.2.2.2.2.2.1 ∧ c.2.2.2.2.2.2.1 ≤ 64) && (decide (0 ≤ c.2.2.2.2.2.2.2 ∧ c.2.2.2.2.2.2.2 ≤ 256) && (decide (2 * c.2.2.2.1 ≤ c.2.2.2.2.1 ∧ c.2.2.2.2.1 ≤ 512) && decide (c.2.2.2.2.1 ≤ c.2.2.2.2.2.1 ∧ c.2.2.2.2.2.1 ≤ 1024))))
theorem Wz {c : Cfg} (h : szB c = true) : OkC c := by
 simp only [szB, Bool.and_eq_true, decide_eq_true_eq] at h
 exact ⟨h.1, h.2.1, h.2.2.1, by omega, h.2.2.2.2⟩
def X8 (c : Cfg) : Int := 8 + (4 + (c.2.2.2.1 - 1) * (5 + c.2.2.2.2.2.2.1) + c.2.2.2.2.1 * (4 + c.2.2.2.2.2.2.1 + c.2.2.2.2.2.2.2))
def W3 (c : Cfg) : Int := 8 + c.2.2.2.2.2.1 * (3 + c.2.2.2.2.2.2.1 + c.2.2.2.2.2.2.2)
def okB (c : Cfg) : Bool := szB c && (decide (5 ≤ c.1 ∧ c.1 ≤ 65536) && (decide (8 ≤ c.2.2.1 ∧ c.2.2.1 ≤ 64) && (decide (64 ≤ c.2.1 ∧ c.2.1 ≤ 65536) && (decide (X8 c ≤ c.2.1) && decide (W3 c ≤ c.2.1)))))
theorem Zdj (a b c : Int) : Q76.f a b c = some (decide (b ≤ a ∧ a ≤ c)) := by
 unfold Q76.f
 by_cases h : b ≤ a <;> simp [h]
theorem Uo (c : Cfg) : Q75.f c = some (szB c) := by
 unfold Q75.f szB
 simp only [Zdj, Option.bind_some]
 by_cases h1 : 8 ≤ c.2.2.2.1 ∧ c.2.2.2.1 ≤ 64
 ·have w : w64 (2 * c.2.2.2.1) = 2 * c.2.2.2.1 := Zv (by omega) (by omega)
  rw [w, decide_eq_true h1]
  cases decide (1 ≤ c.2.2.2.2.2.2.1 ∧ c.2.2.2.2.2.2.1 ≤ 64) <;> cases decide (0 ≤ c.2.2.2.2.2.2.2 ∧ c.2.2.2.2.2.2.2 ≤ 256) <;> cases decide (2 * c.2.2.2.1 ≤ c.2.2.2.2.1 ∧ c.2.2.2.2.1 ≤ 512) <;> rfl
 ·rw [decide_eq_false h1]; rfl
theorem Zb4 {c : Cfg} (hc : OkC c) : ∀ (m i k : Nat) (x : Int), c.2.2.2.2.1 = (i : Int) + m → m < k → 0 ≤ x → x + m * 324 ≤ 1000000000 → Q72.l1 k c x (i : Int) = some (x + m * (4 + c.2.2.2.2.2.2.1 + c.2.2.2.2.2.2.2))
 | 0, i, k + 1, x, h, _, _, _ => by
  rw [Q72.l1, if_neg (by simp only [decide_eq_true_eq]; omega)]; simp
 | m + 1, i, k + 1, x, h, hk, h0, h1 => by
  have a1 := hc.key
  have a2 := hc.val
  have hb := hc.buf
  rw [Q72.l1, if_pos (decide_eq_true (by omega)), Zv (x := x + 4) (by omega) (by omega), Zv (x := x + 4 + c.2.2.2.2.2.2.1) (by omega) (by omega), Zv (x := x + 4 + c.2.2.2.2.2.2.1 + c.2.2.2.2.2.2.2) (by omega) (by omega), Z3 (by omega), Zb4 hc m (i + 1) k _ (by omega) (by omega) (by omega) (by omega)]
  congr 1
  rw [show ((m + 1 : Nat) : Int) = (m : Int) + 1 by omega, Int.add_mul]; omega
theorem Zcf {c : Cfg} (hc : OkC c) : ∀ (m i k : Nat) (x : Int), 1 ≤ i → c.2.2.2.1 = (i : Int) + m → m + 600 < k → 0 ≤ x → x + m * 69 ≤ 100000 → Q72.l0 k c x (i : Int) = some (x + m * (5 + c.2.2.2.2.2.2.1) + c.2.2.2.2.1 * (4 + c.2.2.2.2.2.2.1 + c.2.2.2.2.2.2.2))
 | 0, i, k + 1, x, h2, h, hk, h0, h1 => by
  have hb := hc.buf
  obtain ⟨B, hB⟩ := Int.eq_ofNat_of_zero_le (show 0 ≤ c.2.2.2.2.1 by omega)
  rw [Q72.l0, if_neg (by simp only [decide_eq_true_eq]; omega), show Q72.l1 k c x 0 = _ from Zb4 hc B 0 k x (by rw [hB]; simp) (by omega) h0 (by omega), hB]; simp
 | m + 1, i, k + 1, x, h2, h, hk, h0, h1 => by
  have a1 := hc.key
  have hb := hc.fan
  rw [Q72.l0, if_pos (decide_eq_true (by omega)), if_pos (decide_eq_true (by omega)), Zv (x := x + 4) (by omega) (by omega), Zv (x := x + 4 + 1) (by omega) (by omega), Zv (x := x + 4 + 1 + c.2.2.2.2.2.2.1) (by omega) (by omega), Z3 (by omega), Zcf hc m (i + 1) k _ (by omega) (by omega) (by omega) (by omega) (by omega)]
  congr 1
  rw [show ((m + 1 : Nat) : Int) = (m : Int) + 1 by omega, Int.add_mul]; omega
theorem Zf7 {c : Cfg} (h : szB c = true) {k : Nat} (hk : 1000 < k) : Q72.f k c = some (X8 c) := by
 have hc := Wz h
 have hf := hc.fan
 obtain ⟨F, hF⟩ := Int.eq_ofNat_of_zero_le (show 0 ≤ c.2.2.2.1 by omega)
 obtain ⟨k, rfl⟩ : ∃ q, k = q + 1 := ⟨k - 1, by omega⟩
 unfold Q72.f
 rw [show Q75.f (c.1, c.2.1, c.2.2.1, c.2.2.2.1, c.2.2.2.2.1, c.2.2.2.2.2.1, c.2.2.2.2.2.2.1, c.2.2.2.2.2.2.2) = _ from Uo c, h, Option.bind_some, if_neg (by simp), Q72.l0, if_pos (decide_eq_true (by omega)), if_neg (by simp), show w64 (8 + 4) = 12 from rfl, show w64 (0 + 1) = ((1 : Nat) : Int) from rfl, Zcf hc (F - 1) 1 k 12 (Nat.le_refl _) (by omega) (by omega) (by omega) (by omega), show ((F - 1 : Nat) : Int) = c.2.2.2.1 - 1 by omega]
 unfold X8
 congr 1; omega
theorem Zca {c : Cfg} (hc : OkC c) : ∀ (m i k : Nat) (x : Int), c.2.2.2.2.2.1 = (i : Int) + m → m < k → 0 ≤ x → x + m * 324 ≤ 1000000000 → Q73.l0 k c x (i : Int) = some (x + m * (3 + c.2.2.2.2.2.2.1 + c.2.2.2.2.2.2.2))
 | 0, i, k + 1, x, h, _, _, _ => by
  rw [Q73.l0, if_neg (by simp only [decide_eq_true_eq]; omega)]; simp
 | m + 1, i, k + 1, x, h, hk, h0, h1 => by
  have a1 := hc.key
  have a2 := hc.val
  have hb := hc.leaf
  rw [Q73.l0, if_pos (decide_eq_true (by omega)), Zv (x := x + 3) (by omega) (by omega), Zv (x := x + 3 + c.2.2.2.2.2.2.1) (by omega) (by omega), Zv (x := x + 3 + c.2.2.2.2.2.2.1 + c.2.2.2.2.2.2.2) (by omega) (by omega), Z3 (by omega), Zca hc m (i + 1) k _ (by omega) (by omega) (by omega) (by omega)]
  congr 1
  rw [show ((m + 1 : Nat) : Int) = (m : Int) + 1 by omega, Int.add_mul]; omega
theorem Zf4 {c : Cfg} (h : szB c = true) {k : Nat} (hk : 2000 < k) : Q73.f k c = some (W3 c) := by
 have hc := Wz h
 have hf := hc.leaf
 have hb := hc.buf
 obtain ⟨L, hL⟩ := Int.eq_ofNat_of_zero_le (show 0 ≤ c.2.2.2.2.2.1 by omega)
 unfold Q73.f
 rw [show Q75.f (c.1, c.2.1, c.2.2.1, c.2.2.2.1, c.2.2.2.2.1, c.2.2.2.2.2.1, c.2.2.2.2.2.2.1, c.2.2.2.2.2.2.2) = _ from Uo c, h, Option.bind_some, if_neg (by simp), show Q73.l0 k c 8 0 = _ from Zca hc L 0 k 8 (by omega) (by omega) (by omega) (by omega), ← hL]
 rfl
theorem Bk (c : Cfg) {k : Nat} (hk : 2000 < k) : Q74.f k c = some (okB c) := by
 unfold Q74.f okB
 rw [show Q75.f (c.1, c.2.1, c.2.2.1, c.2.2.2.1, c.2.2.2.2.1, c.2.2.2.2.2.1, c.2.2.2.2.2.2.1, c.2.2.2.2.2.2.2) = _ from Uo c, Option.bind_some]
 cases h : szB c with
 | false => rfl
 | true =>
  rw [if_pos rfl, show Q72.f k (c.1, c.2.1, c.2.2.1, c.2.2.2.1, c.2.2.2.2.1, c.2.2.2.2.2.1, c.2.2.2.2.2.2.1, c.2.2.2.2.2.2.2) = _ from Zf7 h (by omega), show Q73.f k (c.1, c.2.1, c.2.2.1, c.2.2.2.1, c.2.2.2.2.1, c.2.2.2.2.2.1, c.2.2.2.2.2.2.1, c.2.2.2.2.2.2.2) = _ from Zf4 h hk]
  simp only [Zdj, Option.bind_some]
  cases decide (5 ≤ c.1 ∧ c.1 ≤ 65536) <;> cases decide (8 ≤ c.2.2.1 ∧ c.2.2.1 ≤ 64) <;> cases decide (64 ≤ c.2.1 ∧ c.2.1 ≤ 65536) <;> cases decide (X8 c ≤ c.2.1) <;> rfl
abbrev We : Sp := ([], [], true)
theorem J7 (c : Cfg) : Q21.f c = some (szB c) := by
 unfold Q21.f szB
 by_cases h1 : 8 ≤ c.2.2.2.1 ∧ c.2.2.2.1 ≤ 64
 ·have w : w64 (2 * c.2.2.2.1) = 2 * c.2.2.2.1 := Zv (by omega) (by omega)
  rw [w, if_neg (by simp only [decide_eq_true_eq]; omega), if_neg (by simp only [decide_eq_true_eq]; omega), decide_eq_true h1]
  by_cases h2 : 1 ≤ c.2.2.2.2.2.2.1 ∧ c.2.2.2.2.2.2.1 ≤ 64
  ·by_cases h3 : 0 ≤ c.2.2.2.2.2.2.2 ∧ c.2.2.2.2.2.2.2 ≤ 256
   ·by_cases h4 : 2 * c.2.2.2.1 ≤ c.2.2.2.2.1 ∧ c.2.2.2.2.1 ≤ 512
    ·by_cases h5 : c.2.2.2.2.1 ≤ c.2.2.2.2.2.1 ∧ c.2.2.2.2.2.1 ≤ 1024
     ·rw [if_neg (by simp only [decide_eq_true_eq]; omega), if_neg (by simp only [decide_eq_true_eq]; omega), if_neg (by simp only [decide_eq_true_eq]; omega), if_neg (by simp only [decide_eq_true_eq]; omega), if_neg (by simp only [decide_eq_true_eq]; omega), if_neg (by simp only [decide_eq_true_eq]; omega), if_neg (by simp only [decide_eq_true_eq]; omega), if_neg (by simp only [decide_eq_true_eq]; omega), decide_eq_true h2, decide_eq_true h3, decide_eq_true h4, decide_eq_true h5]
      rfl
     ·rw [if_neg (by simp only [decide_eq_true_eq]; omega), if_neg (by simp only [decide_eq_true_eq]; omega), decide_eq_false h5]
      simp only [Bool.and_false]
      by_cases q : c.2.2.2.2.2.1 < c.2.2.2.2.1
      ·rw [if_pos (decide_eq_true q)]
      ·rw [if_neg (by simpa using q), if_pos (decide_eq_true (by omega))]
    ·rw [decide_eq_false h4]
     simp only [Bool.false_and, Bool.and_false]
     by_cases q : c.2.2.2.2.1 < 2 * c.2.2.2.1
     ·rw [if_pos (decide_eq_true q)]
     ·rw [if_neg (by simpa using q), if_pos (decide_eq_true (by omega))]
   ·rw [decide_eq_false h3]
    simp only [Bool.false_and, Bool.and_false]
    repeat' split
    all_goals first | rfl | (simp only [decide_eq_true_eq] at *; omega)
  ·rw [decide_eq_false h2]
   simp only [Bool.false_and, Bool.and_false]
   repeat' split
   all_goals first | rfl | (simp only [decide_eq_true_eq] at *; omega)
 ·rw [decide_eq_false h1]
  simp only [Bool.false_and]
  by_cases q : c.2.2.2.1 < 8
  ·rw [if_pos (decide_eq_true q)]
  ·rw [if_neg (by simpa using q), if_pos (decide_eq_true (by omega))]
theorem Xr (c : Cfg) : (c.1, c.2.1, c.2.2.1, c.2.2.2.1, c.2.2.2.2.1, c.2.2.2.2.2.1, c.2.2.2.2.2.2.1, c.2.2.2.2.2.2.2) = c := rfl
theorem Zhg (n : Nd) : (n.1, n.2.1, n.2.2.1, n.2.2.2.1, n.2.2.2.2) = n := rfl
theorem Zhm {c : Cfg} (h : szB c = true) : Q18.f c = some (X8 c) ∧ 8 ≤ X8 c ∧ X8 c ≤ 200000 := by
 have hc := Wz h
 have a1 := hc.fan
 have a2 := hc.key
 have a3 := hc.val
 have a4 := hc.buf
 have p0 : 0 ≤ (c.2.2.2.1 - 1) * (1 + c.2.2.2.2.2.2.1) := Int.mul_nonneg (by omega) (by omega)
 have p1 : (c.2.2.2.1 - 1) * (1 + c.2.2.2.2.2.2.1) ≤ 63 * 65 := Int.mul_le_mul (by omega) (by omega) (by omega) (by omega)
 have q0 : 0 ≤ c.2.2.2.2.1 * (4 + c.2.2.2.2.2.2.1 + c.2.2.2.2.2.2.2) := Int.mul_nonneg (by omega) (by omega)
 have q1 : c.2.2.2.2.1 * (4 + c.2.2.2.2.2.2.1 + c.2.2.2.2.2.2.2) ≤ 512 * 324 := Int.mul_le_mul (by omega) (by omega) (by omega) (by omega)
 have e : X8 c = 8 + 4 * c.2.2.2.1 + (c.2.2.2.1 - 1) * (1 + c.2.2.2.2.2.2.1) + c.2.2.2.2.1 * (4 + c.2.2.2.2.2.2.1 + c.2.2.2.2.2.2.2) := by
  unfold X8
  rw [show 5 + c.2.2.2.2.2.2.1 = 4 + (1 + c.2.2.2.2.2.2.1) by omega, Int.mul_add]; omega
 refine ⟨?_, by omega, by omega⟩
 unfold Q18.f
 rw [Xr, J7, h, Option.bind_some, if_neg (by simp), Zv (x := 4 * c.2.2.2.1) (by omega) (by omega), Zv (x := 8 + 4 * c.2.2.2.1) (by omega) (by omega), Zv (x := c.2.2.2.1 - 1) (by omega) (by omega), Zv (x := 1 + c.2.2.2.2.2.2.1) (by omega) (by omega), Zv (x := 4 + c.2.2.2.2.2.2.1) (by omega) (by omega), Zv (x := 4 + c.2.2.2.2.2.2.1 + c.2.2.2.2.2.2.2) (by omega) (by omega),
  Zv (x := (c.2.2.2.1 - 1) * (1 + c.2.2.2.2.2.2.1)) (by omega) (by omega), Zv (x := c.2.2.2.2.1 * (4 + c.2.2.2.2.2.2.1 + c.2.2.2.2.2.2.2)) (by omega) (by omega), Zv (x := 8 + 4 * c.2.2.2.1 + (c.2.2.2.1 - 1) * (1 + c.2.2.2.2.2.2.1)) (by omega) (by omega), Zv (by omega) (by omega), e]
theorem Zhf {c : Cfg} (h : szB c = true) : Q20.f c = some (W3 c) ∧ 8 ≤ W3 c ∧ W3 c ≤ 400000 := by
 have hc := Wz h
 have a2 := hc.key
 have a3 := hc.val
 have a4 := hc.buf
 have a5 := hc.leaf
 have q0 : 0 ≤ c.2.2.2.2.2.1 * (3 + c.2.2.2.2.2.2.1 + c.2.2.2.2.2.2.2) := Int.mul_nonneg (by omega) (by omega)
 have q1 : c.2.2.2.2.2.1 * (3 + c.2.2.2.2.2.2.1 + c.2.2.2.2.2.2.2) ≤ 1024 * 323 := Int.mul_le_mul (by omega) (by omega) (by omega) (by omega)
 refine ⟨?_, by unfold W3; omega, by unfold W3; omega⟩
 unfold Q20.f W3
 rw [Xr, J7, h, Option.bind_some, if_neg (by simp), Zv (x := 3 + c.2.2.2.2.2.2.1) (by omega) (by omega), Zv (x := 3 + c.2.2.2.2.2.2.1 + c.2.2.2.2.2.2.2) (by omega) (by omega), Zv (x := c.2.2.2.2.2.1 * (3 + c.2.2.2.2.2.2.1 + c.2.2.2.2.2.2.2)) (by omega) (by omega), Zv (by omega) (by omega)]
theorem Zao (c : Cfg) : Q17.f c = some (if okB c = true then 0 else 2) := by
 unfold Q17.f okB
 rw [Xr, J7, Option.bind_some]
 cases h : szB c with
 | false => rfl
 | true =>
  obtain ⟨i1, i2, i3⟩ := Zhm h
  obtain ⟨o1, o2, o3⟩ := Zhf h
  rw [if_pos rfl]
  by_cases a1 : 5 ≤ c.1 ∧ c.1 ≤ 65536
  ·rw [if_pos (decide_eq_true a1.1), if_pos (decide_eq_true a1.2), decide_eq_true a1]
   by_cases a2 : 8 ≤ c.2.2.1 ∧ c.2.2.1 ≤ 64
   ·rw [if_pos (decide_eq_true a2.1), if_neg (by simp [a2.2]), decide_eq_true a2]
    by_cases a3 : 65536 < c.2.1
    ·rw [if_pos (decide_eq_true a3), decide_eq_false (show ¬ (64 ≤ c.2.1 ∧ c.2.1 ≤ 65536) by omega)]; rfl
    ·rw [if_neg (by simpa using a3)]
     unfold Q19.f
     rw [Xr, J7, h, Option.bind_some, if_pos rfl, i1, o1, Option.bind_some, Option.bind_some, Option.bind_some]
     dsimp only
     generalize X8 c = I at *
     generalize W3 c = O at *
     by_cases b1 : c.2.1 < 64
     ·rw [if_pos (decide_eq_true (by split <;> split <;> omega)), decide_eq_false (show ¬ (64 ≤ c.2.1 ∧ c.2.1 ≤ 65536) by omega)]; rfl
     ·rw [decide_eq_true (show 64 ≤ c.2.1 ∧ c.2.1 ≤ 65536 by omega)]
      by_cases b2 : I ≤ c.2.1
      ·rw [decide_eq_true b2]
       by_cases b3 : O ≤ c.2.1
       ·rw [decide_eq_true b3, if_neg (by simp only [decide_eq_true_eq]; split <;> split <;> omega)]; rfl
       ·rw [decide_eq_false b3, if_pos (decide_eq_true (by split <;> split <;> omega))]; rfl
      ·rw [decide_eq_false b2, if_pos (decide_eq_true (by split <;> split <;> omega))]; rfl
   ·rw [decide_eq_false a2]
    by_cases q : 8 ≤ c.2.2.1
    ·rw [if_pos (decide_eq_true q), if_pos (by simp; omega)]; rfl
    ·rw [if_neg (by simpa using q)]; rfl
  ·rw [decide_eq_false a1]
   by_cases q : 5 ≤ c.1
   ·rw [if_pos (decide_eq_true q), if_neg (by simp only [decide_eq_true_eq]; omega)]; rfl
   ·rw [if_neg (by simpa using q)]; rfl
theorem Yt (a b : List UInt8) : toB (a ++ b) = toB a ++ toB b := by simp [toB]
theorem Z1 (a : List UInt8) : (toB a).length = a.length := by simp [toB]
theorem J0 (n : Nat) : toB (zs n) = List.replicate n 0 := by simp [toB, zs]
theorem X1 (a : List UInt8) : toS (toB a) = a := by
 unfold toS toB
 rw [List.map_map]
 conv => rhs; rw [← List.map_id a]
 apply List.map_congr_left
 intro x _
 simp
theorem Zg5 (n : Nat) : IntKind.u64.wrap (n : Int) = ((n % 18446744073709551616 : Nat) : Int) := by
 simp [IntKind.wrap, IntKind.bits, IntKind.signed]
theorem Y6 {n : Nat} (h : n < 18446744073709551616) : IntKind.u64.wrap (n : Int) = (n : Int) := by rw [Zg5, Nat.mod_eq_of_lt h]
theorem Zg4 (v i : Nat) (hi : i < 8) : IntKind.u8.wrap (Int.fdiv (v : Int) (2 ^ (min (w64 (8 * (i : Int))).toNat 64))) = ((UInt8.ofNat (v / 256 ^ i)).toNat : Int) := by
 have e1 : w64 (8 * (i : Int)) = ((8 * i : Nat) : Int) := by rw [Zv (by omega) (by omega)]; omega
 rw [e1, Int.toNat_natCast, show min (8 * i) 64 = 8 * i by omega, Int.fdiv_eq_ediv_of_nonneg _ (by exact_mod_cast Nat.zero_le _)]
 have e2 : ((v : Int) / 2 ^ (8 * i)) = ((v / 256 ^ i : Nat) : Int) := by
  rw [show (256 : Nat) = 2 ^ 8 from rfl, ← Nat.pow_mul]
  push_cast
  rfl
 rw [e2]
 simp [IntKind.wrap, IntKind.bits, IntKind.signed]
theorem Zdk (v : Nat) : ∀ (i : Nat) (x : List Int) (k : Nat), i ≤ 8 → i < k → x.length + i ≤ 1000 → Q102.l0 k (v : Int) x ((i : Int) - 1) = some (x ++ toB (be i v))
 | 0, x, k + 1, _, _, _ => by
  rw [Q102.l0, if_neg (by simp)]
  simp [be, toB]
 | i + 1, x, k + 1, hi, hk, hx => by
  have e : ((i + 1 : Nat) : Int) - 1 = (i : Int) := by omega
  rw [e, Q102.l0, if_pos (decide_eq_true (by omega)), if_pos (by rw [Zv (by omega) (by omega)]; omega), if_pos (by simp only [List.length_singleton]; omega), Zg4 v i (by omega), Zv (x := (i : Int) - 1) (by omega) (by omega), Zdk v i _ k (by omega) (by omega) (by simp; omega)]
  simp [be, toB]
theorem Wb {a : List Int} {w v : Nat} (hw : w = 1 ∨ w = 2 ∨ w = 4) (ha : a.length ≤ 10000000) {k : Nat} (hk : 10 < k) : Q9.f k a (w : Int) (v : Int) = some (a ++ toB (be w v)) := by
 have h0 : Q102.f k ([] : List Int) (w : Int) (v : Int) = some (toB (be w v)) := by
  unfold Q102.f Q35.f Q111.f
  rw [if_pos (by simp), Option.bind_some]
  have hr : (if (decide ((w : Int) = 1)) = true then (some true) else (if (decide ((w : Int) = 2)) = true then (some true) else (if (decide ((w : Int) = 4)) = true then (some true) else (some (decide ((w : Int) = 8)))))) = some true := by
   rcases hw with rfl | rfl | rfl <;> rfl
  rw [hr, Option.bind_some, if_neg (by simp), Zv (by omega) (by omega)]
  have := Zdk v w ([] ++ []) k (by omega) (by omega) (by simp; omega)
  simpa using this
 unfold Q9.f
 rw [h0, Option.bind_some, if_pos (by rw [Z1, Zz]; omega)]
theorem Zai {a : List Int} {s : List UInt8} {n : Nat} (ha : a.length ≤ 10000000) (hs : s.length ≤ n) (hn : n ≤ 100000) : Q14.f a s (n : Int) = some (a ++ toB (slt s n)) := by
 have e : w64 ((n : Int) - (s.length : Int)) = ((n - s.length : Nat) : Int) := by rw [Zv (by omega) (by omega)]; omega
 unfold Q14.f
 rw [if_pos (by omega), e, if_pos (by rw [List.length_append, Z1]; omega), Int.toNat_natCast]
 unfold slt
 rw [Yt, J0, List.append_assoc]
structure NatC (c : Cfg) : Prop where
 f : c.2.2.2.1 = (cFa c : Int)
 k : c.2.2.2.2.2.2.1 = (cK c : Int)
 v : c.2.2.2.2.2.2.2 = (cV c : Int)
 b : c.2.2.2.2.1 = (cBu c : Int)
 l : c.2.2.2.2.2.1 = (cLe c : Int)
theorem OkC.int {c : Cfg} (h : OkC c) : NatC c := by
 have h1 := h.fan
 have h2 := h.key
 have h3 := h.val
 have h4 := h.buf
 have h5 := h.leaf
 constructor <;> simp only [cFa, cK, cV, cBu, cLe] <;> omega
theorem Zc6 {c : Cfg} (hc : OkC c) {a : List Int} {x y : List UInt8} (ha : a.length ≤ 9000000) (hx : x.length ≤ cK c) (hy : y.length ≤ cV c) {k : Nat} (hk : 10 < k) : Q10.f k c a x y = some (a ++ toB (prS (cK c) (cV c) (x, y))) := by
 obtain ⟨c1, c2, c3, c4, c5, c6, c7, c8, c9⟩ := hc.nat
 unfold Q10.f
 rw [Y6 (by omega), Y6 (by omega), show Q9.f k a 1 (x.length : Int) = _ from Wb (w := 1) (.inl rfl) (by omega) hk, Option.bind_some, show Q9.f k (a ++ toB (be 1 x.length)) 2 (y.length : Int) = _ from Wb (w := 2) (.inr (.inl rfl)) (by rw [List.length_append, Z1, Zz]; omega) hk, Option.bind_some,
  hc.int.k, Zai (by rw [List.length_append, List.length_append, Z1, Z1, Zz, Zz]; omega) hx (by omega), Option.bind_some, hc.int.v, Zai (by rw [List.length_append, List.length_append, List.length_append, Z1, Z1, Z1, Zz, Zz, Y4 hx]; omega) hy (by omega), Option.bind_some]
 unfold prS
 simp only [Yt, List.append_assoc]
theorem Zd7 {a b d e : Nat} (ha : a < 256) (hb : b < 256) (hd : d < 65536) (he : e < 65536) {k : Nat} (hk : 10 < k) : Q8.f k (a : Int) (b : Int) (d : Int) (e : Int) = some (toB (be 1 a ++ (be 1 b ++ (be 2 d ++ (be 2 e ++ zs 2))))) := by
 unfold Q8.f
 rw [Y6 (by omega), Y6 (by omega), Y6 (by omega), Y6 (by omega), show Q9.f k ([] : List Int) 1 (a : Int) = _ from Wb (w := 1) (.inl rfl) (by simp) hk, Option.bind_some, show Q9.f k _ 1 (b : Int) = _ from Wb (w := 1) (.inl rfl) (by simp [Z1, Zz]) hk, Option.bind_some,
  show Q9.f k _ 2 (d : Int) = _ from Wb (w := 2) (.inr (.inl rfl)) (by simp [Z1, Zz]) hk, Option.bind_some, show Q9.f k _ 2 (e : Int) = _ from Wb (w := 2) (.inr (.inl rfl)) (by simp [Z1, Zz]) hk, Option.bind_some, show Q9.f k _ 2 0 = _ from Wb (w := 2) (v := 0) (.inr (.inl rfl)) (by simp [Z1, Zz]) hk, Option.bind_some]
 have z : be 2 0 = zs 2 := by decide
 rw [z]
 simp only [Yt, List.append_assoc, List.nil_append]
theorem Xs {α : Type} (f : α → List UInt8) (x : α) (l : List α) : cat f (x :: l) = f x ++ cat f l := by unfold cat; rw [List.flatMap_cons]
theorem Bs {c : Cfg} {n : Nd} (hc : OkC c) (hr : ∀ p ∈ n.2.2.2.2, p.1.length ≤ cK c ∧ p.2.length ≤ cV c) (hl : n.2.2.2.2.length ≤ 2000) : ∀ (m i k : Nat) (x : List Int), n.2.2.2.2.length = i + m → m + 20 < k → x.length + m * 400 ≤ 9000000 → Q16.l0 k c n x (i : Int) = some (x ++ toB (cat (prS (cK c) (cV c)) (n.2.2.2.2.drop i)))
 | 0, i, k + 1, x, h, hk, hx => by
  rw [Q16.l0, if_neg (by simp only [decide_eq_true_eq]; omega), List.drop_eq_nil_of_le (by omega)]
  simp [cat, toB]
 | m + 1, i, k + 1, x, h, hk, hx => by
  obtain ⟨c1, c2, c3, c4, c5, c6, c7, c8, c9⟩ := hc.nat
  have hi : i < n.2.2.2.2.length := by omega
  have hp := hr _ (Yq (d := default) hi)
  rw [Q16.l0, if_pos (decide_eq_true (by omega)), if_pos (by omega), Ya, Xr, Zc6 hc (by omega) hp.1 hp.2 (by omega), Option.bind_some, Z3 (by omega), Bs hc hr hl m (i + 1) k _ (by omega) (by omega) (by rw [List.length_append, Z1, Xe hp.1 hp.2]; omega), Z5 hi, Xs, Yt, List.append_assoc]
theorem Zfv {c : Cfg} {n : Nd} (hc : OkC c) (hr : ∀ p ∈ n.2.2.2.2, p.1.length ≤ cK c ∧ p.2.length ≤ cV c) (hl : n.2.2.2.2.length ≤ 2000) {k : Nat} (hk : 3000 < k) : Q16.f k c n = some (toB (hdO n ++ bdO c n)) := by
 have e : be 1 1 ++ (be 1 0 ++ (be 2 n.2.2.2.2.length ++ (be 2 0 ++ zs 2))) = hdO n := by
  unfold hdO
  rw [show be 2 0 = zs 2 by decide, Wm]; rfl
 unfold Q16.f
 rw [show Q8.f k 1 0 (n.2.2.2.2.length : Int) 0 = _ from Zd7 (a := 1) (b := 0) (e := 0) (by omega) (by omega) (by omega) (by omega) (by omega), Option.bind_some, e, show Q16.l0 k c n (toB (hdO n)) 0 = _ from Bs hc hr hl n.2.2.2.2.length 0 k _ (by omega) (by omega) (by rw [Z1, Gr]; omega), List.drop_zero, ← Yt]
 rfl
theorem Us {c : Cfg} {n : Nd} (hc : OkC c) (hr : ∀ m ∈ n.2.2.2.1, m.1.length ≤ cK c ∧ m.2.2.length ≤ cV c) (hl : n.2.2.2.1.length ≤ 2000) : ∀ (m i k : Nat) (x : List Int), n.2.2.2.1.length = i + m → m + 20 < k → x.length + m * 400 ≤ 8000000 → Q15.l2 k c n x (i : Int) = some (x ++ toB (cat (msS (cK c) (cV c)) (n.2.2.2.1.drop i)))
 | 0, i, k + 1, x, h, hk, hx => by
  rw [Q15.l2, if_neg (by simp only [decide_eq_true_eq]; omega), List.drop_eq_nil_of_le (by omega)]
  simp [cat, toB]
 | m + 1, i, k + 1, x, h, hk, hx => by
  obtain ⟨c1, c2, c3, c4, c5, c6, c7, c8, c9⟩ := hc.nat
  have hi : i < n.2.2.2.1.length := by omega
  have hp := hr _ (Yq (d := default) hi)
  rw [Q15.l2, if_pos (decide_eq_true (by omega)), if_pos (by omega), Ya, Xr, show Q9.f k x 1 2 = _ from Wb (w := 1) (v := 2) (.inl rfl) (by omega) (by omega), show Q9.f k x 1 1 = _ from Wb (w := 1) (v := 1) (.inl rfl) (by omega) (by omega), Option.bind_some, Option.bind_some,
   Zc6 hc (by rw [List.length_append, Z1, Zz]; omega) hp.1 hp.2 (by omega), Zc6 hc (by rw [List.length_append, Z1, Zz]; omega) hp.1 hp.2 (by omega), Option.bind_some, Option.bind_some, Z3 (by omega),
   Us hc hr hl m (i + 1) k _ (by omega) (by omega) (by rw [List.length_append, List.length_append, Z1, Z1, Zz, Xe hp.1 hp.2]; omega), Us hc hr hl m (i + 1) k _ (by omega) (by omega) (by rw [List.length_append, List.length_append, Z1, Z1, Zz, Xe hp.1 hp.2]; omega), Z5 hi, Xs]
  unfold msS
  cases (n.2.2.2.1.getD i default).2.1
  ·rw [if_neg (by simp), if_neg (by simp), show be 1 1 = [1] by decide, Yt, List.append_assoc, List.append_assoc]; rfl
  ·rw [if_pos rfl, if_pos rfl, show be 1 2 = [2] by decide, Yt, List.append_assoc, List.append_assoc]; rfl
theorem Zga (K : Nat) : pvS K [] = zs (1 + K) := by
 unfold pvS slt
 rw [show be 1 ([] : List UInt8).length = zs 1 by decide, List.nil_append, Wm]; rfl
theorem Gb {c : Cfg} {n : Nd} (hc : OkC c) (hr : ∀ m ∈ n.2.2.2.1, m.1.length ≤ cK c ∧ m.2.2.length ≤ cV c) (hl : n.2.2.2.1.length ≤ 2000) : ∀ (m i k : Nat) (x : List Int), cFa c - 1 = i + m → n.2.2.1.length ≤ i → m + 2100 < k → x.length + m * 400 ≤ 7000000 → Q15.l1 k c n x (i : Int) = some (x ++ toB (zs ((1 + cK c) * m) ++ cat (msS (cK c) (cV c)) n.2.2.2.1))
 | 0, i, k + 1, x, h, hz, hk, hx => by
  replace hx : x.length ≤ 7000000 := by simpa using hx
  obtain ⟨c1, c2, c3, c4, c5, c6, c7, c8, c9⟩ := hc.nat
  have e : w64 (c.2.2.2.1 - 1) = ((cFa c - 1 : Nat) : Int) := by rw [hc.int.f, Zv (by omega) (by omega)]; omega
  rw [Q15.l1, e, if_neg (by simp only [decide_eq_true_eq]; omega), show Q15.l2 k c n x 0 = _ from Us hc hr hl n.2.2.2.1.length 0 k x (by omega) (by omega) (by omega), List.drop_zero]
  simp [zs]
 | m + 1, i, k + 1, x, h, hz, hk, hx => by
  obtain ⟨c1, c2, c3, c4, c5, c6, c7, c8, c9⟩ := hc.nat
  have e : w64 (c.2.2.2.1 - 1) = ((cFa c - 1 : Nat) : Int) := by rw [hc.int.f, Zv (by omega) (by omega)]; omega
  have hp : (pvS (cK c) []).length = 1 + cK c := Vn (Nat.zero_le _)
  rw [Q15.l1, e, if_pos (decide_eq_true (by omega)), if_neg (by simp only [decide_eq_true_eq]; omega), show IntKind.u64.wrap ((([] : List UInt8).length : Nat) : Int) = ((0 : Nat) : Int) from rfl, show Q9.f k x 1 ((0 : Nat) : Int) = _ from Wb (w := 1) (.inl rfl) (by omega) (by omega), Option.bind_some, hc.int.k, Zai (by rw [List.length_append, Z1, Zz]; omega) (Nat.zero_le _) (by omega), Option.bind_some, Z3 (by omega)]
  have e2 : (x ++ toB (be 1 0)) ++ toB (slt [] (cK c)) = x ++ toB (zs (1 + cK c)) := by
   rw [List.append_assoc, ← Yt, ← Zga]; rfl
  rw [e2, Gb hc hr hl m (i + 1) k _ (by omega) (by omega) (by omega) (by rw [List.length_append, Z1, Yx]; omega), List.append_assoc, ← Yt, ← List.append_assoc (zs (1 + cK c)), Wm, show 1 + cK c + (1 + cK c) * m = (1 + cK c) * (m + 1) by rw [Nat.mul_add]; omega]
theorem Bq {c : Cfg} {n : Nd} (hc : OkC c) (hp : ∀ p ∈ n.2.2.1, p.length ≤ cK c) (hpl : n.2.2.1.length ≤ cFa c - 1) (hr : ∀ m ∈ n.2.2.2.1, m.1.length ≤ cK c ∧ m.2.2.length ≤ cV c) (hl : n.2.2.2.1.length ≤ 2000) : ∀ (m i k : Nat) (x : List Int), n.2.2.1.length = i + m → m + 2300 < k → x.length + m * 400 ≤ 6000000 → Q15.l1 k c n x (i : Int) = some (x ++ toB (cat (pvS (cK c)) (n.2.2.1.drop i) ++ (zs ((1 + cK c) * (cFa c - 1 - n.2.2.1.length)) ++ cat (msS (cK c) (cV c)) n.2.2.2.1)))
 | 0, i, k, x, h, hk, hx => by
  replace hx : x.length ≤ 6000000 := by simpa using hx
  obtain ⟨c1, c2, c3, c4, c5, c6, c7, c8, c9⟩ := hc.nat
  rw [Gb hc hr hl (cFa c - 1 - n.2.2.1.length) i k x (by omega) (by omega) (by omega) (by omega), List.drop_eq_nil_of_le (by omega)]
  simp [cat]
 | m + 1, i, k + 1, x, h, hk, hx => by
  obtain ⟨c1, c2, c3, c4, c5, c6, c7, c8, c9⟩ := hc.nat
  have hi : i < n.2.2.1.length := by omega
  have hpi := hp _ (Yq (d := default) hi)
  have e : w64 (c.2.2.2.1 - 1) = ((cFa c - 1 : Nat) : Int) := by rw [hc.int.f, Zv (by omega) (by omega)]; omega
  rw [Q15.l1, e, if_pos (decide_eq_true (by omega)), if_pos (decide_eq_true (by omega)), if_pos (by omega), Ya, Y6 (by omega), show Q9.f k x 1 (((n.2.2.1.getD i default).length : Nat) : Int) = _ from Wb (w := 1) (.inl rfl) (by omega) (by omega), Option.bind_some, hc.int.k, Zai (by rw [List.length_append, Z1, Zz]; omega) hpi (by omega), Option.bind_some, Z3 (by omega)]
  have e2 : (x ++ toB (be 1 (n.2.2.1.getD i default).length)) ++ toB (slt (n.2.2.1.getD i default) (cK c)) = x ++ toB (pvS (cK c) (n.2.2.1.getD i default)) := by
   rw [List.append_assoc, ← Yt]; rfl
  rw [e2, Bq hc hp hpl hr hl m (i + 1) k _ (by omega) (by omega) (by rw [List.length_append, Z1, Vn hpi]; omega), List.append_assoc, ← Yt, Z5 hi, Xs, List.append_assoc]
def J3 (c : Cfg) (n : Nd) : List UInt8 := cat (pvS (cK c)) n.2.2.1 ++ (zs ((1 + cK c) * (cFa c - 1 - n.2.2.1.length)) ++ cat (msS (cK c) (cV c)) n.2.2.2.1)
theorem J2 {c : Cfg} {n : Nd} (hc : OkC c) (hp : ∀ p ∈ n.2.2.1, p.length ≤ cK c) (hpl : n.2.2.1.length ≤ cFa c - 1) (hr : ∀ m ∈ n.2.2.2.1, m.1.length ≤ cK c ∧ m.2.2.length ≤ cV c) (hl : n.2.2.2.1.length ≤ 2000) : ∀ (m i k : Nat) (x : List Int), cFa c = i + m → n.2.1.length ≤ i → m + 2500 < k → x.length + m * 400 ≤ 5000000 → Q15.l0 k c n x (i : Int) = some (x ++ toB (zs (4 * m) ++ J3 c n))
 | 0, i, k + 1, x, h, hz, hk, hx => by
  replace hx : x.length ≤ 5000000 := by simpa using hx
  obtain ⟨c1, c2, c3, c4, c5, c6, c7, c8, c9⟩ := hc.nat
  rw [Q15.l0, hc.int.f, if_neg (by simp only [decide_eq_true_eq]; omega), show Q15.l1 k c n x 0 = _ from Bq hc hp hpl hr hl n.2.2.1.length 0 k x (by omega) (by omega) (by omega), List.drop_zero]
  simp [zs, J3]
 | m + 1, i, k + 1, x, h, hz, hk, hx => by
  obtain ⟨c1, c2, c3, c4, c5, c6, c7, c8, c9⟩ := hc.nat
  rw [Q15.l0, hc.int.f, if_pos (decide_eq_true (by omega)), if_neg (by simp only [decide_eq_true_eq]; omega), show Q9.f k x 4 0 = _ from Wb (w := 4) (v := 0) (.inr (.inr rfl)) (by omega) (by omega), Option.bind_some, Z3 (by omega), show be 4 0 = zs 4 by decide,
   J2 hc hp hpl hr hl m (i + 1) k _ (by omega) (by omega) (by omega) (by rw [List.length_append, Z1, Yx]; omega), List.append_assoc, ← Yt, ← List.append_assoc (zs 4), Wm, show 4 + 4 * m = 4 * (m + 1) by omega]
theorem Bl {c : Cfg} {n : Nd} (hc : OkC c) (hkd : ∀ x ∈ n.2.1, 0 ≤ x ∧ x < 4294967296) (hkl : n.2.1.length ≤ cFa c) (hp : ∀ p ∈ n.2.2.1, p.length ≤ cK c) (hpl : n.2.2.1.length ≤ cFa c - 1) (hr : ∀ m ∈ n.2.2.2.1, m.1.length ≤ cK c ∧ m.2.2.length ≤ cV c) (hl : n.2.2.2.1.length ≤ 2000) : ∀ (m i k : Nat) (x : List Int), n.2.1.length = i + m → m + 2700 < k → x.length + m * 400 ≤ 4000000 → Q15.l0 k c n x (i : Int) = some (x ++ toB (cat kdS (n.2.1.drop i) ++ (zs (4 * (cFa c - n.2.1.length)) ++ J3 c n)))
 | 0, i, k, x, h, hk, hx => by
  replace hx : x.length ≤ 4000000 := by simpa using hx
  obtain ⟨c1, c2, c3, c4, c5, c6, c7, c8, c9⟩ := hc.nat
  rw [J2 hc hp hpl hr hl (cFa c - n.2.1.length) i k x (by omega) (by omega) (by omega) (by omega), List.drop_eq_nil_of_le (by omega)]
  simp [cat]
 | m + 1, i, k + 1, x, h, hk, hx => by
  obtain ⟨c1, c2, c3, c4, c5, c6, c7, c8, c9⟩ := hc.nat
  have hi : i < n.2.1.length := by omega
  have hki := hkd _ (Yq (d := default) hi)
  obtain ⟨q, hq⟩ := Int.eq_ofNat_of_zero_le hki.1
  rw [Q15.l0, hc.int.f, if_pos (decide_eq_true (by omega)), if_pos (decide_eq_true (by omega)), if_pos (by omega), Ya, hq, Y6 (by omega), show Q9.f k x 4 (q : Int) = _ from Wb (w := 4) (.inr (.inr rfl)) (by omega) (by omega), Option.bind_some, Z3 (by omega)]
  have e2 : be 4 q = kdS (n.2.1.getD i default) := by unfold kdS; rw [hq]; rfl
  rw [e2, Bl hc hkd hkl hp hpl hr hl m (i + 1) k _ (by omega) (by omega) (by rw [List.length_append, Z1, show (kdS (n.2.1.getD i default)).length = 4 from Zz _ _]; omega), List.append_assoc, ← Yt, Z5 hi, Xs, List.append_assoc]
theorem Zf6 {c : Cfg} {n : Nd} (hc : OkC c) (hn : FitN c n) (h0 : n.1 ≠ 0) {k : Nat} (hk : 3000 < k) : Q15.f k c n = some (toB (hdI n ++ bdI c n)) := by
 obtain ⟨c1, c2, c3, c4, c5, c6, c7, c8, c9⟩ := hc.nat
 obtain ⟨a1, a2, a3, a4, a5⟩ := hn.i h0
 have hlv := hn.lv
 obtain ⟨lv, hl⟩ := Int.eq_ofNat_of_zero_le hlv.1
 have e : be 1 2 ++ (be 1 lv ++ (be 2 n.2.1.length ++ (be 2 n.2.2.2.1.length ++ zs 2))) = hdI n := by
  unfold hdI
  rw [hl, Int.toNat_natCast]; rfl
 unfold Q15.f
 rw [hl, show Q8.f k 2 (lv : Int) (n.2.1.length : Int) (n.2.2.2.1.length : Int) = _ from Zd7 (a := 2) (by omega) (by omega) (by omega) (by omega) (by omega), Option.bind_some, e, show Q15.l0 k c n (toB (hdI n)) 0 = _ from Bl hc hn.kd (by omega) hn.pk (by omega) hn.ms (by omega) n.2.1.length 0 k _ (by omega) (by omega) (by rw [Z1, G6]; omega), List.drop_zero, ← Yt]
 rfl
theorem Ux {c : Cfg} {n : Nd} (hok : okB c = true) (hn : FitN c n) : (X4 c n).length ≤ cBy c ∧ cBy c ≤ 65536 ∧ c.2.1 = (cBy c : Int) := by
 simp only [okB, Bool.and_eq_true, decide_eq_true_eq] at hok
 obtain ⟨h1, h2, h3, h4, h5, h6⟩ := hok
 have hc := Wz h1
 obtain ⟨c1, c2, c3, c4, c5, c6, c7, c8, c9⟩ := hc.nat
 have hi := hc.int
 have hB : c.2.1 = (cBy c : Int) := by unfold cBy; omega
 refine ⟨?_, by omega, hB⟩
 unfold X4
 by_cases h0 : n.1 = 0
 ·rw [if_pos h0, List.length_append, Gr, Zfm hn]
  have hl := (hn.o h0).2.2.2
  have hm : n.2.2.2.2.length * (3 + cK c + cV c) ≤ cLe c * (3 + cK c + cV c) := Nat.mul_le_mul_right _ hl
  have : W3 c = ((8 + cLe c * (3 + cK c + cV c) : Nat) : Int) := by
   unfold W3
   rw [hi.l, hi.k, hi.v]
   push_cast
   rfl
  omega
 ·rw [if_neg h0, List.length_append, G6, Zfr hn h0]
  have hl := (hn.i h0).2.2.2.2
  have hm : n.2.2.2.1.length * (4 + cK c + cV c) ≤ cBu c * (4 + cK c + cV c) := Nat.mul_le_mul_right _ hl
  have : X8 c = ((8 + (4 + (cFa c - 1) * (5 + cK c) + cBu c * (4 + cK c + cV c)) : Nat) : Int) := by
   unfold X8
   rw [hi.f, hi.b, hi.k, hi.v]
   have : ((cFa c : Int) - 1) = ((cFa c - 1 : Nat) : Int) := by omega
   rw [this]
   push_cast
   rfl
  have e2 : (cFa c - 1) * (5 + cK c) = 4 * (cFa c - 1) + (1 + cK c) * (cFa c - 1) := by
   rw [show 5 + cK c = 4 + (1 + cK c) by omega, Nat.mul_add, Nat.mul_comm _ 4, Nat.mul_comm (cFa c - 1) (1 + cK c)]
  omega
theorem Wo {c : Cfg} {n : Nd} (hc : OkC c) (hkd : ∀ x ∈ n.2.1, 0 ≤ x ∧ x < 4294967296) (h : Y9 c We n = true) : FitN c n := by
 have hi := hc.int
 unfold Y9 at h
 by_cases h0 : n.1 = 0
 ·rw [if_pos h0] at h
  simp only [Uf, prB, Y2, Bool.and_eq_true, decide_eq_true_eq, List.all_eq_true] at h
  obtain ⟨a1, a2, a3, a4, a5, a6⟩ := h
  refine ⟨by omega, hkd, fun _ => ⟨a2, a3, a4, by have := hi.l; omega⟩, fun z => absurd h0 z, fun p hp => by rw [a3] at hp; simp at hp, fun p hp => by rw [a4] at hp; simp at hp, fun p hp => ?_⟩
  have := a1 p hp
  have hk := hi.k
  have hv := hi.v
  exact ⟨by omega, by omega⟩
 ·rw [if_neg h0] at h
  simp only [Ub, U3, U2, Vi, Y2, Bool.and_eq_true, decide_eq_true_eq, List.all_eq_true] at h
  obtain ⟨b0, b1, b2, b3, b4, b5, b6, b7, b8, b9, b10, b11⟩ := h
  have hk := hi.k
  have hv := hi.v
  have hf := hi.f
  have hb := hi.b
  exact ⟨by omega, hkd, fun z => absurd z h0, fun _ => ⟨b5, b6, by omega, by omega, by omega⟩, fun p hp => by have := b2 p hp; omega, fun p hp => by have := b3 p hp; omega, fun p hp => by rw [b5] at hp; simp at hp⟩
def G7 (c : Cfg) (n : Nd) : List Int × Int := if okB c = true then (if Y9 c We n = true then (toB (Xq c n), 0) else ([], 3)) else ([], 2)
theorem Xl {c : Cfg} (h : okB c = true) : OkC c := by
 simp only [okB, Bool.and_eq_true] at h
 exact Wz h.1
theorem Zgq {c : Cfg} {n : Nd} (h1 : n.2.1.length ≤ 80) (h2 : n.2.2.1.length ≤ 80) (h3 : n.2.2.2.1.length ≤ 2000) (h4 : n.2.2.2.2.length ≤ 2000) (hl : ∀ x ∈ n.2.1, 0 ≤ x ∧ x < 4294967296) : Ev (fun k => Q7.f k c n) (G7 c n) := by
 have hbig : Ev (fun k => if 10000 < k then some () else none) () := ⟨10001, fun k hk => if_pos (by omega)⟩
 refine (Zcy (c := c) (s := We) h1 h2 (by omega) (by omega) hl).next2 hbig fun k k1 k2 => ?_
 have k2 : 10000 < k := by
  by_cases z : 10000 < k
  ·exact z
  ·rw [if_neg z] at k2; cases k2
 unfold Q7.f G7
 rw [Xr, Zhg, Zao, Option.bind_some]
 cases hok : okB c with
 | false => rfl
 | true =>
  have hc := Xl hok
  rw [if_pos rfl, if_neg (by simp), if_pos rfl, Q24.f, Option.bind_some, show Q28.f k c (([] : List UInt8), ([] : List UInt8), true) n = _ from k1, Option.bind_some]
  cases hr : Y9 c We n with
  | false => rfl
  | true =>
   have hn := Wo hc hl hr
   obtain ⟨r1, r2, r3⟩ := Ux hok hn
   rw [if_neg (by simp), if_pos rfl]
   by_cases h0 : n.1 = 0
   ·have er : X4 c n = hdO n ++ bdO c n := if_pos h0
    have e : w64 ((cBy c : Int) - ((hdO n ++ bdO c n).length : Int)) = ((cBy c - (X4 c n).length : Nat) : Int) := by rw [← er, Zv (by omega) (by omega)]; omega
    rw [if_neg (by simp only [decide_eq_true_eq]; omega), Zfv hc hn.rk h4 (by omega), Option.bind_some, Z1, r3, e, if_pos (by rw [← er]; omega), Int.toNat_natCast, ← J0, ← Yt]
    unfold Xq slt
    rw [er]
   ·have hlv := hn.lv
    have er : X4 c n = hdI n ++ bdI c n := if_neg h0
    have e : w64 ((cBy c : Int) - ((hdI n ++ bdI c n).length : Int)) = ((cBy c - (X4 c n).length : Nat) : Int) := by rw [← er, Zv (by omega) (by omega)]; omega
    rw [if_pos (decide_eq_true (by omega)), Zf6 hc hn h0 (by omega), Option.bind_some, Z1, r3, e, if_pos (by rw [← er]; omega), Int.toNat_natCast, ← J0, ← Yt]
    unfold Xq slt
    rw [er]
theorem Bf (v w : Nat) : ∀ (m i k : Nat), w = i + m → w ≤ 8 → m < k → v < 18446744073709551616 → Q70.l0 k (w : Int) ((v / 256 ^ i : Nat) : Int) (toB (be i v)) (i : Int) = some (toB (be w v))
 | 0, i, k + 1, h, hw, hk, hv => by
  rw [Q70.l0, if_neg (by simp only [decide_eq_true_eq]; omega), show w = i by omega]
 | m + 1, i, k + 1, h, hw, hk, hv => by
  have hd : v / 256 ^ i ≤ v := Nat.div_le_self _ _
  have e1 : IntKind.u8.wrap (Int.tmod ((v / 256 ^ i : Nat) : Int) 256) = ((UInt8.ofNat (v / 256 ^ i)).toNat : Int) := by
   rw [show Int.tmod ((v / 256 ^ i : Nat) : Int) 256 = ((v / 256 ^ i % 256 : Nat) : Int) from rfl]
   simp [IntKind.wrap, IntKind.bits, IntKind.signed]
  have e2 : IntKind.u64.wrap (Int.tdiv ((v / 256 ^ i : Nat) : Int) 256) = ((v / 256 ^ (i + 1) : Nat) : Int) := by
   rw [show Int.tdiv ((v / 256 ^ i : Nat) : Int) 256 = ((v / 256 ^ i / 256 : Nat) : Int) from rfl, Y6 (by omega), Nat.div_div_eq_div_mul, Nat.pow_succ]
  rw [Q70.l0, if_pos (decide_eq_true (by omega)), if_pos (by rw [Z1, Zz]; simp only [List.length_singleton]; omega), e1, e2, Z3 (by omega)]
  exact Bf v w m (i + 1) k (by omega) hw (by omega) hv
theorem Zdv {w v : Nat} (hw : w = 1 ∨ w = 2 ∨ w = 4) (hv : v < 18446744073709551616) {k : Nat} (hk : 10 < k) : Q70.f k (w : Int) (v : Int) = some (toB (be w v)) := by
 unfold Q70.f Q71.f
 have hr : (if (decide ((w : Int) = 1)) = true then (some true) else (if (decide ((w : Int) = 2)) = true then (some true) else (if (decide ((w : Int) = 4)) = true then (some true) else (some (decide ((w : Int) = 8)))))) = some true := by
  rcases hw with rfl | rfl | rfl <;> rfl
 rw [hr, Option.bind_some, if_neg (by simp)]
 have := Bf v w w 0 k (by omega) (by omega) (by omega) hv
 rw [Nat.pow_zero, Nat.div_one] at this
 exact this
theorem Jh {w v : Nat} (hw : w = 1 ∨ w = 2 ∨ w = 4) (hv : v < 18446744073709551616) {k : Nat} (hk : 10 < k) : Q96.f k (w : Int) (v : Int) = some (be w v) := by
 unfold Q96.f
 rw [Y6 hv, Zdv hw hv hk, Option.bind_some, X1]
theorem Ui {n : Nat} (hn : n ≤ 1000000) : Q93.f (n : Int) = some (zs n) := by
 unfold Q93.f
 rw [if_pos (by omega), Int.toNat_natCast, ← J0, X1]
theorem Gj {s : List UInt8} {n : Nat} (hs : s.length ≤ n) (hn : n ≤ 1000000) : Q98.f s (n : Int) = some (slt s n) := by
 have e : w64 ((n : Int) - (s.length : Int)) = ((n - s.length : Nat) : Int) := by rw [Zv (by omega) (by omega)]; omega
 unfold Q98.f
 rw [e, Ui (by omega), Option.bind_some, if_pos (by rw [Yx]; omega)]
 rfl
theorem Zfc {c : Cfg} (hc : OkC c) {x y : List UInt8} (hx : x.length ≤ cK c) (hy : y.length ≤ cV c) {k : Nat} (hk : 10 < k) : Q97.f k c x y = some (prS (cK c) (cV c) (x, y)) := by
 obtain ⟨c1, c2, c3, c4, c5, c6, c7, c8, c9⟩ := hc.nat
 unfold Q97.f
 rw [show Q96.f k 1 (x.length : Int) = _ from Jh (w := 1) (.inl rfl) (by omega) hk, show Q96.f k 2 (y.length : Int) = _ from Jh (w := 2) (.inr (.inl rfl)) (by omega) hk, Option.bind_some, Option.bind_some, if_pos (by rw [Zz, Zz]; omega), hc.int.k, Gj hx (by omega), Option.bind_some, if_pos (by rw [List.length_append, Zz, Zz, Y4 hx]; omega), hc.int.v, Gj hy (by omega), Option.bind_some, if_pos (by rw [List.length_append, List.length_append, Zz, Zz, Y4 hx, Y4 hy]; omega)]
 unfold prS
 simp only [List.append_assoc]
section
variable {c : Cfg} {n : Nd}
theorem Zb0 (hc : OkC c) (hB : c.2.1 = (cBy c : Int)) (hBl : cBy c ≤ 65536) (hr : ∀ p ∈ n.2.2.2.2, p.1.length ≤ cK c ∧ p.2.length ≤ cV c) (hl : n.2.2.2.2.length ≤ 2000) : ∀ (m i k : Nat) (x : List UInt8), n.2.2.2.2.length = i + m → m + 20 < k → (x ++ cat (prS (cK c) (cV c)) (n.2.2.2.2.drop i)).length ≤ cBy c → Q90.l0 k c n x (i : Int) = some (slt (x ++ cat (prS (cK c) (cV c)) (n.2.2.2.2.drop i)) (cBy c))
 | 0, i, k + 1, x, h, hk, hx => by
  rw [List.drop_eq_nil_of_le (by omega)] at hx ⊢
  rw [show cat (prS (cK c) (cV c)) [] = [] from rfl, List.append_nil] at hx ⊢
  rw [Q90.l0, if_neg (by simp only [decide_eq_true_eq]; omega), hB, Gj hx (by omega), Option.bind_some]
 | m + 1, i, k + 1, x, h, hk, hx => by
  have hi : i < n.2.2.2.2.length := by omega
  have hp := hr _ (Yq (d := default) hi)
  rw [Z5 hi, Xs, ← List.append_assoc] at hx ⊢
  have hx2 := hx
  rw [List.length_append, List.length_append] at hx2
  have hpl : (prS (cK c) (cV c) ((n.2.2.2.2.getD i default).1, (n.2.2.2.2.getD i default).2)).length = 3 + cK c + cV c := Xe hp.1 hp.2
  have hql : (prS (cK c) (cV c) (n.2.2.2.2.getD i default)).length = 3 + cK c + cV c := Xe hp.1 hp.2
  rw [Q90.l0, if_pos (decide_eq_true (by omega)), if_pos (by omega), Ya, Xr, Zfc hc hp.1 hp.2 (by omega), Option.bind_some, if_pos (by omega), Z3 (by omega)]
  exact Zb0 hc hB hBl hr hl m (i + 1) k _ (by omega) (by omega) hx
theorem Zci (hc : OkC c) (hB : c.2.1 = (cBy c : Int)) (hBl : cBy c ≤ 65536) (hr : ∀ p ∈ n.2.2.2.1, p.1.length ≤ cK c ∧ p.2.2.length ≤ cV c) (hl : n.2.2.2.1.length ≤ 2000) : ∀ (m i k : Nat) (x : List UInt8), n.2.2.2.1.length = i + m → m + 20 < k → (x ++ cat (msS (cK c) (cV c)) (n.2.2.2.1.drop i)).length ≤ cBy c → Q90.l3 k c n x (i : Int) = some (slt (x ++ cat (msS (cK c) (cV c)) (n.2.2.2.1.drop i)) (cBy c))
 | 0, i, k + 1, x, h, hk, hx => by
  rw [List.drop_eq_nil_of_le (by omega)] at hx ⊢
  rw [show cat (msS (cK c) (cV c)) [] = [] from rfl, List.append_nil] at hx ⊢
  rw [Q90.l3, if_neg (by simp only [decide_eq_true_eq]; omega), hB, Gj hx (by omega), Option.bind_some]
 | m + 1, i, k + 1, x, h, hk, hx => by
  have hi : i < n.2.2.2.1.length := by omega
  have hp := hr _ (Yq (d := default) hi)
  rw [Z5 hi, Xs, ← List.append_assoc] at hx ⊢
  have hx2 := hx
  rw [List.length_append, List.length_append] at hx2
  have hml : (msS (cK c) (cV c) (n.2.2.2.1.getD i default)).length = 4 + cK c + cV c := Zcr hp.1 hp.2
  have hpl : (prS (cK c) (cV c) ((n.2.2.2.1.getD i default).1, (n.2.2.2.1.getD i default).2.2)).length = 3 + cK c + cV c := Xe hp.1 hp.2
  have ih := Zci hc hB hBl hr hl m (i + 1) k (x ++ msS (cK c) (cV c) (n.2.2.2.1.getD i default)) (by omega) (by omega) hx
  rw [Q90.l3, if_pos (decide_eq_true (by omega)), if_pos (by omega), Ya, Xr, Zfc hc hp.1 hp.2 (by omega), Option.bind_some, Option.bind_some, Z3 (by omega)]
  unfold msS at ih ⊢
  generalize (n.2.2.2.1.getD i default).2.1 = d at *
  cases d
  ·rw [if_neg (by simp)] at ih ⊢
   rw [if_pos (by simp only [List.length_singleton]; omega), if_pos (by rw [List.length_append]; simp only [List.length_singleton]; omega)]
   rw [show (x ++ [1]) ++ prS (cK c) (cV c) ((n.2.2.2.1.getD i default).1, (n.2.2.2.1.getD i default).2.2) = x ++ 1 :: prS (cK c) (cV c) ((n.2.2.2.1.getD i default).1, (n.2.2.2.1.getD i default).2.2) by simp]
   exact ih
  ·rw [if_pos rfl] at ih ⊢
   rw [if_pos (by simp only [List.length_singleton]; omega), if_pos (by rw [List.length_append]; simp only [List.length_singleton]; omega)]
   rw [show (x ++ [2]) ++ prS (cK c) (cV c) ((n.2.2.2.1.getD i default).1, (n.2.2.2.1.getD i default).2.2) = x ++ 2 :: prS (cK c) (cV c) ((n.2.2.2.1.getD i default).1, (n.2.2.2.1.getD i default).2.2) by simp]
   exact ih
theorem Zce (hc : OkC c) (hn : FitN c n) (h0 : n.1 ≠ 0) (hB : c.2.1 = (cBy c : Int)) (hBl : cBy c ≤ 65536) : ∀ (m i k : Nat) (x : List UInt8), n.2.2.1.length = i + m → m + 2100 < k → (x ++ (cat (pvS (cK c)) (n.2.2.1.drop i) ++ (zs ((1 + cK c) * (cFa c - 1 - n.2.2.1.length)) ++ cat (msS (cK c) (cV c)) n.2.2.2.1))).length ≤ cBy c →
  Q90.l2 k c n x (i : Int) = some (slt (x ++ (cat (pvS (cK c)) (n.2.2.1.drop i) ++ (zs ((1 + cK c) * (cFa c - 1 - n.2.2.1.length)) ++ cat (msS (cK c) (cV c)) n.2.2.2.1))) (cBy c))
 | 0, i, k + 1, x, h, hk, hx => by
  obtain ⟨c1, c2, c3, c4, c5, c6, c7, c8, c9⟩ := hc.nat
  obtain ⟨a1, a2, a3, a4, a5⟩ := hn.i h0
  have hi := hc.int
  rw [List.drop_eq_nil_of_le (by omega)] at hx ⊢
  rw [show cat (pvS (cK c)) [] = [] from rfl, List.nil_append, ← List.append_assoc] at hx ⊢
  have hx2 := hx
  rw [List.length_append, List.length_append, Yx] at hx2
  have hm : (1 + cK c) * (cFa c - 1 - n.2.2.1.length) ≤ 65 * 64 := Nat.mul_le_mul (by omega) (by omega)
  have e : w64 ((w64 (1 + c.2.2.2.2.2.2.1)) * (w64 ((w64 (c.2.2.2.1 - 1)) - (n.2.2.1.length : Int)))) = (((1 + cK c) * (cFa c - 1 - n.2.2.1.length) : Nat) : Int) := by
   rw [hi.k, hi.f, Zv (x := 1 + (cK c : Int)) (by omega) (by omega), Zv (x := (cFa c : Int) - 1) (by omega) (by omega), Zv (x := (cFa c : Int) - 1 - (n.2.2.1.length : Int)) (by omega) (by omega), show (1 + (cK c : Int)) * ((cFa c : Int) - 1 - (n.2.2.1.length : Int)) = (((1 + cK c) * (cFa c - 1 - n.2.2.1.length) : Nat) : Int) by
    rw [Int.natCast_mul]; congr 1; omega]
   exact Zv (by omega) (by omega)
  rw [Q90.l2, if_neg (by simp only [decide_eq_true_eq]; omega), e, Ui (by omega), Option.bind_some, if_pos (by rw [Yx]; omega)]
  have := Zci hc hB hBl hn.ms (by omega) n.2.2.2.1.length 0 k (x ++ zs ((1 + cK c) * (cFa c - 1 - n.2.2.1.length))) (by omega) (by omega) (by rw [List.drop_zero]; exact hx)
  rw [List.drop_zero] at this
  exact this
 | m + 1, i, k + 1, x, h, hk, hx => by
  obtain ⟨c1, c2, c3, c4, c5, c6, c7, c8, c9⟩ := hc.nat
  have hi : i < n.2.2.1.length := by omega
  have hi2 : n.2.2.1.length ≤ 64 := by have := hn.i h0; omega
  have hp := hn.pk _ (Yq (d := default) hi)
  rw [Z5 hi, Xs, List.append_assoc (pvS _ _), ← List.append_assoc x] at hx ⊢
  have hx2 := hx
  rw [List.length_append, List.length_append, Vn hp] at hx2
  have ih := Zce hc hn h0 hB hBl m (i + 1) k (x ++ pvS (cK c) (n.2.2.1.getD i default)) (by omega) (by omega) hx
  rw [Q90.l2, if_pos (decide_eq_true (by omega)), if_pos (by omega), Ya, show Q96.f k 1 (((n.2.2.1.getD i default).length : Nat) : Int) = _ from Jh (w := 1) (.inl rfl) (by omega) (by omega), Option.bind_some, if_pos (by rw [Zz]; omega), hc.int.k, Gj hp (by omega), Option.bind_some, if_pos (by rw [List.length_append, Zz, Y4 hp]; omega), Z3 (by omega), List.append_assoc]
  exact ih
theorem Zb6 (hc : OkC c) (hn : FitN c n) (h0 : n.1 ≠ 0) (hB : c.2.1 = (cBy c : Int)) (hBl : cBy c ≤ 65536) : ∀ (m i k : Nat) (x : List UInt8), n.2.1.length = i + m → m + 2300 < k → (x ++ (cat kdS (n.2.1.drop i) ++ (zs (4 * (cFa c - n.2.1.length)) ++ J3 c n))).length ≤ cBy c →
  Q90.l1 k c n x (i : Int) = some (slt (x ++ (cat kdS (n.2.1.drop i) ++ (zs (4 * (cFa c - n.2.1.length)) ++ J3 c n))) (cBy c))
 | 0, i, k + 1, x, h, hk, hx => by
  obtain ⟨c1, c2, c3, c4, c5, c6, c7, c8, c9⟩ := hc.nat
  obtain ⟨a1, a2, a3, a4, a5⟩ := hn.i h0
  rw [List.drop_eq_nil_of_le (by omega)] at hx ⊢
  rw [show cat kdS [] = [] from rfl, List.nil_append, ← List.append_assoc] at hx ⊢
  have hx2 := hx
  rw [List.length_append, List.length_append, Yx] at hx2
  have e : w64 (4 * (w64 (c.2.2.2.1 - (n.2.1.length : Int)))) = ((4 * (cFa c - n.2.1.length) : Nat) : Int) := by
   rw [hc.int.f, Zv (x := (cFa c : Int) - (n.2.1.length : Int)) (by omega) (by omega), Zv (by omega) (by omega)]; omega
  rw [Q90.l1, if_neg (by simp only [decide_eq_true_eq]; omega), e, Ui (by omega), Option.bind_some, if_pos (by rw [Yx]; omega)]
  have := Zce hc hn h0 hB hBl n.2.2.1.length 0 k (x ++ zs (4 * (cFa c - n.2.1.length))) (by omega) (by omega) (by rw [List.drop_zero]; exact hx)
  rw [List.drop_zero] at this
  exact this
 | m + 1, i, k + 1, x, h, hk, hx => by
  obtain ⟨c1, c2, c3, c4, c5, c6, c7, c8, c9⟩ := hc.nat
  obtain ⟨a1, a2, a3, a4, a5⟩ := hn.i h0
  have hi : i < n.2.1.length := by omega
  have hki := hn.kd _ (Yq (d := default) hi)
  obtain ⟨q, hq⟩ := Int.eq_ofNat_of_zero_le hki.1
  have e2 : be 4 q = kdS (n.2.1.getD i default) := by unfold kdS; rw [hq]; rfl
  rw [Z5 hi, Xs, List.append_assoc (kdS _), ← List.append_assoc x] at hx ⊢
  have hx2 := hx
  rw [List.length_append, List.length_append, show (kdS (n.2.1.getD i default)).length = 4 from Zz _ _] at hx2
  have ih := Zb6 hc hn h0 hB hBl m (i + 1) k (x ++ kdS (n.2.1.getD i default)) (by omega) (by omega) hx
  rw [Q90.l1, if_pos (decide_eq_true (by omega)), if_pos (by omega), Ya, show IntKind.u64.wrap (n.2.1.getD i default) = (q : Int) from (by rw [hq]; exact Y6 (by omega)), show Q70.f k 4 (q : Int) = _ from Zdv (w := 4) (.inr (.inr rfl)) (by omega) (by omega), Option.bind_some, X1, if_pos (by rw [Zz]; omega), Z3 (by omega), e2]
  exact ih
theorem Zhl (hok : okB c = true) (hn : FitN c n) {k : Nat} (hk : 3000 < k) : Q90.f k c n = some (Xq c n) := by
 have hc := Xl hok
 obtain ⟨c1, c2, c3, c4, c5, c6, c7, c8, c9⟩ := hc.nat
 obtain ⟨r1, r2, r3⟩ := Ux hok hn
 unfold Q90.f Xq
 by_cases h0 : n.1 = 0
 ·have hl := (hn.o h0).2.2.2
  have er : X4 c n = hdO n ++ bdO c n := if_pos h0
  rw [er] at r1 ⊢
  rw [if_pos (decide_eq_true h0), show Q96.f k 2 (n.2.2.2.2.length : Int) = _ from Jh (w := 2) (.inr (.inl rfl)) (by omega) (by omega), Option.bind_some, if_pos (by rw [Zz]; simp), show Q93.f 4 = _ from Ui (n := 4) (by omega), Option.bind_some, if_pos (by rw [List.length_append, Zz, Yx]; simp)]
  have e : (([1, 0] : List UInt8) ++ be 2 n.2.2.2.2.length) ++ zs 4 = hdO n := by unfold hdO; simp
  have := Zb0 hc r3 r2 hn.rk (by omega) n.2.2.2.2.length 0 k (hdO n) (by omega) (by omega) (by rw [List.drop_zero]; exact r1)
  rw [e]
  rw [List.drop_zero] at this
  exact this
 ·obtain ⟨a1, a2, a3, a4, a5⟩ := hn.i h0
  have hlv := hn.lv
  obtain ⟨lv, hl⟩ := Int.eq_ofNat_of_zero_le hlv.1
  have er : X4 c n = hdI n ++ bdI c n := if_neg h0
  rw [er] at r1 ⊢
  rw [if_neg (by simpa using h0), hl, show Q96.f k 1 (lv : Int) = _ from Jh (w := 1) (.inl rfl) (by omega) (by omega), Option.bind_some, if_pos (by rw [Zz]; simp), show Q96.f k 2 (n.2.1.length : Int) = _ from Jh (w := 2) (.inr (.inl rfl)) (by omega) (by omega), Option.bind_some, if_pos (by rw [List.length_append, Zz, Zz]; simp), show Q96.f k 2 (n.2.2.2.1.length : Int) = _ from Jh (w := 2) (.inr (.inl rfl)) (by omega) (by omega), Option.bind_some, if_pos (by rw [List.length_append, List.length_append, Zz, Zz, Zz]; simp),
   show Q93.f 2 = _ from Ui (n := 2) (by omega), Option.bind_some, if_pos (by rw [List.length_append, List.length_append, List.length_append, Zz, Zz, Zz, Yx]; simp)]
  have e : (((([2] : List UInt8) ++ be 1 lv) ++ be 2 n.2.1.length) ++ be 2 n.2.2.2.1.length) ++ zs 2 = hdI n := by unfold hdI; rw [hl]; simp
  have := Zb6 hc hn h0 r3 r2 n.2.1.length 0 k (hdI n) (by omega) (by omega) (by rw [List.drop_zero]; exact r1)
  rw [e]
  rw [List.drop_zero] at this
  exact this
end
theorem Zgj {c : Cfg} {n : Nd} (hn : MidN n) {k : Nat} (hk : 20000 < k) : Q92.f k c n = some (okB c && Y9 c We n) := by
 unfold Q92.f
 rw [Xr, Bk c (by omega), Option.bind_some]
 cases okB c with
 | false => rfl
 | true =>
  rw [if_pos rfl, Q94.f, Option.bind_some, show Q86.f k c (([] : List UInt8), ([] : List UInt8), true) (n.1, n.2.1, n.2.2.1, n.2.2.2.1, n.2.2.2.2) = _ from Za7 (c := c) (s := We) hn (by simp) (by simp) (by omega)]
  rfl
def rbS (s : List UInt8 × Int) (n : Nat) : List UInt8 × (List UInt8 × Int) := if s.2 = 0 then (if s.1.length < n then ([], ([], 5)) else (s.1.take n, (s.1.drop n, 0))) else ([], s)
def iS (s : List UInt8 × Int) : List Int × Int := (toB s.1, s.2)
def spS (s : List UInt8 × Int) (x : Int) : List UInt8 × Int := ([], if s.2 = 0 then x else s.2)
theorem Zbo (a : List UInt8) (n : Nat) : (toB a).take n = toB (a.take n) := by simp [toB, List.map_take]
theorem Zbr (a : List UInt8) (n : Nat) : (toB a).drop n = toB (a.drop n) := by simp [toB, List.map_drop]
theorem Uc (s : List UInt8 × Int) (x : Int) : Q110.f ((iS s).1, (iS s).2) x = some (iS (spS s x)) := by
 unfold Q110.f iS spS
 by_cases h : s.2 = 0 <;> simp [h, toB]
theorem Ze2 (s : List UInt8 × Int) {n : Nat} (hn : n ≤ 100000) : Q105.f (iS s) (n : Int) = some (toB (rbS s n).1, iS (rbS s n).2) := by
 unfold Q105.f
 rw [Uc, Uc, Option.bind_some, Option.bind_some]
 unfold rbS iS spS
 by_cases h : s.2 = 0
 ·rw [if_neg (by simp [h]), if_neg (by simp), if_pos h]
  by_cases h2 : s.1.length < n
  ·rw [if_pos (decide_eq_true (by rw [Z1]; omega)), if_pos h2]
   simp [h, toB]
  ·rw [if_neg (by simp only [Z1, decide_eq_true_eq]; omega), if_neg h2, if_pos (by omega), if_pos (by rw [Z1]; omega), Int.toNat_natCast]
   have : Yc (List.replicate n (0 : Int)) 0 (List.replicate n (0 : Int)).length (toB s.1) = toB (s.1.take n) := by
    unfold Yc
    rw [List.length_replicate, Z1, show 0 + min n s.1.length = n by omega, List.drop_eq_nil_of_le (by simp), List.take_zero, List.nil_append, List.append_nil, Zbo]
   rw [this, Zbr, h]
   simp
 ·rw [if_pos (by simp [h]), if_neg h]
  rfl
def Zw (s : List UInt8 × Int) (w : Nat) : Nat × (List UInt8 × Int) := (rdv (rbS s w).1, (rbS s w).2)
theorem Uw (s : List UInt8 × Int) (n : Nat) : (rbS s n).1.length ≤ n := by
 unfold rbS
 split
 ·split
  ·exact Nat.zero_le _
  ·rw [List.length_take]; omega
 ·exact Nat.zero_le _
theorem Xw (s : List UInt8 × Int) (w : Nat) : (Zw s w).1 < 256 ^ w := Nat.lt_of_lt_of_le (W5 _) (Nat.pow_le_pow_right (by omega) (Uw s w))
theorem Zat (l : List UInt8) (c : UInt8) : rdv (l ++ [c]) = rdv l * 256 + c.toNat := by
 unfold rdv
 rw [List.foldl_append]; rfl
theorem orb {x c : Nat} (hx : x < 4294967296) (hc : c < 256) : IntKind.u64.wrap (((BitVec.ofInt IntKind.u64.bits (IntKind.u64.wrap ((x : Int) * 2 ^ 8)) ||| (BitVec.ofInt IntKind.u64.bits (IntKind.u64.wrap (c : Int)))).toNat : Int)) = ((x * 256 + c : Nat) : Int) := by
 have e1 : (x : Int) * 2 ^ 8 = ((x * 256 : Nat) : Int) := by omega
 rw [e1, Y6 (n := x * 256) (by omega), Y6 (n := c) (by omega)]
 have e2 : (BitVec.ofInt IntKind.u64.bits ((x * 256 : Nat) : Int) ||| BitVec.ofInt IntKind.u64.bits (c : Int)).toNat = x * 256 + c := by
  show (BitVec.ofInt 64 ((x * 256 : Nat) : Int) ||| BitVec.ofInt 64 (c : Int)).toNat = x * 256 + c
  rw [BitVec.toNat_or, BitVec.ofInt_natCast, BitVec.ofInt_natCast, BitVec.toNat_ofNat, BitVec.toNat_ofNat, Nat.mod_eq_of_lt (by omega), Nat.mod_eq_of_lt (by omega)]
  have := Nat.shiftLeft_add_eq_or_of_lt (i := 8) (b := c) hc x
  rw [Nat.shiftLeft_eq] at this
  rw [show x * 256 = x * 2 ^ 8 from rfl, ← this]
 rw [e2, Y6 (by omega)]
theorem Zds (l : List UInt8) (st : List Int × Int) (hl : l.length ≤ 4) : ∀ (m i k : Nat), l.length = i + m → m < k → Q104.l1 k (toB l, st) ((rdv (l.take i) : Nat) : Int) (i : Int) = some (((rdv l : Nat) : Int), st)
 | 0, i, k + 1, h, _ => by
  rw [Q104.l1, if_neg (by simp only [Z1, decide_eq_true_eq]; omega), List.take_of_length_le (by omega)]
 | m + 1, i, k + 1, h, hk => by
  have hi : i < l.length := by omega
  have hv := W5 (l.take i)
  have hv2 : 256 ^ (l.take i).length ≤ 256 ^ 3 := Nat.pow_le_pow_right (by omega) (by rw [List.length_take]; omega)
  have e : gt (toB l) (i : Int) = (((l[i]'hi).toNat : Nat) : Int) := by
   rw [Ya, List.getD_eq_getElem?_getD]
   simp [toB, hi]
  have hc := (l[i]'hi).toNat_lt
  rw [Q104.l1, if_pos (decide_eq_true (by rw [Z1]; omega)), if_pos (by rw [Z1]; omega), e, orb (by omega) (by omega), Z3 (by omega), ← Zat]
  have := Zds l st hl m (i + 1) k (by omega) (by omega)
  rw [List.take_add_one, List.getElem?_eq_getElem hi] at this
  exact this
theorem Ww (s : List UInt8 × Int) {w : Nat} (hw : w = 1 ∨ w = 2 ∨ w = 4) {k : Nat} (hk : 10 < k) : Q104.f k ((iS s).1, (iS s).2) (w : Int) = some (((Zw s w).1 : Int), ((iS (Zw s w).2).1, (iS (Zw s w).2).2)) := by
 unfold Q104.f Q111.f
 have hr : (if (decide ((w : Int) = 1)) = true then (some true) else (if (decide ((w : Int) = 2)) = true then (some true) else (if (decide ((w : Int) = 4)) = true then (some true) else (some (decide ((w : Int) = 8)))))) = some true := by
  rcases hw with rfl | rfl | rfl <;> rfl
 have hl := Uw s w
 rw [hr, Option.bind_some, if_neg (by simp), show Q105.f ((iS s).1, (iS s).2) (w : Int) = _ from Ze2 s (by omega), Option.bind_some]
 have := Zds (rbS s w).1 (iS (rbS s w).2) (by omega) (rbS s w).1.length 0 k (by omega) (by omega)
 exact this
def nzS (l : List UInt8) : Bool := l.any fun x => !decide (x = 0)
theorem Zdx (l : List UInt8) : ((toB l).any fun x => !decide (x = 0)) = nzS l := by
 unfold nzS toB
 rw [List.any_map]
 congr 1
 funext x
 have : ((x.toNat : Int) = 0) ↔ x = 0 := by
  constructor
  ·intro h
   have h2 : x.toNat = 0 := by omega
   exact UInt8.toNat_inj.1 (by simpa using h2)
  ·rintro rfl; rfl
 simp only [Function.comp, this]
theorem Zgc (l : List UInt8) {k : Nat} (hl : l.length ≤ 10000) (hk : l.length < k) : Q41.f k (toB l) = some (nzS l) := by
 obtain ⟨r, h1, h2⟩ := Wd (l := toB l) (F := fun k i => Q47.l0 k (toB l) i) (p := fun x : Int => !decide (x = 0)) (by rw [Z1]; omega) (fun k i => by
  show Q47.l0 (k + 1) (toB l) i = _
  rw [Q47.l0, Q109.f, Option.bind_some]) (toB l).length 0 k (by omega) (by rw [Z1]; exact hk)
 unfold Q41.f Q47.f
 rw [show Q47.l0 k (toB l) 0 = _ from h1, Option.bind_some, h2, List.drop_zero, Zdx]
theorem Zg6 (l : List UInt8) {k : Nat} (hl : l.length ≤ 10000) (hk : l.length < k) : Q40.f k (toB l) = some (nzS l) := by
 obtain ⟨r, h1, h2⟩ := Wd (l := toB l) (F := fun k i => Q46.l0 k (toB l) i) (p := fun x : Int => !decide (x = 0)) (by rw [Z1]; omega) (fun k i => by
  show Q46.l0 (k + 1) (toB l) i = _
  rw [Q46.l0, Q107.f, Option.bind_some]) (toB l).length 0 k (by omega) (by rw [Z1]; exact hk)
 unfold Q40.f Q46.f
 rw [show Q46.l0 k (toB l) 0 = _ from h1, Option.bind_some, h2, List.drop_zero, Zdx]
def X2 (s : List UInt8 × Int) (n : Nat) : List UInt8 × Int := if nzS (rbS s n).1 = true then spS (rbS s n).2 3 else (rbS s n).2
theorem Zgb (s : List UInt8 × Int) {n : Nat} (hn : n ≤ 100) {k : Nat} (hk : 1000 < k) : Q108.f k ((iS s).1, (iS s).2) (n : Int) = some ((iS (X2 s n)).1, (iS (X2 s n)).2) := by
 have hl := Uw s n
 unfold Q108.f X2
 rw [show Q105.f ((iS s).1, (iS s).2) (n : Int) = _ from Ze2 s (by omega), Option.bind_some, Zgc _ (by omega) (by omega), Option.bind_some]
 cases nzS (rbS s n).1
 ·rfl
 ·rw [if_pos rfl, if_pos rfl, Uc, Option.bind_some]
def Xo (s : List UInt8 × Int) (n most : Nat) : List UInt8 × (List UInt8 × Int) := if most < n then ([], spS s 2) else if (rbS s most).1.length < most then ([], (rbS s most).2) else if nzS ((rbS s most).1.drop n) = true then ([], spS (rbS s most).2 3) else ((rbS s most).1.take n, (rbS s most).2)
theorem Zbn (s : List UInt8 × Int) (n : Nat) {most : Nat} (hm : most ≤ 1000) {k : Nat} (hk : 2000 < k) : Q106.f k ((iS s).1, (iS s).2) (n : Int) (most : Int) = some ((Xo s n most).1, ((iS (Xo s n most).2).1, (iS (Xo s n most).2).2)) := by
 have hl := Uw s most
 unfold Q106.f Xo
 rw [if_neg (by simp), show Q105.f ((iS s).1, (iS s).2) (most : Int) = _ from Ze2 s (by omega), Uc, Option.bind_some, Option.bind_some]
 by_cases h1 : most < n
 ·rw [if_pos (decide_eq_true (by omega)), if_pos h1]
 ·rw [if_neg (by simp only [decide_eq_true_eq]; omega), if_neg h1]
  dsimp only
  by_cases h2 : (rbS s most).1.length < most
  ·rw [if_pos (decide_eq_true (by rw [Z1]; omega)), if_pos h2]
  ·rw [if_neg (by simp only [Z1, decide_eq_true_eq]; omega), if_neg h2, if_pos (by rw [Z1]; omega), Int.toNat_natCast, Zbr, Zg6 _ (by rw [List.length_drop]; omega) (by rw [List.length_drop]; omega), Option.bind_some]
   cases nzS ((rbS s most).1.drop n)
   ·rw [if_neg (by simp), if_pos (by rw [Z1]; omega), if_neg (by simp), Zbo, X1]
   ·rw [if_pos rfl, if_pos rfl, Uc, Option.bind_some]
def Xm (c : Cfg) (s : List UInt8 × Int) : Pr × (List UInt8 × Int) :=
 let k := Zw s 1
 let v := Zw k.2 2
 let x := Xo v.2 k.1 (cK c)
 let y := Xo x.2 v.1 (cV c)
 ((x.1, y.1), y.2)
theorem Zd6 {c : Cfg} (hc : OkC c) (s : List UInt8 × Int) {k : Nat} (hk : 2000 < k) : Q13.f k c ((iS s).1, (iS s).2) = some ((Xm c s).1.1, (Xm c s).1.2, ((iS (Xm c s).2).1, (iS (Xm c s).2).2)) := by
 obtain ⟨c1, c2, c3, c4, c5, c6, c7, c8, c9⟩ := hc.nat
 have l1 := Xw s 1
 have l2 := Xw (Zw s 1).2 2
 unfold Q13.f Xm
 rw [show Q104.f k ((iS s).1, (iS s).2) 1 = _ from Ww s (w := 1) (.inl rfl) (by omega), Option.bind_some, show Q104.f k _ 2 = _ from Ww (Zw s 1).2 (w := 2) (.inr (.inl rfl)) (by omega), Option.bind_some]
 dsimp only
 rw [Zv (x := ((Zw s 1).1 : Int)) (by omega) (by omega), Zv (x := ((Zw (Zw s 1).2 2).1 : Int)) (by omega) (by omega), hc.int.k, hc.int.v, Zbn _ _ (by omega) (by omega), Option.bind_some]
 dsimp only
 rw [Zbn _ _ (by omega) (by omega), Option.bind_some]
def W4 (c : Cfg) : Nat → List UInt8 × Int → List Pr → List Pr × (List UInt8 × Int)
 | 0, s, acc => (acc, s)
 | m + 1, s, acc => W4 c m (Xm c s).2 (acc ++ [(Xm c s).1])
theorem Zap {c : Cfg} (hc : OkC c) (cnt : Nat) : ∀ (m i k : Nat) (s : List UInt8 × Int) (acc : List Pr), min (cLe c) cnt = i + m → m + 2100 < k → acc.length + m ≤ 5000 → Q12.l0 k c (cnt : Int) (iS s).1 (iS s).2 acc (i : Int) = some ((0, ([] : List Int), ([] : List (List UInt8)), ([] : List Msg), (W4 c m s acc).1), ((iS (W4 c m s acc).2).1, (iS (W4 c m s acc).2).2))
 | 0, i, k + 1, s, acc, h, hk, ha => by
  have hi := hc.int
  rw [Q12.l0, hi.l, if_neg (by simp only [decide_eq_true_eq]; split <;> omega)]
  rfl
 | m + 1, i, k + 1, s, acc, h, hk, ha => by
  obtain ⟨c1, c2, c3, c4, c5, c6, c7, c8, c9⟩ := hc.nat
  have hi := hc.int
  rw [Q12.l0, Xr, hi.l, if_pos (decide_eq_true (by split <;> omega)), Zd6 hc s (by omega), Option.bind_some, if_pos (by simp only [List.length_singleton]; omega), Z3 (by omega)]
  exact Zap hc cnt m (i + 1) k (Xm c s).2 (acc ++ [(Xm c s).1]) (by omega) (by omega) (by simp; omega)
def Y5 : Nat → Nat → Nat → List UInt8 × Int → List Int → List Int × (List UInt8 × Int)
 | 0, _, _, s, acc => (acc, s)
 | m + 1, i, cnt, s, acc => Y5 m (i + 1) cnt (Zw s 4).2 (if i < cnt then acc ++ [((Zw s 4).1 : Int)] else acc)
def Yz (c : Cfg) : Nat → Nat → Nat → List UInt8 × Int → List (List UInt8) → List (List UInt8) × (List UInt8 × Int)
 | 0, _, _, s, acc => (acc, s)
 | m + 1, i, cnt, s, acc => Yz c m (i + 1) cnt (Xo (Zw s 1).2 (Zw s 1).1 (cK c)).2 (if i + 1 < cnt then acc ++ [(Xo (Zw s 1).2 (Zw s 1).1 (cK c)).1] else acc)
def Xd (c : Cfg) : Nat → List UInt8 × Int → List Msg → List Msg × (List UInt8 × Int)
 | 0, s, acc => (acc, s)
 | m + 1, s, acc => Xd c m (Xm c (Zw s 1).2).2 (acc ++ [((Xm c (Zw s 1).2).1.1, decide (((Zw s 1).1 : Int) = 2), (Xm c (Zw s 1).2).1.2)])
theorem Zb9 {c : Cfg} (hc : OkC c) (lv : Int) (bf : Nat) (ks : List Int) (ps : List (List UInt8)) : ∀ (m i k : Nat) (s : List UInt8 × Int) (acc : List Msg), min (cBu c) bf = i + m → m + 2100 < k → acc.length + m ≤ 5000 → Q11.l2 k c lv (bf : Int) ks ps (iS s).1 (iS s).2 acc (i : Int) = some ((lv, ks, ps, (Xd c m s acc).1, ([] : List Pr)), ((iS (Xd c m s acc).2).1, (iS (Xd c m s acc).2).2))
 | 0, i, k + 1, s, acc, h, hk, ha => by
  have hi := hc.int
  rw [Q11.l2, hi.b, if_neg (by simp only [decide_eq_true_eq]; split <;> omega)]
  rfl
 | m + 1, i, k + 1, s, acc, h, hk, ha => by
  obtain ⟨c1, c2, c3, c4, c5, c6, c7, c8, c9⟩ := hc.nat
  have hi := hc.int
  rw [Q11.l2, Xr, hi.b, if_pos (decide_eq_true (by split <;> omega)), show Q104.f k ((iS s).1, (iS s).2) 1 = _ from Ww s (w := 1) (.inl rfl) (by omega), Option.bind_some]
  dsimp only
  rw [Zd6 hc _ (by omega), Option.bind_some, if_pos (by simp only [List.length_singleton]; omega), Z3 (by omega)]
  exact Zb9 hc lv bf ks ps m (i + 1) k _ _ (by omega) (by omega) (by simp; omega)
theorem Gp {c : Cfg} (hc : OkC c) (lv : Int) (cnt bf : Nat) (hcnt : cnt ≤ 100000) (ks : List Int) : ∀ (m i k : Nat) (s : List UInt8 × Int) (acc : List (List UInt8)), cFa c - 1 = i + m → m + 3200 < k → acc.length + m ≤ 5000 →
  Q11.l1 k c lv (cnt : Int) (bf : Int) ks (iS s).1 (iS s).2 acc (i : Int) = some ((lv, ks, (Yz c m i cnt s acc).1, (Xd c (min (cBu c) bf) (Yz c m i cnt s acc).2 []).1, ([] : List Pr)), ((iS (Xd c (min (cBu c) bf) (Yz c m i cnt s acc).2 []).2).1, (iS (Xd c (min (cBu c) bf) (Yz c m i cnt s acc).2 []).2).2))
 | 0, i, k + 1, s, acc, h, hk, ha => by
  obtain ⟨c1, c2, c3, c4, c5, c6, c7, c8, c9⟩ := hc.nat
  have hi := hc.int
  rw [Q11.l1, hi.f, Zv (x := (cFa c : Int) - 1) (by omega) (by omega), if_neg (by simp only [decide_eq_true_eq]; omega)]
  exact Zb9 hc lv bf ks acc (min (cBu c) bf) 0 k s [] (by omega) (by omega) (by simp; omega)
 | m + 1, i, k + 1, s, acc, h, hk, ha => by
  obtain ⟨c1, c2, c3, c4, c5, c6, c7, c8, c9⟩ := hc.nat
  have hi := hc.int
  have l1 := Xw s 1
  rw [Q11.l1, hi.f, Zv (x := (cFa c : Int) - 1) (by omega) (by omega), if_pos (decide_eq_true (by omega)), show Q104.f k ((iS s).1, (iS s).2) 1 = _ from Ww s (w := 1) (.inl rfl) (by omega), Option.bind_some]
  dsimp only
  rw [Zv (x := ((Zw s 1).1 : Int)) (by omega) (by omega), hi.k, Zbn _ _ (by omega) (by omega), Option.bind_some, Z3 (by omega)]
  dsimp only
  by_cases q : i + 1 < cnt
  ·rw [if_pos (decide_eq_true (by omega)), if_pos (by simp only [List.length_singleton]; omega)]
   have := Gp hc lv cnt bf hcnt ks m (i + 1) k (Xo (Zw s 1).2 (Zw s 1).1 (cK c)).2 (acc ++ [(Xo (Zw s 1).2 (Zw s 1).1 (cK c)).1]) (by omega) (by omega) (by simp; omega)
   rw [this, Yz, if_pos q]
  ·rw [if_neg (by simp only [decide_eq_true_eq]; omega)]
   have := Gp hc lv cnt bf hcnt ks m (i + 1) k (Xo (Zw s 1).2 (Zw s 1).1 (cK c)).2 acc (by omega) (by omega) (by omega)
   rw [this, Yz, if_neg q]
def Ze4 (c : Cfg) (lv : Int) (cnt bf : Nat) (s : List UInt8 × Int) : Nd × (List UInt8 × Int) :=
 let a := Y5 (cFa c) 0 cnt s []
 let b := Yz c (cFa c - 1) 0 cnt a.2 []
 let d := Xd c (min (cBu c) bf) b.2 []
 ((lv, a.1, b.1, d.1, []), d.2)
theorem Zdq {n : Nat} (h : n < 4294967296) : IntKind.u32.wrap (n : Int) = (n : Int) := by
 have : IntKind.u32.wrap (n : Int) = ((n % 4294967296 : Nat) : Int) := by simp [IntKind.wrap, IntKind.bits, IntKind.signed]
 rw [this, Nat.mod_eq_of_lt h]
theorem Gz {c : Cfg} (hc : OkC c) (lv : Int) (cnt bf : Nat) (hcnt : cnt ≤ 100000) : ∀ (m i k : Nat) (s : List UInt8 × Int) (acc : List Int), cFa c = i + m → m + 4000 < k → acc.length + m ≤ 5000 →
  Q11.l0 k c lv (cnt : Int) (bf : Int) (iS s).1 (iS s).2 acc (i : Int) = some ((lv, (Y5 m i cnt s acc).1, (Yz c (cFa c - 1) 0 cnt (Y5 m i cnt s acc).2 []).1, (Xd c (min (cBu c) bf) (Yz c (cFa c - 1) 0 cnt (Y5 m i cnt s acc).2 []).2 []).1, ([] : List Pr)), ((iS (Xd c (min (cBu c) bf) (Yz c (cFa c - 1) 0 cnt (Y5 m i cnt s acc).2 []).2 []).2).1, (iS (Xd c (min (cBu c) bf) (Yz c (cFa c - 1) 0 cnt (Y5 m i cnt s acc).2 []).2 []).2).2))
 | 0, i, k + 1, s, acc, h, hk, ha => by
  obtain ⟨c1, c2, c3, c4, c5, c6, c7, c8, c9⟩ := hc.nat
  have hi := hc.int
  rw [Q11.l0, hi.f, if_neg (by simp only [decide_eq_true_eq]; omega)]
  exact Gp hc lv cnt bf hcnt acc (cFa c - 1) 0 k s [] (by omega) (by omega) (by simp; omega)
 | m + 1, i, k + 1, s, acc, h, hk, ha => by
  obtain ⟨c1, c2, c3, c4, c5, c6, c7, c8, c9⟩ := hc.nat
  have hi := hc.int
  have l1 := Xw s 4
  rw [Q11.l0, hi.f, if_pos (decide_eq_true (by omega)), show Q104.f k ((iS s).1, (iS s).2) 4 = _ from Ww s (w := 4) (.inr (.inr rfl)) (by omega), Option.bind_some, Z3 (by omega)]
  dsimp only
  rw [Zdq (by omega)]
  by_cases q : i < cnt
  ·rw [if_pos (decide_eq_true (by omega)), if_pos (by simp only [List.length_singleton]; omega)]
   have := Gz hc lv cnt bf hcnt m (i + 1) k (Zw s 4).2 (acc ++ [((Zw s 4).1 : Int)]) (by omega) (by omega) (by simp; omega)
   rw [this, Y5, if_pos q]
  ·rw [if_neg (by simp only [decide_eq_true_eq]; omega)]
   have := Gz hc lv cnt bf hcnt m (i + 1) k (Zw s 4).2 acc (by omega) (by omega) (by omega)
   rw [this, Y5, if_neg q]
def Yy (c : Cfg) (b : List UInt8) : Nd × (List UInt8 × Int) :=
 let a1 := Zw (b, 0) 1
 let a2 := Zw a1.2 1
 let a3 := Zw a2.2 2
 let a4 := Zw a3.2 2
 let z := X2 a4.2 2
 if a1.1 = 1 then ((0, [], [], [], (W4 c (min (cLe c) a3.1) z []).1), (W4 c (min (cLe c) a3.1) z []).2)
 else if a1.1 = 2 then Ze4 c (if a2.1 > 1 then (a2.1 : Int) else 1) a3.1 a4.1 z
 else ((-1, [], [], [], []), z)
theorem Yl {α : Type} {a b : List α} {n : Nat} (h : a.length = n) : (a ++ b).drop n = b := by rw [← h, List.drop_left]
theorem Xa {α : Type} {a b : List α} {n : Nat} (h : a.length = n) : (a ++ b).take n = a := by rw [← h, List.take_left]
theorem G4 {a r : List UInt8} {n : Nat} (h : a.length = n) : rbS (a ++ r, 0) n = (a, (r, 0)) := by
 unfold rbS
 rw [if_pos rfl, if_neg (by simp only [List.length_append]; omega), Xa h, Yl h]
theorem Yw {w v : Nat} {r : List UInt8} (h : v < 256 ^ w) : Zw (be w v ++ r, 0) w = (v, (r, 0)) := by
 unfold Zw
 rw [G4 (Zz w v), Xv h]
theorem Zd3 (n : Nat) : nzS (zs n) = false := by
 unfold nzS zs
 rw [List.any_eq_false]
 intro x hx
 rw [List.mem_replicate] at hx
 simp [hx.2]
theorem B4 (n : Nat) (r : List UInt8) : X2 (zs n ++ r, 0) n = (r, 0) := by
 unfold X2
 rw [G4 (Yx n), if_neg (by rw [Zd3]; simp)]
theorem W9 {s r : List UInt8} {most : Nat} (h : s.length ≤ most) : Xo (slt s most ++ r, 0) s.length most = (s, (r, 0)) := by
 unfold Xo
 rw [G4 (Y4 h), if_neg (by omega), if_neg (by rw [Y4 h]; omega)]
 dsimp only
 unfold slt
 rw [Yl rfl, Xa rfl, if_neg (by rw [Zd3]; simp)]
theorem B5 {c : Cfg} (hc : OkC c) {p : Pr} {r : List UInt8} (h1 : p.1.length ≤ cK c) (h2 : p.2.length ≤ cV c) : Xm c (prS (cK c) (cV c) p ++ r, 0) = (p, (r, 0)) := by
 obtain ⟨c1, c2, c3, c4, c5, c6, c7, c8, c9⟩ := hc.nat
 have e : prS (cK c) (cV c) p ++ r = be 1 p.1.length ++ (be 2 p.2.length ++ (slt p.1 (cK c) ++ (slt p.2 (cV c) ++ r))) := by unfold prS; simp only [List.append_assoc]
 unfold Xm
 rw [e, Yw (by omega)]
 dsimp only
 rw [Yw (by omega)]
 dsimp only
 rw [W9 h1]
 dsimp only
 rw [W9 h2]
theorem U0 {α : Type} (f : α → List UInt8) (x : α) (l : List α) (r : List UInt8) : cat f (x :: l) ++ r = f x ++ (cat f l ++ r) := by unfold cat; rw [List.flatMap_cons, List.append_assoc]
theorem Zbp {c : Cfg} (hc : OkC c) : ∀ (l acc : List Pr) (r : List UInt8), (∀ p ∈ l, p.1.length ≤ cK c ∧ p.2.length ≤ cV c) → W4 c l.length (cat (prS (cK c) (cV c)) l ++ r, 0) acc = (acc ++ l, (r, 0))
 | [], acc, r, _ => by rw [List.append_nil]; rfl
 | p :: l, acc, r, h => by
  have hp := h p (by simp)
  rw [List.length_cons, W4, U0, B5 hc hp.1 hp.2]
  dsimp only
  rw [Zbp hc l _ r fun q hq => h q (by simp [hq]), List.append_assoc]; rfl
theorem Zbl : ∀ (z i cnt : Nat) (acc : List Int) (r : List UInt8), cnt ≤ i → Y5 z i cnt (zs (4 * z) ++ r, 0) acc = (acc, (r, 0))
 | 0, _, _, _, _, _ => rfl
 | z + 1, i, cnt, acc, r, h => by
  have e : zs (4 * (z + 1)) = be 4 0 ++ zs (4 * z) := by
   rw [show be 4 0 = zs 4 by decide, Wm]; congr 1; omega
  rw [Y5, e, List.append_assoc, Yw (by decide), if_neg (by omega)]
  exact Zbl z (i + 1) cnt acc r (by omega)
theorem B0 (cnt z : Nat) (r : List UInt8) : ∀ (l : List Int) (i : Nat) (acc : List Int), i + l.length = cnt → (∀ x ∈ l, 0 ≤ x ∧ x < 4294967296) → Y5 (l.length + z) i cnt (cat kdS l ++ (zs (4 * z) ++ r), 0) acc = (acc ++ l, (r, 0))
 | [], i, acc, h, _ => by
  rw [List.append_nil, List.length_nil, Nat.zero_add]
  exact Zbl z i cnt acc r (by simpa using Nat.le_of_eq h.symm)
 | x :: l, i, acc, h, hx => by
  have hx0 := hx x (by simp)
  rw [List.length_cons] at h
  rw [List.length_cons, show l.length + 1 + z = (l.length + z) + 1 by omega, Y5, U0]
  unfold kdS
  rw [Yw (v := x.toNat) (by omega)]
  dsimp only
  rw [if_pos (by omega), show ((x.toNat : Nat) : Int) = x by omega]
  have := B0 cnt z r l (i + 1) (acc ++ [x]) (by omega) fun y hy => hx y (by simp [hy])
  rw [List.append_assoc] at this
  exact this
theorem Zas {c : Cfg} (hc : OkC c) : ∀ (z i cnt : Nat) (acc : List (List UInt8)) (r : List UInt8), cnt ≤ i + 1 → Yz c z i cnt (zs ((1 + cK c) * z) ++ r, 0) acc = (acc, (r, 0))
 | 0, _, _, _, _, _ => rfl
 | z + 1, i, cnt, acc, r, h => by
  have e : zs ((1 + cK c) * (z + 1)) = be 1 0 ++ (slt [] (cK c) ++ zs ((1 + cK c) * z)) := by
   unfold slt
   rw [show be 1 0 = zs 1 by decide, List.nil_append, Wm, Wm, List.length_nil, Nat.mul_succ]; congr 1; omega
  have e2 : Xo (slt [] (cK c) ++ (zs ((1 + cK c) * z) ++ r), 0) 0 (cK c) = (([] : List UInt8), (zs ((1 + cK c) * z) ++ r, 0)) := W9 (s := []) (Nat.zero_le _)
  rw [Yz, e, List.append_assoc, List.append_assoc, Yw (by decide)]
  dsimp only
  rw [e2, if_neg (by omega)]
  exact Zas hc z (i + 1) cnt acc r (by omega)
theorem Bc {c : Cfg} (hc : OkC c) (cnt z : Nat) (r : List UInt8) : ∀ (l : List (List UInt8)) (i : Nat) (acc : List (List UInt8)), i + l.length + 1 = cnt → (∀ x ∈ l, x.length ≤ cK c) → Yz c (l.length + z) i cnt (cat (pvS (cK c)) l ++ (zs ((1 + cK c) * z) ++ r), 0) acc = (acc ++ l, (r, 0))
 | [], i, acc, h, _ => by
  rw [List.append_nil, List.length_nil, Nat.zero_add]
  exact Zas hc z i cnt acc r (by simpa using Nat.le_of_eq h.symm)
 | x :: l, i, acc, h, hx => by
  obtain ⟨c1, c2, c3, c4, c5, c6, c7, c8, c9⟩ := hc.nat
  have hx0 := hx x (by simp)
  rw [List.length_cons] at h
  rw [List.length_cons, show l.length + 1 + z = (l.length + z) + 1 by omega, Yz, U0]
  unfold pvS
  rw [List.append_assoc, Yw (v := x.length) (by omega)]
  dsimp only
  rw [W9 hx0, if_pos (by omega)]
  dsimp only
  have := Bc hc cnt z r l (i + 1) (acc ++ [x]) (by omega) fun y hy => hx y (by simp [hy])
  rw [List.append_assoc] at this
  exact this
theorem B6 {c : Cfg} (hc : OkC c) : ∀ (l acc : List Msg) (r : List UInt8), (∀ p ∈ l, p.1.length ≤ cK c ∧ p.2.2.length ≤ cV c) → Xd c l.length (cat (msS (cK c) (cV c)) l ++ r, 0) acc = (acc ++ l, (r, 0))
 | [], acc, r, _ => by rw [List.append_nil]; rfl
 | p :: l, acc, r, h => by
  have hp := h p (by simp)
  have e : msS (cK c) (cV c) p ++ (cat (msS (cK c) (cV c)) l ++ r) = be 1 (if p.2.1 = true then 2 else 1) ++ (prS (cK c) (cV c) (p.1, p.2.2) ++ (cat (msS (cK c) (cV c)) l ++ r)) := by
   unfold msS
   cases p.2.1 <;> rfl
  rw [List.length_cons, Xd, U0, e, Yw (by split <;> decide)]
  dsimp only
  rw [B5 hc (p := (p.1, p.2.2)) hp.1 hp.2]
  dsimp only
  rw [show (decide ((((if p.2.1 = true then 2 else 1 : Nat)) : Int) = 2)) = p.2.1 by cases p.2.1 <;> rfl, B6 hc l _ r fun q hq => h q (by simp [hq]), List.append_assoc]; rfl
theorem Zdz {c : Cfg} {n : Nd} (hc : OkC c) (hn : FitN c n) : ∃ r, Yy c (Xq c n) = (n, (r, 0)) := by
 obtain ⟨c1, c2, c3, c4, c5, c6, c7, c8, c9⟩ := hc.nat
 unfold Xq slt
 generalize hz : zs (cBy c - (X4 c n).length) = Z
 refine ⟨Z, ?_⟩
 by_cases h0 : n.1 = 0
 ·obtain ⟨a1, a2, a3, a4⟩ := hn.o h0
  rw [show X4 c n = hdO n ++ bdO c n from if_pos h0]
  have e : hdO n ++ bdO c n ++ Z = be 1 1 ++ (be 1 0 ++ (be 2 n.2.2.2.2.length ++ (be 2 0 ++ (zs 2 ++ (cat (prS (cK c) (cV c)) n.2.2.2.2 ++ Z))))) := by
   unfold hdO bdO
   rw [show be 1 1 = [1] by decide, show be 1 0 = [0] by decide, show be 2 0 = zs 2 by decide, ← List.append_assoc (zs 2), Wm]
   simp only [List.append_assoc, List.cons_append, List.nil_append]
  unfold Yy
  rw [e, Yw (by decide)]
  dsimp only
  rw [Yw (by decide)]
  dsimp only
  rw [Yw (by omega)]
  dsimp only
  rw [Yw (by decide)]
  dsimp only
  rw [B4, if_pos rfl, show min (cLe c) n.2.2.2.2.length = n.2.2.2.2.length by omega, Zbp hc _ _ _ hn.rk]
  rw [List.nil_append]
  exact Prod.ext (Prod.ext h0.symm (Prod.ext a1.symm (Prod.ext a2.symm (Prod.ext a3.symm rfl)))) rfl
 ·obtain ⟨a1, a2, a3, a4, a5⟩ := hn.i h0
  have hlv := hn.lv
  rw [show X4 c n = hdI n ++ bdI c n from if_neg h0]
  have e : hdI n ++ bdI c n ++ Z = be 1 2 ++ (be 1 n.1.toNat ++ (be 2 n.2.1.length ++ (be 2 n.2.2.2.1.length ++ (zs 2 ++ (cat kdS n.2.1 ++ (zs (4 * (cFa c - n.2.1.length)) ++ (cat (pvS (cK c)) n.2.2.1 ++ (zs ((1 + cK c) * (cFa c - 1 - n.2.2.1.length)) ++ (cat (msS (cK c) (cV c)) n.2.2.2.1 ++ Z))))))))) := by
   unfold hdI bdI
   rw [show be 1 2 = [2] by decide]
   simp only [List.append_assoc, List.cons_append, List.nil_append]
  unfold Yy
  rw [e, Yw (by decide)]
  dsimp only
  rw [Yw (by omega)]
  dsimp only
  rw [Yw (by omega)]
  dsimp only
  rw [Yw (by omega)]
  dsimp only
  rw [B4, if_neg (by decide), if_pos rfl]
  unfold Ze4
  have k1 := B0 n.2.1.length (cFa c - n.2.1.length) (cat (pvS (cK c)) n.2.2.1 ++ (zs ((1 + cK c) * (cFa c - 1 - n.2.2.1.length)) ++ (cat (msS (cK c) (cV c)) n.2.2.2.1 ++ Z))) n.2.1 0 [] (by omega) hn.kd
  rw [show n.2.1.length + (cFa c - n.2.1.length) = cFa c by omega] at k1
  have k2 := Bc hc n.2.1.length (cFa c - 1 - n.2.2.1.length) (cat (msS (cK c) (cV c)) n.2.2.2.1 ++ Z) n.2.2.1 0 [] (by omega) hn.pk
  rw [show n.2.2.1.length + (cFa c - 1 - n.2.2.1.length) = cFa c - 1 by omega] at k2
  rw [k1]
  dsimp only
  rw [k2]
  dsimp only
  rw [show min (cBu c) n.2.2.2.1.length = n.2.2.2.1.length by omega, B6 hc _ _ _ hn.ms]
  refine Prod.ext (Prod.ext ?_ (Prod.ext rfl (Prod.ext rfl (Prod.ext rfl a1.symm)))) rfl
  show (if n.1.toNat > 1 then (n.1.toNat : Int) else 1) = n.1
  split <;> omega
theorem Za0 (c : Cfg) : ∀ (m : Nat) (s : List UInt8 × Int) (acc : List Pr), (W4 c m s acc).1.length = acc.length + m
 | 0, _, _ => rfl
 | m + 1, s, acc => by rw [W4, Za0 c m, List.length_append, List.length_singleton]; omega
theorem Bm (c : Cfg) : ∀ (m : Nat) (s : List UInt8 × Int) (acc : List Msg), (Xd c m s acc).1.length = acc.length + m
 | 0, _, _ => rfl
 | m + 1, s, acc => by rw [Xd, Bm c m, List.length_append, List.length_singleton]; omega
theorem Bg (c : Cfg) : ∀ (m i cnt : Nat) (s : List UInt8 × Int) (acc : List (List UInt8)), (Yz c m i cnt s acc).1.length ≤ acc.length + m
 | 0, _, _, _, _ => Nat.le_refl _
 | m + 1, i, cnt, s, acc => by
  rw [Yz]
  refine Nat.le_trans (Bg c m _ _ _ _) ?_
  split
  ·rw [List.length_append, List.length_singleton]; omega
  ·omega
theorem Uk : ∀ (m i cnt : Nat) (s : List UInt8 × Int) (acc : List Int), (∀ x ∈ acc, 0 ≤ x ∧ x < 4294967296) → (Y5 m i cnt s acc).1.length ≤ acc.length + m ∧ ∀ x ∈ (Y5 m i cnt s acc).1, 0 ≤ x ∧ x < 4294967296
 | 0, _, _, _, _, h => ⟨Nat.le_refl _, h⟩
 | m + 1, i, cnt, s, acc, h => by
  rw [Y5]
  have hv := Xw s 4
  by_cases q : i < cnt
  ·rw [if_pos q]
   obtain ⟨g1, g2⟩ := Uk m (i + 1) cnt (Zw s 4).2 (acc ++ [((Zw s 4).1 : Int)]) (by
    intro x hx
    rcases List.mem_append.1 hx with hx | hx
    ·exact h x hx
    ·rw [List.mem_singleton] at hx; omega)
   rw [List.length_append, List.length_singleton] at g1
   exact ⟨by omega, g2⟩
  ·rw [if_neg q]
   obtain ⟨g1, g2⟩ := Uk m (i + 1) cnt (Zw s 4).2 acc h
   exact ⟨by omega, g2⟩
structure Rd (n : Nd) : Prop where
 kids : n.2.1.length ≤ 64
 pivs : n.2.2.1.length ≤ 64
 buf : n.2.2.2.1.length ≤ 512
 prs : n.2.2.2.2.length ≤ 1024
 kd : ∀ x ∈ n.2.1, 0 ≤ x ∧ x < 4294967296
theorem Js {c : Cfg} (hc : OkC c) (b : List UInt8) : Rd (Yy c b).1 := by
 obtain ⟨c1, c2, c3, c4, c5, c6, c7, c8, c9⟩ := hc.nat
 unfold Yy
 dsimp only
 split
 ·refine ⟨by simp, by simp, by simp, ?_, by simp⟩
  show (W4 c _ _ []).1.length ≤ 1024
  rw [Za0, List.length_nil]; omega
 ·split
  ·unfold Ze4
   dsimp only
   obtain ⟨g1, g2⟩ := Uk (cFa c) 0 (Zw (Zw (Zw (b, 0) 1).2 1).2 2).1 (X2 (Zw (Zw (Zw (Zw (b, 0) 1).2 1).2 2).2 2).2 2) [] (by simp)
   rw [List.length_nil] at g1
   refine ⟨by show (Y5 _ _ _ _ _).1.length ≤ 64; omega, ?_, ?_, by simp, g2⟩
   ·show (Yz c _ _ _ _ []).1.length ≤ 64
    refine Nat.le_trans (Bg c _ _ _ _ _) ?_
    rw [List.length_nil]; omega
   ·show (Xd c _ _ []).1.length ≤ 512
    rw [Bm, List.length_nil]; omega
  ·exact ⟨by simp, by simp, by simp, by simp, by simp⟩
theorem Zhc {k : Nat} {a b : List Int} (ha : a.length ≤ 1000000) (hk : a.length < k) : Q43.f k a b = some (decide (a = b)) := by
 unfold Q43.f
 by_cases h : a.length = b.length
 ·rw [if_neg (by simp [h])]
  have := Xu (F := fun k i => Q43.l0 k a b i) (eqb := fun x y => decide (x = y)) (fun x y => rfl) h ha (fun k i => rfl) k 0 (by omega) (by omega)
  simpa using this
 ·rw [if_pos (by simp; omega)]
  have : a ≠ b := fun e => h (by rw [e])
  simp [this]
def Yu : Nd := (0, [], [], [], [])
def X7 (c : Cfg) (b : List UInt8) (n : Nd) (e : Int) : Nd × Int := if e = 0 then (if Y9 c We n = true then (if Xq c n = b then (n, 0) else (Yu, 12)) else (Yu, 12)) else (Yu, 12)
def Yp (c : Cfg) (b : List UInt8) : Nd × Int := if okB c = true then X7 c b (Yy c b).1 (Yy c b).2.2 else (Yu, 2)
theorem Zf0 {a b : List UInt8} : toB a = toB b ↔ a = b := ⟨fun e => by rw [← X1 a, e, X1], fun e => by rw [e]⟩
theorem Ba {c : Cfg} {n : Nd} (hok : okB c = true) (hn : FitN c n) : (Xq c n).length = cBy c := Y4 (Ux hok hn).1
theorem Zg1 {c : Cfg} {b : List UInt8} (hok : okB c = true) {n : Nd} {s : List UInt8 × Int} {k : Nat} (hk : 70000 < k) (hl : ∀ x ∈ n.2.1, 0 ≤ x ∧ x < 4294967296) (he : Q7.f k c n = some (G7 c n)) : ((Q103.f ((iS s).1, (iS s).2)).bind fun r9 => (if (!decide (r9 = 0)) = true then (some (Yu, (12 : Int))) else ((Q7.f k c n).bind fun r10 => (if (!decide (r10.2 = 0)) = true then some (Yu, (12 : Int)) else ((Q43.f k r10.1 (toB b)).bind fun r11 => (if (!r11) = true then some (Yu, (12 : Int)) else some (n, (0 : Int)))))))) = some (X7 c b n s.2) := by
 unfold Q103.f X7 iS
 rw [Option.bind_some, he]
 dsimp only
 by_cases h0 : s.2 = 0
 ·rw [if_neg (by simp [h0]), if_pos h0, Option.bind_some]
  unfold G7
  rw [if_pos hok]
  cases hr : Y9 c We n with
  | false => rfl
  | true =>
   have hn := Wo (Xl hok) hl hr
   have r2 := (Ux hok hn).2.1
   rw [if_pos rfl, if_pos rfl]
   dsimp only
   rw [if_neg (by simp), Zhc (by rw [Z1, Ba hok hn]; omega) (by rw [Z1, Ba hok hn]; omega), Option.bind_some]
   by_cases e : Xq c n = b
   ·rw [if_neg (by simp [e]), if_pos e]
   ·rw [if_pos (by simp [Zf0, e]), if_neg e]
 ·rw [if_pos (by simp [h0]), if_neg h0]
theorem Zgh {l : List Int} (hl : l.length ≤ 1000000) : Q35.f l = some l := by
 unfold Q35.f
 rw [if_pos (by simp; omega)]
 simp
theorem Zhd {c : Cfg} {b : List UInt8} (hb : b.length ≤ 100000) : Ev (fun k => Q6.f k c (toB b)) (Yp c b) := by
 by_cases hok : okB c = true
 ·have hc := Xl hok
  have hr := Js hc b
  obtain ⟨k1, h1⟩ := Zgq (c := c) (n := (Yy c b).1) (by have := hr.kids; omega) (by have := hr.pivs; omega) (by have := hr.buf; omega) (by have := hr.prs; omega) hr.kd
  refine ⟨k1 + 80000, fun k hk => ?_⟩
  have he := h1 k (by omega)
  have tl := Zg1 (b := b) (s := (Yy c b).2) hok (show 70000 < k by omega) hr.kd he
  have hi := hc.int
  unfold Yp
  rw [if_pos hok, ← tl]
  show Q6.f k c (toB b) = _
  unfold Q6.f Q101.f
  rw [Xr, Zao, Option.bind_some, if_pos hok, if_neg (by simp), Zgh (by rw [Z1]; omega), Option.bind_some, Option.bind_some]
  dsimp only
  have l1 := Xw (b, 0) 1
  have l2 := Xw (Zw (b, 0) 1).2 1
  have l3 := Xw (Zw (Zw (b, 0) 1).2 1).2 2
  have l4 := Xw (Zw (Zw (Zw (b, 0) 1).2 1).2 2).2 2
  rw [show Q104.f k (toB b, (0 : Int)) 1 = _ from Ww (b, 0) (w := 1) (.inl rfl) (by omega), Option.bind_some]
  dsimp only
  rw [show Q104.f k _ 1 = _ from Ww (Zw (b, 0) 1).2 (w := 1) (.inl rfl) (by omega), Option.bind_some]
  dsimp only
  rw [show Q104.f k _ 2 = _ from Ww (Zw (Zw (b, 0) 1).2 1).2 (w := 2) (.inr (.inl rfl)) (by omega), Option.bind_some]
  dsimp only
  rw [show Q104.f k _ 2 = _ from Ww (Zw (Zw (Zw (b, 0) 1).2 1).2 2).2 (w := 2) (.inr (.inl rfl)) (by omega), Option.bind_some]
  dsimp only
  rw [show Q108.f k _ 2 = _ from Zgb (Zw (Zw (Zw (Zw (b, 0) 1).2 1).2 2).2 2).2 (n := 2) (by omega) (by omega), Option.bind_some]
  dsimp only
  by_cases q1 : (Zw (b, 0) 1).1 = 1
  ·have er : Yy c b = _ := if_pos q1
   rw [er, if_pos (decide_eq_true (by omega)), Zv (x := ((Zw (Zw (Zw (b, 0) 1).2 1).2 2).1 : Int)) (by omega) (by omega)]
   rw [show Q12.f k c _ (((Zw (Zw (Zw (b, 0) 1).2 1).2 2).1 : Nat) : Int) = _ from Zap hc (Zw (Zw (Zw (b, 0) 1).2 1).2 2).1 (min (cLe c) (Zw (Zw (Zw (b, 0) 1).2 1).2 2).1) 0 k (X2 (Zw (Zw (Zw (Zw (b, 0) 1).2 1).2 2).2 2).2 2) [] (by omega) (by have := hc.nat; omega) (by have := hc.nat; simp; omega), Option.bind_some]
   rfl
  ·rw [if_neg (by simp only [decide_eq_true_eq]; omega)]
   by_cases q2 : (Zw (b, 0) 1).1 = 2
   ·have er : Yy c b = _ := (if_neg q1).trans (if_pos q2)
    rw [er, if_pos (decide_eq_true (by omega)), Zv (x := ((Zw (Zw (Zw (b, 0) 1).2 1).2 2).1 : Int)) (by omega) (by omega), Zv (x := ((Zw (Zw (b, 0) 1).2 1).1 : Int)) (by omega) (by omega), Zv (x := ((Zw (Zw (Zw (Zw (b, 0) 1).2 1).2 2).2 2).1 : Int)) (by omega) (by omega),
     show (if (((Zw (Zw (b, 0) 1).2 1).1 : Nat) : Int) > 1 then (((Zw (Zw (b, 0) 1).2 1).1 : Nat) : Int) else 1) = (if (Zw (Zw (b, 0) 1).2 1).1 > 1 then (((Zw (Zw (b, 0) 1).2 1).1 : Nat) : Int) else 1) by split <;> split <;> omega]
    rw [show Q11.f k c _ _ _ _ = _ from Gz hc (if (Zw (Zw (b, 0) 1).2 1).1 > 1 then (((Zw (Zw (b, 0) 1).2 1).1 : Nat) : Int) else 1) (Zw (Zw (Zw (b, 0) 1).2 1).2 2).1 (Zw (Zw (Zw (Zw (b, 0) 1).2 1).2 2).2 2).1 (by omega) (cFa c) 0 k (X2 (Zw (Zw (Zw (Zw (b, 0) 1).2 1).2 2).2 2).2 2) [] (by omega) (by have := hc.nat; omega) (by have := hc.nat; simp; omega), Option.bind_some]
    rfl
   ·have er : Yy c b = _ := (if_neg q1).trans (if_neg q2)
    rw [er, if_neg (by simp only [decide_eq_true_eq]; omega)]
    rfl
 ·refine ⟨0, fun k _ => ?_⟩
  show Q6.f k c (toB b) = _
  unfold Q6.f Yp
  rw [Xr, Zao, Option.bind_some, if_neg hok, if_neg hok, if_pos (by simp)]
  rfl
theorem Gy {c : Cfg} {b : List UInt8} (hok : okB c = true) : (Yp c b = ((Yy c b).1, 0) ∧ Y9 c We (Yy c b).1 = true ∧ Xq c (Yy c b).1 = b) ∨ Yp c b = (Yu, 12) := by
 unfold Yp X7
 rw [if_pos hok]
 by_cases h1 : (Yy c b).2.2 = 0
 ·rw [if_pos h1]
  by_cases h2 : Y9 c We (Yy c b).1 = true
  ·rw [if_pos h2]
   by_cases h3 : Xq c (Yy c b).1 = b
   ·rw [if_pos h3]; exact .inl ⟨rfl, h2, h3⟩
   ·rw [if_neg h3]; exact .inr rfl
  ·rw [if_neg h2]; exact .inr rfl
 ·rw [if_neg h1]; exact .inr rfl
theorem Zev {c : Cfg} {n : Nd} (hok : okB c = true) (hl : ∀ x ∈ n.2.1, 0 ≤ x ∧ x < 4294967296) (hr : Y9 c We n = true) : Yp c (Xq c n) = (n, 0) := by
 obtain ⟨r, h⟩ := Zdz (Xl hok) (Wo (Xl hok) hl hr)
 unfold Yp X7
 rw [if_pos hok, h]
 dsimp only
 rw [if_pos rfl, if_pos hr, if_pos rfl]
theorem Zby {a b : Nd} (h1 : a.2.1.length ≤ 1500) (h2 : a.2.2.1.length ≤ 1500) (h3 : a.2.2.2.1.length ≤ 1500) (h4 : a.2.2.2.2.length ≤ 1500) {k : Nat} (hk : 2000 < k) : Q87.f k a b = some (decide (a = b)) := by
 unfold Q87.f
 rw [Zbs (by omega) (by omega), Zbu (by omega) (by omega), Zam (by omega) (by omega), Zbv (by omega) (by omega)]
 obtain ⟨a1, a2, a3, a4, a5⟩ := a
 obtain ⟨b1, b2, b3, b4, b5⟩ := b
 simp only [Option.bind_some, decide_eq_true_eq, Prod.mk.injEq]
 by_cases e1 : a1 = b1 <;> by_cases e2 : a2 = b2 <;> by_cases e3 : a3 = b3 <;> by_cases e4 : a4 = b4 <;> by_cases e5 : a5 = b5 <;> simp [e1, e2, e3, e4, e5]
theorem Yh {α : Type} (l : List α) (a b : Nat) : l.drop (a + b) = (l.drop a).drop b := by rw [List.drop_drop]
theorem Jl {s r : List UInt8} {n : Nat} : (slt s n ++ r).take s.length = s := by
 unfold slt
 rw [List.append_assoc, List.take_left]
def W8 (K V : Nat) : Nat → List UInt8 → List Pr
 | 0, _ => []
 | m + 1, b => if 3 + K + V ≤ b.length then ((b.drop 3).take (rdv (b.take 1)), (b.drop (3 + K)).take (rdv ((b.drop 1).take 2))) :: W8 K V m (b.drop (3 + K + V)) else []
def Wu (K V : Nat) : Nat → List UInt8 → List Msg
 | 0, _ => []
 | m + 1, b => if 4 + K + V ≤ b.length then ((b.drop 4).take (rdv ((b.drop 1).take 1)), decide (b.headD 0 = 2), (b.drop (4 + K)).take (rdv ((b.drop 2).take 2))) :: Wu K V m (b.drop (4 + K + V)) else []
def Wj : Nat → List UInt8 → List Int
 | 0, _ => []
 | m + 1, b => (rdv (b.take 4) : Int) :: Wj m (b.drop 4)
def Vd (K : Nat) : Nat → List UInt8 → List (List UInt8)
 | 0, _ => []
 | m + 1, b => (b.drop 1).take (rdv (b.take 1)) :: Vd K m (b.drop (1 + K))
theorem Zcl {K V : Nat} {p : Pr} {r : List UInt8} (hK : K < 256) (hV : V < 65536) (h1 : p.1.length ≤ K) (h2 : p.2.length ≤ V) :
  ((prS K V p ++ r).drop 3).take (rdv ((prS K V p ++ r).take 1)) = p.1 ∧ ((prS K V p ++ r).drop (3 + K)).take (rdv (((prS K V p ++ r).drop 1).take 2)) = p.2 := by
 have e : prS K V p ++ r = be 1 p.1.length ++ (be 2 p.2.length ++ (slt p.1 K ++ (slt p.2 V ++ r))) := by unfold prS; simp only [List.append_assoc]
 have d1 : (prS K V p ++ r).drop 1 = be 2 p.2.length ++ (slt p.1 K ++ (slt p.2 V ++ r)) := by rw [e, Yl (Zz _ _)]
 have d3 : (prS K V p ++ r).drop 3 = slt p.1 K ++ (slt p.2 V ++ r) := by rw [show 3 = 1 + 2 from rfl, Yh, d1, Yl (Zz _ _)]
 have d4 : (prS K V p ++ r).drop (3 + K) = slt p.2 V ++ r := by rw [Yh, d3, Yl (Y4 h1)]
 rw [d3, d4, d1, e, Xa (Zz _ _), Xa (Zz _ _), Xv (by omega), Xv (by omega), Jl, Jl]
 exact ⟨rfl, rfl⟩
theorem J6 {K V : Nat} (hK : K < 256) (hV : V < 65536) : ∀ (l : List Pr) (r : List UInt8), (∀ p ∈ l, p.1.length ≤ K ∧ p.2.length ≤ V) → W8 K V l.length (cat (prS K V) l ++ r) = l
 | [], _, _ => rfl
 | p :: l, r, h => by
  have hp := h p (by simp)
  have e : cat (prS K V) (p :: l) ++ r = prS K V p ++ (cat (prS K V) l ++ r) := by unfold cat; rw [List.flatMap_cons, List.append_assoc]
  obtain ⟨g1, g2⟩ := Zcl (r := cat (prS K V) l ++ r) hK hV hp.1 hp.2
  rw [e, List.length_cons, W8, if_pos (by rw [List.length_append, Xe hp.1 hp.2]; omega), g1, g2, Yl (Xe hp.1 hp.2), J6 hK hV l r fun q hq => h q (by simp [hq])]
theorem Bx {K V : Nat} (hK : K < 256) (hV : V < 65536) : ∀ (l : List Msg) (r : List UInt8), (∀ p ∈ l, p.1.length ≤ K ∧ p.2.2.length ≤ V) → Wu K V l.length (cat (msS K V) l ++ r) = l
 | [], _, _ => rfl
 | p :: l, r, h => by
  have hp := h p (by simp)
  have e : cat (msS K V) (p :: l) ++ r = (if p.2.1 = true then 2 else 1) :: (prS K V (p.1, p.2.2) ++ (cat (msS K V) l ++ r)) := by unfold cat msS; rw [List.flatMap_cons, List.append_assoc, List.cons_append]
  obtain ⟨g1, g2⟩ := Zcl (p := (p.1, p.2.2)) (r := cat (msS K V) l ++ r) hK hV hp.1 hp.2
  have hl : (prS K V (p.1, p.2.2)).length = 3 + K + V := Xe hp.1 hp.2
  rw [e, List.length_cons, Wu, if_pos (by rw [List.length_cons, List.length_append, hl]; omega), show 4 + K + V = (3 + K + V) + 1 by omega, show 4 + K = (3 + K) + 1 by omega, List.drop_succ_cons, List.drop_succ_cons, List.drop_succ_cons, List.drop_succ_cons, List.drop_succ_cons, List.drop_zero, g1, g2, Yl hl, Bx hK hV l r fun q hq => h q (by simp [hq])]
  have hb : decide ((((if p.2.1 = true then 2 else 1) :: (prS K V (p.1, p.2.2) ++ (cat (msS K V) l ++ r))) : List UInt8).headD 0 = 2) = p.2.1 := by
   rw [List.headD_cons]
   cases p.2.1 <;> decide
  rw [hb]
theorem Bb : ∀ (l : List Int) (r : List UInt8), (∀ x ∈ l, 0 ≤ x ∧ x < 4294967296) → Wj l.length (cat kdS l ++ r) = l
 | [], _, _ => rfl
 | x :: l, r, h => by
  have hx := h x (by simp)
  have e : cat kdS (x :: l) ++ r = kdS x ++ (cat kdS l ++ r) := by unfold cat; rw [List.flatMap_cons, List.append_assoc]
  rw [e, List.length_cons, Wj, Xa (show (kdS x).length = 4 from Zz _ _), Yl (show (kdS x).length = 4 from Zz _ _), Bb l r fun q hq => h q (by simp [hq])]
  unfold kdS
  rw [Xv (by omega)]
  congr 1; omega
theorem Bt {K : Nat} (hK : K < 256) : ∀ (l : List (List UInt8)) (r : List UInt8), (∀ p ∈ l, p.length ≤ K) → Vd K l.length (cat (pvS K) l ++ r) = l
 | [], _, _ => rfl
 | p :: l, r, h => by
  have hp := h p (by simp)
  have e : cat (pvS K) (p :: l) ++ r = be 1 p.length ++ (slt p K ++ (cat (pvS K) l ++ r)) := by unfold cat pvS; rw [List.flatMap_cons]; simp only [List.append_assoc]
  have e2 : cat (pvS K) (p :: l) ++ r = pvS K p ++ (cat (pvS K) l ++ r) := by unfold cat; rw [List.flatMap_cons, List.append_assoc]
  rw [List.length_cons, Vd, e, Xa (Zz _ _), Yl (Zz _ _), Xv (by omega), Jl, ← e, e2, Yl (Vn hp), Bt hK l r fun q hq => h q (by simp [hq])]
def Vy (c : Cfg) (b : List UInt8) : Nd :=
 if rdv ((b.drop 1).take 1) = 0 then (0, [], [], [], W8 (cK c) (cV c) (rdv ((b.drop 2).take 2)) (b.drop 8))
 else ((rdv ((b.drop 1).take 1) : Int), Wj (min (rdv ((b.drop 2).take 2)) (cFa c)) (b.drop 8), Vd (cK c) (min (rdv ((b.drop 2).take 2) - 1) (cFa c - 1)) (b.drop (8 + 4 * cFa c)), Wu (cK c) (cV c) (rdv ((b.drop 4).take 2)) (b.drop (8 + 4 * cFa c + (1 + cK c) * (cFa c - 1))), [])
theorem Ze5 {c : Cfg} {n : Nd} (hc : OkC c) (hn : FitN c n) : Vy c (Xq c n) = n := by
 obtain ⟨c1, c2, c3, c4, c5, c6, c7, c8, c9⟩ := hc.nat
 unfold Vy Xq slt
 by_cases h0 : n.1 = 0
 ·obtain ⟨a1, a2, a3, a4⟩ := hn.o h0
  rw [show X4 c n = hdO n ++ bdO c n from if_pos h0]
  have e : hdO n ++ bdO c n ++ zs (cBy c - (hdO n ++ bdO c n).length) = 1 :: 0 :: (be 2 n.2.2.2.2.length ++ (zs 4 ++ (bdO c n ++ zs (cBy c - (hdO n ++ bdO c n).length)))) := by
   unfold hdO; simp only [List.append_assoc, List.cons_append]
  have d8 : (hdO n ++ bdO c n ++ zs (cBy c - (hdO n ++ bdO c n).length)).drop 8 = bdO c n ++ zs (cBy c - (hdO n ++ bdO c n).length) := by rw [List.append_assoc, Yl (Gr n)]
  have t1 : ((hdO n ++ bdO c n ++ zs (cBy c - (hdO n ++ bdO c n).length)).drop 1).take 1 = [0] := by rw [e]; rfl
  have t2 : ((hdO n ++ bdO c n ++ zs (cBy c - (hdO n ++ bdO c n).length)).drop 2).take 2 = be 2 n.2.2.2.2.length := by
   rw [e]; exact Xa (Zz _ _)
  rw [t1, t2, d8, if_pos (by rfl), Xv (by omega)]
  unfold bdO
  rw [J6 (by omega) (by omega) _ _ hn.rk]
  exact Prod.ext h0.symm (Prod.ext a1.symm (Prod.ext a2.symm (Prod.ext a3.symm rfl)))
 ·obtain ⟨a1, a2, a3, a4, a5⟩ := hn.i h0
  have hlv := hn.lv
  rw [show X4 c n = hdI n ++ bdI c n from if_neg h0]
  generalize hz : zs (cBy c - (hdI n ++ bdI c n).length) = Z
  have e : hdI n ++ bdI c n ++ Z = 2 :: (be 1 n.1.toNat ++ (be 2 n.2.1.length ++ (be 2 n.2.2.2.1.length ++ (zs 2 ++ (bdI c n ++ Z))))) := by
   unfold hdI; simp only [List.append_assoc, List.cons_append]
  have d1 : (hdI n ++ bdI c n ++ Z).drop 1 = be 1 n.1.toNat ++ (be 2 n.2.1.length ++ (be 2 n.2.2.2.1.length ++ (zs 2 ++ (bdI c n ++ Z)))) := by rw [e]; rfl
  have d2 : (hdI n ++ bdI c n ++ Z).drop 2 = be 2 n.2.1.length ++ (be 2 n.2.2.2.1.length ++ (zs 2 ++ (bdI c n ++ Z))) := by rw [show 2 = 1 + 1 from rfl, Yh, d1, Yl (Zz _ _)]
  have d4 : (hdI n ++ bdI c n ++ Z).drop 4 = be 2 n.2.2.2.1.length ++ (zs 2 ++ (bdI c n ++ Z)) := by rw [show 4 = 2 + 2 from rfl, Yh, d2, Yl (Zz _ _)]
  have d8 : (hdI n ++ bdI c n ++ Z).drop 8 = cat kdS n.2.1 ++ (zs (4 * (cFa c - n.2.1.length)) ++ (cat (pvS (cK c)) n.2.2.1 ++ (zs ((1 + cK c) * (cFa c - 1 - n.2.2.1.length)) ++ (cat (msS (cK c) (cV c)) n.2.2.2.1 ++ Z)))) := by
   rw [List.append_assoc, Yl (G6 n)]; unfold bdI; simp only [List.append_assoc]
  have dp : (hdI n ++ bdI c n ++ Z).drop (8 + 4 * cFa c) = cat (pvS (cK c)) n.2.2.1 ++ (zs ((1 + cK c) * (cFa c - 1 - n.2.2.1.length)) ++ (cat (msS (cK c) (cV c)) n.2.2.2.1 ++ Z)) := by
   rw [Yh, d8, show 4 * cFa c = n.2.1.length * 4 + 4 * (cFa c - n.2.1.length) by omega, Yh, Yl (Zbq _), Yl (Yx _)]
  have dm : (hdI n ++ bdI c n ++ Z).drop (8 + 4 * cFa c + (1 + cK c) * (cFa c - 1)) = cat (msS (cK c) (cV c)) n.2.2.2.1 ++ Z := by
   have q : (1 + cK c) * (cFa c - 1) = n.2.2.1.length * (1 + cK c) + (1 + cK c) * (cFa c - 1 - n.2.2.1.length) := by
    rw [Nat.mul_comm n.2.2.1.length, ← Nat.mul_add]; congr 1; omega
   rw [Yh, dp, q, Yh, Yl (Zav hn), Yl (Yx _)]
  rw [d1, d2, d4, d8, dp, dm, Xa (Zz _ _), Xa (Zz _ _), Xa (Zz _ _), Xv (by omega), Xv (by omega), Xv (by omega), if_neg (by omega), show min n.2.1.length (cFa c) = n.2.1.length by omega, show min (n.2.1.length - 1) (cFa c - 1) = n.2.2.1.length by omega,
   Bb _ _ hn.kd, Bt (by omega) _ _ hn.pk, Bx (by omega) (by omega) _ _ hn.ms]
  exact Prod.ext (by show ((n.1.toNat : Nat) : Int) = n.1; omega) (Prod.ext rfl (Prod.ext rfl (Prod.ext rfl a1.symm)))
theorem Zfq {b : List UInt8} {i q : Nat} (h : i + q < b.length) : (b.drop i).take (q + 1) = (b.drop i).take q ++ [b.getD (i + q) 0] := by
 rw [List.take_add_one, List.getElem?_drop, List.getElem?_eq_getElem h, List.getD_eq_getElem?_getD, List.getElem?_eq_getElem h]
 rfl
theorem Zfd {b : List UInt8} {i w : Nat} (hw : w ≤ 4) (hb : b.length ≤ 100000) (h : i + w ≤ b.length) : ∀ (m q k : Nat), w = q + m → m < k → Q95.l0 k b (i : Int) (w : Int) ((rdv ((b.drop i).take q) : Nat) : Int) (q : Int) = some ((rdv ((b.drop i).take w) : Nat) : Int)
 | 0, q, k + 1, hq, hk => by
  rw [Q95.l0, if_neg (by simp only [decide_eq_true_eq]; omega), show q = w by omega]
 | m + 1, q, k + 1, hq, hk => by
  have e : w64 ((i : Int) + (q : Int)) = ((i + q : Nat) : Int) := by rw [Zv (by omega) (by omega)]; omega
  have hv := W5 ((b.drop i).take q)
  have hv2 : 256 ^ ((b.drop i).take q).length ≤ 256 ^ 3 := Nat.pow_le_pow_right (by omega) (by rw [List.length_take]; omega)
  have hc := (b.getD (i + q) 0).toNat_lt
  have e2 : w64 ((w64 (256 * ((rdv ((b.drop i).take q) : Nat) : Int))) + (w64 ((b.getD (i + q) 0).toNat : Int))) = ((rdv ((b.drop i).take (q + 1)) : Nat) : Int) := by
   rw [Zfq (by omega), Zat, Zv (x := 256 * ((rdv ((b.drop i).take q) : Nat) : Int)) (by omega) (by omega), Zv (x := ((b.getD (i + q) 0).toNat : Int)) (by omega) (by omega), Zv (by omega) (by omega)]; omega
  rw [Q95.l0, if_pos (decide_eq_true (by omega)), e, if_pos (by omega), Zcq, e2, Z3 (by omega)]
  exact Zfd hw hb h m (q + 1) k (by omega) (by omega)
theorem atP {b : List UInt8} {i w : Nat} (hw : w ≤ 4) (hb : b.length ≤ 100000) (h : i + w ≤ b.length) {k : Nat} (hk : 10 < k) : Q95.f k b (i : Int) (w : Int) = some ((rdv ((b.drop i).take w) : Nat) : Int) := Zfd hw hb h w 0 k (by omega) (by omega)
theorem Za2 {b : List UInt8} {i n : Nat} (hb : b.length ≤ 100000) (hi : i ≤ 1000000) (hn : n ≤ 10000000) : Q99.f b (i : Int) (n : Int) = some ((b.drop i).take n) := by
 unfold Q99.f
 by_cases h : b.length < i
 ·rw [if_pos (decide_eq_true (by omega)), List.drop_eq_nil_of_le (by omega)]; simp
 ·have e : w64 ((b.length : Int) - (i : Int)) = ((b.length - i : Nat) : Int) := by rw [Zv (by omega) (by omega)]; omega
  rw [if_neg (by simp only [decide_eq_true_eq]; omega), e]
  by_cases h2 : b.length - i < n
  ·have e2 : w64 ((i : Int) + ((b.length - i : Nat) : Int)) = (b.length : Int) := by rw [Zv (by omega) (by omega)]; omega
   rw [if_pos (decide_eq_true (by omega)), e2, if_pos (by omega), Int.toNat_natCast, Int.toNat_natCast, List.take_of_length_le (by rw [List.length_drop]; omega), List.take_of_length_le (by rw [List.length_drop]; omega)]
  ·have e2 : w64 ((i : Int) + (n : Int)) = ((i + n : Nat) : Int) := by rw [Zv (by omega) (by omega)]; omega
   rw [if_neg (by simp only [decide_eq_true_eq]; omega), e2, if_pos (by omega), Int.toNat_natCast, Int.toNat_natCast, show i + n - i = n by omega]
theorem Zag {c : Cfg} {b : List UInt8} (hok : okB c = true) {n : Nd} {k : Nat} (hk : 30000 < k) (hn : MidN n) (hl : ∀ x ∈ n.2.1, 0 ≤ x ∧ x < 4294967296) : ((Q92.f k c n).bind fun r5 => (if (!r5) = true then (some (Yu, (12 : Int))) else ((Q90.f k c n).bind fun r6 => (if (!decide (r6 = b)) = true then (some (Yu, (12 : Int))) else (some (n, (0 : Int))))))) = some (X7 c b n 0) := by
 unfold X7
 rw [Zgj hn (by omega), Option.bind_some, hok, Bool.true_and, if_pos rfl]
 cases hr : Y9 c We n with
 | false => rfl
 | true =>
  rw [if_neg (by simp), if_pos rfl, Zhl hok (Wo (Xl hok) hl hr) (by omega), Option.bind_some]
  by_cases e : Xq c n = b
  ·rw [if_neg (by simp [e]), if_pos e]
  ·rw [if_pos (by simp [e]), if_neg e]
section
variable {c : Cfg} {b : List UInt8}
theorem rd1 (l : List UInt8) : rdv (l.take 1) ≤ 255 := by
 have := W5 (l.take 1)
 have h2 : 256 ^ (l.take 1).length ≤ 256 ^ 1 := Nat.pow_le_pow_right (by omega) (by rw [List.length_take]; omega)
 omega
theorem rd2 (l : List UInt8) : rdv (l.take 2) ≤ 65535 := by
 have := W5 (l.take 2)
 have h2 : 256 ^ (l.take 2).length ≤ 256 ^ 2 := Nat.pow_le_pow_right (by omega) (by rw [List.length_take]; omega)
 omega
theorem rd4 (l : List UInt8) : rdv (l.take 4) < 4294967296 := by
 have := W5 (l.take 4)
 have h2 : 256 ^ (l.take 4).length ≤ 256 ^ 4 := Nat.pow_le_pow_right (by omega) (by rw [List.length_take]; omega)
 omega
theorem Gx (l : List UInt8) (n : Nat) : (l.take n).length ≤ n := by rw [List.length_take]; omega
theorem Wq {x y z : Nat} (h : x + y = z) (hz : z ≤ 1000000000) : w64 ((x : Int) + (y : Int)) = (z : Int) := by rw [Zv (by omega) (by omega)]; omega
theorem Be (hok : okB c = true) (hb : b.length ≤ 3000) (cnt : Nat) : ∀ (m q i k : Nat) (acc : List Pr), cnt = q + m → cnt ≤ 65535 → m + 40000 < k → i ≤ b.length → acc.length * 4 + 8 ≤ i → (∀ p ∈ acc, p.1.length ≤ 255) →
  Q91.l0 k c b 0 (cnt : Int) acc (i : Int) (q : Int) = some (X7 c b (0, [], [], [], acc ++ W8 (cK c) (cV c) m (b.drop i)) 0)
 | 0, q, i, k + 1, acc, h, hcnt, hk, hi, ha, hp => by
  rw [Q91.l0, if_neg (by simp only [decide_eq_true_eq]; omega), W8, List.append_nil]
  exact Zag hok (n := (0, [], [], [], acc)) (by omega) ⟨by simp, by simp, by simp, by show acc.length ≤ 800; omega, by simp, by simp, fun p q => by have := hp p q; omega⟩ (by simp)
 | m + 1, q, i, k + 1, acc, h, hcnt, hk, hi, ha, hp => by
  have hc := Xl hok
  obtain ⟨c1, c2, c3, c4, c5, c6, c7, c8, c9⟩ := hc.nat
  have hn := hc.int
  rw [Q91.l0, Xr, if_pos (decide_eq_true (by omega)), hn.k, hn.v, show w64 ((i : Int) + 3) = ((i + 3 : Nat) : Int) from Wq (y := 3) rfl (by omega), Wq (x := i + 3) (y := cK c) (z := i + (3 + cK c)) (by omega) (by omega), Wq (x := i + (3 + cK c)) (y := cV c) (z := i + (3 + cK c + cV c)) (by omega) (by omega), show w64 ((i : Int) + 1) = ((i + 1 : Nat) : Int) from Wq (y := 1) rfl (by omega), W8]
  by_cases g : i + (3 + cK c + cV c) ≤ b.length
  ·have s1 := rd1 (b.drop i)
   have s2 := rd2 (b.drop (i + 1))
   rw [if_pos (decide_eq_true (by omega)), if_pos (by rw [List.length_drop]; omega), show Q95.f k b (i : Int) 1 = _ from atP (w := 1) (by omega) (by omega) (by omega) (by omega), Option.bind_some, Za2 (by omega) (by omega) (by omega), Option.bind_some, show Q95.f k b ((i + 1 : Nat) : Int) 2 = _ from atP (w := 2) (by omega) (by omega) (by omega) (by omega), Option.bind_some, Za2 (by omega) (by omega) (by omega), Option.bind_some, if_pos (by simp only [List.length_singleton]; omega), Z3 (by omega)]
   rw [Be hok hb cnt m (q + 1) (i + (3 + cK c + cV c)) k _ (by omega) hcnt (by omega) g (by rw [List.length_append, List.length_singleton]; omega) (by
    intro p hp2
    rcases List.mem_append.1 hp2 with hp2 | hp2
    ·exact hp p hp2
    ·rw [List.mem_singleton] at hp2
     rw [hp2]
     have := Gx (b.drop (i + 3)) (rdv ((b.drop i).take 1))
     show (List.take _ _).length ≤ 255
     omega)]
   rw [List.append_assoc, Yh b i 3, Yh b i 1, Yh b i (3 + cK c), Yh b i (3 + cK c + cV c)]
   rfl
  ·rw [if_neg (by simp only [decide_eq_true_eq]; omega), if_neg (by rw [List.length_drop]; omega), List.append_nil]
   exact Zag hok (n := (0, [], [], [], acc)) (by omega) ⟨by simp, by simp, by simp, by show acc.length ≤ 800; omega, by simp, by simp, fun p q => by have := hp p q; omega⟩ (by simp)
theorem B2 (hok : okB c = true) (hb : b.length ≤ 3000) (cnt : Nat) (lv : Int) {ks : List Int} {ps : List (List UInt8)} (k1 : ks.length ≤ 80) (k2 : ∀ x ∈ ks, 0 ≤ x ∧ x < 4294967296) (p1 : ps.length ≤ 80) (p2 : ∀ p ∈ ps, p.length ≤ 255) : ∀ (m q i k : Nat) (acc : List Msg), cnt = q + m → cnt ≤ 65535 → m + 40000 < k → i ≤ b.length → acc.length * 5 + 8 ≤ i → (∀ p ∈ acc, p.1.length ≤ 255) →
  Q91.l1 k c b lv (cnt : Int) ks ps acc (i : Int) (q : Int) = some (X7 c b (lv, ks, ps, acc ++ Wu (cK c) (cV c) m (b.drop i), []) 0)
 | 0, q, i, k + 1, acc, h, hcnt, hk, hi, ha, hp => by
  rw [Q91.l1, if_neg (by simp only [decide_eq_true_eq]; omega), Wu, List.append_nil]
  exact Zag hok (n := (lv, ks, ps, acc, [])) (by omega) ⟨k1, p1, by show acc.length ≤ 800; omega, by simp, fun p q => by have := p2 p q; omega, fun p q => by have := hp p q; omega, by simp⟩ k2
 | m + 1, q, i, k + 1, acc, h, hcnt, hk, hi, ha, hp => by
  have hc := Xl hok
  obtain ⟨c1, c2, c3, c4, c5, c6, c7, c8, c9⟩ := hc.nat
  have hn := hc.int
  rw [Q91.l1, Xr, if_pos (decide_eq_true (by omega)), hn.k, hn.v, show w64 ((i : Int) + 4) = ((i + 4 : Nat) : Int) from Wq (y := 4) rfl (by omega), Wq (x := i + 4) (y := cK c) (z := i + (4 + cK c)) (by omega) (by omega), Wq (x := i + (4 + cK c)) (y := cV c) (z := i + (4 + cK c + cV c)) (by omega) (by omega), show w64 ((i : Int) + 1) = ((i + 1 : Nat) : Int) from Wq (y := 1) rfl (by omega), show w64 ((i : Int) + 2) = ((i + 2 : Nat) : Int) from Wq (y := 2) rfl (by omega), Wu]
  by_cases g : i + (4 + cK c + cV c) ≤ b.length
  ·have s1 := rd1 (b.drop (i + 1))
   have s2 := rd2 (b.drop (i + 2))
   have hh : decide (gtb b (i : Int) = 2) = decide ((b.drop i).headD 0 = 2) := by
    rw [Zcq, List.drop_eq_getElem_cons (show i < b.length by omega), List.headD_cons, List.getD_eq_getElem?_getD, List.getElem?_eq_getElem (show i < b.length by omega), Option.getD_some]
    congr 1
    apply propext
    rw [← UInt8.toNat_inj]
    constructor
    ·intro h; have : (b[i]).toNat = 2 := by omega
     exact this
    ·intro h; have : (b[i]).toNat = 2 := h
     omega
   rw [if_pos (decide_eq_true (by omega)), if_pos (by omega), if_pos (by rw [List.length_drop]; omega), show Q95.f k b ((i + 1 : Nat) : Int) 1 = _ from atP (w := 1) (by omega) (by omega) (by omega) (by omega), Option.bind_some, Za2 (by omega) (by omega) (by omega), Option.bind_some, show Q95.f k b ((i + 2 : Nat) : Int) 2 = _ from atP (w := 2) (by omega) (by omega) (by omega) (by omega), Option.bind_some, Za2 (by omega) (by omega) (by omega), Option.bind_some, if_pos (by simp only [List.length_singleton]; omega), Z3 (by omega), hh]
   rw [B2 hok hb cnt lv k1 k2 p1 p2 m (q + 1) (i + (4 + cK c + cV c)) k _ (by omega) hcnt (by omega) g (by rw [List.length_append, List.length_singleton]; omega) (by
    intro p hp2
    rcases List.mem_append.1 hp2 with hp2 | hp2
    ·exact hp p hp2
    ·rw [List.mem_singleton] at hp2
     rw [hp2]
     have := Gx (b.drop (i + 4)) (rdv ((b.drop (i + 1)).take 1))
     show (List.take _ _).length ≤ 255
     omega)]
   rw [List.append_assoc, Yh b i 4, Yh b i 1, Yh b i 2, Yh b i (4 + cK c), Yh b i (4 + cK c + cV c)]
   rfl
  ·rw [if_neg (by simp only [decide_eq_true_eq]; omega), if_neg (by rw [List.length_drop]; omega), List.append_nil]
   exact Zag hok (n := (lv, ks, ps, acc, [])) (by omega) ⟨k1, p1, by show acc.length ≤ 800; omega, by simp, fun p q => by have := p2 p q; omega, fun p q => by have := hp p q; omega, by simp⟩ k2
theorem Jr (hok : okB c = true) : 8 + 4 * cFa c + (1 + cK c) * (cFa c - 1) ≤ cBy c ∧ cBy c ≤ 65536 ∧ c.2.1 = (cBy c : Int) := by
 simp only [okB, Bool.and_eq_true, decide_eq_true_eq] at hok
 obtain ⟨h1, h2, h3, h4, h5, h6⟩ := hok
 have hc := Wz h1
 obtain ⟨c1, c2, c3, c4, c5, c6, c7, c8, c9⟩ := hc.nat
 have hi := hc.int
 have hB : c.2.1 = (cBy c : Int) := by unfold cBy; omega
 refine ⟨?_, by omega, hB⟩
 have : X8 c = ((8 + (4 + (cFa c - 1) * (5 + cK c) + cBu c * (4 + cK c + cV c)) : Nat) : Int) := by
  unfold X8
  rw [hi.f, hi.b, hi.k, hi.v]
  have : ((cFa c : Int) - 1) = ((cFa c - 1 : Nat) : Int) := by omega
  rw [this]
  push_cast
  rfl
 have e2 : (cFa c - 1) * (5 + cK c) = 4 * (cFa c - 1) + (1 + cK c) * (cFa c - 1) := by
  rw [show 5 + cK c = 4 + (1 + cK c) by omega, Nat.mul_add, Nat.mul_comm _ 4, Nat.mul_comm (cFa c - 1) (1 + cK c)]
 have hm : 0 ≤ cBu c * (4 + cK c + cV c) := Nat.zero_le _
 omega
theorem Bz (hok : okB c = true) (hb : b.length ≤ 3000) (hB : b.length = cBy c) (cnt bf : Nat) (h1 : cnt ≤ 65535) (h2 : bf ≤ 65535) (lv : Int) {ks : List Int} (k1 : ks.length ≤ 80) (k2 : ∀ x ∈ ks, 0 ≤ x ∧ x < 4294967296) : ∀ (m q k : Nat) (acc : List (List UInt8)), min (cnt - 1) (cFa c - 1) = q + m → m + 110000 < k → acc.length ≤ q → (∀ p ∈ acc, p.length ≤ 255) →
  Q91.l2 k c b lv (cnt : Int) (bf : Int) ks acc (q : Int) = some (X7 c b (lv, ks, acc ++ Vd (cK c) m (b.drop (8 + 4 * cFa c + (1 + cK c) * q)), Wu (cK c) (cV c) bf (b.drop (8 + 4 * cFa c + (1 + cK c) * (cFa c - 1))), []) 0)
 | m, q, k + 1, acc, h, hk, ha, hp => by
  have hc := Xl hok
  obtain ⟨c1, c2, c3, c4, c5, c6, c7, c8, c9⟩ := hc.nat
  have hn := hc.int
  obtain ⟨ir, _, _⟩ := Jr hok
  have hm0 : (1 + cK c) * (cFa c - 1) ≤ 65 * 63 := Nat.mul_le_mul (by omega) (by omega)
  have f1 : w64 (8 + (w64 (4 * (cFa c : Int)))) = ((8 + 4 * cFa c : Nat) : Int) := by
   rw [Zv (x := 4 * (cFa c : Int)) (by omega) (by omega), Zv (by omega) (by omega)]; omega
  have f2 : w64 (1 + (cK c : Int)) = ((1 + cK c : Nat) : Int) := by rw [Zv (by omega) (by omega)]; omega
  have f3 : w64 ((cFa c : Int) - 1) = ((cFa c - 1 : Nat) : Int) := by rw [Zv (by omega) (by omega)]; omega
  have f4 : w64 (((1 + cK c : Nat) : Int) * ((cFa c - 1 : Nat) : Int)) = (((1 + cK c) * (cFa c - 1) : Nat) : Int) := by
   rw [← Int.natCast_mul, Zv (by omega) (by omega)]
  have f5 : w64 (((8 + 4 * cFa c : Nat) : Int) + (((1 + cK c) * (cFa c - 1) : Nat) : Int)) = ((8 + 4 * cFa c + (1 + cK c) * (cFa c - 1) : Nat) : Int) := Wq rfl (by omega)
  have l1 := B2 hok hb bf lv k1 k2 (show acc.length ≤ 80 by omega) hp bf 0 (8 + 4 * cFa c + (1 + cK c) * (cFa c - 1)) k [] (by omega) h2 (by omega) (by omega) (by simp; omega) (by simp)
  rw [Q91.l2, hn.k, hn.f, f1, f2, f3, f4, f5, Z3 (by omega)]
  rw [List.nil_append] at l1
  by_cases g : m = 0
  ·subst g
   rw [Vd, List.append_nil]
   by_cases g1 : q + 1 < cnt
   ·rw [if_pos (decide_eq_true (by omega)), if_neg (by simp only [decide_eq_true_eq]; omega)]
    exact l1
   ·rw [if_neg (by simp only [decide_eq_true_eq]; omega)]
    exact l1
  ·obtain ⟨m2, rfl⟩ := Nat.exists_eq_succ_of_ne_zero g
   have hq : (1 + cK c) * q + (1 + cK c) ≤ (1 + cK c) * (cFa c - 1) := by
    rw [← Nat.mul_succ]; exact Nat.mul_le_mul_left _ (by omega)
   have f6 : w64 (((1 + cK c : Nat) : Int) * (q : Int)) = (((1 + cK c) * q : Nat) : Int) := by
    rw [← Int.natCast_mul, Zv (by omega) (by omega)]
   have f7 : w64 (((8 + 4 * cFa c : Nat) : Int) + (((1 + cK c) * q : Nat) : Int)) = ((8 + 4 * cFa c + (1 + cK c) * q : Nat) : Int) := Wq rfl (by omega)
   have f8 : w64 (((8 + 4 * cFa c + (1 + cK c) * q : Nat) : Int) + 1) = ((8 + 4 * cFa c + (1 + cK c) * q + 1 : Nat) : Int) := Wq (y := 1) rfl (by omega)
   have s1 := rd1 (b.drop (8 + 4 * cFa c + (1 + cK c) * q))
   rw [if_pos (decide_eq_true (by omega)), if_pos (decide_eq_true (by omega)), f6, f7, f8, show Q95.f k b ((8 + 4 * cFa c + (1 + cK c) * q : Nat) : Int) 1 = _ from atP (w := 1) (by omega) (by omega) (by omega) (by omega), Option.bind_some, Za2 (by omega) (by omega) (by omega), Option.bind_some, if_pos (by simp only [List.length_singleton]; omega)]
   rw [Bz hok hb hB cnt bf h1 h2 lv k1 k2 m2 (q + 1) k _ (by omega) (by omega) (by rw [List.length_append, List.length_singleton]; omega) (by
    intro p hp2
    rcases List.mem_append.1 hp2 with hp2 | hp2
    ·exact hp p hp2
    ·rw [List.mem_singleton] at hp2
     rw [hp2]
     have := Gx (b.drop (8 + 4 * cFa c + (1 + cK c) * q + 1)) (rdv ((b.drop (8 + 4 * cFa c + (1 + cK c) * q)).take 1))
     omega)]
   rw [List.append_assoc, Vd, Yh b (8 + 4 * cFa c + (1 + cK c) * q) 1, show 8 + 4 * cFa c + (1 + cK c) * (q + 1) = (8 + 4 * cFa c + (1 + cK c) * q) + (1 + cK c) by rw [Nat.mul_succ]; omega, Yh b _ (1 + cK c)]
   rfl
theorem Bo (hok : okB c = true) (hb : b.length ≤ 3000) (hB : b.length = cBy c) (cnt bf : Nat) (h1 : cnt ≤ 65535) (h2 : bf ≤ 65535) (lv : Int) : ∀ (m q k : Nat) (acc : List Int), min cnt (cFa c) = q + m → m + 110100 < k → acc.length ≤ q → (∀ x ∈ acc, 0 ≤ x ∧ x < 4294967296) →
  Q91.l3 k c b lv (cnt : Int) (bf : Int) acc (q : Int) = some (X7 c b (lv, acc ++ Wj m (b.drop (8 + 4 * q)), Vd (cK c) (min (cnt - 1) (cFa c - 1)) (b.drop (8 + 4 * cFa c)), Wu (cK c) (cV c) bf (b.drop (8 + 4 * cFa c + (1 + cK c) * (cFa c - 1))), []) 0)
 | m, q, k + 1, acc, h, hk, ha, hp => by
  have hc := Xl hok
  obtain ⟨c1, c2, c3, c4, c5, c6, c7, c8, c9⟩ := hc.nat
  have hn := hc.int
  obtain ⟨ir, _, _⟩ := Jr hok
  have l2 := Bz hok hb hB cnt bf h1 h2 lv (show acc.length ≤ 80 by omega) hp (min (cnt - 1) (cFa c - 1)) 0 k [] (by omega) (by omega) (by simp) (by simp)
  rw [Nat.mul_zero, Nat.add_zero, List.nil_append] at l2
  rw [Q91.l3, hn.f]
  by_cases g : m = 0
  ·subst g
   rw [Wj, List.append_nil]
   by_cases g1 : q < cnt
   ·rw [if_pos (decide_eq_true (by omega)), if_neg (by simp only [decide_eq_true_eq]; omega)]
    exact l2
   ·rw [if_neg (by simp only [decide_eq_true_eq]; omega)]
    exact l2
  ·obtain ⟨m2, rfl⟩ := Nat.exists_eq_succ_of_ne_zero g
   have f1 : w64 (8 + (w64 (4 * (q : Int)))) = ((8 + 4 * q : Nat) : Int) := by
    rw [Zv (x := 4 * (q : Int)) (by omega) (by omega), Zv (by omega) (by omega)]; omega
   have s1 := rd4 (b.drop (8 + 4 * q))
   rw [if_pos (decide_eq_true (by omega)), if_pos (decide_eq_true (by omega)), f1, show Q95.f k b ((8 + 4 * q : Nat) : Int) 4 = _ from atP (w := 4) (by omega) (by omega) (by omega) (by omega), Option.bind_some, Zdq s1, if_pos (by simp only [List.length_singleton]; omega), Z3 (by omega)]
   rw [Bo hok hb hB cnt bf h1 h2 lv m2 (q + 1) k _ (by omega) (by omega) (by rw [List.length_append, List.length_singleton]; omega) (by
    intro p hp2
    rcases List.mem_append.1 hp2 with hp2 | hp2
    ·exact hp p hp2
    ·rw [List.mem_singleton] at hp2
     omega)]
   rw [List.append_assoc, Wj, show 8 + 4 * (q + 1) = (8 + 4 * q) + 4 by omega, Yh b (8 + 4 * q) 4]
   rfl
end
def Zdh (c : Cfg) (b : List UInt8) : Nd × Int := if okB c = true then (if b.length = cBy c then X7 c b (Vy c b) 0 else (Yu, 12)) else (Yu, 2)
theorem Zfo {c : Cfg} {b : List UInt8} (hl : c.2.1 ≤ 3000) {k : Nat} (hk : 200000 < k) : Q91.f k c b = some (Zdh c b) := by
 unfold Q91.f Zdh
 rw [Xr, Bk c (by omega), Option.bind_some]
 by_cases hok : okB c = true
 ·obtain ⟨ir, r2, r3⟩ := Jr hok
  have hc := Xl hok
  obtain ⟨c1, c2, c3, c4, c5, c6, c7, c8, c9⟩ := hc.nat
  rw [if_neg (by simp [hok]), if_pos hok]
  by_cases g : b.length = cBy c
  ·have s1 := rd1 (b.drop 1)
   have s2 := rd2 (b.drop 2)
   have s3 := rd2 (b.drop 4)
   rw [if_neg (by simp only [Bool.not_eq_true', decide_eq_false_iff_not]; omega), if_pos g, show Q95.f k b 1 1 = _ from atP (i := 1) (w := 1) (by omega) (by omega) (by omega) (by omega), Option.bind_some, show Q95.f k b 2 2 = _ from atP (i := 2) (w := 2) (by omega) (by omega) (by omega) (by omega), Option.bind_some, show Q95.f k b 4 2 = _ from atP (i := 4) (w := 2) (by omega) (by omega) (by omega) (by omega), Option.bind_some]
   unfold Vy
   by_cases z : rdv ((b.drop 1).take 1) = 0
   ·rw [if_pos (decide_eq_true (by omega)), if_pos z, z]
    exact Be hok (by omega) (rdv ((b.drop 2).take 2)) (rdv ((b.drop 2).take 2)) 0 8 k [] (by omega) (by omega) (by omega) (by omega) (by simp) (by simp)
   ·rw [if_neg (by simp only [decide_eq_true_eq]; omega), if_neg z]
    have := Bo hok (by omega) g (rdv ((b.drop 2).take 2)) (rdv ((b.drop 4).take 2)) (by omega) (by omega) ((rdv ((b.drop 1).take 1) : Nat) : Int) (min (rdv ((b.drop 2).take 2)) (cFa c)) 0 k [] (by omega) (by omega) (by simp) (by simp)
    exact this
  ·rw [if_pos (by simp only [Bool.not_eq_true', decide_eq_true_eq, decide_eq_false_iff_not, Bool.not_eq_eq_eq_not, Bool.not_true]; omega), if_neg g]
   rfl
 ·rw [if_pos (by simp [hok]), if_neg hok]
  rfl
theorem Za9 : ∀ (m : Nat) (b : List UInt8), ∀ x ∈ Wj m b, 0 ≤ x ∧ x < 4294967296
 | 0, _, x, h => by simp [Wj] at h
 | m + 1, b, x, h => by
  rw [Wj, List.mem_cons] at h
  rcases h with h | h
  ·have := rd4 b
   omega
  ·exact Za9 m _ x h
theorem Zf8 (c : Cfg) (b : List UInt8) : Yp c b = Zdh c b := by
 unfold Zdh
 by_cases hok : okB c = true
 ·have hc := Xl hok
  rw [if_pos hok]
  rcases Gy (b := b) hok with ⟨dv, dr, db⟩ | dv
  ·have hf := Wo hc (Js hc b).kd dr
   rw [dv, if_pos (by rw [← db, Ba hok hf])]
   have : Vy c b = (Yy c b).1 := by rw [← Ze5 hc hf, db]
   rw [this]
   unfold X7
   rw [if_pos rfl, if_pos dr, if_pos db]
  ·rw [dv]
   by_cases g : b.length = cBy c
   ·rw [if_pos g]
    unfold X7
    rw [if_pos rfl]
    by_cases hr : Y9 c We (Vy c b) = true
    ·rw [if_pos hr]
     by_cases e : Xq c (Vy c b) = b
     ·exfalso
      have hkd : ∀ x ∈ (Vy c b).2.1, 0 ≤ x ∧ x < 4294967296 := by
       unfold Vy
       split
       ·simp
       ·exact Za9 _ _
      have := Zev hok hkd hr
      rw [e, dv] at this
      have h12 : (12 : Int) = 0 := congrArg Prod.snd this
      exact absurd h12 (by decide)
     ·rw [if_neg e]
    ·rw [if_neg hr]
   ·rw [if_neg g]
 ·rw [if_neg hok]
  unfold Yp
  rw [if_neg hok]
theorem Uq (k : Nat) : Q66.f (k + 300) = some true := by kernel_rfl
theorem Zch : ∀ {l : List Int}, (∀ x ∈ l, 0 ≤ x ∧ x < 256) → toB (toS l) = l
 | [], _ => rfl
 | x :: l, h => by
  have hx := h x (by simp)
  have := Zch (l := l) fun y hy => h y (by simp [hy])
  unfold toB toS at this ⊢
  rw [List.map_cons, List.map_cons, this]
  congr 1
  obtain ⟨n, rfl⟩ := Int.eq_ofNat_of_zero_le hx.1
  simp
  omega
theorem CodeReads_pure {u : Prop} (c : Cfg) (l : List Int) (_ : u) (hl : Ty.fit (Gt tt) (.slice 5 (.int .u8)) l) : ∃ k, Q65.f k c l = some true := by
 have hx : ∀ x ∈ l, 0 ≤ x ∧ x < 256 := fun x hx => by
  have := hl.2.2 x hx
  simp [Ty.fit, Lit.wf] at this
  have h1 : IntKind.u8.min = 0 := rfl
  have h2 : IntKind.u8.max = 255 := rfl
  omega
 obtain ⟨b, hb⟩ : ∃ b, l = toB b := ⟨toS l, (Zch hx).symm⟩
 subst hb
 by_cases q : c.2.1 ≤ 3000 ∧ b.length ≤ 4000
 ·obtain ⟨q1, q2⟩ := q
  obtain ⟨k1, h1⟩ := Zhd (c := c) (b := b) (by omega)
  have rd : Rd (Yp c b).1 := by
   by_cases hok : okB c = true
   ·rcases Gy (b := b) hok with ⟨dv, _, _⟩ | dv
    ·rw [dv]; exact Js (Xl hok) b
    ·rw [dv]; exact ⟨by simp [Yu], by simp [Yu], by simp [Yu], by simp [Yu], by simp [Yu]⟩
   ·unfold Yp
    rw [if_neg hok]; exact ⟨by simp [Yu], by simp [Yu], by simp [Yu], by simp [Yu], by simp [Yu]⟩
  obtain ⟨k2, h2⟩ := Zgq (c := c) (n := (Yp c b).1) (by have := rd.kids; omega) (by have := rd.pivs; omega) (by have := rd.buf; omega) (by have := rd.prs; omega) rd.kd
  refine ⟨k1 + k2 + 300000 + 300, ?_⟩
  unfold Q65.f Q67.f
  rw [Option.bind_some, Uq]
  simp only [Option.bind_some]
  rw [if_neg (by simp [q1]), if_neg (by rw [Z1]; simp; omega), show Q6.f (k1 + k2 + 300000 + 300) (c.1, c.2.1, c.2.2.1, c.2.2.2.1, c.2.2.2.2.1, c.2.2.2.2.2.1, c.2.2.2.2.2.2.1, c.2.2.2.2.2.2.2) (toB b) = _ from h1 _ (by omega), Option.bind_some, X1,
   show Q91.f (k1 + k2 + 300000 + 300) (c.1, c.2.1, c.2.2.1, c.2.2.2.1, c.2.2.2.2.1, c.2.2.2.2.2.1, c.2.2.2.2.2.2.1, c.2.2.2.2.2.2.2) b = _ from Zfo (c := c) q1 (by omega), Option.bind_some, ← Zf8, if_neg (by simp),
   show Q87.f (k1 + k2 + 300000 + 300) ((Yp c b).1.1, (Yp c b).1.2.1, (Yp c b).1.2.2.1, (Yp c b).1.2.2.2.1, (Yp c b).1.2.2.2.2) ((Yp c b).1.1, (Yp c b).1.2.1, (Yp c b).1.2.2.1, (Yp c b).1.2.2.2.1, (Yp c b).1.2.2.2.2) = _ from Zby (a := (Yp c b).1) (b := (Yp c b).1) (by have := rd.kids; omega) (by have := rd.pivs; omega) (by have := rd.buf; omega) (by have := rd.prs; omega) (by omega), Option.bind_some, if_neg (by simp),
   show Q7.f (k1 + k2 + 300000 + 300) (c.1, c.2.1, c.2.2.1, c.2.2.2.1, c.2.2.2.2.1, c.2.2.2.2.2.1, c.2.2.2.2.2.2.1, c.2.2.2.2.2.2.2) ((Yp c b).1.1, (Yp c b).1.2.1, (Yp c b).1.2.2.1, (Yp c b).1.2.2.2.1, (Yp c b).1.2.2.2.2) = _ from h2 _ (by omega), Option.bind_some]
  by_cases hok : okB c = true
  ·rcases Gy (b := b) hok with ⟨dv, dr, db⟩ | dv
   ·have ev : G7 c (Yy c b).1 = (toB b, 0) := by unfold G7; rw [if_pos hok, if_pos dr, db]
    rw [dv]
    dsimp only
    rw [ev, if_neg (by simp), if_pos (by simp), if_pos (by simp [X1])]
   ·rw [dv, if_pos (by simp)]
  ·have : (Yp c b).2 = 2 := by unfold Yp; rw [if_neg hok]
   rw [this, if_pos (by simp)]
 ·refine ⟨300, ?_⟩
  unfold Q65.f Q67.f
  rw [Option.bind_some, Uq 0]
  simp only [Option.bind_some]
  by_cases q1 : c.2.1 ≤ 3000
  ·rw [if_neg (by simp [q1]), if_pos (by rw [Z1]; simp; omega)]
  ·rw [if_pos (by simp [q1])]
end Go.SK.T
