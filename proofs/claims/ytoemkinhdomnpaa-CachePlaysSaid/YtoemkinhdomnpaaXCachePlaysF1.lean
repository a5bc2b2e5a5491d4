/- The functions, further. -/
import Derived.Test.YtoemkinhdomnpaaXCachePlaysF0
set_option linter.unusedVariables false
set_option linter.unusedSimpArgs false
set_option maxRecDepth 20000
set_option maxHeartbeats 40000000
namespace Go.SK.T
open Go Go.SK Go.Proofs
def Q3.f (a0 : (Int × List (Int) × (Int × Int)) × (List (Int × List (Int) × Bool × Int)) × (List (Int × Int)) × List (Int) × ((List (Int × Int × Bool)) × Int)) (a1 : Int) : Option (Int × ((Int × List (Int) × (Int × Int)) × (List (Int × List (Int) × Bool × Int)) × (List (Int × Int)) × List (Int) × ((List (Int × Int × Bool)) × Int))) := (Q14.f a0).bind fun r1 => (if r1 = true then (some (1, a0)) else (if (!(Yy a0.2.2.1 a1)) = true then (some (0, a0)) else (if 0 ≤ (Zt (0 : Int) a0.2.2.1 a1) ∧ (Zt (0 : Int) a0.2.2.1 a1) < (a0.2.1.length : Int) then (if (decide (0 < ((gt a0.2.1 (Zt (0 : Int) a0.2.2.1 a1)).2.2.2))) = true then (some (8, a0)) else ((Q13.f a0 (Zt (0 : Int) a0.2.2.1 a1)).bind fun r2 => (some (0, r2)))) else none)))
theorem Q3.spec {a0 : (Int × List (Int) × (Int × Int)) × (List (Int × List (Int) × Bool × Int)) × (List (Int × Int)) × List (Int) × ((List (Int × Int × Bool)) × Int)} {a1 : Int} {b1 : Nat} {b2 : Nat} {b3 : Nat} {b4 : Nat} {A1 : Option Addr} {c_1 : Nat} {A2 : Option Addr} {c_2 : Nat} {A3 : Option Addr} {c_3 : Nat} {A4 : Option Addr} {c_4 : Nat} {r : Int × ((Int × List (Int) × (Int × Int)) × (List (Int × List (Int) × Bool × Int)) × (List (Int × Int)) × List (Int) × ((List (Int × Int × Bool)) × Int))} (H : Q3.f a0 a1 = some r) :
  Spec Try.prog 60 [.pointer (some ⟨b1, 0, none⟩), .int .u32 a1] [Yk b1 (.pointer (some ⟨b2, 0, none⟩)) a0.2.1 A2 c_2 (.map (some b3)) a0.2.2.2.1 A3 c_3 (.pointer (some ⟨b4, 0, none⟩)), X51 b2 a0.1.1 a0.1.2.1 A1 c_1 a0.1.2.2.1 a0.1.2.2.2, O5 a0.1.2.1 A1 c_1, Yi a0.2.1 A2 c_2, Yc .u32 (Value.int .i64) b3 a0.2.2.1, O3 a0.2.2.2.1 A3 c_3, Z8 b4 a0.2.2.2.2.1 A4 c_4 a0.2.2.2.2.2, Z9 a0.2.2.2.2.1 A4 c_4] [] (fun v l => ∃ (A_0 : Option Addr) (c_0 : Nat) (A_1 : Option Addr) (c_1 : Nat) (A_2 : Option Addr) (c_2 : Nat) (A_3 : Option Addr) (c_3 : Nat), v = .int .i64 r.1 ∧ l = [Yk b1 (.pointer (some ⟨b2, 0, none⟩)) r.2.2.1 A_1 c_1 (.map (some b3)) r.2.2.2.2.1 A_2 c_2 (.pointer (some ⟨b4, 0, none⟩)), X51 b2 r.2.1.1 r.2.1.2.1 A_0 c_0 r.2.1.2.2.1 r.2.1.2.2.2, O5 r.2.1.2.1 A_0 c_0, Yi r.2.2.1 A_1 c_1, Yc .u32 (Value.int .i64) b3 r.2.2.2.1, O3 r.2.2.2.2.1 A_2 c_2, Z8 b4 r.2.2.2.2.2.1 A_3 c_3 r.2.2.2.2.2.2, Z9 r.2.2.2.2.2.1 A_3 c_3]) := by
 refine Zr Try.func60 fun w0 F0 h0 => ?_
 unfold Q3.f at H
 refine J.seq (Zb [0, 1] ?_)
 refine J.seq (J.seq (J.region ?_))
 refine Zl 1 ?_
 obtain ⟨r1, q1, H⟩ := Zp H
 refine Ze (Zk [0, 0, 0, 0, 0, 0, 0, 0] (Q14.spec q1) h0 rfl Zu) ?_
 rintro _ w1 ⟨_, ⟨rfl, rfl⟩, h1⟩
 replace h1 := nf h1
 refine Zm [0, 1, 8] rfl ?_
 refine jIf H (fun c1 H => ?_) fun c1 H => ?_
 ·refine J.seq (Zb [4] ?_)
  refine J.ret ?_
  cases H
  exact ⟨_, _, _, Zc, ⟨_, _, _, _, _, _, _, _, rfl, rfl⟩, Zd h1 [0, 0, 0, 0, 0, 0, 0, 0]⟩
 refine J.skip (J.seq (J.region ?_))
 refine Zl 3 ?_
 refine Zg (Za 0 h1.wht) ?_
 refine Zl 1 ?_
 refine Zg (Xg (0 : Int) 4 h1.wht) ?_
 refine Zm [0, 5, 6] rfl ?_
 refine J.seq (J.block (J.seq (Zb [0, 5, 18] ?_)))
 refine jIf H (fun c2 H => ?_) fun c2 H => ?_
 ·refine J.seq (Zb [4] ?_)
  refine J.ret ?_
  cases H
  exact ⟨_, _, _, Zc, ⟨_, _, _, _, _, _, _, _, rfl, rfl⟩, Zd h1 [0, 0, 0, 0, 0, 0, 0, 0]⟩
 refine J.seq (J.region ?_)
 refine Zl 3 ?_
 refine Zg (Za 0 h1.wht) ?_
 refine Zl 1 ?_
 obtain ⟨⟨p1, p2⟩, H⟩ := Zq H
 have e1 := Z3 h1.wh (gO 3) p1 p2
 refine Zg (Zi e1 p1 p2) ?_
 refine Zl 1 ?_
 refine Zg (Yg 3 h1.wht (gO 3) p1 p2) ?_
 refine Zm [0, 5, 21] rfl ?_
 refine jIf H (fun c3 H => ?_) fun c3 H => ?_
 ·refine J.seq (Zb [4] ?_)
  refine J.ret ?_
  cases H
  exact ⟨_, _, _, Zc, ⟨_, _, _, _, _, _, _, _, rfl, rfl⟩, Zd h1 [0, 0, 0, 0, 0, 0, 0, 0]⟩
 refine J.skip (J.seq (J.region ?_))
 refine Zl 2 ?_
 obtain ⟨r2, q2, H⟩ := Zp H
 refine Ze (Zk [0, 0, 0, 0, 0, 0, 0, 0] (Q13.spec q2) h1 rfl Zu) ?_
 rintro _ w2 ⟨_, ⟨A5, c_5, A6, c_6, A7, c_7, A8, c_8, rfl, rfl⟩, h2⟩
 replace h2 := nf h2
 refine Zm [] rfl ?_
 refine J.seq (Zb [4] ?_)
 refine J.ret ?_
 cases H
 exact ⟨_, _, _, Zc, ⟨_, _, _, _, _, _, _, _, rfl, rfl⟩, Zd h2 [0, 0, 0, 0, 0, 0, 0, 0]⟩

def tb0 : List UInt8 := [0, 1, 2, 2, 3, 3, 3, 3, 4, 4, 4, 4, 4, 4, 4, 4, 5, 5, 5, 5, 5, 5, 5, 5, 5, 5, 5, 5, 5, 5, 5, 5, 6, 6, 6, 6, 6, 6, 6, 6, 6, 6, 6, 6, 6, 6, 6, 6, 6, 6, 6, 6, 6, 6, 6, 6, 6, 6, 6, 6, 6, 6, 6, 6, 7, 7, 7, 7, 7, 7, 7, 7, 7, 7, 7, 7, 7, 7, 7, 7, 7, 7, 7, 7, 7, 7, 7, 7, 7, 7, 7, 7, 7, 7, 7, 7, 7, 7, 7, 7, 7, 7, 7, 7, 7, 7, 7, 7, 7, 7, 7, 7, 7, 7, 7, 7, 7, 7, 7, 7, 7, 7, 7, 7, 7, 7, 7, 7, 8, 8, 8, 8, 8, 8, 8, 8, 8, 8, 8, 8, 8, 8, 8, 8, 8, 8, 8, 8, 8, 8, 8, 8, 8, 8, 8, 8, 8, 8, 8, 8, 8, 8, 8, 8, 8, 8, 8, 8, 8, 8, 8, 8, 8, 8, 8, 8, 8, 8, 8, 8, 8, 8, 8, 8, 8, 8, 8, 8, 8, 8, 8, 8, 8, 8, 8, 8, 8, 8, 8, 8, 8, 8, 8, 8, 8, 8, 8, 8, 8, 8, 8, 8, 8, 8, 8, 8, 8, 8, 8, 8, 8, 8, 8, 8, 8, 8, 8, 8, 8, 8, 8, 8, 8, 8, 8, 8, 8, 8, 8, 8, 8, 8, 8, 8, 8, 8, 8, 8, 8, 8, 8, 8, 8, 8, 8, 8]
def Q1.f (a0 : Int) : Option (Int) := if (decide (4294967296 ≤ a0)) = true then (if (decide (65536 ≤ (Int.fdiv a0 (2 ^ 32)))) = true then (if (decide (256 ≤ (Int.fdiv (Int.fdiv a0 (2 ^ 32)) (2 ^ 16)))) = true then (if 0 ≤ (IntKind.u8.wrap ((Int.fdiv (Int.fdiv (Int.fdiv a0 (2 ^ 32)) (2 ^ 16)) (2 ^ 8)))) ∧ (IntKind.u8.wrap ((Int.fdiv (Int.fdiv (Int.fdiv a0 (2 ^ 32)) (2 ^ 16)) (2 ^ 8)))) < (tb0.length : Int) then (some (w64 (56 + (w64 ((gtb tb0 (IntKind.u8.wrap ((Int.fdiv (Int.fdiv (Int.fdiv a0 (2 ^ 32)) (2 ^ 16)) (2 ^ 8)))))))))) else none) else (if 0 ≤ (IntKind.u8.wrap ((Int.fdiv (Int.fdiv a0 (2 ^ 32)) (2 ^ 16)))) ∧ (IntKind.u8.wrap ((Int.fdiv (Int.fdiv a0 (2 ^ 32)) (2 ^ 16)))) < (tb0.length : Int) then (some (w64 (48 + (w64 ((gtb tb0 (IntKind.u8.wrap ((Int.fdiv (Int.fdiv a0 (2 ^ 32)) (2 ^ 16)))))))))) else none)) else (if (decide (256 ≤ (Int.fdiv a0 (2 ^ 32)))) = true then (if 0 ≤ (IntKind.u8.wrap ((Int.fdiv (Int.fdiv a0 (2 ^ 32)) (2 ^ 8)))) ∧ (IntKind.u8.wrap ((Int.fdiv (Int.fdiv a0 (2 ^ 32)) (2 ^ 8)))) < (tb0.length : Int) then (some (w64 (40 + (w64 ((gtb tb0 (IntKind.u8.wrap ((Int.fdiv (Int.fdiv a0 (2 ^ 32)) (2 ^ 8)))))))))) else none) else (if 0 ≤ (IntKind.u8.wrap ((Int.fdiv a0 (2 ^ 32)))) ∧ (IntKind.u8.wrap ((Int.fdiv a0 (2 ^ 32)))) < (tb0.length : Int) then (some (w64 (32 + (w64 ((gtb tb0 (IntKind.u8.wrap ((Int.fdiv a0 (2 ^ 32)))))))))) else none))) else (if (decide (65536 ≤ a0)) = true then (if (decide (256 ≤ (Int.fdiv a0 (2 ^ 16)))) = true then (if 0 ≤ (IntKind.u8.wrap ((Int.fdiv (Int.fdiv a0 (2 ^ 16)) (2 ^ 8)))) ∧ (IntKind.u8.wrap ((Int.fdiv (Int.fdiv a0 (2 ^ 16)) (2 ^ 8)))) < (tb0.length : Int) then (some (w64 (24 + (w64 ((gtb tb0 (IntKind.u8.wrap ((Int.fdiv (Int.fdiv a0 (2 ^ 16)) (2 ^ 8)))))))))) else none) else (if 0 ≤ (IntKind.u8.wrap ((Int.fdiv a0 (2 ^ 16)))) ∧ (IntKind.u8.wrap ((Int.fdiv a0 (2 ^ 16)))) < (tb0.length : Int) then (some (w64 (16 + (w64 ((gtb tb0 (IntKind.u8.wrap ((Int.fdiv a0 (2 ^ 16)))))))))) else none)) else (if (decide (256 ≤ a0)) = true then (if 0 ≤ (IntKind.u8.wrap ((Int.fdiv a0 (2 ^ 8)))) ∧ (IntKind.u8.wrap ((Int.fdiv a0 (2 ^ 8)))) < (tb0.length : Int) then (some (w64 (8 + (w64 ((gtb tb0 (IntKind.u8.wrap ((Int.fdiv a0 (2 ^ 8)))))))))) else none) else (if 0 ≤ (IntKind.u8.wrap (a0)) ∧ (IntKind.u8.wrap (a0)) < (tb0.length : Int) then (some (w64 (0 + (w64 ((gtb tb0 (IntKind.u8.wrap (a0)))))))) else none)))
theorem Q1.spec {a0 : Int}  {r : Int} (H : Q1.f a0 = some r) :
  Spec Try.prog 178 [.int .u64 a0] [] [] (fun v l => v = .int .i64 r ∧ l = []) := by
 refine Zr Try.func178 fun w0 F0 h0 => ?_
 unfold Q1.f at H
 refine J.seq (Zb [0, 2] ?_)
 refine J.seq (J.seq (Zb [0, 2, 4] ?_))
 refine jIf H (fun c1 H => ?_) fun c1 H => ?_
 ·refine J.seq (Zb [0] ?_)
  refine Zb [0, 2] ?_
  refine J.seq (J.seq (Zb [0, 2, 8] ?_))
  refine jIf H (fun c2 H => ?_) fun c2 H => ?_
  ·refine J.seq (Zb [0, 2] ?_)
   refine Zb [0, 2] ?_
   refine J.seq (J.seq (Zb [0, 2, 14] ?_))
   refine jIf H (fun c3 H => ?_) fun c3 H => ?_
   ·refine J.seq (Zb [0, 2] ?_)
    refine Zb [0, 2] ?_
    refine J.seq (J.region ?_)
    refine Zl 3 ?_
    obtain ⟨⟨p1, p2⟩, H⟩ := Zq H
    refine Zg (X5 p1 p2) ?_
    refine Zm [2] rfl ?_
    refine J.ret ?_
    cases H
    exact ⟨_, _, _, Zc, ⟨rfl, rfl⟩, Zd h0 []⟩
   refine J.skip (J.seq (J.region ?_))
   refine Zl 3 ?_
   obtain ⟨⟨p3, p4⟩, H⟩ := Zq H
   refine Zg (X5 p3 p4) ?_
   refine Zm [2] rfl ?_
   refine J.ret ?_
   cases H
   exact ⟨_, _, _, Zc, ⟨rfl, rfl⟩, Zd h0 []⟩
  refine J.skip (J.seq (J.seq (Zb [0, 2, 14] ?_)))
  refine jIf H (fun c4 H => ?_) fun c4 H => ?_
  ·refine J.seq (Zb [0, 2] ?_)
   refine Zb [0, 2] ?_
   refine J.seq (J.region ?_)
   refine Zl 3 ?_
   obtain ⟨⟨p5, p6⟩, H⟩ := Zq H
   refine Zg (X5 p5 p6) ?_
   refine Zm [2] rfl ?_
   refine J.ret ?_
   cases H
   exact ⟨_, _, _, Zc, ⟨rfl, rfl⟩, Zd h0 []⟩
  refine J.skip (J.seq (J.region ?_))
  refine Zl 3 ?_
  obtain ⟨⟨p7, p8⟩, H⟩ := Zq H
  refine Zg (X5 p7 p8) ?_
  refine Zm [2] rfl ?_
  refine J.ret ?_
  cases H
  exact ⟨_, _, _, Zc, ⟨rfl, rfl⟩, Zd h0 []⟩
 refine J.skip (J.seq (J.seq (Zb [0, 2, 8] ?_)))
 refine jIf H (fun c5 H => ?_) fun c5 H => ?_
 ·refine J.seq (Zb [0, 2] ?_)
  refine Zb [0, 2] ?_
  refine J.seq (J.seq (Zb [0, 2, 14] ?_))
  refine jIf H (fun c6 H => ?_) fun c6 H => ?_
  ·refine J.seq (Zb [0, 2] ?_)
   refine Zb [0, 2] ?_
   refine J.seq (J.region ?_)
   refine Zl 3 ?_
   obtain ⟨⟨p9, p10⟩, H⟩ := Zq H
   refine Zg (X5 p9 p10) ?_
   refine Zm [2] rfl ?_
   refine J.ret ?_
   cases H
   exact ⟨_, _, _, Zc, ⟨rfl, rfl⟩, Zd h0 []⟩
  refine J.skip (J.seq (J.region ?_))
  refine Zl 3 ?_
  obtain ⟨⟨p11, p12⟩, H⟩ := Zq H
  refine Zg (X5 p11 p12) ?_
  refine Zm [2] rfl ?_
  refine J.ret ?_
  cases H
  exact ⟨_, _, _, Zc, ⟨rfl, rfl⟩, Zd h0 []⟩
 refine J.skip (J.seq (J.seq (Zb [0, 2, 14] ?_)))
 refine jIf H (fun c7 H => ?_) fun c7 H => ?_
 ·refine J.seq (Zb [0, 2] ?_)
  refine Zb [0, 2] ?_
  refine J.seq (J.region ?_)
  refine Zl 3 ?_
  obtain ⟨⟨p13, p14⟩, H⟩ := Zq H
  refine Zg (X5 p13 p14) ?_
  refine Zm [2] rfl ?_
  refine J.ret ?_
  cases H
  exact ⟨_, _, _, Zc, ⟨rfl, rfl⟩, Zd h0 []⟩
 refine J.skip (J.seq (J.region ?_))
 refine Zl 3 ?_
 obtain ⟨⟨p15, p16⟩, H⟩ := Zq H
 refine Zg (X5 p15 p16) ?_
 refine Zm [2] rfl ?_
 refine J.ret ?_
 cases H
 exact ⟨_, _, _, Zc, ⟨rfl, rfl⟩, Zd h0 []⟩

def Q0.f (a0 : Int) : Option (Int) := (Q1.f a0).bind fun r1 => (some r1)
theorem Q0.spec {a0 : Int}  {r : Int} (H : Q0.f a0 = some r) :
  Spec Try.prog 165 [.int .u64 a0] [] [] (fun v l => v = .int .i64 r ∧ l = []) := by
 refine Zr Try.func165 fun w0 F0 h0 => ?_
 unfold Q0.f at H
 refine J.seq (Zb [0] ?_)
 refine J.seq (Z7 ?_)
 refine J.skip (J.seq (J.region ?_))
 refine Zl 1 ?_
 obtain ⟨r1, q1, H⟩ := Zp H
 refine Ze (Zk [] (Q1.spec q1) h0 rfl Zu) ?_
 rintro _ w1 ⟨_, ⟨rfl, rfl⟩, h1⟩
 replace h1 := nf h1
 refine Zm [2] rfl ?_
 refine J.ret ?_
 cases H
 exact ⟨_, _, _, Zc, ⟨rfl, rfl⟩, Zd h1 []⟩

def Q28.f (a0 : Int) : Option (Bool) := some (!decide (a0 = a0))
theorem Q28.spec {a0 : Int}  {r : Bool} (H : Q28.f a0 = some r) :
  Spec Try.prog 185 [.int .u32 a0] [] [] (fun v l => v = .bool r ∧ l = []) := by
 refine Zr Try.func185 fun w0 F0 h0 => ?_
 unfold Q28.f at H
 refine J.seq (Zb [0] ?_)
 refine J.seq (Zb [2] ?_)
 refine J.ret ?_
 cases H
 exact ⟨_, _, _, Zc, ⟨rfl, rfl⟩, Zd h0 []⟩

def Q27.f (a0 : Int) (a1 : Int) : Option (Bool) := (Q28.f a0).bind fun r1 => (if r1 = true then ((Q28.f a1).bind fun r2 => (if (!r2) = true then (some true) else (some (decide (a0 < a1))))) else (some (decide (a0 < a1))))
theorem Q27.spec {a0 : Int} {a1 : Int}  {r : Bool} (H : Q27.f a0 a1 = some r) :
  Spec Try.prog 174 [.int .u32 a0, .int .u32 a1] [] [] (fun v l => v = .bool r ∧ l = []) := by
 refine Zr Try.func174 fun w0 F0 h0 => ?_
 unfold Q27.f at H
 refine J.seq (Zb [0, 1] ?_)
 refine J.seq (J.region ?_)
 refine Zl 1 ?_
 obtain ⟨r1, q1, H⟩ := Zp H
 refine Ze (Zk [] (Q28.spec q1) h0 rfl Zu) ?_
 rintro _ w1 ⟨_, ⟨rfl, rfl⟩, h1⟩
 replace h1 := nf h1
 refine Zl 1 ?_
 refine Xq 7 H (fun c1 H => ?_) fun c1 H => ?_
 ·refine Zl 1 ?_
  obtain ⟨r2, q2, H⟩ := Zp H
  refine Ze (Zk [] (Q28.spec q2) h1 rfl Zu) ?_
  rintro _ w2 ⟨_, ⟨rfl, rfl⟩, h2⟩
  replace h2 := nf h2
  refine Zl 3 ?_
  refine Xq 12 H (fun c2 H => ?_) fun c2 H => ?_
  ·refine Zm [4] rfl ?_
   refine J.ret ?_
   cases H
   exact ⟨_, _, _, Zc, ⟨rfl, rfl⟩, Zd h2 []⟩
  refine Zm [4] rfl ?_
  refine J.ret ?_
  cases H
  exact ⟨_, _, _, Zc, ⟨rfl, rfl⟩, Zd h2 []⟩
 refine Zm [4] rfl ?_
 refine J.ret ?_
 cases H
 exact ⟨_, _, _, Zc, ⟨rfl, rfl⟩, Zd h1 []⟩

mutual
def Q42.l0 : Nat → (Int) → (Int) → (List (Int)) → (Int) → Option (List (Int))
 | 0, _, _, _, _ => none
 | k + 1, a1, a2, x1, x2 => if (decide (x2 < a2)) = true then (Q42.l1 k a1 a2 x2 x1 x2) else (some x1)
def Q42.l1 : Nat → (Int) → (Int) → (Int) → (List (Int)) → (Int) → Option (List (Int))
 | 0, _, _, _, _, _ => none
 | k + 1, a1, a2, x2, x3, x4 => if (decide (a1 < x4)) = true then (if 0 ≤ x4 ∧ x4 < (x3.length : Int) then (if 0 ≤ (w64 (x4 - 1)) ∧ (w64 (x4 - 1)) < (x3.length : Int) then ((Q27.f (gt x3 x4) (gt x3 (w64 (x4 - 1)))).bind fun r1 => (if r1 = true then (Q42.l1 k a1 a2 x2 ((x3.set x4.toNat (gt x3 (w64 (x4 - 1)))).set (w64 (x4 - 1)).toNat (gt x3 x4)) (w64 (x4 - 1))) else (Q42.l0 k a1 a2 x3 (w64 (x2 + 1))))) else none) else none) else (Q42.l0 k a1 a2 x3 (w64 (x2 + 1)))
end
def Q42.f (k : Nat) (a0 : List (Int)) (a1 : Int) (a2 : Int) : Option (List (Int)) := Q42.l0 k a1 a2 a0 (w64 (a1 + 1))
theorem Q42.spec {k : Nat} {a0 : List (Int)} {a1 : Int} {a2 : Int} {A1 : Option Addr} {c_1 : Nat} {r : List (Int)} (H : Q42.f k a0 a1 a2 = some r) :
  Spec Try.prog 168 [.slice A1 a0.length c_1, .int .i64 a1, .int .i64 a2] [O23 a0 A1 c_1] [] (fun v l => v = .tuple #[] ∧ l = [O23 r A1 c_1] ∧ r.length = a0.length) := by
 refine Zr Try.func168 fun w0 F0 h0 => ?_
 unfold Q42.f at H
 refine J.seq (Zb [0, 1, 2, 6] ?_)
 refine J.block ?_
 have h17 := (sOR h0 [0] [])
 refine J.loop (fun kk env w => ∃ (x1 : List (Int)) (x2 : Int), env = [(0, .slice A1 x1.length c_1), (1, .int .i64 a1), (2, .int .i64 a2), (6, .int .i64 x2)] ∧ St w0 F0 [O23 x1 A1 c_1] [] w ∧ Q42.l0 kk a1 a2 x1 x2 = some r ∧ x1.length = a0.length) (k := k) ⟨a0, (w64 (a1 + 1)), rfl, h17, H, (rfl : a0.length = a0.length)⟩ ?_
 rintro k1 env w1 ⟨x1, x2, rfl, h1, H, e1⟩
 rcases k1 with _ | k1
 ·exact z0 H
 rw [Q42.l0] at H
 refine J.seq (J.seq (Zb [0, 1, 2, 6, 12] ?_))
 refine jIf H (fun c1 H => ?_) fun c1 H => ?_
 ·refine J.skip (J.seq (J.block (J.seq (Zb [0, 1, 2, 6, 7] ?_))))
  refine J.block ?_
  have h16 := (sOR h1 [0] [])
  refine J.loop (fun kk env w => ∃ (x3 : List (Int)) (x4 : Int), env = [(0, .slice A1 x3.length c_1), (1, .int .i64 a1), (2, .int .i64 a2), (6, .int .i64 x2), (7, .int .i64 x4)] ∧ St w0 F0 [O23 x3 A1 c_1] [] w ∧ Q42.l1 kk a1 a2 x2 x3 x4 = some r ∧ kk ≤ k1 ∧ x3.length = a0.length) (k := k1) ⟨x1, x2, rfl, h16, H, Nat.le_refl _, e1⟩ ?_
  rintro k2 env w2 ⟨x3, x4, rfl, h2, H, hk2, e2⟩
  rcases k2 with _ | k2
  ·exact z0 H
  rw [Q42.l1] at H
  refine J.seq (J.seq ?_)
  refine Zs h2 ?_
  have h3 := h2.drew
  refine Zx [0, 1, 2, 3] ?_
  refine Wk 19 H (fun c2 H => ?_) fun c2 H => ?_
  ·refine Zx [4, 5, 8, 9, 10] ?_
   obtain ⟨⟨p1, p2⟩, H⟩ := Zq H
   have e3 := Z3 h3.wh (gO 0) p1 p2
   refine Zh 6 rfl (Zi e3 p1 p2) ?_
   refine Zh 7 rfl (Zj 0 wI (gO 0) p1 p2) ?_
   obtain ⟨⟨p3, p4⟩, H⟩ := Zq H
   refine Zh 11 rfl (Zi e3 p3 p4) ?_
   refine Zh 12 rfl (Zj 0 wI (gO 0) p3 p4) ?_
   obtain ⟨r1, q1, H⟩ := Zp H
   refine Zn 13 rfl (Zk [] (Q27.spec q1) h3 rfl Zu) ?_
   rintro _ w3 ⟨_, ⟨rfl, rfl⟩, h4⟩
   replace h4 := nf h4
   refine ⟨⟨[], h4⟩, ?_⟩
   refine Zx [14] ?_
   refine Z2 [0, 1, 2, 6, 7, 30] ?_
   refine jIf H (fun c3 H => ?_) fun c3 H => ?_
   ·refine J.skip (J.seq (J.block ?_))
    refine J.mid (fun env w => env = [(0, .slice A1 ((x3.set x4.toNat (gt x3 (w64 (x4 - 1)))).set (w64 (x4 - 1)).toNat (gt x3 x4)).length c_1), (1, .int .i64 a1), (2, .int .i64 a2), (6, .int .i64 x2), (7, .int .i64 x4)] ∧ St w0 F0 [O23 ((x3.set x4.toNat (gt x3 (w64 (x4 - 1)))).set (w64 (x4 - 1)).toNat (gt x3 x4)) A1 c_1] [] w) ?_ ?_
    ·refine Zs (Zd h4 []) ?_
     have h7 := h4.drew
     refine Zx [0, 1, 2, 3, 4, 5, 6, 7, 10, 11] ?_
     refine Zh 8 rfl (Zi e3 p3 p4) ?_
     refine Zh 12 rfl (Zi e3 p1 p2) ?_
     refine HJ.pick [9, 13] (i := 9) rfl rfl rfl rfl ?_
     refine (Yb ?_ (Yb ?_ Xa))
     ·refine Z4 9 rfl (OpT.ofq (Zj 0 h7.wht (gO 0) p3 p4)) ?_
      rintro _ _ ⟨rfl, rfl⟩
      replace h7 := nf h7
      refine ⟨⟨[_], h7⟩, ?_⟩
      refine Zn 13 rfl (OpT.ofq (Zj 0 h7.wht (gO 0) p1 p2)) ?_
      rintro _ _ ⟨rfl, rfl⟩
      replace h7 := nf h7
      refine ⟨⟨[_], h7⟩, ?_⟩
      refine Zh 14 rfl (Zi e3 p1 p2) ?_
      refine Zn 15 rfl (Zo 0 (.int .u32) x4 (gt x3 (w64 (x4 - 1))) 0 h7 rfl p1 p2) ?_
      intro _ w6 h8
      replace h8 := nf h8
      refine ⟨⟨[_], h8⟩, ?_⟩
      have e6 : (x3.set x4.toNat (gt x3 (w64 (x4 - 1)))).length = a0.length := List.length_set.trans e2
      refine Zh 16 rfl (Zi e3 p3 p4) ?_
      refine Zn 17 rfl (Zo 0 (.int .u32) (w64 (x4 - 1)) (gt x3 x4) 0 h8 rfl p3 (by simpa only [List.length_set] using p4)) ?_
      intro _ w7 h9
      replace h9 := nf h9
      refine ⟨⟨[_], h9⟩, ?_⟩
      have e7 : ((x3.set x4.toNat (gt x3 (w64 (x4 - 1)))).set (w64 (x4 - 1)).toNat (gt x3 x4)).length = a0.length := List.length_set.trans e6
      refine Z2 [0, 1, 2, 6, 7] ?_
      exact Zz ⟨(by simp only [List.length_set, List.length_nil] <;> rfl), ((h9.only [0] rfl).rds [] rfl)⟩
     ·refine Z4 13 rfl (OpT.ofq (Zj 0 h7.wht (gO 0) p1 p2)) ?_
      rintro _ _ ⟨rfl, rfl⟩
      replace h7 := nf h7
      refine ⟨⟨[_], h7⟩, ?_⟩
      refine Zn 9 rfl (OpT.ofq (Zj 0 h7.wht (gO 0) p3 p4)) ?_
      rintro _ _ ⟨rfl, rfl⟩
      replace h7 := nf h7
      refine ⟨⟨[_], h7⟩, ?_⟩
      refine Zh 14 rfl (Zi e3 p1 p2) ?_
      refine Zn 15 rfl (Zo 0 (.int .u32) x4 (gt x3 (w64 (x4 - 1))) 0 h7 rfl p1 p2) ?_
      intro _ w8 h10
      replace h10 := nf h10
      refine ⟨⟨[_], h10⟩, ?_⟩
      have e8 : (x3.set x4.toNat (gt x3 (w64 (x4 - 1)))).length = a0.length := List.length_set.trans e2
      refine Zh 16 rfl (Zi e3 p3 p4) ?_
      refine Zn 17 rfl (Zo 0 (.int .u32) (w64 (x4 - 1)) (gt x3 x4) 0 h10 rfl p3 (by simpa only [List.length_set] using p4)) ?_
      intro _ w9 h11
      replace h11 := nf h11
      refine ⟨⟨[_], h11⟩, ?_⟩
      have e9 : ((x3.set x4.toNat (gt x3 (w64 (x4 - 1)))).set (w64 (x4 - 1)).toNat (gt x3 x4)).length = a0.length := List.length_set.trans e8
      refine Z2 [0, 1, 2, 6, 7] ?_
      exact Zz ⟨(by simp only [List.length_set, List.length_nil] <;> rfl), ((h11.only [0] rfl).rds [] rfl)⟩
    rintro env w10 ⟨rfl, h12⟩
    have e10 : ((x3.set x4.toNat (gt x3 (w64 (x4 - 1)))).set (w64 (x4 - 1)).toNat (gt x3 x4)).length = a0.length := by first | (simp only [List.length_set]; done) | (simp only [List.length_set]; exact e2)
    refine Zb [0, 1, 2, 6, 7] ?_
    have h13 := (sOR h12 [0] [])
    exact ⟨k2, by omega, ((x3.set x4.toNat (gt x3 (w64 (x4 - 1)))).set (w64 (x4 - 1)).toNat (gt x3 x4)), (w64 (x4 - 1)), rfl, h13, H, by omega, e10⟩
   refine J.exit (Zb [0, 1, 2, 6] ?_)
   have h14 := (sOR h4 [0] [])
   exact ⟨k2, by omega, x3, (w64 (x2 + 1)), rfl, h14, H, e2⟩
  refine Zx [4, 5, 6, 7, 8, 9, 10, 11, 12, 13, 14] ?_
  refine Z2 [0, 1, 2, 6, 7, 30] ?_
  refine Z7 ?_
  refine J.exit (Zb [0, 1, 2, 6] ?_)
  have h15 := (sOR h3 [0] [])
  exact ⟨k2, by omega, x3, (w64 (x2 + 1)), rfl, h15, H, e2⟩
 refine J.exit ?_
 cases H
 exact ⟨_, _, _, Zc, ⟨rfl, rfl, e1⟩, Zd h1 [0]⟩

def Q52.l0 : Nat → (Int) → (Int) → (List (Int)) → (Int) → Option (List (Int))
 | 0, _, _, _, _ => none
 | k + 1, a2, a3, x1, x2 => if (decide (a2 ≤ (w64 ((w64 (2 * x2)) + 1)))) = true then (some x1) else (if (decide ((w64 ((w64 ((w64 (2 * x2)) + 1)) + 1)) < a2)) = true then (if 0 ≤ (w64 (a3 + (w64 ((w64 (2 * x2)) + 1)))) ∧ (w64 (a3 + (w64 ((w64 (2 * x2)) + 1)))) < (x1.length : Int) then (if 0 ≤ (w64 ((w64 (a3 + (w64 ((w64 (2 * x2)) + 1)))) + 1)) ∧ (w64 ((w64 (a3 + (w64 ((w64 (2 * x2)) + 1)))) + 1)) < (x1.length : Int) then ((Q27.f (gt x1 (w64 (a3 + (w64 ((w64 (2 * x2)) + 1))))) (gt x1 (w64 ((w64 (a3 + (w64 ((w64 (2 * x2)) + 1)))) + 1)))).bind fun r1 => (if r1 = true then (if 0 ≤ (w64 (a3 + x2)) ∧ (w64 (a3 + x2)) < (x1.length : Int) then (if 0 ≤ (w64 (a3 + (w64 ((w64 ((w64 (2 * x2)) + 1)) + 1)))) ∧ (w64 (a3 + (w64 ((w64 ((w64 (2 * x2)) + 1)) + 1)))) < (x1.length : Int) then ((Q27.f (gt x1 (w64 (a3 + x2))) (gt x1 (w64 (a3 + (w64 ((w64 ((w64 (2 * x2)) + 1)) + 1)))))).bind fun r2 => (if (!r2) = true then (some x1) else (Q52.l0 k a2 a3 ((x1.set (w64 (a3 + x2)).toNat (gt x1 (w64 (a3 + (w64 ((w64 ((w64 (2 * x2)) + 1)) + 1)))))).set (w64 (a3 + (w64 ((w64 ((w64 (2 * x2)) + 1)) + 1)))).toNat (gt x1 (w64 (a3 + x2)))) (w64 ((w64 ((w64 (2 * x2)) + 1)) + 1))))) else none) else none) else (if 0 ≤ (w64 (a3 + x2)) ∧ (w64 (a3 + x2)) < (x1.length : Int) then ((Q27.f (gt x1 (w64 (a3 + x2))) (gt x1 (w64 (a3 + (w64 ((w64 (2 * x2)) + 1)))))).bind fun r3 => (if (!r3) = true then (some x1) else (Q52.l0 k a2 a3 ((x1.set (w64 (a3 + x2)).toNat (gt x1 (w64 (a3 + (w64 ((w64 (2 * x2)) + 1)))))).set (w64 (a3 + (w64 ((w64 (2 * x2)) + 1)))).toNat (gt x1 (w64 (a3 + x2)))) (w64 ((w64 (2 * x2)) + 1))))) else none))) else none) else none) else (if 0 ≤ (w64 (a3 + x2)) ∧ (w64 (a3 + x2)) < (x1.length : Int) then (if 0 ≤ (w64 (a3 + (w64 ((w64 (2 * x2)) + 1)))) ∧ (w64 (a3 + (w64 ((w64 (2 * x2)) + 1)))) < (x1.length : Int) then ((Q27.f (gt x1 (w64 (a3 + x2))) (gt x1 (w64 (a3 + (w64 ((w64 (2 * x2)) + 1)))))).bind fun r4 => (if (!r4) = true then (some x1) else (Q52.l0 k a2 a3 ((x1.set (w64 (a3 + x2)).toNat (gt x1 (w64 (a3 + (w64 ((w64 (2 * x2)) + 1)))))).set (w64 (a3 + (w64 ((w64 (2 * x2)) + 1)))).toNat (gt x1 (w64 (a3 + x2)))) (w64 ((w64 (2 * x2)) + 1))))) else none) else none))
def Q52.f (k : Nat) (a0 : List (Int)) (a1 : Int) (a2 : Int) (a3 : Int) : Option (List (Int)) := Q52.l0 k a2 a3 a0 a1
theorem Q52.spec {k : Nat} {a0 : List (Int)} {a1 : Int} {a2 : Int} {a3 : Int} {A1 : Option Addr} {c_1 : Nat} {r : List (Int)} (H : Q52.f k a0 a1 a2 a3 = some r) :
  Spec Try.prog 180 [.slice A1 a0.length c_1, .int .i64 a1, .int .i64 a2, .int .i64 a3] [O23 a0 A1 c_1] [] (fun v l => v = .tuple #[] ∧ l = [O23 r A1 c_1] ∧ r.length = a0.length) := by
 refine Zr Try.func180 fun w0 F0 h0 => ?_
 unfold Q52.f at H
 refine J.seq (Zb [0, 2, 3, 8] ?_)
 refine J.block ?_
 have h37 := (sOR h0 [0] [])
 refine J.loop (fun kk env w => ∃ (x1 : List (Int)) (x2 : Int), env = [(0, .slice A1 x1.length c_1), (2, .int .i64 a2), (3, .int .i64 a3), (8, .int .i64 x2)] ∧ St w0 F0 [O23 x1 A1 c_1] [] w ∧ Q52.l0 kk a2 a3 x1 x2 = some r ∧ x1.length = a0.length) (k := k) ⟨a0, a1, rfl, h37, H, (rfl : a0.length = a0.length)⟩ ?_
 rintro k1 env w1 ⟨x1, x2, rfl, h1, H, e1⟩
 rcases k1 with _ | k1
 ·exact z0 H
 rw [Q52.l0] at H
 refine J.block (J.seq (Zb [0, 2, 3, 8, 9] ?_))
 refine J.seq (J.seq (Zb [0, 2, 3, 8, 9, 16] ?_))
 refine jIf H (fun c1 H => ?_) fun c1 H => ?_
 ·refine J.exit ?_
  cases H
  exact ⟨_, _, _, Zc, ⟨rfl, rfl, e1⟩, Zd h1 [0]⟩
 refine J.skip (J.seq (J.seq ?_))
 refine Zs h1 ?_
 have h2 := h1.drew
 refine Zx [0, 1, 2, 3, 4] ?_
 refine Wk 21 H (fun c2 H => ?_) fun c2 H => ?_
 ·refine Zx [5, 6, 7, 8, 11, 12, 13, 14, 15] ?_
  obtain ⟨⟨p1, p2⟩, H⟩ := Zq H
  have e2 := Z3 h2.wh (gO 0) p1 p2
  refine Zh 9 rfl (Zi e2 p1 p2) ?_
  refine Zh 10 rfl (Zj 0 wI (gO 0) p1 p2) ?_
  obtain ⟨⟨p3, p4⟩, H⟩ := Zq H
  refine Zh 16 rfl (Zi e2 p3 p4) ?_
  refine Zh 17 rfl (Zj 0 wI (gO 0) p3 p4) ?_
  obtain ⟨r1, q1, H⟩ := Zp H
  refine Zn 18 rfl (Zk [] (Q27.spec q1) h2 rfl Zu) ?_
  rintro _ w2 ⟨_, ⟨rfl, rfl⟩, h3⟩
  replace h3 := nf h3
  refine ⟨⟨[], h3⟩, ?_⟩
  refine Zx [19] ?_
  refine Z2 [0, 2, 3, 8, 9, 36] ?_
  refine jIf H (fun c3 H => ?_) fun c3 H => ?_
  ·refine Zb [0, 2, 3, 8, 9] ?_
   refine J.seq (J.seq ?_)
   refine Zs h3 ?_
   have h4 := h3.drew
   refine Zx [0, 1, 2, 3, 6, 7, 8, 9] ?_
   obtain ⟨⟨p5, p6⟩, H⟩ := Zq H
   refine Zh 4 rfl (Zi e2 p5 p6) ?_
   refine Zh 5 rfl (Zj 0 wI (gO 0) p5 p6) ?_
   obtain ⟨⟨p7, p8⟩, H⟩ := Zq H
   refine Zh 10 rfl (Zi e2 p7 p8) ?_
   refine Zh 11 rfl (Zj 0 wI (gO 0) p7 p8) ?_
   obtain ⟨r2, q2, H⟩ := Zp H
   refine Zn 12 rfl (Zk [] (Q27.spec q2) h4 rfl Zu) ?_
   rintro _ w3 ⟨_, ⟨rfl, rfl⟩, h5⟩
   replace h5 := nf h5
   refine ⟨⟨[], h5⟩, ?_⟩
   refine Zx [13] ?_
   refine Z2 [0, 2, 3, 8, 9, 52] ?_
   refine jIf H (fun c4 H => ?_) fun c4 H => ?_
   ·refine J.ret ?_
    cases H
    exact ⟨_, _, _, Zc, ⟨rfl, rfl, e1⟩, Zd h5 [0]⟩
   refine J.skip (J.seq (J.midS (fun env w => env = [(0, .slice A1 ((x1.set (w64 (a3 + x2)).toNat (gt x1 (w64 (a3 + (w64 ((w64 ((w64 (2 * x2)) + 1)) + 1)))))).set (w64 (a3 + (w64 ((w64 ((w64 (2 * x2)) + 1)) + 1)))).toNat (gt x1 (w64 (a3 + x2)))).length c_1), (2, .int .i64 a2), (3, .int .i64 a3), (9, .int .i64 (w64 ((w64 ((w64 (2 * x2)) + 1)) + 1)))] ∧ St w0 F0 [O23 ((x1.set (w64 (a3 + x2)).toNat (gt x1 (w64 (a3 + (w64 ((w64 ((w64 (2 * x2)) + 1)) + 1)))))).set (w64 (a3 + (w64 ((w64 ((w64 (2 * x2)) + 1)) + 1)))).toNat (gt x1 (w64 (a3 + x2)))) A1 c_1] [] w) ?_ ?_))
   ·refine Zs (Zd h5 []) ?_
    have h8 := h5.drew
    refine Zx [0, 1, 2, 3, 4, 5, 6, 7, 8, 9, 10, 11, 14, 15, 16, 17] ?_
    refine Zh 12 rfl (Zi e2 p7 p8) ?_
    refine Zh 18 rfl (Zi e2 p5 p6) ?_
    refine HJ.pick [13, 19] (i := 13) rfl rfl rfl rfl ?_
    refine (Yb ?_ (Yb ?_ Xa))
    ·refine Z4 13 rfl (OpT.ofq (Zj 0 h8.wht (gO 0) p7 p8)) ?_
     rintro _ _ ⟨rfl, rfl⟩
     replace h8 := nf h8
     refine ⟨⟨[_], h8⟩, ?_⟩
     refine Zn 19 rfl (OpT.ofq (Zj 0 h8.wht (gO 0) p5 p6)) ?_
     rintro _ _ ⟨rfl, rfl⟩
     replace h8 := nf h8
     refine ⟨⟨[_], h8⟩, ?_⟩
     refine Zh 20 rfl (Zi e2 p5 p6) ?_
     refine Zn 21 rfl (Zo 0 (.int .u32) (w64 (a3 + x2)) (gt x1 (w64 (a3 + (w64 ((w64 ((w64 (2 * x2)) + 1)) + 1))))) 0 h8 rfl p5 p6) ?_
     intro _ w6 h9
     replace h9 := nf h9
     refine ⟨⟨[_], h9⟩, ?_⟩
     have e5 : (x1.set (w64 (a3 + x2)).toNat (gt x1 (w64 (a3 + (w64 ((w64 ((w64 (2 * x2)) + 1)) + 1)))))).length = a0.length := List.length_set.trans e1
     refine Zh 22 rfl (Zi e2 p7 p8) ?_
     refine Zn 23 rfl (Zo 0 (.int .u32) (w64 (a3 + (w64 ((w64 ((w64 (2 * x2)) + 1)) + 1)))) (gt x1 (w64 (a3 + x2))) 0 h9 rfl p7 (by simpa only [List.length_set] using p8)) ?_
     intro _ w7 h10
     replace h10 := nf h10
     refine ⟨⟨[_], h10⟩, ?_⟩
     have e6 : ((x1.set (w64 (a3 + x2)).toNat (gt x1 (w64 (a3 + (w64 ((w64 ((w64 (2 * x2)) + 1)) + 1)))))).set (w64 (a3 + (w64 ((w64 ((w64 (2 * x2)) + 1)) + 1)))).toNat (gt x1 (w64 (a3 + x2)))).length = a0.length := List.length_set.trans e5
     refine Z2 [0, 2, 3, 9] ?_
     exact Zz ⟨(by simp only [List.length_set, List.length_nil] <;> rfl), ((h10.only [0] rfl).rds [] rfl)⟩
    ·refine Z4 19 rfl (OpT.ofq (Zj 0 h8.wht (gO 0) p5 p6)) ?_
     rintro _ _ ⟨rfl, rfl⟩
     replace h8 := nf h8
     refine ⟨⟨[_], h8⟩, ?_⟩
     refine Zn 13 rfl (OpT.ofq (Zj 0 h8.wht (gO 0) p7 p8)) ?_
     rintro _ _ ⟨rfl, rfl⟩
     replace h8 := nf h8
     refine ⟨⟨[_], h8⟩, ?_⟩
     refine Zh 20 rfl (Zi e2 p5 p6) ?_
     refine Zn 21 rfl (Zo 0 (.int .u32) (w64 (a3 + x2)) (gt x1 (w64 (a3 + (w64 ((w64 ((w64 (2 * x2)) + 1)) + 1))))) 0 h8 rfl p5 p6) ?_
     intro _ w8 h11
     replace h11 := nf h11
     refine ⟨⟨[_], h11⟩, ?_⟩
     have e7 : (x1.set (w64 (a3 + x2)).toNat (gt x1 (w64 (a3 + (w64 ((w64 ((w64 (2 * x2)) + 1)) + 1)))))).length = a0.length := List.length_set.trans e1
     refine Zh 22 rfl (Zi e2 p7 p8) ?_
     refine Zn 23 rfl (Zo 0 (.int .u32) (w64 (a3 + (w64 ((w64 ((w64 (2 * x2)) + 1)) + 1)))) (gt x1 (w64 (a3 + x2))) 0 h11 rfl p7 (by simpa only [List.length_set] using p8)) ?_
     intro _ w9 h12
     replace h12 := nf h12
     refine ⟨⟨[_], h12⟩, ?_⟩
     have e8 : ((x1.set (w64 (a3 + x2)).toNat (gt x1 (w64 (a3 + (w64 ((w64 ((w64 (2 * x2)) + 1)) + 1)))))).set (w64 (a3 + (w64 ((w64 ((w64 (2 * x2)) + 1)) + 1)))).toNat (gt x1 (w64 (a3 + x2)))).length = a0.length := List.length_set.trans e7
     refine Z2 [0, 2, 3, 9] ?_
     exact Zz ⟨(by simp only [List.length_set, List.length_nil] <;> rfl), ((h12.only [0] rfl).rds [] rfl)⟩
   rintro env w10 ⟨rfl, h13⟩
   have e9 : ((x1.set (w64 (a3 + x2)).toNat (gt x1 (w64 (a3 + (w64 ((w64 ((w64 (2 * x2)) + 1)) + 1)))))).set (w64 (a3 + (w64 ((w64 ((w64 (2 * x2)) + 1)) + 1)))).toNat (gt x1 (w64 (a3 + x2)))).length = a0.length := by first | (simp only [List.length_set]; done) | (simp only [List.length_set]; exact e1)
   refine Zb [0, 2, 3, 8] ?_
   have h14 := (sOR h13 [0] [])
   exact ⟨k1, by omega, ((x1.set (w64 (a3 + x2)).toNat (gt x1 (w64 (a3 + (w64 ((w64 ((w64 (2 * x2)) + 1)) + 1)))))).set (w64 (a3 + (w64 ((w64 ((w64 (2 * x2)) + 1)) + 1)))).toNat (gt x1 (w64 (a3 + x2)))), (w64 ((w64 ((w64 (2 * x2)) + 1)) + 1)), rfl, h14, H, e9⟩
  refine J.skip (J.seq (J.seq ?_))
  refine Zs h3 ?_
  have h15 := h3.drew
  refine Zx [0, 1, 2, 3, 6, 7, 8, 9] ?_
  obtain ⟨⟨p9, p10⟩, H⟩ := Zq H
  refine Zh 4 rfl (Zi e2 p9 p10) ?_
  refine Zh 5 rfl (Zj 0 wI (gO 0) p9 p10) ?_
  refine Zh 10 rfl (Zi e2 p1 p2) ?_
  refine Zh 11 rfl (Zj 0 wI (gO 0) p1 p2) ?_
  obtain ⟨r3, q3, H⟩ := Zp H
  refine Zn 12 rfl (Zk [] (Q27.spec q3) h15 rfl Zu) ?_
  rintro _ w11 ⟨_, ⟨rfl, rfl⟩, h16⟩
  replace h16 := nf h16
  refine ⟨⟨[], h16⟩, ?_⟩
  refine Zx [13] ?_
  refine Z2 [0, 2, 3, 8, 9, 52] ?_
  refine jIf H (fun c5 H => ?_) fun c5 H => ?_
  ·refine J.ret ?_
   cases H
   exact ⟨_, _, _, Zc, ⟨rfl, rfl, e1⟩, Zd h16 [0]⟩
  refine J.skip (J.seq (J.midS (fun env w => env = [(0, .slice A1 ((x1.set (w64 (a3 + x2)).toNat (gt x1 (w64 (a3 + (w64 ((w64 (2 * x2)) + 1)))))).set (w64 (a3 + (w64 ((w64 (2 * x2)) + 1)))).toNat (gt x1 (w64 (a3 + x2)))).length c_1), (2, .int .i64 a2), (3, .int .i64 a3), (9, .int .i64 (w64 ((w64 (2 * x2)) + 1)))] ∧ St w0 F0 [O23 ((x1.set (w64 (a3 + x2)).toNat (gt x1 (w64 (a3 + (w64 ((w64 (2 * x2)) + 1)))))).set (w64 (a3 + (w64 ((w64 (2 * x2)) + 1)))).toNat (gt x1 (w64 (a3 + x2)))) A1 c_1] [] w) ?_ ?_))
  ·refine Zs (Zd h16 []) ?_
   have h19 := h16.drew
   refine Zx [0, 1, 2, 3, 4, 5, 6, 7, 8, 9, 10, 11, 14, 15, 16, 17] ?_
   refine Zh 12 rfl (Zi e2 p1 p2) ?_
   refine Zh 18 rfl (Zi e2 p9 p10) ?_
   refine HJ.pick [13, 19] (i := 13) rfl rfl rfl rfl ?_
   refine (Yb ?_ (Yb ?_ Xa))
   ·refine Z4 13 rfl (OpT.ofq (Zj 0 h19.wht (gO 0) p1 p2)) ?_
    rintro _ _ ⟨rfl, rfl⟩
    replace h19 := nf h19
    refine ⟨⟨[_], h19⟩, ?_⟩
    refine Zn 19 rfl (OpT.ofq (Zj 0 h19.wht (gO 0) p9 p10)) ?_
    rintro _ _ ⟨rfl, rfl⟩
    replace h19 := nf h19
    refine ⟨⟨[_], h19⟩, ?_⟩
    refine Zh 20 rfl (Zi e2 p9 p10) ?_
    refine Zn 21 rfl (Zo 0 (.int .u32) (w64 (a3 + x2)) (gt x1 (w64 (a3 + (w64 ((w64 (2 * x2)) + 1))))) 0 h19 rfl p9 p10) ?_
    intro _ w14 h20
    replace h20 := nf h20
    refine ⟨⟨[_], h20⟩, ?_⟩
    have e12 : (x1.set (w64 (a3 + x2)).toNat (gt x1 (w64 (a3 + (w64 ((w64 (2 * x2)) + 1)))))).length = a0.length := List.length_set.trans e1
    refine Zh 22 rfl (Zi e2 p1 p2) ?_
    refine Zn 23 rfl (Zo 0 (.int .u32) (w64 (a3 + (w64 ((w64 (2 * x2)) + 1)))) (gt x1 (w64 (a3 + x2))) 0 h20 rfl p1 (by simpa only [List.length_set] using p2)) ?_
    intro _ w15 h21
    replace h21 := nf h21
    refine ⟨⟨[_], h21⟩, ?_⟩
    have e13 : ((x1.set (w64 (a3 + x2)).toNat (gt x1 (w64 (a3 + (w64 ((w64 (2 * x2)) + 1)))))).set (w64 (a3 + (w64 ((w64 (2 * x2)) + 1)))).toNat (gt x1 (w64 (a3 + x2)))).length = a0.length := List.length_set.trans e12
    refine Z2 [0, 2, 3, 9] ?_
    exact Zz ⟨(by simp only [List.length_set, List.length_nil] <;> rfl), ((h21.only [0] rfl).rds [] rfl)⟩
   ·refine Z4 19 rfl (OpT.ofq (Zj 0 h19.wht (gO 0) p9 p10)) ?_
    rintro _ _ ⟨rfl, rfl⟩
    replace h19 := nf h19
    refine ⟨⟨[_], h19⟩, ?_⟩
    refine Zn 13 rfl (OpT.ofq (Zj 0 h19.wht (gO 0) p1 p2)) ?_
    rintro _ _ ⟨rfl, rfl⟩
    replace h19 := nf h19
    refine ⟨⟨[_], h19⟩, ?_⟩
    refine Zh 20 rfl (Zi e2 p9 p10) ?_
    refine Zn 21 rfl (Zo 0 (.int .u32) (w64 (a3 + x2)) (gt x1 (w64 (a3 + (w64 ((w64 (2 * x2)) + 1))))) 0 h19 rfl p9 p10) ?_
    intro _ w16 h22
    replace h22 := nf h22
    refine ⟨⟨[_], h22⟩, ?_⟩
    have e14 : (x1.set (w64 (a3 + x2)).toNat (gt x1 (w64 (a3 + (w64 ((w64 (2 * x2)) + 1)))))).length = a0.length := List.length_set.trans e1
    refine Zh 22 rfl (Zi e2 p1 p2) ?_
    refine Zn 23 rfl (Zo 0 (.int .u32) (w64 (a3 + (w64 ((w64 (2 * x2)) + 1)))) (gt x1 (w64 (a3 + x2))) 0 h22 rfl p1 (by simpa only [List.length_set] using p2)) ?_
    intro _ w17 h23
    replace h23 := nf h23
    refine ⟨⟨[_], h23⟩, ?_⟩
    have e15 : ((x1.set (w64 (a3 + x2)).toNat (gt x1 (w64 (a3 + (w64 ((w64 (2 * x2)) + 1)))))).set (w64 (a3 + (w64 ((w64 (2 * x2)) + 1)))).toNat (gt x1 (w64 (a3 + x2)))).length = a0.length := List.length_set.trans e14
    refine Z2 [0, 2, 3, 9] ?_
    exact Zz ⟨(by simp only [List.length_set, List.length_nil] <;> rfl), ((h23.only [0] rfl).rds [] rfl)⟩
  rintro env w18 ⟨rfl, h24⟩
  have e16 : ((x1.set (w64 (a3 + x2)).toNat (gt x1 (w64 (a3 + (w64 ((w64 (2 * x2)) + 1)))))).set (w64 (a3 + (w64 ((w64 (2 * x2)) + 1)))).toNat (gt x1 (w64 (a3 + x2)))).length = a0.length := by first | (simp only [List.length_set]; done) | (simp only [List.length_set]; exact e1)
  refine Zb [0, 2, 3, 8] ?_
  have h25 := (sOR h24 [0] [])
  exact ⟨k1, by omega, ((x1.set (w64 (a3 + x2)).toNat (gt x1 (w64 (a3 + (w64 ((w64 (2 * x2)) + 1)))))).set (w64 (a3 + (w64 ((w64 (2 * x2)) + 1)))).toNat (gt x1 (w64 (a3 + x2)))), (w64 ((w64 (2 * x2)) + 1)), rfl, h25, H, e16⟩
 refine Zx [5, 6, 7, 8, 9, 10, 11, 12, 13, 14, 15, 16, 17, 18, 19] ?_
 refine Z2 [0, 2, 3, 8, 9, 36] ?_
 refine Z7 ?_
 refine J.skip (J.seq (J.seq ?_))
 refine Zs h2 ?_
 have h26 := h2.drew
 refine Zx [0, 1, 2, 3, 6, 7, 8, 9] ?_
 obtain ⟨⟨p11, p12⟩, H⟩ := Zq H
 have e17 := Z3 h26.wh (gO 0) p11 p12
 refine Zh 4 rfl (Zi e17 p11 p12) ?_
 refine Zh 5 rfl (Zj 0 wI (gO 0) p11 p12) ?_
 obtain ⟨⟨p13, p14⟩, H⟩ := Zq H
 refine Zh 10 rfl (Zi e17 p13 p14) ?_
 refine Zh 11 rfl (Zj 0 wI (gO 0) p13 p14) ?_
 obtain ⟨r4, q4, H⟩ := Zp H
 refine Zn 12 rfl (Zk [] (Q27.spec q4) h26 rfl Zu) ?_
 rintro _ w19 ⟨_, ⟨rfl, rfl⟩, h27⟩
 replace h27 := nf h27
 refine ⟨⟨[], h27⟩, ?_⟩
 refine Zx [13] ?_
 refine Z2 [0, 2, 3, 8, 9, 52] ?_
 refine jIf H (fun c6 H => ?_) fun c6 H => ?_
 ·refine J.ret ?_
  cases H
  exact ⟨_, _, _, Zc, ⟨rfl, rfl, e1⟩, Zd h27 [0]⟩
 refine J.skip (J.seq (J.midS (fun env w => env = [(0, .slice A1 ((x1.set (w64 (a3 + x2)).toNat (gt x1 (w64 (a3 + (w64 ((w64 (2 * x2)) + 1)))))).set (w64 (a3 + (w64 ((w64 (2 * x2)) + 1)))).toNat (gt x1 (w64 (a3 + x2)))).length c_1), (2, .int .i64 a2), (3, .int .i64 a3), (9, .int .i64 (w64 ((w64 (2 * x2)) + 1)))] ∧ St w0 F0 [O23 ((x1.set (w64 (a3 + x2)).toNat (gt x1 (w64 (a3 + (w64 ((w64 (2 * x2)) + 1)))))).set (w64 (a3 + (w64 ((w64 (2 * x2)) + 1)))).toNat (gt x1 (w64 (a3 + x2)))) A1 c_1] [] w) ?_ ?_))
 ·refine Zs (Zd h27 []) ?_
  have h30 := h27.drew
  refine Zx [0, 1, 2, 3, 4, 5, 6, 7, 8, 9, 10, 11, 14, 15, 16, 17] ?_
  refine Zh 12 rfl (Zi e17 p13 p14) ?_
  refine Zh 18 rfl (Zi e17 p11 p12) ?_
  refine HJ.pick [13, 19] (i := 13) rfl rfl rfl rfl ?_
  refine (Yb ?_ (Yb ?_ Xa))
  ·refine Z4 13 rfl (OpT.ofq (Zj 0 h30.wht (gO 0) p13 p14)) ?_
   rintro _ _ ⟨rfl, rfl⟩
   replace h30 := nf h30
   refine ⟨⟨[_], h30⟩, ?_⟩
   refine Zn 19 rfl (OpT.ofq (Zj 0 h30.wht (gO 0) p11 p12)) ?_
   rintro _ _ ⟨rfl, rfl⟩
   replace h30 := nf h30
   refine ⟨⟨[_], h30⟩, ?_⟩
   refine Zh 20 rfl (Zi e17 p11 p12) ?_
   refine Zn 21 rfl (Zo 0 (.int .u32) (w64 (a3 + x2)) (gt x1 (w64 (a3 + (w64 ((w64 (2 * x2)) + 1))))) 0 h30 rfl p11 p12) ?_
   intro _ w22 h31
   replace h31 := nf h31
   refine ⟨⟨[_], h31⟩, ?_⟩
   have e20 : (x1.set (w64 (a3 + x2)).toNat (gt x1 (w64 (a3 + (w64 ((w64 (2 * x2)) + 1)))))).length = a0.length := List.length_set.trans e1
   refine Zh 22 rfl (Zi e17 p13 p14) ?_
   refine Zn 23 rfl (Zo 0 (.int .u32) (w64 (a3 + (w64 ((w64 (2 * x2)) + 1)))) (gt x1 (w64 (a3 + x2))) 0 h31 rfl p13 (by simpa only [List.length_set] using p14)) ?_
   intro _ w23 h32
   replace h32 := nf h32
   refine ⟨⟨[_], h32⟩, ?_⟩
   have e21 : ((x1.set (w64 (a3 + x2)).toNat (gt x1 (w64 (a3 + (w64 ((w64 (2 * x2)) + 1)))))).set (w64 (a3 + (w64 ((w64 (2 * x2)) + 1)))).toNat (gt x1 (w64 (a3 + x2)))).length = a0.length := List.length_set.trans e20
   refine Z2 [0, 2, 3, 9] ?_
   exact Zz ⟨(by simp only [List.length_set, List.length_nil] <;> rfl), ((h32.only [0] rfl).rds [] rfl)⟩
  ·refine Z4 19 rfl (OpT.ofq (Zj 0 h30.wht (gO 0) p11 p12)) ?_
   rintro _ _ ⟨rfl, rfl⟩
   replace h30 := nf h30
   refine ⟨⟨[_], h30⟩, ?_⟩
   refine Zn 13 rfl (OpT.ofq (Zj 0 h30.wht (gO 0) p13 p14)) ?_
   rintro _ _ ⟨rfl, rfl⟩
   replace h30 := nf h30
   refine ⟨⟨[_], h30⟩, ?_⟩
   refine Zh 20 rfl (Zi e17 p11 p12) ?_
   refine Zn 21 rfl (Zo 0 (.int .u32) (w64 (a3 + x2)) (gt x1 (w64 (a3 + (w64 ((w64 (2 * x2)) + 1))))) 0 h30 rfl p11 p12) ?_
   intro _ w24 h33
   replace h33 := nf h33
   refine ⟨⟨[_], h33⟩, ?_⟩
   have e22 : (x1.set (w64 (a3 + x2)).toNat (gt x1 (w64 (a3 + (w64 ((w64 (2 * x2)) + 1)))))).length = a0.length := List.length_set.trans e1
   refine Zh 22 rfl (Zi e17 p13 p14) ?_
   refine Zn 23 rfl (Zo 0 (.int .u32) (w64 (a3 + (w64 ((w64 (2 * x2)) + 1)))) (gt x1 (w64 (a3 + x2))) 0 h33 rfl p13 (by simpa only [List.length_set] using p14)) ?_
   intro _ w25 h34
   replace h34 := nf h34
   refine ⟨⟨[_], h34⟩, ?_⟩
   have e23 : ((x1.set (w64 (a3 + x2)).toNat (gt x1 (w64 (a3 + (w64 ((w64 (2 * x2)) + 1)))))).set (w64 (a3 + (w64 ((w64 (2 * x2)) + 1)))).toNat (gt x1 (w64 (a3 + x2)))).length = a0.length := List.length_set.trans e22
   refine Z2 [0, 2, 3, 9] ?_
   exact Zz ⟨(by simp only [List.length_set, List.length_nil] <;> rfl), ((h34.only [0] rfl).rds [] rfl)⟩
 rintro env w26 ⟨rfl, h35⟩
 have e24 : ((x1.set (w64 (a3 + x2)).toNat (gt x1 (w64 (a3 + (w64 ((w64 (2 * x2)) + 1)))))).set (w64 (a3 + (w64 ((w64 (2 * x2)) + 1)))).toNat (gt x1 (w64 (a3 + x2)))).length = a0.length := by first | (simp only [List.length_set]; done) | (simp only [List.length_set]; exact e1)
 refine Zb [0, 2, 3, 8] ?_
 have h36 := (sOR h35 [0] [])
 exact ⟨k1, by omega, ((x1.set (w64 (a3 + x2)).toNat (gt x1 (w64 (a3 + (w64 ((w64 (2 * x2)) + 1)))))).set (w64 (a3 + (w64 ((w64 (2 * x2)) + 1)))).toNat (gt x1 (w64 (a3 + x2)))), (w64 ((w64 (2 * x2)) + 1)), rfl, h36, H, e24⟩

def Q41.l1 : Nat → (Int) → (List (Int)) → (Int) → Option (List (Int))
 | 0, _, _, _ => none
 | k + 1, a1, x3, x4 => if (decide (0 ≤ x4)) = true then (if 0 ≤ (w64 (a1 + x4)) ∧ (w64 (a1 + x4)) < (x3.length : Int) then (if 0 ≤ a1 ∧ a1 < (x3.length : Int) then ((Q52.f k ((x3.set a1.toNat (gt x3 (w64 (a1 + x4)))).set (w64 (a1 + x4)).toNat (gt x3 a1)) 0 x4 a1).bind fun r2 => (Q41.l1 k a1 r2 (w64 (x4 - 1)))) else none) else none) else (some x3)
def Q41.l0 : Nat → (Int) → (Int) → (List (Int)) → (Int) → Option (List (Int))
 | 0, _, _, _, _ => none
 | k + 1, a1, a2, x1, x2 => if (decide (0 ≤ x2)) = true then ((Q52.f k x1 x2 (w64 (a2 - a1)) a1).bind fun r1 => (Q41.l0 k a1 a2 r1 (w64 (x2 - 1)))) else (Q41.l1 k a1 x1 (w64 ((w64 (a2 - a1)) - 1)))
def Q41.f (k : Nat) (a0 : List (Int)) (a1 : Int) (a2 : Int) : Option (List (Int)) := Q41.l0 k a1 a2 a0 (w64 (Int.tdiv (w64 ((w64 (a2 - a1)) - 1)) 2))
theorem Q41.spec {k : Nat} {a0 : List (Int)} {a1 : Int} {a2 : Int} {A1 : Option Addr} {c_1 : Nat} {r : List (Int)} (H : Q41.f k a0 a1 a2 = some r) :
  Spec Try.prog 169 [.slice A1 a0.length c_1, .int .i64 a1, .int .i64 a2] [O23 a0 A1 c_1] [] (fun v l => v = .tuple #[] ∧ l = [O23 r A1 c_1] ∧ r.length = a0.length) := by
 refine Zr Try.func169 fun w0 F0 h0 => ?_
 unfold Q41.f at H
 refine J.seq (Zb [0, 1, 2, 6] ?_)
 refine J.seq (Zb [0, 1, 2, 6, 7] ?_)
 refine J.seq (Zb [0, 6, 7, 8] ?_)
 refine J.seq (J.seq (Zb [0, 6, 7, 8, 9] ?_))
 refine J.block ?_
 have h16 := (sOR h0 [0] [])
 refine J.loop (fun kk env w => ∃ (x1 : List (Int)) (x2 : Int), env = [(0, .slice A1 x1.length c_1), (6, .int .i64 a1), (7, .int .i64 0), (8, .int .i64 (w64 (a2 - a1))), (9, .int .i64 x2)] ∧ St w0 F0 [O23 x1 A1 c_1] [] w ∧ Q41.l0 kk a1 a2 x1 x2 = some r ∧ x1.length = a0.length) (k := k) ⟨a0, (w64 (Int.tdiv (w64 ((w64 (a2 - a1)) - 1)) 2)), rfl, h16, H, (rfl : a0.length = a0.length)⟩ ?_
 rintro k1 env w1 ⟨x1, x2, rfl, h1, H, e1⟩
 rcases k1 with _ | k1
 ·exact z0 H
 rw [Q41.l0] at H
 refine J.seq (J.seq (Zb [0, 6, 7, 8, 9, 19] ?_))
 refine jIf H (fun c1 H => ?_) fun c1 H => ?_
 ·refine J.skip (J.seq (J.block (J.region ?_)))
  refine Zl 4 ?_
  obtain ⟨r1, q1, H⟩ := Zp H
  refine Ze (Zk [0] (Q52.spec q1) h1 rfl Zu) ?_
  rintro _ w2 ⟨_, ⟨rfl, rfl, q2⟩, h2⟩
  replace h2 := nf h2
  have e2 : r1.length = a0.length := q2.trans e1
  refine Zm [0, 6, 7, 8, 9] rfl ?_
  refine J.envEq (env' := [(0, .slice A1 r1.length c_1), (6, .int .i64 a1), (7, .int .i64 0), (8, .int .i64 (w64 (a2 - a1))), (9, .int .i64 x2)]) (by simp only [q2, List.length_nil] <;> rfl) ?_
  refine Zb [0, 6, 7, 8, 9] ?_
  have h3 := (sOR h2 [0] [])
  exact ⟨k1, by omega, r1, (w64 (x2 - 1)), rfl, h3, H, e2⟩
 refine J.exit (J.seq (Zb [0, 6, 7, 10] ?_))
 refine J.block ?_
 have h15 := (sOR h1 [0] [])
 refine J.loop (fun kk env w => ∃ (x3 : List (Int)) (x4 : Int), env = [(0, .slice A1 x3.length c_1), (6, .int .i64 a1), (7, .int .i64 0), (10, .int .i64 x4)] ∧ St w0 F0 [O23 x3 A1 c_1] [] w ∧ Q41.l1 kk a1 x3 x4 = some r ∧ x3.length = a0.length) (k := k1) ⟨x1, (w64 ((w64 (a2 - a1)) - 1)), rfl, h15, H, e1⟩ ?_
 rintro k2 env w3 ⟨x3, x4, rfl, h4, H, e3⟩
 rcases k2 with _ | k2
 ·exact z0 H
 rw [Q41.l1] at H
 refine J.seq (J.seq (Zb [0, 6, 7, 10, 30] ?_))
 refine jIf H (fun c2 H => ?_) fun c2 H => ?_
 ·refine J.skip (J.seq (J.block (J.seq ?_)))
  obtain ⟨⟨p1, p2⟩, H⟩ := Zq H
  obtain ⟨⟨p3, p4⟩, H⟩ := Zq H
  refine J.midS (fun env w => env = [(0, .slice A1 ((x3.set a1.toNat (gt x3 (w64 (a1 + x4)))).set (w64 (a1 + x4)).toNat (gt x3 a1)).length c_1), (6, .int .i64 a1), (7, .int .i64 0), (10, .int .i64 x4)] ∧ St w0 F0 [O23 ((x3.set a1.toNat (gt x3 (w64 (a1 + x4)))).set (w64 (a1 + x4)).toNat (gt x3 a1)) A1 c_1] [] w) ?_ ?_
  ·refine Zs (Zd h4 []) ?_
   have h7 := h4.drew
   refine Zx [0, 1, 2, 3, 4, 5, 6, 7, 8, 9, 12, 13] ?_
   have e7 := Z3 h7.wh (gO 0) p1 p2
   refine Zh 10 rfl (Zi e7 p1 p2) ?_
   refine Zh 14 rfl (Zi e7 p3 p4) ?_
   refine HJ.pick [11, 15] (i := 11) rfl rfl rfl rfl ?_
   refine (Yb ?_ (Yb ?_ Xa))
   ·refine Z4 11 rfl (OpT.ofq (Zj 0 h7.wht (gO 0) p1 p2)) ?_
    rintro _ _ ⟨rfl, rfl⟩
    replace h7 := nf h7
    refine ⟨⟨[_], h7⟩, ?_⟩
    refine Zn 15 rfl (OpT.ofq (Zj 0 h7.wht (gO 0) p3 p4)) ?_
    rintro _ _ ⟨rfl, rfl⟩
    replace h7 := nf h7
    refine ⟨⟨[_], h7⟩, ?_⟩
    refine Zh 16 rfl (Zi e7 p3 p4) ?_
    refine Zn 17 rfl (Zo 0 (.int .u32) a1 (gt x3 (w64 (a1 + x4))) 0 h7 rfl p3 p4) ?_
    intro _ w6 h8
    replace h8 := nf h8
    refine ⟨⟨[_], h8⟩, ?_⟩
    have e8 : (x3.set a1.toNat (gt x3 (w64 (a1 + x4)))).length = a0.length := List.length_set.trans e3
    refine Zh 18 rfl (Zi e7 p1 p2) ?_
    refine Zn 19 rfl (Zo 0 (.int .u32) (w64 (a1 + x4)) (gt x3 a1) 0 h8 rfl p1 (by simpa only [List.length_set] using p2)) ?_
    intro _ w7 h9
    replace h9 := nf h9
    refine ⟨⟨[_], h9⟩, ?_⟩
    have e9 : ((x3.set a1.toNat (gt x3 (w64 (a1 + x4)))).set (w64 (a1 + x4)).toNat (gt x3 a1)).length = a0.length := List.length_set.trans e8
    refine Z2 [0, 6, 7, 10] ?_
    exact Zz ⟨(by simp only [List.length_set, List.length_nil] <;> rfl), ((h9.only [0] rfl).rds [] rfl)⟩
   ·refine Z4 15 rfl (OpT.ofq (Zj 0 h7.wht (gO 0) p3 p4)) ?_
    rintro _ _ ⟨rfl, rfl⟩
    replace h7 := nf h7
    refine ⟨⟨[_], h7⟩, ?_⟩
    refine Zn 11 rfl (OpT.ofq (Zj 0 h7.wht (gO 0) p1 p2)) ?_
    rintro _ _ ⟨rfl, rfl⟩
    replace h7 := nf h7
    refine ⟨⟨[_], h7⟩, ?_⟩
    refine Zh 16 rfl (Zi e7 p3 p4) ?_
    refine Zn 17 rfl (Zo 0 (.int .u32) a1 (gt x3 (w64 (a1 + x4))) 0 h7 rfl p3 p4) ?_
    intro _ w8 h10
    replace h10 := nf h10
    refine ⟨⟨[_], h10⟩, ?_⟩
    have e10 : (x3.set a1.toNat (gt x3 (w64 (a1 + x4)))).length = a0.length := List.length_set.trans e3
    refine Zh 18 rfl (Zi e7 p1 p2) ?_
    refine Zn 19 rfl (Zo 0 (.int .u32) (w64 (a1 + x4)) (gt x3 a1) 0 h10 rfl p1 (by simpa only [List.length_set] using p2)) ?_
    intro _ w9 h11
    replace h11 := nf h11
    refine ⟨⟨[_], h11⟩, ?_⟩
    have e11 : ((x3.set a1.toNat (gt x3 (w64 (a1 + x4)))).set (w64 (a1 + x4)).toNat (gt x3 a1)).length = a0.length := List.length_set.trans e10
    refine Z2 [0, 6, 7, 10] ?_
    exact Zz ⟨(by simp only [List.length_set, List.length_nil] <;> rfl), ((h11.only [0] rfl).rds [] rfl)⟩
  rintro env w10 ⟨rfl, h12⟩
  have e12 : ((x3.set a1.toNat (gt x3 (w64 (a1 + x4)))).set (w64 (a1 + x4)).toNat (gt x3 a1)).length = a0.length := by first | (simp only [List.length_set]; done) | (simp only [List.length_set]; exact e3)
  refine J.region (Zl 4 ?_)
  obtain ⟨r2, q3, H⟩ := Zp H
  refine Ze (Zk [0] (Q52.spec q3) h12 rfl Zu) ?_
  rintro _ w11 ⟨_, ⟨rfl, rfl, q4⟩, h13⟩
  replace h13 := nf h13
  have e13 : r2.length = a0.length := q4.trans e12
  refine Zm [0, 6, 7, 10] rfl ?_
  refine J.envEq (env' := [(0, .slice A1 r2.length c_1), (6, .int .i64 a1), (7, .int .i64 0), (10, .int .i64 x4)]) (by simp only [q4, List.length_nil] <;> rfl) ?_
  refine Zb [0, 6, 7, 10] ?_
  have h14 := (sOR h13 [0] [])
  exact ⟨k2, by omega, r2, (w64 (x4 - 1)), rfl, h14, H, e13⟩
 refine J.exit ?_
 cases H
 exact ⟨_, _, _, Zc, ⟨rfl, rfl, e3⟩, Zd h4 [0]⟩

def Q46.f (a0 : List (Int)) (a1 : Int) (a2 : Int) (a3 : Int) : Option (Int × Int × Int) := if 0 ≤ a2 ∧ a2 < (a0.length : Int) then (if 0 ≤ a1 ∧ a1 < (a0.length : Int) then ((Q27.f (gt a0 a2) (gt a0 a1)).bind fun r1 => (if r1 = true then (some (a2, a1, (w64 (a3 + 1)))) else (some (a1, a2, a3)))) else none) else none
theorem Q46.spec {a0 : List (Int)} {a1 : Int} {a2 : Int} {a3 : Int} {A1 : Option Addr} {c_1 : Nat} {b1 : Nat} {r : Int × Int × Int} (H : Q46.f a0 a1 a2 a3 = some r) :
  Spec Try.prog 186 [.slice A1 a0.length c_1, .int .i64 a1, .int .i64 a2, .pointer (some ⟨b1, 0, none⟩)] [X3 b1 a3] [R23 a0 A1 c_1] (fun v l => v = .tuple #[.int .i64 r.1, .int .i64 r.2.1] ∧ l = [X3 b1 r.2.2]) := by
 refine Zr Try.func186 fun w0 F0 h0 => ?_
 unfold Q46.f at H
 refine J.seq (Zb [0, 1, 2, 3] ?_)
 refine J.seq (J.seq ?_)
 refine Zs h0 ?_
 have h1 := h0.drew
 refine Zx [0, 1, 4, 5] ?_
 obtain ⟨⟨p1, p2⟩, H⟩ := Zq H
 have e1 := Z3 h1.wh (Zf 1) p1 p2
 refine Zh 2 rfl (Zi e1 p1 p2) ?_
 refine Zh 3 rfl (Zj 0 wI (Zf 1) p1 p2) ?_
 obtain ⟨⟨p3, p4⟩, H⟩ := Zq H
 refine Zh 6 rfl (Zi e1 p3 p4) ?_
 refine Zh 7 rfl (Zj 0 wI (Zf 1) p3 p4) ?_
 obtain ⟨r1, q1, H⟩ := Zp H
 refine Zn 8 rfl (Zk [] (Q27.spec q1) h1 rfl Zu) ?_
 rintro _ w1 ⟨_, ⟨rfl, rfl⟩, h2⟩
 replace h2 := nf h2
 refine ⟨⟨[], h2⟩, ?_⟩
 refine Z2 [1, 2, 3, 18] ?_
 refine jIf H (fun c1 H => ?_) fun c1 H => ?_
 ·refine J.seq (J.region ?_)
  refine Zl 2 ?_
  refine Zg (Za 0 h2.wht) ?_
  refine Zl 2 ?_
  refine Ze (Zw 0 h2) ?_
  intro _ w2 h3
  replace h3 := nf h3
  refine Zm [1, 2] rfl ?_
  refine J.seq (Zb [8, 9] ?_)
  refine J.ret ?_
  cases H
  exact ⟨_, _, _, Zc, ⟨rfl, rfl⟩, Zd h3 [0]⟩
 refine J.skip (J.seq (Zb [8, 9] ?_))
 refine J.ret ?_
 cases H
 exact ⟨_, _, _, Zc, ⟨rfl, rfl⟩, Zd h2 [0]⟩

def Q44.f (a0 : List (Int)) (a1 : Int) (a2 : Int) (a3 : Int) (a4 : Int) : Option (Int × Int) := (Q46.f a0 a1 a2 a4).bind fun r1 => ((Q46.f a0 r1.2.1 a3 r1.2.2).bind fun r2 => ((Q46.f a0 r1.1 r2.1 r2.2.2).bind fun r3 => (some r3.2)))
theorem Q44.spec {a0 : List (Int)} {a1 : Int} {a2 : Int} {a3 : Int} {a4 : Int} {A1 : Option Addr} {c_1 : Nat} {b1 : Nat} {r : Int × Int} (H : Q44.f a0 a1 a2 a3 a4 = some r) :
  Spec Try.prog 184 [.slice A1 a0.length c_1, .int .i64 a1, .int .i64 a2, .int .i64 a3, .pointer (some ⟨b1, 0, none⟩)] [X3 b1 a4] [R23 a0 A1 c_1] (fun v l => v = .int .i64 r.1 ∧ l = [X3 b1 r.2]) := by
 refine Zr Try.func184 fun w0 F0 h0 => ?_
 unfold Q44.f at H
 refine J.seq (Zb [0, 1, 2, 3, 4] ?_)
 refine J.seq (J.region ?_)
 refine Zl 4 ?_
 obtain ⟨r1, q1, H⟩ := Zp H
 refine Ze (Zk [0] (Q46.spec q1) h0 rfl (Zv (Zf 0) Zu)) ?_
 rintro _ w1 ⟨_, ⟨rfl, rfl⟩, h1⟩
 replace h1 := nf h1
 refine Zm [0, 1, 2, 3, 4] rfl ?_
 refine J.seq (J.region ?_)
 refine Zl 4 ?_
 obtain ⟨r2, q2, H⟩ := Zp H
 refine Ze (Zk [0] (Q46.spec q2) h1 rfl (Zv (Zf 0) Zu)) ?_
 rintro _ w2 ⟨_, ⟨rfl, rfl⟩, h2⟩
 replace h2 := nf h2
 refine Zm [0, 1, 2, 4] rfl ?_
 refine J.seq (J.region ?_)
 refine Zl 4 ?_
 obtain ⟨r3, q3, H⟩ := Zp H
 refine Ze (Zk [0] (Q46.spec q3) h2 rfl (Zv (Zf 0) Zu)) ?_
 rintro _ w3 ⟨_, ⟨rfl, rfl⟩, h3⟩
 replace h3 := nf h3
 refine Zm [2] rfl ?_
 refine J.seq (Zb [10] ?_)
 refine J.ret ?_
 cases H
 exact ⟨_, _, _, Zc, ⟨rfl, rfl⟩, Zd h3 [0]⟩

def Q43.f (a0 : List (Int)) (a1 : Int) (a2 : Int) : Option (Int × Int) := (Q44.f a0 (w64 (a1 - 1)) a1 (w64 (a1 + 1)) a2).bind fun r1 => (some r1)
theorem Q43.spec {a0 : List (Int)} {a1 : Int} {a2 : Int} {A1 : Option Addr} {c_1 : Nat} {b1 : Nat} {r : Int × Int} (H : Q43.f a0 a1 a2 = some r) :
  Spec Try.prog 183 [.slice A1 a0.length c_1, .int .i64 a1, .pointer (some ⟨b1, 0, none⟩)] [X3 b1 a2] [R23 a0 A1 c_1] (fun v l => v = .int .i64 r.1 ∧ l = [X3 b1 r.2]) := by
 refine Zr Try.func183 fun w0 F0 h0 => ?_
 unfold Q43.f at H
 refine J.seq (Zb [0, 1, 2] ?_)
 refine J.seq (J.region ?_)
 refine Zl 7 ?_
 obtain ⟨r1, q1, H⟩ := Zp H
 refine Ze (Zk [0] (Q44.spec q1) h0 rfl (Zv (Zf 0) Zu)) ?_
 rintro _ w1 ⟨_, ⟨rfl, rfl⟩, h1⟩
 replace h1 := nf h1
 refine Zm [6] rfl ?_
 refine J.ret ?_
 cases H
 exact ⟨_, _, _, Zc, ⟨rfl, rfl⟩, Zd h1 [0]⟩

def Q40.f (a0 : List (Int)) (a1 : Int) (a2 : Int) : Option (Int × Int) := if (decide (8 ≤ (w64 (a2 - a1)))) = true then (if (decide (50 ≤ (w64 (a2 - a1)))) = true then ((Q43.f a0 (w64 (a1 + (w64 ((w64 (Int.tdiv (w64 (a2 - a1)) 4)) * 1)))) 0).bind fun r1 => ((Q43.f a0 (w64 (a1 + (w64 ((w64 (Int.tdiv (w64 (a2 - a1)) 4)) * 2)))) r1.2).bind fun r2 => ((Q43.f a0 (w64 (a1 + (w64 ((w64 (Int.tdiv (w64 (a2 - a1)) 4)) * 3)))) r2.2).bind fun r3 => ((Q44.f a0 r1.1 r2.1 r3.1 r3.2).bind fun r4 => (if (decide (r4.2 = 0)) = true then (some (r4.1, 1)) else (if (decide (r4.2 = 12)) = true then (some (r4.1, 2)) else (some (r4.1, 0)))))))) else ((Q44.f a0 (w64 (a1 + (w64 ((w64 (Int.tdiv (w64 (a2 - a1)) 4)) * 1)))) (w64 (a1 + (w64 ((w64 (Int.tdiv (w64 (a2 - a1)) 4)) * 2)))) (w64 (a1 + (w64 ((w64 (Int.tdiv (w64 (a2 - a1)) 4)) * 3)))) 0).bind fun r5 => (if (decide (r5.2 = 0)) = true then (some (r5.1, 1)) else (if (decide (r5.2 = 12)) = true then (some (r5.1, 2)) else (some (r5.1, 0)))))) else (some ((w64 (a1 + (w64 ((w64 (Int.tdiv (w64 (a2 - a1)) 4)) * 2)))), 1))
theorem Q40.spec {a0 : List (Int)} {a1 : Int} {a2 : Int} {A1 : Option Addr} {c_1 : Nat} {r : Int × Int} (H : Q40.f a0 a1 a2 = some r) :
  Spec Try.prog 171 [.slice A1 a0.length c_1, .int .i64 a1, .int .i64 a2] [] [R23 a0 A1 c_1] (fun v l => v = .tuple #[.int .i64 r.1, .int .i64 r.2] ∧ l = []) := by
 refine Zr Try.func171 fun w0 F0 h0 => ?_
 unfold Q40.f at H
 refine J.seq (Zb [0, 1, 2] ?_)
 refine J.seq (Zb [0, 1, 8] ?_)
 refine J.seq (J.region ?_)
 refine Ze (Ym h0) ?_
 rintro _ w1 ⟨b1, rfl, h1⟩
 replace h1 := nf h1
 refine Zm [0, 1, 8, 9] rfl ?_
 refine J.seq (Zb [0, 1, 8, 9, 10] ?_)
 refine J.seq (Zb [0, 1, 8, 9, 10, 11] ?_)
 refine J.seq (Zb [0, 8, 9, 10, 11, 12] ?_)
 refine J.seq (J.seq (Zb [0, 8, 9, 10, 11, 12, 32] ?_))
 refine jIf H (fun c1 H => ?_) fun c1 H => ?_
 ·refine J.seq (J.seq (Zb [0, 9, 10, 11, 12, 34] ?_))
  refine jIf H (fun c2 H => ?_) fun c2 H => ?_
  ·refine J.seq (J.region ?_)
   refine Zl 2 ?_
   obtain ⟨r1, q1, H⟩ := Zp H
   refine Ze (Zk [0] (Q43.spec q1) h1 rfl (Zv (Zf 0) Zu)) ?_
   rintro _ w2 ⟨_, ⟨rfl, rfl⟩, h2⟩
   replace h2 := nf h2
   refine Zm [0, 9, 10, 11, 12] rfl ?_
   refine J.seq (J.region ?_)
   refine Zl 2 ?_
   obtain ⟨r2, q2, H⟩ := Zp H
   refine Ze (Zk [0] (Q43.spec q2) h2 rfl (Zv (Zf 0) Zu)) ?_
   rintro _ w3 ⟨_, ⟨rfl, rfl⟩, h3⟩
   replace h3 := nf h3
   refine Zm [0, 9, 10, 11, 12] rfl ?_
   refine J.region (Zl 2 ?_)
   obtain ⟨r3, q3, H⟩ := Zp H
   refine Ze (Zk [0] (Q43.spec q3) h3 rfl (Zv (Zf 0) Zu)) ?_
   rintro _ w4 ⟨_, ⟨rfl, rfl⟩, h4⟩
   replace h4 := nf h4
   refine Zm [0, 9, 10, 11, 12] rfl ?_
   refine J.region (Zl 4 ?_)
   obtain ⟨r4, q4, H⟩ := Zp H
   refine Ze (Zk [0] (Q44.spec q4) h4 rfl (Zv (Zf 0) Zu)) ?_
   rintro _ w5 ⟨_, ⟨rfl, rfl⟩, h5⟩
   replace h5 := nf h5
   refine Zm [9, 11] rfl ?_
   refine J.seq (J.region ?_)
   refine Zg (Za 0 h5.wht) ?_
   refine Zm [11, 49] rfl ?_
   refine J.block (J.seq (Zb [11, 49, 51] ?_))
   refine jIf H (fun c3 H => ?_) fun c3 H => ?_
   ·refine J.seq (Zb [6, 7] ?_)
    refine J.ret ?_
    cases H
    exact ⟨_, _, _, Zc, ⟨rfl, rfl⟩, Zd h5 []⟩
   refine J.seq (Zb [11, 54] ?_)
   refine jIf H (fun c4 H => ?_) fun c4 H => ?_
   ·refine J.seq (Zb [6, 7] ?_)
    refine J.ret ?_
    cases H
    exact ⟨_, _, _, Zc, ⟨rfl, rfl⟩, Zd h5 []⟩
   refine J.seq (Zb [6, 7] ?_)
   refine J.ret ?_
   cases H
   exact ⟨_, _, _, Zc, ⟨rfl, rfl⟩, Zd h5 []⟩
  refine J.skip (J.region (Zl 4 ?_))
  obtain ⟨r5, q5, H⟩ := Zp H
  refine Ze (Zk [0] (Q44.spec q5) h1 rfl (Zv (Zf 0) Zu)) ?_
  rintro _ w6 ⟨_, ⟨rfl, rfl⟩, h6⟩
  replace h6 := nf h6
  refine Zm [9, 11] rfl ?_
  refine J.seq (J.region ?_)
  refine Zg (Za 0 h6.wht) ?_
  refine Zm [11, 49] rfl ?_
  refine J.block (J.seq (Zb [11, 49, 51] ?_))
  refine jIf H (fun c5 H => ?_) fun c5 H => ?_
  ·refine J.seq (Zb [6, 7] ?_)
   refine J.ret ?_
   cases H
   exact ⟨_, _, _, Zc, ⟨rfl, rfl⟩, Zd h6 []⟩
  refine J.seq (Zb [11, 54] ?_)
  refine jIf H (fun c6 H => ?_) fun c6 H => ?_
  ·refine J.seq (Zb [6, 7] ?_)
   refine J.ret ?_
   cases H
   exact ⟨_, _, _, Zc, ⟨rfl, rfl⟩, Zd h6 []⟩
  refine J.seq (Zb [6, 7] ?_)
  refine J.ret ?_
  cases H
  exact ⟨_, _, _, Zc, ⟨rfl, rfl⟩, Zd h6 []⟩
 refine J.skip (J.seq (J.region ?_))
 refine Zg (Za 0 h1.wht) ?_
 refine Zm [11, 49] rfl ?_
 refine J.block (J.seq (Zb [11, 49, 51] ?_))
 refine Z6 ?_
 refine J.seq (Zb [6, 7] ?_)
 refine J.ret ?_
 cases H
 exact ⟨_, _, _, Zc, ⟨rfl, rfl⟩, Zd h1 []⟩

def Q51.l0 : Nat → (List (Int)) → (Int) → (Int) → Option (List (Int))
 | 0, _, _, _ => none
 | k + 1, x1, x2, x3 => if (decide (x2 < x3)) = true then (if 0 ≤ x3 ∧ x3 < (x1.length : Int) then (if 0 ≤ x2 ∧ x2 < (x1.length : Int) then (Q51.l0 k ((x1.set x2.toNat (gt x1 x3)).set x3.toNat (gt x1 x2)) (w64 (x2 + 1)) (w64 (x3 - 1))) else none) else none) else (some x1)
def Q51.f (k : Nat) (a0 : List (Int)) (a1 : Int) (a2 : Int) : Option (List (Int)) := Q51.l0 k a0 a1 (w64 (a2 - 1))
theorem Q51.spec {k : Nat} {a0 : List (Int)} {a1 : Int} {a2 : Int} {A1 : Option Addr} {c_1 : Nat} {r : List (Int)} (H : Q51.f k a0 a1 a2 = some r) :
  Spec Try.prog 172 [.slice A1 a0.length c_1, .int .i64 a1, .int .i64 a2] [O23 a0 A1 c_1] [] (fun v l => v = .tuple #[] ∧ l = [O23 r A1 c_1] ∧ r.length = a0.length) := by
 refine Zr Try.func172 fun w0 F0 h0 => ?_
 unfold Q51.f at H
 refine J.seq (Zb [0, 2, 6] ?_)
 refine J.seq (Zb [0, 6, 7] ?_)
 refine J.block ?_
 have h11 := (sOR h0 [0] [])
 refine J.loop (fun kk env w => ∃ (x1 : List (Int)) (x2 : Int) (x3 : Int), env = [(0, .slice A1 x1.length c_1), (6, .int .i64 x2), (7, .int .i64 x3)] ∧ St w0 F0 [O23 x1 A1 c_1] [] w ∧ Q51.l0 kk x1 x2 x3 = some r ∧ x1.length = a0.length) (k := k) ⟨a0, a1, (w64 (a2 - 1)), rfl, h11, H, (rfl : a0.length = a0.length)⟩ ?_
 rintro k1 env w1 ⟨x1, x2, x3, rfl, h1, H, e1⟩
 rcases k1 with _ | k1
 ·exact z0 H
 rw [Q51.l0] at H
 refine J.seq (J.seq (Zb [0, 6, 7, 13] ?_))
 refine jIf H (fun c1 H => ?_) fun c1 H => ?_
 ·refine J.skip (J.block (J.seq ?_))
  obtain ⟨⟨p1, p2⟩, H⟩ := Zq H
  obtain ⟨⟨p3, p4⟩, H⟩ := Zq H
  refine J.midS (fun env w => env = [(0, .slice A1 ((x1.set x2.toNat (gt x1 x3)).set x3.toNat (gt x1 x2)).length c_1), (6, .int .i64 x2), (7, .int .i64 x3)] ∧ St w0 F0 [O23 ((x1.set x2.toNat (gt x1 x3)).set x3.toNat (gt x1 x2)) A1 c_1] [] w) ?_ ?_
  ·refine Zs (Zd h1 []) ?_
   have h4 := h1.drew
   refine Zx [0, 1, 2, 3, 4, 5, 8, 9] ?_
   have e5 := Z3 h4.wh (gO 0) p1 p2
   refine Zh 6 rfl (Zi e5 p1 p2) ?_
   refine Zh 10 rfl (Zi e5 p3 p4) ?_
   refine HJ.pick [7, 11] (i := 7) rfl rfl rfl rfl ?_
   refine (Yb ?_ (Yb ?_ Xa))
   ·refine Z4 7 rfl (OpT.ofq (Zj 0 h4.wht (gO 0) p1 p2)) ?_
    rintro _ _ ⟨rfl, rfl⟩
    replace h4 := nf h4
    refine ⟨⟨[_], h4⟩, ?_⟩
    refine Zn 11 rfl (OpT.ofq (Zj 0 h4.wht (gO 0) p3 p4)) ?_
    rintro _ _ ⟨rfl, rfl⟩
    replace h4 := nf h4
    refine ⟨⟨[_], h4⟩, ?_⟩
    refine Zh 12 rfl (Zi e5 p3 p4) ?_
    refine Zn 13 rfl (Zo 0 (.int .u32) x2 (gt x1 x3) 0 h4 rfl p3 p4) ?_
    intro _ w4 h5
    replace h5 := nf h5
    refine ⟨⟨[_], h5⟩, ?_⟩
    have e6 : (x1.set x2.toNat (gt x1 x3)).length = a0.length := List.length_set.trans e1
    refine Zh 14 rfl (Zi e5 p1 p2) ?_
    refine Zn 15 rfl (Zo 0 (.int .u32) x3 (gt x1 x2) 0 h5 rfl p1 (by simpa only [List.length_set] using p2)) ?_
    intro _ w5 h6
    replace h6 := nf h6
    refine ⟨⟨[_], h6⟩, ?_⟩
    have e7 : ((x1.set x2.toNat (gt x1 x3)).set x3.toNat (gt x1 x2)).length = a0.length := List.length_set.trans e6
    refine Z2 [0, 6, 7] ?_
    exact Zz ⟨(by simp only [List.length_set, List.length_nil] <;> rfl), ((h6.only [0] rfl).rds [] rfl)⟩
   ·refine Z4 11 rfl (OpT.ofq (Zj 0 h4.wht (gO 0) p3 p4)) ?_
    rintro _ _ ⟨rfl, rfl⟩
    replace h4 := nf h4
    refine ⟨⟨[_], h4⟩, ?_⟩
    refine Zn 7 rfl (OpT.ofq (Zj 0 h4.wht (gO 0) p1 p2)) ?_
    rintro _ _ ⟨rfl, rfl⟩
    replace h4 := nf h4
    refine ⟨⟨[_], h4⟩, ?_⟩
    refine Zh 12 rfl (Zi e5 p3 p4) ?_
    refine Zn 13 rfl (Zo 0 (.int .u32) x2 (gt x1 x3) 0 h4 rfl p3 p4) ?_
    intro _ w6 h7
    replace h7 := nf h7
    refine ⟨⟨[_], h7⟩, ?_⟩
    have e8 : (x1.set x2.toNat (gt x1 x3)).length = a0.length := List.length_set.trans e1
    refine Zh 14 rfl (Zi e5 p1 p2) ?_
    refine Zn 15 rfl (Zo 0 (.int .u32) x3 (gt x1 x2) 0 h7 rfl p1 (by simpa only [List.length_set] using p2)) ?_
    intro _ w7 h8
    replace h8 := nf h8
    refine ⟨⟨[_], h8⟩, ?_⟩
    have e9 : ((x1.set x2.toNat (gt x1 x3)).set x3.toNat (gt x1 x2)).length = a0.length := List.length_set.trans e8
    refine Z2 [0, 6, 7] ?_
    exact Zz ⟨(by simp only [List.length_set, List.length_nil] <;> rfl), ((h8.only [0] rfl).rds [] rfl)⟩
  rintro env w8 ⟨rfl, h9⟩
  have e10 : ((x1.set x2.toNat (gt x1 x3)).set x3.toNat (gt x1 x2)).length = a0.length := by first | (simp only [List.length_set]; done) | (simp only [List.length_set]; exact e1)
  refine J.seq (Zb [0, 6, 7] ?_)
  refine Zb [0, 6, 7] ?_
  have h10 := (sOR h9 [0] [])
  exact ⟨k1, by omega, ((x1.set x2.toNat (gt x1 x3)).set x3.toNat (gt x1 x2)), (w64 (x2 + 1)), (w64 (x3 - 1)), rfl, h10, H, e10⟩
 refine J.exit ?_
 cases H
 exact ⟨_, _, _, Zc, ⟨rfl, rfl, e1⟩, Zd h1 [0]⟩

mutual
def Q47.l0 : Nat → (Int) → (Int) → (List (Int)) → (Int) → (Int) → Option (Bool × List (Int))
 | 0, _, _, _, _, _ => none
 | k + 1, a1, a2, x1, x2, x3 => if (decide (x3 < 5)) = true then (Q47.l3 k a1 a2 x1 x3 x2) else (some (false, x1))
def Q47.l1 : Nat → (Int) → (Int) → (Int) → (Int) → (List (Int)) → (Int) → Option (Bool × List (Int))
 | 0, _, _, _, _, _, _ => none
 | k + 1, a1, a2, x3, x6, x9, x10 => if (decide (x10 < a2)) = true then (if 0 ≤ x10 ∧ x10 < (x9.length : Int) then (if 0 ≤ (w64 (x10 - 1)) ∧ (w64 (x10 - 1)) < (x9.length : Int) then ((Q27.f (gt x9 x10) (gt x9 (w64 (x10 - 1)))).bind fun r1 => (if (!r1) = true then (Q47.l0 k a1 a2 x9 x6 (w64 (x3 + 1))) else (Q47.l1 k a1 a2 x3 x6 ((x9.set x10.toNat (gt x9 (w64 (x10 - 1)))).set (w64 (x10 - 1)).toNat (gt x9 x10)) (w64 (x10 + 1))))) else none) else none) else (Q47.l0 k a1 a2 x9 x6 (w64 (x3 + 1)))
def Q47.l2 : Nat → (Int) → (Int) → (Int) → (Int) → (List (Int)) → (Int) → Option (Bool × List (Int))
 | 0, _, _, _, _, _, _ => none
 | k + 1, a1, a2, x3, x6, x11, x12 => if (decide (1 ≤ x12)) = true then (if 0 ≤ x12 ∧ x12 < (x11.length : Int) then (if 0 ≤ (w64 (x12 - 1)) ∧ (w64 (x12 - 1)) < (x11.length : Int) then ((Q27.f (gt x11 x12) (gt x11 (w64 (x12 - 1)))).bind fun r2 => (if (!r2) = true then (if (decide (2 ≤ (w64 (a2 - x6)))) = true then (Q47.l1 k a1 a2 x3 x6 x11 (w64 (x6 + 1))) else (Q47.l0 k a1 a2 x11 x6 (w64 (x3 + 1)))) else (Q47.l2 k a1 a2 x3 x6 ((x11.set x12.toNat (gt x11 (w64 (x12 - 1)))).set (w64 (x12 - 1)).toNat (gt x11 x12)) (w64 (x12 - 1))))) else none) else none) else (if (decide (2 ≤ (w64 (a2 - x6)))) = true then (Q47.l1 k a1 a2 x3 x6 x11 (w64 (x6 + 1))) else (Q47.l0 k a1 a2 x11 x6 (w64 (x3 + 1))))
def Q47.l3 : Nat → (Int) → (Int) → (List (Int)) → (Int) → (Int) → Option (Bool × List (Int))
 | 0, _, _, _, _, _ => none
 | k + 1, a1, a2, x1, x3, x13 => if (decide (x13 < a2)) = true then (if 0 ≤ x13 ∧ x13 < (x1.length : Int) then (if 0 ≤ (w64 (x13 - 1)) ∧ (w64 (x13 - 1)) < (x1.length : Int) then ((Q27.f (gt x1 x13) (gt x1 (w64 (x13 - 1)))).bind fun r3 => (if (!r3) = true then (Q47.l3 k a1 a2 x1 x3 (w64 (x13 + 1))) else (if (decide (x13 = a2)) = true then (some (true, x1)) else (if (decide ((w64 (a2 - a1)) < 50)) = true then (some (false, x1)) else (if 0 ≤ (w64 (x13 - 1)) ∧ (w64 (x13 - 1)) < (x1.length : Int) then (if 0 ≤ x13 ∧ x13 < (x1.length : Int) then (if (decide (2 ≤ (w64 (x13 - a1)))) = true then (Q47.l2 k a1 a2 x3 x13 ((x1.set x13.toNat (gt x1 (w64 (x13 - 1)))).set (w64 (x13 - 1)).toNat (gt x1 x13)) (w64 (x13 - 1))) else (if (decide (2 ≤ (w64 (a2 - x13)))) = true then (Q47.l1 k a1 a2 x3 x13 ((x1.set x13.toNat (gt x1 (w64 (x13 - 1)))).set (w64 (x13 - 1)).toNat (gt x1 x13)) (w64 (x13 + 1))) else (Q47.l0 k a1 a2 ((x1.set x13.toNat (gt x1 (w64 (x13 - 1)))).set (w64 (x13 - 1)).toNat (gt x1 x13)) x13 (w64 (x3 + 1))))) else none) else none))))) else none) else none) else (if (decide (x13 = a2)) = true then (some (true, x1)) else (if (decide ((w64 (a2 - a1)) < 50)) = true then (some (false, x1)) else (if 0 ≤ (w64 (x13 - 1)) ∧ (w64 (x13 - 1)) < (x1.length : Int) then (if 0 ≤ x13 ∧ x13 < (x1.length : Int) then (if (decide (2 ≤ (w64 (x13 - a1)))) = true then (Q47.l2 k a1 a2 x3 x13 ((x1.set x13.toNat (gt x1 (w64 (x13 - 1)))).set (w64 (x13 - 1)).toNat (gt x1 x13)) (w64 (x13 - 1))) else (if (decide (2 ≤ (w64 (a2 - x13)))) = true then (Q47.l1 k a1 a2 x3 x13 ((x1.set x13.toNat (gt x1 (w64 (x13 - 1)))).set (w64 (x13 - 1)).toNat (gt x1 x13)) (w64 (x13 + 1))) else (Q47.l0 k a1 a2 ((x1.set x13.toNat (gt x1 (w64 (x13 - 1)))).set (w64 (x13 - 1)).toNat (gt x1 x13)) x13 (w64 (x3 + 1))))) else none) else none)))
end
def Q47.f (k : Nat) (a0 : List (Int)) (a1 : Int) (a2 : Int) : Option (Bool × List (Int)) := Q47.l0 k a1 a2 a0 (w64 (a1 + 1)) 0
theorem Q47.spec {k : Nat} {a0 : List (Int)} {a1 : Int} {a2 : Int} {A1 : Option Addr} {c_1 : Nat} {r : Bool × List (Int)} (H : Q47.f k a0 a1 a2 = some r) :
  Spec Try.prog 173 [.slice A1 a0.length c_1, .int .i64 a1, .int .i64 a2] [O23 a0 A1 c_1] [] (fun v l => v = .bool r.1 ∧ l = [O23 r.2 A1 c_1] ∧ r.2.length = a0.length) := by
 refine Zr Try.func173 fun w0 F0 h0 => ?_
 unfold Q47.f at H
 refine J.seq (Zb [0, 1, 2] ?_)
 refine J.seq (Zb [0, 1, 2, 7] ?_)
 refine J.seq (J.seq (Zb [0, 1, 2, 7, 8] ?_))
 refine J.block ?_
 have h53 := (sOR h0 [0] [])
 refine J.loop (fun kk env w => ∃ (x1 : List (Int)) (x2 : Int) (x3 : Int), env = [(0, .slice A1 x1.length c_1), (1, .int .i64 a1), (2, .int .i64 a2), (7, .int .i64 x2), (8, .int .i64 x3)] ∧ St w0 F0 [O23 x1 A1 c_1] [] w ∧ Q47.l0 kk a1 a2 x1 x2 x3 = some r ∧ x1.length = a0.length) (k := k) ⟨a0, (w64 (a1 + 1)), 0, rfl, h53, H, (rfl : a0.length = a0.length)⟩ ?_
 rintro k1 env w1 ⟨x1, x2, x3, rfl, h1, H, e1⟩
 rcases k1 with _ | k1
 ·exact z0 H
 rw [Q47.l0] at H
 refine J.seq (J.seq (Zb [0, 1, 2, 7, 8, 14] ?_))
 refine jIf H (fun c1 H => ?_) fun c1 H => ?_
 ·refine J.skip (J.seq (J.midS (fun env w => ∃ (k2 : Nat) (x4 : List (Int)) (x5 : Int), env = [(0, .slice A1 x4.length c_1), (1, .int .i64 a1), (2, .int .i64 a2), (7, .int .i64 x5), (8, .int .i64 x3)] ∧ St w0 F0 [O23 x4 A1 c_1] [] w ∧ (Q47.l0 k2 a1 a2 x4 x5 (w64 (x3 + 1))) = some r ∧ k2 ≤ k1 ∧ x4.length = a0.length) ?_ ?_))
  ·refine J.block (J.seq ?_)
   refine J.midS (fun env w => ∃ (k3 : Nat) (x6 : Int) (x7 : Bool), env = [(0, .slice A1 x1.length c_1), (1, .int .i64 a1), (2, .int .i64 a2), (7, .int .i64 x6), (8, .int .i64 x3), (32, .bool x7)] ∧ St w0 F0 [O23 x1 A1 c_1] [] w ∧ (if (decide (x6 = a2)) = true then (some (true, x1)) else (if (decide ((w64 (a2 - a1)) < 50)) = true then (some (false, x1)) else (if 0 ≤ (w64 (x6 - 1)) ∧ (w64 (x6 - 1)) < (x1.length : Int) then (if 0 ≤ x6 ∧ x6 < (x1.length : Int) then (if (decide (2 ≤ (w64 (x6 - a1)))) = true then (Q47.l2 k3 a1 a2 x3 x6 ((x1.set x6.toNat (gt x1 (w64 (x6 - 1)))).set (w64 (x6 - 1)).toNat (gt x1 x6)) (w64 (x6 - 1))) else (if (decide (2 ≤ (w64 (a2 - x6)))) = true then (Q47.l1 k3 a1 a2 x3 x6 ((x1.set x6.toNat (gt x1 (w64 (x6 - 1)))).set (w64 (x6 - 1)).toNat (gt x1 x6)) (w64 (x6 + 1))) else (Q47.l0 k3 a1 a2 ((x1.set x6.toNat (gt x1 (w64 (x6 - 1)))).set (w64 (x6 - 1)).toNat (gt x1 x6)) x6 (w64 (x3 + 1))))) else none) else none))) = some r ∧ k3 ≤ k1) ?_ ?_
   ·refine J.block (W8 [0, 1, 2, 7, 8] ?_)
    have h52 := (sOR h1 [0] [])
    refine J.loop (fun kk env w => ∃ (x13 : Int), env = [(0, .slice A1 x1.length c_1), (1, .int .i64 a1), (2, .int .i64 a2), (7, .int .i64 x13), (8, .int .i64 x3)] ∧ St w0 F0 [O23 x1 A1 c_1] [] w ∧ Q47.l3 kk a1 a2 x1 x3 x13 = some r ∧ kk ≤ k1) (k := k1) ⟨x2, rfl, h52, H, Nat.le_refl _⟩ ?_
    rintro k7 env w33 ⟨x13, rfl, h46, H, hk7⟩
    rcases k7 with _ | k7
    ·exact z0 H
    rw [Q47.l3] at H
    refine J.seq (J.seq ?_)
    refine Zs h46 ?_
    have h47 := h46.drew
    refine Zx [0, 1, 2, 3] ?_
    refine Wk 20 H (fun c10 H => ?_) fun c10 H => ?_
    ·refine Zx [4, 5, 8, 9, 10] ?_
     obtain ⟨⟨p13, p14⟩, H⟩ := Zq H
     have e31 := Z3 h47.wh (gO 0) p13 p14
     refine Zh 6 rfl (Zi e31 p13 p14) ?_
     refine Zh 7 rfl (Zj 0 wI (gO 0) p13 p14) ?_
     obtain ⟨⟨p15, p16⟩, H⟩ := Zq H
     refine Zh 11 rfl (Zi e31 p15 p16) ?_
     refine Zh 12 rfl (Zj 0 wI (gO 0) p15 p16) ?_
     obtain ⟨r3, q3, H⟩ := Zp H
     refine Zn 13 rfl (Zk [] (Q27.spec q3) h47 rfl Zu) ?_
     rintro _ w34 ⟨_, ⟨rfl, rfl⟩, h48⟩
     replace h48 := nf h48
     refine ⟨⟨[], h48⟩, ?_⟩
     refine Zx [14, 15] ?_
     refine Z2 [0, 1, 2, 7, 8, 32] ?_
     refine jIf H (fun c11 H => ?_) fun c11 H => ?_
     ·refine J.skip (J.block (Zb [0, 1, 2, 7, 8] ?_))
      have h49 := (sOR h48 [0] [])
      exact ⟨k7, by omega, (w64 (x13 + 1)), rfl, h49, H, by omega⟩
     refine J.exit ?_
     have h50 := (sOR h48 [0] [])
     exact ⟨k7, x13, (!r3), rfl, h50, H, by omega⟩
    refine Zx [4, 5, 6, 7, 8, 9, 10, 11, 12, 13, 14, 15] ?_
    refine Z2 [0, 1, 2, 7, 8, 32] ?_
    refine Z7 ?_
    refine J.exit ?_
    have h51 := (sOR h47 [0] [])
    exact ⟨k7, x13, false, rfl, h51, H, by omega⟩
   rintro env w5 ⟨k3, x6, x7, rfl, h4, H, hk3⟩
   refine J.seq (J.seq (Zb [0, 1, 2, 7, 8, 37] ?_))
   refine jIf H (fun c2 H => ?_) fun c2 H => ?_
   ·refine J.seq (Zb [6] ?_)
    refine J.ret ?_
    cases H
    exact ⟨_, _, _, Zc, ⟨rfl, rfl, e1⟩, Zd h4 [0]⟩
   refine J.skip (J.seq (J.seq (Zb [0, 1, 2, 7, 8, 41] ?_)))
   refine jIf H (fun c3 H => ?_) fun c3 H => ?_
   ·refine J.seq (Zb [6] ?_)
    refine J.ret ?_
    cases H
    exact ⟨_, _, _, Zc, ⟨rfl, rfl, e1⟩, Zd h4 [0]⟩
   refine J.skip (J.seq ?_)
   obtain ⟨⟨p1, p2⟩, H⟩ := Zq H
   obtain ⟨⟨p3, p4⟩, H⟩ := Zq H
   refine J.midS (fun env w => env = [(0, .slice A1 ((x1.set x6.toNat (gt x1 (w64 (x6 - 1)))).set (w64 (x6 - 1)).toNat (gt x1 x6)).length c_1), (1, .int .i64 a1), (2, .int .i64 a2), (7, .int .i64 x6), (8, .int .i64 x3)] ∧ St w0 F0 [O23 ((x1.set x6.toNat (gt x1 (w64 (x6 - 1)))).set (w64 (x6 - 1)).toNat (gt x1 x6)) A1 c_1] [] w) ?_ ?_
   ·refine Zs (Zd h4 []) ?_
    have h7 := h4.drew
    refine Zx [0, 1, 2, 3, 4, 5, 6, 7, 10, 11] ?_
    have e6 := Z3 h7.wh (gO 0) p1 p2
    refine Zh 8 rfl (Zi e6 p1 p2) ?_
    refine Zh 12 rfl (Zi e6 p3 p4) ?_
    refine HJ.pick [9, 13] (i := 9) rfl rfl rfl rfl ?_
    refine (Yb ?_ (Yb ?_ Xa))
    ·refine Z4 9 rfl (OpT.ofq (Zj 0 h7.wht (gO 0) p1 p2)) ?_
     rintro _ _ ⟨rfl, rfl⟩
     replace h7 := nf h7
     refine ⟨⟨[_], h7⟩, ?_⟩
     refine Zn 13 rfl (OpT.ofq (Zj 0 h7.wht (gO 0) p3 p4)) ?_
     rintro _ _ ⟨rfl, rfl⟩
     replace h7 := nf h7
     refine ⟨⟨[_], h7⟩, ?_⟩
     refine Zh 14 rfl (Zi e6 p3 p4) ?_
     refine Zn 15 rfl (Zo 0 (.int .u32) x6 (gt x1 (w64 (x6 - 1))) 0 h7 rfl p3 p4) ?_
     intro _ w8 h8
     replace h8 := nf h8
     refine ⟨⟨[_], h8⟩, ?_⟩
     have e7 : (x1.set x6.toNat (gt x1 (w64 (x6 - 1)))).length = a0.length := List.length_set.trans e1
     refine Zh 16 rfl (Zi e6 p1 p2) ?_
     refine Zn 17 rfl (Zo 0 (.int .u32) (w64 (x6 - 1)) (gt x1 x6) 0 h8 rfl p1 (by simpa only [List.length_set] using p2)) ?_
     intro _ w9 h9
     replace h9 := nf h9
     refine ⟨⟨[_], h9⟩, ?_⟩
     have e8 : ((x1.set x6.toNat (gt x1 (w64 (x6 - 1)))).set (w64 (x6 - 1)).toNat (gt x1 x6)).length = a0.length := List.length_set.trans e7
     refine Z2 [0, 1, 2, 7, 8] ?_
     exact Zz ⟨(by simp only [List.length_set, List.length_nil] <;> rfl), ((h9.only [0] rfl).rds [] rfl)⟩
    ·refine Z4 13 rfl (OpT.ofq (Zj 0 h7.wht (gO 0) p3 p4)) ?_
     rintro _ _ ⟨rfl, rfl⟩
     replace h7 := nf h7
     refine ⟨⟨[_], h7⟩, ?_⟩
     refine Zn 9 rfl (OpT.ofq (Zj 0 h7.wht (gO 0) p1 p2)) ?_
     rintro _ _ ⟨rfl, rfl⟩
     replace h7 := nf h7
     refine ⟨⟨[_], h7⟩, ?_⟩
     refine Zh 14 rfl (Zi e6 p3 p4) ?_
     refine Zn 15 rfl (Zo 0 (.int .u32) x6 (gt x1 (w64 (x6 - 1))) 0 h7 rfl p3 p4) ?_
     intro _ w10 h10
     replace h10 := nf h10
     refine ⟨⟨[_], h10⟩, ?_⟩
     have e9 : (x1.set x6.toNat (gt x1 (w64 (x6 - 1)))).length = a0.length := List.length_set.trans e1
     refine Zh 16 rfl (Zi e6 p1 p2) ?_
     refine Zn 17 rfl (Zo 0 (.int .u32) (w64 (x6 - 1)) (gt x1 x6) 0 h10 rfl p1 (by simpa only [List.length_set] using p2)) ?_
     intro _ w11 h11
     replace h11 := nf h11
     refine ⟨⟨[_], h11⟩, ?_⟩
     have e10 : ((x1.set x6.toNat (gt x1 (w64 (x6 - 1)))).set (w64 (x6 - 1)).toNat (gt x1 x6)).length = a0.length := List.length_set.trans e9
     refine Z2 [0, 1, 2, 7, 8] ?_
     exact Zz ⟨(by simp only [List.length_set, List.length_nil] <;> rfl), ((h11.only [0] rfl).rds [] rfl)⟩
   rintro env w12 ⟨rfl, h12⟩
   have e11 : ((x1.set x6.toNat (gt x1 (w64 (x6 - 1)))).set (w64 (x6 - 1)).toNat (gt x1 x6)).length = a0.length := by first | (simp only [List.length_set]; done) | (simp only [List.length_set]; exact e1)
   refine J.seq (J.seq (Zb [0, 1, 2, 7, 8, 61] ?_))
   refine J.midS (fun env w => ∃ (k4 : Nat) (x8 : List (Int)), env = [(0, .slice A1 x8.length c_1), (1, .int .i64 a1), (2, .int .i64 a2), (7, .int .i64 x6), (8, .int .i64 x3)] ∧ St w0 F0 [O23 x8 A1 c_1] [] w ∧ (if (decide (2 ≤ (w64 (a2 - x6)))) = true then (Q47.l1 k4 a1 a2 x3 x6 x8 (w64 (x6 + 1))) else (Q47.l0 k4 a1 a2 x8 x6 (w64 (x3 + 1)))) = some r ∧ k4 ≤ k3 ∧ x8.length = a0.length) ?_ ?_
   ·refine jIf H (fun c7 H => ?_) fun c7 H => ?_
    ·refine J.seq (Zb [0, 1, 2, 7, 8, 9] ?_)
     refine J.block ?_
     have h44 := (sOR h12 [0] [])
     refine J.loop (fun kk env w => ∃ (x11 : List (Int)) (x12 : Int), env = [(0, .slice A1 x11.length c_1), (1, .int .i64 a1), (2, .int .i64 a2), (7, .int .i64 x6), (8, .int .i64 x3), (9, .int .i64 x12)] ∧ St w0 F0 [O23 x11 A1 c_1] [] w ∧ Q47.l2 kk a1 a2 x3 x6 x11 x12 = some r ∧ kk ≤ k3 ∧ x11.length = a0.length) (k := k3) ⟨((x1.set x6.toNat (gt x1 (w64 (x6 - 1)))).set (w64 (x6 - 1)).toNat (gt x1 x6)), (w64 (x6 - 1)), rfl, h44, H, Nat.le_refl _, e11⟩ ?_
     rintro k6 env w24 ⟨x11, x12, rfl, h30, H, hk6, e22⟩
     rcases k6 with _ | k6
     ·exact z0 H
     rw [Q47.l2] at H
     refine J.seq (J.seq (Zb [0, 1, 2, 7, 8, 9, 65] ?_))
     refine jIf H (fun c8 H => ?_) fun c8 H => ?_
     ·refine J.skip (J.seq (J.block (J.seq (J.seq ?_))))
      refine Zs h30 ?_
      have h31 := h30.drew
      refine Zx [0, 1, 4, 5, 6] ?_
      obtain ⟨⟨p9, p10⟩, H⟩ := Zq H
      have e23 := Z3 h31.wh (gO 0) p9 p10
      refine Zh 2 rfl (Zi e23 p9 p10) ?_
      refine Zh 3 rfl (Zj 0 wI (gO 0) p9 p10) ?_
      obtain ⟨⟨p11, p12⟩, H⟩ := Zq H
      refine Zh 7 rfl (Zi e23 p11 p12) ?_
      refine Zh 8 rfl (Zj 0 wI (gO 0) p11 p12) ?_
      obtain ⟨r2, q2, H⟩ := Zp H
      refine Zn 9 rfl (Zk [] (Q27.spec q2) h31 rfl Zu) ?_
      rintro _ w25 ⟨_, ⟨rfl, rfl⟩, h32⟩
      replace h32 := nf h32
      refine ⟨⟨[], h32⟩, ?_⟩
      refine Zx [10] ?_
      refine Z2 [0, 1, 2, 7, 8, 9, 78] ?_
      refine jIf H (fun c9 H => ?_) fun c9 H => ?_
      ·refine W8 [0, 1, 2, 7, 8] ?_
       refine J.exit ?_
       have h33 := (sOR h32 [0] [])
       exact ⟨k6, x11, rfl, h33, H, by omega, e22⟩
      refine J.skip (J.mid (fun env w => env = [(0, .slice A1 ((x11.set x12.toNat (gt x11 (w64 (x12 - 1)))).set (w64 (x12 - 1)).toNat (gt x11 x12)).length c_1), (1, .int .i64 a1), (2, .int .i64 a2), (7, .int .i64 x6), (8, .int .i64 x3), (9, .int .i64 x12)] ∧ St w0 F0 [O23 ((x11.set x12.toNat (gt x11 (w64 (x12 - 1)))).set (w64 (x12 - 1)).toNat (gt x11 x12)) A1 c_1] [] w) ?_ ?_)
      ·refine Zs (Zd h32 []) ?_
       have h36 := h32.drew
       refine Zx [0, 1, 2, 3, 4, 5, 6, 7, 10, 11] ?_
       refine Zh 8 rfl (Zi e23 p11 p12) ?_
       refine Zh 12 rfl (Zi e23 p9 p10) ?_
       refine HJ.pick [9, 13] (i := 9) rfl rfl rfl rfl ?_
       refine (Yb ?_ (Yb ?_ Xa))
       ·refine Z4 9 rfl (OpT.ofq (Zj 0 h36.wht (gO 0) p11 p12)) ?_
        rintro _ _ ⟨rfl, rfl⟩
        replace h36 := nf h36
        refine ⟨⟨[_], h36⟩, ?_⟩
        refine Zn 13 rfl (OpT.ofq (Zj 0 h36.wht (gO 0) p9 p10)) ?_
        rintro _ _ ⟨rfl, rfl⟩
        replace h36 := nf h36
        refine ⟨⟨[_], h36⟩, ?_⟩
        refine Zh 14 rfl (Zi e23 p9 p10) ?_
        refine Zn 15 rfl (Zo 0 (.int .u32) x12 (gt x11 (w64 (x12 - 1))) 0 h36 rfl p9 p10) ?_
        intro _ w28 h37
        replace h37 := nf h37
        refine ⟨⟨[_], h37⟩, ?_⟩
        have e26 : (x11.set x12.toNat (gt x11 (w64 (x12 - 1)))).length = a0.length := List.length_set.trans e22
        refine Zh 16 rfl (Zi e23 p11 p12) ?_
        refine Zn 17 rfl (Zo 0 (.int .u32) (w64 (x12 - 1)) (gt x11 x12) 0 h37 rfl p11 (by simpa only [List.length_set] using p12)) ?_
        intro _ w29 h38
        replace h38 := nf h38
        refine ⟨⟨[_], h38⟩, ?_⟩
        have e27 : ((x11.set x12.toNat (gt x11 (w64 (x12 - 1)))).set (w64 (x12 - 1)).toNat (gt x11 x12)).length = a0.length := List.length_set.trans e26
        refine Z2 [0, 1, 2, 7, 8, 9] ?_
        exact Zz ⟨(by simp only [List.length_set, List.length_nil] <;> rfl), ((h38.only [0] rfl).rds [] rfl)⟩
       ·refine Z4 13 rfl (OpT.ofq (Zj 0 h36.wht (gO 0) p9 p10)) ?_
        rintro _ _ ⟨rfl, rfl⟩
        replace h36 := nf h36
        refine ⟨⟨[_], h36⟩, ?_⟩
        refine Zn 9 rfl (OpT.ofq (Zj 0 h36.wht (gO 0) p11 p12)) ?_
        rintro _ _ ⟨rfl, rfl⟩
        replace h36 := nf h36
        refine ⟨⟨[_], h36⟩, ?_⟩
        refine Zh 14 rfl (Zi e23 p9 p10) ?_
        refine Zn 15 rfl (Zo 0 (.int .u32) x12 (gt x11 (w64 (x12 - 1))) 0 h36 rfl p9 p10) ?_
        intro _ w30 h39
        replace h39 := nf h39
        refine ⟨⟨[_], h39⟩, ?_⟩
        have e28 : (x11.set x12.toNat (gt x11 (w64 (x12 - 1)))).length = a0.length := List.length_set.trans e22
        refine Zh 16 rfl (Zi e23 p11 p12) ?_
        refine Zn 17 rfl (Zo 0 (.int .u32) (w64 (x12 - 1)) (gt x11 x12) 0 h39 rfl p11 (by simpa only [List.length_set] using p12)) ?_
        intro _ w31 h40
        replace h40 := nf h40
        refine ⟨⟨[_], h40⟩, ?_⟩
        have e29 : ((x11.set x12.toNat (gt x11 (w64 (x12 - 1)))).set (w64 (x12 - 1)).toNat (gt x11 x12)).length = a0.length := List.length_set.trans e28
        refine Z2 [0, 1, 2, 7, 8, 9] ?_
        exact Zz ⟨(by simp only [List.length_set, List.length_nil] <;> rfl), ((h40.only [0] rfl).rds [] rfl)⟩
      rintro env w32 ⟨rfl, h41⟩
      have e30 : ((x11.set x12.toNat (gt x11 (w64 (x12 - 1)))).set (w64 (x12 - 1)).toNat (gt x11 x12)).length = a0.length := by first | (simp only [List.length_set]; done) | (simp only [List.length_set]; exact e22)
      refine Zb [0, 1, 2, 7, 8, 9] ?_
      have h42 := (sOR h41 [0] [])
      exact ⟨k6, by omega, ((x11.set x12.toNat (gt x11 (w64 (x12 - 1)))).set (w64 (x12 - 1)).toNat (gt x11 x12)), (w64 (x12 - 1)), rfl, h42, H, by omega, e30⟩
     refine W8 [0, 1, 2, 7, 8] ?_
     refine J.exit ?_
     have h43 := (sOR h30 [0] [])
     exact ⟨k6, x11, rfl, h43, H, by omega, e22⟩
    refine W8 [0, 1, 2, 7, 8] ?_
    refine J.skip ?_
    have h45 := (sOR h12 [0] [])
    exact ⟨k3, ((x1.set x6.toNat (gt x1 (w64 (x6 - 1)))).set (w64 (x6 - 1)).toNat (gt x1 x6)), rfl, h45, H, Nat.le_refl _, e11⟩
   rintro env w14 ⟨k4, x8, rfl, h13, H, hk4, e12⟩
   refine J.seq (Zb [0, 1, 2, 7, 8, 98] ?_)
   refine jIf H (fun c4 H => ?_) fun c4 H => ?_
   ·refine J.seq (Zb [0, 1, 2, 7, 8, 10] ?_)
    refine J.block ?_
    have h28 := (sOR h13 [0] [])
    refine J.loop (fun kk env w => ∃ (x9 : List (Int)) (x10 : Int), env = [(0, .slice A1 x9.length c_1), (1, .int .i64 a1), (2, .int .i64 a2), (7, .int .i64 x6), (8, .int .i64 x3), (10, .int .i64 x10)] ∧ St w0 F0 [O23 x9 A1 c_1] [] w ∧ Q47.l1 kk a1 a2 x3 x6 x9 x10 = some r ∧ kk ≤ k4 ∧ x9.length = a0.length) (k := k4) ⟨x8, (w64 (x6 + 1)), rfl, h28, H, Nat.le_refl _, e12⟩ ?_
    rintro k5 env w15 ⟨x9, x10, rfl, h14, H, hk5, e13⟩
    rcases k5 with _ | k5
    ·exact z0 H
    rw [Q47.l1] at H
    refine J.seq (J.seq (Zb [0, 1, 2, 7, 8, 10, 103] ?_))
    refine jIf H (fun c5 H => ?_) fun c5 H => ?_
    ·refine J.skip (J.seq (J.block (J.seq (J.seq ?_))))
     refine Zs h14 ?_
     have h15 := h14.drew
     refine Zx [0, 1, 4, 5, 6] ?_
     obtain ⟨⟨p5, p6⟩, H⟩ := Zq H
     have e14 := Z3 h15.wh (gO 0) p5 p6
     refine Zh 2 rfl (Zi e14 p5 p6) ?_
     refine Zh 3 rfl (Zj 0 wI (gO 0) p5 p6) ?_
     obtain ⟨⟨p7, p8⟩, H⟩ := Zq H
     refine Zh 7 rfl (Zi e14 p7 p8) ?_
     refine Zh 8 rfl (Zj 0 wI (gO 0) p7 p8) ?_
     obtain ⟨r1, q1, H⟩ := Zp H
     refine Zn 9 rfl (Zk [] (Q27.spec q1) h15 rfl Zu) ?_
     rintro _ w16 ⟨_, ⟨rfl, rfl⟩, h16⟩
     replace h16 := nf h16
     refine ⟨⟨[], h16⟩, ?_⟩
     refine Zx [10] ?_
     refine Z2 [0, 1, 2, 7, 8, 10, 116] ?_
     refine jIf H (fun c6 H => ?_) fun c6 H => ?_
     ·refine W8 [0, 1, 2, 7, 8] ?_
      refine J.exit ?_
      have h17 := (sOR h16 [0] [])
      exact ⟨k5, x9, x6, rfl, h17, H, by omega, e13⟩
     refine J.skip (J.mid (fun env w => env = [(0, .slice A1 ((x9.set x10.toNat (gt x9 (w64 (x10 - 1)))).set (w64 (x10 - 1)).toNat (gt x9 x10)).length c_1), (1, .int .i64 a1), (2, .int .i64 a2), (7, .int .i64 x6), (8, .int .i64 x3), (10, .int .i64 x10)] ∧ St w0 F0 [O23 ((x9.set x10.toNat (gt x9 (w64 (x10 - 1)))).set (w64 (x10 - 1)).toNat (gt x9 x10)) A1 c_1] [] w) ?_ ?_)
     ·refine Zs (Zd h16 []) ?_
      have h20 := h16.drew
      refine Zx [0, 1, 2, 3, 4, 5, 6, 7, 10, 11] ?_
      refine Zh 8 rfl (Zi e14 p7 p8) ?_
      refine Zh 12 rfl (Zi e14 p5 p6) ?_
      refine HJ.pick [9, 13] (i := 9) rfl rfl rfl rfl ?_
      refine (Yb ?_ (Yb ?_ Xa))
      ·refine Z4 9 rfl (OpT.ofq (Zj 0 h20.wht (gO 0) p7 p8)) ?_
       rintro _ _ ⟨rfl, rfl⟩
       replace h20 := nf h20
       refine ⟨⟨[_], h20⟩, ?_⟩
       refine Zn 13 rfl (OpT.ofq (Zj 0 h20.wht (gO 0) p5 p6)) ?_
       rintro _ _ ⟨rfl, rfl⟩
       replace h20 := nf h20
       refine ⟨⟨[_], h20⟩, ?_⟩
       refine Zh 14 rfl (Zi e14 p5 p6) ?_
       refine Zn 15 rfl (Zo 0 (.int .u32) x10 (gt x9 (w64 (x10 - 1))) 0 h20 rfl p5 p6) ?_
       intro _ w19 h21
       replace h21 := nf h21
       refine ⟨⟨[_], h21⟩, ?_⟩
       have e17 : (x9.set x10.toNat (gt x9 (w64 (x10 - 1)))).length = a0.length := List.length_set.trans e13
       refine Zh 16 rfl (Zi e14 p7 p8) ?_
       refine Zn 17 rfl (Zo 0 (.int .u32) (w64 (x10 - 1)) (gt x9 x10) 0 h21 rfl p7 (by simpa only [List.length_set] using p8)) ?_
       intro _ w20 h22
       replace h22 := nf h22
       refine ⟨⟨[_], h22⟩, ?_⟩
       have e18 : ((x9.set x10.toNat (gt x9 (w64 (x10 - 1)))).set (w64 (x10 - 1)).toNat (gt x9 x10)).length = a0.length := List.length_set.trans e17
       refine Z2 [0, 1, 2, 7, 8, 10] ?_
       exact Zz ⟨(by simp only [List.length_set, List.length_nil] <;> rfl), ((h22.only [0] rfl).rds [] rfl)⟩
      ·refine Z4 13 rfl (OpT.ofq (Zj 0 h20.wht (gO 0) p5 p6)) ?_
       rintro _ _ ⟨rfl, rfl⟩
       replace h20 := nf h20
       refine ⟨⟨[_], h20⟩, ?_⟩
       refine Zn 9 rfl (OpT.ofq (Zj 0 h20.wht (gO 0) p7 p8)) ?_
       rintro _ _ ⟨rfl, rfl⟩
       replace h20 := nf h20
       refine ⟨⟨[_], h20⟩, ?_⟩
       refine Zh 14 rfl (Zi e14 p5 p6) ?_
       refine Zn 15 rfl (Zo 0 (.int .u32) x10 (gt x9 (w64 (x10 - 1))) 0 h20 rfl p5 p6) ?_
       intro _ w21 h23
       replace h23 := nf h23
       refine ⟨⟨[_], h23⟩, ?_⟩
       have e19 : (x9.set x10.toNat (gt x9 (w64 (x10 - 1)))).length = a0.length := List.length_set.trans e13
       refine Zh 16 rfl (Zi e14 p7 p8) ?_
       refine Zn 17 rfl (Zo 0 (.int .u32) (w64 (x10 - 1)) (gt x9 x10) 0 h23 rfl p7 (by simpa only [List.length_set] using p8)) ?_
       intro _ w22 h24
       replace h24 := nf h24
       refine ⟨⟨[_], h24⟩, ?_⟩
       have e20 : ((x9.set x10.toNat (gt x9 (w64 (x10 - 1)))).set (w64 (x10 - 1)).toNat (gt x9 x10)).length = a0.length := List.length_set.trans e19
       refine Z2 [0, 1, 2, 7, 8, 10] ?_
       exact Zz ⟨(by simp only [List.length_set, List.length_nil] <;> rfl), ((h24.only [0] rfl).rds [] rfl)⟩
     rintro env w23 ⟨rfl, h25⟩
     have e21 : ((x9.set x10.toNat (gt x9 (w64 (x10 - 1)))).set (w64 (x10 - 1)).toNat (gt x9 x10)).length = a0.length := by first | (simp only [List.length_set]; done) | (simp only [List.length_set]; exact e13)
     refine Zb [0, 1, 2, 7, 8, 10] ?_
     have h26 := (sOR h25 [0] [])
     exact ⟨k5, by omega, ((x9.set x10.toNat (gt x9 (w64 (x10 - 1)))).set (w64 (x10 - 1)).toNat (gt x9 x10)), (w64 (x10 + 1)), rfl, h26, H, by omega, e21⟩
    refine W8 [0, 1, 2, 7, 8] ?_
    refine J.exit ?_
    have h27 := (sOR h14 [0] [])
    exact ⟨k5, x9, x6, rfl, h27, H, by omega, e13⟩
   refine W8 [0, 1, 2, 7, 8] ?_
   refine J.skip ?_
   have h29 := (sOR h13 [0] [])
   exact ⟨k4, x8, x6, rfl, h29, H, by omega, e12⟩
  rintro env w3 ⟨k2, x4, x5, rfl, h2, H, hk2, e2⟩
  refine Zb [0, 1, 2, 7, 8] ?_
  have h3 := (sOR h2 [0] [])
  exact ⟨k2, by omega, x4, x5, (w64 (x3 + 1)), rfl, h3, H, e2⟩
 refine J.exit (J.seq (Zb [6] ?_))
 refine J.ret ?_
 cases H
 exact ⟨_, _, _, Zc, ⟨rfl, rfl, e1⟩, Zd h1 [0]⟩

mutual
def Q48.l0 : Nat → (Int) → (List (Int)) → (Int) → (Int) → Option (Int × List (Int))
 | 0, _, _, _, _ => none
 | k + 1, a1, x1, x2, x3 => Q48.l1 k a1 x1 x3 x2
def Q48.l1 : Nat → (Int) → (List (Int)) → (Int) → (Int) → Option (Int × List (Int))
 | 0, _, _, _, _ => none
 | k + 1, a1, x1, x3, x4 => if (decide (x4 ≤ x3)) = true then (if 0 ≤ a1 ∧ a1 < (x1.length : Int) then (if 0 ≤ x4 ∧ x4 < (x1.length : Int) then ((Q27.f (gt x1 a1) (gt x1 x4)).bind fun r1 => (if (!r1) = true then (Q48.l1 k a1 x1 x3 (w64 (x4 + 1))) else (Q48.l2 k a1 x1 x4 x3))) else none) else none) else (Q48.l3 k a1 x1 x3 x4)
def Q48.l2 : Nat → (Int) → (List (Int)) → (Int) → (Int) → Option (Int × List (Int))
 | 0, _, _, _, _ => none
 | k + 1, a1, x1, x4, x5 => if (decide (x4 ≤ x5)) = true then (if 0 ≤ x5 ∧ x5 < (x1.length : Int) then ((Q27.f (gt x1 a1) (gt x1 x5)).bind fun r2 => (if r2 = true then (Q48.l2 k a1 x1 x4 (w64 (x5 - 1))) else (if (decide (x5 < x4)) = true then (some (x4, x1)) else (Q48.l0 k a1 ((x1.set x4.toNat (gt x1 x5)).set x5.toNat (gt x1 x4)) (w64 (x4 + 1)) (w64 (x5 - 1)))))) else none) else (if (decide (x5 < x4)) = true then (some (x4, x1)) else (if 0 ≤ x5 ∧ x5 < (x1.length : Int) then (Q48.l0 k a1 ((x1.set x4.toNat (gt x1 x5)).set x5.toNat (gt x1 x4)) (w64 (x4 + 1)) (w64 (x5 - 1))) else none))
def Q48.l3 : Nat → (Int) → (List (Int)) → (Int) → (Int) → Option (Int × List (Int))
 | 0, _, _, _, _ => none
 | k + 1, a1, x1, x3, x4 => if (decide (x3 < x4)) = true then (some (x4, x1)) else (if 0 ≤ x3 ∧ x3 < (x1.length : Int) then (if 0 ≤ x4 ∧ x4 < (x1.length : Int) then (Q48.l0 k a1 ((x1.set x4.toNat (gt x1 x3)).set x3.toNat (gt x1 x4)) (w64 (x4 + 1)) (w64 (x3 - 1))) else none) else none)
end
def Q48.f (k : Nat) (a0 : List (Int)) (a1 : Int) (a2 : Int) (a3 : Int) : Option (Int × List (Int)) := if 0 ≤ a3 ∧ a3 < (a0.length : Int) then (if 0 ≤ a1 ∧ a1 < (a0.length : Int) then (Q48.l0 k a1 ((a0.set a1.toNat (gt a0 a3)).set a3.toNat (gt a0 a1)) (w64 (a1 + 1)) (w64 (a2 - 1))) else none) else none
theorem Q48.spec {k : Nat} {a0 : List (Int)} {a1 : Int} {a2 : Int} {a3 : Int} {A1 : Option Addr} {c_1 : Nat} {r : Int × List (Int)} (H : Q48.f k a0 a1 a2 a3 = some r) :
  Spec Try.prog 175 [.slice A1 a0.length c_1, .int .i64 a1, .int .i64 a2, .int .i64 a3] [O23 a0 A1 c_1] [] (fun v l => v = .int .i64 r.1 ∧ l = [O23 r.2 A1 c_1] ∧ r.2.length = a0.length) := by
 refine Zr Try.func175 fun w0 F0 h0 => ?_
 unfold Q48.f at H
 refine J.seq (Zb [0, 1, 2, 3] ?_)
 refine J.seq ?_
 obtain ⟨⟨p1, p2⟩, H⟩ := Zq H
 obtain ⟨⟨p3, p4⟩, H⟩ := Zq H
 refine J.midS (fun env w => env = [(0, .slice A1 ((a0.set a1.toNat (gt a0 a3)).set a3.toNat (gt a0 a1)).length c_1), (1, .int .i64 a1), (2, .int .i64 a2)] ∧ St w0 F0 [O23 ((a0.set a1.toNat (gt a0 a3)).set a3.toNat (gt a0 a1)) A1 c_1] [] w) ?_ ?_
 ·refine Zs (Zd h0 []) ?_
  have h3 := h0.drew
  refine Zx [0, 1, 2, 3, 4, 5, 8, 9] ?_
  have e4 := Z3 h3.wh (gO 0) p1 p2
  refine Zh 6 rfl (Zi e4 p1 p2) ?_
  refine Zh 10 rfl (Zi e4 p3 p4) ?_
  refine HJ.pick [7, 11] (i := 7) rfl rfl rfl rfl ?_
  refine (Yb ?_ (Yb ?_ Xa))
  ·refine Z4 7 rfl (OpT.ofq (Zj 0 h3.wht (gO 0) p1 p2)) ?_
   rintro _ _ ⟨rfl, rfl⟩
   replace h3 := nf h3
   refine ⟨⟨[_], h3⟩, ?_⟩
   refine Zn 11 rfl (OpT.ofq (Zj 0 h3.wht (gO 0) p3 p4)) ?_
   rintro _ _ ⟨rfl, rfl⟩
   replace h3 := nf h3
   refine ⟨⟨[_], h3⟩, ?_⟩
   refine Zh 12 rfl (Zi e4 p3 p4) ?_
   refine Zn 13 rfl (Zo 0 (.int .u32) a1 (gt a0 a3) 0 h3 rfl p3 p4) ?_
   intro _ w3 h4
   replace h4 := nf h4
   refine ⟨⟨[_], h4⟩, ?_⟩
   have e5 : (a0.set a1.toNat (gt a0 a3)).length = a0.length := List.length_set.trans (rfl : a0.length = a0.length)
   refine Zh 14 rfl (Zi e4 p1 p2) ?_
   refine Zn 15 rfl (Zo 0 (.int .u32) a3 (gt a0 a1) 0 h4 rfl p1 (by simpa only [List.length_set] using p2)) ?_
   intro _ w4 h5
   replace h5 := nf h5
   refine ⟨⟨[_], h5⟩, ?_⟩
   have e6 : ((a0.set a1.toNat (gt a0 a3)).set a3.toNat (gt a0 a1)).length = a0.length := List.length_set.trans e5
   refine Z2 [0, 1, 2] ?_
   exact Zz ⟨(by simp only [List.length_set, List.length_nil] <;> rfl), ((h5.only [0] rfl).rds [] rfl)⟩
  ·refine Z4 11 rfl (OpT.ofq (Zj 0 h3.wht (gO 0) p3 p4)) ?_
   rintro _ _ ⟨rfl, rfl⟩
   replace h3 := nf h3
   refine ⟨⟨[_], h3⟩, ?_⟩
   refine Zn 7 rfl (OpT.ofq (Zj 0 h3.wht (gO 0) p1 p2)) ?_
   rintro _ _ ⟨rfl, rfl⟩
   replace h3 := nf h3
   refine ⟨⟨[_], h3⟩, ?_⟩
   refine Zh 12 rfl (Zi e4 p3 p4) ?_
   refine Zn 13 rfl (Zo 0 (.int .u32) a1 (gt a0 a3) 0 h3 rfl p3 p4) ?_
   intro _ w5 h6
   replace h6 := nf h6
   refine ⟨⟨[_], h6⟩, ?_⟩
   have e7 : (a0.set a1.toNat (gt a0 a3)).length = a0.length := List.length_set.trans (rfl : a0.length = a0.length)
   refine Zh 14 rfl (Zi e4 p1 p2) ?_
   refine Zn 15 rfl (Zo 0 (.int .u32) a3 (gt a0 a1) 0 h6 rfl p1 (by simpa only [List.length_set] using p2)) ?_
   intro _ w6 h7
   replace h7 := nf h7
   refine ⟨⟨[_], h7⟩, ?_⟩
   have e8 : ((a0.set a1.toNat (gt a0 a3)).set a3.toNat (gt a0 a1)).length = a0.length := List.length_set.trans e7
   refine Z2 [0, 1, 2] ?_
   exact Zz ⟨(by simp only [List.length_set, List.length_nil] <;> rfl), ((h7.only [0] rfl).rds [] rfl)⟩
 rintro env w7 ⟨rfl, h8⟩
 have e9 : ((a0.set a1.toNat (gt a0 a3)).set a3.toNat (gt a0 a1)).length = a0.length := by first | (simp only [List.length_set]; done) | (simp only [List.length_set]; exact (rfl : a0.length = a0.length))
 refine J.seq (Zb [0, 1, 9, 10] ?_)
 refine J.seq (J.block ?_)
 have h50 := (sOR h8 [0] [])
 refine J.loop (fun kk env w => ∃ (x1 : List (Int)) (x2 : Int) (x3 : Int), env = [(0, .slice A1 x1.length c_1), (1, .int .i64 a1), (9, .int .i64 x2), (10, .int .i64 x3)] ∧ St w0 F0 [O23 x1 A1 c_1] [] w ∧ Q48.l0 kk a1 x1 x2 x3 = some r ∧ x1.length = a0.length) (k := k) ⟨((a0.set a1.toNat (gt a0 a3)).set a3.toNat (gt a0 a1)), (w64 (a1 + 1)), (w64 (a2 - 1)), rfl, h50, H, e9⟩ ?_
 rintro k1 env w8 ⟨x1, x2, x3, rfl, h9, H, e10⟩
 rcases k1 with _ | k1
 ·exact z0 H
 rw [Q48.l0] at H
 refine J.block (J.seq (J.block ?_))
 have h49 := (sOR h9 [0] [])
 refine J.loop (fun kk env w => ∃ (x4 : Int), env = [(0, .slice A1 x1.length c_1), (1, .int .i64 a1), (9, .int .i64 x4), (10, .int .i64 x3)] ∧ St w0 F0 [O23 x1 A1 c_1] [] w ∧ Q48.l1 kk a1 x1 x3 x4 = some r ∧ kk ≤ k1) (k := k1) ⟨x2, rfl, h49, H, Nat.le_refl _⟩ ?_
 rintro k2 env w9 ⟨x4, rfl, h10, H, hk2⟩
 rcases k2 with _ | k2
 ·exact z0 H
 rw [Q48.l1] at H
 refine J.seq (J.seq ?_)
 refine Zs h10 ?_
 have h11 := h10.drew
 refine Zx [0, 1, 2, 3] ?_
 refine Wk 32 H (fun c1 H => ?_) fun c1 H => ?_
 ·refine Zx [4, 5, 8, 9] ?_
  obtain ⟨⟨p5, p6⟩, H⟩ := Zq H
  have e11 := Z3 h11.wh (gO 0) p5 p6
  refine Zh 6 rfl (Zi e11 p5 p6) ?_
  refine Zh 7 rfl (Zj 0 wI (gO 0) p5 p6) ?_
  obtain ⟨⟨p7, p8⟩, H⟩ := Zq H
  refine Zh 10 rfl (Zi e11 p7 p8) ?_
  refine Zh 11 rfl (Zj 0 wI (gO 0) p7 p8) ?_
  obtain ⟨r1, q1, H⟩ := Zp H
  refine Zn 12 rfl (Zk [] (Q27.spec q1) h11 rfl Zu) ?_
  rintro _ w10 ⟨_, ⟨rfl, rfl⟩, h12⟩
  replace h12 := nf h12
  refine ⟨⟨[], h12⟩, ?_⟩
  refine Zx [13, 14] ?_
  refine Z2 [0, 1, 9, 10, 43] ?_
  refine jIf H (fun c2 H => ?_) fun c2 H => ?_
  ·refine J.skip (J.block (Zb [0, 1, 9, 10] ?_))
   have h13 := (sOR h12 [0] [])
   exact ⟨k2, by omega, (w64 (x4 + 1)), rfl, h13, H, by omega⟩
  refine J.exit (J.seq (J.block ?_))
  refine W8 [0, 1, 9, 10] ?_
  have h36 := (sOR h12 [0] [])
  refine J.loop (fun kk env w => ∃ (x5 : Int), env = [(0, .slice A1 x1.length c_1), (1, .int .i64 a1), (9, .int .i64 x4), (10, .int .i64 x5)] ∧ St w0 F0 [O23 x1 A1 c_1] [] w ∧ Q48.l2 kk a1 x1 x4 x5 = some r ∧ kk ≤ k2) (k := k2) ⟨x3, rfl, h36, H, Nat.le_refl _⟩ ?_
  rintro k3 env w11 ⟨x5, rfl, h14, H, hk3⟩
  rcases k3 with _ | k3
  ·exact z0 H
  rw [Q48.l2] at H
  refine J.seq (J.seq ?_)
  refine Zs h14 ?_
  have h15 := h14.drew
  refine Zx [0, 1, 2, 3] ?_
  refine Wk 49 H (fun c3 H => ?_) fun c3 H => ?_
  ·refine Zx [4, 5, 8, 9] ?_
   refine Zh 6 rfl (Zi e11 p5 p6) ?_
   refine Zh 7 rfl (Zj 0 wI (gO 0) p5 p6) ?_
   obtain ⟨⟨p9, p10⟩, H⟩ := Zq H
   refine Zh 10 rfl (Zi e11 p9 p10) ?_
   refine Zh 11 rfl (Zj 0 wI (gO 0) p9 p10) ?_
   obtain ⟨r2, q2, H⟩ := Zp H
   refine Zn 12 rfl (Zk [] (Q27.spec q2) h15 rfl Zu) ?_
   rintro _ w12 ⟨_, ⟨rfl, rfl⟩, h16⟩
   replace h16 := nf h16
   refine ⟨⟨[], h16⟩, ?_⟩
   refine Zx [13] ?_
   refine Z2 [0, 1, 9, 10, 59] ?_
   refine jIf H (fun c4 H => ?_) fun c4 H => ?_
   ·refine J.skip (J.block (Zb [0, 1, 9, 10] ?_))
    have h17 := (sOR h16 [0] [])
    exact ⟨k3, by omega, (w64 (x5 - 1)), rfl, h17, H, by omega⟩
   refine J.exit (J.seq (J.seq (Zb [0, 1, 9, 10, 64] ?_)))
   refine jIf H (fun c5 H => ?_) fun c5 H => ?_
   ·refine J.exit (J.seq (Zb [8] ?_))
    refine J.ret ?_
    cases H
    exact ⟨_, _, _, Zc, ⟨rfl, rfl, e10⟩, Zd h16 [0]⟩
   refine J.skip (J.seq (J.midS (fun env w => env = [(0, .slice A1 ((x1.set x4.toNat (gt x1 x5)).set x5.toNat (gt x1 x4)).length c_1), (1, .int .i64 a1), (9, .int .i64 x4), (10, .int .i64 x5)] ∧ St w0 F0 [O23 ((x1.set x4.toNat (gt x1 x5)).set x5.toNat (gt x1 x4)) A1 c_1] [] w) ?_ ?_))
   ·refine Zs (Zd h16 []) ?_
    have h20 := h16.drew
    refine Zx [0, 1, 2, 3, 4, 5, 8, 9] ?_
    refine Zh 6 rfl (Zi e11 p9 p10) ?_
    refine Zh 10 rfl (Zi e11 p7 p8) ?_
    refine HJ.pick [7, 11] (i := 7) rfl rfl rfl rfl ?_
    refine (Yb ?_ (Yb ?_ Xa))
    ·refine Z4 7 rfl (OpT.ofq (Zj 0 h20.wht (gO 0) p9 p10)) ?_
     rintro _ _ ⟨rfl, rfl⟩
     replace h20 := nf h20
     refine ⟨⟨[_], h20⟩, ?_⟩
     refine Zn 11 rfl (OpT.ofq (Zj 0 h20.wht (gO 0) p7 p8)) ?_
     rintro _ _ ⟨rfl, rfl⟩
     replace h20 := nf h20
     refine ⟨⟨[_], h20⟩, ?_⟩
     refine Zh 12 rfl (Zi e11 p7 p8) ?_
     refine Zn 13 rfl (Zo 0 (.int .u32) x4 (gt x1 x5) 0 h20 rfl p7 p8) ?_
     intro _ w15 h21
     replace h21 := nf h21
     refine ⟨⟨[_], h21⟩, ?_⟩
     have e14 : (x1.set x4.toNat (gt x1 x5)).length = a0.length := List.length_set.trans e10
     refine Zh 14 rfl (Zi e11 p9 p10) ?_
     refine Zn 15 rfl (Zo 0 (.int .u32) x5 (gt x1 x4) 0 h21 rfl p9 (by simpa only [List.length_set] using p10)) ?_
     intro _ w16 h22
     replace h22 := nf h22
     refine ⟨⟨[_], h22⟩, ?_⟩
     have e15 : ((x1.set x4.toNat (gt x1 x5)).set x5.toNat (gt x1 x4)).length = a0.length := List.length_set.trans e14
     refine Z2 [0, 1, 9, 10] ?_
     exact Zz ⟨(by simp only [List.length_set, List.length_nil] <;> rfl), ((h22.only [0] rfl).rds [] rfl)⟩
    ·refine Z4 11 rfl (OpT.ofq (Zj 0 h20.wht (gO 0) p7 p8)) ?_
     rintro _ _ ⟨rfl, rfl⟩
     replace h20 := nf h20
     refine ⟨⟨[_], h20⟩, ?_⟩
     refine Zn 7 rfl (OpT.ofq (Zj 0 h20.wht (gO 0) p9 p10)) ?_
     rintro _ _ ⟨rfl, rfl⟩
     replace h20 := nf h20
     refine ⟨⟨[_], h20⟩, ?_⟩
     refine Zh 12 rfl (Zi e11 p7 p8) ?_
     refine Zn 13 rfl (Zo 0 (.int .u32) x4 (gt x1 x5) 0 h20 rfl p7 p8) ?_
     intro _ w17 h23
     replace h23 := nf h23
     refine ⟨⟨[_], h23⟩, ?_⟩
     have e16 : (x1.set x4.toNat (gt x1 x5)).length = a0.length := List.length_set.trans e10
     refine Zh 14 rfl (Zi e11 p9 p10) ?_
     refine Zn 15 rfl (Zo 0 (.int .u32) x5 (gt x1 x4) 0 h23 rfl p9 (by simpa only [List.length_set] using p10)) ?_
     intro _ w18 h24
     replace h24 := nf h24
     refine ⟨⟨[_], h24⟩, ?_⟩
     have e17 : ((x1.set x4.toNat (gt x1 x5)).set x5.toNat (gt x1 x4)).length = a0.length := List.length_set.trans e16
     refine Z2 [0, 1, 9, 10] ?_
     exact Zz ⟨(by simp only [List.length_set, List.length_nil] <;> rfl), ((h24.only [0] rfl).rds [] rfl)⟩
   rintro env w19 ⟨rfl, h25⟩
   have e18 : ((x1.set x4.toNat (gt x1 x5)).set x5.toNat (gt x1 x4)).length = a0.length := by first | (simp only [List.length_set]; done) | (simp only [List.length_set]; exact e10)
   refine J.seq (Zb [0, 1, 9, 10] ?_)
   refine Zb [0, 1, 9, 10] ?_
   have h26 := (sOR h25 [0] [])
   exact ⟨k3, by omega, ((x1.set x4.toNat (gt x1 x5)).set x5.toNat (gt x1 x4)), (w64 (x4 + 1)), (w64 (x5 - 1)), rfl, h26, H, e18⟩
  refine Zx [4, 5, 6, 7, 8, 9, 10, 11, 12, 13] ?_
  refine Z2 [0, 1, 9, 10, 59] ?_
  refine Z7 ?_
  refine J.exit (J.seq (J.seq (Zb [0, 1, 9, 10, 64] ?_)))
  refine jIf H (fun c6 H => ?_) fun c6 H => ?_
  ·refine J.exit (J.seq (Zb [8] ?_))
   refine J.ret ?_
   cases H
   exact ⟨_, _, _, Zc, ⟨rfl, rfl, e10⟩, Zd h15 [0]⟩
  refine J.skip (J.seq ?_)
  obtain ⟨⟨p11, p12⟩, H⟩ := Zq H
  refine J.midS (fun env w => env = [(0, .slice A1 ((x1.set x4.toNat (gt x1 x5)).set x5.toNat (gt x1 x4)).length c_1), (1, .int .i64 a1), (9, .int .i64 x4), (10, .int .i64 x5)] ∧ St w0 F0 [O23 ((x1.set x4.toNat (gt x1 x5)).set x5.toNat (gt x1 x4)) A1 c_1] [] w) ?_ ?_
  ·refine Zs (Zd h15 []) ?_
   have h29 := h15.drew
   refine Zx [0, 1, 2, 3, 4, 5, 8, 9] ?_
   refine Zh 6 rfl (Zi e11 p11 p12) ?_
   refine Zh 10 rfl (Zi e11 p7 p8) ?_
   refine HJ.pick [7, 11] (i := 7) rfl rfl rfl rfl ?_
   refine (Yb ?_ (Yb ?_ Xa))
   ·refine Z4 7 rfl (OpT.ofq (Zj 0 h29.wht (gO 0) p11 p12)) ?_
    rintro _ _ ⟨rfl, rfl⟩
    replace h29 := nf h29
    refine ⟨⟨[_], h29⟩, ?_⟩
    refine Zn 11 rfl (OpT.ofq (Zj 0 h29.wht (gO 0) p7 p8)) ?_
    rintro _ _ ⟨rfl, rfl⟩
    replace h29 := nf h29
    refine ⟨⟨[_], h29⟩, ?_⟩
    refine Zh 12 rfl (Zi e11 p7 p8) ?_
    refine Zn 13 rfl (Zo 0 (.int .u32) x4 (gt x1 x5) 0 h29 rfl p7 p8) ?_
    intro _ w22 h30
    replace h30 := nf h30
    refine ⟨⟨[_], h30⟩, ?_⟩
    have e21 : (x1.set x4.toNat (gt x1 x5)).length = a0.length := List.length_set.trans e10
    refine Zh 14 rfl (Zi e11 p11 p12) ?_
    refine Zn 15 rfl (Zo 0 (.int .u32) x5 (gt x1 x4) 0 h30 rfl p11 (by simpa only [List.length_set] using p12)) ?_
    intro _ w23 h31
    replace h31 := nf h31
    refine ⟨⟨[_], h31⟩, ?_⟩
    have e22 : ((x1.set x4.toNat (gt x1 x5)).set x5.toNat (gt x1 x4)).length = a0.length := List.length_set.trans e21
    refine Z2 [0, 1, 9, 10] ?_
    exact Zz ⟨(by simp only [List.length_set, List.length_nil] <;> rfl), ((h31.only [0] rfl).rds [] rfl)⟩
   ·refine Z4 11 rfl (OpT.ofq (Zj 0 h29.wht (gO 0) p7 p8)) ?_
    rintro _ _ ⟨rfl, rfl⟩
    replace h29 := nf h29
    refine ⟨⟨[_], h29⟩, ?_⟩
    refine Zn 7 rfl (OpT.ofq (Zj 0 h29.wht (gO 0) p11 p12)) ?_
    rintro _ _ ⟨rfl, rfl⟩
    replace h29 := nf h29
    refine ⟨⟨[_], h29⟩, ?_⟩
    refine Zh 12 rfl (Zi e11 p7 p8) ?_
    refine Zn 13 rfl (Zo 0 (.int .u32) x4 (gt x1 x5) 0 h29 rfl p7 p8) ?_
    intro _ w24 h32
    replace h32 := nf h32
    refine ⟨⟨[_], h32⟩, ?_⟩
    have e23 : (x1.set x4.toNat (gt x1 x5)).length = a0.length := List.length_set.trans e10
    refine Zh 14 rfl (Zi e11 p11 p12) ?_
    refine Zn 15 rfl (Zo 0 (.int .u32) x5 (gt x1 x4) 0 h32 rfl p11 (by simpa only [List.length_set] using p12)) ?_
    intro _ w25 h33
    replace h33 := nf h33
    refine ⟨⟨[_], h33⟩, ?_⟩
    have e24 : ((x1.set x4.toNat (gt x1 x5)).set x5.toNat (gt x1 x4)).length = a0.length := List.length_set.trans e23
    refine Z2 [0, 1, 9, 10] ?_
    exact Zz ⟨(by simp only [List.length_set, List.length_nil] <;> rfl), ((h33.only [0] rfl).rds [] rfl)⟩
  rintro env w26 ⟨rfl, h34⟩
  have e25 : ((x1.set x4.toNat (gt x1 x5)).set x5.toNat (gt x1 x4)).length = a0.length := by first | (simp only [List.length_set]; done) | (simp only [List.length_set]; exact e10)
  refine J.seq (Zb [0, 1, 9, 10] ?_)
  refine Zb [0, 1, 9, 10] ?_
  have h35 := (sOR h34 [0] [])
  exact ⟨k3, by omega, ((x1.set x4.toNat (gt x1 x5)).set x5.toNat (gt x1 x4)), (w64 (x4 + 1)), (w64 (x5 - 1)), rfl, h35, H, e25⟩
 refine Zx [4, 5, 6, 7, 8, 9, 10, 11, 12, 13, 14] ?_
 refine Z2 [0, 1, 9, 10, 43] ?_
 refine Z7 ?_
 refine J.exit (J.seq (J.block ?_))
 refine W8 [0, 1, 9, 10] ?_
 have h48 := (sOR h11 [0] [])
 refine J.loop (fun kk env w => env = [(0, .slice A1 x1.length c_1), (1, .int .i64 a1), (9, .int .i64 x4), (10, .int .i64 x3)] ∧ St w0 F0 [O23 x1 A1 c_1] [] w ∧ Q48.l3 kk a1 x1 x3 x4 = some r ∧ kk ≤ k2) (k := k2) ⟨rfl, h48, H, Nat.le_refl _⟩ ?_
 rintro k4 env w27 ⟨rfl, h37, H, hk4⟩
 rcases k4 with _ | k4
 ·exact z0 H
 rw [Q48.l3] at H
 refine J.seq (J.seq ?_)
 refine Zs h37 ?_
 have h38 := h37.drew
 refine Zx [0, 1, 2, 3] ?_
 refine Zct 49 (congrArg Value.bool c1) ?_
 refine Zx [4, 5, 6, 7, 8, 9, 10, 11, 12, 13] ?_
 refine Z2 [0, 1, 9, 10, 59] ?_
 refine Z7 ?_
 refine J.exit (J.seq (J.seq (Zb [0, 1, 9, 10, 64] ?_)))
 refine jIf H (fun c7 H => ?_) fun c7 H => ?_
 ·refine J.exit (J.seq (Zb [8] ?_))
  refine J.ret ?_
  cases H
  exact ⟨_, _, _, Zc, ⟨rfl, rfl, e10⟩, Zd h38 [0]⟩
 refine J.skip (J.seq ?_)
 obtain ⟨⟨p13, p14⟩, H⟩ := Zq H
 obtain ⟨⟨p15, p16⟩, H⟩ := Zq H
 refine J.midS (fun env w => env = [(0, .slice A1 ((x1.set x4.toNat (gt x1 x3)).set x3.toNat (gt x1 x4)).length c_1), (1, .int .i64 a1), (9, .int .i64 x4), (10, .int .i64 x3)] ∧ St w0 F0 [O23 ((x1.set x4.toNat (gt x1 x3)).set x3.toNat (gt x1 x4)) A1 c_1] [] w) ?_ ?_
 ·refine Zs (Zd h38 []) ?_
  have h41 := h38.drew
  refine Zx [0, 1, 2, 3, 4, 5, 8, 9] ?_
  have e29 := Z3 h41.wh (gO 0) p13 p14
  refine Zh 6 rfl (Zi e29 p13 p14) ?_
  refine Zh 10 rfl (Zi e29 p15 p16) ?_
  refine HJ.pick [7, 11] (i := 7) rfl rfl rfl rfl ?_
  refine (Yb ?_ (Yb ?_ Xa))
  ·refine Z4 7 rfl (OpT.ofq (Zj 0 h41.wht (gO 0) p13 p14)) ?_
   rintro _ _ ⟨rfl, rfl⟩
   replace h41 := nf h41
   refine ⟨⟨[_], h41⟩, ?_⟩
   refine Zn 11 rfl (OpT.ofq (Zj 0 h41.wht (gO 0) p15 p16)) ?_
   rintro _ _ ⟨rfl, rfl⟩
   replace h41 := nf h41
   refine ⟨⟨[_], h41⟩, ?_⟩
   refine Zh 12 rfl (Zi e29 p15 p16) ?_
   refine Zn 13 rfl (Zo 0 (.int .u32) x4 (gt x1 x3) 0 h41 rfl p15 p16) ?_
   intro _ w30 h42
   replace h42 := nf h42
   refine ⟨⟨[_], h42⟩, ?_⟩
   have e30 : (x1.set x4.toNat (gt x1 x3)).length = a0.length := List.length_set.trans e10
   refine Zh 14 rfl (Zi e29 p13 p14) ?_
   refine Zn 15 rfl (Zo 0 (.int .u32) x3 (gt x1 x4) 0 h42 rfl p13 (by simpa only [List.length_set] using p14)) ?_
   intro _ w31 h43
   replace h43 := nf h43
   refine ⟨⟨[_], h43⟩, ?_⟩
   have e31 : ((x1.set x4.toNat (gt x1 x3)).set x3.toNat (gt x1 x4)).length = a0.length := List.length_set.trans e30
   refine Z2 [0, 1, 9, 10] ?_
   exact Zz ⟨(by simp only [List.length_set, List.length_nil] <;> rfl), ((h43.only [0] rfl).rds [] rfl)⟩
  ·refine Z4 11 rfl (OpT.ofq (Zj 0 h41.wht (gO 0) p15 p16)) ?_
   rintro _ _ ⟨rfl, rfl⟩
   replace h41 := nf h41
   refine ⟨⟨[_], h41⟩, ?_⟩
   refine Zn 7 rfl (OpT.ofq (Zj 0 h41.wht (gO 0) p13 p14)) ?_
   rintro _ _ ⟨rfl, rfl⟩
   replace h41 := nf h41
   refine ⟨⟨[_], h41⟩, ?_⟩
   refine Zh 12 rfl (Zi e29 p15 p16) ?_
   refine Zn 13 rfl (Zo 0 (.int .u32) x4 (gt x1 x3) 0 h41 rfl p15 p16) ?_
   intro _ w32 h44
   replace h44 := nf h44
   refine ⟨⟨[_], h44⟩, ?_⟩
   have e32 : (x1.set x4.toNat (gt x1 x3)).length = a0.length := List.length_set.trans e10
   refine Zh 14 rfl (Zi e29 p13 p14) ?_
   refine Zn 15 rfl (Zo 0 (.int .u32) x3 (gt x1 x4) 0 h44 rfl p13 (by simpa only [List.length_set] using p14)) ?_
   intro _ w33 h45
   replace h45 := nf h45
   refine ⟨⟨[_], h45⟩, ?_⟩
   have e33 : ((x1.set x4.toNat (gt x1 x3)).set x3.toNat (gt x1 x4)).length = a0.length := List.length_set.trans e32
   refine Z2 [0, 1, 9, 10] ?_
   exact Zz ⟨(by simp only [List.length_set, List.length_nil] <;> rfl), ((h45.only [0] rfl).rds [] rfl)⟩
 rintro env w34 ⟨rfl, h46⟩
 have e34 : ((x1.set x4.toNat (gt x1 x3)).set x3.toNat (gt x1 x4)).length = a0.length := by first | (simp only [List.length_set]; done) | (simp only [List.length_set]; exact e10)
 refine J.seq (Zb [0, 1, 9, 10] ?_)
 refine Zb [0, 1, 9, 10] ?_
 have h47 := (sOR h46 [0] [])
 exact ⟨k4, by omega, ((x1.set x4.toNat (gt x1 x3)).set x3.toNat (gt x1 x4)), (w64 (x4 + 1)), (w64 (x3 - 1)), rfl, h47, H, e34⟩

mutual
def Q49.l0 : Nat → (Int) → (List (Int)) → (Int) → (Int) → Option (Int × Bool × List (Int))
 | 0, _, _, _, _ => none
 | k + 1, a1, x9, x10, x11 => Q49.l2 k a1 x9 x11 x10
def Q49.l1 : Nat → (Int) → (List (Int)) → (Int) → (Int) → Option (Int × Bool × List (Int))
 | 0, _, _, _, _ => none
 | k + 1, a1, x9, x12, x16 => if (decide (x12 ≤ x16)) = true then (if 0 ≤ x16 ∧ x16 < (x9.length : Int) then (if 0 ≤ a1 ∧ a1 < (x9.length : Int) then ((Q27.f (gt x9 x16) (gt x9 a1)).bind fun r1 => (if (!r1) = true then (Q49.l1 k a1 x9 x12 (w64 (x16 - 1))) else (if (decide (x16 < x12)) = true then (if 0 ≤ a1 ∧ a1 < (x9.length : Int) then (if 0 ≤ x16 ∧ x16 < (x9.length : Int) then (some (x16, false, ((x9.set x16.toNat (gt x9 a1)).set a1.toNat (gt x9 x16)))) else none) else none) else (if 0 ≤ x16 ∧ x16 < (x9.length : Int) then (if 0 ≤ x12 ∧ x12 < (x9.length : Int) then (Q49.l0 k a1 ((x9.set x12.toNat (gt x9 x16)).set x16.toNat (gt x9 x12)) (w64 (x12 + 1)) (w64 (x16 - 1))) else none) else none)))) else none) else none) else (if (decide (x16 < x12)) = true then (if 0 ≤ a1 ∧ a1 < (x9.length : Int) then (if 0 ≤ x16 ∧ x16 < (x9.length : Int) then (some (x16, false, ((x9.set x16.toNat (gt x9 a1)).set a1.toNat (gt x9 x16)))) else none) else none) else (if 0 ≤ x16 ∧ x16 < (x9.length : Int) then (if 0 ≤ x12 ∧ x12 < (x9.length : Int) then (Q49.l0 k a1 ((x9.set x12.toNat (gt x9 x16)).set x16.toNat (gt x9 x12)) (w64 (x12 + 1)) (w64 (x16 - 1))) else none) else none))
def Q49.l2 : Nat → (Int) → (List (Int)) → (Int) → (Int) → Option (Int × Bool × List (Int))
 | 0, _, _, _, _ => none
 | k + 1, a1, x9, x11, x17 => if (decide (x17 ≤ x11)) = true then (if 0 ≤ x17 ∧ x17 < (x9.length : Int) then (if 0 ≤ a1 ∧ a1 < (x9.length : Int) then ((Q27.f (gt x9 x17) (gt x9 a1)).bind fun r2 => (if r2 = true then (Q49.l2 k a1 x9 x11 (w64 (x17 + 1))) else (Q49.l1 k a1 x9 x17 x11))) else none) else none) else (Q49.l1 k a1 x9 x17 x11)
end
def Q49.l3 : Nat → (List (Int)) → (Int) → (Int) → (Int) → (Int) → Option (Int × Bool × List (Int))
 | 0, _, _, _, _, _ => none
 | k + 1, a0, a1, a3, x1, x18 => if (decide (x1 ≤ x18)) = true then (if 0 ≤ x18 ∧ x18 < (((a0.set a1.toNat (gt a0 a3)).set a3.toNat (gt a0 a1)).length : Int) then (if 0 ≤ a1 ∧ a1 < (((a0.set a1.toNat (gt a0 a3)).set a3.toNat (gt a0 a1)).length : Int) then ((Q27.f (gt ((a0.set a1.toNat (gt a0 a3)).set a3.toNat (gt a0 a1)) x18) (gt ((a0.set a1.toNat (gt a0 a3)).set a3.toNat (gt a0 a1)) a1)).bind fun r3 => (if (!r3) = true then (Q49.l3 k a0 a1 a3 x1 (w64 (x18 - 1))) else (if (decide (x18 < x1)) = true then (if 0 ≤ a1 ∧ a1 < (((a0.set a1.toNat (gt a0 a3)).set a3.toNat (gt a0 a1)).length : Int) then (if 0 ≤ x18 ∧ x18 < (((a0.set a1.toNat (gt a0 a3)).set a3.toNat (gt a0 a1)).length : Int) then (some (x18, true, ((((a0.set a1.toNat (gt a0 a3)).set a3.toNat (gt a0 a1)).set x18.toNat (gt ((a0.set a1.toNat (gt a0 a3)).set a3.toNat (gt a0 a1)) a1)).set a1.toNat (gt ((a0.set a1.toNat (gt a0 a3)).set a3.toNat (gt a0 a1)) x18)))) else none) else none) else (if 0 ≤ x18 ∧ x18 < (((a0.set a1.toNat (gt a0 a3)).set a3.toNat (gt a0 a1)).length : Int) then (if 0 ≤ x1 ∧ x1 < (((a0.set a1.toNat (gt a0 a3)).set a3.toNat (gt a0 a1)).length : Int) then (Q49.l0 k a1 ((((a0.set a1.toNat (gt a0 a3)).set a3.toNat (gt a0 a1)).set x1.toNat (gt ((a0.set a1.toNat (gt a0 a3)).set a3.toNat (gt a0 a1)) x18)).set x18.toNat (gt ((a0.set a1.toNat (gt a0 a3)).set a3.toNat (gt a0 a1)) x1)) (w64 (x1 + 1)) (w64 (x18 - 1))) else none) else none)))) else none) else none) else (if (decide (x18 < x1)) = true then (if 0 ≤ a1 ∧ a1 < (((a0.set a1.toNat (gt a0 a3)).set a3.toNat (gt a0 a1)).length : Int) then (if 0 ≤ x18 ∧ x18 < (((a0.set a1.toNat (gt a0 a3)).set a3.toNat (gt a0 a1)).length : Int) then (some (x18, true, ((((a0.set a1.toNat (gt a0 a3)).set a3.toNat (gt a0 a1)).set x18.toNat (gt ((a0.set a1.toNat (gt a0 a3)).set a3.toNat (gt a0 a1)) a1)).set a1.toNat (gt ((a0.set a1.toNat (gt a0 a3)).set a3.toNat (gt a0 a1)) x18)))) else none) else none) else (if 0 ≤ x18 ∧ x18 < (((a0.set a1.toNat (gt a0 a3)).set a3.toNat (gt a0 a1)).length : Int) then (if 0 ≤ x1 ∧ x1 < (((a0.set a1.toNat (gt a0 a3)).set a3.toNat (gt a0 a1)).length : Int) then (Q49.l0 k a1 ((((a0.set a1.toNat (gt a0 a3)).set a3.toNat (gt a0 a1)).set x1.toNat (gt ((a0.set a1.toNat (gt a0 a3)).set a3.toNat (gt a0 a1)) x18)).set x18.toNat (gt ((a0.set a1.toNat (gt a0 a3)).set a3.toNat (gt a0 a1)) x1)) (w64 (x1 + 1)) (w64 (x18 - 1))) else none) else none))
def Q49.l4 : Nat → (List (Int)) → (Int) → (Int) → (Int) → (Int) → Option (Int × Bool × List (Int))
 | 0, _, _, _, _, _ => none
 | k + 1, a0, a1, a2, a3, x19 => if (decide (x19 ≤ (w64 (a2 - 1)))) = true then (if 0 ≤ x19 ∧ x19 < (((a0.set a1.toNat (gt a0 a3)).set a3.toNat (gt a0 a1)).length : Int) then (if 0 ≤ a1 ∧ a1 < (((a0.set a1.toNat (gt a0 a3)).set a3.toNat (gt a0 a1)).length : Int) then ((Q27.f (gt ((a0.set a1.toNat (gt a0 a3)).set a3.toNat (gt a0 a1)) x19) (gt ((a0.set a1.toNat (gt a0 a3)).set a3.toNat (gt a0 a1)) a1)).bind fun r4 => (if r4 = true then (Q49.l4 k a0 a1 a2 a3 (w64 (x19 + 1))) else (Q49.l3 k a0 a1 a3 x19 (w64 (a2 - 1))))) else none) else none) else (Q49.l3 k a0 a1 a3 x19 (w64 (a2 - 1)))
def Q49.f (k : Nat) (a0 : List (Int)) (a1 : Int) (a2 : Int) (a3 : Int) : Option (Int × Bool × List (Int)) := if 0 ≤ a3 ∧ a3 < (a0.length : Int) then (if 0 ≤ a1 ∧ a1 < (a0.length : Int) then (Q49.l4 k a0 a1 a2 a3 (w64 (a1 + 1))) else none) else none
theorem Q49.spec {k : Nat} {a0 : List (Int)} {a1 : Int} {a2 : Int} {a3 : Int} {A1 : Option Addr} {c_1 : Nat} {r : Int × Bool × List (Int)} (H : Q49.f k a0 a1 a2 a3 = some r) :
  Spec Try.prog 176 [.slice A1 a0.length c_1, .int .i64 a1, .int .i64 a2, .int .i64 a3] [O23 a0 A1 c_1] [] (fun v l => v = .tuple #[.int .i64 r.1, .bool r.2.1] ∧ l = [O23 r.2.2 A1 c_1] ∧ r.2.2.length = a0.length) := by
 refine Zr Try.func176 fun w0 F0 h0 => ?_
 unfold Q49.f at H
 refine J.seq (Zb [0, 1, 2, 3] ?_)
 refine J.seq ?_
 obtain ⟨⟨p1, p2⟩, H⟩ := Zq H
 obtain ⟨⟨p3, p4⟩, H⟩ := Zq H
 refine J.midS (fun env w => env = [(0, .slice A1 ((a0.set a1.toNat (gt a0 a3)).set a3.toNat (gt a0 a1)).length c_1), (1, .int .i64 a1), (2, .int .i64 a2)] ∧ St w0 F0 [O23 ((a0.set a1.toNat (gt a0 a3)).set a3.toNat (gt a0 a1)) A1 c_1] [] w) ?_ ?_
 ·refine Zs (Zd h0 []) ?_
  have h3 := h0.drew
  refine Zx [0, 1, 2, 3, 4, 5, 8, 9] ?_
  have e4 := Z3 h3.wh (gO 0) p1 p2
  refine Zh 6 rfl (Zi e4 p1 p2) ?_
  refine Zh 10 rfl (Zi e4 p3 p4) ?_
  refine HJ.pick [7, 11] (i := 7) rfl rfl rfl rfl ?_
  refine (Yb ?_ (Yb ?_ Xa))
  ·refine Z4 7 rfl (OpT.ofq (Zj 0 h3.wht (gO 0) p1 p2)) ?_
   rintro _ _ ⟨rfl, rfl⟩
   replace h3 := nf h3
   refine ⟨⟨[_], h3⟩, ?_⟩
   refine Zn 11 rfl (OpT.ofq (Zj 0 h3.wht (gO 0) p3 p4)) ?_
   rintro _ _ ⟨rfl, rfl⟩
   replace h3 := nf h3
   refine ⟨⟨[_], h3⟩, ?_⟩
   refine Zh 12 rfl (Zi e4 p3 p4) ?_
   refine Zn 13 rfl (Zo 0 (.int .u32) a1 (gt a0 a3) 0 h3 rfl p3 p4) ?_
   intro _ w3 h4
   replace h4 := nf h4
   refine ⟨⟨[_], h4⟩, ?_⟩
   have e5 : (a0.set a1.toNat (gt a0 a3)).length = a0.length := List.length_set.trans (rfl : a0.length = a0.length)
   refine Zh 14 rfl (Zi e4 p1 p2) ?_
   refine Zn 15 rfl (Zo 0 (.int .u32) a3 (gt a0 a1) 0 h4 rfl p1 (by simpa only [List.length_set] using p2)) ?_
   intro _ w4 h5
   replace h5 := nf h5
   refine ⟨⟨[_], h5⟩, ?_⟩
   have e6 : ((a0.set a1.toNat (gt a0 a3)).set a3.toNat (gt a0 a1)).length = a0.length := List.length_set.trans e5
   refine Z2 [0, 1, 2] ?_
   exact Zz ⟨(by simp only [List.length_set, List.length_nil] <;> rfl), ((h5.only [0] rfl).rds [] rfl)⟩
  ·refine Z4 11 rfl (OpT.ofq (Zj 0 h3.wht (gO 0) p3 p4)) ?_
   rintro _ _ ⟨rfl, rfl⟩
   replace h3 := nf h3
   refine ⟨⟨[_], h3⟩, ?_⟩
   refine Zn 7 rfl (OpT.ofq (Zj 0 h3.wht (gO 0) p1 p2)) ?_
   rintro _ _ ⟨rfl, rfl⟩
   replace h3 := nf h3
   refine ⟨⟨[_], h3⟩, ?_⟩
   refine Zh 12 rfl (Zi e4 p3 p4) ?_
   refine Zn 13 rfl (Zo 0 (.int .u32) a1 (gt a0 a3) 0 h3 rfl p3 p4) ?_
   intro _ w5 h6
   replace h6 := nf h6
   refine ⟨⟨[_], h6⟩, ?_⟩
   have e7 : (a0.set a1.toNat (gt a0 a3)).length = a0.length := List.length_set.trans (rfl : a0.length = a0.length)
   refine Zh 14 rfl (Zi e4 p1 p2) ?_
   refine Zn 15 rfl (Zo 0 (.int .u32) a3 (gt a0 a1) 0 h6 rfl p1 (by simpa only [List.length_set] using p2)) ?_
   intro _ w6 h7
   replace h7 := nf h7
   refine ⟨⟨[_], h7⟩, ?_⟩
   have e8 : ((a0.set a1.toNat (gt a0 a3)).set a3.toNat (gt a0 a1)).length = a0.length := List.length_set.trans e7
   refine Z2 [0, 1, 2] ?_
   exact Zz ⟨(by simp only [List.length_set, List.length_nil] <;> rfl), ((h7.only [0] rfl).rds [] rfl)⟩
 rintro env w7 ⟨rfl, h8⟩
 have e9 : ((a0.set a1.toNat (gt a0 a3)).set a3.toNat (gt a0 a1)).length = a0.length := by first | (simp only [List.length_set]; done) | (simp only [List.length_set]; exact (rfl : a0.length = a0.length))
 refine J.seq (Zb [0, 1, 10, 11] ?_)
 refine J.seq (J.midS (fun env w => ∃ (k1 : Nat) (x1 : Int) (x2 : Bool), env = [(0, .slice A1 ((a0.set a1.toNat (gt a0 a3)).set a3.toNat (gt a0 a1)).length c_1), (1, .int .i64 a1), (10, .int .i64 x1), (11, .int .i64 (w64 (a2 - 1))), (43, .bool x2)] ∧ St w0 F0 [O23 ((a0.set a1.toNat (gt a0 a3)).set a3.toNat (gt a0 a1)) A1 c_1] [] w ∧ (Q49.l3 k1 a0 a1 a3 x1 (w64 (a2 - 1))) = some r ∧ k1 ≤ k) ?_ ?_)
 ·refine J.block ?_
  have h77 := (sOR h8 [0] [])
  refine J.loop (fun kk env w => ∃ (x19 : Int), env = [(0, .slice A1 ((a0.set a1.toNat (gt a0 a3)).set a3.toNat (gt a0 a1)).length c_1), (1, .int .i64 a1), (10, .int .i64 x19), (11, .int .i64 (w64 (a2 - 1)))] ∧ St w0 F0 [O23 ((a0.set a1.toNat (gt a0 a3)).set a3.toNat (gt a0 a1)) A1 c_1] [] w ∧ Q49.l4 kk a0 a1 a2 a3 x19 = some r ∧ kk ≤ k) (k := k) ⟨(w64 (a1 + 1)), rfl, h77, H, Nat.le_refl _⟩ ?_
  rintro k10 env w53 ⟨x19, rfl, h71, H, hk10⟩
  rcases k10 with _ | k10
  ·exact z0 H
  rw [Q49.l4] at H
  refine J.seq (J.seq ?_)
  refine Zs h71 ?_
  have h72 := h71.drew
  refine Zx [0, 1, 2, 3] ?_
  refine Wk 33 H (fun c9 H => ?_) fun c9 H => ?_
  ·refine Zx [4, 5, 8, 9] ?_
   obtain ⟨⟨p33, p34⟩, H⟩ := Zq H
   have e51 := Z3 h72.wh (gO 0) p33 p34
   refine Zh 6 rfl (Zi e51 p33 p34) ?_
   refine Zh 7 rfl (Zj 0 wI (gO 0) p33 p34) ?_
   obtain ⟨⟨p35, p36⟩, H⟩ := Zq H
   refine Zh 10 rfl (Zi e51 p35 p36) ?_
   refine Zh 11 rfl (Zj 0 wI (gO 0) p35 p36) ?_
   obtain ⟨r4, q4, H⟩ := Zp H
   refine Zn 12 rfl (Zk [] (Q27.spec q4) h72 rfl Zu) ?_
   rintro _ w54 ⟨_, ⟨rfl, rfl⟩, h73⟩
   replace h73 := nf h73
   refine ⟨⟨[], h73⟩, ?_⟩
   refine Zx [13] ?_
   refine Z2 [0, 1, 10, 11, 43] ?_
   refine jIf H (fun c10 H => ?_) fun c10 H => ?_
   ·refine J.skip (J.block (Zb [0, 1, 10, 11] ?_))
    have h74 := (sOR h73 [0] [])
    exact ⟨k10, by omega, (w64 (x19 + 1)), rfl, h74, H, by omega⟩
   refine J.exit ?_
   have h75 := (sOR h73 [0] [])
   exact ⟨k10, x19, r4, rfl, h75, H, by omega⟩
  refine Zx [4, 5, 6, 7, 8, 9, 10, 11, 12, 13] ?_
  refine Z2 [0, 1, 10, 11, 43] ?_
  refine Z7 ?_
  refine J.exit ?_
  have h76 := (sOR h72 [0] [])
  exact ⟨k10, x19, false, rfl, h76, H, by omega⟩
 rintro env w9 ⟨k1, x1, x2, rfl, h9, H, hk1⟩
 refine J.seq (J.midS (fun env w => ∃ (k2 : Nat) (x3 : Int) (x4 : Bool), env = [(0, .slice A1 ((a0.set a1.toNat (gt a0 a3)).set a3.toNat (gt a0 a1)).length c_1), (1, .int .i64 a1), (10, .int .i64 x1), (11, .int .i64 x3), (60, .bool x4)] ∧ St w0 F0 [O23 ((a0.set a1.toNat (gt a0 a3)).set a3.toNat (gt a0 a1)) A1 c_1] [] w ∧ (if (decide (x3 < x1)) = true then (if 0 ≤ a1 ∧ a1 < (((a0.set a1.toNat (gt a0 a3)).set a3.toNat (gt a0 a1)).length : Int) then (if 0 ≤ x3 ∧ x3 < (((a0.set a1.toNat (gt a0 a3)).set a3.toNat (gt a0 a1)).length : Int) then (some (x3, true, ((((a0.set a1.toNat (gt a0 a3)).set a3.toNat (gt a0 a1)).set x3.toNat (gt ((a0.set a1.toNat (gt a0 a3)).set a3.toNat (gt a0 a1)) a1)).set a1.toNat (gt ((a0.set a1.toNat (gt a0 a3)).set a3.toNat (gt a0 a1)) x3)))) else none) else none) else (if 0 ≤ x3 ∧ x3 < (((a0.set a1.toNat (gt a0 a3)).set a3.toNat (gt a0 a1)).length : Int) then (if 0 ≤ x1 ∧ x1 < (((a0.set a1.toNat (gt a0 a3)).set a3.toNat (gt a0 a1)).length : Int) then (Q49.l0 k2 a1 ((((a0.set a1.toNat (gt a0 a3)).set a3.toNat (gt a0 a1)).set x1.toNat (gt ((a0.set a1.toNat (gt a0 a3)).set a3.toNat (gt a0 a1)) x3)).set x3.toNat (gt ((a0.set a1.toNat (gt a0 a3)).set a3.toNat (gt a0 a1)) x1)) (w64 (x1 + 1)) (w64 (x3 - 1))) else none) else none)) = some r ∧ k2 ≤ k1) ?_ ?_)
 ·refine J.block (W8 [0, 1, 10, 11] ?_)
  have h70 := (sOR h9 [0] [])
  refine J.loop (fun kk env w => ∃ (x18 : Int), env = [(0, .slice A1 ((a0.set a1.toNat (gt a0 a3)).set a3.toNat (gt a0 a1)).length c_1), (1, .int .i64 a1), (10, .int .i64 x1), (11, .int .i64 x18)] ∧ St w0 F0 [O23 ((a0.set a1.toNat (gt a0 a3)).set a3.toNat (gt a0 a1)) A1 c_1] [] w ∧ Q49.l3 kk a0 a1 a3 x1 x18 = some r ∧ kk ≤ k1) (k := k1) ⟨(w64 (a2 - 1)), rfl, h70, H, Nat.le_refl _⟩ ?_
  rintro k9 env w51 ⟨x18, rfl, h64, H, hk9⟩
  rcases k9 with _ | k9
  ·exact z0 H
  rw [Q49.l3] at H
  refine J.seq (J.seq ?_)
  refine Zs h64 ?_
  have h65 := h64.drew
  refine Zx [0, 1, 2, 3] ?_
  refine Wk 49 H (fun c7 H => ?_) fun c7 H => ?_
  ·refine Zx [4, 5, 8, 9] ?_
   obtain ⟨⟨p29, p30⟩, H⟩ := Zq H
   have e50 := Z3 h65.wh (gO 0) p29 p30
   refine Zh 6 rfl (Zi e50 p29 p30) ?_
   refine Zh 7 rfl (Zj 0 wI (gO 0) p29 p30) ?_
   obtain ⟨⟨p31, p32⟩, H⟩ := Zq H
   refine Zh 10 rfl (Zi e50 p31 p32) ?_
   refine Zh 11 rfl (Zj 0 wI (gO 0) p31 p32) ?_
   obtain ⟨r3, q3, H⟩ := Zp H
   refine Zn 12 rfl (Zk [] (Q27.spec q3) h65 rfl Zu) ?_
   rintro _ w52 ⟨_, ⟨rfl, rfl⟩, h66⟩
   replace h66 := nf h66
   refine ⟨⟨[], h66⟩, ?_⟩
   refine Zx [13, 14] ?_
   refine Z2 [0, 1, 10, 11, 60] ?_
   refine jIf H (fun c8 H => ?_) fun c8 H => ?_
   ·refine J.skip (J.block (Zb [0, 1, 10, 11] ?_))
    have h67 := (sOR h66 [0] [])
    exact ⟨k9, by omega, (w64 (x18 - 1)), rfl, h67, H, by omega⟩
   refine J.exit ?_
   have h68 := (sOR h66 [0] [])
   exact ⟨k9, x18, (!r3), rfl, h68, H, by omega⟩
  refine Zx [4, 5, 6, 7, 8, 9, 10, 11, 12, 13, 14] ?_
  refine Z2 [0, 1, 10, 11, 60] ?_
  refine Z7 ?_
  refine J.exit ?_
  have h69 := (sOR h65 [0] [])
  exact ⟨k9, x18, false, rfl, h69, H, by omega⟩
 rintro env w11 ⟨k2, x3, x4, rfl, h10, H, hk2⟩
 refine J.seq (J.seq (Zb [0, 1, 10, 11, 65] ?_))
 refine jIf H (fun c1 H => ?_) fun c1 H => ?_
 ·refine J.seq ?_
  obtain ⟨⟨p5, p6⟩, H⟩ := Zq H
  obtain ⟨⟨p7, p8⟩, H⟩ := Zq H
  refine J.midS (fun env w => env = [(11, .int .i64 x3)] ∧ St w0 F0 [O23 ((((a0.set a1.toNat (gt a0 a3)).set a3.toNat (gt a0 a1)).set x3.toNat (gt ((a0.set a1.toNat (gt a0 a3)).set a3.toNat (gt a0 a1)) a1)).set a1.toNat (gt ((a0.set a1.toNat (gt a0 a3)).set a3.toNat (gt a0 a1)) x3)) A1 c_1] [] w) ?_ ?_
  ·refine Zs (Zd h10 []) ?_
   have h13 := h10.drew
   refine Zx [0, 1, 2, 3, 4, 5, 8, 9] ?_
   have e13 := Z3 h13.wh (gO 0) p5 p6
   refine Zh 6 rfl (Zi e13 p5 p6) ?_
   refine Zh 10 rfl (Zi e13 p7 p8) ?_
   refine HJ.pick [7, 11] (i := 7) rfl rfl rfl rfl ?_
   refine (Yb ?_ (Yb ?_ Xa))
   ·refine Z4 7 rfl (OpT.ofq (Zj 0 h13.wht (gO 0) p5 p6)) ?_
    rintro _ _ ⟨rfl, rfl⟩
    replace h13 := nf h13
    refine ⟨⟨[_], h13⟩, ?_⟩
    refine Zn 11 rfl (OpT.ofq (Zj 0 h13.wht (gO 0) p7 p8)) ?_
    rintro _ _ ⟨rfl, rfl⟩
    replace h13 := nf h13
    refine ⟨⟨[_], h13⟩, ?_⟩
    refine Zh 12 rfl (Zi e13 p7 p8) ?_
    refine Zn 13 rfl (Zo 0 (.int .u32) x3 (gt ((a0.set a1.toNat (gt a0 a3)).set a3.toNat (gt a0 a1)) a1) 0 h13 rfl p7 p8) ?_
    intro _ w14 h14
    replace h14 := nf h14
    refine ⟨⟨[_], h14⟩, ?_⟩
    have e14 : (((a0.set a1.toNat (gt a0 a3)).set a3.toNat (gt a0 a1)).set x3.toNat (gt ((a0.set a1.toNat (gt a0 a3)).set a3.toNat (gt a0 a1)) a1)).length = a0.length := List.length_set.trans e9
    refine Zh 14 rfl (Zi e13 p5 p6) ?_
    refine Zn 15 rfl (Zo 0 (.int .u32) a1 (gt ((a0.set a1.toNat (gt a0 a3)).set a3.toNat (gt a0 a1)) x3) 0 h14 rfl p5 (by simpa only [List.length_set] using p6)) ?_
    intro _ w15 h15
    replace h15 := nf h15
    refine ⟨⟨[_], h15⟩, ?_⟩
    have e15 : ((((a0.set a1.toNat (gt a0 a3)).set a3.toNat (gt a0 a1)).set x3.toNat (gt ((a0.set a1.toNat (gt a0 a3)).set a3.toNat (gt a0 a1)) a1)).set a1.toNat (gt ((a0.set a1.toNat (gt a0 a3)).set a3.toNat (gt a0 a1)) x3)).length = a0.length := List.length_set.trans e14
    refine Z2 [11] ?_
    exact Zz ⟨(by simp only [List.length_set, List.length_nil] <;> rfl), ((h15.only [0] rfl).rds [] rfl)⟩
   ·refine Z4 11 rfl (OpT.ofq (Zj 0 h13.wht (gO 0) p7 p8)) ?_
    rintro _ _ ⟨rfl, rfl⟩
    replace h13 := nf h13
    refine ⟨⟨[_], h13⟩, ?_⟩
    refine Zn 7 rfl (OpT.ofq (Zj 0 h13.wht (gO 0) p5 p6)) ?_
    rintro _ _ ⟨rfl, rfl⟩
    replace h13 := nf h13
    refine ⟨⟨[_], h13⟩, ?_⟩
    refine Zh 12 rfl (Zi e13 p7 p8) ?_
    refine Zn 13 rfl (Zo 0 (.int .u32) x3 (gt ((a0.set a1.toNat (gt a0 a3)).set a3.toNat (gt a0 a1)) a1) 0 h13 rfl p7 p8) ?_
    intro _ w16 h16
    replace h16 := nf h16
    refine ⟨⟨[_], h16⟩, ?_⟩
    have e16 : (((a0.set a1.toNat (gt a0 a3)).set a3.toNat (gt a0 a1)).set x3.toNat (gt ((a0.set a1.toNat (gt a0 a3)).set a3.toNat (gt a0 a1)) a1)).length = a0.length := List.length_set.trans e9
    refine Zh 14 rfl (Zi e13 p5 p6) ?_
    refine Zn 15 rfl (Zo 0 (.int .u32) a1 (gt ((a0.set a1.toNat (gt a0 a3)).set a3.toNat (gt a0 a1)) x3) 0 h16 rfl p5 (by simpa only [List.length_set] using p6)) ?_
    intro _ w17 h17
    replace h17 := nf h17
    refine ⟨⟨[_], h17⟩, ?_⟩
    have e17 : ((((a0.set a1.toNat (gt a0 a3)).set a3.toNat (gt a0 a1)).set x3.toNat (gt ((a0.set a1.toNat (gt a0 a3)).set a3.toNat (gt a0 a1)) a1)).set a1.toNat (gt ((a0.set a1.toNat (gt a0 a3)).set a3.toNat (gt a0 a1)) x3)).length = a0.length := List.length_set.trans e16
    refine Z2 [11] ?_
    exact Zz ⟨(by simp only [List.length_set, List.length_nil] <;> rfl), ((h17.only [0] rfl).rds [] rfl)⟩
  rintro env w18 ⟨rfl, h18⟩
  have e18 : ((((a0.set a1.toNat (gt a0 a3)).set a3.toNat (gt a0 a1)).set x3.toNat (gt ((a0.set a1.toNat (gt a0 a3)).set a3.toNat (gt a0 a1)) a1)).set a1.toNat (gt ((a0.set a1.toNat (gt a0 a3)).set a3.toNat (gt a0 a1)) x3)).length = a0.length := by first | (simp only [List.length_set]; done) | (simp only [List.length_set]; exact e9)
  refine J.seq (Zb [8, 9] ?_)
  refine J.ret ?_
  cases H
  exact ⟨_, _, _, Zc, ⟨rfl, rfl, e18⟩, Zd h18 [0]⟩
 refine J.skip (J.seq ?_)
 obtain ⟨⟨p9, p10⟩, H⟩ := Zq H
 obtain ⟨⟨p11, p12⟩, H⟩ := Zq H
 refine J.midS (fun env w => env = [(0, .slice A1 ((((a0.set a1.toNat (gt a0 a3)).set a3.toNat (gt a0 a1)).set x1.toNat (gt ((a0.set a1.toNat (gt a0 a3)).set a3.toNat (gt a0 a1)) x3)).set x3.toNat (gt ((a0.set a1.toNat (gt a0 a3)).set a3.toNat (gt a0 a1)) x1)).length c_1), (1, .int .i64 a1), (10, .int .i64 x1), (11, .int .i64 x3)] ∧ St w0 F0 [O23 ((((a0.set a1.toNat (gt a0 a3)).set a3.toNat (gt a0 a1)).set x1.toNat (gt ((a0.set a1.toNat (gt a0 a3)).set a3.toNat (gt a0 a1)) x3)).set x3.toNat (gt ((a0.set a1.toNat (gt a0 a3)).set a3.toNat (gt a0 a1)) x1)) A1 c_1] [] w) ?_ ?_
 ·refine Zs (Zd h10 []) ?_
  have h21 := h10.drew
  refine Zx [0, 1, 2, 3, 4, 5, 8, 9] ?_
  have e22 := Z3 h21.wh (gO 0) p9 p10
  refine Zh 6 rfl (Zi e22 p9 p10) ?_
  refine Zh 10 rfl (Zi e22 p11 p12) ?_
  refine HJ.pick [7, 11] (i := 7) rfl rfl rfl rfl ?_
  refine (Yb ?_ (Yb ?_ Xa))
  ·refine Z4 7 rfl (OpT.ofq (Zj 0 h21.wht (gO 0) p9 p10)) ?_
   rintro _ _ ⟨rfl, rfl⟩
   replace h21 := nf h21
   refine ⟨⟨[_], h21⟩, ?_⟩
   refine Zn 11 rfl (OpT.ofq (Zj 0 h21.wht (gO 0) p11 p12)) ?_
   rintro _ _ ⟨rfl, rfl⟩
   replace h21 := nf h21
   refine ⟨⟨[_], h21⟩, ?_⟩
   refine Zh 12 rfl (Zi e22 p11 p12) ?_
   refine Zn 13 rfl (Zo 0 (.int .u32) x1 (gt ((a0.set a1.toNat (gt a0 a3)).set a3.toNat (gt a0 a1)) x3) 0 h21 rfl p11 p12) ?_
   intro _ w21 h22
   replace h22 := nf h22
   refine ⟨⟨[_], h22⟩, ?_⟩
   have e23 : (((a0.set a1.toNat (gt a0 a3)).set a3.toNat (gt a0 a1)).set x1.toNat (gt ((a0.set a1.toNat (gt a0 a3)).set a3.toNat (gt a0 a1)) x3)).length = a0.length := List.length_set.trans e9
   refine Zh 14 rfl (Zi e22 p9 p10) ?_
   refine Zn 15 rfl (Zo 0 (.int .u32) x3 (gt ((a0.set a1.toNat (gt a0 a3)).set a3.toNat (gt a0 a1)) x1) 0 h22 rfl p9 (by simpa only [List.length_set] using p10)) ?_
   intro _ w22 h23
   replace h23 := nf h23
   refine ⟨⟨[_], h23⟩, ?_⟩
   have e24 : ((((a0.set a1.toNat (gt a0 a3)).set a3.toNat (gt a0 a1)).set x1.toNat (gt ((a0.set a1.toNat (gt a0 a3)).set a3.toNat (gt a0 a1)) x3)).set x3.toNat (gt ((a0.set a1.toNat (gt a0 a3)).set a3.toNat (gt a0 a1)) x1)).length = a0.length := List.length_set.trans e23
   refine Z2 [0, 1, 10, 11] ?_
   exact Zz ⟨(by simp only [List.length_set, List.length_nil] <;> rfl), ((h23.only [0] rfl).rds [] rfl)⟩
  ·refine Z4 11 rfl (OpT.ofq (Zj 0 h21.wht (gO 0) p11 p12)) ?_
   rintro _ _ ⟨rfl, rfl⟩
   replace h21 := nf h21
   refine ⟨⟨[_], h21⟩, ?_⟩
   refine Zn 7 rfl (OpT.ofq (Zj 0 h21.wht (gO 0) p9 p10)) ?_
   rintro _ _ ⟨rfl, rfl⟩
   replace h21 := nf h21
   refine ⟨⟨[_], h21⟩, ?_⟩
   refine Zh 12 rfl (Zi e22 p11 p12) ?_
   refine Zn 13 rfl (Zo 0 (.int .u32) x1 (gt ((a0.set a1.toNat (gt a0 a3)).set a3.toNat (gt a0 a1)) x3) 0 h21 rfl p11 p12) ?_
   intro _ w23 h24
   replace h24 := nf h24
   refine ⟨⟨[_], h24⟩, ?_⟩
   have e25 : (((a0.set a1.toNat (gt a0 a3)).set a3.toNat (gt a0 a1)).set x1.toNat (gt ((a0.set a1.toNat (gt a0 a3)).set a3.toNat (gt a0 a1)) x3)).length = a0.length := List.length_set.trans e9
   refine Zh 14 rfl (Zi e22 p9 p10) ?_
   refine Zn 15 rfl (Zo 0 (.int .u32) x3 (gt ((a0.set a1.toNat (gt a0 a3)).set a3.toNat (gt a0 a1)) x1) 0 h24 rfl p9 (by simpa only [List.length_set] using p10)) ?_
   intro _ w24 h25
   replace h25 := nf h25
   refine ⟨⟨[_], h25⟩, ?_⟩
   have e26 : ((((a0.set a1.toNat (gt a0 a3)).set a3.toNat (gt a0 a1)).set x1.toNat (gt ((a0.set a1.toNat (gt a0 a3)).set a3.toNat (gt a0 a1)) x3)).set x3.toNat (gt ((a0.set a1.toNat (gt a0 a3)).set a3.toNat (gt a0 a1)) x1)).length = a0.length := List.length_set.trans e25
   refine Z2 [0, 1, 10, 11] ?_
   exact Zz ⟨(by simp only [List.length_set, List.length_nil] <;> rfl), ((h25.only [0] rfl).rds [] rfl)⟩
 rintro env w25 ⟨rfl, h26⟩
 have e27 : ((((a0.set a1.toNat (gt a0 a3)).set a3.toNat (gt a0 a1)).set x1.toNat (gt ((a0.set a1.toNat (gt a0 a3)).set a3.toNat (gt a0 a1)) x3)).set x3.toNat (gt ((a0.set a1.toNat (gt a0 a3)).set a3.toNat (gt a0 a1)) x1)).length = a0.length := by first | (simp only [List.length_set]; done) | (simp only [List.length_set]; exact e9)
 refine J.seq (Zb [0, 1, 10, 11] ?_)
 refine J.seq (Zb [0, 1, 10, 11] ?_)
 refine J.seq (J.midS (fun env w => ∃ (x5 : List (Int)) (x6 : Int) (x7 : Int) (x8 : Bool), env = [(0, .slice A1 x5.length c_1), (1, .int .i64 a1), (10, .int .i64 x6), (11, .int .i64 x7), (134, .bool x8)] ∧ St w0 F0 [O23 x5 A1 c_1] [] w ∧ (if 0 ≤ a1 ∧ a1 < (x5.length : Int) then (if 0 ≤ x7 ∧ x7 < (x5.length : Int) then (some (x7, false, ((x5.set x7.toNat (gt x5 a1)).set a1.toNat (gt x5 x7)))) else none) else none) = some r ∧ x5.length = a0.length) ?_ ?_)
 ·refine J.block ?_
  have h63 := (sOR h26 [0] [])
  refine J.loop (fun kk env w => ∃ (x9 : List (Int)) (x10 : Int) (x11 : Int), env = [(0, .slice A1 x9.length c_1), (1, .int .i64 a1), (10, .int .i64 x10), (11, .int .i64 x11)] ∧ St w0 F0 [O23 x9 A1 c_1] [] w ∧ Q49.l0 kk a1 x9 x10 x11 = some r ∧ kk ≤ k2 ∧ x9.length = a0.length) (k := k2) ⟨((((a0.set a1.toNat (gt a0 a3)).set a3.toNat (gt a0 a1)).set x1.toNat (gt ((a0.set a1.toNat (gt a0 a3)).set a3.toNat (gt a0 a1)) x3)).set x3.toNat (gt ((a0.set a1.toNat (gt a0 a3)).set a3.toNat (gt a0 a1)) x1)), (w64 (x1 + 1)), (w64 (x3 - 1)), rfl, h63, H, Nat.le_refl _, e27⟩ ?_
  rintro k4 env w35 ⟨x9, x10, x11, rfl, h36, H, hk4, e38⟩
  rcases k4 with _ | k4
  ·exact z0 H
  rw [Q49.l0] at H
  refine J.block (J.seq ?_)
  refine J.midS (fun env w => ∃ (k5 : Nat) (x12 : Int) (x13 : Bool), env = [(0, .slice A1 x9.length c_1), (1, .int .i64 a1), (10, .int .i64 x12), (11, .int .i64 x11), (112, .bool x13)] ∧ St w0 F0 [O23 x9 A1 c_1] [] w ∧ (Q49.l1 k5 a1 x9 x12 x11) = some r ∧ k5 ≤ k4) ?_ ?_
  ·refine J.block ?_
   have h62 := (sOR h36 [0] [])
   refine J.loop (fun kk env w => ∃ (x17 : Int), env = [(0, .slice A1 x9.length c_1), (1, .int .i64 a1), (10, .int .i64 x17), (11, .int .i64 x11)] ∧ St w0 F0 [O23 x9 A1 c_1] [] w ∧ Q49.l2 kk a1 x9 x11 x17 = some r ∧ kk ≤ k4) (k := k4) ⟨x10, rfl, h62, H, Nat.le_refl _⟩ ?_
   rintro k8 env w49 ⟨x17, rfl, h56, H, hk8⟩
   rcases k8 with _ | k8
   ·exact z0 H
   rw [Q49.l2] at H
   refine J.seq (J.seq ?_)
   refine Zs h56 ?_
   have h57 := h56.drew
   refine Zx [0, 1, 2, 3] ?_
   refine Wk 102 H (fun c5 H => ?_) fun c5 H => ?_
   ·refine Zx [4, 5, 8, 9] ?_
    obtain ⟨⟨p25, p26⟩, H⟩ := Zq H
    have e49 := Z3 h57.wh (gO 0) p25 p26
    refine Zh 6 rfl (Zi e49 p25 p26) ?_
    refine Zh 7 rfl (Zj 0 wI (gO 0) p25 p26) ?_
    obtain ⟨⟨p27, p28⟩, H⟩ := Zq H
    refine Zh 10 rfl (Zi e49 p27 p28) ?_
    refine Zh 11 rfl (Zj 0 wI (gO 0) p27 p28) ?_
    obtain ⟨r2, q2, H⟩ := Zp H
    refine Zn 12 rfl (Zk [] (Q27.spec q2) h57 rfl Zu) ?_
    rintro _ w50 ⟨_, ⟨rfl, rfl⟩, h58⟩
    replace h58 := nf h58
    refine ⟨⟨[], h58⟩, ?_⟩
    refine Zx [13] ?_
    refine Z2 [0, 1, 10, 11, 112] ?_
    refine jIf H (fun c6 H => ?_) fun c6 H => ?_
    ·refine J.skip (J.block (Zb [0, 1, 10, 11] ?_))
     have h59 := (sOR h58 [0] [])
     exact ⟨k8, by omega, (w64 (x17 + 1)), rfl, h59, H, by omega⟩
    refine J.exit ?_
    have h60 := (sOR h58 [0] [])
    exact ⟨k8, x17, r2, rfl, h60, H, by omega⟩
   refine Zx [4, 5, 6, 7, 8, 9, 10, 11, 12, 13] ?_
   refine Z2 [0, 1, 10, 11, 112] ?_
   refine Z7 ?_
   refine J.exit ?_
   have h61 := (sOR h57 [0] [])
   exact ⟨k8, x17, false, rfl, h61, H, by omega⟩
  rintro env w37 ⟨k5, x12, x13, rfl, h37, H, hk5⟩
  refine J.seq (J.midS (fun env w => ∃ (k6 : Nat) (x14 : Int) (x15 : Bool), env = [(0, .slice A1 x9.length c_1), (1, .int .i64 a1), (10, .int .i64 x12), (11, .int .i64 x14), (129, .bool x15)] ∧ St w0 F0 [O23 x9 A1 c_1] [] w ∧ (if (decide (x14 < x12)) = true then (if 0 ≤ a1 ∧ a1 < (x9.length : Int) then (if 0 ≤ x14 ∧ x14 < (x9.length : Int) then (some (x14, false, ((x9.set x14.toNat (gt x9 a1)).set a1.toNat (gt x9 x14)))) else none) else none) else (if 0 ≤ x14 ∧ x14 < (x9.length : Int) then (if 0 ≤ x12 ∧ x12 < (x9.length : Int) then (Q49.l0 k6 a1 ((x9.set x12.toNat (gt x9 x14)).set x14.toNat (gt x9 x12)) (w64 (x12 + 1)) (w64 (x14 - 1))) else none) else none)) = some r ∧ k6 ≤ k5) ?_ ?_)
  ·refine J.block (W8 [0, 1, 10, 11] ?_)
   have h55 := (sOR h37 [0] [])
   refine J.loop (fun kk env w => ∃ (x16 : Int), env = [(0, .slice A1 x9.length c_1), (1, .int .i64 a1), (10, .int .i64 x12), (11, .int .i64 x16)] ∧ St w0 F0 [O23 x9 A1 c_1] [] w ∧ Q49.l1 kk a1 x9 x12 x16 = some r ∧ kk ≤ k5) (k := k5) ⟨x11, rfl, h55, H, Nat.le_refl _⟩ ?_
   rintro k7 env w47 ⟨x16, rfl, h49, H, hk7⟩
   rcases k7 with _ | k7
   ·exact z0 H
   rw [Q49.l1] at H
   refine J.seq (J.seq ?_)
   refine Zs h49 ?_
   have h50 := h49.drew
   refine Zx [0, 1, 2, 3] ?_
   refine Wk 118 H (fun c3 H => ?_) fun c3 H => ?_
   ·refine Zx [4, 5, 8, 9] ?_
    obtain ⟨⟨p21, p22⟩, H⟩ := Zq H
    have e48 := Z3 h50.wh (gO 0) p21 p22
    refine Zh 6 rfl (Zi e48 p21 p22) ?_
    refine Zh 7 rfl (Zj 0 wI (gO 0) p21 p22) ?_
    obtain ⟨⟨p23, p24⟩, H⟩ := Zq H
    refine Zh 10 rfl (Zi e48 p23 p24) ?_
    refine Zh 11 rfl (Zj 0 wI (gO 0) p23 p24) ?_
    obtain ⟨r1, q1, H⟩ := Zp H
    refine Zn 12 rfl (Zk [] (Q27.spec q1) h50 rfl Zu) ?_
    rintro _ w48 ⟨_, ⟨rfl, rfl⟩, h51⟩
    replace h51 := nf h51
    refine ⟨⟨[], h51⟩, ?_⟩
    refine Zx [13, 14] ?_
    refine Z2 [0, 1, 10, 11, 129] ?_
    refine jIf H (fun c4 H => ?_) fun c4 H => ?_
    ·refine J.skip (J.block (Zb [0, 1, 10, 11] ?_))
     have h52 := (sOR h51 [0] [])
     exact ⟨k7, by omega, (w64 (x16 - 1)), rfl, h52, H, by omega⟩
    refine J.exit ?_
    have h53 := (sOR h51 [0] [])
    exact ⟨k7, x16, (!r1), rfl, h53, H, by omega⟩
   refine Zx [4, 5, 6, 7, 8, 9, 10, 11, 12, 13, 14] ?_
   refine Z2 [0, 1, 10, 11, 129] ?_
   refine Z7 ?_
   refine J.exit ?_
   have h54 := (sOR h50 [0] [])
   exact ⟨k7, x16, false, rfl, h54, H, by omega⟩
  rintro env w39 ⟨k6, x14, x15, rfl, h38, H, hk6⟩
  refine J.seq (J.seq (Zb [0, 1, 10, 11, 134] ?_))
  refine jIf H (fun c2 H => ?_) fun c2 H => ?_
  ·refine J.exit ?_
   have h39 := (sOR h38 [0] [])
   exact ⟨x9, x12, x14, (decide (x14 < x12)), rfl, h39, H, e38⟩
  refine J.skip (J.seq ?_)
  obtain ⟨⟨p17, p18⟩, H⟩ := Zq H
  obtain ⟨⟨p19, p20⟩, H⟩ := Zq H
  refine J.midS (fun env w => env = [(0, .slice A1 ((x9.set x12.toNat (gt x9 x14)).set x14.toNat (gt x9 x12)).length c_1), (1, .int .i64 a1), (10, .int .i64 x12), (11, .int .i64 x14)] ∧ St w0 F0 [O23 ((x9.set x12.toNat (gt x9 x14)).set x14.toNat (gt x9 x12)) A1 c_1] [] w) ?_ ?_
  ·refine Zs (Zd h38 []) ?_
   have h42 := h38.drew
   refine Zx [0, 1, 2, 3, 4, 5, 8, 9] ?_
   have e42 := Z3 h42.wh (gO 0) p17 p18
   refine Zh 6 rfl (Zi e42 p17 p18) ?_
   refine Zh 10 rfl (Zi e42 p19 p20) ?_
   refine HJ.pick [7, 11] (i := 7) rfl rfl rfl rfl ?_
   refine (Yb ?_ (Yb ?_ Xa))
   ·refine Z4 7 rfl (OpT.ofq (Zj 0 h42.wht (gO 0) p17 p18)) ?_
    rintro _ _ ⟨rfl, rfl⟩
    replace h42 := nf h42
    refine ⟨⟨[_], h42⟩, ?_⟩
    refine Zn 11 rfl (OpT.ofq (Zj 0 h42.wht (gO 0) p19 p20)) ?_
    rintro _ _ ⟨rfl, rfl⟩
    replace h42 := nf h42
    refine ⟨⟨[_], h42⟩, ?_⟩
    refine Zh 12 rfl (Zi e42 p19 p20) ?_
    refine Zn 13 rfl (Zo 0 (.int .u32) x12 (gt x9 x14) 0 h42 rfl p19 p20) ?_
    intro _ w42 h43
    replace h43 := nf h43
    refine ⟨⟨[_], h43⟩, ?_⟩
    have e43 : (x9.set x12.toNat (gt x9 x14)).length = a0.length := List.length_set.trans e38
    refine Zh 14 rfl (Zi e42 p17 p18) ?_
    refine Zn 15 rfl (Zo 0 (.int .u32) x14 (gt x9 x12) 0 h43 rfl p17 (by simpa only [List.length_set] using p18)) ?_
    intro _ w43 h44
    replace h44 := nf h44
    refine ⟨⟨[_], h44⟩, ?_⟩
    have e44 : ((x9.set x12.toNat (gt x9 x14)).set x14.toNat (gt x9 x12)).length = a0.length := List.length_set.trans e43
    refine Z2 [0, 1, 10, 11] ?_
    exact Zz ⟨(by simp only [List.length_set, List.length_nil] <;> rfl), ((h44.only [0] rfl).rds [] rfl)⟩
   ·refine Z4 11 rfl (OpT.ofq (Zj 0 h42.wht (gO 0) p19 p20)) ?_
    rintro _ _ ⟨rfl, rfl⟩
    replace h42 := nf h42
    refine ⟨⟨[_], h42⟩, ?_⟩
    refine Zn 7 rfl (OpT.ofq (Zj 0 h42.wht (gO 0) p17 p18)) ?_
    rintro _ _ ⟨rfl, rfl⟩
    replace h42 := nf h42
    refine ⟨⟨[_], h42⟩, ?_⟩
    refine Zh 12 rfl (Zi e42 p19 p20) ?_
    refine Zn 13 rfl (Zo 0 (.int .u32) x12 (gt x9 x14) 0 h42 rfl p19 p20) ?_
    intro _ w44 h45
    replace h45 := nf h45
    refine ⟨⟨[_], h45⟩, ?_⟩
    have e45 : (x9.set x12.toNat (gt x9 x14)).length = a0.length := List.length_set.trans e38
    refine Zh 14 rfl (Zi e42 p17 p18) ?_
    refine Zn 15 rfl (Zo 0 (.int .u32) x14 (gt x9 x12) 0 h45 rfl p17 (by simpa only [List.length_set] using p18)) ?_
    intro _ w45 h46
    replace h46 := nf h46
    refine ⟨⟨[_], h46⟩, ?_⟩
    have e46 : ((x9.set x12.toNat (gt x9 x14)).set x14.toNat (gt x9 x12)).length = a0.length := List.length_set.trans e45
    refine Z2 [0, 1, 10, 11] ?_
    exact Zz ⟨(by simp only [List.length_set, List.length_nil] <;> rfl), ((h46.only [0] rfl).rds [] rfl)⟩
  rintro env w46 ⟨rfl, h47⟩
  have e47 : ((x9.set x12.toNat (gt x9 x14)).set x14.toNat (gt x9 x12)).length = a0.length := by first | (simp only [List.length_set]; done) | (simp only [List.length_set]; exact e38)
  refine J.seq (Zb [0, 1, 10, 11] ?_)
  refine Zb [0, 1, 10, 11] ?_
  have h48 := (sOR h47 [0] [])
  exact ⟨k6, by omega, ((x9.set x12.toNat (gt x9 x14)).set x14.toNat (gt x9 x12)), (w64 (x12 + 1)), (w64 (x14 - 1)), rfl, h48, H, by omega, e47⟩
 rintro env w27 ⟨x5, x6, x7, x8, rfl, h27, H, e28⟩
 refine J.seq ?_
 obtain ⟨⟨p13, p14⟩, H⟩ := Zq H
 obtain ⟨⟨p15, p16⟩, H⟩ := Zq H
 refine J.midS (fun env w => env = [(11, .int .i64 x7)] ∧ St w0 F0 [O23 ((x5.set x7.toNat (gt x5 a1)).set a1.toNat (gt x5 x7)) A1 c_1] [] w) ?_ ?_
 ·refine Zs (Zd h27 []) ?_
  have h30 := h27.drew
  refine Zx [0, 1, 2, 3, 4, 5, 8, 9] ?_
  have e32 := Z3 h30.wh (gO 0) p13 p14
  refine Zh 6 rfl (Zi e32 p13 p14) ?_
  refine Zh 10 rfl (Zi e32 p15 p16) ?_
  refine HJ.pick [7, 11] (i := 7) rfl rfl rfl rfl ?_
  refine (Yb ?_ (Yb ?_ Xa))
  ·refine Z4 7 rfl (OpT.ofq (Zj 0 h30.wht (gO 0) p13 p14)) ?_
   rintro _ _ ⟨rfl, rfl⟩
   replace h30 := nf h30
   refine ⟨⟨[_], h30⟩, ?_⟩
   refine Zn 11 rfl (OpT.ofq (Zj 0 h30.wht (gO 0) p15 p16)) ?_
   rintro _ _ ⟨rfl, rfl⟩
   replace h30 := nf h30
   refine ⟨⟨[_], h30⟩, ?_⟩
   refine Zh 12 rfl (Zi e32 p15 p16) ?_
   refine Zn 13 rfl (Zo 0 (.int .u32) x7 (gt x5 a1) 0 h30 rfl p15 p16) ?_
   intro _ w30 h31
   replace h31 := nf h31
   refine ⟨⟨[_], h31⟩, ?_⟩
   have e33 : (x5.set x7.toNat (gt x5 a1)).length = a0.length := List.length_set.trans e28
   refine Zh 14 rfl (Zi e32 p13 p14) ?_
   refine Zn 15 rfl (Zo 0 (.int .u32) a1 (gt x5 x7) 0 h31 rfl p13 (by simpa only [List.length_set] using p14)) ?_
   intro _ w31 h32
   replace h32 := nf h32
   refine ⟨⟨[_], h32⟩, ?_⟩
   have e34 : ((x5.set x7.toNat (gt x5 a1)).set a1.toNat (gt x5 x7)).length = a0.length := List.length_set.trans e33
   refine Z2 [11] ?_
   exact Zz ⟨(by simp only [List.length_set, List.length_nil] <;> rfl), ((h32.only [0] rfl).rds [] rfl)⟩
  ·refine Z4 11 rfl (OpT.ofq (Zj 0 h30.wht (gO 0) p15 p16)) ?_
   rintro _ _ ⟨rfl, rfl⟩
   replace h30 := nf h30
   refine ⟨⟨[_], h30⟩, ?_⟩
   refine Zn 7 rfl (OpT.ofq (Zj 0 h30.wht (gO 0) p13 p14)) ?_
   rintro _ _ ⟨rfl, rfl⟩
   replace h30 := nf h30
   refine ⟨⟨[_], h30⟩, ?_⟩
   refine Zh 12 rfl (Zi e32 p15 p16) ?_
   refine Zn 13 rfl (Zo 0 (.int .u32) x7 (gt x5 a1) 0 h30 rfl p15 p16) ?_
   intro _ w32 h33
   replace h33 := nf h33
   refine ⟨⟨[_], h33⟩, ?_⟩
   have e35 : (x5.set x7.toNat (gt x5 a1)).length = a0.length := List.length_set.trans e28
   refine Zh 14 rfl (Zi e32 p13 p14) ?_
   refine Zn 15 rfl (Zo 0 (.int .u32) a1 (gt x5 x7) 0 h33 rfl p13 (by simpa only [List.length_set] using p14)) ?_
   intro _ w33 h34
   replace h34 := nf h34
   refine ⟨⟨[_], h34⟩, ?_⟩
   have e36 : ((x5.set x7.toNat (gt x5 a1)).set a1.toNat (gt x5 x7)).length = a0.length := List.length_set.trans e35
   refine Z2 [11] ?_
   exact Zz ⟨(by simp only [List.length_set, List.length_nil] <;> rfl), ((h34.only [0] rfl).rds [] rfl)⟩
 rintro env w34 ⟨rfl, h35⟩
 have e37 : ((x5.set x7.toNat (gt x5 a1)).set a1.toNat (gt x5 x7)).length = a0.length := by first | (simp only [List.length_set]; done) | (simp only [List.length_set]; exact e28)
 refine J.seq (Zb [8, 9] ?_)
 refine J.ret ?_
 cases H
 exact ⟨_, _, _, Zc, ⟨rfl, rfl, e37⟩, Zd h35 [0]⟩

def Q45.f (a0 : Int) : Option (Int) := (Q0.f (IntKind.u64.wrap (a0))).bind fun r1 => (if 0 ≤ r1 then (some (IntKind.u64.wrap ((1 : Int) * 2 ^ (min r1.toNat 64)))) else none)
theorem Q45.spec {a0 : Int}  {r : Int} (H : Q45.f a0 = some r) :
  Spec Try.prog 181 [.int .i64 a0] [] [] (fun v l => v = .int .u64 r ∧ l = []) := by
 refine Zr Try.func181 fun w0 F0 h0 => ?_
 unfold Q45.f at H
 refine J.seq (Zb [0] ?_)
 refine J.seq (J.region ?_)
 refine Zl 2 ?_
 obtain ⟨r1, q1, H⟩ := Zp H
 refine Ze (Zk [] (Q0.spec q1) h0 rfl Zu) ?_
 rintro _ w1 ⟨_, ⟨rfl, rfl⟩, h1⟩
 replace h1 := nf h1
 obtain ⟨p1, H⟩ := Zq H
 refine Zg (Zeb p1) ?_
 refine Zm [2] rfl ?_
 refine J.ret ?_
 cases H
 exact ⟨_, _, _, Zc, ⟨rfl, rfl⟩, Zd h1 []⟩

def Q53.f (a0 : Int) : Option (Int × Int) := some ((IntKind.u64.wrap (((BitVec.ofInt IntKind.u64.bits (IntKind.u64.wrap (((BitVec.ofInt IntKind.u64.bits (IntKind.u64.wrap (((BitVec.ofInt IntKind.u64.bits a0 ^^^ (BitVec.ofInt IntKind.u64.bits (IntKind.u64.wrap (a0 * 2 ^ 13)))).toNat : Int))) ^^^ (BitVec.ofInt IntKind.u64.bits (Int.fdiv (IntKind.u64.wrap (((BitVec.ofInt IntKind.u64.bits a0 ^^^ (BitVec.ofInt IntKind.u64.bits (IntKind.u64.wrap (a0 * 2 ^ 13)))).toNat : Int))) (2 ^ 7)))).toNat : Int))) ^^^ (BitVec.ofInt IntKind.u64.bits (IntKind.u64.wrap ((IntKind.u64.wrap (((BitVec.ofInt IntKind.u64.bits (IntKind.u64.wrap (((BitVec.ofInt IntKind.u64.bits a0 ^^^ (BitVec.ofInt IntKind.u64.bits (IntKind.u64.wrap (a0 * 2 ^ 13)))).toNat : Int))) ^^^ (BitVec.ofInt IntKind.u64.bits (Int.fdiv (IntKind.u64.wrap (((BitVec.ofInt IntKind.u64.bits a0 ^^^ (BitVec.ofInt IntKind.u64.bits (IntKind.u64.wrap (a0 * 2 ^ 13)))).toNat : Int))) (2 ^ 7)))).toNat : Int))) * 2 ^ 17)))).toNat : Int))), (IntKind.u64.wrap (((BitVec.ofInt IntKind.u64.bits (IntKind.u64.wrap (((BitVec.ofInt IntKind.u64.bits (IntKind.u64.wrap (((BitVec.ofInt IntKind.u64.bits a0 ^^^ (BitVec.ofInt IntKind.u64.bits (IntKind.u64.wrap (a0 * 2 ^ 13)))).toNat : Int))) ^^^ (BitVec.ofInt IntKind.u64.bits (Int.fdiv (IntKind.u64.wrap (((BitVec.ofInt IntKind.u64.bits a0 ^^^ (BitVec.ofInt IntKind.u64.bits (IntKind.u64.wrap (a0 * 2 ^ 13)))).toNat : Int))) (2 ^ 7)))).toNat : Int))) ^^^ (BitVec.ofInt IntKind.u64.bits (IntKind.u64.wrap ((IntKind.u64.wrap (((BitVec.ofInt IntKind.u64.bits (IntKind.u64.wrap (((BitVec.ofInt IntKind.u64.bits a0 ^^^ (BitVec.ofInt IntKind.u64.bits (IntKind.u64.wrap (a0 * 2 ^ 13)))).toNat : Int))) ^^^ (BitVec.ofInt IntKind.u64.bits (Int.fdiv (IntKind.u64.wrap (((BitVec.ofInt IntKind.u64.bits a0 ^^^ (BitVec.ofInt IntKind.u64.bits (IntKind.u64.wrap (a0 * 2 ^ 13)))).toNat : Int))) (2 ^ 7)))).toNat : Int))) * 2 ^ 17)))).toNat : Int))))
theorem Q53.spec {a0 : Int} {b1 : Nat} {r : Int × Int} (H : Q53.f a0 = some r) :
  Spec Try.prog 182 [.pointer (some ⟨b1, 0, none⟩)] [J4 b1 a0] [] (fun v l => v = .int .u64 r.1 ∧ l = [J4 b1 r.2]) := by
 refine Zr Try.func182 fun w0 F0 h0 => ?_
 unfold Q53.f at H
 refine J.seq (Zb [0] ?_)
 refine J.seq (J.midS (fun env w => env = [(0, .pointer (some ⟨b1, 0, none⟩))] ∧ St w0 F0 [J4 b1 (IntKind.u64.wrap (((BitVec.ofInt IntKind.u64.bits a0 ^^^ (BitVec.ofInt IntKind.u64.bits (IntKind.u64.wrap (a0 * 2 ^ 13)))).toNat : Int)))] [] w) ?_ ?_)
 ·refine Zs (Zd h0 []) ?_
  have h2 := h0.drew
  refine Zx [0, 1, 3, 4] ?_
  refine HJ.pick [2, 5] (i := 2) rfl rfl rfl rfl ?_
  refine (Yb ?_ (Yb ?_ Xa))
  ·refine Z4 2 rfl (OpT.ofq (Za 0 h2.wht)) ?_
   rintro _ _ ⟨rfl, rfl⟩
   replace h2 := nf h2
   refine ⟨⟨[_], h2⟩, ?_⟩
   refine Zn 5 rfl (OpT.ofq (Za 0 h2.wht)) ?_
   rintro _ _ ⟨rfl, rfl⟩
   replace h2 := nf h2
   refine ⟨⟨[_], h2⟩, ?_⟩
   refine Zx [6, 7, 8] ?_
   refine Zn 9 rfl (Zw 0 h2) ?_
   intro _ w6 h3
   replace h3 := nf h3
   refine ⟨⟨[_], h3⟩, ?_⟩
   refine Z2 [0] ?_
   exact Zz ⟨rfl, (sOR h3 [0] [])⟩
  ·refine Z4 5 rfl (OpT.ofq (Za 0 h2.wht)) ?_
   rintro _ _ ⟨rfl, rfl⟩
   replace h2 := nf h2
   refine ⟨⟨[_], h2⟩, ?_⟩
   refine Zx [6] ?_
   refine Zn 2 rfl (OpT.ofq (Za 0 h2.wht)) ?_
   rintro _ _ ⟨rfl, rfl⟩
   replace h2 := nf h2
   refine ⟨⟨[_], h2⟩, ?_⟩
   refine Zx [7, 8] ?_
   refine Zn 9 rfl (Zw 0 h2) ?_
   intro _ w9 h4
   replace h4 := nf h4
   refine ⟨⟨[_], h4⟩, ?_⟩
   refine Z2 [0] ?_
   exact Zz ⟨rfl, (sOR h4 [0] [])⟩
 rintro env w10 ⟨rfl, h5⟩
 refine J.seq (J.midS (fun env w => env = [(0, .pointer (some ⟨b1, 0, none⟩))] ∧ St w0 F0 [J4 b1 (IntKind.u64.wrap (((BitVec.ofInt IntKind.u64.bits (IntKind.u64.wrap (((BitVec.ofInt IntKind.u64.bits a0 ^^^ (BitVec.ofInt IntKind.u64.bits (IntKind.u64.wrap (a0 * 2 ^ 13)))).toNat : Int))) ^^^ (BitVec.ofInt IntKind.u64.bits (Int.fdiv (IntKind.u64.wrap (((BitVec.ofInt IntKind.u64.bits a0 ^^^ (BitVec.ofInt IntKind.u64.bits (IntKind.u64.wrap (a0 * 2 ^ 13)))).toNat : Int))) (2 ^ 7)))).toNat : Int)))] [] w) ?_ ?_)
 ·refine Zs (Zd h5 []) ?_
  have h7 := h5.drew
  refine Zx [0, 1, 3, 4] ?_
  refine HJ.pick [2, 5] (i := 2) rfl rfl rfl rfl ?_
  refine (Yb ?_ (Yb ?_ Xa))
  ·refine Z4 2 rfl (OpT.ofq (Za 0 h7.wht)) ?_
   rintro _ _ ⟨rfl, rfl⟩
   replace h7 := nf h7
   refine ⟨⟨[_], h7⟩, ?_⟩
   refine Zn 5 rfl (OpT.ofq (Za 0 h7.wht)) ?_
   rintro _ _ ⟨rfl, rfl⟩
   replace h7 := nf h7
   refine ⟨⟨[_], h7⟩, ?_⟩
   refine Zx [6, 7, 8] ?_
   refine Zn 9 rfl (Zw 0 h7) ?_
   intro _ w16 h8
   replace h8 := nf h8
   refine ⟨⟨[_], h8⟩, ?_⟩
   refine Z2 [0] ?_
   exact Zz ⟨rfl, (sOR h8 [0] [])⟩
  ·refine Z4 5 rfl (OpT.ofq (Za 0 h7.wht)) ?_
   rintro _ _ ⟨rfl, rfl⟩
   replace h7 := nf h7
   refine ⟨⟨[_], h7⟩, ?_⟩
   refine Zx [6] ?_
   refine Zn 2 rfl (OpT.ofq (Za 0 h7.wht)) ?_
   rintro _ _ ⟨rfl, rfl⟩
   replace h7 := nf h7
   refine ⟨⟨[_], h7⟩, ?_⟩
   refine Zx [7, 8] ?_
   refine Zn 9 rfl (Zw 0 h7) ?_
   intro _ w19 h9
   replace h9 := nf h9
   refine ⟨⟨[_], h9⟩, ?_⟩
   refine Z2 [0] ?_
   exact Zz ⟨rfl, (sOR h9 [0] [])⟩
 rintro env w20 ⟨rfl, h10⟩
 refine J.seq (J.midS (fun env w => env = [(0, .pointer (some ⟨b1, 0, none⟩))] ∧ St w0 F0 [J4 b1 (IntKind.u64.wrap (((BitVec.ofInt IntKind.u64.bits (IntKind.u64.wrap (((BitVec.ofInt IntKind.u64.bits (IntKind.u64.wrap (((BitVec.ofInt IntKind.u64.bits a0 ^^^ (BitVec.ofInt IntKind.u64.bits (IntKind.u64.wrap (a0 * 2 ^ 13)))).toNat : Int))) ^^^ (BitVec.ofInt IntKind.u64.bits (Int.fdiv (IntKind.u64.wrap (((BitVec.ofInt IntKind.u64.bits a0 ^^^ (BitVec.ofInt IntKind.u64.bits (IntKind.u64.wrap (a0 * 2 ^ 13)))).toNat : Int))) (2 ^ 7)))).toNat : Int))) ^^^ (BitVec.ofInt IntKind.u64.bits (IntKind.u64.wrap ((IntKind.u64.wrap (((BitVec.ofInt IntKind.u64.bits (IntKind.u64.wrap (((BitVec.ofInt IntKind.u64.bits a0 ^^^ (BitVec.ofInt IntKind.u64.bits (IntKind.u64.wrap (a0 * 2 ^ 13)))).toNat : Int))) ^^^ (BitVec.ofInt IntKind.u64.bits (Int.fdiv (IntKind.u64.wrap (((BitVec.ofInt IntKind.u64.bits a0 ^^^ (BitVec.ofInt IntKind.u64.bits (IntKind.u64.wrap (a0 * 2 ^ 13)))).toNat : Int))) (2 ^ 7)))).toNat : Int))) * 2 ^ 17)))).toNat : Int)))] [] w) ?_ ?_)
 ·refine Zs (Zd h10 []) ?_
  have h12 := h10.drew
  refine Zx [0, 1, 3, 4] ?_
  refine HJ.pick [2, 5] (i := 2) rfl rfl rfl rfl ?_
  refine (Yb ?_ (Yb ?_ Xa))
  ·refine Z4 2 rfl (OpT.ofq (Za 0 h12.wht)) ?_
   rintro _ _ ⟨rfl, rfl⟩
   replace h12 := nf h12
   refine ⟨⟨[_], h12⟩, ?_⟩
   refine Zn 5 rfl (OpT.ofq (Za 0 h12.wht)) ?_
   rintro _ _ ⟨rfl, rfl⟩
   replace h12 := nf h12
   refine ⟨⟨[_], h12⟩, ?_⟩
   refine Zx [6, 7, 8] ?_
   refine Zn 9 rfl (Zw 0 h12) ?_
   intro _ w26 h13
   replace h13 := nf h13
   refine ⟨⟨[_], h13⟩, ?_⟩
   refine Z2 [0] ?_
   exact Zz ⟨rfl, (sOR h13 [0] [])⟩
  ·refine Z4 5 rfl (OpT.ofq (Za 0 h12.wht)) ?_
   rintro _ _ ⟨rfl, rfl⟩
   replace h12 := nf h12
   refine ⟨⟨[_], h12⟩, ?_⟩
   refine Zx [6] ?_
   refine Zn 2 rfl (OpT.ofq (Za 0 h12.wht)) ?_
   rintro _ _ ⟨rfl, rfl⟩
   replace h12 := nf h12
   refine ⟨⟨[_], h12⟩, ?_⟩
   refine Zx [7, 8] ?_
   refine Zn 9 rfl (Zw 0 h12) ?_
   intro _ w29 h14
   replace h14 := nf h14
   refine ⟨⟨[_], h14⟩, ?_⟩
   refine Z2 [0] ?_
   exact Zz ⟨rfl, (sOR h14 [0] [])⟩
 rintro env w30 ⟨rfl, h15⟩
 refine J.seq (J.region ?_)
 refine Zl 2 ?_
 refine Zg (Za 0 h15.wht) ?_
 refine Zm [2] rfl ?_
 refine J.ret ?_
 cases H
 exact ⟨_, _, _, Zc, ⟨rfl, rfl⟩, Zd h15 [0]⟩

def Q39.l0 : Nat → (Int) → (Int) → (Int) → (List (Int)) → (Int) → (Int) → Option (List (Int))
 | 0, _, _, _, _, _, _ => none
 | k + 1, a1, a2, r1, x1, x2, x3 => if (decide (x3 ≤ (w64 ((w64 (a1 + (w64 ((w64 (Int.tdiv (w64 (a2 - a1)) 4)) * 2)))) + 1)))) = true then ((Q53.f x2).bind fun r2 => (if (decide ((w64 (a2 - a1)) ≤ (w64 ((IntKind.u64.wrap (((BitVec.ofInt IntKind.u64.bits r2.1 &&& (BitVec.ofInt IntKind.u64.bits (IntKind.u64.wrap (r1 - 1)))).toNat : Int))))))) = true then (if 0 ≤ (w64 (a1 + (w64 ((w64 ((IntKind.u64.wrap (((BitVec.ofInt IntKind.u64.bits r2.1 &&& (BitVec.ofInt IntKind.u64.bits (IntKind.u64.wrap (r1 - 1)))).toNat : Int))))) - (w64 (a2 - a1)))))) ∧ (w64 (a1 + (w64 ((w64 ((IntKind.u64.wrap (((BitVec.ofInt IntKind.u64.bits r2.1 &&& (BitVec.ofInt IntKind.u64.bits (IntKind.u64.wrap (r1 - 1)))).toNat : Int))))) - (w64 (a2 - a1)))))) < (x1.length : Int) then (if 0 ≤ x3 ∧ x3 < (x1.length : Int) then (Q39.l0 k a1 a2 r1 ((x1.set x3.toNat (gt x1 (w64 (a1 + (w64 ((w64 ((IntKind.u64.wrap (((BitVec.ofInt IntKind.u64.bits r2.1 &&& (BitVec.ofInt IntKind.u64.bits (IntKind.u64.wrap (r1 - 1)))).toNat : Int))))) - (w64 (a2 - a1)))))))).set (w64 (a1 + (w64 ((w64 ((IntKind.u64.wrap (((BitVec.ofInt IntKind.u64.bits r2.1 &&& (BitVec.ofInt IntKind.u64.bits (IntKind.u64.wrap (r1 - 1)))).toNat : Int))))) - (w64 (a2 - a1)))))).toNat (gt x1 x3)) r2.2 (w64 (x3 + 1))) else none) else none) else (if 0 ≤ (w64 (a1 + (w64 ((IntKind.u64.wrap (((BitVec.ofInt IntKind.u64.bits r2.1 &&& (BitVec.ofInt IntKind.u64.bits (IntKind.u64.wrap (r1 - 1)))).toNat : Int))))))) ∧ (w64 (a1 + (w64 ((IntKind.u64.wrap (((BitVec.ofInt IntKind.u64.bits r2.1 &&& (BitVec.ofInt IntKind.u64.bits (IntKind.u64.wrap (r1 - 1)))).toNat : Int))))))) < (x1.length : Int) then (if 0 ≤ x3 ∧ x3 < (x1.length : Int) then (Q39.l0 k a1 a2 r1 ((x1.set x3.toNat (gt x1 (w64 (a1 + (w64 ((IntKind.u64.wrap (((BitVec.ofInt IntKind.u64.bits r2.1 &&& (BitVec.ofInt IntKind.u64.bits (IntKind.u64.wrap (r1 - 1)))).toNat : Int))))))))).set (w64 (a1 + (w64 ((IntKind.u64.wrap (((BitVec.ofInt IntKind.u64.bits r2.1 &&& (BitVec.ofInt IntKind.u64.bits (IntKind.u64.wrap (r1 - 1)))).toNat : Int))))))).toNat (gt x1 x3)) r2.2 (w64 (x3 + 1))) else none) else none))) else (some x1)
def Q39.f (k : Nat) (a0 : List (Int)) (a1 : Int) (a2 : Int) : Option (List (Int)) := if (decide (8 ≤ (w64 (a2 - a1)))) = true then ((Q45.f (w64 (a2 - a1))).bind fun r1 => (Q39.l0 k a1 a2 r1 a0 (IntKind.u64.wrap ((w64 (a2 - a1)))) (w64 ((w64 (a1 + (w64 ((w64 (Int.tdiv (w64 (a2 - a1)) 4)) * 2)))) - 1)))) else (some a0)
theorem Q39.spec {k : Nat} {a0 : List (Int)} {a1 : Int} {a2 : Int} {A1 : Option Addr} {c_1 : Nat} {r : List (Int)} (H : Q39.f k a0 a1 a2 = some r) :
  Spec Try.prog 170 [.slice A1 a0.length c_1, .int .i64 a1, .int .i64 a2] [O23 a0 A1 c_1] [] (fun v l => v = .tuple #[] ∧ l = [O23 r A1 c_1] ∧ r.length = a0.length) := by
 refine Zr Try.func170 fun w0 F0 h0 => ?_
 unfold Q39.f at H
 refine J.seq (Zb [0, 1, 6] ?_)
 refine J.seq (Zb [0, 1, 6, 15] ?_)
 refine jIf H (fun c1 H => ?_) fun c1 H => ?_
 ·refine J.seq (J.region ?_)
  refine Zl 2 ?_
  refine Ze (Ym h0) ?_
  rintro _ w1 ⟨b1, rfl, h1⟩
  replace h1 := nf h1
  refine Ze (Zw 0 h1) ?_
  intro _ w2 h2
  replace h2 := nf h2
  refine Zm [0, 1, 6, 7] rfl ?_
  refine J.seq (J.region ?_)
  refine Zl 1 ?_
  obtain ⟨r1, q1, H⟩ := Zp H
  refine Ze (Zk [] (Q45.spec q1) h2 rfl Zu) ?_
  rintro _ w3 ⟨_, ⟨rfl, rfl⟩, h3⟩
  replace h3 := nf h3
  refine Zm [0, 1, 6, 7, 8] rfl ?_
  refine J.seq (Zb [0, 1, 6, 7, 8, 9] ?_)
  refine J.block ?_
  have h24 := (sOR h3 [0, 0] [])
  refine J.loop (fun kk env w => ∃ (x1 : List (Int)) (x2 : Int) (x3 : Int), env = [(0, .slice A1 x1.length c_1), (1, .int .i64 a1), (6, .int .i64 (w64 (a2 - a1))), (7, .pointer (some ⟨b1, 0, none⟩)), (8, .int .u64 r1), (9, .int .i64 x3)] ∧ St w0 F0 [J4 b1 x2, O23 x1 A1 c_1] [] w ∧ Q39.l0 kk a1 a2 r1 x1 x2 x3 = some r ∧ x1.length = a0.length) (k := k) ⟨a0, (IntKind.u64.wrap ((w64 (a2 - a1)))), (w64 ((w64 (a1 + (w64 ((w64 (Int.tdiv (w64 (a2 - a1)) 4)) * 2)))) - 1)), rfl, h24, H, (rfl : a0.length = a0.length)⟩ ?_
  rintro k1 env w4 ⟨x1, x2, x3, rfl, h4, H, e1⟩
  rcases k1 with _ | k1
  ·exact z0 H
  rw [Q39.l0] at H
  refine J.seq (J.seq (Zb [0, 1, 6, 7, 8, 9, 33] ?_))
  refine jIf H (fun c2 H => ?_) fun c2 H => ?_
  ·refine J.skip (J.seq (J.block (J.seq (J.region ?_))))
   obtain ⟨r2, q2, H⟩ := Zp H
   refine Ze (Zk [0] (Q53.spec q2) h4 rfl Zu) ?_
   rintro _ w5 ⟨_, ⟨rfl, rfl⟩, h5⟩
   replace h5 := nf h5
   refine Zm [0, 1, 6, 7, 8, 9, 10] rfl ?_
   refine J.seq (J.seq (Zb [0, 1, 6, 7, 8, 9, 10, 43] ?_))
   refine jIf H (fun c3 H => ?_) fun c3 H => ?_
   ·refine Zb [0, 1, 6, 7, 8, 9, 10] ?_
    obtain ⟨⟨p1, p2⟩, H⟩ := Zq H
    obtain ⟨⟨p3, p4⟩, H⟩ := Zq H
    refine J.mid (fun env w => env = [(0, .slice A1 ((x1.set x3.toNat (gt x1 (w64 (a1 + (w64 ((w64 ((IntKind.u64.wrap (((BitVec.ofInt IntKind.u64.bits r2.1 &&& (BitVec.ofInt IntKind.u64.bits (IntKind.u64.wrap (r1 - 1)))).toNat : Int))))) - (w64 (a2 - a1)))))))).set (w64 (a1 + (w64 ((w64 ((IntKind.u64.wrap (((BitVec.ofInt IntKind.u64.bits r2.1 &&& (BitVec.ofInt IntKind.u64.bits (IntKind.u64.wrap (r1 - 1)))).toNat : Int))))) - (w64 (a2 - a1)))))).toNat (gt x1 x3)).length c_1), (1, .int .i64 a1), (6, .int .i64 (w64 (a2 - a1))), (7, .pointer (some ⟨b1, 0, none⟩)), (8, .int .u64 r1), (9, .int .i64 x3)] ∧ St w0 F0 [O23 ((x1.set x3.toNat (gt x1 (w64 (a1 + (w64 ((w64 ((IntKind.u64.wrap (((BitVec.ofInt IntKind.u64.bits r2.1 &&& (BitVec.ofInt IntKind.u64.bits (IntKind.u64.wrap (r1 - 1)))).toNat : Int))))) - (w64 (a2 - a1)))))))).set (w64 (a1 + (w64 ((w64 ((IntKind.u64.wrap (((BitVec.ofInt IntKind.u64.bits r2.1 &&& (BitVec.ofInt IntKind.u64.bits (IntKind.u64.wrap (r1 - 1)))).toNat : Int))))) - (w64 (a2 - a1)))))).toNat (gt x1 x3)) A1 c_1, J4 b1 r2.2] [] w) ?_ ?_
    ·refine Zs (Zd h5 [0]) ?_
     have h8 := h5.drew
     refine Zx [0, 1, 2, 3, 4, 5, 6, 7, 8, 9, 12, 13] ?_
     have e5 := Z3 h8.wh (gO 1) p1 p2
     refine Zh 10 rfl (Zi e5 p1 p2) ?_
     refine Zh 14 rfl (Zi e5 p3 p4) ?_
     refine HJ.pick [11, 15] (i := 11) rfl rfl rfl rfl ?_
     refine (Yb ?_ (Yb ?_ Xa))
     ·refine Z4 11 rfl (OpT.ofq (Zj 0 h8.wht (gO 1) p1 p2)) ?_
      rintro _ _ ⟨rfl, rfl⟩
      replace h8 := nf h8
      refine ⟨⟨[_], (Zd h8 [1, 0])⟩, ?_⟩
      refine Zn 15 rfl (OpT.ofq (Zj 0 h8.wht (gO 1) p3 p4)) ?_
      rintro _ _ ⟨rfl, rfl⟩
      replace h8 := nf h8
      refine ⟨⟨[_], (Zd h8 [1, 0])⟩, ?_⟩
      refine Zh 16 rfl (Zi e5 p3 p4) ?_
      refine Zn 17 rfl (Zo 0 (.int .u32) x3 (gt x1 (w64 (a1 + (w64 ((w64 ((IntKind.u64.wrap (((BitVec.ofInt IntKind.u64.bits r2.1 &&& (BitVec.ofInt IntKind.u64.bits (IntKind.u64.wrap (r1 - 1)))).toNat : Int))))) - (w64 (a2 - a1))))))) 1 h8 rfl p3 p4) ?_
      intro _ w8 h9
      replace h9 := nf h9
      refine ⟨⟨[_], h9⟩, ?_⟩
      have e6 : (x1.set x3.toNat (gt x1 (w64 (a1 + (w64 ((w64 ((IntKind.u64.wrap (((BitVec.ofInt IntKind.u64.bits r2.1 &&& (BitVec.ofInt IntKind.u64.bits (IntKind.u64.wrap (r1 - 1)))).toNat : Int))))) - (w64 (a2 - a1)))))))).length = a0.length := List.length_set.trans e1
      refine Zh 18 rfl (Zi e5 p1 p2) ?_
      refine Zn 19 rfl (Zo 0 (.int .u32) (w64 (a1 + (w64 ((w64 ((IntKind.u64.wrap (((BitVec.ofInt IntKind.u64.bits r2.1 &&& (BitVec.ofInt IntKind.u64.bits (IntKind.u64.wrap (r1 - 1)))).toNat : Int))))) - (w64 (a2 - a1)))))) (gt x1 x3) 0 h9 rfl p1 (by simpa only [List.length_set] using p2)) ?_
      intro _ w9 h10
      replace h10 := nf h10
      refine ⟨⟨[_], h10⟩, ?_⟩
      have e7 : ((x1.set x3.toNat (gt x1 (w64 (a1 + (w64 ((w64 ((IntKind.u64.wrap (((BitVec.ofInt IntKind.u64.bits r2.1 &&& (BitVec.ofInt IntKind.u64.bits (IntKind.u64.wrap (r1 - 1)))).toNat : Int))))) - (w64 (a2 - a1)))))))).set (w64 (a1 + (w64 ((w64 ((IntKind.u64.wrap (((BitVec.ofInt IntKind.u64.bits r2.1 &&& (BitVec.ofInt IntKind.u64.bits (IntKind.u64.wrap (r1 - 1)))).toNat : Int))))) - (w64 (a2 - a1)))))).toNat (gt x1 x3)).length = a0.length := List.length_set.trans e6
      refine Z2 [0, 1, 6, 7, 8, 9] ?_
      exact Zz ⟨(by simp only [List.length_set, List.length_nil] <;> rfl), ((h10.only [0, 0] rfl).rds [] rfl)⟩
     ·refine Z4 15 rfl (OpT.ofq (Zj 0 h8.wht (gO 1) p3 p4)) ?_
      rintro _ _ ⟨rfl, rfl⟩
      replace h8 := nf h8
      refine ⟨⟨[_], (Zd h8 [1, 0])⟩, ?_⟩
      refine Zn 11 rfl (OpT.ofq (Zj 0 h8.wht (gO 1) p1 p2)) ?_
      rintro _ _ ⟨rfl, rfl⟩
      replace h8 := nf h8
      refine ⟨⟨[_], (Zd h8 [1, 0])⟩, ?_⟩
      refine Zh 16 rfl (Zi e5 p3 p4) ?_
      refine Zn 17 rfl (Zo 0 (.int .u32) x3 (gt x1 (w64 (a1 + (w64 ((w64 ((IntKind.u64.wrap (((BitVec.ofInt IntKind.u64.bits r2.1 &&& (BitVec.ofInt IntKind.u64.bits (IntKind.u64.wrap (r1 - 1)))).toNat : Int))))) - (w64 (a2 - a1))))))) 1 h8 rfl p3 p4) ?_
      intro _ w10 h11
      replace h11 := nf h11
      refine ⟨⟨[_], h11⟩, ?_⟩
      have e8 : (x1.set x3.toNat (gt x1 (w64 (a1 + (w64 ((w64 ((IntKind.u64.wrap (((BitVec.ofInt IntKind.u64.bits r2.1 &&& (BitVec.ofInt IntKind.u64.bits (IntKind.u64.wrap (r1 - 1)))).toNat : Int))))) - (w64 (a2 - a1)))))))).length = a0.length := List.length_set.trans e1
      refine Zh 18 rfl (Zi e5 p1 p2) ?_
      refine Zn 19 rfl (Zo 0 (.int .u32) (w64 (a1 + (w64 ((w64 ((IntKind.u64.wrap (((BitVec.ofInt IntKind.u64.bits r2.1 &&& (BitVec.ofInt IntKind.u64.bits (IntKind.u64.wrap (r1 - 1)))).toNat : Int))))) - (w64 (a2 - a1)))))) (gt x1 x3) 0 h11 rfl p1 (by simpa only [List.length_set] using p2)) ?_
      intro _ w11 h12
      replace h12 := nf h12
      refine ⟨⟨[_], h12⟩, ?_⟩
      have e9 : ((x1.set x3.toNat (gt x1 (w64 (a1 + (w64 ((w64 ((IntKind.u64.wrap (((BitVec.ofInt IntKind.u64.bits r2.1 &&& (BitVec.ofInt IntKind.u64.bits (IntKind.u64.wrap (r1 - 1)))).toNat : Int))))) - (w64 (a2 - a1)))))))).set (w64 (a1 + (w64 ((w64 ((IntKind.u64.wrap (((BitVec.ofInt IntKind.u64.bits r2.1 &&& (BitVec.ofInt IntKind.u64.bits (IntKind.u64.wrap (r1 - 1)))).toNat : Int))))) - (w64 (a2 - a1)))))).toNat (gt x1 x3)).length = a0.length := List.length_set.trans e8
      refine Z2 [0, 1, 6, 7, 8, 9] ?_
      exact Zz ⟨(by simp only [List.length_set, List.length_nil] <;> rfl), ((h12.only [0, 0] rfl).rds [] rfl)⟩
    rintro env w12 ⟨rfl, h13⟩
    have e10 : ((x1.set x3.toNat (gt x1 (w64 (a1 + (w64 ((w64 ((IntKind.u64.wrap (((BitVec.ofInt IntKind.u64.bits r2.1 &&& (BitVec.ofInt IntKind.u64.bits (IntKind.u64.wrap (r1 - 1)))).toNat : Int))))) - (w64 (a2 - a1)))))))).set (w64 (a1 + (w64 ((w64 ((IntKind.u64.wrap (((BitVec.ofInt IntKind.u64.bits r2.1 &&& (BitVec.ofInt IntKind.u64.bits (IntKind.u64.wrap (r1 - 1)))).toNat : Int))))) - (w64 (a2 - a1)))))).toNat (gt x1 x3)).length = a0.length := by first | (simp only [List.length_set]; done) | (simp only [List.length_set]; exact e1)
    refine Zb [0, 1, 6, 7, 8, 9] ?_
    have h14 := (sOR h13 [1, 0] [])
    exact ⟨k1, by omega, ((x1.set x3.toNat (gt x1 (w64 (a1 + (w64 ((w64 ((IntKind.u64.wrap (((BitVec.ofInt IntKind.u64.bits r2.1 &&& (BitVec.ofInt IntKind.u64.bits (IntKind.u64.wrap (r1 - 1)))).toNat : Int))))) - (w64 (a2 - a1)))))))).set (w64 (a1 + (w64 ((w64 ((IntKind.u64.wrap (((BitVec.ofInt IntKind.u64.bits r2.1 &&& (BitVec.ofInt IntKind.u64.bits (IntKind.u64.wrap (r1 - 1)))).toNat : Int))))) - (w64 (a2 - a1)))))).toNat (gt x1 x3)), r2.2, (w64 (x3 + 1)), rfl, h14, H, e10⟩
   refine J.skip ?_
   obtain ⟨⟨p5, p6⟩, H⟩ := Zq H
   obtain ⟨⟨p7, p8⟩, H⟩ := Zq H
   refine J.mid (fun env w => env = [(0, .slice A1 ((x1.set x3.toNat (gt x1 (w64 (a1 + (w64 ((IntKind.u64.wrap (((BitVec.ofInt IntKind.u64.bits r2.1 &&& (BitVec.ofInt IntKind.u64.bits (IntKind.u64.wrap (r1 - 1)))).toNat : Int))))))))).set (w64 (a1 + (w64 ((IntKind.u64.wrap (((BitVec.ofInt IntKind.u64.bits r2.1 &&& (BitVec.ofInt IntKind.u64.bits (IntKind.u64.wrap (r1 - 1)))).toNat : Int))))))).toNat (gt x1 x3)).length c_1), (1, .int .i64 a1), (6, .int .i64 (w64 (a2 - a1))), (7, .pointer (some ⟨b1, 0, none⟩)), (8, .int .u64 r1), (9, .int .i64 x3)] ∧ St w0 F0 [O23 ((x1.set x3.toNat (gt x1 (w64 (a1 + (w64 ((IntKind.u64.wrap (((BitVec.ofInt IntKind.u64.bits r2.1 &&& (BitVec.ofInt IntKind.u64.bits (IntKind.u64.wrap (r1 - 1)))).toNat : Int))))))))).set (w64 (a1 + (w64 ((IntKind.u64.wrap (((BitVec.ofInt IntKind.u64.bits r2.1 &&& (BitVec.ofInt IntKind.u64.bits (IntKind.u64.wrap (r1 - 1)))).toNat : Int))))))).toNat (gt x1 x3)) A1 c_1, J4 b1 r2.2] [] w) ?_ ?_
   ·refine Zs (Zd h5 [0]) ?_
    have h17 := h5.drew
    refine Zx [0, 1, 2, 3, 4, 5, 6, 7, 8, 9, 12, 13] ?_
    have e14 := Z3 h17.wh (gO 1) p5 p6
    refine Zh 10 rfl (Zi e14 p5 p6) ?_
    refine Zh 14 rfl (Zi e14 p7 p8) ?_
    refine HJ.pick [11, 15] (i := 11) rfl rfl rfl rfl ?_
    refine (Yb ?_ (Yb ?_ Xa))
    ·refine Z4 11 rfl (OpT.ofq (Zj 0 h17.wht (gO 1) p5 p6)) ?_
     rintro _ _ ⟨rfl, rfl⟩
     replace h17 := nf h17
     refine ⟨⟨[_], (Zd h17 [1, 0])⟩, ?_⟩
     refine Zn 15 rfl (OpT.ofq (Zj 0 h17.wht (gO 1) p7 p8)) ?_
     rintro _ _ ⟨rfl, rfl⟩
     replace h17 := nf h17
     refine ⟨⟨[_], (Zd h17 [1, 0])⟩, ?_⟩
     refine Zh 16 rfl (Zi e14 p7 p8) ?_
     refine Zn 17 rfl (Zo 0 (.int .u32) x3 (gt x1 (w64 (a1 + (w64 ((IntKind.u64.wrap (((BitVec.ofInt IntKind.u64.bits r2.1 &&& (BitVec.ofInt IntKind.u64.bits (IntKind.u64.wrap (r1 - 1)))).toNat : Int)))))))) 1 h17 rfl p7 p8) ?_
     intro _ w15 h18
     replace h18 := nf h18
     refine ⟨⟨[_], h18⟩, ?_⟩
     have e15 : (x1.set x3.toNat (gt x1 (w64 (a1 + (w64 ((IntKind.u64.wrap (((BitVec.ofInt IntKind.u64.bits r2.1 &&& (BitVec.ofInt IntKind.u64.bits (IntKind.u64.wrap (r1 - 1)))).toNat : Int))))))))).length = a0.length := List.length_set.trans e1
     refine Zh 18 rfl (Zi e14 p5 p6) ?_
     refine Zn 19 rfl (Zo 0 (.int .u32) (w64 (a1 + (w64 ((IntKind.u64.wrap (((BitVec.ofInt IntKind.u64.bits r2.1 &&& (BitVec.ofInt IntKind.u64.bits (IntKind.u64.wrap (r1 - 1)))).toNat : Int))))))) (gt x1 x3) 0 h18 rfl p5 (by simpa only [List.length_set] using p6)) ?_
     intro _ w16 h19
     replace h19 := nf h19
     refine ⟨⟨[_], h19⟩, ?_⟩
     have e16 : ((x1.set x3.toNat (gt x1 (w64 (a1 + (w64 ((IntKind.u64.wrap (((BitVec.ofInt IntKind.u64.bits r2.1 &&& (BitVec.ofInt IntKind.u64.bits (IntKind.u64.wrap (r1 - 1)))).toNat : Int))))))))).set (w64 (a1 + (w64 ((IntKind.u64.wrap (((BitVec.ofInt IntKind.u64.bits r2.1 &&& (BitVec.ofInt IntKind.u64.bits (IntKind.u64.wrap (r1 - 1)))).toNat : Int))))))).toNat (gt x1 x3)).length = a0.length := List.length_set.trans e15
     refine Z2 [0, 1, 6, 7, 8, 9] ?_
     exact Zz ⟨(by simp only [List.length_set, List.length_nil] <;> rfl), ((h19.only [0, 0] rfl).rds [] rfl)⟩
    ·refine Z4 15 rfl (OpT.ofq (Zj 0 h17.wht (gO 1) p7 p8)) ?_
     rintro _ _ ⟨rfl, rfl⟩
     replace h17 := nf h17
     refine ⟨⟨[_], (Zd h17 [1, 0])⟩, ?_⟩
     refine Zn 11 rfl (OpT.ofq (Zj 0 h17.wht (gO 1) p5 p6)) ?_
     rintro _ _ ⟨rfl, rfl⟩
     replace h17 := nf h17
     refine ⟨⟨[_], (Zd h17 [1, 0])⟩, ?_⟩
     refine Zh 16 rfl (Zi e14 p7 p8) ?_
     refine Zn 17 rfl (Zo 0 (.int .u32) x3 (gt x1 (w64 (a1 + (w64 ((IntKind.u64.wrap (((BitVec.ofInt IntKind.u64.bits r2.1 &&& (BitVec.ofInt IntKind.u64.bits (IntKind.u64.wrap (r1 - 1)))).toNat : Int)))))))) 1 h17 rfl p7 p8) ?_
     intro _ w17 h20
     replace h20 := nf h20
     refine ⟨⟨[_], h20⟩, ?_⟩
     have e17 : (x1.set x3.toNat (gt x1 (w64 (a1 + (w64 ((IntKind.u64.wrap (((BitVec.ofInt IntKind.u64.bits r2.1 &&& (BitVec.ofInt IntKind.u64.bits (IntKind.u64.wrap (r1 - 1)))).toNat : Int))))))))).length = a0.length := List.length_set.trans e1
     refine Zh 18 rfl (Zi e14 p5 p6) ?_
     refine Zn 19 rfl (Zo 0 (.int .u32) (w64 (a1 + (w64 ((IntKind.u64.wrap (((BitVec.ofInt IntKind.u64.bits r2.1 &&& (BitVec.ofInt IntKind.u64.bits (IntKind.u64.wrap (r1 - 1)))).toNat : Int))))))) (gt x1 x3) 0 h20 rfl p5 (by simpa only [List.length_set] using p6)) ?_
     intro _ w18 h21
     replace h21 := nf h21
     refine ⟨⟨[_], h21⟩, ?_⟩
     have e18 : ((x1.set x3.toNat (gt x1 (w64 (a1 + (w64 ((IntKind.u64.wrap (((BitVec.ofInt IntKind.u64.bits r2.1 &&& (BitVec.ofInt IntKind.u64.bits (IntKind.u64.wrap (r1 - 1)))).toNat : Int))))))))).set (w64 (a1 + (w64 ((IntKind.u64.wrap (((BitVec.ofInt IntKind.u64.bits r2.1 &&& (BitVec.ofInt IntKind.u64.bits (IntKind.u64.wrap (r1 - 1)))).toNat : Int))))))).toNat (gt x1 x3)).length = a0.length := List.length_set.trans e17
     refine Z2 [0, 1, 6, 7, 8, 9] ?_
     exact Zz ⟨(by simp only [List.length_set, List.length_nil] <;> rfl), ((h21.only [0, 0] rfl).rds [] rfl)⟩
   rintro env w19 ⟨rfl, h22⟩
   have e19 : ((x1.set x3.toNat (gt x1 (w64 (a1 + (w64 ((IntKind.u64.wrap (((BitVec.ofInt IntKind.u64.bits r2.1 &&& (BitVec.ofInt IntKind.u64.bits (IntKind.u64.wrap (r1 - 1)))).toNat : Int))))))))).set (w64 (a1 + (w64 ((IntKind.u64.wrap (((BitVec.ofInt IntKind.u64.bits r2.1 &&& (BitVec.ofInt IntKind.u64.bits (IntKind.u64.wrap (r1 - 1)))).toNat : Int))))))).toNat (gt x1 x3)).length = a0.length := by first | (simp only [List.length_set]; done) | (simp only [List.length_set]; exact e1)
   refine Zb [0, 1, 6, 7, 8, 9] ?_
   have h23 := (sOR h22 [1, 0] [])
   exact ⟨k1, by omega, ((x1.set x3.toNat (gt x1 (w64 (a1 + (w64 ((IntKind.u64.wrap (((BitVec.ofInt IntKind.u64.bits r2.1 &&& (BitVec.ofInt IntKind.u64.bits (IntKind.u64.wrap (r1 - 1)))).toNat : Int))))))))).set (w64 (a1 + (w64 ((IntKind.u64.wrap (((BitVec.ofInt IntKind.u64.bits r2.1 &&& (BitVec.ofInt IntKind.u64.bits (IntKind.u64.wrap (r1 - 1)))).toNat : Int))))))).toNat (gt x1 x3)), r2.2, (w64 (x3 + 1)), rfl, h23, H, e19⟩
  refine J.exit ?_
  cases H
  exact ⟨_, _, _, Zc, ⟨rfl, rfl, e1⟩, Zd h4 [1]⟩
 refine J.skip ?_
 cases H
 exact ⟨_, _, _, Zc, ⟨rfl, rfl, (rfl : a0.length = a0.length)⟩, Zd h0 [0]⟩

end Go.SK.T
